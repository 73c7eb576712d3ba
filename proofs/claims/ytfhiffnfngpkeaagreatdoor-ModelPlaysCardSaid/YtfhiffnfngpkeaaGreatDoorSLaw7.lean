/- PRINTED by wip/tools/gen.py: the functions' conditions in readable form, each with the kernel's word that it is the computed one. -/
import Derived.Test.YtfhiffnfngpkeaaGreatDoorVcSeat
set_option linter.unusedVariables false
namespace Go.SW
open Go Go.Proofs
set_option maxRecDepth 100000
/- sealwax/sealwaxlaw19.ModelPlays -/
def S7 (A0 : OA) (n0 : Nat) (c0 : Nat) (w : World) (R : Value → World → Prop) : Prop :=
 CALL PP 10 [] w fun r10 w1 =>
 ∃ (b10 : Bool), r10 = (.bool b10) ∧
 SPLIT (!b10) (
 R (.bool false) w1) (
 CALL PP 11 [] w1 fun r12 w2 =>
 ∃ (p12 : OA), r12 = (.pointer p12) ∧
 CALL PP 25 [] w2 fun r13 w3 =>
 ∃ (A13_0 : OA) (n13_0 : Nat) (c13_0 : Nat) (x13_1 : Int) (A13_2 : OA) (n13_2 : Nat) (c13_2 : Nat) (A13_3 : OA) (n13_3 : Nat) (c13_3 : Nat) (x13_4 : Int), r13 = (.agg #[(.slice A13_0 n13_0 c13_0), (.int .i64 x13_1), (.slice A13_2 n13_2 c13_2), (.slice A13_3 n13_3 c13_3), (.int .i64 x13_4)]) ∧
 NEW w3 (.cells #[(.slice none 0 0), (.int .i64 0), (.slice none 0 0), (.slice none 0 0), (.int .i64 0)] 69) fun k4 w4 =>
 ST w4 ⟨k4, 0, none⟩ 0 [(.slice A13_0 n13_0 c13_0), (.int .i64 x13_1), (.slice A13_2 n13_2 c13_2), (.slice A13_3 n13_3 c13_3), (.int .i64 x13_4)] fun w5 =>
 SPLIT (Option.isNone p12) (
 R (.bool false) w5) (
 ∃ (I : Int → World → Prop) (μ : Int → World → Nat), I (0 : Int) w5 ∧
 ∀ (_j : Nat → Value) (x5 : Int) (w6 : World), I x5 w6 →
 ∃ I_1 : World → Prop, (
 SPLIT (decide (x5 < (n0 : Int))) (
 SPLIT (decide (x5 < (25 : Int))) (
 I_1 w6) (
 R (.bool true) w6)) (
 R (.bool true) w6)) ∧
 ∀ (_j : Nat → Value) (w7 : World), I_1 w7 →
 ∃ I_2 : World → Prop, (
 (0 ≤ x5 ∧ x5 < (n0 : Int)) ∧
 SOMEA A0 fun a29 =>
 ∃ (x30_0 : Int) (s30_1 : ByteArray) (s30_2 : ByteArray) (s30_3 : ByteArray) (x30_4 : Int) (x30_5 : Int) (x30_6 : Int) (A30_7 : OA) (n30_7 : Nat) (c30_7 : Nat), RD w7 (Addr.add a29 (Int.toNat x5 * 8)) 0 [(.int .i64 x30_0), (.string s30_1), (.string s30_2), (.string s30_3), (.int .i64 x30_4), (.int .i64 x30_5), (.int .i64 x30_6), (.slice A30_7 n30_7 c30_7)] ∧
 CALL PP 12 [(.agg #[(.int .i64 x30_0), (.string s30_1), (.string s30_2), (.string s30_3), (.int .i64 x30_4), (.int .i64 x30_5), (.int .i64 x30_6), (.slice A30_7 n30_7 c30_7)])] w7 fun r31 w8 =>
 ∃ (x31a_0 : Int) (s31a_1 : ByteArray) (s31a_2 : ByteArray) (s31a_3 : ByteArray) (x31a_4 : Int) (x31a_5 : Int) (x31a_6 : Int) (A31a_7 : OA) (n31a_7 : Nat) (c31a_7 : Nat) (x31b_0 : Int) (s31b_1 : ByteArray) (s31b_2 : ByteArray) (s31b_3 : ByteArray) (x31b_4 : Int) (x31b_5 : Int) (x31b_6 : Int) (A31b_7 : OA) (n31b_7 : Nat) (c31b_7 : Nat), r31 = (.tuple #[(.agg #[(.int .i64 x31a_0), (.string s31a_1), (.string s31a_2), (.string s31a_3), (.int .i64 x31a_4), (.int .i64 x31a_5), (.int .i64 x31a_6), (.slice A31a_7 n31a_7 c31a_7)]), (.agg #[(.int .i64 x31b_0), (.string s31b_1), (.string s31b_2), (.string s31b_3), (.int .i64 x31b_4), (.int .i64 x31b_5), (.int .i64 x31b_6), (.slice A31b_7 n31b_7 c31b_7)])]) ∧
 NEW w8 (.cells #[(.int .i64 0), (.string ⟨#[]⟩), (.string ⟨#[]⟩), (.string ⟨#[]⟩), (.int .i64 0), (.int .i64 0), (.int .i64 0), (.slice none 0 0)] 28) fun k6 w9 =>
 NEW w9 (.cells #[(.int .i64 0), (.string ⟨#[]⟩), (.string ⟨#[]⟩), (.string ⟨#[]⟩), (.int .i64 0), (.int .i64 0), (.int .i64 0), (.slice none 0 0)] 29) fun k7 w10 =>
 ST w10 ⟨k6, 0, none⟩ 0 [(.int .i64 x31a_0), (.string s31a_1), (.string s31a_2), (.string s31a_3), (.int .i64 x31a_4), (.int .i64 x31a_5), (.int .i64 x31a_6), (.slice A31a_7 n31a_7 c31a_7)] fun w11 =>
 ST w11 ⟨k7, 0, none⟩ 0 [(.int .i64 x31b_0), (.string s31b_1), (.string s31b_2), (.string s31b_3), (.int .i64 x31b_4), (.int .i64 x31b_5), (.int .i64 x31b_6), (.slice A31b_7 n31b_7 c31b_7)] fun w12 =>
 ∃ (A35_0 : OA) (n35_0 : Nat) (c35_0 : Nat) (x35_1 : Int) (A35_2 : OA) (n35_2 : Nat) (c35_2 : Nat) (A35_3 : OA) (n35_3 : Nat) (c35_3 : Nat) (x35_4 : Int), RD w12 ⟨k4, 0, none⟩ 0 [(.slice A35_0 n35_0 c35_0), (.int .i64 x35_1), (.slice A35_2 n35_2 c35_2), (.slice A35_3 n35_3 c35_3), (.int .i64 x35_4)] ∧
 ∃ (x36_0 : Int) (s36_1 : ByteArray) (s36_2 : ByteArray) (s36_3 : ByteArray) (x36_4 : Int) (x36_5 : Int) (x36_6 : Int) (A36_7 : OA) (n36_7 : Nat) (c36_7 : Nat), RD w12 ⟨k7, 0, none⟩ 0 [(.int .i64 x36_0), (.string s36_1), (.string s36_2), (.string s36_3), (.int .i64 x36_4), (.int .i64 x36_5), (.int .i64 x36_6), (.slice A36_7 n36_7 c36_7)] ∧
 CALL PP 26 [(.agg #[(.slice A35_0 n35_0 c35_0), (.int .i64 x35_1), (.slice A35_2 n35_2 c35_2), (.slice A35_3 n35_3 c35_3), (.int .i64 x35_4)]), (.agg #[(.int .i64 x36_0), (.string s36_1), (.string s36_2), (.string s36_3), (.int .i64 x36_4), (.int .i64 x36_5), (.int .i64 x36_6), (.slice A36_7 n36_7 c36_7)])] w12 fun r37 w13 =>
 ∃ (A37a_0 : OA) (n37a_0 : Nat) (c37a_0 : Nat) (x37a_1 : Int) (A37a_2 : OA) (n37a_2 : Nat) (c37a_2 : Nat) (A37a_3 : OA) (n37a_3 : Nat) (c37a_3 : Nat) (x37a_4 : Int) (x37b_0 : Int) (x37b_1 : Int) (s37b_2 : ByteArray) (A37b_3 : OA) (n37b_3 : Nat) (c37b_3 : Nat) (A37b_4 : OA) (n37b_4 : Nat) (c37b_4 : Nat), r37 = (.tuple #[(.agg #[(.slice A37a_0 n37a_0 c37a_0), (.int .i64 x37a_1), (.slice A37a_2 n37a_2 c37a_2), (.slice A37a_3 n37a_3 c37a_3), (.int .i64 x37a_4)]), (.agg #[(.int .i64 x37b_0), (.int .i64 x37b_1), (.string s37b_2), (.slice A37b_3 n37b_3 c37b_3), (.slice A37b_4 n37b_4 c37b_4)])]) ∧
 NEW w13 (.cells #[(.slice none 0 0), (.int .i64 0), (.slice none 0 0), (.slice none 0 0), (.int .i64 0)] 69) fun k8 w14 =>
 NEW w14 (.cells #[(.int .i64 0), (.int .i64 0), (.string ⟨#[]⟩), (.slice none 0 0), (.slice none 0 0)] 73) fun k9 w15 =>
 ST w15 ⟨k8, 0, none⟩ 0 [(.slice A37a_0 n37a_0 c37a_0), (.int .i64 x37a_1), (.slice A37a_2 n37a_2 c37a_2), (.slice A37a_3 n37a_3 c37a_3), (.int .i64 x37a_4)] fun w16 =>
 ST w16 ⟨k9, 0, none⟩ 0 [(.int .i64 x37b_0), (.int .i64 x37b_1), (.string s37b_2), (.slice A37b_3 n37b_3 c37b_3), (.slice A37b_4 n37b_4 c37b_4)] fun w17 =>
 ∃ (A40_0 : OA) (n40_0 : Nat) (c40_0 : Nat) (x40_1 : Int) (A40_2 : OA) (n40_2 : Nat) (c40_2 : Nat) (A40_3 : OA) (n40_3 : Nat) (c40_3 : Nat) (x40_4 : Int), RD w17 ⟨k8, 0, none⟩ 0 [(.slice A40_0 n40_0 c40_0), (.int .i64 x40_1), (.slice A40_2 n40_2 c40_2), (.slice A40_3 n40_3 c40_3), (.int .i64 x40_4)] ∧
 ST w17 ⟨k4, 0, none⟩ 0 [(.slice A40_0 n40_0 c40_0), (.int .i64 x40_1), (.slice A40_2 n40_2 c40_2), (.slice A40_3 n40_3 c40_3), (.int .i64 x40_4)] fun w18 =>
 DRAW w18 fun w19 =>
 ∃ (x42_0 : Int) (s42_1 : ByteArray) (s42_2 : ByteArray) (s42_3 : ByteArray) (x42_4 : Int) (x42_5 : Int) (x42_6 : Int) (A42_7 : OA) (n42_7 : Nat) (c42_7 : Nat), RD w19 ⟨k6, 0, none⟩ 0 [(.int .i64 x42_0), (.string s42_1), (.string s42_2), (.string s42_3), (.int .i64 x42_4), (.int .i64 x42_5), (.int .i64 x42_6), (.slice A42_7 n42_7 c42_7)] ∧
 ∃ (x44_0 : Int) (x44_1 : Int) (s44_2 : ByteArray) (A44_3 : OA) (n44_3 : Nat) (c44_3 : Nat) (A44_4 : OA) (n44_4 : Nat) (c44_4 : Nat), RD w19 ⟨k9, 0, none⟩ 0 [(.int .i64 x44_0), (.int .i64 x44_1), (.string s44_2), (.slice A44_3 n44_3 c44_3), (.slice A44_4 n44_4 c44_4)] ∧
 CALL PP 13 [(.pointer p12), (.agg #[(.int .i64 x42_0), (.string s42_1), (.string s42_2), (.string s42_3), (.int .i64 x42_4), (.int .i64 x42_5), (.int .i64 x42_6), (.slice A42_7 n42_7 c42_7)])] w19 fun r43 w20 =>
 ∃ (x43_0 : Int) (x43_1 : Int) (s43_2 : ByteArray) (A43_3 : OA) (n43_3 : Nat) (c43_3 : Nat) (A43_4 : OA) (n43_4 : Nat) (c43_4 : Nat), r43 = (.agg #[(.int .i64 x43_0), (.int .i64 x43_1), (.string s43_2), (.slice A43_3 n43_3 c43_3), (.slice A43_4 n43_4 c43_4)]) ∧
 (loadVar 73 ⟨k9, 0, none⟩).run PP w20 = .ok (.agg #[(.int .i64 x44_0), (.int .i64 x44_1), (.string s44_2), (.slice A44_3 n44_3 c44_3), (.slice A44_4 n44_4 c44_4)]) w20 ∧
 CALL PP 27 [(.agg #[(.int .i64 x43_0), (.int .i64 x43_1), (.string s43_2), (.slice A43_3 n43_3 c43_3), (.slice A43_4 n43_4 c43_4)]), (.agg #[(.int .i64 x44_0), (.int .i64 x44_1), (.string s44_2), (.slice A44_3 n44_3 c44_3), (.slice A44_4 n44_4 c44_4)])] w20 fun r45 w21 =>
 ∃ (b45 : Bool), r45 = (.bool b45) ∧
 SPLIT (!b45) (
 R (.bool false) w21) (
 ∃ (A49_0 : OA) (n49_0 : Nat) (c49_0 : Nat) (x49_1 : Int) (A49_2 : OA) (n49_2 : Nat) (c49_2 : Nat) (A49_3 : OA) (n49_3 : Nat) (c49_3 : Nat) (x49_4 : Int), RD w21 ⟨k4, 0, none⟩ 0 [(.slice A49_0 n49_0 c49_0), (.int .i64 x49_1), (.slice A49_2 n49_2 c49_2), (.slice A49_3 n49_3 c49_3), (.int .i64 x49_4)] ∧
 CALL PP 28 [(.pointer p12), (.agg #[(.slice A49_0 n49_0 c49_0), (.int .i64 x49_1), (.slice A49_2 n49_2 c49_2), (.slice A49_3 n49_3 c49_3), (.int .i64 x49_4)])] w21 fun r50 w22 =>
 ∃ (b50 : Bool), r50 = (.bool b50) ∧
 SPLIT (!b50) (
 R (.bool false) w22) (
 I_2 w22))) ∧
 ∀ (_j : Nat → Value) (w8 : World), I_2 w8 →
 I (IntKind.wrap .i64 (x5 + (1 : Int))) w8 ∧ μ (IntKind.wrap .i64 (x5 + (1 : Int))) w8 < μ x5 w6))
noncomputable def A7 : Ann := (.two .leaf (.two .leaf (.two .leaf (.two .leaf (.two (.two .leaf (.one (.loop 9007199254676452 [(5, .int .i64)] (.cut 16711680 [] .leaf (.cut 9007199187633092 [] .leaf .leaf))))) .leaf)))))
noncomputable def C7 : Code := (Tryz.f7.body).getD .skip
theorem c7 {A0 : OA} {n0 : Nat} {c0 : Nat} {w : World} {R : Value → World → Prop} (h : S7 A0 n0 c0 w R) : Calls PP 7 #[(.slice A0 n0 c0)] w (Ret R) :=
 vcF_sound (c := C7) (ann := A7) follows_ Tryz.func7 (by kernel_rfl) (cast (by kernel_rfl) h)

end Go.SW
