/- PRINTED by wip/tools/gen.py: the functions' conditions in readable form, each with the kernel's word that it is the computed one. -/
import Derived.Test.YtfhiffnfngpkeaaGreatDoorVcSeat
set_option linter.unusedVariables false
namespace Go.SW
open Go Go.Proofs
set_option maxRecDepth 100000
/- sealwax/sealwaxlaw19.ModelRefuses -/
def S8 (A0 : OA) (n0 : Nat) (c0 : Nat) (w : World) (R : Value → World → Prop) : Prop :=
 CALL PP 10 [] w fun r10 w1 =>
 ∃ (b10 : Bool), r10 = (.bool b10) ∧
 SPLIT (!b10) (
 R (.bool false) w1) (
 CALL PP 11 [] w1 fun r12 w2 =>
 ∃ (p12 : OA), r12 = (.pointer p12) ∧
 CALL PP 25 [] w2 fun r13 w3 =>
 ∃ (A13_0 : OA) (n13_0 : Nat) (c13_0 : Nat) (x13_1 : Int) (A13_2 : OA) (n13_2 : Nat) (c13_2 : Nat) (A13_3 : OA) (n13_3 : Nat) (c13_3 : Nat) (x13_4 : Int), r13 = (.agg #[(.slice A13_0 n13_0 c13_0), (.int .i64 x13_1), (.slice A13_2 n13_2 c13_2), (.slice A13_3 n13_3 c13_3), (.int .i64 x13_4)]) ∧
 NEW w3 (.cells #[(.slice none 0 0), (.int .i64 0), (.slice none 0 0), (.slice none 0 0), (.int .i64 0)] 69) fun k4 w4 =>
 ST w4 ⟨k4, 0, none⟩ 0 [(.slice A13_0 n13_0 c13_0), (.int .i64 x13_1), (.slice A13_2 n13_2 c13_2), (.slice A13_3 n13_3 c13_3), (.int .i64 x13_4)] fun w5 =>
 SPLIT (Option.isNone p12) (
 R (.bool false) w5) (
 ∃ I : World → Prop, (
 ∃ (I_1 : Int → World → Prop) (μ : Int → World → Nat), I_1 (0 : Int) w5 ∧
 ∀ (_j : Nat → Value) (x5 : Int) (w6 : World), I_1 x5 w6 →
 ∃ I_2 : World → Prop, (
 SPLIT (decide (x5 < (n0 : Int))) (
 SPLIT (decide (x5 < (25 : Int))) (
 I_2 w6) (
 I w6)) (
 I w6)) ∧
 ∀ (_j : Nat → Value) (w7 : World), I_2 w7 →
 ∃ I_3 : World → Prop, (
 (0 ≤ x5 ∧ x5 < (n0 : Int)) ∧
 SOMEA A0 fun a29 =>
 ∃ (x30_0 : Int) (s30_1 : ByteArray) (s30_2 : ByteArray) (s30_3 : ByteArray) (x30_4 : Int) (x30_5 : Int) (x30_6 : Int) (A30_7 : OA) (n30_7 : Nat) (c30_7 : Nat), RD w7 (Addr.add a29 (Int.toNat x5 * 8)) 0 [(.int .i64 x30_0), (.string s30_1), (.string s30_2), (.string s30_3), (.int .i64 x30_4), (.int .i64 x30_5), (.int .i64 x30_6), (.slice A30_7 n30_7 c30_7)] ∧
 CALL PP 12 [(.agg #[(.int .i64 x30_0), (.string s30_1), (.string s30_2), (.string s30_3), (.int .i64 x30_4), (.int .i64 x30_5), (.int .i64 x30_6), (.slice A30_7 n30_7 c30_7)])] w7 fun r31 w8 =>
 ∃ (x31a_0 : Int) (s31a_1 : ByteArray) (s31a_2 : ByteArray) (s31a_3 : ByteArray) (x31a_4 : Int) (x31a_5 : Int) (x31a_6 : Int) (A31a_7 : OA) (n31a_7 : Nat) (c31a_7 : Nat) (x31b_0 : Int) (s31b_1 : ByteArray) (s31b_2 : ByteArray) (s31b_3 : ByteArray) (x31b_4 : Int) (x31b_5 : Int) (x31b_6 : Int) (A31b_7 : OA) (n31b_7 : Nat) (c31b_7 : Nat), r31 = (.tuple #[(.agg #[(.int .i64 x31a_0), (.string s31a_1), (.string s31a_2), (.string s31a_3), (.int .i64 x31a_4), (.int .i64 x31a_5), (.int .i64 x31a_6), (.slice A31a_7 n31a_7 c31a_7)]), (.agg #[(.int .i64 x31b_0), (.string s31b_1), (.string s31b_2), (.string s31b_3), (.int .i64 x31b_4), (.int .i64 x31b_5), (.int .i64 x31b_6), (.slice A31b_7 n31b_7 c31b_7)])]) ∧
 NEW w8 (.cells #[(.int .i64 0), (.string ⟨#[]⟩), (.string ⟨#[]⟩), (.string ⟨#[]⟩), (.int .i64 0), (.int .i64 0), (.int .i64 0), (.slice none 0 0)] 28) fun k6 w9 =>
 NEW w9 (.cells #[(.int .i64 0), (.string ⟨#[]⟩), (.string ⟨#[]⟩), (.string ⟨#[]⟩), (.int .i64 0), (.int .i64 0), (.int .i64 0), (.slice none 0 0)] 29) fun k7 w10 =>
 ST w10 ⟨k6, 0, none⟩ 0 [(.int .i64 x31a_0), (.string s31a_1), (.string s31a_2), (.string s31a_3), (.int .i64 x31a_4), (.int .i64 x31a_5), (.int .i64 x31a_6), (.slice A31a_7 n31a_7 c31a_7)] fun w11 =>
 ST w11 ⟨k7, 0, none⟩ 0 [(.int .i64 x31b_0), (.string s31b_1), (.string s31b_2), (.string s31b_3), (.int .i64 x31b_4), (.int .i64 x31b_5), (.int .i64 x31b_6), (.slice A31b_7 n31b_7 c31b_7)] fun w12 =>
 ∃ (x35_0 : Int) (s35_1 : ByteArray) (s35_2 : ByteArray) (s35_3 : ByteArray) (x35_4 : Int) (x35_5 : Int) (x35_6 : Int) (A35_7 : OA) (n35_7 : Nat) (c35_7 : Nat), RD w12 ⟨k6, 0, none⟩ 0 [(.int .i64 x35_0), (.string s35_1), (.string s35_2), (.string s35_3), (.int .i64 x35_4), (.int .i64 x35_5), (.int .i64 x35_6), (.slice A35_7 n35_7 c35_7)] ∧
 CALL PP 13 [(.pointer p12), (.agg #[(.int .i64 x35_0), (.string s35_1), (.string s35_2), (.string s35_3), (.int .i64 x35_4), (.int .i64 x35_5), (.int .i64 x35_6), (.slice A35_7 n35_7 c35_7)])] w12 fun r36 w13 =>
 ∃ (x36_0 : Int) (x36_1 : Int) (s36_2 : ByteArray) (A36_3 : OA) (n36_3 : Nat) (c36_3 : Nat) (A36_4 : OA) (n36_4 : Nat) (c36_4 : Nat), r36 = (.agg #[(.int .i64 x36_0), (.int .i64 x36_1), (.string s36_2), (.slice A36_3 n36_3 c36_3), (.slice A36_4 n36_4 c36_4)]) ∧
 NEW w13 (.cells #[(.int .i64 0), (.int .i64 0), (.string ⟨#[]⟩), (.slice none 0 0), (.slice none 0 0)] 35) fun k8 w14 =>
 ST w14 ⟨k8, 0, none⟩ 0 [(.int .i64 x36_0), (.int .i64 x36_1), (.string s36_2), (.slice A36_3 n36_3 c36_3), (.slice A36_4 n36_4 c36_4)] fun w15 =>
 ∃ (x38 : Int), w15.cell? ⟨k8, 0, none⟩ = some (.int .i64 x38) ∧
 SPLIT (x38 != (0 : Int)) (
 ∃ I_4 : Bool → World → Prop, (
 ∃ (x41 : Int), w15.cell? ⟨k8, 1, none⟩ = some (.int .i64 x41) ∧
 SPLIT (x41 != (0 : Int)) (
 I_4 true w15) (
 ∃ (s45 : ByteArray), w15.cell? ⟨k8, 2, none⟩ = some (.string s45) ∧
 SPLIT (!(s45.toList == (⟨#[]⟩ : ByteArray).toList)) (
 I_4 true w15) (
 ∃ (A50 : OA) (n50 : Nat) (c50 : Nat), w15.cell? ⟨k8, 3, none⟩ = some (.slice A50 n50 c50) ∧
 ∃ (A53 : OA) (n53 : Nat) (c53 : Nat), w15.cell? ⟨k8, 4, none⟩ = some (.slice A53 n53 c53) ∧
 SPLIT (decide ((IntKind.wrap .i64 ((n50 : Int) + (n53 : Int))) > (0 : Int))) (
 I_4 true w15) (
 ∃ (A60_0 : OA) (n60_0 : Nat) (c60_0 : Nat) (x60_1 : Int) (A60_2 : OA) (n60_2 : Nat) (c60_2 : Nat) (A60_3 : OA) (n60_3 : Nat) (c60_3 : Nat) (x60_4 : Int), RD w15 ⟨k4, 0, none⟩ 0 [(.slice A60_0 n60_0 c60_0), (.int .i64 x60_1), (.slice A60_2 n60_2 c60_2), (.slice A60_3 n60_3 c60_3), (.int .i64 x60_4)] ∧
 CALL PP 28 [(.pointer p12), (.agg #[(.slice A60_0 n60_0 c60_0), (.int .i64 x60_1), (.slice A60_2 n60_2 c60_2), (.slice A60_3 n60_3 c60_3), (.int .i64 x60_4)])] w15 fun r61 w16 =>
 ∃ (b61 : Bool), r61 = (.bool b61) ∧
 I_4 (!b61) w16)))) ∧
 ∀ (_j : Nat → Value) (b63 : Bool) (w16 : World), I_4 b63 w16 →
 SPLIT b63 (
 R (.bool false) w16) (
 I_3 w16)) (
 ∃ I_4 : Bool → World → Prop, (
 ∃ (x65 : Int), w15.cell? ⟨k7, 0, none⟩ = some (.int .i64 x65) ∧
 SPLIT (x65 == (4 : Int)) (
 I_4 true w15) (
 ∃ (x69 : Int), w15.cell? ⟨k7, 0, none⟩ = some (.int .i64 x69) ∧
 SPLIT (x69 == (5 : Int)) (
 I_4 true w15) (
 ∃ (x74 : Int), w15.cell? ⟨k7, 0, none⟩ = some (.int .i64 x74) ∧
 SPLIT (x74 == (7 : Int)) (
 I_4 true w15) (
 ∃ (x79 : Int), w15.cell? ⟨k7, 0, none⟩ = some (.int .i64 x79) ∧
 I_4 (decide (x79 ≥ (12 : Int))) w15)))) ∧
 ∀ (_j : Nat → Value) (b9 : Bool) (w16 : World), I_4 b9 w16 →
 ∃ I_5 : World → Prop, (
 SPLIT b9 (
 ∃ (A85_0 : OA) (n85_0 : Nat) (c85_0 : Nat) (x85_1 : Int) (A85_2 : OA) (n85_2 : Nat) (c85_2 : Nat) (A85_3 : OA) (n85_3 : Nat) (c85_3 : Nat) (x85_4 : Int), RD w16 ⟨k4, 0, none⟩ 0 [(.slice A85_0 n85_0 c85_0), (.int .i64 x85_1), (.slice A85_2 n85_2 c85_2), (.slice A85_3 n85_3 c85_3), (.int .i64 x85_4)] ∧
 CALL PP 28 [(.pointer p12), (.agg #[(.slice A85_0 n85_0 c85_0), (.int .i64 x85_1), (.slice A85_2 n85_2 c85_2), (.slice A85_3 n85_3 c85_3), (.int .i64 x85_4)])] w16 fun r86 w17 =>
 ∃ (b86 : Bool), r86 = (.bool b86) ∧
 SPLIT (!b86) (
 R (.bool false) w17) (
 I_5 w17)) (
 I_5 w16)) ∧
 ∀ (_j : Nat → Value) (w17 : World), I_5 w17 →
 ∃ (A90_0 : OA) (n90_0 : Nat) (c90_0 : Nat) (x90_1 : Int) (A90_2 : OA) (n90_2 : Nat) (c90_2 : Nat) (A90_3 : OA) (n90_3 : Nat) (c90_3 : Nat) (x90_4 : Int), RD w17 ⟨k4, 0, none⟩ 0 [(.slice A90_0 n90_0 c90_0), (.int .i64 x90_1), (.slice A90_2 n90_2 c90_2), (.slice A90_3 n90_3 c90_3), (.int .i64 x90_4)] ∧
 ∃ (x91_0 : Int) (s91_1 : ByteArray) (s91_2 : ByteArray) (s91_3 : ByteArray) (x91_4 : Int) (x91_5 : Int) (x91_6 : Int) (A91_7 : OA) (n91_7 : Nat) (c91_7 : Nat), RD w17 ⟨k7, 0, none⟩ 0 [(.int .i64 x91_0), (.string s91_1), (.string s91_2), (.string s91_3), (.int .i64 x91_4), (.int .i64 x91_5), (.int .i64 x91_6), (.slice A91_7 n91_7 c91_7)] ∧
 CALL PP 26 [(.agg #[(.slice A90_0 n90_0 c90_0), (.int .i64 x90_1), (.slice A90_2 n90_2 c90_2), (.slice A90_3 n90_3 c90_3), (.int .i64 x90_4)]), (.agg #[(.int .i64 x91_0), (.string s91_1), (.string s91_2), (.string s91_3), (.int .i64 x91_4), (.int .i64 x91_5), (.int .i64 x91_6), (.slice A91_7 n91_7 c91_7)])] w17 fun r92 w18 =>
 ∃ (A92a_0 : OA) (n92a_0 : Nat) (c92a_0 : Nat) (x92a_1 : Int) (A92a_2 : OA) (n92a_2 : Nat) (c92a_2 : Nat) (A92a_3 : OA) (n92a_3 : Nat) (c92a_3 : Nat) (x92a_4 : Int) (x92b_0 : Int) (x92b_1 : Int) (s92b_2 : ByteArray) (A92b_3 : OA) (n92b_3 : Nat) (c92b_3 : Nat) (A92b_4 : OA) (n92b_4 : Nat) (c92b_4 : Nat), r92 = (.tuple #[(.agg #[(.slice A92a_0 n92a_0 c92a_0), (.int .i64 x92a_1), (.slice A92a_2 n92a_2 c92a_2), (.slice A92a_3 n92a_3 c92a_3), (.int .i64 x92a_4)]), (.agg #[(.int .i64 x92b_0), (.int .i64 x92b_1), (.string s92b_2), (.slice A92b_3 n92b_3 c92b_3), (.slice A92b_4 n92b_4 c92b_4)])]) ∧
 ST w18 ⟨k4, 0, none⟩ 0 [(.slice A92a_0 n92a_0 c92a_0), (.int .i64 x92a_1), (.slice A92a_2 n92a_2 c92a_2), (.slice A92a_3 n92a_3 c92a_3), (.int .i64 x92a_4)] fun w19 =>
 I_3 w19)) ∧
 ∀ (_j : Nat → Value) (w8 : World), I_3 w8 →
 I_1 (IntKind.wrap .i64 (x5 + (1 : Int))) w8 ∧ μ (IntKind.wrap .i64 (x5 + (1 : Int))) w8 < μ x5 w6) ∧
 ∀ (_j : Nat → Value) (w6 : World), I w6 →
 ∃ (A96_0 : OA) (n96_0 : Nat) (c96_0 : Nat) (x96_1 : Int) (A96_2 : OA) (n96_2 : Nat) (c96_2 : Nat) (A96_3 : OA) (n96_3 : Nat) (c96_3 : Nat) (x96_4 : Int), RD w6 ⟨k4, 0, none⟩ 0 [(.slice A96_0 n96_0 c96_0), (.int .i64 x96_1), (.slice A96_2 n96_2 c96_2), (.slice A96_3 n96_3 c96_3), (.int .i64 x96_4)] ∧
 CALL PP 28 [(.pointer p12), (.agg #[(.slice A96_0 n96_0 c96_0), (.int .i64 x96_1), (.slice A96_2 n96_2 c96_2), (.slice A96_3 n96_3 c96_3), (.int .i64 x96_4)])] w6 fun r97 w7 =>
 ∃ (b97 : Bool), r97 = (.bool b97) ∧
 R (.bool b97) w7))
noncomputable def A8 : Ann := (.two .leaf (.two .leaf (.two .leaf (.two .leaf (.cut 39614081257132168796771910628 [] (.two .leaf (.one (.loop 39614081257132168796771910628 [(5, .int .i64)] (.cut 16711680 [] .leaf (.cut 39614081257132168796704867268 [] (.one (.two .leaf (.two .leaf (.two (.two .leaf (.two (.two (.cut 18446742974197923840 [(63, .bool)] .leaf .leaf) .leaf) .leaf)) (.cut 4835684831714442989273600 [(9, .bool)] .leaf (.cut 614134316364231620750737412 [] .leaf .leaf)))))) .leaf))))) .leaf)))))
noncomputable def C8 : Code := (Tryz.f8.body).getD .skip
theorem c8 {A0 : OA} {n0 : Nat} {c0 : Nat} {w : World} {R : Value → World → Prop} (h : S8 A0 n0 c0 w R) : Calls PP 8 #[(.slice A0 n0 c0)] w (Ret R) :=
 vcF_sound (c := C8) (ann := A8) follows_ Tryz.func8 (by kernel_rfl) (cast (by kernel_rfl) h)

end Go.SW
