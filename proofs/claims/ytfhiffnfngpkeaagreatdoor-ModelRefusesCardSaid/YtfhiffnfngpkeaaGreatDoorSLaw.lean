/- PRINTED by wip/tools/gen.py: the functions' conditions in readable form, each with the kernel's word that it is the computed one. -/
import Derived.Test.YtfhiffnfngpkeaaGreatDoorVcSeat
set_option linter.unusedVariables false
namespace Go.SW
open Go Go.Proofs
set_option maxRecDepth 100000
/- sealwax/sealwaxlaw19.awake -/
def S10  (w : World) (R : Value → World → Prop) : Prop :=
 CALL PP 11 [] w fun r5 w1 =>
 ∃ (p5 : OA), r5 = (.pointer p5) ∧
 SPLIT (Option.isNone p5) (
 R (.bool false) w1) (
 CALL PP 13 [(.pointer p5), (.agg #[(.int .i64 1), (.string (⟨#[97]⟩ : ByteArray)), (.string ⟨#[]⟩), (.string ⟨#[]⟩), (.int .i64 0), (.int .i64 0), (.int .i64 0), (.slice none 0 0)])] w1 fun r10 w2 =>
 ∃ (x10_0 : Int) (x10_1 : Int) (s10_2 : ByteArray) (A10_3 : OA) (n10_3 : Nat) (c10_3 : Nat) (A10_4 : OA) (n10_4 : Nat) (c10_4 : Nat), r10 = (.agg #[(.int .i64 x10_0), (.int .i64 x10_1), (.string s10_2), (.slice A10_3 n10_3 c10_3), (.slice A10_4 n10_4 c10_4)]) ∧
 NEW w2 (.cells #[(.int .i64 0), (.int .i64 0), (.string ⟨#[]⟩), (.slice none 0 0), (.slice none 0 0)] 35) fun k2 w3 =>
 ST w3 ⟨k2, 0, none⟩ 0 [(.int .i64 x10_0), (.int .i64 x10_1), (.string s10_2), (.slice A10_3 n10_3 c10_3), (.slice A10_4 n10_4 c10_4)] fun w4 =>
 CALL PP 13 [(.pointer p5), (.agg #[(.int .i64 6), (.string (⟨#[97]⟩ : ByteArray)), (.string ⟨#[]⟩), (.string (⟨#[116, 119, 111, 32, 99, 97, 116, 115]⟩ : ByteArray)), (.int .i64 0), (.int .i64 0), (.int .i64 0), (.slice none 0 0)])] w4 fun r13 w5 =>
 ∃ (x13_0 : Int) (x13_1 : Int) (s13_2 : ByteArray) (A13_3 : OA) (n13_3 : Nat) (c13_3 : Nat) (A13_4 : OA) (n13_4 : Nat) (c13_4 : Nat), r13 = (.agg #[(.int .i64 x13_0), (.int .i64 x13_1), (.string s13_2), (.slice A13_3 n13_3 c13_3), (.slice A13_4 n13_4 c13_4)]) ∧
 NEW w5 (.cells #[(.int .i64 0), (.int .i64 0), (.string ⟨#[]⟩), (.slice none 0 0), (.slice none 0 0)] 35) fun k3 w6 =>
 ST w6 ⟨k3, 0, none⟩ 0 [(.int .i64 x13_0), (.int .i64 x13_1), (.string s13_2), (.slice A13_3 n13_3 c13_3), (.slice A13_4 n13_4 c13_4)] fun w7 =>
 NEW w7 (.cells #[(.string (⟨#[99, 97, 116, 115]⟩ : ByteArray))] 9) fun k15 w8 =>
 CALL PP 13 [(.pointer p5), (.agg #[(.int .i64 12), (.string ⟨#[]⟩), (.string ⟨#[]⟩), (.string ⟨#[]⟩), (.int .i64 0), (.int .i64 0), (.int .i64 0), (.slice (some ⟨k15, 0, none⟩) 1 1)])] w8 fun r17 w9 =>
 ∃ (x17_0 : Int) (x17_1 : Int) (s17_2 : ByteArray) (A17_3 : OA) (n17_3 : Nat) (c17_3 : Nat) (A17_4 : OA) (n17_4 : Nat) (c17_4 : Nat), r17 = (.agg #[(.int .i64 x17_0), (.int .i64 x17_1), (.string s17_2), (.slice A17_3 n17_3 c17_3), (.slice A17_4 n17_4 c17_4)]) ∧
 NEW w9 (.cells #[(.int .i64 0), (.int .i64 0), (.string ⟨#[]⟩), (.slice none 0 0), (.slice none 0 0)] 35) fun k4 w10 =>
 ST w10 ⟨k4, 0, none⟩ 0 [(.int .i64 x17_0), (.int .i64 x17_1), (.string s17_2), (.slice A17_3 n17_3 c17_3), (.slice A17_4 n17_4 c17_4)] fun w11 =>
 ∃ (x19 : Int), w11.cell? ⟨k2, 1, none⟩ = some (.int .i64 x19) ∧
 SPLIT (x19 == (1 : Int)) (
 ∃ (x23 : Int), w11.cell? ⟨k3, 1, none⟩ = some (.int .i64 x23) ∧
 SPLIT (x23 == (1 : Int)) (
 ∃ (x28 : Int), w11.cell? ⟨k3, 0, none⟩ = some (.int .i64 x28) ∧
 SPLIT (x28 == (0 : Int)) (
 ∃ (A33 : OA) (n33 : Nat) (c33 : Nat), w11.cell? ⟨k4, 4, none⟩ = some (.slice A33 n33 c33) ∧
 SPLIT ((n33 : Int) == (1 : Int)) (
 ∃ (A39 : OA) (n39 : Nat) (c39 : Nat), w11.cell? ⟨k4, 4, none⟩ = some (.slice A39 n39 c39) ∧
 (0 ≤ (0 : Int) ∧ (0 : Int) < (n39 : Int)) ∧
 SOMEA A39 fun a40 =>
 ∃ (s41_0 : ByteArray) (x41_1 : Int) (x41_2 : Int), RD w11 (Addr.add a40 (Int.toNat (0 : Int) * 3)) 0 [(.string s41_0), (.int .i64 x41_1), (.int .i64 x41_2)] ∧
 ∃ b43 : Bool, (do eqGuard .eql 39 (.tmp 41) (.tmp 42) (.agg #[(.string s41_0), (.int .i64 x41_1), (.int .i64 x41_2)]) (.agg #[(.string (⟨#[97]⟩ : ByteArray)), (.int .i64 1), (.int .i64 0)]); binOp .eql 39 (.agg #[(.string s41_0), (.int .i64 x41_1), (.int .i64 x41_2)]) (.agg #[(.string (⟨#[97]⟩ : ByteArray)), (.int .i64 1), (.int .i64 0)]) : Sem Value).run PP w11 = .ok (.bool b43) w11 ∧
 R (.bool b43) w11) (
 R (.bool false) w11)) (
 R (.bool false) w11)) (
 R (.bool false) w11)) (
 R (.bool false) w11))
noncomputable def A10 : Ann := .leaf
noncomputable def C10 : Code := (Tryz.f10.body).getD .skip
theorem c10 {w : World} {R : Value → World → Prop} (h : S10 w R) : Calls PP 10 #[] w (Ret R) :=
 vcF_sound (c := C10) (ann := A10) follows_ Tryz.func10 (by kernel_rfl) (cast (by kernel_rfl) h)

/- sealwax/sealwaxlaw19.Own -/
def S12 (x0_0 : Int) (s0_1 : ByteArray) (s0_2 : ByteArray) (s0_3 : ByteArray) (x0_4 : Int) (x0_5 : Int) (x0_6 : Int) (A0_7 : OA) (n0_7 : Nat) (c0_7 : Nat) (w : World) (R : Value → World → Prop) : Prop :=
 NEW w (.cells #[(.int .i64 x0_0), (.string s0_1), (.string s0_2), (.string s0_3), (.int .i64 x0_4), (.int .i64 x0_5), (.int .i64 x0_6), (.slice A0_7 n0_7 c0_7)] 29) fun k1 w1 =>
 NEW w1 (.cells #[(.int .i64 0), (.string ⟨#[]⟩), (.string ⟨#[]⟩), (.string ⟨#[]⟩), (.int .i64 0), (.int .i64 0), (.int .i64 0), (.slice none 0 0)] 28) fun k2 w2 =>
 NEW w2 (.cells #[(.int .i64 0), (.string ⟨#[]⟩), (.string ⟨#[]⟩), (.string ⟨#[]⟩), (.int .i64 0), (.int .i64 0), (.int .i64 0), (.slice none 0 0)] 29) fun k3 w3 =>
 DRAW w3 fun w4 =>
 ∃ (s5 : ByteArray), w4.cell? ⟨k1, 1, none⟩ = some (.string s5) ∧
 ∃ (s8 : ByteArray), w4.cell? ⟨k1, 2, none⟩ = some (.string s8) ∧
 ∃ (A11 : OA) (n11 : Nat) (c11 : Nat), w4.cell? ⟨k1, 7, none⟩ = some (.slice A11 n11 c11) ∧
 CALL PP 21 [(.string s5), (.int .i64 40)] w4 fun r6 w5 =>
 ∃ (s6 : ByteArray), r6 = (.string s6) ∧
 (loadVar 26 ⟨k1, 7, none⟩).run PP w5 = .ok (.slice A11 n11 c11) w5 ∧
 (loadVar 9 ⟨k1, 2, none⟩).run PP w5 = .ok (.string s8) w5 ∧
 CALL PP 21 [(.string s8), (.int .i64 40)] w5 fun r9 w6 =>
 ∃ (s9 : ByteArray), r9 = (.string s9) ∧
 (loadVar 26 ⟨k1, 7, none⟩).run PP w6 = .ok (.slice A11 n11 c11) w6 ∧
 CALL PP 31 [(.slice A11 n11 c11), (.int .i64 10), (.int .i64 20)] w6 fun r12 w7 =>
 ∃ (A12 : OA) (n12 : Nat) (c12 : Nat), r12 = (.slice A12 n12 c12) ∧
 ST w7 ⟨k1, 1, none⟩ 0 [(.string s6)] fun w8 =>
 ST w8 ⟨k1, 2, none⟩ 0 [(.string s9)] fun w9 =>
 ST w9 ⟨k1, 7, none⟩ 0 [(.slice A12 n12 c12)] fun w10 =>
 ∃ I : World → Prop, (
 ∃ (s17 : ByteArray), w10.cell? ⟨k1, 3, none⟩ = some (.string s17) ∧
 SPLIT (decide ((s17.size : Int) ≤ (4096 : Int))) (
 ∃ (s21 : ByteArray), w10.cell? ⟨k1, 3, none⟩ = some (.string s21) ∧
 CALL PP 21 [(.string s21), (.int .i64 700)] w10 fun r22 w11 =>
 ∃ (s22 : ByteArray), r22 = (.string s22) ∧
 ST w11 ⟨k1, 3, none⟩ 0 [(.string s22)] fun w12 =>
 I w12) (
 ∃ (s25 : ByteArray), w10.cell? ⟨k1, 3, none⟩ = some (.string s25) ∧
 CALL PP 21 [(.string s25), (.int .i64 4097)] w10 fun r26 w11 =>
 ∃ (s26 : ByteArray), r26 = (.string s26) ∧
 ST w11 ⟨k1, 3, none⟩ 0 [(.string s26)] fun w12 =>
 I w12)) ∧
 ∀ (_j : Nat → Value) (w11 : World), I w11 →
 DRAW w11 fun w12 =>
 ∃ (x29 : Int), w12.cell? ⟨k1, 0, none⟩ = some (.int .i64 x29) ∧
 ∃ (s31 : ByteArray), w12.cell? ⟨k1, 1, none⟩ = some (.string s31) ∧
 ∃ (s33 : ByteArray), w12.cell? ⟨k1, 2, none⟩ = some (.string s33) ∧
 ∃ (s35 : ByteArray), w12.cell? ⟨k1, 3, none⟩ = some (.string s35) ∧
 ∃ (x37 : Int), w12.cell? ⟨k1, 4, none⟩ = some (.int .i64 x37) ∧
 ∃ (x39 : Int), w12.cell? ⟨k1, 5, none⟩ = some (.int .i64 x39) ∧
 ∃ (x41 : Int), w12.cell? ⟨k1, 6, none⟩ = some (.int .i64 x41) ∧
 ∃ (A44 : OA) (n44 : Nat) (c44 : Nat), w12.cell? ⟨k1, 7, none⟩ = some (.slice A44 n44 c44) ∧
 ∃ (x47_0 : Int) (s47_1 : ByteArray) (s47_2 : ByteArray) (s47_3 : ByteArray) (x47_4 : Int) (x47_5 : Int) (x47_6 : Int) (A47_7 : OA) (n47_7 : Nat) (c47_7 : Nat), RD w12 ⟨k1, 0, none⟩ 0 [(.int .i64 x47_0), (.string s47_1), (.string s47_2), (.string s47_3), (.int .i64 x47_4), (.int .i64 x47_5), (.int .i64 x47_6), (.slice A47_7 n47_7 c47_7)] ∧
 NEW w12 (.cells #[] 9) fun k42 w13 =>
 (loadVar 29 ⟨k1, 0, none⟩).run PP w13 = .ok (.agg #[(.int .i64 x47_0), (.string s47_1), (.string s47_2), (.string s47_3), (.int .i64 x47_4), (.int .i64 x47_5), (.int .i64 x47_6), (.slice A47_7 n47_7 c47_7)]) w13 ∧
 (loadVar 26 ⟨k1, 7, none⟩).run PP w13 = .ok (.slice A44 n44 c44) w13 ∧
 (loadVar 3 ⟨k1, 6, none⟩).run PP w13 = .ok (.int .i64 x41) w13 ∧
 (loadVar 3 ⟨k1, 5, none⟩).run PP w13 = .ok (.int .i64 x39) w13 ∧
 (loadVar 3 ⟨k1, 4, none⟩).run PP w13 = .ok (.int .i64 x37) w13 ∧
 (loadVar 9 ⟨k1, 3, none⟩).run PP w13 = .ok (.string s35) w13 ∧
 (loadVar 9 ⟨k1, 2, none⟩).run PP w13 = .ok (.string s33) w13 ∧
 (loadVar 9 ⟨k1, 1, none⟩).run PP w13 = .ok (.string s31) w13 ∧
 (loadVar 3 ⟨k1, 0, none⟩).run PP w13 = .ok (.int .i64 x29) w13 ∧
 RUN PP (Builtin.append_ #[26, 26] 26 #[(.slice (some ⟨k42, 0, none⟩) 0 0), (.slice A44 n44 c44)]) w13 fun r45 w14 =>
 ∃ (A45 : OA) (n45 : Nat) (c45 : Nat), r45 = (.slice A45 n45 c45) ∧
 (loadVar 29 ⟨k1, 0, none⟩).run PP w14 = .ok (.agg #[(.int .i64 x47_0), (.string s47_1), (.string s47_2), (.string s47_3), (.int .i64 x47_4), (.int .i64 x47_5), (.int .i64 x47_6), (.slice A47_7 n47_7 c47_7)]) w14 ∧
 (loadVar 3 ⟨k1, 6, none⟩).run PP w14 = .ok (.int .i64 x41) w14 ∧
 (loadVar 3 ⟨k1, 5, none⟩).run PP w14 = .ok (.int .i64 x39) w14 ∧
 (loadVar 3 ⟨k1, 4, none⟩).run PP w14 = .ok (.int .i64 x37) w14 ∧
 (loadVar 9 ⟨k1, 3, none⟩).run PP w14 = .ok (.string s35) w14 ∧
 (loadVar 9 ⟨k1, 2, none⟩).run PP w14 = .ok (.string s33) w14 ∧
 (loadVar 9 ⟨k1, 1, none⟩).run PP w14 = .ok (.string s31) w14 ∧
 (loadVar 3 ⟨k1, 0, none⟩).run PP w14 = .ok (.int .i64 x29) w14 ∧
 ST w14 ⟨k2, 0, none⟩ 0 [(.int .i64 x29), (.string s31), (.string s33), (.string s35), (.int .i64 x37), (.int .i64 x39), (.int .i64 x41), (.slice A45 n45 c45)] fun w15 =>
 (loadVar 29 ⟨k1, 0, none⟩).run PP w15 = .ok (.agg #[(.int .i64 x47_0), (.string s47_1), (.string s47_2), (.string s47_3), (.int .i64 x47_4), (.int .i64 x47_5), (.int .i64 x47_6), (.slice A47_7 n47_7 c47_7)]) w15 ∧
 ST w15 ⟨k3, 0, none⟩ 0 [(.int .i64 x47_0), (.string s47_1), (.string s47_2), (.string s47_3), (.int .i64 x47_4), (.int .i64 x47_5), (.int .i64 x47_6), (.slice A47_7 n47_7 c47_7)] fun w16 =>
 ∃ (x2r_0 : Int) (s2r_1 : ByteArray) (s2r_2 : ByteArray) (s2r_3 : ByteArray) (x2r_4 : Int) (x2r_5 : Int) (x2r_6 : Int) (A2r_7 : OA) (n2r_7 : Nat) (c2r_7 : Nat), RD w16 ⟨k2, 0, none⟩ 0 [(.int .i64 x2r_0), (.string s2r_1), (.string s2r_2), (.string s2r_3), (.int .i64 x2r_4), (.int .i64 x2r_5), (.int .i64 x2r_6), (.slice A2r_7 n2r_7 c2r_7)] ∧
 ∃ (x3r_0 : Int) (s3r_1 : ByteArray) (s3r_2 : ByteArray) (s3r_3 : ByteArray) (x3r_4 : Int) (x3r_5 : Int) (x3r_6 : Int) (A3r_7 : OA) (n3r_7 : Nat) (c3r_7 : Nat), RD w16 ⟨k3, 0, none⟩ 0 [(.int .i64 x3r_0), (.string s3r_1), (.string s3r_2), (.string s3r_3), (.int .i64 x3r_4), (.int .i64 x3r_5), (.int .i64 x3r_6), (.slice A3r_7 n3r_7 c3r_7)] ∧
 R (.tuple #[(.agg #[(.int .i64 x2r_0), (.string s2r_1), (.string s2r_2), (.string s2r_3), (.int .i64 x2r_4), (.int .i64 x2r_5), (.int .i64 x2r_6), (.slice A2r_7 n2r_7 c2r_7)]), (.agg #[(.int .i64 x3r_0), (.string s3r_1), (.string s3r_2), (.string s3r_3), (.int .i64 x3r_4), (.int .i64 x3r_5), (.int .i64 x3r_6), (.slice A3r_7 n3r_7 c3r_7)])]) w16
noncomputable def A12 : Ann := (.two .leaf (.two .leaf (.cut 268369920 [] .leaf .leaf)))
noncomputable def C12 : Code := (Tryz.f12.body).getD .skip
theorem c12 {x0_0 : Int} {s0_1 : ByteArray} {s0_2 : ByteArray} {s0_3 : ByteArray} {x0_4 : Int} {x0_5 : Int} {x0_6 : Int} {A0_7 : OA} {n0_7 : Nat} {c0_7 : Nat} {w : World} {R : Value → World → Prop} (h : S12 x0_0 s0_1 s0_2 s0_3 x0_4 x0_5 x0_6 A0_7 n0_7 c0_7 w R) : Calls PP 12 #[(.agg #[(.int .i64 x0_0), (.string s0_1), (.string s0_2), (.string s0_3), (.int .i64 x0_4), (.int .i64 x0_5), (.int .i64 x0_6), (.slice A0_7 n0_7 c0_7)])] w (Ret R) :=
 vcF_sound (c := C12) (ann := A12) follows_ Tryz.func12 (by kernel_rfl) (cast (by kernel_rfl) h)

end Go.SW
