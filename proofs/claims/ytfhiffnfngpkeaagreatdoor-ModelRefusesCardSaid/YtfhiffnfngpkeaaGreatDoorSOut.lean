/- PRINTED by wip/tools/gen.py: the functions' conditions in readable form, each with the kernel's word that it is the computed one. -/
import Derived.Test.YtfhiffnfngpkeaaGreatDoorVcSeat
set_option linter.unusedVariables false
namespace Go.SW
open Go Go.Proofs
set_option maxRecDepth 100000
/- (*strings.Builder).WriteByte -/
def S177 (k0 : Nat) (x1 : Int) (w : World) (R : Value → World → Prop) : Prop :=
 CALL PP 199 [(.pointer (some ⟨k0, 0, none⟩))] w fun r6 w1 =>
 r6 = (.tuple #[]) ∧
 ∃ (A11 : OA) (n11 : Nat) (c11 : Nat), w1.cell? ⟨k0, 1, none⟩ = some (.slice A11 n11 c11) ∧
 NEW w1 (.cells #[(.int .u8 x1)] 5) fun k13 w2 =>
 RUN PP (Builtin.append_ #[184, 184] 184 #[(.slice A11 n11 c11), (.slice (some ⟨k13, 0, none⟩) 1 1)]) w2 fun r14 w3 =>
 ∃ (A14 : OA) (n14 : Nat) (c14 : Nat), r14 = (.slice A14 n14 c14) ∧
 ST w3 ⟨k0, 1, none⟩ 0 [(.slice A14 n14 c14)] fun w4 =>
 R .nilIface w4
noncomputable def A177 : Ann := .leaf
noncomputable def C177 : Code := (Tryz.f177.body).getD .skip
theorem c177 {k0 : Nat} {x1 : Int} {w : World} {R : Value → World → Prop} (h : S177 k0 x1 w R) : Calls PP 177 #[(.pointer (some ⟨k0, 0, none⟩)), (.int .u8 x1)] w (Ret R) :=
 vcF_sound (c := C177) (ann := A177) follows_ Tryz.func177 (by kernel_rfl) (cast (by kernel_rfl) h)

/- (*strings.Builder).String -/
def S180 (k0 : Nat) (w : World) (R : Value → World → Prop) : Prop :=
 DRAW w fun w1 =>
 ∃ (A6 : OA) (n6 : Nat) (c6 : Nat), w1.cell? ⟨k0, 1, none⟩ = some (.slice A6 n6 c6) ∧
 ∃ (A11 : OA) (n11 : Nat) (c11 : Nat), w1.cell? ⟨k0, 1, none⟩ = some (.slice A11 n11 c11) ∧
 RUN PP (Builtin.unsafeSliceData_ #[184] 247 #[(.slice A6 n6 c6)]) w1 fun r7 w2 =>
 ∃ (p7 : OA), r7 = (.pointer p7) ∧
 (loadVar 184 ⟨k0, 1, none⟩).run PP w2 = .ok (.slice A11 n11 c11) w2 ∧
 RUN PP (Builtin.unsafeString_ #[247, 3] 9 #[(.pointer p7), (.int .i64 (n11 : Int))]) w2 fun r13 w3 =>
 ∃ (s13 : ByteArray), r13 = (.string s13) ∧
 R (.string s13) w3
noncomputable def A180 : Ann := .leaf
noncomputable def C180 : Code := (Tryz.f180.body).getD .skip
theorem c180 {k0 : Nat} {w : World} {R : Value → World → Prop} (h : S180 k0 w R) : Calls PP 180 #[(.pointer (some ⟨k0, 0, none⟩))] w (Ret R) :=
 vcF_sound (c := C180) (ann := A180) follows_ Tryz.func180 (by kernel_rfl) (cast (by kernel_rfl) h)

/- (*strings.Builder).WriteString -/
def S200 (k0 : Nat) (s1 : ByteArray) (w : World) (R : Value → World → Prop) : Prop :=
 CALL PP 199 [(.pointer (some ⟨k0, 0, none⟩))] w fun r7 w1 =>
 r7 = (.tuple #[]) ∧
 ∃ (A12 : OA) (n12 : Nat) (c12 : Nat), w1.cell? ⟨k0, 1, none⟩ = some (.slice A12 n12 c12) ∧
 RUN PP (Builtin.append_ #[184, 9] 184 #[(.slice A12 n12 c12), (.string s1)]) w1 fun r14 w2 =>
 ∃ (A14 : OA) (n14 : Nat) (c14 : Nat), r14 = (.slice A14 n14 c14) ∧
 ST w2 ⟨k0, 1, none⟩ 0 [(.slice A14 n14 c14)] fun w3 =>
 R (.tuple #[(.int .i64 (s1.size : Int)), .nilIface]) w3
noncomputable def A200 : Ann := .leaf
noncomputable def C200 : Code := (Tryz.f200.body).getD .skip
theorem c200 {k0 : Nat} {s1 : ByteArray} {w : World} {R : Value → World → Prop} (h : S200 k0 s1 w R) : Calls PP 200 #[(.pointer (some ⟨k0, 0, none⟩)), (.string s1)] w (Ret R) :=
 vcF_sound (c := C200) (ann := A200) follows_ Tryz.func200 (by kernel_rfl) (cast (by kernel_rfl) h)

/- (*sealwax/wire.Out).Num -/
def S136 (k0 : Nat) (A1 : OA) (n1 : Nat) (c1 : Nat) (w : World) (R : Value → World → Prop) : Prop :=
 ∃ (I : Int → World → Prop) (μ : Int → World → Nat), I (0 : Int) w ∧
 ∀ (_j : Nat → Value) (x10 : Int) (w1 : World), I x10 w1 →
 SPLIT (decide (x10 < (n1 : Int))) (
 (0 ≤ x10 ∧ x10 < (n1 : Int)) ∧
 SOMEA A1 fun a12 =>
 ∃ (x13 : Int), w1.cell? (Addr.add a12 (Int.toNat x10 * 1)) = some (.int .i64 x13) ∧
 ∃ (I_1 : Int → World → Prop) (μ_1 : Int → World → Nat), I_1 (56 : Int) w1 ∧
 ∀ (_j : Nat → Value) (x7 : Int) (w2 : World), I_1 x7 w2 →
 SPLIT (decide (x7 ≥ (0 : Int))) (
 DRAW w2 fun w3 =>
 0 ≤ x7 ∧
 (PP.underlying 3).isSome = true ∧
 CALL PP 177 [(.pointer (some ⟨k0, 0, none⟩)), (.int .u8 (IntKind.wrap .u8 (Int.fdiv (if x13 > (0 : Int) then x13 else (0 : Int)) (2 ^ (min (Int.toNat x7) 64)))))] w3 fun r27 w4 =>
 I_1 (IntKind.wrap .i64 (x7 - (8 : Int))) w4 ∧ μ_1 (IntKind.wrap .i64 (x7 - (8 : Int))) w4 < μ_1 x7 w2) (
 I (IntKind.wrap .i64 (x10 + (1 : Int))) w2 ∧ μ (IntKind.wrap .i64 (x10 + (1 : Int))) w2 < μ x10 w1)) (
 R (.pointer (some ⟨k0, 0, none⟩)) w1)
noncomputable def A136 : Ann := (.two .leaf (.two (.two .leaf (.one (.loop 536870080 [(10, .int .i64)] (.two .leaf (.two .leaf (.two (.one (.two .leaf (.two .leaf (.two .leaf (.one (.loop 268370048 [(7, .int .i64)] .leaf)))))) .leaf)))))) .leaf))
noncomputable def C136 : Code := (Tryz.f136.body).getD .skip
theorem c136 {k0 : Nat} {A1 : OA} {n1 : Nat} {c1 : Nat} {w : World} {R : Value → World → Prop} (h : S136 k0 A1 n1 c1 w R) : Calls PP 136 #[(.pointer (some ⟨k0, 0, none⟩)), (.slice A1 n1 c1)] w (Ret R) :=
 vcF_sound (c := C136) (ann := A136) follows_ Tryz.func136 (by kernel_rfl) (cast (by kernel_rfl) h)

/- (*sealwax/wire.Out).Fixed -/
def S137 (k0 : Nat) (s1 : ByteArray) (x2 : Int) (w : World) (R : Value → World → Prop) : Prop :=
 (0 ≤ (if (s1.size : Int) < (if (if (4096 : Int) < x2 then (4096 : Int) else x2) > (0 : Int) then (if (4096 : Int) < x2 then (4096 : Int) else x2) else (0 : Int)) then (s1.size : Int) else (if (if (4096 : Int) < x2 then (4096 : Int) else x2) > (0 : Int) then (if (4096 : Int) < x2 then (4096 : Int) else x2) else (0 : Int))) ∧ (if (s1.size : Int) < (if (if (4096 : Int) < x2 then (4096 : Int) else x2) > (0 : Int) then (if (4096 : Int) < x2 then (4096 : Int) else x2) else (0 : Int)) then (s1.size : Int) else (if (if (4096 : Int) < x2 then (4096 : Int) else x2) > (0 : Int) then (if (4096 : Int) < x2 then (4096 : Int) else x2) else (0 : Int))) ≤ ((s1.size : Nat) : Int)) ∧
 CALL PP 179 [(.string (⟨#[0]⟩ : ByteArray)), (.int .i64 (IntKind.wrap .i64 ((if (if (4096 : Int) < x2 then (4096 : Int) else x2) > (0 : Int) then (if (4096 : Int) < x2 then (4096 : Int) else x2) else (0 : Int)) - ((ByteArray.extract s1 0 (Int.toNat (if (s1.size : Int) < (if (if (4096 : Int) < x2 then (4096 : Int) else x2) > (0 : Int) then (if (4096 : Int) < x2 then (4096 : Int) else x2) else (0 : Int)) then (s1.size : Int) else (if (if (4096 : Int) < x2 then (4096 : Int) else x2) > (0 : Int) then (if (4096 : Int) < x2 then (4096 : Int) else x2) else (0 : Int))))).size : Int))))] w fun r22 w1 =>
 ∃ (s22 : ByteArray), r22 = (.string s22) ∧
 NEW w1 (.cells #[(.string (ByteArray.extract s1 0 (Int.toNat (if (s1.size : Int) < (if (if (4096 : Int) < x2 then (4096 : Int) else x2) > (0 : Int) then (if (4096 : Int) < x2 then (4096 : Int) else x2) else (0 : Int)) then (s1.size : Int) else (if (if (4096 : Int) < x2 then (4096 : Int) else x2) > (0 : Int) then (if (4096 : Int) < x2 then (4096 : Int) else x2) else (0 : Int)))))), (.string s22)] 9) fun k23 w2 =>
 CALL PP 178 [(.pointer (some ⟨k0, 0, none⟩)), (.slice (some ⟨k23, 0, none⟩) 2 2)] w2 fun r24 w3 =>
 ∃ (p24 : OA), r24 = (.pointer p24) ∧
 R (.pointer p24) w3
noncomputable def A137 : Ann := .leaf
noncomputable def C137 : Code := (Tryz.f137.body).getD .skip
theorem c137 {k0 : Nat} {s1 : ByteArray} {x2 : Int} {w : World} {R : Value → World → Prop} (h : S137 k0 s1 x2 w R) : Calls PP 137 #[(.pointer (some ⟨k0, 0, none⟩)), (.string s1), (.int .i64 x2)] w (Ret R) :=
 vcF_sound (c := C137) (ann := A137) follows_ Tryz.func137 (by kernel_rfl) (cast (by kernel_rfl) h)

/- (*sealwax/wire.Out).Bytes -/
def S138 (k0 : Nat) (w : World) (R : Value → World → Prop) : Prop :=
 CALL PP 180 [(.pointer (some ⟨k0, 0, none⟩))] w fun r6 w1 =>
 ∃ (s6 : ByteArray), r6 = (.string s6) ∧
 R (.string s6) w1
noncomputable def A138 : Ann := .leaf
noncomputable def C138 : Code := (Tryz.f138.body).getD .skip
theorem c138 {k0 : Nat} {w : World} {R : Value → World → Prop} (h : S138 k0 w R) : Calls PP 138 #[(.pointer (some ⟨k0, 0, none⟩))] w (Ret R) :=
 vcF_sound (c := C138) (ann := A138) follows_ Tryz.func138 (by kernel_rfl) (cast (by kernel_rfl) h)

/- sealwax/sealwaxref06.Num -/
def S139 (x0 : Int) (w : World) (R : Value → World → Prop) : Prop :=
 ∃ (I : Int → ByteArray → Int → World → Prop) (μ : Int → ByteArray → Int → World → Nat), I (if x0 > (0 : Int) then x0 else (0 : Int)) (⟨#[]⟩ : ByteArray) (0 : Int) w ∧
 ∀ (_j : Nat → Value) (x0_1 : Int) (s3 : ByteArray) (x4 : Int) (w1 : World), I x0_1 s3 x4 w1 →
 SPLIT (decide (x4 < (8 : Int))) (
 IntKind.i64 = IntKind.i64 ∧ (256 : Int) ≠ 0 ∧
 (PP.underlying 3).isSome = true ∧
 NEW w1 (.cells #[(.int .u8 (IntKind.wrap .u8 (Int.tmod x0_1 (256 : Int))))] 5) fun k14 w2 =>
 RUN PP (convert 184 9 (.slice (some ⟨k14, 0, none⟩) 1 1)) w2 fun r15 w3 =>
 ∃ (s15 : ByteArray), r15 = (.string s15) ∧
 ((s15.size + s3.size : Nat) : Int) ≤ IntKind.max .i64 ∧
 IntKind.i64 = IntKind.i64 ∧ (256 : Int) ≠ 0 ∧
 I (IntKind.wrap .i64 (Int.tdiv x0_1 (256 : Int))) (s15 ++ s3) (IntKind.wrap .i64 (x4 + (1 : Int))) w3 ∧ μ (IntKind.wrap .i64 (Int.tdiv x0_1 (256 : Int))) (s15 ++ s3) (IntKind.wrap .i64 (x4 + (1 : Int))) w3 < μ x0_1 s3 x4 w1) (
 R (.string s3) w1)
noncomputable def A139 : Ann := (.two .leaf (.two .leaf (.two .leaf (.two (.two .leaf (.one (.loop 1048473 [(0, .int .i64), (3, .str), (4, .int .i64)] .leaf))) .leaf))))
noncomputable def C139 : Code := (Tryz.f139.body).getD .skip
theorem c139 {x0 : Int} {w : World} {R : Value → World → Prop} (h : S139 x0 w R) : Calls PP 139 #[(.int .i64 x0)] w (Ret R) :=
 vcF_sound (c := C139) (ann := A139) follows_ Tryz.func139 (by kernel_rfl) (cast (by kernel_rfl) h)

/- sealwax/sealwaxref06.Fixed -/
def S140 (s0 : ByteArray) (x1 : Int) (w : World) (R : Value → World → Prop) : Prop :=
 ∃ (I : ByteArray → World → Prop) (μ : ByteArray → World → Nat), I s0 w ∧
 ∀ (_j : Nat → Value) (s0_1 : ByteArray) (w1 : World), I s0_1 w1 →
 SPLIT (decide ((s0_1.size : Int) < (if (if (4096 : Int) < x1 then (4096 : Int) else x1) > (0 : Int) then (if (4096 : Int) < x1 then (4096 : Int) else x1) else (0 : Int)))) (
 ((s0_1.size + (⟨#[0]⟩ : ByteArray).size : Nat) : Int) ≤ IntKind.max .i64 ∧
 I (s0_1 ++ (⟨#[0]⟩ : ByteArray)) w1 ∧ μ (s0_1 ++ (⟨#[0]⟩ : ByteArray)) w1 < μ s0_1 w1) (
 (0 ≤ (if (if (4096 : Int) < x1 then (4096 : Int) else x1) > (0 : Int) then (if (4096 : Int) < x1 then (4096 : Int) else x1) else (0 : Int)) ∧ (if (if (4096 : Int) < x1 then (4096 : Int) else x1) > (0 : Int) then (if (4096 : Int) < x1 then (4096 : Int) else x1) else (0 : Int)) ≤ ((s0_1.size : Nat) : Int)) ∧
 R (.string (ByteArray.extract s0_1 0 (Int.toNat (if (if (4096 : Int) < x1 then (4096 : Int) else x1) > (0 : Int) then (if (4096 : Int) < x1 then (4096 : Int) else x1) else (0 : Int))))) w1)
noncomputable def A140 : Ann := (.two .leaf (.two .leaf (.two (.one (.loop 16129 [(0, .str)] .leaf)) .leaf)))
noncomputable def C140 : Code := (Tryz.f140.body).getD .skip
theorem c140 {s0 : ByteArray} {x1 : Int} {w : World} {R : Value → World → Prop} (h : S140 s0 x1 w R) : Calls PP 140 #[(.string s0), (.int .i64 x1)] w (Ret R) :=
 vcF_sound (c := C140) (ann := A140) follows_ Tryz.func140 (by kernel_rfl) (cast (by kernel_rfl) h)

/- (*sealwax/wire.Out).Raw -/
def S178 (k0 : Nat) (A1 : OA) (n1 : Nat) (c1 : Nat) (w : World) (R : Value → World → Prop) : Prop :=
 ∃ (I : Int → World → Prop) (μ : Int → World → Nat), I (0 : Int) w ∧
 ∀ (_j : Nat → Value) (x9 : Int) (w1 : World), I x9 w1 →
 SPLIT (decide (x9 < (n1 : Int))) (
 (0 ≤ x9 ∧ x9 < (n1 : Int)) ∧
 SOMEA A1 fun a11 =>
 ∃ (s12 : ByteArray), w1.cell? (Addr.add a11 (Int.toNat x9 * 1)) = some (.string s12) ∧
 CALL PP 200 [(.pointer (some ⟨k0, 0, none⟩)), (.string s12)] w1 fun r17 w2 =>
 ∃ (x17a : Int) (v17b : Value), r17 = (.tuple #[(.int .i64 x17a), v17b]) ∧
 I (IntKind.wrap .i64 (x9 + (1 : Int))) w2 ∧ μ (IntKind.wrap .i64 (x9 + (1 : Int))) w2 < μ x9 w1) (
 R (.pointer (some ⟨k0, 0, none⟩)) w1)
noncomputable def A178 : Ann := (.two .leaf (.two (.two .leaf (.one (.loop 523840 [(9, .int .i64)] .leaf))) .leaf))
noncomputable def C178 : Code := (Tryz.f178.body).getD .skip
theorem c178 {k0 : Nat} {A1 : OA} {n1 : Nat} {c1 : Nat} {w : World} {R : Value → World → Prop} (h : S178 k0 A1 n1 c1 w R) : Calls PP 178 #[(.pointer (some ⟨k0, 0, none⟩)), (.slice A1 n1 c1)] w (Ret R) :=
 vcF_sound (c := C178) (ann := A178) follows_ Tryz.func178 (by kernel_rfl) (cast (by kernel_rfl) h)

end Go.SW
set_option linter.unusedVariables false
namespace Go.SW
open Go Go.Proofs
set_option maxRecDepth 100000
/- sealwax/sealwaxlaw19.Answers -/
def S27 (x0_0 : Int) (x0_1 : Int) (s0_2 : ByteArray) (A0_3 : OA) (n0_3 : Nat) (c0_3 : Nat) (A0_4 : OA) (n0_4 : Nat) (c0_4 : Nat) (x1_0 : Int) (x1_1 : Int) (s1_2 : ByteArray) (A1_3 : OA) (n1_3 : Nat) (c1_3 : Nat) (A1_4 : OA) (n1_4 : Nat) (c1_4 : Nat) (w : World) (R : Value → World → Prop) : Prop :=
 NEW w (.cells #[(.int .i64 x0_0), (.int .i64 x0_1), (.string s0_2), (.slice A0_3 n0_3 c0_3), (.slice A0_4 n0_4 c0_4)] 35) fun k2 w1 =>
 NEW w1 (.cells #[(.int .i64 x1_0), (.int .i64 x1_1), (.string s1_2), (.slice A1_3 n1_3 c1_3), (.slice A1_4 n1_4 c1_4)] 73) fun k3 w2 =>
 ∃ I : World → Prop, (
 ∃ I_1 : Bool → World → Prop, (
 ∃ (x7 : Int), w2.cell? ⟨k2, 0, none⟩ = some (.int .i64 x7) ∧
 ∃ (x9 : Int), w2.cell? ⟨k3, 0, none⟩ = some (.int .i64 x9) ∧
 SPLIT (x7 != x9) (
 I_1 true w2) (
 ∃ (x13 : Int), w2.cell? ⟨k2, 1, none⟩ = some (.int .i64 x13) ∧
 ∃ (x15 : Int), w2.cell? ⟨k3, 1, none⟩ = some (.int .i64 x15) ∧
 SPLIT (x13 != x15) (
 I_1 true w2) (
 ∃ (s20 : ByteArray), w2.cell? ⟨k2, 2, none⟩ = some (.string s20) ∧
 ∃ (s22 : ByteArray), w2.cell? ⟨k3, 2, none⟩ = some (.string s22) ∧
 SPLIT (!(s20.toList == s22.toList)) (
 I_1 true w2) (
 ∃ (A27 : OA) (n27 : Nat) (c27 : Nat), w2.cell? ⟨k2, 3, none⟩ = some (.slice A27 n27 c27) ∧
 ∃ (A29 : OA) (n29 : Nat) (c29 : Nat), w2.cell? ⟨k3, 3, none⟩ = some (.slice A29 n29 c29) ∧
 CALL PP 63 [(.slice A27 n27 c27), (.slice A29 n29 c29)] w2 fun r30 w3 =>
 ∃ (b30 : Bool), r30 = (.bool b30) ∧
 SPLIT (!b30) (
 I_1 true w3) (
 ∃ (A35 : OA) (n35 : Nat) (c35 : Nat), w3.cell? ⟨k2, 4, none⟩ = some (.slice A35 n35 c35) ∧
 ∃ (A38 : OA) (n38 : Nat) (c38 : Nat), w3.cell? ⟨k3, 4, none⟩ = some (.slice A38 n38 c38) ∧
 I_1 ((n35 : Int) != (n38 : Int)) w3))))) ∧
 ∀ (_j : Nat → Value) (b41 : Bool) (w3 : World), I_1 b41 w3 →
 SPLIT b41 (
 R (.bool false) w3) (
 I w3)) ∧
 ∀ (_j : Nat → Value) (w3 : World), I w3 →
 ∃ (A43 : OA) (n43 : Nat) (c43 : Nat), w3.cell? ⟨k3, 4, none⟩ = some (.slice A43 n43 c43) ∧
 ∃ (I_1 : Int → World → Prop) (μ : Int → World → Nat), I_1 (0 : Int) w3 ∧
 ∀ (_j : Nat → Value) (x45 : Int) (w4 : World), I_1 x45 w4 →
 SPLIT (decide (x45 < (n43 : Int))) (
 DRAW w4 fun w5 =>
 ∃ (A49 : OA) (n49 : Nat) (c49 : Nat), w5.cell? ⟨k2, 4, none⟩ = some (.slice A49 n49 c49) ∧
 (0 ≤ x45 ∧ x45 < (n49 : Int)) ∧
 SOMEA A49 fun a51 =>
 ∃ (s52_0 : ByteArray) (x52_1 : Int) (x52_2 : Int), RD w5 (Addr.add a51 (Int.toNat x45 * 3)) 0 [(.string s52_0), (.int .i64 x52_1), (.int .i64 x52_2)] ∧
 ∃ (A54 : OA) (n54 : Nat) (c54 : Nat), w5.cell? ⟨k3, 4, none⟩ = some (.slice A54 n54 c54) ∧
 (0 ≤ x45 ∧ x45 < (n54 : Int)) ∧
 SOMEA A54 fun a56 =>
 ∃ (s57_0 : ByteArray) (x57_1 : Int) (x57_2 : Int), RD w5 (Addr.add a56 (Int.toNat x45 * 3)) 0 [(.string s57_0), (.int .i64 x57_1), (.int .i64 x57_2)] ∧
 ∃ b58 : Bool, (do eqGuard .neq 131 (.tmp 52) (.tmp 57) (.agg #[(.string s52_0), (.int .i64 x52_1), (.int .i64 x52_2)]) (.agg #[(.string s57_0), (.int .i64 x57_1), (.int .i64 x57_2)]); binOp .neq 131 (.agg #[(.string s52_0), (.int .i64 x52_1), (.int .i64 x52_2)]) (.agg #[(.string s57_0), (.int .i64 x57_1), (.int .i64 x57_2)]) : Sem Value).run PP w5 = .ok (.bool b58) w5 ∧
 SPLIT b58 (
 R (.bool false) w5) (
 I_1 (IntKind.wrap .i64 (x45 + (1 : Int))) w5 ∧ μ (IntKind.wrap .i64 (x45 + (1 : Int))) w5 < μ x45 w4)) (
 R (.bool true) w4)
noncomputable def A27 : Ann := (.two .leaf (.cut 4398046511056 [] (.cut 4398046511040 [(41, .bool)] .leaf .leaf) (.two (.two .leaf (.one (.loop 1152886320234758192 [(45, .int .i64)] .leaf))) .leaf)))
noncomputable def C27 : Code := (Tryz.f27.body).getD .skip
theorem c27 {x0_0 : Int} {x0_1 : Int} {s0_2 : ByteArray} {A0_3 : OA} {n0_3 : Nat} {c0_3 : Nat} {A0_4 : OA} {n0_4 : Nat} {c0_4 : Nat} {x1_0 : Int} {x1_1 : Int} {s1_2 : ByteArray} {A1_3 : OA} {n1_3 : Nat} {c1_3 : Nat} {A1_4 : OA} {n1_4 : Nat} {c1_4 : Nat} {w : World} {R : Value → World → Prop} (h : S27 x0_0 x0_1 s0_2 A0_3 n0_3 c0_3 A0_4 n0_4 c0_4 x1_0 x1_1 s1_2 A1_3 n1_3 c1_3 A1_4 n1_4 c1_4 w R) : Calls PP 27 #[(.agg #[(.int .i64 x0_0), (.int .i64 x0_1), (.string s0_2), (.slice A0_3 n0_3 c0_3), (.slice A0_4 n0_4 c0_4)]), (.agg #[(.int .i64 x1_0), (.int .i64 x1_1), (.string s1_2), (.slice A1_3 n1_3 c1_3), (.slice A1_4 n1_4 c1_4)])] w (Ret R) :=
 vcF_sound (c := C27) (ann := A27) follows_ Tryz.func27 (by kernel_rfl) (cast (by kernel_rfl) h)

/- sealwax/sealwaxlaw19.Is -/
def S28 (k0 : Nat) (A1_0 : OA) (n1_0 : Nat) (c1_0 : Nat) (x1_1 : Int) (A1_2 : OA) (n1_2 : Nat) (c1_2 : Nat) (A1_3 : OA) (n1_3 : Nat) (c1_3 : Nat) (x1_4 : Int) (w : World) (R : Value → World → Prop) : Prop :=
 NEW w (.cells #[(.slice A1_0 n1_0 c1_0), (.int .i64 x1_1), (.slice A1_2 n1_2 c1_2), (.slice A1_3 n1_3 c1_3), (.int .i64 x1_4)] 69) fun k3 w1 =>
 CALL PP 14 [(.pointer (some ⟨k0, 0, none⟩))] w1 fun r20 w2 =>
 ∃ (p20 : OA), r20 = (.pointer p20) ∧
 ∃ I : World → Prop, (
 ∃ I_1 : Bool → World → Prop, (
 DRAW w2 fun w3 =>
 SPLIT (Option.isNone p20) (
 I_1 true w3) (
 ∃ (A26_0 : OA) (n26_0 : Nat) (c26_0 : Nat) (x26_1 : Int), RD w3 ⟨k3, 0, none⟩ 0 [(.slice A26_0 n26_0 c26_0), (.int .i64 x26_1)] ∧
 CALL PP 64 [(.pointer p20), (.agg #[(.slice A26_0 n26_0 c26_0), (.int .i64 x26_1)])] w3 fun r27 w4 =>
 ∃ (b27 : Bool), r27 = (.bool b27) ∧
 SPLIT (!b27) (
 I_1 true w4) (
 ∃ (x34 : Int), w4.cell? ⟨k3, 4, none⟩ = some (.int .i64 x34) ∧
 CALL PP 20 [(.pointer (some ⟨k0, 0, none⟩))] w4 fun r32 w5 =>
 ∃ (x32 : Int), r32 = (.int .i64 x32) ∧
 (loadVar 3 ⟨k3, 4, none⟩).run PP w5 = .ok (.int .i64 x34) w5 ∧
 I_1 (x32 != x34) w5))) ∧
 ∀ (_j : Nat → Value) (b36 : Bool) (w3 : World), I_1 b36 w3 →
 SPLIT b36 (
 R (.bool false) w3) (
 I w3)) ∧
 ∀ (_j : Nat → Value) (w3 : World), I w3 →
 ∃ (A38 : OA) (n38 : Nat) (c38 : Nat), w3.cell? ⟨k3, 2, none⟩ = some (.slice A38 n38 c38) ∧
 ∃ (I_1 : Int → World → Prop) (μ : Int → World → Nat), I_1 (0 : Int) w3 ∧
 ∀ (_j : Nat → Value) (x40 : Int) (w4 : World), I_1 x40 w4 →
 SPLIT (decide (x40 < (n38 : Int))) (
 ∃ I_2 : World → Prop, (
 (0 ≤ x40 ∧ x40 < (n38 : Int)) ∧
 SOMEA A38 fun a42 =>
 ∃ (x43_0 : Int) (x43_1 : Int) (A43_2 : OA) (n43_2 : Nat) (c43_2 : Nat), RD w4 (Addr.add a42 (Int.toNat x40 * 3)) 0 [(.int .i64 x43_0), (.int .i64 x43_1), (.slice A43_2 n43_2 c43_2)] ∧
 NEW w4 (.cells #[(.int .i64 0), (.int .i64 0), (.slice none 0 0)] 108) fun k7 w5 =>
 ST w5 ⟨k7, 0, none⟩ 0 [(.int .i64 x43_0), (.int .i64 x43_1), (.slice A43_2 n43_2 c43_2)] fun w6 =>
 ∃ (x47 : Int), w6.cell? ⟨k7, 0, none⟩ = some (.int .i64 x47) ∧
 CALL PP 17 [(.pointer (some ⟨k0, 0, none⟩)), (.int .i64 x47)] w6 fun r48 w7 =>
 ∃ (p48a : OA) (b48b : Bool), r48 = (.tuple #[(.pointer p48a), (.bool b48b)]) ∧
 ∃ I_3 : Bool → World → Prop, (
 SPLIT (!b48b) (
 I_3 true w7) (
 SPLIT (Option.isNone p48a) (
 I_3 true w7) (
 ∃ (x59_0 : Int) (x59_1 : Int) (A59_2 : OA) (n59_2 : Nat) (c59_2 : Nat), RD w7 ⟨k7, 0, none⟩ 0 [(.int .i64 x59_0), (.int .i64 x59_1), (.slice A59_2 n59_2 c59_2)] ∧
 CALL PP 65 [(.pointer p48a), (.agg #[(.int .i64 x59_0), (.int .i64 x59_1), (.slice A59_2 n59_2 c59_2)])] w7 fun r60 w8 =>
 ∃ (b60 : Bool), r60 = (.bool b60) ∧
 I_3 (!b60) w8))) ∧
 ∀ (_j : Nat → Value) (b62 : Bool) (w8 : World), I_3 b62 w8 →
 SPLIT b62 (
 R (.bool false) w8) (
 I_2 w8)) ∧
 ∀ (_j : Nat → Value) (w5 : World), I_2 w5 →
 I_1 (IntKind.wrap .i64 (x40 + (1 : Int))) w5 ∧ μ (IntKind.wrap .i64 (x40 + (1 : Int))) w5 < μ x40 w4) (
 ∃ (A65 : OA) (n65 : Nat) (c65 : Nat), w4.cell? ⟨k3, 3, none⟩ = some (.slice A65 n65 c65) ∧
 ∃ (I_2 : OA → Nat → Nat → Int → World → Prop) (μ_1 : OA → Nat → Nat → Int → World → Nat), I_2 none 0 0 (0 : Int) w4 ∧
 ∀ (_j : Nat → Value) (A10 : OA) (n10 : Nat) (c10 : Nat) (x67 : Int) (w5 : World), I_2 A10 n10 c10 x67 w5 →
 SPLIT (decide (x67 < (n65 : Int))) (
 ∃ I_3 : OA → Nat → Nat → World → Prop, (
 (0 ≤ x67 ∧ x67 < (n65 : Int)) ∧
 SOMEA A65 fun a69 =>
 ∃ (x70_0 : Int) (s70_1 : ByteArray), RD w5 (Addr.add a69 (Int.toNat x67 * 2)) 0 [(.int .i64 x70_0), (.string s70_1)] ∧
 NEW w5 (.cells #[(.int .i64 0), (.string ⟨#[]⟩)] 123) fun k12 w6 =>
 ST w6 ⟨k12, 0, none⟩ 0 [(.int .i64 x70_0), (.string s70_1)] fun w7 =>
 ∃ (x73 : Int), w7.cell? ⟨k12, 0, none⟩ = some (.int .i64 x73) ∧
 NEW w7 (.cells #[(.int .i64 x73)] 3) fun k74 w8 =>
 RUN PP (Builtin.append_ #[54, 54] 54 #[(.slice A10 n10 c10), (.slice (some ⟨k74, 0, none⟩) 1 1)]) w8 fun r75 w9 =>
 ∃ (A75 : OA) (n75 : Nat) (c75 : Nat), r75 = (.slice A75 n75 c75) ∧
 ∃ (x79 : Int), w9.cell? ⟨k12, 0, none⟩ = some (.int .i64 x79) ∧
 CALL PP 23 [(.pointer (some ⟨k0, 0, none⟩)), (.int .i64 x79)] w9 fun r80 w10 =>
 ∃ (s80a : ByteArray) (b80b : Bool), r80 = (.tuple #[(.string s80a), (.bool b80b)]) ∧
 SPLIT (!b80b) (
 R (.bool false) w10) (
 ∃ (s88 : ByteArray), w10.cell? ⟨k12, 1, none⟩ = some (.string s88) ∧
 SPLIT (!(s80a.toList == s88.toList)) (
 R (.bool false) w10) (
 I_3 A75 n75 c75 w10))) ∧
 ∀ (_j : Nat → Value) (A10_1 : OA) (n10_1 : Nat) (c10_1 : Nat) (w6 : World), I_3 A10_1 n10_1 c10_1 w6 →
 I_2 A10_1 n10_1 c10_1 (IntKind.wrap .i64 (x67 + (1 : Int))) w6 ∧ μ_1 A10_1 n10_1 c10_1 (IntKind.wrap .i64 (x67 + (1 : Int))) w6 < μ_1 A10 n10 c10 x67 w5) (
 CALL PP 17 [(.pointer (some ⟨k0, 0, none⟩)), (.int .i64 0)] w5 fun r94 w6 =>
 ∃ (p94a : OA) (b94b : Bool), r94 = (.tuple #[(.pointer p94a), (.bool b94b)]) ∧
 CALL PP 23 [(.pointer (some ⟨k0, 0, none⟩)), (.int .i64 0)] w6 fun r99 w7 =>
 ∃ (s99a : ByteArray) (b99b : Bool), r99 = (.tuple #[(.string s99a), (.bool b99b)]) ∧
 SPLIT (!b94b) (
 SPLIT (Option.isNone p94a) (
 SPLIT (!b99b) (
 CALL PP 19 [(.pointer (some ⟨k0, 0, none⟩))] w7 fun r114 w8 =>
 ∃ (A114 : OA) (n114 : Nat) (c114 : Nat), r114 = (.slice A114 n114 c114) ∧
 CALL PP 66 [(.slice A114 n114 c114), (.slice A10 n10 c10)] w8 fun r116 w9 =>
 ∃ (b116 : Bool), r116 = (.bool b116) ∧
 R (.bool b116) w9) (
 R (.bool false) w7)) (
 R (.bool false) w7)) (
 R (.bool false) w7)))
noncomputable def A28 : Ann := (.two .leaf (.two .leaf (.cut 137436856336 [] (.cut 137436856320 [(36, .bool)] .leaf .leaf) (.two (.two .leaf (.one (.loop 18446742974197924752 [(40, .int .i64)] (.two .leaf (.two .leaf (.cut 9223367638808265616 [] (.one (.two .leaf (.two .leaf (.cut 9221120237041090560 [(62, .bool)] .leaf .leaf)))) .leaf)))))) (.two .leaf (.two (.two .leaf (.one (.loop 4951760009567568509920113680 [(10, .slice), (67, .int .i64)] (.two .leaf (.two .leaf (.cut 2475879488274950191092626448 [(10, .slice)] .leaf .leaf)))))) .leaf))))))
noncomputable def C28 : Code := (Tryz.f28.body).getD .skip
theorem c28 {k0 : Nat} {A1_0 : OA} {n1_0 : Nat} {c1_0 : Nat} {x1_1 : Int} {A1_2 : OA} {n1_2 : Nat} {c1_2 : Nat} {A1_3 : OA} {n1_3 : Nat} {c1_3 : Nat} {x1_4 : Int} {w : World} {R : Value → World → Prop} (h : S28 k0 A1_0 n1_0 c1_0 x1_1 A1_2 n1_2 c1_2 A1_3 n1_3 c1_3 x1_4 w R) : Calls PP 28 #[(.pointer (some ⟨k0, 0, none⟩)), (.agg #[(.slice A1_0 n1_0 c1_0), (.int .i64 x1_1), (.slice A1_2 n1_2 c1_2), (.slice A1_3 n1_3 c1_3), (.int .i64 x1_4)])] w (Ret R) :=
 vcF_sound (c := C28) (ann := A28) follows_ Tryz.func28 (by kernel_rfl) (cast (by kernel_rfl) h)

/- sealwax/sealwaxlaw15.Same -/
def S63 (A0 : OA) (n0 : Nat) (c0 : Nat) (A1 : OA) (n1 : Nat) (c1 : Nat) (w : World) (R : Value → World → Prop) : Prop :=
 SPLIT ((n0 : Int) != (n1 : Int)) (
 R (.bool false) w) (
 ∃ (I : Int → World → Prop) (μ : Int → World → Nat), I (0 : Int) w ∧
 ∀ (_j : Nat → Value) (x13 : Int) (w1 : World), I x13 w1 →
 SPLIT (decide (x13 < (n0 : Int))) (
 DRAW w1 fun w2 =>
 (0 ≤ x13 ∧ x13 < (n0 : Int)) ∧
 SOMEA A0 fun a18 =>
 ∃ (s19 : ByteArray), w2.cell? (Addr.add a18 (Int.toNat x13 * 1)) = some (.string s19) ∧
 (0 ≤ x13 ∧ x13 < (n1 : Int)) ∧
 SOMEA A1 fun a22 =>
 ∃ (s23 : ByteArray), w2.cell? (Addr.add a22 (Int.toNat x13 * 1)) = some (.string s23) ∧
 SPLIT (!(s19.toList == s23.toList)) (
 R (.bool false) w2) (
 I (IntKind.wrap .i64 (x13 + (1 : Int))) w2 ∧ μ (IntKind.wrap .i64 (x13 + (1 : Int))) w2 < μ x13 w1)) (
 R (.bool true) w1))
noncomputable def A63 : Ann := (.two .leaf (.two .leaf (.two (.two .leaf (.one (.loop 67100720 [(13, .int .i64)] .leaf))) .leaf)))
noncomputable def C63 : Code := (Tryz.f63.body).getD .skip
theorem c63 {A0 : OA} {n0 : Nat} {c0 : Nat} {A1 : OA} {n1 : Nat} {c1 : Nat} {w : World} {R : Value → World → Prop} (h : S63 A0 n0 c0 A1 n1 c1 w R) : Calls PP 63 #[(.slice A0 n0 c0), (.slice A1 n1 c1)] w (Ret R) :=
 vcF_sound (c := C63) (ann := A63) follows_ Tryz.func63 (by kernel_rfl) (cast (by kernel_rfl) h)

/- sealwax/sealwaxlaw17.Is -/
def S64 (k0 : Nat) (A1_0 : OA) (n1_0 : Nat) (c1_0 : Nat) (x1_1 : Int) (w : World) (R : Value → World → Prop) : Prop :=
 NEW w (.cells #[(.slice A1_0 n1_0 c1_0), (.int .i64 x1_1)] 65) fun k3 w1 =>
 ∃ (A17 : OA) (n17 : Nat) (c17 : Nat), w1.cell? ⟨k3, 0, none⟩ = some (.slice A17 n17 c17) ∧
 ∃ (I : OA → Nat → Nat → Int → World → Prop) (μ : OA → Nat → Nat → Int → World → Nat), I none 0 0 (0 : Int) w1 ∧
 ∀ (_j : Nat → Value) (A5 : OA) (n5 : Nat) (c5 : Nat) (x19 : Int) (w2 : World), I A5 n5 c5 x19 w2 →
 SPLIT (decide (x19 < (n17 : Int))) (
 ∃ I_1 : OA → Nat → Nat → World → Prop, (
 (0 ≤ x19 ∧ x19 < (n17 : Int)) ∧
 SOMEA A17 fun a21 =>
 ∃ (s22_0 : ByteArray) (x22_1 : Int), RD w2 (Addr.add a21 (Int.toNat x19 * 2)) 0 [(.string s22_0), (.int .i64 x22_1)] ∧
 NEW w2 (.cells #[(.string ⟨#[]⟩), (.int .i64 0)] 114) fun k7 w3 =>
 ST w3 ⟨k7, 0, none⟩ 0 [(.string s22_0), (.int .i64 x22_1)] fun w4 =>
 ∃ (s25 : ByteArray), w4.cell? ⟨k7, 0, none⟩ = some (.string s25) ∧
 NEW w4 (.cells #[(.string s25)] 9) fun k26 w5 =>
 RUN PP (Builtin.append_ #[26, 26] 26 #[(.slice A5 n5 c5), (.slice (some ⟨k26, 0, none⟩) 1 1)]) w5 fun r27 w6 =>
 ∃ (A27 : OA) (n27 : Nat) (c27 : Nat), r27 = (.slice A27 n27 c27) ∧
 ∃ (s31 : ByteArray), w6.cell? ⟨k7, 0, none⟩ = some (.string s31) ∧
 CALL PP 16 [(.pointer (some ⟨k0, 0, none⟩)), (.string s31)] w6 fun r32 w7 =>
 ∃ (x32a : Int) (b32b : Bool), r32 = (.tuple #[(.int .i64 x32a), (.bool b32b)]) ∧
 ∃ (x38 : Int), w7.cell? ⟨k7, 1, none⟩ = some (.int .i64 x38) ∧
 CALL PP 99 [(.pointer (some ⟨k0, 0, none⟩)), (.int .i64 x38)] w7 fun r39 w8 =>
 ∃ (s39a : ByteArray) (b39b : Bool), r39 = (.tuple #[(.string s39a), (.bool b39b)]) ∧
 ∃ I_2 : Bool → World → Prop, (
 SPLIT (!b32b) (
 I_2 true w8) (
 ∃ (x47 : Int), w8.cell? ⟨k7, 1, none⟩ = some (.int .i64 x47) ∧
 SPLIT (x32a != x47) (
 I_2 true w8) (
 SPLIT (!b39b) (
 I_2 true w8) (
 ∃ (s57 : ByteArray), w8.cell? ⟨k7, 0, none⟩ = some (.string s57) ∧
 I_2 (!(s39a.toList == s57.toList)) w8)))) ∧
 ∀ (_j : Nat → Value) (b59 : Bool) (w9 : World), I_2 b59 w9 →
 SPLIT b59 (
 R (.bool false) w9) (
 I_1 A27 n27 c27 w9)) ∧
 ∀ (_j : Nat → Value) (A5_1 : OA) (n5_1 : Nat) (c5_1 : Nat) (w3 : World), I_1 A5_1 n5_1 c5_1 w3 →
 I A5_1 n5_1 c5_1 (IntKind.wrap .i64 (x19 + (1 : Int))) w3 ∧ μ A5_1 n5_1 c5_1 (IntKind.wrap .i64 (x19 + (1 : Int))) w3 < μ A5 n5 c5 x19 w2) (
 CALL PP 16 [(.pointer (some ⟨k0, 0, none⟩)), (.string ⟨#[]⟩)] w2 fun r63 w3 =>
 ∃ (x63a : Int) (b63b : Bool), r63 = (.tuple #[(.int .i64 x63a), (.bool b63b)]) ∧
 CALL PP 99 [(.pointer (some ⟨k0, 0, none⟩)), (.int .i64 0)] w3 fun r68 w4 =>
 ∃ (s68a : ByteArray) (b68b : Bool), r68 = (.tuple #[(.string s68a), (.bool b68b)]) ∧
 DRAW w4 fun w5 =>
 SPLIT (!b63b) (
 SPLIT (!b68b) (
 CALL PP 15 [(.pointer (some ⟨k0, 0, none⟩))] w5 fun r79 w6 =>
 ∃ (A79 : OA) (n79 : Nat) (c79 : Nat), r79 = (.slice A79 n79 c79) ∧
 CALL PP 63 [(.slice A79 n79 c79), (.slice A5 n5 c5)] w6 fun r81 w7 =>
 ∃ (b81 : Bool), r81 = (.bool b81) ∧
 SPLIT b81 (
 ∃ (x87 : Int), w7.cell? ⟨k3, 1, none⟩ = some (.int .i64 x87) ∧
 CALL PP 100 [(.pointer (some ⟨k0, 0, none⟩))] w7 fun r85 w8 =>
 ∃ (x85 : Int), r85 = (.int .i64 x85) ∧
 (loadVar 3 ⟨k3, 1, none⟩).run PP w8 = .ok (.int .i64 x87) w8 ∧
 SPLIT (x85 == x87) (
 ∃ (A93_0 : OA) (n93_0 : Nat) (c93_0 : Nat) (x93_1 : Int), RD w8 ⟨k3, 0, none⟩ 0 [(.slice A93_0 n93_0 c93_0), (.int .i64 x93_1)] ∧
 CALL PP 101 [(.pointer (some ⟨k0, 0, none⟩))] w8 fun r92 w9 =>
 ∃ (s92 : ByteArray), r92 = (.string s92) ∧
 (loadVar 65 ⟨k3, 0, none⟩).run PP w9 = .ok (.agg #[(.slice A93_0 n93_0 c93_0), (.int .i64 x93_1)]) w9 ∧
 CALL PP 102 [(.agg #[(.slice A93_0 n93_0 c93_0), (.int .i64 x93_1)])] w9 fun r94 w10 =>
 ∃ (s94 : ByteArray), r94 = (.string s94) ∧
 R (.bool (s92.toList == s94.toList)) w10) (
 R (.bool false) w8)) (
 R (.bool false) w7)) (
 R (.bool false) w5)) (
 R (.bool false) w5))
noncomputable def A64 : Ann := (.two .leaf (.two .leaf (.two (.two .leaf (.one (.loop 2305843009213173680 [(5, .slice), (19, .int .i64)] (.two .leaf (.two .leaf (.cut 1152921504604753840 [(5, .slice)] (.one (.two .leaf (.two .leaf (.two .leaf (.two .leaf (.cut 1152917106560335872 [(59, .bool)] .leaf .leaf)))))) .leaf)))))) .leaf)))
noncomputable def C64 : Code := (Tryz.f64.body).getD .skip
theorem c64 {k0 : Nat} {A1_0 : OA} {n1_0 : Nat} {c1_0 : Nat} {x1_1 : Int} {w : World} {R : Value → World → Prop} (h : S64 k0 A1_0 n1_0 c1_0 x1_1 w R) : Calls PP 64 #[(.pointer (some ⟨k0, 0, none⟩)), (.agg #[(.slice A1_0 n1_0 c1_0), (.int .i64 x1_1)])] w (Ret R) :=
 vcF_sound (c := C64) (ann := A64) follows_ Tryz.func64 (by kernel_rfl) (cast (by kernel_rfl) h)

/- sealwax/sealwaxlaw18.Is -/
def S65 (k0 : Nat) (x1_0 : Int) (x1_1 : Int) (A1_2 : OA) (n1_2 : Nat) (c1_2 : Nat) (w : World) (R : Value → World → Prop) : Prop :=
 NEW w (.cells #[(.int .i64 x1_0), (.int .i64 x1_1), (.slice A1_2 n1_2 c1_2)] 108) fun k3 w1 =>
 DRAW w1 fun w2 =>
 ∃ (A8 : OA) (n8 : Nat) (c8 : Nat), w2.cell? ⟨k3, 2, none⟩ = some (.slice A8 n8 c8) ∧
 CALL PP 18 [(.pointer (some ⟨k0, 0, none⟩))] w2 fun r6 w3 =>
 ∃ (A6 : OA) (n6 : Nat) (c6 : Nat), r6 = (.slice A6 n6 c6) ∧
 (loadVar 106 ⟨k3, 2, none⟩).run PP w3 = .ok (.slice A8 n8 c8) w3 ∧
 CALL PP 103 [(.slice A6 n6 c6), (.slice A8 n8 c8)] w3 fun r9 w4 =>
 ∃ (b9 : Bool), r9 = (.bool b9) ∧
 SPLIT b9 (
 ∃ (x14 : Int), w4.cell? ⟨k3, 1, none⟩ = some (.int .i64 x14) ∧
 CALL PP 104 [(.pointer (some ⟨k0, 0, none⟩))] w4 fun r12 w5 =>
 ∃ (x12 : Int), r12 = (.int .i64 x12) ∧
 (loadVar 3 ⟨k3, 1, none⟩).run PP w5 = .ok (.int .i64 x14) w5 ∧
 SPLIT (x12 == x14) (
 ∃ (x21 : Int), w5.cell? ⟨k3, 0, none⟩ = some (.int .i64 x21) ∧
 CALL PP 105 [(.pointer (some ⟨k0, 0, none⟩))] w5 fun r19 w6 =>
 ∃ (x19 : Int), r19 = (.int .i64 x19) ∧
 (loadVar 3 ⟨k3, 0, none⟩).run PP w6 = .ok (.int .i64 x21) w6 ∧
 SPLIT (x19 == x21) (
 ∃ (x27_0 : Int) (x27_1 : Int) (A27_2 : OA) (n27_2 : Nat) (c27_2 : Nat), RD w6 ⟨k3, 0, none⟩ 0 [(.int .i64 x27_0), (.int .i64 x27_1), (.slice A27_2 n27_2 c27_2)] ∧
 CALL PP 106 [(.pointer (some ⟨k0, 0, none⟩))] w6 fun r26 w7 =>
 ∃ (x26 : Int), r26 = (.int .i64 x26) ∧
 (loadVar 108 ⟨k3, 0, none⟩).run PP w7 = .ok (.agg #[(.int .i64 x27_0), (.int .i64 x27_1), (.slice A27_2 n27_2 c27_2)]) w7 ∧
 CALL PP 55 [(.agg #[(.int .i64 x27_0), (.int .i64 x27_1), (.slice A27_2 n27_2 c27_2)])] w7 fun r28 w8 =>
 ∃ (x28 : Int), r28 = (.int .i64 x28) ∧
 SPLIT (x26 == x28) (
 ∃ (x34_0 : Int) (x34_1 : Int) (A34_2 : OA) (n34_2 : Nat) (c34_2 : Nat), RD w8 ⟨k3, 0, none⟩ 0 [(.int .i64 x34_0), (.int .i64 x34_1), (.slice A34_2 n34_2 c34_2)] ∧
 CALL PP 107 [(.pointer (some ⟨k0, 0, none⟩))] w8 fun r33 w9 =>
 ∃ (s33 : ByteArray), r33 = (.string s33) ∧
 (loadVar 108 ⟨k3, 0, none⟩).run PP w9 = .ok (.agg #[(.int .i64 x34_0), (.int .i64 x34_1), (.slice A34_2 n34_2 c34_2)]) w9 ∧
 CALL PP 108 [(.agg #[(.int .i64 x34_0), (.int .i64 x34_1), (.slice A34_2 n34_2 c34_2)])] w9 fun r35 w10 =>
 ∃ (s35 : ByteArray), r35 = (.string s35) ∧
 R (.bool (s33.toList == s35.toList)) w10) (
 R (.bool false) w8)) (
 R (.bool false) w6)) (
 R (.bool false) w5)) (
 R (.bool false) w4)
noncomputable def A65 : Ann := .leaf
noncomputable def C65 : Code := (Tryz.f65.body).getD .skip
theorem c65 {k0 : Nat} {x1_0 : Int} {x1_1 : Int} {A1_2 : OA} {n1_2 : Nat} {c1_2 : Nat} {w : World} {R : Value → World → Prop} (h : S65 k0 x1_0 x1_1 A1_2 n1_2 c1_2 w R) : Calls PP 65 #[(.pointer (some ⟨k0, 0, none⟩)), (.agg #[(.int .i64 x1_0), (.int .i64 x1_1), (.slice A1_2 n1_2 c1_2)])] w (Ret R) :=
 vcF_sound (c := C65) (ann := A65) follows_ Tryz.func65 (by kernel_rfl) (cast (by kernel_rfl) h)

/- sealwax/sealwaxlaw06.Same -/
def S66 (A0 : OA) (n0 : Nat) (c0 : Nat) (A1 : OA) (n1 : Nat) (c1 : Nat) (w : World) (R : Value → World → Prop) : Prop :=
 SPLIT ((n0 : Int) != (n1 : Int)) (
 R (.bool false) w) (
 ∃ (I : Int → World → Prop) (μ : Int → World → Nat), I (0 : Int) w ∧
 ∀ (_j : Nat → Value) (x13 : Int) (w1 : World), I x13 w1 →
 SPLIT (decide (x13 < (n0 : Int))) (
 DRAW w1 fun w2 =>
 (0 ≤ x13 ∧ x13 < (n0 : Int)) ∧
 SOMEA A0 fun a18 =>
 ∃ (x19 : Int), w2.cell? (Addr.add a18 (Int.toNat x13 * 1)) = some (.int .i64 x19) ∧
 (0 ≤ x13 ∧ x13 < (n1 : Int)) ∧
 SOMEA A1 fun a22 =>
 ∃ (x23 : Int), w2.cell? (Addr.add a22 (Int.toNat x13 * 1)) = some (.int .i64 x23) ∧
 SPLIT (x19 != x23) (
 R (.bool false) w2) (
 I (IntKind.wrap .i64 (x13 + (1 : Int))) w2 ∧ μ (IntKind.wrap .i64 (x13 + (1 : Int))) w2 < μ x13 w1)) (
 R (.bool true) w1))
noncomputable def A66 : Ann := (.two .leaf (.two .leaf (.two (.two .leaf (.one (.loop 67100720 [(13, .int .i64)] .leaf))) .leaf)))
noncomputable def C66 : Code := (Tryz.f66.body).getD .skip
theorem c66 {A0 : OA} {n0 : Nat} {c0 : Nat} {A1 : OA} {n1 : Nat} {c1 : Nat} {w : World} {R : Value → World → Prop} (h : S66 A0 n0 c0 A1 n1 c1 w R) : Calls PP 66 #[(.slice A0 n0 c0), (.slice A1 n1 c1)] w (Ret R) :=
 vcF_sound (c := C66) (ann := A66) follows_ Tryz.func66 (by kernel_rfl) (cast (by kernel_rfl) h)

/- (*sealwax/names.Names).Name -/
def S99 (k0 : Nat) (x1 : Int) (w : World) (R : Value → World → Prop) : Prop :=
 ∃ (m11 : Option Nat), w.cell? ⟨k0, 0, none⟩ = some (.map m11) ∧
 RUN PP (Instr.range 89 (.map m11)) w fun r12 w1 =>
 ∃ p12 : OA, r12 = .pointer p12 ∧
 ∃ (I : World → Prop) (μ : World → Nat), I w1 ∧
 ∀ (_j : Nat → Value) (w2 : World), I w2 →
 RUN PP (Instr.next (.pointer p12) false 0) w2 fun r13 w3 =>
 ∃ (b13 : Bool) (l13 : List Value), r13 = .tuple ⟨.bool b13 :: l13⟩ ∧
 SPLIT b13 (
 RUN PP (Instr.entry (.pointer p12)) w3 fun r15 w4 =>
 ∃ (s15a : ByteArray) (x15b : Int), r15 = .tuple #[(.string s15a), (.int .i64 x15b)] ∧
 SPLIT (x15b == x1) (
 R (.tuple #[(.string s15a), (.bool true)]) w4) (
 I w4 ∧ μ w4 < μ w2)) (
 R (.tuple #[(.string ⟨#[]⟩), (.bool false)]) w3)
noncomputable def A99 : Ann := (.two .leaf (.two (.two .leaf (.one (.loop 4186352 [] .leaf))) .leaf))
noncomputable def C99 : Code := (Tryz.f99.body).getD .skip
theorem c99 {k0 : Nat} {x1 : Int} {w : World} {R : Value → World → Prop} (h : S99 k0 x1 w R) : Calls PP 99 #[(.pointer (some ⟨k0, 0, none⟩)), (.int .i64 x1)] w (Ret R) :=
 vcF_sound (c := C99) (ann := A99) follows_ Tryz.func99 (by kernel_rfl) (cast (by kernel_rfl) h)

/- (*sealwax/names.Names).Pack -/
def S101 (k0 : Nat) (w : World) (R : Value → World → Prop) : Prop :=
 NEW w (.cells #[(.pointer none), (.slice none 0 0)] 192) fun k3 w1 =>
 DRAW w1 fun w2 =>
 ∃ (x9 : Int), w2.cell? ⟨k0, 1, none⟩ = some (.int .i64 x9) ∧
 ∃ (m13 : Option Nat), w2.cell? ⟨k0, 0, none⟩ = some (.map m13) ∧
 ∃ x14 : Int, (Builtin.len_ #[89] 3 #[(.map m13)]).run PP w2 = .ok (.int .i64 x14) w2 ∧
 NEW w2 (.cells #[(.int .i64 x9), (.int .i64 x14)] 3) fun k15 w3 =>
 CALL PP 136 [(.pointer (some ⟨k3, 0, none⟩)), (.slice (some ⟨k15, 0, none⟩) 2 2)] w3 fun r16 w4 =>
 ∃ (p16 : OA), r16 = (.pointer p16) ∧
 CALL PP 15 [(.pointer (some ⟨k0, 0, none⟩))] w4 fun r18 w5 =>
 ∃ (A18 : OA) (n18 : Nat) (c18 : Nat), r18 = (.slice A18 n18 c18) ∧
 ∃ (I : Int → World → Prop) (μ : Int → World → Nat), I (0 : Int) w5 ∧
 ∀ (_j : Nat → Value) (x20 : Int) (w6 : World), I x20 w6 →
 SPLIT (decide (x20 < (n18 : Int))) (
 (0 ≤ x20 ∧ x20 < (n18 : Int)) ∧
 SOMEA A18 fun a22 =>
 ∃ (s23 : ByteArray), w6.cell? (Addr.add a22 (Int.toNat x20 * 1)) = some (.string s23) ∧
 DRAW w6 fun w7 =>
 ∃ (m29 : Option Nat), w7.cell? ⟨k0, 0, none⟩ = some (.map m29) ∧
 ∃ r31 : Value, (Instr.lookup 89 (.map m29) (.string s23) false).run PP w7 = .ok r31 w7 ∧
 ∃ (x31 : Int), r31 = (.int .i64 x31) ∧
 (
 CALL PP 137 [(.pointer (some ⟨k3, 0, none⟩)), (.string s23), (.int .i64 32)] w7 fun r25 w8 =>
 ∃ (p25 : OA), r25 = (.pointer p25) ∧
 (Instr.lookup 89 (.map m29) (.string s23) false).run PP w8 = .ok (.int .i64 x31) w8 ∧
 (loadVar 89 ⟨k0, 0, none⟩).run PP w8 = .ok (.map m29) w8 ∧
 NEW w8 (.cells #[(.int .i64 x31)] 3) fun k32 w9 =>
 CALL PP 136 [(.pointer p25), (.slice (some ⟨k32, 0, none⟩) 1 1)] w9 fun r33 w10 =>
 ∃ (p33 : OA), r33 = (.pointer p33) ∧
 I (IntKind.wrap .i64 (x20 + (1 : Int))) w10 ∧ μ (IntKind.wrap .i64 (x20 + (1 : Int))) w10 < μ x20 w6) ∧
 (
 NEW w7 (.cells #[(.int .i64 x31)] 3) fun k32 w8 =>
 CALL PP 137 [(.pointer (some ⟨k3, 0, none⟩)), (.string s23), (.int .i64 32)] w8 fun r25 w9 =>
 ∃ (p25 : OA), r25 = (.pointer p25) ∧
 CALL PP 136 [(.pointer p25), (.slice (some ⟨k32, 0, none⟩) 1 1)] w9 fun r33 w10 =>
 ∃ (p33 : OA), r33 = (.pointer p33) ∧
 I (IntKind.wrap .i64 (x20 + (1 : Int))) w10 ∧ μ (IntKind.wrap .i64 (x20 + (1 : Int))) w10 < μ x20 w6)) (
 CALL PP 138 [(.pointer (some ⟨k3, 0, none⟩))] w6 fun r35 w7 =>
 ∃ (s35 : ByteArray), r35 = (.string s35) ∧
 R (.string s35) w7)
noncomputable def A101 : Ann := (.two .leaf (.two .leaf (.two .leaf (.two (.two .leaf (.one (.loop 34358689824 [(20, .int .i64)] .leaf))) .leaf))))
noncomputable def C101 : Code := (Tryz.f101.body).getD .skip
theorem c101 {k0 : Nat} {w : World} {R : Value → World → Prop} (h : S101 k0 w R) : Calls PP 101 #[(.pointer (some ⟨k0, 0, none⟩))] w (Ret R) :=
 vcF_sound (c := C101) (ann := A101) follows_ Tryz.func101 (by kernel_rfl) (cast (by kernel_rfl) h)

/- sealwax/sealwaxref17.Pack -/
def S102 (A0_0 : OA) (n0_0 : Nat) (c0_0 : Nat) (x0_1 : Int) (w : World) (R : Value → World → Prop) : Prop :=
 NEW w (.cells #[(.slice A0_0 n0_0 c0_0), (.int .i64 x0_1)] 65) fun k1 w1 =>
 DRAW w1 fun w2 =>
 ∃ (x7 : Int), w2.cell? ⟨k1, 1, none⟩ = some (.int .i64 x7) ∧
 ∃ (A10 : OA) (n10 : Nat) (c10 : Nat), w2.cell? ⟨k1, 0, none⟩ = some (.slice A10 n10 c10) ∧
 CALL PP 139 [(.int .i64 x7)] w2 fun r8 w3 =>
 ∃ (s8 : ByteArray), r8 = (.string s8) ∧
 (loadVar 63 ⟨k1, 0, none⟩).run PP w3 = .ok (.slice A10 n10 c10) w3 ∧
 CALL PP 139 [(.int .i64 (n10 : Int))] w3 fun r12 w4 =>
 ∃ (s12 : ByteArray), r12 = (.string s12) ∧
 ((s8.size + s12.size : Nat) : Int) ≤ IntKind.max .i64 ∧
 ∃ (A15 : OA) (n15 : Nat) (c15 : Nat), w4.cell? ⟨k1, 0, none⟩ = some (.slice A15 n15 c15) ∧
 ∃ (I : ByteArray → Int → World → Prop) (μ : ByteArray → Int → World → Nat), I (s8 ++ s12) (0 : Int) w4 ∧
 ∀ (_j : Nat → Value) (s3 : ByteArray) (x17 : Int) (w5 : World), I s3 x17 w5 →
 SPLIT (decide (x17 < (n15 : Int))) (
 (0 ≤ x17 ∧ x17 < (n15 : Int)) ∧
 SOMEA A15 fun a19 =>
 ∃ (s20_0 : ByteArray) (x20_1 : Int), RD w5 (Addr.add a19 (Int.toNat x17 * 2)) 0 [(.string s20_0), (.int .i64 x20_1)] ∧
 NEW w5 (.cells #[(.string ⟨#[]⟩), (.int .i64 0)] 114) fun k5 w6 =>
 ST w6 ⟨k5, 0, none⟩ 0 [(.string s20_0), (.int .i64 x20_1)] fun w7 =>
 DRAW w7 fun w8 =>
 ∃ (s23 : ByteArray), w8.cell? ⟨k5, 0, none⟩ = some (.string s23) ∧
 ∃ (x26 : Int), w8.cell? ⟨k5, 1, none⟩ = some (.int .i64 x26) ∧
 CALL PP 140 [(.string s23), (.int .i64 32)] w8 fun r24 w9 =>
 ∃ (s24 : ByteArray), r24 = (.string s24) ∧
 (loadVar 3 ⟨k5, 1, none⟩).run PP w9 = .ok (.int .i64 x26) w9 ∧
 CALL PP 139 [(.int .i64 x26)] w9 fun r27 w10 =>
 ∃ (s27 : ByteArray), r27 = (.string s27) ∧
 ((s24.size + s27.size : Nat) : Int) ≤ IntKind.max .i64 ∧
 ((s3.size + (s24 ++ s27).size : Nat) : Int) ≤ IntKind.max .i64 ∧
 I (s3 ++ (s24 ++ s27)) (IntKind.wrap .i64 (x17 + (1 : Int))) w10 ∧ μ (s3 ++ (s24 ++ s27)) (IntKind.wrap .i64 (x17 + (1 : Int))) w10 < μ s3 x17 w5) (
 R (.string s3) w5)
noncomputable def A102 : Ann := (.two .leaf (.two .leaf (.two (.two .leaf (.one (.loop 2147352616 [(3, .str), (17, .int .i64)] .leaf))) .leaf)))
noncomputable def C102 : Code := (Tryz.f102.body).getD .skip
theorem c102 {A0_0 : OA} {n0_0 : Nat} {c0_0 : Nat} {x0_1 : Int} {w : World} {R : Value → World → Prop} (h : S102 A0_0 n0_0 c0_0 x0_1 w R) : Calls PP 102 #[(.agg #[(.slice A0_0 n0_0 c0_0), (.int .i64 x0_1)])] w (Ret R) :=
 vcF_sound (c := C102) (ann := A102) follows_ Tryz.func102 (by kernel_rfl) (cast (by kernel_rfl) h)

/- sealwax/sealwaxlaw18.Same -/
def S103 (A0 : OA) (n0 : Nat) (c0 : Nat) (A1 : OA) (n1 : Nat) (c1 : Nat) (w : World) (R : Value → World → Prop) : Prop :=
 SPLIT ((n0 : Int) != (n1 : Int)) (
 R (.bool false) w) (
 ∃ (I : Int → World → Prop) (μ : Int → World → Nat), I (0 : Int) w ∧
 ∀ (_j : Nat → Value) (x13 : Int) (w1 : World), I x13 w1 →
 SPLIT (decide (x13 < (n1 : Int))) (
 DRAW w1 fun w2 =>
 (0 ≤ x13 ∧ x13 < (n0 : Int)) ∧
 SOMEA A0 fun a18 =>
 ∃ (x19_0 : Int) (x19_1 : Int) (x19_2 : Int), RD w2 (Addr.add a18 (Int.toNat x13 * 3)) 0 [(.int .i64 x19_0), (.int .i64 x19_1), (.int .i64 x19_2)] ∧
 (0 ≤ x13 ∧ x13 < (n1 : Int)) ∧
 SOMEA A1 fun a22 =>
 ∃ (x23_0 : Int) (x23_1 : Int) (x23_2 : Int), RD w2 (Addr.add a22 (Int.toNat x13 * 3)) 0 [(.int .i64 x23_0), (.int .i64 x23_1), (.int .i64 x23_2)] ∧
 ∃ b24 : Bool, (do eqGuard .neq 118 (.tmp 19) (.tmp 23) (.agg #[(.int .i64 x19_0), (.int .i64 x19_1), (.int .i64 x19_2)]) (.agg #[(.int .i64 x23_0), (.int .i64 x23_1), (.int .i64 x23_2)]); binOp .neq 118 (.agg #[(.int .i64 x19_0), (.int .i64 x19_1), (.int .i64 x19_2)]) (.agg #[(.int .i64 x23_0), (.int .i64 x23_1), (.int .i64 x23_2)]) : Sem Value).run PP w2 = .ok (.bool b24) w2 ∧
 SPLIT b24 (
 R (.bool false) w2) (
 I (IntKind.wrap .i64 (x13 + (1 : Int))) w2 ∧ μ (IntKind.wrap .i64 (x13 + (1 : Int))) w2 < μ x13 w1)) (
 R (.bool true) w1))
noncomputable def A103 : Ann := (.two .leaf (.two .leaf (.two (.two .leaf (.one (.loop 67100720 [(13, .int .i64)] .leaf))) .leaf)))
noncomputable def C103 : Code := (Tryz.f103.body).getD .skip
theorem c103 {A0 : OA} {n0 : Nat} {c0 : Nat} {A1 : OA} {n1 : Nat} {c1 : Nat} {w : World} {R : Value → World → Prop} (h : S103 A0 n0 c0 A1 n1 c1 w R) : Calls PP 103 #[(.slice A0 n0 c0), (.slice A1 n1 c1)] w (Ret R) :=
 vcF_sound (c := C103) (ann := A103) follows_ Tryz.func103 (by kernel_rfl) (cast (by kernel_rfl) h)

/- (*sealwax/box.Box).Pack -/
def S107 (k0 : Nat) (w : World) (R : Value → World → Prop) : Prop :=
 NEW w (.cells #[(.pointer none), (.slice none 0 0)] 192) fun k3 w1 =>
 DRAW w1 fun w2 =>
 ∃ (x9 : Int), w2.cell? ⟨k0, 0, none⟩ = some (.int .i64 x9) ∧
 ∃ (x13 : Int), w2.cell? ⟨k0, 1, none⟩ = some (.int .i64 x13) ∧
 ∃ (A17 : OA) (n17 : Nat) (c17 : Nat), w2.cell? ⟨k0, 2, none⟩ = some (.slice A17 n17 c17) ∧
 NEW w2 (.cells #[(.int .i64 x9), (.int .i64 x13), (.int .i64 (n17 : Int))] 3) fun k19 w3 =>
 CALL PP 136 [(.pointer (some ⟨k3, 0, none⟩)), (.slice (some ⟨k19, 0, none⟩) 3 3)] w3 fun r20 w4 =>
 ∃ (p20 : OA), r20 = (.pointer p20) ∧
 ∃ (A24 : OA) (n24 : Nat) (c24 : Nat), w4.cell? ⟨k0, 2, none⟩ = some (.slice A24 n24 c24) ∧
 ∃ (I : Int → World → Prop) (μ : Int → World → Nat), I (0 : Int) w4 ∧
 ∀ (_j : Nat → Value) (x26 : Int) (w5 : World), I x26 w5 →
 SPLIT (decide (x26 < (n24 : Int))) (
 (0 ≤ x26 ∧ x26 < (n24 : Int)) ∧
 SOMEA A24 fun a28 =>
 ∃ (x29_0 : Int) (x29_1 : Int) (x29_2 : Int), RD w5 (Addr.add a28 (Int.toNat x26 * 3)) 0 [(.int .i64 x29_0), (.int .i64 x29_1), (.int .i64 x29_2)] ∧
 NEW w5 (.cells #[(.int .i64 0), (.int .i64 0), (.int .i64 0)] 53) fun k5 w6 =>
 ST w6 ⟨k5, 0, none⟩ 0 [(.int .i64 x29_0), (.int .i64 x29_1), (.int .i64 x29_2)] fun w7 =>
 ∃ (x31 : Int), w7.cell? ⟨k5, 0, none⟩ = some (.int .i64 x31) ∧
 ∃ (x33 : Int), w7.cell? ⟨k5, 1, none⟩ = some (.int .i64 x33) ∧
 ∃ (x35 : Int), w7.cell? ⟨k5, 2, none⟩ = some (.int .i64 x35) ∧
 NEW w7 (.cells #[(.int .i64 x31), (.int .i64 x33), (.int .i64 x35)] 3) fun k36 w8 =>
 CALL PP 136 [(.pointer (some ⟨k3, 0, none⟩)), (.slice (some ⟨k36, 0, none⟩) 3 3)] w8 fun r37 w9 =>
 ∃ (p37 : OA), r37 = (.pointer p37) ∧
 I (IntKind.wrap .i64 (x26 + (1 : Int))) w9 ∧ μ (IntKind.wrap .i64 (x26 + (1 : Int))) w9 < μ x26 w5) (
 CALL PP 138 [(.pointer (some ⟨k3, 0, none⟩))] w5 fun r39 w6 =>
 ∃ (s39 : ByteArray), r39 = (.string s39) ∧
 R (.string s39) w6)
noncomputable def A107 : Ann := (.two .leaf (.two .leaf (.two .leaf (.two (.two .leaf (.one (.loop 549688705056 [(26, .int .i64)] .leaf))) .leaf))))
noncomputable def C107 : Code := (Tryz.f107.body).getD .skip
theorem c107 {k0 : Nat} {w : World} {R : Value → World → Prop} (h : S107 k0 w R) : Calls PP 107 #[(.pointer (some ⟨k0, 0, none⟩))] w (Ret R) :=
 vcF_sound (c := C107) (ann := A107) follows_ Tryz.func107 (by kernel_rfl) (cast (by kernel_rfl) h)

/- sealwax/sealwaxref18.Pack -/
def S108 (x0_0 : Int) (x0_1 : Int) (A0_2 : OA) (n0_2 : Nat) (c0_2 : Nat) (w : World) (R : Value → World → Prop) : Prop :=
 NEW w (.cells #[(.int .i64 x0_0), (.int .i64 x0_1), (.slice A0_2 n0_2 c0_2)] 108) fun k1 w1 =>
 DRAW w1 fun w2 =>
 ∃ (x7 : Int), w2.cell? ⟨k1, 0, none⟩ = some (.int .i64 x7) ∧
 ∃ (x10 : Int), w2.cell? ⟨k1, 1, none⟩ = some (.int .i64 x10) ∧
 ∃ (A14 : OA) (n14 : Nat) (c14 : Nat), w2.cell? ⟨k1, 2, none⟩ = some (.slice A14 n14 c14) ∧
 CALL PP 139 [(.int .i64 x7)] w2 fun r8 w3 =>
 ∃ (s8 : ByteArray), r8 = (.string s8) ∧
 (loadVar 106 ⟨k1, 2, none⟩).run PP w3 = .ok (.slice A14 n14 c14) w3 ∧
 (loadVar 3 ⟨k1, 1, none⟩).run PP w3 = .ok (.int .i64 x10) w3 ∧
 CALL PP 139 [(.int .i64 x10)] w3 fun r11 w4 =>
 ∃ (s11 : ByteArray), r11 = (.string s11) ∧
 (loadVar 106 ⟨k1, 2, none⟩).run PP w4 = .ok (.slice A14 n14 c14) w4 ∧
 ((s8.size + s11.size : Nat) : Int) ≤ IntKind.max .i64 ∧
 CALL PP 139 [(.int .i64 (n14 : Int))] w4 fun r16 w5 =>
 ∃ (s16 : ByteArray), r16 = (.string s16) ∧
 (((s8 ++ s11).size + s16.size : Nat) : Int) ≤ IntKind.max .i64 ∧
 ∃ (A19 : OA) (n19 : Nat) (c19 : Nat), w5.cell? ⟨k1, 2, none⟩ = some (.slice A19 n19 c19) ∧
 ∃ (I : ByteArray → Int → World → Prop) (μ : ByteArray → Int → World → Nat), I ((s8 ++ s11) ++ s16) (0 : Int) w5 ∧
 ∀ (_j : Nat → Value) (s3 : ByteArray) (x21 : Int) (w6 : World), I s3 x21 w6 →
 SPLIT (decide (x21 < (n19 : Int))) (
 (0 ≤ x21 ∧ x21 < (n19 : Int)) ∧
 SOMEA A19 fun a23 =>
 ∃ (x24_0 : Int) (x24_1 : Int) (x24_2 : Int), RD w6 (Addr.add a23 (Int.toNat x21 * 3)) 0 [(.int .i64 x24_0), (.int .i64 x24_1), (.int .i64 x24_2)] ∧
 NEW w6 (.cells #[(.int .i64 0), (.int .i64 0), (.int .i64 0)] 118) fun k5 w7 =>
 ST w7 ⟨k5, 0, none⟩ 0 [(.int .i64 x24_0), (.int .i64 x24_1), (.int .i64 x24_2)] fun w8 =>
 DRAW w8 fun w9 =>
 ∃ (x27 : Int), w9.cell? ⟨k5, 0, none⟩ = some (.int .i64 x27) ∧
 ∃ (x30 : Int), w9.cell? ⟨k5, 1, none⟩ = some (.int .i64 x30) ∧
 ∃ (x34 : Int), w9.cell? ⟨k5, 2, none⟩ = some (.int .i64 x34) ∧
 CALL PP 139 [(.int .i64 x27)] w9 fun r28 w10 =>
 ∃ (s28 : ByteArray), r28 = (.string s28) ∧
 (loadVar 3 ⟨k5, 2, none⟩).run PP w10 = .ok (.int .i64 x34) w10 ∧
 (loadVar 3 ⟨k5, 1, none⟩).run PP w10 = .ok (.int .i64 x30) w10 ∧
 CALL PP 139 [(.int .i64 x30)] w10 fun r31 w11 =>
 ∃ (s31 : ByteArray), r31 = (.string s31) ∧
 (loadVar 3 ⟨k5, 2, none⟩).run PP w11 = .ok (.int .i64 x34) w11 ∧
 ((s28.size + s31.size : Nat) : Int) ≤ IntKind.max .i64 ∧
 CALL PP 139 [(.int .i64 x34)] w11 fun r35 w12 =>
 ∃ (s35 : ByteArray), r35 = (.string s35) ∧
 (((s28 ++ s31).size + s35.size : Nat) : Int) ≤ IntKind.max .i64 ∧
 ((s3.size + ((s28 ++ s31) ++ s35).size : Nat) : Int) ≤ IntKind.max .i64 ∧
 I (s3 ++ ((s28 ++ s31) ++ s35)) (IntKind.wrap .i64 (x21 + (1 : Int))) w12 ∧ μ (s3 ++ ((s28 ++ s31) ++ s35)) (IntKind.wrap .i64 (x21 + (1 : Int))) w12 < μ s3 x21 w6) (
 R (.string s3) w6)
noncomputable def A108 : Ann := (.two .leaf (.two .leaf (.two (.two .leaf (.one (.loop 549753716776 [(3, .str), (21, .int .i64)] .leaf))) .leaf)))
noncomputable def C108 : Code := (Tryz.f108.body).getD .skip
theorem c108 {x0_0 : Int} {x0_1 : Int} {A0_2 : OA} {n0_2 : Nat} {c0_2 : Nat} {w : World} {R : Value → World → Prop} (h : S108 x0_0 x0_1 A0_2 n0_2 c0_2 w R) : Calls PP 108 #[(.agg #[(.int .i64 x0_0), (.int .i64 x0_1), (.slice A0_2 n0_2 c0_2)])] w (Ret R) :=
 vcF_sound (c := C108) (ann := A108) follows_ Tryz.func108 (by kernel_rfl) (cast (by kernel_rfl) h)

end Go.SW
