/- PRINTED by wip/tools/gen.py: the functions' conditions in readable form, each with the kernel's word that it is the computed one. -/
import Derived.Test.YtfhiffnfngpkeaaGreatDoorVcSeat
set_option linter.unusedVariables false
namespace Go.SW
open Go Go.Proofs
set_option maxRecDepth 100000
/- (*sealwax/box.Box).List -/
def S18 (k0 : Nat) (w : World) (R : Value → World → Prop) : Prop :=
 ∃ (A6 : OA) (n6 : Nat) (c6 : Nat), w.cell? ⟨k0, 2, none⟩ = some (.slice A6 n6 c6) ∧
 CALL PP 40 [(.slice A6 n6 c6)] w fun r7 w1 =>
 ∃ (A7 : OA) (n7 : Nat) (c7 : Nat), r7 = (.slice A7 n7 c7) ∧
 R (.slice A7 n7 c7) w1
noncomputable def A18 : Ann := .leaf
noncomputable def C18 : Code := (Tryz.f18.body).getD .skip
theorem c18 {k0 : Nat} {w : World} {R : Value → World → Prop} (h : S18 k0 w R) : Calls PP 18 #[(.pointer (some ⟨k0, 0, none⟩))] w (Ret R) :=
 vcF_sound (c := C18) (ann := A18) follows_ Tryz.func18 (by kernel_rfl) (cast (by kernel_rfl) h)

/- (*sealwax/box.Box).Clone -/
def S39 (k0 : Nat) (w : World) (R : Value → World → Prop) : Prop :=
 DRAW w fun w1 =>
 ∃ (x6 : Int), w1.cell? ⟨k0, 0, none⟩ = some (.int .i64 x6) ∧
 ∃ (x10 : Int), w1.cell? ⟨k0, 1, none⟩ = some (.int .i64 x10) ∧
 ∃ (A14 : OA) (n14 : Nat) (c14 : Nat), w1.cell? ⟨k0, 2, none⟩ = some (.slice A14 n14 c14) ∧
 CALL PP 40 [(.slice A14 n14 c14)] w1 fun r15 w2 =>
 ∃ (A15 : OA) (n15 : Nat) (c15 : Nat), r15 = (.slice A15 n15 c15) ∧
 (loadVar 3 ⟨k0, 1, none⟩).run PP w2 = .ok (.int .i64 x10) w2 ∧
 (loadVar 3 ⟨k0, 0, none⟩).run PP w2 = .ok (.int .i64 x6) w2 ∧
 NEW w2 (.cells #[(.int .i64 x6), (.int .i64 x10), (.slice A15 n15 c15)] 95) fun k17 w3 =>
 R (.pointer (some ⟨k17, 0, none⟩)) w3
noncomputable def A39 : Ann := .leaf
noncomputable def C39 : Code := (Tryz.f39.body).getD .skip
theorem c39 {k0 : Nat} {w : World} {R : Value → World → Prop} (h : S39 k0 w R) : Calls PP 39 #[(.pointer (some ⟨k0, 0, none⟩))] w (Ret R) :=
 vcF_sound (c := C39) (ann := A39) follows_ Tryz.func39 (by kernel_rfl) (cast (by kernel_rfl) h)

/- slices.Clone[[]sealwax/box.Entry,sealwax/box.Entry] -/
def S40 (A0 : OA) (n0 : Nat) (c0 : Nat) (w : World) (R : Value → World → Prop) : Prop :=
 SPLIT (Option.isNone A0) (
 R (.slice none 0 0) w) (
 NEW w (.cells #[] 53) fun k5 w1 =>
 RUN PP (Builtin.append_ #[50, 50] 50 #[(.slice (some ⟨k5, 0, none⟩) 0 0), (.slice A0 n0 c0)]) w1 fun r7 w2 =>
 ∃ (A7 : OA) (n7 : Nat) (c7 : Nat), r7 = (.slice A7 n7 c7) ∧
 R (.slice A7 n7 c7) w2)
noncomputable def A40 : Ann := .leaf
noncomputable def C40 : Code := (Tryz.f40.body).getD .skip
theorem c40 {A0 : OA} {n0 : Nat} {c0 : Nat} {w : World} {R : Value → World → Prop} (h : S40 A0 n0 c0 w R) : Calls PP 40 #[(.slice A0 n0 c0)] w (Ret R) :=
 vcF_sound (c := C40) (ann := A40) follows_ Tryz.func40 (by kernel_rfl) (cast (by kernel_rfl) h)

/- sealwax/box.New -/
def S71 (x0 : Int) (w : World) (R : Value → World → Prop) : Prop :=
 NEW w (.cells #[(.int .i64 (if (if (1099511627776 : Int) < x0 then (1099511627776 : Int) else x0) > (1 : Int) then (if (1099511627776 : Int) < x0 then (1099511627776 : Int) else x0) else (1 : Int))), (.int .i64 1), (.slice none 0 0)] 95) fun k7 w1 =>
 R (.pointer (some ⟨k7, 0, none⟩)) w1
noncomputable def A71 : Ann := .leaf
noncomputable def C71 : Code := (Tryz.f71.body).getD .skip
theorem c71 {x0 : Int} {w : World} {R : Value → World → Prop} (h : S71 x0 w R) : Calls PP 71 #[(.int .i64 x0)] w (Ret R) :=
 vcF_sound (c := C71) (ann := A71) follows_ Tryz.func71 (by kernel_rfl) (cast (by kernel_rfl) h)

/- (*sealwax/box.Box).Set -/
def S80 (k0 : Nat) (x1 : Int) (x2 : Int) (x3 : Int) (w : World) (R : Value → World → Prop) : Prop :=
 NEW w (.cells #[(.int .i64 0), (.int .i64 0), (.int .i64 0)] 53) fun k8 w1 =>
 CALL PP 121 [(.pointer (some ⟨k0, 0, none⟩)), (.int .i64 x1)] w1 fun r13 w2 =>
 ∃ (x13 : Int), r13 = (.int .i64 x13) ∧
 SPLIT (decide (x13 < (0 : Int))) (
 ST w2 ⟨k8, 0, none⟩ 0 [(.int .i64 0), (.int .i64 0), (.int .i64 0)] fun w3 =>
 ∃ (x8r_0 : Int) (x8r_1 : Int) (x8r_2 : Int), RD w3 ⟨k8, 0, none⟩ 0 [(.int .i64 x8r_0), (.int .i64 x8r_1), (.int .i64 x8r_2)] ∧
 R (.tuple #[(.agg #[(.int .i64 x8r_0), (.int .i64 x8r_1), (.int .i64 x8r_2)]), (.int .i64 7)]) w3) (
 NEW w2 (.cells #[(.int .i64 x2), (.int .i64 x3)] 3) fun k21 w3 =>
 CALL PP 122 [(.slice (some ⟨k21, 0, none⟩) 2 2)] w3 fun r22 w4 =>
 ∃ (b22 : Bool), r22 = (.bool b22) ∧
 SPLIT (!b22) (
 ST w4 ⟨k8, 0, none⟩ 0 [(.int .i64 0), (.int .i64 0), (.int .i64 0)] fun w5 =>
 ∃ (x8r_0 : Int) (x8r_1 : Int) (x8r_2 : Int), RD w5 ⟨k8, 0, none⟩ 0 [(.int .i64 x8r_0), (.int .i64 x8r_1), (.int .i64 x8r_2)] ∧
 R (.tuple #[(.agg #[(.int .i64 x8r_0), (.int .i64 x8r_1), (.int .i64 x8r_2)]), (.int .i64 4)]) w5) (
 DRAW w4 fun w5 =>
 ∃ (A28 : OA) (n28 : Nat) (c28 : Nat), w5.cell? ⟨k0, 2, none⟩ = some (.slice A28 n28 c28) ∧
 ∃ (A33 : OA) (n33 : Nat) (c33 : Nat), w5.cell? ⟨k0, 2, none⟩ = some (.slice A33 n33 c33) ∧
 (0 ≤ x13 ∧ x13 < (n33 : Int)) ∧
 SOMEA A33 fun a35 =>
 ∃ (x37 : Int), w5.cell? (Addr.add (Addr.add a35 (Int.toNat x13 * 3)) 1) = some (.int .i64 x37) ∧
 (0 ≤ x13 ∧ x13 < (n28 : Int)) ∧
 SOMEA A28 fun a42 =>
 ST w5 (Addr.add (Addr.add a42 (Int.toNat x13 * 3)) 1) 0 [(.int .i64 (IntKind.wrap .i64 (((BitVec.ofInt 64 (IntKind.wrap .i64 (((BitVec.ofInt 64 x37) &&& ~~~(BitVec.ofInt 64 x3)).toNat : Int))) ||| (BitVec.ofInt 64 x2)).toNat : Int)))] fun w6 =>
 ∃ (A47 : OA) (n47 : Nat) (c47 : Nat), w6.cell? ⟨k0, 2, none⟩ = some (.slice A47 n47 c47) ∧
 (0 ≤ x13 ∧ x13 < (n47 : Int)) ∧
 SOMEA A47 fun a49 =>
 ∃ (x50_0 : Int) (x50_1 : Int) (x50_2 : Int), RD w6 (Addr.add a49 (Int.toNat x13 * 3)) 0 [(.int .i64 x50_0), (.int .i64 x50_1), (.int .i64 x50_2)] ∧
 ST w6 ⟨k8, 0, none⟩ 0 [(.int .i64 x50_0), (.int .i64 x50_1), (.int .i64 x50_2)] fun w7 =>
 ∃ (x8r_0 : Int) (x8r_1 : Int) (x8r_2 : Int), RD w7 ⟨k8, 0, none⟩ 0 [(.int .i64 x8r_0), (.int .i64 x8r_1), (.int .i64 x8r_2)] ∧
 R (.tuple #[(.agg #[(.int .i64 x8r_0), (.int .i64 x8r_1), (.int .i64 x8r_2)]), (.int .i64 0)]) w7))
noncomputable def A80 : Ann := .leaf
noncomputable def C80 : Code := (Tryz.f80.body).getD .skip
theorem c80 {k0 : Nat} {x1 : Int} {x2 : Int} {x3 : Int} {w : World} {R : Value → World → Prop} (h : S80 k0 x1 x2 x3 w R) : Calls PP 80 #[(.pointer (some ⟨k0, 0, none⟩)), (.int .i64 x1), (.int .i64 x2), (.int .i64 x3)] w (Ret R) :=
 vcF_sound (c := C80) (ann := A80) follows_ Tryz.func80 (by kernel_rfl) (cast (by kernel_rfl) h)

/- (*sealwax/box.Box).Next -/
def S104 (k0 : Nat) (w : World) (R : Value → World → Prop) : Prop :=
 ∃ (x6 : Int), w.cell? ⟨k0, 1, none⟩ = some (.int .i64 x6) ∧
 R (.int .i64 x6) w
noncomputable def A104 : Ann := .leaf
noncomputable def C104 : Code := (Tryz.f104.body).getD .skip
theorem c104 {k0 : Nat} {w : World} {R : Value → World → Prop} (h : S104 k0 w R) : Calls PP 104 #[(.pointer (some ⟨k0, 0, none⟩))] w (Ret R) :=
 vcF_sound (c := C104) (ann := A104) follows_ Tryz.func104 (by kernel_rfl) (cast (by kernel_rfl) h)

/- (*sealwax/box.Box).Validity -/
def S105 (k0 : Nat) (w : World) (R : Value → World → Prop) : Prop :=
 ∃ (x6 : Int), w.cell? ⟨k0, 0, none⟩ = some (.int .i64 x6) ∧
 R (.int .i64 x6) w
noncomputable def A105 : Ann := .leaf
noncomputable def C105 : Code := (Tryz.f105.body).getD .skip
theorem c105 {k0 : Nat} {w : World} {R : Value → World → Prop} (h : S105 k0 w R) : Calls PP 105 #[(.pointer (some ⟨k0, 0, none⟩))] w (Ret R) :=
 vcF_sound (c := C105) (ann := A105) follows_ Tryz.func105 (by kernel_rfl) (cast (by kernel_rfl) h)

/- (*sealwax/box.Box).Unseen -/
def S106 (k0 : Nat) (w : World) (R : Value → World → Prop) : Prop :=
 ∃ (A9 : OA) (n9 : Nat) (c9 : Nat), w.cell? ⟨k0, 2, none⟩ = some (.slice A9 n9 c9) ∧
 ∃ (I : Int → Int → World → Prop) (μ : Int → Int → World → Nat), I (0 : Int) (0 : Int) w ∧
 ∀ (_j : Nat → Value) (x3 : Int) (x11 : Int) (w1 : World), I x3 x11 w1 →
 SPLIT (decide (x11 < (n9 : Int))) (
 (0 ≤ x11 ∧ x11 < (n9 : Int)) ∧
 SOMEA A9 fun a13 =>
 ∃ (x14_0 : Int) (x14_1 : Int) (x14_2 : Int), RD w1 (Addr.add a13 (Int.toNat x11 * 3)) 0 [(.int .i64 x14_0), (.int .i64 x14_1), (.int .i64 x14_2)] ∧
 NEW w1 (.cells #[(.int .i64 0), (.int .i64 0), (.int .i64 0)] 53) fun k5 w2 =>
 ST w2 ⟨k5, 0, none⟩ 0 [(.int .i64 x14_0), (.int .i64 x14_1), (.int .i64 x14_2)] fun w3 =>
 ∃ (x16 : Int), w3.cell? ⟨k5, 1, none⟩ = some (.int .i64 x16) ∧
 SPLIT ((IntKind.wrap .i64 (((BitVec.ofInt 64 x16) &&& (BitVec.ofInt 64 (1 : Int))).toNat : Int)) == (0 : Int)) (
 I (IntKind.wrap .i64 (x3 + (1 : Int))) (IntKind.wrap .i64 (x11 + (1 : Int))) w3 ∧ μ (IntKind.wrap .i64 (x3 + (1 : Int))) (IntKind.wrap .i64 (x11 + (1 : Int))) w3 < μ x3 x11 w1) (
 I x3 (IntKind.wrap .i64 (x11 + (1 : Int))) w3 ∧ μ x3 (IntKind.wrap .i64 (x11 + (1 : Int))) w3 < μ x3 x11 w1)) (
 R (.int .i64 x3) w1)
noncomputable def A106 : Ann := (.two .leaf (.two .leaf (.two (.two .leaf (.one (.loop 4192296 [(3, .int .i64), (11, .int .i64)] .leaf))) .leaf)))
noncomputable def C106 : Code := (Tryz.f106.body).getD .skip
theorem c106 {k0 : Nat} {w : World} {R : Value → World → Prop} (h : S106 k0 w R) : Calls PP 106 #[(.pointer (some ⟨k0, 0, none⟩))] w (Ret R) :=
 vcF_sound (c := C106) (ann := A106) follows_ Tryz.func106 (by kernel_rfl) (cast (by kernel_rfl) h)

/- (*sealwax/box.Box).Get -/
def S119 (k0 : Nat) (x1 : Int) (w : World) (R : Value → World → Prop) : Prop :=
 NEW w (.cells #[(.int .i64 0), (.int .i64 0), (.int .i64 0)] 53) fun k4 w1 =>
 CALL PP 121 [(.pointer (some ⟨k0, 0, none⟩)), (.int .i64 x1)] w1 fun r9 w2 =>
 ∃ (x9 : Int), r9 = (.int .i64 x9) ∧
 SPLIT (decide (x9 < (0 : Int))) (
 ST w2 ⟨k4, 0, none⟩ 0 [(.int .i64 0), (.int .i64 0), (.int .i64 0)] fun w3 =>
 ∃ (x4r_0 : Int) (x4r_1 : Int) (x4r_2 : Int), RD w3 ⟨k4, 0, none⟩ 0 [(.int .i64 x4r_0), (.int .i64 x4r_1), (.int .i64 x4r_2)] ∧
 R (.tuple #[(.agg #[(.int .i64 x4r_0), (.int .i64 x4r_1), (.int .i64 x4r_2)]), (.int .i64 7)]) w3) (
 ∃ (A16 : OA) (n16 : Nat) (c16 : Nat), w2.cell? ⟨k0, 2, none⟩ = some (.slice A16 n16 c16) ∧
 (0 ≤ x9 ∧ x9 < (n16 : Int)) ∧
 SOMEA A16 fun a18 =>
 ∃ (x19_0 : Int) (x19_1 : Int) (x19_2 : Int), RD w2 (Addr.add a18 (Int.toNat x9 * 3)) 0 [(.int .i64 x19_0), (.int .i64 x19_1), (.int .i64 x19_2)] ∧
 ST w2 ⟨k4, 0, none⟩ 0 [(.int .i64 x19_0), (.int .i64 x19_1), (.int .i64 x19_2)] fun w3 =>
 ∃ (x4r_0 : Int) (x4r_1 : Int) (x4r_2 : Int), RD w3 ⟨k4, 0, none⟩ 0 [(.int .i64 x4r_0), (.int .i64 x4r_1), (.int .i64 x4r_2)] ∧
 R (.tuple #[(.agg #[(.int .i64 x4r_0), (.int .i64 x4r_1), (.int .i64 x4r_2)]), (.int .i64 0)]) w3)
noncomputable def A119 : Ann := .leaf
noncomputable def C119 : Code := (Tryz.f119.body).getD .skip
theorem c119 {k0 : Nat} {x1 : Int} {w : World} {R : Value → World → Prop} (h : S119 k0 x1 w R) : Calls PP 119 #[(.pointer (some ⟨k0, 0, none⟩)), (.int .i64 x1)] w (Ret R) :=
 vcF_sound (c := C119) (ann := A119) follows_ Tryz.func119 (by kernel_rfl) (cast (by kernel_rfl) h)

/- (*sealwax/box.Box).Remove -/
def S120 (k0 : Nat) (x1 : Int) (w : World) (R : Value → World → Prop) : Prop :=
 NEW w (.cells #[(.int .i64 0), (.int .i64 0), (.int .i64 0)] 53) fun k4 w1 =>
 CALL PP 119 [(.pointer (some ⟨k0, 0, none⟩)), (.int .i64 x1)] w1 fun r11 w2 =>
 ∃ (x11a_0 : Int) (x11a_1 : Int) (x11a_2 : Int) (x11b : Int), r11 = (.tuple #[(.agg #[(.int .i64 x11a_0), (.int .i64 x11a_1), (.int .i64 x11a_2)]), (.int .i64 x11b)]) ∧
 NEW w2 (.cells #[(.int .i64 0), (.int .i64 0), (.int .i64 0)] 53) fun k6 w3 =>
 ST w3 ⟨k6, 0, none⟩ 0 [(.int .i64 x11a_0), (.int .i64 x11a_1), (.int .i64 x11a_2)] fun w4 =>
 SPLIT (x11b == (0 : Int)) (
 ∃ (A20 : OA) (n20 : Nat) (c20 : Nat), w4.cell? ⟨k0, 2, none⟩ = some (.slice A20 n20 c20) ∧
 CALL PP 147 [(.slice A20 n20 c20), (.func (.func 148) #[] #[(.pointer (some ⟨k6, 0, none⟩))])] w4 fun r22 w5 =>
 ∃ (A22 : OA) (n22 : Nat) (c22 : Nat), r22 = (.slice A22 n22 c22) ∧
 ST w5 ⟨k0, 2, none⟩ 0 [(.slice A22 n22 c22)] fun w6 =>
 ∃ (x25_0 : Int) (x25_1 : Int) (x25_2 : Int), RD w6 ⟨k6, 0, none⟩ 0 [(.int .i64 x25_0), (.int .i64 x25_1), (.int .i64 x25_2)] ∧
 ST w6 ⟨k4, 0, none⟩ 0 [(.int .i64 x25_0), (.int .i64 x25_1), (.int .i64 x25_2)] fun w7 =>
 ∃ (x4r_0 : Int) (x4r_1 : Int) (x4r_2 : Int), RD w7 ⟨k4, 0, none⟩ 0 [(.int .i64 x4r_0), (.int .i64 x4r_1), (.int .i64 x4r_2)] ∧
 R (.tuple #[(.agg #[(.int .i64 x4r_0), (.int .i64 x4r_1), (.int .i64 x4r_2)]), (.int .i64 x11b)]) w7) (
 ∃ (x25_0 : Int) (x25_1 : Int) (x25_2 : Int), RD w4 ⟨k6, 0, none⟩ 0 [(.int .i64 x25_0), (.int .i64 x25_1), (.int .i64 x25_2)] ∧
 ST w4 ⟨k4, 0, none⟩ 0 [(.int .i64 x25_0), (.int .i64 x25_1), (.int .i64 x25_2)] fun w5 =>
 ∃ (x4r_0 : Int) (x4r_1 : Int) (x4r_2 : Int), RD w5 ⟨k4, 0, none⟩ 0 [(.int .i64 x4r_0), (.int .i64 x4r_1), (.int .i64 x4r_2)] ∧
 R (.tuple #[(.agg #[(.int .i64 x4r_0), (.int .i64 x4r_1), (.int .i64 x4r_2)]), (.int .i64 x11b)]) w5)
noncomputable def A120 : Ann := .leaf
noncomputable def C120 : Code := (Tryz.f120.body).getD .skip
theorem c120 {k0 : Nat} {x1 : Int} {w : World} {R : Value → World → Prop} (h : S120 k0 x1 w R) : Calls PP 120 #[(.pointer (some ⟨k0, 0, none⟩)), (.int .i64 x1)] w (Ret R) :=
 vcF_sound (c := C120) (ann := A120) follows_ Tryz.func120 (by kernel_rfl) (cast (by kernel_rfl) h)

/- (*sealwax/box.Box).at -/
def S121 (k0 : Nat) (x1 : Int) (w : World) (R : Value → World → Prop) : Prop :=
 NEW w (.cells #[(.int .i64 x1)] 3) fun k3 w1 =>
 ∃ (A8 : OA) (n8 : Nat) (c8 : Nat), w1.cell? ⟨k0, 2, none⟩ = some (.slice A8 n8 c8) ∧
 CALL PP 149 [(.slice A8 n8 c8), (.func (.func 150) #[] #[(.pointer (some ⟨k3, 0, none⟩))])] w1 fun r10 w2 =>
 ∃ (x10 : Int), r10 = (.int .i64 x10) ∧
 R (.int .i64 x10) w2
noncomputable def A121 : Ann := .leaf
noncomputable def C121 : Code := (Tryz.f121.body).getD .skip
theorem c121 {k0 : Nat} {x1 : Int} {w : World} {R : Value → World → Prop} (h : S121 k0 x1 w R) : Calls PP 121 #[(.pointer (some ⟨k0, 0, none⟩)), (.int .i64 x1)] w (Ret R) :=
 vcF_sound (c := C121) (ann := A121) follows_ Tryz.func121 (by kernel_rfl) (cast (by kernel_rfl) h)

/- sealwax/box.flags -/
def S122 (A0 : OA) (n0 : Nat) (c0 : Nat) (w : World) (R : Value → World → Prop) : Prop :=
 CALL PP 151 [(.slice A0 n0 c0), (.func (.func 152) #[] #[])] w fun r4 w1 =>
 ∃ (b4 : Bool), r4 = (.bool b4) ∧
 R (.bool (!b4)) w1
noncomputable def A122 : Ann := .leaf
noncomputable def C122 : Code := (Tryz.f122.body).getD .skip
theorem c122 {A0 : OA} {n0 : Nat} {c0 : Nat} {w : World} {R : Value → World → Prop} (h : S122 A0 n0 c0 w R) : Calls PP 122 #[(.slice A0 n0 c0)] w (Ret R) :=
 vcF_sound (c := C122) (ann := A122) follows_ Tryz.func122 (by kernel_rfl) (cast (by kernel_rfl) h)

/- (*sealwax/box.Box).Expunge -/
def S123 (k0 : Nat) (w : World) (R : Value → World → Prop) : Prop :=
 ∃ (A10 : OA) (n10 : Nat) (c10 : Nat), w.cell? ⟨k0, 2, none⟩ = some (.slice A10 n10 c10) ∧
 ∃ (I : OA → Nat → Nat → OA → Nat → Nat → Int → World → Prop) (μ : OA → Nat → Nat → OA → Nat → Nat → Int → World → Nat), I none 0 0 none 0 0 (0 : Int) w ∧
 ∀ (_j : Nat → Value) (A3 : OA) (n3 : Nat) (c3 : Nat) (A4 : OA) (n4 : Nat) (c4 : Nat) (x12 : Int) (w1 : World), I A3 n3 c3 A4 n4 c4 x12 w1 →
 SPLIT (decide (x12 < (n10 : Int))) (
 (0 ≤ x12 ∧ x12 < (n10 : Int)) ∧
 SOMEA A10 fun a14 =>
 ∃ (x15_0 : Int) (x15_1 : Int) (x15_2 : Int), RD w1 (Addr.add a14 (Int.toNat x12 * 3)) 0 [(.int .i64 x15_0), (.int .i64 x15_1), (.int .i64 x15_2)] ∧
 NEW w1 (.cells #[(.int .i64 0), (.int .i64 0), (.int .i64 0)] 53) fun k6 w2 =>
 ST w2 ⟨k6, 0, none⟩ 0 [(.int .i64 x15_0), (.int .i64 x15_1), (.int .i64 x15_2)] fun w3 =>
 ∃ (x17 : Int), w3.cell? ⟨k6, 1, none⟩ = some (.int .i64 x17) ∧
 SPLIT ((IntKind.wrap .i64 (((BitVec.ofInt 64 x17) &&& (BitVec.ofInt 64 (8 : Int))).toNat : Int)) != (0 : Int)) (
 ∃ (x21_0 : Int) (x21_1 : Int) (x21_2 : Int), RD w3 ⟨k6, 0, none⟩ 0 [(.int .i64 x21_0), (.int .i64 x21_1), (.int .i64 x21_2)] ∧
 NEW w3 (.cells #[(.int .i64 x21_0), (.int .i64 x21_1), (.int .i64 x21_2)] 53) fun k22 w4 =>
 RUN PP (Builtin.append_ #[50, 50] 50 #[(.slice A3 n3 c3), (.slice (some ⟨k22, 0, none⟩) 1 1)]) w4 fun r23 w5 =>
 ∃ (A23 : OA) (n23 : Nat) (c23 : Nat), r23 = (.slice A23 n23 c23) ∧
 I A23 n23 c23 A4 n4 c4 (IntKind.wrap .i64 (x12 + (1 : Int))) w5 ∧ μ A23 n23 c23 A4 n4 c4 (IntKind.wrap .i64 (x12 + (1 : Int))) w5 < μ A3 n3 c3 A4 n4 c4 x12 w1) (
 ∃ (x25_0 : Int) (x25_1 : Int) (x25_2 : Int), RD w3 ⟨k6, 0, none⟩ 0 [(.int .i64 x25_0), (.int .i64 x25_1), (.int .i64 x25_2)] ∧
 NEW w3 (.cells #[(.int .i64 x25_0), (.int .i64 x25_1), (.int .i64 x25_2)] 53) fun k26 w4 =>
 RUN PP (Builtin.append_ #[50, 50] 50 #[(.slice A4 n4 c4), (.slice (some ⟨k26, 0, none⟩) 1 1)]) w4 fun r27 w5 =>
 ∃ (A27 : OA) (n27 : Nat) (c27 : Nat), r27 = (.slice A27 n27 c27) ∧
 I A3 n3 c3 A27 n27 c27 (IntKind.wrap .i64 (x12 + (1 : Int))) w5 ∧ μ A3 n3 c3 A27 n27 c27 (IntKind.wrap .i64 (x12 + (1 : Int))) w5 < μ A3 n3 c3 A4 n4 c4 x12 w1)) (
 ST w1 ⟨k0, 2, none⟩ 0 [(.slice A4 n4 c4)] fun w2 =>
 R (.slice A3 n3 c3) w2)
noncomputable def A123 : Ann := (.two .leaf (.two .leaf (.two (.two .leaf (.one (.loop 536866904 [(3, .slice), (4, .slice), (12, .int .i64)] .leaf))) .leaf)))
noncomputable def C123 : Code := (Tryz.f123.body).getD .skip
theorem c123 {k0 : Nat} {w : World} {R : Value → World → Prop} (h : S123 k0 w R) : Calls PP 123 #[(.pointer (some ⟨k0, 0, none⟩))] w (Ret R) :=
 vcF_sound (c := C123) (ann := A123) follows_ Tryz.func123 (by kernel_rfl) (cast (by kernel_rfl) h)

/- (*sealwax/box.Box).Add -/
def S146 (k0 : Nat) (x1 : Int) (x2 : Int) (w : World) (R : Value → World → Prop) : Prop :=
 NEW w (.cells #[(.int .i64 0), (.int .i64 0), (.int .i64 0)] 53) fun k6 w1 =>
 ∃ I : World → Prop, (
 CALL PP 153 [(.int .i64 x1), (.int .i64 1), (.int .i64 1099511627776)] w1 fun r11 w2 =>
 ∃ (b11 : Bool), r11 = (.bool b11) ∧
 SPLIT (!b11) (
 ST w2 ⟨k6, 0, none⟩ 0 [(.int .i64 0), (.int .i64 0), (.int .i64 0)] fun w3 =>
 ∃ (x6r_0 : Int) (x6r_1 : Int) (x6r_2 : Int), RD w3 ⟨k6, 0, none⟩ 0 [(.int .i64 x6r_0), (.int .i64 x6r_1), (.int .i64 x6r_2)] ∧
 R (.tuple #[(.agg #[(.int .i64 x6r_0), (.int .i64 x6r_1), (.int .i64 x6r_2)]), (.int .i64 4)]) w3) (
 NEW w2 (.cells #[(.int .i64 x2)] 3) fun k15 w3 =>
 CALL PP 122 [(.slice (some ⟨k15, 0, none⟩) 1 1)] w3 fun r16 w4 =>
 ∃ (b16 : Bool), r16 = (.bool b16) ∧
 SPLIT (!b16) (
 ST w4 ⟨k6, 0, none⟩ 0 [(.int .i64 0), (.int .i64 0), (.int .i64 0)] fun w5 =>
 ∃ (x6r_0 : Int) (x6r_1 : Int) (x6r_2 : Int), RD w5 ⟨k6, 0, none⟩ 0 [(.int .i64 x6r_0), (.int .i64 x6r_1), (.int .i64 x6r_2)] ∧
 R (.tuple #[(.agg #[(.int .i64 x6r_0), (.int .i64 x6r_1), (.int .i64 x6r_2)]), (.int .i64 4)]) w5) (
 ∃ (A24 : OA) (n24 : Nat) (c24 : Nat), w4.cell? ⟨k0, 2, none⟩ = some (.slice A24 n24 c24) ∧
 SPLIT (decide ((n24 : Int) ≥ (256 : Int))) (
 ST w4 ⟨k6, 0, none⟩ 0 [(.int .i64 0), (.int .i64 0), (.int .i64 0)] fun w5 =>
 ∃ (x6r_0 : Int) (x6r_1 : Int) (x6r_2 : Int), RD w5 ⟨k6, 0, none⟩ 0 [(.int .i64 x6r_0), (.int .i64 x6r_1), (.int .i64 x6r_2)] ∧
 R (.tuple #[(.agg #[(.int .i64 x6r_0), (.int .i64 x6r_1), (.int .i64 x6r_2)]), (.int .i64 8)]) w5) (
 I w4)))) ∧
 ∀ (_j : Nat → Value) (w2 : World), I w2 →
 ∃ (x31 : Int), w2.cell? ⟨k0, 1, none⟩ = some (.int .i64 x31) ∧
 NEW w2 (.cells #[(.int .i64 0), (.int .i64 0), (.int .i64 0)] 53) fun k8 w3 =>
 ST w3 ⟨k8, 0, none⟩ 0 [(.int .i64 x31), (.int .i64 x2), (.int .i64 x1)] fun w4 =>
 DRAW w4 fun w5 =>
 ∃ (A39 : OA) (n39 : Nat) (c39 : Nat), w5.cell? ⟨k0, 2, none⟩ = some (.slice A39 n39 c39) ∧
 ∃ (x40_0 : Int) (x40_1 : Int) (x40_2 : Int), RD w5 ⟨k8, 0, none⟩ 0 [(.int .i64 x40_0), (.int .i64 x40_1), (.int .i64 x40_2)] ∧
 NEW w5 (.cells #[(.int .i64 x40_0), (.int .i64 x40_1), (.int .i64 x40_2)] 53) fun k41 w6 =>
 (loadVar 50 ⟨k0, 2, none⟩).run PP w6 = .ok (.slice A39 n39 c39) w6 ∧
 RUN PP (Builtin.append_ #[50, 50] 50 #[(.slice A39 n39 c39), (.slice (some ⟨k41, 0, none⟩) 1 1)]) w6 fun r42 w7 =>
 ∃ (A42 : OA) (n42 : Nat) (c42 : Nat), r42 = (.slice A42 n42 c42) ∧
 ST w7 ⟨k0, 2, none⟩ 0 [(.slice A42 n42 c42)] fun w8 =>
 ∃ (x48 : Int), w8.cell? ⟨k0, 1, none⟩ = some (.int .i64 x48) ∧
 ST w8 ⟨k0, 1, none⟩ 0 [(.int .i64 (IntKind.wrap .i64 (x48 + (1 : Int))))] fun w9 =>
 ∃ (x52_0 : Int) (x52_1 : Int) (x52_2 : Int), RD w9 ⟨k8, 0, none⟩ 0 [(.int .i64 x52_0), (.int .i64 x52_1), (.int .i64 x52_2)] ∧
 ST w9 ⟨k6, 0, none⟩ 0 [(.int .i64 x52_0), (.int .i64 x52_1), (.int .i64 x52_2)] fun w10 =>
 ∃ (x6r_0 : Int) (x6r_1 : Int) (x6r_2 : Int), RD w10 ⟨k6, 0, none⟩ 0 [(.int .i64 x6r_0), (.int .i64 x6r_1), (.int .i64 x6r_2)] ∧
 R (.tuple #[(.agg #[(.int .i64 x6r_0), (.int .i64 x6r_1), (.int .i64 x6r_2)]), (.int .i64 0)]) w10
noncomputable def A146 : Ann := (.two .leaf (.cut 268435072 [] .leaf .leaf))
noncomputable def C146 : Code := (Tryz.f146.body).getD .skip
theorem c146 {k0 : Nat} {x1 : Int} {x2 : Int} {w : World} {R : Value → World → Prop} (h : S146 k0 x1 x2 w R) : Calls PP 146 #[(.pointer (some ⟨k0, 0, none⟩)), (.int .i64 x1), (.int .i64 x2)] w (Ret R) :=
 vcF_sound (c := C146) (ann := A146) follows_ Tryz.func146 (by kernel_rfl) (cast (by kernel_rfl) h)

/- slices.DeleteFunc[[]sealwax/box.Entry,sealwax/box.Entry] -/
def S147 (A0 : OA) (n0 : Nat) (c0 : Nat) (v1 : Value) (w : World) (R : Value → World → Prop) : Prop :=
 CALL PP 149 [(.slice A0 n0 c0), v1] w fun r10 w1 =>
 ∃ (x10 : Int), r10 = (.int .i64 x10) ∧
 SPLIT (x10 == (-1 : Int)) (
 R (.slice A0 n0 c0) w1) (
 ∃ (I : Int → Int → World → Prop) (μ : Int → Int → World → Nat), I x10 (IntKind.wrap .i64 (x10 + (1 : Int))) w1 ∧
 ∀ (_j : Nat → Value) (x5 : Int) (x6 : Int) (w2 : World), I x5 x6 w2 →
 SPLIT (decide (x6 < (n0 : Int))) (
 (0 ≤ x6 ∧ x6 < (n0 : Int)) ∧
 SOMEA A0 fun a24 =>
 ∃ (x25_0 : Int) (x25_1 : Int) (x25_2 : Int), RD w2 (Addr.add a24 (Int.toNat x6 * 3)) 0 [(.int .i64 x25_0), (.int .i64 x25_1), (.int .i64 x25_2)] ∧
 NEW w2 (.cells #[(.int .i64 0), (.int .i64 0), (.int .i64 0)] 53) fun k7 w3 =>
 ST w3 ⟨k7, 0, none⟩ 0 [(.int .i64 x25_0), (.int .i64 x25_1), (.int .i64 x25_2)] fun w4 =>
 ∃ (x27_0 : Int) (x27_1 : Int) (x27_2 : Int), RD w4 ⟨k7, 0, none⟩ 0 [(.int .i64 x27_0), (.int .i64 x27_1), (.int .i64 x27_2)] ∧
 CALLV PP v1 [(.agg #[(.int .i64 x27_0), (.int .i64 x27_1), (.int .i64 x27_2)])] w4 fun r28 w5 =>
 ∃ (b28 : Bool), r28 = (.bool b28) ∧
 SPLIT (!b28) (
 ∃ (x32_0 : Int) (x32_1 : Int) (x32_2 : Int), RD w5 ⟨k7, 0, none⟩ 0 [(.int .i64 x32_0), (.int .i64 x32_1), (.int .i64 x32_2)] ∧
 (0 ≤ x5 ∧ x5 < (n0 : Int)) ∧
 SOMEA A0 fun a33 =>
 ST w5 (Addr.add a33 (Int.toNat x5 * 3)) 0 [(.int .i64 x32_0), (.int .i64 x32_1), (.int .i64 x32_2)] fun w6 =>
 I (IntKind.wrap .i64 (x5 + (1 : Int))) (IntKind.wrap .i64 (x6 + (1 : Int))) w6 ∧ μ (IntKind.wrap .i64 (x5 + (1 : Int))) (IntKind.wrap .i64 (x6 + (1 : Int))) w6 < μ x5 x6 w2) (
 I x5 (IntKind.wrap .i64 (x6 + (1 : Int))) w5 ∧ μ x5 (IntKind.wrap .i64 (x6 + (1 : Int))) w5 < μ x5 x6 w2)) (
 (0 ≤ x5 ∧ x5 ≤ (n0 : Int)) ∧
 RUN PP (Builtin.clear_ #[50] 0 #[(.slice (SLA A0 c0 (Int.toNat x5) 3) (n0 - (Int.toNat x5)) (c0 - (Int.toNat x5)))]) w2 fun rq w3 =>
 (0 ≤ x5 ∧ x5 ≤ (c0 : Int)) ∧
 R (.slice (SLA A0 c0 0 3) ((Int.toNat x5) - 0) (c0 - 0)) w3))
noncomputable def A147 : Ann := (.two .leaf (.two .leaf (.two .leaf (.two (.two .leaf (.one (.loop 68719411424 [(5, .int .i64), (6, .int .i64)] .leaf))) .leaf))))
noncomputable def C147 : Code := (Tryz.f147.body).getD .skip
theorem c147 {A0 : OA} {n0 : Nat} {c0 : Nat} {v1 : Value} {w : World} {R : Value → World → Prop} (h : S147 A0 n0 c0 v1 w R) : Calls PP 147 #[(.slice A0 n0 c0), v1] w (Ret R) :=
 vcF_sound (c := C147) (ann := A147) follows_ Tryz.func147 (by kernel_rfl) (cast (by kernel_rfl) h)

/- (*sealwax/box.Box).Remove$1 -/
def S148 (x0_0 : Int) (x0_1 : Int) (x0_2 : Int) (k1 : Nat) (w : World) (R : Value → World → Prop) : Prop :=
 NEW w (.cells #[(.int .i64 x0_0), (.int .i64 x0_1), (.int .i64 x0_2)] 53) fun k2 w1 =>
 ∃ (x4_0 : Int) (x4_1 : Int) (x4_2 : Int), RD w1 ⟨k2, 0, none⟩ 0 [(.int .i64 x4_0), (.int .i64 x4_1), (.int .i64 x4_2)] ∧
 ∃ (x5_0 : Int) (x5_1 : Int) (x5_2 : Int), RD w1 ⟨k1, 0, none⟩ 0 [(.int .i64 x5_0), (.int .i64 x5_1), (.int .i64 x5_2)] ∧
 ∃ b6 : Bool, (do eqGuard .eql 53 (.tmp 4) (.tmp 5) (.agg #[(.int .i64 x4_0), (.int .i64 x4_1), (.int .i64 x4_2)]) (.agg #[(.int .i64 x5_0), (.int .i64 x5_1), (.int .i64 x5_2)]); binOp .eql 53 (.agg #[(.int .i64 x4_0), (.int .i64 x4_1), (.int .i64 x4_2)]) (.agg #[(.int .i64 x5_0), (.int .i64 x5_1), (.int .i64 x5_2)]) : Sem Value).run PP w1 = .ok (.bool b6) w1 ∧
 R (.bool b6) w1
noncomputable def A148 : Ann := .leaf
noncomputable def C148 : Code := (Tryz.f148.body).getD .skip
theorem c148 {x0_0 : Int} {x0_1 : Int} {x0_2 : Int} {k1 : Nat} {w : World} {R : Value → World → Prop} (h : S148 x0_0 x0_1 x0_2 k1 w R) : Calls PP 148 #[(.agg #[(.int .i64 x0_0), (.int .i64 x0_1), (.int .i64 x0_2)]), (.pointer (some ⟨k1, 0, none⟩))] w (Ret R) :=
 vcF_sound (c := C148) (ann := A148) follows_ Tryz.func148 (by kernel_rfl) (cast (by kernel_rfl) h)

/- slices.IndexFunc[[]sealwax/box.Entry,sealwax/box.Entry] -/
def S149 (A0 : OA) (n0 : Nat) (c0 : Nat) (v1 : Value) (w : World) (R : Value → World → Prop) : Prop :=
 ∃ (I : Int → World → Prop) (μ : Int → World → Nat), I (0 : Int) w ∧
 ∀ (_j : Nat → Value) (x8 : Int) (w1 : World), I x8 w1 →
 SPLIT (decide (x8 < (n0 : Int))) (
 (0 ≤ x8 ∧ x8 < (n0 : Int)) ∧
 SOMEA A0 fun a14 =>
 ∃ (x15_0 : Int) (x15_1 : Int) (x15_2 : Int), RD w1 (Addr.add a14 (Int.toNat x8 * 3)) 0 [(.int .i64 x15_0), (.int .i64 x15_1), (.int .i64 x15_2)] ∧
 CALLV PP v1 [(.agg #[(.int .i64 x15_0), (.int .i64 x15_1), (.int .i64 x15_2)])] w1 fun r16 w2 =>
 ∃ (b16 : Bool), r16 = (.bool b16) ∧
 SPLIT b16 (
 R (.int .i64 x8) w2) (
 I (IntKind.wrap .i64 (x8 + (1 : Int))) w2 ∧ μ (IntKind.wrap .i64 (x8 + (1 : Int))) w2 < μ x8 w1)) (
 R (.int .i64 (-1 : Int)) w1)
noncomputable def A149 : Ann := (.two .leaf (.two (.two .leaf (.one (.loop 524080 [(8, .int .i64)] .leaf))) .leaf))
noncomputable def C149 : Code := (Tryz.f149.body).getD .skip
theorem c149 {A0 : OA} {n0 : Nat} {c0 : Nat} {v1 : Value} {w : World} {R : Value → World → Prop} (h : S149 A0 n0 c0 v1 w R) : Calls PP 149 #[(.slice A0 n0 c0), v1] w (Ret R) :=
 vcF_sound (c := C149) (ann := A149) follows_ Tryz.func149 (by kernel_rfl) (cast (by kernel_rfl) h)

/- (*sealwax/box.Box).at$1 -/
def S150 (x0_0 : Int) (x0_1 : Int) (x0_2 : Int) (k1 : Nat) (w : World) (R : Value → World → Prop) : Prop :=
 NEW w (.cells #[(.int .i64 x0_0), (.int .i64 x0_1), (.int .i64 x0_2)] 53) fun k2 w1 =>
 ∃ (x5 : Int), w1.cell? ⟨k2, 0, none⟩ = some (.int .i64 x5) ∧
 ∃ (x6 : Int), w1.cell? ⟨k1, 0, none⟩ = some (.int .i64 x6) ∧
 R (.bool (x5 == x6)) w1
noncomputable def A150 : Ann := .leaf
noncomputable def C150 : Code := (Tryz.f150.body).getD .skip
theorem c150 {x0_0 : Int} {x0_1 : Int} {x0_2 : Int} {k1 : Nat} {w : World} {R : Value → World → Prop} (h : S150 x0_0 x0_1 x0_2 k1 w R) : Calls PP 150 #[(.agg #[(.int .i64 x0_0), (.int .i64 x0_1), (.int .i64 x0_2)]), (.pointer (some ⟨k1, 0, none⟩))] w (Ret R) :=
 vcF_sound (c := C150) (ann := A150) follows_ Tryz.func150 (by kernel_rfl) (cast (by kernel_rfl) h)

/- slices.ContainsFunc[[]int,int] -/
def S151 (A0 : OA) (n0 : Nat) (c0 : Nat) (v1 : Value) (w : World) (R : Value → World → Prop) : Prop :=
 CALL PP 185 [(.slice A0 n0 c0), v1] w fun r7 w1 =>
 ∃ (x7 : Int), r7 = (.int .i64 x7) ∧
 R (.bool (decide (x7 ≥ (0 : Int)))) w1
noncomputable def A151 : Ann := .leaf
noncomputable def C151 : Code := (Tryz.f151.body).getD .skip
theorem c151 {A0 : OA} {n0 : Nat} {c0 : Nat} {v1 : Value} {w : World} {R : Value → World → Prop} (h : S151 A0 n0 c0 v1 w R) : Calls PP 151 #[(.slice A0 n0 c0), v1] w (Ret R) :=
 vcF_sound (c := C151) (ann := A151) follows_ Tryz.func151 (by kernel_rfl) (cast (by kernel_rfl) h)

/- sealwax/box.flags$1 -/
def S152 (x0 : Int) (w : World) (R : Value → World → Prop) : Prop :=
 CALL PP 153 [(.int .i64 x0), (.int .i64 0), (.int .i64 31)] w fun r4 w1 =>
 ∃ (b4 : Bool), r4 = (.bool b4) ∧
 R (.bool (!b4)) w1
noncomputable def A152 : Ann := .leaf
noncomputable def C152 : Code := (Tryz.f152.body).getD .skip
theorem c152 {x0 : Int} {w : World} {R : Value → World → Prop} (h : S152 x0 w R) : Calls PP 152 #[(.int .i64 x0)] w (Ret R) :=
 vcF_sound (c := C152) (ann := A152) follows_ Tryz.func152 (by kernel_rfl) (cast (by kernel_rfl) h)

/- sealwax/box.within -/
def S153 (x0 : Int) (x1 : Int) (x2 : Int) (w : World) (R : Value → World → Prop) : Prop :=
 SPLIT (decide (x0 ≥ x1)) (
 R (.bool (decide (x0 ≤ x2))) w) (
 R (.bool false) w)
noncomputable def A153 : Ann := .leaf
noncomputable def C153 : Code := (Tryz.f153.body).getD .skip
theorem c153 {x0 : Int} {x1 : Int} {x2 : Int} {w : World} {R : Value → World → Prop} (h : S153 x0 x1 x2 w R) : Calls PP 153 #[(.int .i64 x0), (.int .i64 x1), (.int .i64 x2)] w (Ret R) :=
 vcF_sound (c := C153) (ann := A153) follows_ Tryz.func153 (by kernel_rfl) (cast (by kernel_rfl) h)

/- slices.IndexFunc[[]int,int] -/
def S185 (A0 : OA) (n0 : Nat) (c0 : Nat) (v1 : Value) (w : World) (R : Value → World → Prop) : Prop :=
 ∃ (I : Int → World → Prop) (μ : Int → World → Nat), I (0 : Int) w ∧
 ∀ (_j : Nat → Value) (x8 : Int) (w1 : World), I x8 w1 →
 SPLIT (decide (x8 < (n0 : Int))) (
 (0 ≤ x8 ∧ x8 < (n0 : Int)) ∧
 SOMEA A0 fun a14 =>
 ∃ (x15 : Int), w1.cell? (Addr.add a14 (Int.toNat x8 * 1)) = some (.int .i64 x15) ∧
 CALLV PP v1 [(.int .i64 x15)] w1 fun r16 w2 =>
 ∃ (b16 : Bool), r16 = (.bool b16) ∧
 SPLIT b16 (
 R (.int .i64 x8) w2) (
 I (IntKind.wrap .i64 (x8 + (1 : Int))) w2 ∧ μ (IntKind.wrap .i64 (x8 + (1 : Int))) w2 < μ x8 w1)) (
 R (.int .i64 (-1 : Int)) w1)
noncomputable def A185 : Ann := (.two .leaf (.two (.two .leaf (.one (.loop 524080 [(8, .int .i64)] .leaf))) .leaf))
noncomputable def C185 : Code := (Tryz.f185.body).getD .skip
theorem c185 {A0 : OA} {n0 : Nat} {c0 : Nat} {v1 : Value} {w : World} {R : Value → World → Prop} (h : S185 A0 n0 c0 v1 w R) : Calls PP 185 #[(.slice A0 n0 c0), v1] w (Ret R) :=
 vcF_sound (c := C185) (ann := A185) follows_ Tryz.func185 (by kernel_rfl) (cast (by kernel_rfl) h)

end Go.SW
set_option linter.unusedVariables false
namespace Go.SW
open Go Go.Proofs
set_option maxRecDepth 100000
/- (*sealwax/names.Names).List -/
def S15 (k0 : Nat) (w : World) (R : Value → World → Prop) : Prop :=
 ∃ (m6 : Option Nat), w.cell? ⟨k0, 0, none⟩ = some (.map m6) ∧
 CALL PP 38 [(.map m6)] w fun r7 w1 =>
 CALL PP 37 [r7] w1 fun r8 w2 =>
 ∃ (A8 : OA) (n8 : Nat) (c8 : Nat), r8 = (.slice A8 n8 c8) ∧
 R (.slice A8 n8 c8) w2
noncomputable def A15 : Ann := .leaf
noncomputable def C15 : Code := (Tryz.f15.body).getD .skip
theorem c15 {k0 : Nat} {w : World} {R : Value → World → Prop} (h : S15 k0 w R) : Calls PP 15 #[(.pointer (some ⟨k0, 0, none⟩))] w (Ret R) :=
 vcF_sound (c := C15) (ann := A15) follows_ Tryz.func15 (by kernel_rfl) (cast (by kernel_rfl) h)

/- (*sealwax/names.Names).Of -/
def S16 (k0 : Nat) (s1 : ByteArray) (w : World) (R : Value → World → Prop) : Prop :=
 ∃ (m12 : Option Nat), w.cell? ⟨k0, 0, none⟩ = some (.map m12) ∧
 ∃ r14 : Value, (Instr.lookup 89 (.map m12) (.string s1) true).run PP w = .ok r14 w ∧
 ∃ (x14a : Int) (b14b : Bool), r14 = (.tuple #[(.int .i64 x14a), (.bool b14b)]) ∧
 R (.tuple #[(.int .i64 x14a), (.bool b14b)]) w
noncomputable def A16 : Ann := .leaf
noncomputable def C16 : Code := (Tryz.f16.body).getD .skip
theorem c16 {k0 : Nat} {s1 : ByteArray} {w : World} {R : Value → World → Prop} (h : S16 k0 s1 w R) : Calls PP 16 #[(.pointer (some ⟨k0, 0, none⟩)), (.string s1)] w (Ret R) :=
 vcF_sound (c := C16) (ann := A16) follows_ Tryz.func16 (by kernel_rfl) (cast (by kernel_rfl) h)

/- sealwax/names.New -/
def S30  (w : World) (R : Value → World → Prop) : Prop :=
 NEW w (.map #[] 0) fun k1 w1 =>
 NEW w1 (.cells #[(.map (some k1)), (.int .i64 1)] 91) fun k3 w2 =>
 R (.pointer (some ⟨k3, 0, none⟩)) w2
noncomputable def A30 : Ann := .leaf
noncomputable def C30 : Code := (Tryz.f30.body).getD .skip
theorem c30 {w : World} {R : Value → World → Prop} (h : S30 w R) : Calls PP 30 #[] w (Ret R) :=
 vcF_sound (c := C30) (ann := A30) follows_ Tryz.func30 (by kernel_rfl) (cast (by kernel_rfl) h)

/- (*sealwax/names.Names).Clone -/
def S36 (k0 : Nat) (w : World) (R : Value → World → Prop) : Prop :=
 DRAW w fun w1 =>
 ∃ (m6 : Option Nat), w1.cell? ⟨k0, 0, none⟩ = some (.map m6) ∧
 ∃ (x11 : Int), w1.cell? ⟨k0, 1, none⟩ = some (.int .i64 x11) ∧
 CALL PP 82 [(.map m6)] w1 fun r7 w2 =>
 ∃ (m7 : Option Nat), r7 = (.map m7) ∧
 (loadVar 3 ⟨k0, 1, none⟩).run PP w2 = .ok (.int .i64 x11) w2 ∧
 NEW w2 (.cells #[(.map m7), (.int .i64 x11)] 91) fun k13 w3 =>
 R (.pointer (some ⟨k13, 0, none⟩)) w3
noncomputable def A36 : Ann := .leaf
noncomputable def C36 : Code := (Tryz.f36.body).getD .skip
theorem c36 {k0 : Nat} {w : World} {R : Value → World → Prop} (h : S36 k0 w R) : Calls PP 36 #[(.pointer (some ⟨k0, 0, none⟩))] w (Ret R) :=
 vcF_sound (c := C36) (ann := A36) follows_ Tryz.func36 (by kernel_rfl) (cast (by kernel_rfl) h)

/- slices.Sorted[string] -/
def S37 (v0 : Value) (w : World) (R : Value → World → Prop) : Prop :=
 CALL PP 83 [v0] w fun r5 w1 =>
 ∃ (A5 : OA) (n5 : Nat) (c5 : Nat), r5 = (.slice A5 n5 c5) ∧
 CALL PP 84 [(.slice A5 n5 c5)] w1 fun r7 w2 =>
 r7 = (.tuple #[]) ∧
 R (.slice A5 n5 c5) w2
noncomputable def A37 : Ann := .leaf
noncomputable def C37 : Code := (Tryz.f37.body).getD .skip
theorem c37 {v0 : Value} {w : World} {R : Value → World → Prop} (h : S37 v0 w R) : Calls PP 37 #[v0] w (Ret R) :=
 vcF_sound (c := C37) (ann := A37) follows_ Tryz.func37 (by kernel_rfl) (cast (by kernel_rfl) h)

/- maps.Keys[map[string]int,string,int] -/
def S38 (m0 : Option Nat) (w : World) (R : Value → World → Prop) : Prop :=
 NEW w (.cells #[(.map m0)] 89) fun k1 w1 =>
 R (.func (.func 85) #[] #[(.pointer (some ⟨k1, 0, none⟩))]) w1
noncomputable def A38 : Ann := .leaf
noncomputable def C38 : Code := (Tryz.f38.body).getD .skip
theorem c38 {m0 : Option Nat} {w : World} {R : Value → World → Prop} (h : S38 m0 w R) : Calls PP 38 #[(.map m0)] w (Ret R) :=
 vcF_sound (c := C38) (ann := A38) follows_ Tryz.func38 (by kernel_rfl) (cast (by kernel_rfl) h)

/- slices.Sorted[int] -/
def S41 (v0 : Value) (w : World) (R : Value → World → Prop) : Prop :=
 CALL PP 86 [v0] w fun r5 w1 =>
 ∃ (A5 : OA) (n5 : Nat) (c5 : Nat), r5 = (.slice A5 n5 c5) ∧
 CALL PP 87 [(.slice A5 n5 c5)] w1 fun r7 w2 =>
 r7 = (.tuple #[]) ∧
 R (.slice A5 n5 c5) w2
noncomputable def A41 : Ann := .leaf
noncomputable def C41 : Code := (Tryz.f41.body).getD .skip
theorem c41 {v0 : Value} {w : World} {R : Value → World → Prop} (h : S41 v0 w R) : Calls PP 41 #[v0] w (Ret R) :=
 vcF_sound (c := C41) (ann := A41) follows_ Tryz.func41 (by kernel_rfl) (cast (by kernel_rfl) h)

/- maps.Keys[map[int]string,int,string] -/
def S42 (m0 : Option Nat) (w : World) (R : Value → World → Prop) : Prop :=
 NEW w (.cells #[(.map m0)] 80) fun k1 w1 =>
 R (.func (.func 88) #[] #[(.pointer (some ⟨k1, 0, none⟩))]) w1
noncomputable def A42 : Ann := .leaf
noncomputable def C42 : Code := (Tryz.f42.body).getD .skip
theorem c42 {m0 : Option Nat} {w : World} {R : Value → World → Prop} (h : S42 m0 w R) : Calls PP 42 #[(.map m0)] w (Ret R) :=
 vcF_sound (c := C42) (ann := A42) follows_ Tryz.func42 (by kernel_rfl) (cast (by kernel_rfl) h)

/- maps.Clone[map[int]string,int,string] -/
def S67 (m0 : Option Nat) (w : World) (R : Value → World → Prop) : Prop :=
 SPLIT (Option.isNone m0) (
 R (.map none) w) (
 RUN PP (Instr.makeInterface 80 (.map m0)) w fun r6 w1 =>
 CALL PP 109 [r6] w1 fun r7 w2 =>
 RUN PP (Instr.typeAssert r7 20 80 false) w2 fun r8 w3 =>
 ∃ (m8 : Option Nat), r8 = (.map m8) ∧
 R (.map m8) w3)
noncomputable def A67 : Ann := .leaf
noncomputable def C67 : Code := (Tryz.f67.body).getD .skip
theorem c67 {m0 : Option Nat} {w : World} {R : Value → World → Prop} (h : S67 m0 w R) : Calls PP 67 #[(.map m0)] w (Ret R) :=
 vcF_sound (c := C67) (ann := A67) follows_ Tryz.func67 (by kernel_rfl) (cast (by kernel_rfl) h)

/- (*sealwax/names.Names).Create -/
def S68 (k0 : Nat) (s1 : ByteArray) (w : World) (R : Value → World → Prop) : Prop :=
 CALL PP 16 [(.pointer (some ⟨k0, 0, none⟩)), (.string s1)] w fun r11 w1 =>
 ∃ (x11a : Int) (b11b : Bool), r11 = (.tuple #[(.int .i64 x11a), (.bool b11b)]) ∧
 CALL PP 110 [(.string s1)] w1 fun r16 w2 =>
 ∃ (b16 : Bool), r16 = (.bool b16) ∧
 SPLIT (!b16) (
 R (.tuple #[(.int .i64 0), (.int .i64 4)]) w2) (
 SPLIT b11b (
 R (.tuple #[(.int .i64 0), (.int .i64 6)]) w2) (
 ∃ (m24 : Option Nat), w2.cell? ⟨k0, 0, none⟩ = some (.map m24) ∧
 ∃ x25 : Int, (Builtin.len_ #[89] 3 #[(.map m24)]).run PP w2 = .ok (.int .i64 x25) w2 ∧
 SPLIT (decide (x25 ≥ (16 : Int))) (
 R (.tuple #[(.int .i64 0), (.int .i64 8)]) w2) (
 DRAW w2 fun w3 =>
 ∃ (m30 : Option Nat), w3.cell? ⟨k0, 0, none⟩ = some (.map m30) ∧
 ∃ (x35 : Int), w3.cell? ⟨k0, 1, none⟩ = some (.int .i64 x35) ∧
 RUN PP (Instr.mapUpdate 89 (.map m30) (.string s1) (.int .i64 x35)) w3 fun _uq w4 =>
 ∃ (x39 : Int), w4.cell? ⟨k0, 1, none⟩ = some (.int .i64 x39) ∧
 ST w4 ⟨k0, 1, none⟩ 0 [(.int .i64 (IntKind.wrap .i64 (x39 + (1 : Int))))] fun w5 =>
 ∃ (x46 : Int), w5.cell? ⟨k0, 1, none⟩ = some (.int .i64 x46) ∧
 R (.tuple #[(.int .i64 (IntKind.wrap .i64 (x46 - (1 : Int)))), (.int .i64 0)]) w5)))
noncomputable def A68 : Ann := .leaf
noncomputable def C68 : Code := (Tryz.f68.body).getD .skip
theorem c68 {k0 : Nat} {s1 : ByteArray} {w : World} {R : Value → World → Prop} (h : S68 k0 s1 w R) : Calls PP 68 #[(.pointer (some ⟨k0, 0, none⟩)), (.string s1)] w (Ret R) :=
 vcF_sound (c := C68) (ann := A68) follows_ Tryz.func68 (by kernel_rfl) (cast (by kernel_rfl) h)

/- (*sealwax/names.Names).Delete -/
def S69 (k0 : Nat) (s1 : ByteArray) (w : World) (R : Value → World → Prop) : Prop :=
 CALL PP 16 [(.pointer (some ⟨k0, 0, none⟩)), (.string s1)] w fun r11 w1 =>
 ∃ (x11a : Int) (b11b : Bool), r11 = (.tuple #[(.int .i64 x11a), (.bool b11b)]) ∧
 SPLIT (!b11b) (
 R (.tuple #[(.int .i64 0), (.int .i64 5)]) w1) (
 ∃ (m19 : Option Nat), w1.cell? ⟨k0, 0, none⟩ = some (.map m19) ∧
 RUN PP (Builtin.delete_ #[89, 9] 0 #[(.map m19), (.string s1)]) w1 fun rq w2 =>
 R (.tuple #[(.int .i64 x11a), (.int .i64 0)]) w2)
noncomputable def A69 : Ann := .leaf
noncomputable def C69 : Code := (Tryz.f69.body).getD .skip
theorem c69 {k0 : Nat} {s1 : ByteArray} {w : World} {R : Value → World → Prop} (h : S69 k0 s1 w R) : Calls PP 69 #[(.pointer (some ⟨k0, 0, none⟩)), (.string s1)] w (Ret R) :=
 vcF_sound (c := C69) (ann := A69) follows_ Tryz.func69 (by kernel_rfl) (cast (by kernel_rfl) h)

/- (*sealwax/names.Names).Rename -/
def S70 (k0 : Nat) (s1 : ByteArray) (s2 : ByteArray) (w : World) (R : Value → World → Prop) : Prop :=
 CALL PP 16 [(.pointer (some ⟨k0, 0, none⟩)), (.string s1)] w fun r15 w1 =>
 ∃ (x15a : Int) (b15b : Bool), r15 = (.tuple #[(.int .i64 x15a), (.bool b15b)]) ∧
 CALL PP 16 [(.pointer (some ⟨k0, 0, none⟩)), (.string s2)] w1 fun r21 w2 =>
 ∃ (x21a : Int) (b21b : Bool), r21 = (.tuple #[(.int .i64 x21a), (.bool b21b)]) ∧
 SPLIT (!b15b) (
 R (.tuple #[(.int .i64 0), (.int .i64 5)]) w2) (
 CALL PP 110 [(.string s2)] w2 fun r29 w3 =>
 ∃ (b29 : Bool), r29 = (.bool b29) ∧
 SPLIT (!b29) (
 R (.tuple #[(.int .i64 0), (.int .i64 4)]) w3) (
 SPLIT b21b (
 R (.tuple #[(.int .i64 0), (.int .i64 6)]) w3) (
 ∃ (m36 : Option Nat), w3.cell? ⟨k0, 0, none⟩ = some (.map m36) ∧
 RUN PP (Builtin.delete_ #[89, 9] 0 #[(.map m36), (.string s1)]) w3 fun rq w4 =>
 ∃ (m41 : Option Nat), w4.cell? ⟨k0, 0, none⟩ = some (.map m41) ∧
 RUN PP (Instr.mapUpdate 89 (.map m41) (.string s2) (.int .i64 x15a)) w4 fun _uq w5 =>
 R (.tuple #[(.int .i64 x15a), (.int .i64 0)]) w5)))
noncomputable def A70 : Ann := .leaf
noncomputable def C70 : Code := (Tryz.f70.body).getD .skip
theorem c70 {k0 : Nat} {s1 : ByteArray} {s2 : ByteArray} {w : World} {R : Value → World → Prop} (h : S70 k0 s1 s2 w R) : Calls PP 70 #[(.pointer (some ⟨k0, 0, none⟩)), (.string s1), (.string s2)] w (Ret R) :=
 vcF_sound (c := C70) (ann := A70) follows_ Tryz.func70 (by kernel_rfl) (cast (by kernel_rfl) h)

/- maps.Clone[map[string]int,string,int] -/
def S82 (m0 : Option Nat) (w : World) (R : Value → World → Prop) : Prop :=
 SPLIT (Option.isNone m0) (
 R (.map none) w) (
 RUN PP (Instr.makeInterface 89 (.map m0)) w fun r6 w1 =>
 CALL PP 109 [r6] w1 fun r7 w2 =>
 RUN PP (Instr.typeAssert r7 20 89 false) w2 fun r8 w3 =>
 ∃ (m8 : Option Nat), r8 = (.map m8) ∧
 R (.map m8) w3)
noncomputable def A82 : Ann := .leaf
noncomputable def C82 : Code := (Tryz.f82.body).getD .skip
theorem c82 {m0 : Option Nat} {w : World} {R : Value → World → Prop} (h : S82 m0 w R) : Calls PP 82 #[(.map m0)] w (Ret R) :=
 vcF_sound (c := C82) (ann := A82) follows_ Tryz.func82 (by kernel_rfl) (cast (by kernel_rfl) h)

/- slices.Collect[string] -/
def S83 (v0 : Value) (w : World) (R : Value → World → Prop) : Prop :=
 CALL PP 124 [(.slice none 0 0), v0] w fun r4 w1 =>
 ∃ (A4 : OA) (n4 : Nat) (c4 : Nat), r4 = (.slice A4 n4 c4) ∧
 R (.slice A4 n4 c4) w1
noncomputable def A83 : Ann := .leaf
noncomputable def C83 : Code := (Tryz.f83.body).getD .skip
theorem c83 {v0 : Value} {w : World} {R : Value → World → Prop} (h : S83 v0 w R) : Calls PP 83 #[v0] w (Ret R) :=
 vcF_sound (c := C83) (ann := A83) follows_ Tryz.func83 (by kernel_rfl) (cast (by kernel_rfl) h)

/- slices.Collect[int] -/
def S86 (v0 : Value) (w : World) (R : Value → World → Prop) : Prop :=
 CALL PP 127 [(.slice none 0 0), v0] w fun r4 w1 =>
 ∃ (A4 : OA) (n4 : Nat) (c4 : Nat), r4 = (.slice A4 n4 c4) ∧
 R (.slice A4 n4 c4) w1
noncomputable def A86 : Ann := .leaf
noncomputable def C86 : Code := (Tryz.f86.body).getD .skip
theorem c86 {v0 : Value} {w : World} {R : Value → World → Prop} (h : S86 v0 w R) : Calls PP 86 #[v0] w (Ret R) :=
 vcF_sound (c := C86) (ann := A86) follows_ Tryz.func86 (by kernel_rfl) (cast (by kernel_rfl) h)

/- maps.Keys[map[string]int,string,int]$1 -/
def S85 (v0 : Value) (k1 : Nat) (w : World) (R : Value → World → Prop) : Prop :=
 ∃ (m4 : Option Nat), w.cell? ⟨k1, 0, none⟩ = some (.map m4) ∧
 RUN PP (Instr.range 89 (.map m4)) w fun r5 w1 =>
 ∃ p5 : OA, r5 = .pointer p5 ∧
 ∃ (I : World → Prop) (μ : World → Nat), I w1 ∧
 ∀ (_j : Nat → Value) (w2 : World), I w2 →
 RUN PP (Instr.next (.pointer p5) false 0) w2 fun r6 w3 =>
 ∃ (b6 : Bool) (l6 : List Value), r6 = .tuple ⟨.bool b6 :: l6⟩ ∧
 SPLIT b6 (
 RUN PP (Instr.entry (.pointer p5)) w3 fun r8 w4 =>
 ∃ (s8a : ByteArray) (v8b : Value), r8 = .tuple #[(.string s8a), v8b] ∧
 CALLV PP v0 [(.string s8a)] w4 fun r12 w5 =>
 ∃ (b12 : Bool), r12 = (.bool b12) ∧
 SPLIT (!b12) (
 R (.tuple #[]) w5) (
 I w5 ∧ μ w5 < μ w2)) (
 R (.tuple #[]) w3)
noncomputable def A85 : Ann := (.two .leaf (.one (.loop 16328 [] .leaf)))
noncomputable def C85 : Code := (Tryz.f85.body).getD .skip
theorem c85 {v0 : Value} {k1 : Nat} {w : World} {R : Value → World → Prop} (h : S85 v0 k1 w R) : Calls PP 85 #[v0, (.pointer (some ⟨k1, 0, none⟩))] w (Ret R) :=
 vcF_sound (c := C85) (ann := A85) follows_ Tryz.func85 (by kernel_rfl) (cast (by kernel_rfl) h)

/- maps.Keys[map[int]string,int,string]$1 -/
def S88 (v0 : Value) (k1 : Nat) (w : World) (R : Value → World → Prop) : Prop :=
 ∃ (m4 : Option Nat), w.cell? ⟨k1, 0, none⟩ = some (.map m4) ∧
 RUN PP (Instr.range 80 (.map m4)) w fun r5 w1 =>
 ∃ p5 : OA, r5 = .pointer p5 ∧
 ∃ (I : World → Prop) (μ : World → Nat), I w1 ∧
 ∀ (_j : Nat → Value) (w2 : World), I w2 →
 RUN PP (Instr.next (.pointer p5) false 0) w2 fun r6 w3 =>
 ∃ (b6 : Bool) (l6 : List Value), r6 = .tuple ⟨.bool b6 :: l6⟩ ∧
 SPLIT b6 (
 RUN PP (Instr.entry (.pointer p5)) w3 fun r8 w4 =>
 ∃ (x8a : Int) (v8b : Value), r8 = .tuple #[(.int .i64 x8a), v8b] ∧
 CALLV PP v0 [(.int .i64 x8a)] w4 fun r12 w5 =>
 ∃ (b12 : Bool), r12 = (.bool b12) ∧
 SPLIT (!b12) (
 R (.tuple #[]) w5) (
 I w5 ∧ μ w5 < μ w2)) (
 R (.tuple #[]) w3)
noncomputable def A88 : Ann := (.two .leaf (.one (.loop 16328 [] .leaf)))
noncomputable def C88 : Code := (Tryz.f88.body).getD .skip
theorem c88 {v0 : Value} {k1 : Nat} {w : World} {R : Value → World → Prop} (h : S88 v0 k1 w R) : Calls PP 88 #[v0, (.pointer (some ⟨k1, 0, none⟩))] w (Ret R) :=
 vcF_sound (c := C88) (ann := A88) follows_ Tryz.func88 (by kernel_rfl) (cast (by kernel_rfl) h)

/- (*sealwax/names.Names).Next -/
def S100 (k0 : Nat) (w : World) (R : Value → World → Prop) : Prop :=
 ∃ (x6 : Int), w.cell? ⟨k0, 1, none⟩ = some (.int .i64 x6) ∧
 R (.int .i64 x6) w
noncomputable def A100 : Ann := .leaf
noncomputable def C100 : Code := (Tryz.f100.body).getD .skip
theorem c100 {k0 : Nat} {w : World} {R : Value → World → Prop} (h : S100 k0 w R) : Calls PP 100 #[(.pointer (some ⟨k0, 0, none⟩))] w (Ret R) :=
 vcF_sound (c := C100) (ann := A100) follows_ Tryz.func100 (by kernel_rfl) (cast (by kernel_rfl) h)

/- sealwax/names.Check -/
def S110 (s0 : ByteArray) (w : World) (R : Value → World → Prop) : Prop :=
 ∃ (I : Int → World → Prop) (μ : Int → World → Nat), I (0 : Int) w ∧
 ∀ (_j : Nat → Value) (x6 : Int) (w1 : World), I x6 w1 →
 SPLIT (decide (x6 < (s0.size : Int))) (
 (0 ≤ x6 ∧ x6 < (s0.size : Int)) ∧
 CALL PP 141 [(.int .u8 (bt s0 x6))] w1 fun r12 w2 =>
 ∃ (b12 : Bool), r12 = (.bool b12) ∧
 SPLIT (!b12) (
 R (.bool false) w2) (
 I (IntKind.wrap .i64 (x6 + (1 : Int))) w2 ∧ μ (IntKind.wrap .i64 (x6 + (1 : Int))) w2 < μ x6 w1)) (
 SPLIT (!(s0.toList == (⟨#[]⟩ : ByteArray).toList)) (
 SPLIT (decide ((s0.size : Int) ≤ (32 : Int))) (
 CALL PP 142 [(.string s0), (.string (⟨#[47]⟩ : ByteArray))] w1 fun r24 w2 =>
 ∃ (b24 : Bool), r24 = (.bool b24) ∧
 SPLIT (!b24) (
 CALL PP 143 [(.string s0), (.string (⟨#[47]⟩ : ByteArray))] w2 fun r29 w3 =>
 ∃ (b29 : Bool), r29 = (.bool b29) ∧
 SPLIT (!b29) (
 CALL PP 144 [(.string s0), (.string (⟨#[47, 47]⟩ : ByteArray))] w3 fun r34 w4 =>
 ∃ (b34 : Bool), r34 = (.bool b34) ∧
 R (.bool (!b34)) w4) (
 R (.bool false) w3)) (
 R (.bool false) w2)) (
 R (.bool false) w1)) (
 R (.bool false) w1))
noncomputable def A110 : Ann := (.two .leaf (.two (.two .leaf (.one (.loop 32716 [(6, .int .i64)] .leaf))) .leaf))
noncomputable def C110 : Code := (Tryz.f110.body).getD .skip
theorem c110 {s0 : ByteArray} {w : World} {R : Value → World → Prop} (h : S110 s0 w R) : Calls PP 110 #[(.string s0)] w (Ret R) :=
 vcF_sound (c := C110) (ann := A110) follows_ Tryz.func110 (by kernel_rfl) (cast (by kernel_rfl) h)

/- sealwax/names.may -/
def S141 (x0 : Int) (w : World) (R : Value → World → Prop) : Prop :=
 SPLIT (decide (x0 ≥ (97 : Int))) (
 SPLIT (decide (x0 ≤ (122 : Int))) (
 R (.bool true) w) (
 SPLIT (decide (x0 ≥ (65 : Int))) (
 SPLIT (decide (x0 ≤ (90 : Int))) (
 R (.bool true) w) (
 SPLIT (decide (x0 ≥ (48 : Int))) (
 SPLIT (decide (x0 ≤ (57 : Int))) (
 R (.bool true) w) (
 CALL PP 181 [(.string (⟨#[46, 95, 45, 47]⟩ : ByteArray)), (.int .u8 x0)] w fun r27 w1 =>
 ∃ (x27 : Int), r27 = (.int .i64 x27) ∧
 R (.bool (decide (x27 ≥ (0 : Int)))) w1)) (
 CALL PP 181 [(.string (⟨#[46, 95, 45, 47]⟩ : ByteArray)), (.int .u8 x0)] w fun r27 w1 =>
 ∃ (x27 : Int), r27 = (.int .i64 x27) ∧
 R (.bool (decide (x27 ≥ (0 : Int)))) w1))) (
 SPLIT (decide (x0 ≥ (48 : Int))) (
 SPLIT (decide (x0 ≤ (57 : Int))) (
 R (.bool true) w) (
 CALL PP 181 [(.string (⟨#[46, 95, 45, 47]⟩ : ByteArray)), (.int .u8 x0)] w fun r27 w1 =>
 ∃ (x27 : Int), r27 = (.int .i64 x27) ∧
 R (.bool (decide (x27 ≥ (0 : Int)))) w1)) (
 CALL PP 181 [(.string (⟨#[46, 95, 45, 47]⟩ : ByteArray)), (.int .u8 x0)] w fun r27 w1 =>
 ∃ (x27 : Int), r27 = (.int .i64 x27) ∧
 R (.bool (decide (x27 ≥ (0 : Int)))) w1)))) (
 SPLIT (decide (x0 ≥ (65 : Int))) (
 SPLIT (decide (x0 ≤ (90 : Int))) (
 R (.bool true) w) (
 SPLIT (decide (x0 ≥ (48 : Int))) (
 SPLIT (decide (x0 ≤ (57 : Int))) (
 R (.bool true) w) (
 CALL PP 181 [(.string (⟨#[46, 95, 45, 47]⟩ : ByteArray)), (.int .u8 x0)] w fun r27 w1 =>
 ∃ (x27 : Int), r27 = (.int .i64 x27) ∧
 R (.bool (decide (x27 ≥ (0 : Int)))) w1)) (
 CALL PP 181 [(.string (⟨#[46, 95, 45, 47]⟩ : ByteArray)), (.int .u8 x0)] w fun r27 w1 =>
 ∃ (x27 : Int), r27 = (.int .i64 x27) ∧
 R (.bool (decide (x27 ≥ (0 : Int)))) w1))) (
 SPLIT (decide (x0 ≥ (48 : Int))) (
 SPLIT (decide (x0 ≤ (57 : Int))) (
 R (.bool true) w) (
 CALL PP 181 [(.string (⟨#[46, 95, 45, 47]⟩ : ByteArray)), (.int .u8 x0)] w fun r27 w1 =>
 ∃ (x27 : Int), r27 = (.int .i64 x27) ∧
 R (.bool (decide (x27 ≥ (0 : Int)))) w1)) (
 CALL PP 181 [(.string (⟨#[46, 95, 45, 47]⟩ : ByteArray)), (.int .u8 x0)] w fun r27 w1 =>
 ∃ (x27 : Int), r27 = (.int .i64 x27) ∧
 R (.bool (decide (x27 ≥ (0 : Int)))) w1)))
noncomputable def A141 : Ann := .leaf
noncomputable def C141 : Code := (Tryz.f141.body).getD .skip
theorem c141 {x0 : Int} {w : World} {R : Value → World → Prop} (h : S141 x0 w R) : Calls PP 141 #[(.int .u8 x0)] w (Ret R) :=
 vcF_sound (c := C141) (ann := A141) follows_ Tryz.func141 (by kernel_rfl) (cast (by kernel_rfl) h)

/- slices.AppendSeq[[]string,string] -/
def S124 (A0 : OA) (n0 : Nat) (c0 : Nat) (v1 : Value) (w : World) (R : Value → World → Prop) : Prop :=
 NEW w (.cells #[(.slice A0 n0 c0)] 26) fun k2 w1 =>
 RANGE PP v1 1 (fun l w2 beg K =>
 ∃ (y : Value) (l_1 : List Value), l = y :: l_1 ∧
 ∃ (s7 : ByteArray), y = (.string s7) ∧
 l_1 = [] ∧
 beg w2 fun w3 =>
 ∃ (A8 : OA) (n8 : Nat) (c8 : Nat), w3.cell? ⟨k2, 0, none⟩ = some (.slice A8 n8 c8) ∧
 NEW w3 (.cells #[(.string s7)] 9) fun k10 w4 =>
 RUN PP (Builtin.append_ #[26, 26] 26 #[(.slice A8 n8 c8), (.slice (some ⟨k10, 0, none⟩) 1 1)]) w4 fun r11 w5 =>
 ∃ (A11 : OA) (n11 : Nat) (c11 : Nat), r11 = (.slice A11 n11 c11) ∧
 ST w5 ⟨k2, 0, none⟩ 0 [(.slice A11 n11 c11)] fun w6 =>
 K w6) (fun D w2 =>
 ∃ (A12 : OA) (n12 : Nat) (c12 : Nat), w2.cell? ⟨k2, 0, none⟩ = some (.slice A12 n12 c12) ∧
 w2.heap[D]? = some (.deferred (some [])) ∧
 R (.slice A12 n12 c12) (w2.putObj D (.deferred none))) w1
noncomputable def A124 : Ann := (.two .leaf (.two .leaf .leaf))
noncomputable def C124 : Code := (Tryz.f124.body).getD .skip
theorem c124 {A0 : OA} {n0 : Nat} {c0 : Nat} {v1 : Value} {w : World} {R : Value → World → Prop} (h : S124 A0 n0 c0 v1 w R) : Calls PP 124 #[(.slice A0 n0 c0), v1] w (Ret R) :=
 vcFT_sound (c := C124) (ks := [.sc .str]) (ann := A124) follows_ Tryz.func124 (by kernel_rfl) (cast (by kernel_rfl) h)

/- slices.AppendSeq[[]int,int] -/
def S127 (A0 : OA) (n0 : Nat) (c0 : Nat) (v1 : Value) (w : World) (R : Value → World → Prop) : Prop :=
 NEW w (.cells #[(.slice A0 n0 c0)] 54) fun k2 w1 =>
 RANGE PP v1 1 (fun l w2 beg K =>
 ∃ (y : Value) (l_1 : List Value), l = y :: l_1 ∧
 ∃ (x7 : Int), y = (.int .i64 x7) ∧
 l_1 = [] ∧
 beg w2 fun w3 =>
 ∃ (A8 : OA) (n8 : Nat) (c8 : Nat), w3.cell? ⟨k2, 0, none⟩ = some (.slice A8 n8 c8) ∧
 NEW w3 (.cells #[(.int .i64 x7)] 3) fun k10 w4 =>
 RUN PP (Builtin.append_ #[54, 54] 54 #[(.slice A8 n8 c8), (.slice (some ⟨k10, 0, none⟩) 1 1)]) w4 fun r11 w5 =>
 ∃ (A11 : OA) (n11 : Nat) (c11 : Nat), r11 = (.slice A11 n11 c11) ∧
 ST w5 ⟨k2, 0, none⟩ 0 [(.slice A11 n11 c11)] fun w6 =>
 K w6) (fun D w2 =>
 ∃ (A12 : OA) (n12 : Nat) (c12 : Nat), w2.cell? ⟨k2, 0, none⟩ = some (.slice A12 n12 c12) ∧
 w2.heap[D]? = some (.deferred (some [])) ∧
 R (.slice A12 n12 c12) (w2.putObj D (.deferred none))) w1
noncomputable def A127 : Ann := (.two .leaf (.two .leaf .leaf))
noncomputable def C127 : Code := (Tryz.f127.body).getD .skip
theorem c127 {A0 : OA} {n0 : Nat} {c0 : Nat} {v1 : Value} {w : World} {R : Value → World → Prop} (h : S127 A0 n0 c0 v1 w R) : Calls PP 127 #[(.slice A0 n0 c0), v1] w (Ret R) :=
 vcFT_sound (c := C127) (ks := [.sc (.int .i64)]) (ann := A127) follows_ Tryz.func127 (by kernel_rfl) (cast (by kernel_rfl) h)

/- strings.HasPrefix -/
def S142 (s0 : ByteArray) (s1 : ByteArray) (w : World) (R : Value → World → Prop) : Prop :=
 CALL PP 182 [(.string s0), (.string s1)] w fun r7 w1 =>
 ∃ (b7 : Bool), r7 = (.bool b7) ∧
 R (.bool b7) w1
noncomputable def A142 : Ann := .leaf
noncomputable def C142 : Code := (Tryz.f142.body).getD .skip
theorem c142 {s0 : ByteArray} {s1 : ByteArray} {w : World} {R : Value → World → Prop} (h : S142 s0 s1 w R) : Calls PP 142 #[(.string s0), (.string s1)] w (Ret R) :=
 vcF_sound (c := C142) (ann := A142) follows_ Tryz.func142 (by kernel_rfl) (cast (by kernel_rfl) h)

/- strings.HasSuffix -/
def S143 (s0 : ByteArray) (s1 : ByteArray) (w : World) (R : Value → World → Prop) : Prop :=
 CALL PP 183 [(.string s0), (.string s1)] w fun r7 w1 =>
 ∃ (b7 : Bool), r7 = (.bool b7) ∧
 R (.bool b7) w1
noncomputable def A143 : Ann := .leaf
noncomputable def C143 : Code := (Tryz.f143.body).getD .skip
theorem c143 {s0 : ByteArray} {s1 : ByteArray} {w : World} {R : Value → World → Prop} (h : S143 s0 s1 w R) : Calls PP 143 #[(.string s0), (.string s1)] w (Ret R) :=
 vcF_sound (c := C143) (ann := A143) follows_ Tryz.func143 (by kernel_rfl) (cast (by kernel_rfl) h)

/- internal/stringslite.HasPrefix -/
def S182 (s0 : ByteArray) (s1 : ByteArray) (w : World) (R : Value → World → Prop) : Prop :=
 SPLIT (decide ((s0.size : Int) ≥ (s1.size : Int))) (
 (0 ≤ (s1.size : Int) ∧ (s1.size : Int) ≤ ((s0.size : Nat) : Int)) ∧
 R (.bool ((ByteArray.extract s0 0 (Int.toNat (s1.size : Int))).toList == s1.toList)) w) (
 R (.bool false) w)
noncomputable def A182 : Ann := .leaf
noncomputable def C182 : Code := (Tryz.f182.body).getD .skip
theorem c182 {s0 : ByteArray} {s1 : ByteArray} {w : World} {R : Value → World → Prop} (h : S182 s0 s1 w R) : Calls PP 182 #[(.string s0), (.string s1)] w (Ret R) :=
 vcF_sound (c := C182) (ann := A182) follows_ Tryz.func182 (by kernel_rfl) (cast (by kernel_rfl) h)

/- internal/stringslite.HasSuffix -/
def S183 (s0 : ByteArray) (s1 : ByteArray) (w : World) (R : Value → World → Prop) : Prop :=
 SPLIT (decide ((s0.size : Int) ≥ (s1.size : Int))) (
 (0 ≤ (IntKind.wrap .i64 ((s0.size : Int) - (s1.size : Int))) ∧ (IntKind.wrap .i64 ((s0.size : Int) - (s1.size : Int))) ≤ ((s0.size : Nat) : Int)) ∧
 R (.bool ((ByteArray.extract s0 (Int.toNat (IntKind.wrap .i64 ((s0.size : Int) - (s1.size : Int)))) s0.size).toList == s1.toList)) w) (
 R (.bool false) w)
noncomputable def A183 : Ann := .leaf
noncomputable def C183 : Code := (Tryz.f183.body).getD .skip
theorem c183 {s0 : ByteArray} {s1 : ByteArray} {w : World} {R : Value → World → Prop} (h : S183 s0 s1 w R) : Calls PP 183 #[(.string s0), (.string s1)] w (Ret R) :=
 vcF_sound (c := C183) (ann := A183) follows_ Tryz.func183 (by kernel_rfl) (cast (by kernel_rfl) h)

end Go.SW
set_option linter.unusedVariables false
namespace Go.SW
open Go Go.Proofs
set_option maxRecDepth 100000
/- sealwax/words.Check -/
def S22 (s0 : ByteArray) (w : World) (R : Value → World → Prop) : Prop :=
 ∃ (I : Int → World → Prop) (μ : Int → World → Nat), I (0 : Int) w ∧
 ∀ (_j : Nat → Value) (x6 : Int) (w1 : World), I x6 w1 →
 SPLIT (decide (x6 < (s0.size : Int))) (
 (0 ≤ x6 ∧ x6 < (s0.size : Int)) ∧
 CALL PP 43 [(.int .u8 (bt s0 x6))] w1 fun r12 w2 =>
 ∃ (b12 : Bool), r12 = (.bool b12) ∧
 SPLIT (!b12) (
 R (.bool false) w2) (
 I (IntKind.wrap .i64 (x6 + (1 : Int))) w2 ∧ μ (IntKind.wrap .i64 (x6 + (1 : Int))) w2 < μ x6 w1)) (
 SPLIT (!(s0.toList == (⟨#[]⟩ : ByteArray).toList)) (
 R (.bool (decide ((s0.size : Int) ≤ (16 : Int)))) w1) (
 R (.bool false) w1))
noncomputable def A22 : Ann := (.two .leaf (.two (.two .leaf (.one (.loop 32716 [(6, .int .i64)] .leaf))) .leaf))
noncomputable def C22 : Code := (Tryz.f22.body).getD .skip
theorem c22 {s0 : ByteArray} {w : World} {R : Value → World → Prop} (h : S22 s0 w R) : Calls PP 22 #[(.string s0)] w (Ret R) :=
 vcF_sound (c := C22) (ann := A22) follows_ Tryz.func22 (by kernel_rfl) (cast (by kernel_rfl) h)

/- sealwax/words.Has -/
def S24 (s0 : ByteArray) (A1 : OA) (n1 : Nat) (c1 : Nat) (w : World) (R : Value → World → Prop) : Prop :=
 CALL PP 44 [(.string s0)] w fun r11 w1 =>
 ∃ (A11 : OA) (n11 : Nat) (c11 : Nat), r11 = (.slice A11 n11 c11) ∧
 ∃ (I : Int → World → Prop) (μ : Int → World → Nat), I (0 : Int) w1 ∧
 ∀ (_j : Nat → Value) (x14 : Int) (w2 : World), I x14 w2 →
 SPLIT (decide (x14 < (n1 : Int))) (
 (0 ≤ x14 ∧ x14 < (n1 : Int)) ∧
 SOMEA A1 fun a16 =>
 ∃ (s17 : ByteArray), w2.cell? (Addr.add a16 (Int.toNat x14 * 1)) = some (.string s17) ∧
 CALL PP 45 [(.slice A11 n11 c11), (.string s17)] w2 fun r21 w3 =>
 ∃ (x21a : Int) (b21b : Bool), r21 = (.tuple #[(.int .i64 x21a), (.bool b21b)]) ∧
 SPLIT (!b21b) (
 R (.bool false) w3) (
 I (IntKind.wrap .i64 (x14 + (1 : Int))) w3 ∧ μ (IntKind.wrap .i64 (x14 + (1 : Int))) w3 < μ x14 w2)) (
 R (.bool true) w2)
noncomputable def A24 : Ann := (.two .leaf (.two .leaf (.two (.two .leaf (.one (.loop 134202256 [(14, .int .i64)] .leaf))) .leaf)))
noncomputable def C24 : Code := (Tryz.f24.body).getD .skip
theorem c24 {s0 : ByteArray} {A1 : OA} {n1 : Nat} {c1 : Nat} {w : World} {R : Value → World → Prop} (h : S24 s0 A1 n1 c1 w R) : Calls PP 24 #[(.string s0), (.slice A1 n1 c1)] w (Ret R) :=
 vcF_sound (c := C24) (ann := A24) follows_ Tryz.func24 (by kernel_rfl) (cast (by kernel_rfl) h)

/- sealwax/words.letter -/
def S43 (x0 : Int) (w : World) (R : Value → World → Prop) : Prop :=
 SPLIT (decide (x0 ≥ (97 : Int))) (
 SPLIT (decide (x0 ≤ (122 : Int))) (
 R (.bool true) w) (
 SPLIT (decide (x0 ≥ (48 : Int))) (
 R (.bool (decide (x0 ≤ (57 : Int)))) w) (
 R (.bool false) w))) (
 SPLIT (decide (x0 ≥ (48 : Int))) (
 R (.bool (decide (x0 ≤ (57 : Int)))) w) (
 R (.bool false) w))
noncomputable def A43 : Ann := .leaf
noncomputable def C43 : Code := (Tryz.f43.body).getD .skip
theorem c43 {x0 : Int} {w : World} {R : Value → World → Prop} (h : S43 x0 w R) : Calls PP 43 #[(.int .u8 x0)] w (Ret R) :=
 vcF_sound (c := C43) (ann := A43) follows_ Tryz.func43 (by kernel_rfl) (cast (by kernel_rfl) h)

/- sealwax/words.Of -/
def S44 (s0 : ByteArray) (w : World) (R : Value → World → Prop) : Prop :=
 NEW w (.map #[] 0) fun k6 w1 =>
 NEW w1 (.cells #[(.map none)] 155) fun k3 w2 =>
 ST w2 ⟨k3, 0, none⟩ 0 [(.map (some k6))] fun w3 =>
 NEW w3 (.cells #[(.slice none 0 0)] 26) fun k4 w4 =>
 CALL PP 89 [(.string s0)] w4 fun r8 w5 =>
 RANGE PP r8 1 (fun l w6 beg K =>
 ∃ (y : Value) (l_1 : List Value), l = y :: l_1 ∧
 ∃ (s9 : ByteArray), y = (.string s9) ∧
 l_1 = [] ∧
 beg w6 fun w7 =>
 ∃ (m10 : Option Nat), w7.cell? ⟨k3, 0, none⟩ = some (.map m10) ∧
 ∃ r12 : Value, (Instr.lookup 155 (.map m10) (.string s9) false).run PP w7 = .ok r12 w7 ∧
 ∃ (b12 : Bool), r12 = (.bool b12) ∧
 SPLIT (!b12) (
 ∃ (m14 : Option Nat), w7.cell? ⟨k3, 0, none⟩ = some (.map m14) ∧
 RUN PP (Instr.mapUpdate 155 (.map m14) (.string s9) (.bool true)) w7 fun _uq w8 =>
 ∃ (A16 : OA) (n16 : Nat) (c16 : Nat), w8.cell? ⟨k4, 0, none⟩ = some (.slice A16 n16 c16) ∧
 NEW w8 (.cells #[(.string s9)] 9) fun k18 w9 =>
 RUN PP (Builtin.append_ #[26, 26] 26 #[(.slice A16 n16 c16), (.slice (some ⟨k18, 0, none⟩) 1 1)]) w9 fun r19 w10 =>
 ∃ (A19 : OA) (n19 : Nat) (c19 : Nat), r19 = (.slice A19 n19 c19) ∧
 ST w10 ⟨k4, 0, none⟩ 0 [(.slice A19 n19 c19)] fun w11 =>
 K w11) (
 K w7)) (fun D w6 =>
 ∃ (A20 : OA) (n20 : Nat) (c20 : Nat), w6.cell? ⟨k4, 0, none⟩ = some (.slice A20 n20 c20) ∧
 CALL PP 84 [(.slice A20 n20 c20)] w6 fun r21 w7 =>
 r21 = (.tuple #[]) ∧
 ∃ (A22 : OA) (n22 : Nat) (c22 : Nat), w7.cell? ⟨k4, 0, none⟩ = some (.slice A22 n22 c22) ∧
 ∃ (A23 : OA) (n23 : Nat) (c23 : Nat), w7.cell? ⟨k4, 0, none⟩ = some (.slice A23 n23 c23) ∧
 (0 ≤ (if (64 : Int) < (n23 : Int) then (64 : Int) else (n23 : Int)) ∧ (if (64 : Int) < (n23 : Int) then (64 : Int) else (n23 : Int)) ≤ (c22 : Int)) ∧
 w7.heap[D]? = some (.deferred (some [])) ∧
 R (.slice (SLA A22 c22 0 1) ((Int.toNat (if (64 : Int) < (n23 : Int) then (64 : Int) else (n23 : Int))) - 0) (c22 - 0)) (w7.putObj D (.deferred none))) w5
noncomputable def A44 : Ann := (.two .leaf (.two .leaf (.two .leaf (.two .leaf .leaf))))
noncomputable def C44 : Code := (Tryz.f44.body).getD .skip
theorem c44 {s0 : ByteArray} {w : World} {R : Value → World → Prop} (h : S44 s0 w R) : Calls PP 44 #[(.string s0)] w (Ret R) :=
 vcFT_sound (c := C44) (ks := [.sc .str]) (ann := A44) follows_ Tryz.func44 (by kernel_rfl) (cast (by kernel_rfl) h)

/- slices.BinarySearch[[]string,string] -/
def S45 (A0 : OA) (n0 : Nat) (c0 : Nat) (s1 : ByteArray) (w : World) (R : Value → World → Prop) : Prop :=
 ∃ (I : Int → Int → World → Prop) (μ : Int → Int → World → Nat), I (0 : Int) (n0 : Int) w ∧
 ∀ (_j : Nat → Value) (x7 : Int) (x8 : Int) (w1 : World), I x7 x8 w1 →
 SPLIT (decide (x7 < x8)) (
 (PP.underlying 3).isSome = true ∧
 0 ≤ (1 : Int) ∧
 (PP.underlying 157).isSome = true ∧
 (0 ≤ (IntKind.wrap .i64 (Int.fdiv (IntKind.wrap .u64 (IntKind.wrap .i64 (x7 + x8))) (2 ^ (min (Int.toNat (1 : Int)) 64)))) ∧ (IntKind.wrap .i64 (Int.fdiv (IntKind.wrap .u64 (IntKind.wrap .i64 (x7 + x8))) (2 ^ (min (Int.toNat (1 : Int)) 64)))) < (n0 : Int)) ∧
 SOMEA A0 fun a24 =>
 ∃ (s25 : ByteArray), w1.cell? (Addr.add a24 (Int.toNat (IntKind.wrap .i64 (Int.fdiv (IntKind.wrap .u64 (IntKind.wrap .i64 (x7 + x8))) (2 ^ (min (Int.toNat (1 : Int)) 64)))) * 1)) = some (.string s25) ∧
 CALL PP 90 [(.string s25), (.string s1)] w1 fun r27 w2 =>
 ∃ (b27 : Bool), r27 = (.bool b27) ∧
 SPLIT b27 (
 I (IntKind.wrap .i64 ((IntKind.wrap .i64 (Int.fdiv (IntKind.wrap .u64 (IntKind.wrap .i64 (x7 + x8))) (2 ^ (min (Int.toNat (1 : Int)) 64)))) + (1 : Int))) x8 w2 ∧ μ (IntKind.wrap .i64 ((IntKind.wrap .i64 (Int.fdiv (IntKind.wrap .u64 (IntKind.wrap .i64 (x7 + x8))) (2 ^ (min (Int.toNat (1 : Int)) 64)))) + (1 : Int))) x8 w2 < μ x7 x8 w1) (
 I x7 (IntKind.wrap .i64 (Int.fdiv (IntKind.wrap .u64 (IntKind.wrap .i64 (x7 + x8))) (2 ^ (min (Int.toNat (1 : Int)) 64)))) w2 ∧ μ x7 (IntKind.wrap .i64 (Int.fdiv (IntKind.wrap .u64 (IntKind.wrap .i64 (x7 + x8))) (2 ^ (min (Int.toNat (1 : Int)) 64)))) w2 < μ x7 x8 w1)) (
 SPLIT (decide (x7 < (n0 : Int))) (
 (0 ≤ x7 ∧ x7 < (n0 : Int)) ∧
 SOMEA A0 fun a38 =>
 ∃ (s39 : ByteArray), w1.cell? (Addr.add a38 (Int.toNat x7 * 1)) = some (.string s39) ∧
 SPLIT (s39.toList == s1.toList) (
 R (.tuple #[(.int .i64 x7), (.bool true)]) w1) (
 (0 ≤ x7 ∧ x7 < (n0 : Int)) ∧
 SOMEA A0 fun a45 =>
 ∃ (s46 : ByteArray), w1.cell? (Addr.add a45 (Int.toNat x7 * 1)) = some (.string s46) ∧
 CALL PP 91 [(.string s46)] w1 fun r47 w2 =>
 ∃ (b47 : Bool), r47 = (.bool b47) ∧
 SPLIT b47 (
 CALL PP 91 [(.string s1)] w2 fun r50 w3 =>
 ∃ (b50 : Bool), r50 = (.bool b50) ∧
 R (.tuple #[(.int .i64 x7), (.bool b50)]) w3) (
 R (.tuple #[(.int .i64 x7), (.bool false)]) w2))) (
 R (.tuple #[(.int .i64 x7), (.bool false)]) w1))
noncomputable def A45 : Ann := (.two .leaf (.two .leaf (.two .leaf (.two (.one (.loop 2147476352 [(7, .int .i64), (8, .int .i64)] .leaf)) .leaf))))
noncomputable def C45 : Code := (Tryz.f45.body).getD .skip
theorem c45 {A0 : OA} {n0 : Nat} {c0 : Nat} {s1 : ByteArray} {w : World} {R : Value → World → Prop} (h : S45 A0 n0 c0 s1 w R) : Calls PP 45 #[(.slice A0 n0 c0), (.string s1)] w (Ret R) :=
 vcF_sound (c := C45) (ann := A45) follows_ Tryz.func45 (by kernel_rfl) (cast (by kernel_rfl) h)

/- sealwax/words.Clean -/
def S73 (A0 : OA) (n0 : Nat) (c0 : Nat) (w : World) (R : Value → World → Prop) : Prop :=
 ∃ I : World → Prop, (
 SPLIT ((n0 : Int) == (0 : Int)) (
 R (.tuple #[(.slice none 0 0), (.int .i64 4)]) w) (
 SPLIT (decide ((n0 : Int) > (8 : Int))) (
 R (.tuple #[(.slice none 0 0), (.int .i64 4)]) w) (
 CALL PP 113 [(.slice A0 n0 c0), (.func (.func 114) #[] #[])] w fun r15 w1 =>
 ∃ (b15 : Bool), r15 = (.bool b15) ∧
 SPLIT b15 (
 R (.tuple #[(.slice none 0 0), (.int .i64 4)]) w1) (
 I w1)))) ∧
 ∀ (_j : Nat → Value) (w1 : World), I w1 →
 CALL PP 115 [(.slice A0 n0 c0)] w1 fun r18 w2 =>
 ∃ (A18 : OA) (n18 : Nat) (c18 : Nat), r18 = (.slice A18 n18 c18) ∧
 CALL PP 84 [(.slice A18 n18 c18)] w2 fun r20 w3 =>
 r20 = (.tuple #[]) ∧
 CALL PP 116 [(.slice A18 n18 c18)] w3 fun r22 w4 =>
 ∃ (A22 : OA) (n22 : Nat) (c22 : Nat), r22 = (.slice A22 n22 c22) ∧
 R (.tuple #[(.slice A22 n22 c22), (.int .i64 0)]) w4
noncomputable def A73 : Ann := (.two .leaf (.cut 131052 [] .leaf .leaf))
noncomputable def C73 : Code := (Tryz.f73.body).getD .skip
theorem c73 {A0 : OA} {n0 : Nat} {c0 : Nat} {w : World} {R : Value → World → Prop} (h : S73 A0 n0 c0 w R) : Calls PP 73 #[(.slice A0 n0 c0)] w (Ret R) :=
 vcF_sound (c := C73) (ann := A73) follows_ Tryz.func73 (by kernel_rfl) (cast (by kernel_rfl) h)

/- sealwax/words.rows -/
def S89 (s0 : ByteArray) (w : World) (R : Value → World → Prop) : Prop :=
 NEW w (.cells #[(.string s0)] 9) fun k1 w1 =>
 R (.func (.func 129) #[] #[(.pointer (some ⟨k1, 0, none⟩))]) w1
noncomputable def A89 : Ann := .leaf
noncomputable def C89 : Code := (Tryz.f89.body).getD .skip
theorem c89 {s0 : ByteArray} {w : World} {R : Value → World → Prop} (h : S89 s0 w R) : Calls PP 89 #[(.string s0)] w (Ret R) :=
 vcF_sound (c := C89) (ann := A89) follows_ Tryz.func89 (by kernel_rfl) (cast (by kernel_rfl) h)

/- cmp.Less[string] -/
def S90 (s0 : ByteArray) (s1 : ByteArray) (w : World) (R : Value → World → Prop) : Prop :=
 CALL PP 131 [(.string s0)] w fun r6 w1 =>
 ∃ (b6 : Bool), r6 = (.bool b6) ∧
 SPLIT b6 (
 CALL PP 131 [(.string s1)] w1 fun r9 w2 =>
 ∃ (b9 : Bool), r9 = (.bool b9) ∧
 SPLIT (!b9) (
 R (.bool true) w2) (
 R (.bool (Op.bytesLess s0.toList s1.toList)) w2)) (
 R (.bool (Op.bytesLess s0.toList s1.toList)) w1)
noncomputable def A90 : Ann := .leaf
noncomputable def C90 : Code := (Tryz.f90.body).getD .skip
theorem c90 {s0 : ByteArray} {s1 : ByteArray} {w : World} {R : Value → World → Prop} (h : S90 s0 s1 w R) : Calls PP 90 #[(.string s0), (.string s1)] w (Ret R) :=
 vcF_sound (c := C90) (ann := A90) follows_ Tryz.func90 (by kernel_rfl) (cast (by kernel_rfl) h)

/- slices.isNaN[string] -/
def S91 (s0 : ByteArray) (w : World) (R : Value → World → Prop) : Prop :=
 R (.bool (!(s0.toList == s0.toList))) w
noncomputable def A91 : Ann := .leaf
noncomputable def C91 : Code := (Tryz.f91.body).getD .skip
theorem c91 {s0 : ByteArray} {w : World} {R : Value → World → Prop} (h : S91 s0 w R) : Calls PP 91 #[(.string s0)] w (Ret R) :=
 vcF_sound (c := C91) (ann := A91) follows_ Tryz.func91 (by kernel_rfl) (cast (by kernel_rfl) h)

/- slices.ContainsFunc[[]string,string] -/
def S113 (A0 : OA) (n0 : Nat) (c0 : Nat) (v1 : Value) (w : World) (R : Value → World → Prop) : Prop :=
 CALL PP 145 [(.slice A0 n0 c0), v1] w fun r7 w1 =>
 ∃ (x7 : Int), r7 = (.int .i64 x7) ∧
 R (.bool (decide (x7 ≥ (0 : Int)))) w1
noncomputable def A113 : Ann := .leaf
noncomputable def C113 : Code := (Tryz.f113.body).getD .skip
theorem c113 {A0 : OA} {n0 : Nat} {c0 : Nat} {v1 : Value} {w : World} {R : Value → World → Prop} (h : S113 A0 n0 c0 v1 w R) : Calls PP 113 #[(.slice A0 n0 c0), v1] w (Ret R) :=
 vcF_sound (c := C113) (ann := A113) follows_ Tryz.func113 (by kernel_rfl) (cast (by kernel_rfl) h)

/- sealwax/words.Clean$1 -/
def S114 (s0 : ByteArray) (w : World) (R : Value → World → Prop) : Prop :=
 CALL PP 22 [(.string s0)] w fun r4 w1 =>
 ∃ (b4 : Bool), r4 = (.bool b4) ∧
 R (.bool (!b4)) w1
noncomputable def A114 : Ann := .leaf
noncomputable def C114 : Code := (Tryz.f114.body).getD .skip
theorem c114 {s0 : ByteArray} {w : World} {R : Value → World → Prop} (h : S114 s0 w R) : Calls PP 114 #[(.string s0)] w (Ret R) :=
 vcF_sound (c := C114) (ann := A114) follows_ Tryz.func114 (by kernel_rfl) (cast (by kernel_rfl) h)

/- slices.Clone[[]string,string] -/
def S115 (A0 : OA) (n0 : Nat) (c0 : Nat) (w : World) (R : Value → World → Prop) : Prop :=
 SPLIT (Option.isNone A0) (
 R (.slice none 0 0) w) (
 NEW w (.cells #[] 9) fun k5 w1 =>
 RUN PP (Builtin.append_ #[26, 26] 26 #[(.slice (some ⟨k5, 0, none⟩) 0 0), (.slice A0 n0 c0)]) w1 fun r7 w2 =>
 ∃ (A7 : OA) (n7 : Nat) (c7 : Nat), r7 = (.slice A7 n7 c7) ∧
 R (.slice A7 n7 c7) w2)
noncomputable def A115 : Ann := .leaf
noncomputable def C115 : Code := (Tryz.f115.body).getD .skip
theorem c115 {A0 : OA} {n0 : Nat} {c0 : Nat} {w : World} {R : Value → World → Prop} (h : S115 A0 n0 c0 w R) : Calls PP 115 #[(.slice A0 n0 c0)] w (Ret R) :=
 vcF_sound (c := C115) (ann := A115) follows_ Tryz.func115 (by kernel_rfl) (cast (by kernel_rfl) h)

/- sealwax/words.rows$1 -/
def S129 (v0 : Value) (k1 : Nat) (w : World) (R : Value → World → Prop) : Prop :=
 ∃ (s5 : ByteArray), w.cell? ⟨k1, 0, none⟩ = some (.string s5) ∧
 ∃ (I : OA → Nat → Nat → Int → World → Prop) (μ : OA → Nat → Nat → Int → World → Nat), I none 0 0 (0 : Int) w ∧
 ∀ (_j : Nat → Value) (A3 : OA) (n3 : Nat) (c3 : Nat) (x8 : Int) (w1 : World), I A3 n3 c3 x8 w1 →
 SPLIT (decide (x8 < (IntKind.wrap .i64 ((s5.size : Int) + (1 : Int))))) (
 ∃ I_1 : OA → Nat → Nat → World → Prop, (
 ∃ (s12 : ByteArray), w1.cell? ⟨k1, 0, none⟩ = some (.string s12) ∧
 SPLIT (decide (x8 < (s12.size : Int))) (
 ∃ (s16 : ByteArray), w1.cell? ⟨k1, 0, none⟩ = some (.string s16) ∧
 (0 ≤ x8 ∧ x8 < (s16.size : Int)) ∧
 CALL PP 130 [(.int .u8 (bt s16 x8))] w1 fun r19 w2 =>
 ∃ (x19 : Int), r19 = (.int .u8 x19) ∧
 CALL PP 43 [(.int .u8 x19)] w2 fun r20 w3 =>
 ∃ (b20 : Bool), r20 = (.bool b20) ∧
 SPLIT b20 (
 ∃ (s23 : ByteArray), w3.cell? ⟨k1, 0, none⟩ = some (.string s23) ∧
 (0 ≤ x8 ∧ x8 < (s23.size : Int)) ∧
 CALL PP 130 [(.int .u8 (bt s23 x8))] w3 fun r26 w4 =>
 ∃ (x26 : Int), r26 = (.int .u8 x26) ∧
 NEW w4 (.cells #[(.int .u8 x26)] 5) fun k27 w5 =>
 RUN PP (Builtin.append_ #[184, 184] 184 #[(.slice A3 n3 c3), (.slice (some ⟨k27, 0, none⟩) 1 1)]) w5 fun r28 w6 =>
 ∃ (A28 : OA) (n28 : Nat) (c28 : Nat), r28 = (.slice A28 n28 c28) ∧
 I A28 n28 c28 (IntKind.wrap .i64 (x8 + (1 : Int))) w6 ∧ μ A28 n28 c28 (IntKind.wrap .i64 (x8 + (1 : Int))) w6 < μ A3 n3 c3 x8 w1) (
 I_1 A3 n3 c3 w3)) (
 I_1 A3 n3 c3 w1)) ∧
 ∀ (_j : Nat → Value) (A3_1 : OA) (n3_1 : Nat) (c3_1 : Nat) (w2 : World), I_1 A3_1 n3_1 c3_1 w2 →
 SPLIT (decide ((n3_1 : Int) > (0 : Int))) (
 (0 ≤ (if (16 : Int) < (n3_1 : Int) then (16 : Int) else (n3_1 : Int)) ∧ (if (16 : Int) < (n3_1 : Int) then (16 : Int) else (n3_1 : Int)) ≤ (c3_1 : Int)) ∧
 RUN PP (convert 184 9 (.slice (SLA A3_1 c3_1 0 1) ((Int.toNat (if (16 : Int) < (n3_1 : Int) then (16 : Int) else (n3_1 : Int))) - 0) (c3_1 - 0))) w2 fun r39 w3 =>
 ∃ (s39 : ByteArray), r39 = (.string s39) ∧
 CALLV PP v0 [(.string s39)] w3 fun r40 w4 =>
 ∃ (b40 : Bool), r40 = (.bool b40) ∧
 SPLIT (!b40) (
 R (.tuple #[]) w4) (
 I none 0 0 (IntKind.wrap .i64 (x8 + (1 : Int))) w4 ∧ μ none 0 0 (IntKind.wrap .i64 (x8 + (1 : Int))) w4 < μ A3 n3 c3 x8 w1)) (
 I none 0 0 (IntKind.wrap .i64 (x8 + (1 : Int))) w2 ∧ μ none 0 0 (IntKind.wrap .i64 (x8 + (1 : Int))) w2 < μ A3 n3 c3 x8 w1)) (
 R (.tuple #[]) w1)
noncomputable def A129 : Ann := (.two .leaf (.two .leaf (.one (.loop 17592186044184 [(3, .slice), (8, .int .i64)] (.two .leaf (.two .leaf (.two (.one (.two .leaf (.cut 536868872 [(3, .slice)] .leaf .leaf))) .leaf)))))))
noncomputable def C129 : Code := (Tryz.f129.body).getD .skip
theorem c129 {v0 : Value} {k1 : Nat} {w : World} {R : Value → World → Prop} (h : S129 v0 k1 w R) : Calls PP 129 #[v0, (.pointer (some ⟨k1, 0, none⟩))] w (Ret R) :=
 vcF_sound (c := C129) (ann := A129) follows_ Tryz.func129 (by kernel_rfl) (cast (by kernel_rfl) h)

/- sealwax/words.low -/
def S130 (x0 : Int) (w : World) (R : Value → World → Prop) : Prop :=
 SPLIT (decide (x0 ≥ (65 : Int))) (
 SPLIT (decide (x0 ≤ (90 : Int))) (
 R (.int .u8 (IntKind.wrap .u8 ((IntKind.wrap .u8 (x0 + (97 : Int))) - (65 : Int)))) w) (
 R (.int .u8 x0) w)) (
 R (.int .u8 x0) w)
noncomputable def A130 : Ann := .leaf
noncomputable def C130 : Code := (Tryz.f130.body).getD .skip
theorem c130 {x0 : Int} {w : World} {R : Value → World → Prop} (h : S130 x0 w R) : Calls PP 130 #[(.int .u8 x0)] w (Ret R) :=
 vcF_sound (c := C130) (ann := A130) follows_ Tryz.func130 (by kernel_rfl) (cast (by kernel_rfl) h)

/- slices.IndexFunc[[]string,string] -/
def S145 (A0 : OA) (n0 : Nat) (c0 : Nat) (v1 : Value) (w : World) (R : Value → World → Prop) : Prop :=
 ∃ (I : Int → World → Prop) (μ : Int → World → Nat), I (0 : Int) w ∧
 ∀ (_j : Nat → Value) (x8 : Int) (w1 : World), I x8 w1 →
 SPLIT (decide (x8 < (n0 : Int))) (
 (0 ≤ x8 ∧ x8 < (n0 : Int)) ∧
 SOMEA A0 fun a14 =>
 ∃ (s15 : ByteArray), w1.cell? (Addr.add a14 (Int.toNat x8 * 1)) = some (.string s15) ∧
 CALLV PP v1 [(.string s15)] w1 fun r16 w2 =>
 ∃ (b16 : Bool), r16 = (.bool b16) ∧
 SPLIT b16 (
 R (.int .i64 x8) w2) (
 I (IntKind.wrap .i64 (x8 + (1 : Int))) w2 ∧ μ (IntKind.wrap .i64 (x8 + (1 : Int))) w2 < μ x8 w1)) (
 R (.int .i64 (-1 : Int)) w1)
noncomputable def A145 : Ann := (.two .leaf (.two (.two .leaf (.one (.loop 524080 [(8, .int .i64)] .leaf))) .leaf))
noncomputable def C145 : Code := (Tryz.f145.body).getD .skip
theorem c145 {A0 : OA} {n0 : Nat} {c0 : Nat} {v1 : Value} {w : World} {R : Value → World → Prop} (h : S145 A0 n0 c0 v1 w R) : Calls PP 145 #[(.slice A0 n0 c0), v1] w (Ret R) :=
 vcF_sound (c := C145) (ann := A145) follows_ Tryz.func145 (by kernel_rfl) (cast (by kernel_rfl) h)

/- cmp.isNaN[string] -/
def S131 (s0 : ByteArray) (w : World) (R : Value → World → Prop) : Prop :=
 R (.bool (!(s0.toList == s0.toList))) w
noncomputable def A131 : Ann := .leaf
noncomputable def C131 : Code := (Tryz.f131.body).getD .skip
theorem c131 {s0 : ByteArray} {w : World} {R : Value → World → Prop} (h : S131 s0 w R) : Calls PP 131 #[(.string s0)] w (Ret R) :=
 vcF_sound (c := C131) (ann := A131) follows_ Tryz.func131 (by kernel_rfl) (cast (by kernel_rfl) h)

end Go.SW
