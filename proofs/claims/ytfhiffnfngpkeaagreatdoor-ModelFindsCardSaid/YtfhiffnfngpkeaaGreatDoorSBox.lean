/- PRINTED by wip/tools/gen.py: the functions' conditions in readable form, each with the kernel's word that it is the computed one. -/
import Derived.Test.YtfhiffnfngpkeaaGreatDoorVcSeat
set_option linter.unusedVariables false
namespace Go.SW
open Go Go.Proofs
set_option maxRecDepth 100000
/- (*sealwax/box.Box).List -/
def S18 (k0 : Nat) (w : World) (R : Value → World → Prop) : Prop :=
  ∃ (A6 : Option Addr) (n6 : Nat) (c6 : Nat), World.cell? w (⟨k0, 2, none⟩ : Addr) = some (.slice A6 n6 c6) ∧
  CALL PP 40 [(.slice A6 n6 c6)] w fun r7 w1 =>
  ∃ (A7 : Option Addr) (n7 : Nat) (c7 : Nat), r7 = (.slice A7 n7 c7) ∧
  R (.slice A7 n7 c7) w1
noncomputable def A18 : Ann := .leaf
noncomputable def C18 : Code := (Tryz.f18.body).getD .skip
theorem e18 (k0 : Nat) (w : World) (R : Value → World → Prop) : vcF PP Tryz.f18 C18 A18 [(.pointer (some ⟨k0, 0, none⟩))] w R = S18 k0 w R := by kernel_rfl
theorem c18 {k0 : Nat} {w : World} {R : Value → World → Prop} (h : S18 k0 w R) : Calls PP 18 #[(.pointer (some ⟨k0, 0, none⟩))] w (Ret R) :=
  vcF_sound follows_ Tryz.func18 (by kernel_rfl) ((e18 k0 w R).symm ▸ h)
theorem y18 (w : World) {l : List Value} : (callFunc 18 ⟨l⟩).run PP w = .ok (.enter 18 ⟨l⟩) w := callable_ (by kernel_rfl)

/- (*sealwax/box.Box).Clone -/
def S39 (k0 : Nat) (w : World) (R : Value → World → Prop) : Prop :=
  DRAW w fun w1 =>
  ∃ (x6 : Int), World.cell? w1 (⟨k0, 0, none⟩ : Addr) = some (.int .i64 x6) ∧
  ∃ (x10 : Int), World.cell? w1 (⟨k0, 1, none⟩ : Addr) = some (.int .i64 x10) ∧
  ∃ (A14 : Option Addr) (n14 : Nat) (c14 : Nat), World.cell? w1 (⟨k0, 2, none⟩ : Addr) = some (.slice A14 n14 c14) ∧
  CALL PP 40 [(.slice A14 n14 c14)] w1 fun r15 w2 =>
  ∃ (A15 : Option Addr) (n15 : Nat) (c15 : Nat), r15 = (.slice A15 n15 c15) ∧
  (loadVar 3 (⟨k0, 1, none⟩ : Addr)).run PP w2 = .ok (.int .i64 x10) w2 ∧
  (loadVar 3 (⟨k0, 0, none⟩ : Addr)).run PP w2 = .ok (.int .i64 x6) w2 ∧
  NEW w2 (.cells #[(.int .i64 x6), (.int .i64 x10), (.slice A15 n15 c15)] 95) fun k17 w3 =>
  R (.pointer (some ⟨k17, 0, none⟩)) w3
noncomputable def A39 : Ann := .leaf
noncomputable def C39 : Code := (Tryz.f39.body).getD .skip
theorem e39 (k0 : Nat) (w : World) (R : Value → World → Prop) : vcF PP Tryz.f39 C39 A39 [(.pointer (some ⟨k0, 0, none⟩))] w R = S39 k0 w R := by kernel_rfl
theorem c39 {k0 : Nat} {w : World} {R : Value → World → Prop} (h : S39 k0 w R) : Calls PP 39 #[(.pointer (some ⟨k0, 0, none⟩))] w (Ret R) :=
  vcF_sound follows_ Tryz.func39 (by kernel_rfl) ((e39 k0 w R).symm ▸ h)
theorem y39 (w : World) {l : List Value} : (callFunc 39 ⟨l⟩).run PP w = .ok (.enter 39 ⟨l⟩) w := callable_ (by kernel_rfl)

/- slices.Clone[[]sealwax/box.Entry,sealwax/box.Entry] -/
def S40 (A0 : Option Addr) (n0 : Nat) (c0 : Nat) (w : World) (R : Value → World → Prop) : Prop :=
  SPLIT (Option.isNone A0) (
    R (.slice none 0 0) w) (
    NEW w (.cells #[] 53) fun k5 w1 =>
    RUN PP (Builtin.append_ #[50, 50] 50 #[(.slice (some ⟨k5, 0, none⟩) 0 0), (.slice A0 n0 c0)]) w1 fun r7 w2 =>
    ∃ (A7 : Option Addr) (n7 : Nat) (c7 : Nat), r7 = (.slice A7 n7 c7) ∧
    R (.slice A7 n7 c7) w2)
noncomputable def A40 : Ann := .leaf
noncomputable def C40 : Code := (Tryz.f40.body).getD .skip
theorem e40 (A0 : Option Addr) (n0 : Nat) (c0 : Nat) (w : World) (R : Value → World → Prop) : vcF PP Tryz.f40 C40 A40 [(.slice A0 n0 c0)] w R = S40 A0 n0 c0 w R := by kernel_rfl
theorem c40 {A0 : Option Addr} {n0 : Nat} {c0 : Nat} {w : World} {R : Value → World → Prop} (h : S40 A0 n0 c0 w R) : Calls PP 40 #[(.slice A0 n0 c0)] w (Ret R) :=
  vcF_sound follows_ Tryz.func40 (by kernel_rfl) ((e40 A0 n0 c0 w R).symm ▸ h)
theorem y40 (w : World) {l : List Value} : (callFunc 40 ⟨l⟩).run PP w = .ok (.enter 40 ⟨l⟩) w := callable_ (by kernel_rfl)

/- sealwax/box.New -/
def S71 (x0 : Int) (w : World) (R : Value → World → Prop) : Prop :=
  NEW w (.cells #[(.int .i64 (if (if (1099511627776 : Int) < x0 then (1099511627776 : Int) else x0) > (1 : Int) then (if (1099511627776 : Int) < x0 then (1099511627776 : Int) else x0) else (1 : Int))), (.int .i64 (1 : Int)), (.slice none 0 0)] 95) fun k7 w1 =>
  R (.pointer (some ⟨k7, 0, none⟩)) w1
noncomputable def A71 : Ann := .leaf
noncomputable def C71 : Code := (Tryz.f71.body).getD .skip
theorem e71 (x0 : Int) (w : World) (R : Value → World → Prop) : vcF PP Tryz.f71 C71 A71 [(.int .i64 x0)] w R = S71 x0 w R := by kernel_rfl
theorem c71 {x0 : Int} {w : World} {R : Value → World → Prop} (h : S71 x0 w R) : Calls PP 71 #[(.int .i64 x0)] w (Ret R) :=
  vcF_sound follows_ Tryz.func71 (by kernel_rfl) ((e71 x0 w R).symm ▸ h)
theorem y71 (w : World) {l : List Value} : (callFunc 71 ⟨l⟩).run PP w = .ok (.enter 71 ⟨l⟩) w := callable_ (by kernel_rfl)

/- (*sealwax/box.Box).Set -/
def S80 (k0 : Nat) (x1 : Int) (x2 : Int) (x3 : Int) (w : World) (R : Value → World → Prop) : Prop :=
  NEW w (.cells #[(.int .i64 (0 : Int)), (.int .i64 (0 : Int)), (.int .i64 (0 : Int))] 53) fun k8 w1 =>
  CALL PP 121 [(.pointer (some ⟨k0, 0, none⟩)), (.int .i64 x1)] w1 fun r13 w2 =>
  ∃ (x13 : Int), r13 = (.int .i64 x13) ∧
  SPLIT (decide (x13 < (0 : Int))) (
    ST w2 (⟨k8, 0, none⟩ : Addr) 0 [(.int .i64 (0 : Int)), (.int .i64 (0 : Int)), (.int .i64 (0 : Int))] fun w3 =>
    ∃ (x8r_0 : Int) (x8r_1 : Int) (x8r_2 : Int), RD w3 (⟨k8, 0, none⟩ : Addr) 0 [(.int .i64 x8r_0), (.int .i64 x8r_1), (.int .i64 x8r_2)] ∧
    R (.tuple #[(.agg #[(.int .i64 x8r_0), (.int .i64 x8r_1), (.int .i64 x8r_2)]), (.int .i64 (7 : Int))]) w3) (
    NEW w2 (.cells #[(.int .i64 x2), (.int .i64 x3)] 3) fun k21 w3 =>
    CALL PP 122 [(.slice (some ⟨k21, 0, none⟩) 2 2)] w3 fun r22 w4 =>
    ∃ (b22 : Bool), r22 = (.bool b22) ∧
    SPLIT (!b22) (
      ST w4 (⟨k8, 0, none⟩ : Addr) 0 [(.int .i64 (0 : Int)), (.int .i64 (0 : Int)), (.int .i64 (0 : Int))] fun w5 =>
      ∃ (x8r_0 : Int) (x8r_1 : Int) (x8r_2 : Int), RD w5 (⟨k8, 0, none⟩ : Addr) 0 [(.int .i64 x8r_0), (.int .i64 x8r_1), (.int .i64 x8r_2)] ∧
      R (.tuple #[(.agg #[(.int .i64 x8r_0), (.int .i64 x8r_1), (.int .i64 x8r_2)]), (.int .i64 (4 : Int))]) w5) (
      DRAW w4 fun w5 =>
      ∃ (A28 : Option Addr) (n28 : Nat) (c28 : Nat), World.cell? w5 (⟨k0, 2, none⟩ : Addr) = some (.slice A28 n28 c28) ∧
      ∃ (A33 : Option Addr) (n33 : Nat) (c33 : Nat), World.cell? w5 (⟨k0, 2, none⟩ : Addr) = some (.slice A33 n33 c33) ∧
      (0 ≤ x13 ∧ x13 < ((n33 : Nat) : Int)) ∧
      SOMEA A33 fun a35 =>
      ∃ (x37 : Int), World.cell? w5 (Addr.add (Addr.add a35 (Int.toNat x13 * 3)) 1) = some (.int .i64 x37) ∧
      (0 ≤ x13 ∧ x13 < ((n28 : Nat) : Int)) ∧
      SOMEA A28 fun a42 =>
      ST w5 (Addr.add (Addr.add a42 (Int.toNat x13 * 3)) 1) 0 [(.int .i64 (IntKind.wrap .i64 (((BitVec.ofInt 64 (IntKind.wrap .i64 (((BitVec.ofInt 64 x37) &&& ~~~(BitVec.ofInt 64 x3)).toNat : Int))) ||| (BitVec.ofInt 64 x2)).toNat : Int)))] fun w6 =>
      ∃ (A47 : Option Addr) (n47 : Nat) (c47 : Nat), World.cell? w6 (⟨k0, 2, none⟩ : Addr) = some (.slice A47 n47 c47) ∧
      (0 ≤ x13 ∧ x13 < ((n47 : Nat) : Int)) ∧
      SOMEA A47 fun a49 =>
      ∃ (x50_0 : Int) (x50_1 : Int) (x50_2 : Int), RD w6 (Addr.add a49 (Int.toNat x13 * 3)) 0 [(.int .i64 x50_0), (.int .i64 x50_1), (.int .i64 x50_2)] ∧
      ST w6 (⟨k8, 0, none⟩ : Addr) 0 [(.int .i64 x50_0), (.int .i64 x50_1), (.int .i64 x50_2)] fun w7 =>
      ∃ (x8r_0 : Int) (x8r_1 : Int) (x8r_2 : Int), RD w7 (⟨k8, 0, none⟩ : Addr) 0 [(.int .i64 x8r_0), (.int .i64 x8r_1), (.int .i64 x8r_2)] ∧
      R (.tuple #[(.agg #[(.int .i64 x8r_0), (.int .i64 x8r_1), (.int .i64 x8r_2)]), (.int .i64 (0 : Int))]) w7))
noncomputable def A80 : Ann := .leaf
noncomputable def C80 : Code := (Tryz.f80.body).getD .skip
theorem e80 (k0 : Nat) (x1 : Int) (x2 : Int) (x3 : Int) (w : World) (R : Value → World → Prop) : vcF PP Tryz.f80 C80 A80 [(.pointer (some ⟨k0, 0, none⟩)), (.int .i64 x1), (.int .i64 x2), (.int .i64 x3)] w R = S80 k0 x1 x2 x3 w R := by kernel_rfl
theorem c80 {k0 : Nat} {x1 : Int} {x2 : Int} {x3 : Int} {w : World} {R : Value → World → Prop} (h : S80 k0 x1 x2 x3 w R) : Calls PP 80 #[(.pointer (some ⟨k0, 0, none⟩)), (.int .i64 x1), (.int .i64 x2), (.int .i64 x3)] w (Ret R) :=
  vcF_sound follows_ Tryz.func80 (by kernel_rfl) ((e80 k0 x1 x2 x3 w R).symm ▸ h)
theorem y80 (w : World) {l : List Value} : (callFunc 80 ⟨l⟩).run PP w = .ok (.enter 80 ⟨l⟩) w := callable_ (by kernel_rfl)

/- (*sealwax/box.Box).Next -/
def S104 (k0 : Nat) (w : World) (R : Value → World → Prop) : Prop :=
  ∃ (x6 : Int), World.cell? w (⟨k0, 1, none⟩ : Addr) = some (.int .i64 x6) ∧
  R (.int .i64 x6) w
noncomputable def A104 : Ann := .leaf
noncomputable def C104 : Code := (Tryz.f104.body).getD .skip
theorem e104 (k0 : Nat) (w : World) (R : Value → World → Prop) : vcF PP Tryz.f104 C104 A104 [(.pointer (some ⟨k0, 0, none⟩))] w R = S104 k0 w R := by kernel_rfl
theorem c104 {k0 : Nat} {w : World} {R : Value → World → Prop} (h : S104 k0 w R) : Calls PP 104 #[(.pointer (some ⟨k0, 0, none⟩))] w (Ret R) :=
  vcF_sound follows_ Tryz.func104 (by kernel_rfl) ((e104 k0 w R).symm ▸ h)
theorem y104 (w : World) {l : List Value} : (callFunc 104 ⟨l⟩).run PP w = .ok (.enter 104 ⟨l⟩) w := callable_ (by kernel_rfl)

/- (*sealwax/box.Box).Validity -/
def S105 (k0 : Nat) (w : World) (R : Value → World → Prop) : Prop :=
  ∃ (x6 : Int), World.cell? w (⟨k0, 0, none⟩ : Addr) = some (.int .i64 x6) ∧
  R (.int .i64 x6) w
noncomputable def A105 : Ann := .leaf
noncomputable def C105 : Code := (Tryz.f105.body).getD .skip
theorem e105 (k0 : Nat) (w : World) (R : Value → World → Prop) : vcF PP Tryz.f105 C105 A105 [(.pointer (some ⟨k0, 0, none⟩))] w R = S105 k0 w R := by kernel_rfl
theorem c105 {k0 : Nat} {w : World} {R : Value → World → Prop} (h : S105 k0 w R) : Calls PP 105 #[(.pointer (some ⟨k0, 0, none⟩))] w (Ret R) :=
  vcF_sound follows_ Tryz.func105 (by kernel_rfl) ((e105 k0 w R).symm ▸ h)
theorem y105 (w : World) {l : List Value} : (callFunc 105 ⟨l⟩).run PP w = .ok (.enter 105 ⟨l⟩) w := callable_ (by kernel_rfl)

/- (*sealwax/box.Box).Unseen -/
def S106 (k0 : Nat) (w : World) (R : Value → World → Prop) : Prop :=
  ∃ (A9 : Option Addr) (n9 : Nat) (c9 : Nat), World.cell? w (⟨k0, 2, none⟩ : Addr) = some (.slice A9 n9 c9) ∧
  ∃ (I : Int → Int → World → Prop) (μ : Int → Int → World → Nat), I (0 : Int) (0 : Int) w ∧
  ∀ (_j : Nat → Value) (x3 : Int) (x11 : Int) (w1 : World), I x3 x11 w1 →
  SPLIT (decide (x11 < ((n9 : Nat) : Int))) (
    (0 ≤ x11 ∧ x11 < ((n9 : Nat) : Int)) ∧
    SOMEA A9 fun a13 =>
    ∃ (x14_0 : Int) (x14_1 : Int) (x14_2 : Int), RD w1 (Addr.add a13 (Int.toNat x11 * 3)) 0 [(.int .i64 x14_0), (.int .i64 x14_1), (.int .i64 x14_2)] ∧
    NEW w1 (.cells #[(.int .i64 (0 : Int)), (.int .i64 (0 : Int)), (.int .i64 (0 : Int))] 53) fun k5 w2 =>
    ST w2 (⟨k5, 0, none⟩ : Addr) 0 [(.int .i64 x14_0), (.int .i64 x14_1), (.int .i64 x14_2)] fun w3 =>
    ∃ (x16 : Int), World.cell? w3 (⟨k5, 1, none⟩ : Addr) = some (.int .i64 x16) ∧
    SPLIT ((IntKind.wrap .i64 (((BitVec.ofInt 64 x16) &&& (BitVec.ofInt 64 (1 : Int))).toNat : Int)) == (0 : Int)) (
      I (IntKind.wrap .i64 (x3 + (1 : Int))) (IntKind.wrap .i64 (x11 + (1 : Int))) w3 ∧ μ (IntKind.wrap .i64 (x3 + (1 : Int))) (IntKind.wrap .i64 (x11 + (1 : Int))) w3 < μ x3 x11 w1) (
      I x3 (IntKind.wrap .i64 (x11 + (1 : Int))) w3 ∧ μ x3 (IntKind.wrap .i64 (x11 + (1 : Int))) w3 < μ x3 x11 w1)) (
    R (.int .i64 x3) w1)
noncomputable def A106 : Ann := (.two .leaf (.two .leaf (.two (.two .leaf (.one (.loop 4192296 [(3, .int .i64), (11, .int .i64)] .leaf))) .leaf)))
noncomputable def C106 : Code := (Tryz.f106.body).getD .skip
theorem e106 (k0 : Nat) (w : World) (R : Value → World → Prop) : vcF PP Tryz.f106 C106 A106 [(.pointer (some ⟨k0, 0, none⟩))] w R = S106 k0 w R := by kernel_rfl
theorem c106 {k0 : Nat} {w : World} {R : Value → World → Prop} (h : S106 k0 w R) : Calls PP 106 #[(.pointer (some ⟨k0, 0, none⟩))] w (Ret R) :=
  vcF_sound follows_ Tryz.func106 (by kernel_rfl) ((e106 k0 w R).symm ▸ h)
theorem y106 (w : World) {l : List Value} : (callFunc 106 ⟨l⟩).run PP w = .ok (.enter 106 ⟨l⟩) w := callable_ (by kernel_rfl)

/- (*sealwax/box.Box).Get -/
def S119 (k0 : Nat) (x1 : Int) (w : World) (R : Value → World → Prop) : Prop :=
  NEW w (.cells #[(.int .i64 (0 : Int)), (.int .i64 (0 : Int)), (.int .i64 (0 : Int))] 53) fun k4 w1 =>
  CALL PP 121 [(.pointer (some ⟨k0, 0, none⟩)), (.int .i64 x1)] w1 fun r9 w2 =>
  ∃ (x9 : Int), r9 = (.int .i64 x9) ∧
  SPLIT (decide (x9 < (0 : Int))) (
    ST w2 (⟨k4, 0, none⟩ : Addr) 0 [(.int .i64 (0 : Int)), (.int .i64 (0 : Int)), (.int .i64 (0 : Int))] fun w3 =>
    ∃ (x4r_0 : Int) (x4r_1 : Int) (x4r_2 : Int), RD w3 (⟨k4, 0, none⟩ : Addr) 0 [(.int .i64 x4r_0), (.int .i64 x4r_1), (.int .i64 x4r_2)] ∧
    R (.tuple #[(.agg #[(.int .i64 x4r_0), (.int .i64 x4r_1), (.int .i64 x4r_2)]), (.int .i64 (7 : Int))]) w3) (
    ∃ (A16 : Option Addr) (n16 : Nat) (c16 : Nat), World.cell? w2 (⟨k0, 2, none⟩ : Addr) = some (.slice A16 n16 c16) ∧
    (0 ≤ x9 ∧ x9 < ((n16 : Nat) : Int)) ∧
    SOMEA A16 fun a18 =>
    ∃ (x19_0 : Int) (x19_1 : Int) (x19_2 : Int), RD w2 (Addr.add a18 (Int.toNat x9 * 3)) 0 [(.int .i64 x19_0), (.int .i64 x19_1), (.int .i64 x19_2)] ∧
    ST w2 (⟨k4, 0, none⟩ : Addr) 0 [(.int .i64 x19_0), (.int .i64 x19_1), (.int .i64 x19_2)] fun w3 =>
    ∃ (x4r_0 : Int) (x4r_1 : Int) (x4r_2 : Int), RD w3 (⟨k4, 0, none⟩ : Addr) 0 [(.int .i64 x4r_0), (.int .i64 x4r_1), (.int .i64 x4r_2)] ∧
    R (.tuple #[(.agg #[(.int .i64 x4r_0), (.int .i64 x4r_1), (.int .i64 x4r_2)]), (.int .i64 (0 : Int))]) w3)
noncomputable def A119 : Ann := .leaf
noncomputable def C119 : Code := (Tryz.f119.body).getD .skip
theorem e119 (k0 : Nat) (x1 : Int) (w : World) (R : Value → World → Prop) : vcF PP Tryz.f119 C119 A119 [(.pointer (some ⟨k0, 0, none⟩)), (.int .i64 x1)] w R = S119 k0 x1 w R := by kernel_rfl
theorem c119 {k0 : Nat} {x1 : Int} {w : World} {R : Value → World → Prop} (h : S119 k0 x1 w R) : Calls PP 119 #[(.pointer (some ⟨k0, 0, none⟩)), (.int .i64 x1)] w (Ret R) :=
  vcF_sound follows_ Tryz.func119 (by kernel_rfl) ((e119 k0 x1 w R).symm ▸ h)
theorem y119 (w : World) {l : List Value} : (callFunc 119 ⟨l⟩).run PP w = .ok (.enter 119 ⟨l⟩) w := callable_ (by kernel_rfl)

/- (*sealwax/box.Box).Remove -/
def S120 (k0 : Nat) (x1 : Int) (w : World) (R : Value → World → Prop) : Prop :=
  NEW w (.cells #[(.int .i64 (0 : Int)), (.int .i64 (0 : Int)), (.int .i64 (0 : Int))] 53) fun k4 w1 =>
  CALL PP 119 [(.pointer (some ⟨k0, 0, none⟩)), (.int .i64 x1)] w1 fun r11 w2 =>
  ∃ (x11a_0 : Int) (x11a_1 : Int) (x11a_2 : Int) (x11b : Int), r11 = (.tuple #[(.agg #[(.int .i64 x11a_0), (.int .i64 x11a_1), (.int .i64 x11a_2)]), (.int .i64 x11b)]) ∧
  NEW w2 (.cells #[(.int .i64 (0 : Int)), (.int .i64 (0 : Int)), (.int .i64 (0 : Int))] 53) fun k6 w3 =>
  ST w3 (⟨k6, 0, none⟩ : Addr) 0 [(.int .i64 x11a_0), (.int .i64 x11a_1), (.int .i64 x11a_2)] fun w4 =>
  SPLIT (x11b == (0 : Int)) (
    ∃ (A20 : Option Addr) (n20 : Nat) (c20 : Nat), World.cell? w4 (⟨k0, 2, none⟩ : Addr) = some (.slice A20 n20 c20) ∧
    CALL PP 147 [(.slice A20 n20 c20), (.func (.func 148) #[] #[(.pointer (some ⟨k6, 0, none⟩))])] w4 fun r22 w5 =>
    ∃ (A22 : Option Addr) (n22 : Nat) (c22 : Nat), r22 = (.slice A22 n22 c22) ∧
    ST w5 (⟨k0, 2, none⟩ : Addr) 0 [(.slice A22 n22 c22)] fun w6 =>
    ∃ (x25_0 : Int) (x25_1 : Int) (x25_2 : Int), RD w6 (⟨k6, 0, none⟩ : Addr) 0 [(.int .i64 x25_0), (.int .i64 x25_1), (.int .i64 x25_2)] ∧
    ST w6 (⟨k4, 0, none⟩ : Addr) 0 [(.int .i64 x25_0), (.int .i64 x25_1), (.int .i64 x25_2)] fun w7 =>
    ∃ (x4r_0 : Int) (x4r_1 : Int) (x4r_2 : Int), RD w7 (⟨k4, 0, none⟩ : Addr) 0 [(.int .i64 x4r_0), (.int .i64 x4r_1), (.int .i64 x4r_2)] ∧
    R (.tuple #[(.agg #[(.int .i64 x4r_0), (.int .i64 x4r_1), (.int .i64 x4r_2)]), (.int .i64 x11b)]) w7) (
    ∃ (x25_0 : Int) (x25_1 : Int) (x25_2 : Int), RD w4 (⟨k6, 0, none⟩ : Addr) 0 [(.int .i64 x25_0), (.int .i64 x25_1), (.int .i64 x25_2)] ∧
    ST w4 (⟨k4, 0, none⟩ : Addr) 0 [(.int .i64 x25_0), (.int .i64 x25_1), (.int .i64 x25_2)] fun w5 =>
    ∃ (x4r_0 : Int) (x4r_1 : Int) (x4r_2 : Int), RD w5 (⟨k4, 0, none⟩ : Addr) 0 [(.int .i64 x4r_0), (.int .i64 x4r_1), (.int .i64 x4r_2)] ∧
    R (.tuple #[(.agg #[(.int .i64 x4r_0), (.int .i64 x4r_1), (.int .i64 x4r_2)]), (.int .i64 x11b)]) w5)
noncomputable def A120 : Ann := .leaf
noncomputable def C120 : Code := (Tryz.f120.body).getD .skip
theorem e120 (k0 : Nat) (x1 : Int) (w : World) (R : Value → World → Prop) : vcF PP Tryz.f120 C120 A120 [(.pointer (some ⟨k0, 0, none⟩)), (.int .i64 x1)] w R = S120 k0 x1 w R := by kernel_rfl
theorem c120 {k0 : Nat} {x1 : Int} {w : World} {R : Value → World → Prop} (h : S120 k0 x1 w R) : Calls PP 120 #[(.pointer (some ⟨k0, 0, none⟩)), (.int .i64 x1)] w (Ret R) :=
  vcF_sound follows_ Tryz.func120 (by kernel_rfl) ((e120 k0 x1 w R).symm ▸ h)
theorem y120 (w : World) {l : List Value} : (callFunc 120 ⟨l⟩).run PP w = .ok (.enter 120 ⟨l⟩) w := callable_ (by kernel_rfl)

/- (*sealwax/box.Box).at -/
def S121 (k0 : Nat) (x1 : Int) (w : World) (R : Value → World → Prop) : Prop :=
  NEW w (.cells #[(.int .i64 x1)] 3) fun k3 w1 =>
  ∃ (A8 : Option Addr) (n8 : Nat) (c8 : Nat), World.cell? w1 (⟨k0, 2, none⟩ : Addr) = some (.slice A8 n8 c8) ∧
  CALL PP 149 [(.slice A8 n8 c8), (.func (.func 150) #[] #[(.pointer (some ⟨k3, 0, none⟩))])] w1 fun r10 w2 =>
  ∃ (x10 : Int), r10 = (.int .i64 x10) ∧
  R (.int .i64 x10) w2
noncomputable def A121 : Ann := .leaf
noncomputable def C121 : Code := (Tryz.f121.body).getD .skip
theorem e121 (k0 : Nat) (x1 : Int) (w : World) (R : Value → World → Prop) : vcF PP Tryz.f121 C121 A121 [(.pointer (some ⟨k0, 0, none⟩)), (.int .i64 x1)] w R = S121 k0 x1 w R := by kernel_rfl
theorem c121 {k0 : Nat} {x1 : Int} {w : World} {R : Value → World → Prop} (h : S121 k0 x1 w R) : Calls PP 121 #[(.pointer (some ⟨k0, 0, none⟩)), (.int .i64 x1)] w (Ret R) :=
  vcF_sound follows_ Tryz.func121 (by kernel_rfl) ((e121 k0 x1 w R).symm ▸ h)
theorem y121 (w : World) {l : List Value} : (callFunc 121 ⟨l⟩).run PP w = .ok (.enter 121 ⟨l⟩) w := callable_ (by kernel_rfl)

/- sealwax/box.flags -/
def S122 (A0 : Option Addr) (n0 : Nat) (c0 : Nat) (w : World) (R : Value → World → Prop) : Prop :=
  CALL PP 151 [(.slice A0 n0 c0), (.func (.func 152) #[] #[])] w fun r4 w1 =>
  ∃ (b4 : Bool), r4 = (.bool b4) ∧
  R (.bool (!b4)) w1
noncomputable def A122 : Ann := .leaf
noncomputable def C122 : Code := (Tryz.f122.body).getD .skip
theorem e122 (A0 : Option Addr) (n0 : Nat) (c0 : Nat) (w : World) (R : Value → World → Prop) : vcF PP Tryz.f122 C122 A122 [(.slice A0 n0 c0)] w R = S122 A0 n0 c0 w R := by kernel_rfl
theorem c122 {A0 : Option Addr} {n0 : Nat} {c0 : Nat} {w : World} {R : Value → World → Prop} (h : S122 A0 n0 c0 w R) : Calls PP 122 #[(.slice A0 n0 c0)] w (Ret R) :=
  vcF_sound follows_ Tryz.func122 (by kernel_rfl) ((e122 A0 n0 c0 w R).symm ▸ h)
theorem y122 (w : World) {l : List Value} : (callFunc 122 ⟨l⟩).run PP w = .ok (.enter 122 ⟨l⟩) w := callable_ (by kernel_rfl)

/- (*sealwax/box.Box).Expunge -/
def S123 (k0 : Nat) (w : World) (R : Value → World → Prop) : Prop :=
  ∃ (A10 : Option Addr) (n10 : Nat) (c10 : Nat), World.cell? w (⟨k0, 2, none⟩ : Addr) = some (.slice A10 n10 c10) ∧
  ∃ (I : Option Addr → Nat → Nat → Option Addr → Nat → Nat → Int → World → Prop) (μ : Option Addr → Nat → Nat → Option Addr → Nat → Nat → Int → World → Nat), I none 0 0 none 0 0 (0 : Int) w ∧
  ∀ (_j : Nat → Value) (A3 : Option Addr) (n3 : Nat) (c3 : Nat) (A4 : Option Addr) (n4 : Nat) (c4 : Nat) (x12 : Int) (w1 : World), I A3 n3 c3 A4 n4 c4 x12 w1 →
  SPLIT (decide (x12 < ((n10 : Nat) : Int))) (
    (0 ≤ x12 ∧ x12 < ((n10 : Nat) : Int)) ∧
    SOMEA A10 fun a14 =>
    ∃ (x15_0 : Int) (x15_1 : Int) (x15_2 : Int), RD w1 (Addr.add a14 (Int.toNat x12 * 3)) 0 [(.int .i64 x15_0), (.int .i64 x15_1), (.int .i64 x15_2)] ∧
    NEW w1 (.cells #[(.int .i64 (0 : Int)), (.int .i64 (0 : Int)), (.int .i64 (0 : Int))] 53) fun k6 w2 =>
    ST w2 (⟨k6, 0, none⟩ : Addr) 0 [(.int .i64 x15_0), (.int .i64 x15_1), (.int .i64 x15_2)] fun w3 =>
    ∃ (x17 : Int), World.cell? w3 (⟨k6, 1, none⟩ : Addr) = some (.int .i64 x17) ∧
    SPLIT ((IntKind.wrap .i64 (((BitVec.ofInt 64 x17) &&& (BitVec.ofInt 64 (8 : Int))).toNat : Int)) != (0 : Int)) (
      ∃ (x21_0 : Int) (x21_1 : Int) (x21_2 : Int), RD w3 (⟨k6, 0, none⟩ : Addr) 0 [(.int .i64 x21_0), (.int .i64 x21_1), (.int .i64 x21_2)] ∧
      NEW w3 (.cells #[(.int .i64 x21_0), (.int .i64 x21_1), (.int .i64 x21_2)] 53) fun k22 w4 =>
      RUN PP (Builtin.append_ #[50, 50] 50 #[(.slice A3 n3 c3), (.slice (some ⟨k22, 0, none⟩) 1 1)]) w4 fun r23 w5 =>
      ∃ (A23 : Option Addr) (n23 : Nat) (c23 : Nat), r23 = (.slice A23 n23 c23) ∧
      I A23 n23 c23 A4 n4 c4 (IntKind.wrap .i64 (x12 + (1 : Int))) w5 ∧ μ A23 n23 c23 A4 n4 c4 (IntKind.wrap .i64 (x12 + (1 : Int))) w5 < μ A3 n3 c3 A4 n4 c4 x12 w1) (
      ∃ (x25_0 : Int) (x25_1 : Int) (x25_2 : Int), RD w3 (⟨k6, 0, none⟩ : Addr) 0 [(.int .i64 x25_0), (.int .i64 x25_1), (.int .i64 x25_2)] ∧
      NEW w3 (.cells #[(.int .i64 x25_0), (.int .i64 x25_1), (.int .i64 x25_2)] 53) fun k26 w4 =>
      RUN PP (Builtin.append_ #[50, 50] 50 #[(.slice A4 n4 c4), (.slice (some ⟨k26, 0, none⟩) 1 1)]) w4 fun r27 w5 =>
      ∃ (A27 : Option Addr) (n27 : Nat) (c27 : Nat), r27 = (.slice A27 n27 c27) ∧
      I A3 n3 c3 A27 n27 c27 (IntKind.wrap .i64 (x12 + (1 : Int))) w5 ∧ μ A3 n3 c3 A27 n27 c27 (IntKind.wrap .i64 (x12 + (1 : Int))) w5 < μ A3 n3 c3 A4 n4 c4 x12 w1)) (
    ST w1 (⟨k0, 2, none⟩ : Addr) 0 [(.slice A4 n4 c4)] fun w2 =>
    R (.slice A3 n3 c3) w2)
noncomputable def A123 : Ann := (.two .leaf (.two .leaf (.two (.two .leaf (.one (.loop 536866904 [(3, .slice), (4, .slice), (12, .int .i64)] .leaf))) .leaf)))
noncomputable def C123 : Code := (Tryz.f123.body).getD .skip
theorem e123 (k0 : Nat) (w : World) (R : Value → World → Prop) : vcF PP Tryz.f123 C123 A123 [(.pointer (some ⟨k0, 0, none⟩))] w R = S123 k0 w R := by kernel_rfl
theorem c123 {k0 : Nat} {w : World} {R : Value → World → Prop} (h : S123 k0 w R) : Calls PP 123 #[(.pointer (some ⟨k0, 0, none⟩))] w (Ret R) :=
  vcF_sound follows_ Tryz.func123 (by kernel_rfl) ((e123 k0 w R).symm ▸ h)
theorem y123 (w : World) {l : List Value} : (callFunc 123 ⟨l⟩).run PP w = .ok (.enter 123 ⟨l⟩) w := callable_ (by kernel_rfl)

/- (*sealwax/box.Box).Add -/
def S146 (k0 : Nat) (x1 : Int) (x2 : Int) (w : World) (R : Value → World → Prop) : Prop :=
  NEW w (.cells #[(.int .i64 (0 : Int)), (.int .i64 (0 : Int)), (.int .i64 (0 : Int))] 53) fun k6 w1 =>
  ∃ I : World → Prop, (
    CALL PP 153 [(.int .i64 x1), (.int .i64 (1 : Int)), (.int .i64 (1099511627776 : Int))] w1 fun r11 w2 =>
    ∃ (b11 : Bool), r11 = (.bool b11) ∧
    SPLIT (!b11) (
      ST w2 (⟨k6, 0, none⟩ : Addr) 0 [(.int .i64 (0 : Int)), (.int .i64 (0 : Int)), (.int .i64 (0 : Int))] fun w3 =>
      ∃ (x6r_0 : Int) (x6r_1 : Int) (x6r_2 : Int), RD w3 (⟨k6, 0, none⟩ : Addr) 0 [(.int .i64 x6r_0), (.int .i64 x6r_1), (.int .i64 x6r_2)] ∧
      R (.tuple #[(.agg #[(.int .i64 x6r_0), (.int .i64 x6r_1), (.int .i64 x6r_2)]), (.int .i64 (4 : Int))]) w3) (
      NEW w2 (.cells #[(.int .i64 x2)] 3) fun k15 w3 =>
      CALL PP 122 [(.slice (some ⟨k15, 0, none⟩) 1 1)] w3 fun r16 w4 =>
      ∃ (b16 : Bool), r16 = (.bool b16) ∧
      SPLIT (!b16) (
        ST w4 (⟨k6, 0, none⟩ : Addr) 0 [(.int .i64 (0 : Int)), (.int .i64 (0 : Int)), (.int .i64 (0 : Int))] fun w5 =>
        ∃ (x6r_0 : Int) (x6r_1 : Int) (x6r_2 : Int), RD w5 (⟨k6, 0, none⟩ : Addr) 0 [(.int .i64 x6r_0), (.int .i64 x6r_1), (.int .i64 x6r_2)] ∧
        R (.tuple #[(.agg #[(.int .i64 x6r_0), (.int .i64 x6r_1), (.int .i64 x6r_2)]), (.int .i64 (4 : Int))]) w5) (
        ∃ (A24 : Option Addr) (n24 : Nat) (c24 : Nat), World.cell? w4 (⟨k0, 2, none⟩ : Addr) = some (.slice A24 n24 c24) ∧
        SPLIT (decide (((n24 : Nat) : Int) ≥ (256 : Int))) (
          ST w4 (⟨k6, 0, none⟩ : Addr) 0 [(.int .i64 (0 : Int)), (.int .i64 (0 : Int)), (.int .i64 (0 : Int))] fun w5 =>
          ∃ (x6r_0 : Int) (x6r_1 : Int) (x6r_2 : Int), RD w5 (⟨k6, 0, none⟩ : Addr) 0 [(.int .i64 x6r_0), (.int .i64 x6r_1), (.int .i64 x6r_2)] ∧
          R (.tuple #[(.agg #[(.int .i64 x6r_0), (.int .i64 x6r_1), (.int .i64 x6r_2)]), (.int .i64 (8 : Int))]) w5) (
          I w4)))) ∧
  ∀ (_j : Nat → Value) (w2 : World), I w2 →
  ∃ (x31 : Int), World.cell? w2 (⟨k0, 1, none⟩ : Addr) = some (.int .i64 x31) ∧
  NEW w2 (.cells #[(.int .i64 (0 : Int)), (.int .i64 (0 : Int)), (.int .i64 (0 : Int))] 53) fun k8 w3 =>
  ST w3 (⟨k8, 0, none⟩ : Addr) 0 [(.int .i64 x31), (.int .i64 x2), (.int .i64 x1)] fun w4 =>
  DRAW w4 fun w5 =>
  ∃ (A39 : Option Addr) (n39 : Nat) (c39 : Nat), World.cell? w5 (⟨k0, 2, none⟩ : Addr) = some (.slice A39 n39 c39) ∧
  ∃ (x40_0 : Int) (x40_1 : Int) (x40_2 : Int), RD w5 (⟨k8, 0, none⟩ : Addr) 0 [(.int .i64 x40_0), (.int .i64 x40_1), (.int .i64 x40_2)] ∧
  NEW w5 (.cells #[(.int .i64 x40_0), (.int .i64 x40_1), (.int .i64 x40_2)] 53) fun k41 w6 =>
  (loadVar 50 (⟨k0, 2, none⟩ : Addr)).run PP w6 = .ok (.slice A39 n39 c39) w6 ∧
  RUN PP (Builtin.append_ #[50, 50] 50 #[(.slice A39 n39 c39), (.slice (some ⟨k41, 0, none⟩) 1 1)]) w6 fun r42 w7 =>
  ∃ (A42 : Option Addr) (n42 : Nat) (c42 : Nat), r42 = (.slice A42 n42 c42) ∧
  ST w7 (⟨k0, 2, none⟩ : Addr) 0 [(.slice A42 n42 c42)] fun w8 =>
  ∃ (x48 : Int), World.cell? w8 (⟨k0, 1, none⟩ : Addr) = some (.int .i64 x48) ∧
  ST w8 (⟨k0, 1, none⟩ : Addr) 0 [(.int .i64 (IntKind.wrap .i64 (x48 + (1 : Int))))] fun w9 =>
  ∃ (x52_0 : Int) (x52_1 : Int) (x52_2 : Int), RD w9 (⟨k8, 0, none⟩ : Addr) 0 [(.int .i64 x52_0), (.int .i64 x52_1), (.int .i64 x52_2)] ∧
  ST w9 (⟨k6, 0, none⟩ : Addr) 0 [(.int .i64 x52_0), (.int .i64 x52_1), (.int .i64 x52_2)] fun w10 =>
  ∃ (x6r_0 : Int) (x6r_1 : Int) (x6r_2 : Int), RD w10 (⟨k6, 0, none⟩ : Addr) 0 [(.int .i64 x6r_0), (.int .i64 x6r_1), (.int .i64 x6r_2)] ∧
  R (.tuple #[(.agg #[(.int .i64 x6r_0), (.int .i64 x6r_1), (.int .i64 x6r_2)]), (.int .i64 (0 : Int))]) w10
noncomputable def A146 : Ann := (.two .leaf (.cut 268435072 [] .leaf .leaf))
noncomputable def C146 : Code := (Tryz.f146.body).getD .skip
theorem e146 (k0 : Nat) (x1 : Int) (x2 : Int) (w : World) (R : Value → World → Prop) : vcF PP Tryz.f146 C146 A146 [(.pointer (some ⟨k0, 0, none⟩)), (.int .i64 x1), (.int .i64 x2)] w R = S146 k0 x1 x2 w R := by kernel_rfl
theorem c146 {k0 : Nat} {x1 : Int} {x2 : Int} {w : World} {R : Value → World → Prop} (h : S146 k0 x1 x2 w R) : Calls PP 146 #[(.pointer (some ⟨k0, 0, none⟩)), (.int .i64 x1), (.int .i64 x2)] w (Ret R) :=
  vcF_sound follows_ Tryz.func146 (by kernel_rfl) ((e146 k0 x1 x2 w R).symm ▸ h)
theorem y146 (w : World) {l : List Value} : (callFunc 146 ⟨l⟩).run PP w = .ok (.enter 146 ⟨l⟩) w := callable_ (by kernel_rfl)

/- slices.DeleteFunc[[]sealwax/box.Entry,sealwax/box.Entry] -/
def S147 (A0 : Option Addr) (n0 : Nat) (c0 : Nat) (v1 : Value) (w : World) (R : Value → World → Prop) : Prop :=
  CALL PP 149 [(.slice A0 n0 c0), v1] w fun r10 w1 =>
  ∃ (x10 : Int), r10 = (.int .i64 x10) ∧
  SPLIT (x10 == (-1 : Int)) (
    R (.slice A0 n0 c0) w1) (
    ∃ (I : Int → Int → World → Prop) (μ : Int → Int → World → Nat), I x10 (IntKind.wrap .i64 (x10 + (1 : Int))) w1 ∧
    ∀ (_j : Nat → Value) (x5 : Int) (x6 : Int) (w2 : World), I x5 x6 w2 →
    SPLIT (decide (x6 < ((n0 : Nat) : Int))) (
      (0 ≤ x6 ∧ x6 < ((n0 : Nat) : Int)) ∧
      SOMEA A0 fun a24 =>
      ∃ (x25_0 : Int) (x25_1 : Int) (x25_2 : Int), RD w2 (Addr.add a24 (Int.toNat x6 * 3)) 0 [(.int .i64 x25_0), (.int .i64 x25_1), (.int .i64 x25_2)] ∧
      NEW w2 (.cells #[(.int .i64 (0 : Int)), (.int .i64 (0 : Int)), (.int .i64 (0 : Int))] 53) fun k7 w3 =>
      ST w3 (⟨k7, 0, none⟩ : Addr) 0 [(.int .i64 x25_0), (.int .i64 x25_1), (.int .i64 x25_2)] fun w4 =>
      ∃ (x27_0 : Int) (x27_1 : Int) (x27_2 : Int), RD w4 (⟨k7, 0, none⟩ : Addr) 0 [(.int .i64 x27_0), (.int .i64 x27_1), (.int .i64 x27_2)] ∧
      CALLV PP v1 [(.agg #[(.int .i64 x27_0), (.int .i64 x27_1), (.int .i64 x27_2)])] w4 fun r28 w5 =>
      ∃ (b28 : Bool), r28 = (.bool b28) ∧
      SPLIT (!b28) (
        ∃ (x32_0 : Int) (x32_1 : Int) (x32_2 : Int), RD w5 (⟨k7, 0, none⟩ : Addr) 0 [(.int .i64 x32_0), (.int .i64 x32_1), (.int .i64 x32_2)] ∧
        (0 ≤ x5 ∧ x5 < ((n0 : Nat) : Int)) ∧
        SOMEA A0 fun a33 =>
        ST w5 (Addr.add a33 (Int.toNat x5 * 3)) 0 [(.int .i64 x32_0), (.int .i64 x32_1), (.int .i64 x32_2)] fun w6 =>
        I (IntKind.wrap .i64 (x5 + (1 : Int))) (IntKind.wrap .i64 (x6 + (1 : Int))) w6 ∧ μ (IntKind.wrap .i64 (x5 + (1 : Int))) (IntKind.wrap .i64 (x6 + (1 : Int))) w6 < μ x5 x6 w2) (
        I x5 (IntKind.wrap .i64 (x6 + (1 : Int))) w5 ∧ μ x5 (IntKind.wrap .i64 (x6 + (1 : Int))) w5 < μ x5 x6 w2)) (
      (0 ≤ x5 ∧ x5 ≤ ((n0 : Nat) : Int)) ∧
      RUN PP (Builtin.clear_ #[50] 0 #[(.slice (SLA A0 c0 (Int.toNat x5) 3) (n0 - (Int.toNat x5)) (c0 - (Int.toNat x5)))]) w2 fun rq w3 =>
      (0 ≤ x5 ∧ x5 ≤ ((c0 : Nat) : Int)) ∧
      R (.slice (SLA A0 c0 0 3) ((Int.toNat x5) - 0) (c0 - 0)) w3))
noncomputable def A147 : Ann := (.two .leaf (.two .leaf (.two .leaf (.two (.two .leaf (.one (.loop 68719411424 [(5, .int .i64), (6, .int .i64)] .leaf))) .leaf))))
noncomputable def C147 : Code := (Tryz.f147.body).getD .skip
theorem e147 (A0 : Option Addr) (n0 : Nat) (c0 : Nat) (v1 : Value) (w : World) (R : Value → World → Prop) : vcF PP Tryz.f147 C147 A147 [(.slice A0 n0 c0), v1] w R = S147 A0 n0 c0 v1 w R := by kernel_rfl
theorem c147 {A0 : Option Addr} {n0 : Nat} {c0 : Nat} {v1 : Value} {w : World} {R : Value → World → Prop} (h : S147 A0 n0 c0 v1 w R) : Calls PP 147 #[(.slice A0 n0 c0), v1] w (Ret R) :=
  vcF_sound follows_ Tryz.func147 (by kernel_rfl) ((e147 A0 n0 c0 v1 w R).symm ▸ h)
theorem y147 (w : World) {l : List Value} : (callFunc 147 ⟨l⟩).run PP w = .ok (.enter 147 ⟨l⟩) w := callable_ (by kernel_rfl)

/- (*sealwax/box.Box).Remove$1 -/
def S148 (x0_0 : Int) (x0_1 : Int) (x0_2 : Int) (k1 : Nat) (w : World) (R : Value → World → Prop) : Prop :=
  NEW w (.cells #[(.int .i64 x0_0), (.int .i64 x0_1), (.int .i64 x0_2)] 53) fun k2 w1 =>
  ∃ (x4_0 : Int) (x4_1 : Int) (x4_2 : Int), RD w1 (⟨k2, 0, none⟩ : Addr) 0 [(.int .i64 x4_0), (.int .i64 x4_1), (.int .i64 x4_2)] ∧
  ∃ (x5_0 : Int) (x5_1 : Int) (x5_2 : Int), RD w1 (⟨k1, 0, none⟩ : Addr) 0 [(.int .i64 x5_0), (.int .i64 x5_1), (.int .i64 x5_2)] ∧
  ∃ b6 : Bool, (do eqGuard .eql 53 (.tmp 4) (.tmp 5) (.agg #[(.int .i64 x4_0), (.int .i64 x4_1), (.int .i64 x4_2)]) (.agg #[(.int .i64 x5_0), (.int .i64 x5_1), (.int .i64 x5_2)]); binOp .eql 53 (.agg #[(.int .i64 x4_0), (.int .i64 x4_1), (.int .i64 x4_2)]) (.agg #[(.int .i64 x5_0), (.int .i64 x5_1), (.int .i64 x5_2)]) : Sem Value).run PP w1 = .ok (.bool b6) w1 ∧
  R (.bool b6) w1
noncomputable def A148 : Ann := .leaf
noncomputable def C148 : Code := (Tryz.f148.body).getD .skip
theorem e148 (x0_0 : Int) (x0_1 : Int) (x0_2 : Int) (k1 : Nat) (w : World) (R : Value → World → Prop) : vcF PP Tryz.f148 C148 A148 [(.agg #[(.int .i64 x0_0), (.int .i64 x0_1), (.int .i64 x0_2)]), (.pointer (some ⟨k1, 0, none⟩))] w R = S148 x0_0 x0_1 x0_2 k1 w R := by kernel_rfl
theorem c148 {x0_0 : Int} {x0_1 : Int} {x0_2 : Int} {k1 : Nat} {w : World} {R : Value → World → Prop} (h : S148 x0_0 x0_1 x0_2 k1 w R) : Calls PP 148 #[(.agg #[(.int .i64 x0_0), (.int .i64 x0_1), (.int .i64 x0_2)]), (.pointer (some ⟨k1, 0, none⟩))] w (Ret R) :=
  vcF_sound follows_ Tryz.func148 (by kernel_rfl) ((e148 x0_0 x0_1 x0_2 k1 w R).symm ▸ h)
theorem y148 (w : World) {l : List Value} : (callFunc 148 ⟨l⟩).run PP w = .ok (.enter 148 ⟨l⟩) w := callable_ (by kernel_rfl)

/- slices.IndexFunc[[]sealwax/box.Entry,sealwax/box.Entry] -/
def S149 (A0 : Option Addr) (n0 : Nat) (c0 : Nat) (v1 : Value) (w : World) (R : Value → World → Prop) : Prop :=
  ∃ (I : Int → World → Prop) (μ : Int → World → Nat), I (0 : Int) w ∧
  ∀ (_j : Nat → Value) (x8 : Int) (w1 : World), I x8 w1 →
  SPLIT (decide (x8 < ((n0 : Nat) : Int))) (
    (0 ≤ x8 ∧ x8 < ((n0 : Nat) : Int)) ∧
    SOMEA A0 fun a14 =>
    ∃ (x15_0 : Int) (x15_1 : Int) (x15_2 : Int), RD w1 (Addr.add a14 (Int.toNat x8 * 3)) 0 [(.int .i64 x15_0), (.int .i64 x15_1), (.int .i64 x15_2)] ∧
    CALLV PP v1 [(.agg #[(.int .i64 x15_0), (.int .i64 x15_1), (.int .i64 x15_2)])] w1 fun r16 w2 =>
    ∃ (b16 : Bool), r16 = (.bool b16) ∧
    SPLIT b16 (
      R (.int .i64 x8) w2) (
      I (IntKind.wrap .i64 (x8 + (1 : Int))) w2 ∧ μ (IntKind.wrap .i64 (x8 + (1 : Int))) w2 < μ x8 w1)) (
    R (.int .i64 (-1 : Int)) w1)
noncomputable def A149 : Ann := (.two .leaf (.two (.two .leaf (.one (.loop 524080 [(8, .int .i64)] .leaf))) .leaf))
noncomputable def C149 : Code := (Tryz.f149.body).getD .skip
theorem e149 (A0 : Option Addr) (n0 : Nat) (c0 : Nat) (v1 : Value) (w : World) (R : Value → World → Prop) : vcF PP Tryz.f149 C149 A149 [(.slice A0 n0 c0), v1] w R = S149 A0 n0 c0 v1 w R := by kernel_rfl
theorem c149 {A0 : Option Addr} {n0 : Nat} {c0 : Nat} {v1 : Value} {w : World} {R : Value → World → Prop} (h : S149 A0 n0 c0 v1 w R) : Calls PP 149 #[(.slice A0 n0 c0), v1] w (Ret R) :=
  vcF_sound follows_ Tryz.func149 (by kernel_rfl) ((e149 A0 n0 c0 v1 w R).symm ▸ h)
theorem y149 (w : World) {l : List Value} : (callFunc 149 ⟨l⟩).run PP w = .ok (.enter 149 ⟨l⟩) w := callable_ (by kernel_rfl)

/- (*sealwax/box.Box).at$1 -/
def S150 (x0_0 : Int) (x0_1 : Int) (x0_2 : Int) (k1 : Nat) (w : World) (R : Value → World → Prop) : Prop :=
  NEW w (.cells #[(.int .i64 x0_0), (.int .i64 x0_1), (.int .i64 x0_2)] 53) fun k2 w1 =>
  ∃ (x5 : Int), World.cell? w1 (⟨k2, 0, none⟩ : Addr) = some (.int .i64 x5) ∧
  ∃ (x6 : Int), World.cell? w1 (⟨k1, 0, none⟩ : Addr) = some (.int .i64 x6) ∧
  R (.bool (x5 == x6)) w1
noncomputable def A150 : Ann := .leaf
noncomputable def C150 : Code := (Tryz.f150.body).getD .skip
theorem e150 (x0_0 : Int) (x0_1 : Int) (x0_2 : Int) (k1 : Nat) (w : World) (R : Value → World → Prop) : vcF PP Tryz.f150 C150 A150 [(.agg #[(.int .i64 x0_0), (.int .i64 x0_1), (.int .i64 x0_2)]), (.pointer (some ⟨k1, 0, none⟩))] w R = S150 x0_0 x0_1 x0_2 k1 w R := by kernel_rfl
theorem c150 {x0_0 : Int} {x0_1 : Int} {x0_2 : Int} {k1 : Nat} {w : World} {R : Value → World → Prop} (h : S150 x0_0 x0_1 x0_2 k1 w R) : Calls PP 150 #[(.agg #[(.int .i64 x0_0), (.int .i64 x0_1), (.int .i64 x0_2)]), (.pointer (some ⟨k1, 0, none⟩))] w (Ret R) :=
  vcF_sound follows_ Tryz.func150 (by kernel_rfl) ((e150 x0_0 x0_1 x0_2 k1 w R).symm ▸ h)
theorem y150 (w : World) {l : List Value} : (callFunc 150 ⟨l⟩).run PP w = .ok (.enter 150 ⟨l⟩) w := callable_ (by kernel_rfl)

/- slices.ContainsFunc[[]int,int] -/
def S151 (A0 : Option Addr) (n0 : Nat) (c0 : Nat) (v1 : Value) (w : World) (R : Value → World → Prop) : Prop :=
  CALL PP 185 [(.slice A0 n0 c0), v1] w fun r7 w1 =>
  ∃ (x7 : Int), r7 = (.int .i64 x7) ∧
  R (.bool (decide (x7 ≥ (0 : Int)))) w1
noncomputable def A151 : Ann := .leaf
noncomputable def C151 : Code := (Tryz.f151.body).getD .skip
theorem e151 (A0 : Option Addr) (n0 : Nat) (c0 : Nat) (v1 : Value) (w : World) (R : Value → World → Prop) : vcF PP Tryz.f151 C151 A151 [(.slice A0 n0 c0), v1] w R = S151 A0 n0 c0 v1 w R := by kernel_rfl
theorem c151 {A0 : Option Addr} {n0 : Nat} {c0 : Nat} {v1 : Value} {w : World} {R : Value → World → Prop} (h : S151 A0 n0 c0 v1 w R) : Calls PP 151 #[(.slice A0 n0 c0), v1] w (Ret R) :=
  vcF_sound follows_ Tryz.func151 (by kernel_rfl) ((e151 A0 n0 c0 v1 w R).symm ▸ h)
theorem y151 (w : World) {l : List Value} : (callFunc 151 ⟨l⟩).run PP w = .ok (.enter 151 ⟨l⟩) w := callable_ (by kernel_rfl)

/- sealwax/box.flags$1 -/
def S152 (x0 : Int) (w : World) (R : Value → World → Prop) : Prop :=
  CALL PP 153 [(.int .i64 x0), (.int .i64 (0 : Int)), (.int .i64 (31 : Int))] w fun r4 w1 =>
  ∃ (b4 : Bool), r4 = (.bool b4) ∧
  R (.bool (!b4)) w1
noncomputable def A152 : Ann := .leaf
noncomputable def C152 : Code := (Tryz.f152.body).getD .skip
theorem e152 (x0 : Int) (w : World) (R : Value → World → Prop) : vcF PP Tryz.f152 C152 A152 [(.int .i64 x0)] w R = S152 x0 w R := by kernel_rfl
theorem c152 {x0 : Int} {w : World} {R : Value → World → Prop} (h : S152 x0 w R) : Calls PP 152 #[(.int .i64 x0)] w (Ret R) :=
  vcF_sound follows_ Tryz.func152 (by kernel_rfl) ((e152 x0 w R).symm ▸ h)
theorem y152 (w : World) {l : List Value} : (callFunc 152 ⟨l⟩).run PP w = .ok (.enter 152 ⟨l⟩) w := callable_ (by kernel_rfl)

/- sealwax/box.within -/
def S153 (x0 : Int) (x1 : Int) (x2 : Int) (w : World) (R : Value → World → Prop) : Prop :=
  SPLIT (decide (x0 ≥ x1)) (
    R (.bool (decide (x0 ≤ x2))) w) (
    R (.bool false) w)
noncomputable def A153 : Ann := .leaf
noncomputable def C153 : Code := (Tryz.f153.body).getD .skip
theorem e153 (x0 : Int) (x1 : Int) (x2 : Int) (w : World) (R : Value → World → Prop) : vcF PP Tryz.f153 C153 A153 [(.int .i64 x0), (.int .i64 x1), (.int .i64 x2)] w R = S153 x0 x1 x2 w R := by kernel_rfl
theorem c153 {x0 : Int} {x1 : Int} {x2 : Int} {w : World} {R : Value → World → Prop} (h : S153 x0 x1 x2 w R) : Calls PP 153 #[(.int .i64 x0), (.int .i64 x1), (.int .i64 x2)] w (Ret R) :=
  vcF_sound follows_ Tryz.func153 (by kernel_rfl) ((e153 x0 x1 x2 w R).symm ▸ h)
theorem y153 (w : World) {l : List Value} : (callFunc 153 ⟨l⟩).run PP w = .ok (.enter 153 ⟨l⟩) w := callable_ (by kernel_rfl)

/- slices.IndexFunc[[]int,int] -/
def S185 (A0 : Option Addr) (n0 : Nat) (c0 : Nat) (v1 : Value) (w : World) (R : Value → World → Prop) : Prop :=
  ∃ (I : Int → World → Prop) (μ : Int → World → Nat), I (0 : Int) w ∧
  ∀ (_j : Nat → Value) (x8 : Int) (w1 : World), I x8 w1 →
  SPLIT (decide (x8 < ((n0 : Nat) : Int))) (
    (0 ≤ x8 ∧ x8 < ((n0 : Nat) : Int)) ∧
    SOMEA A0 fun a14 =>
    ∃ (x15 : Int), World.cell? w1 (Addr.add a14 (Int.toNat x8 * 1)) = some (.int .i64 x15) ∧
    CALLV PP v1 [(.int .i64 x15)] w1 fun r16 w2 =>
    ∃ (b16 : Bool), r16 = (.bool b16) ∧
    SPLIT b16 (
      R (.int .i64 x8) w2) (
      I (IntKind.wrap .i64 (x8 + (1 : Int))) w2 ∧ μ (IntKind.wrap .i64 (x8 + (1 : Int))) w2 < μ x8 w1)) (
    R (.int .i64 (-1 : Int)) w1)
noncomputable def A185 : Ann := (.two .leaf (.two (.two .leaf (.one (.loop 524080 [(8, .int .i64)] .leaf))) .leaf))
noncomputable def C185 : Code := (Tryz.f185.body).getD .skip
theorem e185 (A0 : Option Addr) (n0 : Nat) (c0 : Nat) (v1 : Value) (w : World) (R : Value → World → Prop) : vcF PP Tryz.f185 C185 A185 [(.slice A0 n0 c0), v1] w R = S185 A0 n0 c0 v1 w R := by kernel_rfl
theorem c185 {A0 : Option Addr} {n0 : Nat} {c0 : Nat} {v1 : Value} {w : World} {R : Value → World → Prop} (h : S185 A0 n0 c0 v1 w R) : Calls PP 185 #[(.slice A0 n0 c0), v1] w (Ret R) :=
  vcF_sound follows_ Tryz.func185 (by kernel_rfl) ((e185 A0 n0 c0 v1 w R).symm ▸ h)
theorem y185 (w : World) {l : List Value} : (callFunc 185 ⟨l⟩).run PP w = .ok (.enter 185 ⟨l⟩) w := callable_ (by kernel_rfl)

end Go.SW
