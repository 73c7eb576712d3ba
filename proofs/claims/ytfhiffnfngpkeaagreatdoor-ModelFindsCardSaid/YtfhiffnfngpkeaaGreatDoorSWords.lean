/- PRINTED by wip/tools/gen.py: the functions' conditions in readable form, each with the kernel's word that it is the computed one. -/
import Derived.Test.YtfhiffnfngpkeaaGreatDoorVcSeat
set_option linter.unusedVariables false
namespace Go.SW
open Go Go.Proofs
set_option maxRecDepth 100000
/- sealwax/words.Check -/
def S22 (s0 : ByteArray) (w : World) (R : Value → World → Prop) : Prop :=
  ∃ (I : Int → World → Prop) (μ : Int → World → Nat), I (0 : Int) w ∧
  ∀ (_j : Nat → Value) (x6 : Int) (w1 : World), I x6 w1 →
  SPLIT (decide (x6 < (s0.size : Int))) (
    (0 ≤ x6 ∧ x6 < (s0.size : Int)) ∧
    CALL PP 43 [(.int .u8 (bt s0 x6))] w1 fun r12 w2 =>
    ∃ (b12 : Bool), r12 = (.bool b12) ∧
    SPLIT (!b12) (
      R (.bool false) w2) (
      I (IntKind.wrap .i64 (x6 + (1 : Int))) w2 ∧ μ (IntKind.wrap .i64 (x6 + (1 : Int))) w2 < μ x6 w1)) (
    SPLIT (!(s0.toList == (⟨#[]⟩ : ByteArray).toList)) (
      R (.bool (decide ((s0.size : Int) ≤ (16 : Int)))) w1) (
      R (.bool false) w1))
noncomputable def A22 : Ann := (.two .leaf (.two (.two .leaf (.one (.loop 32716 [(6, .int .i64)] .leaf))) .leaf))
noncomputable def C22 : Code := (Tryz.f22.body).getD .skip
theorem e22 (s0 : ByteArray) (w : World) (R : Value → World → Prop) : vcF PP Tryz.f22 C22 A22 [(.string s0)] w R = S22 s0 w R := by kernel_rfl
theorem c22 {s0 : ByteArray} {w : World} {R : Value → World → Prop} (h : S22 s0 w R) : Calls PP 22 #[(.string s0)] w (Ret R) :=
  vcF_sound follows_ Tryz.func22 (by kernel_rfl) ((e22 s0 w R).symm ▸ h)
theorem y22 (w : World) {l : List Value} : (callFunc 22 ⟨l⟩).run PP w = .ok (.enter 22 ⟨l⟩) w := callable_ (by kernel_rfl)

/- sealwax/words.Has -/
def S24 (s0 : ByteArray) (A1 : Option Addr) (n1 : Nat) (c1 : Nat) (w : World) (R : Value → World → Prop) : Prop :=
  CALL PP 44 [(.string s0)] w fun r11 w1 =>
  ∃ (A11 : Option Addr) (n11 : Nat) (c11 : Nat), r11 = (.slice A11 n11 c11) ∧
  ∃ (I : Int → World → Prop) (μ : Int → World → Nat), I (0 : Int) w1 ∧
  ∀ (_j : Nat → Value) (x14 : Int) (w2 : World), I x14 w2 →
  SPLIT (decide (x14 < ((n1 : Nat) : Int))) (
    (0 ≤ x14 ∧ x14 < ((n1 : Nat) : Int)) ∧
    SOMEA A1 fun a16 =>
    ∃ (s17 : ByteArray), World.cell? w2 (Addr.add a16 (Int.toNat x14 * 1)) = some (.string s17) ∧
    CALL PP 45 [(.slice A11 n11 c11), (.string s17)] w2 fun r21 w3 =>
    ∃ (x21a : Int) (b21b : Bool), r21 = (.tuple #[(.int .i64 x21a), (.bool b21b)]) ∧
    SPLIT (!b21b) (
      R (.bool false) w3) (
      I (IntKind.wrap .i64 (x14 + (1 : Int))) w3 ∧ μ (IntKind.wrap .i64 (x14 + (1 : Int))) w3 < μ x14 w2)) (
    R (.bool true) w2)
noncomputable def A24 : Ann := (.two .leaf (.two .leaf (.two (.two .leaf (.one (.loop 134202256 [(14, .int .i64)] .leaf))) .leaf)))
noncomputable def C24 : Code := (Tryz.f24.body).getD .skip
theorem e24 (s0 : ByteArray) (A1 : Option Addr) (n1 : Nat) (c1 : Nat) (w : World) (R : Value → World → Prop) : vcF PP Tryz.f24 C24 A24 [(.string s0), (.slice A1 n1 c1)] w R = S24 s0 A1 n1 c1 w R := by kernel_rfl
theorem c24 {s0 : ByteArray} {A1 : Option Addr} {n1 : Nat} {c1 : Nat} {w : World} {R : Value → World → Prop} (h : S24 s0 A1 n1 c1 w R) : Calls PP 24 #[(.string s0), (.slice A1 n1 c1)] w (Ret R) :=
  vcF_sound follows_ Tryz.func24 (by kernel_rfl) ((e24 s0 A1 n1 c1 w R).symm ▸ h)
theorem y24 (w : World) {l : List Value} : (callFunc 24 ⟨l⟩).run PP w = .ok (.enter 24 ⟨l⟩) w := callable_ (by kernel_rfl)

/- sealwax/words.letter -/
def S43 (x0 : Int) (w : World) (R : Value → World → Prop) : Prop :=
  SPLIT (decide (x0 ≥ (97 : Int))) (
    SPLIT (decide (x0 ≤ (122 : Int))) (
      R (.bool true) w) (
      SPLIT (decide (x0 ≥ (48 : Int))) (
        R (.bool (decide (x0 ≤ (57 : Int)))) w) (
        R (.bool false) w))) (
    SPLIT (decide (x0 ≥ (48 : Int))) (
      R (.bool (decide (x0 ≤ (57 : Int)))) w) (
      R (.bool false) w))
noncomputable def A43 : Ann := .leaf
noncomputable def C43 : Code := (Tryz.f43.body).getD .skip
theorem e43 (x0 : Int) (w : World) (R : Value → World → Prop) : vcF PP Tryz.f43 C43 A43 [(.int .u8 x0)] w R = S43 x0 w R := by kernel_rfl
theorem c43 {x0 : Int} {w : World} {R : Value → World → Prop} (h : S43 x0 w R) : Calls PP 43 #[(.int .u8 x0)] w (Ret R) :=
  vcF_sound follows_ Tryz.func43 (by kernel_rfl) ((e43 x0 w R).symm ▸ h)
theorem y43 (w : World) {l : List Value} : (callFunc 43 ⟨l⟩).run PP w = .ok (.enter 43 ⟨l⟩) w := callable_ (by kernel_rfl)

/- sealwax/words.Of -/
def S44 (s0 : ByteArray) (w : World) (R : Value → World → Prop) : Prop :=
  NEW w (.map #[] 0) fun k6 w1 =>
  NEW w1 (.cells #[(.map none)] 155) fun k3 w2 =>
  ST w2 (⟨k3, 0, none⟩ : Addr) 0 [(.map (some k6))] fun w3 =>
  NEW w3 (.cells #[(.slice none 0 0)] 26) fun k4 w4 =>
  CALL PP 89 [(.string s0)] w4 fun r8 w5 =>
  RANGE PP r8 1 (fun l w6 beg K =>
    ∃ (y : Value) (l_1 : List Value), l = y :: l_1 ∧
    ∃ (s9 : ByteArray), y = (.string s9) ∧
    l_1 = [] ∧
    beg w6 fun w7 =>
    ∃ (m10 : Option Nat), World.cell? w7 (⟨k3, 0, none⟩ : Addr) = some (.map m10) ∧
    ∃ r12 : Value, (Instr.lookup 155 (.map m10) (.string s9) false).run PP w7 = .ok r12 w7 ∧
    ∃ (b12 : Bool), r12 = (.bool b12) ∧
    SPLIT (!b12) (
      ∃ (m14 : Option Nat), World.cell? w7 (⟨k3, 0, none⟩ : Addr) = some (.map m14) ∧
      RUN PP (Instr.mapUpdate 155 (.map m14) (.string s9) (.bool true)) w7 fun _uq w8 =>
      ∃ (A16 : Option Addr) (n16 : Nat) (c16 : Nat), World.cell? w8 (⟨k4, 0, none⟩ : Addr) = some (.slice A16 n16 c16) ∧
      NEW w8 (.cells #[(.string s9)] 9) fun k18 w9 =>
      RUN PP (Builtin.append_ #[26, 26] 26 #[(.slice A16 n16 c16), (.slice (some ⟨k18, 0, none⟩) 1 1)]) w9 fun r19 w10 =>
      ∃ (A19 : Option Addr) (n19 : Nat) (c19 : Nat), r19 = (.slice A19 n19 c19) ∧
      ST w10 (⟨k4, 0, none⟩ : Addr) 0 [(.slice A19 n19 c19)] fun w11 =>
      K w11) (
      K w7)) (fun D w6 =>
    ∃ (A20 : Option Addr) (n20 : Nat) (c20 : Nat), World.cell? w6 (⟨k4, 0, none⟩ : Addr) = some (.slice A20 n20 c20) ∧
    CALL PP 84 [(.slice A20 n20 c20)] w6 fun r21 w7 =>
    r21 = (.tuple #[]) ∧
    ∃ (A22 : Option Addr) (n22 : Nat) (c22 : Nat), World.cell? w7 (⟨k4, 0, none⟩ : Addr) = some (.slice A22 n22 c22) ∧
    ∃ (A23 : Option Addr) (n23 : Nat) (c23 : Nat), World.cell? w7 (⟨k4, 0, none⟩ : Addr) = some (.slice A23 n23 c23) ∧
    (0 ≤ (if (64 : Int) < ((n23 : Nat) : Int) then (64 : Int) else ((n23 : Nat) : Int)) ∧ (if (64 : Int) < ((n23 : Nat) : Int) then (64 : Int) else ((n23 : Nat) : Int)) ≤ ((c22 : Nat) : Int)) ∧
    w7.heap[D]? = some (.deferred (some [])) ∧
    R (.slice (SLA A22 c22 0 1) ((Int.toNat (if (64 : Int) < ((n23 : Nat) : Int) then (64 : Int) else ((n23 : Nat) : Int))) - 0) (c22 - 0)) (w7.putObj D (.deferred none))) w5
noncomputable def A44 : Ann := (.two .leaf (.two .leaf (.two .leaf (.two .leaf .leaf))))
noncomputable def C44 : Code := (Tryz.f44.body).getD .skip
theorem e44 (s0 : ByteArray) (w : World) (R : Value → World → Prop) : vcFT PP Tryz.f44 C44 [.sc .str] A44 [(.string s0)] w R = S44 s0 w R := by kernel_rfl
theorem c44 {s0 : ByteArray} {w : World} {R : Value → World → Prop} (h : S44 s0 w R) : Calls PP 44 #[(.string s0)] w (Ret R) :=
  vcFT_sound follows_ Tryz.func44 (by kernel_rfl) ((e44 s0 w R).symm ▸ h)
theorem y44 (w : World) {l : List Value} : (callFunc 44 ⟨l⟩).run PP w = .ok (.enter 44 ⟨l⟩) w := callable_ (by kernel_rfl)

/- slices.BinarySearch[[]string,string] -/
def S45 (A0 : Option Addr) (n0 : Nat) (c0 : Nat) (s1 : ByteArray) (w : World) (R : Value → World → Prop) : Prop :=
  ∃ (I : Int → Int → World → Prop) (μ : Int → Int → World → Nat), I (0 : Int) ((n0 : Nat) : Int) w ∧
  ∀ (_j : Nat → Value) (x7 : Int) (x8 : Int) (w1 : World), I x7 x8 w1 →
  SPLIT (decide (x7 < x8)) (
    (PP.underlying 3).isSome = true ∧
    0 ≤ (1 : Int) ∧
    (PP.underlying 157).isSome = true ∧
    (0 ≤ (IntKind.wrap .i64 (Int.fdiv (IntKind.wrap .u64 (IntKind.wrap .i64 (x7 + x8))) (2 ^ (min (Int.toNat (1 : Int)) 64)))) ∧ (IntKind.wrap .i64 (Int.fdiv (IntKind.wrap .u64 (IntKind.wrap .i64 (x7 + x8))) (2 ^ (min (Int.toNat (1 : Int)) 64)))) < ((n0 : Nat) : Int)) ∧
    SOMEA A0 fun a24 =>
    ∃ (s25 : ByteArray), World.cell? w1 (Addr.add a24 (Int.toNat (IntKind.wrap .i64 (Int.fdiv (IntKind.wrap .u64 (IntKind.wrap .i64 (x7 + x8))) (2 ^ (min (Int.toNat (1 : Int)) 64)))) * 1)) = some (.string s25) ∧
    CALL PP 90 [(.string s25), (.string s1)] w1 fun r27 w2 =>
    ∃ (b27 : Bool), r27 = (.bool b27) ∧
    SPLIT b27 (
      I (IntKind.wrap .i64 ((IntKind.wrap .i64 (Int.fdiv (IntKind.wrap .u64 (IntKind.wrap .i64 (x7 + x8))) (2 ^ (min (Int.toNat (1 : Int)) 64)))) + (1 : Int))) x8 w2 ∧ μ (IntKind.wrap .i64 ((IntKind.wrap .i64 (Int.fdiv (IntKind.wrap .u64 (IntKind.wrap .i64 (x7 + x8))) (2 ^ (min (Int.toNat (1 : Int)) 64)))) + (1 : Int))) x8 w2 < μ x7 x8 w1) (
      I x7 (IntKind.wrap .i64 (Int.fdiv (IntKind.wrap .u64 (IntKind.wrap .i64 (x7 + x8))) (2 ^ (min (Int.toNat (1 : Int)) 64)))) w2 ∧ μ x7 (IntKind.wrap .i64 (Int.fdiv (IntKind.wrap .u64 (IntKind.wrap .i64 (x7 + x8))) (2 ^ (min (Int.toNat (1 : Int)) 64)))) w2 < μ x7 x8 w1)) (
    SPLIT (decide (x7 < ((n0 : Nat) : Int))) (
      (0 ≤ x7 ∧ x7 < ((n0 : Nat) : Int)) ∧
      SOMEA A0 fun a38 =>
      ∃ (s39 : ByteArray), World.cell? w1 (Addr.add a38 (Int.toNat x7 * 1)) = some (.string s39) ∧
      SPLIT (s39.toList == s1.toList) (
        R (.tuple #[(.int .i64 x7), (.bool true)]) w1) (
        (0 ≤ x7 ∧ x7 < ((n0 : Nat) : Int)) ∧
        SOMEA A0 fun a45 =>
        ∃ (s46 : ByteArray), World.cell? w1 (Addr.add a45 (Int.toNat x7 * 1)) = some (.string s46) ∧
        CALL PP 91 [(.string s46)] w1 fun r47 w2 =>
        ∃ (b47 : Bool), r47 = (.bool b47) ∧
        SPLIT b47 (
          CALL PP 91 [(.string s1)] w2 fun r50 w3 =>
          ∃ (b50 : Bool), r50 = (.bool b50) ∧
          R (.tuple #[(.int .i64 x7), (.bool b50)]) w3) (
          R (.tuple #[(.int .i64 x7), (.bool false)]) w2))) (
      R (.tuple #[(.int .i64 x7), (.bool false)]) w1))
noncomputable def A45 : Ann := (.two .leaf (.two .leaf (.two .leaf (.two (.one (.loop 2147476352 [(7, .int .i64), (8, .int .i64)] .leaf)) .leaf))))
noncomputable def C45 : Code := (Tryz.f45.body).getD .skip
theorem e45 (A0 : Option Addr) (n0 : Nat) (c0 : Nat) (s1 : ByteArray) (w : World) (R : Value → World → Prop) : vcF PP Tryz.f45 C45 A45 [(.slice A0 n0 c0), (.string s1)] w R = S45 A0 n0 c0 s1 w R := by kernel_rfl
theorem c45 {A0 : Option Addr} {n0 : Nat} {c0 : Nat} {s1 : ByteArray} {w : World} {R : Value → World → Prop} (h : S45 A0 n0 c0 s1 w R) : Calls PP 45 #[(.slice A0 n0 c0), (.string s1)] w (Ret R) :=
  vcF_sound follows_ Tryz.func45 (by kernel_rfl) ((e45 A0 n0 c0 s1 w R).symm ▸ h)
theorem y45 (w : World) {l : List Value} : (callFunc 45 ⟨l⟩).run PP w = .ok (.enter 45 ⟨l⟩) w := callable_ (by kernel_rfl)

/- sealwax/words.Clean -/
def S73 (A0 : Option Addr) (n0 : Nat) (c0 : Nat) (w : World) (R : Value → World → Prop) : Prop :=
  ∃ I : World → Prop, (
    SPLIT (((n0 : Nat) : Int) == (0 : Int)) (
      R (.tuple #[(.slice none 0 0), (.int .i64 (4 : Int))]) w) (
      SPLIT (decide (((n0 : Nat) : Int) > (8 : Int))) (
        R (.tuple #[(.slice none 0 0), (.int .i64 (4 : Int))]) w) (
        CALL PP 113 [(.slice A0 n0 c0), (.func (.func 114) #[] #[])] w fun r15 w1 =>
        ∃ (b15 : Bool), r15 = (.bool b15) ∧
        SPLIT b15 (
          R (.tuple #[(.slice none 0 0), (.int .i64 (4 : Int))]) w1) (
          I w1)))) ∧
  ∀ (_j : Nat → Value) (w1 : World), I w1 →
  CALL PP 115 [(.slice A0 n0 c0)] w1 fun r18 w2 =>
  ∃ (A18 : Option Addr) (n18 : Nat) (c18 : Nat), r18 = (.slice A18 n18 c18) ∧
  CALL PP 84 [(.slice A18 n18 c18)] w2 fun r20 w3 =>
  r20 = (.tuple #[]) ∧
  CALL PP 116 [(.slice A18 n18 c18)] w3 fun r22 w4 =>
  ∃ (A22 : Option Addr) (n22 : Nat) (c22 : Nat), r22 = (.slice A22 n22 c22) ∧
  R (.tuple #[(.slice A22 n22 c22), (.int .i64 (0 : Int))]) w4
noncomputable def A73 : Ann := (.two .leaf (.cut 131052 [] .leaf .leaf))
noncomputable def C73 : Code := (Tryz.f73.body).getD .skip
theorem e73 (A0 : Option Addr) (n0 : Nat) (c0 : Nat) (w : World) (R : Value → World → Prop) : vcF PP Tryz.f73 C73 A73 [(.slice A0 n0 c0)] w R = S73 A0 n0 c0 w R := by kernel_rfl
theorem c73 {A0 : Option Addr} {n0 : Nat} {c0 : Nat} {w : World} {R : Value → World → Prop} (h : S73 A0 n0 c0 w R) : Calls PP 73 #[(.slice A0 n0 c0)] w (Ret R) :=
  vcF_sound follows_ Tryz.func73 (by kernel_rfl) ((e73 A0 n0 c0 w R).symm ▸ h)
theorem y73 (w : World) {l : List Value} : (callFunc 73 ⟨l⟩).run PP w = .ok (.enter 73 ⟨l⟩) w := callable_ (by kernel_rfl)

/- sealwax/words.rows -/
def S89 (s0 : ByteArray) (w : World) (R : Value → World → Prop) : Prop :=
  NEW w (.cells #[(.string s0)] 9) fun k1 w1 =>
  R (.func (.func 129) #[] #[(.pointer (some ⟨k1, 0, none⟩))]) w1
noncomputable def A89 : Ann := .leaf
noncomputable def C89 : Code := (Tryz.f89.body).getD .skip
theorem e89 (s0 : ByteArray) (w : World) (R : Value → World → Prop) : vcF PP Tryz.f89 C89 A89 [(.string s0)] w R = S89 s0 w R := by kernel_rfl
theorem c89 {s0 : ByteArray} {w : World} {R : Value → World → Prop} (h : S89 s0 w R) : Calls PP 89 #[(.string s0)] w (Ret R) :=
  vcF_sound follows_ Tryz.func89 (by kernel_rfl) ((e89 s0 w R).symm ▸ h)
theorem y89 (w : World) {l : List Value} : (callFunc 89 ⟨l⟩).run PP w = .ok (.enter 89 ⟨l⟩) w := callable_ (by kernel_rfl)

/- cmp.Less[string] -/
def S90 (s0 : ByteArray) (s1 : ByteArray) (w : World) (R : Value → World → Prop) : Prop :=
  CALL PP 131 [(.string s0)] w fun r6 w1 =>
  ∃ (b6 : Bool), r6 = (.bool b6) ∧
  SPLIT b6 (
    CALL PP 131 [(.string s1)] w1 fun r9 w2 =>
    ∃ (b9 : Bool), r9 = (.bool b9) ∧
    SPLIT (!b9) (
      R (.bool true) w2) (
      R (.bool (Op.bytesLess s0.toList s1.toList)) w2)) (
    R (.bool (Op.bytesLess s0.toList s1.toList)) w1)
noncomputable def A90 : Ann := .leaf
noncomputable def C90 : Code := (Tryz.f90.body).getD .skip
theorem e90 (s0 : ByteArray) (s1 : ByteArray) (w : World) (R : Value → World → Prop) : vcF PP Tryz.f90 C90 A90 [(.string s0), (.string s1)] w R = S90 s0 s1 w R := by kernel_rfl
theorem c90 {s0 : ByteArray} {s1 : ByteArray} {w : World} {R : Value → World → Prop} (h : S90 s0 s1 w R) : Calls PP 90 #[(.string s0), (.string s1)] w (Ret R) :=
  vcF_sound follows_ Tryz.func90 (by kernel_rfl) ((e90 s0 s1 w R).symm ▸ h)
theorem y90 (w : World) {l : List Value} : (callFunc 90 ⟨l⟩).run PP w = .ok (.enter 90 ⟨l⟩) w := callable_ (by kernel_rfl)

/- slices.isNaN[string] -/
def S91 (s0 : ByteArray) (w : World) (R : Value → World → Prop) : Prop :=
  R (.bool (!(s0.toList == s0.toList))) w
noncomputable def A91 : Ann := .leaf
noncomputable def C91 : Code := (Tryz.f91.body).getD .skip
theorem e91 (s0 : ByteArray) (w : World) (R : Value → World → Prop) : vcF PP Tryz.f91 C91 A91 [(.string s0)] w R = S91 s0 w R := by kernel_rfl
theorem c91 {s0 : ByteArray} {w : World} {R : Value → World → Prop} (h : S91 s0 w R) : Calls PP 91 #[(.string s0)] w (Ret R) :=
  vcF_sound follows_ Tryz.func91 (by kernel_rfl) ((e91 s0 w R).symm ▸ h)
theorem y91 (w : World) {l : List Value} : (callFunc 91 ⟨l⟩).run PP w = .ok (.enter 91 ⟨l⟩) w := callable_ (by kernel_rfl)

/- slices.ContainsFunc[[]string,string] -/
def S113 (A0 : Option Addr) (n0 : Nat) (c0 : Nat) (v1 : Value) (w : World) (R : Value → World → Prop) : Prop :=
  CALL PP 145 [(.slice A0 n0 c0), v1] w fun r7 w1 =>
  ∃ (x7 : Int), r7 = (.int .i64 x7) ∧
  R (.bool (decide (x7 ≥ (0 : Int)))) w1
noncomputable def A113 : Ann := .leaf
noncomputable def C113 : Code := (Tryz.f113.body).getD .skip
theorem e113 (A0 : Option Addr) (n0 : Nat) (c0 : Nat) (v1 : Value) (w : World) (R : Value → World → Prop) : vcF PP Tryz.f113 C113 A113 [(.slice A0 n0 c0), v1] w R = S113 A0 n0 c0 v1 w R := by kernel_rfl
theorem c113 {A0 : Option Addr} {n0 : Nat} {c0 : Nat} {v1 : Value} {w : World} {R : Value → World → Prop} (h : S113 A0 n0 c0 v1 w R) : Calls PP 113 #[(.slice A0 n0 c0), v1] w (Ret R) :=
  vcF_sound follows_ Tryz.func113 (by kernel_rfl) ((e113 A0 n0 c0 v1 w R).symm ▸ h)
theorem y113 (w : World) {l : List Value} : (callFunc 113 ⟨l⟩).run PP w = .ok (.enter 113 ⟨l⟩) w := callable_ (by kernel_rfl)

/- sealwax/words.Clean$1 -/
def S114 (s0 : ByteArray) (w : World) (R : Value → World → Prop) : Prop :=
  CALL PP 22 [(.string s0)] w fun r4 w1 =>
  ∃ (b4 : Bool), r4 = (.bool b4) ∧
  R (.bool (!b4)) w1
noncomputable def A114 : Ann := .leaf
noncomputable def C114 : Code := (Tryz.f114.body).getD .skip
theorem e114 (s0 : ByteArray) (w : World) (R : Value → World → Prop) : vcF PP Tryz.f114 C114 A114 [(.string s0)] w R = S114 s0 w R := by kernel_rfl
theorem c114 {s0 : ByteArray} {w : World} {R : Value → World → Prop} (h : S114 s0 w R) : Calls PP 114 #[(.string s0)] w (Ret R) :=
  vcF_sound follows_ Tryz.func114 (by kernel_rfl) ((e114 s0 w R).symm ▸ h)
theorem y114 (w : World) {l : List Value} : (callFunc 114 ⟨l⟩).run PP w = .ok (.enter 114 ⟨l⟩) w := callable_ (by kernel_rfl)

/- slices.Clone[[]string,string] -/
def S115 (A0 : Option Addr) (n0 : Nat) (c0 : Nat) (w : World) (R : Value → World → Prop) : Prop :=
  SPLIT (Option.isNone A0) (
    R (.slice none 0 0) w) (
    NEW w (.cells #[] 9) fun k5 w1 =>
    RUN PP (Builtin.append_ #[26, 26] 26 #[(.slice (some ⟨k5, 0, none⟩) 0 0), (.slice A0 n0 c0)]) w1 fun r7 w2 =>
    ∃ (A7 : Option Addr) (n7 : Nat) (c7 : Nat), r7 = (.slice A7 n7 c7) ∧
    R (.slice A7 n7 c7) w2)
noncomputable def A115 : Ann := .leaf
noncomputable def C115 : Code := (Tryz.f115.body).getD .skip
theorem e115 (A0 : Option Addr) (n0 : Nat) (c0 : Nat) (w : World) (R : Value → World → Prop) : vcF PP Tryz.f115 C115 A115 [(.slice A0 n0 c0)] w R = S115 A0 n0 c0 w R := by kernel_rfl
theorem c115 {A0 : Option Addr} {n0 : Nat} {c0 : Nat} {w : World} {R : Value → World → Prop} (h : S115 A0 n0 c0 w R) : Calls PP 115 #[(.slice A0 n0 c0)] w (Ret R) :=
  vcF_sound follows_ Tryz.func115 (by kernel_rfl) ((e115 A0 n0 c0 w R).symm ▸ h)
theorem y115 (w : World) {l : List Value} : (callFunc 115 ⟨l⟩).run PP w = .ok (.enter 115 ⟨l⟩) w := callable_ (by kernel_rfl)

/- sealwax/words.rows$1 -/
def S129 (v0 : Value) (k1 : Nat) (w : World) (R : Value → World → Prop) : Prop :=
  ∃ (s5 : ByteArray), World.cell? w (⟨k1, 0, none⟩ : Addr) = some (.string s5) ∧
  ∃ (I : Option Addr → Nat → Nat → Int → World → Prop) (μ : Option Addr → Nat → Nat → Int → World → Nat), I none 0 0 (0 : Int) w ∧
  ∀ (_j : Nat → Value) (A3 : Option Addr) (n3 : Nat) (c3 : Nat) (x8 : Int) (w1 : World), I A3 n3 c3 x8 w1 →
  SPLIT (decide (x8 < (IntKind.wrap .i64 ((s5.size : Int) + (1 : Int))))) (
    ∃ I_1 : Option Addr → Nat → Nat → World → Prop, (
      ∃ (s12 : ByteArray), World.cell? w1 (⟨k1, 0, none⟩ : Addr) = some (.string s12) ∧
      SPLIT (decide (x8 < (s12.size : Int))) (
        ∃ (s16 : ByteArray), World.cell? w1 (⟨k1, 0, none⟩ : Addr) = some (.string s16) ∧
        (0 ≤ x8 ∧ x8 < (s16.size : Int)) ∧
        CALL PP 130 [(.int .u8 (bt s16 x8))] w1 fun r19 w2 =>
        ∃ (x19 : Int), r19 = (.int .u8 x19) ∧
        CALL PP 43 [(.int .u8 x19)] w2 fun r20 w3 =>
        ∃ (b20 : Bool), r20 = (.bool b20) ∧
        SPLIT b20 (
          ∃ (s23 : ByteArray), World.cell? w3 (⟨k1, 0, none⟩ : Addr) = some (.string s23) ∧
          (0 ≤ x8 ∧ x8 < (s23.size : Int)) ∧
          CALL PP 130 [(.int .u8 (bt s23 x8))] w3 fun r26 w4 =>
          ∃ (x26 : Int), r26 = (.int .u8 x26) ∧
          NEW w4 (.cells #[(.int .u8 x26)] 5) fun k27 w5 =>
          RUN PP (Builtin.append_ #[184, 184] 184 #[(.slice A3 n3 c3), (.slice (some ⟨k27, 0, none⟩) 1 1)]) w5 fun r28 w6 =>
          ∃ (A28 : Option Addr) (n28 : Nat) (c28 : Nat), r28 = (.slice A28 n28 c28) ∧
          I A28 n28 c28 (IntKind.wrap .i64 (x8 + (1 : Int))) w6 ∧ μ A28 n28 c28 (IntKind.wrap .i64 (x8 + (1 : Int))) w6 < μ A3 n3 c3 x8 w1) (
          I_1 A3 n3 c3 w3)) (
        I_1 A3 n3 c3 w1)) ∧
    ∀ (_j : Nat → Value) (A3_1 : Option Addr) (n3_1 : Nat) (c3_1 : Nat) (w2 : World), I_1 A3_1 n3_1 c3_1 w2 →
    SPLIT (decide (((n3_1 : Nat) : Int) > (0 : Int))) (
      (0 ≤ (if (16 : Int) < ((n3_1 : Nat) : Int) then (16 : Int) else ((n3_1 : Nat) : Int)) ∧ (if (16 : Int) < ((n3_1 : Nat) : Int) then (16 : Int) else ((n3_1 : Nat) : Int)) ≤ ((c3_1 : Nat) : Int)) ∧
      RUN PP (convert 184 9 (.slice (SLA A3_1 c3_1 0 1) ((Int.toNat (if (16 : Int) < ((n3_1 : Nat) : Int) then (16 : Int) else ((n3_1 : Nat) : Int))) - 0) (c3_1 - 0))) w2 fun r39 w3 =>
      ∃ (s39 : ByteArray), r39 = (.string s39) ∧
      CALLV PP v0 [(.string s39)] w3 fun r40 w4 =>
      ∃ (b40 : Bool), r40 = (.bool b40) ∧
      SPLIT (!b40) (
        R (.tuple #[]) w4) (
        I none 0 0 (IntKind.wrap .i64 (x8 + (1 : Int))) w4 ∧ μ none 0 0 (IntKind.wrap .i64 (x8 + (1 : Int))) w4 < μ A3 n3 c3 x8 w1)) (
      I none 0 0 (IntKind.wrap .i64 (x8 + (1 : Int))) w2 ∧ μ none 0 0 (IntKind.wrap .i64 (x8 + (1 : Int))) w2 < μ A3 n3 c3 x8 w1)) (
    R (.tuple #[]) w1)
noncomputable def A129 : Ann := (.two .leaf (.two .leaf (.one (.loop 17592186044184 [(3, .slice), (8, .int .i64)] (.two .leaf (.two .leaf (.two (.one (.two .leaf (.cut 536868872 [(3, .slice)] .leaf .leaf))) .leaf)))))))
noncomputable def C129 : Code := (Tryz.f129.body).getD .skip
theorem e129 (v0 : Value) (k1 : Nat) (w : World) (R : Value → World → Prop) : vcF PP Tryz.f129 C129 A129 [v0, (.pointer (some ⟨k1, 0, none⟩))] w R = S129 v0 k1 w R := by kernel_rfl
theorem c129 {v0 : Value} {k1 : Nat} {w : World} {R : Value → World → Prop} (h : S129 v0 k1 w R) : Calls PP 129 #[v0, (.pointer (some ⟨k1, 0, none⟩))] w (Ret R) :=
  vcF_sound follows_ Tryz.func129 (by kernel_rfl) ((e129 v0 k1 w R).symm ▸ h)
theorem y129 (w : World) {l : List Value} : (callFunc 129 ⟨l⟩).run PP w = .ok (.enter 129 ⟨l⟩) w := callable_ (by kernel_rfl)

/- sealwax/words.low -/
def S130 (x0 : Int) (w : World) (R : Value → World → Prop) : Prop :=
  SPLIT (decide (x0 ≥ (65 : Int))) (
    SPLIT (decide (x0 ≤ (90 : Int))) (
      R (.int .u8 (IntKind.wrap .u8 ((IntKind.wrap .u8 (x0 + (97 : Int))) - (65 : Int)))) w) (
      R (.int .u8 x0) w)) (
    R (.int .u8 x0) w)
noncomputable def A130 : Ann := .leaf
noncomputable def C130 : Code := (Tryz.f130.body).getD .skip
theorem e130 (x0 : Int) (w : World) (R : Value → World → Prop) : vcF PP Tryz.f130 C130 A130 [(.int .u8 x0)] w R = S130 x0 w R := by kernel_rfl
theorem c130 {x0 : Int} {w : World} {R : Value → World → Prop} (h : S130 x0 w R) : Calls PP 130 #[(.int .u8 x0)] w (Ret R) :=
  vcF_sound follows_ Tryz.func130 (by kernel_rfl) ((e130 x0 w R).symm ▸ h)
theorem y130 (w : World) {l : List Value} : (callFunc 130 ⟨l⟩).run PP w = .ok (.enter 130 ⟨l⟩) w := callable_ (by kernel_rfl)

/- slices.IndexFunc[[]string,string] -/
def S145 (A0 : Option Addr) (n0 : Nat) (c0 : Nat) (v1 : Value) (w : World) (R : Value → World → Prop) : Prop :=
  ∃ (I : Int → World → Prop) (μ : Int → World → Nat), I (0 : Int) w ∧
  ∀ (_j : Nat → Value) (x8 : Int) (w1 : World), I x8 w1 →
  SPLIT (decide (x8 < ((n0 : Nat) : Int))) (
    (0 ≤ x8 ∧ x8 < ((n0 : Nat) : Int)) ∧
    SOMEA A0 fun a14 =>
    ∃ (s15 : ByteArray), World.cell? w1 (Addr.add a14 (Int.toNat x8 * 1)) = some (.string s15) ∧
    CALLV PP v1 [(.string s15)] w1 fun r16 w2 =>
    ∃ (b16 : Bool), r16 = (.bool b16) ∧
    SPLIT b16 (
      R (.int .i64 x8) w2) (
      I (IntKind.wrap .i64 (x8 + (1 : Int))) w2 ∧ μ (IntKind.wrap .i64 (x8 + (1 : Int))) w2 < μ x8 w1)) (
    R (.int .i64 (-1 : Int)) w1)
noncomputable def A145 : Ann := (.two .leaf (.two (.two .leaf (.one (.loop 524080 [(8, .int .i64)] .leaf))) .leaf))
noncomputable def C145 : Code := (Tryz.f145.body).getD .skip
theorem e145 (A0 : Option Addr) (n0 : Nat) (c0 : Nat) (v1 : Value) (w : World) (R : Value → World → Prop) : vcF PP Tryz.f145 C145 A145 [(.slice A0 n0 c0), v1] w R = S145 A0 n0 c0 v1 w R := by kernel_rfl
theorem c145 {A0 : Option Addr} {n0 : Nat} {c0 : Nat} {v1 : Value} {w : World} {R : Value → World → Prop} (h : S145 A0 n0 c0 v1 w R) : Calls PP 145 #[(.slice A0 n0 c0), v1] w (Ret R) :=
  vcF_sound follows_ Tryz.func145 (by kernel_rfl) ((e145 A0 n0 c0 v1 w R).symm ▸ h)
theorem y145 (w : World) {l : List Value} : (callFunc 145 ⟨l⟩).run PP w = .ok (.enter 145 ⟨l⟩) w := callable_ (by kernel_rfl)

/- cmp.isNaN[string] -/
def S131 (s0 : ByteArray) (w : World) (R : Value → World → Prop) : Prop :=
  R (.bool (!(s0.toList == s0.toList))) w
noncomputable def A131 : Ann := .leaf
noncomputable def C131 : Code := (Tryz.f131.body).getD .skip
theorem e131 (s0 : ByteArray) (w : World) (R : Value → World → Prop) : vcF PP Tryz.f131 C131 A131 [(.string s0)] w R = S131 s0 w R := by kernel_rfl
theorem c131 {s0 : ByteArray} {w : World} {R : Value → World → Prop} (h : S131 s0 w R) : Calls PP 131 #[(.string s0)] w (Ret R) :=
  vcF_sound follows_ Tryz.func131 (by kernel_rfl) ((e131 s0 w R).symm ▸ h)
theorem y131 (w : World) {l : List Value} : (callFunc 131 ⟨l⟩).run PP w = .ok (.enter 131 ⟨l⟩) w := callable_ (by kernel_rfl)

end Go.SW
