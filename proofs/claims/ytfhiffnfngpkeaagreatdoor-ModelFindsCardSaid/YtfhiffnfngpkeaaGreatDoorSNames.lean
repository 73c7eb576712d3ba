/- PRINTED by wip/tools/gen.py: the functions' conditions in readable form, each with the kernel's word that it is the computed one. -/
import Derived.Test.YtfhiffnfngpkeaaGreatDoorVcSeat
set_option linter.unusedVariables false
namespace Go.SW
open Go Go.Proofs
set_option maxRecDepth 100000
/- (*sealwax/names.Names).List -/
def S15 (k0 : Nat) (w : World) (R : Value → World → Prop) : Prop :=
  ∃ (m6 : Option Nat), World.cell? w (⟨k0, 0, none⟩ : Addr) = some (.map m6) ∧
  CALL PP 38 [(.map m6)] w fun r7 w1 =>
  CALL PP 37 [r7] w1 fun r8 w2 =>
  ∃ (A8 : Option Addr) (n8 : Nat) (c8 : Nat), r8 = (.slice A8 n8 c8) ∧
  R (.slice A8 n8 c8) w2
noncomputable def A15 : Ann := .leaf
noncomputable def C15 : Code := (Tryz.f15.body).getD .skip
theorem e15 (k0 : Nat) (w : World) (R : Value → World → Prop) : vcF PP Tryz.f15 C15 A15 [(.pointer (some ⟨k0, 0, none⟩))] w R = S15 k0 w R := by kernel_rfl
theorem c15 {k0 : Nat} {w : World} {R : Value → World → Prop} (h : S15 k0 w R) : Calls PP 15 #[(.pointer (some ⟨k0, 0, none⟩))] w (Ret R) :=
  vcF_sound follows_ Tryz.func15 (by kernel_rfl) ((e15 k0 w R).symm ▸ h)
theorem y15 (w : World) {l : List Value} : (callFunc 15 ⟨l⟩).run PP w = .ok (.enter 15 ⟨l⟩) w := callable_ (by kernel_rfl)

/- (*sealwax/names.Names).Of -/
def S16 (k0 : Nat) (s1 : ByteArray) (w : World) (R : Value → World → Prop) : Prop :=
  ∃ (m12 : Option Nat), World.cell? w (⟨k0, 0, none⟩ : Addr) = some (.map m12) ∧
  ∃ r14 : Value, (Instr.lookup 89 (.map m12) (.string s1) true).run PP w = .ok r14 w ∧
  ∃ (x14a : Int) (b14b : Bool), r14 = (.tuple #[(.int .i64 x14a), (.bool b14b)]) ∧
  R (.tuple #[(.int .i64 x14a), (.bool b14b)]) w
noncomputable def A16 : Ann := .leaf
noncomputable def C16 : Code := (Tryz.f16.body).getD .skip
theorem e16 (k0 : Nat) (s1 : ByteArray) (w : World) (R : Value → World → Prop) : vcF PP Tryz.f16 C16 A16 [(.pointer (some ⟨k0, 0, none⟩)), (.string s1)] w R = S16 k0 s1 w R := by kernel_rfl
theorem c16 {k0 : Nat} {s1 : ByteArray} {w : World} {R : Value → World → Prop} (h : S16 k0 s1 w R) : Calls PP 16 #[(.pointer (some ⟨k0, 0, none⟩)), (.string s1)] w (Ret R) :=
  vcF_sound follows_ Tryz.func16 (by kernel_rfl) ((e16 k0 s1 w R).symm ▸ h)
theorem y16 (w : World) {l : List Value} : (callFunc 16 ⟨l⟩).run PP w = .ok (.enter 16 ⟨l⟩) w := callable_ (by kernel_rfl)

/- sealwax/names.New -/
def S30  (w : World) (R : Value → World → Prop) : Prop :=
  NEW w (.map #[] 0) fun k1 w1 =>
  NEW w1 (.cells #[(.map (some k1)), (.int .i64 (1 : Int))] 91) fun k3 w2 =>
  R (.pointer (some ⟨k3, 0, none⟩)) w2
noncomputable def A30 : Ann := .leaf
noncomputable def C30 : Code := (Tryz.f30.body).getD .skip
theorem e30  (w : World) (R : Value → World → Prop) : vcF PP Tryz.f30 C30 A30 [] w R = S30  w R := by kernel_rfl
theorem c30 {w : World} {R : Value → World → Prop} (h : S30 w R) : Calls PP 30 #[] w (Ret R) :=
  vcF_sound follows_ Tryz.func30 (by kernel_rfl) ((e30  w R).symm ▸ h)
theorem y30 (w : World) {l : List Value} : (callFunc 30 ⟨l⟩).run PP w = .ok (.enter 30 ⟨l⟩) w := callable_ (by kernel_rfl)

/- (*sealwax/names.Names).Clone -/
def S36 (k0 : Nat) (w : World) (R : Value → World → Prop) : Prop :=
  DRAW w fun w1 =>
  ∃ (m6 : Option Nat), World.cell? w1 (⟨k0, 0, none⟩ : Addr) = some (.map m6) ∧
  ∃ (x11 : Int), World.cell? w1 (⟨k0, 1, none⟩ : Addr) = some (.int .i64 x11) ∧
  CALL PP 82 [(.map m6)] w1 fun r7 w2 =>
  ∃ (m7 : Option Nat), r7 = (.map m7) ∧
  (loadVar 3 (⟨k0, 1, none⟩ : Addr)).run PP w2 = .ok (.int .i64 x11) w2 ∧
  NEW w2 (.cells #[(.map m7), (.int .i64 x11)] 91) fun k13 w3 =>
  R (.pointer (some ⟨k13, 0, none⟩)) w3
noncomputable def A36 : Ann := .leaf
noncomputable def C36 : Code := (Tryz.f36.body).getD .skip
theorem e36 (k0 : Nat) (w : World) (R : Value → World → Prop) : vcF PP Tryz.f36 C36 A36 [(.pointer (some ⟨k0, 0, none⟩))] w R = S36 k0 w R := by kernel_rfl
theorem c36 {k0 : Nat} {w : World} {R : Value → World → Prop} (h : S36 k0 w R) : Calls PP 36 #[(.pointer (some ⟨k0, 0, none⟩))] w (Ret R) :=
  vcF_sound follows_ Tryz.func36 (by kernel_rfl) ((e36 k0 w R).symm ▸ h)
theorem y36 (w : World) {l : List Value} : (callFunc 36 ⟨l⟩).run PP w = .ok (.enter 36 ⟨l⟩) w := callable_ (by kernel_rfl)

/- slices.Sorted[string] -/
def S37 (v0 : Value) (w : World) (R : Value → World → Prop) : Prop :=
  CALL PP 83 [v0] w fun r5 w1 =>
  ∃ (A5 : Option Addr) (n5 : Nat) (c5 : Nat), r5 = (.slice A5 n5 c5) ∧
  CALL PP 84 [(.slice A5 n5 c5)] w1 fun r7 w2 =>
  r7 = (.tuple #[]) ∧
  R (.slice A5 n5 c5) w2
noncomputable def A37 : Ann := .leaf
noncomputable def C37 : Code := (Tryz.f37.body).getD .skip
theorem e37 (v0 : Value) (w : World) (R : Value → World → Prop) : vcF PP Tryz.f37 C37 A37 [v0] w R = S37 v0 w R := by kernel_rfl
theorem c37 {v0 : Value} {w : World} {R : Value → World → Prop} (h : S37 v0 w R) : Calls PP 37 #[v0] w (Ret R) :=
  vcF_sound follows_ Tryz.func37 (by kernel_rfl) ((e37 v0 w R).symm ▸ h)
theorem y37 (w : World) {l : List Value} : (callFunc 37 ⟨l⟩).run PP w = .ok (.enter 37 ⟨l⟩) w := callable_ (by kernel_rfl)

/- maps.Keys[map[string]int,string,int] -/
def S38 (m0 : Option Nat) (w : World) (R : Value → World → Prop) : Prop :=
  NEW w (.cells #[(.map m0)] 89) fun k1 w1 =>
  R (.func (.func 85) #[] #[(.pointer (some ⟨k1, 0, none⟩))]) w1
noncomputable def A38 : Ann := .leaf
noncomputable def C38 : Code := (Tryz.f38.body).getD .skip
theorem e38 (m0 : Option Nat) (w : World) (R : Value → World → Prop) : vcF PP Tryz.f38 C38 A38 [(.map m0)] w R = S38 m0 w R := by kernel_rfl
theorem c38 {m0 : Option Nat} {w : World} {R : Value → World → Prop} (h : S38 m0 w R) : Calls PP 38 #[(.map m0)] w (Ret R) :=
  vcF_sound follows_ Tryz.func38 (by kernel_rfl) ((e38 m0 w R).symm ▸ h)
theorem y38 (w : World) {l : List Value} : (callFunc 38 ⟨l⟩).run PP w = .ok (.enter 38 ⟨l⟩) w := callable_ (by kernel_rfl)

/- slices.Sorted[int] -/
def S41 (v0 : Value) (w : World) (R : Value → World → Prop) : Prop :=
  CALL PP 86 [v0] w fun r5 w1 =>
  ∃ (A5 : Option Addr) (n5 : Nat) (c5 : Nat), r5 = (.slice A5 n5 c5) ∧
  CALL PP 87 [(.slice A5 n5 c5)] w1 fun r7 w2 =>
  r7 = (.tuple #[]) ∧
  R (.slice A5 n5 c5) w2
noncomputable def A41 : Ann := .leaf
noncomputable def C41 : Code := (Tryz.f41.body).getD .skip
theorem e41 (v0 : Value) (w : World) (R : Value → World → Prop) : vcF PP Tryz.f41 C41 A41 [v0] w R = S41 v0 w R := by kernel_rfl
theorem c41 {v0 : Value} {w : World} {R : Value → World → Prop} (h : S41 v0 w R) : Calls PP 41 #[v0] w (Ret R) :=
  vcF_sound follows_ Tryz.func41 (by kernel_rfl) ((e41 v0 w R).symm ▸ h)
theorem y41 (w : World) {l : List Value} : (callFunc 41 ⟨l⟩).run PP w = .ok (.enter 41 ⟨l⟩) w := callable_ (by kernel_rfl)

/- maps.Keys[map[int]string,int,string] -/
def S42 (m0 : Option Nat) (w : World) (R : Value → World → Prop) : Prop :=
  NEW w (.cells #[(.map m0)] 80) fun k1 w1 =>
  R (.func (.func 88) #[] #[(.pointer (some ⟨k1, 0, none⟩))]) w1
noncomputable def A42 : Ann := .leaf
noncomputable def C42 : Code := (Tryz.f42.body).getD .skip
theorem e42 (m0 : Option Nat) (w : World) (R : Value → World → Prop) : vcF PP Tryz.f42 C42 A42 [(.map m0)] w R = S42 m0 w R := by kernel_rfl
theorem c42 {m0 : Option Nat} {w : World} {R : Value → World → Prop} (h : S42 m0 w R) : Calls PP 42 #[(.map m0)] w (Ret R) :=
  vcF_sound follows_ Tryz.func42 (by kernel_rfl) ((e42 m0 w R).symm ▸ h)
theorem y42 (w : World) {l : List Value} : (callFunc 42 ⟨l⟩).run PP w = .ok (.enter 42 ⟨l⟩) w := callable_ (by kernel_rfl)

/- maps.Clone[map[int]string,int,string] -/
def S67 (m0 : Option Nat) (w : World) (R : Value → World → Prop) : Prop :=
  SPLIT (Option.isNone m0) (
    R (.map none) w) (
    RUN PP (Instr.makeInterface 80 (.map m0)) w fun r6 w1 =>
    CALL PP 109 [r6] w1 fun r7 w2 =>
    RUN PP (Instr.typeAssert r7 20 80 false) w2 fun r8 w3 =>
    ∃ (m8 : Option Nat), r8 = (.map m8) ∧
    R (.map m8) w3)
noncomputable def A67 : Ann := .leaf
noncomputable def C67 : Code := (Tryz.f67.body).getD .skip
theorem e67 (m0 : Option Nat) (w : World) (R : Value → World → Prop) : vcF PP Tryz.f67 C67 A67 [(.map m0)] w R = S67 m0 w R := by kernel_rfl
theorem c67 {m0 : Option Nat} {w : World} {R : Value → World → Prop} (h : S67 m0 w R) : Calls PP 67 #[(.map m0)] w (Ret R) :=
  vcF_sound follows_ Tryz.func67 (by kernel_rfl) ((e67 m0 w R).symm ▸ h)
theorem y67 (w : World) {l : List Value} : (callFunc 67 ⟨l⟩).run PP w = .ok (.enter 67 ⟨l⟩) w := callable_ (by kernel_rfl)

/- (*sealwax/names.Names).Create -/
def S68 (k0 : Nat) (s1 : ByteArray) (w : World) (R : Value → World → Prop) : Prop :=
  CALL PP 16 [(.pointer (some ⟨k0, 0, none⟩)), (.string s1)] w fun r11 w1 =>
  ∃ (x11a : Int) (b11b : Bool), r11 = (.tuple #[(.int .i64 x11a), (.bool b11b)]) ∧
  CALL PP 110 [(.string s1)] w1 fun r16 w2 =>
  ∃ (b16 : Bool), r16 = (.bool b16) ∧
  SPLIT (!b16) (
    R (.tuple #[(.int .i64 (0 : Int)), (.int .i64 (4 : Int))]) w2) (
    SPLIT b11b (
      R (.tuple #[(.int .i64 (0 : Int)), (.int .i64 (6 : Int))]) w2) (
      ∃ (m24 : Option Nat), World.cell? w2 (⟨k0, 0, none⟩ : Addr) = some (.map m24) ∧
      ∃ x25 : Int, (Builtin.len_ #[89] 3 #[(.map m24)]).run PP w2 = .ok (.int .i64 x25) w2 ∧
      SPLIT (decide (x25 ≥ (16 : Int))) (
        R (.tuple #[(.int .i64 (0 : Int)), (.int .i64 (8 : Int))]) w2) (
        DRAW w2 fun w3 =>
        ∃ (m30 : Option Nat), World.cell? w3 (⟨k0, 0, none⟩ : Addr) = some (.map m30) ∧
        ∃ (x35 : Int), World.cell? w3 (⟨k0, 1, none⟩ : Addr) = some (.int .i64 x35) ∧
        RUN PP (Instr.mapUpdate 89 (.map m30) (.string s1) (.int .i64 x35)) w3 fun _uq w4 =>
        ∃ (x39 : Int), World.cell? w4 (⟨k0, 1, none⟩ : Addr) = some (.int .i64 x39) ∧
        ST w4 (⟨k0, 1, none⟩ : Addr) 0 [(.int .i64 (IntKind.wrap .i64 (x39 + (1 : Int))))] fun w5 =>
        ∃ (x46 : Int), World.cell? w5 (⟨k0, 1, none⟩ : Addr) = some (.int .i64 x46) ∧
        R (.tuple #[(.int .i64 (IntKind.wrap .i64 (x46 - (1 : Int)))), (.int .i64 (0 : Int))]) w5)))
noncomputable def A68 : Ann := .leaf
noncomputable def C68 : Code := (Tryz.f68.body).getD .skip
theorem e68 (k0 : Nat) (s1 : ByteArray) (w : World) (R : Value → World → Prop) : vcF PP Tryz.f68 C68 A68 [(.pointer (some ⟨k0, 0, none⟩)), (.string s1)] w R = S68 k0 s1 w R := by kernel_rfl
theorem c68 {k0 : Nat} {s1 : ByteArray} {w : World} {R : Value → World → Prop} (h : S68 k0 s1 w R) : Calls PP 68 #[(.pointer (some ⟨k0, 0, none⟩)), (.string s1)] w (Ret R) :=
  vcF_sound follows_ Tryz.func68 (by kernel_rfl) ((e68 k0 s1 w R).symm ▸ h)
theorem y68 (w : World) {l : List Value} : (callFunc 68 ⟨l⟩).run PP w = .ok (.enter 68 ⟨l⟩) w := callable_ (by kernel_rfl)

/- (*sealwax/names.Names).Delete -/
def S69 (k0 : Nat) (s1 : ByteArray) (w : World) (R : Value → World → Prop) : Prop :=
  CALL PP 16 [(.pointer (some ⟨k0, 0, none⟩)), (.string s1)] w fun r11 w1 =>
  ∃ (x11a : Int) (b11b : Bool), r11 = (.tuple #[(.int .i64 x11a), (.bool b11b)]) ∧
  SPLIT (!b11b) (
    R (.tuple #[(.int .i64 (0 : Int)), (.int .i64 (5 : Int))]) w1) (
    ∃ (m19 : Option Nat), World.cell? w1 (⟨k0, 0, none⟩ : Addr) = some (.map m19) ∧
    RUN PP (Builtin.delete_ #[89, 9] 0 #[(.map m19), (.string s1)]) w1 fun rq w2 =>
    R (.tuple #[(.int .i64 x11a), (.int .i64 (0 : Int))]) w2)
noncomputable def A69 : Ann := .leaf
noncomputable def C69 : Code := (Tryz.f69.body).getD .skip
theorem e69 (k0 : Nat) (s1 : ByteArray) (w : World) (R : Value → World → Prop) : vcF PP Tryz.f69 C69 A69 [(.pointer (some ⟨k0, 0, none⟩)), (.string s1)] w R = S69 k0 s1 w R := by kernel_rfl
theorem c69 {k0 : Nat} {s1 : ByteArray} {w : World} {R : Value → World → Prop} (h : S69 k0 s1 w R) : Calls PP 69 #[(.pointer (some ⟨k0, 0, none⟩)), (.string s1)] w (Ret R) :=
  vcF_sound follows_ Tryz.func69 (by kernel_rfl) ((e69 k0 s1 w R).symm ▸ h)
theorem y69 (w : World) {l : List Value} : (callFunc 69 ⟨l⟩).run PP w = .ok (.enter 69 ⟨l⟩) w := callable_ (by kernel_rfl)

/- (*sealwax/names.Names).Rename -/
def S70 (k0 : Nat) (s1 : ByteArray) (s2 : ByteArray) (w : World) (R : Value → World → Prop) : Prop :=
  CALL PP 16 [(.pointer (some ⟨k0, 0, none⟩)), (.string s1)] w fun r15 w1 =>
  ∃ (x15a : Int) (b15b : Bool), r15 = (.tuple #[(.int .i64 x15a), (.bool b15b)]) ∧
  CALL PP 16 [(.pointer (some ⟨k0, 0, none⟩)), (.string s2)] w1 fun r21 w2 =>
  ∃ (x21a : Int) (b21b : Bool), r21 = (.tuple #[(.int .i64 x21a), (.bool b21b)]) ∧
  SPLIT (!b15b) (
    R (.tuple #[(.int .i64 (0 : Int)), (.int .i64 (5 : Int))]) w2) (
    CALL PP 110 [(.string s2)] w2 fun r29 w3 =>
    ∃ (b29 : Bool), r29 = (.bool b29) ∧
    SPLIT (!b29) (
      R (.tuple #[(.int .i64 (0 : Int)), (.int .i64 (4 : Int))]) w3) (
      SPLIT b21b (
        R (.tuple #[(.int .i64 (0 : Int)), (.int .i64 (6 : Int))]) w3) (
        ∃ (m36 : Option Nat), World.cell? w3 (⟨k0, 0, none⟩ : Addr) = some (.map m36) ∧
        RUN PP (Builtin.delete_ #[89, 9] 0 #[(.map m36), (.string s1)]) w3 fun rq w4 =>
        ∃ (m41 : Option Nat), World.cell? w4 (⟨k0, 0, none⟩ : Addr) = some (.map m41) ∧
        RUN PP (Instr.mapUpdate 89 (.map m41) (.string s2) (.int .i64 x15a)) w4 fun _uq w5 =>
        R (.tuple #[(.int .i64 x15a), (.int .i64 (0 : Int))]) w5)))
noncomputable def A70 : Ann := .leaf
noncomputable def C70 : Code := (Tryz.f70.body).getD .skip
theorem e70 (k0 : Nat) (s1 : ByteArray) (s2 : ByteArray) (w : World) (R : Value → World → Prop) : vcF PP Tryz.f70 C70 A70 [(.pointer (some ⟨k0, 0, none⟩)), (.string s1), (.string s2)] w R = S70 k0 s1 s2 w R := by kernel_rfl
theorem c70 {k0 : Nat} {s1 : ByteArray} {s2 : ByteArray} {w : World} {R : Value → World → Prop} (h : S70 k0 s1 s2 w R) : Calls PP 70 #[(.pointer (some ⟨k0, 0, none⟩)), (.string s1), (.string s2)] w (Ret R) :=
  vcF_sound follows_ Tryz.func70 (by kernel_rfl) ((e70 k0 s1 s2 w R).symm ▸ h)
theorem y70 (w : World) {l : List Value} : (callFunc 70 ⟨l⟩).run PP w = .ok (.enter 70 ⟨l⟩) w := callable_ (by kernel_rfl)

/- maps.Clone[map[string]int,string,int] -/
def S82 (m0 : Option Nat) (w : World) (R : Value → World → Prop) : Prop :=
  SPLIT (Option.isNone m0) (
    R (.map none) w) (
    RUN PP (Instr.makeInterface 89 (.map m0)) w fun r6 w1 =>
    CALL PP 109 [r6] w1 fun r7 w2 =>
    RUN PP (Instr.typeAssert r7 20 89 false) w2 fun r8 w3 =>
    ∃ (m8 : Option Nat), r8 = (.map m8) ∧
    R (.map m8) w3)
noncomputable def A82 : Ann := .leaf
noncomputable def C82 : Code := (Tryz.f82.body).getD .skip
theorem e82 (m0 : Option Nat) (w : World) (R : Value → World → Prop) : vcF PP Tryz.f82 C82 A82 [(.map m0)] w R = S82 m0 w R := by kernel_rfl
theorem c82 {m0 : Option Nat} {w : World} {R : Value → World → Prop} (h : S82 m0 w R) : Calls PP 82 #[(.map m0)] w (Ret R) :=
  vcF_sound follows_ Tryz.func82 (by kernel_rfl) ((e82 m0 w R).symm ▸ h)
theorem y82 (w : World) {l : List Value} : (callFunc 82 ⟨l⟩).run PP w = .ok (.enter 82 ⟨l⟩) w := callable_ (by kernel_rfl)

/- slices.Collect[string] -/
def S83 (v0 : Value) (w : World) (R : Value → World → Prop) : Prop :=
  CALL PP 124 [(.slice none 0 0), v0] w fun r4 w1 =>
  ∃ (A4 : Option Addr) (n4 : Nat) (c4 : Nat), r4 = (.slice A4 n4 c4) ∧
  R (.slice A4 n4 c4) w1
noncomputable def A83 : Ann := .leaf
noncomputable def C83 : Code := (Tryz.f83.body).getD .skip
theorem e83 (v0 : Value) (w : World) (R : Value → World → Prop) : vcF PP Tryz.f83 C83 A83 [v0] w R = S83 v0 w R := by kernel_rfl
theorem c83 {v0 : Value} {w : World} {R : Value → World → Prop} (h : S83 v0 w R) : Calls PP 83 #[v0] w (Ret R) :=
  vcF_sound follows_ Tryz.func83 (by kernel_rfl) ((e83 v0 w R).symm ▸ h)
theorem y83 (w : World) {l : List Value} : (callFunc 83 ⟨l⟩).run PP w = .ok (.enter 83 ⟨l⟩) w := callable_ (by kernel_rfl)

/- slices.Collect[int] -/
def S86 (v0 : Value) (w : World) (R : Value → World → Prop) : Prop :=
  CALL PP 127 [(.slice none 0 0), v0] w fun r4 w1 =>
  ∃ (A4 : Option Addr) (n4 : Nat) (c4 : Nat), r4 = (.slice A4 n4 c4) ∧
  R (.slice A4 n4 c4) w1
noncomputable def A86 : Ann := .leaf
noncomputable def C86 : Code := (Tryz.f86.body).getD .skip
theorem e86 (v0 : Value) (w : World) (R : Value → World → Prop) : vcF PP Tryz.f86 C86 A86 [v0] w R = S86 v0 w R := by kernel_rfl
theorem c86 {v0 : Value} {w : World} {R : Value → World → Prop} (h : S86 v0 w R) : Calls PP 86 #[v0] w (Ret R) :=
  vcF_sound follows_ Tryz.func86 (by kernel_rfl) ((e86 v0 w R).symm ▸ h)
theorem y86 (w : World) {l : List Value} : (callFunc 86 ⟨l⟩).run PP w = .ok (.enter 86 ⟨l⟩) w := callable_ (by kernel_rfl)

/- maps.Keys[map[string]int,string,int]$1 -/
def S85 (v0 : Value) (k1 : Nat) (w : World) (R : Value → World → Prop) : Prop :=
  ∃ (m4 : Option Nat), World.cell? w (⟨k1, 0, none⟩ : Addr) = some (.map m4) ∧
  RUN PP (Instr.range 89 (.map m4)) w fun r5 w1 =>
  ∃ p5 : Option Addr, r5 = .pointer p5 ∧
  ∃ (I : World → Prop) (μ : World → Nat), I w1 ∧
  ∀ (_j : Nat → Value) (w2 : World), I w2 →
  RUN PP (Instr.next (.pointer p5) false 0) w2 fun r6 w3 =>
  ∃ (b6 : Bool) (l6 : List Value), r6 = .tuple ⟨.bool b6 :: l6⟩ ∧
  SPLIT b6 (
    RUN PP (Instr.entry (.pointer p5)) w3 fun r8 w4 =>
    ∃ (s8a : ByteArray) (v8b : Value), r8 = .tuple #[(.string s8a), v8b] ∧
    CALLV PP v0 [(.string s8a)] w4 fun r12 w5 =>
    ∃ (b12 : Bool), r12 = (.bool b12) ∧
    SPLIT (!b12) (
      R (.tuple #[]) w5) (
      I w5 ∧ μ w5 < μ w2)) (
    R (.tuple #[]) w3)
noncomputable def A85 : Ann := (.two .leaf (.one (.loop 16328 [] .leaf)))
noncomputable def C85 : Code := (Tryz.f85.body).getD .skip
theorem e85 (v0 : Value) (k1 : Nat) (w : World) (R : Value → World → Prop) : vcF PP Tryz.f85 C85 A85 [v0, (.pointer (some ⟨k1, 0, none⟩))] w R = S85 v0 k1 w R := by kernel_rfl
theorem c85 {v0 : Value} {k1 : Nat} {w : World} {R : Value → World → Prop} (h : S85 v0 k1 w R) : Calls PP 85 #[v0, (.pointer (some ⟨k1, 0, none⟩))] w (Ret R) :=
  vcF_sound follows_ Tryz.func85 (by kernel_rfl) ((e85 v0 k1 w R).symm ▸ h)
theorem y85 (w : World) {l : List Value} : (callFunc 85 ⟨l⟩).run PP w = .ok (.enter 85 ⟨l⟩) w := callable_ (by kernel_rfl)

/- maps.Keys[map[int]string,int,string]$1 -/
def S88 (v0 : Value) (k1 : Nat) (w : World) (R : Value → World → Prop) : Prop :=
  ∃ (m4 : Option Nat), World.cell? w (⟨k1, 0, none⟩ : Addr) = some (.map m4) ∧
  RUN PP (Instr.range 80 (.map m4)) w fun r5 w1 =>
  ∃ p5 : Option Addr, r5 = .pointer p5 ∧
  ∃ (I : World → Prop) (μ : World → Nat), I w1 ∧
  ∀ (_j : Nat → Value) (w2 : World), I w2 →
  RUN PP (Instr.next (.pointer p5) false 0) w2 fun r6 w3 =>
  ∃ (b6 : Bool) (l6 : List Value), r6 = .tuple ⟨.bool b6 :: l6⟩ ∧
  SPLIT b6 (
    RUN PP (Instr.entry (.pointer p5)) w3 fun r8 w4 =>
    ∃ (x8a : Int) (v8b : Value), r8 = .tuple #[(.int .i64 x8a), v8b] ∧
    CALLV PP v0 [(.int .i64 x8a)] w4 fun r12 w5 =>
    ∃ (b12 : Bool), r12 = (.bool b12) ∧
    SPLIT (!b12) (
      R (.tuple #[]) w5) (
      I w5 ∧ μ w5 < μ w2)) (
    R (.tuple #[]) w3)
noncomputable def A88 : Ann := (.two .leaf (.one (.loop 16328 [] .leaf)))
noncomputable def C88 : Code := (Tryz.f88.body).getD .skip
theorem e88 (v0 : Value) (k1 : Nat) (w : World) (R : Value → World → Prop) : vcF PP Tryz.f88 C88 A88 [v0, (.pointer (some ⟨k1, 0, none⟩))] w R = S88 v0 k1 w R := by kernel_rfl
theorem c88 {v0 : Value} {k1 : Nat} {w : World} {R : Value → World → Prop} (h : S88 v0 k1 w R) : Calls PP 88 #[v0, (.pointer (some ⟨k1, 0, none⟩))] w (Ret R) :=
  vcF_sound follows_ Tryz.func88 (by kernel_rfl) ((e88 v0 k1 w R).symm ▸ h)
theorem y88 (w : World) {l : List Value} : (callFunc 88 ⟨l⟩).run PP w = .ok (.enter 88 ⟨l⟩) w := callable_ (by kernel_rfl)

/- (*sealwax/names.Names).Next -/
def S100 (k0 : Nat) (w : World) (R : Value → World → Prop) : Prop :=
  ∃ (x6 : Int), World.cell? w (⟨k0, 1, none⟩ : Addr) = some (.int .i64 x6) ∧
  R (.int .i64 x6) w
noncomputable def A100 : Ann := .leaf
noncomputable def C100 : Code := (Tryz.f100.body).getD .skip
theorem e100 (k0 : Nat) (w : World) (R : Value → World → Prop) : vcF PP Tryz.f100 C100 A100 [(.pointer (some ⟨k0, 0, none⟩))] w R = S100 k0 w R := by kernel_rfl
theorem c100 {k0 : Nat} {w : World} {R : Value → World → Prop} (h : S100 k0 w R) : Calls PP 100 #[(.pointer (some ⟨k0, 0, none⟩))] w (Ret R) :=
  vcF_sound follows_ Tryz.func100 (by kernel_rfl) ((e100 k0 w R).symm ▸ h)
theorem y100 (w : World) {l : List Value} : (callFunc 100 ⟨l⟩).run PP w = .ok (.enter 100 ⟨l⟩) w := callable_ (by kernel_rfl)

/- sealwax/names.Check -/
def S110 (s0 : ByteArray) (w : World) (R : Value → World → Prop) : Prop :=
  ∃ (I : Int → World → Prop) (μ : Int → World → Nat), I (0 : Int) w ∧
  ∀ (_j : Nat → Value) (x6 : Int) (w1 : World), I x6 w1 →
  SPLIT (decide (x6 < (s0.size : Int))) (
    (0 ≤ x6 ∧ x6 < (s0.size : Int)) ∧
    CALL PP 141 [(.int .u8 (bt s0 x6))] w1 fun r12 w2 =>
    ∃ (b12 : Bool), r12 = (.bool b12) ∧
    SPLIT (!b12) (
      R (.bool false) w2) (
      I (IntKind.wrap .i64 (x6 + (1 : Int))) w2 ∧ μ (IntKind.wrap .i64 (x6 + (1 : Int))) w2 < μ x6 w1)) (
    SPLIT (!(s0.toList == (⟨#[]⟩ : ByteArray).toList)) (
      SPLIT (decide ((s0.size : Int) ≤ (32 : Int))) (
        CALL PP 142 [(.string s0), (.string (⟨#[47]⟩ : ByteArray))] w1 fun r24 w2 =>
        ∃ (b24 : Bool), r24 = (.bool b24) ∧
        SPLIT (!b24) (
          CALL PP 143 [(.string s0), (.string (⟨#[47]⟩ : ByteArray))] w2 fun r29 w3 =>
          ∃ (b29 : Bool), r29 = (.bool b29) ∧
          SPLIT (!b29) (
            CALL PP 144 [(.string s0), (.string (⟨#[47, 47]⟩ : ByteArray))] w3 fun r34 w4 =>
            ∃ (b34 : Bool), r34 = (.bool b34) ∧
            R (.bool (!b34)) w4) (
            R (.bool false) w3)) (
          R (.bool false) w2)) (
        R (.bool false) w1)) (
      R (.bool false) w1))
noncomputable def A110 : Ann := (.two .leaf (.two (.two .leaf (.one (.loop 32716 [(6, .int .i64)] .leaf))) .leaf))
noncomputable def C110 : Code := (Tryz.f110.body).getD .skip
theorem e110 (s0 : ByteArray) (w : World) (R : Value → World → Prop) : vcF PP Tryz.f110 C110 A110 [(.string s0)] w R = S110 s0 w R := by kernel_rfl
theorem c110 {s0 : ByteArray} {w : World} {R : Value → World → Prop} (h : S110 s0 w R) : Calls PP 110 #[(.string s0)] w (Ret R) :=
  vcF_sound follows_ Tryz.func110 (by kernel_rfl) ((e110 s0 w R).symm ▸ h)
theorem y110 (w : World) {l : List Value} : (callFunc 110 ⟨l⟩).run PP w = .ok (.enter 110 ⟨l⟩) w := callable_ (by kernel_rfl)

/- sealwax/names.may -/
def S141 (x0 : Int) (w : World) (R : Value → World → Prop) : Prop :=
  SPLIT (decide (x0 ≥ (97 : Int))) (
    SPLIT (decide (x0 ≤ (122 : Int))) (
      R (.bool true) w) (
      SPLIT (decide (x0 ≥ (65 : Int))) (
        SPLIT (decide (x0 ≤ (90 : Int))) (
          R (.bool true) w) (
          SPLIT (decide (x0 ≥ (48 : Int))) (
            SPLIT (decide (x0 ≤ (57 : Int))) (
              R (.bool true) w) (
              CALL PP 181 [(.string (⟨#[46, 95, 45, 47]⟩ : ByteArray)), (.int .u8 x0)] w fun r27 w1 =>
              ∃ (x27 : Int), r27 = (.int .i64 x27) ∧
              R (.bool (decide (x27 ≥ (0 : Int)))) w1)) (
            CALL PP 181 [(.string (⟨#[46, 95, 45, 47]⟩ : ByteArray)), (.int .u8 x0)] w fun r27 w1 =>
            ∃ (x27 : Int), r27 = (.int .i64 x27) ∧
            R (.bool (decide (x27 ≥ (0 : Int)))) w1))) (
        SPLIT (decide (x0 ≥ (48 : Int))) (
          SPLIT (decide (x0 ≤ (57 : Int))) (
            R (.bool true) w) (
            CALL PP 181 [(.string (⟨#[46, 95, 45, 47]⟩ : ByteArray)), (.int .u8 x0)] w fun r27 w1 =>
            ∃ (x27 : Int), r27 = (.int .i64 x27) ∧
            R (.bool (decide (x27 ≥ (0 : Int)))) w1)) (
          CALL PP 181 [(.string (⟨#[46, 95, 45, 47]⟩ : ByteArray)), (.int .u8 x0)] w fun r27 w1 =>
          ∃ (x27 : Int), r27 = (.int .i64 x27) ∧
          R (.bool (decide (x27 ≥ (0 : Int)))) w1)))) (
    SPLIT (decide (x0 ≥ (65 : Int))) (
      SPLIT (decide (x0 ≤ (90 : Int))) (
        R (.bool true) w) (
        SPLIT (decide (x0 ≥ (48 : Int))) (
          SPLIT (decide (x0 ≤ (57 : Int))) (
            R (.bool true) w) (
            CALL PP 181 [(.string (⟨#[46, 95, 45, 47]⟩ : ByteArray)), (.int .u8 x0)] w fun r27 w1 =>
            ∃ (x27 : Int), r27 = (.int .i64 x27) ∧
            R (.bool (decide (x27 ≥ (0 : Int)))) w1)) (
          CALL PP 181 [(.string (⟨#[46, 95, 45, 47]⟩ : ByteArray)), (.int .u8 x0)] w fun r27 w1 =>
          ∃ (x27 : Int), r27 = (.int .i64 x27) ∧
          R (.bool (decide (x27 ≥ (0 : Int)))) w1))) (
      SPLIT (decide (x0 ≥ (48 : Int))) (
        SPLIT (decide (x0 ≤ (57 : Int))) (
          R (.bool true) w) (
          CALL PP 181 [(.string (⟨#[46, 95, 45, 47]⟩ : ByteArray)), (.int .u8 x0)] w fun r27 w1 =>
          ∃ (x27 : Int), r27 = (.int .i64 x27) ∧
          R (.bool (decide (x27 ≥ (0 : Int)))) w1)) (
        CALL PP 181 [(.string (⟨#[46, 95, 45, 47]⟩ : ByteArray)), (.int .u8 x0)] w fun r27 w1 =>
        ∃ (x27 : Int), r27 = (.int .i64 x27) ∧
        R (.bool (decide (x27 ≥ (0 : Int)))) w1)))
noncomputable def A141 : Ann := .leaf
noncomputable def C141 : Code := (Tryz.f141.body).getD .skip
theorem e141 (x0 : Int) (w : World) (R : Value → World → Prop) : vcF PP Tryz.f141 C141 A141 [(.int .u8 x0)] w R = S141 x0 w R := by kernel_rfl
theorem c141 {x0 : Int} {w : World} {R : Value → World → Prop} (h : S141 x0 w R) : Calls PP 141 #[(.int .u8 x0)] w (Ret R) :=
  vcF_sound follows_ Tryz.func141 (by kernel_rfl) ((e141 x0 w R).symm ▸ h)
theorem y141 (w : World) {l : List Value} : (callFunc 141 ⟨l⟩).run PP w = .ok (.enter 141 ⟨l⟩) w := callable_ (by kernel_rfl)

/- slices.AppendSeq[[]string,string] -/
def S124 (A0 : Option Addr) (n0 : Nat) (c0 : Nat) (v1 : Value) (w : World) (R : Value → World → Prop) : Prop :=
  NEW w (.cells #[(.slice A0 n0 c0)] 26) fun k2 w1 =>
  RANGE PP v1 1 (fun l w2 beg K =>
    ∃ (y : Value) (l_1 : List Value), l = y :: l_1 ∧
    ∃ (s7 : ByteArray), y = (.string s7) ∧
    l_1 = [] ∧
    beg w2 fun w3 =>
    ∃ (A8 : Option Addr) (n8 : Nat) (c8 : Nat), World.cell? w3 (⟨k2, 0, none⟩ : Addr) = some (.slice A8 n8 c8) ∧
    NEW w3 (.cells #[(.string s7)] 9) fun k10 w4 =>
    RUN PP (Builtin.append_ #[26, 26] 26 #[(.slice A8 n8 c8), (.slice (some ⟨k10, 0, none⟩) 1 1)]) w4 fun r11 w5 =>
    ∃ (A11 : Option Addr) (n11 : Nat) (c11 : Nat), r11 = (.slice A11 n11 c11) ∧
    ST w5 (⟨k2, 0, none⟩ : Addr) 0 [(.slice A11 n11 c11)] fun w6 =>
    K w6) (fun D w2 =>
    ∃ (A12 : Option Addr) (n12 : Nat) (c12 : Nat), World.cell? w2 (⟨k2, 0, none⟩ : Addr) = some (.slice A12 n12 c12) ∧
    w2.heap[D]? = some (.deferred (some [])) ∧
    R (.slice A12 n12 c12) (w2.putObj D (.deferred none))) w1
noncomputable def A124 : Ann := (.two .leaf (.two .leaf .leaf))
noncomputable def C124 : Code := (Tryz.f124.body).getD .skip
theorem e124 (A0 : Option Addr) (n0 : Nat) (c0 : Nat) (v1 : Value) (w : World) (R : Value → World → Prop) : vcFT PP Tryz.f124 C124 [.sc .str] A124 [(.slice A0 n0 c0), v1] w R = S124 A0 n0 c0 v1 w R := by kernel_rfl
theorem c124 {A0 : Option Addr} {n0 : Nat} {c0 : Nat} {v1 : Value} {w : World} {R : Value → World → Prop} (h : S124 A0 n0 c0 v1 w R) : Calls PP 124 #[(.slice A0 n0 c0), v1] w (Ret R) :=
  vcFT_sound follows_ Tryz.func124 (by kernel_rfl) ((e124 A0 n0 c0 v1 w R).symm ▸ h)
theorem y124 (w : World) {l : List Value} : (callFunc 124 ⟨l⟩).run PP w = .ok (.enter 124 ⟨l⟩) w := callable_ (by kernel_rfl)

/- slices.AppendSeq[[]int,int] -/
def S127 (A0 : Option Addr) (n0 : Nat) (c0 : Nat) (v1 : Value) (w : World) (R : Value → World → Prop) : Prop :=
  NEW w (.cells #[(.slice A0 n0 c0)] 54) fun k2 w1 =>
  RANGE PP v1 1 (fun l w2 beg K =>
    ∃ (y : Value) (l_1 : List Value), l = y :: l_1 ∧
    ∃ (x7 : Int), y = (.int .i64 x7) ∧
    l_1 = [] ∧
    beg w2 fun w3 =>
    ∃ (A8 : Option Addr) (n8 : Nat) (c8 : Nat), World.cell? w3 (⟨k2, 0, none⟩ : Addr) = some (.slice A8 n8 c8) ∧
    NEW w3 (.cells #[(.int .i64 x7)] 3) fun k10 w4 =>
    RUN PP (Builtin.append_ #[54, 54] 54 #[(.slice A8 n8 c8), (.slice (some ⟨k10, 0, none⟩) 1 1)]) w4 fun r11 w5 =>
    ∃ (A11 : Option Addr) (n11 : Nat) (c11 : Nat), r11 = (.slice A11 n11 c11) ∧
    ST w5 (⟨k2, 0, none⟩ : Addr) 0 [(.slice A11 n11 c11)] fun w6 =>
    K w6) (fun D w2 =>
    ∃ (A12 : Option Addr) (n12 : Nat) (c12 : Nat), World.cell? w2 (⟨k2, 0, none⟩ : Addr) = some (.slice A12 n12 c12) ∧
    w2.heap[D]? = some (.deferred (some [])) ∧
    R (.slice A12 n12 c12) (w2.putObj D (.deferred none))) w1
noncomputable def A127 : Ann := (.two .leaf (.two .leaf .leaf))
noncomputable def C127 : Code := (Tryz.f127.body).getD .skip
theorem e127 (A0 : Option Addr) (n0 : Nat) (c0 : Nat) (v1 : Value) (w : World) (R : Value → World → Prop) : vcFT PP Tryz.f127 C127 [.sc (.int .i64)] A127 [(.slice A0 n0 c0), v1] w R = S127 A0 n0 c0 v1 w R := by kernel_rfl
theorem c127 {A0 : Option Addr} {n0 : Nat} {c0 : Nat} {v1 : Value} {w : World} {R : Value → World → Prop} (h : S127 A0 n0 c0 v1 w R) : Calls PP 127 #[(.slice A0 n0 c0), v1] w (Ret R) :=
  vcFT_sound follows_ Tryz.func127 (by kernel_rfl) ((e127 A0 n0 c0 v1 w R).symm ▸ h)
theorem y127 (w : World) {l : List Value} : (callFunc 127 ⟨l⟩).run PP w = .ok (.enter 127 ⟨l⟩) w := callable_ (by kernel_rfl)

/- strings.HasPrefix -/
def S142 (s0 : ByteArray) (s1 : ByteArray) (w : World) (R : Value → World → Prop) : Prop :=
  CALL PP 182 [(.string s0), (.string s1)] w fun r7 w1 =>
  ∃ (b7 : Bool), r7 = (.bool b7) ∧
  R (.bool b7) w1
noncomputable def A142 : Ann := .leaf
noncomputable def C142 : Code := (Tryz.f142.body).getD .skip
theorem e142 (s0 : ByteArray) (s1 : ByteArray) (w : World) (R : Value → World → Prop) : vcF PP Tryz.f142 C142 A142 [(.string s0), (.string s1)] w R = S142 s0 s1 w R := by kernel_rfl
theorem c142 {s0 : ByteArray} {s1 : ByteArray} {w : World} {R : Value → World → Prop} (h : S142 s0 s1 w R) : Calls PP 142 #[(.string s0), (.string s1)] w (Ret R) :=
  vcF_sound follows_ Tryz.func142 (by kernel_rfl) ((e142 s0 s1 w R).symm ▸ h)
theorem y142 (w : World) {l : List Value} : (callFunc 142 ⟨l⟩).run PP w = .ok (.enter 142 ⟨l⟩) w := callable_ (by kernel_rfl)

/- strings.HasSuffix -/
def S143 (s0 : ByteArray) (s1 : ByteArray) (w : World) (R : Value → World → Prop) : Prop :=
  CALL PP 183 [(.string s0), (.string s1)] w fun r7 w1 =>
  ∃ (b7 : Bool), r7 = (.bool b7) ∧
  R (.bool b7) w1
noncomputable def A143 : Ann := .leaf
noncomputable def C143 : Code := (Tryz.f143.body).getD .skip
theorem e143 (s0 : ByteArray) (s1 : ByteArray) (w : World) (R : Value → World → Prop) : vcF PP Tryz.f143 C143 A143 [(.string s0), (.string s1)] w R = S143 s0 s1 w R := by kernel_rfl
theorem c143 {s0 : ByteArray} {s1 : ByteArray} {w : World} {R : Value → World → Prop} (h : S143 s0 s1 w R) : Calls PP 143 #[(.string s0), (.string s1)] w (Ret R) :=
  vcF_sound follows_ Tryz.func143 (by kernel_rfl) ((e143 s0 s1 w R).symm ▸ h)
theorem y143 (w : World) {l : List Value} : (callFunc 143 ⟨l⟩).run PP w = .ok (.enter 143 ⟨l⟩) w := callable_ (by kernel_rfl)

/- internal/stringslite.HasPrefix -/
def S182 (s0 : ByteArray) (s1 : ByteArray) (w : World) (R : Value → World → Prop) : Prop :=
  SPLIT (decide ((s0.size : Int) ≥ (s1.size : Int))) (
    (0 ≤ (s1.size : Int) ∧ (s1.size : Int) ≤ ((s0.size : Nat) : Int)) ∧
    R (.bool ((ByteArray.extract s0 0 (Int.toNat (s1.size : Int))).toList == s1.toList)) w) (
    R (.bool false) w)
noncomputable def A182 : Ann := .leaf
noncomputable def C182 : Code := (Tryz.f182.body).getD .skip
theorem e182 (s0 : ByteArray) (s1 : ByteArray) (w : World) (R : Value → World → Prop) : vcF PP Tryz.f182 C182 A182 [(.string s0), (.string s1)] w R = S182 s0 s1 w R := by kernel_rfl
theorem c182 {s0 : ByteArray} {s1 : ByteArray} {w : World} {R : Value → World → Prop} (h : S182 s0 s1 w R) : Calls PP 182 #[(.string s0), (.string s1)] w (Ret R) :=
  vcF_sound follows_ Tryz.func182 (by kernel_rfl) ((e182 s0 s1 w R).symm ▸ h)
theorem y182 (w : World) {l : List Value} : (callFunc 182 ⟨l⟩).run PP w = .ok (.enter 182 ⟨l⟩) w := callable_ (by kernel_rfl)

/- internal/stringslite.HasSuffix -/
def S183 (s0 : ByteArray) (s1 : ByteArray) (w : World) (R : Value → World → Prop) : Prop :=
  SPLIT (decide ((s0.size : Int) ≥ (s1.size : Int))) (
    (0 ≤ (IntKind.wrap .i64 ((s0.size : Int) - (s1.size : Int))) ∧ (IntKind.wrap .i64 ((s0.size : Int) - (s1.size : Int))) ≤ ((s0.size : Nat) : Int)) ∧
    R (.bool ((ByteArray.extract s0 (Int.toNat (IntKind.wrap .i64 ((s0.size : Int) - (s1.size : Int)))) s0.size).toList == s1.toList)) w) (
    R (.bool false) w)
noncomputable def A183 : Ann := .leaf
noncomputable def C183 : Code := (Tryz.f183.body).getD .skip
theorem e183 (s0 : ByteArray) (s1 : ByteArray) (w : World) (R : Value → World → Prop) : vcF PP Tryz.f183 C183 A183 [(.string s0), (.string s1)] w R = S183 s0 s1 w R := by kernel_rfl
theorem c183 {s0 : ByteArray} {s1 : ByteArray} {w : World} {R : Value → World → Prop} (h : S183 s0 s1 w R) : Calls PP 183 #[(.string s0), (.string s1)] w (Ret R) :=
  vcF_sound follows_ Tryz.func183 (by kernel_rfl) ((e183 s0 s1 w R).symm ▸ h)
theorem y183 (w : World) {l : List Value} : (callFunc 183 ⟨l⟩).run PP w = .ok (.enter 183 ⟨l⟩) w := callable_ (by kernel_rfl)

end Go.SW
