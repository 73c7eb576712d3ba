/- PRINTED by wip/tools/gen.py: the functions' conditions in readable form, each with the kernel's word that it is the computed one. -/
import Derived.Test.YtfhiffnfngpkeaaGreatDoorVcSeat
set_option linter.unusedVariables false
namespace Go.SW
open Go Go.Proofs
set_option maxRecDepth 100000
/- sealwax/sealwaxlaw19.awake -/
def S10  (w : World) (R : Value → World → Prop) : Prop :=
  CALL PP 11 [] w fun r5 w1 =>
  ∃ (p5 : Option Addr), r5 = (.pointer p5) ∧
  SPLIT (Option.isNone p5) (
    R (.bool false) w1) (
    CALL PP 13 [(.pointer p5), (.agg #[(.int .i64 (1 : Int)), (.string (⟨#[97]⟩ : ByteArray)), (.string (⟨#[]⟩ : ByteArray)), (.string (⟨#[]⟩ : ByteArray)), (.int .i64 (0 : Int)), (.int .i64 (0 : Int)), (.int .i64 (0 : Int)), (.slice none 0 0)])] w1 fun r10 w2 =>
    ∃ (x10_0 : Int) (x10_1 : Int) (s10_2 : ByteArray) (A10_3 : Option Addr) (n10_3 : Nat) (c10_3 : Nat) (A10_4 : Option Addr) (n10_4 : Nat) (c10_4 : Nat), r10 = (.agg #[(.int .i64 x10_0), (.int .i64 x10_1), (.string s10_2), (.slice A10_3 n10_3 c10_3), (.slice A10_4 n10_4 c10_4)]) ∧
    NEW w2 (.cells #[(.int .i64 (0 : Int)), (.int .i64 (0 : Int)), (.string (⟨#[]⟩ : ByteArray)), (.slice none 0 0), (.slice none 0 0)] 35) fun k2 w3 =>
    ST w3 (⟨k2, 0, none⟩ : Addr) 0 [(.int .i64 x10_0), (.int .i64 x10_1), (.string s10_2), (.slice A10_3 n10_3 c10_3), (.slice A10_4 n10_4 c10_4)] fun w4 =>
    CALL PP 13 [(.pointer p5), (.agg #[(.int .i64 (6 : Int)), (.string (⟨#[97]⟩ : ByteArray)), (.string (⟨#[]⟩ : ByteArray)), (.string (⟨#[116, 119, 111, 32, 99, 97, 116, 115]⟩ : ByteArray)), (.int .i64 (0 : Int)), (.int .i64 (0 : Int)), (.int .i64 (0 : Int)), (.slice none 0 0)])] w4 fun r13 w5 =>
    ∃ (x13_0 : Int) (x13_1 : Int) (s13_2 : ByteArray) (A13_3 : Option Addr) (n13_3 : Nat) (c13_3 : Nat) (A13_4 : Option Addr) (n13_4 : Nat) (c13_4 : Nat), r13 = (.agg #[(.int .i64 x13_0), (.int .i64 x13_1), (.string s13_2), (.slice A13_3 n13_3 c13_3), (.slice A13_4 n13_4 c13_4)]) ∧
    NEW w5 (.cells #[(.int .i64 (0 : Int)), (.int .i64 (0 : Int)), (.string (⟨#[]⟩ : ByteArray)), (.slice none 0 0), (.slice none 0 0)] 35) fun k3 w6 =>
    ST w6 (⟨k3, 0, none⟩ : Addr) 0 [(.int .i64 x13_0), (.int .i64 x13_1), (.string s13_2), (.slice A13_3 n13_3 c13_3), (.slice A13_4 n13_4 c13_4)] fun w7 =>
    NEW w7 (.cells #[(.string (⟨#[99, 97, 116, 115]⟩ : ByteArray))] 9) fun k15 w8 =>
    CALL PP 13 [(.pointer p5), (.agg #[(.int .i64 (12 : Int)), (.string (⟨#[]⟩ : ByteArray)), (.string (⟨#[]⟩ : ByteArray)), (.string (⟨#[]⟩ : ByteArray)), (.int .i64 (0 : Int)), (.int .i64 (0 : Int)), (.int .i64 (0 : Int)), (.slice (some ⟨k15, 0, none⟩) 1 1)])] w8 fun r17 w9 =>
    ∃ (x17_0 : Int) (x17_1 : Int) (s17_2 : ByteArray) (A17_3 : Option Addr) (n17_3 : Nat) (c17_3 : Nat) (A17_4 : Option Addr) (n17_4 : Nat) (c17_4 : Nat), r17 = (.agg #[(.int .i64 x17_0), (.int .i64 x17_1), (.string s17_2), (.slice A17_3 n17_3 c17_3), (.slice A17_4 n17_4 c17_4)]) ∧
    NEW w9 (.cells #[(.int .i64 (0 : Int)), (.int .i64 (0 : Int)), (.string (⟨#[]⟩ : ByteArray)), (.slice none 0 0), (.slice none 0 0)] 35) fun k4 w10 =>
    ST w10 (⟨k4, 0, none⟩ : Addr) 0 [(.int .i64 x17_0), (.int .i64 x17_1), (.string s17_2), (.slice A17_3 n17_3 c17_3), (.slice A17_4 n17_4 c17_4)] fun w11 =>
    ∃ (x19 : Int), World.cell? w11 (⟨k2, 1, none⟩ : Addr) = some (.int .i64 x19) ∧
    SPLIT (x19 == (1 : Int)) (
      ∃ (x23 : Int), World.cell? w11 (⟨k3, 1, none⟩ : Addr) = some (.int .i64 x23) ∧
      SPLIT (x23 == (1 : Int)) (
        ∃ (x28 : Int), World.cell? w11 (⟨k3, 0, none⟩ : Addr) = some (.int .i64 x28) ∧
        SPLIT (x28 == (0 : Int)) (
          ∃ (A33 : Option Addr) (n33 : Nat) (c33 : Nat), World.cell? w11 (⟨k4, 4, none⟩ : Addr) = some (.slice A33 n33 c33) ∧
          SPLIT (((n33 : Nat) : Int) == (1 : Int)) (
            ∃ (A39 : Option Addr) (n39 : Nat) (c39 : Nat), World.cell? w11 (⟨k4, 4, none⟩ : Addr) = some (.slice A39 n39 c39) ∧
            (0 ≤ (0 : Int) ∧ (0 : Int) < ((n39 : Nat) : Int)) ∧
            SOMEA A39 fun a40 =>
            ∃ (s41_0 : ByteArray) (x41_1 : Int) (x41_2 : Int), RD w11 (Addr.add a40 (Int.toNat (0 : Int) * 3)) 0 [(.string s41_0), (.int .i64 x41_1), (.int .i64 x41_2)] ∧
            ∃ b43 : Bool, (do eqGuard .eql 39 (.tmp 41) (.tmp 42) (.agg #[(.string s41_0), (.int .i64 x41_1), (.int .i64 x41_2)]) (.agg #[(.string (⟨#[97]⟩ : ByteArray)), (.int .i64 (1 : Int)), (.int .i64 (0 : Int))]); binOp .eql 39 (.agg #[(.string s41_0), (.int .i64 x41_1), (.int .i64 x41_2)]) (.agg #[(.string (⟨#[97]⟩ : ByteArray)), (.int .i64 (1 : Int)), (.int .i64 (0 : Int))]) : Sem Value).run PP w11 = .ok (.bool b43) w11 ∧
            R (.bool b43) w11) (
            R (.bool false) w11)) (
          R (.bool false) w11)) (
        R (.bool false) w11)) (
      R (.bool false) w11))
noncomputable def A10 : Ann := .leaf
noncomputable def C10 : Code := (Tryz.f10.body).getD .skip
theorem e10  (w : World) (R : Value → World → Prop) : vcF PP Tryz.f10 C10 A10 [] w R = S10  w R := by kernel_rfl
theorem c10 {w : World} {R : Value → World → Prop} (h : S10 w R) : Calls PP 10 #[] w (Ret R) :=
  vcF_sound follows_ Tryz.func10 (by kernel_rfl) ((e10  w R).symm ▸ h)
theorem y10 (w : World) {l : List Value} : (callFunc 10 ⟨l⟩).run PP w = .ok (.enter 10 ⟨l⟩) w := callable_ (by kernel_rfl)

/- sealwax/sealwaxlaw19.Own -/
def S12 (x0_0 : Int) (s0_1 : ByteArray) (s0_2 : ByteArray) (s0_3 : ByteArray) (x0_4 : Int) (x0_5 : Int) (x0_6 : Int) (A0_7 : Option Addr) (n0_7 : Nat) (c0_7 : Nat) (w : World) (R : Value → World → Prop) : Prop :=
  NEW w (.cells #[(.int .i64 x0_0), (.string s0_1), (.string s0_2), (.string s0_3), (.int .i64 x0_4), (.int .i64 x0_5), (.int .i64 x0_6), (.slice A0_7 n0_7 c0_7)] 29) fun k1 w1 =>
  NEW w1 (.cells #[(.int .i64 (0 : Int)), (.string (⟨#[]⟩ : ByteArray)), (.string (⟨#[]⟩ : ByteArray)), (.string (⟨#[]⟩ : ByteArray)), (.int .i64 (0 : Int)), (.int .i64 (0 : Int)), (.int .i64 (0 : Int)), (.slice none 0 0)] 28) fun k2 w2 =>
  NEW w2 (.cells #[(.int .i64 (0 : Int)), (.string (⟨#[]⟩ : ByteArray)), (.string (⟨#[]⟩ : ByteArray)), (.string (⟨#[]⟩ : ByteArray)), (.int .i64 (0 : Int)), (.int .i64 (0 : Int)), (.int .i64 (0 : Int)), (.slice none 0 0)] 29) fun k3 w3 =>
  DRAW w3 fun w4 =>
  ∃ (s5 : ByteArray), World.cell? w4 (⟨k1, 1, none⟩ : Addr) = some (.string s5) ∧
  ∃ (s8 : ByteArray), World.cell? w4 (⟨k1, 2, none⟩ : Addr) = some (.string s8) ∧
  ∃ (A11 : Option Addr) (n11 : Nat) (c11 : Nat), World.cell? w4 (⟨k1, 7, none⟩ : Addr) = some (.slice A11 n11 c11) ∧
  CALL PP 21 [(.string s5), (.int .i64 (40 : Int))] w4 fun r6 w5 =>
  ∃ (s6 : ByteArray), r6 = (.string s6) ∧
  (loadVar 26 (⟨k1, 7, none⟩ : Addr)).run PP w5 = .ok (.slice A11 n11 c11) w5 ∧
  (loadVar 9 (⟨k1, 2, none⟩ : Addr)).run PP w5 = .ok (.string s8) w5 ∧
  CALL PP 21 [(.string s8), (.int .i64 (40 : Int))] w5 fun r9 w6 =>
  ∃ (s9 : ByteArray), r9 = (.string s9) ∧
  (loadVar 26 (⟨k1, 7, none⟩ : Addr)).run PP w6 = .ok (.slice A11 n11 c11) w6 ∧
  CALL PP 31 [(.slice A11 n11 c11), (.int .i64 (10 : Int)), (.int .i64 (20 : Int))] w6 fun r12 w7 =>
  ∃ (A12 : Option Addr) (n12 : Nat) (c12 : Nat), r12 = (.slice A12 n12 c12) ∧
  ST w7 (⟨k1, 1, none⟩ : Addr) 0 [(.string s6)] fun w8 =>
  ST w8 (⟨k1, 2, none⟩ : Addr) 0 [(.string s9)] fun w9 =>
  ST w9 (⟨k1, 7, none⟩ : Addr) 0 [(.slice A12 n12 c12)] fun w10 =>
  ∃ I : World → Prop, (
    ∃ (s17 : ByteArray), World.cell? w10 (⟨k1, 3, none⟩ : Addr) = some (.string s17) ∧
    SPLIT (decide ((s17.size : Int) ≤ (4096 : Int))) (
      ∃ (s21 : ByteArray), World.cell? w10 (⟨k1, 3, none⟩ : Addr) = some (.string s21) ∧
      CALL PP 21 [(.string s21), (.int .i64 (700 : Int))] w10 fun r22 w11 =>
      ∃ (s22 : ByteArray), r22 = (.string s22) ∧
      ST w11 (⟨k1, 3, none⟩ : Addr) 0 [(.string s22)] fun w12 =>
      I w12) (
      ∃ (s25 : ByteArray), World.cell? w10 (⟨k1, 3, none⟩ : Addr) = some (.string s25) ∧
      CALL PP 21 [(.string s25), (.int .i64 (4097 : Int))] w10 fun r26 w11 =>
      ∃ (s26 : ByteArray), r26 = (.string s26) ∧
      ST w11 (⟨k1, 3, none⟩ : Addr) 0 [(.string s26)] fun w12 =>
      I w12)) ∧
  ∀ (_j : Nat → Value) (w11 : World), I w11 →
  DRAW w11 fun w12 =>
  ∃ (x29 : Int), World.cell? w12 (⟨k1, 0, none⟩ : Addr) = some (.int .i64 x29) ∧
  ∃ (s31 : ByteArray), World.cell? w12 (⟨k1, 1, none⟩ : Addr) = some (.string s31) ∧
  ∃ (s33 : ByteArray), World.cell? w12 (⟨k1, 2, none⟩ : Addr) = some (.string s33) ∧
  ∃ (s35 : ByteArray), World.cell? w12 (⟨k1, 3, none⟩ : Addr) = some (.string s35) ∧
  ∃ (x37 : Int), World.cell? w12 (⟨k1, 4, none⟩ : Addr) = some (.int .i64 x37) ∧
  ∃ (x39 : Int), World.cell? w12 (⟨k1, 5, none⟩ : Addr) = some (.int .i64 x39) ∧
  ∃ (x41 : Int), World.cell? w12 (⟨k1, 6, none⟩ : Addr) = some (.int .i64 x41) ∧
  ∃ (A44 : Option Addr) (n44 : Nat) (c44 : Nat), World.cell? w12 (⟨k1, 7, none⟩ : Addr) = some (.slice A44 n44 c44) ∧
  ∃ (x47_0 : Int) (s47_1 : ByteArray) (s47_2 : ByteArray) (s47_3 : ByteArray) (x47_4 : Int) (x47_5 : Int) (x47_6 : Int) (A47_7 : Option Addr) (n47_7 : Nat) (c47_7 : Nat), RD w12 (⟨k1, 0, none⟩ : Addr) 0 [(.int .i64 x47_0), (.string s47_1), (.string s47_2), (.string s47_3), (.int .i64 x47_4), (.int .i64 x47_5), (.int .i64 x47_6), (.slice A47_7 n47_7 c47_7)] ∧
  NEW w12 (.cells #[] 9) fun k42 w13 =>
  (loadVar 29 (⟨k1, 0, none⟩ : Addr)).run PP w13 = .ok (.agg #[(.int .i64 x47_0), (.string s47_1), (.string s47_2), (.string s47_3), (.int .i64 x47_4), (.int .i64 x47_5), (.int .i64 x47_6), (.slice A47_7 n47_7 c47_7)]) w13 ∧
  (loadVar 26 (⟨k1, 7, none⟩ : Addr)).run PP w13 = .ok (.slice A44 n44 c44) w13 ∧
  (loadVar 3 (⟨k1, 6, none⟩ : Addr)).run PP w13 = .ok (.int .i64 x41) w13 ∧
  (loadVar 3 (⟨k1, 5, none⟩ : Addr)).run PP w13 = .ok (.int .i64 x39) w13 ∧
  (loadVar 3 (⟨k1, 4, none⟩ : Addr)).run PP w13 = .ok (.int .i64 x37) w13 ∧
  (loadVar 9 (⟨k1, 3, none⟩ : Addr)).run PP w13 = .ok (.string s35) w13 ∧
  (loadVar 9 (⟨k1, 2, none⟩ : Addr)).run PP w13 = .ok (.string s33) w13 ∧
  (loadVar 9 (⟨k1, 1, none⟩ : Addr)).run PP w13 = .ok (.string s31) w13 ∧
  (loadVar 3 (⟨k1, 0, none⟩ : Addr)).run PP w13 = .ok (.int .i64 x29) w13 ∧
  RUN PP (Builtin.append_ #[26, 26] 26 #[(.slice (some ⟨k42, 0, none⟩) 0 0), (.slice A44 n44 c44)]) w13 fun r45 w14 =>
  ∃ (A45 : Option Addr) (n45 : Nat) (c45 : Nat), r45 = (.slice A45 n45 c45) ∧
  (loadVar 29 (⟨k1, 0, none⟩ : Addr)).run PP w14 = .ok (.agg #[(.int .i64 x47_0), (.string s47_1), (.string s47_2), (.string s47_3), (.int .i64 x47_4), (.int .i64 x47_5), (.int .i64 x47_6), (.slice A47_7 n47_7 c47_7)]) w14 ∧
  (loadVar 3 (⟨k1, 6, none⟩ : Addr)).run PP w14 = .ok (.int .i64 x41) w14 ∧
  (loadVar 3 (⟨k1, 5, none⟩ : Addr)).run PP w14 = .ok (.int .i64 x39) w14 ∧
  (loadVar 3 (⟨k1, 4, none⟩ : Addr)).run PP w14 = .ok (.int .i64 x37) w14 ∧
  (loadVar 9 (⟨k1, 3, none⟩ : Addr)).run PP w14 = .ok (.string s35) w14 ∧
  (loadVar 9 (⟨k1, 2, none⟩ : Addr)).run PP w14 = .ok (.string s33) w14 ∧
  (loadVar 9 (⟨k1, 1, none⟩ : Addr)).run PP w14 = .ok (.string s31) w14 ∧
  (loadVar 3 (⟨k1, 0, none⟩ : Addr)).run PP w14 = .ok (.int .i64 x29) w14 ∧
  ST w14 (⟨k2, 0, none⟩ : Addr) 0 [(.int .i64 x29), (.string s31), (.string s33), (.string s35), (.int .i64 x37), (.int .i64 x39), (.int .i64 x41), (.slice A45 n45 c45)] fun w15 =>
  (loadVar 29 (⟨k1, 0, none⟩ : Addr)).run PP w15 = .ok (.agg #[(.int .i64 x47_0), (.string s47_1), (.string s47_2), (.string s47_3), (.int .i64 x47_4), (.int .i64 x47_5), (.int .i64 x47_6), (.slice A47_7 n47_7 c47_7)]) w15 ∧
  ST w15 (⟨k3, 0, none⟩ : Addr) 0 [(.int .i64 x47_0), (.string s47_1), (.string s47_2), (.string s47_3), (.int .i64 x47_4), (.int .i64 x47_5), (.int .i64 x47_6), (.slice A47_7 n47_7 c47_7)] fun w16 =>
  ∃ (x2r_0 : Int) (s2r_1 : ByteArray) (s2r_2 : ByteArray) (s2r_3 : ByteArray) (x2r_4 : Int) (x2r_5 : Int) (x2r_6 : Int) (A2r_7 : Option Addr) (n2r_7 : Nat) (c2r_7 : Nat), RD w16 (⟨k2, 0, none⟩ : Addr) 0 [(.int .i64 x2r_0), (.string s2r_1), (.string s2r_2), (.string s2r_3), (.int .i64 x2r_4), (.int .i64 x2r_5), (.int .i64 x2r_6), (.slice A2r_7 n2r_7 c2r_7)] ∧
  ∃ (x3r_0 : Int) (s3r_1 : ByteArray) (s3r_2 : ByteArray) (s3r_3 : ByteArray) (x3r_4 : Int) (x3r_5 : Int) (x3r_6 : Int) (A3r_7 : Option Addr) (n3r_7 : Nat) (c3r_7 : Nat), RD w16 (⟨k3, 0, none⟩ : Addr) 0 [(.int .i64 x3r_0), (.string s3r_1), (.string s3r_2), (.string s3r_3), (.int .i64 x3r_4), (.int .i64 x3r_5), (.int .i64 x3r_6), (.slice A3r_7 n3r_7 c3r_7)] ∧
  R (.tuple #[(.agg #[(.int .i64 x2r_0), (.string s2r_1), (.string s2r_2), (.string s2r_3), (.int .i64 x2r_4), (.int .i64 x2r_5), (.int .i64 x2r_6), (.slice A2r_7 n2r_7 c2r_7)]), (.agg #[(.int .i64 x3r_0), (.string s3r_1), (.string s3r_2), (.string s3r_3), (.int .i64 x3r_4), (.int .i64 x3r_5), (.int .i64 x3r_6), (.slice A3r_7 n3r_7 c3r_7)])]) w16
noncomputable def A12 : Ann := (.two .leaf (.two .leaf (.cut 268369920 [] .leaf .leaf)))
noncomputable def C12 : Code := (Tryz.f12.body).getD .skip
theorem e12 (x0_0 : Int) (s0_1 : ByteArray) (s0_2 : ByteArray) (s0_3 : ByteArray) (x0_4 : Int) (x0_5 : Int) (x0_6 : Int) (A0_7 : Option Addr) (n0_7 : Nat) (c0_7 : Nat) (w : World) (R : Value → World → Prop) : vcF PP Tryz.f12 C12 A12 [(.agg #[(.int .i64 x0_0), (.string s0_1), (.string s0_2), (.string s0_3), (.int .i64 x0_4), (.int .i64 x0_5), (.int .i64 x0_6), (.slice A0_7 n0_7 c0_7)])] w R = S12 x0_0 s0_1 s0_2 s0_3 x0_4 x0_5 x0_6 A0_7 n0_7 c0_7 w R := by kernel_rfl
theorem c12 {x0_0 : Int} {s0_1 : ByteArray} {s0_2 : ByteArray} {s0_3 : ByteArray} {x0_4 : Int} {x0_5 : Int} {x0_6 : Int} {A0_7 : Option Addr} {n0_7 : Nat} {c0_7 : Nat} {w : World} {R : Value → World → Prop} (h : S12 x0_0 s0_1 s0_2 s0_3 x0_4 x0_5 x0_6 A0_7 n0_7 c0_7 w R) : Calls PP 12 #[(.agg #[(.int .i64 x0_0), (.string s0_1), (.string s0_2), (.string s0_3), (.int .i64 x0_4), (.int .i64 x0_5), (.int .i64 x0_6), (.slice A0_7 n0_7 c0_7)])] w (Ret R) :=
  vcF_sound follows_ Tryz.func12 (by kernel_rfl) ((e12 x0_0 s0_1 s0_2 s0_3 x0_4 x0_5 x0_6 A0_7 n0_7 c0_7 w R).symm ▸ h)
theorem y12 (w : World) {l : List Value} : (callFunc 12 ⟨l⟩).run PP w = .ok (.enter 12 ⟨l⟩) w := callable_ (by kernel_rfl)

/- sealwax/sealwaxlaw19.ModelCopies -/
def S3 (A0 : Option Addr) (n0 : Nat) (c0 : Nat) (x1 : Int) (w : World) (R : Value → World → Prop) : Prop :=
  CALL PP 10 [] w fun r14 w1 =>
  ∃ (b14 : Bool), r14 = (.bool b14) ∧
  SPLIT (!b14) (
    R (.bool false) w1) (
    CALL PP 11 [] w1 fun r16 w2 =>
    ∃ (p16 : Option Addr), r16 = (.pointer p16) ∧
    SPLIT (Option.isNone p16) (
      R (.bool false) w2) (
      ∃ I : World → Prop, (
        ∃ (I_1 : Int → World → Prop) (μ : Int → World → Nat), I_1 (0 : Int) w2 ∧
        ∀ (_j : Nat → Value) (x6 : Int) (w3 : World), I_1 x6 w3 →
        ∃ I_2 : World → Prop, (
          SPLIT (decide (x6 < ((n0 : Nat) : Int))) (
            SPLIT (decide (x6 < (15 : Int))) (
              I_2 w3) (
              I w3)) (
            I w3)) ∧
        ∀ (_j : Nat → Value) (w4 : World), I_2 w4 →
        (0 ≤ x6 ∧ x6 < ((n0 : Nat) : Int)) ∧
        SOMEA A0 fun a32 =>
        ∃ (x33_0 : Int) (s33_1 : ByteArray) (s33_2 : ByteArray) (s33_3 : ByteArray) (x33_4 : Int) (x33_5 : Int) (x33_6 : Int) (A33_7 : Option Addr) (n33_7 : Nat) (c33_7 : Nat), RD w4 (Addr.add a32 (Int.toNat x6 * 8)) 0 [(.int .i64 x33_0), (.string s33_1), (.string s33_2), (.string s33_3), (.int .i64 x33_4), (.int .i64 x33_5), (.int .i64 x33_6), (.slice A33_7 n33_7 c33_7)] ∧
        CALL PP 12 [(.agg #[(.int .i64 x33_0), (.string s33_1), (.string s33_2), (.string s33_3), (.int .i64 x33_4), (.int .i64 x33_5), (.int .i64 x33_6), (.slice A33_7 n33_7 c33_7)])] w4 fun r34 w5 =>
        ∃ (x34a_0 : Int) (s34a_1 : ByteArray) (s34a_2 : ByteArray) (s34a_3 : ByteArray) (x34a_4 : Int) (x34a_5 : Int) (x34a_6 : Int) (A34a_7 : Option Addr) (n34a_7 : Nat) (c34a_7 : Nat) (x34b_0 : Int) (s34b_1 : ByteArray) (s34b_2 : ByteArray) (s34b_3 : ByteArray) (x34b_4 : Int) (x34b_5 : Int) (x34b_6 : Int) (A34b_7 : Option Addr) (n34b_7 : Nat) (c34b_7 : Nat), r34 = (.tuple #[(.agg #[(.int .i64 x34a_0), (.string s34a_1), (.string s34a_2), (.string s34a_3), (.int .i64 x34a_4), (.int .i64 x34a_5), (.int .i64 x34a_6), (.slice A34a_7 n34a_7 c34a_7)]), (.agg #[(.int .i64 x34b_0), (.string s34b_1), (.string s34b_2), (.string s34b_3), (.int .i64 x34b_4), (.int .i64 x34b_5), (.int .i64 x34b_6), (.slice A34b_7 n34b_7 c34b_7)])]) ∧
        NEW w5 (.cells #[(.int .i64 (0 : Int)), (.string (⟨#[]⟩ : ByteArray)), (.string (⟨#[]⟩ : ByteArray)), (.string (⟨#[]⟩ : ByteArray)), (.int .i64 (0 : Int)), (.int .i64 (0 : Int)), (.int .i64 (0 : Int)), (.slice none 0 0)] 28) fun k7 w6 =>
        NEW w6 (.cells #[(.int .i64 (0 : Int)), (.string (⟨#[]⟩ : ByteArray)), (.string (⟨#[]⟩ : ByteArray)), (.string (⟨#[]⟩ : ByteArray)), (.int .i64 (0 : Int)), (.int .i64 (0 : Int)), (.int .i64 (0 : Int)), (.slice none 0 0)] 29) fun k8 w7 =>
        ST w7 (⟨k7, 0, none⟩ : Addr) 0 [(.int .i64 x34a_0), (.string s34a_1), (.string s34a_2), (.string s34a_3), (.int .i64 x34a_4), (.int .i64 x34a_5), (.int .i64 x34a_6), (.slice A34a_7 n34a_7 c34a_7)] fun w8 =>
        ST w8 (⟨k8, 0, none⟩ : Addr) 0 [(.int .i64 x34b_0), (.string s34b_1), (.string s34b_2), (.string s34b_3), (.int .i64 x34b_4), (.int .i64 x34b_5), (.int .i64 x34b_6), (.slice A34b_7 n34b_7 c34b_7)] fun w9 =>
        ∃ (x38_0 : Int) (s38_1 : ByteArray) (s38_2 : ByteArray) (s38_3 : ByteArray) (x38_4 : Int) (x38_5 : Int) (x38_6 : Int) (A38_7 : Option Addr) (n38_7 : Nat) (c38_7 : Nat), RD w9 (⟨k7, 0, none⟩ : Addr) 0 [(.int .i64 x38_0), (.string s38_1), (.string s38_2), (.string s38_3), (.int .i64 x38_4), (.int .i64 x38_5), (.int .i64 x38_6), (.slice A38_7 n38_7 c38_7)] ∧
        CALL PP 13 [(.pointer p16), (.agg #[(.int .i64 x38_0), (.string s38_1), (.string s38_2), (.string s38_3), (.int .i64 x38_4), (.int .i64 x38_5), (.int .i64 x38_6), (.slice A38_7 n38_7 c38_7)])] w9 fun r39 w10 =>
        ∃ (x39_0 : Int) (x39_1 : Int) (s39_2 : ByteArray) (A39_3 : Option Addr) (n39_3 : Nat) (c39_3 : Nat) (A39_4 : Option Addr) (n39_4 : Nat) (c39_4 : Nat), r39 = (.agg #[(.int .i64 x39_0), (.int .i64 x39_1), (.string s39_2), (.slice A39_3 n39_3 c39_3), (.slice A39_4 n39_4 c39_4)]) ∧
        I_1 (IntKind.wrap .i64 (x6 + (1 : Int))) w10 ∧ μ (IntKind.wrap .i64 (x6 + (1 : Int))) w10 < μ x6 w3) ∧
      ∀ (_j : Nat → Value) (w3 : World), I w3 →
      CALL PP 13 [(.pointer p16), (.agg #[(.int .i64 (7 : Int)), (.string (⟨#[97]⟩ : ByteArray)), (.string (⟨#[]⟩ : ByteArray)), (.string (⟨#[]⟩ : ByteArray)), (.int .i64 (IntKind.wrap .i64 (((BitVec.ofInt 64 x1) &&& (BitVec.ofInt 64 (7 : Int))).toNat : Int))), (.int .i64 (0 : Int)), (.int .i64 (0 : Int)), (.slice none 0 0)])] w3 fun r45 w4 =>
      ∃ (x45_0 : Int) (x45_1 : Int) (s45_2 : ByteArray) (A45_3 : Option Addr) (n45_3 : Nat) (c45_3 : Nat) (A45_4 : Option Addr) (n45_4 : Nat) (c45_4 : Nat), r45 = (.agg #[(.int .i64 x45_0), (.int .i64 x45_1), (.string s45_2), (.slice A45_3 n45_3 c45_3), (.slice A45_4 n45_4 c45_4)]) ∧
      NEW w4 (.cells #[(.int .i64 (0 : Int)), (.int .i64 (0 : Int)), (.string (⟨#[]⟩ : ByteArray)), (.slice none 0 0), (.slice none 0 0)] 35) fun k9 w5 =>
      ST w5 (⟨k9, 0, none⟩ : Addr) 0 [(.int .i64 x45_0), (.int .i64 x45_1), (.string s45_2), (.slice A45_3 n45_3 c45_3), (.slice A45_4 n45_4 c45_4)] fun w6 =>
      CALL PP 13 [(.pointer p16), (.agg #[(.int .i64 (8 : Int)), (.string (⟨#[97]⟩ : ByteArray)), (.string (⟨#[98]⟩ : ByteArray)), (.string (⟨#[]⟩ : ByteArray)), (.int .i64 (IntKind.wrap .i64 (((BitVec.ofInt 64 x1) &&& (BitVec.ofInt 64 (7 : Int))).toNat : Int))), (.int .i64 (0 : Int)), (.int .i64 (0 : Int)), (.slice none 0 0)])] w6 fun r49 w7 =>
      ∃ (x49_0 : Int) (x49_1 : Int) (s49_2 : ByteArray) (A49_3 : Option Addr) (n49_3 : Nat) (c49_3 : Nat) (A49_4 : Option Addr) (n49_4 : Nat) (c49_4 : Nat), r49 = (.agg #[(.int .i64 x49_0), (.int .i64 x49_1), (.string s49_2), (.slice A49_3 n49_3 c49_3), (.slice A49_4 n49_4 c49_4)]) ∧
      NEW w7 (.cells #[(.int .i64 (0 : Int)), (.int .i64 (0 : Int)), (.string (⟨#[]⟩ : ByteArray)), (.slice none 0 0), (.slice none 0 0)] 35) fun k10 w8 =>
      ST w8 (⟨k10, 0, none⟩ : Addr) 0 [(.int .i64 x49_0), (.int .i64 x49_1), (.string s49_2), (.slice A49_3 n49_3 c49_3), (.slice A49_4 n49_4 c49_4)] fun w9 =>
      ∃ (x51 : Int), World.cell? w9 (⟨k10, 0, none⟩ : Addr) = some (.int .i64 x51) ∧
      SPLIT (x51 != (0 : Int)) (
        ∃ (x54 : Int), World.cell? w9 (⟨k9, 0, none⟩ : Addr) = some (.int .i64 x54) ∧
        SPLIT (x54 != (0 : Int)) (
          R (.bool true) w9) (
          CALL PP 13 [(.pointer p16), (.agg #[(.int .i64 (5 : Int)), (.string (⟨#[98]⟩ : ByteArray)), (.string (⟨#[]⟩ : ByteArray)), (.string (⟨#[]⟩ : ByteArray)), (.int .i64 (0 : Int)), (.int .i64 (0 : Int)), (.int .i64 (0 : Int)), (.slice none 0 0)])] w9 fun r59 w10 =>
          ∃ (x59_0 : Int) (x59_1 : Int) (s59_2 : ByteArray) (A59_3 : Option Addr) (n59_3 : Nat) (c59_3 : Nat) (A59_4 : Option Addr) (n59_4 : Nat) (c59_4 : Nat), r59 = (.agg #[(.int .i64 x59_0), (.int .i64 x59_1), (.string s59_2), (.slice A59_3 n59_3 c59_3), (.slice A59_4 n59_4 c59_4)]) ∧
          R (.bool (x59_0 != (0 : Int))) w10)) (
        ∃ (x65 : Int), World.cell? w9 (⟨k10, 1, none⟩ : Addr) = some (.int .i64 x65) ∧
        CALL PP 13 [(.pointer p16), (.agg #[(.int .i64 (7 : Int)), (.string (⟨#[98]⟩ : ByteArray)), (.string (⟨#[]⟩ : ByteArray)), (.string (⟨#[]⟩ : ByteArray)), (.int .i64 x65), (.int .i64 (0 : Int)), (.int .i64 (0 : Int)), (.slice none 0 0)])] w9 fun r67 w10 =>
        ∃ (x67_0 : Int) (x67_1 : Int) (s67_2 : ByteArray) (A67_3 : Option Addr) (n67_3 : Nat) (c67_3 : Nat) (A67_4 : Option Addr) (n67_4 : Nat) (c67_4 : Nat), r67 = (.agg #[(.int .i64 x67_0), (.int .i64 x67_1), (.string s67_2), (.slice A67_3 n67_3 c67_3), (.slice A67_4 n67_4 c67_4)]) ∧
        NEW w10 (.cells #[(.int .i64 (0 : Int)), (.int .i64 (0 : Int)), (.string (⟨#[]⟩ : ByteArray)), (.slice none 0 0), (.slice none 0 0)] 35) fun k11 w11 =>
        ST w11 (⟨k11, 0, none⟩ : Addr) 0 [(.int .i64 x67_0), (.int .i64 x67_1), (.string s67_2), (.slice A67_3 n67_3 c67_3), (.slice A67_4 n67_4 c67_4)] fun w12 =>
        ∃ I_1 : World → Prop, (
          ∃ (x69 : Int), World.cell? w12 (⟨k9, 0, none⟩ : Addr) = some (.int .i64 x69) ∧
          SPLIT (x69 != (0 : Int)) (
            R (.bool false) w12) (
            ∃ (x73 : Int), World.cell? w12 (⟨k11, 0, none⟩ : Addr) = some (.int .i64 x73) ∧
            SPLIT (x73 != (0 : Int)) (
              R (.bool false) w12) (
              ∃ (s78 : ByteArray), World.cell? w12 (⟨k11, 2, none⟩ : Addr) = some (.string s78) ∧
              ∃ (s80 : ByteArray), World.cell? w12 (⟨k9, 2, none⟩ : Addr) = some (.string s80) ∧
              SPLIT (!(s78.toList == s80.toList)) (
                R (.bool false) w12) (
                ∃ (x85 : Int), World.cell? w12 (⟨k11, 1, none⟩ : Addr) = some (.int .i64 x85) ∧
                ∃ (x87 : Int), World.cell? w12 (⟨k9, 1, none⟩ : Addr) = some (.int .i64 x87) ∧
                SPLIT (x85 != x87) (
                  R (.bool false) w12) (
                  I_1 w12))))) ∧
        ∀ (_j : Nat → Value) (w13 : World), I_1 w13 →
        ∃ (x92 : Int), World.cell? w13 (⟨k10, 1, none⟩ : Addr) = some (.int .i64 x92) ∧
        CALL PP 13 [(.pointer p16), (.agg #[(.int .i64 (10 : Int)), (.string (⟨#[98]⟩ : ByteArray)), (.string (⟨#[]⟩ : ByteArray)), (.string (⟨#[]⟩ : ByteArray)), (.int .i64 x92), (.int .i64 (31 : Int)), (.int .i64 (0 : Int)), (.slice none 0 0)])] w13 fun r94 w14 =>
        ∃ (x94_0 : Int) (x94_1 : Int) (s94_2 : ByteArray) (A94_3 : Option Addr) (n94_3 : Nat) (c94_3 : Nat) (A94_4 : Option Addr) (n94_4 : Nat) (c94_4 : Nat), r94 = (.agg #[(.int .i64 x94_0), (.int .i64 x94_1), (.string s94_2), (.slice A94_3 n94_3 c94_3), (.slice A94_4 n94_4 c94_4)]) ∧
        NEW w14 (.cells #[(.int .i64 (0 : Int)), (.int .i64 (0 : Int)), (.string (⟨#[]⟩ : ByteArray)), (.slice none 0 0), (.slice none 0 0)] 35) fun k12 w15 =>
        ST w15 (⟨k12, 0, none⟩ : Addr) 0 [(.int .i64 x94_0), (.int .i64 x94_1), (.string s94_2), (.slice A94_3 n94_3 c94_3), (.slice A94_4 n94_4 c94_4)] fun w16 =>
        CALL PP 13 [(.pointer p16), (.agg #[(.int .i64 (7 : Int)), (.string (⟨#[97]⟩ : ByteArray)), (.string (⟨#[]⟩ : ByteArray)), (.string (⟨#[]⟩ : ByteArray)), (.int .i64 (IntKind.wrap .i64 (((BitVec.ofInt 64 x1) &&& (BitVec.ofInt 64 (7 : Int))).toNat : Int))), (.int .i64 (0 : Int)), (.int .i64 (0 : Int)), (.slice none 0 0)])] w16 fun r98 w17 =>
        ∃ (x98_0 : Int) (x98_1 : Int) (s98_2 : ByteArray) (A98_3 : Option Addr) (n98_3 : Nat) (c98_3 : Nat) (A98_4 : Option Addr) (n98_4 : Nat) (c98_4 : Nat), r98 = (.agg #[(.int .i64 x98_0), (.int .i64 x98_1), (.string s98_2), (.slice A98_3 n98_3 c98_3), (.slice A98_4 n98_4 c98_4)]) ∧
        NEW w17 (.cells #[(.int .i64 (0 : Int)), (.int .i64 (0 : Int)), (.string (⟨#[]⟩ : ByteArray)), (.slice none 0 0), (.slice none 0 0)] 35) fun k13 w18 =>
        ST w18 (⟨k13, 0, none⟩ : Addr) 0 [(.int .i64 x98_0), (.int .i64 x98_1), (.string s98_2), (.slice A98_3 n98_3 c98_3), (.slice A98_4 n98_4 c98_4)] fun w19 =>
        ∃ (x100 : Int), World.cell? w19 (⟨k12, 1, none⟩ : Addr) = some (.int .i64 x100) ∧
        SPLIT (x100 == (31 : Int)) (
          ∃ (x104 : Int), World.cell? w19 (⟨k13, 1, none⟩ : Addr) = some (.int .i64 x104) ∧
          ∃ (x106 : Int), World.cell? w19 (⟨k9, 1, none⟩ : Addr) = some (.int .i64 x106) ∧
          SPLIT (x104 == x106) (
            ∃ (s111 : ByteArray), World.cell? w19 (⟨k13, 2, none⟩ : Addr) = some (.string s111) ∧
            ∃ (s113 : ByteArray), World.cell? w19 (⟨k9, 2, none⟩ : Addr) = some (.string s113) ∧
            R (.bool (s111.toList == s113.toList)) w19) (
            R (.bool false) w19)) (
          R (.bool false) w19))))
noncomputable def A3 : Ann := (.two .leaf (.two .leaf (.two .leaf (.two .leaf (.cut 1099511103936 [] (.two .leaf (.one (.loop 1099511103936 [(6, .int .i64)] (.cut 133693440 [] .leaf .leaf)))) (.two .leaf (.two .leaf (.two .leaf (.two .leaf (.two .leaf (.cut 1237939744137475095546298384 [] .leaf .leaf)))))))))))
noncomputable def C3 : Code := (Tryz.f3.body).getD .skip
theorem e3 (A0 : Option Addr) (n0 : Nat) (c0 : Nat) (x1 : Int) (w : World) (R : Value → World → Prop) : vcF PP Tryz.f3 C3 A3 [(.slice A0 n0 c0), (.int .i64 x1)] w R = S3 A0 n0 c0 x1 w R := by kernel_rfl
theorem c3 {A0 : Option Addr} {n0 : Nat} {c0 : Nat} {x1 : Int} {w : World} {R : Value → World → Prop} (h : S3 A0 n0 c0 x1 w R) : Calls PP 3 #[(.slice A0 n0 c0), (.int .i64 x1)] w (Ret R) :=
  vcF_sound follows_ Tryz.func3 (by kernel_rfl) ((e3 A0 n0 c0 x1 w R).symm ▸ h)
theorem y3 (w : World) {l : List Value} : (callFunc 3 ⟨l⟩).run PP w = .ok (.enter 3 ⟨l⟩) w := callable_ (by kernel_rfl)

/- sealwax/sealwaxlaw19.ModelExpunges -/
def S4 (A0 : Option Addr) (n0 : Nat) (c0 : Nat) (w : World) (R : Value → World → Prop) : Prop :=
  CALL PP 10 [] w fun r14 w1 =>
  ∃ (b14 : Bool), r14 = (.bool b14) ∧
  SPLIT (!b14) (
    R (.bool false) w1) (
    CALL PP 11 [] w1 fun r16 w2 =>
    ∃ (p16 : Option Addr), r16 = (.pointer p16) ∧
    SPLIT (Option.isNone p16) (
      R (.bool false) w2) (
      ∃ I : World → Prop, (
        ∃ (I_1 : Int → World → Prop) (μ : Int → World → Nat), I_1 (0 : Int) w2 ∧
        ∀ (_j : Nat → Value) (x4 : Int) (w3 : World), I_1 x4 w3 →
        ∃ I_2 : World → Prop, (
          SPLIT (decide (x4 < ((n0 : Nat) : Int))) (
            SPLIT (decide (x4 < (20 : Int))) (
              I_2 w3) (
              I w3)) (
            I w3)) ∧
        ∀ (_j : Nat → Value) (w4 : World), I_2 w4 →
        (0 ≤ x4 ∧ x4 < ((n0 : Nat) : Int)) ∧
        SOMEA A0 fun a32 =>
        ∃ (x33_0 : Int) (s33_1 : ByteArray) (s33_2 : ByteArray) (s33_3 : ByteArray) (x33_4 : Int) (x33_5 : Int) (x33_6 : Int) (A33_7 : Option Addr) (n33_7 : Nat) (c33_7 : Nat), RD w4 (Addr.add a32 (Int.toNat x4 * 8)) 0 [(.int .i64 x33_0), (.string s33_1), (.string s33_2), (.string s33_3), (.int .i64 x33_4), (.int .i64 x33_5), (.int .i64 x33_6), (.slice A33_7 n33_7 c33_7)] ∧
        CALL PP 12 [(.agg #[(.int .i64 x33_0), (.string s33_1), (.string s33_2), (.string s33_3), (.int .i64 x33_4), (.int .i64 x33_5), (.int .i64 x33_6), (.slice A33_7 n33_7 c33_7)])] w4 fun r34 w5 =>
        ∃ (x34a_0 : Int) (s34a_1 : ByteArray) (s34a_2 : ByteArray) (s34a_3 : ByteArray) (x34a_4 : Int) (x34a_5 : Int) (x34a_6 : Int) (A34a_7 : Option Addr) (n34a_7 : Nat) (c34a_7 : Nat) (x34b_0 : Int) (s34b_1 : ByteArray) (s34b_2 : ByteArray) (s34b_3 : ByteArray) (x34b_4 : Int) (x34b_5 : Int) (x34b_6 : Int) (A34b_7 : Option Addr) (n34b_7 : Nat) (c34b_7 : Nat), r34 = (.tuple #[(.agg #[(.int .i64 x34a_0), (.string s34a_1), (.string s34a_2), (.string s34a_3), (.int .i64 x34a_4), (.int .i64 x34a_5), (.int .i64 x34a_6), (.slice A34a_7 n34a_7 c34a_7)]), (.agg #[(.int .i64 x34b_0), (.string s34b_1), (.string s34b_2), (.string s34b_3), (.int .i64 x34b_4), (.int .i64 x34b_5), (.int .i64 x34b_6), (.slice A34b_7 n34b_7 c34b_7)])]) ∧
        NEW w5 (.cells #[(.int .i64 (0 : Int)), (.string (⟨#[]⟩ : ByteArray)), (.string (⟨#[]⟩ : ByteArray)), (.string (⟨#[]⟩ : ByteArray)), (.int .i64 (0 : Int)), (.int .i64 (0 : Int)), (.int .i64 (0 : Int)), (.slice none 0 0)] 28) fun k5 w6 =>
        NEW w6 (.cells #[(.int .i64 (0 : Int)), (.string (⟨#[]⟩ : ByteArray)), (.string (⟨#[]⟩ : ByteArray)), (.string (⟨#[]⟩ : ByteArray)), (.int .i64 (0 : Int)), (.int .i64 (0 : Int)), (.int .i64 (0 : Int)), (.slice none 0 0)] 29) fun k6 w7 =>
        ST w7 (⟨k5, 0, none⟩ : Addr) 0 [(.int .i64 x34a_0), (.string s34a_1), (.string s34a_2), (.string s34a_3), (.int .i64 x34a_4), (.int .i64 x34a_5), (.int .i64 x34a_6), (.slice A34a_7 n34a_7 c34a_7)] fun w8 =>
        ST w8 (⟨k6, 0, none⟩ : Addr) 0 [(.int .i64 x34b_0), (.string s34b_1), (.string s34b_2), (.string s34b_3), (.int .i64 x34b_4), (.int .i64 x34b_5), (.int .i64 x34b_6), (.slice A34b_7 n34b_7 c34b_7)] fun w9 =>
        ∃ (x38_0 : Int) (s38_1 : ByteArray) (s38_2 : ByteArray) (s38_3 : ByteArray) (x38_4 : Int) (x38_5 : Int) (x38_6 : Int) (A38_7 : Option Addr) (n38_7 : Nat) (c38_7 : Nat), RD w9 (⟨k5, 0, none⟩ : Addr) 0 [(.int .i64 x38_0), (.string s38_1), (.string s38_2), (.string s38_3), (.int .i64 x38_4), (.int .i64 x38_5), (.int .i64 x38_6), (.slice A38_7 n38_7 c38_7)] ∧
        CALL PP 13 [(.pointer p16), (.agg #[(.int .i64 x38_0), (.string s38_1), (.string s38_2), (.string s38_3), (.int .i64 x38_4), (.int .i64 x38_5), (.int .i64 x38_6), (.slice A38_7 n38_7 c38_7)])] w9 fun r39 w10 =>
        ∃ (x39_0 : Int) (x39_1 : Int) (s39_2 : ByteArray) (A39_3 : Option Addr) (n39_3 : Nat) (c39_3 : Nat) (A39_4 : Option Addr) (n39_4 : Nat) (c39_4 : Nat), r39 = (.agg #[(.int .i64 x39_0), (.int .i64 x39_1), (.string s39_2), (.slice A39_3 n39_3 c39_3), (.slice A39_4 n39_4 c39_4)]) ∧
        I_1 (IntKind.wrap .i64 (x4 + (1 : Int))) w10 ∧ μ (IntKind.wrap .i64 (x4 + (1 : Int))) w10 < μ x4 w3) ∧
      ∀ (_j : Nat → Value) (w3 : World), I w3 →
      CALL PP 13 [(.pointer p16), (.agg #[(.int .i64 (5 : Int)), (.string (⟨#[97]⟩ : ByteArray)), (.string (⟨#[]⟩ : ByteArray)), (.string (⟨#[]⟩ : ByteArray)), (.int .i64 (0 : Int)), (.int .i64 (0 : Int)), (.int .i64 (0 : Int)), (.slice none 0 0)])] w3 fun r42 w4 =>
      ∃ (x42_0 : Int) (x42_1 : Int) (s42_2 : ByteArray) (A42_3 : Option Addr) (n42_3 : Nat) (c42_3 : Nat) (A42_4 : Option Addr) (n42_4 : Nat) (c42_4 : Nat), r42 = (.agg #[(.int .i64 x42_0), (.int .i64 x42_1), (.string s42_2), (.slice A42_3 n42_3 c42_3), (.slice A42_4 n42_4 c42_4)]) ∧
      NEW w4 (.cells #[(.int .i64 (0 : Int)), (.int .i64 (0 : Int)), (.string (⟨#[]⟩ : ByteArray)), (.slice none 0 0), (.slice none 0 0)] 35) fun k7 w5 =>
      ST w5 (⟨k7, 0, none⟩ : Addr) 0 [(.int .i64 x42_0), (.int .i64 x42_1), (.string s42_2), (.slice A42_3 n42_3 c42_3), (.slice A42_4 n42_4 c42_4)] fun w6 =>
      CALL PP 13 [(.pointer p16), (.agg #[(.int .i64 (11 : Int)), (.string (⟨#[97]⟩ : ByteArray)), (.string (⟨#[]⟩ : ByteArray)), (.string (⟨#[]⟩ : ByteArray)), (.int .i64 (0 : Int)), (.int .i64 (0 : Int)), (.int .i64 (0 : Int)), (.slice none 0 0)])] w6 fun r45 w7 =>
      ∃ (x45_0 : Int) (x45_1 : Int) (s45_2 : ByteArray) (A45_3 : Option Addr) (n45_3 : Nat) (c45_3 : Nat) (A45_4 : Option Addr) (n45_4 : Nat) (c45_4 : Nat), r45 = (.agg #[(.int .i64 x45_0), (.int .i64 x45_1), (.string s45_2), (.slice A45_3 n45_3 c45_3), (.slice A45_4 n45_4 c45_4)]) ∧
      NEW w7 (.cells #[(.int .i64 (0 : Int)), (.int .i64 (0 : Int)), (.string (⟨#[]⟩ : ByteArray)), (.slice none 0 0), (.slice none 0 0)] 35) fun k8 w8 =>
      ST w8 (⟨k8, 0, none⟩ : Addr) 0 [(.int .i64 x45_0), (.int .i64 x45_1), (.string s45_2), (.slice A45_3 n45_3 c45_3), (.slice A45_4 n45_4 c45_4)] fun w9 =>
      ∃ (x47 : Int), World.cell? w9 (⟨k7, 0, none⟩ : Addr) = some (.int .i64 x47) ∧
      SPLIT (x47 != (0 : Int)) (
        ∃ (x50 : Int), World.cell? w9 (⟨k8, 0, none⟩ : Addr) = some (.int .i64 x50) ∧
        ∃ (x52 : Int), World.cell? w9 (⟨k7, 0, none⟩ : Addr) = some (.int .i64 x52) ∧
        R (.bool (x50 == x52)) w9) (
        ∃ (A55 : Option Addr) (n55 : Nat) (c55 : Nat), World.cell? w9 (⟨k8, 4, none⟩ : Addr) = some (.slice A55 n55 c55) ∧
        ∃ (I_1 : Int → World → Prop) (μ : Int → World → Nat), I_1 (0 : Int) w9 ∧
        ∀ (_j : Nat → Value) (x57 : Int) (w10 : World), I_1 x57 w10 →
        SPLIT (decide (x57 < ((n55 : Nat) : Int))) (
          (0 ≤ x57 ∧ x57 < ((n55 : Nat) : Int)) ∧
          SOMEA A55 fun a59 =>
          ∃ (s60_0 : ByteArray) (x60_1 : Int) (x60_2 : Int), RD w10 (Addr.add a59 (Int.toNat x57 * 3)) 0 [(.string s60_0), (.int .i64 x60_1), (.int .i64 x60_2)] ∧
          NEW w10 (.cells #[(.string (⟨#[]⟩ : ByteArray)), (.int .i64 (0 : Int)), (.int .i64 (0 : Int))] 39) fun k10 w11 =>
          ST w11 (⟨k10, 0, none⟩ : Addr) 0 [(.string s60_0), (.int .i64 x60_1), (.int .i64 x60_2)] fun w12 =>
          ∃ (x63 : Int), World.cell? w12 (⟨k10, 1, none⟩ : Addr) = some (.int .i64 x63) ∧
          CALL PP 13 [(.pointer p16), (.agg #[(.int .i64 (7 : Int)), (.string (⟨#[97]⟩ : ByteArray)), (.string (⟨#[]⟩ : ByteArray)), (.string (⟨#[]⟩ : ByteArray)), (.int .i64 x63), (.int .i64 (0 : Int)), (.int .i64 (0 : Int)), (.slice none 0 0)])] w12 fun r65 w13 =>
          ∃ (x65_0 : Int) (x65_1 : Int) (s65_2 : ByteArray) (A65_3 : Option Addr) (n65_3 : Nat) (c65_3 : Nat) (A65_4 : Option Addr) (n65_4 : Nat) (c65_4 : Nat), r65 = (.agg #[(.int .i64 x65_0), (.int .i64 x65_1), (.string s65_2), (.slice A65_3 n65_3 c65_3), (.slice A65_4 n65_4 c65_4)]) ∧
          NEW w13 (.cells #[(.int .i64 (0 : Int)), (.int .i64 (0 : Int)), (.string (⟨#[]⟩ : ByteArray)), (.slice none 0 0), (.slice none 0 0)] 35) fun k11 w14 =>
          ST w14 (⟨k11, 0, none⟩ : Addr) 0 [(.int .i64 x65_0), (.int .i64 x65_1), (.string s65_2), (.slice A65_3 n65_3 c65_3), (.slice A65_4 n65_4 c65_4)] fun w15 =>
          ∃ (s67 : ByteArray), World.cell? w15 (⟨k10, 0, none⟩ : Addr) = some (.string s67) ∧
          SPLIT (!(s67.toList == (⟨#[97]⟩ : ByteArray).toList)) (
            R (.bool false) w15) (
            ∃ (x71 : Int), World.cell? w15 (⟨k10, 2, none⟩ : Addr) = some (.int .i64 x71) ∧
            SPLIT ((IntKind.wrap .i64 (((BitVec.ofInt 64 x71) &&& (BitVec.ofInt 64 (8 : Int))).toNat : Int)) == (0 : Int)) (
              R (.bool false) w15) (
              ∃ (x77 : Int), World.cell? w15 (⟨k11, 0, none⟩ : Addr) = some (.int .i64 x77) ∧
              SPLIT (x77 != (7 : Int)) (
                R (.bool false) w15) (
                I_1 (IntKind.wrap .i64 (x57 + (1 : Int))) w15 ∧ μ (IntKind.wrap .i64 (x57 + (1 : Int))) w15 < μ x57 w10)))) (
          CALL PP 13 [(.pointer p16), (.agg #[(.int .i64 (11 : Int)), (.string (⟨#[97]⟩ : ByteArray)), (.string (⟨#[]⟩ : ByteArray)), (.string (⟨#[]⟩ : ByteArray)), (.int .i64 (0 : Int)), (.int .i64 (0 : Int)), (.int .i64 (0 : Int)), (.slice none 0 0)])] w10 fun r83 w11 =>
          ∃ (x83_0 : Int) (x83_1 : Int) (s83_2 : ByteArray) (A83_3 : Option Addr) (n83_3 : Nat) (c83_3 : Nat) (A83_4 : Option Addr) (n83_4 : Nat) (c83_4 : Nat), r83 = (.agg #[(.int .i64 x83_0), (.int .i64 x83_1), (.string s83_2), (.slice A83_3 n83_3 c83_3), (.slice A83_4 n83_4 c83_4)]) ∧
          CALL PP 13 [(.pointer p16), (.agg #[(.int .i64 (5 : Int)), (.string (⟨#[97]⟩ : ByteArray)), (.string (⟨#[]⟩ : ByteArray)), (.string (⟨#[]⟩ : ByteArray)), (.int .i64 (0 : Int)), (.int .i64 (0 : Int)), (.int .i64 (0 : Int)), (.slice none 0 0)])] w11 fun r86 w12 =>
          ∃ (x86_0 : Int) (x86_1 : Int) (s86_2 : ByteArray) (A86_3 : Option Addr) (n86_3 : Nat) (c86_3 : Nat) (A86_4 : Option Addr) (n86_4 : Nat) (c86_4 : Nat), r86 = (.agg #[(.int .i64 x86_0), (.int .i64 x86_1), (.string s86_2), (.slice A86_3 n86_3 c86_3), (.slice A86_4 n86_4 c86_4)]) ∧
          NEW w12 (.cells #[(.int .i64 (0 : Int)), (.int .i64 (0 : Int)), (.string (⟨#[]⟩ : ByteArray)), (.slice none 0 0), (.slice none 0 0)] 35) fun k12 w13 =>
          NEW w13 (.cells #[(.int .i64 (0 : Int)), (.int .i64 (0 : Int)), (.string (⟨#[]⟩ : ByteArray)), (.slice none 0 0), (.slice none 0 0)] 35) fun k13 w14 =>
          ST w14 (⟨k12, 0, none⟩ : Addr) 0 [(.int .i64 x83_0), (.int .i64 x83_1), (.string s83_2), (.slice A83_3 n83_3 c83_3), (.slice A83_4 n83_4 c83_4)] fun w15 =>
          ST w15 (⟨k13, 0, none⟩ : Addr) 0 [(.int .i64 x86_0), (.int .i64 x86_1), (.string s86_2), (.slice A86_3 n86_3 c86_3), (.slice A86_4 n86_4 c86_4)] fun w16 =>
          ∃ (x88 : Int), World.cell? w16 (⟨k8, 1, none⟩ : Addr) = some (.int .i64 x88) ∧
          ∃ (A90 : Option Addr) (n90 : Nat) (c90 : Nat), World.cell? w16 (⟨k8, 4, none⟩ : Addr) = some (.slice A90 n90 c90) ∧
          SPLIT (x88 == ((n90 : Nat) : Int)) (
            ∃ (x95 : Int), World.cell? w16 (⟨k12, 1, none⟩ : Addr) = some (.int .i64 x95) ∧
            SPLIT (x95 == (0 : Int)) (
              ∃ (x100 : Int), World.cell? w16 (⟨k13, 1, none⟩ : Addr) = some (.int .i64 x100) ∧
              ∃ (x102 : Int), World.cell? w16 (⟨k7, 1, none⟩ : Addr) = some (.int .i64 x102) ∧
              ∃ (x104 : Int), World.cell? w16 (⟨k8, 1, none⟩ : Addr) = some (.int .i64 x104) ∧
              R (.bool (x100 == (IntKind.wrap .i64 (x102 - x104)))) w16) (
              R (.bool false) w16)) (
            R (.bool false) w16)))))
noncomputable def A4 : Ann := (.two .leaf (.two .leaf (.two .leaf (.two .leaf (.cut 1099511103600 [] (.two .leaf (.one (.loop 1099511103600 [(4, .int .i64)] (.cut 133693440 [] .leaf .leaf)))) (.two .leaf (.two .leaf (.two .leaf (.two (.two .leaf (.one (.loop 2417851495114070273559556 [(57, .int .i64)] .leaf))) .leaf)))))))))
noncomputable def C4 : Code := (Tryz.f4.body).getD .skip
theorem e4 (A0 : Option Addr) (n0 : Nat) (c0 : Nat) (w : World) (R : Value → World → Prop) : vcF PP Tryz.f4 C4 A4 [(.slice A0 n0 c0)] w R = S4 A0 n0 c0 w R := by kernel_rfl
theorem c4 {A0 : Option Addr} {n0 : Nat} {c0 : Nat} {w : World} {R : Value → World → Prop} (h : S4 A0 n0 c0 w R) : Calls PP 4 #[(.slice A0 n0 c0)] w (Ret R) :=
  vcF_sound follows_ Tryz.func4 (by kernel_rfl) ((e4 A0 n0 c0 w R).symm ▸ h)
theorem y4 (w : World) {l : List Value} : (callFunc 4 ⟨l⟩).run PP w = .ok (.enter 4 ⟨l⟩) w := callable_ (by kernel_rfl)

/- sealwax/sealwaxlaw19.ModelMails -/
def S5 (A0 : Option Addr) (n0 : Nat) (c0 : Nat) (w : World) (R : Value → World → Prop) : Prop :=
  CALL PP 10 [] w fun r20 w1 =>
  ∃ (b20 : Bool), r20 = (.bool b20) ∧
  SPLIT (!b20) (
    R (.bool false) w1) (
    CALL PP 11 [] w1 fun r22 w2 =>
    ∃ (p22 : Option Addr), r22 = (.pointer p22) ∧
    SPLIT (Option.isNone p22) (
      R (.bool false) w2) (
      ∃ (I : Int → World → Prop) (μ : Int → World → Nat), I (0 : Int) w2 ∧
      ∀ (_j : Nat → Value) (x4 : Int) (w3 : World), I x4 w3 →
      ∃ I_1 : World → Prop, (
        SPLIT (decide (x4 < ((n0 : Nat) : Int))) (
          SPLIT (decide (x4 < (25 : Int))) (
            I_1 w3) (
            R (.bool true) w3)) (
          R (.bool true) w3)) ∧
      ∀ (_j : Nat → Value) (w4 : World), I_1 w4 →
      (0 ≤ x4 ∧ x4 < ((n0 : Nat) : Int)) ∧
      SOMEA A0 fun a38 =>
      ∃ (x39_0 : Int) (s39_1 : ByteArray) (s39_2 : ByteArray) (s39_3 : ByteArray) (x39_4 : Int) (x39_5 : Int) (x39_6 : Int) (A39_7 : Option Addr) (n39_7 : Nat) (c39_7 : Nat), RD w4 (Addr.add a38 (Int.toNat x4 * 8)) 0 [(.int .i64 x39_0), (.string s39_1), (.string s39_2), (.string s39_3), (.int .i64 x39_4), (.int .i64 x39_5), (.int .i64 x39_6), (.slice A39_7 n39_7 c39_7)] ∧
      CALL PP 12 [(.agg #[(.int .i64 x39_0), (.string s39_1), (.string s39_2), (.string s39_3), (.int .i64 x39_4), (.int .i64 x39_5), (.int .i64 x39_6), (.slice A39_7 n39_7 c39_7)])] w4 fun r40 w5 =>
      ∃ (x40a_0 : Int) (s40a_1 : ByteArray) (s40a_2 : ByteArray) (s40a_3 : ByteArray) (x40a_4 : Int) (x40a_5 : Int) (x40a_6 : Int) (A40a_7 : Option Addr) (n40a_7 : Nat) (c40a_7 : Nat) (x40b_0 : Int) (s40b_1 : ByteArray) (s40b_2 : ByteArray) (s40b_3 : ByteArray) (x40b_4 : Int) (x40b_5 : Int) (x40b_6 : Int) (A40b_7 : Option Addr) (n40b_7 : Nat) (c40b_7 : Nat), r40 = (.tuple #[(.agg #[(.int .i64 x40a_0), (.string s40a_1), (.string s40a_2), (.string s40a_3), (.int .i64 x40a_4), (.int .i64 x40a_5), (.int .i64 x40a_6), (.slice A40a_7 n40a_7 c40a_7)]), (.agg #[(.int .i64 x40b_0), (.string s40b_1), (.string s40b_2), (.string s40b_3), (.int .i64 x40b_4), (.int .i64 x40b_5), (.int .i64 x40b_6), (.slice A40b_7 n40b_7 c40b_7)])]) ∧
      NEW w5 (.cells #[(.int .i64 (0 : Int)), (.string (⟨#[]⟩ : ByteArray)), (.string (⟨#[]⟩ : ByteArray)), (.string (⟨#[]⟩ : ByteArray)), (.int .i64 (0 : Int)), (.int .i64 (0 : Int)), (.int .i64 (0 : Int)), (.slice none 0 0)] 28) fun k5 w6 =>
      NEW w6 (.cells #[(.int .i64 (0 : Int)), (.string (⟨#[]⟩ : ByteArray)), (.string (⟨#[]⟩ : ByteArray)), (.string (⟨#[]⟩ : ByteArray)), (.int .i64 (0 : Int)), (.int .i64 (0 : Int)), (.int .i64 (0 : Int)), (.slice none 0 0)] 29) fun k6 w7 =>
      ST w7 (⟨k5, 0, none⟩ : Addr) 0 [(.int .i64 x40a_0), (.string s40a_1), (.string s40a_2), (.string s40a_3), (.int .i64 x40a_4), (.int .i64 x40a_5), (.int .i64 x40a_6), (.slice A40a_7 n40a_7 c40a_7)] fun w8 =>
      ST w8 (⟨k6, 0, none⟩ : Addr) 0 [(.int .i64 x40b_0), (.string s40b_1), (.string s40b_2), (.string s40b_3), (.int .i64 x40b_4), (.int .i64 x40b_5), (.int .i64 x40b_6), (.slice A40b_7 n40b_7 c40b_7)] fun w9 =>
      ∃ (x44_0 : Int) (s44_1 : ByteArray) (s44_2 : ByteArray) (s44_3 : ByteArray) (x44_4 : Int) (x44_5 : Int) (x44_6 : Int) (A44_7 : Option Addr) (n44_7 : Nat) (c44_7 : Nat), RD w9 (⟨k5, 0, none⟩ : Addr) 0 [(.int .i64 x44_0), (.string s44_1), (.string s44_2), (.string s44_3), (.int .i64 x44_4), (.int .i64 x44_5), (.int .i64 x44_6), (.slice A44_7 n44_7 c44_7)] ∧
      CALL PP 13 [(.pointer p22), (.agg #[(.int .i64 x44_0), (.string s44_1), (.string s44_2), (.string s44_3), (.int .i64 x44_4), (.int .i64 x44_5), (.int .i64 x44_6), (.slice A44_7 n44_7 c44_7)])] w9 fun r45 w10 =>
      ∃ (x45_0 : Int) (x45_1 : Int) (s45_2 : ByteArray) (A45_3 : Option Addr) (n45_3 : Nat) (c45_3 : Nat) (A45_4 : Option Addr) (n45_4 : Nat) (c45_4 : Nat), r45 = (.agg #[(.int .i64 x45_0), (.int .i64 x45_1), (.string s45_2), (.slice A45_3 n45_3 c45_3), (.slice A45_4 n45_4 c45_4)]) ∧
      NEW w10 (.map #[] 0) fun k46 w11 =>
      CALL PP 14 [(.pointer p22)] w11 fun r48 w12 =>
      ∃ (p48 : Option Addr), r48 = (.pointer p48) ∧
      SPLIT (Option.isNone p48) (
        R (.bool false) w12) (
        CALL PP 15 [(.pointer p48)] w12 fun r52 w13 =>
        ∃ (A52 : Option Addr) (n52 : Nat) (c52 : Nat), r52 = (.slice A52 n52 c52) ∧
        ∃ (I_2 : Int → World → Prop) (μ_1 : Int → World → Nat), I_2 (0 : Int) w13 ∧
        ∀ (_j : Nat → Value) (x54 : Int) (w14 : World), I_2 x54 w14 →
        SPLIT (decide (x54 < ((n52 : Nat) : Int))) (
          (0 ≤ x54 ∧ x54 < ((n52 : Nat) : Int)) ∧
          SOMEA A52 fun a56 =>
          ∃ (s57 : ByteArray), World.cell? w14 (Addr.add a56 (Int.toNat x54 * 1)) = some (.string s57) ∧
          CALL PP 16 [(.pointer p48), (.string s57)] w14 fun r61 w15 =>
          ∃ (x61a : Int) (b61b : Bool), r61 = (.tuple #[(.int .i64 x61a), (.bool b61b)]) ∧
          CALL PP 17 [(.pointer p22), (.int .i64 x61a)] w15 fun r67 w16 =>
          ∃ (p67a : Option Addr) (b67b : Bool), r67 = (.tuple #[(.pointer p67a), (.bool b67b)]) ∧
          ∃ I_3 : World → Prop, (
            SPLIT (!b67b) (
              R (.bool false) w16) (
              SPLIT (Option.isNone p67a) (
                R (.bool false) w16) (
                I_3 w16))) ∧
          ∀ (_j : Nat → Value) (w17 : World), I_3 w17 →
          CALL PP 18 [(.pointer p67a)] w17 fun r77 w18 =>
          ∃ (A77 : Option Addr) (n77 : Nat) (c77 : Nat), r77 = (.slice A77 n77 c77) ∧
          ∃ (I_4 : Int → World → Prop) (μ_2 : Int → World → Nat), I_4 (0 : Int) w18 ∧
          ∀ (_j : Nat → Value) (x79 : Int) (w19 : World), I_4 x79 w19 →
          SPLIT (decide (x79 < ((n77 : Nat) : Int))) (
            (0 ≤ x79 ∧ x79 < ((n77 : Nat) : Int)) ∧
            SOMEA A77 fun a81 =>
            ∃ (x82_0 : Int) (x82_1 : Int) (x82_2 : Int), RD w19 (Addr.add a81 (Int.toNat x79 * 3)) 0 [(.int .i64 x82_0), (.int .i64 x82_1), (.int .i64 x82_2)] ∧
            NEW w19 (.cells #[(.int .i64 (0 : Int)), (.int .i64 (0 : Int)), (.int .i64 (0 : Int))] 53) fun k16 w20 =>
            ST w20 (⟨k16, 0, none⟩ : Addr) 0 [(.int .i64 x82_0), (.int .i64 x82_1), (.int .i64 x82_2)] fun w21 =>
            ∃ (x85 : Int), World.cell? w21 (⟨k16, 2, none⟩ : Addr) = some (.int .i64 x85) ∧
            RUN PP (Instr.mapUpdate 41 (.map (some k46)) (.int .i64 x85) (.bool true)) w21 fun _uq w22 =>
            I_4 (IntKind.wrap .i64 (x79 + (1 : Int))) w22 ∧ μ_2 (IntKind.wrap .i64 (x79 + (1 : Int))) w22 < μ_2 x79 w19) (
            I_2 (IntKind.wrap .i64 (x54 + (1 : Int))) w19 ∧ μ_1 (IntKind.wrap .i64 (x54 + (1 : Int))) w19 < μ_1 x54 w14)) (
          CALL PP 19 [(.pointer p22)] w14 fun r89 w15 =>
          ∃ (A89 : Option Addr) (n89 : Nat) (c89 : Nat), r89 = (.slice A89 n89 c89) ∧
          ∃ x93 : Int, (Builtin.len_ #[41] 3 #[(.map (some k46))]).run PP w15 = .ok (.int .i64 x93) w15 ∧
          SPLIT (((n89 : Nat) : Int) != x93) (
            R (.bool false) w15) (
            ∃ (I_3 : Int → World → Prop) (μ_2 : Int → World → Nat), I_3 (0 : Int) w15 ∧
            ∀ (_j : Nat → Value) (x97 : Int) (w16 : World), I_3 x97 w16 →
            SPLIT (decide (x97 < ((n89 : Nat) : Int))) (
              (0 ≤ x97 ∧ x97 < ((n89 : Nat) : Int)) ∧
              SOMEA A89 fun a100 =>
              ∃ (x101 : Int), World.cell? w16 (Addr.add a100 (Int.toNat x97 * 1)) = some (.int .i64 x101) ∧
              ∃ r104 : Value, (Instr.lookup 41 (.map (some k46)) (.int .i64 x101) false).run PP w16 = .ok r104 w16 ∧
              ∃ (b104 : Bool), r104 = (.bool b104) ∧
              SPLIT (!b104) (
                R (.bool false) w16) (
                SPLIT (decide (x97 > (0 : Int))) (
                  (0 ≤ (IntKind.wrap .i64 (x97 - (1 : Int))) ∧ (IntKind.wrap .i64 (x97 - (1 : Int))) < ((n89 : Nat) : Int)) ∧
                  SOMEA A89 fun a113 =>
                  ∃ (x114 : Int), World.cell? w16 (Addr.add a113 (Int.toNat (IntKind.wrap .i64 (x97 - (1 : Int))) * 1)) = some (.int .i64 x114) ∧
                  SPLIT (decide (x114 ≥ x101)) (
                    R (.bool false) w16) (
                    CALL PP 20 [(.pointer p22)] w16 fun r122 w17 =>
                    ∃ (x122 : Int), r122 = (.int .i64 x122) ∧
                    SPLIT (decide (x101 ≥ x122)) (
                      R (.bool false) w17) (
                      I_3 (IntKind.wrap .i64 (x97 + (1 : Int))) w17 ∧ μ_2 (IntKind.wrap .i64 (x97 + (1 : Int))) w17 < μ_2 x97 w16))) (
                  CALL PP 20 [(.pointer p22)] w16 fun r122 w17 =>
                  ∃ (x122 : Int), r122 = (.int .i64 x122) ∧
                  SPLIT (decide (x101 ≥ x122)) (
                    R (.bool false) w17) (
                    I_3 (IntKind.wrap .i64 (x97 + (1 : Int))) w17 ∧ μ_2 (IntKind.wrap .i64 (x97 + (1 : Int))) w17 < μ_2 x97 w16)))) (
              I (IntKind.wrap .i64 (x4 + (1 : Int))) w16 ∧ μ (IntKind.wrap .i64 (x4 + (1 : Int))) w16 < μ x4 w3))))))
noncomputable def A5 : Ann := (.two .leaf (.two .leaf (.two .leaf (.two .leaf (.two (.two .leaf (.one (.loop 85070591730234615865843651857909513716 [(4, .int .i64)] (.cut 8556380160 [] .leaf (.two (.one (.two .leaf (.two .leaf (.two .leaf (.two .leaf (.two .leaf (.two (.two .leaf (.one (.loop 309485009803330670215396356 [(54, .int .i64)] (.two .leaf (.two .leaf (.two (.one (.two .leaf (.two .leaf (.two .leaf (.cut 74377272105196912115716 [] .leaf (.two .leaf (.one (.loop 154138042000865219775102976 [(79, .int .i64)] .leaf)))))))) .leaf)))))) (.two .leaf (.two .leaf (.two .leaf (.one (.loop 85070591571778290837314976670854938628 [(97, .int .i64)] .leaf)))))))))))) .leaf))))) .leaf)))))
noncomputable def C5 : Code := (Tryz.f5.body).getD .skip
theorem e5 (A0 : Option Addr) (n0 : Nat) (c0 : Nat) (w : World) (R : Value → World → Prop) : vcF PP Tryz.f5 C5 A5 [(.slice A0 n0 c0)] w R = S5 A0 n0 c0 w R := by kernel_rfl
theorem c5 {A0 : Option Addr} {n0 : Nat} {c0 : Nat} {w : World} {R : Value → World → Prop} (h : S5 A0 n0 c0 w R) : Calls PP 5 #[(.slice A0 n0 c0)] w (Ret R) :=
  vcF_sound follows_ Tryz.func5 (by kernel_rfl) ((e5 A0 n0 c0 w R).symm ▸ h)
theorem y5 (w : World) {l : List Value} : (callFunc 5 ⟨l⟩).run PP w = .ok (.enter 5 ⟨l⟩) w := callable_ (by kernel_rfl)

/- sealwax/sealwaxlaw19.ModelFinds -/
def S6 (A0 : Option Addr) (n0 : Nat) (c0 : Nat) (s1 : ByteArray) (x2 : Int) (w : World) (R : Value → World → Prop) : Prop :=
  CALL PP 10 [] w fun r24 w1 =>
  ∃ (b24 : Bool), r24 = (.bool b24) ∧
  SPLIT (!b24) (
    R (.bool false) w1) (
    CALL PP 11 [] w1 fun r26 w2 =>
    ∃ (p26 : Option Addr), r26 = (.pointer p26) ∧
    SPLIT (Option.isNone p26) (
      R (.bool false) w2) (
      ∃ I : World → Prop, (
        ∃ (I_1 : Int → World → Prop) (μ : Int → World → Nat), I_1 (0 : Int) w2 ∧
        ∀ (_j : Nat → Value) (x8 : Int) (w3 : World), I_1 x8 w3 →
        ∃ I_2 : World → Prop, (
          SPLIT (decide (x8 < ((n0 : Nat) : Int))) (
            SPLIT (decide (x8 < (20 : Int))) (
              I_2 w3) (
              I w3)) (
            I w3)) ∧
        ∀ (_j : Nat → Value) (w4 : World), I_2 w4 →
        (0 ≤ x8 ∧ x8 < ((n0 : Nat) : Int)) ∧
        SOMEA A0 fun a42 =>
        ∃ (x43_0 : Int) (s43_1 : ByteArray) (s43_2 : ByteArray) (s43_3 : ByteArray) (x43_4 : Int) (x43_5 : Int) (x43_6 : Int) (A43_7 : Option Addr) (n43_7 : Nat) (c43_7 : Nat), RD w4 (Addr.add a42 (Int.toNat x8 * 8)) 0 [(.int .i64 x43_0), (.string s43_1), (.string s43_2), (.string s43_3), (.int .i64 x43_4), (.int .i64 x43_5), (.int .i64 x43_6), (.slice A43_7 n43_7 c43_7)] ∧
        CALL PP 12 [(.agg #[(.int .i64 x43_0), (.string s43_1), (.string s43_2), (.string s43_3), (.int .i64 x43_4), (.int .i64 x43_5), (.int .i64 x43_6), (.slice A43_7 n43_7 c43_7)])] w4 fun r44 w5 =>
        ∃ (x44a_0 : Int) (s44a_1 : ByteArray) (s44a_2 : ByteArray) (s44a_3 : ByteArray) (x44a_4 : Int) (x44a_5 : Int) (x44a_6 : Int) (A44a_7 : Option Addr) (n44a_7 : Nat) (c44a_7 : Nat) (x44b_0 : Int) (s44b_1 : ByteArray) (s44b_2 : ByteArray) (s44b_3 : ByteArray) (x44b_4 : Int) (x44b_5 : Int) (x44b_6 : Int) (A44b_7 : Option Addr) (n44b_7 : Nat) (c44b_7 : Nat), r44 = (.tuple #[(.agg #[(.int .i64 x44a_0), (.string s44a_1), (.string s44a_2), (.string s44a_3), (.int .i64 x44a_4), (.int .i64 x44a_5), (.int .i64 x44a_6), (.slice A44a_7 n44a_7 c44a_7)]), (.agg #[(.int .i64 x44b_0), (.string s44b_1), (.string s44b_2), (.string s44b_3), (.int .i64 x44b_4), (.int .i64 x44b_5), (.int .i64 x44b_6), (.slice A44b_7 n44b_7 c44b_7)])]) ∧
        NEW w5 (.cells #[(.int .i64 (0 : Int)), (.string (⟨#[]⟩ : ByteArray)), (.string (⟨#[]⟩ : ByteArray)), (.string (⟨#[]⟩ : ByteArray)), (.int .i64 (0 : Int)), (.int .i64 (0 : Int)), (.int .i64 (0 : Int)), (.slice none 0 0)] 28) fun k9 w6 =>
        NEW w6 (.cells #[(.int .i64 (0 : Int)), (.string (⟨#[]⟩ : ByteArray)), (.string (⟨#[]⟩ : ByteArray)), (.string (⟨#[]⟩ : ByteArray)), (.int .i64 (0 : Int)), (.int .i64 (0 : Int)), (.int .i64 (0 : Int)), (.slice none 0 0)] 29) fun k10 w7 =>
        ST w7 (⟨k9, 0, none⟩ : Addr) 0 [(.int .i64 x44a_0), (.string s44a_1), (.string s44a_2), (.string s44a_3), (.int .i64 x44a_4), (.int .i64 x44a_5), (.int .i64 x44a_6), (.slice A44a_7 n44a_7 c44a_7)] fun w8 =>
        ST w8 (⟨k10, 0, none⟩ : Addr) 0 [(.int .i64 x44b_0), (.string s44b_1), (.string s44b_2), (.string s44b_3), (.int .i64 x44b_4), (.int .i64 x44b_5), (.int .i64 x44b_6), (.slice A44b_7 n44b_7 c44b_7)] fun w9 =>
        ∃ (x48_0 : Int) (s48_1 : ByteArray) (s48_2 : ByteArray) (s48_3 : ByteArray) (x48_4 : Int) (x48_5 : Int) (x48_6 : Int) (A48_7 : Option Addr) (n48_7 : Nat) (c48_7 : Nat), RD w9 (⟨k9, 0, none⟩ : Addr) 0 [(.int .i64 x48_0), (.string s48_1), (.string s48_2), (.string s48_3), (.int .i64 x48_4), (.int .i64 x48_5), (.int .i64 x48_6), (.slice A48_7 n48_7 c48_7)] ∧
        CALL PP 13 [(.pointer p26), (.agg #[(.int .i64 x48_0), (.string s48_1), (.string s48_2), (.string s48_3), (.int .i64 x48_4), (.int .i64 x48_5), (.int .i64 x48_6), (.slice A48_7 n48_7 c48_7)])] w9 fun r49 w10 =>
        ∃ (x49_0 : Int) (x49_1 : Int) (s49_2 : ByteArray) (A49_3 : Option Addr) (n49_3 : Nat) (c49_3 : Nat) (A49_4 : Option Addr) (n49_4 : Nat) (c49_4 : Nat), r49 = (.agg #[(.int .i64 x49_0), (.int .i64 x49_1), (.string s49_2), (.slice A49_3 n49_3 c49_3), (.slice A49_4 n49_4 c49_4)]) ∧
        I_1 (IntKind.wrap .i64 (x8 + (1 : Int))) w10 ∧ μ (IntKind.wrap .i64 (x8 + (1 : Int))) w10 < μ x8 w3) ∧
      ∀ (_j : Nat → Value) (w3 : World), I w3 →
      CALL PP 21 [(.string s1), (.int .i64 (20 : Int))] w3 fun r51 w4 =>
      ∃ (s51 : ByteArray), r51 = (.string s51) ∧
      NEW w4 (.cells #[(.string s51)] 9) fun k56 w5 =>
      CALL PP 13 [(.pointer p26), (.agg #[(.int .i64 (12 : Int)), (.string (⟨#[]⟩ : ByteArray)), (.string (⟨#[]⟩ : ByteArray)), (.string (⟨#[]⟩ : ByteArray)), (.int .i64 (0 : Int)), (.int .i64 (IntKind.wrap .i64 (((BitVec.ofInt 64 x2) &&& (BitVec.ofInt 64 (31 : Int))).toNat : Int))), (.int .i64 (0 : Int)), (.slice (some ⟨k56, 0, none⟩) 1 1)])] w5 fun r59 w6 =>
      ∃ (x59_0 : Int) (x59_1 : Int) (s59_2 : ByteArray) (A59_3 : Option Addr) (n59_3 : Nat) (c59_3 : Nat) (A59_4 : Option Addr) (n59_4 : Nat) (c59_4 : Nat), r59 = (.agg #[(.int .i64 x59_0), (.int .i64 x59_1), (.string s59_2), (.slice A59_3 n59_3 c59_3), (.slice A59_4 n59_4 c59_4)]) ∧
      NEW w6 (.cells #[(.int .i64 (0 : Int)), (.int .i64 (0 : Int)), (.string (⟨#[]⟩ : ByteArray)), (.slice none 0 0), (.slice none 0 0)] 35) fun k11 w7 =>
      ST w7 (⟨k11, 0, none⟩ : Addr) 0 [(.int .i64 x59_0), (.int .i64 x59_1), (.string s59_2), (.slice A59_3 n59_3 c59_3), (.slice A59_4 n59_4 c59_4)] fun w8 =>
      CALL PP 22 [(.string s51)] w8 fun r61 w9 =>
      ∃ (b61 : Bool), r61 = (.bool b61) ∧
      SPLIT (!b61) (
        ∃ (x64 : Int), World.cell? w9 (⟨k11, 0, none⟩ : Addr) = some (.int .i64 x64) ∧
        R (.bool (x64 == (4 : Int))) w9) (
        CALL PP 14 [(.pointer p26)] w9 fun r67 w10 =>
        ∃ (p67 : Option Addr), r67 = (.pointer p67) ∧
        ∃ I_1 : World → Prop, (
          SPLIT (Option.isNone p67) (
            R (.bool false) w10) (
            ∃ (x72 : Int), World.cell? w10 (⟨k11, 0, none⟩ : Addr) = some (.int .i64 x72) ∧
            SPLIT (x72 != (0 : Int)) (
              R (.bool false) w10) (
              ∃ (x77 : Int), World.cell? w10 (⟨k11, 1, none⟩ : Addr) = some (.int .i64 x77) ∧
              ∃ (A79 : Option Addr) (n79 : Nat) (c79 : Nat), World.cell? w10 (⟨k11, 4, none⟩ : Addr) = some (.slice A79 n79 c79) ∧
              SPLIT (x77 != ((n79 : Nat) : Int)) (
                R (.bool false) w10) (
                I_1 w10)))) ∧
        ∀ (_j : Nat → Value) (w11 : World), I_1 w11 →
        CALL PP 15 [(.pointer p67)] w11 fun r84 w12 =>
        ∃ (A84 : Option Addr) (n84 : Nat) (c84 : Nat), r84 = (.slice A84 n84 c84) ∧
        ∃ (I_2 : Int → Int → World → Prop) (μ : Int → Int → World → Nat), I_2 (0 : Int) (0 : Int) w12 ∧
        ∀ (_j : Nat → Value) (x13 : Int) (x86 : Int) (w13 : World), I_2 x13 x86 w13 →
        SPLIT (decide (x86 < ((n84 : Nat) : Int))) (
          (0 ≤ x86 ∧ x86 < ((n84 : Nat) : Int)) ∧
          SOMEA A84 fun a88 =>
          ∃ (s89 : ByteArray), World.cell? w13 (Addr.add a88 (Int.toNat x86 * 1)) = some (.string s89) ∧
          CALL PP 16 [(.pointer p67), (.string s89)] w13 fun r93 w14 =>
          ∃ (x93a : Int) (b93b : Bool), r93 = (.tuple #[(.int .i64 x93a), (.bool b93b)]) ∧
          CALL PP 17 [(.pointer p26), (.int .i64 x93a)] w14 fun r99 w15 =>
          ∃ (p99a : Option Addr) (b99b : Bool), r99 = (.tuple #[(.pointer p99a), (.bool b99b)]) ∧
          ∃ I_3 : World → Prop, (
            SPLIT (!b99b) (
              R (.bool false) w15) (
              SPLIT (Option.isNone p99a) (
                R (.bool false) w15) (
                I_3 w15))) ∧
          ∀ (_j : Nat → Value) (w16 : World), I_3 w16 →
          CALL PP 18 [(.pointer p99a)] w16 fun r109 w17 =>
          ∃ (A109 : Option Addr) (n109 : Nat) (c109 : Nat), r109 = (.slice A109 n109 c109) ∧
          ∃ (I_4 : Int → Int → World → Prop) (μ_1 : Int → Int → World → Nat), I_4 x13 (0 : Int) w17 ∧
          ∀ (_j : Nat → Value) (x13_1 : Int) (x111 : Int) (w18 : World), I_4 x13_1 x111 w18 →
          SPLIT (decide (x111 < ((n109 : Nat) : Int))) (
            (0 ≤ x111 ∧ x111 < ((n109 : Nat) : Int)) ∧
            SOMEA A109 fun a113 =>
            ∃ (x114_0 : Int) (x114_1 : Int) (x114_2 : Int), RD w18 (Addr.add a113 (Int.toNat x111 * 3)) 0 [(.int .i64 x114_0), (.int .i64 x114_1), (.int .i64 x114_2)] ∧
            NEW w18 (.cells #[(.int .i64 (0 : Int)), (.int .i64 (0 : Int)), (.int .i64 (0 : Int))] 53) fun k21 w19 =>
            ST w19 (⟨k21, 0, none⟩ : Addr) 0 [(.int .i64 x114_0), (.int .i64 x114_1), (.int .i64 x114_2)] fun w20 =>
            ∃ (x118 : Int), World.cell? w20 (⟨k21, 2, none⟩ : Addr) = some (.int .i64 x118) ∧
            CALL PP 23 [(.pointer p26), (.int .i64 x118)] w20 fun r119 w21 =>
            ∃ (s119a : ByteArray) (b119b : Bool), r119 = (.tuple #[(.string s119a), (.bool b119b)]) ∧
            ∃ I_5 : World → Prop, (
              NEW w21 (.cells #[(.string s51)] 9) fun k124 w22 =>
              CALL PP 24 [(.string s119a), (.slice (some ⟨k124, 0, none⟩) 1 1)] w22 fun r125 w23 =>
              ∃ (b125 : Bool), r125 = (.bool b125) ∧
              SPLIT (!b125) (
                I_4 x13_1 (IntKind.wrap .i64 (x111 + (1 : Int))) w23 ∧ μ_1 x13_1 (IntKind.wrap .i64 (x111 + (1 : Int))) w23 < μ_1 x13_1 x111 w18) (
                ∃ (x129 : Int), World.cell? w23 (⟨k21, 1, none⟩ : Addr) = some (.int .i64 x129) ∧
                SPLIT ((IntKind.wrap .i64 (((BitVec.ofInt 64 x129) &&& (BitVec.ofInt 64 (IntKind.wrap .i64 (((BitVec.ofInt 64 x2) &&& (BitVec.ofInt 64 (31 : Int))).toNat : Int)))).toNat : Int)) != (IntKind.wrap .i64 (((BitVec.ofInt 64 x2) &&& (BitVec.ofInt 64 (31 : Int))).toNat : Int))) (
                  I_4 x13_1 (IntKind.wrap .i64 (x111 + (1 : Int))) w23 ∧ μ_1 x13_1 (IntKind.wrap .i64 (x111 + (1 : Int))) w23 < μ_1 x13_1 x111 w18) (
                  I_5 w23))) ∧
            ∀ (_j : Nat → Value) (w22 : World), I_5 w22 →
            DRAW w22 fun w23 =>
            ∃ (A137 : Option Addr) (n137 : Nat) (c137 : Nat), World.cell? w23 (⟨k11, 4, none⟩ : Addr) = some (.slice A137 n137 c137) ∧
            SPLIT (decide (x13_1 ≥ ((n137 : Nat) : Int))) (
              R (.bool false) w23) (
              ∃ (A142 : Option Addr) (n142 : Nat) (c142 : Nat), World.cell? w23 (⟨k11, 4, none⟩ : Addr) = some (.slice A142 n142 c142) ∧
              (0 ≤ x13_1 ∧ x13_1 < ((n142 : Nat) : Int)) ∧
              SOMEA A142 fun a144 =>
              ∃ (s145_0 : ByteArray) (x145_1 : Int) (x145_2 : Int), RD w23 (Addr.add a144 (Int.toNat x13_1 * 3)) 0 [(.string s145_0), (.int .i64 x145_1), (.int .i64 x145_2)] ∧
              ∃ (x148 : Int), World.cell? w23 (⟨k21, 0, none⟩ : Addr) = some (.int .i64 x148) ∧
              ∃ (x150 : Int), World.cell? w23 (⟨k21, 1, none⟩ : Addr) = some (.int .i64 x150) ∧
              ∃ b152 : Bool, (do eqGuard .neq 39 (.tmp 145) (.tmp 151) (.agg #[(.string s145_0), (.int .i64 x145_1), (.int .i64 x145_2)]) (.agg #[(.string s89), (.int .i64 x148), (.int .i64 x150)]); binOp .neq 39 (.agg #[(.string s145_0), (.int .i64 x145_1), (.int .i64 x145_2)]) (.agg #[(.string s89), (.int .i64 x148), (.int .i64 x150)]) : Sem Value).run PP w23 = .ok (.bool b152) w23 ∧
              SPLIT b152 (
                R (.bool false) w23) (
                I_4 (IntKind.wrap .i64 (x13_1 + (1 : Int))) (IntKind.wrap .i64 (x111 + (1 : Int))) w23 ∧ μ_1 (IntKind.wrap .i64 (x13_1 + (1 : Int))) (IntKind.wrap .i64 (x111 + (1 : Int))) w23 < μ_1 x13_1 x111 w18))) (
            I_2 x13_1 (IntKind.wrap .i64 (x86 + (1 : Int))) w18 ∧ μ x13_1 (IntKind.wrap .i64 (x86 + (1 : Int))) w18 < μ x13 x86 w13)) (
          ∃ (A160 : Option Addr) (n160 : Nat) (c160 : Nat), World.cell? w13 (⟨k11, 4, none⟩ : Addr) = some (.slice A160 n160 c160) ∧
          R (.bool (x13 == ((n160 : Nat) : Int))) w13))))
noncomputable def A6 : Ann := (.two .leaf (.two .leaf (.two .leaf (.two .leaf (.cut 1125899369973504 [] (.two .leaf (.one (.loop 1125899369973504 [(8, .int .i64)] (.cut 136902082560 [] .leaf .leaf)))) (.two .leaf (.two .leaf (.two .leaf (.two .leaf (.two .leaf (.cut 9671111409011854044823616 [] .leaf (.two .leaf (.two (.two .leaf (.one (.loop 365375409332725729550843836926615418646817644608 [(13, .int .i64), (86, .int .i64)] (.two .leaf (.two .leaf (.two (.one (.two .leaf (.two .leaf (.two .leaf (.cut 319447951257513809177169207754816 [] .leaf (.two .leaf (.one (.loop 182687704666360268627031336675721112208841646144 [(13, .int .i64), (111, .int .i64)] (.two .leaf (.two .leaf (.two (.one (.two .leaf (.two .leaf (.cut 43550826053896983659820334523025209688064 [] .leaf .leaf)))) .leaf))))))))))) .leaf)))))) .leaf)))))))))))))
noncomputable def C6 : Code := (Tryz.f6.body).getD .skip
theorem e6 (A0 : Option Addr) (n0 : Nat) (c0 : Nat) (s1 : ByteArray) (x2 : Int) (w : World) (R : Value → World → Prop) : vcF PP Tryz.f6 C6 A6 [(.slice A0 n0 c0), (.string s1), (.int .i64 x2)] w R = S6 A0 n0 c0 s1 x2 w R := by kernel_rfl
theorem c6 {A0 : Option Addr} {n0 : Nat} {c0 : Nat} {s1 : ByteArray} {x2 : Int} {w : World} {R : Value → World → Prop} (h : S6 A0 n0 c0 s1 x2 w R) : Calls PP 6 #[(.slice A0 n0 c0), (.string s1), (.int .i64 x2)] w (Ret R) :=
  vcF_sound follows_ Tryz.func6 (by kernel_rfl) ((e6 A0 n0 c0 s1 x2 w R).symm ▸ h)
theorem y6 (w : World) {l : List Value} : (callFunc 6 ⟨l⟩).run PP w = .ok (.enter 6 ⟨l⟩) w := callable_ (by kernel_rfl)

end Go.SW
