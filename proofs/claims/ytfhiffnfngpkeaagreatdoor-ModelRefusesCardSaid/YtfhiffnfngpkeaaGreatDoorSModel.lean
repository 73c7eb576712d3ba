/- PRINTED by wip/tools/gen.py: the functions' conditions in readable form, each with the kernel's word that it is the computed one. -/
import Derived.Test.YtfhiffnfngpkeaaGreatDoorVcSeat
set_option linter.unusedVariables false
namespace Go.SW
open Go Go.Proofs
set_option maxRecDepth 100000
/- sealwax/model.New -/
def S11  (w : World) (R : Value → World → Prop) : Prop :=
 CALL PP 30 [] w fun r1 w1 =>
 ∃ (p1 : OA), r1 = (.pointer p1) ∧
 NEW w1 (.map #[] 0) fun k2 w2 =>
 NEW w2 (.map #[] 0) fun k3 w3 =>
 NEW w3 (.cells #[(.pointer p1), (.map (some k2)), (.map (some k3)), (.int .i64 1)] 82) fun k5 w4 =>
 R (.pointer (some ⟨k5, 0, none⟩)) w4
noncomputable def A11 : Ann := .leaf
noncomputable def C11 : Code := (Tryz.f11.body).getD .skip
theorem c11 {w : World} {R : Value → World → Prop} (h : S11 w R) : Calls PP 11 #[] w (Ret R) :=
 vcF_sound (c := C11) (ann := A11) follows_ Tryz.func11 (by kernel_rfl) (cast (by kernel_rfl) h)

/- (*sealwax/model.Model).Do -/
def S13 (k0 : Nat) (x1_0 : Int) (s1_1 : ByteArray) (s1_2 : ByteArray) (s1_3 : ByteArray) (x1_4 : Int) (x1_5 : Int) (x1_6 : Int) (A1_7 : OA) (n1_7 : Nat) (c1_7 : Nat) (w : World) (R : Value → World → Prop) : Prop :=
 NEW w (.cells #[(.int .i64 x1_0), (.string s1_1), (.string s1_2), (.string s1_3), (.int .i64 x1_4), (.int .i64 x1_5), (.int .i64 x1_6), (.slice A1_7 n1_7 c1_7)] 28) fun k3 w1 =>
 NEW w1 (.cells #[(.int .i64 0), (.int .i64 0), (.string ⟨#[]⟩), (.slice none 0 0), (.slice none 0 0)] 35) fun k4 w2 =>
 ∃ (x6 : Int), w2.cell? ⟨k3, 0, none⟩ = some (.int .i64 x6) ∧
 ∃ I : Bool → World → Prop, (
 SPLIT (x6 == (1 : Int)) (
 I true w2) (
 SPLIT (x6 == (2 : Int)) (
 I true w2) (
 I (x6 == (3 : Int)) w2))) ∧
 ∀ (_j : Nat → Value) (b7 : Bool) (w3 : World), I b7 w3 →
 SPLIT b7 (
 ∃ (x12_0 : Int) (s12_1 : ByteArray) (s12_2 : ByteArray) (s12_3 : ByteArray) (x12_4 : Int) (x12_5 : Int) (x12_6 : Int) (A12_7 : OA) (n12_7 : Nat) (c12_7 : Nat), RD w3 ⟨k3, 0, none⟩ 0 [(.int .i64 x12_0), (.string s12_1), (.string s12_2), (.string s12_3), (.int .i64 x12_4), (.int .i64 x12_5), (.int .i64 x12_6), (.slice A12_7 n12_7 c12_7)] ∧
 CALL PP 32 [(.pointer (some ⟨k0, 0, none⟩)), (.agg #[(.int .i64 x12_0), (.string s12_1), (.string s12_2), (.string s12_3), (.int .i64 x12_4), (.int .i64 x12_5), (.int .i64 x12_6), (.slice A12_7 n12_7 c12_7)])] w3 fun r13 w4 =>
 ∃ (x13_0 : Int) (x13_1 : Int) (s13_2 : ByteArray) (A13_3 : OA) (n13_3 : Nat) (c13_3 : Nat) (A13_4 : OA) (n13_4 : Nat) (c13_4 : Nat), r13 = (.agg #[(.int .i64 x13_0), (.int .i64 x13_1), (.string s13_2), (.slice A13_3 n13_3 c13_3), (.slice A13_4 n13_4 c13_4)]) ∧
 ST w4 ⟨k4, 0, none⟩ 0 [(.int .i64 x13_0), (.int .i64 x13_1), (.string s13_2), (.slice A13_3 n13_3 c13_3), (.slice A13_4 n13_4 c13_4)] fun w5 =>
 ∃ (x4r_0 : Int) (x4r_1 : Int) (s4r_2 : ByteArray) (A4r_3 : OA) (n4r_3 : Nat) (c4r_3 : Nat) (A4r_4 : OA) (n4r_4 : Nat) (c4r_4 : Nat), RD w5 ⟨k4, 0, none⟩ 0 [(.int .i64 x4r_0), (.int .i64 x4r_1), (.string s4r_2), (.slice A4r_3 n4r_3 c4r_3), (.slice A4r_4 n4r_4 c4r_4)] ∧
 R (.agg #[(.int .i64 x4r_0), (.int .i64 x4r_1), (.string s4r_2), (.slice A4r_3 n4r_3 c4r_3), (.slice A4r_4 n4r_4 c4r_4)]) w5) (
 SPLIT (x6 == (4 : Int)) (
 ∃ (p19 : OA), w3.cell? ⟨k0, 0, none⟩ = some (.pointer p19) ∧
 CALL PP 15 [(.pointer p19)] w3 fun r20 w4 =>
 ∃ (A20 : OA) (n20 : Nat) (c20 : Nat), r20 = (.slice A20 n20 c20) ∧
 ST w4 ⟨k4, 0, none⟩ 0 [(.int .i64 0), (.int .i64 0), (.string ⟨#[]⟩), (.slice A20 n20 c20), (.slice none 0 0)] fun w5 =>
 ∃ (x4r_0 : Int) (x4r_1 : Int) (s4r_2 : ByteArray) (A4r_3 : OA) (n4r_3 : Nat) (c4r_3 : Nat) (A4r_4 : OA) (n4r_4 : Nat) (c4r_4 : Nat), RD w5 ⟨k4, 0, none⟩ 0 [(.int .i64 x4r_0), (.int .i64 x4r_1), (.string s4r_2), (.slice A4r_3 n4r_3 c4r_3), (.slice A4r_4 n4r_4 c4r_4)] ∧
 R (.agg #[(.int .i64 x4r_0), (.int .i64 x4r_1), (.string s4r_2), (.slice A4r_3 n4r_3 c4r_3), (.slice A4r_4 n4r_4 c4r_4)]) w5) (
 SPLIT (x6 == (12 : Int)) (
 ∃ (x25_0 : Int) (s25_1 : ByteArray) (s25_2 : ByteArray) (s25_3 : ByteArray) (x25_4 : Int) (x25_5 : Int) (x25_6 : Int) (A25_7 : OA) (n25_7 : Nat) (c25_7 : Nat), RD w3 ⟨k3, 0, none⟩ 0 [(.int .i64 x25_0), (.string s25_1), (.string s25_2), (.string s25_3), (.int .i64 x25_4), (.int .i64 x25_5), (.int .i64 x25_6), (.slice A25_7 n25_7 c25_7)] ∧
 CALL PP 33 [(.pointer (some ⟨k0, 0, none⟩)), (.agg #[(.int .i64 x25_0), (.string s25_1), (.string s25_2), (.string s25_3), (.int .i64 x25_4), (.int .i64 x25_5), (.int .i64 x25_6), (.slice A25_7 n25_7 c25_7)])] w3 fun r26 w4 =>
 ∃ (x26_0 : Int) (x26_1 : Int) (s26_2 : ByteArray) (A26_3 : OA) (n26_3 : Nat) (c26_3 : Nat) (A26_4 : OA) (n26_4 : Nat) (c26_4 : Nat), r26 = (.agg #[(.int .i64 x26_0), (.int .i64 x26_1), (.string s26_2), (.slice A26_3 n26_3 c26_3), (.slice A26_4 n26_4 c26_4)]) ∧
 ST w4 ⟨k4, 0, none⟩ 0 [(.int .i64 x26_0), (.int .i64 x26_1), (.string s26_2), (.slice A26_3 n26_3 c26_3), (.slice A26_4 n26_4 c26_4)] fun w5 =>
 ∃ (x4r_0 : Int) (x4r_1 : Int) (s4r_2 : ByteArray) (A4r_3 : OA) (n4r_3 : Nat) (c4r_3 : Nat) (A4r_4 : OA) (n4r_4 : Nat) (c4r_4 : Nat), RD w5 ⟨k4, 0, none⟩ 0 [(.int .i64 x4r_0), (.int .i64 x4r_1), (.string s4r_2), (.slice A4r_3 n4r_3 c4r_3), (.slice A4r_4 n4r_4 c4r_4)] ∧
 R (.agg #[(.int .i64 x4r_0), (.int .i64 x4r_1), (.string s4r_2), (.slice A4r_3 n4r_3 c4r_3), (.slice A4r_4 n4r_4 c4r_4)]) w5) (
 SPLIT (x6 == (13 : Int)) (
 ST w3 ⟨k4, 0, none⟩ 0 [(.int .i64 0), (.int .i64 0), (.string ⟨#[]⟩), (.slice none 0 0), (.slice none 0 0)] fun w4 =>
 ∃ (x4r_0 : Int) (x4r_1 : Int) (s4r_2 : ByteArray) (A4r_3 : OA) (n4r_3 : Nat) (c4r_3 : Nat) (A4r_4 : OA) (n4r_4 : Nat) (c4r_4 : Nat), RD w4 ⟨k4, 0, none⟩ 0 [(.int .i64 x4r_0), (.int .i64 x4r_1), (.string s4r_2), (.slice A4r_3 n4r_3 c4r_3), (.slice A4r_4 n4r_4 c4r_4)] ∧
 R (.agg #[(.int .i64 x4r_0), (.int .i64 x4r_1), (.string s4r_2), (.slice A4r_3 n4r_3 c4r_3), (.slice A4r_4 n4r_4 c4r_4)]) w4) (
 SPLIT (x6 == (5 : Int)) (
 ∃ (x39_0 : Int) (s39_1 : ByteArray) (s39_2 : ByteArray) (s39_3 : ByteArray) (x39_4 : Int) (x39_5 : Int) (x39_6 : Int) (A39_7 : OA) (n39_7 : Nat) (c39_7 : Nat), RD w3 ⟨k3, 0, none⟩ 0 [(.int .i64 x39_0), (.string s39_1), (.string s39_2), (.string s39_3), (.int .i64 x39_4), (.int .i64 x39_5), (.int .i64 x39_6), (.slice A39_7 n39_7 c39_7)] ∧
 CALL PP 34 [(.pointer (some ⟨k0, 0, none⟩)), (.agg #[(.int .i64 x39_0), (.string s39_1), (.string s39_2), (.string s39_3), (.int .i64 x39_4), (.int .i64 x39_5), (.int .i64 x39_6), (.slice A39_7 n39_7 c39_7)])] w3 fun r40 w4 =>
 ∃ (x40_0 : Int) (x40_1 : Int) (s40_2 : ByteArray) (A40_3 : OA) (n40_3 : Nat) (c40_3 : Nat) (A40_4 : OA) (n40_4 : Nat) (c40_4 : Nat), r40 = (.agg #[(.int .i64 x40_0), (.int .i64 x40_1), (.string s40_2), (.slice A40_3 n40_3 c40_3), (.slice A40_4 n40_4 c40_4)]) ∧
 ST w4 ⟨k4, 0, none⟩ 0 [(.int .i64 x40_0), (.int .i64 x40_1), (.string s40_2), (.slice A40_3 n40_3 c40_3), (.slice A40_4 n40_4 c40_4)] fun w5 =>
 ∃ (x4r_0 : Int) (x4r_1 : Int) (s4r_2 : ByteArray) (A4r_3 : OA) (n4r_3 : Nat) (c4r_3 : Nat) (A4r_4 : OA) (n4r_4 : Nat) (c4r_4 : Nat), RD w5 ⟨k4, 0, none⟩ 0 [(.int .i64 x4r_0), (.int .i64 x4r_1), (.string s4r_2), (.slice A4r_3 n4r_3 c4r_3), (.slice A4r_4 n4r_4 c4r_4)] ∧
 R (.agg #[(.int .i64 x4r_0), (.int .i64 x4r_1), (.string s4r_2), (.slice A4r_3 n4r_3 c4r_3), (.slice A4r_4 n4r_4 c4r_4)]) w5) (
 SPLIT (x6 == (6 : Int)) (
 ∃ (x39_0 : Int) (s39_1 : ByteArray) (s39_2 : ByteArray) (s39_3 : ByteArray) (x39_4 : Int) (x39_5 : Int) (x39_6 : Int) (A39_7 : OA) (n39_7 : Nat) (c39_7 : Nat), RD w3 ⟨k3, 0, none⟩ 0 [(.int .i64 x39_0), (.string s39_1), (.string s39_2), (.string s39_3), (.int .i64 x39_4), (.int .i64 x39_5), (.int .i64 x39_6), (.slice A39_7 n39_7 c39_7)] ∧
 CALL PP 34 [(.pointer (some ⟨k0, 0, none⟩)), (.agg #[(.int .i64 x39_0), (.string s39_1), (.string s39_2), (.string s39_3), (.int .i64 x39_4), (.int .i64 x39_5), (.int .i64 x39_6), (.slice A39_7 n39_7 c39_7)])] w3 fun r40 w4 =>
 ∃ (x40_0 : Int) (x40_1 : Int) (s40_2 : ByteArray) (A40_3 : OA) (n40_3 : Nat) (c40_3 : Nat) (A40_4 : OA) (n40_4 : Nat) (c40_4 : Nat), r40 = (.agg #[(.int .i64 x40_0), (.int .i64 x40_1), (.string s40_2), (.slice A40_3 n40_3 c40_3), (.slice A40_4 n40_4 c40_4)]) ∧
 ST w4 ⟨k4, 0, none⟩ 0 [(.int .i64 x40_0), (.int .i64 x40_1), (.string s40_2), (.slice A40_3 n40_3 c40_3), (.slice A40_4 n40_4 c40_4)] fun w5 =>
 ∃ (x4r_0 : Int) (x4r_1 : Int) (s4r_2 : ByteArray) (A4r_3 : OA) (n4r_3 : Nat) (c4r_3 : Nat) (A4r_4 : OA) (n4r_4 : Nat) (c4r_4 : Nat), RD w5 ⟨k4, 0, none⟩ 0 [(.int .i64 x4r_0), (.int .i64 x4r_1), (.string s4r_2), (.slice A4r_3 n4r_3 c4r_3), (.slice A4r_4 n4r_4 c4r_4)] ∧
 R (.agg #[(.int .i64 x4r_0), (.int .i64 x4r_1), (.string s4r_2), (.slice A4r_3 n4r_3 c4r_3), (.slice A4r_4 n4r_4 c4r_4)]) w5) (
 SPLIT (x6 == (7 : Int)) (
 ∃ (x39_0 : Int) (s39_1 : ByteArray) (s39_2 : ByteArray) (s39_3 : ByteArray) (x39_4 : Int) (x39_5 : Int) (x39_6 : Int) (A39_7 : OA) (n39_7 : Nat) (c39_7 : Nat), RD w3 ⟨k3, 0, none⟩ 0 [(.int .i64 x39_0), (.string s39_1), (.string s39_2), (.string s39_3), (.int .i64 x39_4), (.int .i64 x39_5), (.int .i64 x39_6), (.slice A39_7 n39_7 c39_7)] ∧
 CALL PP 34 [(.pointer (some ⟨k0, 0, none⟩)), (.agg #[(.int .i64 x39_0), (.string s39_1), (.string s39_2), (.string s39_3), (.int .i64 x39_4), (.int .i64 x39_5), (.int .i64 x39_6), (.slice A39_7 n39_7 c39_7)])] w3 fun r40 w4 =>
 ∃ (x40_0 : Int) (x40_1 : Int) (s40_2 : ByteArray) (A40_3 : OA) (n40_3 : Nat) (c40_3 : Nat) (A40_4 : OA) (n40_4 : Nat) (c40_4 : Nat), r40 = (.agg #[(.int .i64 x40_0), (.int .i64 x40_1), (.string s40_2), (.slice A40_3 n40_3 c40_3), (.slice A40_4 n40_4 c40_4)]) ∧
 ST w4 ⟨k4, 0, none⟩ 0 [(.int .i64 x40_0), (.int .i64 x40_1), (.string s40_2), (.slice A40_3 n40_3 c40_3), (.slice A40_4 n40_4 c40_4)] fun w5 =>
 ∃ (x4r_0 : Int) (x4r_1 : Int) (s4r_2 : ByteArray) (A4r_3 : OA) (n4r_3 : Nat) (c4r_3 : Nat) (A4r_4 : OA) (n4r_4 : Nat) (c4r_4 : Nat), RD w5 ⟨k4, 0, none⟩ 0 [(.int .i64 x4r_0), (.int .i64 x4r_1), (.string s4r_2), (.slice A4r_3 n4r_3 c4r_3), (.slice A4r_4 n4r_4 c4r_4)] ∧
 R (.agg #[(.int .i64 x4r_0), (.int .i64 x4r_1), (.string s4r_2), (.slice A4r_3 n4r_3 c4r_3), (.slice A4r_4 n4r_4 c4r_4)]) w5) (
 SPLIT (x6 == (8 : Int)) (
 ∃ (x39_0 : Int) (s39_1 : ByteArray) (s39_2 : ByteArray) (s39_3 : ByteArray) (x39_4 : Int) (x39_5 : Int) (x39_6 : Int) (A39_7 : OA) (n39_7 : Nat) (c39_7 : Nat), RD w3 ⟨k3, 0, none⟩ 0 [(.int .i64 x39_0), (.string s39_1), (.string s39_2), (.string s39_3), (.int .i64 x39_4), (.int .i64 x39_5), (.int .i64 x39_6), (.slice A39_7 n39_7 c39_7)] ∧
 CALL PP 34 [(.pointer (some ⟨k0, 0, none⟩)), (.agg #[(.int .i64 x39_0), (.string s39_1), (.string s39_2), (.string s39_3), (.int .i64 x39_4), (.int .i64 x39_5), (.int .i64 x39_6), (.slice A39_7 n39_7 c39_7)])] w3 fun r40 w4 =>
 ∃ (x40_0 : Int) (x40_1 : Int) (s40_2 : ByteArray) (A40_3 : OA) (n40_3 : Nat) (c40_3 : Nat) (A40_4 : OA) (n40_4 : Nat) (c40_4 : Nat), r40 = (.agg #[(.int .i64 x40_0), (.int .i64 x40_1), (.string s40_2), (.slice A40_3 n40_3 c40_3), (.slice A40_4 n40_4 c40_4)]) ∧
 ST w4 ⟨k4, 0, none⟩ 0 [(.int .i64 x40_0), (.int .i64 x40_1), (.string s40_2), (.slice A40_3 n40_3 c40_3), (.slice A40_4 n40_4 c40_4)] fun w5 =>
 ∃ (x4r_0 : Int) (x4r_1 : Int) (s4r_2 : ByteArray) (A4r_3 : OA) (n4r_3 : Nat) (c4r_3 : Nat) (A4r_4 : OA) (n4r_4 : Nat) (c4r_4 : Nat), RD w5 ⟨k4, 0, none⟩ 0 [(.int .i64 x4r_0), (.int .i64 x4r_1), (.string s4r_2), (.slice A4r_3 n4r_3 c4r_3), (.slice A4r_4 n4r_4 c4r_4)] ∧
 R (.agg #[(.int .i64 x4r_0), (.int .i64 x4r_1), (.string s4r_2), (.slice A4r_3 n4r_3 c4r_3), (.slice A4r_4 n4r_4 c4r_4)]) w5) (
 SPLIT (x6 == (9 : Int)) (
 ∃ (x39_0 : Int) (s39_1 : ByteArray) (s39_2 : ByteArray) (s39_3 : ByteArray) (x39_4 : Int) (x39_5 : Int) (x39_6 : Int) (A39_7 : OA) (n39_7 : Nat) (c39_7 : Nat), RD w3 ⟨k3, 0, none⟩ 0 [(.int .i64 x39_0), (.string s39_1), (.string s39_2), (.string s39_3), (.int .i64 x39_4), (.int .i64 x39_5), (.int .i64 x39_6), (.slice A39_7 n39_7 c39_7)] ∧
 CALL PP 34 [(.pointer (some ⟨k0, 0, none⟩)), (.agg #[(.int .i64 x39_0), (.string s39_1), (.string s39_2), (.string s39_3), (.int .i64 x39_4), (.int .i64 x39_5), (.int .i64 x39_6), (.slice A39_7 n39_7 c39_7)])] w3 fun r40 w4 =>
 ∃ (x40_0 : Int) (x40_1 : Int) (s40_2 : ByteArray) (A40_3 : OA) (n40_3 : Nat) (c40_3 : Nat) (A40_4 : OA) (n40_4 : Nat) (c40_4 : Nat), r40 = (.agg #[(.int .i64 x40_0), (.int .i64 x40_1), (.string s40_2), (.slice A40_3 n40_3 c40_3), (.slice A40_4 n40_4 c40_4)]) ∧
 ST w4 ⟨k4, 0, none⟩ 0 [(.int .i64 x40_0), (.int .i64 x40_1), (.string s40_2), (.slice A40_3 n40_3 c40_3), (.slice A40_4 n40_4 c40_4)] fun w5 =>
 ∃ (x4r_0 : Int) (x4r_1 : Int) (s4r_2 : ByteArray) (A4r_3 : OA) (n4r_3 : Nat) (c4r_3 : Nat) (A4r_4 : OA) (n4r_4 : Nat) (c4r_4 : Nat), RD w5 ⟨k4, 0, none⟩ 0 [(.int .i64 x4r_0), (.int .i64 x4r_1), (.string s4r_2), (.slice A4r_3 n4r_3 c4r_3), (.slice A4r_4 n4r_4 c4r_4)] ∧
 R (.agg #[(.int .i64 x4r_0), (.int .i64 x4r_1), (.string s4r_2), (.slice A4r_3 n4r_3 c4r_3), (.slice A4r_4 n4r_4 c4r_4)]) w5) (
 SPLIT (x6 == (10 : Int)) (
 ∃ (x39_0 : Int) (s39_1 : ByteArray) (s39_2 : ByteArray) (s39_3 : ByteArray) (x39_4 : Int) (x39_5 : Int) (x39_6 : Int) (A39_7 : OA) (n39_7 : Nat) (c39_7 : Nat), RD w3 ⟨k3, 0, none⟩ 0 [(.int .i64 x39_0), (.string s39_1), (.string s39_2), (.string s39_3), (.int .i64 x39_4), (.int .i64 x39_5), (.int .i64 x39_6), (.slice A39_7 n39_7 c39_7)] ∧
 CALL PP 34 [(.pointer (some ⟨k0, 0, none⟩)), (.agg #[(.int .i64 x39_0), (.string s39_1), (.string s39_2), (.string s39_3), (.int .i64 x39_4), (.int .i64 x39_5), (.int .i64 x39_6), (.slice A39_7 n39_7 c39_7)])] w3 fun r40 w4 =>
 ∃ (x40_0 : Int) (x40_1 : Int) (s40_2 : ByteArray) (A40_3 : OA) (n40_3 : Nat) (c40_3 : Nat) (A40_4 : OA) (n40_4 : Nat) (c40_4 : Nat), r40 = (.agg #[(.int .i64 x40_0), (.int .i64 x40_1), (.string s40_2), (.slice A40_3 n40_3 c40_3), (.slice A40_4 n40_4 c40_4)]) ∧
 ST w4 ⟨k4, 0, none⟩ 0 [(.int .i64 x40_0), (.int .i64 x40_1), (.string s40_2), (.slice A40_3 n40_3 c40_3), (.slice A40_4 n40_4 c40_4)] fun w5 =>
 ∃ (x4r_0 : Int) (x4r_1 : Int) (s4r_2 : ByteArray) (A4r_3 : OA) (n4r_3 : Nat) (c4r_3 : Nat) (A4r_4 : OA) (n4r_4 : Nat) (c4r_4 : Nat), RD w5 ⟨k4, 0, none⟩ 0 [(.int .i64 x4r_0), (.int .i64 x4r_1), (.string s4r_2), (.slice A4r_3 n4r_3 c4r_3), (.slice A4r_4 n4r_4 c4r_4)] ∧
 R (.agg #[(.int .i64 x4r_0), (.int .i64 x4r_1), (.string s4r_2), (.slice A4r_3 n4r_3 c4r_3), (.slice A4r_4 n4r_4 c4r_4)]) w5) (
 SPLIT (x6 == (11 : Int)) (
 ∃ (x39_0 : Int) (s39_1 : ByteArray) (s39_2 : ByteArray) (s39_3 : ByteArray) (x39_4 : Int) (x39_5 : Int) (x39_6 : Int) (A39_7 : OA) (n39_7 : Nat) (c39_7 : Nat), RD w3 ⟨k3, 0, none⟩ 0 [(.int .i64 x39_0), (.string s39_1), (.string s39_2), (.string s39_3), (.int .i64 x39_4), (.int .i64 x39_5), (.int .i64 x39_6), (.slice A39_7 n39_7 c39_7)] ∧
 CALL PP 34 [(.pointer (some ⟨k0, 0, none⟩)), (.agg #[(.int .i64 x39_0), (.string s39_1), (.string s39_2), (.string s39_3), (.int .i64 x39_4), (.int .i64 x39_5), (.int .i64 x39_6), (.slice A39_7 n39_7 c39_7)])] w3 fun r40 w4 =>
 ∃ (x40_0 : Int) (x40_1 : Int) (s40_2 : ByteArray) (A40_3 : OA) (n40_3 : Nat) (c40_3 : Nat) (A40_4 : OA) (n40_4 : Nat) (c40_4 : Nat), r40 = (.agg #[(.int .i64 x40_0), (.int .i64 x40_1), (.string s40_2), (.slice A40_3 n40_3 c40_3), (.slice A40_4 n40_4 c40_4)]) ∧
 ST w4 ⟨k4, 0, none⟩ 0 [(.int .i64 x40_0), (.int .i64 x40_1), (.string s40_2), (.slice A40_3 n40_3 c40_3), (.slice A40_4 n40_4 c40_4)] fun w5 =>
 ∃ (x4r_0 : Int) (x4r_1 : Int) (s4r_2 : ByteArray) (A4r_3 : OA) (n4r_3 : Nat) (c4r_3 : Nat) (A4r_4 : OA) (n4r_4 : Nat) (c4r_4 : Nat), RD w5 ⟨k4, 0, none⟩ 0 [(.int .i64 x4r_0), (.int .i64 x4r_1), (.string s4r_2), (.slice A4r_3 n4r_3 c4r_3), (.slice A4r_4 n4r_4 c4r_4)] ∧
 R (.agg #[(.int .i64 x4r_0), (.int .i64 x4r_1), (.string s4r_2), (.slice A4r_3 n4r_3 c4r_3), (.slice A4r_4 n4r_4 c4r_4)]) w5) (
 CALL PP 35 [(.int .i64 4)] w3 fun r41 w4 =>
 ∃ (x41_0 : Int) (x41_1 : Int) (s41_2 : ByteArray) (A41_3 : OA) (n41_3 : Nat) (c41_3 : Nat) (A41_4 : OA) (n41_4 : Nat) (c41_4 : Nat), r41 = (.agg #[(.int .i64 x41_0), (.int .i64 x41_1), (.string s41_2), (.slice A41_3 n41_3 c41_3), (.slice A41_4 n41_4 c41_4)]) ∧
 ST w4 ⟨k4, 0, none⟩ 0 [(.int .i64 x41_0), (.int .i64 x41_1), (.string s41_2), (.slice A41_3 n41_3 c41_3), (.slice A41_4 n41_4 c41_4)] fun w5 =>
 ∃ (x4r_0 : Int) (x4r_1 : Int) (s4r_2 : ByteArray) (A4r_3 : OA) (n4r_3 : Nat) (c4r_3 : Nat) (A4r_4 : OA) (n4r_4 : Nat) (c4r_4 : Nat), RD w5 ⟨k4, 0, none⟩ 0 [(.int .i64 x4r_0), (.int .i64 x4r_1), (.string s4r_2), (.slice A4r_3 n4r_3 c4r_3), (.slice A4r_4 n4r_4 c4r_4)] ∧
 R (.agg #[(.int .i64 x4r_0), (.int .i64 x4r_1), (.string s4r_2), (.slice A4r_3 n4r_3 c4r_3), (.slice A4r_4 n4r_4 c4r_4)]) w5)))))))))))
noncomputable def A13 : Ann := (.two .leaf (.two (.two .leaf (.one (.cut 1920 [(7, .bool)] .leaf .leaf))) .leaf))
noncomputable def C13 : Code := (Tryz.f13.body).getD .skip
theorem c13 {k0 : Nat} {x1_0 : Int} {s1_1 : ByteArray} {s1_2 : ByteArray} {s1_3 : ByteArray} {x1_4 : Int} {x1_5 : Int} {x1_6 : Int} {A1_7 : OA} {n1_7 : Nat} {c1_7 : Nat} {w : World} {R : Value → World → Prop} (h : S13 k0 x1_0 s1_1 s1_2 s1_3 x1_4 x1_5 x1_6 A1_7 n1_7 c1_7 w R) : Calls PP 13 #[(.pointer (some ⟨k0, 0, none⟩)), (.agg #[(.int .i64 x1_0), (.string s1_1), (.string s1_2), (.string s1_3), (.int .i64 x1_4), (.int .i64 x1_5), (.int .i64 x1_6), (.slice A1_7 n1_7 c1_7)])] w (Ret R) :=
 vcF_sound (c := C13) (ann := A13) follows_ Tryz.func13 (by kernel_rfl) (cast (by kernel_rfl) h)

/- (*sealwax/model.Model).Names -/
def S14 (k0 : Nat) (w : World) (R : Value → World → Prop) : Prop :=
 ∃ (p6 : OA), w.cell? ⟨k0, 0, none⟩ = some (.pointer p6) ∧
 CALL PP 36 [(.pointer p6)] w fun r7 w1 =>
 ∃ (p7 : OA), r7 = (.pointer p7) ∧
 R (.pointer p7) w1
noncomputable def A14 : Ann := .leaf
noncomputable def C14 : Code := (Tryz.f14.body).getD .skip
theorem c14 {k0 : Nat} {w : World} {R : Value → World → Prop} (h : S14 k0 w R) : Calls PP 14 #[(.pointer (some ⟨k0, 0, none⟩))] w (Ret R) :=
 vcF_sound (c := C14) (ann := A14) follows_ Tryz.func14 (by kernel_rfl) (cast (by kernel_rfl) h)

/- (*sealwax/model.Model).Box -/
def S17 (k0 : Nat) (x1 : Int) (w : World) (R : Value → World → Prop) : Prop :=
 ∃ (m12 : Option Nat), w.cell? ⟨k0, 1, none⟩ = some (.map m12) ∧
 ∃ r14 : Value, (Instr.lookup 79 (.map m12) (.int .i64 x1) true).run PP w = .ok r14 w ∧
 ∃ (p14a : OA) (b14b : Bool), r14 = (.tuple #[(.pointer p14a), (.bool b14b)]) ∧
 SPLIT (!b14b) (
 R (.tuple #[(.pointer none), (.bool false)]) w) (
 CALL PP 39 [(.pointer p14a)] w fun r20 w1 =>
 ∃ (p20 : OA), r20 = (.pointer p20) ∧
 R (.tuple #[(.pointer p20), (.bool true)]) w1)
noncomputable def A17 : Ann := .leaf
noncomputable def C17 : Code := (Tryz.f17.body).getD .skip
theorem c17 {k0 : Nat} {x1 : Int} {w : World} {R : Value → World → Prop} (h : S17 k0 x1 w R) : Calls PP 17 #[(.pointer (some ⟨k0, 0, none⟩)), (.int .i64 x1)] w (Ret R) :=
 vcF_sound (c := C17) (ann := A17) follows_ Tryz.func17 (by kernel_rfl) (cast (by kernel_rfl) h)

/- (*sealwax/model.Model).Mails -/
def S19 (k0 : Nat) (w : World) (R : Value → World → Prop) : Prop :=
 ∃ (m6 : Option Nat), w.cell? ⟨k0, 2, none⟩ = some (.map m6) ∧
 CALL PP 42 [(.map m6)] w fun r7 w1 =>
 CALL PP 41 [r7] w1 fun r8 w2 =>
 ∃ (A8 : OA) (n8 : Nat) (c8 : Nat), r8 = (.slice A8 n8 c8) ∧
 R (.slice A8 n8 c8) w2
noncomputable def A19 : Ann := .leaf
noncomputable def C19 : Code := (Tryz.f19.body).getD .skip
theorem c19 {k0 : Nat} {w : World} {R : Value → World → Prop} (h : S19 k0 w R) : Calls PP 19 #[(.pointer (some ⟨k0, 0, none⟩))] w (Ret R) :=
 vcF_sound (c := C19) (ann := A19) follows_ Tryz.func19 (by kernel_rfl) (cast (by kernel_rfl) h)

/- (*sealwax/model.Model).Next -/
def S20 (k0 : Nat) (w : World) (R : Value → World → Prop) : Prop :=
 ∃ (x6 : Int), w.cell? ⟨k0, 3, none⟩ = some (.int .i64 x6) ∧
 R (.int .i64 x6) w
noncomputable def A20 : Ann := .leaf
noncomputable def C20 : Code := (Tryz.f20.body).getD .skip
theorem c20 {k0 : Nat} {w : World} {R : Value → World → Prop} (h : S20 k0 w R) : Calls PP 20 #[(.pointer (some ⟨k0, 0, none⟩))] w (Ret R) :=
 vcF_sound (c := C20) (ann := A20) follows_ Tryz.func20 (by kernel_rfl) (cast (by kernel_rfl) h)

/- (*sealwax/model.Model).Mail -/
def S23 (k0 : Nat) (x1 : Int) (w : World) (R : Value → World → Prop) : Prop :=
 ∃ (m12 : Option Nat), w.cell? ⟨k0, 2, none⟩ = some (.map m12) ∧
 ∃ r14 : Value, (Instr.lookup 80 (.map m12) (.int .i64 x1) true).run PP w = .ok r14 w ∧
 ∃ (s14a : ByteArray) (b14b : Bool), r14 = (.tuple #[(.string s14a), (.bool b14b)]) ∧
 R (.tuple #[(.string s14a), (.bool b14b)]) w
noncomputable def A23 : Ann := .leaf
noncomputable def C23 : Code := (Tryz.f23.body).getD .skip
theorem c23 {k0 : Nat} {x1 : Int} {w : World} {R : Value → World → Prop} (h : S23 k0 x1 w R) : Calls PP 23 #[(.pointer (some ⟨k0, 0, none⟩)), (.int .i64 x1)] w (Ret R) :=
 vcF_sound (c := C23) (ann := A23) follows_ Tryz.func23 (by kernel_rfl) (cast (by kernel_rfl) h)

/- (*sealwax/model.Model).Clone -/
def S29 (k0 : Nat) (w : World) (R : Value → World → Prop) : Prop :=
 DRAW w fun w1 =>
 ∃ (p9 : OA), w1.cell? ⟨k0, 0, none⟩ = some (.pointer p9) ∧
 ∃ (m15 : Option Nat), w1.cell? ⟨k0, 2, none⟩ = some (.map m15) ∧
 ∃ (x20 : Int), w1.cell? ⟨k0, 3, none⟩ = some (.int .i64 x20) ∧
 (
 CALL PP 36 [(.pointer p9)] w1 fun r10 w2 =>
 ∃ (p10 : OA), r10 = (.pointer p10) ∧
 (loadVar 3 ⟨k0, 3, none⟩).run PP w2 = .ok (.int .i64 x20) w2 ∧
 (loadVar 80 ⟨k0, 2, none⟩).run PP w2 = .ok (.map m15) w2 ∧
 (
 NEW w2 (.map #[] 0) fun k11 w3 =>
 (loadVar 3 ⟨k0, 3, none⟩).run PP w3 = .ok (.int .i64 x20) w3 ∧
 (loadVar 80 ⟨k0, 2, none⟩).run PP w3 = .ok (.map m15) w3 ∧
 CALL PP 67 [(.map m15)] w3 fun r16 w4 =>
 ∃ (m16 : Option Nat), r16 = (.map m16) ∧
 (loadVar 3 ⟨k0, 3, none⟩).run PP w4 = .ok (.int .i64 x20) w4 ∧
 NEW w4 (.cells #[(.pointer p10), (.map (some k11)), (.map m16), (.int .i64 x20)] 82) fun k22 w5 =>
 ∃ (m26 : Option Nat), w5.cell? ⟨k0, 1, none⟩ = some (.map m26) ∧
 RUN PP (Instr.range 79 (.map m26)) w5 fun r27 w6 =>
 ∃ p27 : OA, r27 = .pointer p27 ∧
 ∃ (I : World → Prop) (μ : World → Nat), I w6 ∧
 ∀ (_j : Nat → Value) (w7 : World), I w7 →
 RUN PP (Instr.next (.pointer p27) false 0) w7 fun r28 w8 =>
 ∃ (b28 : Bool) (l28 : List Value), r28 = .tuple ⟨.bool b28 :: l28⟩ ∧
 SPLIT b28 (
 RUN PP (Instr.entry (.pointer p27)) w8 fun r30 w9 =>
 ∃ (x30a : Int) (p30b : OA), r30 = .tuple #[(.int .i64 x30a), (.pointer p30b)] ∧
 DRAW w9 fun w10 =>
 ∃ (m36 : Option Nat), w10.cell? ⟨k22, 1, none⟩ = some (.map m36) ∧
 CALL PP 39 [(.pointer p30b)] w10 fun r39 w11 =>
 ∃ (p39 : OA), r39 = (.pointer p39) ∧
 (loadVar 79 ⟨k22, 1, none⟩).run PP w11 = .ok (.map m36) w11 ∧
 RUN PP (Instr.mapUpdate 79 (.map m36) (.int .i64 x30a) (.pointer p39)) w11 fun _uq w12 =>
 I w12 ∧ μ w12 < μ w7) (
 R (.pointer (some ⟨k22, 0, none⟩)) w8)) ∧
 (
 CALL PP 67 [(.map m15)] w2 fun r16 w3 =>
 ∃ (m16 : Option Nat), r16 = (.map m16) ∧
 (loadVar 3 ⟨k0, 3, none⟩).run PP w3 = .ok (.int .i64 x20) w3 ∧
 NEW w3 (.map #[] 0) fun k11 w4 =>
 (loadVar 3 ⟨k0, 3, none⟩).run PP w4 = .ok (.int .i64 x20) w4 ∧
 NEW w4 (.cells #[(.pointer p10), (.map (some k11)), (.map m16), (.int .i64 x20)] 82) fun k22 w5 =>
 ∃ (m26 : Option Nat), w5.cell? ⟨k0, 1, none⟩ = some (.map m26) ∧
 RUN PP (Instr.range 79 (.map m26)) w5 fun r27 w6 =>
 ∃ p27 : OA, r27 = .pointer p27 ∧
 ∃ (I : World → Prop) (μ : World → Nat), I w6 ∧
 ∀ (_j : Nat → Value) (w7 : World), I w7 →
 RUN PP (Instr.next (.pointer p27) false 0) w7 fun r28 w8 =>
 ∃ (b28 : Bool) (l28 : List Value), r28 = .tuple ⟨.bool b28 :: l28⟩ ∧
 SPLIT b28 (
 RUN PP (Instr.entry (.pointer p27)) w8 fun r30 w9 =>
 ∃ (x30a : Int) (p30b : OA), r30 = .tuple #[(.int .i64 x30a), (.pointer p30b)] ∧
 DRAW w9 fun w10 =>
 ∃ (m36 : Option Nat), w10.cell? ⟨k22, 1, none⟩ = some (.map m36) ∧
 CALL PP 39 [(.pointer p30b)] w10 fun r39 w11 =>
 ∃ (p39 : OA), r39 = (.pointer p39) ∧
 (loadVar 79 ⟨k22, 1, none⟩).run PP w11 = .ok (.map m36) w11 ∧
 RUN PP (Instr.mapUpdate 79 (.map m36) (.int .i64 x30a) (.pointer p39)) w11 fun _uq w12 =>
 I w12 ∧ μ w12 < μ w7) (
 R (.pointer (some ⟨k22, 0, none⟩)) w8))) ∧
 (
 NEW w1 (.map #[] 0) fun k11 w2 =>
 (loadVar 3 ⟨k0, 3, none⟩).run PP w2 = .ok (.int .i64 x20) w2 ∧
 (loadVar 80 ⟨k0, 2, none⟩).run PP w2 = .ok (.map m15) w2 ∧
 (loadVar 42 ⟨k0, 0, none⟩).run PP w2 = .ok (.pointer p9) w2 ∧
 CALL PP 36 [(.pointer p9)] w2 fun r10 w3 =>
 ∃ (p10 : OA), r10 = (.pointer p10) ∧
 (loadVar 3 ⟨k0, 3, none⟩).run PP w3 = .ok (.int .i64 x20) w3 ∧
 (loadVar 80 ⟨k0, 2, none⟩).run PP w3 = .ok (.map m15) w3 ∧
 CALL PP 67 [(.map m15)] w3 fun r16 w4 =>
 ∃ (m16 : Option Nat), r16 = (.map m16) ∧
 (loadVar 3 ⟨k0, 3, none⟩).run PP w4 = .ok (.int .i64 x20) w4 ∧
 NEW w4 (.cells #[(.pointer p10), (.map (some k11)), (.map m16), (.int .i64 x20)] 82) fun k22 w5 =>
 ∃ (m26 : Option Nat), w5.cell? ⟨k0, 1, none⟩ = some (.map m26) ∧
 RUN PP (Instr.range 79 (.map m26)) w5 fun r27 w6 =>
 ∃ p27 : OA, r27 = .pointer p27 ∧
 ∃ (I : World → Prop) (μ : World → Nat), I w6 ∧
 ∀ (_j : Nat → Value) (w7 : World), I w7 →
 RUN PP (Instr.next (.pointer p27) false 0) w7 fun r28 w8 =>
 ∃ (b28 : Bool) (l28 : List Value), r28 = .tuple ⟨.bool b28 :: l28⟩ ∧
 SPLIT b28 (
 RUN PP (Instr.entry (.pointer p27)) w8 fun r30 w9 =>
 ∃ (x30a : Int) (p30b : OA), r30 = .tuple #[(.int .i64 x30a), (.pointer p30b)] ∧
 DRAW w9 fun w10 =>
 ∃ (m36 : Option Nat), w10.cell? ⟨k22, 1, none⟩ = some (.map m36) ∧
 CALL PP 39 [(.pointer p30b)] w10 fun r39 w11 =>
 ∃ (p39 : OA), r39 = (.pointer p39) ∧
 (loadVar 79 ⟨k22, 1, none⟩).run PP w11 = .ok (.map m36) w11 ∧
 RUN PP (Instr.mapUpdate 79 (.map m36) (.int .i64 x30a) (.pointer p39)) w11 fun _uq w12 =>
 I w12 ∧ μ w12 < μ w7) (
 R (.pointer (some ⟨k22, 0, none⟩)) w8))
noncomputable def A29 : Ann := (.two .leaf (.two .leaf (.two (.two .leaf (.one (.loop 1099243192368 [] .leaf))) .leaf)))
noncomputable def C29 : Code := (Tryz.f29.body).getD .skip
theorem c29 {k0 : Nat} {w : World} {R : Value → World → Prop} (h : S29 k0 w R) : Calls PP 29 #[(.pointer (some ⟨k0, 0, none⟩))] w (Ret R) :=
 vcF_sound (c := C29) (ann := A29) follows_ Tryz.func29 (by kernel_rfl) (cast (by kernel_rfl) h)

/- (*sealwax/model.Model).named -/
def S32 (k0 : Nat) (x1_0 : Int) (s1_1 : ByteArray) (s1_2 : ByteArray) (s1_3 : ByteArray) (x1_4 : Int) (x1_5 : Int) (x1_6 : Int) (A1_7 : OA) (n1_7 : Nat) (c1_7 : Nat) (w : World) (R : Value → World → Prop) : Prop :=
 NEW w (.cells #[(.int .i64 x1_0), (.string s1_1), (.string s1_2), (.string s1_3), (.int .i64 x1_4), (.int .i64 x1_5), (.int .i64 x1_6), (.slice A1_7 n1_7 c1_7)] 28) fun k3 w1 =>
 NEW w1 (.cells #[(.int .i64 0), (.int .i64 0), (.string ⟨#[]⟩), (.slice none 0 0), (.slice none 0 0)] 35) fun k4 w2 =>
 ∃ I : Int → Int → World → Prop, (
 ∃ (x8 : Int), w2.cell? ⟨k3, 0, none⟩ = some (.int .i64 x8) ∧
 SPLIT (x8 == (1 : Int)) (
 DRAW w2 fun w3 =>
 ∃ (p27 : OA), w3.cell? ⟨k0, 0, none⟩ = some (.pointer p27) ∧
 ∃ (s29 : ByteArray), w3.cell? ⟨k3, 1, none⟩ = some (.string s29) ∧
 CALL PP 68 [(.pointer p27), (.string s29)] w3 fun r30 w4 =>
 ∃ (x30a : Int) (x30b : Int), r30 = (.tuple #[(.int .i64 x30a), (.int .i64 x30b)]) ∧
 I x30a x30b w4) (
 SPLIT (x8 == (2 : Int)) (
 DRAW w2 fun w3 =>
 ∃ (p39 : OA), w3.cell? ⟨k0, 0, none⟩ = some (.pointer p39) ∧
 ∃ (s41 : ByteArray), w3.cell? ⟨k3, 1, none⟩ = some (.string s41) ∧
 CALL PP 69 [(.pointer p39), (.string s41)] w3 fun r42 w4 =>
 ∃ (x42a : Int) (x42b : Int), r42 = (.tuple #[(.int .i64 x42a), (.int .i64 x42b)]) ∧
 I x42a x42b w4) (
 DRAW w2 fun w3 =>
 ∃ (p13 : OA), w3.cell? ⟨k0, 0, none⟩ = some (.pointer p13) ∧
 ∃ (s15 : ByteArray), w3.cell? ⟨k3, 1, none⟩ = some (.string s15) ∧
 ∃ (s17 : ByteArray), w3.cell? ⟨k3, 2, none⟩ = some (.string s17) ∧
 CALL PP 70 [(.pointer p13), (.string s15), (.string s17)] w3 fun r18 w4 =>
 ∃ (x18a : Int) (x18b : Int), r18 = (.tuple #[(.int .i64 x18a), (.int .i64 x18b)]) ∧
 I x18a x18b w4))) ∧
 ∀ (_j : Nat → Value) (x5 : Int) (x6 : Int) (w3 : World), I x5 x6 w3 →
 SPLIT (x6 != (0 : Int)) (
 CALL PP 35 [(.int .i64 x6)] w3 fun r48 w4 =>
 ∃ (x48_0 : Int) (x48_1 : Int) (s48_2 : ByteArray) (A48_3 : OA) (n48_3 : Nat) (c48_3 : Nat) (A48_4 : OA) (n48_4 : Nat) (c48_4 : Nat), r48 = (.agg #[(.int .i64 x48_0), (.int .i64 x48_1), (.string s48_2), (.slice A48_3 n48_3 c48_3), (.slice A48_4 n48_4 c48_4)]) ∧
 ST w4 ⟨k4, 0, none⟩ 0 [(.int .i64 x48_0), (.int .i64 x48_1), (.string s48_2), (.slice A48_3 n48_3 c48_3), (.slice A48_4 n48_4 c48_4)] fun w5 =>
 ∃ (x4r_0 : Int) (x4r_1 : Int) (s4r_2 : ByteArray) (A4r_3 : OA) (n4r_3 : Nat) (c4r_3 : Nat) (A4r_4 : OA) (n4r_4 : Nat) (c4r_4 : Nat), RD w5 ⟨k4, 0, none⟩ 0 [(.int .i64 x4r_0), (.int .i64 x4r_1), (.string s4r_2), (.slice A4r_3 n4r_3 c4r_3), (.slice A4r_4 n4r_4 c4r_4)] ∧
 R (.agg #[(.int .i64 x4r_0), (.int .i64 x4r_1), (.string s4r_2), (.slice A4r_3 n4r_3 c4r_3), (.slice A4r_4 n4r_4 c4r_4)]) w5) (
 ∃ (x50 : Int), w3.cell? ⟨k3, 0, none⟩ = some (.int .i64 x50) ∧
 SPLIT (x50 == (1 : Int)) (
 DRAW w3 fun w4 =>
 ∃ (m56 : Option Nat), w4.cell? ⟨k0, 1, none⟩ = some (.map m56) ∧
 CALL PP 71 [(.int .i64 x5)] w4 fun r59 w5 =>
 ∃ (p59 : OA), r59 = (.pointer p59) ∧
 (loadVar 79 ⟨k0, 1, none⟩).run PP w5 = .ok (.map m56) w5 ∧
 RUN PP (Instr.mapUpdate 79 (.map m56) (.int .i64 x5) (.pointer p59)) w5 fun _uq w6 =>
 ST w6 ⟨k4, 0, none⟩ 0 [(.int .i64 0), (.int .i64 x5), (.string ⟨#[]⟩), (.slice none 0 0), (.slice none 0 0)] fun w7 =>
 ∃ (x4r_0 : Int) (x4r_1 : Int) (s4r_2 : ByteArray) (A4r_3 : OA) (n4r_3 : Nat) (c4r_3 : Nat) (A4r_4 : OA) (n4r_4 : Nat) (c4r_4 : Nat), RD w7 ⟨k4, 0, none⟩ 0 [(.int .i64 x4r_0), (.int .i64 x4r_1), (.string s4r_2), (.slice A4r_3 n4r_3 c4r_3), (.slice A4r_4 n4r_4 c4r_4)] ∧
 R (.agg #[(.int .i64 x4r_0), (.int .i64 x4r_1), (.string s4r_2), (.slice A4r_3 n4r_3 c4r_3), (.slice A4r_4 n4r_4 c4r_4)]) w7) (
 SPLIT (x50 == (2 : Int)) (
 ∃ (m65 : Option Nat), w3.cell? ⟨k0, 1, none⟩ = some (.map m65) ∧
 RUN PP (Builtin.delete_ #[79, 3] 0 #[(.map m65), (.int .i64 x5)]) w3 fun rq w4 =>
 CALL PP 72 [(.pointer (some ⟨k0, 0, none⟩))] w4 fun r68 w5 =>
 r68 = (.tuple #[]) ∧
 ST w5 ⟨k4, 0, none⟩ 0 [(.int .i64 0), (.int .i64 x5), (.string ⟨#[]⟩), (.slice none 0 0), (.slice none 0 0)] fun w6 =>
 ∃ (x4r_0 : Int) (x4r_1 : Int) (s4r_2 : ByteArray) (A4r_3 : OA) (n4r_3 : Nat) (c4r_3 : Nat) (A4r_4 : OA) (n4r_4 : Nat) (c4r_4 : Nat), RD w6 ⟨k4, 0, none⟩ 0 [(.int .i64 x4r_0), (.int .i64 x4r_1), (.string s4r_2), (.slice A4r_3 n4r_3 c4r_3), (.slice A4r_4 n4r_4 c4r_4)] ∧
 R (.agg #[(.int .i64 x4r_0), (.int .i64 x4r_1), (.string s4r_2), (.slice A4r_3 n4r_3 c4r_3), (.slice A4r_4 n4r_4 c4r_4)]) w6) (
 ST w3 ⟨k4, 0, none⟩ 0 [(.int .i64 0), (.int .i64 x5), (.string ⟨#[]⟩), (.slice none 0 0), (.slice none 0 0)] fun w4 =>
 ∃ (x4r_0 : Int) (x4r_1 : Int) (s4r_2 : ByteArray) (A4r_3 : OA) (n4r_3 : Nat) (c4r_3 : Nat) (A4r_4 : OA) (n4r_4 : Nat) (c4r_4 : Nat), RD w4 ⟨k4, 0, none⟩ 0 [(.int .i64 x4r_0), (.int .i64 x4r_1), (.string s4r_2), (.slice A4r_3 n4r_3 c4r_3), (.slice A4r_4 n4r_4 c4r_4)] ∧
 R (.agg #[(.int .i64 x4r_0), (.int .i64 x4r_1), (.string s4r_2), (.slice A4r_3 n4r_3 c4r_3), (.slice A4r_4 n4r_4 c4r_4)]) w4)))
noncomputable def A32 : Ann := (.two .leaf (.two .leaf (.two .leaf (.cut 35184372088800 [(5, .int .i64), (6, .int .i64)] .leaf .leaf))))
noncomputable def C32 : Code := (Tryz.f32.body).getD .skip
theorem c32 {k0 : Nat} {x1_0 : Int} {s1_1 : ByteArray} {s1_2 : ByteArray} {s1_3 : ByteArray} {x1_4 : Int} {x1_5 : Int} {x1_6 : Int} {A1_7 : OA} {n1_7 : Nat} {c1_7 : Nat} {w : World} {R : Value → World → Prop} (h : S32 k0 x1_0 s1_1 s1_2 s1_3 x1_4 x1_5 x1_6 A1_7 n1_7 c1_7 w R) : Calls PP 32 #[(.pointer (some ⟨k0, 0, none⟩)), (.agg #[(.int .i64 x1_0), (.string s1_1), (.string s1_2), (.string s1_3), (.int .i64 x1_4), (.int .i64 x1_5), (.int .i64 x1_6), (.slice A1_7 n1_7 c1_7)])] w (Ret R) :=
 vcF_sound (c := C32) (ann := A32) follows_ Tryz.func32 (by kernel_rfl) (cast (by kernel_rfl) h)

/- (*sealwax/model.Model).search -/
def S33 (k0 : Nat) (x1_0 : Int) (s1_1 : ByteArray) (s1_2 : ByteArray) (s1_3 : ByteArray) (x1_4 : Int) (x1_5 : Int) (x1_6 : Int) (A1_7 : OA) (n1_7 : Nat) (c1_7 : Nat) (w : World) (R : Value → World → Prop) : Prop :=
 NEW w (.cells #[(.pointer (some ⟨k0, 0, none⟩))] 24) fun k2 w1 =>
 NEW w1 (.cells #[(.int .i64 x1_0), (.string s1_1), (.string s1_2), (.string s1_3), (.int .i64 x1_4), (.int .i64 x1_5), (.int .i64 x1_6), (.slice A1_7 n1_7 c1_7)] 28) fun k3 w2 =>
 NEW w2 (.cells #[(.int .i64 0), (.int .i64 0), (.string ⟨#[]⟩), (.slice none 0 0), (.slice none 0 0)] 35) fun k4 w3 =>
 ∃ (A14 : OA) (n14 : Nat) (c14 : Nat), w3.cell? ⟨k3, 7, none⟩ = some (.slice A14 n14 c14) ∧
 CALL PP 73 [(.slice A14 n14 c14)] w3 fun r15 w4 =>
 ∃ (A15a : OA) (n15a : Nat) (c15a : Nat) (x15b : Int), r15 = (.tuple #[(.slice A15a n15a c15a), (.int .i64 x15b)]) ∧
 NEW w4 (.cells #[(.slice none 0 0)] 26) fun k5 w5 =>
 ST w5 ⟨k5, 0, none⟩ 0 [(.slice A15a n15a c15a)] fun w6 =>
 ∃ (p19 : OA), w6.cell? ⟨k2, 0, none⟩ = some (.pointer p19) ∧
 ∃ (s21 : ByteArray), w6.cell? ⟨k3, 1, none⟩ = some (.string s21) ∧
 CALL PP 74 [(.pointer p19), (.string s21)] w6 fun r22 w7 =>
 ∃ (p22a : OA) (b22b : Bool), r22 = (.tuple #[(.pointer p22a), (.bool b22b)]) ∧
 SPLIT (x15b != (0 : Int)) (
 CALL PP 35 [(.int .i64 4)] w7 fun r38 w8 =>
 ∃ (x38_0 : Int) (x38_1 : Int) (s38_2 : ByteArray) (A38_3 : OA) (n38_3 : Nat) (c38_3 : Nat) (A38_4 : OA) (n38_4 : Nat) (c38_4 : Nat), r38 = (.agg #[(.int .i64 x38_0), (.int .i64 x38_1), (.string s38_2), (.slice A38_3 n38_3 c38_3), (.slice A38_4 n38_4 c38_4)]) ∧
 ST w8 ⟨k4, 0, none⟩ 0 [(.int .i64 x38_0), (.int .i64 x38_1), (.string s38_2), (.slice A38_3 n38_3 c38_3), (.slice A38_4 n38_4 c38_4)] fun w9 =>
 ∃ (x4r_0 : Int) (x4r_1 : Int) (s4r_2 : ByteArray) (A4r_3 : OA) (n4r_3 : Nat) (c4r_3 : Nat) (A4r_4 : OA) (n4r_4 : Nat) (c4r_4 : Nat), RD w9 ⟨k4, 0, none⟩ 0 [(.int .i64 x4r_0), (.int .i64 x4r_1), (.string s4r_2), (.slice A4r_3 n4r_3 c4r_3), (.slice A4r_4 n4r_4 c4r_4)] ∧
 R (.agg #[(.int .i64 x4r_0), (.int .i64 x4r_1), (.string s4r_2), (.slice A4r_3 n4r_3 c4r_3), (.slice A4r_4 n4r_4 c4r_4)]) w9) (
 ∃ (x30 : Int), w7.cell? ⟨k3, 5, none⟩ = some (.int .i64 x30) ∧
 SPLIT (decide (x30 < (0 : Int))) (
 CALL PP 35 [(.int .i64 4)] w7 fun r38 w8 =>
 ∃ (x38_0 : Int) (x38_1 : Int) (s38_2 : ByteArray) (A38_3 : OA) (n38_3 : Nat) (c38_3 : Nat) (A38_4 : OA) (n38_4 : Nat) (c38_4 : Nat), r38 = (.agg #[(.int .i64 x38_0), (.int .i64 x38_1), (.string s38_2), (.slice A38_3 n38_3 c38_3), (.slice A38_4 n38_4 c38_4)]) ∧
 ST w8 ⟨k4, 0, none⟩ 0 [(.int .i64 x38_0), (.int .i64 x38_1), (.string s38_2), (.slice A38_3 n38_3 c38_3), (.slice A38_4 n38_4 c38_4)] fun w9 =>
 ∃ (x4r_0 : Int) (x4r_1 : Int) (s4r_2 : ByteArray) (A4r_3 : OA) (n4r_3 : Nat) (c4r_3 : Nat) (A4r_4 : OA) (n4r_4 : Nat) (c4r_4 : Nat), RD w9 ⟨k4, 0, none⟩ 0 [(.int .i64 x4r_0), (.int .i64 x4r_1), (.string s4r_2), (.slice A4r_3 n4r_3 c4r_3), (.slice A4r_4 n4r_4 c4r_4)] ∧
 R (.agg #[(.int .i64 x4r_0), (.int .i64 x4r_1), (.string s4r_2), (.slice A4r_3 n4r_3 c4r_3), (.slice A4r_4 n4r_4 c4r_4)]) w9) (
 ∃ (x35 : Int), w7.cell? ⟨k3, 5, none⟩ = some (.int .i64 x35) ∧
 SPLIT (decide (x35 > (31 : Int))) (
 CALL PP 35 [(.int .i64 4)] w7 fun r38 w8 =>
 ∃ (x38_0 : Int) (x38_1 : Int) (s38_2 : ByteArray) (A38_3 : OA) (n38_3 : Nat) (c38_3 : Nat) (A38_4 : OA) (n38_4 : Nat) (c38_4 : Nat), r38 = (.agg #[(.int .i64 x38_0), (.int .i64 x38_1), (.string s38_2), (.slice A38_3 n38_3 c38_3), (.slice A38_4 n38_4 c38_4)]) ∧
 ST w8 ⟨k4, 0, none⟩ 0 [(.int .i64 x38_0), (.int .i64 x38_1), (.string s38_2), (.slice A38_3 n38_3 c38_3), (.slice A38_4 n38_4 c38_4)] fun w9 =>
 ∃ (x4r_0 : Int) (x4r_1 : Int) (s4r_2 : ByteArray) (A4r_3 : OA) (n4r_3 : Nat) (c4r_3 : Nat) (A4r_4 : OA) (n4r_4 : Nat) (c4r_4 : Nat), RD w9 ⟨k4, 0, none⟩ 0 [(.int .i64 x4r_0), (.int .i64 x4r_1), (.string s4r_2), (.slice A4r_3 n4r_3 c4r_3), (.slice A4r_4 n4r_4 c4r_4)] ∧
 R (.agg #[(.int .i64 x4r_0), (.int .i64 x4r_1), (.string s4r_2), (.slice A4r_3 n4r_3 c4r_3), (.slice A4r_4 n4r_4 c4r_4)]) w9) (
 ∃ (s41 : ByteArray), w7.cell? ⟨k3, 1, none⟩ = some (.string s41) ∧
 SPLIT (!(s41.toList == (⟨#[]⟩ : ByteArray).toList)) (
 SPLIT (!b22b) (
 CALL PP 35 [(.int .i64 5)] w7 fun r47 w8 =>
 ∃ (x47_0 : Int) (x47_1 : Int) (s47_2 : ByteArray) (A47_3 : OA) (n47_3 : Nat) (c47_3 : Nat) (A47_4 : OA) (n47_4 : Nat) (c47_4 : Nat), r47 = (.agg #[(.int .i64 x47_0), (.int .i64 x47_1), (.string s47_2), (.slice A47_3 n47_3 c47_3), (.slice A47_4 n47_4 c47_4)]) ∧
 ST w8 ⟨k4, 0, none⟩ 0 [(.int .i64 x47_0), (.int .i64 x47_1), (.string s47_2), (.slice A47_3 n47_3 c47_3), (.slice A47_4 n47_4 c47_4)] fun w9 =>
 ∃ (x4r_0 : Int) (x4r_1 : Int) (s4r_2 : ByteArray) (A4r_3 : OA) (n4r_3 : Nat) (c4r_3 : Nat) (A4r_4 : OA) (n4r_4 : Nat) (c4r_4 : Nat), RD w9 ⟨k4, 0, none⟩ 0 [(.int .i64 x4r_0), (.int .i64 x4r_1), (.string s4r_2), (.slice A4r_3 n4r_3 c4r_3), (.slice A4r_4 n4r_4 c4r_4)] ∧
 R (.agg #[(.int .i64 x4r_0), (.int .i64 x4r_1), (.string s4r_2), (.slice A4r_3 n4r_3 c4r_3), (.slice A4r_4 n4r_4 c4r_4)]) w9) (
 NEW w7 (.cells #[(.int .i64 0), (.int .i64 0), (.string ⟨#[]⟩), (.slice none 0 0), (.slice none 0 0)] 35) fun k9 w8 =>
 ∃ (p48 : OA), w8.cell? ⟨k2, 0, none⟩ = some (.pointer p48) ∧
 ∃ (x49_0 : Int) (s49_1 : ByteArray) (s49_2 : ByteArray) (s49_3 : ByteArray) (x49_4 : Int) (x49_5 : Int) (x49_6 : Int) (A49_7 : OA) (n49_7 : Nat) (c49_7 : Nat), RD w8 ⟨k3, 0, none⟩ 0 [(.int .i64 x49_0), (.string s49_1), (.string s49_2), (.string s49_3), (.int .i64 x49_4), (.int .i64 x49_5), (.int .i64 x49_6), (.slice A49_7 n49_7 c49_7)] ∧
 CALL PP 75 [(.pointer p48), (.agg #[(.int .i64 x49_0), (.string s49_1), (.string s49_2), (.string s49_3), (.int .i64 x49_4), (.int .i64 x49_5), (.int .i64 x49_6), (.slice A49_7 n49_7 c49_7)])] w8 fun r50 w9 =>
 RANGE PP r50 2 (fun l w10 beg K =>
 ∃ (y : Value) (l_1 : List Value), l = y :: l_1 ∧
 ∃ (s51 : ByteArray), y = (.string s51) ∧
 ∃ (y_1 : Value) (l_2 : List Value), l_1 = y_1 :: l_2 ∧
 ∃ (x52_0 : Int) (x52_1 : Int) (x52_2 : Int), y_1 = (.agg #[(.int .i64 x52_0), (.int .i64 x52_1), (.int .i64 x52_2)]) ∧
 l_2 = [] ∧
 NEW w10 (.cells #[(.int .i64 0), (.int .i64 0), (.int .i64 0)] 53) fun k11 w11 =>
 ST w11 ⟨k11, 0, none⟩ 0 [(.int .i64 x52_0), (.int .i64 x52_1), (.int .i64 x52_2)] fun w12 =>
 beg w12 fun w13 =>
 DRAW w13 fun w14 =>
 ∃ (p53 : OA), w14.cell? ⟨k2, 0, none⟩ = some (.pointer p53) ∧
 SOMEA p53 fun a54 =>
 ∃ (m56 : Option Nat), w14.cell? (Addr.add a54 2) = some (.map m56) ∧
 ∃ (x58 : Int), w14.cell? ⟨k11, 2, none⟩ = some (.int .i64 x58) ∧
 ∃ r59 : Value, (Instr.lookup 80 (.map m56) (.int .i64 x58) false).run PP w14 = .ok r59 w14 ∧
 ∃ (s59 : ByteArray), r59 = (.string s59) ∧
 ∃ (A60 : OA) (n60 : Nat) (c60 : Nat), w14.cell? ⟨k5, 0, none⟩ = some (.slice A60 n60 c60) ∧
 CALL PP 24 [(.string s59), (.slice A60 n60 c60)] w14 fun r61 w15 =>
 ∃ (b61 : Bool), r61 = (.bool b61) ∧
 SPLIT b61 (
 ∃ (A63 : OA) (n63 : Nat) (c63 : Nat), w15.cell? ⟨k9, 4, none⟩ = some (.slice A63 n63 c63) ∧
 ∃ (x66 : Int), w15.cell? ⟨k11, 0, none⟩ = some (.int .i64 x66) ∧
 ∃ (x68 : Int), w15.cell? ⟨k11, 1, none⟩ = some (.int .i64 x68) ∧
 NEW w15 (.cells #[(.string s51), (.int .i64 x66), (.int .i64 x68)] 39) fun k70 w16 =>
 RUN PP (Builtin.append_ #[33, 33] 33 #[(.slice A63 n63 c63), (.slice (some ⟨k70, 0, none⟩) 1 1)]) w16 fun r71 w17 =>
 ∃ (A71 : OA) (n71 : Nat) (c71 : Nat), r71 = (.slice A71 n71 c71) ∧
 ST w17 ⟨k9, 4, none⟩ 0 [(.slice A71 n71 c71)] fun w18 =>
 K w18) (
 K w15)) (fun D w10 =>
 ∃ (A74 : OA) (n74 : Nat) (c74 : Nat), w10.cell? ⟨k9, 4, none⟩ = some (.slice A74 n74 c74) ∧
 ST w10 ⟨k9, 1, none⟩ 0 [(.int .i64 (n74 : Int))] fun w11 =>
 ∃ (x77_0 : Int) (x77_1 : Int) (s77_2 : ByteArray) (A77_3 : OA) (n77_3 : Nat) (c77_3 : Nat) (A77_4 : OA) (n77_4 : Nat) (c77_4 : Nat), RD w11 ⟨k9, 0, none⟩ 0 [(.int .i64 x77_0), (.int .i64 x77_1), (.string s77_2), (.slice A77_3 n77_3 c77_3), (.slice A77_4 n77_4 c77_4)] ∧
 ST w11 ⟨k4, 0, none⟩ 0 [(.int .i64 x77_0), (.int .i64 x77_1), (.string s77_2), (.slice A77_3 n77_3 c77_3), (.slice A77_4 n77_4 c77_4)] fun w12 =>
 w12.heap[D]? = some (.deferred (some [])) ∧
 ∃ (x4r_0 : Int) (x4r_1 : Int) (s4r_2 : ByteArray) (A4r_3 : OA) (n4r_3 : Nat) (c4r_3 : Nat) (A4r_4 : OA) (n4r_4 : Nat) (c4r_4 : Nat), RD (w12.putObj D (.deferred none)) (⟨k4, 0, none⟩ : Addr) 0 [(.int .i64 x4r_0), (.int .i64 x4r_1), (.string s4r_2), (.slice A4r_3 n4r_3 c4r_3), (.slice A4r_4 n4r_4 c4r_4)] ∧
 R (.agg #[(.int .i64 x4r_0), (.int .i64 x4r_1), (.string s4r_2), (.slice A4r_3 n4r_3 c4r_3), (.slice A4r_4 n4r_4 c4r_4)]) (w12.putObj D (.deferred none))) w9)) (
 NEW w7 (.cells #[(.int .i64 0), (.int .i64 0), (.string ⟨#[]⟩), (.slice none 0 0), (.slice none 0 0)] 35) fun k9 w8 =>
 ∃ (p48 : OA), w8.cell? ⟨k2, 0, none⟩ = some (.pointer p48) ∧
 ∃ (x49_0 : Int) (s49_1 : ByteArray) (s49_2 : ByteArray) (s49_3 : ByteArray) (x49_4 : Int) (x49_5 : Int) (x49_6 : Int) (A49_7 : OA) (n49_7 : Nat) (c49_7 : Nat), RD w8 ⟨k3, 0, none⟩ 0 [(.int .i64 x49_0), (.string s49_1), (.string s49_2), (.string s49_3), (.int .i64 x49_4), (.int .i64 x49_5), (.int .i64 x49_6), (.slice A49_7 n49_7 c49_7)] ∧
 CALL PP 75 [(.pointer p48), (.agg #[(.int .i64 x49_0), (.string s49_1), (.string s49_2), (.string s49_3), (.int .i64 x49_4), (.int .i64 x49_5), (.int .i64 x49_6), (.slice A49_7 n49_7 c49_7)])] w8 fun r50 w9 =>
 RANGE PP r50 2 (fun l w10 beg K =>
 ∃ (y : Value) (l_1 : List Value), l = y :: l_1 ∧
 ∃ (s51 : ByteArray), y = (.string s51) ∧
 ∃ (y_1 : Value) (l_2 : List Value), l_1 = y_1 :: l_2 ∧
 ∃ (x52_0 : Int) (x52_1 : Int) (x52_2 : Int), y_1 = (.agg #[(.int .i64 x52_0), (.int .i64 x52_1), (.int .i64 x52_2)]) ∧
 l_2 = [] ∧
 NEW w10 (.cells #[(.int .i64 0), (.int .i64 0), (.int .i64 0)] 53) fun k11 w11 =>
 ST w11 ⟨k11, 0, none⟩ 0 [(.int .i64 x52_0), (.int .i64 x52_1), (.int .i64 x52_2)] fun w12 =>
 beg w12 fun w13 =>
 DRAW w13 fun w14 =>
 ∃ (p53 : OA), w14.cell? ⟨k2, 0, none⟩ = some (.pointer p53) ∧
 SOMEA p53 fun a54 =>
 ∃ (m56 : Option Nat), w14.cell? (Addr.add a54 2) = some (.map m56) ∧
 ∃ (x58 : Int), w14.cell? ⟨k11, 2, none⟩ = some (.int .i64 x58) ∧
 ∃ r59 : Value, (Instr.lookup 80 (.map m56) (.int .i64 x58) false).run PP w14 = .ok r59 w14 ∧
 ∃ (s59 : ByteArray), r59 = (.string s59) ∧
 ∃ (A60 : OA) (n60 : Nat) (c60 : Nat), w14.cell? ⟨k5, 0, none⟩ = some (.slice A60 n60 c60) ∧
 CALL PP 24 [(.string s59), (.slice A60 n60 c60)] w14 fun r61 w15 =>
 ∃ (b61 : Bool), r61 = (.bool b61) ∧
 SPLIT b61 (
 ∃ (A63 : OA) (n63 : Nat) (c63 : Nat), w15.cell? ⟨k9, 4, none⟩ = some (.slice A63 n63 c63) ∧
 ∃ (x66 : Int), w15.cell? ⟨k11, 0, none⟩ = some (.int .i64 x66) ∧
 ∃ (x68 : Int), w15.cell? ⟨k11, 1, none⟩ = some (.int .i64 x68) ∧
 NEW w15 (.cells #[(.string s51), (.int .i64 x66), (.int .i64 x68)] 39) fun k70 w16 =>
 RUN PP (Builtin.append_ #[33, 33] 33 #[(.slice A63 n63 c63), (.slice (some ⟨k70, 0, none⟩) 1 1)]) w16 fun r71 w17 =>
 ∃ (A71 : OA) (n71 : Nat) (c71 : Nat), r71 = (.slice A71 n71 c71) ∧
 ST w17 ⟨k9, 4, none⟩ 0 [(.slice A71 n71 c71)] fun w18 =>
 K w18) (
 K w15)) (fun D w10 =>
 ∃ (A74 : OA) (n74 : Nat) (c74 : Nat), w10.cell? ⟨k9, 4, none⟩ = some (.slice A74 n74 c74) ∧
 ST w10 ⟨k9, 1, none⟩ 0 [(.int .i64 (n74 : Int))] fun w11 =>
 ∃ (x77_0 : Int) (x77_1 : Int) (s77_2 : ByteArray) (A77_3 : OA) (n77_3 : Nat) (c77_3 : Nat) (A77_4 : OA) (n77_4 : Nat) (c77_4 : Nat), RD w11 ⟨k9, 0, none⟩ 0 [(.int .i64 x77_0), (.int .i64 x77_1), (.string s77_2), (.slice A77_3 n77_3 c77_3), (.slice A77_4 n77_4 c77_4)] ∧
 ST w11 ⟨k4, 0, none⟩ 0 [(.int .i64 x77_0), (.int .i64 x77_1), (.string s77_2), (.slice A77_3 n77_3 c77_3), (.slice A77_4 n77_4 c77_4)] fun w12 =>
 w12.heap[D]? = some (.deferred (some [])) ∧
 ∃ (x4r_0 : Int) (x4r_1 : Int) (s4r_2 : ByteArray) (A4r_3 : OA) (n4r_3 : Nat) (c4r_3 : Nat) (A4r_4 : OA) (n4r_4 : Nat) (c4r_4 : Nat), RD (w12.putObj D (.deferred none)) (⟨k4, 0, none⟩ : Addr) 0 [(.int .i64 x4r_0), (.int .i64 x4r_1), (.string s4r_2), (.slice A4r_3 n4r_3 c4r_3), (.slice A4r_4 n4r_4 c4r_4)] ∧
 R (.agg #[(.int .i64 x4r_0), (.int .i64 x4r_1), (.string s4r_2), (.slice A4r_3 n4r_3 c4r_3), (.slice A4r_4 n4r_4 c4r_4)]) (w12.putObj D (.deferred none))) w9))))
noncomputable def A33 : Ann := (.two .leaf (.two .leaf (.two .leaf (.two .leaf (.two .leaf (.two .leaf .leaf))))))
noncomputable def C33 : Code := (Tryz.f33.body).getD .skip
theorem c33 {k0 : Nat} {x1_0 : Int} {s1_1 : ByteArray} {s1_2 : ByteArray} {s1_3 : ByteArray} {x1_4 : Int} {x1_5 : Int} {x1_6 : Int} {A1_7 : OA} {n1_7 : Nat} {c1_7 : Nat} {w : World} {R : Value → World → Prop} (h : S33 k0 x1_0 s1_1 s1_2 s1_3 x1_4 x1_5 x1_6 A1_7 n1_7 c1_7 w R) : Calls PP 33 #[(.pointer (some ⟨k0, 0, none⟩)), (.agg #[(.int .i64 x1_0), (.string s1_1), (.string s1_2), (.string s1_3), (.int .i64 x1_4), (.int .i64 x1_5), (.int .i64 x1_6), (.slice A1_7 n1_7 c1_7)])] w (Ret R) :=
 vcFT_sound (c := C33) (ks := [.sc .str, .ag [.int .i64, .int .i64, .int .i64]]) (ann := A33) follows_ Tryz.func33 (by kernel_rfl) (cast (by kernel_rfl) h)

/- (*sealwax/model.Model).within -/
def S34 (k0 : Nat) (x1_0 : Int) (s1_1 : ByteArray) (s1_2 : ByteArray) (s1_3 : ByteArray) (x1_4 : Int) (x1_5 : Int) (x1_6 : Int) (A1_7 : OA) (n1_7 : Nat) (c1_7 : Nat) (w : World) (R : Value → World → Prop) : Prop :=
 NEW w (.cells #[(.int .i64 x1_0), (.string s1_1), (.string s1_2), (.string s1_3), (.int .i64 x1_4), (.int .i64 x1_5), (.int .i64 x1_6), (.slice A1_7 n1_7 c1_7)] 28) fun k3 w1 =>
 NEW w1 (.cells #[(.int .i64 0), (.int .i64 0), (.string ⟨#[]⟩), (.slice none 0 0), (.slice none 0 0)] 35) fun k4 w2 =>
 ∃ (s12 : ByteArray), w2.cell? ⟨k3, 1, none⟩ = some (.string s12) ∧
 CALL PP 74 [(.pointer (some ⟨k0, 0, none⟩)), (.string s12)] w2 fun r13 w3 =>
 ∃ (p13a : OA) (b13b : Bool), r13 = (.tuple #[(.pointer p13a), (.bool b13b)]) ∧
 SPLIT (!b13b) (
 CALL PP 35 [(.int .i64 5)] w3 fun r18 w4 =>
 ∃ (x18_0 : Int) (x18_1 : Int) (s18_2 : ByteArray) (A18_3 : OA) (n18_3 : Nat) (c18_3 : Nat) (A18_4 : OA) (n18_4 : Nat) (c18_4 : Nat), r18 = (.agg #[(.int .i64 x18_0), (.int .i64 x18_1), (.string s18_2), (.slice A18_3 n18_3 c18_3), (.slice A18_4 n18_4 c18_4)]) ∧
 ST w4 ⟨k4, 0, none⟩ 0 [(.int .i64 x18_0), (.int .i64 x18_1), (.string s18_2), (.slice A18_3 n18_3 c18_3), (.slice A18_4 n18_4 c18_4)] fun w5 =>
 ∃ (x4r_0 : Int) (x4r_1 : Int) (s4r_2 : ByteArray) (A4r_3 : OA) (n4r_3 : Nat) (c4r_3 : Nat) (A4r_4 : OA) (n4r_4 : Nat) (c4r_4 : Nat), RD w5 ⟨k4, 0, none⟩ 0 [(.int .i64 x4r_0), (.int .i64 x4r_1), (.string s4r_2), (.slice A4r_3 n4r_3 c4r_3), (.slice A4r_4 n4r_4 c4r_4)] ∧
 R (.agg #[(.int .i64 x4r_0), (.int .i64 x4r_1), (.string s4r_2), (.slice A4r_3 n4r_3 c4r_3), (.slice A4r_4 n4r_4 c4r_4)]) w5) (
 ∃ I : World → Prop, (
 ∃ (x20 : Int), w3.cell? ⟨k3, 0, none⟩ = some (.int .i64 x20) ∧
 SPLIT (x20 == (5 : Int)) (
 CALL PP 76 [(.pointer p13a)] w3 fun r24 w4 =>
 ∃ (x24_0 : Int) (x24_1 : Int) (s24_2 : ByteArray) (A24_3 : OA) (n24_3 : Nat) (c24_3 : Nat) (A24_4 : OA) (n24_4 : Nat) (c24_4 : Nat), r24 = (.agg #[(.int .i64 x24_0), (.int .i64 x24_1), (.string s24_2), (.slice A24_3 n24_3 c24_3), (.slice A24_4 n24_4 c24_4)]) ∧
 ST w4 ⟨k4, 0, none⟩ 0 [(.int .i64 x24_0), (.int .i64 x24_1), (.string s24_2), (.slice A24_3 n24_3 c24_3), (.slice A24_4 n24_4 c24_4)] fun w5 =>
 ∃ (x4r_0 : Int) (x4r_1 : Int) (s4r_2 : ByteArray) (A4r_3 : OA) (n4r_3 : Nat) (c4r_3 : Nat) (A4r_4 : OA) (n4r_4 : Nat) (c4r_4 : Nat), RD w5 ⟨k4, 0, none⟩ 0 [(.int .i64 x4r_0), (.int .i64 x4r_1), (.string s4r_2), (.slice A4r_3 n4r_3 c4r_3), (.slice A4r_4 n4r_4 c4r_4)] ∧
 R (.agg #[(.int .i64 x4r_0), (.int .i64 x4r_1), (.string s4r_2), (.slice A4r_3 n4r_3 c4r_3), (.slice A4r_4 n4r_4 c4r_4)]) w5) (
 SPLIT (x20 == (6 : Int)) (
 ∃ (x29_0 : Int) (s29_1 : ByteArray) (s29_2 : ByteArray) (s29_3 : ByteArray) (x29_4 : Int) (x29_5 : Int) (x29_6 : Int) (A29_7 : OA) (n29_7 : Nat) (c29_7 : Nat), RD w3 ⟨k3, 0, none⟩ 0 [(.int .i64 x29_0), (.string s29_1), (.string s29_2), (.string s29_3), (.int .i64 x29_4), (.int .i64 x29_5), (.int .i64 x29_6), (.slice A29_7 n29_7 c29_7)] ∧
 CALL PP 77 [(.pointer (some ⟨k0, 0, none⟩)), (.pointer p13a), (.agg #[(.int .i64 x29_0), (.string s29_1), (.string s29_2), (.string s29_3), (.int .i64 x29_4), (.int .i64 x29_5), (.int .i64 x29_6), (.slice A29_7 n29_7 c29_7)])] w3 fun r30 w4 =>
 ∃ (x30_0 : Int) (x30_1 : Int) (s30_2 : ByteArray) (A30_3 : OA) (n30_3 : Nat) (c30_3 : Nat) (A30_4 : OA) (n30_4 : Nat) (c30_4 : Nat), r30 = (.agg #[(.int .i64 x30_0), (.int .i64 x30_1), (.string s30_2), (.slice A30_3 n30_3 c30_3), (.slice A30_4 n30_4 c30_4)]) ∧
 ST w4 ⟨k4, 0, none⟩ 0 [(.int .i64 x30_0), (.int .i64 x30_1), (.string s30_2), (.slice A30_3 n30_3 c30_3), (.slice A30_4 n30_4 c30_4)] fun w5 =>
 ∃ (x4r_0 : Int) (x4r_1 : Int) (s4r_2 : ByteArray) (A4r_3 : OA) (n4r_3 : Nat) (c4r_3 : Nat) (A4r_4 : OA) (n4r_4 : Nat) (c4r_4 : Nat), RD w5 ⟨k4, 0, none⟩ 0 [(.int .i64 x4r_0), (.int .i64 x4r_1), (.string s4r_2), (.slice A4r_3 n4r_3 c4r_3), (.slice A4r_4 n4r_4 c4r_4)] ∧
 R (.agg #[(.int .i64 x4r_0), (.int .i64 x4r_1), (.string s4r_2), (.slice A4r_3 n4r_3 c4r_3), (.slice A4r_4 n4r_4 c4r_4)]) w5) (
 SPLIT (x20 == (7 : Int)) (
 ∃ (x35_0 : Int) (s35_1 : ByteArray) (s35_2 : ByteArray) (s35_3 : ByteArray) (x35_4 : Int) (x35_5 : Int) (x35_6 : Int) (A35_7 : OA) (n35_7 : Nat) (c35_7 : Nat), RD w3 ⟨k3, 0, none⟩ 0 [(.int .i64 x35_0), (.string s35_1), (.string s35_2), (.string s35_3), (.int .i64 x35_4), (.int .i64 x35_5), (.int .i64 x35_6), (.slice A35_7 n35_7 c35_7)] ∧
 CALL PP 78 [(.pointer (some ⟨k0, 0, none⟩)), (.pointer p13a), (.agg #[(.int .i64 x35_0), (.string s35_1), (.string s35_2), (.string s35_3), (.int .i64 x35_4), (.int .i64 x35_5), (.int .i64 x35_6), (.slice A35_7 n35_7 c35_7)])] w3 fun r36 w4 =>
 ∃ (x36_0 : Int) (x36_1 : Int) (s36_2 : ByteArray) (A36_3 : OA) (n36_3 : Nat) (c36_3 : Nat) (A36_4 : OA) (n36_4 : Nat) (c36_4 : Nat), r36 = (.agg #[(.int .i64 x36_0), (.int .i64 x36_1), (.string s36_2), (.slice A36_3 n36_3 c36_3), (.slice A36_4 n36_4 c36_4)]) ∧
 ST w4 ⟨k4, 0, none⟩ 0 [(.int .i64 x36_0), (.int .i64 x36_1), (.string s36_2), (.slice A36_3 n36_3 c36_3), (.slice A36_4 n36_4 c36_4)] fun w5 =>
 ∃ (x4r_0 : Int) (x4r_1 : Int) (s4r_2 : ByteArray) (A4r_3 : OA) (n4r_3 : Nat) (c4r_3 : Nat) (A4r_4 : OA) (n4r_4 : Nat) (c4r_4 : Nat), RD w5 ⟨k4, 0, none⟩ 0 [(.int .i64 x4r_0), (.int .i64 x4r_1), (.string s4r_2), (.slice A4r_3 n4r_3 c4r_3), (.slice A4r_4 n4r_4 c4r_4)] ∧
 R (.agg #[(.int .i64 x4r_0), (.int .i64 x4r_1), (.string s4r_2), (.slice A4r_3 n4r_3 c4r_3), (.slice A4r_4 n4r_4 c4r_4)]) w5) (
 ∃ I_1 : Bool → World → Prop, (
 SPLIT (x20 == (8 : Int)) (
 I_1 true w3) (
 I_1 (x20 == (9 : Int)) w3)) ∧
 ∀ (_j : Nat → Value) (b37 : Bool) (w4 : World), I_1 b37 w4 →
 SPLIT b37 (
 ∃ (x42_0 : Int) (s42_1 : ByteArray) (s42_2 : ByteArray) (s42_3 : ByteArray) (x42_4 : Int) (x42_5 : Int) (x42_6 : Int) (A42_7 : OA) (n42_7 : Nat) (c42_7 : Nat), RD w4 ⟨k3, 0, none⟩ 0 [(.int .i64 x42_0), (.string s42_1), (.string s42_2), (.string s42_3), (.int .i64 x42_4), (.int .i64 x42_5), (.int .i64 x42_6), (.slice A42_7 n42_7 c42_7)] ∧
 CALL PP 79 [(.pointer (some ⟨k0, 0, none⟩)), (.pointer p13a), (.agg #[(.int .i64 x42_0), (.string s42_1), (.string s42_2), (.string s42_3), (.int .i64 x42_4), (.int .i64 x42_5), (.int .i64 x42_6), (.slice A42_7 n42_7 c42_7)])] w4 fun r43 w5 =>
 ∃ (x43_0 : Int) (x43_1 : Int) (s43_2 : ByteArray) (A43_3 : OA) (n43_3 : Nat) (c43_3 : Nat) (A43_4 : OA) (n43_4 : Nat) (c43_4 : Nat), r43 = (.agg #[(.int .i64 x43_0), (.int .i64 x43_1), (.string s43_2), (.slice A43_3 n43_3 c43_3), (.slice A43_4 n43_4 c43_4)]) ∧
 ST w5 ⟨k4, 0, none⟩ 0 [(.int .i64 x43_0), (.int .i64 x43_1), (.string s43_2), (.slice A43_3 n43_3 c43_3), (.slice A43_4 n43_4 c43_4)] fun w6 =>
 ∃ (x4r_0 : Int) (x4r_1 : Int) (s4r_2 : ByteArray) (A4r_3 : OA) (n4r_3 : Nat) (c4r_3 : Nat) (A4r_4 : OA) (n4r_4 : Nat) (c4r_4 : Nat), RD w6 ⟨k4, 0, none⟩ 0 [(.int .i64 x4r_0), (.int .i64 x4r_1), (.string s4r_2), (.slice A4r_3 n4r_3 c4r_3), (.slice A4r_4 n4r_4 c4r_4)] ∧
 R (.agg #[(.int .i64 x4r_0), (.int .i64 x4r_1), (.string s4r_2), (.slice A4r_3 n4r_3 c4r_3), (.slice A4r_4 n4r_4 c4r_4)]) w6) (
 SPLIT (x20 == (10 : Int)) (
 ∃ (x49 : Int), w4.cell? ⟨k3, 4, none⟩ = some (.int .i64 x49) ∧
 ∃ (x51 : Int), w4.cell? ⟨k3, 5, none⟩ = some (.int .i64 x51) ∧
 ∃ (x53 : Int), w4.cell? ⟨k3, 6, none⟩ = some (.int .i64 x53) ∧
 CALL PP 80 [(.pointer p13a), (.int .i64 x49), (.int .i64 x51), (.int .i64 x53)] w4 fun r54 w5 =>
 ∃ (x54a_0 : Int) (x54a_1 : Int) (x54a_2 : Int) (x54b : Int), r54 = (.tuple #[(.agg #[(.int .i64 x54a_0), (.int .i64 x54a_1), (.int .i64 x54a_2)]), (.int .i64 x54b)]) ∧
 NEW w5 (.cells #[(.int .i64 0), (.int .i64 0), (.int .i64 0)] 53) fun k7 w6 =>
 ST w6 ⟨k7, 0, none⟩ 0 [(.int .i64 x54a_0), (.int .i64 x54a_1), (.int .i64 x54a_2)] fun w7 =>
 ∃ (x59 : Int), w7.cell? ⟨k7, 1, none⟩ = some (.int .i64 x59) ∧
 ST w7 ⟨k4, 0, none⟩ 0 [(.int .i64 x54b), (.int .i64 x59), (.string ⟨#[]⟩), (.slice none 0 0), (.slice none 0 0)] fun w8 =>
 ∃ (x4r_0 : Int) (x4r_1 : Int) (s4r_2 : ByteArray) (A4r_3 : OA) (n4r_3 : Nat) (c4r_3 : Nat) (A4r_4 : OA) (n4r_4 : Nat) (c4r_4 : Nat), RD w8 ⟨k4, 0, none⟩ 0 [(.int .i64 x4r_0), (.int .i64 x4r_1), (.string s4r_2), (.slice A4r_3 n4r_3 c4r_3), (.slice A4r_4 n4r_4 c4r_4)] ∧
 R (.agg #[(.int .i64 x4r_0), (.int .i64 x4r_1), (.string s4r_2), (.slice A4r_3 n4r_3 c4r_3), (.slice A4r_4 n4r_4 c4r_4)]) w8) (
 I w4)))))) ∧
 ∀ (_j : Nat → Value) (w4 : World), I w4 →
 ∃ (s64 : ByteArray), w4.cell? ⟨k3, 1, none⟩ = some (.string s64) ∧
 CALL PP 81 [(.pointer (some ⟨k0, 0, none⟩)), (.pointer p13a), (.string s64)] w4 fun r65 w5 =>
 ∃ (x65_0 : Int) (x65_1 : Int) (s65_2 : ByteArray) (A65_3 : OA) (n65_3 : Nat) (c65_3 : Nat) (A65_4 : OA) (n65_4 : Nat) (c65_4 : Nat), r65 = (.agg #[(.int .i64 x65_0), (.int .i64 x65_1), (.string s65_2), (.slice A65_3 n65_3 c65_3), (.slice A65_4 n65_4 c65_4)]) ∧
 ST w5 ⟨k4, 0, none⟩ 0 [(.int .i64 x65_0), (.int .i64 x65_1), (.string s65_2), (.slice A65_3 n65_3 c65_3), (.slice A65_4 n65_4 c65_4)] fun w6 =>
 ∃ (x4r_0 : Int) (x4r_1 : Int) (s4r_2 : ByteArray) (A4r_3 : OA) (n4r_3 : Nat) (c4r_3 : Nat) (A4r_4 : OA) (n4r_4 : Nat) (c4r_4 : Nat), RD w6 ⟨k4, 0, none⟩ 0 [(.int .i64 x4r_0), (.int .i64 x4r_1), (.string s4r_2), (.slice A4r_3 n4r_3 c4r_3), (.slice A4r_4 n4r_4 c4r_4)] ∧
 R (.agg #[(.int .i64 x4r_0), (.int .i64 x4r_1), (.string s4r_2), (.slice A4r_3 n4r_3 c4r_3), (.slice A4r_4 n4r_4 c4r_4)]) w6)
noncomputable def A34 : Ann := (.two .leaf (.two .leaf (.two .leaf (.cut 2305843009213170048 [] (.two .leaf (.one (.two .leaf (.two .leaf (.two .leaf (.two .leaf (.two .leaf (.two .leaf (.cut 962072674304 [(37, .bool)] .leaf .leaf))))))))) .leaf))))
noncomputable def C34 : Code := (Tryz.f34.body).getD .skip
theorem c34 {k0 : Nat} {x1_0 : Int} {s1_1 : ByteArray} {s1_2 : ByteArray} {s1_3 : ByteArray} {x1_4 : Int} {x1_5 : Int} {x1_6 : Int} {A1_7 : OA} {n1_7 : Nat} {c1_7 : Nat} {w : World} {R : Value → World → Prop} (h : S34 k0 x1_0 s1_1 s1_2 s1_3 x1_4 x1_5 x1_6 A1_7 n1_7 c1_7 w R) : Calls PP 34 #[(.pointer (some ⟨k0, 0, none⟩)), (.agg #[(.int .i64 x1_0), (.string s1_1), (.string s1_2), (.string s1_3), (.int .i64 x1_4), (.int .i64 x1_5), (.int .i64 x1_6), (.slice A1_7 n1_7 c1_7)])] w (Ret R) :=
 vcF_sound (c := C34) (ann := A34) follows_ Tryz.func34 (by kernel_rfl) (cast (by kernel_rfl) h)

/- sealwax/model.no -/
def S35 (x0 : Int) (w : World) (R : Value → World → Prop) : Prop :=
 NEW w (.cells #[(.int .i64 0), (.int .i64 0), (.string ⟨#[]⟩), (.slice none 0 0), (.slice none 0 0)] 35) fun k2 w1 =>
 ST w1 ⟨k2, 0, none⟩ 0 [(.int .i64 x0), (.int .i64 0), (.string ⟨#[]⟩), (.slice none 0 0), (.slice none 0 0)] fun w2 =>
 ∃ (x2r_0 : Int) (x2r_1 : Int) (s2r_2 : ByteArray) (A2r_3 : OA) (n2r_3 : Nat) (c2r_3 : Nat) (A2r_4 : OA) (n2r_4 : Nat) (c2r_4 : Nat), RD w2 ⟨k2, 0, none⟩ 0 [(.int .i64 x2r_0), (.int .i64 x2r_1), (.string s2r_2), (.slice A2r_3 n2r_3 c2r_3), (.slice A2r_4 n2r_4 c2r_4)] ∧
 R (.agg #[(.int .i64 x2r_0), (.int .i64 x2r_1), (.string s2r_2), (.slice A2r_3 n2r_3 c2r_3), (.slice A2r_4 n2r_4 c2r_4)]) w2
noncomputable def A35 : Ann := .leaf
noncomputable def C35 : Code := (Tryz.f35.body).getD .skip
theorem c35 {x0 : Int} {w : World} {R : Value → World → Prop} (h : S35 x0 w R) : Calls PP 35 #[(.int .i64 x0)] w (Ret R) :=
 vcF_sound (c := C35) (ann := A35) follows_ Tryz.func35 (by kernel_rfl) (cast (by kernel_rfl) h)

/- (*sealwax/model.Model).sweep -/
def S72 (k0 : Nat) (w : World) (R : Value → World → Prop) : Prop :=
 NEW w (.map #[] 0) fun k7 w1 =>
 NEW w1 (.cells #[(.map none)] 41) fun k2 w2 =>
 ST w2 ⟨k2, 0, none⟩ 0 [(.map (some k7))] fun w3 =>
 ∃ (m11 : Option Nat), w3.cell? ⟨k0, 1, none⟩ = some (.map m11) ∧
 RUN PP (Instr.range 79 (.map m11)) w3 fun r12 w4 =>
 ∃ p12 : OA, r12 = .pointer p12 ∧
 ∃ (I : World → Prop) (μ : World → Nat), I w4 ∧
 ∀ (_j : Nat → Value) (w5 : World), I w5 →
 RUN PP (Instr.next (.pointer p12) false 0) w5 fun r13 w6 =>
 ∃ (b13 : Bool) (l13 : List Value), r13 = .tuple ⟨.bool b13 :: l13⟩ ∧
 SPLIT b13 (
 RUN PP (Instr.entry (.pointer p12)) w6 fun r15 w7 =>
 ∃ (v15a : Value) (p15b : OA), r15 = .tuple #[v15a, (.pointer p15b)] ∧
 CALL PP 18 [(.pointer p15b)] w7 fun r18 w8 =>
 ∃ (A18 : OA) (n18 : Nat) (c18 : Nat), r18 = (.slice A18 n18 c18) ∧
 ∃ (I_1 : Int → World → Prop) (μ_1 : Int → World → Nat), I_1 (0 : Int) w8 ∧
 ∀ (_j : Nat → Value) (x20 : Int) (w9 : World), I_1 x20 w9 →
 SPLIT (decide (x20 < (n18 : Int))) (
 (0 ≤ x20 ∧ x20 < (n18 : Int)) ∧
 SOMEA A18 fun a22 =>
 ∃ (x23_0 : Int) (x23_1 : Int) (x23_2 : Int), RD w9 (Addr.add a22 (Int.toNat x20 * 3)) 0 [(.int .i64 x23_0), (.int .i64 x23_1), (.int .i64 x23_2)] ∧
 NEW w9 (.cells #[(.int .i64 0), (.int .i64 0), (.int .i64 0)] 53) fun k6 w10 =>
 ST w10 ⟨k6, 0, none⟩ 0 [(.int .i64 x23_0), (.int .i64 x23_1), (.int .i64 x23_2)] fun w11 =>
 ∃ (m24 : Option Nat), w11.cell? ⟨k2, 0, none⟩ = some (.map m24) ∧
 ∃ (x26 : Int), w11.cell? ⟨k6, 2, none⟩ = some (.int .i64 x26) ∧
 RUN PP (Instr.mapUpdate 41 (.map m24) (.int .i64 x26) (.bool true)) w11 fun _uq w12 =>
 I_1 (IntKind.wrap .i64 (x20 + (1 : Int))) w12 ∧ μ_1 (IntKind.wrap .i64 (x20 + (1 : Int))) w12 < μ_1 x20 w9) (
 I w9 ∧ μ w9 < μ w5)) (
 ∃ (m31 : Option Nat), w6.cell? ⟨k0, 2, none⟩ = some (.map m31) ∧
 CALL PP 111 [(.map m31), (.func (.func 112) #[] #[(.pointer (some ⟨k2, 0, none⟩))])] w6 fun r33 w7 =>
 r33 = (.tuple #[]) ∧
 R (.tuple #[]) w7)
noncomputable def A72 : Ann := (.two .leaf (.two (.two .leaf (.one (.loop 268427344 [] (.two .leaf (.two .leaf (.one (.two .leaf (.two .leaf (.one (.loop 267386944 [(20, .int .i64)] .leaf)))))))))) .leaf))
noncomputable def C72 : Code := (Tryz.f72.body).getD .skip
theorem c72 {k0 : Nat} {w : World} {R : Value → World → Prop} (h : S72 k0 w R) : Calls PP 72 #[(.pointer (some ⟨k0, 0, none⟩))] w (Ret R) :=
 vcF_sound (c := C72) (ann := A72) follows_ Tryz.func72 (by kernel_rfl) (cast (by kernel_rfl) h)

/- (*sealwax/model.Model).find -/
def S74 (k0 : Nat) (s1 : ByteArray) (w : World) (R : Value → World → Prop) : Prop :=
 ∃ (p12 : OA), w.cell? ⟨k0, 0, none⟩ = some (.pointer p12) ∧
 CALL PP 16 [(.pointer p12), (.string s1)] w fun r14 w1 =>
 ∃ (x14a : Int) (b14b : Bool), r14 = (.tuple #[(.int .i64 x14a), (.bool b14b)]) ∧
 ∃ (m20 : Option Nat), w1.cell? ⟨k0, 1, none⟩ = some (.map m20) ∧
 ∃ r22 : Value, (Instr.lookup 79 (.map m20) (.int .i64 x14a) false).run PP w1 = .ok r22 w1 ∧
 ∃ (p22 : OA), r22 = (.pointer p22) ∧
 R (.tuple #[(.pointer p22), (.bool b14b)]) w1
noncomputable def A74 : Ann := .leaf
noncomputable def C74 : Code := (Tryz.f74.body).getD .skip
theorem c74 {k0 : Nat} {s1 : ByteArray} {w : World} {R : Value → World → Prop} (h : S74 k0 s1 w R) : Calls PP 74 #[(.pointer (some ⟨k0, 0, none⟩)), (.string s1)] w (Ret R) :=
 vcF_sound (c := C74) (ann := A74) follows_ Tryz.func74 (by kernel_rfl) (cast (by kernel_rfl) h)

/- (*sealwax/model.Model).entries -/
def S75 (k0 : Nat) (x1_0 : Int) (s1_1 : ByteArray) (s1_2 : ByteArray) (s1_3 : ByteArray) (x1_4 : Int) (x1_5 : Int) (x1_6 : Int) (A1_7 : OA) (n1_7 : Nat) (c1_7 : Nat) (w : World) (R : Value → World → Prop) : Prop :=
 NEW w (.cells #[(.pointer (some ⟨k0, 0, none⟩))] 24) fun k2 w1 =>
 NEW w1 (.cells #[(.int .i64 x1_0), (.string s1_1), (.string s1_2), (.string s1_3), (.int .i64 x1_4), (.int .i64 x1_5), (.int .i64 x1_6), (.slice A1_7 n1_7 c1_7)] 28) fun k3 w2 =>
 R (.func (.func 117) #[] #[(.pointer (some ⟨k2, 0, none⟩)), (.pointer (some ⟨k3, 0, none⟩))]) w2
noncomputable def A75 : Ann := .leaf
noncomputable def C75 : Code := (Tryz.f75.body).getD .skip
theorem c75 {k0 : Nat} {x1_0 : Int} {s1_1 : ByteArray} {s1_2 : ByteArray} {s1_3 : ByteArray} {x1_4 : Int} {x1_5 : Int} {x1_6 : Int} {A1_7 : OA} {n1_7 : Nat} {c1_7 : Nat} {w : World} {R : Value → World → Prop} (h : S75 k0 x1_0 s1_1 s1_2 s1_3 x1_4 x1_5 x1_6 A1_7 n1_7 c1_7 w R) : Calls PP 75 #[(.pointer (some ⟨k0, 0, none⟩)), (.agg #[(.int .i64 x1_0), (.string s1_1), (.string s1_2), (.string s1_3), (.int .i64 x1_4), (.int .i64 x1_5), (.int .i64 x1_6), (.slice A1_7 n1_7 c1_7)])] w (Ret R) :=
 vcF_sound (c := C75) (ann := A75) follows_ Tryz.func75 (by kernel_rfl) (cast (by kernel_rfl) h)

/- sealwax/model.status -/
def S76 (k0 : Nat) (w : World) (R : Value → World → Prop) : Prop :=
 NEW w (.cells #[(.int .i64 0), (.int .i64 0), (.string ⟨#[]⟩), (.slice none 0 0), (.slice none 0 0)] 35) fun k2 w1 =>
 CALL PP 18 [(.pointer (some ⟨k0, 0, none⟩))] w1 fun r4 w2 =>
 ∃ (A4 : OA) (n4 : Nat) (c4 : Nat), r4 = (.slice A4 n4 c4) ∧
 CALL PP 105 [(.pointer (some ⟨k0, 0, none⟩))] w2 fun r7 w3 =>
 ∃ (x7 : Int), r7 = (.int .i64 x7) ∧
 CALL PP 54 [(.int .i64 x7)] w3 fun r8 w4 =>
 ∃ (s8 : ByteArray), r8 = (.string s8) ∧
 ((s8.size + (⟨#[32]⟩ : ByteArray).size : Nat) : Int) ≤ IntKind.max .i64 ∧
 CALL PP 104 [(.pointer (some ⟨k0, 0, none⟩))] w4 fun r11 w5 =>
 ∃ (x11 : Int), r11 = (.int .i64 x11) ∧
 CALL PP 54 [(.int .i64 x11)] w5 fun r12 w6 =>
 ∃ (s12 : ByteArray), r12 = (.string s12) ∧
 (((s8 ++ (⟨#[32]⟩ : ByteArray)).size + s12.size : Nat) : Int) ≤ IntKind.max .i64 ∧
 ((((s8 ++ (⟨#[32]⟩ : ByteArray)) ++ s12).size + (⟨#[32]⟩ : ByteArray).size : Nat) : Int) ≤ IntKind.max .i64 ∧
 CALL PP 106 [(.pointer (some ⟨k0, 0, none⟩))] w6 fun r16 w7 =>
 ∃ (x16 : Int), r16 = (.int .i64 x16) ∧
 CALL PP 54 [(.int .i64 x16)] w7 fun r17 w8 =>
 ∃ (s17 : ByteArray), r17 = (.string s17) ∧
 (((((s8 ++ (⟨#[32]⟩ : ByteArray)) ++ s12) ++ (⟨#[32]⟩ : ByteArray)).size + s17.size : Nat) : Int) ≤ IntKind.max .i64 ∧
 ST w8 ⟨k2, 0, none⟩ 0 [(.int .i64 0), (.int .i64 (n4 : Int)), (.string ((((s8 ++ (⟨#[32]⟩ : ByteArray)) ++ s12) ++ (⟨#[32]⟩ : ByteArray)) ++ s17)), (.slice none 0 0), (.slice none 0 0)] fun w9 =>
 ∃ (x2r_0 : Int) (x2r_1 : Int) (s2r_2 : ByteArray) (A2r_3 : OA) (n2r_3 : Nat) (c2r_3 : Nat) (A2r_4 : OA) (n2r_4 : Nat) (c2r_4 : Nat), RD w9 ⟨k2, 0, none⟩ 0 [(.int .i64 x2r_0), (.int .i64 x2r_1), (.string s2r_2), (.slice A2r_3 n2r_3 c2r_3), (.slice A2r_4 n2r_4 c2r_4)] ∧
 R (.agg #[(.int .i64 x2r_0), (.int .i64 x2r_1), (.string s2r_2), (.slice A2r_3 n2r_3 c2r_3), (.slice A2r_4 n2r_4 c2r_4)]) w9
noncomputable def A76 : Ann := .leaf
noncomputable def C76 : Code := (Tryz.f76.body).getD .skip
theorem c76 {k0 : Nat} {w : World} {R : Value → World → Prop} (h : S76 k0 w R) : Calls PP 76 #[(.pointer (some ⟨k0, 0, none⟩))] w (Ret R) :=
 vcF_sound (c := C76) (ann := A76) follows_ Tryz.func76 (by kernel_rfl) (cast (by kernel_rfl) h)

/- (*sealwax/model.Model).append -/
def S77 (k0 : Nat) (k1 : Nat) (x2_0 : Int) (s2_1 : ByteArray) (s2_2 : ByteArray) (s2_3 : ByteArray) (x2_4 : Int) (x2_5 : Int) (x2_6 : Int) (A2_7 : OA) (n2_7 : Nat) (c2_7 : Nat) (w : World) (R : Value → World → Prop) : Prop :=
 NEW w (.cells #[(.int .i64 x2_0), (.string s2_1), (.string s2_2), (.string s2_3), (.int .i64 x2_4), (.int .i64 x2_5), (.int .i64 x2_6), (.slice A2_7 n2_7 c2_7)] 28) fun k5 w1 =>
 NEW w1 (.cells #[(.int .i64 0), (.int .i64 0), (.string ⟨#[]⟩), (.slice none 0 0), (.slice none 0 0)] 35) fun k6 w2 =>
 ∃ (s9 : ByteArray), w2.cell? ⟨k5, 3, none⟩ = some (.string s9) ∧
 SPLIT (decide ((s9.size : Int) > (4096 : Int))) (
 CALL PP 35 [(.int .i64 3)] w2 fun r12 w3 =>
 ∃ (x12_0 : Int) (x12_1 : Int) (s12_2 : ByteArray) (A12_3 : OA) (n12_3 : Nat) (c12_3 : Nat) (A12_4 : OA) (n12_4 : Nat) (c12_4 : Nat), r12 = (.agg #[(.int .i64 x12_0), (.int .i64 x12_1), (.string s12_2), (.slice A12_3 n12_3 c12_3), (.slice A12_4 n12_4 c12_4)]) ∧
 ST w3 ⟨k6, 0, none⟩ 0 [(.int .i64 x12_0), (.int .i64 x12_1), (.string s12_2), (.slice A12_3 n12_3 c12_3), (.slice A12_4 n12_4 c12_4)] fun w4 =>
 ∃ (x6r_0 : Int) (x6r_1 : Int) (s6r_2 : ByteArray) (A6r_3 : OA) (n6r_3 : Nat) (c6r_3 : Nat) (A6r_4 : OA) (n6r_4 : Nat) (c6r_4 : Nat), RD w4 ⟨k6, 0, none⟩ 0 [(.int .i64 x6r_0), (.int .i64 x6r_1), (.string s6r_2), (.slice A6r_3 n6r_3 c6r_3), (.slice A6r_4 n6r_4 c6r_4)] ∧
 R (.agg #[(.int .i64 x6r_0), (.int .i64 x6r_1), (.string s6r_2), (.slice A6r_3 n6r_3 c6r_3), (.slice A6r_4 n6r_4 c6r_4)]) w4) (
 DRAW w2 fun w3 =>
 ∃ (x17 : Int), w3.cell? ⟨k0, 3, none⟩ = some (.int .i64 x17) ∧
 ∃ (x19 : Int), w3.cell? ⟨k5, 5, none⟩ = some (.int .i64 x19) ∧
 (
 CALL PP 118 [(.pointer (some ⟨k1, 0, none⟩)), (.int .i64 x17), (.int .i64 x19)] w3 fun r20 w4 =>
 ∃ (x20_0 : Int) (x20_1 : Int) (s20_2 : ByteArray) (A20_3 : OA) (n20_3 : Nat) (c20_3 : Nat) (A20_4 : OA) (n20_4 : Nat) (c20_4 : Nat), r20 = (.agg #[(.int .i64 x20_0), (.int .i64 x20_1), (.string s20_2), (.slice A20_3 n20_3 c20_3), (.slice A20_4 n20_4 c20_4)]) ∧
 NEW w4 (.cells #[(.int .i64 0), (.int .i64 0), (.string ⟨#[]⟩), (.slice none 0 0), (.slice none 0 0)] 35) fun k7 w5 =>
 ST w5 ⟨k7, 0, none⟩ 0 [(.int .i64 x20_0), (.int .i64 x20_1), (.string s20_2), (.slice A20_3 n20_3 c20_3), (.slice A20_4 n20_4 c20_4)] fun w6 =>
 ∃ (x22 : Int), w6.cell? ⟨k7, 0, none⟩ = some (.int .i64 x22) ∧
 SPLIT (x22 == (0 : Int)) (
 DRAW w6 fun w7 =>
 ∃ (m27 : Option Nat), w7.cell? ⟨k0, 2, none⟩ = some (.map m27) ∧
 ∃ (x31 : Int), w7.cell? ⟨k0, 3, none⟩ = some (.int .i64 x31) ∧
 ∃ (s33 : ByteArray), w7.cell? ⟨k5, 3, none⟩ = some (.string s33) ∧
 RUN PP (Instr.mapUpdate 80 (.map m27) (.int .i64 x31) (.string s33)) w7 fun _uq w8 =>
 ∃ (x37 : Int), w8.cell? ⟨k0, 3, none⟩ = some (.int .i64 x37) ∧
 ST w8 ⟨k0, 3, none⟩ 0 [(.int .i64 (IntKind.wrap .i64 (x37 + (1 : Int))))] fun w9 =>
 ∃ (x41_0 : Int) (x41_1 : Int) (s41_2 : ByteArray) (A41_3 : OA) (n41_3 : Nat) (c41_3 : Nat) (A41_4 : OA) (n41_4 : Nat) (c41_4 : Nat), RD w9 ⟨k7, 0, none⟩ 0 [(.int .i64 x41_0), (.int .i64 x41_1), (.string s41_2), (.slice A41_3 n41_3 c41_3), (.slice A41_4 n41_4 c41_4)] ∧
 ST w9 ⟨k6, 0, none⟩ 0 [(.int .i64 x41_0), (.int .i64 x41_1), (.string s41_2), (.slice A41_3 n41_3 c41_3), (.slice A41_4 n41_4 c41_4)] fun w10 =>
 ∃ (x6r_0 : Int) (x6r_1 : Int) (s6r_2 : ByteArray) (A6r_3 : OA) (n6r_3 : Nat) (c6r_3 : Nat) (A6r_4 : OA) (n6r_4 : Nat) (c6r_4 : Nat), RD w10 ⟨k6, 0, none⟩ 0 [(.int .i64 x6r_0), (.int .i64 x6r_1), (.string s6r_2), (.slice A6r_3 n6r_3 c6r_3), (.slice A6r_4 n6r_4 c6r_4)] ∧
 R (.agg #[(.int .i64 x6r_0), (.int .i64 x6r_1), (.string s6r_2), (.slice A6r_3 n6r_3 c6r_3), (.slice A6r_4 n6r_4 c6r_4)]) w10) (
 ∃ (x41_0 : Int) (x41_1 : Int) (s41_2 : ByteArray) (A41_3 : OA) (n41_3 : Nat) (c41_3 : Nat) (A41_4 : OA) (n41_4 : Nat) (c41_4 : Nat), RD w6 ⟨k7, 0, none⟩ 0 [(.int .i64 x41_0), (.int .i64 x41_1), (.string s41_2), (.slice A41_3 n41_3 c41_3), (.slice A41_4 n41_4 c41_4)] ∧
 ST w6 ⟨k6, 0, none⟩ 0 [(.int .i64 x41_0), (.int .i64 x41_1), (.string s41_2), (.slice A41_3 n41_3 c41_3), (.slice A41_4 n41_4 c41_4)] fun w7 =>
 ∃ (x6r_0 : Int) (x6r_1 : Int) (s6r_2 : ByteArray) (A6r_3 : OA) (n6r_3 : Nat) (c6r_3 : Nat) (A6r_4 : OA) (n6r_4 : Nat) (c6r_4 : Nat), RD w7 ⟨k6, 0, none⟩ 0 [(.int .i64 x6r_0), (.int .i64 x6r_1), (.string s6r_2), (.slice A6r_3 n6r_3 c6r_3), (.slice A6r_4 n6r_4 c6r_4)] ∧
 R (.agg #[(.int .i64 x6r_0), (.int .i64 x6r_1), (.string s6r_2), (.slice A6r_3 n6r_3 c6r_3), (.slice A6r_4 n6r_4 c6r_4)]) w7)) ∧
 (
 NEW w3 (.cells #[(.int .i64 0), (.int .i64 0), (.string ⟨#[]⟩), (.slice none 0 0), (.slice none 0 0)] 35) fun k7 w4 =>
 (loadVar 3 ⟨k5, 5, none⟩).run PP w4 = .ok (.int .i64 x19) w4 ∧
 (loadVar 3 ⟨k0, 3, none⟩).run PP w4 = .ok (.int .i64 x17) w4 ∧
 CALL PP 118 [(.pointer (some ⟨k1, 0, none⟩)), (.int .i64 x17), (.int .i64 x19)] w4 fun r20 w5 =>
 ∃ (x20_0 : Int) (x20_1 : Int) (s20_2 : ByteArray) (A20_3 : OA) (n20_3 : Nat) (c20_3 : Nat) (A20_4 : OA) (n20_4 : Nat) (c20_4 : Nat), r20 = (.agg #[(.int .i64 x20_0), (.int .i64 x20_1), (.string s20_2), (.slice A20_3 n20_3 c20_3), (.slice A20_4 n20_4 c20_4)]) ∧
 ST w5 ⟨k7, 0, none⟩ 0 [(.int .i64 x20_0), (.int .i64 x20_1), (.string s20_2), (.slice A20_3 n20_3 c20_3), (.slice A20_4 n20_4 c20_4)] fun w6 =>
 ∃ (x22 : Int), w6.cell? ⟨k7, 0, none⟩ = some (.int .i64 x22) ∧
 SPLIT (x22 == (0 : Int)) (
 DRAW w6 fun w7 =>
 ∃ (m27 : Option Nat), w7.cell? ⟨k0, 2, none⟩ = some (.map m27) ∧
 ∃ (x31 : Int), w7.cell? ⟨k0, 3, none⟩ = some (.int .i64 x31) ∧
 ∃ (s33 : ByteArray), w7.cell? ⟨k5, 3, none⟩ = some (.string s33) ∧
 RUN PP (Instr.mapUpdate 80 (.map m27) (.int .i64 x31) (.string s33)) w7 fun _uq w8 =>
 ∃ (x37 : Int), w8.cell? ⟨k0, 3, none⟩ = some (.int .i64 x37) ∧
 ST w8 ⟨k0, 3, none⟩ 0 [(.int .i64 (IntKind.wrap .i64 (x37 + (1 : Int))))] fun w9 =>
 ∃ (x41_0 : Int) (x41_1 : Int) (s41_2 : ByteArray) (A41_3 : OA) (n41_3 : Nat) (c41_3 : Nat) (A41_4 : OA) (n41_4 : Nat) (c41_4 : Nat), RD w9 ⟨k7, 0, none⟩ 0 [(.int .i64 x41_0), (.int .i64 x41_1), (.string s41_2), (.slice A41_3 n41_3 c41_3), (.slice A41_4 n41_4 c41_4)] ∧
 ST w9 ⟨k6, 0, none⟩ 0 [(.int .i64 x41_0), (.int .i64 x41_1), (.string s41_2), (.slice A41_3 n41_3 c41_3), (.slice A41_4 n41_4 c41_4)] fun w10 =>
 ∃ (x6r_0 : Int) (x6r_1 : Int) (s6r_2 : ByteArray) (A6r_3 : OA) (n6r_3 : Nat) (c6r_3 : Nat) (A6r_4 : OA) (n6r_4 : Nat) (c6r_4 : Nat), RD w10 ⟨k6, 0, none⟩ 0 [(.int .i64 x6r_0), (.int .i64 x6r_1), (.string s6r_2), (.slice A6r_3 n6r_3 c6r_3), (.slice A6r_4 n6r_4 c6r_4)] ∧
 R (.agg #[(.int .i64 x6r_0), (.int .i64 x6r_1), (.string s6r_2), (.slice A6r_3 n6r_3 c6r_3), (.slice A6r_4 n6r_4 c6r_4)]) w10) (
 ∃ (x41_0 : Int) (x41_1 : Int) (s41_2 : ByteArray) (A41_3 : OA) (n41_3 : Nat) (c41_3 : Nat) (A41_4 : OA) (n41_4 : Nat) (c41_4 : Nat), RD w6 ⟨k7, 0, none⟩ 0 [(.int .i64 x41_0), (.int .i64 x41_1), (.string s41_2), (.slice A41_3 n41_3 c41_3), (.slice A41_4 n41_4 c41_4)] ∧
 ST w6 ⟨k6, 0, none⟩ 0 [(.int .i64 x41_0), (.int .i64 x41_1), (.string s41_2), (.slice A41_3 n41_3 c41_3), (.slice A41_4 n41_4 c41_4)] fun w7 =>
 ∃ (x6r_0 : Int) (x6r_1 : Int) (s6r_2 : ByteArray) (A6r_3 : OA) (n6r_3 : Nat) (c6r_3 : Nat) (A6r_4 : OA) (n6r_4 : Nat) (c6r_4 : Nat), RD w7 ⟨k6, 0, none⟩ 0 [(.int .i64 x6r_0), (.int .i64 x6r_1), (.string s6r_2), (.slice A6r_3 n6r_3 c6r_3), (.slice A6r_4 n6r_4 c6r_4)] ∧
 R (.agg #[(.int .i64 x6r_0), (.int .i64 x6r_1), (.string s6r_2), (.slice A6r_3 n6r_3 c6r_3), (.slice A6r_4 n6r_4 c6r_4)]) w7)))
noncomputable def A77 : Ann := .leaf
noncomputable def C77 : Code := (Tryz.f77.body).getD .skip
theorem c77 {k0 : Nat} {k1 : Nat} {x2_0 : Int} {s2_1 : ByteArray} {s2_2 : ByteArray} {s2_3 : ByteArray} {x2_4 : Int} {x2_5 : Int} {x2_6 : Int} {A2_7 : OA} {n2_7 : Nat} {c2_7 : Nat} {w : World} {R : Value → World → Prop} (h : S77 k0 k1 x2_0 s2_1 s2_2 s2_3 x2_4 x2_5 x2_6 A2_7 n2_7 c2_7 w R) : Calls PP 77 #[(.pointer (some ⟨k0, 0, none⟩)), (.pointer (some ⟨k1, 0, none⟩)), (.agg #[(.int .i64 x2_0), (.string s2_1), (.string s2_2), (.string s2_3), (.int .i64 x2_4), (.int .i64 x2_5), (.int .i64 x2_6), (.slice A2_7 n2_7 c2_7)])] w (Ret R) :=
 vcF_sound (c := C77) (ann := A77) follows_ Tryz.func77 (by kernel_rfl) (cast (by kernel_rfl) h)

/- (*sealwax/model.Model).fetch -/
def S78 (k0 : Nat) (k1 : Nat) (x2_0 : Int) (s2_1 : ByteArray) (s2_2 : ByteArray) (s2_3 : ByteArray) (x2_4 : Int) (x2_5 : Int) (x2_6 : Int) (A2_7 : OA) (n2_7 : Nat) (c2_7 : Nat) (w : World) (R : Value → World → Prop) : Prop :=
 NEW w (.cells #[(.int .i64 x2_0), (.string s2_1), (.string s2_2), (.string s2_3), (.int .i64 x2_4), (.int .i64 x2_5), (.int .i64 x2_6), (.slice A2_7 n2_7 c2_7)] 28) fun k5 w1 =>
 NEW w1 (.cells #[(.int .i64 0), (.int .i64 0), (.string ⟨#[]⟩), (.slice none 0 0), (.slice none 0 0)] 35) fun k6 w2 =>
 ∃ (x12 : Int), w2.cell? ⟨k5, 4, none⟩ = some (.int .i64 x12) ∧
 CALL PP 119 [(.pointer (some ⟨k1, 0, none⟩)), (.int .i64 x12)] w2 fun r13 w3 =>
 ∃ (x13a_0 : Int) (x13a_1 : Int) (x13a_2 : Int) (x13b : Int), r13 = (.tuple #[(.agg #[(.int .i64 x13a_0), (.int .i64 x13a_1), (.int .i64 x13a_2)]), (.int .i64 x13b)]) ∧
 NEW w3 (.cells #[(.int .i64 0), (.int .i64 0), (.int .i64 0)] 53) fun k7 w4 =>
 ST w4 ⟨k7, 0, none⟩ 0 [(.int .i64 x13a_0), (.int .i64 x13a_1), (.int .i64 x13a_2)] fun w5 =>
 SPLIT (x13b != (0 : Int)) (
 CALL PP 35 [(.int .i64 x13b)] w5 fun r19 w6 =>
 ∃ (x19_0 : Int) (x19_1 : Int) (s19_2 : ByteArray) (A19_3 : OA) (n19_3 : Nat) (c19_3 : Nat) (A19_4 : OA) (n19_4 : Nat) (c19_4 : Nat), r19 = (.agg #[(.int .i64 x19_0), (.int .i64 x19_1), (.string s19_2), (.slice A19_3 n19_3 c19_3), (.slice A19_4 n19_4 c19_4)]) ∧
 ST w6 ⟨k6, 0, none⟩ 0 [(.int .i64 x19_0), (.int .i64 x19_1), (.string s19_2), (.slice A19_3 n19_3 c19_3), (.slice A19_4 n19_4 c19_4)] fun w7 =>
 ∃ (x6r_0 : Int) (x6r_1 : Int) (s6r_2 : ByteArray) (A6r_3 : OA) (n6r_3 : Nat) (c6r_3 : Nat) (A6r_4 : OA) (n6r_4 : Nat) (c6r_4 : Nat), RD w7 ⟨k6, 0, none⟩ 0 [(.int .i64 x6r_0), (.int .i64 x6r_1), (.string s6r_2), (.slice A6r_3 n6r_3 c6r_3), (.slice A6r_4 n6r_4 c6r_4)] ∧
 R (.agg #[(.int .i64 x6r_0), (.int .i64 x6r_1), (.string s6r_2), (.slice A6r_3 n6r_3 c6r_3), (.slice A6r_4 n6r_4 c6r_4)]) w7) (
 DRAW w5 fun w6 =>
 ∃ (x21 : Int), w6.cell? ⟨k7, 1, none⟩ = some (.int .i64 x21) ∧
 ∃ (m25 : Option Nat), w6.cell? ⟨k0, 2, none⟩ = some (.map m25) ∧
 ∃ (x27 : Int), w6.cell? ⟨k7, 2, none⟩ = some (.int .i64 x27) ∧
 ∃ r28 : Value, (Instr.lookup 80 (.map m25) (.int .i64 x27) false).run PP w6 = .ok r28 w6 ∧
 ∃ (s28 : ByteArray), r28 = (.string s28) ∧
 ST w6 ⟨k6, 0, none⟩ 0 [(.int .i64 0), (.int .i64 x21), (.string s28), (.slice none 0 0), (.slice none 0 0)] fun w7 =>
 ∃ (x6r_0 : Int) (x6r_1 : Int) (s6r_2 : ByteArray) (A6r_3 : OA) (n6r_3 : Nat) (c6r_3 : Nat) (A6r_4 : OA) (n6r_4 : Nat) (c6r_4 : Nat), RD w7 ⟨k6, 0, none⟩ 0 [(.int .i64 x6r_0), (.int .i64 x6r_1), (.string s6r_2), (.slice A6r_3 n6r_3 c6r_3), (.slice A6r_4 n6r_4 c6r_4)] ∧
 R (.agg #[(.int .i64 x6r_0), (.int .i64 x6r_1), (.string s6r_2), (.slice A6r_3 n6r_3 c6r_3), (.slice A6r_4 n6r_4 c6r_4)]) w7)
noncomputable def A78 : Ann := .leaf
noncomputable def C78 : Code := (Tryz.f78.body).getD .skip
theorem c78 {k0 : Nat} {k1 : Nat} {x2_0 : Int} {s2_1 : ByteArray} {s2_2 : ByteArray} {s2_3 : ByteArray} {x2_4 : Int} {x2_5 : Int} {x2_6 : Int} {A2_7 : OA} {n2_7 : Nat} {c2_7 : Nat} {w : World} {R : Value → World → Prop} (h : S78 k0 k1 x2_0 s2_1 s2_2 s2_3 x2_4 x2_5 x2_6 A2_7 n2_7 c2_7 w R) : Calls PP 78 #[(.pointer (some ⟨k0, 0, none⟩)), (.pointer (some ⟨k1, 0, none⟩)), (.agg #[(.int .i64 x2_0), (.string s2_1), (.string s2_2), (.string s2_3), (.int .i64 x2_4), (.int .i64 x2_5), (.int .i64 x2_6), (.slice A2_7 n2_7 c2_7)])] w (Ret R) :=
 vcF_sound (c := C78) (ann := A78) follows_ Tryz.func78 (by kernel_rfl) (cast (by kernel_rfl) h)

/- (*sealwax/model.Model).copy -/
def S79 (k0 : Nat) (k1 : Nat) (x2_0 : Int) (s2_1 : ByteArray) (s2_2 : ByteArray) (s2_3 : ByteArray) (x2_4 : Int) (x2_5 : Int) (x2_6 : Int) (A2_7 : OA) (n2_7 : Nat) (c2_7 : Nat) (w : World) (R : Value → World → Prop) : Prop :=
 NEW w (.cells #[(.int .i64 x2_0), (.string s2_1), (.string s2_2), (.string s2_3), (.int .i64 x2_4), (.int .i64 x2_5), (.int .i64 x2_6), (.slice A2_7 n2_7 c2_7)] 28) fun k5 w1 =>
 NEW w1 (.cells #[(.int .i64 0), (.int .i64 0), (.string ⟨#[]⟩), (.slice none 0 0), (.slice none 0 0)] 35) fun k6 w2 =>
 ∃ (s15 : ByteArray), w2.cell? ⟨k5, 2, none⟩ = some (.string s15) ∧
 CALL PP 74 [(.pointer (some ⟨k0, 0, none⟩)), (.string s15)] w2 fun r16 w3 =>
 ∃ (p16a : OA) (b16b : Bool), r16 = (.tuple #[(.pointer p16a), (.bool b16b)]) ∧
 SPLIT (!b16b) (
 CALL PP 35 [(.int .i64 5)] w3 fun r21 w4 =>
 ∃ (x21_0 : Int) (x21_1 : Int) (s21_2 : ByteArray) (A21_3 : OA) (n21_3 : Nat) (c21_3 : Nat) (A21_4 : OA) (n21_4 : Nat) (c21_4 : Nat), r21 = (.agg #[(.int .i64 x21_0), (.int .i64 x21_1), (.string s21_2), (.slice A21_3 n21_3 c21_3), (.slice A21_4 n21_4 c21_4)]) ∧
 ST w4 ⟨k6, 0, none⟩ 0 [(.int .i64 x21_0), (.int .i64 x21_1), (.string s21_2), (.slice A21_3 n21_3 c21_3), (.slice A21_4 n21_4 c21_4)] fun w5 =>
 ∃ (x6r_0 : Int) (x6r_1 : Int) (s6r_2 : ByteArray) (A6r_3 : OA) (n6r_3 : Nat) (c6r_3 : Nat) (A6r_4 : OA) (n6r_4 : Nat) (c6r_4 : Nat), RD w5 ⟨k6, 0, none⟩ 0 [(.int .i64 x6r_0), (.int .i64 x6r_1), (.string s6r_2), (.slice A6r_3 n6r_3 c6r_3), (.slice A6r_4 n6r_4 c6r_4)] ∧
 R (.agg #[(.int .i64 x6r_0), (.int .i64 x6r_1), (.string s6r_2), (.slice A6r_3 n6r_3 c6r_3), (.slice A6r_4 n6r_4 c6r_4)]) w5) (
 ∃ (x25 : Int), w3.cell? ⟨k5, 4, none⟩ = some (.int .i64 x25) ∧
 CALL PP 119 [(.pointer (some ⟨k1, 0, none⟩)), (.int .i64 x25)] w3 fun r26 w4 =>
 ∃ (x26a_0 : Int) (x26a_1 : Int) (x26a_2 : Int) (x26b : Int), r26 = (.tuple #[(.agg #[(.int .i64 x26a_0), (.int .i64 x26a_1), (.int .i64 x26a_2)]), (.int .i64 x26b)]) ∧
 NEW w4 (.cells #[(.int .i64 0), (.int .i64 0), (.int .i64 0)] 53) fun k9 w5 =>
 ST w5 ⟨k9, 0, none⟩ 0 [(.int .i64 x26a_0), (.int .i64 x26a_1), (.int .i64 x26a_2)] fun w6 =>
 SPLIT (x26b != (0 : Int)) (
 CALL PP 35 [(.int .i64 x26b)] w6 fun r32 w7 =>
 ∃ (x32_0 : Int) (x32_1 : Int) (s32_2 : ByteArray) (A32_3 : OA) (n32_3 : Nat) (c32_3 : Nat) (A32_4 : OA) (n32_4 : Nat) (c32_4 : Nat), r32 = (.agg #[(.int .i64 x32_0), (.int .i64 x32_1), (.string s32_2), (.slice A32_3 n32_3 c32_3), (.slice A32_4 n32_4 c32_4)]) ∧
 ST w7 ⟨k6, 0, none⟩ 0 [(.int .i64 x32_0), (.int .i64 x32_1), (.string s32_2), (.slice A32_3 n32_3 c32_3), (.slice A32_4 n32_4 c32_4)] fun w8 =>
 ∃ (x6r_0 : Int) (x6r_1 : Int) (s6r_2 : ByteArray) (A6r_3 : OA) (n6r_3 : Nat) (c6r_3 : Nat) (A6r_4 : OA) (n6r_4 : Nat) (c6r_4 : Nat), RD w8 ⟨k6, 0, none⟩ 0 [(.int .i64 x6r_0), (.int .i64 x6r_1), (.string s6r_2), (.slice A6r_3 n6r_3 c6r_3), (.slice A6r_4 n6r_4 c6r_4)] ∧
 R (.agg #[(.int .i64 x6r_0), (.int .i64 x6r_1), (.string s6r_2), (.slice A6r_3 n6r_3 c6r_3), (.slice A6r_4 n6r_4 c6r_4)]) w8) (
 ∃ (x35 : Int), w6.cell? ⟨k9, 2, none⟩ = some (.int .i64 x35) ∧
 ∃ (x37 : Int), w6.cell? ⟨k9, 1, none⟩ = some (.int .i64 x37) ∧
 CALL PP 118 [(.pointer p16a), (.int .i64 x35), (.int .i64 x37)] w6 fun r38 w7 =>
 ∃ (x38_0 : Int) (x38_1 : Int) (s38_2 : ByteArray) (A38_3 : OA) (n38_3 : Nat) (c38_3 : Nat) (A38_4 : OA) (n38_4 : Nat) (c38_4 : Nat), r38 = (.agg #[(.int .i64 x38_0), (.int .i64 x38_1), (.string s38_2), (.slice A38_3 n38_3 c38_3), (.slice A38_4 n38_4 c38_4)]) ∧
 NEW w7 (.cells #[(.int .i64 0), (.int .i64 0), (.string ⟨#[]⟩), (.slice none 0 0), (.slice none 0 0)] 35) fun k11 w8 =>
 ST w8 ⟨k11, 0, none⟩ 0 [(.int .i64 x38_0), (.int .i64 x38_1), (.string s38_2), (.slice A38_3 n38_3 c38_3), (.slice A38_4 n38_4 c38_4)] fun w9 =>
 ∃ (x40 : Int), w9.cell? ⟨k11, 0, none⟩ = some (.int .i64 x40) ∧
 SPLIT (x40 == (0 : Int)) (
 ∃ (x44 : Int), w9.cell? ⟨k5, 0, none⟩ = some (.int .i64 x44) ∧
 SPLIT (x44 == (9 : Int)) (
 ∃ (x49 : Int), w9.cell? ⟨k5, 4, none⟩ = some (.int .i64 x49) ∧
 CALL PP 120 [(.pointer (some ⟨k1, 0, none⟩)), (.int .i64 x49)] w9 fun r50 w10 =>
 ∃ (x50a_0 : Int) (x50a_1 : Int) (x50a_2 : Int) (x50b : Int), r50 = (.tuple #[(.agg #[(.int .i64 x50a_0), (.int .i64 x50a_1), (.int .i64 x50a_2)]), (.int .i64 x50b)]) ∧
 ∃ (x51_0 : Int) (x51_1 : Int) (s51_2 : ByteArray) (A51_3 : OA) (n51_3 : Nat) (c51_3 : Nat) (A51_4 : OA) (n51_4 : Nat) (c51_4 : Nat), RD w10 ⟨k11, 0, none⟩ 0 [(.int .i64 x51_0), (.int .i64 x51_1), (.string s51_2), (.slice A51_3 n51_3 c51_3), (.slice A51_4 n51_4 c51_4)] ∧
 ST w10 ⟨k6, 0, none⟩ 0 [(.int .i64 x51_0), (.int .i64 x51_1), (.string s51_2), (.slice A51_3 n51_3 c51_3), (.slice A51_4 n51_4 c51_4)] fun w11 =>
 ∃ (x6r_0 : Int) (x6r_1 : Int) (s6r_2 : ByteArray) (A6r_3 : OA) (n6r_3 : Nat) (c6r_3 : Nat) (A6r_4 : OA) (n6r_4 : Nat) (c6r_4 : Nat), RD w11 ⟨k6, 0, none⟩ 0 [(.int .i64 x6r_0), (.int .i64 x6r_1), (.string s6r_2), (.slice A6r_3 n6r_3 c6r_3), (.slice A6r_4 n6r_4 c6r_4)] ∧
 R (.agg #[(.int .i64 x6r_0), (.int .i64 x6r_1), (.string s6r_2), (.slice A6r_3 n6r_3 c6r_3), (.slice A6r_4 n6r_4 c6r_4)]) w11) (
 ∃ (x51_0 : Int) (x51_1 : Int) (s51_2 : ByteArray) (A51_3 : OA) (n51_3 : Nat) (c51_3 : Nat) (A51_4 : OA) (n51_4 : Nat) (c51_4 : Nat), RD w9 ⟨k11, 0, none⟩ 0 [(.int .i64 x51_0), (.int .i64 x51_1), (.string s51_2), (.slice A51_3 n51_3 c51_3), (.slice A51_4 n51_4 c51_4)] ∧
 ST w9 ⟨k6, 0, none⟩ 0 [(.int .i64 x51_0), (.int .i64 x51_1), (.string s51_2), (.slice A51_3 n51_3 c51_3), (.slice A51_4 n51_4 c51_4)] fun w10 =>
 ∃ (x6r_0 : Int) (x6r_1 : Int) (s6r_2 : ByteArray) (A6r_3 : OA) (n6r_3 : Nat) (c6r_3 : Nat) (A6r_4 : OA) (n6r_4 : Nat) (c6r_4 : Nat), RD w10 ⟨k6, 0, none⟩ 0 [(.int .i64 x6r_0), (.int .i64 x6r_1), (.string s6r_2), (.slice A6r_3 n6r_3 c6r_3), (.slice A6r_4 n6r_4 c6r_4)] ∧
 R (.agg #[(.int .i64 x6r_0), (.int .i64 x6r_1), (.string s6r_2), (.slice A6r_3 n6r_3 c6r_3), (.slice A6r_4 n6r_4 c6r_4)]) w10)) (
 ∃ (x51_0 : Int) (x51_1 : Int) (s51_2 : ByteArray) (A51_3 : OA) (n51_3 : Nat) (c51_3 : Nat) (A51_4 : OA) (n51_4 : Nat) (c51_4 : Nat), RD w9 ⟨k11, 0, none⟩ 0 [(.int .i64 x51_0), (.int .i64 x51_1), (.string s51_2), (.slice A51_3 n51_3 c51_3), (.slice A51_4 n51_4 c51_4)] ∧
 ST w9 ⟨k6, 0, none⟩ 0 [(.int .i64 x51_0), (.int .i64 x51_1), (.string s51_2), (.slice A51_3 n51_3 c51_3), (.slice A51_4 n51_4 c51_4)] fun w10 =>
 ∃ (x6r_0 : Int) (x6r_1 : Int) (s6r_2 : ByteArray) (A6r_3 : OA) (n6r_3 : Nat) (c6r_3 : Nat) (A6r_4 : OA) (n6r_4 : Nat) (c6r_4 : Nat), RD w10 ⟨k6, 0, none⟩ 0 [(.int .i64 x6r_0), (.int .i64 x6r_1), (.string s6r_2), (.slice A6r_3 n6r_3 c6r_3), (.slice A6r_4 n6r_4 c6r_4)] ∧
 R (.agg #[(.int .i64 x6r_0), (.int .i64 x6r_1), (.string s6r_2), (.slice A6r_3 n6r_3 c6r_3), (.slice A6r_4 n6r_4 c6r_4)]) w10)))
noncomputable def A79 : Ann := .leaf
noncomputable def C79 : Code := (Tryz.f79.body).getD .skip
theorem c79 {k0 : Nat} {k1 : Nat} {x2_0 : Int} {s2_1 : ByteArray} {s2_2 : ByteArray} {s2_3 : ByteArray} {x2_4 : Int} {x2_5 : Int} {x2_6 : Int} {A2_7 : OA} {n2_7 : Nat} {c2_7 : Nat} {w : World} {R : Value → World → Prop} (h : S79 k0 k1 x2_0 s2_1 s2_2 s2_3 x2_4 x2_5 x2_6 A2_7 n2_7 c2_7 w R) : Calls PP 79 #[(.pointer (some ⟨k0, 0, none⟩)), (.pointer (some ⟨k1, 0, none⟩)), (.agg #[(.int .i64 x2_0), (.string s2_1), (.string s2_2), (.string s2_3), (.int .i64 x2_4), (.int .i64 x2_5), (.int .i64 x2_6), (.slice A2_7 n2_7 c2_7)])] w (Ret R) :=
 vcF_sound (c := C79) (ann := A79) follows_ Tryz.func79 (by kernel_rfl) (cast (by kernel_rfl) h)

/- (*sealwax/model.Model).expunge -/
def S81 (k0 : Nat) (k1 : Nat) (s2 : ByteArray) (w : World) (R : Value → World → Prop) : Prop :=
 NEW w (.cells #[(.int .i64 0), (.int .i64 0), (.string ⟨#[]⟩), (.slice none 0 0), (.slice none 0 0)] 35) fun k6 w1 =>
 NEW w1 (.cells #[(.int .i64 0), (.int .i64 0), (.string ⟨#[]⟩), (.slice none 0 0), (.slice none 0 0)] 35) fun k7 w2 =>
 CALL PP 123 [(.pointer (some ⟨k1, 0, none⟩))] w2 fun r11 w3 =>
 ∃ (A11 : OA) (n11 : Nat) (c11 : Nat), r11 = (.slice A11 n11 c11) ∧
 ∃ (I : Int → World → Prop) (μ : Int → World → Nat), I (0 : Int) w3 ∧
 ∀ (_j : Nat → Value) (x13 : Int) (w4 : World), I x13 w4 →
 SPLIT (decide (x13 < (n11 : Int))) (
 (0 ≤ x13 ∧ x13 < (n11 : Int)) ∧
 SOMEA A11 fun a15 =>
 ∃ (x16_0 : Int) (x16_1 : Int) (x16_2 : Int), RD w4 (Addr.add a15 (Int.toNat x13 * 3)) 0 [(.int .i64 x16_0), (.int .i64 x16_1), (.int .i64 x16_2)] ∧
 NEW w4 (.cells #[(.int .i64 0), (.int .i64 0), (.int .i64 0)] 53) fun k9 w5 =>
 ST w5 ⟨k9, 0, none⟩ 0 [(.int .i64 x16_0), (.int .i64 x16_1), (.int .i64 x16_2)] fun w6 =>
 ∃ (A18 : OA) (n18 : Nat) (c18 : Nat), w6.cell? ⟨k7, 4, none⟩ = some (.slice A18 n18 c18) ∧
 ∃ (x21 : Int), w6.cell? ⟨k9, 0, none⟩ = some (.int .i64 x21) ∧
 ∃ (x23 : Int), w6.cell? ⟨k9, 1, none⟩ = some (.int .i64 x23) ∧
 NEW w6 (.cells #[(.string s2), (.int .i64 x21), (.int .i64 x23)] 39) fun k25 w7 =>
 RUN PP (Builtin.append_ #[33, 33] 33 #[(.slice A18 n18 c18), (.slice (some ⟨k25, 0, none⟩) 1 1)]) w7 fun r26 w8 =>
 ∃ (A26 : OA) (n26 : Nat) (c26 : Nat), r26 = (.slice A26 n26 c26) ∧
 ST w8 ⟨k7, 4, none⟩ 0 [(.slice A26 n26 c26)] fun w9 =>
 I (IntKind.wrap .i64 (x13 + (1 : Int))) w9 ∧ μ (IntKind.wrap .i64 (x13 + (1 : Int))) w9 < μ x13 w4) (
 ∃ (A30 : OA) (n30 : Nat) (c30 : Nat), w4.cell? ⟨k7, 4, none⟩ = some (.slice A30 n30 c30) ∧
 ST w4 ⟨k7, 1, none⟩ 0 [(.int .i64 (n30 : Int))] fun w5 =>
 CALL PP 72 [(.pointer (some ⟨k0, 0, none⟩))] w5 fun r34 w6 =>
 r34 = (.tuple #[]) ∧
 ∃ (x35_0 : Int) (x35_1 : Int) (s35_2 : ByteArray) (A35_3 : OA) (n35_3 : Nat) (c35_3 : Nat) (A35_4 : OA) (n35_4 : Nat) (c35_4 : Nat), RD w6 ⟨k7, 0, none⟩ 0 [(.int .i64 x35_0), (.int .i64 x35_1), (.string s35_2), (.slice A35_3 n35_3 c35_3), (.slice A35_4 n35_4 c35_4)] ∧
 ST w6 ⟨k6, 0, none⟩ 0 [(.int .i64 x35_0), (.int .i64 x35_1), (.string s35_2), (.slice A35_3 n35_3 c35_3), (.slice A35_4 n35_4 c35_4)] fun w7 =>
 ∃ (x6r_0 : Int) (x6r_1 : Int) (s6r_2 : ByteArray) (A6r_3 : OA) (n6r_3 : Nat) (c6r_3 : Nat) (A6r_4 : OA) (n6r_4 : Nat) (c6r_4 : Nat), RD w7 ⟨k6, 0, none⟩ 0 [(.int .i64 x6r_0), (.int .i64 x6r_1), (.string s6r_2), (.slice A6r_3 n6r_3 c6r_3), (.slice A6r_4 n6r_4 c6r_4)] ∧
 R (.agg #[(.int .i64 x6r_0), (.int .i64 x6r_1), (.string s6r_2), (.slice A6r_3 n6r_3 c6r_3), (.slice A6r_4 n6r_4 c6r_4)]) w7)
noncomputable def A81 : Ann := (.two .leaf (.two .leaf (.two (.two .leaf (.one (.loop 536863232 [(13, .int .i64)] .leaf))) .leaf)))
noncomputable def C81 : Code := (Tryz.f81.body).getD .skip
theorem c81 {k0 : Nat} {k1 : Nat} {s2 : ByteArray} {w : World} {R : Value → World → Prop} (h : S81 k0 k1 s2 w R) : Calls PP 81 #[(.pointer (some ⟨k0, 0, none⟩)), (.pointer (some ⟨k1, 0, none⟩)), (.string s2)] w (Ret R) :=
 vcF_sound (c := C81) (ann := A81) follows_ Tryz.func81 (by kernel_rfl) (cast (by kernel_rfl) h)

/- maps.DeleteFunc[map[int]string,int,string] -/
def S111 (m0 : Option Nat) (v1 : Value) (w : World) (R : Value → World → Prop) : Prop :=
 RUN PP (Instr.range 80 (.map m0)) w fun r7 w1 =>
 ∃ p7 : OA, r7 = .pointer p7 ∧
 ∃ (I : World → Prop) (μ : World → Nat), I w1 ∧
 ∀ (_j : Nat → Value) (w2 : World), I w2 →
 RUN PP (Instr.next (.pointer p7) false 0) w2 fun r8 w3 =>
 ∃ (b8 : Bool) (l8 : List Value), r8 = .tuple ⟨.bool b8 :: l8⟩ ∧
 SPLIT b8 (
 RUN PP (Instr.entry (.pointer p7)) w3 fun r10 w4 =>
 ∃ (x10a : Int) (s10b : ByteArray), r10 = .tuple #[(.int .i64 x10a), (.string s10b)] ∧
 CALLV PP v1 [(.int .i64 x10a), (.string s10b)] w4 fun r16 w5 =>
 ∃ (b16 : Bool), r16 = (.bool b16) ∧
 SPLIT b16 (
 RUN PP (Builtin.delete_ #[80, 3] 0 #[(.map m0), (.int .i64 x10a)]) w5 fun rq w6 =>
 I w6 ∧ μ w6 < μ w2) (
 I w5 ∧ μ w5 < μ w2)) (
 R (.tuple #[]) w3)
noncomputable def A111 : Ann := (.two .leaf (.one (.loop 524080 [] .leaf)))
noncomputable def C111 : Code := (Tryz.f111.body).getD .skip
theorem c111 {m0 : Option Nat} {v1 : Value} {w : World} {R : Value → World → Prop} (h : S111 m0 v1 w R) : Calls PP 111 #[(.map m0), v1] w (Ret R) :=
 vcF_sound (c := C111) (ann := A111) follows_ Tryz.func111 (by kernel_rfl) (cast (by kernel_rfl) h)

/- (*sealwax/model.Model).sweep$1 -/
def S112 (x0 : Int) (s1 : ByteArray) (k2 : Nat) (w : World) (R : Value → World → Prop) : Prop :=
 ∃ (m6 : Option Nat), w.cell? ⟨k2, 0, none⟩ = some (.map m6) ∧
 ∃ r8 : Value, (Instr.lookup 41 (.map m6) (.int .i64 x0) false).run PP w = .ok r8 w ∧
 ∃ (b8 : Bool), r8 = (.bool b8) ∧
 R (.bool (!b8)) w
noncomputable def A112 : Ann := .leaf
noncomputable def C112 : Code := (Tryz.f112.body).getD .skip
theorem c112 {x0 : Int} {s1 : ByteArray} {k2 : Nat} {w : World} {R : Value → World → Prop} (h : S112 x0 s1 k2 w R) : Calls PP 112 #[(.int .i64 x0), (.string s1), (.pointer (some ⟨k2, 0, none⟩))] w (Ret R) :=
 vcF_sound (c := C112) (ann := A112) follows_ Tryz.func112 (by kernel_rfl) (cast (by kernel_rfl) h)

/- (*sealwax/model.Model).entries$1 -/
def S117 (v0 : Value) (k1 : Nat) (k2 : Nat) (w : World) (R : Value → World → Prop) : Prop :=
 ∃ (p10 : OA), w.cell? ⟨k1, 0, none⟩ = some (.pointer p10) ∧
 SOMEA p10 fun a11 =>
 ∃ (p13 : OA), w.cell? (Addr.add a11 0) = some (.pointer p13) ∧
 CALL PP 15 [(.pointer p13)] w fun r14 w1 =>
 ∃ (A14 : OA) (n14 : Nat) (c14 : Nat), r14 = (.slice A14 n14 c14) ∧
 ∃ (I : Int → World → Prop) (μ : Int → World → Nat), I (0 : Int) w1 ∧
 ∀ (_j : Nat → Value) (x16 : Int) (w2 : World), I x16 w2 →
 SPLIT (decide (x16 < (n14 : Int))) (
 (0 ≤ x16 ∧ x16 < (n14 : Int)) ∧
 SOMEA A14 fun a18 =>
 ∃ (s19 : ByteArray), w2.cell? (Addr.add a18 (Int.toNat x16 * 1)) = some (.string s19) ∧
 ∃ (p21 : OA), w2.cell? ⟨k1, 0, none⟩ = some (.pointer p21) ∧
 CALL PP 74 [(.pointer p21), (.string s19)] w2 fun r23 w3 =>
 ∃ (p23a : OA) (b23b : Bool), r23 = (.tuple #[(.pointer p23a), (.bool b23b)]) ∧
 ∃ I_1 : World → Prop, (
 ∃ (s27 : ByteArray), w3.cell? ⟨k2, 1, none⟩ = some (.string s27) ∧
 SPLIT (!(s27.toList == (⟨#[]⟩ : ByteArray).toList)) (
 ∃ (s31 : ByteArray), w3.cell? ⟨k2, 1, none⟩ = some (.string s31) ∧
 SPLIT (!(s31.toList == s19.toList)) (
 I (IntKind.wrap .i64 (x16 + (1 : Int))) w3 ∧ μ (IntKind.wrap .i64 (x16 + (1 : Int))) w3 < μ x16 w2) (
 I_1 w3)) (
 I_1 w3)) ∧
 ∀ (_j : Nat → Value) (w4 : World), I_1 w4 →
 CALL PP 18 [(.pointer p23a)] w4 fun r36 w5 =>
 ∃ (A36 : OA) (n36 : Nat) (c36 : Nat), r36 = (.slice A36 n36 c36) ∧
 ∃ (I_2 : Int → World → Prop) (μ_1 : Int → World → Nat), I_2 (0 : Int) w5 ∧
 ∀ (_j : Nat → Value) (x38 : Int) (w6 : World), I_2 x38 w6 →
 SPLIT (decide (x38 < (n36 : Int))) (
 (0 ≤ x38 ∧ x38 < (n36 : Int)) ∧
 SOMEA A36 fun a40 =>
 ∃ (x41_0 : Int) (x41_1 : Int) (x41_2 : Int), RD w6 (Addr.add a40 (Int.toNat x38 * 3)) 0 [(.int .i64 x41_0), (.int .i64 x41_1), (.int .i64 x41_2)] ∧
 NEW w6 (.cells #[(.int .i64 0), (.int .i64 0), (.int .i64 0)] 53) fun k9 w7 =>
 ST w7 ⟨k9, 0, none⟩ 0 [(.int .i64 x41_0), (.int .i64 x41_1), (.int .i64 x41_2)] fun w8 =>
 ∃ (x43 : Int), w8.cell? ⟨k9, 1, none⟩ = some (.int .i64 x43) ∧
 ∃ (x45 : Int), w8.cell? ⟨k2, 5, none⟩ = some (.int .i64 x45) ∧
 ∃ (x48 : Int), w8.cell? ⟨k2, 5, none⟩ = some (.int .i64 x48) ∧
 SPLIT ((IntKind.wrap .i64 (((BitVec.ofInt 64 x43) &&& (BitVec.ofInt 64 x45)).toNat : Int)) == x48) (
 ∃ (x53_0 : Int) (x53_1 : Int) (x53_2 : Int), RD w8 ⟨k9, 0, none⟩ 0 [(.int .i64 x53_0), (.int .i64 x53_1), (.int .i64 x53_2)] ∧
 CALLV PP v0 [(.string s19), (.agg #[(.int .i64 x53_0), (.int .i64 x53_1), (.int .i64 x53_2)])] w8 fun r54 w9 =>
 ∃ (b54 : Bool), r54 = (.bool b54) ∧
 SPLIT (!b54) (
 R (.tuple #[]) w9) (
 I_2 (IntKind.wrap .i64 (x38 + (1 : Int))) w9 ∧ μ_1 (IntKind.wrap .i64 (x38 + (1 : Int))) w9 < μ_1 x38 w6)) (
 I_2 (IntKind.wrap .i64 (x38 + (1 : Int))) w8 ∧ μ_1 (IntKind.wrap .i64 (x38 + (1 : Int))) w8 < μ_1 x38 w6)) (
 I (IntKind.wrap .i64 (x16 + (1 : Int))) w6 ∧ μ (IntKind.wrap .i64 (x16 + (1 : Int))) w6 < μ x16 w2)) (
 R (.tuple #[]) w2)
noncomputable def A117 : Ann := (.two .leaf (.one (.loop 576460752303358688 [(16, .int .i64)] (.two .leaf (.two .leaf (.two (.one (.two .leaf (.two .leaf (.cut 34292629504 [] .leaf (.two .leaf (.one (.loop 288230101273805312 [(38, .int .i64)] .leaf))))))) .leaf))))))
noncomputable def C117 : Code := (Tryz.f117.body).getD .skip
theorem c117 {v0 : Value} {k1 : Nat} {k2 : Nat} {w : World} {R : Value → World → Prop} (h : S117 v0 k1 k2 w R) : Calls PP 117 #[v0, (.pointer (some ⟨k1, 0, none⟩)), (.pointer (some ⟨k2, 0, none⟩))] w (Ret R) :=
 vcF_sound (c := C117) (ann := A117) follows_ Tryz.func117 (by kernel_rfl) (cast (by kernel_rfl) h)

/- sealwax/model.add -/
def S118 (k0 : Nat) (x1 : Int) (x2 : Int) (w : World) (R : Value → World → Prop) : Prop :=
 NEW w (.cells #[(.int .i64 0), (.int .i64 0), (.string ⟨#[]⟩), (.slice none 0 0), (.slice none 0 0)] 35) fun k6 w1 =>
 CALL PP 146 [(.pointer (some ⟨k0, 0, none⟩)), (.int .i64 x1), (.int .i64 x2)] w1 fun r13 w2 =>
 ∃ (x13a_0 : Int) (x13a_1 : Int) (x13a_2 : Int) (x13b : Int), r13 = (.tuple #[(.agg #[(.int .i64 x13a_0), (.int .i64 x13a_1), (.int .i64 x13a_2)]), (.int .i64 x13b)]) ∧
 NEW w2 (.cells #[(.int .i64 0), (.int .i64 0), (.int .i64 0)] 53) fun k7 w3 =>
 ST w3 ⟨k7, 0, none⟩ 0 [(.int .i64 x13a_0), (.int .i64 x13a_1), (.int .i64 x13a_2)] fun w4 =>
 ∃ (x18 : Int), w4.cell? ⟨k7, 0, none⟩ = some (.int .i64 x18) ∧
 ST w4 ⟨k6, 0, none⟩ 0 [(.int .i64 x13b), (.int .i64 x18), (.string ⟨#[]⟩), (.slice none 0 0), (.slice none 0 0)] fun w5 =>
 ∃ (x6r_0 : Int) (x6r_1 : Int) (s6r_2 : ByteArray) (A6r_3 : OA) (n6r_3 : Nat) (c6r_3 : Nat) (A6r_4 : OA) (n6r_4 : Nat) (c6r_4 : Nat), RD w5 ⟨k6, 0, none⟩ 0 [(.int .i64 x6r_0), (.int .i64 x6r_1), (.string s6r_2), (.slice A6r_3 n6r_3 c6r_3), (.slice A6r_4 n6r_4 c6r_4)] ∧
 R (.agg #[(.int .i64 x6r_0), (.int .i64 x6r_1), (.string s6r_2), (.slice A6r_3 n6r_3 c6r_3), (.slice A6r_4 n6r_4 c6r_4)]) w5
noncomputable def A118 : Ann := .leaf
noncomputable def C118 : Code := (Tryz.f118.body).getD .skip
theorem c118 {k0 : Nat} {x1 : Int} {x2 : Int} {w : World} {R : Value → World → Prop} (h : S118 k0 x1 x2 w R) : Calls PP 118 #[(.pointer (some ⟨k0, 0, none⟩)), (.int .i64 x1), (.int .i64 x2)] w (Ret R) :=
 vcF_sound (c := C118) (ann := A118) follows_ Tryz.func118 (by kernel_rfl) (cast (by kernel_rfl) h)

/- sealwax/sealwaxlaw01.Cut -/
def S21 (s0 : ByteArray) (x1 : Int) (w : World) (R : Value → World → Prop) : Prop :=
 SPLIT (decide ((s0.size : Int) > x1)) (
 (0 ≤ x1 ∧ x1 ≤ ((s0.size : Nat) : Int)) ∧
 R (.string (ByteArray.extract s0 0 (Int.toNat x1))) w) (
 R (.string s0) w)
noncomputable def A21 : Ann := .leaf
noncomputable def C21 : Code := (Tryz.f21.body).getD .skip
theorem c21 {s0 : ByteArray} {x1 : Int} {w : World} {R : Value → World → Prop} (h : S21 s0 x1 w R) : Calls PP 21 #[(.string s0), (.int .i64 x1)] w (Ret R) :=
 vcF_sound (c := C21) (ann := A21) follows_ Tryz.func21 (by kernel_rfl) (cast (by kernel_rfl) h)

/- sealwax/sealwaxlaw01.Few -/
def S31 (A0 : OA) (n0 : Nat) (c0 : Nat) (x1 : Int) (x2 : Int) (w : World) (R : Value → World → Prop) : Prop :=
 ∃ (I : OA → Nat → Nat → Int → World → Prop) (μ : OA → Nat → Nat → Int → World → Nat), I none 0 0 (0 : Int) w ∧
 ∀ (_j : Nat → Value) (A7 : OA) (n7 : Nat) (c7 : Nat) (x8 : Int) (w1 : World), I A7 n7 c7 x8 w1 →
 ∃ I_1 : World → Prop, (
 SPLIT (decide (x8 < (n0 : Int))) (
 SPLIT (decide (x8 < x1)) (
 I_1 w1) (
 R (.slice A7 n7 c7) w1)) (
 R (.slice A7 n7 c7) w1)) ∧
 ∀ (_j : Nat → Value) (w2 : World), I_1 w2 →
 (0 ≤ x8 ∧ x8 < (n0 : Int)) ∧
 SOMEA A0 fun a23 =>
 ∃ (s24 : ByteArray), w2.cell? (Addr.add a23 (Int.toNat x8 * 1)) = some (.string s24) ∧
 CALL PP 21 [(.string s24), (.int .i64 x2)] w2 fun r26 w3 =>
 ∃ (s26 : ByteArray), r26 = (.string s26) ∧
 NEW w3 (.cells #[(.string s26)] 9) fun k27 w4 =>
 RUN PP (Builtin.append_ #[26, 26] 26 #[(.slice A7 n7 c7), (.slice (some ⟨k27, 0, none⟩) 1 1)]) w4 fun r28 w5 =>
 ∃ (A28 : OA) (n28 : Nat) (c28 : Nat), r28 = (.slice A28 n28 c28) ∧
 I A28 n28 c28 (IntKind.wrap .i64 (x8 + (1 : Int))) w5 ∧ μ A28 n28 c28 (IntKind.wrap .i64 (x8 + (1 : Int))) w5 < μ A7 n7 c7 x8 w1
noncomputable def A31 : Ann := (.two .leaf (.two .leaf (.two (.two .leaf (.one (.loop 536870784 [(7, .slice), (8, .int .i64)] (.cut 261632 [] .leaf .leaf)))) .leaf)))
noncomputable def C31 : Code := (Tryz.f31.body).getD .skip
theorem c31 {A0 : OA} {n0 : Nat} {c0 : Nat} {x1 : Int} {x2 : Int} {w : World} {R : Value → World → Prop} (h : S31 A0 n0 c0 x1 x2 w R) : Calls PP 31 #[(.slice A0 n0 c0), (.int .i64 x1), (.int .i64 x2)] w (Ret R) :=
 vcF_sound (c := C31) (ann := A31) follows_ Tryz.func31 (by kernel_rfl) (cast (by kernel_rfl) h)

end Go.SW
