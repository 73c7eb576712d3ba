/- PRINTED by wip/tools/gen.py: the functions' conditions in readable form, each with the kernel's word that it is the computed one. -/
import Derived.Test.YtfhiffnfngpkeaaGreatDoorVcSeat
set_option linter.unusedVariables false
namespace Go.SW
open Go Go.Proofs
set_option maxRecDepth 100000
/- sealwax/sealwaxref15.put -/
def S133 (A0 : OA) (n0 : Nat) (c0 : Nat) (s1 : ByteArray) (w : World) (R : Value → World → Prop) : Prop :=
 ∃ I : Int → World → Prop, (
 ∃ (I_1 : Int → World → Prop) (μ : Int → World → Nat), I_1 (0 : Int) w ∧
 ∀ (_j : Nat → Value) (x5 : Int) (w1 : World), I_1 x5 w1 →
 SPLIT (decide (x5 < (n0 : Int))) (
 (0 ≤ x5 ∧ x5 < (n0 : Int)) ∧
 SOMEA A0 fun a13 =>
 ∃ (s14 : ByteArray), w1.cell? (Addr.add a13 (Int.toNat x5 * 1)) = some (.string s14) ∧
 SPLIT (Op.bytesLess s14.toList s1.toList) (
 I_1 (IntKind.wrap .i64 (x5 + (1 : Int))) w1 ∧ μ (IntKind.wrap .i64 (x5 + (1 : Int))) w1 < μ x5 w1) (
 I x5 w1)) (
 I x5 w1)) ∧
 ∀ (_j : Nat → Value) (x5 : Int) (w1 : World), I x5 w1 →
 ∃ I_1 : World → Prop, (
 SPLIT (decide (x5 < (n0 : Int))) (
 (0 ≤ x5 ∧ x5 < (n0 : Int)) ∧
 SOMEA A0 fun a27 =>
 ∃ (s28 : ByteArray), w1.cell? (Addr.add a27 (Int.toNat x5 * 1)) = some (.string s28) ∧
 SPLIT (s28.toList == s1.toList) (
 R (.slice A0 n0 c0) w1) (
 I_1 w1)) (
 I_1 w1)) ∧
 ∀ (_j : Nat → Value) (w2 : World), I_1 w2 →
 DRAW w2 fun w3 =>
 (0 ≤ x5 ∧ x5 ≤ (c0 : Int)) ∧
 (0 ≤ x5 ∧ x5 ≤ (n0 : Int)) ∧
 (
 NEW w3 (.cells #[] 9) fun k33 w4 =>
 (
 RUN PP (Builtin.append_ #[26, 26] 26 #[(.slice (some ⟨k33, 0, none⟩) 0 0), (.slice (SLA A0 c0 0 1) ((Int.toNat x5) - 0) (c0 - 0))]) w4 fun r37 w5 =>
 ∃ (A37 : OA) (n37 : Nat) (c37 : Nat), r37 = (.slice A37 n37 c37) ∧
 NEW w5 (.cells #[(.string s1)] 9) fun k39 w6 =>
 RUN PP (Builtin.append_ #[26, 26] 26 #[(.slice A37 n37 c37), (.slice (some ⟨k39, 0, none⟩) 1 1)]) w6 fun r40 w7 =>
 ∃ (A40 : OA) (n40 : Nat) (c40 : Nat), r40 = (.slice A40 n40 c40) ∧
 RUN PP (Builtin.append_ #[26, 26] 26 #[(.slice A40 n40 c40), (.slice (SLA A0 c0 (Int.toNat x5) 1) (n0 - (Int.toNat x5)) (c0 - (Int.toNat x5)))]) w7 fun r44 w8 =>
 ∃ (A44 : OA) (n44 : Nat) (c44 : Nat), r44 = (.slice A44 n44 c44) ∧
 R (.slice A44 n44 c44) w8) ∧
 (
 NEW w4 (.cells #[(.string s1)] 9) fun k39 w5 =>
 RUN PP (Builtin.append_ #[26, 26] 26 #[(.slice (some ⟨k33, 0, none⟩) 0 0), (.slice (SLA A0 c0 0 1) ((Int.toNat x5) - 0) (c0 - 0))]) w5 fun r37 w6 =>
 ∃ (A37 : OA) (n37 : Nat) (c37 : Nat), r37 = (.slice A37 n37 c37) ∧
 RUN PP (Builtin.append_ #[26, 26] 26 #[(.slice A37 n37 c37), (.slice (some ⟨k39, 0, none⟩) 1 1)]) w6 fun r40 w7 =>
 ∃ (A40 : OA) (n40 : Nat) (c40 : Nat), r40 = (.slice A40 n40 c40) ∧
 RUN PP (Builtin.append_ #[26, 26] 26 #[(.slice A40 n40 c40), (.slice (SLA A0 c0 (Int.toNat x5) 1) (n0 - (Int.toNat x5)) (c0 - (Int.toNat x5)))]) w7 fun r44 w8 =>
 ∃ (A44 : OA) (n44 : Nat) (c44 : Nat), r44 = (.slice A44 n44 c44) ∧
 R (.slice A44 n44 c44) w8)) ∧
 (
 NEW w3 (.cells #[(.string s1)] 9) fun k39 w4 =>
 NEW w4 (.cells #[] 9) fun k33 w5 =>
 RUN PP (Builtin.append_ #[26, 26] 26 #[(.slice (some ⟨k33, 0, none⟩) 0 0), (.slice (SLA A0 c0 0 1) ((Int.toNat x5) - 0) (c0 - 0))]) w5 fun r37 w6 =>
 ∃ (A37 : OA) (n37 : Nat) (c37 : Nat), r37 = (.slice A37 n37 c37) ∧
 RUN PP (Builtin.append_ #[26, 26] 26 #[(.slice A37 n37 c37), (.slice (some ⟨k39, 0, none⟩) 1 1)]) w6 fun r40 w7 =>
 ∃ (A40 : OA) (n40 : Nat) (c40 : Nat), r40 = (.slice A40 n40 c40) ∧
 RUN PP (Builtin.append_ #[26, 26] 26 #[(.slice A40 n40 c40), (.slice (SLA A0 c0 (Int.toNat x5) 1) (n0 - (Int.toNat x5)) (c0 - (Int.toNat x5)))]) w7 fun r44 w8 =>
 ∃ (A44 : OA) (n44 : Nat) (c44 : Nat), r44 = (.slice A44 n44 c44) ∧
 R (.slice A44 n44 c44) w8)
noncomputable def A133 : Ann := (.two .leaf (.two .leaf (.cut 1048544 [(5, .int .i64)] (.one (.loop 1048544 [(5, .int .i64)] .leaf)) (.cut 8588886032 [] .leaf .leaf))))
noncomputable def C133 : Code := (Tryz.f133.body).getD .skip
theorem c133 {A0 : OA} {n0 : Nat} {c0 : Nat} {s1 : ByteArray} {w : World} {R : Value → World → Prop} (h : S133 A0 n0 c0 s1 w R) : Calls PP 133 #[(.slice A0 n0 c0), (.string s1)] w (Ret R) :=
 vcF_sound (c := C133) (ann := A133) follows_ Tryz.func133 (by kernel_rfl) (cast (by kernel_rfl) h)

/- sealwax/sealwaxref15.Of -/
def S134 (s0 : ByteArray) (w : World) (R : Value → World → Prop) : Prop :=
 NEW w (.cells #[] 9) fun k7 w1 =>
 ∃ (I : OA → Nat → Nat → ByteArray → Int → World → Prop) (μ : OA → Nat → Nat → ByteArray → Int → World → Nat), I (some ⟨k7, 0, none⟩) 0 0 (⟨#[]⟩ : ByteArray) (0 : Int) w1 ∧
 ∀ (_j : Nat → Value) (A3 : OA) (n3 : Nat) (c3 : Nat) (s4 : ByteArray) (x5 : Int) (w2 : World), I A3 n3 c3 s4 x5 w2 →
 SPLIT (decide (x5 ≤ (s0.size : Int))) (
 ∃ I_1 : Int → World → Prop, (
 SPLIT (decide (x5 < (s0.size : Int))) (
 (0 ≤ x5 ∧ x5 < (s0.size : Int)) ∧
 (PP.underlying 5).isSome = true ∧
 I_1 (IntKind.wrap .i64 (bt s0 x5)) w2) (
 I_1 (0 : Int) w2)) ∧
 ∀ (_j : Nat → Value) (x6 : Int) (w3 : World), I_1 x6 w3 →
 ∃ I_2 : Int → World → Prop, (
 SPLIT (decide (x6 ≥ (65 : Int))) (
 SPLIT (decide (x6 ≤ (90 : Int))) (
 I_2 (IntKind.wrap .i64 (x6 + (32 : Int))) w3) (
 I_2 x6 w3)) (
 I_2 x6 w3)) ∧
 ∀ (_j : Nat → Value) (x6_1 : Int) (w4 : World), I_2 x6_1 w4 →
 ∃ I_3 : ByteArray → World → Prop, (
 SPLIT (decide (x6_1 ≥ (97 : Int))) (
 SPLIT (decide (x6_1 ≤ (122 : Int))) (
 SPLIT (decide ((s4.size : Int) < (16 : Int))) (
 (PP.underlying 3).isSome = true ∧
 NEW w4 (.cells #[(.int .u8 (IntKind.wrap .u8 x6_1))] 5) fun k50 w5 =>
 RUN PP (convert 184 9 (.slice (some ⟨k50, 0, none⟩) 1 1)) w5 fun r51 w6 =>
 ∃ (s51 : ByteArray), r51 = (.string s51) ∧
 ((s4.size + s51.size : Nat) : Int) ≤ IntKind.max .i64 ∧
 I A3 n3 c3 (s4 ++ s51) (IntKind.wrap .i64 (x5 + (1 : Int))) w6 ∧ μ A3 n3 c3 (s4 ++ s51) (IntKind.wrap .i64 (x5 + (1 : Int))) w6 < μ A3 n3 c3 s4 x5 w2) (
 I A3 n3 c3 s4 (IntKind.wrap .i64 (x5 + (1 : Int))) w4 ∧ μ A3 n3 c3 s4 (IntKind.wrap .i64 (x5 + (1 : Int))) w4 < μ A3 n3 c3 s4 x5 w2)) (
 SPLIT (decide (x6_1 ≥ (48 : Int))) (
 SPLIT (decide (x6_1 ≤ (57 : Int))) (
 SPLIT (decide ((s4.size : Int) < (16 : Int))) (
 (PP.underlying 3).isSome = true ∧
 NEW w4 (.cells #[(.int .u8 (IntKind.wrap .u8 x6_1))] 5) fun k50 w5 =>
 RUN PP (convert 184 9 (.slice (some ⟨k50, 0, none⟩) 1 1)) w5 fun r51 w6 =>
 ∃ (s51 : ByteArray), r51 = (.string s51) ∧
 ((s4.size + s51.size : Nat) : Int) ≤ IntKind.max .i64 ∧
 I A3 n3 c3 (s4 ++ s51) (IntKind.wrap .i64 (x5 + (1 : Int))) w6 ∧ μ A3 n3 c3 (s4 ++ s51) (IntKind.wrap .i64 (x5 + (1 : Int))) w6 < μ A3 n3 c3 s4 x5 w2) (
 I A3 n3 c3 s4 (IntKind.wrap .i64 (x5 + (1 : Int))) w4 ∧ μ A3 n3 c3 s4 (IntKind.wrap .i64 (x5 + (1 : Int))) w4 < μ A3 n3 c3 s4 x5 w2)) (
 I_3 s4 w4)) (
 I_3 s4 w4))) (
 SPLIT (decide (x6_1 ≥ (48 : Int))) (
 SPLIT (decide (x6_1 ≤ (57 : Int))) (
 SPLIT (decide ((s4.size : Int) < (16 : Int))) (
 (PP.underlying 3).isSome = true ∧
 NEW w4 (.cells #[(.int .u8 (IntKind.wrap .u8 x6_1))] 5) fun k50 w5 =>
 RUN PP (convert 184 9 (.slice (some ⟨k50, 0, none⟩) 1 1)) w5 fun r51 w6 =>
 ∃ (s51 : ByteArray), r51 = (.string s51) ∧
 ((s4.size + s51.size : Nat) : Int) ≤ IntKind.max .i64 ∧
 I A3 n3 c3 (s4 ++ s51) (IntKind.wrap .i64 (x5 + (1 : Int))) w6 ∧ μ A3 n3 c3 (s4 ++ s51) (IntKind.wrap .i64 (x5 + (1 : Int))) w6 < μ A3 n3 c3 s4 x5 w2) (
 I A3 n3 c3 s4 (IntKind.wrap .i64 (x5 + (1 : Int))) w4 ∧ μ A3 n3 c3 s4 (IntKind.wrap .i64 (x5 + (1 : Int))) w4 < μ A3 n3 c3 s4 x5 w2)) (
 I_3 s4 w4)) (
 I_3 s4 w4))) ∧
 ∀ (_j : Nat → Value) (s4_1 : ByteArray) (w5 : World), I_3 s4_1 w5 →
 SPLIT (!(s4_1.toList == (⟨#[]⟩ : ByteArray).toList)) (
 CALL PP 133 [(.slice A3 n3 c3), (.string s4_1)] w5 fun r57 w6 =>
 ∃ (A57 : OA) (n57 : Nat) (c57 : Nat), r57 = (.slice A57 n57 c57) ∧
 I A57 n57 c57 (⟨#[]⟩ : ByteArray) (IntKind.wrap .i64 (x5 + (1 : Int))) w6 ∧ μ A57 n57 c57 (⟨#[]⟩ : ByteArray) (IntKind.wrap .i64 (x5 + (1 : Int))) w6 < μ A3 n3 c3 s4 x5 w2) (
 I A3 n3 c3 (⟨#[]⟩ : ByteArray) (IntKind.wrap .i64 (x5 + (1 : Int))) w5 ∧ μ A3 n3 c3 (⟨#[]⟩ : ByteArray) (IntKind.wrap .i64 (x5 + (1 : Int))) w5 < μ A3 n3 c3 s4 x5 w2)) (
 SPLIT (decide ((n3 : Int) > (64 : Int))) (
 (0 ≤ (64 : Int) ∧ (64 : Int) ≤ (c3 : Int)) ∧
 R (.slice (SLA A3 c3 0 1) ((Int.toNat (64 : Int)) - 0) (c3 - 0)) w2) (
 R (.slice A3 n3 c3) w2))
noncomputable def A134 : Ann := (.two .leaf (.two .leaf (.two .leaf (.two (.two .leaf (.one (.loop 288230376151711608 [(3, .slice), (4, .str), (5, .int .i64)] (.two .leaf (.two (.one (.two .leaf (.cut 4177984 [(6, .int .i64)] .leaf (.cut 1069547584 [(6, .int .i64)] .leaf (.cut 9007198180999184 [(4, .str)] .leaf .leaf))))) .leaf))))) .leaf))))
noncomputable def C134 : Code := (Tryz.f134.body).getD .skip
theorem c134 {s0 : ByteArray} {w : World} {R : Value → World → Prop} (h : S134 s0 w R) : Calls PP 134 #[(.string s0)] w (Ret R) :=
 vcF_sound (c := C134) (ann := A134) follows_ Tryz.func134 (by kernel_rfl) (cast (by kernel_rfl) h)

/- sealwax/sealwaxref15.Check -/
def S132 (s0 : ByteArray) (w : World) (R : Value → World → Prop) : Prop :=
 CALL PP 134 [(.string s0)] w fun r5 w1 =>
 ∃ (A5 : OA) (n5 : Nat) (c5 : Nat), r5 = (.slice A5 n5 c5) ∧
 SPLIT ((n5 : Int) == (1 : Int)) (
 (0 ≤ (0 : Int) ∧ (0 : Int) < (n5 : Int)) ∧
 SOMEA A5 fun a11 =>
 ∃ (s12 : ByteArray), w1.cell? (Addr.add a11 (Int.toNat (0 : Int) * 1)) = some (.string s12) ∧
 R (.bool (s12.toList == s0.toList)) w1) (
 R (.bool false) w1)
noncomputable def A132 : Ann := .leaf
noncomputable def C132 : Code := (Tryz.f132.body).getD .skip
theorem c132 {s0 : ByteArray} {w : World} {R : Value → World → Prop} (h : S132 s0 w R) : Calls PP 132 #[(.string s0)] w (Ret R) :=
 vcF_sound (c := C132) (ann := A132) follows_ Tryz.func132 (by kernel_rfl) (cast (by kernel_rfl) h)

/- sealwax/sealwaxref15.Clean -/
def S96 (A0 : OA) (n0 : Nat) (c0 : Nat) (w : World) (R : Value → World → Prop) : Prop :=
 ∃ I : World → Prop, (
 SPLIT ((n0 : Int) == (0 : Int)) (
 R (.tuple #[(.slice none 0 0), (.int .i64 4)]) w) (
 SPLIT (decide ((n0 : Int) > (8 : Int))) (
 R (.tuple #[(.slice none 0 0), (.int .i64 4)]) w) (
 I w))) ∧
 ∀ (_j : Nat → Value) (w1 : World), I w1 →
 NEW w1 (.cells #[] 9) fun k15 w2 =>
 ∃ (I_1 : OA → Nat → Nat → Int → World → Prop) (μ : OA → Nat → Nat → Int → World → Nat), I_1 (some ⟨k15, 0, none⟩) 0 0 (0 : Int) w2 ∧
 ∀ (_j : Nat → Value) (A4 : OA) (n4 : Nat) (c4 : Nat) (x18 : Int) (w3 : World), I_1 A4 n4 c4 x18 w3 →
 SPLIT (decide (x18 < (n0 : Int))) (
 (0 ≤ x18 ∧ x18 < (n0 : Int)) ∧
 SOMEA A0 fun a20 =>
 ∃ (s21 : ByteArray), w3.cell? (Addr.add a20 (Int.toNat x18 * 1)) = some (.string s21) ∧
 CALL PP 132 [(.string s21)] w3 fun r23 w4 =>
 ∃ (b23 : Bool), r23 = (.bool b23) ∧
 SPLIT (!b23) (
 R (.tuple #[(.slice none 0 0), (.int .i64 4)]) w4) (
 CALL PP 133 [(.slice A4 n4 c4), (.string s21)] w4 fun r27 w5 =>
 ∃ (A27 : OA) (n27 : Nat) (c27 : Nat), r27 = (.slice A27 n27 c27) ∧
 I_1 A27 n27 c27 (IntKind.wrap .i64 (x18 + (1 : Int))) w5 ∧ μ A27 n27 c27 (IntKind.wrap .i64 (x18 + (1 : Int))) w5 < μ A4 n4 c4 x18 w3)) (
 R (.tuple #[(.slice A4 n4 c4), (.int .i64 0)]) w3)
noncomputable def A96 : Ann := (.two .leaf (.cut 32652 [] .leaf (.two .leaf (.two (.two .leaf (.one (.loop 536608860 [(4, .slice), (18, .int .i64)] .leaf))) .leaf))))
noncomputable def C96 : Code := (Tryz.f96.body).getD .skip
theorem c96 {A0 : OA} {n0 : Nat} {c0 : Nat} {w : World} {R : Value → World → Prop} (h : S96 A0 n0 c0 w R) : Calls PP 96 #[(.slice A0 n0 c0)] w (Ret R) :=
 vcF_sound (c := C96) (ann := A96) follows_ Tryz.func96 (by kernel_rfl) (cast (by kernel_rfl) h)

/- sealwax/sealwaxref15.Has -/
def S97 (s0 : ByteArray) (A1 : OA) (n1 : Nat) (c1 : Nat) (w : World) (R : Value → World → Prop) : Prop :=
 ∃ (I : Int → World → Prop) (μ : Int → World → Nat), I (0 : Int) w ∧
 ∀ (_j : Nat → Value) (x12 : Int) (w1 : World), I x12 w1 →
 SPLIT (decide (x12 < (n1 : Int))) (
 (0 ≤ x12 ∧ x12 < (n1 : Int)) ∧
 SOMEA A1 fun a14 =>
 ∃ (s15 : ByteArray), w1.cell? (Addr.add a14 (Int.toNat x12 * 1)) = some (.string s15) ∧
 CALL PP 134 [(.string s0)] w1 fun r17 w2 =>
 ∃ (A17 : OA) (n17 : Nat) (c17 : Nat), r17 = (.slice A17 n17 c17) ∧
 ∃ (I_1 : Bool → Int → World → Prop) (μ_1 : Bool → Int → World → Nat), I_1 false (0 : Int) w2 ∧
 ∀ (_j : Nat → Value) (b7 : Bool) (x19 : Int) (w3 : World), I_1 b7 x19 w3 →
 SPLIT (decide (x19 < (n17 : Int))) (
 (0 ≤ x19 ∧ x19 < (n17 : Int)) ∧
 SOMEA A17 fun a21 =>
 ∃ (s22 : ByteArray), w3.cell? (Addr.add a21 (Int.toNat x19 * 1)) = some (.string s22) ∧
 SPLIT b7 (
 I_1 true (IntKind.wrap .i64 (x19 + (1 : Int))) w3 ∧ μ_1 true (IntKind.wrap .i64 (x19 + (1 : Int))) w3 < μ_1 b7 x19 w3) (
 I_1 (s22.toList == s15.toList) (IntKind.wrap .i64 (x19 + (1 : Int))) w3 ∧ μ_1 (s22.toList == s15.toList) (IntKind.wrap .i64 (x19 + (1 : Int))) w3 < μ_1 b7 x19 w3)) (
 SPLIT (!b7) (
 R (.bool false) w3) (
 I (IntKind.wrap .i64 (x12 + (1 : Int))) w3 ∧ μ (IntKind.wrap .i64 (x12 + (1 : Int))) w3 < μ x12 w1))) (
 R (.bool true) w1)
noncomputable def A97 : Ann := (.two .leaf (.two (.two .leaf (.one (.loop 8589931216 [(12, .int .i64)] (.two .leaf (.two .leaf (.two (.one (.two .leaf (.two .leaf (.two (.two .leaf (.one (.loop 1073218176 [(7, .bool), (19, .int .i64)] .leaf))) .leaf)))) .leaf)))))) .leaf))
noncomputable def C97 : Code := (Tryz.f97.body).getD .skip
theorem c97 {s0 : ByteArray} {A1 : OA} {n1 : Nat} {c1 : Nat} {w : World} {R : Value → World → Prop} (h : S97 s0 A1 n1 c1 w R) : Calls PP 97 #[(.string s0), (.slice A1 n1 c1)] w (Ret R) :=
 vcF_sound (c := C97) (ann := A97) follows_ Tryz.func97 (by kernel_rfl) (cast (by kernel_rfl) h)

end Go.SW
set_option linter.unusedVariables false
namespace Go.SW
open Go Go.Proofs
set_option maxRecDepth 100000
/- sealwax/sealwaxref17.New -/
def S46  (w : World) (R : Value → World → Prop) : Prop :=
 NEW w (.cells #[(.slice none 0 0), (.int .i64 0)] 65) fun k0 w1 =>
 ST w1 ⟨k0, 0, none⟩ 0 [(.slice none 0 0), (.int .i64 1)] fun w2 =>
 ∃ (A0r_0 : OA) (n0r_0 : Nat) (c0r_0 : Nat) (x0r_1 : Int), RD w2 ⟨k0, 0, none⟩ 0 [(.slice A0r_0 n0r_0 c0r_0), (.int .i64 x0r_1)] ∧
 R (.agg #[(.slice A0r_0 n0r_0 c0r_0), (.int .i64 x0r_1)]) w2
noncomputable def A46 : Ann := .leaf
noncomputable def C46 : Code := (Tryz.f46.body).getD .skip
theorem c46 {w : World} {R : Value → World → Prop} (h : S46 w R) : Calls PP 46 #[] w (Ret R) :=
 vcF_sound (c := C46) (ann := A46) follows_ Tryz.func46 (by kernel_rfl) (cast (by kernel_rfl) h)

/- sealwax/sealwaxref17.Of -/
def S93 (A0_0 : OA) (n0_0 : Nat) (c0_0 : Nat) (x0_1 : Int) (s1 : ByteArray) (w : World) (R : Value → World → Prop) : Prop :=
 NEW w (.cells #[(.slice A0_0 n0_0 c0_0), (.int .i64 x0_1)] 65) fun k2 w1 =>
 ∃ (A8 : OA) (n8 : Nat) (c8 : Nat), w1.cell? ⟨k2, 0, none⟩ = some (.slice A8 n8 c8) ∧
 ∃ (I : Int → World → Prop) (μ : Int → World → Nat), I (0 : Int) w1 ∧
 ∀ (_j : Nat → Value) (x10 : Int) (w2 : World), I x10 w2 →
 SPLIT (decide (x10 < (n8 : Int))) (
 (0 ≤ x10 ∧ x10 < (n8 : Int)) ∧
 SOMEA A8 fun a12 =>
 ∃ (s13_0 : ByteArray) (x13_1 : Int), RD w2 (Addr.add a12 (Int.toNat x10 * 2)) 0 [(.string s13_0), (.int .i64 x13_1)] ∧
 NEW w2 (.cells #[(.string ⟨#[]⟩), (.int .i64 0)] 114) fun k6 w3 =>
 ST w3 ⟨k6, 0, none⟩ 0 [(.string s13_0), (.int .i64 x13_1)] fun w4 =>
 ∃ (s15 : ByteArray), w4.cell? ⟨k6, 0, none⟩ = some (.string s15) ∧
 SPLIT (s15.toList == s1.toList) (
 ∃ (x19 : Int), w4.cell? ⟨k6, 1, none⟩ = some (.int .i64 x19) ∧
 R (.int .i64 x19) w4) (
 I (IntKind.wrap .i64 (x10 + (1 : Int))) w4 ∧ μ (IntKind.wrap .i64 (x10 + (1 : Int))) w4 < μ x10 w2)) (
 R (.int .i64 0) w2)
noncomputable def A93 : Ann := (.two .leaf (.two (.two .leaf (.one (.loop 2096208 [(10, .int .i64)] .leaf))) .leaf))
noncomputable def C93 : Code := (Tryz.f93.body).getD .skip
theorem c93 {A0_0 : OA} {n0_0 : Nat} {c0_0 : Nat} {x0_1 : Int} {s1 : ByteArray} {w : World} {R : Value → World → Prop} (h : S93 A0_0 n0_0 c0_0 x0_1 s1 w R) : Calls PP 93 #[(.agg #[(.slice A0_0 n0_0 c0_0), (.int .i64 x0_1)]), (.string s1)] w (Ret R) :=
 vcF_sound (c := C93) (ann := A93) follows_ Tryz.func93 (by kernel_rfl) (cast (by kernel_rfl) h)

/- sealwax/sealwaxref17.put -/
def S94 (A0 : OA) (n0 : Nat) (c0 : Nat) (s1_0 : ByteArray) (x1_1 : Int) (w : World) (R : Value → World → Prop) : Prop :=
 NEW w (.cells #[(.string s1_0), (.int .i64 x1_1)] 114) fun k3 w1 =>
 NEW w1 (.cells #[] 114) fun k9 w2 =>
 ∃ (I : OA → Nat → Nat → Bool → Int → World → Prop) (μ : OA → Nat → Nat → Bool → Int → World → Nat), I (some ⟨k9, 0, none⟩) 0 0 false (0 : Int) w2 ∧
 ∀ (_j : Nat → Value) (A5 : OA) (n5 : Nat) (c5 : Nat) (b6 : Bool) (x12 : Int) (w3 : World), I A5 n5 c5 b6 x12 w3 →
 SPLIT (decide (x12 < (n0 : Int))) (
 ∃ I_1 : OA → Nat → Nat → Bool → World → Prop, (
 (0 ≤ x12 ∧ x12 < (n0 : Int)) ∧
 SOMEA A0 fun a14 =>
 ∃ (s15_0 : ByteArray) (x15_1 : Int), RD w3 (Addr.add a14 (Int.toNat x12 * 2)) 0 [(.string s15_0), (.int .i64 x15_1)] ∧
 NEW w3 (.cells #[(.string ⟨#[]⟩), (.int .i64 0)] 114) fun k8 w4 =>
 ST w4 ⟨k8, 0, none⟩ 0 [(.string s15_0), (.int .i64 x15_1)] fun w5 =>
 ∃ I_2 : OA → Nat → Nat → Bool → World → Prop, (
 SPLIT (!b6) (
 ∃ (s20 : ByteArray), w5.cell? ⟨k8, 0, none⟩ = some (.string s20) ∧
 ∃ (s22 : ByteArray), w5.cell? ⟨k3, 0, none⟩ = some (.string s22) ∧
 SPLIT (!((Op.bytesLess s20.toList s22.toList) || (s20.toList == s22.toList))) (
 ∃ (s26_0 : ByteArray) (x26_1 : Int), RD w5 ⟨k3, 0, none⟩ 0 [(.string s26_0), (.int .i64 x26_1)] ∧
 NEW w5 (.cells #[(.string s26_0), (.int .i64 x26_1)] 114) fun k27 w6 =>
 RUN PP (Builtin.append_ #[63, 63] 63 #[(.slice A5 n5 c5), (.slice (some ⟨k27, 0, none⟩) 1 1)]) w6 fun r28 w7 =>
 ∃ (A28 : OA) (n28 : Nat) (c28 : Nat), r28 = (.slice A28 n28 c28) ∧
 I_2 A28 n28 c28 true w7) (
 I_2 A5 n5 c5 b6 w5)) (
 I_2 A5 n5 c5 b6 w5)) ∧
 ∀ (_j : Nat → Value) (A5_1 : OA) (n5_1 : Nat) (c5_1 : Nat) (b6_1 : Bool) (w6 : World), I_2 A5_1 n5_1 c5_1 b6_1 w6 →
 ∃ (s30_0 : ByteArray) (x30_1 : Int), RD w6 ⟨k8, 0, none⟩ 0 [(.string s30_0), (.int .i64 x30_1)] ∧
 NEW w6 (.cells #[(.string s30_0), (.int .i64 x30_1)] 114) fun k31 w7 =>
 RUN PP (Builtin.append_ #[63, 63] 63 #[(.slice A5_1 n5_1 c5_1), (.slice (some ⟨k31, 0, none⟩) 1 1)]) w7 fun r32 w8 =>
 ∃ (A32 : OA) (n32 : Nat) (c32 : Nat), r32 = (.slice A32 n32 c32) ∧
 I_1 A32 n32 c32 b6_1 w8) ∧
 ∀ (_j : Nat → Value) (A5_1 : OA) (n5_1 : Nat) (c5_1 : Nat) (b6_1 : Bool) (w4 : World), I_1 A5_1 n5_1 c5_1 b6_1 w4 →
 I A5_1 n5_1 c5_1 b6_1 (IntKind.wrap .i64 (x12 + (1 : Int))) w4 ∧ μ A5_1 n5_1 c5_1 b6_1 (IntKind.wrap .i64 (x12 + (1 : Int))) w4 < μ A5 n5 c5 b6 x12 w3) (
 ∃ I_1 : OA → Nat → Nat → World → Prop, (
 SPLIT (!b6) (
 ∃ (s37_0 : ByteArray) (x37_1 : Int), RD w3 ⟨k3, 0, none⟩ 0 [(.string s37_0), (.int .i64 x37_1)] ∧
 NEW w3 (.cells #[(.string s37_0), (.int .i64 x37_1)] 114) fun k38 w4 =>
 RUN PP (Builtin.append_ #[63, 63] 63 #[(.slice A5 n5 c5), (.slice (some ⟨k38, 0, none⟩) 1 1)]) w4 fun r39 w5 =>
 ∃ (A39 : OA) (n39 : Nat) (c39 : Nat), r39 = (.slice A39 n39 c39) ∧
 I_1 A39 n39 c39 w5) (
 I_1 A5 n5 c5 w3)) ∧
 ∀ (_j : Nat → Value) (A5_1 : OA) (n5_1 : Nat) (c5_1 : Nat) (w4 : World), I_1 A5_1 n5_1 c5_1 w4 →
 R (.slice A5_1 n5_1 c5_1) w4)
noncomputable def A94 : Ann := (.two .leaf (.two .leaf (.two .leaf (.two (.two .leaf (.one (.loop 17179865440 [(5, .slice), (6, .bool), (12, .int .i64)] (.two .leaf (.two .leaf (.cut 8589918560 [(5, .slice), (6, .bool)] (.one (.two .leaf (.cut 536805472 [(5, .slice), (6, .bool)] .leaf .leaf))) .leaf)))))) (.cut 1082331758624 [(5, .slice)] .leaf .leaf)))))
noncomputable def C94 : Code := (Tryz.f94.body).getD .skip
theorem c94 {A0 : OA} {n0 : Nat} {c0 : Nat} {s1_0 : ByteArray} {x1_1 : Int} {w : World} {R : Value → World → Prop} (h : S94 A0 n0 c0 s1_0 x1_1 w R) : Calls PP 94 #[(.slice A0 n0 c0), (.agg #[(.string s1_0), (.int .i64 x1_1)])] w (Ret R) :=
 vcF_sound (c := C94) (ann := A94) follows_ Tryz.func94 (by kernel_rfl) (cast (by kernel_rfl) h)

/- sealwax/sealwaxref17.without -/
def S95 (A0 : OA) (n0 : Nat) (c0 : Nat) (s1 : ByteArray) (w : World) (R : Value → World → Prop) : Prop :=
 NEW w (.cells #[] 114) fun k8 w1 =>
 ∃ (I : OA → Nat → Nat → Int → World → Prop) (μ : OA → Nat → Nat → Int → World → Nat), I (some ⟨k8, 0, none⟩) 0 0 (0 : Int) w1 ∧
 ∀ (_j : Nat → Value) (A5 : OA) (n5 : Nat) (c5 : Nat) (x11 : Int) (w2 : World), I A5 n5 c5 x11 w2 →
 SPLIT (decide (x11 < (n0 : Int))) (
 ∃ I_1 : OA → Nat → Nat → World → Prop, (
 (0 ≤ x11 ∧ x11 < (n0 : Int)) ∧
 SOMEA A0 fun a13 =>
 ∃ (s14_0 : ByteArray) (x14_1 : Int), RD w2 (Addr.add a13 (Int.toNat x11 * 2)) 0 [(.string s14_0), (.int .i64 x14_1)] ∧
 NEW w2 (.cells #[(.string ⟨#[]⟩), (.int .i64 0)] 114) fun k7 w3 =>
 ST w3 ⟨k7, 0, none⟩ 0 [(.string s14_0), (.int .i64 x14_1)] fun w4 =>
 ∃ (s16 : ByteArray), w4.cell? ⟨k7, 0, none⟩ = some (.string s16) ∧
 SPLIT (!(s16.toList == s1.toList)) (
 ∃ (s20_0 : ByteArray) (x20_1 : Int), RD w4 ⟨k7, 0, none⟩ 0 [(.string s20_0), (.int .i64 x20_1)] ∧
 NEW w4 (.cells #[(.string s20_0), (.int .i64 x20_1)] 114) fun k21 w5 =>
 RUN PP (Builtin.append_ #[63, 63] 63 #[(.slice A5 n5 c5), (.slice (some ⟨k21, 0, none⟩) 1 1)]) w5 fun r22 w6 =>
 ∃ (A22 : OA) (n22 : Nat) (c22 : Nat), r22 = (.slice A22 n22 c22) ∧
 I_1 A22 n22 c22 w6) (
 I_1 A5 n5 c5 w4)) ∧
 ∀ (_j : Nat → Value) (A5_1 : OA) (n5_1 : Nat) (c5_1 : Nat) (w3 : World), I_1 A5_1 n5_1 c5_1 w3 →
 I A5_1 n5_1 c5_1 (IntKind.wrap .i64 (x11 + (1 : Int))) w3 ∧ μ A5_1 n5_1 c5_1 (IntKind.wrap .i64 (x11 + (1 : Int))) w3 < μ A5 n5 c5 x11 w2) (
 R (.slice A5 n5 c5) w2)
noncomputable def A95 : Ann := (.two .leaf (.two .leaf (.two (.two .leaf (.one (.loop 16775328 [(5, .slice), (11, .int .i64)] (.two .leaf (.two .leaf (.cut 8380576 [(5, .slice)] .leaf .leaf)))))) .leaf)))
noncomputable def C95 : Code := (Tryz.f95.body).getD .skip
theorem c95 {A0 : OA} {n0 : Nat} {c0 : Nat} {s1 : ByteArray} {w : World} {R : Value → World → Prop} (h : S95 A0 n0 c0 s1 w R) : Calls PP 95 #[(.slice A0 n0 c0), (.string s1)] w (Ret R) :=
 vcF_sound (c := C95) (ann := A95) follows_ Tryz.func95 (by kernel_rfl) (cast (by kernel_rfl) h)

/- sealwax/sealwaxref17.Check -/
def S92 (s0 : ByteArray) (w : World) (R : Value → World → Prop) : Prop :=
 ∃ I : World → Prop, (
 SPLIT (s0.toList == (⟨#[]⟩ : ByteArray).toList) (
 R (.bool false) w) (
 SPLIT (decide ((s0.size : Int) > (32 : Int))) (
 R (.bool false) w) (
 (0 ≤ (0 : Int) ∧ (0 : Int) < (s0.size : Int)) ∧
 SPLIT ((bt s0 (0 : Int)) == (47 : Int)) (
 R (.bool false) w) (
 (0 ≤ (IntKind.wrap .i64 ((s0.size : Int) - (1 : Int))) ∧ (IntKind.wrap .i64 ((s0.size : Int) - (1 : Int))) < (s0.size : Int)) ∧
 SPLIT ((bt s0 (IntKind.wrap .i64 ((s0.size : Int) - (1 : Int)))) == (47 : Int)) (
 R (.bool false) w) (
 I w))))) ∧
 ∀ (_j : Nat → Value) (w1 : World), I w1 →
 ∃ (I_1 : Int → World → Prop) (μ : Int → World → Nat), I_1 (0 : Int) w1 ∧
 ∀ (_j : Nat → Value) (x3 : Int) (w2 : World), I_1 x3 w2 →
 SPLIT (decide (x3 < (s0.size : Int))) (
 ∃ I_2 : World → Prop, (
 (0 ≤ x3 ∧ x3 < (s0.size : Int)) ∧
 ∃ I_3 : Bool → World → Prop, (
 SPLIT (decide ((bt s0 x3) ≥ (97 : Int))) (
 SPLIT (decide ((bt s0 x3) ≤ (122 : Int))) (
 I_3 true w2) (
 SPLIT (decide ((bt s0 x3) ≥ (65 : Int))) (
 SPLIT (decide ((bt s0 x3) ≤ (90 : Int))) (
 I_3 true w2) (
 SPLIT (decide ((bt s0 x3) ≥ (48 : Int))) (
 I_3 (decide ((bt s0 x3) ≤ (57 : Int))) w2) (
 I_3 false w2))) (
 SPLIT (decide ((bt s0 x3) ≥ (48 : Int))) (
 I_3 (decide ((bt s0 x3) ≤ (57 : Int))) w2) (
 I_3 false w2)))) (
 SPLIT (decide ((bt s0 x3) ≥ (65 : Int))) (
 SPLIT (decide ((bt s0 x3) ≤ (90 : Int))) (
 I_3 true w2) (
 SPLIT (decide ((bt s0 x3) ≥ (48 : Int))) (
 I_3 (decide ((bt s0 x3) ≤ (57 : Int))) w2) (
 I_3 false w2))) (
 SPLIT (decide ((bt s0 x3) ≥ (48 : Int))) (
 I_3 (decide ((bt s0 x3) ≤ (57 : Int))) w2) (
 I_3 false w2)))) ∧
 ∀ (_j : Nat → Value) (b5 : Bool) (w3 : World), I_3 b5 w3 →
 ∃ I_4 : Bool → World → Prop, (
 SPLIT (!b5) (
 SPLIT ((bt s0 x3) != (46 : Int)) (
 SPLIT ((bt s0 x3) != (95 : Int)) (
 SPLIT ((bt s0 x3) != (45 : Int)) (
 SPLIT ((bt s0 x3) != (47 : Int)) (
 I_4 true w3) (
 SPLIT ((bt s0 x3) == (47 : Int)) (
 (0 ≤ (IntKind.wrap .i64 (x3 - (1 : Int))) ∧ (IntKind.wrap .i64 (x3 - (1 : Int))) < (s0.size : Int)) ∧
 I_4 ((bt s0 (IntKind.wrap .i64 (x3 - (1 : Int)))) == (47 : Int)) w3) (
 I_4 false w3))) (
 SPLIT ((bt s0 x3) == (47 : Int)) (
 (0 ≤ (IntKind.wrap .i64 (x3 - (1 : Int))) ∧ (IntKind.wrap .i64 (x3 - (1 : Int))) < (s0.size : Int)) ∧
 I_4 ((bt s0 (IntKind.wrap .i64 (x3 - (1 : Int)))) == (47 : Int)) w3) (
 I_4 false w3))) (
 SPLIT ((bt s0 x3) == (47 : Int)) (
 (0 ≤ (IntKind.wrap .i64 (x3 - (1 : Int))) ∧ (IntKind.wrap .i64 (x3 - (1 : Int))) < (s0.size : Int)) ∧
 I_4 ((bt s0 (IntKind.wrap .i64 (x3 - (1 : Int)))) == (47 : Int)) w3) (
 I_4 false w3))) (
 SPLIT ((bt s0 x3) == (47 : Int)) (
 (0 ≤ (IntKind.wrap .i64 (x3 - (1 : Int))) ∧ (IntKind.wrap .i64 (x3 - (1 : Int))) < (s0.size : Int)) ∧
 I_4 ((bt s0 (IntKind.wrap .i64 (x3 - (1 : Int)))) == (47 : Int)) w3) (
 I_4 false w3))) (
 SPLIT ((bt s0 x3) == (47 : Int)) (
 (0 ≤ (IntKind.wrap .i64 (x3 - (1 : Int))) ∧ (IntKind.wrap .i64 (x3 - (1 : Int))) < (s0.size : Int)) ∧
 I_4 ((bt s0 (IntKind.wrap .i64 (x3 - (1 : Int)))) == (47 : Int)) w3) (
 I_4 false w3))) ∧
 ∀ (_j : Nat → Value) (b85 : Bool) (w4 : World), I_4 b85 w4 →
 SPLIT b85 (
 R (.bool false) w4) (
 I_2 w4)) ∧
 ∀ (_j : Nat → Value) (w3 : World), I_2 w3 →
 I_1 (IntKind.wrap .i64 (x3 + (1 : Int))) w3 ∧ μ (IntKind.wrap .i64 (x3 + (1 : Int))) w3 < μ x3 w2) (
 R (.bool true) w2)
noncomputable def A92 : Ann := (.two .leaf (.cut 67108804 [] .leaf (.two (.two .leaf (.one (.loop 77371252455336267114086460 [(3, .int .i64)] (.two .leaf (.cut 77371252455336262886228020 [] (.one (.two .leaf (.cut 144115153716117536 [(5, .bool)] .leaf (.cut 77371252311221079105339392 [(85, .bool)] .leaf .leaf)))) .leaf))))) .leaf)))
noncomputable def C92 : Code := (Tryz.f92.body).getD .skip
theorem c92 {s0 : ByteArray} {w : World} {R : Value → World → Prop} (h : S92 s0 w R) : Calls PP 92 #[(.string s0)] w (Ret R) :=
 vcF_sound (c := C92) (ann := A92) follows_ Tryz.func92 (by kernel_rfl) (cast (by kernel_rfl) h)

/- sealwax/sealwaxref17.Create -/
def S47 (A0_0 : OA) (n0_0 : Nat) (c0_0 : Nat) (x0_1 : Int) (s1 : ByteArray) (w : World) (R : Value → World → Prop) : Prop :=
 NEW w (.cells #[(.slice A0_0 n0_0 c0_0), (.int .i64 x0_1)] 65) fun k2 w1 =>
 NEW w1 (.cells #[(.slice none 0 0), (.int .i64 0)] 65) fun k4 w2 =>
 CALL PP 92 [(.string s1)] w2 fun r8 w3 =>
 ∃ (b8 : Bool), r8 = (.bool b8) ∧
 SPLIT (!b8) (
 ∃ (A10_0 : OA) (n10_0 : Nat) (c10_0 : Nat) (x10_1 : Int), RD w3 ⟨k2, 0, none⟩ 0 [(.slice A10_0 n10_0 c10_0), (.int .i64 x10_1)] ∧
 ST w3 ⟨k4, 0, none⟩ 0 [(.slice A10_0 n10_0 c10_0), (.int .i64 x10_1)] fun w4 =>
 ∃ (A4r_0 : OA) (n4r_0 : Nat) (c4r_0 : Nat) (x4r_1 : Int), RD w4 ⟨k4, 0, none⟩ 0 [(.slice A4r_0 n4r_0 c4r_0), (.int .i64 x4r_1)] ∧
 R (.tuple #[(.agg #[(.slice A4r_0 n4r_0 c4r_0), (.int .i64 x4r_1)]), (.int .i64 0), (.int .i64 4)]) w4) (
 ∃ (A11_0 : OA) (n11_0 : Nat) (c11_0 : Nat) (x11_1 : Int), RD w3 ⟨k2, 0, none⟩ 0 [(.slice A11_0 n11_0 c11_0), (.int .i64 x11_1)] ∧
 CALL PP 93 [(.agg #[(.slice A11_0 n11_0 c11_0), (.int .i64 x11_1)]), (.string s1)] w3 fun r13 w4 =>
 ∃ (x13 : Int), r13 = (.int .i64 x13) ∧
 SPLIT (decide (x13 > (0 : Int))) (
 ∃ (A15_0 : OA) (n15_0 : Nat) (c15_0 : Nat) (x15_1 : Int), RD w4 ⟨k2, 0, none⟩ 0 [(.slice A15_0 n15_0 c15_0), (.int .i64 x15_1)] ∧
 ST w4 ⟨k4, 0, none⟩ 0 [(.slice A15_0 n15_0 c15_0), (.int .i64 x15_1)] fun w5 =>
 ∃ (A4r_0 : OA) (n4r_0 : Nat) (c4r_0 : Nat) (x4r_1 : Int), RD w5 ⟨k4, 0, none⟩ 0 [(.slice A4r_0 n4r_0 c4r_0), (.int .i64 x4r_1)] ∧
 R (.tuple #[(.agg #[(.slice A4r_0 n4r_0 c4r_0), (.int .i64 x4r_1)]), (.int .i64 0), (.int .i64 6)]) w5) (
 ∃ (A17 : OA) (n17 : Nat) (c17 : Nat), w4.cell? ⟨k2, 0, none⟩ = some (.slice A17 n17 c17) ∧
 SPLIT ((n17 : Int) == (16 : Int)) (
 ∃ (A20_0 : OA) (n20_0 : Nat) (c20_0 : Nat) (x20_1 : Int), RD w4 ⟨k2, 0, none⟩ 0 [(.slice A20_0 n20_0 c20_0), (.int .i64 x20_1)] ∧
 ST w4 ⟨k4, 0, none⟩ 0 [(.slice A20_0 n20_0 c20_0), (.int .i64 x20_1)] fun w5 =>
 ∃ (A4r_0 : OA) (n4r_0 : Nat) (c4r_0 : Nat) (x4r_1 : Int), RD w5 ⟨k4, 0, none⟩ 0 [(.slice A4r_0 n4r_0 c4r_0), (.int .i64 x4r_1)] ∧
 R (.tuple #[(.agg #[(.slice A4r_0 n4r_0 c4r_0), (.int .i64 x4r_1)]), (.int .i64 0), (.int .i64 8)]) w5) (
 DRAW w4 fun w5 =>
 ∃ (A22 : OA) (n22 : Nat) (c22 : Nat), w5.cell? ⟨k2, 0, none⟩ = some (.slice A22 n22 c22) ∧
 ∃ (x25 : Int), w5.cell? ⟨k2, 1, none⟩ = some (.int .i64 x25) ∧
 ∃ (x29 : Int), w5.cell? ⟨k2, 1, none⟩ = some (.int .i64 x29) ∧
 ∃ (x33 : Int), w5.cell? ⟨k2, 1, none⟩ = some (.int .i64 x33) ∧
 CALL PP 94 [(.slice A22 n22 c22), (.agg #[(.string s1), (.int .i64 x25)])] w5 fun r27 w6 =>
 ∃ (A27 : OA) (n27 : Nat) (c27 : Nat), r27 = (.slice A27 n27 c27) ∧
 (loadVar 3 ⟨k2, 1, none⟩).run PP w6 = .ok (.int .i64 x33) w6 ∧
 (loadVar 3 ⟨k2, 1, none⟩).run PP w6 = .ok (.int .i64 x29) w6 ∧
 ST w6 ⟨k4, 0, none⟩ 0 [(.slice A27 n27 c27), (.int .i64 (IntKind.wrap .i64 (x29 + (1 : Int))))] fun w7 =>
 (loadVar 3 ⟨k2, 1, none⟩).run PP w7 = .ok (.int .i64 x33) w7 ∧
 ∃ (A4r_0 : OA) (n4r_0 : Nat) (c4r_0 : Nat) (x4r_1 : Int), RD w7 ⟨k4, 0, none⟩ 0 [(.slice A4r_0 n4r_0 c4r_0), (.int .i64 x4r_1)] ∧
 R (.tuple #[(.agg #[(.slice A4r_0 n4r_0 c4r_0), (.int .i64 x4r_1)]), (.int .i64 x33), (.int .i64 0)]) w7)))
noncomputable def A47 : Ann := .leaf
noncomputable def C47 : Code := (Tryz.f47.body).getD .skip
theorem c47 {A0_0 : OA} {n0_0 : Nat} {c0_0 : Nat} {x0_1 : Int} {s1 : ByteArray} {w : World} {R : Value → World → Prop} (h : S47 A0_0 n0_0 c0_0 x0_1 s1 w R) : Calls PP 47 #[(.agg #[(.slice A0_0 n0_0 c0_0), (.int .i64 x0_1)]), (.string s1)] w (Ret R) :=
 vcF_sound (c := C47) (ann := A47) follows_ Tryz.func47 (by kernel_rfl) (cast (by kernel_rfl) h)

/- sealwax/sealwaxref17.Delete -/
def S50 (A0_0 : OA) (n0_0 : Nat) (c0_0 : Nat) (x0_1 : Int) (s1 : ByteArray) (w : World) (R : Value → World → Prop) : Prop :=
 NEW w (.cells #[(.slice A0_0 n0_0 c0_0), (.int .i64 x0_1)] 65) fun k2 w1 =>
 NEW w1 (.cells #[(.slice none 0 0), (.int .i64 0)] 65) fun k4 w2 =>
 ∃ (A8_0 : OA) (n8_0 : Nat) (c8_0 : Nat) (x8_1 : Int), RD w2 ⟨k2, 0, none⟩ 0 [(.slice A8_0 n8_0 c8_0), (.int .i64 x8_1)] ∧
 CALL PP 93 [(.agg #[(.slice A8_0 n8_0 c8_0), (.int .i64 x8_1)]), (.string s1)] w2 fun r10 w3 =>
 ∃ (x10 : Int), r10 = (.int .i64 x10) ∧
 SPLIT (x10 == (0 : Int)) (
 ∃ (A13_0 : OA) (n13_0 : Nat) (c13_0 : Nat) (x13_1 : Int), RD w3 ⟨k2, 0, none⟩ 0 [(.slice A13_0 n13_0 c13_0), (.int .i64 x13_1)] ∧
 ST w3 ⟨k4, 0, none⟩ 0 [(.slice A13_0 n13_0 c13_0), (.int .i64 x13_1)] fun w4 =>
 ∃ (A4r_0 : OA) (n4r_0 : Nat) (c4r_0 : Nat) (x4r_1 : Int), RD w4 ⟨k4, 0, none⟩ 0 [(.slice A4r_0 n4r_0 c4r_0), (.int .i64 x4r_1)] ∧
 R (.tuple #[(.agg #[(.slice A4r_0 n4r_0 c4r_0), (.int .i64 x4r_1)]), (.int .i64 0), (.int .i64 5)]) w4) (
 DRAW w3 fun w4 =>
 ∃ (A15 : OA) (n15 : Nat) (c15 : Nat), w4.cell? ⟨k2, 0, none⟩ = some (.slice A15 n15 c15) ∧
 ∃ (x19 : Int), w4.cell? ⟨k2, 1, none⟩ = some (.int .i64 x19) ∧
 CALL PP 95 [(.slice A15 n15 c15), (.string s1)] w4 fun r17 w5 =>
 ∃ (A17 : OA) (n17 : Nat) (c17 : Nat), r17 = (.slice A17 n17 c17) ∧
 (loadVar 3 ⟨k2, 1, none⟩).run PP w5 = .ok (.int .i64 x19) w5 ∧
 ST w5 ⟨k4, 0, none⟩ 0 [(.slice A17 n17 c17), (.int .i64 x19)] fun w6 =>
 ∃ (A4r_0 : OA) (n4r_0 : Nat) (c4r_0 : Nat) (x4r_1 : Int), RD w6 ⟨k4, 0, none⟩ 0 [(.slice A4r_0 n4r_0 c4r_0), (.int .i64 x4r_1)] ∧
 R (.tuple #[(.agg #[(.slice A4r_0 n4r_0 c4r_0), (.int .i64 x4r_1)]), (.int .i64 x10), (.int .i64 0)]) w6)
noncomputable def A50 : Ann := .leaf
noncomputable def C50 : Code := (Tryz.f50.body).getD .skip
theorem c50 {A0_0 : OA} {n0_0 : Nat} {c0_0 : Nat} {x0_1 : Int} {s1 : ByteArray} {w : World} {R : Value → World → Prop} (h : S50 A0_0 n0_0 c0_0 x0_1 s1 w R) : Calls PP 50 #[(.agg #[(.slice A0_0 n0_0 c0_0), (.int .i64 x0_1)]), (.string s1)] w (Ret R) :=
 vcF_sound (c := C50) (ann := A50) follows_ Tryz.func50 (by kernel_rfl) (cast (by kernel_rfl) h)

/- sealwax/sealwaxref17.Rename -/
def S52 (A0_0 : OA) (n0_0 : Nat) (c0_0 : Nat) (x0_1 : Int) (s1 : ByteArray) (s2 : ByteArray) (w : World) (R : Value → World → Prop) : Prop :=
 NEW w (.cells #[(.slice A0_0 n0_0 c0_0), (.int .i64 x0_1)] 65) fun k3 w1 =>
 NEW w1 (.cells #[(.slice none 0 0), (.int .i64 0)] 65) fun k6 w2 =>
 ∃ (A10_0 : OA) (n10_0 : Nat) (c10_0 : Nat) (x10_1 : Int), RD w2 ⟨k3, 0, none⟩ 0 [(.slice A10_0 n10_0 c10_0), (.int .i64 x10_1)] ∧
 CALL PP 93 [(.agg #[(.slice A10_0 n10_0 c10_0), (.int .i64 x10_1)]), (.string s1)] w2 fun r12 w3 =>
 ∃ (x12 : Int), r12 = (.int .i64 x12) ∧
 SPLIT (x12 == (0 : Int)) (
 ∃ (A15_0 : OA) (n15_0 : Nat) (c15_0 : Nat) (x15_1 : Int), RD w3 ⟨k3, 0, none⟩ 0 [(.slice A15_0 n15_0 c15_0), (.int .i64 x15_1)] ∧
 ST w3 ⟨k6, 0, none⟩ 0 [(.slice A15_0 n15_0 c15_0), (.int .i64 x15_1)] fun w4 =>
 ∃ (A6r_0 : OA) (n6r_0 : Nat) (c6r_0 : Nat) (x6r_1 : Int), RD w4 ⟨k6, 0, none⟩ 0 [(.slice A6r_0 n6r_0 c6r_0), (.int .i64 x6r_1)] ∧
 R (.tuple #[(.agg #[(.slice A6r_0 n6r_0 c6r_0), (.int .i64 x6r_1)]), (.int .i64 0), (.int .i64 5)]) w4) (
 CALL PP 92 [(.string s2)] w3 fun r17 w4 =>
 ∃ (b17 : Bool), r17 = (.bool b17) ∧
 SPLIT (!b17) (
 ∃ (A19_0 : OA) (n19_0 : Nat) (c19_0 : Nat) (x19_1 : Int), RD w4 ⟨k3, 0, none⟩ 0 [(.slice A19_0 n19_0 c19_0), (.int .i64 x19_1)] ∧
 ST w4 ⟨k6, 0, none⟩ 0 [(.slice A19_0 n19_0 c19_0), (.int .i64 x19_1)] fun w5 =>
 ∃ (A6r_0 : OA) (n6r_0 : Nat) (c6r_0 : Nat) (x6r_1 : Int), RD w5 ⟨k6, 0, none⟩ 0 [(.slice A6r_0 n6r_0 c6r_0), (.int .i64 x6r_1)] ∧
 R (.tuple #[(.agg #[(.slice A6r_0 n6r_0 c6r_0), (.int .i64 x6r_1)]), (.int .i64 0), (.int .i64 4)]) w5) (
 ∃ (A20_0 : OA) (n20_0 : Nat) (c20_0 : Nat) (x20_1 : Int), RD w4 ⟨k3, 0, none⟩ 0 [(.slice A20_0 n20_0 c20_0), (.int .i64 x20_1)] ∧
 CALL PP 93 [(.agg #[(.slice A20_0 n20_0 c20_0), (.int .i64 x20_1)]), (.string s2)] w4 fun r22 w5 =>
 ∃ (x22 : Int), r22 = (.int .i64 x22) ∧
 SPLIT (decide (x22 > (0 : Int))) (
 ∃ (A24_0 : OA) (n24_0 : Nat) (c24_0 : Nat) (x24_1 : Int), RD w5 ⟨k3, 0, none⟩ 0 [(.slice A24_0 n24_0 c24_0), (.int .i64 x24_1)] ∧
 ST w5 ⟨k6, 0, none⟩ 0 [(.slice A24_0 n24_0 c24_0), (.int .i64 x24_1)] fun w6 =>
 ∃ (A6r_0 : OA) (n6r_0 : Nat) (c6r_0 : Nat) (x6r_1 : Int), RD w6 ⟨k6, 0, none⟩ 0 [(.slice A6r_0 n6r_0 c6r_0), (.int .i64 x6r_1)] ∧
 R (.tuple #[(.agg #[(.slice A6r_0 n6r_0 c6r_0), (.int .i64 x6r_1)]), (.int .i64 0), (.int .i64 6)]) w6) (
 DRAW w5 fun w6 =>
 ∃ (A26 : OA) (n26 : Nat) (c26 : Nat), w6.cell? ⟨k3, 0, none⟩ = some (.slice A26 n26 c26) ∧
 ∃ (x34 : Int), w6.cell? ⟨k3, 1, none⟩ = some (.int .i64 x34) ∧
 CALL PP 95 [(.slice A26 n26 c26), (.string s1)] w6 fun r28 w7 =>
 ∃ (A28 : OA) (n28 : Nat) (c28 : Nat), r28 = (.slice A28 n28 c28) ∧
 (loadVar 3 ⟨k3, 1, none⟩).run PP w7 = .ok (.int .i64 x34) w7 ∧
 CALL PP 94 [(.slice A28 n28 c28), (.agg #[(.string s2), (.int .i64 x12)])] w7 fun r32 w8 =>
 ∃ (A32 : OA) (n32 : Nat) (c32 : Nat), r32 = (.slice A32 n32 c32) ∧
 (loadVar 3 ⟨k3, 1, none⟩).run PP w8 = .ok (.int .i64 x34) w8 ∧
 ST w8 ⟨k6, 0, none⟩ 0 [(.slice A32 n32 c32), (.int .i64 x34)] fun w9 =>
 ∃ (A6r_0 : OA) (n6r_0 : Nat) (c6r_0 : Nat) (x6r_1 : Int), RD w9 ⟨k6, 0, none⟩ 0 [(.slice A6r_0 n6r_0 c6r_0), (.int .i64 x6r_1)] ∧
 R (.tuple #[(.agg #[(.slice A6r_0 n6r_0 c6r_0), (.int .i64 x6r_1)]), (.int .i64 x12), (.int .i64 0)]) w9)))
noncomputable def A52 : Ann := .leaf
noncomputable def C52 : Code := (Tryz.f52.body).getD .skip
theorem c52 {A0_0 : OA} {n0_0 : Nat} {c0_0 : Nat} {x0_1 : Int} {s1 : ByteArray} {s2 : ByteArray} {w : World} {R : Value → World → Prop} (h : S52 A0_0 n0_0 c0_0 x0_1 s1 s2 w R) : Calls PP 52 #[(.agg #[(.slice A0_0 n0_0 c0_0), (.int .i64 x0_1)]), (.string s1), (.string s2)] w (Ret R) :=
 vcF_sound (c := C52) (ann := A52) follows_ Tryz.func52 (by kernel_rfl) (cast (by kernel_rfl) h)

end Go.SW
set_option linter.unusedVariables false
namespace Go.SW
open Go Go.Proofs
set_option maxRecDepth 100000
/- sealwax/sealwaxref18.New -/
def S48 (x0 : Int) (w : World) (R : Value → World → Prop) : Prop :=
 NEW w (.cells #[(.int .i64 0), (.int .i64 0), (.slice none 0 0)] 108) fun k2 w1 =>
 ST w1 ⟨k2, 0, none⟩ 0 [(.int .i64 (if (if (1099511627776 : Int) < x0 then (1099511627776 : Int) else x0) > (1 : Int) then (if (1099511627776 : Int) < x0 then (1099511627776 : Int) else x0) else (1 : Int))), (.int .i64 1), (.slice none 0 0)] fun w2 =>
 ∃ (x2r_0 : Int) (x2r_1 : Int) (A2r_2 : OA) (n2r_2 : Nat) (c2r_2 : Nat), RD w2 ⟨k2, 0, none⟩ 0 [(.int .i64 x2r_0), (.int .i64 x2r_1), (.slice A2r_2 n2r_2 c2r_2)] ∧
 R (.agg #[(.int .i64 x2r_0), (.int .i64 x2r_1), (.slice A2r_2 n2r_2 c2r_2)]) w2
noncomputable def A48 : Ann := .leaf
noncomputable def C48 : Code := (Tryz.f48.body).getD .skip
theorem c48 {x0 : Int} {w : World} {R : Value → World → Prop} (h : S48 x0 w R) : Calls PP 48 #[(.int .i64 x0)] w (Ret R) :=
 vcF_sound (c := C48) (ann := A48) follows_ Tryz.func48 (by kernel_rfl) (cast (by kernel_rfl) h)

/- sealwax/sealwaxref18.Unseen -/
def S55 (x0_0 : Int) (x0_1 : Int) (A0_2 : OA) (n0_2 : Nat) (c0_2 : Nat) (w : World) (R : Value → World → Prop) : Prop :=
 NEW w (.cells #[(.int .i64 x0_0), (.int .i64 x0_1), (.slice A0_2 n0_2 c0_2)] 108) fun k1 w1 =>
 ∃ (A7 : OA) (n7 : Nat) (c7 : Nat), w1.cell? ⟨k1, 2, none⟩ = some (.slice A7 n7 c7) ∧
 ∃ (I : Int → Int → World → Prop) (μ : Int → Int → World → Nat), I (0 : Int) (0 : Int) w1 ∧
 ∀ (_j : Nat → Value) (x3 : Int) (x9 : Int) (w2 : World), I x3 x9 w2 →
 SPLIT (decide (x9 < (n7 : Int))) (
 ∃ I_1 : Int → World → Prop, (
 (0 ≤ x9 ∧ x9 < (n7 : Int)) ∧
 SOMEA A7 fun a11 =>
 ∃ (x12_0 : Int) (x12_1 : Int) (x12_2 : Int), RD w2 (Addr.add a11 (Int.toNat x9 * 3)) 0 [(.int .i64 x12_0), (.int .i64 x12_1), (.int .i64 x12_2)] ∧
 NEW w2 (.cells #[(.int .i64 0), (.int .i64 0), (.int .i64 0)] 118) fun k5 w3 =>
 ST w3 ⟨k5, 0, none⟩ 0 [(.int .i64 x12_0), (.int .i64 x12_1), (.int .i64 x12_2)] fun w4 =>
 ∃ (x14 : Int), w4.cell? ⟨k5, 1, none⟩ = some (.int .i64 x14) ∧
 IntKind.i64 = IntKind.i64 ∧ (2 : Int) ≠ 0 ∧
 SPLIT ((Int.tmod x14 (2 : Int)) == (0 : Int)) (
 I_1 (IntKind.wrap .i64 (x3 + (1 : Int))) w4) (
 I_1 x3 w4)) ∧
 ∀ (_j : Nat → Value) (x3_1 : Int) (w3 : World), I_1 x3_1 w3 →
 I x3_1 (IntKind.wrap .i64 (x9 + (1 : Int))) w3 ∧ μ x3_1 (IntKind.wrap .i64 (x9 + (1 : Int))) w3 < μ x3 x9 w2) (
 R (.int .i64 x3) w2)
noncomputable def A55 : Ann := (.two .leaf (.two .leaf (.two (.two .leaf (.one (.loop 1048104 [(3, .int .i64), (9, .int .i64)] (.two .leaf (.two .leaf (.cut 522280 [(3, .int .i64)] .leaf .leaf)))))) .leaf)))
noncomputable def C55 : Code := (Tryz.f55.body).getD .skip
theorem c55 {x0_0 : Int} {x0_1 : Int} {A0_2 : OA} {n0_2 : Nat} {c0_2 : Nat} {w : World} {R : Value → World → Prop} (h : S55 x0_0 x0_1 A0_2 n0_2 c0_2 w R) : Calls PP 55 #[(.agg #[(.int .i64 x0_0), (.int .i64 x0_1), (.slice A0_2 n0_2 c0_2)])] w (Ret R) :=
 vcF_sound (c := C55) (ann := A55) follows_ Tryz.func55 (by kernel_rfl) (cast (by kernel_rfl) h)

/- sealwax/sealwaxref18.Add -/
def S56 (x0_0 : Int) (x0_1 : Int) (A0_2 : OA) (n0_2 : Nat) (c0_2 : Nat) (x1 : Int) (x2 : Int) (w : World) (R : Value → World → Prop) : Prop :=
 NEW w (.cells #[(.int .i64 x0_0), (.int .i64 x0_1), (.slice A0_2 n0_2 c0_2)] 108) fun k3 w1 =>
 NEW w1 (.cells #[(.int .i64 0), (.int .i64 0), (.slice none 0 0)] 108) fun k6 w2 =>
 NEW w2 (.cells #[(.int .i64 0), (.int .i64 0), (.int .i64 0)] 118) fun k7 w3 =>
 ∃ I : World → Prop, (
 ∃ I_1 : Bool → World → Prop, (
 SPLIT (decide (x1 < (1 : Int))) (
 I_1 true w3) (
 SPLIT (decide (x1 > (1099511627776 : Int))) (
 I_1 true w3) (
 SPLIT (decide (x2 < (0 : Int))) (
 I_1 true w3) (
 I_1 (decide (x2 > (31 : Int))) w3)))) ∧
 ∀ (_j : Nat → Value) (b23 : Bool) (w4 : World), I_1 b23 w4 →
 SPLIT b23 (
 ∃ (x24_0 : Int) (x24_1 : Int) (A24_2 : OA) (n24_2 : Nat) (c24_2 : Nat), RD w4 ⟨k3, 0, none⟩ 0 [(.int .i64 x24_0), (.int .i64 x24_1), (.slice A24_2 n24_2 c24_2)] ∧
 ST w4 ⟨k6, 0, none⟩ 0 [(.int .i64 x24_0), (.int .i64 x24_1), (.slice A24_2 n24_2 c24_2)] fun w5 =>
 ST w5 ⟨k7, 0, none⟩ 0 [(.int .i64 0), (.int .i64 0), (.int .i64 0)] fun w6 =>
 ∃ (x6r_0 : Int) (x6r_1 : Int) (A6r_2 : OA) (n6r_2 : Nat) (c6r_2 : Nat), RD w6 ⟨k6, 0, none⟩ 0 [(.int .i64 x6r_0), (.int .i64 x6r_1), (.slice A6r_2 n6r_2 c6r_2)] ∧
 ∃ (x7r_0 : Int) (x7r_1 : Int) (x7r_2 : Int), RD w6 ⟨k7, 0, none⟩ 0 [(.int .i64 x7r_0), (.int .i64 x7r_1), (.int .i64 x7r_2)] ∧
 R (.tuple #[(.agg #[(.int .i64 x6r_0), (.int .i64 x6r_1), (.slice A6r_2 n6r_2 c6r_2)]), (.agg #[(.int .i64 x7r_0), (.int .i64 x7r_1), (.int .i64 x7r_2)]), (.int .i64 4)]) w6) (
 I w4)) ∧
 ∀ (_j : Nat → Value) (w4 : World), I w4 →
 ∃ (A27 : OA) (n27 : Nat) (c27 : Nat), w4.cell? ⟨k3, 2, none⟩ = some (.slice A27 n27 c27) ∧
 SPLIT (decide ((n27 : Int) ≥ (256 : Int))) (
 ∃ (x30_0 : Int) (x30_1 : Int) (A30_2 : OA) (n30_2 : Nat) (c30_2 : Nat), RD w4 ⟨k3, 0, none⟩ 0 [(.int .i64 x30_0), (.int .i64 x30_1), (.slice A30_2 n30_2 c30_2)] ∧
 ST w4 ⟨k6, 0, none⟩ 0 [(.int .i64 x30_0), (.int .i64 x30_1), (.slice A30_2 n30_2 c30_2)] fun w5 =>
 ST w5 ⟨k7, 0, none⟩ 0 [(.int .i64 0), (.int .i64 0), (.int .i64 0)] fun w6 =>
 ∃ (x6r_0 : Int) (x6r_1 : Int) (A6r_2 : OA) (n6r_2 : Nat) (c6r_2 : Nat), RD w6 ⟨k6, 0, none⟩ 0 [(.int .i64 x6r_0), (.int .i64 x6r_1), (.slice A6r_2 n6r_2 c6r_2)] ∧
 ∃ (x7r_0 : Int) (x7r_1 : Int) (x7r_2 : Int), RD w6 ⟨k7, 0, none⟩ 0 [(.int .i64 x7r_0), (.int .i64 x7r_1), (.int .i64 x7r_2)] ∧
 R (.tuple #[(.agg #[(.int .i64 x6r_0), (.int .i64 x6r_1), (.slice A6r_2 n6r_2 c6r_2)]), (.agg #[(.int .i64 x7r_0), (.int .i64 x7r_1), (.int .i64 x7r_2)]), (.int .i64 8)]) w6) (
 ∃ (x33 : Int), w4.cell? ⟨k3, 1, none⟩ = some (.int .i64 x33) ∧
 NEW w4 (.cells #[(.int .i64 0), (.int .i64 0), (.int .i64 0)] 118) fun k9 w5 =>
 ST w5 ⟨k9, 0, none⟩ 0 [(.int .i64 x33), (.int .i64 x2), (.int .i64 x1)] fun w6 =>
 DRAW w6 fun w7 =>
 ∃ (x38 : Int), w7.cell? ⟨k3, 0, none⟩ = some (.int .i64 x38) ∧
 ∃ (x40 : Int), w7.cell? ⟨k3, 1, none⟩ = some (.int .i64 x40) ∧
 ∃ (A44 : OA) (n44 : Nat) (c44 : Nat), w7.cell? ⟨k3, 2, none⟩ = some (.slice A44 n44 c44) ∧
 ∃ (x46_0 : Int) (x46_1 : Int) (x46_2 : Int), RD w7 ⟨k9, 0, none⟩ 0 [(.int .i64 x46_0), (.int .i64 x46_1), (.int .i64 x46_2)] ∧
 ∃ (x50_0 : Int) (x50_1 : Int) (x50_2 : Int), RD w7 ⟨k9, 0, none⟩ 0 [(.int .i64 x50_0), (.int .i64 x50_1), (.int .i64 x50_2)] ∧
 (
 NEW w7 (.cells #[] 118) fun k42 w8 =>
 (loadVar 118 ⟨k9, 0, none⟩).run PP w8 = .ok (.agg #[(.int .i64 x50_0), (.int .i64 x50_1), (.int .i64 x50_2)]) w8 ∧
 (loadVar 118 ⟨k9, 0, none⟩).run PP w8 = .ok (.agg #[(.int .i64 x46_0), (.int .i64 x46_1), (.int .i64 x46_2)]) w8 ∧
 (loadVar 106 ⟨k3, 2, none⟩).run PP w8 = .ok (.slice A44 n44 c44) w8 ∧
 (loadVar 3 ⟨k3, 1, none⟩).run PP w8 = .ok (.int .i64 x40) w8 ∧
 (loadVar 3 ⟨k3, 0, none⟩).run PP w8 = .ok (.int .i64 x38) w8 ∧
 (
 RUN PP (Builtin.append_ #[106, 106] 106 #[(.slice (some ⟨k42, 0, none⟩) 0 0), (.slice A44 n44 c44)]) w8 fun r45 w9 =>
 ∃ (A45 : OA) (n45 : Nat) (c45 : Nat), r45 = (.slice A45 n45 c45) ∧
 (loadVar 118 ⟨k9, 0, none⟩).run PP w9 = .ok (.agg #[(.int .i64 x50_0), (.int .i64 x50_1), (.int .i64 x50_2)]) w9 ∧
 (loadVar 118 ⟨k9, 0, none⟩).run PP w9 = .ok (.agg #[(.int .i64 x46_0), (.int .i64 x46_1), (.int .i64 x46_2)]) w9 ∧
 (loadVar 3 ⟨k3, 1, none⟩).run PP w9 = .ok (.int .i64 x40) w9 ∧
 (loadVar 3 ⟨k3, 0, none⟩).run PP w9 = .ok (.int .i64 x38) w9 ∧
 NEW w9 (.cells #[(.int .i64 x46_0), (.int .i64 x46_1), (.int .i64 x46_2)] 118) fun k47 w10 =>
 (loadVar 118 ⟨k9, 0, none⟩).run PP w10 = .ok (.agg #[(.int .i64 x50_0), (.int .i64 x50_1), (.int .i64 x50_2)]) w10 ∧
 (loadVar 3 ⟨k3, 1, none⟩).run PP w10 = .ok (.int .i64 x40) w10 ∧
 (loadVar 3 ⟨k3, 0, none⟩).run PP w10 = .ok (.int .i64 x38) w10 ∧
 RUN PP (Builtin.append_ #[106, 106] 106 #[(.slice A45 n45 c45), (.slice (some ⟨k47, 0, none⟩) 1 1)]) w10 fun r48 w11 =>
 ∃ (A48 : OA) (n48 : Nat) (c48 : Nat), r48 = (.slice A48 n48 c48) ∧
 (loadVar 118 ⟨k9, 0, none⟩).run PP w11 = .ok (.agg #[(.int .i64 x50_0), (.int .i64 x50_1), (.int .i64 x50_2)]) w11 ∧
 (loadVar 3 ⟨k3, 1, none⟩).run PP w11 = .ok (.int .i64 x40) w11 ∧
 (loadVar 3 ⟨k3, 0, none⟩).run PP w11 = .ok (.int .i64 x38) w11 ∧
 ST w11 ⟨k6, 0, none⟩ 0 [(.int .i64 x38), (.int .i64 (IntKind.wrap .i64 (x40 + (1 : Int)))), (.slice A48 n48 c48)] fun w12 =>
 (loadVar 118 ⟨k9, 0, none⟩).run PP w12 = .ok (.agg #[(.int .i64 x50_0), (.int .i64 x50_1), (.int .i64 x50_2)]) w12 ∧
 ST w12 ⟨k7, 0, none⟩ 0 [(.int .i64 x50_0), (.int .i64 x50_1), (.int .i64 x50_2)] fun w13 =>
 ∃ (x6r_0 : Int) (x6r_1 : Int) (A6r_2 : OA) (n6r_2 : Nat) (c6r_2 : Nat), RD w13 ⟨k6, 0, none⟩ 0 [(.int .i64 x6r_0), (.int .i64 x6r_1), (.slice A6r_2 n6r_2 c6r_2)] ∧
 ∃ (x7r_0 : Int) (x7r_1 : Int) (x7r_2 : Int), RD w13 ⟨k7, 0, none⟩ 0 [(.int .i64 x7r_0), (.int .i64 x7r_1), (.int .i64 x7r_2)] ∧
 R (.tuple #[(.agg #[(.int .i64 x6r_0), (.int .i64 x6r_1), (.slice A6r_2 n6r_2 c6r_2)]), (.agg #[(.int .i64 x7r_0), (.int .i64 x7r_1), (.int .i64 x7r_2)]), (.int .i64 0)]) w13) ∧
 (
 NEW w8 (.cells #[(.int .i64 x46_0), (.int .i64 x46_1), (.int .i64 x46_2)] 118) fun k47 w9 =>
 (loadVar 118 ⟨k9, 0, none⟩).run PP w9 = .ok (.agg #[(.int .i64 x50_0), (.int .i64 x50_1), (.int .i64 x50_2)]) w9 ∧
 (loadVar 106 ⟨k3, 2, none⟩).run PP w9 = .ok (.slice A44 n44 c44) w9 ∧
 (loadVar 3 ⟨k3, 1, none⟩).run PP w9 = .ok (.int .i64 x40) w9 ∧
 (loadVar 3 ⟨k3, 0, none⟩).run PP w9 = .ok (.int .i64 x38) w9 ∧
 RUN PP (Builtin.append_ #[106, 106] 106 #[(.slice (some ⟨k42, 0, none⟩) 0 0), (.slice A44 n44 c44)]) w9 fun r45 w10 =>
 ∃ (A45 : OA) (n45 : Nat) (c45 : Nat), r45 = (.slice A45 n45 c45) ∧
 (loadVar 118 ⟨k9, 0, none⟩).run PP w10 = .ok (.agg #[(.int .i64 x50_0), (.int .i64 x50_1), (.int .i64 x50_2)]) w10 ∧
 (loadVar 3 ⟨k3, 1, none⟩).run PP w10 = .ok (.int .i64 x40) w10 ∧
 (loadVar 3 ⟨k3, 0, none⟩).run PP w10 = .ok (.int .i64 x38) w10 ∧
 RUN PP (Builtin.append_ #[106, 106] 106 #[(.slice A45 n45 c45), (.slice (some ⟨k47, 0, none⟩) 1 1)]) w10 fun r48 w11 =>
 ∃ (A48 : OA) (n48 : Nat) (c48 : Nat), r48 = (.slice A48 n48 c48) ∧
 (loadVar 118 ⟨k9, 0, none⟩).run PP w11 = .ok (.agg #[(.int .i64 x50_0), (.int .i64 x50_1), (.int .i64 x50_2)]) w11 ∧
 (loadVar 3 ⟨k3, 1, none⟩).run PP w11 = .ok (.int .i64 x40) w11 ∧
 (loadVar 3 ⟨k3, 0, none⟩).run PP w11 = .ok (.int .i64 x38) w11 ∧
 ST w11 ⟨k6, 0, none⟩ 0 [(.int .i64 x38), (.int .i64 (IntKind.wrap .i64 (x40 + (1 : Int)))), (.slice A48 n48 c48)] fun w12 =>
 (loadVar 118 ⟨k9, 0, none⟩).run PP w12 = .ok (.agg #[(.int .i64 x50_0), (.int .i64 x50_1), (.int .i64 x50_2)]) w12 ∧
 ST w12 ⟨k7, 0, none⟩ 0 [(.int .i64 x50_0), (.int .i64 x50_1), (.int .i64 x50_2)] fun w13 =>
 ∃ (x6r_0 : Int) (x6r_1 : Int) (A6r_2 : OA) (n6r_2 : Nat) (c6r_2 : Nat), RD w13 ⟨k6, 0, none⟩ 0 [(.int .i64 x6r_0), (.int .i64 x6r_1), (.slice A6r_2 n6r_2 c6r_2)] ∧
 ∃ (x7r_0 : Int) (x7r_1 : Int) (x7r_2 : Int), RD w13 ⟨k7, 0, none⟩ 0 [(.int .i64 x7r_0), (.int .i64 x7r_1), (.int .i64 x7r_2)] ∧
 R (.tuple #[(.agg #[(.int .i64 x6r_0), (.int .i64 x6r_1), (.slice A6r_2 n6r_2 c6r_2)]), (.agg #[(.int .i64 x7r_0), (.int .i64 x7r_1), (.int .i64 x7r_2)]), (.int .i64 0)]) w13)) ∧
 (
 NEW w7 (.cells #[(.int .i64 x46_0), (.int .i64 x46_1), (.int .i64 x46_2)] 118) fun k47 w8 =>
 (loadVar 118 ⟨k9, 0, none⟩).run PP w8 = .ok (.agg #[(.int .i64 x50_0), (.int .i64 x50_1), (.int .i64 x50_2)]) w8 ∧
 (loadVar 106 ⟨k3, 2, none⟩).run PP w8 = .ok (.slice A44 n44 c44) w8 ∧
 (loadVar 3 ⟨k3, 1, none⟩).run PP w8 = .ok (.int .i64 x40) w8 ∧
 (loadVar 3 ⟨k3, 0, none⟩).run PP w8 = .ok (.int .i64 x38) w8 ∧
 NEW w8 (.cells #[] 118) fun k42 w9 =>
 (loadVar 118 ⟨k9, 0, none⟩).run PP w9 = .ok (.agg #[(.int .i64 x50_0), (.int .i64 x50_1), (.int .i64 x50_2)]) w9 ∧
 (loadVar 106 ⟨k3, 2, none⟩).run PP w9 = .ok (.slice A44 n44 c44) w9 ∧
 (loadVar 3 ⟨k3, 1, none⟩).run PP w9 = .ok (.int .i64 x40) w9 ∧
 (loadVar 3 ⟨k3, 0, none⟩).run PP w9 = .ok (.int .i64 x38) w9 ∧
 RUN PP (Builtin.append_ #[106, 106] 106 #[(.slice (some ⟨k42, 0, none⟩) 0 0), (.slice A44 n44 c44)]) w9 fun r45 w10 =>
 ∃ (A45 : OA) (n45 : Nat) (c45 : Nat), r45 = (.slice A45 n45 c45) ∧
 (loadVar 118 ⟨k9, 0, none⟩).run PP w10 = .ok (.agg #[(.int .i64 x50_0), (.int .i64 x50_1), (.int .i64 x50_2)]) w10 ∧
 (loadVar 3 ⟨k3, 1, none⟩).run PP w10 = .ok (.int .i64 x40) w10 ∧
 (loadVar 3 ⟨k3, 0, none⟩).run PP w10 = .ok (.int .i64 x38) w10 ∧
 RUN PP (Builtin.append_ #[106, 106] 106 #[(.slice A45 n45 c45), (.slice (some ⟨k47, 0, none⟩) 1 1)]) w10 fun r48 w11 =>
 ∃ (A48 : OA) (n48 : Nat) (c48 : Nat), r48 = (.slice A48 n48 c48) ∧
 (loadVar 118 ⟨k9, 0, none⟩).run PP w11 = .ok (.agg #[(.int .i64 x50_0), (.int .i64 x50_1), (.int .i64 x50_2)]) w11 ∧
 (loadVar 3 ⟨k3, 1, none⟩).run PP w11 = .ok (.int .i64 x40) w11 ∧
 (loadVar 3 ⟨k3, 0, none⟩).run PP w11 = .ok (.int .i64 x38) w11 ∧
 ST w11 ⟨k6, 0, none⟩ 0 [(.int .i64 x38), (.int .i64 (IntKind.wrap .i64 (x40 + (1 : Int)))), (.slice A48 n48 c48)] fun w12 =>
 (loadVar 118 ⟨k9, 0, none⟩).run PP w12 = .ok (.agg #[(.int .i64 x50_0), (.int .i64 x50_1), (.int .i64 x50_2)]) w12 ∧
 ST w12 ⟨k7, 0, none⟩ 0 [(.int .i64 x50_0), (.int .i64 x50_1), (.int .i64 x50_2)] fun w13 =>
 ∃ (x6r_0 : Int) (x6r_1 : Int) (A6r_2 : OA) (n6r_2 : Nat) (c6r_2 : Nat), RD w13 ⟨k6, 0, none⟩ 0 [(.int .i64 x6r_0), (.int .i64 x6r_1), (.slice A6r_2 n6r_2 c6r_2)] ∧
 ∃ (x7r_0 : Int) (x7r_1 : Int) (x7r_2 : Int), RD w13 ⟨k7, 0, none⟩ 0 [(.int .i64 x7r_0), (.int .i64 x7r_1), (.int .i64 x7r_2)] ∧
 R (.tuple #[(.agg #[(.int .i64 x6r_0), (.int .i64 x6r_1), (.slice A6r_2 n6r_2 c6r_2)]), (.agg #[(.int .i64 x7r_0), (.int .i64 x7r_1), (.int .i64 x7r_2)]), (.int .i64 0)]) w13))
noncomputable def A56 : Ann := (.two .leaf (.cut 67108096 [] (.cut 16776192 [(23, .bool)] .leaf .leaf) .leaf))
noncomputable def C56 : Code := (Tryz.f56.body).getD .skip
theorem c56 {x0_0 : Int} {x0_1 : Int} {A0_2 : OA} {n0_2 : Nat} {c0_2 : Nat} {x1 : Int} {x2 : Int} {w : World} {R : Value → World → Prop} (h : S56 x0_0 x0_1 A0_2 n0_2 c0_2 x1 x2 w R) : Calls PP 56 #[(.agg #[(.int .i64 x0_0), (.int .i64 x0_1), (.slice A0_2 n0_2 c0_2)]), (.int .i64 x1), (.int .i64 x2)] w (Ret R) :=
 vcF_sound (c := C56) (ann := A56) follows_ Tryz.func56 (by kernel_rfl) (cast (by kernel_rfl) h)

/- sealwax/sealwaxref18.Get -/
def S58 (x0_0 : Int) (x0_1 : Int) (A0_2 : OA) (n0_2 : Nat) (c0_2 : Nat) (x1 : Int) (w : World) (R : Value → World → Prop) : Prop :=
 NEW w (.cells #[(.int .i64 x0_0), (.int .i64 x0_1), (.slice A0_2 n0_2 c0_2)] 108) fun k2 w1 =>
 NEW w1 (.cells #[(.int .i64 0), (.int .i64 0), (.int .i64 0)] 118) fun k4 w2 =>
 ∃ (A9 : OA) (n9 : Nat) (c9 : Nat), w2.cell? ⟨k2, 2, none⟩ = some (.slice A9 n9 c9) ∧
 ∃ (I : Int → World → Prop) (μ : Int → World → Nat), I (0 : Int) w2 ∧
 ∀ (_j : Nat → Value) (x11 : Int) (w3 : World), I x11 w3 →
 SPLIT (decide (x11 < (n9 : Int))) (
 (0 ≤ x11 ∧ x11 < (n9 : Int)) ∧
 SOMEA A9 fun a13 =>
 ∃ (x14_0 : Int) (x14_1 : Int) (x14_2 : Int), RD w3 (Addr.add a13 (Int.toNat x11 * 3)) 0 [(.int .i64 x14_0), (.int .i64 x14_1), (.int .i64 x14_2)] ∧
 NEW w3 (.cells #[(.int .i64 0), (.int .i64 0), (.int .i64 0)] 118) fun k7 w4 =>
 ST w4 ⟨k7, 0, none⟩ 0 [(.int .i64 x14_0), (.int .i64 x14_1), (.int .i64 x14_2)] fun w5 =>
 ∃ (x16 : Int), w5.cell? ⟨k7, 0, none⟩ = some (.int .i64 x16) ∧
 SPLIT (x16 == x1) (
 ∃ (x19_0 : Int) (x19_1 : Int) (x19_2 : Int), RD w5 ⟨k7, 0, none⟩ 0 [(.int .i64 x19_0), (.int .i64 x19_1), (.int .i64 x19_2)] ∧
 ST w5 ⟨k4, 0, none⟩ 0 [(.int .i64 x19_0), (.int .i64 x19_1), (.int .i64 x19_2)] fun w6 =>
 ∃ (x4r_0 : Int) (x4r_1 : Int) (x4r_2 : Int), RD w6 ⟨k4, 0, none⟩ 0 [(.int .i64 x4r_0), (.int .i64 x4r_1), (.int .i64 x4r_2)] ∧
 R (.tuple #[(.agg #[(.int .i64 x4r_0), (.int .i64 x4r_1), (.int .i64 x4r_2)]), (.int .i64 0)]) w6) (
 I (IntKind.wrap .i64 (x11 + (1 : Int))) w5 ∧ μ (IntKind.wrap .i64 (x11 + (1 : Int))) w5 < μ x11 w3)) (
 ST w3 ⟨k4, 0, none⟩ 0 [(.int .i64 0), (.int .i64 0), (.int .i64 0)] fun w4 =>
 ∃ (x4r_0 : Int) (x4r_1 : Int) (x4r_2 : Int), RD w4 ⟨k4, 0, none⟩ 0 [(.int .i64 x4r_0), (.int .i64 x4r_1), (.int .i64 x4r_2)] ∧
 R (.tuple #[(.agg #[(.int .i64 x4r_0), (.int .i64 x4r_1), (.int .i64 x4r_2)]), (.int .i64 7)]) w4)
noncomputable def A58 : Ann := (.two .leaf (.two (.two .leaf (.one (.loop 2095264 [(11, .int .i64)] .leaf))) .leaf))
noncomputable def C58 : Code := (Tryz.f58.body).getD .skip
theorem c58 {x0_0 : Int} {x0_1 : Int} {A0_2 : OA} {n0_2 : Nat} {c0_2 : Nat} {x1 : Int} {w : World} {R : Value → World → Prop} (h : S58 x0_0 x0_1 A0_2 n0_2 c0_2 x1 w R) : Calls PP 58 #[(.agg #[(.int .i64 x0_0), (.int .i64 x0_1), (.slice A0_2 n0_2 c0_2)]), (.int .i64 x1)] w (Ret R) :=
 vcF_sound (c := C58) (ann := A58) follows_ Tryz.func58 (by kernel_rfl) (cast (by kernel_rfl) h)

/- sealwax/sealwaxref18.Remove -/
def S60 (x0_0 : Int) (x0_1 : Int) (A0_2 : OA) (n0_2 : Nat) (c0_2 : Nat) (x1 : Int) (w : World) (R : Value → World → Prop) : Prop :=
 NEW w (.cells #[(.int .i64 x0_0), (.int .i64 x0_1), (.slice A0_2 n0_2 c0_2)] 108) fun k2 w1 =>
 NEW w1 (.cells #[(.int .i64 0), (.int .i64 0), (.slice none 0 0)] 108) fun k4 w2 =>
 NEW w2 (.cells #[(.int .i64 0), (.int .i64 0), (.int .i64 0)] 118) fun k5 w3 =>
 ∃ (x13_0 : Int) (x13_1 : Int) (A13_2 : OA) (n13_2 : Nat) (c13_2 : Nat), RD w3 ⟨k2, 0, none⟩ 0 [(.int .i64 x13_0), (.int .i64 x13_1), (.slice A13_2 n13_2 c13_2)] ∧
 CALL PP 58 [(.agg #[(.int .i64 x13_0), (.int .i64 x13_1), (.slice A13_2 n13_2 c13_2)]), (.int .i64 x1)] w3 fun r15 w4 =>
 ∃ (x15a_0 : Int) (x15a_1 : Int) (x15a_2 : Int) (x15b : Int), r15 = (.tuple #[(.agg #[(.int .i64 x15a_0), (.int .i64 x15a_1), (.int .i64 x15a_2)]), (.int .i64 x15b)]) ∧
 NEW w4 (.cells #[(.int .i64 0), (.int .i64 0), (.int .i64 0)] 118) fun k7 w5 =>
 ST w5 ⟨k7, 0, none⟩ 0 [(.int .i64 x15a_0), (.int .i64 x15a_1), (.int .i64 x15a_2)] fun w6 =>
 NEW w6 (.cells #[] 118) fun k18 w7 =>
 ∃ (A20 : OA) (n20 : Nat) (c20 : Nat), w7.cell? ⟨k2, 2, none⟩ = some (.slice A20 n20 c20) ∧
 ∃ (I : OA → Nat → Nat → Int → World → Prop) (μ : OA → Nat → Nat → Int → World → Nat), I (some ⟨k18, 0, none⟩) 0 0 (0 : Int) w7 ∧
 ∀ (_j : Nat → Value) (A9 : OA) (n9 : Nat) (c9 : Nat) (x22 : Int) (w8 : World), I A9 n9 c9 x22 w8 →
 SPLIT (decide (x22 < (n20 : Int))) (
 ∃ I_1 : OA → Nat → Nat → World → Prop, (
 (0 ≤ x22 ∧ x22 < (n20 : Int)) ∧
 SOMEA A20 fun a24 =>
 ∃ (x25_0 : Int) (x25_1 : Int) (x25_2 : Int), RD w8 (Addr.add a24 (Int.toNat x22 * 3)) 0 [(.int .i64 x25_0), (.int .i64 x25_1), (.int .i64 x25_2)] ∧
 NEW w8 (.cells #[(.int .i64 0), (.int .i64 0), (.int .i64 0)] 118) fun k11 w9 =>
 ST w9 ⟨k11, 0, none⟩ 0 [(.int .i64 x25_0), (.int .i64 x25_1), (.int .i64 x25_2)] fun w10 =>
 ∃ (x27 : Int), w10.cell? ⟨k11, 0, none⟩ = some (.int .i64 x27) ∧
 SPLIT (x27 != x1) (
 ∃ (x31_0 : Int) (x31_1 : Int) (x31_2 : Int), RD w10 ⟨k11, 0, none⟩ 0 [(.int .i64 x31_0), (.int .i64 x31_1), (.int .i64 x31_2)] ∧
 NEW w10 (.cells #[(.int .i64 x31_0), (.int .i64 x31_1), (.int .i64 x31_2)] 118) fun k32 w11 =>
 RUN PP (Builtin.append_ #[106, 106] 106 #[(.slice A9 n9 c9), (.slice (some ⟨k32, 0, none⟩) 1 1)]) w11 fun r33 w12 =>
 ∃ (A33 : OA) (n33 : Nat) (c33 : Nat), r33 = (.slice A33 n33 c33) ∧
 I_1 A33 n33 c33 w12) (
 I_1 A9 n9 c9 w10)) ∧
 ∀ (_j : Nat → Value) (A9_1 : OA) (n9_1 : Nat) (c9_1 : Nat) (w9 : World), I_1 A9_1 n9_1 c9_1 w9 →
 I A9_1 n9_1 c9_1 (IntKind.wrap .i64 (x22 + (1 : Int))) w9 ∧ μ A9_1 n9_1 c9_1 (IntKind.wrap .i64 (x22 + (1 : Int))) w9 < μ A9 n9 c9 x22 w8) (
 ST w8 ⟨k2, 2, none⟩ 0 [(.slice A9 n9 c9)] fun w9 =>
 DRAW w9 fun w10 =>
 ∃ (x37_0 : Int) (x37_1 : Int) (A37_2 : OA) (n37_2 : Nat) (c37_2 : Nat), RD w10 ⟨k2, 0, none⟩ 0 [(.int .i64 x37_0), (.int .i64 x37_1), (.slice A37_2 n37_2 c37_2)] ∧
 ∃ (x38_0 : Int) (x38_1 : Int) (x38_2 : Int), RD w10 ⟨k7, 0, none⟩ 0 [(.int .i64 x38_0), (.int .i64 x38_1), (.int .i64 x38_2)] ∧
 ST w10 ⟨k4, 0, none⟩ 0 [(.int .i64 x37_0), (.int .i64 x37_1), (.slice A37_2 n37_2 c37_2)] fun w11 =>
 (loadVar 118 ⟨k7, 0, none⟩).run PP w11 = .ok (.agg #[(.int .i64 x38_0), (.int .i64 x38_1), (.int .i64 x38_2)]) w11 ∧
 ST w11 ⟨k5, 0, none⟩ 0 [(.int .i64 x38_0), (.int .i64 x38_1), (.int .i64 x38_2)] fun w12 =>
 ∃ (x4r_0 : Int) (x4r_1 : Int) (A4r_2 : OA) (n4r_2 : Nat) (c4r_2 : Nat), RD w12 ⟨k4, 0, none⟩ 0 [(.int .i64 x4r_0), (.int .i64 x4r_1), (.slice A4r_2 n4r_2 c4r_2)] ∧
 ∃ (x5r_0 : Int) (x5r_1 : Int) (x5r_2 : Int), RD w12 ⟨k5, 0, none⟩ 0 [(.int .i64 x5r_0), (.int .i64 x5r_1), (.int .i64 x5r_2)] ∧
 R (.tuple #[(.agg #[(.int .i64 x4r_0), (.int .i64 x4r_1), (.slice A4r_2 n4r_2 c4r_2)]), (.agg #[(.int .i64 x5r_0), (.int .i64 x5r_1), (.int .i64 x5r_2)]), (.int .i64 x15b)]) w12)
noncomputable def A60 : Ann := (.two .leaf (.two .leaf (.two .leaf (.two (.two .leaf (.one (.loop 34355546624 [(9, .slice), (22, .int .i64)] (.two .leaf (.two .leaf (.cut 17163094528 [(9, .slice)] .leaf .leaf)))))) .leaf))))
noncomputable def C60 : Code := (Tryz.f60.body).getD .skip
theorem c60 {x0_0 : Int} {x0_1 : Int} {A0_2 : OA} {n0_2 : Nat} {c0_2 : Nat} {x1 : Int} {w : World} {R : Value → World → Prop} (h : S60 x0_0 x0_1 A0_2 n0_2 c0_2 x1 w R) : Calls PP 60 #[(.agg #[(.int .i64 x0_0), (.int .i64 x0_1), (.slice A0_2 n0_2 c0_2)]), (.int .i64 x1)] w (Ret R) :=
 vcF_sound (c := C60) (ann := A60) follows_ Tryz.func60 (by kernel_rfl) (cast (by kernel_rfl) h)

/- sealwax/sealwaxref18.Set -/
def S61 (x0_0 : Int) (x0_1 : Int) (A0_2 : OA) (n0_2 : Nat) (c0_2 : Nat) (x1 : Int) (x2 : Int) (x3 : Int) (w : World) (R : Value → World → Prop) : Prop :=
 NEW w (.cells #[(.int .i64 x0_0), (.int .i64 x0_1), (.slice A0_2 n0_2 c0_2)] 108) fun k4 w1 =>
 NEW w1 (.cells #[(.int .i64 0), (.int .i64 0), (.slice none 0 0)] 108) fun k8 w2 =>
 NEW w2 (.cells #[(.int .i64 0), (.int .i64 0), (.int .i64 0)] 118) fun k9 w3 =>
 ∃ (x19_0 : Int) (x19_1 : Int) (A19_2 : OA) (n19_2 : Nat) (c19_2 : Nat), RD w3 ⟨k4, 0, none⟩ 0 [(.int .i64 x19_0), (.int .i64 x19_1), (.slice A19_2 n19_2 c19_2)] ∧
 CALL PP 58 [(.agg #[(.int .i64 x19_0), (.int .i64 x19_1), (.slice A19_2 n19_2 c19_2)]), (.int .i64 x1)] w3 fun r21 w4 =>
 ∃ (x21a_0 : Int) (x21a_1 : Int) (x21a_2 : Int) (x21b : Int), r21 = (.tuple #[(.agg #[(.int .i64 x21a_0), (.int .i64 x21a_1), (.int .i64 x21a_2)]), (.int .i64 x21b)]) ∧
 NEW w4 (.cells #[(.int .i64 0), (.int .i64 0), (.int .i64 0)] 118) fun k11 w5 =>
 ST w5 ⟨k11, 0, none⟩ 0 [(.int .i64 x21a_0), (.int .i64 x21a_1), (.int .i64 x21a_2)] fun w6 =>
 SPLIT (x21b != (0 : Int)) (
 DRAW w6 fun w7 =>
 ∃ (x26_0 : Int) (x26_1 : Int) (A26_2 : OA) (n26_2 : Nat) (c26_2 : Nat), RD w7 ⟨k4, 0, none⟩ 0 [(.int .i64 x26_0), (.int .i64 x26_1), (.slice A26_2 n26_2 c26_2)] ∧
 ∃ (x27_0 : Int) (x27_1 : Int) (x27_2 : Int), RD w7 ⟨k11, 0, none⟩ 0 [(.int .i64 x27_0), (.int .i64 x27_1), (.int .i64 x27_2)] ∧
 ST w7 ⟨k8, 0, none⟩ 0 [(.int .i64 x26_0), (.int .i64 x26_1), (.slice A26_2 n26_2 c26_2)] fun w8 =>
 (loadVar 118 ⟨k11, 0, none⟩).run PP w8 = .ok (.agg #[(.int .i64 x27_0), (.int .i64 x27_1), (.int .i64 x27_2)]) w8 ∧
 ST w8 ⟨k9, 0, none⟩ 0 [(.int .i64 x27_0), (.int .i64 x27_1), (.int .i64 x27_2)] fun w9 =>
 ∃ (x8r_0 : Int) (x8r_1 : Int) (A8r_2 : OA) (n8r_2 : Nat) (c8r_2 : Nat), RD w9 ⟨k8, 0, none⟩ 0 [(.int .i64 x8r_0), (.int .i64 x8r_1), (.slice A8r_2 n8r_2 c8r_2)] ∧
 ∃ (x9r_0 : Int) (x9r_1 : Int) (x9r_2 : Int), RD w9 ⟨k9, 0, none⟩ 0 [(.int .i64 x9r_0), (.int .i64 x9r_1), (.int .i64 x9r_2)] ∧
 R (.tuple #[(.agg #[(.int .i64 x8r_0), (.int .i64 x8r_1), (.slice A8r_2 n8r_2 c8r_2)]), (.agg #[(.int .i64 x9r_0), (.int .i64 x9r_1), (.int .i64 x9r_2)]), (.int .i64 x21b)]) w9) (
 ∃ I : World → Prop, (
 ∃ I_1 : Bool → World → Prop, (
 SPLIT (decide (x2 < (0 : Int))) (
 I_1 true w6) (
 SPLIT (decide (x2 > (31 : Int))) (
 I_1 true w6) (
 SPLIT (decide (x3 < (0 : Int))) (
 I_1 true w6) (
 I_1 (decide (x3 > (31 : Int))) w6)))) ∧
 ∀ (_j : Nat → Value) (b42 : Bool) (w7 : World), I_1 b42 w7 →
 SPLIT b42 (
 ∃ (x43_0 : Int) (x43_1 : Int) (A43_2 : OA) (n43_2 : Nat) (c43_2 : Nat), RD w7 ⟨k4, 0, none⟩ 0 [(.int .i64 x43_0), (.int .i64 x43_1), (.slice A43_2 n43_2 c43_2)] ∧
 ST w7 ⟨k8, 0, none⟩ 0 [(.int .i64 x43_0), (.int .i64 x43_1), (.slice A43_2 n43_2 c43_2)] fun w8 =>
 ST w8 ⟨k9, 0, none⟩ 0 [(.int .i64 0), (.int .i64 0), (.int .i64 0)] fun w9 =>
 ∃ (x8r_0 : Int) (x8r_1 : Int) (A8r_2 : OA) (n8r_2 : Nat) (c8r_2 : Nat), RD w9 ⟨k8, 0, none⟩ 0 [(.int .i64 x8r_0), (.int .i64 x8r_1), (.slice A8r_2 n8r_2 c8r_2)] ∧
 ∃ (x9r_0 : Int) (x9r_1 : Int) (x9r_2 : Int), RD w9 ⟨k9, 0, none⟩ 0 [(.int .i64 x9r_0), (.int .i64 x9r_1), (.int .i64 x9r_2)] ∧
 R (.tuple #[(.agg #[(.int .i64 x8r_0), (.int .i64 x8r_1), (.slice A8r_2 n8r_2 c8r_2)]), (.agg #[(.int .i64 x9r_0), (.int .i64 x9r_1), (.int .i64 x9r_2)]), (.int .i64 4)]) w9) (
 I w7)) ∧
 ∀ (_j : Nat → Value) (w7 : World), I w7 →
 ∃ (I_1 : Int → Int → World → Prop) (μ : Int → Int → World → Nat), I_1 (0 : Int) (1 : Int) w7 ∧
 ∀ (_j : Nat → Value) (x13 : Int) (x14 : Int) (w8 : World), I_1 x13 x14 w8 →
 SPLIT (decide (x14 < (32 : Int))) (
 ∃ I_2 : Int → World → Prop, (
 ∃ I_3 : Bool → World → Prop, (
 IntKind.i64 = IntKind.i64 ∧ x14 ≠ 0 ∧
 IntKind.i64 = IntKind.i64 ∧ (2 : Int) ≠ 0 ∧
 SPLIT ((Int.tmod (IntKind.wrap .i64 (Int.tdiv x2 x14)) (2 : Int)) == (1 : Int)) (
 I_3 true w8) (
 ∃ (x56 : Int), w8.cell? ⟨k11, 1, none⟩ = some (.int .i64 x56) ∧
 IntKind.i64 = IntKind.i64 ∧ x14 ≠ 0 ∧
 IntKind.i64 = IntKind.i64 ∧ (2 : Int) ≠ 0 ∧
 SPLIT ((Int.tmod (IntKind.wrap .i64 (Int.tdiv x56 x14)) (2 : Int)) == (1 : Int)) (
 IntKind.i64 = IntKind.i64 ∧ x14 ≠ 0 ∧
 IntKind.i64 = IntKind.i64 ∧ (2 : Int) ≠ 0 ∧
 I_3 ((Int.tmod (IntKind.wrap .i64 (Int.tdiv x3 x14)) (2 : Int)) == (0 : Int)) w8) (
 I_3 false w8))) ∧
 ∀ (_j : Nat → Value) (b68 : Bool) (w9 : World), I_3 b68 w9 →
 SPLIT b68 (
 I_2 (IntKind.wrap .i64 (x13 + x14)) w9) (
 I_2 x13 w9)) ∧
 ∀ (_j : Nat → Value) (x13_1 : Int) (w9 : World), I_2 x13_1 w9 →
 I_1 x13_1 (IntKind.wrap .i64 ((2 : Int) * x14)) w9 ∧ μ x13_1 (IntKind.wrap .i64 ((2 : Int) * x14)) w9 < μ x13 x14 w8) (
 ST w8 ⟨k11, 1, none⟩ 0 [(.int .i64 x13)] fun w9 =>
 NEW w9 (.cells #[] 118) fun k74 w10 =>
 ∃ (A76 : OA) (n76 : Nat) (c76 : Nat), w10.cell? ⟨k4, 2, none⟩ = some (.slice A76 n76 c76) ∧
 ∃ (I_2 : OA → Nat → Nat → Int → World → Prop) (μ_1 : OA → Nat → Nat → Int → World → Nat), I_2 (some ⟨k74, 0, none⟩) 0 0 (0 : Int) w10 ∧
 ∀ (_j : Nat → Value) (A15 : OA) (n15 : Nat) (c15 : Nat) (x78 : Int) (w11 : World), I_2 A15 n15 c15 x78 w11 →
 SPLIT (decide (x78 < (n76 : Int))) (
 ∃ I_3 : OA → Nat → Nat → World → Prop, (
 (0 ≤ x78 ∧ x78 < (n76 : Int)) ∧
 SOMEA A76 fun a80 =>
 ∃ (x81_0 : Int) (x81_1 : Int) (x81_2 : Int), RD w11 (Addr.add a80 (Int.toNat x78 * 3)) 0 [(.int .i64 x81_0), (.int .i64 x81_1), (.int .i64 x81_2)] ∧
 NEW w11 (.cells #[(.int .i64 0), (.int .i64 0), (.int .i64 0)] 118) fun k17 w12 =>
 ST w12 ⟨k17, 0, none⟩ 0 [(.int .i64 x81_0), (.int .i64 x81_1), (.int .i64 x81_2)] fun w13 =>
 ∃ I_4 : World → Prop, (
 ∃ (x83 : Int), w13.cell? ⟨k17, 0, none⟩ = some (.int .i64 x83) ∧
 SPLIT (x83 == x1) (
 ∃ (x86_0 : Int) (x86_1 : Int) (x86_2 : Int), RD w13 ⟨k11, 0, none⟩ 0 [(.int .i64 x86_0), (.int .i64 x86_1), (.int .i64 x86_2)] ∧
 ST w13 ⟨k17, 0, none⟩ 0 [(.int .i64 x86_0), (.int .i64 x86_1), (.int .i64 x86_2)] fun w14 =>
 I_4 w14) (
 I_4 w13)) ∧
 ∀ (_j : Nat → Value) (w14 : World), I_4 w14 →
 ∃ (x88_0 : Int) (x88_1 : Int) (x88_2 : Int), RD w14 ⟨k17, 0, none⟩ 0 [(.int .i64 x88_0), (.int .i64 x88_1), (.int .i64 x88_2)] ∧
 NEW w14 (.cells #[(.int .i64 x88_0), (.int .i64 x88_1), (.int .i64 x88_2)] 118) fun k89 w15 =>
 RUN PP (Builtin.append_ #[106, 106] 106 #[(.slice A15 n15 c15), (.slice (some ⟨k89, 0, none⟩) 1 1)]) w15 fun r90 w16 =>
 ∃ (A90 : OA) (n90 : Nat) (c90 : Nat), r90 = (.slice A90 n90 c90) ∧
 I_3 A90 n90 c90 w16) ∧
 ∀ (_j : Nat → Value) (A15_1 : OA) (n15_1 : Nat) (c15_1 : Nat) (w12 : World), I_3 A15_1 n15_1 c15_1 w12 →
 I_2 A15_1 n15_1 c15_1 (IntKind.wrap .i64 (x78 + (1 : Int))) w12 ∧ μ_1 A15_1 n15_1 c15_1 (IntKind.wrap .i64 (x78 + (1 : Int))) w12 < μ_1 A15 n15 c15 x78 w11) (
 ST w11 ⟨k4, 2, none⟩ 0 [(.slice A15 n15 c15)] fun w12 =>
 DRAW w12 fun w13 =>
 ∃ (x94_0 : Int) (x94_1 : Int) (A94_2 : OA) (n94_2 : Nat) (c94_2 : Nat), RD w13 ⟨k4, 0, none⟩ 0 [(.int .i64 x94_0), (.int .i64 x94_1), (.slice A94_2 n94_2 c94_2)] ∧
 ∃ (x95_0 : Int) (x95_1 : Int) (x95_2 : Int), RD w13 ⟨k11, 0, none⟩ 0 [(.int .i64 x95_0), (.int .i64 x95_1), (.int .i64 x95_2)] ∧
 ST w13 ⟨k8, 0, none⟩ 0 [(.int .i64 x94_0), (.int .i64 x94_1), (.slice A94_2 n94_2 c94_2)] fun w14 =>
 (loadVar 118 ⟨k11, 0, none⟩).run PP w14 = .ok (.agg #[(.int .i64 x95_0), (.int .i64 x95_1), (.int .i64 x95_2)]) w14 ∧
 ST w14 ⟨k9, 0, none⟩ 0 [(.int .i64 x95_0), (.int .i64 x95_1), (.int .i64 x95_2)] fun w15 =>
 ∃ (x8r_0 : Int) (x8r_1 : Int) (A8r_2 : OA) (n8r_2 : Nat) (c8r_2 : Nat), RD w15 ⟨k8, 0, none⟩ 0 [(.int .i64 x8r_0), (.int .i64 x8r_1), (.slice A8r_2 n8r_2 c8r_2)] ∧
 ∃ (x9r_0 : Int) (x9r_1 : Int) (x9r_2 : Int), RD w15 ⟨k9, 0, none⟩ 0 [(.int .i64 x9r_0), (.int .i64 x9r_1), (.int .i64 x9r_2)] ∧
 R (.tuple #[(.agg #[(.int .i64 x8r_0), (.int .i64 x8r_1), (.slice A8r_2 n8r_2 c8r_2)]), (.agg #[(.int .i64 x9r_0), (.int .i64 x9r_1), (.int .i64 x9r_2)]), (.int .i64 0)]) w15)))
noncomputable def A61 : Ann := (.two .leaf (.two .leaf (.two .leaf (.cut 35183835218944 [] (.cut 8795556151296 [(42, .bool)] .leaf .leaf) (.two .leaf (.two (.two .leaf (.one (.loop 4722366447685273149440 [(13, .int .i64), (14, .int .i64)] (.two .leaf (.cut 4722365919919691800576 [(13, .int .i64)] (.one (.cut 590295247408752230400 [(68, .bool)] .leaf .leaf)) .leaf))))) (.two .leaf (.two .leaf (.two (.two .leaf (.one (.loop 4951457925686617442302984192 [(15, .slice), (78, .int .i64)] (.two .leaf (.two .leaf (.cut 2474671152751145920623706112 [(15, .slice)] (.one (.two .leaf (.cut 149906801632214017663565824 [] .leaf .leaf))) .leaf)))))) .leaf)))))))))
noncomputable def C61 : Code := (Tryz.f61.body).getD .skip
theorem c61 {x0_0 : Int} {x0_1 : Int} {A0_2 : OA} {n0_2 : Nat} {c0_2 : Nat} {x1 : Int} {x2 : Int} {x3 : Int} {w : World} {R : Value → World → Prop} (h : S61 x0_0 x0_1 A0_2 n0_2 c0_2 x1 x2 x3 w R) : Calls PP 61 #[(.agg #[(.int .i64 x0_0), (.int .i64 x0_1), (.slice A0_2 n0_2 c0_2)]), (.int .i64 x1), (.int .i64 x2), (.int .i64 x3)] w (Ret R) :=
 vcF_sound (c := C61) (ann := A61) follows_ Tryz.func61 (by kernel_rfl) (cast (by kernel_rfl) h)

/- sealwax/sealwaxref18.Expunge -/
def S62 (x0_0 : Int) (x0_1 : Int) (A0_2 : OA) (n0_2 : Nat) (c0_2 : Nat) (w : World) (R : Value → World → Prop) : Prop :=
 NEW w (.cells #[(.int .i64 x0_0), (.int .i64 x0_1), (.slice A0_2 n0_2 c0_2)] 108) fun k1 w1 =>
 NEW w1 (.cells #[(.int .i64 0), (.int .i64 0), (.slice none 0 0)] 108) fun k2 w2 =>
 NEW w2 (.cells #[] 118) fun k8 w3 =>
 NEW w3 (.cells #[] 118) fun k9 w4 =>
 ∃ (A11 : OA) (n11 : Nat) (c11 : Nat), w4.cell? ⟨k1, 2, none⟩ = some (.slice A11 n11 c11) ∧
 ∃ (I : OA → Nat → Nat → OA → Nat → Nat → Int → World → Prop) (μ : OA → Nat → Nat → OA → Nat → Nat → Int → World → Nat), I (some ⟨k8, 0, none⟩) 0 0 (some ⟨k9, 0, none⟩) 0 0 (0 : Int) w4 ∧
 ∀ (_j : Nat → Value) (A4 : OA) (n4 : Nat) (c4 : Nat) (A5 : OA) (n5 : Nat) (c5 : Nat) (x13 : Int) (w5 : World), I A4 n4 c4 A5 n5 c5 x13 w5 →
 SPLIT (decide (x13 < (n11 : Int))) (
 ∃ I_1 : OA → Nat → Nat → OA → Nat → Nat → World → Prop, (
 (0 ≤ x13 ∧ x13 < (n11 : Int)) ∧
 SOMEA A11 fun a15 =>
 ∃ (x16_0 : Int) (x16_1 : Int) (x16_2 : Int), RD w5 (Addr.add a15 (Int.toNat x13 * 3)) 0 [(.int .i64 x16_0), (.int .i64 x16_1), (.int .i64 x16_2)] ∧
 NEW w5 (.cells #[(.int .i64 0), (.int .i64 0), (.int .i64 0)] 118) fun k7 w6 =>
 ST w6 ⟨k7, 0, none⟩ 0 [(.int .i64 x16_0), (.int .i64 x16_1), (.int .i64 x16_2)] fun w7 =>
 ∃ (x18 : Int), w7.cell? ⟨k7, 1, none⟩ = some (.int .i64 x18) ∧
 IntKind.i64 = IntKind.i64 ∧ (8 : Int) ≠ 0 ∧
 IntKind.i64 = IntKind.i64 ∧ (2 : Int) ≠ 0 ∧
 SPLIT ((Int.tmod (IntKind.wrap .i64 (Int.tdiv x18 (8 : Int))) (2 : Int)) == (1 : Int)) (
 ∃ (x23_0 : Int) (x23_1 : Int) (x23_2 : Int), RD w7 ⟨k7, 0, none⟩ 0 [(.int .i64 x23_0), (.int .i64 x23_1), (.int .i64 x23_2)] ∧
 NEW w7 (.cells #[(.int .i64 x23_0), (.int .i64 x23_1), (.int .i64 x23_2)] 118) fun k24 w8 =>
 RUN PP (Builtin.append_ #[106, 106] 106 #[(.slice A5 n5 c5), (.slice (some ⟨k24, 0, none⟩) 1 1)]) w8 fun r25 w9 =>
 ∃ (A25 : OA) (n25 : Nat) (c25 : Nat), r25 = (.slice A25 n25 c25) ∧
 I_1 A4 n4 c4 A25 n25 c25 w9) (
 ∃ (x27_0 : Int) (x27_1 : Int) (x27_2 : Int), RD w7 ⟨k7, 0, none⟩ 0 [(.int .i64 x27_0), (.int .i64 x27_1), (.int .i64 x27_2)] ∧
 NEW w7 (.cells #[(.int .i64 x27_0), (.int .i64 x27_1), (.int .i64 x27_2)] 118) fun k28 w8 =>
 RUN PP (Builtin.append_ #[106, 106] 106 #[(.slice A4 n4 c4), (.slice (some ⟨k28, 0, none⟩) 1 1)]) w8 fun r29 w9 =>
 ∃ (A29 : OA) (n29 : Nat) (c29 : Nat), r29 = (.slice A29 n29 c29) ∧
 I_1 A29 n29 c29 A5 n5 c5 w9)) ∧
 ∀ (_j : Nat → Value) (A4_1 : OA) (n4_1 : Nat) (c4_1 : Nat) (A5_1 : OA) (n5_1 : Nat) (c5_1 : Nat) (w6 : World), I_1 A4_1 n4_1 c4_1 A5_1 n5_1 c5_1 w6 →
 I A4_1 n4_1 c4_1 A5_1 n5_1 c5_1 (IntKind.wrap .i64 (x13 + (1 : Int))) w6 ∧ μ A4_1 n4_1 c4_1 A5_1 n5_1 c5_1 (IntKind.wrap .i64 (x13 + (1 : Int))) w6 < μ A4 n4 c4 A5 n5 c5 x13 w5) (
 ST w5 ⟨k1, 2, none⟩ 0 [(.slice A4 n4 c4)] fun w6 =>
 ∃ (x33_0 : Int) (x33_1 : Int) (A33_2 : OA) (n33_2 : Nat) (c33_2 : Nat), RD w6 ⟨k1, 0, none⟩ 0 [(.int .i64 x33_0), (.int .i64 x33_1), (.slice A33_2 n33_2 c33_2)] ∧
 ST w6 ⟨k2, 0, none⟩ 0 [(.int .i64 x33_0), (.int .i64 x33_1), (.slice A33_2 n33_2 c33_2)] fun w7 =>
 ∃ (x2r_0 : Int) (x2r_1 : Int) (A2r_2 : OA) (n2r_2 : Nat) (c2r_2 : Nat), RD w7 ⟨k2, 0, none⟩ 0 [(.int .i64 x2r_0), (.int .i64 x2r_1), (.slice A2r_2 n2r_2 c2r_2)] ∧
 R (.tuple #[(.agg #[(.int .i64 x2r_0), (.int .i64 x2r_1), (.slice A2r_2 n2r_2 c2r_2)]), (.slice A5 n5 c5)]) w7)
noncomputable def A62 : Ann := (.two .leaf (.two .leaf (.two .leaf (.two (.two .leaf (.one (.loop 2147475632 [(4, .slice), (5, .slice), (13, .int .i64)] (.two .leaf (.two .leaf (.cut 1073709232 [(4, .slice), (5, .slice)] .leaf .leaf)))))) .leaf))))
noncomputable def C62 : Code := (Tryz.f62.body).getD .skip
theorem c62 {x0_0 : Int} {x0_1 : Int} {A0_2 : OA} {n0_2 : Nat} {c0_2 : Nat} {w : World} {R : Value → World → Prop} (h : S62 x0_0 x0_1 A0_2 n0_2 c0_2 w R) : Calls PP 62 #[(.agg #[(.int .i64 x0_0), (.int .i64 x0_1), (.slice A0_2 n0_2 c0_2)])] w (Ret R) :=
 vcF_sound (c := C62) (ann := A62) follows_ Tryz.func62 (by kernel_rfl) (cast (by kernel_rfl) h)

end Go.SW
set_option linter.unusedVariables false
namespace Go.SW
open Go Go.Proofs
set_option maxRecDepth 100000
/- sealwax/sealwaxref19.New -/
def S25  (w : World) (R : Value → World → Prop) : Prop :=
 NEW w (.cells #[(.slice none 0 0), (.int .i64 0), (.slice none 0 0), (.slice none 0 0), (.int .i64 0)] 69) fun k0 w1 =>
 CALL PP 46 [] w1 fun r1 w2 =>
 ∃ (A1_0 : OA) (n1_0 : Nat) (c1_0 : Nat) (x1_1 : Int), r1 = (.agg #[(.slice A1_0 n1_0 c1_0), (.int .i64 x1_1)]) ∧
 ST w2 ⟨k0, 0, none⟩ 0 [(.slice A1_0 n1_0 c1_0), (.int .i64 x1_1), (.slice none 0 0), (.slice none 0 0), (.int .i64 1)] fun w3 =>
 ∃ (A0r_0 : OA) (n0r_0 : Nat) (c0r_0 : Nat) (x0r_1 : Int) (A0r_2 : OA) (n0r_2 : Nat) (c0r_2 : Nat) (A0r_3 : OA) (n0r_3 : Nat) (c0r_3 : Nat) (x0r_4 : Int), RD w3 ⟨k0, 0, none⟩ 0 [(.slice A0r_0 n0r_0 c0r_0), (.int .i64 x0r_1), (.slice A0r_2 n0r_2 c0r_2), (.slice A0r_3 n0r_3 c0r_3), (.int .i64 x0r_4)] ∧
 R (.agg #[(.slice A0r_0 n0r_0 c0r_0), (.int .i64 x0r_1), (.slice A0r_2 n0r_2 c0r_2), (.slice A0r_3 n0r_3 c0r_3), (.int .i64 x0r_4)]) w3
noncomputable def A25 : Ann := .leaf
noncomputable def C25 : Code := (Tryz.f25.body).getD .skip
theorem c25 {w : World} {R : Value → World → Prop} (h : S25 w R) : Calls PP 25 #[] w (Ret R) :=
 vcF_sound (c := C25) (ann := A25) follows_ Tryz.func25 (by kernel_rfl) (cast (by kernel_rfl) h)

/- sealwax/sealwaxref19.Find -/
def S49 (A0_0 : OA) (n0_0 : Nat) (c0_0 : Nat) (x0_1 : Int) (A0_2 : OA) (n0_2 : Nat) (c0_2 : Nat) (A0_3 : OA) (n0_3 : Nat) (c0_3 : Nat) (x0_4 : Int) (s1 : ByteArray) (w : World) (R : Value → World → Prop) : Prop :=
 NEW w (.cells #[(.slice A0_0 n0_0 c0_0), (.int .i64 x0_1), (.slice A0_2 n0_2 c0_2), (.slice A0_3 n0_3 c0_3), (.int .i64 x0_4)] 69) fun k2 w1 =>
 ∃ (A9_0 : OA) (n9_0 : Nat) (c9_0 : Nat) (x9_1 : Int), RD w1 ⟨k2, 0, none⟩ 0 [(.slice A9_0 n9_0 c9_0), (.int .i64 x9_1)] ∧
 CALL PP 93 [(.agg #[(.slice A9_0 n9_0 c9_0), (.int .i64 x9_1)]), (.string s1)] w1 fun r11 w2 =>
 ∃ (x11 : Int), r11 = (.int .i64 x11) ∧
 ∃ (A13 : OA) (n13 : Nat) (c13 : Nat), w2.cell? ⟨k2, 2, none⟩ = some (.slice A13 n13 c13) ∧
 ∃ (I : Int → World → Prop) (μ : Int → World → Nat), I (0 : Int) w2 ∧
 ∀ (_j : Nat → Value) (x15 : Int) (w3 : World), I x15 w3 →
 SPLIT (decide (x15 < (n13 : Int))) (
 (0 ≤ x15 ∧ x15 < (n13 : Int)) ∧
 SOMEA A13 fun a18 =>
 ∃ (x19_0 : Int) (x19_1 : Int) (A19_2 : OA) (n19_2 : Nat) (c19_2 : Nat), RD w3 (Addr.add a18 (Int.toNat x15 * 3)) 0 [(.int .i64 x19_0), (.int .i64 x19_1), (.slice A19_2 n19_2 c19_2)] ∧
 NEW w3 (.cells #[(.int .i64 0), (.int .i64 0), (.slice none 0 0)] 108) fun k7 w4 =>
 ST w4 ⟨k7, 0, none⟩ 0 [(.int .i64 x19_0), (.int .i64 x19_1), (.slice A19_2 n19_2 c19_2)] fun w5 =>
 ∃ (x21 : Int), w5.cell? ⟨k7, 0, none⟩ = some (.int .i64 x21) ∧
 SPLIT (x21 == x11) (
 R (.int .i64 x15) w5) (
 I (IntKind.wrap .i64 (x15 + (1 : Int))) w5 ∧ μ (IntKind.wrap .i64 (x15 + (1 : Int))) w5 < μ x15 w3)) (
 R (.int .i64 (-1 : Int)) w3)
noncomputable def A49 : Ann := (.two .leaf (.two .leaf (.two (.two .leaf (.one (.loop 67076304 [(15, .int .i64)] .leaf))) .leaf)))
noncomputable def C49 : Code := (Tryz.f49.body).getD .skip
theorem c49 {A0_0 : OA} {n0_0 : Nat} {c0_0 : Nat} {x0_1 : Int} {A0_2 : OA} {n0_2 : Nat} {c0_2 : Nat} {A0_3 : OA} {n0_3 : Nat} {c0_3 : Nat} {x0_4 : Int} {s1 : ByteArray} {w : World} {R : Value → World → Prop} (h : S49 A0_0 n0_0 c0_0 x0_1 A0_2 n0_2 c0_2 A0_3 n0_3 c0_3 x0_4 s1 w R) : Calls PP 49 #[(.agg #[(.slice A0_0 n0_0 c0_0), (.int .i64 x0_1), (.slice A0_2 n0_2 c0_2), (.slice A0_3 n0_3 c0_3), (.int .i64 x0_4)]), (.string s1)] w (Ret R) :=
 vcF_sound (c := C49) (ann := A49) follows_ Tryz.func49 (by kernel_rfl) (cast (by kernel_rfl) h)

/- sealwax/sealwaxref19.sweep -/
def S51 (A0_0 : OA) (n0_0 : Nat) (c0_0 : Nat) (x0_1 : Int) (A0_2 : OA) (n0_2 : Nat) (c0_2 : Nat) (A0_3 : OA) (n0_3 : Nat) (c0_3 : Nat) (x0_4 : Int) (w : World) (R : Value → World → Prop) : Prop :=
 NEW w (.cells #[(.slice A0_0 n0_0 c0_0), (.int .i64 x0_1), (.slice A0_2 n0_2 c0_2), (.slice A0_3 n0_3 c0_3), (.int .i64 x0_4)] 69) fun k1 w1 =>
 NEW w1 (.cells #[(.slice none 0 0), (.int .i64 0), (.slice none 0 0), (.slice none 0 0), (.int .i64 0)] 69) fun k2 w2 =>
 NEW w2 (.cells #[] 123) fun k11 w3 =>
 ∃ (A13 : OA) (n13 : Nat) (c13 : Nat), w3.cell? ⟨k1, 3, none⟩ = some (.slice A13 n13 c13) ∧
 ∃ (I : OA → Nat → Nat → Int → World → Prop) (μ : OA → Nat → Nat → Int → World → Nat), I (some ⟨k11, 0, none⟩) 0 0 (0 : Int) w3 ∧
 ∀ (_j : Nat → Value) (A3 : OA) (n3 : Nat) (c3 : Nat) (x15 : Int) (w4 : World), I A3 n3 c3 x15 w4 →
 SPLIT (decide (x15 < (n13 : Int))) (
 ∃ I_1 : OA → Nat → Nat → World → Prop, (
 (0 ≤ x15 ∧ x15 < (n13 : Int)) ∧
 SOMEA A13 fun a17 =>
 ∃ (x18_0 : Int) (s18_1 : ByteArray), RD w4 (Addr.add a17 (Int.toNat x15 * 2)) 0 [(.int .i64 x18_0), (.string s18_1)] ∧
 NEW w4 (.cells #[(.int .i64 0), (.string ⟨#[]⟩)] 123) fun k5 w5 =>
 ST w5 ⟨k5, 0, none⟩ 0 [(.int .i64 x18_0), (.string s18_1)] fun w6 =>
 ∃ (A20 : OA) (n20 : Nat) (c20 : Nat), w6.cell? ⟨k1, 2, none⟩ = some (.slice A20 n20 c20) ∧
 ∃ (I_2 : Bool → Int → World → Prop) (μ_1 : Bool → Int → World → Nat), I_2 false (0 : Int) w6 ∧
 ∀ (_j : Nat → Value) (b6 : Bool) (x22 : Int) (w7 : World), I_2 b6 x22 w7 →
 SPLIT (decide (x22 < (n20 : Int))) (
 (0 ≤ x22 ∧ x22 < (n20 : Int)) ∧
 SOMEA A20 fun a24 =>
 ∃ (x25_0 : Int) (x25_1 : Int) (A25_2 : OA) (n25_2 : Nat) (c25_2 : Nat), RD w7 (Addr.add a24 (Int.toNat x22 * 3)) 0 [(.int .i64 x25_0), (.int .i64 x25_1), (.slice A25_2 n25_2 c25_2)] ∧
 NEW w7 (.cells #[(.int .i64 0), (.int .i64 0), (.slice none 0 0)] 108) fun k8 w8 =>
 ST w8 ⟨k8, 0, none⟩ 0 [(.int .i64 x25_0), (.int .i64 x25_1), (.slice A25_2 n25_2 c25_2)] fun w9 =>
 ∃ (A27 : OA) (n27 : Nat) (c27 : Nat), w9.cell? ⟨k8, 2, none⟩ = some (.slice A27 n27 c27) ∧
 ∃ (I_3 : Bool → Int → World → Prop) (μ_2 : Bool → Int → World → Nat), I_3 b6 (0 : Int) w9 ∧
 ∀ (_j : Nat → Value) (b6_1 : Bool) (x29 : Int) (w10 : World), I_3 b6_1 x29 w10 →
 SPLIT (decide (x29 < (n27 : Int))) (
 ∃ I_4 : Bool → World → Prop, (
 (0 ≤ x29 ∧ x29 < (n27 : Int)) ∧
 SOMEA A27 fun a31 =>
 ∃ (x32_0 : Int) (x32_1 : Int) (x32_2 : Int), RD w10 (Addr.add a31 (Int.toNat x29 * 3)) 0 [(.int .i64 x32_0), (.int .i64 x32_1), (.int .i64 x32_2)] ∧
 NEW w10 (.cells #[(.int .i64 0), (.int .i64 0), (.int .i64 0)] 118) fun k10 w11 =>
 ST w11 ⟨k10, 0, none⟩ 0 [(.int .i64 x32_0), (.int .i64 x32_1), (.int .i64 x32_2)] fun w12 =>
 SPLIT b6_1 (
 I_4 true w12) (
 ∃ (x36 : Int), w12.cell? ⟨k10, 2, none⟩ = some (.int .i64 x36) ∧
 ∃ (x38 : Int), w12.cell? ⟨k5, 0, none⟩ = some (.int .i64 x38) ∧
 I_4 (x36 == x38) w12)) ∧
 ∀ (_j : Nat → Value) (b6_2 : Bool) (w11 : World), I_4 b6_2 w11 →
 I_3 b6_2 (IntKind.wrap .i64 (x29 + (1 : Int))) w11 ∧ μ_2 b6_2 (IntKind.wrap .i64 (x29 + (1 : Int))) w11 < μ_2 b6_1 x29 w10) (
 I_2 b6_1 (IntKind.wrap .i64 (x22 + (1 : Int))) w10 ∧ μ_1 b6_1 (IntKind.wrap .i64 (x22 + (1 : Int))) w10 < μ_1 b6 x22 w7)) (
 SPLIT b6 (
 ∃ (x45_0 : Int) (s45_1 : ByteArray), RD w7 ⟨k5, 0, none⟩ 0 [(.int .i64 x45_0), (.string s45_1)] ∧
 NEW w7 (.cells #[(.int .i64 x45_0), (.string s45_1)] 123) fun k46 w8 =>
 RUN PP (Builtin.append_ #[67, 67] 67 #[(.slice A3 n3 c3), (.slice (some ⟨k46, 0, none⟩) 1 1)]) w8 fun r47 w9 =>
 ∃ (A47 : OA) (n47 : Nat) (c47 : Nat), r47 = (.slice A47 n47 c47) ∧
 I_1 A47 n47 c47 w9) (
 I_1 A3 n3 c3 w7))) ∧
 ∀ (_j : Nat → Value) (A3_1 : OA) (n3_1 : Nat) (c3_1 : Nat) (w5 : World), I_1 A3_1 n3_1 c3_1 w5 →
 I A3_1 n3_1 c3_1 (IntKind.wrap .i64 (x15 + (1 : Int))) w5 ∧ μ A3_1 n3_1 c3_1 (IntKind.wrap .i64 (x15 + (1 : Int))) w5 < μ A3 n3 c3 x15 w4) (
 ST w4 ⟨k1, 3, none⟩ 0 [(.slice A3 n3 c3)] fun w5 =>
 ∃ (A51_0 : OA) (n51_0 : Nat) (c51_0 : Nat) (x51_1 : Int) (A51_2 : OA) (n51_2 : Nat) (c51_2 : Nat) (A51_3 : OA) (n51_3 : Nat) (c51_3 : Nat) (x51_4 : Int), RD w5 ⟨k1, 0, none⟩ 0 [(.slice A51_0 n51_0 c51_0), (.int .i64 x51_1), (.slice A51_2 n51_2 c51_2), (.slice A51_3 n51_3 c51_3), (.int .i64 x51_4)] ∧
 ST w5 ⟨k2, 0, none⟩ 0 [(.slice A51_0 n51_0 c51_0), (.int .i64 x51_1), (.slice A51_2 n51_2 c51_2), (.slice A51_3 n51_3 c51_3), (.int .i64 x51_4)] fun w6 =>
 ∃ (A2r_0 : OA) (n2r_0 : Nat) (c2r_0 : Nat) (x2r_1 : Int) (A2r_2 : OA) (n2r_2 : Nat) (c2r_2 : Nat) (A2r_3 : OA) (n2r_3 : Nat) (c2r_3 : Nat) (x2r_4 : Int), RD w6 ⟨k2, 0, none⟩ 0 [(.slice A2r_0 n2r_0 c2r_0), (.int .i64 x2r_1), (.slice A2r_2 n2r_2 c2r_2), (.slice A2r_3 n2r_3 c2r_3), (.int .i64 x2r_4)] ∧
 R (.agg #[(.slice A2r_0 n2r_0 c2r_0), (.int .i64 x2r_1), (.slice A2r_2 n2r_2 c2r_2), (.slice A2r_3 n2r_3 c2r_3), (.int .i64 x2r_4)]) w6)
noncomputable def A51 : Ann := (.two .leaf (.two .leaf (.two (.two .leaf (.one (.loop 562949953389928 [(3, .slice), (15, .int .i64)] (.two .leaf (.two .leaf (.cut 281474976580968 [(3, .slice)] (.one (.two .leaf (.two .leaf (.two (.two .leaf (.one (.loop 8796088829248 [(6, .bool), (22, .int .i64)] (.two .leaf (.two .leaf (.two (.one (.two .leaf (.two .leaf (.one (.loop 4397509641280 [(6, .bool), (29, .int .i64)] (.two .leaf (.two .leaf (.cut 2196875772992 [(6, .bool)] .leaf .leaf)))))))) .leaf)))))) .leaf)))) .leaf)))))) .leaf)))
noncomputable def C51 : Code := (Tryz.f51.body).getD .skip
theorem c51 {A0_0 : OA} {n0_0 : Nat} {c0_0 : Nat} {x0_1 : Int} {A0_2 : OA} {n0_2 : Nat} {c0_2 : Nat} {A0_3 : OA} {n0_3 : Nat} {c0_3 : Nat} {x0_4 : Int} {w : World} {R : Value → World → Prop} (h : S51 A0_0 n0_0 c0_0 x0_1 A0_2 n0_2 c0_2 A0_3 n0_3 c0_3 x0_4 w R) : Calls PP 51 #[(.agg #[(.slice A0_0 n0_0 c0_0), (.int .i64 x0_1), (.slice A0_2 n0_2 c0_2), (.slice A0_3 n0_3 c0_3), (.int .i64 x0_4)])] w (Ret R) :=
 vcF_sound (c := C51) (ann := A51) follows_ Tryz.func51 (by kernel_rfl) (cast (by kernel_rfl) h)

/- sealwax/sealwaxref19.search -/
def S53 (A0_0 : OA) (n0_0 : Nat) (c0_0 : Nat) (x0_1 : Int) (A0_2 : OA) (n0_2 : Nat) (c0_2 : Nat) (A0_3 : OA) (n0_3 : Nat) (c0_3 : Nat) (x0_4 : Int) (x1_0 : Int) (s1_1 : ByteArray) (s1_2 : ByteArray) (s1_3 : ByteArray) (x1_4 : Int) (x1_5 : Int) (x1_6 : Int) (A1_7 : OA) (n1_7 : Nat) (c1_7 : Nat) (w : World) (R : Value → World → Prop) : Prop :=
 NEW w (.cells #[(.slice A0_0 n0_0 c0_0), (.int .i64 x0_1), (.slice A0_2 n0_2 c0_2), (.slice A0_3 n0_3 c0_3), (.int .i64 x0_4)] 69) fun k2 w1 =>
 NEW w1 (.cells #[(.int .i64 x1_0), (.string s1_1), (.string s1_2), (.string s1_3), (.int .i64 x1_4), (.int .i64 x1_5), (.int .i64 x1_6), (.slice A1_7 n1_7 c1_7)] 29) fun k3 w2 =>
 NEW w2 (.cells #[(.int .i64 0), (.int .i64 0), (.string ⟨#[]⟩), (.slice none 0 0), (.slice none 0 0)] 73) fun k4 w3 =>
 ∃ (A16 : OA) (n16 : Nat) (c16 : Nat), w3.cell? ⟨k3, 7, none⟩ = some (.slice A16 n16 c16) ∧
 CALL PP 96 [(.slice A16 n16 c16)] w3 fun r17 w4 =>
 ∃ (A17a : OA) (n17a : Nat) (c17a : Nat) (x17b : Int), r17 = (.tuple #[(.slice A17a n17a c17a), (.int .i64 x17b)]) ∧
 ∃ I : World → Prop, (
 ∃ I_1 : Bool → World → Prop, (
 SPLIT (x17b != (0 : Int)) (
 I_1 true w4) (
 ∃ (x24 : Int), w4.cell? ⟨k3, 5, none⟩ = some (.int .i64 x24) ∧
 SPLIT (decide (x24 < (0 : Int))) (
 I_1 true w4) (
 ∃ (x29 : Int), w4.cell? ⟨k3, 5, none⟩ = some (.int .i64 x29) ∧
 I_1 (decide (x29 > (31 : Int))) w4))) ∧
 ∀ (_j : Nat → Value) (b31 : Bool) (w5 : World), I_1 b31 w5 →
 SPLIT b31 (
 ST w5 ⟨k4, 0, none⟩ 0 [(.int .i64 4), (.int .i64 0), (.string ⟨#[]⟩), (.slice none 0 0), (.slice none 0 0)] fun w6 =>
 ∃ (x4r_0 : Int) (x4r_1 : Int) (s4r_2 : ByteArray) (A4r_3 : OA) (n4r_3 : Nat) (c4r_3 : Nat) (A4r_4 : OA) (n4r_4 : Nat) (c4r_4 : Nat), RD w6 ⟨k4, 0, none⟩ 0 [(.int .i64 x4r_0), (.int .i64 x4r_1), (.string s4r_2), (.slice A4r_3 n4r_3 c4r_3), (.slice A4r_4 n4r_4 c4r_4)] ∧
 R (.agg #[(.int .i64 x4r_0), (.int .i64 x4r_1), (.string s4r_2), (.slice A4r_3 n4r_3 c4r_3), (.slice A4r_4 n4r_4 c4r_4)]) w6) (
 I w5)) ∧
 ∀ (_j : Nat → Value) (w5 : World), I w5 →
 ∃ I_1 : World → Prop, (
 ∃ I_2 : Bool → World → Prop, (
 ∃ (s34 : ByteArray), w5.cell? ⟨k3, 1, none⟩ = some (.string s34) ∧
 SPLIT (!(s34.toList == (⟨#[]⟩ : ByteArray).toList)) (
 ∃ (A37_0 : OA) (n37_0 : Nat) (c37_0 : Nat) (x37_1 : Int) (A37_2 : OA) (n37_2 : Nat) (c37_2 : Nat) (A37_3 : OA) (n37_3 : Nat) (c37_3 : Nat) (x37_4 : Int), RD w5 ⟨k2, 0, none⟩ 0 [(.slice A37_0 n37_0 c37_0), (.int .i64 x37_1), (.slice A37_2 n37_2 c37_2), (.slice A37_3 n37_3 c37_3), (.int .i64 x37_4)] ∧
 ∃ (s39 : ByteArray), w5.cell? ⟨k3, 1, none⟩ = some (.string s39) ∧
 CALL PP 49 [(.agg #[(.slice A37_0 n37_0 c37_0), (.int .i64 x37_1), (.slice A37_2 n37_2 c37_2), (.slice A37_3 n37_3 c37_3), (.int .i64 x37_4)]), (.string s39)] w5 fun r40 w6 =>
 ∃ (x40 : Int), r40 = (.int .i64 x40) ∧
 I_2 (decide (x40 < (0 : Int))) w6) (
 I_2 false w5)) ∧
 ∀ (_j : Nat → Value) (b42 : Bool) (w6 : World), I_2 b42 w6 →
 SPLIT b42 (
 ST w6 ⟨k4, 0, none⟩ 0 [(.int .i64 5), (.int .i64 0), (.string ⟨#[]⟩), (.slice none 0 0), (.slice none 0 0)] fun w7 =>
 ∃ (x4r_0 : Int) (x4r_1 : Int) (s4r_2 : ByteArray) (A4r_3 : OA) (n4r_3 : Nat) (c4r_3 : Nat) (A4r_4 : OA) (n4r_4 : Nat) (c4r_4 : Nat), RD w7 ⟨k4, 0, none⟩ 0 [(.int .i64 x4r_0), (.int .i64 x4r_1), (.string s4r_2), (.slice A4r_3 n4r_3 c4r_3), (.slice A4r_4 n4r_4 c4r_4)] ∧
 R (.agg #[(.int .i64 x4r_0), (.int .i64 x4r_1), (.string s4r_2), (.slice A4r_3 n4r_3 c4r_3), (.slice A4r_4 n4r_4 c4r_4)]) w7) (
 I_1 w6)) ∧
 ∀ (_j : Nat → Value) (w6 : World), I_1 w6 →
 NEW w6 (.cells #[(.int .i64 0), (.int .i64 0), (.string ⟨#[]⟩), (.slice none 0 0), (.slice none 0 0)] 73) fun k7 w7 =>
 ST w7 ⟨k7, 0, none⟩ 0 [(.int .i64 0), (.int .i64 0), (.string ⟨#[]⟩), (.slice none 0 0), (.slice none 0 0)] fun w8 =>
 ∃ (A47 : OA) (n47 : Nat) (c47 : Nat), w8.cell? ⟨k2, 0, none⟩ = some (.slice A47 n47 c47) ∧
 ∃ (I_2 : Int → World → Prop) (μ : Int → World → Nat), I_2 (0 : Int) w8 ∧
 ∀ (_j : Nat → Value) (x49 : Int) (w9 : World), I_2 x49 w9 →
 SPLIT (decide (x49 < (n47 : Int))) (
 ∃ I_3 : World → Prop, (
 (0 ≤ x49 ∧ x49 < (n47 : Int)) ∧
 SOMEA A47 fun a51 =>
 ∃ (s52_0 : ByteArray) (x52_1 : Int), RD w9 (Addr.add a51 (Int.toNat x49 * 2)) 0 [(.string s52_0), (.int .i64 x52_1)] ∧
 NEW w9 (.cells #[(.string ⟨#[]⟩), (.int .i64 0)] 114) fun k9 w10 =>
 ST w10 ⟨k9, 0, none⟩ 0 [(.string s52_0), (.int .i64 x52_1)] fun w11 =>
 ∃ I_4 : World → Prop, (
 ∃ (s54 : ByteArray), w11.cell? ⟨k3, 1, none⟩ = some (.string s54) ∧
 SPLIT (!(s54.toList == (⟨#[]⟩ : ByteArray).toList)) (
 ∃ (s58 : ByteArray), w11.cell? ⟨k3, 1, none⟩ = some (.string s58) ∧
 ∃ (s60 : ByteArray), w11.cell? ⟨k9, 0, none⟩ = some (.string s60) ∧
 SPLIT (!(s58.toList == s60.toList)) (
 I_3 w11) (
 I_4 w11)) (
 I_4 w11)) ∧
 ∀ (_j : Nat → Value) (w12 : World), I_4 w12 →
 DRAW w12 fun w13 =>
 ∃ (A64 : OA) (n64 : Nat) (c64 : Nat), w13.cell? ⟨k2, 2, none⟩ = some (.slice A64 n64 c64) ∧
 ∃ (A65_0 : OA) (n65_0 : Nat) (c65_0 : Nat) (x65_1 : Int) (A65_2 : OA) (n65_2 : Nat) (c65_2 : Nat) (A65_3 : OA) (n65_3 : Nat) (c65_3 : Nat) (x65_4 : Int), RD w13 ⟨k2, 0, none⟩ 0 [(.slice A65_0 n65_0 c65_0), (.int .i64 x65_1), (.slice A65_2 n65_2 c65_2), (.slice A65_3 n65_3 c65_3), (.int .i64 x65_4)] ∧
 ∃ (s67 : ByteArray), w13.cell? ⟨k9, 0, none⟩ = some (.string s67) ∧
 CALL PP 49 [(.agg #[(.slice A65_0 n65_0 c65_0), (.int .i64 x65_1), (.slice A65_2 n65_2 c65_2), (.slice A65_3 n65_3 c65_3), (.int .i64 x65_4)]), (.string s67)] w13 fun r68 w14 =>
 ∃ (x68 : Int), r68 = (.int .i64 x68) ∧
 (loadVar 66 ⟨k2, 2, none⟩).run PP w14 = .ok (.slice A64 n64 c64) w14 ∧
 (0 ≤ x68 ∧ x68 < (n64 : Int)) ∧
 SOMEA A64 fun a69 =>
 ∃ (A71 : OA) (n71 : Nat) (c71 : Nat), w14.cell? (Addr.add (Addr.add a69 (Int.toNat x68 * 3)) 2) = some (.slice A71 n71 c71) ∧
 ∃ (I_5 : Int → World → Prop) (μ_1 : Int → World → Nat), I_5 (0 : Int) w14 ∧
 ∀ (_j : Nat → Value) (x73 : Int) (w15 : World), I_5 x73 w15 →
 SPLIT (decide (x73 < (n71 : Int))) (
 ∃ I_6 : World → Prop, (
 (0 ≤ x73 ∧ x73 < (n71 : Int)) ∧
 SOMEA A71 fun a75 =>
 ∃ (x76_0 : Int) (x76_1 : Int) (x76_2 : Int), RD w15 (Addr.add a75 (Int.toNat x73 * 3)) 0 [(.int .i64 x76_0), (.int .i64 x76_1), (.int .i64 x76_2)] ∧
 NEW w15 (.cells #[(.int .i64 0), (.int .i64 0), (.int .i64 0)] 118) fun k11 w16 =>
 ST w16 ⟨k11, 0, none⟩ 0 [(.int .i64 x76_0), (.int .i64 x76_1), (.int .i64 x76_2)] fun w17 =>
 ∃ (A78_0 : OA) (n78_0 : Nat) (c78_0 : Nat) (x78_1 : Int) (A78_2 : OA) (n78_2 : Nat) (c78_2 : Nat) (A78_3 : OA) (n78_3 : Nat) (c78_3 : Nat) (x78_4 : Int), RD w17 ⟨k2, 0, none⟩ 0 [(.slice A78_0 n78_0 c78_0), (.int .i64 x78_1), (.slice A78_2 n78_2 c78_2), (.slice A78_3 n78_3 c78_3), (.int .i64 x78_4)] ∧
 ∃ (x80 : Int), w17.cell? ⟨k11, 2, none⟩ = some (.int .i64 x80) ∧
 CALL PP 59 [(.agg #[(.slice A78_0 n78_0 c78_0), (.int .i64 x78_1), (.slice A78_2 n78_2 c78_2), (.slice A78_3 n78_3 c78_3), (.int .i64 x78_4)]), (.int .i64 x80)] w17 fun r81 w18 =>
 ∃ (s81a : ByteArray) (b81b : Bool), r81 = (.tuple #[(.string s81a), (.bool b81b)]) ∧
 ∃ I_7 : Bool → World → Prop, (
 ∃ (x85 : Int), w18.cell? ⟨k11, 1, none⟩ = some (.int .i64 x85) ∧
 ∃ (x87 : Int), w18.cell? ⟨k3, 5, none⟩ = some (.int .i64 x87) ∧
 ∃ (x90 : Int), w18.cell? ⟨k3, 5, none⟩ = some (.int .i64 x90) ∧
 SPLIT ((IntKind.wrap .i64 (((BitVec.ofInt 64 x85) &&& (BitVec.ofInt 64 x87)).toNat : Int)) == x90) (
 CALL PP 97 [(.string s81a), (.slice A17a n17a c17a)] w18 fun r95 w19 =>
 ∃ (b95 : Bool), r95 = (.bool b95) ∧
 I_7 b95 w19) (
 I_7 false w18)) ∧
 ∀ (_j : Nat → Value) (b96 : Bool) (w19 : World), I_7 b96 w19 →
 SPLIT b96 (
 ∃ (A98 : OA) (n98 : Nat) (c98 : Nat), w19.cell? ⟨k7, 4, none⟩ = some (.slice A98 n98 c98) ∧
 ∃ (s100 : ByteArray), w19.cell? ⟨k9, 0, none⟩ = some (.string s100) ∧
 ∃ (x102 : Int), w19.cell? ⟨k11, 0, none⟩ = some (.int .i64 x102) ∧
 ∃ (x104 : Int), w19.cell? ⟨k11, 1, none⟩ = some (.int .i64 x104) ∧
 NEW w19 (.cells #[(.string s100), (.int .i64 x102), (.int .i64 x104)] 131) fun k106 w20 =>
 RUN PP (Builtin.append_ #[71, 71] 71 #[(.slice A98 n98 c98), (.slice (some ⟨k106, 0, none⟩) 1 1)]) w20 fun r107 w21 =>
 ∃ (A107 : OA) (n107 : Nat) (c107 : Nat), r107 = (.slice A107 n107 c107) ∧
 ST w21 ⟨k7, 4, none⟩ 0 [(.slice A107 n107 c107)] fun w22 =>
 I_6 w22) (
 I_6 w19)) ∧
 ∀ (_j : Nat → Value) (w16 : World), I_6 w16 →
 I_5 (IntKind.wrap .i64 (x73 + (1 : Int))) w16 ∧ μ_1 (IntKind.wrap .i64 (x73 + (1 : Int))) w16 < μ_1 x73 w15) (
 I_3 w15)) ∧
 ∀ (_j : Nat → Value) (w10 : World), I_3 w10 →
 I_2 (IntKind.wrap .i64 (x49 + (1 : Int))) w10 ∧ μ (IntKind.wrap .i64 (x49 + (1 : Int))) w10 < μ x49 w9) (
 ∃ (A112 : OA) (n112 : Nat) (c112 : Nat), w9.cell? ⟨k7, 4, none⟩ = some (.slice A112 n112 c112) ∧
 ST w9 ⟨k7, 1, none⟩ 0 [(.int .i64 (n112 : Int))] fun w10 =>
 ∃ (x115_0 : Int) (x115_1 : Int) (s115_2 : ByteArray) (A115_3 : OA) (n115_3 : Nat) (c115_3 : Nat) (A115_4 : OA) (n115_4 : Nat) (c115_4 : Nat), RD w10 ⟨k7, 0, none⟩ 0 [(.int .i64 x115_0), (.int .i64 x115_1), (.string s115_2), (.slice A115_3 n115_3 c115_3), (.slice A115_4 n115_4 c115_4)] ∧
 ST w10 ⟨k4, 0, none⟩ 0 [(.int .i64 x115_0), (.int .i64 x115_1), (.string s115_2), (.slice A115_3 n115_3 c115_3), (.slice A115_4 n115_4 c115_4)] fun w11 =>
 ∃ (x4r_0 : Int) (x4r_1 : Int) (s4r_2 : ByteArray) (A4r_3 : OA) (n4r_3 : Nat) (c4r_3 : Nat) (A4r_4 : OA) (n4r_4 : Nat) (c4r_4 : Nat), RD w11 ⟨k4, 0, none⟩ 0 [(.int .i64 x4r_0), (.int .i64 x4r_1), (.string s4r_2), (.slice A4r_3 n4r_3 c4r_3), (.slice A4r_4 n4r_4 c4r_4)] ∧
 R (.agg #[(.int .i64 x4r_0), (.int .i64 x4r_1), (.string s4r_2), (.slice A4r_3 n4r_3 c4r_3), (.slice A4r_4 n4r_4 c4r_4)]) w11)
noncomputable def A53 : Ann := (.two .leaf (.two .leaf (.cut 8588886016 [] (.cut 4293918720 [(31, .bool)] .leaf .leaf) (.cut 17583596109824 [] (.cut 8787503087616 [(42, .bool)] .leaf .leaf) (.two .leaf (.two (.two .leaf (.one (.loop 2596148429267413813702298211203584 [(49, .int .i64)] (.two .leaf (.two .leaf (.cut 1298074214633706904880824268634624 [] (.one (.two .leaf (.cut 9214364837600034816 [] .leaf (.two .leaf (.one (.loop 1298074214624262174166884791891968 [(73, .int .i64)] (.two .leaf (.two .leaf (.cut 649037107279074521703354879457280 [] (.one (.two .leaf (.two .leaf (.cut 158436982215414841120292601856 [(96, .bool)] .leaf .leaf)))) .leaf))))))))) .leaf)))))) .leaf))))))
noncomputable def C53 : Code := (Tryz.f53.body).getD .skip
theorem c53 {A0_0 : OA} {n0_0 : Nat} {c0_0 : Nat} {x0_1 : Int} {A0_2 : OA} {n0_2 : Nat} {c0_2 : Nat} {A0_3 : OA} {n0_3 : Nat} {c0_3 : Nat} {x0_4 : Int} {x1_0 : Int} {s1_1 : ByteArray} {s1_2 : ByteArray} {s1_3 : ByteArray} {x1_4 : Int} {x1_5 : Int} {x1_6 : Int} {A1_7 : OA} {n1_7 : Nat} {c1_7 : Nat} {w : World} {R : Value → World → Prop} (h : S53 A0_0 n0_0 c0_0 x0_1 A0_2 n0_2 c0_2 A0_3 n0_3 c0_3 x0_4 x1_0 s1_1 s1_2 s1_3 x1_4 x1_5 x1_6 A1_7 n1_7 c1_7 w R) : Calls PP 53 #[(.agg #[(.slice A0_0 n0_0 c0_0), (.int .i64 x0_1), (.slice A0_2 n0_2 c0_2), (.slice A0_3 n0_3 c0_3), (.int .i64 x0_4)]), (.agg #[(.int .i64 x1_0), (.string s1_1), (.string s1_2), (.string s1_3), (.int .i64 x1_4), (.int .i64 x1_5), (.int .i64 x1_6), (.slice A1_7 n1_7 c1_7)])] w (Ret R) :=
 vcF_sound (c := C53) (ann := A53) follows_ Tryz.func53 (by kernel_rfl) (cast (by kernel_rfl) h)

/- sealwax/sealwaxref19.set -/
def S57 (A0_0 : OA) (n0_0 : Nat) (c0_0 : Nat) (x0_1 : Int) (A0_2 : OA) (n0_2 : Nat) (c0_2 : Nat) (A0_3 : OA) (n0_3 : Nat) (c0_3 : Nat) (x0_4 : Int) (x1 : Int) (x2_0 : Int) (x2_1 : Int) (A2_2 : OA) (n2_2 : Nat) (c2_2 : Nat) (w : World) (R : Value → World → Prop) : Prop :=
 NEW w (.cells #[(.slice A0_0 n0_0 c0_0), (.int .i64 x0_1), (.slice A0_2 n0_2 c0_2), (.slice A0_3 n0_3 c0_3), (.int .i64 x0_4)] 69) fun k3 w1 =>
 NEW w1 (.cells #[(.int .i64 x2_0), (.int .i64 x2_1), (.slice A2_2 n2_2 c2_2)] 108) fun k5 w2 =>
 NEW w2 (.cells #[(.slice none 0 0), (.int .i64 0), (.slice none 0 0), (.slice none 0 0), (.int .i64 0)] 69) fun k6 w3 =>
 NEW w3 (.cells #[] 108) fun k8 w4 =>
 ∃ (A10 : OA) (n10 : Nat) (c10 : Nat), w4.cell? ⟨k3, 2, none⟩ = some (.slice A10 n10 c10) ∧
 RUN PP (Builtin.append_ #[66, 66] 66 #[(.slice (some ⟨k8, 0, none⟩) 0 0), (.slice A10 n10 c10)]) w4 fun r11 w5 =>
 ∃ (A11 : OA) (n11 : Nat) (c11 : Nat), r11 = (.slice A11 n11 c11) ∧
 ∃ (x14_0 : Int) (x14_1 : Int) (A14_2 : OA) (n14_2 : Nat) (c14_2 : Nat), RD w5 ⟨k5, 0, none⟩ 0 [(.int .i64 x14_0), (.int .i64 x14_1), (.slice A14_2 n14_2 c14_2)] ∧
 (0 ≤ x1 ∧ x1 < (n11 : Int)) ∧
 SOMEA A11 fun a15 =>
 ST w5 (Addr.add a15 (Int.toNat x1 * 3)) 0 [(.int .i64 x14_0), (.int .i64 x14_1), (.slice A14_2 n14_2 c14_2)] fun w6 =>
 ST w6 ⟨k3, 2, none⟩ 0 [(.slice A11 n11 c11)] fun w7 =>
 ∃ (A18_0 : OA) (n18_0 : Nat) (c18_0 : Nat) (x18_1 : Int) (A18_2 : OA) (n18_2 : Nat) (c18_2 : Nat) (A18_3 : OA) (n18_3 : Nat) (c18_3 : Nat) (x18_4 : Int), RD w7 ⟨k3, 0, none⟩ 0 [(.slice A18_0 n18_0 c18_0), (.int .i64 x18_1), (.slice A18_2 n18_2 c18_2), (.slice A18_3 n18_3 c18_3), (.int .i64 x18_4)] ∧
 ST w7 ⟨k6, 0, none⟩ 0 [(.slice A18_0 n18_0 c18_0), (.int .i64 x18_1), (.slice A18_2 n18_2 c18_2), (.slice A18_3 n18_3 c18_3), (.int .i64 x18_4)] fun w8 =>
 ∃ (A6r_0 : OA) (n6r_0 : Nat) (c6r_0 : Nat) (x6r_1 : Int) (A6r_2 : OA) (n6r_2 : Nat) (c6r_2 : Nat) (A6r_3 : OA) (n6r_3 : Nat) (c6r_3 : Nat) (x6r_4 : Int), RD w8 ⟨k6, 0, none⟩ 0 [(.slice A6r_0 n6r_0 c6r_0), (.int .i64 x6r_1), (.slice A6r_2 n6r_2 c6r_2), (.slice A6r_3 n6r_3 c6r_3), (.int .i64 x6r_4)] ∧
 R (.agg #[(.slice A6r_0 n6r_0 c6r_0), (.int .i64 x6r_1), (.slice A6r_2 n6r_2 c6r_2), (.slice A6r_3 n6r_3 c6r_3), (.int .i64 x6r_4)]) w8
noncomputable def A57 : Ann := .leaf
noncomputable def C57 : Code := (Tryz.f57.body).getD .skip
theorem c57 {A0_0 : OA} {n0_0 : Nat} {c0_0 : Nat} {x0_1 : Int} {A0_2 : OA} {n0_2 : Nat} {c0_2 : Nat} {A0_3 : OA} {n0_3 : Nat} {c0_3 : Nat} {x0_4 : Int} {x1 : Int} {x2_0 : Int} {x2_1 : Int} {A2_2 : OA} {n2_2 : Nat} {c2_2 : Nat} {w : World} {R : Value → World → Prop} (h : S57 A0_0 n0_0 c0_0 x0_1 A0_2 n0_2 c0_2 A0_3 n0_3 c0_3 x0_4 x1 x2_0 x2_1 A2_2 n2_2 c2_2 w R) : Calls PP 57 #[(.agg #[(.slice A0_0 n0_0 c0_0), (.int .i64 x0_1), (.slice A0_2 n0_2 c0_2), (.slice A0_3 n0_3 c0_3), (.int .i64 x0_4)]), (.int .i64 x1), (.agg #[(.int .i64 x2_0), (.int .i64 x2_1), (.slice A2_2 n2_2 c2_2)])] w (Ret R) :=
 vcF_sound (c := C57) (ann := A57) follows_ Tryz.func57 (by kernel_rfl) (cast (by kernel_rfl) h)

/- sealwax/sealwaxref19.Text -/
def S59 (A0_0 : OA) (n0_0 : Nat) (c0_0 : Nat) (x0_1 : Int) (A0_2 : OA) (n0_2 : Nat) (c0_2 : Nat) (A0_3 : OA) (n0_3 : Nat) (c0_3 : Nat) (x0_4 : Int) (x1 : Int) (w : World) (R : Value → World → Prop) : Prop :=
 NEW w (.cells #[(.slice A0_0 n0_0 c0_0), (.int .i64 x0_1), (.slice A0_2 n0_2 c0_2), (.slice A0_3 n0_3 c0_3), (.int .i64 x0_4)] 69) fun k2 w1 =>
 ∃ (A9 : OA) (n9 : Nat) (c9 : Nat), w1.cell? ⟨k2, 3, none⟩ = some (.slice A9 n9 c9) ∧
 ∃ (I : Int → World → Prop) (μ : Int → World → Nat), I (0 : Int) w1 ∧
 ∀ (_j : Nat → Value) (x11 : Int) (w2 : World), I x11 w2 →
 SPLIT (decide (x11 < (n9 : Int))) (
 (0 ≤ x11 ∧ x11 < (n9 : Int)) ∧
 SOMEA A9 fun a13 =>
 ∃ (x14_0 : Int) (s14_1 : ByteArray), RD w2 (Addr.add a13 (Int.toNat x11 * 2)) 0 [(.int .i64 x14_0), (.string s14_1)] ∧
 NEW w2 (.cells #[(.int .i64 0), (.string ⟨#[]⟩)] 123) fun k7 w3 =>
 ST w3 ⟨k7, 0, none⟩ 0 [(.int .i64 x14_0), (.string s14_1)] fun w4 =>
 ∃ (x16 : Int), w4.cell? ⟨k7, 0, none⟩ = some (.int .i64 x16) ∧
 SPLIT (x16 == x1) (
 ∃ (s20 : ByteArray), w4.cell? ⟨k7, 1, none⟩ = some (.string s20) ∧
 R (.tuple #[(.string s20), (.bool true)]) w4) (
 I (IntKind.wrap .i64 (x11 + (1 : Int))) w4 ∧ μ (IntKind.wrap .i64 (x11 + (1 : Int))) w4 < μ x11 w2)) (
 R (.tuple #[(.string ⟨#[]⟩), (.bool false)]) w2)
noncomputable def A59 : Ann := (.two .leaf (.two (.two .leaf (.one (.loop 4192432 [(11, .int .i64)] .leaf))) .leaf))
noncomputable def C59 : Code := (Tryz.f59.body).getD .skip
theorem c59 {A0_0 : OA} {n0_0 : Nat} {c0_0 : Nat} {x0_1 : Int} {A0_2 : OA} {n0_2 : Nat} {c0_2 : Nat} {A0_3 : OA} {n0_3 : Nat} {c0_3 : Nat} {x0_4 : Int} {x1 : Int} {w : World} {R : Value → World → Prop} (h : S59 A0_0 n0_0 c0_0 x0_1 A0_2 n0_2 c0_2 A0_3 n0_3 c0_3 x0_4 x1 w R) : Calls PP 59 #[(.agg #[(.slice A0_0 n0_0 c0_0), (.int .i64 x0_1), (.slice A0_2 n0_2 c0_2), (.slice A0_3 n0_3 c0_3), (.int .i64 x0_4)]), (.int .i64 x1)] w (Ret R) :=
 vcF_sound (c := C59) (ann := A59) follows_ Tryz.func59 (by kernel_rfl) (cast (by kernel_rfl) h)

end Go.SW
