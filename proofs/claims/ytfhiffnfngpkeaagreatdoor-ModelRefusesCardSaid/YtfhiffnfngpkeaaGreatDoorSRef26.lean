/- PRINTED by wip/tools/gen.py: the functions' conditions in readable form, each with the kernel's word that it is the computed one. -/
import Derived.Test.YtfhiffnfngpkeaaGreatDoorVcSeat
set_option linter.unusedVariables false
namespace Go.SW
open Go Go.Proofs
set_option maxRecDepth 100000
/- sealwax/sealwaxref19.Do -/
def S26 (A0_0 : OA) (n0_0 : Nat) (c0_0 : Nat) (x0_1 : Int) (A0_2 : OA) (n0_2 : Nat) (c0_2 : Nat) (A0_3 : OA) (n0_3 : Nat) (c0_3 : Nat) (x0_4 : Int) (x1_0 : Int) (s1_1 : ByteArray) (s1_2 : ByteArray) (s1_3 : ByteArray) (x1_4 : Int) (x1_5 : Int) (x1_6 : Int) (A1_7 : OA) (n1_7 : Nat) (c1_7 : Nat) (w : World) (R : Value → World → Prop) : Prop :=
 NEW w (.cells #[(.slice A0_0 n0_0 c0_0), (.int .i64 x0_1), (.slice A0_2 n0_2 c0_2), (.slice A0_3 n0_3 c0_3), (.int .i64 x0_4)] 69) fun k2 w1 =>
 NEW w1 (.cells #[(.int .i64 x1_0), (.string s1_1), (.string s1_2), (.string s1_3), (.int .i64 x1_4), (.int .i64 x1_5), (.int .i64 x1_6), (.slice A1_7 n1_7 c1_7)] 29) fun k3 w2 =>
 NEW w2 (.cells #[(.slice none 0 0), (.int .i64 0), (.slice none 0 0), (.slice none 0 0), (.int .i64 0)] 69) fun k4 w3 =>
 NEW w3 (.cells #[(.int .i64 0), (.int .i64 0), (.string ⟨#[]⟩), (.slice none 0 0), (.slice none 0 0)] 73) fun k5 w4 =>
 ∃ (x36 : Int), w4.cell? ⟨k3, 0, none⟩ = some (.int .i64 x36) ∧
 SPLIT (x36 == (1 : Int)) (
 ∃ (A41_0 : OA) (n41_0 : Nat) (c41_0 : Nat) (x41_1 : Int), RD w4 ⟨k2, 0, none⟩ 0 [(.slice A41_0 n41_0 c41_0), (.int .i64 x41_1)] ∧
 ∃ (s43 : ByteArray), w4.cell? ⟨k3, 1, none⟩ = some (.string s43) ∧
 CALL PP 47 [(.agg #[(.slice A41_0 n41_0 c41_0), (.int .i64 x41_1)]), (.string s43)] w4 fun r44 w5 =>
 ∃ (A44a_0 : OA) (n44a_0 : Nat) (c44a_0 : Nat) (x44a_1 : Int) (x44b : Int) (x44c : Int), r44 = (.tuple #[(.agg #[(.slice A44a_0 n44a_0 c44a_0), (.int .i64 x44a_1)]), (.int .i64 x44b), (.int .i64 x44c)]) ∧
 ST w5 ⟨k2, 0, none⟩ 0 [(.slice A44a_0 n44a_0 c44a_0), (.int .i64 x44a_1)] fun w6 =>
 ∃ I : World → Prop, (
 SPLIT (x44c == (0 : Int)) (
 NEW w6 (.cells #[] 108) fun k51 w7 =>
 ∃ (A53 : OA) (n53 : Nat) (c53 : Nat), w7.cell? ⟨k2, 2, none⟩ = some (.slice A53 n53 c53) ∧
 RUN PP (Builtin.append_ #[66, 66] 66 #[(.slice (some ⟨k51, 0, none⟩) 0 0), (.slice A53 n53 c53)]) w7 fun r54 w8 =>
 ∃ (A54 : OA) (n54 : Nat) (c54 : Nat), r54 = (.slice A54 n54 c54) ∧
 CALL PP 48 [(.int .i64 x44b)] w8 fun r56 w9 =>
 ∃ (x56_0 : Int) (x56_1 : Int) (A56_2 : OA) (n56_2 : Nat) (c56_2 : Nat), r56 = (.agg #[(.int .i64 x56_0), (.int .i64 x56_1), (.slice A56_2 n56_2 c56_2)]) ∧
 NEW w9 (.cells #[(.int .i64 x56_0), (.int .i64 x56_1), (.slice A56_2 n56_2 c56_2)] 108) fun k57 w10 =>
 RUN PP (Builtin.append_ #[66, 66] 66 #[(.slice A54 n54 c54), (.slice (some ⟨k57, 0, none⟩) 1 1)]) w10 fun r58 w11 =>
 ∃ (A58 : OA) (n58 : Nat) (c58 : Nat), r58 = (.slice A58 n58 c58) ∧
 ST w11 ⟨k2, 2, none⟩ 0 [(.slice A58 n58 c58)] fun w12 =>
 I w12) (
 I w6)) ∧
 ∀ (_j : Nat → Value) (w7 : World), I w7 →
 ∃ (A60_0 : OA) (n60_0 : Nat) (c60_0 : Nat) (x60_1 : Int) (A60_2 : OA) (n60_2 : Nat) (c60_2 : Nat) (A60_3 : OA) (n60_3 : Nat) (c60_3 : Nat) (x60_4 : Int), RD w7 ⟨k2, 0, none⟩ 0 [(.slice A60_0 n60_0 c60_0), (.int .i64 x60_1), (.slice A60_2 n60_2 c60_2), (.slice A60_3 n60_3 c60_3), (.int .i64 x60_4)] ∧
 ST w7 ⟨k4, 0, none⟩ 0 [(.slice A60_0 n60_0 c60_0), (.int .i64 x60_1), (.slice A60_2 n60_2 c60_2), (.slice A60_3 n60_3 c60_3), (.int .i64 x60_4)] fun w8 =>
 ST w8 ⟨k5, 0, none⟩ 0 [(.int .i64 x44c), (.int .i64 x44b), (.string ⟨#[]⟩), (.slice none 0 0), (.slice none 0 0)] fun w9 =>
 ∃ (A4r_0 : OA) (n4r_0 : Nat) (c4r_0 : Nat) (x4r_1 : Int) (A4r_2 : OA) (n4r_2 : Nat) (c4r_2 : Nat) (A4r_3 : OA) (n4r_3 : Nat) (c4r_3 : Nat) (x4r_4 : Int), RD w9 ⟨k4, 0, none⟩ 0 [(.slice A4r_0 n4r_0 c4r_0), (.int .i64 x4r_1), (.slice A4r_2 n4r_2 c4r_2), (.slice A4r_3 n4r_3 c4r_3), (.int .i64 x4r_4)] ∧
 ∃ (x5r_0 : Int) (x5r_1 : Int) (s5r_2 : ByteArray) (A5r_3 : OA) (n5r_3 : Nat) (c5r_3 : Nat) (A5r_4 : OA) (n5r_4 : Nat) (c5r_4 : Nat), RD w9 ⟨k5, 0, none⟩ 0 [(.int .i64 x5r_0), (.int .i64 x5r_1), (.string s5r_2), (.slice A5r_3 n5r_3 c5r_3), (.slice A5r_4 n5r_4 c5r_4)] ∧
 R (.tuple #[(.agg #[(.slice A4r_0 n4r_0 c4r_0), (.int .i64 x4r_1), (.slice A4r_2 n4r_2 c4r_2), (.slice A4r_3 n4r_3 c4r_3), (.int .i64 x4r_4)]), (.agg #[(.int .i64 x5r_0), (.int .i64 x5r_1), (.string s5r_2), (.slice A5r_3 n5r_3 c5r_3), (.slice A5r_4 n5r_4 c5r_4)])]) w9) (
 SPLIT (x36 == (2 : Int)) (
 ∃ (A66_0 : OA) (n66_0 : Nat) (c66_0 : Nat) (x66_1 : Int) (A66_2 : OA) (n66_2 : Nat) (c66_2 : Nat) (A66_3 : OA) (n66_3 : Nat) (c66_3 : Nat) (x66_4 : Int), RD w4 ⟨k2, 0, none⟩ 0 [(.slice A66_0 n66_0 c66_0), (.int .i64 x66_1), (.slice A66_2 n66_2 c66_2), (.slice A66_3 n66_3 c66_3), (.int .i64 x66_4)] ∧
 ∃ (s68 : ByteArray), w4.cell? ⟨k3, 1, none⟩ = some (.string s68) ∧
 CALL PP 49 [(.agg #[(.slice A66_0 n66_0 c66_0), (.int .i64 x66_1), (.slice A66_2 n66_2 c66_2), (.slice A66_3 n66_3 c66_3), (.int .i64 x66_4)]), (.string s68)] w4 fun r69 w5 =>
 ∃ (x69 : Int), r69 = (.int .i64 x69) ∧
 ∃ (A72_0 : OA) (n72_0 : Nat) (c72_0 : Nat) (x72_1 : Int), RD w5 ⟨k2, 0, none⟩ 0 [(.slice A72_0 n72_0 c72_0), (.int .i64 x72_1)] ∧
 ∃ (s74 : ByteArray), w5.cell? ⟨k3, 1, none⟩ = some (.string s74) ∧
 CALL PP 50 [(.agg #[(.slice A72_0 n72_0 c72_0), (.int .i64 x72_1)]), (.string s74)] w5 fun r75 w6 =>
 ∃ (A75a_0 : OA) (n75a_0 : Nat) (c75a_0 : Nat) (x75a_1 : Int) (x75b : Int) (x75c : Int), r75 = (.tuple #[(.agg #[(.slice A75a_0 n75a_0 c75a_0), (.int .i64 x75a_1)]), (.int .i64 x75b), (.int .i64 x75c)]) ∧
 ST w6 ⟨k2, 0, none⟩ 0 [(.slice A75a_0 n75a_0 c75a_0), (.int .i64 x75a_1)] fun w7 =>
 ∃ I : World → Prop, (
 SPLIT (x75c == (0 : Int)) (
 DRAW w7 fun w8 =>
 ∃ (A84 : OA) (n84 : Nat) (c84 : Nat), w8.cell? ⟨k2, 2, none⟩ = some (.slice A84 n84 c84) ∧
 (0 ≤ x69 ∧ x69 ≤ (c84 : Int)) ∧
 ∃ (A89 : OA) (n89 : Nat) (c89 : Nat), w8.cell? ⟨k2, 2, none⟩ = some (.slice A89 n89 c89) ∧
 (0 ≤ (IntKind.wrap .i64 (x69 + (1 : Int))) ∧ (IntKind.wrap .i64 (x69 + (1 : Int))) ≤ (n89 : Int)) ∧
 NEW w8 (.cells #[] 108) fun k82 w9 =>
 (loadVar 66 ⟨k2, 2, none⟩).run PP w9 = .ok (.slice A89 n89 c89) w9 ∧
 (loadVar 66 ⟨k2, 2, none⟩).run PP w9 = .ok (.slice A84 n84 c84) w9 ∧
 RUN PP (Builtin.append_ #[66, 66] 66 #[(.slice (some ⟨k82, 0, none⟩) 0 0), (.slice (SLA A84 c84 0 3) ((Int.toNat x69) - 0) (c84 - 0))]) w9 fun r87 w10 =>
 ∃ (A87 : OA) (n87 : Nat) (c87 : Nat), r87 = (.slice A87 n87 c87) ∧
 (loadVar 66 ⟨k2, 2, none⟩).run PP w10 = .ok (.slice A89 n89 c89) w10 ∧
 RUN PP (Builtin.append_ #[66, 66] 66 #[(.slice A87 n87 c87), (.slice (SLA A89 c89 (Int.toNat (IntKind.wrap .i64 (x69 + (1 : Int)))) 3) (n89 - (Int.toNat (IntKind.wrap .i64 (x69 + (1 : Int))))) (c89 - (Int.toNat (IntKind.wrap .i64 (x69 + (1 : Int))))))]) w10 fun r93 w11 =>
 ∃ (A93 : OA) (n93 : Nat) (c93 : Nat), r93 = (.slice A93 n93 c93) ∧
 ST w11 ⟨k2, 2, none⟩ 0 [(.slice A93 n93 c93)] fun w12 =>
 ∃ (A95_0 : OA) (n95_0 : Nat) (c95_0 : Nat) (x95_1 : Int) (A95_2 : OA) (n95_2 : Nat) (c95_2 : Nat) (A95_3 : OA) (n95_3 : Nat) (c95_3 : Nat) (x95_4 : Int), RD w12 ⟨k2, 0, none⟩ 0 [(.slice A95_0 n95_0 c95_0), (.int .i64 x95_1), (.slice A95_2 n95_2 c95_2), (.slice A95_3 n95_3 c95_3), (.int .i64 x95_4)] ∧
 CALL PP 51 [(.agg #[(.slice A95_0 n95_0 c95_0), (.int .i64 x95_1), (.slice A95_2 n95_2 c95_2), (.slice A95_3 n95_3 c95_3), (.int .i64 x95_4)])] w12 fun r96 w13 =>
 ∃ (A96_0 : OA) (n96_0 : Nat) (c96_0 : Nat) (x96_1 : Int) (A96_2 : OA) (n96_2 : Nat) (c96_2 : Nat) (A96_3 : OA) (n96_3 : Nat) (c96_3 : Nat) (x96_4 : Int), r96 = (.agg #[(.slice A96_0 n96_0 c96_0), (.int .i64 x96_1), (.slice A96_2 n96_2 c96_2), (.slice A96_3 n96_3 c96_3), (.int .i64 x96_4)]) ∧
 ST w13 ⟨k2, 0, none⟩ 0 [(.slice A96_0 n96_0 c96_0), (.int .i64 x96_1), (.slice A96_2 n96_2 c96_2), (.slice A96_3 n96_3 c96_3), (.int .i64 x96_4)] fun w14 =>
 I w14) (
 I w7)) ∧
 ∀ (_j : Nat → Value) (w8 : World), I w8 →
 ∃ (A97_0 : OA) (n97_0 : Nat) (c97_0 : Nat) (x97_1 : Int) (A97_2 : OA) (n97_2 : Nat) (c97_2 : Nat) (A97_3 : OA) (n97_3 : Nat) (c97_3 : Nat) (x97_4 : Int), RD w8 ⟨k2, 0, none⟩ 0 [(.slice A97_0 n97_0 c97_0), (.int .i64 x97_1), (.slice A97_2 n97_2 c97_2), (.slice A97_3 n97_3 c97_3), (.int .i64 x97_4)] ∧
 ST w8 ⟨k4, 0, none⟩ 0 [(.slice A97_0 n97_0 c97_0), (.int .i64 x97_1), (.slice A97_2 n97_2 c97_2), (.slice A97_3 n97_3 c97_3), (.int .i64 x97_4)] fun w9 =>
 ST w9 ⟨k5, 0, none⟩ 0 [(.int .i64 x75c), (.int .i64 x75b), (.string ⟨#[]⟩), (.slice none 0 0), (.slice none 0 0)] fun w10 =>
 ∃ (A4r_0 : OA) (n4r_0 : Nat) (c4r_0 : Nat) (x4r_1 : Int) (A4r_2 : OA) (n4r_2 : Nat) (c4r_2 : Nat) (A4r_3 : OA) (n4r_3 : Nat) (c4r_3 : Nat) (x4r_4 : Int), RD w10 ⟨k4, 0, none⟩ 0 [(.slice A4r_0 n4r_0 c4r_0), (.int .i64 x4r_1), (.slice A4r_2 n4r_2 c4r_2), (.slice A4r_3 n4r_3 c4r_3), (.int .i64 x4r_4)] ∧
 ∃ (x5r_0 : Int) (x5r_1 : Int) (s5r_2 : ByteArray) (A5r_3 : OA) (n5r_3 : Nat) (c5r_3 : Nat) (A5r_4 : OA) (n5r_4 : Nat) (c5r_4 : Nat), RD w10 ⟨k5, 0, none⟩ 0 [(.int .i64 x5r_0), (.int .i64 x5r_1), (.string s5r_2), (.slice A5r_3 n5r_3 c5r_3), (.slice A5r_4 n5r_4 c5r_4)] ∧
 R (.tuple #[(.agg #[(.slice A4r_0 n4r_0 c4r_0), (.int .i64 x4r_1), (.slice A4r_2 n4r_2 c4r_2), (.slice A4r_3 n4r_3 c4r_3), (.int .i64 x4r_4)]), (.agg #[(.int .i64 x5r_0), (.int .i64 x5r_1), (.string s5r_2), (.slice A5r_3 n5r_3 c5r_3), (.slice A5r_4 n5r_4 c5r_4)])]) w10) (
 SPLIT (x36 == (3 : Int)) (
 ∃ (A105_0 : OA) (n105_0 : Nat) (c105_0 : Nat) (x105_1 : Int), RD w4 ⟨k2, 0, none⟩ 0 [(.slice A105_0 n105_0 c105_0), (.int .i64 x105_1)] ∧
 ∃ (s107 : ByteArray), w4.cell? ⟨k3, 1, none⟩ = some (.string s107) ∧
 ∃ (s109 : ByteArray), w4.cell? ⟨k3, 2, none⟩ = some (.string s109) ∧
 CALL PP 52 [(.agg #[(.slice A105_0 n105_0 c105_0), (.int .i64 x105_1)]), (.string s107), (.string s109)] w4 fun r110 w5 =>
 ∃ (A110a_0 : OA) (n110a_0 : Nat) (c110a_0 : Nat) (x110a_1 : Int) (x110b : Int) (x110c : Int), r110 = (.tuple #[(.agg #[(.slice A110a_0 n110a_0 c110a_0), (.int .i64 x110a_1)]), (.int .i64 x110b), (.int .i64 x110c)]) ∧
 ST w5 ⟨k2, 0, none⟩ 0 [(.slice A110a_0 n110a_0 c110a_0), (.int .i64 x110a_1)] fun w6 =>
 ∃ (A115_0 : OA) (n115_0 : Nat) (c115_0 : Nat) (x115_1 : Int) (A115_2 : OA) (n115_2 : Nat) (c115_2 : Nat) (A115_3 : OA) (n115_3 : Nat) (c115_3 : Nat) (x115_4 : Int), RD w6 ⟨k2, 0, none⟩ 0 [(.slice A115_0 n115_0 c115_0), (.int .i64 x115_1), (.slice A115_2 n115_2 c115_2), (.slice A115_3 n115_3 c115_3), (.int .i64 x115_4)] ∧
 ST w6 ⟨k4, 0, none⟩ 0 [(.slice A115_0 n115_0 c115_0), (.int .i64 x115_1), (.slice A115_2 n115_2 c115_2), (.slice A115_3 n115_3 c115_3), (.int .i64 x115_4)] fun w7 =>
 ST w7 ⟨k5, 0, none⟩ 0 [(.int .i64 x110c), (.int .i64 x110b), (.string ⟨#[]⟩), (.slice none 0 0), (.slice none 0 0)] fun w8 =>
 ∃ (A4r_0 : OA) (n4r_0 : Nat) (c4r_0 : Nat) (x4r_1 : Int) (A4r_2 : OA) (n4r_2 : Nat) (c4r_2 : Nat) (A4r_3 : OA) (n4r_3 : Nat) (c4r_3 : Nat) (x4r_4 : Int), RD w8 ⟨k4, 0, none⟩ 0 [(.slice A4r_0 n4r_0 c4r_0), (.int .i64 x4r_1), (.slice A4r_2 n4r_2 c4r_2), (.slice A4r_3 n4r_3 c4r_3), (.int .i64 x4r_4)] ∧
 ∃ (x5r_0 : Int) (x5r_1 : Int) (s5r_2 : ByteArray) (A5r_3 : OA) (n5r_3 : Nat) (c5r_3 : Nat) (A5r_4 : OA) (n5r_4 : Nat) (c5r_4 : Nat), RD w8 ⟨k5, 0, none⟩ 0 [(.int .i64 x5r_0), (.int .i64 x5r_1), (.string s5r_2), (.slice A5r_3 n5r_3 c5r_3), (.slice A5r_4 n5r_4 c5r_4)] ∧
 R (.tuple #[(.agg #[(.slice A4r_0 n4r_0 c4r_0), (.int .i64 x4r_1), (.slice A4r_2 n4r_2 c4r_2), (.slice A4r_3 n4r_3 c4r_3), (.int .i64 x4r_4)]), (.agg #[(.int .i64 x5r_0), (.int .i64 x5r_1), (.string s5r_2), (.slice A5r_3 n5r_3 c5r_3), (.slice A5r_4 n5r_4 c5r_4)])]) w8) (
 SPLIT (x36 == (4 : Int)) (
 NEW w4 (.cells #[(.int .i64 0), (.int .i64 0), (.string ⟨#[]⟩), (.slice none 0 0), (.slice none 0 0)] 73) fun k9 w5 =>
 ST w5 ⟨k9, 0, none⟩ 0 [(.int .i64 0), (.int .i64 0), (.string ⟨#[]⟩), (.slice none 0 0), (.slice none 0 0)] fun w6 =>
 ∃ (A124 : OA) (n124 : Nat) (c124 : Nat), w6.cell? ⟨k2, 0, none⟩ = some (.slice A124 n124 c124) ∧
 ∃ (I : Int → World → Prop) (μ : Int → World → Nat), I (0 : Int) w6 ∧
 ∀ (_j : Nat → Value) (x126 : Int) (w7 : World), I x126 w7 →
 SPLIT (decide (x126 < (n124 : Int))) (
 (0 ≤ x126 ∧ x126 < (n124 : Int)) ∧
 SOMEA A124 fun a128 =>
 ∃ (s129_0 : ByteArray) (x129_1 : Int), RD w7 (Addr.add a128 (Int.toNat x126 * 2)) 0 [(.string s129_0), (.int .i64 x129_1)] ∧
 NEW w7 (.cells #[(.string ⟨#[]⟩), (.int .i64 0)] 114) fun k11 w8 =>
 ST w8 ⟨k11, 0, none⟩ 0 [(.string s129_0), (.int .i64 x129_1)] fun w9 =>
 ∃ (A131 : OA) (n131 : Nat) (c131 : Nat), w9.cell? ⟨k9, 3, none⟩ = some (.slice A131 n131 c131) ∧
 ∃ (s133 : ByteArray), w9.cell? ⟨k11, 0, none⟩ = some (.string s133) ∧
 NEW w9 (.cells #[(.string s133)] 9) fun k134 w10 =>
 RUN PP (Builtin.append_ #[26, 26] 26 #[(.slice A131 n131 c131), (.slice (some ⟨k134, 0, none⟩) 1 1)]) w10 fun r135 w11 =>
 ∃ (A135 : OA) (n135 : Nat) (c135 : Nat), r135 = (.slice A135 n135 c135) ∧
 ST w11 ⟨k9, 3, none⟩ 0 [(.slice A135 n135 c135)] fun w12 =>
 I (IntKind.wrap .i64 (x126 + (1 : Int))) w12 ∧ μ (IntKind.wrap .i64 (x126 + (1 : Int))) w12 < μ x126 w7) (
 DRAW w7 fun w8 =>
 ∃ (A138_0 : OA) (n138_0 : Nat) (c138_0 : Nat) (x138_1 : Int) (A138_2 : OA) (n138_2 : Nat) (c138_2 : Nat) (A138_3 : OA) (n138_3 : Nat) (c138_3 : Nat) (x138_4 : Int), RD w8 ⟨k2, 0, none⟩ 0 [(.slice A138_0 n138_0 c138_0), (.int .i64 x138_1), (.slice A138_2 n138_2 c138_2), (.slice A138_3 n138_3 c138_3), (.int .i64 x138_4)] ∧
 ∃ (x139_0 : Int) (x139_1 : Int) (s139_2 : ByteArray) (A139_3 : OA) (n139_3 : Nat) (c139_3 : Nat) (A139_4 : OA) (n139_4 : Nat) (c139_4 : Nat), RD w8 ⟨k9, 0, none⟩ 0 [(.int .i64 x139_0), (.int .i64 x139_1), (.string s139_2), (.slice A139_3 n139_3 c139_3), (.slice A139_4 n139_4 c139_4)] ∧
 ST w8 ⟨k4, 0, none⟩ 0 [(.slice A138_0 n138_0 c138_0), (.int .i64 x138_1), (.slice A138_2 n138_2 c138_2), (.slice A138_3 n138_3 c138_3), (.int .i64 x138_4)] fun w9 =>
 (loadVar 73 ⟨k9, 0, none⟩).run PP w9 = .ok (.agg #[(.int .i64 x139_0), (.int .i64 x139_1), (.string s139_2), (.slice A139_3 n139_3 c139_3), (.slice A139_4 n139_4 c139_4)]) w9 ∧
 ST w9 ⟨k5, 0, none⟩ 0 [(.int .i64 x139_0), (.int .i64 x139_1), (.string s139_2), (.slice A139_3 n139_3 c139_3), (.slice A139_4 n139_4 c139_4)] fun w10 =>
 ∃ (A4r_0 : OA) (n4r_0 : Nat) (c4r_0 : Nat) (x4r_1 : Int) (A4r_2 : OA) (n4r_2 : Nat) (c4r_2 : Nat) (A4r_3 : OA) (n4r_3 : Nat) (c4r_3 : Nat) (x4r_4 : Int), RD w10 ⟨k4, 0, none⟩ 0 [(.slice A4r_0 n4r_0 c4r_0), (.int .i64 x4r_1), (.slice A4r_2 n4r_2 c4r_2), (.slice A4r_3 n4r_3 c4r_3), (.int .i64 x4r_4)] ∧
 ∃ (x5r_0 : Int) (x5r_1 : Int) (s5r_2 : ByteArray) (A5r_3 : OA) (n5r_3 : Nat) (c5r_3 : Nat) (A5r_4 : OA) (n5r_4 : Nat) (c5r_4 : Nat), RD w10 ⟨k5, 0, none⟩ 0 [(.int .i64 x5r_0), (.int .i64 x5r_1), (.string s5r_2), (.slice A5r_3 n5r_3 c5r_3), (.slice A5r_4 n5r_4 c5r_4)] ∧
 R (.tuple #[(.agg #[(.slice A4r_0 n4r_0 c4r_0), (.int .i64 x4r_1), (.slice A4r_2 n4r_2 c4r_2), (.slice A4r_3 n4r_3 c4r_3), (.int .i64 x4r_4)]), (.agg #[(.int .i64 x5r_0), (.int .i64 x5r_1), (.string s5r_2), (.slice A5r_3 n5r_3 c5r_3), (.slice A5r_4 n5r_4 c5r_4)])]) w10)) (
 SPLIT (x36 == (12 : Int)) (
 DRAW w4 fun w5 =>
 ∃ (A142_0 : OA) (n142_0 : Nat) (c142_0 : Nat) (x142_1 : Int) (A142_2 : OA) (n142_2 : Nat) (c142_2 : Nat) (A142_3 : OA) (n142_3 : Nat) (c142_3 : Nat) (x142_4 : Int), RD w5 ⟨k2, 0, none⟩ 0 [(.slice A142_0 n142_0 c142_0), (.int .i64 x142_1), (.slice A142_2 n142_2 c142_2), (.slice A142_3 n142_3 c142_3), (.int .i64 x142_4)] ∧
 ∃ (A143_0 : OA) (n143_0 : Nat) (c143_0 : Nat) (x143_1 : Int) (A143_2 : OA) (n143_2 : Nat) (c143_2 : Nat) (A143_3 : OA) (n143_3 : Nat) (c143_3 : Nat) (x143_4 : Int), RD w5 ⟨k2, 0, none⟩ 0 [(.slice A143_0 n143_0 c143_0), (.int .i64 x143_1), (.slice A143_2 n143_2 c143_2), (.slice A143_3 n143_3 c143_3), (.int .i64 x143_4)] ∧
 ∃ (x144_0 : Int) (s144_1 : ByteArray) (s144_2 : ByteArray) (s144_3 : ByteArray) (x144_4 : Int) (x144_5 : Int) (x144_6 : Int) (A144_7 : OA) (n144_7 : Nat) (c144_7 : Nat), RD w5 ⟨k3, 0, none⟩ 0 [(.int .i64 x144_0), (.string s144_1), (.string s144_2), (.string s144_3), (.int .i64 x144_4), (.int .i64 x144_5), (.int .i64 x144_6), (.slice A144_7 n144_7 c144_7)] ∧
 CALL PP 53 [(.agg #[(.slice A143_0 n143_0 c143_0), (.int .i64 x143_1), (.slice A143_2 n143_2 c143_2), (.slice A143_3 n143_3 c143_3), (.int .i64 x143_4)]), (.agg #[(.int .i64 x144_0), (.string s144_1), (.string s144_2), (.string s144_3), (.int .i64 x144_4), (.int .i64 x144_5), (.int .i64 x144_6), (.slice A144_7 n144_7 c144_7)])] w5 fun r145 w6 =>
 ∃ (x145_0 : Int) (x145_1 : Int) (s145_2 : ByteArray) (A145_3 : OA) (n145_3 : Nat) (c145_3 : Nat) (A145_4 : OA) (n145_4 : Nat) (c145_4 : Nat), r145 = (.agg #[(.int .i64 x145_0), (.int .i64 x145_1), (.string s145_2), (.slice A145_3 n145_3 c145_3), (.slice A145_4 n145_4 c145_4)]) ∧
 (loadVar 69 ⟨k2, 0, none⟩).run PP w6 = .ok (.agg #[(.slice A142_0 n142_0 c142_0), (.int .i64 x142_1), (.slice A142_2 n142_2 c142_2), (.slice A142_3 n142_3 c142_3), (.int .i64 x142_4)]) w6 ∧
 ST w6 ⟨k4, 0, none⟩ 0 [(.slice A142_0 n142_0 c142_0), (.int .i64 x142_1), (.slice A142_2 n142_2 c142_2), (.slice A142_3 n142_3 c142_3), (.int .i64 x142_4)] fun w7 =>
 ST w7 ⟨k5, 0, none⟩ 0 [(.int .i64 x145_0), (.int .i64 x145_1), (.string s145_2), (.slice A145_3 n145_3 c145_3), (.slice A145_4 n145_4 c145_4)] fun w8 =>
 ∃ (A4r_0 : OA) (n4r_0 : Nat) (c4r_0 : Nat) (x4r_1 : Int) (A4r_2 : OA) (n4r_2 : Nat) (c4r_2 : Nat) (A4r_3 : OA) (n4r_3 : Nat) (c4r_3 : Nat) (x4r_4 : Int), RD w8 ⟨k4, 0, none⟩ 0 [(.slice A4r_0 n4r_0 c4r_0), (.int .i64 x4r_1), (.slice A4r_2 n4r_2 c4r_2), (.slice A4r_3 n4r_3 c4r_3), (.int .i64 x4r_4)] ∧
 ∃ (x5r_0 : Int) (x5r_1 : Int) (s5r_2 : ByteArray) (A5r_3 : OA) (n5r_3 : Nat) (c5r_3 : Nat) (A5r_4 : OA) (n5r_4 : Nat) (c5r_4 : Nat), RD w8 ⟨k5, 0, none⟩ 0 [(.int .i64 x5r_0), (.int .i64 x5r_1), (.string s5r_2), (.slice A5r_3 n5r_3 c5r_3), (.slice A5r_4 n5r_4 c5r_4)] ∧
 R (.tuple #[(.agg #[(.slice A4r_0 n4r_0 c4r_0), (.int .i64 x4r_1), (.slice A4r_2 n4r_2 c4r_2), (.slice A4r_3 n4r_3 c4r_3), (.int .i64 x4r_4)]), (.agg #[(.int .i64 x5r_0), (.int .i64 x5r_1), (.string s5r_2), (.slice A5r_3 n5r_3 c5r_3), (.slice A5r_4 n5r_4 c5r_4)])]) w8) (
 SPLIT (x36 == (13 : Int)) (
 ∃ (A148_0 : OA) (n148_0 : Nat) (c148_0 : Nat) (x148_1 : Int) (A148_2 : OA) (n148_2 : Nat) (c148_2 : Nat) (A148_3 : OA) (n148_3 : Nat) (c148_3 : Nat) (x148_4 : Int), RD w4 ⟨k2, 0, none⟩ 0 [(.slice A148_0 n148_0 c148_0), (.int .i64 x148_1), (.slice A148_2 n148_2 c148_2), (.slice A148_3 n148_3 c148_3), (.int .i64 x148_4)] ∧
 ST w4 ⟨k4, 0, none⟩ 0 [(.slice A148_0 n148_0 c148_0), (.int .i64 x148_1), (.slice A148_2 n148_2 c148_2), (.slice A148_3 n148_3 c148_3), (.int .i64 x148_4)] fun w5 =>
 ST w5 ⟨k5, 0, none⟩ 0 [(.int .i64 0), (.int .i64 0), (.string ⟨#[]⟩), (.slice none 0 0), (.slice none 0 0)] fun w6 =>
 ∃ (A4r_0 : OA) (n4r_0 : Nat) (c4r_0 : Nat) (x4r_1 : Int) (A4r_2 : OA) (n4r_2 : Nat) (c4r_2 : Nat) (A4r_3 : OA) (n4r_3 : Nat) (c4r_3 : Nat) (x4r_4 : Int), RD w6 ⟨k4, 0, none⟩ 0 [(.slice A4r_0 n4r_0 c4r_0), (.int .i64 x4r_1), (.slice A4r_2 n4r_2 c4r_2), (.slice A4r_3 n4r_3 c4r_3), (.int .i64 x4r_4)] ∧
 ∃ (x5r_0 : Int) (x5r_1 : Int) (s5r_2 : ByteArray) (A5r_3 : OA) (n5r_3 : Nat) (c5r_3 : Nat) (A5r_4 : OA) (n5r_4 : Nat) (c5r_4 : Nat), RD w6 ⟨k5, 0, none⟩ 0 [(.int .i64 x5r_0), (.int .i64 x5r_1), (.string s5r_2), (.slice A5r_3 n5r_3 c5r_3), (.slice A5r_4 n5r_4 c5r_4)] ∧
 R (.tuple #[(.agg #[(.slice A4r_0 n4r_0 c4r_0), (.int .i64 x4r_1), (.slice A4r_2 n4r_2 c4r_2), (.slice A4r_3 n4r_3 c4r_3), (.int .i64 x4r_4)]), (.agg #[(.int .i64 x5r_0), (.int .i64 x5r_1), (.string s5r_2), (.slice A5r_3 n5r_3 c5r_3), (.slice A5r_4 n5r_4 c5r_4)])]) w6) (
 ∃ I : World → Prop, (
 ∃ I_1 : Bool → World → Prop, (
 ∃ (x151 : Int), w4.cell? ⟨k3, 0, none⟩ = some (.int .i64 x151) ∧
 SPLIT (decide (x151 < (1 : Int))) (
 I_1 true w4) (
 ∃ (x155 : Int), w4.cell? ⟨k3, 0, none⟩ = some (.int .i64 x155) ∧
 I_1 (decide (x155 > (13 : Int))) w4)) ∧
 ∀ (_j : Nat → Value) (b157 : Bool) (w5 : World), I_1 b157 w5 →
 SPLIT b157 (
 ∃ (A158_0 : OA) (n158_0 : Nat) (c158_0 : Nat) (x158_1 : Int) (A158_2 : OA) (n158_2 : Nat) (c158_2 : Nat) (A158_3 : OA) (n158_3 : Nat) (c158_3 : Nat) (x158_4 : Int), RD w5 ⟨k2, 0, none⟩ 0 [(.slice A158_0 n158_0 c158_0), (.int .i64 x158_1), (.slice A158_2 n158_2 c158_2), (.slice A158_3 n158_3 c158_3), (.int .i64 x158_4)] ∧
 ST w5 ⟨k4, 0, none⟩ 0 [(.slice A158_0 n158_0 c158_0), (.int .i64 x158_1), (.slice A158_2 n158_2 c158_2), (.slice A158_3 n158_3 c158_3), (.int .i64 x158_4)] fun w6 =>
 ST w6 ⟨k5, 0, none⟩ 0 [(.int .i64 4), (.int .i64 0), (.string ⟨#[]⟩), (.slice none 0 0), (.slice none 0 0)] fun w7 =>
 ∃ (A4r_0 : OA) (n4r_0 : Nat) (c4r_0 : Nat) (x4r_1 : Int) (A4r_2 : OA) (n4r_2 : Nat) (c4r_2 : Nat) (A4r_3 : OA) (n4r_3 : Nat) (c4r_3 : Nat) (x4r_4 : Int), RD w7 ⟨k4, 0, none⟩ 0 [(.slice A4r_0 n4r_0 c4r_0), (.int .i64 x4r_1), (.slice A4r_2 n4r_2 c4r_2), (.slice A4r_3 n4r_3 c4r_3), (.int .i64 x4r_4)] ∧
 ∃ (x5r_0 : Int) (x5r_1 : Int) (s5r_2 : ByteArray) (A5r_3 : OA) (n5r_3 : Nat) (c5r_3 : Nat) (A5r_4 : OA) (n5r_4 : Nat) (c5r_4 : Nat), RD w7 ⟨k5, 0, none⟩ 0 [(.int .i64 x5r_0), (.int .i64 x5r_1), (.string s5r_2), (.slice A5r_3 n5r_3 c5r_3), (.slice A5r_4 n5r_4 c5r_4)] ∧
 R (.tuple #[(.agg #[(.slice A4r_0 n4r_0 c4r_0), (.int .i64 x4r_1), (.slice A4r_2 n4r_2 c4r_2), (.slice A4r_3 n4r_3 c4r_3), (.int .i64 x4r_4)]), (.agg #[(.int .i64 x5r_0), (.int .i64 x5r_1), (.string s5r_2), (.slice A5r_3 n5r_3 c5r_3), (.slice A5r_4 n5r_4 c5r_4)])]) w7) (
 I w5)) ∧
 ∀ (_j : Nat → Value) (w5 : World), I w5 →
 ∃ (A160_0 : OA) (n160_0 : Nat) (c160_0 : Nat) (x160_1 : Int) (A160_2 : OA) (n160_2 : Nat) (c160_2 : Nat) (A160_3 : OA) (n160_3 : Nat) (c160_3 : Nat) (x160_4 : Int), RD w5 ⟨k2, 0, none⟩ 0 [(.slice A160_0 n160_0 c160_0), (.int .i64 x160_1), (.slice A160_2 n160_2 c160_2), (.slice A160_3 n160_3 c160_3), (.int .i64 x160_4)] ∧
 ∃ (s162 : ByteArray), w5.cell? ⟨k3, 1, none⟩ = some (.string s162) ∧
 CALL PP 49 [(.agg #[(.slice A160_0 n160_0 c160_0), (.int .i64 x160_1), (.slice A160_2 n160_2 c160_2), (.slice A160_3 n160_3 c160_3), (.int .i64 x160_4)]), (.string s162)] w5 fun r163 w6 =>
 ∃ (x163 : Int), r163 = (.int .i64 x163) ∧
 SPLIT (decide (x163 < (0 : Int))) (
 ∃ (A166_0 : OA) (n166_0 : Nat) (c166_0 : Nat) (x166_1 : Int) (A166_2 : OA) (n166_2 : Nat) (c166_2 : Nat) (A166_3 : OA) (n166_3 : Nat) (c166_3 : Nat) (x166_4 : Int), RD w6 ⟨k2, 0, none⟩ 0 [(.slice A166_0 n166_0 c166_0), (.int .i64 x166_1), (.slice A166_2 n166_2 c166_2), (.slice A166_3 n166_3 c166_3), (.int .i64 x166_4)] ∧
 ST w6 ⟨k4, 0, none⟩ 0 [(.slice A166_0 n166_0 c166_0), (.int .i64 x166_1), (.slice A166_2 n166_2 c166_2), (.slice A166_3 n166_3 c166_3), (.int .i64 x166_4)] fun w7 =>
 ST w7 ⟨k5, 0, none⟩ 0 [(.int .i64 5), (.int .i64 0), (.string ⟨#[]⟩), (.slice none 0 0), (.slice none 0 0)] fun w8 =>
 ∃ (A4r_0 : OA) (n4r_0 : Nat) (c4r_0 : Nat) (x4r_1 : Int) (A4r_2 : OA) (n4r_2 : Nat) (c4r_2 : Nat) (A4r_3 : OA) (n4r_3 : Nat) (c4r_3 : Nat) (x4r_4 : Int), RD w8 ⟨k4, 0, none⟩ 0 [(.slice A4r_0 n4r_0 c4r_0), (.int .i64 x4r_1), (.slice A4r_2 n4r_2 c4r_2), (.slice A4r_3 n4r_3 c4r_3), (.int .i64 x4r_4)] ∧
 ∃ (x5r_0 : Int) (x5r_1 : Int) (s5r_2 : ByteArray) (A5r_3 : OA) (n5r_3 : Nat) (c5r_3 : Nat) (A5r_4 : OA) (n5r_4 : Nat) (c5r_4 : Nat), RD w8 ⟨k5, 0, none⟩ 0 [(.int .i64 x5r_0), (.int .i64 x5r_1), (.string s5r_2), (.slice A5r_3 n5r_3 c5r_3), (.slice A5r_4 n5r_4 c5r_4)] ∧
 R (.tuple #[(.agg #[(.slice A4r_0 n4r_0 c4r_0), (.int .i64 x4r_1), (.slice A4r_2 n4r_2 c4r_2), (.slice A4r_3 n4r_3 c4r_3), (.int .i64 x4r_4)]), (.agg #[(.int .i64 x5r_0), (.int .i64 x5r_1), (.string s5r_2), (.slice A5r_3 n5r_3 c5r_3), (.slice A5r_4 n5r_4 c5r_4)])]) w8) (
 ∃ (A169 : OA) (n169 : Nat) (c169 : Nat), w6.cell? ⟨k2, 2, none⟩ = some (.slice A169 n169 c169) ∧
 (0 ≤ x163 ∧ x163 < (n169 : Int)) ∧
 SOMEA A169 fun a171 =>
 ∃ (x172_0 : Int) (x172_1 : Int) (A172_2 : OA) (n172_2 : Nat) (c172_2 : Nat), RD w6 (Addr.add a171 (Int.toNat x163 * 3)) 0 [(.int .i64 x172_0), (.int .i64 x172_1), (.slice A172_2 n172_2 c172_2)] ∧
 NEW w6 (.cells #[(.int .i64 0), (.int .i64 0), (.slice none 0 0)] 108) fun k13 w7 =>
 ST w7 ⟨k13, 0, none⟩ 0 [(.int .i64 x172_0), (.int .i64 x172_1), (.slice A172_2 n172_2 c172_2)] fun w8 =>
 ∃ I_1 : World → Prop, (
 ∃ (x174 : Int), w8.cell? ⟨k3, 0, none⟩ = some (.int .i64 x174) ∧
 SPLIT (x174 == (5 : Int)) (
 DRAW w8 fun w9 =>
 ∃ (A177_0 : OA) (n177_0 : Nat) (c177_0 : Nat) (x177_1 : Int) (A177_2 : OA) (n177_2 : Nat) (c177_2 : Nat) (A177_3 : OA) (n177_3 : Nat) (c177_3 : Nat) (x177_4 : Int), RD w9 ⟨k2, 0, none⟩ 0 [(.slice A177_0 n177_0 c177_0), (.int .i64 x177_1), (.slice A177_2 n177_2 c177_2), (.slice A177_3 n177_3 c177_3), (.int .i64 x177_4)] ∧
 ∃ (A179 : OA) (n179 : Nat) (c179 : Nat), w9.cell? ⟨k13, 2, none⟩ = some (.slice A179 n179 c179) ∧
 ∃ (x182 : Int), w9.cell? ⟨k13, 0, none⟩ = some (.int .i64 x182) ∧
 ∃ (x186 : Int), w9.cell? ⟨k13, 1, none⟩ = some (.int .i64 x186) ∧
 ∃ (x190_0 : Int) (x190_1 : Int) (A190_2 : OA) (n190_2 : Nat) (c190_2 : Nat), RD w9 ⟨k13, 0, none⟩ 0 [(.int .i64 x190_0), (.int .i64 x190_1), (.slice A190_2 n190_2 c190_2)] ∧
 CALL PP 54 [(.int .i64 x182)] w9 fun r183 w10 =>
 ∃ (s183 : ByteArray), r183 = (.string s183) ∧
 (loadVar 108 ⟨k13, 0, none⟩).run PP w10 = .ok (.agg #[(.int .i64 x190_0), (.int .i64 x190_1), (.slice A190_2 n190_2 c190_2)]) w10 ∧
 (loadVar 3 ⟨k13, 1, none⟩).run PP w10 = .ok (.int .i64 x186) w10 ∧
 (loadVar 106 ⟨k13, 2, none⟩).run PP w10 = .ok (.slice A179 n179 c179) w10 ∧
 (loadVar 69 ⟨k2, 0, none⟩).run PP w10 = .ok (.agg #[(.slice A177_0 n177_0 c177_0), (.int .i64 x177_1), (.slice A177_2 n177_2 c177_2), (.slice A177_3 n177_3 c177_3), (.int .i64 x177_4)]) w10 ∧
 ((s183.size + (⟨#[32]⟩ : ByteArray).size : Nat) : Int) ≤ IntKind.max .i64 ∧
 CALL PP 54 [(.int .i64 x186)] w10 fun r187 w11 =>
 ∃ (s187 : ByteArray), r187 = (.string s187) ∧
 (loadVar 108 ⟨k13, 0, none⟩).run PP w11 = .ok (.agg #[(.int .i64 x190_0), (.int .i64 x190_1), (.slice A190_2 n190_2 c190_2)]) w11 ∧
 (loadVar 106 ⟨k13, 2, none⟩).run PP w11 = .ok (.slice A179 n179 c179) w11 ∧
 (loadVar 69 ⟨k2, 0, none⟩).run PP w11 = .ok (.agg #[(.slice A177_0 n177_0 c177_0), (.int .i64 x177_1), (.slice A177_2 n177_2 c177_2), (.slice A177_3 n177_3 c177_3), (.int .i64 x177_4)]) w11 ∧
 (((s183 ++ (⟨#[32]⟩ : ByteArray)).size + s187.size : Nat) : Int) ≤ IntKind.max .i64 ∧
 ((((s183 ++ (⟨#[32]⟩ : ByteArray)) ++ s187).size + (⟨#[32]⟩ : ByteArray).size : Nat) : Int) ≤ IntKind.max .i64 ∧
 CALL PP 55 [(.agg #[(.int .i64 x190_0), (.int .i64 x190_1), (.slice A190_2 n190_2 c190_2)])] w11 fun r191 w12 =>
 ∃ (x191 : Int), r191 = (.int .i64 x191) ∧
 (loadVar 106 ⟨k13, 2, none⟩).run PP w12 = .ok (.slice A179 n179 c179) w12 ∧
 (loadVar 69 ⟨k2, 0, none⟩).run PP w12 = .ok (.agg #[(.slice A177_0 n177_0 c177_0), (.int .i64 x177_1), (.slice A177_2 n177_2 c177_2), (.slice A177_3 n177_3 c177_3), (.int .i64 x177_4)]) w12 ∧
 CALL PP 54 [(.int .i64 x191)] w12 fun r192 w13 =>
 ∃ (s192 : ByteArray), r192 = (.string s192) ∧
 (loadVar 106 ⟨k13, 2, none⟩).run PP w13 = .ok (.slice A179 n179 c179) w13 ∧
 (loadVar 69 ⟨k2, 0, none⟩).run PP w13 = .ok (.agg #[(.slice A177_0 n177_0 c177_0), (.int .i64 x177_1), (.slice A177_2 n177_2 c177_2), (.slice A177_3 n177_3 c177_3), (.int .i64 x177_4)]) w13 ∧
 (((((s183 ++ (⟨#[32]⟩ : ByteArray)) ++ s187) ++ (⟨#[32]⟩ : ByteArray)).size + s192.size : Nat) : Int) ≤ IntKind.max .i64 ∧
 ST w13 ⟨k4, 0, none⟩ 0 [(.slice A177_0 n177_0 c177_0), (.int .i64 x177_1), (.slice A177_2 n177_2 c177_2), (.slice A177_3 n177_3 c177_3), (.int .i64 x177_4)] fun w14 =>
 (loadVar 106 ⟨k13, 2, none⟩).run PP w14 = .ok (.slice A179 n179 c179) w14 ∧
 ST w14 ⟨k5, 0, none⟩ 0 [(.int .i64 0), (.int .i64 (n179 : Int)), (.string ((((s183 ++ (⟨#[32]⟩ : ByteArray)) ++ s187) ++ (⟨#[32]⟩ : ByteArray)) ++ s192)), (.slice none 0 0), (.slice none 0 0)] fun w15 =>
 ∃ (A4r_0 : OA) (n4r_0 : Nat) (c4r_0 : Nat) (x4r_1 : Int) (A4r_2 : OA) (n4r_2 : Nat) (c4r_2 : Nat) (A4r_3 : OA) (n4r_3 : Nat) (c4r_3 : Nat) (x4r_4 : Int), RD w15 ⟨k4, 0, none⟩ 0 [(.slice A4r_0 n4r_0 c4r_0), (.int .i64 x4r_1), (.slice A4r_2 n4r_2 c4r_2), (.slice A4r_3 n4r_3 c4r_3), (.int .i64 x4r_4)] ∧
 ∃ (x5r_0 : Int) (x5r_1 : Int) (s5r_2 : ByteArray) (A5r_3 : OA) (n5r_3 : Nat) (c5r_3 : Nat) (A5r_4 : OA) (n5r_4 : Nat) (c5r_4 : Nat), RD w15 ⟨k5, 0, none⟩ 0 [(.int .i64 x5r_0), (.int .i64 x5r_1), (.string s5r_2), (.slice A5r_3 n5r_3 c5r_3), (.slice A5r_4 n5r_4 c5r_4)] ∧
 R (.tuple #[(.agg #[(.slice A4r_0 n4r_0 c4r_0), (.int .i64 x4r_1), (.slice A4r_2 n4r_2 c4r_2), (.slice A4r_3 n4r_3 c4r_3), (.int .i64 x4r_4)]), (.agg #[(.int .i64 x5r_0), (.int .i64 x5r_1), (.string s5r_2), (.slice A5r_3 n5r_3 c5r_3), (.slice A5r_4 n5r_4 c5r_4)])]) w15) (
 SPLIT (x174 == (6 : Int)) (
 ∃ (s198 : ByteArray), w8.cell? ⟨k3, 3, none⟩ = some (.string s198) ∧
 SPLIT (decide ((s198.size : Int) > (4096 : Int))) (
 ∃ (A201_0 : OA) (n201_0 : Nat) (c201_0 : Nat) (x201_1 : Int) (A201_2 : OA) (n201_2 : Nat) (c201_2 : Nat) (A201_3 : OA) (n201_3 : Nat) (c201_3 : Nat) (x201_4 : Int), RD w8 ⟨k2, 0, none⟩ 0 [(.slice A201_0 n201_0 c201_0), (.int .i64 x201_1), (.slice A201_2 n201_2 c201_2), (.slice A201_3 n201_3 c201_3), (.int .i64 x201_4)] ∧
 ST w8 ⟨k4, 0, none⟩ 0 [(.slice A201_0 n201_0 c201_0), (.int .i64 x201_1), (.slice A201_2 n201_2 c201_2), (.slice A201_3 n201_3 c201_3), (.int .i64 x201_4)] fun w9 =>
 ST w9 ⟨k5, 0, none⟩ 0 [(.int .i64 3), (.int .i64 0), (.string ⟨#[]⟩), (.slice none 0 0), (.slice none 0 0)] fun w10 =>
 ∃ (A4r_0 : OA) (n4r_0 : Nat) (c4r_0 : Nat) (x4r_1 : Int) (A4r_2 : OA) (n4r_2 : Nat) (c4r_2 : Nat) (A4r_3 : OA) (n4r_3 : Nat) (c4r_3 : Nat) (x4r_4 : Int), RD w10 ⟨k4, 0, none⟩ 0 [(.slice A4r_0 n4r_0 c4r_0), (.int .i64 x4r_1), (.slice A4r_2 n4r_2 c4r_2), (.slice A4r_3 n4r_3 c4r_3), (.int .i64 x4r_4)] ∧
 ∃ (x5r_0 : Int) (x5r_1 : Int) (s5r_2 : ByteArray) (A5r_3 : OA) (n5r_3 : Nat) (c5r_3 : Nat) (A5r_4 : OA) (n5r_4 : Nat) (c5r_4 : Nat), RD w10 ⟨k5, 0, none⟩ 0 [(.int .i64 x5r_0), (.int .i64 x5r_1), (.string s5r_2), (.slice A5r_3 n5r_3 c5r_3), (.slice A5r_4 n5r_4 c5r_4)] ∧
 R (.tuple #[(.agg #[(.slice A4r_0 n4r_0 c4r_0), (.int .i64 x4r_1), (.slice A4r_2 n4r_2 c4r_2), (.slice A4r_3 n4r_3 c4r_3), (.int .i64 x4r_4)]), (.agg #[(.int .i64 x5r_0), (.int .i64 x5r_1), (.string s5r_2), (.slice A5r_3 n5r_3 c5r_3), (.slice A5r_4 n5r_4 c5r_4)])]) w10) (
 ∃ (x204_0 : Int) (x204_1 : Int) (A204_2 : OA) (n204_2 : Nat) (c204_2 : Nat), RD w8 ⟨k13, 0, none⟩ 0 [(.int .i64 x204_0), (.int .i64 x204_1), (.slice A204_2 n204_2 c204_2)] ∧
 ∃ (x206 : Int), w8.cell? ⟨k2, 4, none⟩ = some (.int .i64 x206) ∧
 ∃ (x208 : Int), w8.cell? ⟨k3, 5, none⟩ = some (.int .i64 x208) ∧
 CALL PP 56 [(.agg #[(.int .i64 x204_0), (.int .i64 x204_1), (.slice A204_2 n204_2 c204_2)]), (.int .i64 x206), (.int .i64 x208)] w8 fun r209 w9 =>
 ∃ (x209a_0 : Int) (x209a_1 : Int) (A209a_2 : OA) (n209a_2 : Nat) (c209a_2 : Nat) (x209b_0 : Int) (x209b_1 : Int) (x209b_2 : Int) (x209c : Int), r209 = (.tuple #[(.agg #[(.int .i64 x209a_0), (.int .i64 x209a_1), (.slice A209a_2 n209a_2 c209a_2)]), (.agg #[(.int .i64 x209b_0), (.int .i64 x209b_1), (.int .i64 x209b_2)]), (.int .i64 x209c)]) ∧
 NEW w9 (.cells #[(.int .i64 0), (.int .i64 0), (.slice none 0 0)] 108) fun k14 w10 =>
 NEW w10 (.cells #[(.int .i64 0), (.int .i64 0), (.int .i64 0)] 118) fun k15 w11 =>
 ST w11 ⟨k14, 0, none⟩ 0 [(.int .i64 x209a_0), (.int .i64 x209a_1), (.slice A209a_2 n209a_2 c209a_2)] fun w12 =>
 ST w12 ⟨k15, 0, none⟩ 0 [(.int .i64 x209b_0), (.int .i64 x209b_1), (.int .i64 x209b_2)] fun w13 =>
 SPLIT (x209c != (0 : Int)) (
 ∃ (A215_0 : OA) (n215_0 : Nat) (c215_0 : Nat) (x215_1 : Int) (A215_2 : OA) (n215_2 : Nat) (c215_2 : Nat) (A215_3 : OA) (n215_3 : Nat) (c215_3 : Nat) (x215_4 : Int), RD w13 ⟨k2, 0, none⟩ 0 [(.slice A215_0 n215_0 c215_0), (.int .i64 x215_1), (.slice A215_2 n215_2 c215_2), (.slice A215_3 n215_3 c215_3), (.int .i64 x215_4)] ∧
 ST w13 ⟨k4, 0, none⟩ 0 [(.slice A215_0 n215_0 c215_0), (.int .i64 x215_1), (.slice A215_2 n215_2 c215_2), (.slice A215_3 n215_3 c215_3), (.int .i64 x215_4)] fun w14 =>
 ST w14 ⟨k5, 0, none⟩ 0 [(.int .i64 x209c), (.int .i64 0), (.string ⟨#[]⟩), (.slice none 0 0), (.slice none 0 0)] fun w15 =>
 ∃ (A4r_0 : OA) (n4r_0 : Nat) (c4r_0 : Nat) (x4r_1 : Int) (A4r_2 : OA) (n4r_2 : Nat) (c4r_2 : Nat) (A4r_3 : OA) (n4r_3 : Nat) (c4r_3 : Nat) (x4r_4 : Int), RD w15 ⟨k4, 0, none⟩ 0 [(.slice A4r_0 n4r_0 c4r_0), (.int .i64 x4r_1), (.slice A4r_2 n4r_2 c4r_2), (.slice A4r_3 n4r_3 c4r_3), (.int .i64 x4r_4)] ∧
 ∃ (x5r_0 : Int) (x5r_1 : Int) (s5r_2 : ByteArray) (A5r_3 : OA) (n5r_3 : Nat) (c5r_3 : Nat) (A5r_4 : OA) (n5r_4 : Nat) (c5r_4 : Nat), RD w15 ⟨k5, 0, none⟩ 0 [(.int .i64 x5r_0), (.int .i64 x5r_1), (.string s5r_2), (.slice A5r_3 n5r_3 c5r_3), (.slice A5r_4 n5r_4 c5r_4)] ∧
 R (.tuple #[(.agg #[(.slice A4r_0 n4r_0 c4r_0), (.int .i64 x4r_1), (.slice A4r_2 n4r_2 c4r_2), (.slice A4r_3 n4r_3 c4r_3), (.int .i64 x4r_4)]), (.agg #[(.int .i64 x5r_0), (.int .i64 x5r_1), (.string s5r_2), (.slice A5r_3 n5r_3 c5r_3), (.slice A5r_4 n5r_4 c5r_4)])]) w15) (
 ∃ (A218_0 : OA) (n218_0 : Nat) (c218_0 : Nat) (x218_1 : Int) (A218_2 : OA) (n218_2 : Nat) (c218_2 : Nat) (A218_3 : OA) (n218_3 : Nat) (c218_3 : Nat) (x218_4 : Int), RD w13 ⟨k2, 0, none⟩ 0 [(.slice A218_0 n218_0 c218_0), (.int .i64 x218_1), (.slice A218_2 n218_2 c218_2), (.slice A218_3 n218_3 c218_3), (.int .i64 x218_4)] ∧
 ∃ (x220_0 : Int) (x220_1 : Int) (A220_2 : OA) (n220_2 : Nat) (c220_2 : Nat), RD w13 ⟨k14, 0, none⟩ 0 [(.int .i64 x220_0), (.int .i64 x220_1), (.slice A220_2 n220_2 c220_2)] ∧
 CALL PP 57 [(.agg #[(.slice A218_0 n218_0 c218_0), (.int .i64 x218_1), (.slice A218_2 n218_2 c218_2), (.slice A218_3 n218_3 c218_3), (.int .i64 x218_4)]), (.int .i64 x163), (.agg #[(.int .i64 x220_0), (.int .i64 x220_1), (.slice A220_2 n220_2 c220_2)])] w13 fun r221 w14 =>
 ∃ (A221_0 : OA) (n221_0 : Nat) (c221_0 : Nat) (x221_1 : Int) (A221_2 : OA) (n221_2 : Nat) (c221_2 : Nat) (A221_3 : OA) (n221_3 : Nat) (c221_3 : Nat) (x221_4 : Int), r221 = (.agg #[(.slice A221_0 n221_0 c221_0), (.int .i64 x221_1), (.slice A221_2 n221_2 c221_2), (.slice A221_3 n221_3 c221_3), (.int .i64 x221_4)]) ∧
 ST w14 ⟨k2, 0, none⟩ 0 [(.slice A221_0 n221_0 c221_0), (.int .i64 x221_1), (.slice A221_2 n221_2 c221_2), (.slice A221_3 n221_3 c221_3), (.int .i64 x221_4)] fun w15 =>
 ∃ I_2 : World → Prop, (
 DRAW w15 fun w16 =>
 ∃ (A224 : OA) (n224 : Nat) (c224 : Nat), w16.cell? ⟨k2, 3, none⟩ = some (.slice A224 n224 c224) ∧
 ∃ (x227 : Int), w16.cell? ⟨k2, 4, none⟩ = some (.int .i64 x227) ∧
 ∃ (s229 : ByteArray), w16.cell? ⟨k3, 3, none⟩ = some (.string s229) ∧
 (
 NEW w16 (.cells #[] 123) fun k222 w17 =>
 (loadVar 9 ⟨k3, 3, none⟩).run PP w17 = .ok (.string s229) w17 ∧
 (loadVar 3 ⟨k2, 4, none⟩).run PP w17 = .ok (.int .i64 x227) w17 ∧
 (loadVar 67 ⟨k2, 3, none⟩).run PP w17 = .ok (.slice A224 n224 c224) w17 ∧
 (
 RUN PP (Builtin.append_ #[67, 67] 67 #[(.slice (some ⟨k222, 0, none⟩) 0 0), (.slice A224 n224 c224)]) w17 fun r225 w18 =>
 ∃ (A225 : OA) (n225 : Nat) (c225 : Nat), r225 = (.slice A225 n225 c225) ∧
 (loadVar 9 ⟨k3, 3, none⟩).run PP w18 = .ok (.string s229) w18 ∧
 (loadVar 3 ⟨k2, 4, none⟩).run PP w18 = .ok (.int .i64 x227) w18 ∧
 NEW w18 (.cells #[(.int .i64 x227), (.string s229)] 123) fun k231 w19 =>
 RUN PP (Builtin.append_ #[67, 67] 67 #[(.slice A225 n225 c225), (.slice (some ⟨k231, 0, none⟩) 1 1)]) w19 fun r232 w20 =>
 ∃ (A232 : OA) (n232 : Nat) (c232 : Nat), r232 = (.slice A232 n232 c232) ∧
 ST w20 ⟨k2, 3, none⟩ 0 [(.slice A232 n232 c232)] fun w21 =>
 I_2 w21) ∧
 (
 NEW w17 (.cells #[(.int .i64 x227), (.string s229)] 123) fun k231 w18 =>
 (loadVar 67 ⟨k2, 3, none⟩).run PP w18 = .ok (.slice A224 n224 c224) w18 ∧
 RUN PP (Builtin.append_ #[67, 67] 67 #[(.slice (some ⟨k222, 0, none⟩) 0 0), (.slice A224 n224 c224)]) w18 fun r225 w19 =>
 ∃ (A225 : OA) (n225 : Nat) (c225 : Nat), r225 = (.slice A225 n225 c225) ∧
 RUN PP (Builtin.append_ #[67, 67] 67 #[(.slice A225 n225 c225), (.slice (some ⟨k231, 0, none⟩) 1 1)]) w19 fun r232 w20 =>
 ∃ (A232 : OA) (n232 : Nat) (c232 : Nat), r232 = (.slice A232 n232 c232) ∧
 ST w20 ⟨k2, 3, none⟩ 0 [(.slice A232 n232 c232)] fun w21 =>
 I_2 w21)) ∧
 (
 NEW w16 (.cells #[(.int .i64 x227), (.string s229)] 123) fun k231 w17 =>
 (loadVar 67 ⟨k2, 3, none⟩).run PP w17 = .ok (.slice A224 n224 c224) w17 ∧
 NEW w17 (.cells #[] 123) fun k222 w18 =>
 (loadVar 67 ⟨k2, 3, none⟩).run PP w18 = .ok (.slice A224 n224 c224) w18 ∧
 RUN PP (Builtin.append_ #[67, 67] 67 #[(.slice (some ⟨k222, 0, none⟩) 0 0), (.slice A224 n224 c224)]) w18 fun r225 w19 =>
 ∃ (A225 : OA) (n225 : Nat) (c225 : Nat), r225 = (.slice A225 n225 c225) ∧
 RUN PP (Builtin.append_ #[67, 67] 67 #[(.slice A225 n225 c225), (.slice (some ⟨k231, 0, none⟩) 1 1)]) w19 fun r232 w20 =>
 ∃ (A232 : OA) (n232 : Nat) (c232 : Nat), r232 = (.slice A232 n232 c232) ∧
 ST w20 ⟨k2, 3, none⟩ 0 [(.slice A232 n232 c232)] fun w21 =>
 I_2 w21)) ∧
 ∀ (_j : Nat → Value) (w16 : World), I_2 w16 →
 ∃ (x235 : Int), w16.cell? ⟨k2, 4, none⟩ = some (.int .i64 x235) ∧
 ST w16 ⟨k2, 4, none⟩ 0 [(.int .i64 (IntKind.wrap .i64 (x235 + (1 : Int))))] fun w17 =>
 DRAW w17 fun w18 =>
 ∃ (A238_0 : OA) (n238_0 : Nat) (c238_0 : Nat) (x238_1 : Int) (A238_2 : OA) (n238_2 : Nat) (c238_2 : Nat) (A238_3 : OA) (n238_3 : Nat) (c238_3 : Nat) (x238_4 : Int), RD w18 ⟨k2, 0, none⟩ 0 [(.slice A238_0 n238_0 c238_0), (.int .i64 x238_1), (.slice A238_2 n238_2 c238_2), (.slice A238_3 n238_3 c238_3), (.int .i64 x238_4)] ∧
 ∃ (x240 : Int), w18.cell? ⟨k15, 0, none⟩ = some (.int .i64 x240) ∧
 ST w18 ⟨k4, 0, none⟩ 0 [(.slice A238_0 n238_0 c238_0), (.int .i64 x238_1), (.slice A238_2 n238_2 c238_2), (.slice A238_3 n238_3 c238_3), (.int .i64 x238_4)] fun w19 =>
 (loadVar 3 ⟨k15, 0, none⟩).run PP w19 = .ok (.int .i64 x240) w19 ∧
 ST w19 ⟨k5, 0, none⟩ 0 [(.int .i64 0), (.int .i64 x240), (.string ⟨#[]⟩), (.slice none 0 0), (.slice none 0 0)] fun w20 =>
 ∃ (A4r_0 : OA) (n4r_0 : Nat) (c4r_0 : Nat) (x4r_1 : Int) (A4r_2 : OA) (n4r_2 : Nat) (c4r_2 : Nat) (A4r_3 : OA) (n4r_3 : Nat) (c4r_3 : Nat) (x4r_4 : Int), RD w20 ⟨k4, 0, none⟩ 0 [(.slice A4r_0 n4r_0 c4r_0), (.int .i64 x4r_1), (.slice A4r_2 n4r_2 c4r_2), (.slice A4r_3 n4r_3 c4r_3), (.int .i64 x4r_4)] ∧
 ∃ (x5r_0 : Int) (x5r_1 : Int) (s5r_2 : ByteArray) (A5r_3 : OA) (n5r_3 : Nat) (c5r_3 : Nat) (A5r_4 : OA) (n5r_4 : Nat) (c5r_4 : Nat), RD w20 ⟨k5, 0, none⟩ 0 [(.int .i64 x5r_0), (.int .i64 x5r_1), (.string s5r_2), (.slice A5r_3 n5r_3 c5r_3), (.slice A5r_4 n5r_4 c5r_4)] ∧
 R (.tuple #[(.agg #[(.slice A4r_0 n4r_0 c4r_0), (.int .i64 x4r_1), (.slice A4r_2 n4r_2 c4r_2), (.slice A4r_3 n4r_3 c4r_3), (.int .i64 x4r_4)]), (.agg #[(.int .i64 x5r_0), (.int .i64 x5r_1), (.string s5r_2), (.slice A5r_3 n5r_3 c5r_3), (.slice A5r_4 n5r_4 c5r_4)])]) w20))) (
 SPLIT (x174 == (7 : Int)) (
 ∃ (x245_0 : Int) (x245_1 : Int) (A245_2 : OA) (n245_2 : Nat) (c245_2 : Nat), RD w8 ⟨k13, 0, none⟩ 0 [(.int .i64 x245_0), (.int .i64 x245_1), (.slice A245_2 n245_2 c245_2)] ∧
 ∃ (x247 : Int), w8.cell? ⟨k3, 4, none⟩ = some (.int .i64 x247) ∧
 CALL PP 58 [(.agg #[(.int .i64 x245_0), (.int .i64 x245_1), (.slice A245_2 n245_2 c245_2)]), (.int .i64 x247)] w8 fun r248 w9 =>
 ∃ (x248a_0 : Int) (x248a_1 : Int) (x248a_2 : Int) (x248b : Int), r248 = (.tuple #[(.agg #[(.int .i64 x248a_0), (.int .i64 x248a_1), (.int .i64 x248a_2)]), (.int .i64 x248b)]) ∧
 NEW w9 (.cells #[(.int .i64 0), (.int .i64 0), (.int .i64 0)] 118) fun k17 w10 =>
 ST w10 ⟨k17, 0, none⟩ 0 [(.int .i64 x248a_0), (.int .i64 x248a_1), (.int .i64 x248a_2)] fun w11 =>
 ∃ (A252_0 : OA) (n252_0 : Nat) (c252_0 : Nat) (x252_1 : Int) (A252_2 : OA) (n252_2 : Nat) (c252_2 : Nat) (A252_3 : OA) (n252_3 : Nat) (c252_3 : Nat) (x252_4 : Int), RD w11 ⟨k2, 0, none⟩ 0 [(.slice A252_0 n252_0 c252_0), (.int .i64 x252_1), (.slice A252_2 n252_2 c252_2), (.slice A252_3 n252_3 c252_3), (.int .i64 x252_4)] ∧
 ∃ (x254 : Int), w11.cell? ⟨k17, 2, none⟩ = some (.int .i64 x254) ∧
 CALL PP 59 [(.agg #[(.slice A252_0 n252_0 c252_0), (.int .i64 x252_1), (.slice A252_2 n252_2 c252_2), (.slice A252_3 n252_3 c252_3), (.int .i64 x252_4)]), (.int .i64 x254)] w11 fun r255 w12 =>
 ∃ (s255a : ByteArray) (b255b : Bool), r255 = (.tuple #[(.string s255a), (.bool b255b)]) ∧
 DRAW w12 fun w13 =>
 ∃ (A258_0 : OA) (n258_0 : Nat) (c258_0 : Nat) (x258_1 : Int) (A258_2 : OA) (n258_2 : Nat) (c258_2 : Nat) (A258_3 : OA) (n258_3 : Nat) (c258_3 : Nat) (x258_4 : Int), RD w13 ⟨k2, 0, none⟩ 0 [(.slice A258_0 n258_0 c258_0), (.int .i64 x258_1), (.slice A258_2 n258_2 c258_2), (.slice A258_3 n258_3 c258_3), (.int .i64 x258_4)] ∧
 ∃ (x261 : Int), w13.cell? ⟨k17, 1, none⟩ = some (.int .i64 x261) ∧
 ST w13 ⟨k4, 0, none⟩ 0 [(.slice A258_0 n258_0 c258_0), (.int .i64 x258_1), (.slice A258_2 n258_2 c258_2), (.slice A258_3 n258_3 c258_3), (.int .i64 x258_4)] fun w14 =>
 (loadVar 3 ⟨k17, 1, none⟩).run PP w14 = .ok (.int .i64 x261) w14 ∧
 ST w14 ⟨k5, 0, none⟩ 0 [(.int .i64 x248b), (.int .i64 x261), (.string s255a), (.slice none 0 0), (.slice none 0 0)] fun w15 =>
 ∃ (A4r_0 : OA) (n4r_0 : Nat) (c4r_0 : Nat) (x4r_1 : Int) (A4r_2 : OA) (n4r_2 : Nat) (c4r_2 : Nat) (A4r_3 : OA) (n4r_3 : Nat) (c4r_3 : Nat) (x4r_4 : Int), RD w15 ⟨k4, 0, none⟩ 0 [(.slice A4r_0 n4r_0 c4r_0), (.int .i64 x4r_1), (.slice A4r_2 n4r_2 c4r_2), (.slice A4r_3 n4r_3 c4r_3), (.int .i64 x4r_4)] ∧
 ∃ (x5r_0 : Int) (x5r_1 : Int) (s5r_2 : ByteArray) (A5r_3 : OA) (n5r_3 : Nat) (c5r_3 : Nat) (A5r_4 : OA) (n5r_4 : Nat) (c5r_4 : Nat), RD w15 ⟨k5, 0, none⟩ 0 [(.int .i64 x5r_0), (.int .i64 x5r_1), (.string s5r_2), (.slice A5r_3 n5r_3 c5r_3), (.slice A5r_4 n5r_4 c5r_4)] ∧
 R (.tuple #[(.agg #[(.slice A4r_0 n4r_0 c4r_0), (.int .i64 x4r_1), (.slice A4r_2 n4r_2 c4r_2), (.slice A4r_3 n4r_3 c4r_3), (.int .i64 x4r_4)]), (.agg #[(.int .i64 x5r_0), (.int .i64 x5r_1), (.string s5r_2), (.slice A5r_3 n5r_3 c5r_3), (.slice A5r_4 n5r_4 c5r_4)])]) w15) (
 ∃ I_2 : Bool → World → Prop, (
 SPLIT (x174 == (8 : Int)) (
 I_2 true w8) (
 I_2 (x174 == (9 : Int)) w8)) ∧
 ∀ (_j : Nat → Value) (b264 : Bool) (w9 : World), I_2 b264 w9 →
 SPLIT b264 (
 ∃ (A267_0 : OA) (n267_0 : Nat) (c267_0 : Nat) (x267_1 : Int) (A267_2 : OA) (n267_2 : Nat) (c267_2 : Nat) (A267_3 : OA) (n267_3 : Nat) (c267_3 : Nat) (x267_4 : Int), RD w9 ⟨k2, 0, none⟩ 0 [(.slice A267_0 n267_0 c267_0), (.int .i64 x267_1), (.slice A267_2 n267_2 c267_2), (.slice A267_3 n267_3 c267_3), (.int .i64 x267_4)] ∧
 ∃ (s269 : ByteArray), w9.cell? ⟨k3, 2, none⟩ = some (.string s269) ∧
 CALL PP 49 [(.agg #[(.slice A267_0 n267_0 c267_0), (.int .i64 x267_1), (.slice A267_2 n267_2 c267_2), (.slice A267_3 n267_3 c267_3), (.int .i64 x267_4)]), (.string s269)] w9 fun r270 w10 =>
 ∃ (x270 : Int), r270 = (.int .i64 x270) ∧
 SPLIT (decide (x270 < (0 : Int))) (
 ∃ (A273_0 : OA) (n273_0 : Nat) (c273_0 : Nat) (x273_1 : Int) (A273_2 : OA) (n273_2 : Nat) (c273_2 : Nat) (A273_3 : OA) (n273_3 : Nat) (c273_3 : Nat) (x273_4 : Int), RD w10 ⟨k2, 0, none⟩ 0 [(.slice A273_0 n273_0 c273_0), (.int .i64 x273_1), (.slice A273_2 n273_2 c273_2), (.slice A273_3 n273_3 c273_3), (.int .i64 x273_4)] ∧
 ST w10 ⟨k4, 0, none⟩ 0 [(.slice A273_0 n273_0 c273_0), (.int .i64 x273_1), (.slice A273_2 n273_2 c273_2), (.slice A273_3 n273_3 c273_3), (.int .i64 x273_4)] fun w11 =>
 ST w11 ⟨k5, 0, none⟩ 0 [(.int .i64 5), (.int .i64 0), (.string ⟨#[]⟩), (.slice none 0 0), (.slice none 0 0)] fun w12 =>
 ∃ (A4r_0 : OA) (n4r_0 : Nat) (c4r_0 : Nat) (x4r_1 : Int) (A4r_2 : OA) (n4r_2 : Nat) (c4r_2 : Nat) (A4r_3 : OA) (n4r_3 : Nat) (c4r_3 : Nat) (x4r_4 : Int), RD w12 ⟨k4, 0, none⟩ 0 [(.slice A4r_0 n4r_0 c4r_0), (.int .i64 x4r_1), (.slice A4r_2 n4r_2 c4r_2), (.slice A4r_3 n4r_3 c4r_3), (.int .i64 x4r_4)] ∧
 ∃ (x5r_0 : Int) (x5r_1 : Int) (s5r_2 : ByteArray) (A5r_3 : OA) (n5r_3 : Nat) (c5r_3 : Nat) (A5r_4 : OA) (n5r_4 : Nat) (c5r_4 : Nat), RD w12 ⟨k5, 0, none⟩ 0 [(.int .i64 x5r_0), (.int .i64 x5r_1), (.string s5r_2), (.slice A5r_3 n5r_3 c5r_3), (.slice A5r_4 n5r_4 c5r_4)] ∧
 R (.tuple #[(.agg #[(.slice A4r_0 n4r_0 c4r_0), (.int .i64 x4r_1), (.slice A4r_2 n4r_2 c4r_2), (.slice A4r_3 n4r_3 c4r_3), (.int .i64 x4r_4)]), (.agg #[(.int .i64 x5r_0), (.int .i64 x5r_1), (.string s5r_2), (.slice A5r_3 n5r_3 c5r_3), (.slice A5r_4 n5r_4 c5r_4)])]) w12) (
 ∃ (x276_0 : Int) (x276_1 : Int) (A276_2 : OA) (n276_2 : Nat) (c276_2 : Nat), RD w10 ⟨k13, 0, none⟩ 0 [(.int .i64 x276_0), (.int .i64 x276_1), (.slice A276_2 n276_2 c276_2)] ∧
 ∃ (x278 : Int), w10.cell? ⟨k3, 4, none⟩ = some (.int .i64 x278) ∧
 CALL PP 58 [(.agg #[(.int .i64 x276_0), (.int .i64 x276_1), (.slice A276_2 n276_2 c276_2)]), (.int .i64 x278)] w10 fun r279 w11 =>
 ∃ (x279a_0 : Int) (x279a_1 : Int) (x279a_2 : Int) (x279b : Int), r279 = (.tuple #[(.agg #[(.int .i64 x279a_0), (.int .i64 x279a_1), (.int .i64 x279a_2)]), (.int .i64 x279b)]) ∧
 NEW w11 (.cells #[(.int .i64 0), (.int .i64 0), (.int .i64 0)] 118) fun k22 w12 =>
 ST w12 ⟨k22, 0, none⟩ 0 [(.int .i64 x279a_0), (.int .i64 x279a_1), (.int .i64 x279a_2)] fun w13 =>
 SPLIT (x279b != (0 : Int)) (
 ∃ (A284_0 : OA) (n284_0 : Nat) (c284_0 : Nat) (x284_1 : Int) (A284_2 : OA) (n284_2 : Nat) (c284_2 : Nat) (A284_3 : OA) (n284_3 : Nat) (c284_3 : Nat) (x284_4 : Int), RD w13 ⟨k2, 0, none⟩ 0 [(.slice A284_0 n284_0 c284_0), (.int .i64 x284_1), (.slice A284_2 n284_2 c284_2), (.slice A284_3 n284_3 c284_3), (.int .i64 x284_4)] ∧
 ST w13 ⟨k4, 0, none⟩ 0 [(.slice A284_0 n284_0 c284_0), (.int .i64 x284_1), (.slice A284_2 n284_2 c284_2), (.slice A284_3 n284_3 c284_3), (.int .i64 x284_4)] fun w14 =>
 ST w14 ⟨k5, 0, none⟩ 0 [(.int .i64 x279b), (.int .i64 0), (.string ⟨#[]⟩), (.slice none 0 0), (.slice none 0 0)] fun w15 =>
 ∃ (A4r_0 : OA) (n4r_0 : Nat) (c4r_0 : Nat) (x4r_1 : Int) (A4r_2 : OA) (n4r_2 : Nat) (c4r_2 : Nat) (A4r_3 : OA) (n4r_3 : Nat) (c4r_3 : Nat) (x4r_4 : Int), RD w15 ⟨k4, 0, none⟩ 0 [(.slice A4r_0 n4r_0 c4r_0), (.int .i64 x4r_1), (.slice A4r_2 n4r_2 c4r_2), (.slice A4r_3 n4r_3 c4r_3), (.int .i64 x4r_4)] ∧
 ∃ (x5r_0 : Int) (x5r_1 : Int) (s5r_2 : ByteArray) (A5r_3 : OA) (n5r_3 : Nat) (c5r_3 : Nat) (A5r_4 : OA) (n5r_4 : Nat) (c5r_4 : Nat), RD w15 ⟨k5, 0, none⟩ 0 [(.int .i64 x5r_0), (.int .i64 x5r_1), (.string s5r_2), (.slice A5r_3 n5r_3 c5r_3), (.slice A5r_4 n5r_4 c5r_4)] ∧
 R (.tuple #[(.agg #[(.slice A4r_0 n4r_0 c4r_0), (.int .i64 x4r_1), (.slice A4r_2 n4r_2 c4r_2), (.slice A4r_3 n4r_3 c4r_3), (.int .i64 x4r_4)]), (.agg #[(.int .i64 x5r_0), (.int .i64 x5r_1), (.string s5r_2), (.slice A5r_3 n5r_3 c5r_3), (.slice A5r_4 n5r_4 c5r_4)])]) w15) (
 ∃ I_3 : OA → OA → Int → World → Prop, (
 DRAW w13 fun w14 =>
 ∃ (A289 : OA) (n289 : Nat) (c289 : Nat), w14.cell? ⟨k2, 2, none⟩ = some (.slice A289 n289 c289) ∧
 (0 ≤ x270 ∧ x270 < (n289 : Int)) ∧
 SOMEA A289 fun a291 =>
 ∃ (x292_0 : Int) (x292_1 : Int) (A292_2 : OA) (n292_2 : Nat) (c292_2 : Nat), RD w14 (Addr.add a291 (Int.toNat x270 * 3)) 0 [(.int .i64 x292_0), (.int .i64 x292_1), (.slice A292_2 n292_2 c292_2)] ∧
 ∃ (x294 : Int), w14.cell? ⟨k22, 2, none⟩ = some (.int .i64 x294) ∧
 ∃ (x296 : Int), w14.cell? ⟨k22, 1, none⟩ = some (.int .i64 x296) ∧
 (
 CALL PP 56 [(.agg #[(.int .i64 x292_0), (.int .i64 x292_1), (.slice A292_2 n292_2 c292_2)]), (.int .i64 x294), (.int .i64 x296)] w14 fun r297 w15 =>
 ∃ (x297a_0 : Int) (x297a_1 : Int) (A297a_2 : OA) (n297a_2 : Nat) (c297a_2 : Nat) (x297b_0 : Int) (x297b_1 : Int) (x297b_2 : Int) (x297c : Int), r297 = (.tuple #[(.agg #[(.int .i64 x297a_0), (.int .i64 x297a_1), (.slice A297a_2 n297a_2 c297a_2)]), (.agg #[(.int .i64 x297b_0), (.int .i64 x297b_1), (.int .i64 x297b_2)]), (.int .i64 x297c)]) ∧
 (
 NEW w15 (.cells #[(.int .i64 0), (.int .i64 0), (.slice none 0 0)] 108) fun k24 w16 =>
 NEW w16 (.cells #[(.int .i64 0), (.int .i64 0), (.int .i64 0)] 118) fun k25 w17 =>
 ST w17 ⟨k24, 0, none⟩ 0 [(.int .i64 x297a_0), (.int .i64 x297a_1), (.slice A297a_2 n297a_2 c297a_2)] fun w18 =>
 ST w18 ⟨k25, 0, none⟩ 0 [(.int .i64 x297b_0), (.int .i64 x297b_1), (.int .i64 x297b_2)] fun w19 =>
 I_3 (some ⟨k24, 0, none⟩) (some ⟨k25, 0, none⟩) x297c w19) ∧
 (
 NEW w15 (.cells #[(.int .i64 0), (.int .i64 0), (.int .i64 0)] 118) fun k25 w16 =>
 NEW w16 (.cells #[(.int .i64 0), (.int .i64 0), (.slice none 0 0)] 108) fun k24 w17 =>
 ST w17 ⟨k24, 0, none⟩ 0 [(.int .i64 x297a_0), (.int .i64 x297a_1), (.slice A297a_2 n297a_2 c297a_2)] fun w18 =>
 ST w18 ⟨k25, 0, none⟩ 0 [(.int .i64 x297b_0), (.int .i64 x297b_1), (.int .i64 x297b_2)] fun w19 =>
 I_3 (some ⟨k24, 0, none⟩) (some ⟨k25, 0, none⟩) x297c w19)) ∧
 (
 NEW w14 (.cells #[(.int .i64 0), (.int .i64 0), (.slice none 0 0)] 108) fun k24 w15 =>
 (loadVar 3 ⟨k22, 1, none⟩).run PP w15 = .ok (.int .i64 x296) w15 ∧
 (loadVar 3 ⟨k22, 2, none⟩).run PP w15 = .ok (.int .i64 x294) w15 ∧
 (loadVar 108 (Addr.add a291 (Int.toNat x270 * 3))).run PP w15 = .ok (.agg #[(.int .i64 x292_0), (.int .i64 x292_1), (.slice A292_2 n292_2 c292_2)]) w15 ∧
 (loadVar 66 ⟨k2, 2, none⟩).run PP w15 = .ok (.slice A289 n289 c289) w15 ∧
 (
 CALL PP 56 [(.agg #[(.int .i64 x292_0), (.int .i64 x292_1), (.slice A292_2 n292_2 c292_2)]), (.int .i64 x294), (.int .i64 x296)] w15 fun r297 w16 =>
 ∃ (x297a_0 : Int) (x297a_1 : Int) (A297a_2 : OA) (n297a_2 : Nat) (c297a_2 : Nat) (x297b_0 : Int) (x297b_1 : Int) (x297b_2 : Int) (x297c : Int), r297 = (.tuple #[(.agg #[(.int .i64 x297a_0), (.int .i64 x297a_1), (.slice A297a_2 n297a_2 c297a_2)]), (.agg #[(.int .i64 x297b_0), (.int .i64 x297b_1), (.int .i64 x297b_2)]), (.int .i64 x297c)]) ∧
 NEW w16 (.cells #[(.int .i64 0), (.int .i64 0), (.int .i64 0)] 118) fun k25 w17 =>
 ST w17 ⟨k24, 0, none⟩ 0 [(.int .i64 x297a_0), (.int .i64 x297a_1), (.slice A297a_2 n297a_2 c297a_2)] fun w18 =>
 ST w18 ⟨k25, 0, none⟩ 0 [(.int .i64 x297b_0), (.int .i64 x297b_1), (.int .i64 x297b_2)] fun w19 =>
 I_3 (some ⟨k24, 0, none⟩) (some ⟨k25, 0, none⟩) x297c w19) ∧
 (
 NEW w15 (.cells #[(.int .i64 0), (.int .i64 0), (.int .i64 0)] 118) fun k25 w16 =>
 (loadVar 3 ⟨k22, 1, none⟩).run PP w16 = .ok (.int .i64 x296) w16 ∧
 (loadVar 3 ⟨k22, 2, none⟩).run PP w16 = .ok (.int .i64 x294) w16 ∧
 (loadVar 108 (Addr.add a291 (Int.toNat x270 * 3))).run PP w16 = .ok (.agg #[(.int .i64 x292_0), (.int .i64 x292_1), (.slice A292_2 n292_2 c292_2)]) w16 ∧
 (loadVar 66 ⟨k2, 2, none⟩).run PP w16 = .ok (.slice A289 n289 c289) w16 ∧
 CALL PP 56 [(.agg #[(.int .i64 x292_0), (.int .i64 x292_1), (.slice A292_2 n292_2 c292_2)]), (.int .i64 x294), (.int .i64 x296)] w16 fun r297 w17 =>
 ∃ (x297a_0 : Int) (x297a_1 : Int) (A297a_2 : OA) (n297a_2 : Nat) (c297a_2 : Nat) (x297b_0 : Int) (x297b_1 : Int) (x297b_2 : Int) (x297c : Int), r297 = (.tuple #[(.agg #[(.int .i64 x297a_0), (.int .i64 x297a_1), (.slice A297a_2 n297a_2 c297a_2)]), (.agg #[(.int .i64 x297b_0), (.int .i64 x297b_1), (.int .i64 x297b_2)]), (.int .i64 x297c)]) ∧
 ST w17 ⟨k24, 0, none⟩ 0 [(.int .i64 x297a_0), (.int .i64 x297a_1), (.slice A297a_2 n297a_2 c297a_2)] fun w18 =>
 ST w18 ⟨k25, 0, none⟩ 0 [(.int .i64 x297b_0), (.int .i64 x297b_1), (.int .i64 x297b_2)] fun w19 =>
 I_3 (some ⟨k24, 0, none⟩) (some ⟨k25, 0, none⟩) x297c w19)) ∧
 (
 NEW w14 (.cells #[(.int .i64 0), (.int .i64 0), (.int .i64 0)] 118) fun k25 w15 =>
 (loadVar 3 ⟨k22, 1, none⟩).run PP w15 = .ok (.int .i64 x296) w15 ∧
 (loadVar 3 ⟨k22, 2, none⟩).run PP w15 = .ok (.int .i64 x294) w15 ∧
 (loadVar 108 (Addr.add a291 (Int.toNat x270 * 3))).run PP w15 = .ok (.agg #[(.int .i64 x292_0), (.int .i64 x292_1), (.slice A292_2 n292_2 c292_2)]) w15 ∧
 (loadVar 66 ⟨k2, 2, none⟩).run PP w15 = .ok (.slice A289 n289 c289) w15 ∧
 (
 CALL PP 56 [(.agg #[(.int .i64 x292_0), (.int .i64 x292_1), (.slice A292_2 n292_2 c292_2)]), (.int .i64 x294), (.int .i64 x296)] w15 fun r297 w16 =>
 ∃ (x297a_0 : Int) (x297a_1 : Int) (A297a_2 : OA) (n297a_2 : Nat) (c297a_2 : Nat) (x297b_0 : Int) (x297b_1 : Int) (x297b_2 : Int) (x297c : Int), r297 = (.tuple #[(.agg #[(.int .i64 x297a_0), (.int .i64 x297a_1), (.slice A297a_2 n297a_2 c297a_2)]), (.agg #[(.int .i64 x297b_0), (.int .i64 x297b_1), (.int .i64 x297b_2)]), (.int .i64 x297c)]) ∧
 NEW w16 (.cells #[(.int .i64 0), (.int .i64 0), (.slice none 0 0)] 108) fun k24 w17 =>
 ST w17 ⟨k24, 0, none⟩ 0 [(.int .i64 x297a_0), (.int .i64 x297a_1), (.slice A297a_2 n297a_2 c297a_2)] fun w18 =>
 ST w18 ⟨k25, 0, none⟩ 0 [(.int .i64 x297b_0), (.int .i64 x297b_1), (.int .i64 x297b_2)] fun w19 =>
 I_3 (some ⟨k24, 0, none⟩) (some ⟨k25, 0, none⟩) x297c w19) ∧
 (
 NEW w15 (.cells #[(.int .i64 0), (.int .i64 0), (.slice none 0 0)] 108) fun k24 w16 =>
 (loadVar 3 ⟨k22, 1, none⟩).run PP w16 = .ok (.int .i64 x296) w16 ∧
 (loadVar 3 ⟨k22, 2, none⟩).run PP w16 = .ok (.int .i64 x294) w16 ∧
 (loadVar 108 (Addr.add a291 (Int.toNat x270 * 3))).run PP w16 = .ok (.agg #[(.int .i64 x292_0), (.int .i64 x292_1), (.slice A292_2 n292_2 c292_2)]) w16 ∧
 (loadVar 66 ⟨k2, 2, none⟩).run PP w16 = .ok (.slice A289 n289 c289) w16 ∧
 CALL PP 56 [(.agg #[(.int .i64 x292_0), (.int .i64 x292_1), (.slice A292_2 n292_2 c292_2)]), (.int .i64 x294), (.int .i64 x296)] w16 fun r297 w17 =>
 ∃ (x297a_0 : Int) (x297a_1 : Int) (A297a_2 : OA) (n297a_2 : Nat) (c297a_2 : Nat) (x297b_0 : Int) (x297b_1 : Int) (x297b_2 : Int) (x297c : Int), r297 = (.tuple #[(.agg #[(.int .i64 x297a_0), (.int .i64 x297a_1), (.slice A297a_2 n297a_2 c297a_2)]), (.agg #[(.int .i64 x297b_0), (.int .i64 x297b_1), (.int .i64 x297b_2)]), (.int .i64 x297c)]) ∧
 ST w17 ⟨k24, 0, none⟩ 0 [(.int .i64 x297a_0), (.int .i64 x297a_1), (.slice A297a_2 n297a_2 c297a_2)] fun w18 =>
 ST w18 ⟨k25, 0, none⟩ 0 [(.int .i64 x297b_0), (.int .i64 x297b_1), (.int .i64 x297b_2)] fun w19 =>
 I_3 (some ⟨k24, 0, none⟩) (some ⟨k25, 0, none⟩) x297c w19))) ∧
 ∀ (_j : Nat → Value) (p24 : OA) (p25 : OA) (x26 : Int) (w14 : World), I_3 p24 p25 x26 w14 →
 SPLIT (x26 != (0 : Int)) (
 ∃ (A303_0 : OA) (n303_0 : Nat) (c303_0 : Nat) (x303_1 : Int) (A303_2 : OA) (n303_2 : Nat) (c303_2 : Nat) (A303_3 : OA) (n303_3 : Nat) (c303_3 : Nat) (x303_4 : Int), RD w14 ⟨k2, 0, none⟩ 0 [(.slice A303_0 n303_0 c303_0), (.int .i64 x303_1), (.slice A303_2 n303_2 c303_2), (.slice A303_3 n303_3 c303_3), (.int .i64 x303_4)] ∧
 ST w14 ⟨k4, 0, none⟩ 0 [(.slice A303_0 n303_0 c303_0), (.int .i64 x303_1), (.slice A303_2 n303_2 c303_2), (.slice A303_3 n303_3 c303_3), (.int .i64 x303_4)] fun w15 =>
 ST w15 ⟨k5, 0, none⟩ 0 [(.int .i64 x26), (.int .i64 0), (.string ⟨#[]⟩), (.slice none 0 0), (.slice none 0 0)] fun w16 =>
 ∃ (A4r_0 : OA) (n4r_0 : Nat) (c4r_0 : Nat) (x4r_1 : Int) (A4r_2 : OA) (n4r_2 : Nat) (c4r_2 : Nat) (A4r_3 : OA) (n4r_3 : Nat) (c4r_3 : Nat) (x4r_4 : Int), RD w16 ⟨k4, 0, none⟩ 0 [(.slice A4r_0 n4r_0 c4r_0), (.int .i64 x4r_1), (.slice A4r_2 n4r_2 c4r_2), (.slice A4r_3 n4r_3 c4r_3), (.int .i64 x4r_4)] ∧
 ∃ (x5r_0 : Int) (x5r_1 : Int) (s5r_2 : ByteArray) (A5r_3 : OA) (n5r_3 : Nat) (c5r_3 : Nat) (A5r_4 : OA) (n5r_4 : Nat) (c5r_4 : Nat), RD w16 ⟨k5, 0, none⟩ 0 [(.int .i64 x5r_0), (.int .i64 x5r_1), (.string s5r_2), (.slice A5r_3 n5r_3 c5r_3), (.slice A5r_4 n5r_4 c5r_4)] ∧
 R (.tuple #[(.agg #[(.slice A4r_0 n4r_0 c4r_0), (.int .i64 x4r_1), (.slice A4r_2 n4r_2 c4r_2), (.slice A4r_3 n4r_3 c4r_3), (.int .i64 x4r_4)]), (.agg #[(.int .i64 x5r_0), (.int .i64 x5r_1), (.string s5r_2), (.slice A5r_3 n5r_3 c5r_3), (.slice A5r_4 n5r_4 c5r_4)])]) w16) (
 ∃ (A306_0 : OA) (n306_0 : Nat) (c306_0 : Nat) (x306_1 : Int) (A306_2 : OA) (n306_2 : Nat) (c306_2 : Nat) (A306_3 : OA) (n306_3 : Nat) (c306_3 : Nat) (x306_4 : Int), RD w14 ⟨k2, 0, none⟩ 0 [(.slice A306_0 n306_0 c306_0), (.int .i64 x306_1), (.slice A306_2 n306_2 c306_2), (.slice A306_3 n306_3 c306_3), (.int .i64 x306_4)] ∧
 SOMEA p24 fun a308 =>
 ∃ (x308_0 : Int) (x308_1 : Int) (A308_2 : OA) (n308_2 : Nat) (c308_2 : Nat), RD w14 a308 0 [(.int .i64 x308_0), (.int .i64 x308_1), (.slice A308_2 n308_2 c308_2)] ∧
 CALL PP 57 [(.agg #[(.slice A306_0 n306_0 c306_0), (.int .i64 x306_1), (.slice A306_2 n306_2 c306_2), (.slice A306_3 n306_3 c306_3), (.int .i64 x306_4)]), (.int .i64 x270), (.agg #[(.int .i64 x308_0), (.int .i64 x308_1), (.slice A308_2 n308_2 c308_2)])] w14 fun r309 w15 =>
 ∃ (A309_0 : OA) (n309_0 : Nat) (c309_0 : Nat) (x309_1 : Int) (A309_2 : OA) (n309_2 : Nat) (c309_2 : Nat) (A309_3 : OA) (n309_3 : Nat) (c309_3 : Nat) (x309_4 : Int), r309 = (.agg #[(.slice A309_0 n309_0 c309_0), (.int .i64 x309_1), (.slice A309_2 n309_2 c309_2), (.slice A309_3 n309_3 c309_3), (.int .i64 x309_4)]) ∧
 ST w15 ⟨k2, 0, none⟩ 0 [(.slice A309_0 n309_0 c309_0), (.int .i64 x309_1), (.slice A309_2 n309_2 c309_2), (.slice A309_3 n309_3 c309_3), (.int .i64 x309_4)] fun w16 =>
 ∃ I_4 : World → Prop, (
 ∃ (x311 : Int), w16.cell? ⟨k3, 0, none⟩ = some (.int .i64 x311) ∧
 SPLIT (x311 == (9 : Int)) (
 DRAW w16 fun w17 =>
 ∃ (A315 : OA) (n315 : Nat) (c315 : Nat), w17.cell? ⟨k2, 2, none⟩ = some (.slice A315 n315 c315) ∧
 (0 ≤ x163 ∧ x163 < (n315 : Int)) ∧
 SOMEA A315 fun a317 =>
 ∃ (x318_0 : Int) (x318_1 : Int) (A318_2 : OA) (n318_2 : Nat) (c318_2 : Nat), RD w17 (Addr.add a317 (Int.toNat x163 * 3)) 0 [(.int .i64 x318_0), (.int .i64 x318_1), (.slice A318_2 n318_2 c318_2)] ∧
 ∃ (x320 : Int), w17.cell? ⟨k3, 4, none⟩ = some (.int .i64 x320) ∧
 CALL PP 60 [(.agg #[(.int .i64 x318_0), (.int .i64 x318_1), (.slice A318_2 n318_2 c318_2)]), (.int .i64 x320)] w17 fun r321 w18 =>
 ∃ (x321a_0 : Int) (x321a_1 : Int) (A321a_2 : OA) (n321a_2 : Nat) (c321a_2 : Nat) (x321b_0 : Int) (x321b_1 : Int) (x321b_2 : Int) (x321c : Int), r321 = (.tuple #[(.agg #[(.int .i64 x321a_0), (.int .i64 x321a_1), (.slice A321a_2 n321a_2 c321a_2)]), (.agg #[(.int .i64 x321b_0), (.int .i64 x321b_1), (.int .i64 x321b_2)]), (.int .i64 x321c)]) ∧
 SOMEA p24 fun aq =>
 ST w18 aq 0 [(.int .i64 x321a_0), (.int .i64 x321a_1), (.slice A321a_2 n321a_2 c321a_2)] fun w19 =>
 ∃ (A325_0 : OA) (n325_0 : Nat) (c325_0 : Nat) (x325_1 : Int) (A325_2 : OA) (n325_2 : Nat) (c325_2 : Nat) (A325_3 : OA) (n325_3 : Nat) (c325_3 : Nat) (x325_4 : Int), RD w19 ⟨k2, 0, none⟩ 0 [(.slice A325_0 n325_0 c325_0), (.int .i64 x325_1), (.slice A325_2 n325_2 c325_2), (.slice A325_3 n325_3 c325_3), (.int .i64 x325_4)] ∧
 SOMEA p24 fun a327 =>
 ∃ (x327_0 : Int) (x327_1 : Int) (A327_2 : OA) (n327_2 : Nat) (c327_2 : Nat), RD w19 a327 0 [(.int .i64 x327_0), (.int .i64 x327_1), (.slice A327_2 n327_2 c327_2)] ∧
 CALL PP 57 [(.agg #[(.slice A325_0 n325_0 c325_0), (.int .i64 x325_1), (.slice A325_2 n325_2 c325_2), (.slice A325_3 n325_3 c325_3), (.int .i64 x325_4)]), (.int .i64 x163), (.agg #[(.int .i64 x327_0), (.int .i64 x327_1), (.slice A327_2 n327_2 c327_2)])] w19 fun r328 w20 =>
 ∃ (A328_0 : OA) (n328_0 : Nat) (c328_0 : Nat) (x328_1 : Int) (A328_2 : OA) (n328_2 : Nat) (c328_2 : Nat) (A328_3 : OA) (n328_3 : Nat) (c328_3 : Nat) (x328_4 : Int), r328 = (.agg #[(.slice A328_0 n328_0 c328_0), (.int .i64 x328_1), (.slice A328_2 n328_2 c328_2), (.slice A328_3 n328_3 c328_3), (.int .i64 x328_4)]) ∧
 ST w20 ⟨k2, 0, none⟩ 0 [(.slice A328_0 n328_0 c328_0), (.int .i64 x328_1), (.slice A328_2 n328_2 c328_2), (.slice A328_3 n328_3 c328_3), (.int .i64 x328_4)] fun w21 =>
 I_4 w21) (
 I_4 w16)) ∧
 ∀ (_j : Nat → Value) (w17 : World), I_4 w17 →
 DRAW w17 fun w18 =>
 ∃ (A329_0 : OA) (n329_0 : Nat) (c329_0 : Nat) (x329_1 : Int) (A329_2 : OA) (n329_2 : Nat) (c329_2 : Nat) (A329_3 : OA) (n329_3 : Nat) (c329_3 : Nat) (x329_4 : Int), RD w18 ⟨k2, 0, none⟩ 0 [(.slice A329_0 n329_0 c329_0), (.int .i64 x329_1), (.slice A329_2 n329_2 c329_2), (.slice A329_3 n329_3 c329_3), (.int .i64 x329_4)] ∧
 SOMEA p25 fun a330 =>
 ∃ (x331 : Int), w18.cell? (Addr.add a330 0) = some (.int .i64 x331) ∧
 ST w18 ⟨k4, 0, none⟩ 0 [(.slice A329_0 n329_0 c329_0), (.int .i64 x329_1), (.slice A329_2 n329_2 c329_2), (.slice A329_3 n329_3 c329_3), (.int .i64 x329_4)] fun w19 =>
 (loadVar 3 (Addr.add a330 0)).run PP w19 = .ok (.int .i64 x331) w19 ∧
 ST w19 ⟨k5, 0, none⟩ 0 [(.int .i64 0), (.int .i64 x331), (.string ⟨#[]⟩), (.slice none 0 0), (.slice none 0 0)] fun w20 =>
 ∃ (A4r_0 : OA) (n4r_0 : Nat) (c4r_0 : Nat) (x4r_1 : Int) (A4r_2 : OA) (n4r_2 : Nat) (c4r_2 : Nat) (A4r_3 : OA) (n4r_3 : Nat) (c4r_3 : Nat) (x4r_4 : Int), RD w20 ⟨k4, 0, none⟩ 0 [(.slice A4r_0 n4r_0 c4r_0), (.int .i64 x4r_1), (.slice A4r_2 n4r_2 c4r_2), (.slice A4r_3 n4r_3 c4r_3), (.int .i64 x4r_4)] ∧
 ∃ (x5r_0 : Int) (x5r_1 : Int) (s5r_2 : ByteArray) (A5r_3 : OA) (n5r_3 : Nat) (c5r_3 : Nat) (A5r_4 : OA) (n5r_4 : Nat) (c5r_4 : Nat), RD w20 ⟨k5, 0, none⟩ 0 [(.int .i64 x5r_0), (.int .i64 x5r_1), (.string s5r_2), (.slice A5r_3 n5r_3 c5r_3), (.slice A5r_4 n5r_4 c5r_4)] ∧
 R (.tuple #[(.agg #[(.slice A4r_0 n4r_0 c4r_0), (.int .i64 x4r_1), (.slice A4r_2 n4r_2 c4r_2), (.slice A4r_3 n4r_3 c4r_3), (.int .i64 x4r_4)]), (.agg #[(.int .i64 x5r_0), (.int .i64 x5r_1), (.string s5r_2), (.slice A5r_3 n5r_3 c5r_3), (.slice A5r_4 n5r_4 c5r_4)])]) w20)))) (
 SPLIT (x174 == (10 : Int)) (
 ∃ (x336_0 : Int) (x336_1 : Int) (A336_2 : OA) (n336_2 : Nat) (c336_2 : Nat), RD w9 ⟨k13, 0, none⟩ 0 [(.int .i64 x336_0), (.int .i64 x336_1), (.slice A336_2 n336_2 c336_2)] ∧
 ∃ (x338 : Int), w9.cell? ⟨k3, 4, none⟩ = some (.int .i64 x338) ∧
 ∃ (x340 : Int), w9.cell? ⟨k3, 5, none⟩ = some (.int .i64 x340) ∧
 ∃ (x342 : Int), w9.cell? ⟨k3, 6, none⟩ = some (.int .i64 x342) ∧
 CALL PP 61 [(.agg #[(.int .i64 x336_0), (.int .i64 x336_1), (.slice A336_2 n336_2 c336_2)]), (.int .i64 x338), (.int .i64 x340), (.int .i64 x342)] w9 fun r343 w10 =>
 ∃ (x343a_0 : Int) (x343a_1 : Int) (A343a_2 : OA) (n343a_2 : Nat) (c343a_2 : Nat) (x343b_0 : Int) (x343b_1 : Int) (x343b_2 : Int) (x343c : Int), r343 = (.tuple #[(.agg #[(.int .i64 x343a_0), (.int .i64 x343a_1), (.slice A343a_2 n343a_2 c343a_2)]), (.agg #[(.int .i64 x343b_0), (.int .i64 x343b_1), (.int .i64 x343b_2)]), (.int .i64 x343c)]) ∧
 NEW w10 (.cells #[(.int .i64 0), (.int .i64 0), (.slice none 0 0)] 108) fun k27 w11 =>
 NEW w11 (.cells #[(.int .i64 0), (.int .i64 0), (.int .i64 0)] 118) fun k28 w12 =>
 ST w12 ⟨k27, 0, none⟩ 0 [(.int .i64 x343a_0), (.int .i64 x343a_1), (.slice A343a_2 n343a_2 c343a_2)] fun w13 =>
 ST w13 ⟨k28, 0, none⟩ 0 [(.int .i64 x343b_0), (.int .i64 x343b_1), (.int .i64 x343b_2)] fun w14 =>
 SPLIT (x343c != (0 : Int)) (
 ∃ (A349_0 : OA) (n349_0 : Nat) (c349_0 : Nat) (x349_1 : Int) (A349_2 : OA) (n349_2 : Nat) (c349_2 : Nat) (A349_3 : OA) (n349_3 : Nat) (c349_3 : Nat) (x349_4 : Int), RD w14 ⟨k2, 0, none⟩ 0 [(.slice A349_0 n349_0 c349_0), (.int .i64 x349_1), (.slice A349_2 n349_2 c349_2), (.slice A349_3 n349_3 c349_3), (.int .i64 x349_4)] ∧
 ST w14 ⟨k4, 0, none⟩ 0 [(.slice A349_0 n349_0 c349_0), (.int .i64 x349_1), (.slice A349_2 n349_2 c349_2), (.slice A349_3 n349_3 c349_3), (.int .i64 x349_4)] fun w15 =>
 ST w15 ⟨k5, 0, none⟩ 0 [(.int .i64 x343c), (.int .i64 0), (.string ⟨#[]⟩), (.slice none 0 0), (.slice none 0 0)] fun w16 =>
 ∃ (A4r_0 : OA) (n4r_0 : Nat) (c4r_0 : Nat) (x4r_1 : Int) (A4r_2 : OA) (n4r_2 : Nat) (c4r_2 : Nat) (A4r_3 : OA) (n4r_3 : Nat) (c4r_3 : Nat) (x4r_4 : Int), RD w16 ⟨k4, 0, none⟩ 0 [(.slice A4r_0 n4r_0 c4r_0), (.int .i64 x4r_1), (.slice A4r_2 n4r_2 c4r_2), (.slice A4r_3 n4r_3 c4r_3), (.int .i64 x4r_4)] ∧
 ∃ (x5r_0 : Int) (x5r_1 : Int) (s5r_2 : ByteArray) (A5r_3 : OA) (n5r_3 : Nat) (c5r_3 : Nat) (A5r_4 : OA) (n5r_4 : Nat) (c5r_4 : Nat), RD w16 ⟨k5, 0, none⟩ 0 [(.int .i64 x5r_0), (.int .i64 x5r_1), (.string s5r_2), (.slice A5r_3 n5r_3 c5r_3), (.slice A5r_4 n5r_4 c5r_4)] ∧
 R (.tuple #[(.agg #[(.slice A4r_0 n4r_0 c4r_0), (.int .i64 x4r_1), (.slice A4r_2 n4r_2 c4r_2), (.slice A4r_3 n4r_3 c4r_3), (.int .i64 x4r_4)]), (.agg #[(.int .i64 x5r_0), (.int .i64 x5r_1), (.string s5r_2), (.slice A5r_3 n5r_3 c5r_3), (.slice A5r_4 n5r_4 c5r_4)])]) w16) (
 DRAW w14 fun w15 =>
 ∃ (A352_0 : OA) (n352_0 : Nat) (c352_0 : Nat) (x352_1 : Int) (A352_2 : OA) (n352_2 : Nat) (c352_2 : Nat) (A352_3 : OA) (n352_3 : Nat) (c352_3 : Nat) (x352_4 : Int), RD w15 ⟨k2, 0, none⟩ 0 [(.slice A352_0 n352_0 c352_0), (.int .i64 x352_1), (.slice A352_2 n352_2 c352_2), (.slice A352_3 n352_3 c352_3), (.int .i64 x352_4)] ∧
 ∃ (x354_0 : Int) (x354_1 : Int) (A354_2 : OA) (n354_2 : Nat) (c354_2 : Nat), RD w15 ⟨k27, 0, none⟩ 0 [(.int .i64 x354_0), (.int .i64 x354_1), (.slice A354_2 n354_2 c354_2)] ∧
 ∃ (x357 : Int), w15.cell? ⟨k28, 1, none⟩ = some (.int .i64 x357) ∧
 CALL PP 57 [(.agg #[(.slice A352_0 n352_0 c352_0), (.int .i64 x352_1), (.slice A352_2 n352_2 c352_2), (.slice A352_3 n352_3 c352_3), (.int .i64 x352_4)]), (.int .i64 x163), (.agg #[(.int .i64 x354_0), (.int .i64 x354_1), (.slice A354_2 n354_2 c354_2)])] w15 fun r355 w16 =>
 ∃ (A355_0 : OA) (n355_0 : Nat) (c355_0 : Nat) (x355_1 : Int) (A355_2 : OA) (n355_2 : Nat) (c355_2 : Nat) (A355_3 : OA) (n355_3 : Nat) (c355_3 : Nat) (x355_4 : Int), r355 = (.agg #[(.slice A355_0 n355_0 c355_0), (.int .i64 x355_1), (.slice A355_2 n355_2 c355_2), (.slice A355_3 n355_3 c355_3), (.int .i64 x355_4)]) ∧
 (loadVar 3 ⟨k28, 1, none⟩).run PP w16 = .ok (.int .i64 x357) w16 ∧
 ST w16 ⟨k4, 0, none⟩ 0 [(.slice A355_0 n355_0 c355_0), (.int .i64 x355_1), (.slice A355_2 n355_2 c355_2), (.slice A355_3 n355_3 c355_3), (.int .i64 x355_4)] fun w17 =>
 (loadVar 3 ⟨k28, 1, none⟩).run PP w17 = .ok (.int .i64 x357) w17 ∧
 ST w17 ⟨k5, 0, none⟩ 0 [(.int .i64 0), (.int .i64 x357), (.string ⟨#[]⟩), (.slice none 0 0), (.slice none 0 0)] fun w18 =>
 ∃ (A4r_0 : OA) (n4r_0 : Nat) (c4r_0 : Nat) (x4r_1 : Int) (A4r_2 : OA) (n4r_2 : Nat) (c4r_2 : Nat) (A4r_3 : OA) (n4r_3 : Nat) (c4r_3 : Nat) (x4r_4 : Int), RD w18 ⟨k4, 0, none⟩ 0 [(.slice A4r_0 n4r_0 c4r_0), (.int .i64 x4r_1), (.slice A4r_2 n4r_2 c4r_2), (.slice A4r_3 n4r_3 c4r_3), (.int .i64 x4r_4)] ∧
 ∃ (x5r_0 : Int) (x5r_1 : Int) (s5r_2 : ByteArray) (A5r_3 : OA) (n5r_3 : Nat) (c5r_3 : Nat) (A5r_4 : OA) (n5r_4 : Nat) (c5r_4 : Nat), RD w18 ⟨k5, 0, none⟩ 0 [(.int .i64 x5r_0), (.int .i64 x5r_1), (.string s5r_2), (.slice A5r_3 n5r_3 c5r_3), (.slice A5r_4 n5r_4 c5r_4)] ∧
 R (.tuple #[(.agg #[(.slice A4r_0 n4r_0 c4r_0), (.int .i64 x4r_1), (.slice A4r_2 n4r_2 c4r_2), (.slice A4r_3 n4r_3 c4r_3), (.int .i64 x4r_4)]), (.agg #[(.int .i64 x5r_0), (.int .i64 x5r_1), (.string s5r_2), (.slice A5r_3 n5r_3 c5r_3), (.slice A5r_4 n5r_4 c5r_4)])]) w18)) (
 I_1 w9)))))) ∧
 ∀ (_j : Nat → Value) (w9 : World), I_1 w9 →
 ∃ (x360_0 : Int) (x360_1 : Int) (A360_2 : OA) (n360_2 : Nat) (c360_2 : Nat), RD w9 ⟨k13, 0, none⟩ 0 [(.int .i64 x360_0), (.int .i64 x360_1), (.slice A360_2 n360_2 c360_2)] ∧
 CALL PP 62 [(.agg #[(.int .i64 x360_0), (.int .i64 x360_1), (.slice A360_2 n360_2 c360_2)])] w9 fun r361 w10 =>
 ∃ (x361a_0 : Int) (x361a_1 : Int) (A361a_2 : OA) (n361a_2 : Nat) (c361a_2 : Nat) (A361b : OA) (n361b : Nat) (c361b : Nat), r361 = (.tuple #[(.agg #[(.int .i64 x361a_0), (.int .i64 x361a_1), (.slice A361a_2 n361a_2 c361a_2)]), (.slice A361b n361b c361b)]) ∧
 NEW w10 (.cells #[(.int .i64 0), (.int .i64 0), (.slice none 0 0)] 108) fun k30 w11 =>
 ST w11 ⟨k30, 0, none⟩ 0 [(.int .i64 x361a_0), (.int .i64 x361a_1), (.slice A361a_2 n361a_2 c361a_2)] fun w12 =>
 NEW w12 (.cells #[(.int .i64 0), (.int .i64 0), (.string ⟨#[]⟩), (.slice none 0 0), (.slice none 0 0)] 73) fun k32 w13 =>
 ST w13 ⟨k32, 0, none⟩ 0 [(.int .i64 0), (.int .i64 (n361b : Int)), (.string ⟨#[]⟩), (.slice none 0 0), (.slice none 0 0)] fun w14 =>
 ∃ (I_2 : Int → World → Prop) (μ : Int → World → Nat), I_2 (0 : Int) w14 ∧
 ∀ (_j : Nat → Value) (x369 : Int) (w15 : World), I_2 x369 w15 →
 SPLIT (decide (x369 < (n361b : Int))) (
 (0 ≤ x369 ∧ x369 < (n361b : Int)) ∧
 SOMEA A361b fun a371 =>
 ∃ (x372_0 : Int) (x372_1 : Int) (x372_2 : Int), RD w15 (Addr.add a371 (Int.toNat x369 * 3)) 0 [(.int .i64 x372_0), (.int .i64 x372_1), (.int .i64 x372_2)] ∧
 NEW w15 (.cells #[(.int .i64 0), (.int .i64 0), (.int .i64 0)] 118) fun k34 w16 =>
 ST w16 ⟨k34, 0, none⟩ 0 [(.int .i64 x372_0), (.int .i64 x372_1), (.int .i64 x372_2)] fun w17 =>
 ∃ (A374 : OA) (n374 : Nat) (c374 : Nat), w17.cell? ⟨k32, 4, none⟩ = some (.slice A374 n374 c374) ∧
 ∃ (s376 : ByteArray), w17.cell? ⟨k3, 1, none⟩ = some (.string s376) ∧
 ∃ (x378 : Int), w17.cell? ⟨k34, 0, none⟩ = some (.int .i64 x378) ∧
 ∃ (x380 : Int), w17.cell? ⟨k34, 1, none⟩ = some (.int .i64 x380) ∧
 NEW w17 (.cells #[(.string s376), (.int .i64 x378), (.int .i64 x380)] 131) fun k382 w18 =>
 RUN PP (Builtin.append_ #[71, 71] 71 #[(.slice A374 n374 c374), (.slice (some ⟨k382, 0, none⟩) 1 1)]) w18 fun r383 w19 =>
 ∃ (A383 : OA) (n383 : Nat) (c383 : Nat), r383 = (.slice A383 n383 c383) ∧
 ST w19 ⟨k32, 4, none⟩ 0 [(.slice A383 n383 c383)] fun w20 =>
 I_2 (IntKind.wrap .i64 (x369 + (1 : Int))) w20 ∧ μ (IntKind.wrap .i64 (x369 + (1 : Int))) w20 < μ x369 w15) (
 DRAW w15 fun w16 =>
 ∃ (A386_0 : OA) (n386_0 : Nat) (c386_0 : Nat) (x386_1 : Int) (A386_2 : OA) (n386_2 : Nat) (c386_2 : Nat) (A386_3 : OA) (n386_3 : Nat) (c386_3 : Nat) (x386_4 : Int), RD w16 ⟨k2, 0, none⟩ 0 [(.slice A386_0 n386_0 c386_0), (.int .i64 x386_1), (.slice A386_2 n386_2 c386_2), (.slice A386_3 n386_3 c386_3), (.int .i64 x386_4)] ∧
 ∃ (x388_0 : Int) (x388_1 : Int) (A388_2 : OA) (n388_2 : Nat) (c388_2 : Nat), RD w16 ⟨k30, 0, none⟩ 0 [(.int .i64 x388_0), (.int .i64 x388_1), (.slice A388_2 n388_2 c388_2)] ∧
 ∃ (x391_0 : Int) (x391_1 : Int) (s391_2 : ByteArray) (A391_3 : OA) (n391_3 : Nat) (c391_3 : Nat) (A391_4 : OA) (n391_4 : Nat) (c391_4 : Nat), RD w16 ⟨k32, 0, none⟩ 0 [(.int .i64 x391_0), (.int .i64 x391_1), (.string s391_2), (.slice A391_3 n391_3 c391_3), (.slice A391_4 n391_4 c391_4)] ∧
 CALL PP 57 [(.agg #[(.slice A386_0 n386_0 c386_0), (.int .i64 x386_1), (.slice A386_2 n386_2 c386_2), (.slice A386_3 n386_3 c386_3), (.int .i64 x386_4)]), (.int .i64 x163), (.agg #[(.int .i64 x388_0), (.int .i64 x388_1), (.slice A388_2 n388_2 c388_2)])] w16 fun r389 w17 =>
 ∃ (A389_0 : OA) (n389_0 : Nat) (c389_0 : Nat) (x389_1 : Int) (A389_2 : OA) (n389_2 : Nat) (c389_2 : Nat) (A389_3 : OA) (n389_3 : Nat) (c389_3 : Nat) (x389_4 : Int), r389 = (.agg #[(.slice A389_0 n389_0 c389_0), (.int .i64 x389_1), (.slice A389_2 n389_2 c389_2), (.slice A389_3 n389_3 c389_3), (.int .i64 x389_4)]) ∧
 (loadVar 73 ⟨k32, 0, none⟩).run PP w17 = .ok (.agg #[(.int .i64 x391_0), (.int .i64 x391_1), (.string s391_2), (.slice A391_3 n391_3 c391_3), (.slice A391_4 n391_4 c391_4)]) w17 ∧
 CALL PP 51 [(.agg #[(.slice A389_0 n389_0 c389_0), (.int .i64 x389_1), (.slice A389_2 n389_2 c389_2), (.slice A389_3 n389_3 c389_3), (.int .i64 x389_4)])] w17 fun r390 w18 =>
 ∃ (A390_0 : OA) (n390_0 : Nat) (c390_0 : Nat) (x390_1 : Int) (A390_2 : OA) (n390_2 : Nat) (c390_2 : Nat) (A390_3 : OA) (n390_3 : Nat) (c390_3 : Nat) (x390_4 : Int), r390 = (.agg #[(.slice A390_0 n390_0 c390_0), (.int .i64 x390_1), (.slice A390_2 n390_2 c390_2), (.slice A390_3 n390_3 c390_3), (.int .i64 x390_4)]) ∧
 (loadVar 73 ⟨k32, 0, none⟩).run PP w18 = .ok (.agg #[(.int .i64 x391_0), (.int .i64 x391_1), (.string s391_2), (.slice A391_3 n391_3 c391_3), (.slice A391_4 n391_4 c391_4)]) w18 ∧
 ST w18 ⟨k4, 0, none⟩ 0 [(.slice A390_0 n390_0 c390_0), (.int .i64 x390_1), (.slice A390_2 n390_2 c390_2), (.slice A390_3 n390_3 c390_3), (.int .i64 x390_4)] fun w19 =>
 (loadVar 73 ⟨k32, 0, none⟩).run PP w19 = .ok (.agg #[(.int .i64 x391_0), (.int .i64 x391_1), (.string s391_2), (.slice A391_3 n391_3 c391_3), (.slice A391_4 n391_4 c391_4)]) w19 ∧
 ST w19 ⟨k5, 0, none⟩ 0 [(.int .i64 x391_0), (.int .i64 x391_1), (.string s391_2), (.slice A391_3 n391_3 c391_3), (.slice A391_4 n391_4 c391_4)] fun w20 =>
 ∃ (A4r_0 : OA) (n4r_0 : Nat) (c4r_0 : Nat) (x4r_1 : Int) (A4r_2 : OA) (n4r_2 : Nat) (c4r_2 : Nat) (A4r_3 : OA) (n4r_3 : Nat) (c4r_3 : Nat) (x4r_4 : Int), RD w20 ⟨k4, 0, none⟩ 0 [(.slice A4r_0 n4r_0 c4r_0), (.int .i64 x4r_1), (.slice A4r_2 n4r_2 c4r_2), (.slice A4r_3 n4r_3 c4r_3), (.int .i64 x4r_4)] ∧
 ∃ (x5r_0 : Int) (x5r_1 : Int) (s5r_2 : ByteArray) (A5r_3 : OA) (n5r_3 : Nat) (c5r_3 : Nat) (A5r_4 : OA) (n5r_4 : Nat) (c5r_4 : Nat), RD w20 ⟨k5, 0, none⟩ 0 [(.int .i64 x5r_0), (.int .i64 x5r_1), (.string s5r_2), (.slice A5r_3 n5r_3 c5r_3), (.slice A5r_4 n5r_4 c5r_4)] ∧
 R (.tuple #[(.agg #[(.slice A4r_0 n4r_0 c4r_0), (.int .i64 x4r_1), (.slice A4r_2 n4r_2 c4r_2), (.slice A4r_3 n4r_3 c4r_3), (.int .i64 x4r_4)]), (.agg #[(.int .i64 x5r_0), (.int .i64 x5r_1), (.string s5r_2), (.slice A5r_3 n5r_3 c5r_3), (.slice A5r_4 n5r_4 c5r_4)])]) w20))))))))
noncomputable def A26 : Ann := (.two .leaf (.two .leaf (.two .leaf (.two (.two .leaf (.one (.two .leaf (.two (.two .leaf (.cut 1152358554653425664 [] .leaf .leaf)) (.two .leaf (.two (.two .leaf (.two .leaf (.cut 158455116102709060557913194496 [] .leaf .leaf))) (.two .leaf (.two .leaf (.two .leaf (.two (.two .leaf (.two (.two .leaf (.one (.loop 348364073135310751970629754358272706480128 [(126, .int .i64)] .leaf))) .leaf)) .leaf)))))))))) (.cut 1460074389638196958322626546746833524519549796352 [] (.cut 363948161640019769669862922209621259777600389120 [(157, .bool)] .leaf .leaf) (.two .leaf (.two .leaf (.two .leaf (.cut 1174271291386916613944740298394668513687841274454159935341672864353089755851379635582237708695362953197633536 [] (.two .leaf (.one (.two .leaf (.two .leaf (.two .leaf (.two (.two .leaf (.two .leaf (.two .leaf (.two .leaf (.cut 27600245400495467489790356695336346902136026602575911077529820992634880 [] .leaf .leaf))))) (.two .leaf (.two .leaf (.cut 207499423913270622199039205135568730873059812520827890758707990542180328314765312 [(264, .bool)] .leaf (.two (.two .leaf (.two .leaf (.two .leaf (.two .leaf (.cut 4073823291050767279215813685694682911682886559256473827413560666720316019778167145796468736 [(24, .ptr), (25, .ptr), (26, .int .i64)] .leaf (.two .leaf (.two .leaf (.cut 1093623276466666195672498774670425751473347798742971104294164651797156360713237003954969456712613888 [] .leaf .leaf)))))))) .leaf)))))))))) (.two .leaf (.two .leaf (.two (.two .leaf (.one (.loop 157606822331775536646503480986508899079760940732396745612019371484005462594967983766134011605652489561650576790388736 [(369, .int .i64)] .leaf))) .leaf))))))))))))
noncomputable def C26 : Code := (Tryz.f26.body).getD .skip
theorem c26 {A0_0 : OA} {n0_0 : Nat} {c0_0 : Nat} {x0_1 : Int} {A0_2 : OA} {n0_2 : Nat} {c0_2 : Nat} {A0_3 : OA} {n0_3 : Nat} {c0_3 : Nat} {x0_4 : Int} {x1_0 : Int} {s1_1 : ByteArray} {s1_2 : ByteArray} {s1_3 : ByteArray} {x1_4 : Int} {x1_5 : Int} {x1_6 : Int} {A1_7 : OA} {n1_7 : Nat} {c1_7 : Nat} {w : World} {R : Value → World → Prop} (h : S26 A0_0 n0_0 c0_0 x0_1 A0_2 n0_2 c0_2 A0_3 n0_3 c0_3 x0_4 x1_0 s1_1 s1_2 s1_3 x1_4 x1_5 x1_6 A1_7 n1_7 c1_7 w R) : Calls PP 26 #[(.agg #[(.slice A0_0 n0_0 c0_0), (.int .i64 x0_1), (.slice A0_2 n0_2 c0_2), (.slice A0_3 n0_3 c0_3), (.int .i64 x0_4)]), (.agg #[(.int .i64 x1_0), (.string s1_1), (.string s1_2), (.string s1_3), (.int .i64 x1_4), (.int .i64 x1_5), (.int .i64 x1_6), (.slice A1_7 n1_7 c1_7)])] w (Ret R) :=
 vcF_sound (c := C26) (ann := A26) follows_ Tryz.func26 (by kernel_rfl) (cast (by kernel_rfl) h)

end Go.SW
