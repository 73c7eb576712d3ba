/- The same lists; packed names and mailboxes, the program's and the document's. -/
import Derived.Test.YtfhiffnfngpkeaaGreatDoorWire
import Derived.Test.YtfhiffnfngpkeaaGreatDoorRef26
import Derived.Test.YtfhiffnfngpkeaaGreatDoorLawStep
import Derived.Test.YtfhiffnfngpkeaaGreatDoorSOut
set_option linter.unusedVariables false
namespace Go.SW
open Go Go.Proofs Pl

theorem same_str {A B : Option Addr} {n c m d : Nat} {w : World} {F G : Nat → Prop} {xs : List Str} (h : Sl Lst w F A n c xs) (g : Sl Lst w G B m d xs) (hn : n < 1000000000) :
    Calls PP 63 #[.slice A n c, .slice B m d] w (Ret fun r w' => r = .bool true ∧ Keep No w w') := by
  refine c63 ?_
  unfold S63
  have e1 := h.len
  have e2 := g.len
  have : m = n := by omega
  subst this
  refine split_i (fun hc => by simp at hc) (fun _ => ?_)
  refine ⟨fun x w1 => ∃ i : Nat, x = i ∧ i ≤ m ∧ Keep No w w1, fun x _ => ((m : Int) - x).toNat, ⟨0, rfl, Nat.zero_le _, Keep.refl _ _⟩, ?_⟩
  rintro _ x w1 ⟨i, rfl, hi, q1⟩
  refine split_dec (fun hlt => ?_) (fun hge => ⟨rfl, q1⟩)
  have hlt' : i < m := by omega
  refine DRAW.i fun w2 hw2 q2 => ⟨⟨by omega, hlt⟩, ?_⟩
  obtain ⟨a, s, hA, hs, hr⟩ := ((h.no q1).no q2).stx hlt'
  obtain ⟨a', s', hA', hs', hr'⟩ := ((g.no q1).no q2).stx hlt'
  rw [hs] at hs'
  cases hs'
  refine SOMEA.i hA ⟨_, by rw [Int.toNat_natCast]; exact hr, ⟨by omega, hlt⟩, SOMEA.i hA' ⟨_, by rw [Int.toNat_natCast]; exact hr', ?_⟩⟩
  refine split_i (fun hc => by simp at hc) (fun _ => ⟨⟨i + 1, wrapS (by omega), hlt', q1.trans q2⟩, mu_go (wrapS (by omega)) hlt'⟩)
theorem same_int {A B : Option Addr} {n c m d : Nat} {w : World} {F G : Nat → Prop} {xs : List Int} (h : Sl Ly.int w F A n c xs) (g : Sl Ly.int w G B m d xs) (hn : n < 1000000000) :
    Calls PP 66 #[.slice A n c, .slice B m d] w (Ret fun r w' => r = .bool true ∧ Keep No w w') := by
  refine c66 ?_
  unfold S66
  have e1 := h.len
  have e2 := g.len
  have : m = n := by omega
  subst this
  refine split_i (fun hc => by simp at hc) (fun _ => ?_)
  refine ⟨fun x w1 => ∃ i : Nat, x = i ∧ i ≤ m ∧ Keep No w w1, fun x _ => ((m : Int) - x).toNat, ⟨0, rfl, Nat.zero_le _, Keep.refl _ _⟩, ?_⟩
  rintro _ x w1 ⟨i, rfl, hi, q1⟩
  refine split_dec (fun hlt => ?_) (fun hge => ⟨rfl, q1⟩)
  have hlt' : i < m := by omega
  refine DRAW.i fun w2 hw2 q2 => ⟨⟨by omega, hlt⟩, ?_⟩
  obtain ⟨a, s, hA, hs, hr⟩ := ((h.no q1).no q2).int hlt'
  obtain ⟨a', s', hA', hs', hr'⟩ := ((g.no q1).no q2).int hlt'
  rw [hs] at hs'
  cases hs'
  refine SOMEA.i hA ⟨_, by rw [Int.toNat_natCast]; exact hr, ⟨by omega, hlt⟩, SOMEA.i hA' ⟨_, by rw [Int.toNat_natCast]; exact hr', ?_⟩⟩
  refine split_i (fun hc => by simp at hc) (fun _ => ⟨⟨i + 1, wrapS (by omega), hlt', q1.trans q2⟩, mu_go (wrapS (by omega)) hlt'⟩)
theorem T118e : ∃ fs, StructTy PP 118 fs ∧ ∀ a b : Ety, eqF PP fs (ecells a) (ecells b) = some ((a.uid == b.uid) && ((a.flags == b.flags) && ((a.mail == b.mail) && true))) :=
  ⟨(PP.fieldsOf 118).toList, ⟨by kernel_rfl, rfl, by kernel_rfl, by kernel_rfl⟩, fun a b => by kernel_rfl⟩
theorem same_ent {A B : Option Addr} {n c m d : Nat} {w : World} {F G : Nat → Prop} {xs : List Ety} (h : Sl Lent w F A n c xs) (g : Sl Lent w G B m d xs) (hn : n < 1000000000) :
    Calls PP 103 #[.slice A n c, .slice B m d] w (Ret fun r w' => r = .bool true ∧ Keep No w w') := by
  refine c103 ?_
  unfold S103
  have e1 := h.len
  have e2 := g.len
  have : m = n := by omega
  subst this
  refine split_i (fun hc => by simp at hc) (fun _ => ?_)
  refine ⟨fun x w1 => ∃ i : Nat, x = i ∧ i ≤ m ∧ Keep No w w1, fun x _ => ((m : Int) - x).toNat, ⟨0, rfl, Nat.zero_le _, Keep.refl _ _⟩, ?_⟩
  rintro _ x w1 ⟨i, rfl, hi, q1⟩
  refine split_dec (fun hlt => ?_) (fun hge => ⟨rfl, q1⟩)
  have hlt' : i < m := by omega
  refine DRAW.i fun w2 hw2 q2 => ⟨⟨by omega, hlt⟩, ?_⟩
  obtain ⟨a, s, hA, hs, hr⟩ := ((h.no q1).no q2).ent hlt'
  obtain ⟨a', s', hA', hs', hr'⟩ := ((g.no q1).no q2).ent hlt'
  rw [hs] at hs'
  cases hs'
  refine SOMEA.i hA ⟨_, _, _, by rw [Int.toNat_natCast]; exact hr, ⟨by omega, hlt⟩, SOMEA.i hA' ⟨_, _, _, by rw [Int.toNat_natCast]; exact hr', ?_⟩⟩
  obtain ⟨fs, T, heq⟩ := T118e
  refine ⟨_, run_struct_neq T (heq s s) w2 _ _, ?_⟩
  rw [ety_beq]
  refine split_i (fun hc => by simp at hc) (fun _ => ⟨⟨i + 1, wrapS (by omega), hlt', q1.trans q2⟩, mu_go (wrapS (by omega)) hlt'⟩)

/-! ## packed -/
def nmB (p : Str × Int) : Str := fx p.1 32 ++ be8 p.2
def packN (N : Nm) : Str := be8 N.next ++ be8 N.l.length ++ N.l.flatMap nmB
def enB (e : Ety) : Str := be8 e.uid ++ be8 e.flags ++ be8 e.mail
def packB (x : Bx) : Str := be8 x.validity ++ be8 x.next ++ be8 x.l.length ++ x.l.flatMap enB
theorem nmB_len : ∀ l : List (Str × Int), (l.flatMap nmB).length = 40 * l.length
  | [] => rfl
  | p :: l => by
    rw [List.flatMap_cons, List.length_append, nmB_len l, List.length_cons]
    simp only [nmB, List.length_append, fx_len, be8_len]
    omega
theorem enB_len : ∀ l : List Ety, (l.flatMap enB).length = 24 * l.length
  | [] => rfl
  | p :: l => by
    rw [List.flatMap_cons, List.length_append, enB_len l, List.length_cons]
    simp only [enB, List.length_append, be8_len]
    omega
/-- a literal of numbers, laid just now -/
theorem lit_int {w : World} {k n : Nat} {xs : List Int} (h : At w k (.cells ⟨xs.map fun x => .int .i64 x⟩ 3 (0, 0))) (hn : xs.length = n) : Sl Ly.int w (fun j => j = k) (some ⟨k, 0, none⟩) n n xs := by
  refine ⟨hn, Nat.le_refl _, .inr ⟨k, 0, _, _, _, rfl, rfl, h, ?_, ?_⟩⟩
  · show 0 + n * 1 ≤ _
    simp [hn]
  · intro j x hx
    have hj := (List.getElem?_eq_some_iff.1 hx).1
    refine ⟨[.int .i64 x], ?_, rfl⟩
    show ((xs.map fun x => (Value.int .i64 x)).drop (0 + j * 1)).take 1 = _
    rw [Nat.zero_add, Nat.mul_one, List.drop_eq_getElem_cons (by simpa using hj)]
    simp [(List.getElem?_eq_some_iff.1 hx).2]

theorem ref_pack17 {A : Option Addr} {n c : Nat} {w : World} {F : Nat → Prop} {N : Nm} (hs : Sl Lnm w F A n c N.l) (hn : n < 1000) (hx : N.next < 1000000000) (hl : ∀ p ∈ N.l, p.1.length < 100000 ∧ p.2 < 1000000000) :
    Calls PP 102 #[.agg #[.slice A n c, .int .i64 N.next]] w (Ret fun r w' => r = .string (bs (packN N)) ∧ Keep No w w') := by
  refine c102 ?_
  unfold S102
  have hlen := hs.len
  have hmax : IntKind.max .i64 = 9223372036854775807 := rfl
  rw [hmax]
  refine NEW.i fun k1 w1 hk1 hs1 q1 a1 => DRAW.i fun w2 hw2 q2 => ?_
  have b2 := a1.no q2
  refine ⟨_, cell_at b2 rfl, _, _, _, cell_at b2 rfl, CALL.i (ref_num N.next w2 (by omega)) (by kernel_rfl) ?_⟩
  rintro r w3 ⟨rfl, q3⟩
  refine ⟨_, rfl, loadVar_cell (by kernel_rfl) (cell_at (b2.no q3) rfl), CALL.i (ref_num n w3 (by omega)) (by kernel_rfl) ?_⟩
  rintro r w4 ⟨rfl, q4⟩
  have z4 := ((q1.trans q2).trans q3).trans q4
  have b4 := (b2.no q3).no q4
  refine ⟨_, rfl, ?_⟩
  rw [bs_append]
  refine ⟨by rw [bs_size, bs_size, be8_len, be8_len]; omega, _, _, _, cell_at b4 rfl, ?_⟩
  refine ⟨fun s x w5 => ∃ i : Nat, x = i ∧ i ≤ n ∧ Keep No w w5 ∧ s = bs (be8 N.next ++ be8 N.l.length ++ (N.l.take i).flatMap nmB), fun _ x _ => ((n : Int) - x).toNat, ⟨0, rfl, Nat.zero_le _, z4, by rw [hlen]; simp⟩, ?_⟩
  rintro _ s x w5 ⟨i, rfl, hi, q5, rfl⟩
  refine split_dec (fun hlt => ?_) (fun hge => ?_)
  · have hlt' : i < n := by omega
    refine ⟨⟨by omega, hlt⟩, ?_⟩
    obtain ⟨a, p, hA, hp, hr⟩ := (hs.no q5).nm hlt'
    have hpl := hl p (List.mem_of_getElem? hp)
    refine SOMEA.i hA ⟨_, _, by rw [Int.toNat_natCast]; exact hr, NEW.i fun k5 w6 hk5 hs6 q6 a6 => ST.i a6 (by simp) rfl fun w7 hs7 q7 a7 => DRAW.i fun w8 hw8 q8 => ?_⟩
    have c8 := a7.no q8
    have z8 : Keep No w w8 := ((q5.trans q6).tmp q7 (by have := q5.size; omega)).trans q8
    refine ⟨_, cell_at c8 rfl, _, cell_at c8 rfl, CALL.i (ref_fixed p.1 hpl.1 w8) (by kernel_rfl) ?_⟩
    rintro r w9 ⟨rfl, rfl⟩
    refine ⟨_, rfl, loadVar_cell (by kernel_rfl) (cell_at c8 rfl), CALL.i (ref_num p.2 w9 (by omega)) (by kernel_rfl) ?_⟩
    rintro r w10 ⟨rfl, q10⟩
    have hfl := nmB_len (N.l.take i)
    rw [List.length_take] at hfl
    refine ⟨_, rfl, ?_⟩
    rw [bs_append, bs_append]
    refine ⟨by rw [bs_size, bs_size, fx_len, be8_len]; omega, ?_, ⟨i + 1, wrapS (by omega), hlt', z8.trans q10, ?_⟩, mu_go (wrapS (by omega)) hlt'⟩
    · rw [bs_size, bs_size]
      simp only [List.length_append, be8_len, fx_len, hfl]
      omega
    · rw [take_succ_some hp, List.flatMap_append]
      simp [nmB]
  · have hie : i = N.l.length := by omega
    rw [hie, List.take_length]
    exact ⟨rfl, q5⟩

theorem ref_pack18 {A : Option Addr} {n c : Nat} {w : World} {F : Nat → Prop} {x : Bx} (hs : Sl Lent w F A n c x.l) (hn : n < 1000) (hv : x.validity < 1000000000 ∧ x.next < 1000000000) (hl : ∀ e ∈ x.l, e.uid < 1000000000 ∧ e.flags < 1000000000 ∧ e.mail < 1000000000) :
    Calls PP 108 #[.agg #[.int .i64 x.validity, .int .i64 x.next, .slice A n c]] w (Ret fun r w' => r = .string (bs (packB x)) ∧ Keep No w w') := by
  refine c108 ?_
  unfold S108
  have hlen := hs.len
  have hmax : IntKind.max .i64 = 9223372036854775807 := rfl
  rw [hmax]
  refine NEW.i fun k1 w1 hk1 hs1 q1 a1 => DRAW.i fun w2 hw2 q2 => ?_
  have b2 := a1.no q2
  refine ⟨_, cell_at b2 rfl, _, cell_at b2 rfl, _, _, _, cell_at b2 rfl, CALL.i (ref_num x.validity w2 (by omega)) (by kernel_rfl) ?_⟩
  rintro r w3 ⟨rfl, q3⟩
  have b3 := b2.no q3
  refine ⟨_, rfl, loadVar_cell (by kernel_rfl) (cell_at b3 rfl), loadVar_cell (by kernel_rfl) (cell_at b3 rfl), CALL.i (ref_num x.next w3 (by omega)) (by kernel_rfl) ?_⟩
  rintro r w4 ⟨rfl, q4⟩
  have b4 := b3.no q4
  refine ⟨_, rfl, loadVar_cell (by kernel_rfl) (cell_at b4 rfl), ?_⟩
  rw [bs_append]
  refine ⟨by rw [bs_size, bs_size, be8_len, be8_len]; omega, CALL.i (ref_num n w4 (by omega)) (by kernel_rfl) ?_⟩
  rintro r w5 ⟨rfl, q5⟩
  have z5 := (((q1.trans q2).trans q3).trans q4).trans q5
  have b5 := b4.no q5
  refine ⟨_, rfl, ?_⟩
  rw [bs_append]
  refine ⟨by rw [bs_size, bs_size]; simp only [List.length_append, be8_len]; omega, _, _, _, cell_at b5 rfl, ?_⟩
  refine ⟨fun s y w6 => ∃ i : Nat, y = i ∧ i ≤ n ∧ Keep No w w6 ∧ s = bs (be8 x.validity ++ be8 x.next ++ be8 x.l.length ++ (x.l.take i).flatMap enB), fun _ y _ => ((n : Int) - y).toNat, ⟨0, rfl, Nat.zero_le _, z5, by rw [hlen]; simp⟩, ?_⟩
  rintro _ s y w6 ⟨i, rfl, hi, q6, rfl⟩
  refine split_dec (fun hlt => ?_) (fun hge => ?_)
  · have hlt' : i < n := by omega
    refine ⟨⟨by omega, hlt⟩, ?_⟩
    obtain ⟨a, e, hA, he, hr⟩ := (hs.no q6).ent hlt'
    have hel := hl e (List.mem_of_getElem? he)
    refine SOMEA.i hA ⟨_, _, _, by rw [Int.toNat_natCast]; exact hr, NEW.i fun k5 w7 hk5 hs7 q7 a7 => ST.i a7 (by simp) rfl fun w8 hs8 q8 a8 => DRAW.i fun w9 hw9 q9 => ?_⟩
    have c9 := a8.no q9
    have z9 : Keep No w w9 := ((q6.trans q7).tmp q8 (by have := q6.size; omega)).trans q9
    refine ⟨_, cell_at c9 rfl, _, cell_at c9 rfl, _, cell_at c9 rfl, CALL.i (ref_num e.uid w9 (by omega)) (by kernel_rfl) ?_⟩
    rintro r w10 ⟨rfl, q10⟩
    have c10 := c9.no q10
    refine ⟨_, rfl, loadVar_cell (by kernel_rfl) (cell_at c10 rfl), loadVar_cell (by kernel_rfl) (cell_at c10 rfl), CALL.i (ref_num e.flags w10 (by omega)) (by kernel_rfl) ?_⟩
    rintro r w11 ⟨rfl, q11⟩
    have c11 := c10.no q11
    refine ⟨_, rfl, loadVar_cell (by kernel_rfl) (cell_at c11 rfl), ?_⟩
    rw [bs_append]
    refine ⟨by rw [bs_size, bs_size, be8_len, be8_len]; omega, CALL.i (ref_num e.mail w11 (by omega)) (by kernel_rfl) ?_⟩
    rintro r w12 ⟨rfl, q12⟩
    have hfl := enB_len (x.l.take i)
    rw [List.length_take] at hfl
    refine ⟨_, rfl, ?_⟩
    rw [bs_append, bs_append]
    refine ⟨by rw [bs_size, bs_size]; simp only [List.length_append, be8_len]; omega, ?_, ⟨i + 1, wrapS (by omega), hlt', ((z9.trans q10).trans q11).trans q12, ?_⟩, mu_go (wrapS (by omega)) hlt'⟩
    · rw [bs_size, bs_size]
      simp only [List.length_append, be8_len, hfl]
      omega
    · rw [take_succ_some he, List.flatMap_append]
      simp [enB]
  · have hie : i = x.l.length := by omega
    rw [hie, List.take_length]
    exact ⟨rfl, q6⟩

theorem box_pack {w : World} {k : Nat} {F : Nat → Prop} {x : Bx} (h : IsBox w k F x) (hF : ∀ j, F j → j < w.heap.size) (hn : x.l.length < 1000) :
    Calls PP 107 #[.pointer (some ⟨k, 0, none⟩)] w (Ret fun r w' => r = .string (bs (packB x)) ∧ Keep No w w') := by
  refine c107 ?_
  unfold S107
  refine NEW.i fun k3 w1 hk3 hs1 q1 a1 => DRAW.i fun w2 hw2 q2 => ?_
  have g2 : Bu w w2 k3 (fun j => j = k3) [] := (Bu.new q1 a1 (by omega)).no q2
  have kF : F k := by obtain ⟨A, n, c, _, h2, _⟩ := h; exact h2
  have hs2 : w2.heap.size = w1.heap.size := by rw [hw2]
  obtain ⟨A, n, c, e1, e2, e3, e4⟩ := ((h.no q1).no q2).sl
  refine ⟨_, cell_at e1 rfl, _, cell_at e1 rfl, _, _, _, cell_at e1 rfl, NEW.i fun k19 w3 hk19 hs3 q3 a3 => ?_⟩
  have a3' : At w3 k19 (.cells ⟨[x.validity, x.next, (n : Int)].map fun x => .int .i64 x⟩ 3 (0, 0)) := a3
  refine CALL.i (out_num (g2.no q3) (lit_int a3' rfl) (fun j hj => by rw [hj]; exact ⟨by omega, fun hc => by have : k19 = k3 := hc; omega⟩) (by simp)) (by kernel_rfl) ?_
  rintro r w4 ⟨rfl, S4, y4, q4, g4⟩
  have nS : ∀ j, F j → ¬ j = k3 := fun j hj he => by have := hF j hj; omega
  have q24 : Keep (fun j => j = k3) w2 w4 := q3.no.trans q4
  obtain ⟨A', n', c', f1, f2, f3, f4⟩ := ((((h.no q1).no q2).no q3).kept q4 (fun j hj hs => nS j hj hs)).sl
  have hl2 := f2.len
  refine ⟨_, rfl, _, _, _, cell_at f1 rfl, ?_⟩
  have hnn : n = x.l.length := e4
  refine ⟨fun y w5 => ∃ (i : Nat) (S5 : Nat → Prop), y = i ∧ i ≤ n' ∧ Grow S4 w4 S5 ∧ Keep S4 w4 w5 ∧ Bu w w5 k3 S5 (be8 x.validity ++ be8 x.next ++ be8 x.l.length ++ (x.l.take i).flatMap enB), fun y _ => ((n' : Int) - y).toNat, ⟨0, S4, rfl, Nat.zero_le _, Grow.refl _ _, Keep.refl _ _, by rw [hnn] at g4; simpa using g4⟩, ?_⟩
  rintro _ y w5 ⟨i, S5, rfl, hi, y5, q5, g5⟩
  have nS4 : ∀ j, F j → ¬ S4 j := fun j hj hc => by have := (g4.rng j hc).1; have := hF j hj; omega
  refine split_dec (fun hlt => ?_) (fun hge => ?_)
  · have hlt' : i < n' := by omega
    refine ⟨⟨by omega, hlt⟩, ?_⟩
    obtain ⟨a, e, hA, he, hr⟩ := (f2.kept q5 (fun j hj _ hc => nS4 j hj hc)).ent hlt'
    refine SOMEA.i hA ⟨_, _, _, by rw [Int.toNat_natCast]; exact hr, NEW.i fun k5 w6 hk5 hs6 q6 a6 => ST.i a6 (by simp) rfl fun w7 hs7 q7 a7 => ⟨_, cell_at a7 rfl, _, cell_at a7 rfl, _, cell_at a7 rfl, NEW.i fun k36 w8 hk36 hs8 q8 a8 => ?_⟩⟩
    have r5 : ∀ j, S5 j → j < w5.heap.size := fun j hj => (g5.rng j hj).2
    have hw5 := g5.keep.size
    have g8 := ((g5.no q6).oth q7 (fun j hj => by rw [hj]; exact ⟨by omega, fun hc => by have := r5 _ hc; omega⟩)).no q8
    have a8' : At w8 k36 (.cells ⟨[e.uid, e.flags, e.mail].map fun x => .int .i64 x⟩ 3 (0, 0)) := a8
    have hfl := enB_len (x.l.take i)
    rw [List.length_take] at hfl
    refine CALL.i (out_num g8 (lit_int a8' rfl) (fun j hj => by rw [hj]; exact ⟨by omega, fun hc => by have := r5 _ hc; omega⟩) (by simp only [List.length_append, be8_len, hfl]; omega)) (by kernel_rfl) ?_
    rintro r w9 ⟨rfl, S9, y9, q9, g9⟩
    refine ⟨_, rfl, ⟨i + 1, S9, wrapS (by omega), hlt', ?_, ?_, ?_⟩, mu_go (wrapS (by omega)) hlt'⟩
    · exact y5.trans ⟨y9.1, fun j hj => (y9.2 j hj).imp id (fun h' => by omega)⟩ q5.size
    · exact (((q5.and_no q6).tmp q7 (by have := q5.size; omega)).and_no q8).trans' q9 (fun j hj hc => (y5.2 j hc).resolve_right (Nat.not_le.2 hj))
    · rw [take_succ_some he, List.flatMap_append]
      simpa [enB, List.append_assoc] using g9
  · have hie : i = x.l.length := by omega
    rw [hie, List.take_length] at g5
    refine CALL.i (R := fun r w' => r = .string (bs (packB x)) ∧ Keep S5 w5 w') ?_ (by kernel_rfl) ?_
    · refine c138 ?_
      unfold S138
      have hfl := enB_len x.l
      refine CALL.i (out_string g5 (by simp [be8]) (by simp only [List.length_append, be8_len, hfl]; omega)) (by kernel_rfl) ?_
      rintro r w6 ⟨rfl, q6⟩
      exact ⟨_, rfl, rfl, q6⟩
    · rintro r w6 ⟨rfl, q6⟩
      exact ⟨_, rfl, rfl, g5.keep.fresh q6 (fun j hj => (g5.rng j hj).1)⟩
end Go.SW
