/- The laws' own helpers: Cut, Few, Own, awake; the store as a law holds it. -/
import Derived.Test.YtfhiffnfngpkeaaGreatDoorInv
import Derived.Test.YtfhiffnfngpkeaaGreatDoorSLaw
set_option linter.unusedVariables false
namespace Go.SW
open Go Go.Proofs Pl

theorem bs_ext {a b : ByteArray} (h : a.toList = b.toList) : a = b := by
  rw [ByteArray.toList_eq, ByteArray.toList_eq] at h
  exact ByteArray.ext (Array.toList_inj.1 h)
theorem bs_take (l : Str) (n : Nat) : ByteArray.extract (bs l) 0 n = bs (l.take n) := by
  apply bs_ext
  rw [bs_extract, bs_toList]
  simp
theorem law_cut (s : Str) (n : Nat) (w : World) : Calls PP 21 #[.string (bs s), .int .i64 (n : Int)] w (Ret fun r w' => r = .string (bs (s.take n)) ∧ w' = w) := by
  refine c21 ?_
  unfold S21
  rw [bs_size]
  refine split_dec (fun h => ⟨⟨by omega, by omega⟩, ?_, rfl⟩) (fun h => ⟨?_, rfl⟩)
  · rw [Int.toNat_natCast, bs_take]
  · rw [List.take_of_length_le (by omega)]

def few (xs : List Str) : List Str := (xs.take 10).map fun s => s.take 20
theorem law_few {A : Option Addr} {n c : Nat} {w : World} {F : Nat → Prop} {xs : List Str} (hs : Sl Lst w F A n c xs) :
    Calls PP 31 #[.slice A n c, .int .i64 10, .int .i64 20] w (Ret fun r w' => ∃ A' c', r = .slice A' (few xs).length c' ∧ Keep No w w' ∧ Own Lst 9 w' No A' (few xs).length c' (few xs) ∧ ∀ j, ownBlk A' j → w.heap.size ≤ j) := by
  refine c31 ?_
  unfold S31
  have hlen := hs.len
  have hfl : (few xs).length = min 10 n := by simp [few, hlen]
  refine ⟨fun A7 n7 c7 x w1 => ∃ i : Nat, x = i ∧ i ≤ n ∧ i ≤ 10 ∧ n7 = i ∧ Keep No w w1 ∧ Own Lst 9 w1 No A7 i c7 ((xs.take i).map fun s => s.take 20) ∧ ∀ j, ownBlk A7 j → w.heap.size ≤ j,
    fun _ _ _ x _ => (((10 : Nat) : Int) - x).toNat, ⟨0, rfl, Nat.zero_le _, by omega, rfl, Keep.refl _ _, Own.nil _ _ _ _, fun j h => False.elim h⟩, ?_⟩
  rintro _ A7 n7 c7 x w1 ⟨i, rfl, hi, hi10, hn7, hk, ho, hf⟩
  subst n7
  refine ⟨fun w2 => w2 = w1 ∧ i < n ∧ i < 10, ?_, ?_⟩
  · have fin : i = min 10 n → ∃ A' c', (Value.slice A7 i c7) = .slice A' (few xs).length c' ∧ Keep No w w1 ∧ Own Lst 9 w1 No A' (few xs).length c' (few xs) ∧ ∀ j, ownBlk A' j → w.heap.size ≤ j := by
      intro hie
      refine ⟨A7, c7, by rw [hfl, ← hie], hk, ?_, hf⟩
      have : few xs = (xs.take i).map fun s => s.take 20 := by
        unfold few
        congr 1
        rw [List.take_eq_take_iff]
        omega
      rw [hfl, ← hie, this]
      exact ho
    refine split_dec (fun h1 => split_dec (fun h2 => ⟨rfl, by omega, by omega⟩) (fun h2 => fin (by omega))) (fun h1 => fin (by omega))
  · rintro _ w2 ⟨rfl, h1, h2⟩
    refine ⟨⟨by omega, by omega⟩, ?_⟩
    obtain ⟨a, s, hA, hx, hr⟩ := (hs.no hk).stx h1
    refine SOMEA.i hA ⟨_, by rw [Int.toNat_natCast]; exact hr, ?_⟩
    refine CALL.i (law_cut s 20 w2) (by kernel_rfl) ?_
    rintro r w3 ⟨rfl, rfl⟩
    refine ⟨_, rfl, ?_⟩
    refine NEW.i fun b w4 hb hs4 k4 a4 => ?_
    refine append_one T9 (ho.no k4) a4 (x := s.take 20) rfl (by omega) ?_ (fun k hk => False.elim hk)
    intro A' c' w5 k5 hb5 hs5 o5
    refine ⟨_, _, _, rfl, ⟨i + 1, wrapS (by omega), h1, h2, rfl, (hk.trans k4).fresh k5 hf, ?_, own_fresh hb5 hf (hk.trans k4).size⟩, ?_⟩
    · rw [take_succ_some hx, List.map_append]
      exact o5
    · exact mu_go (wrapS (by omega)) h2

/-- an op, cut -/
def cutOp (o : Pl.Op) : Pl.Op := { o with box := o.box.take 40, to := o.to.take 40, text := if o.text.length ≤ 4096 then o.text.take 700 else o.text.take 4097, words := few o.words }
theorem few_len (xs : List Str) : ∀ x ∈ few xs, x.length ≤ 20 := by
  intro x hx
  obtain ⟨s, hs, rfl⟩ := List.mem_map.1 hx
  simp
  omega
theorem cutOp_at {w : World} {o : Pl.Op} {A : Option Addr} {n c : Nat} {F : Nat → Prop} (h : Sl Lst w F A n c (cutOp o).words) (hA : A = none → n = 0) : OpAt w (cutOp o) A n c where
  words := ⟨F, h⟩
  none := hA
  box := by simp [cutOp]; omega
  to := by simp [cutOp]; omega
  text := by
    unfold cutOp
    simp only
    split
    · simp; omega
    · simp; omega
  ws := fun x hx => by have := few_len o.words x hx; omega
theorem Own.none0 {α : Type} {L : Ly α} {e : TypeId} {w : World} {F : Nat → Prop} {A : Option Addr} {n c : Nat} {xs : List α} (h : Own L e w F A n c xs) : A = none → n = 0 := by
  intro hA
  rcases h.row with ⟨_, h0⟩ | ⟨g, l, h0, _⟩
  · have := h.cap; omega
  · rw [hA] at h0; cases h0

theorem ld29 (a : Addr) (w : World) (K : Value → Prop) : LD PP 29 a w K = ∃ (x0 : Int) (s1 s2 s3 : ByteArray) (x4 x5 x6 : Int) (A : Option Addr) (n c : Nat), RD w a 0 [.int .i64 x0, .string s1, .string s2, .string s3, .int .i64 x4, .int .i64 x5, .int .i64 x6, .slice A n c] ∧
    K (.agg ⟨[.int .i64 x0, .string s1, .string s2, .string s3, .int .i64 x4, .int .i64 x5, .int .i64 x6, .slice A n c]⟩) := by kernel_rfl
theorem load_of {P : Program} {t : TypeId} {a : Addr} {w : World} {v : Value} {T : Prop} (hT : LD P t a w (fun u => u = v) = T) (h : T) : (loadVar t a).run P w = .ok v w := by
  rw [← hT] at h
  obtain ⟨u, h2, h3⟩ := LD_run h
  rw [h3] at h2
  exact h2
theorem load29 {w : World} {k : Nat} {o : Pl.Op} {A : Option Addr} {n c : Nat} (h : At w k (.cells ⟨ocells o A n c⟩ 29 (0, 0))) : (loadVar 29 (⟨k, 0, none⟩ : Addr)).run PP w = .ok (.agg ⟨ocells o A n c⟩) w :=
  load_of (ld29 (⟨k, 0, none⟩ : Addr) w fun v => v = .agg ⟨ocells o A n c⟩) ⟨o.kind, bs o.box, bs o.to, bs o.text, o.uid, o.flags, o.off, A, n, c, RD.i h, Eq.refl _⟩

theorem law_own {w : World} {F : Nat → Prop} (o : Pl.Op) {A : Option Addr} {n c : Nat} (hs : Sl Lst w F A n c o.words) :
    Calls PP 12 #[.agg ⟨ocells o A n c⟩] w (Ret fun r w' => ∃ A1 c1 A2 c2, r = .tuple #[.agg ⟨ocells (cutOp o) A1 (few o.words).length c1⟩, .agg ⟨ocells (cutOp o) A2 (few o.words).length c2⟩] ∧ Keep No w w' ∧
      Own Lst 9 w' No A1 (few o.words).length c1 (few o.words) ∧ Own Lst 9 w' No A2 (few o.words).length c2 (few o.words) ∧ (∀ j, ownBlk A1 j → w.heap.size ≤ j) ∧ ∀ j, ownBlk A2 j → w.heap.size ≤ j) := by
  refine c12 ?_
  unfold S12
  refine NEW.i fun k1 w1 hk1 hs1 q1 a1 => NEW.i fun k2 w2 hk2 hs2 q2 a2 => NEW.i fun k3 w3 hk3 hs3 q3 a3 => DRAW.i fun w4 hw4 q4 => ?_
  have h14 := ((q1.trans q2).trans q3).trans q4
  have b1 : At w4 k1 (.cells ⟨ocells o A n c⟩ 29 (0, 0)) := ((a1.no q2).no q3).no q4
  have b2 := (a2.no q3).no q4
  have b3 := a3.no q4
  have hw4s : w4.heap.size = w3.heap.size := by rw [hw4]
  refine ⟨_, cell_at b1 rfl, _, cell_at b1 rfl, _, _, _, cell_at b1 rfl, ?_⟩
  refine CALL.i (law_cut o.box 40 w4) (by kernel_rfl) ?_
  rintro r w5 ⟨rfl, rfl⟩
  refine ⟨_, rfl, loadVar_cell (by kernel_rfl) (cell_at b1 rfl), loadVar_cell (by kernel_rfl) (cell_at b1 rfl), ?_⟩
  refine CALL.i (law_cut o.to 40 w5) (by kernel_rfl) ?_
  rintro r w6 ⟨rfl, rfl⟩
  refine ⟨_, rfl, loadVar_cell (by kernel_rfl) (cell_at b1 rfl), ?_⟩
  refine CALL.i (law_few (hs.no h14)) (by kernel_rfl) ?_
  rintro r w7 ⟨A2, c2, rfl, q7, o7, f7⟩
  refine ⟨_, _, _, rfl, ?_⟩
  have hs7 := q7.size
  refine ST.i (b1.no q7) (by show 1 + 1 ≤ 8; omega) rfl fun w8 hs8 q8 a8 => ?_
  refine ST.i a8 (by show 2 + 1 ≤ 8; omega) rfl fun w9 hs9 q9 a9 => ?_
  refine ST.i a9 (by show 7 + 1 ≤ 8; omega) rfl fun w10 hs10 q10 a10 => ?_
  have q710 : Keep (fun j => j = k1) w7 w10 := (q8.trans q9).trans q10
  have nA2 : ∀ j, ownBlk A2 j → j ≠ k1 := fun j hj he => by have := f7 j hj; omega
  refine ⟨fun w11 => Keep (fun j => j = k1) w7 w11 ∧ w11.heap.size = w10.heap.size ∧ At w11 k1 (.cells ⟨ocells (cutOp o) A2 (few o.words).length c2⟩ 29 (0, 0)), ?_, ?_⟩
  · refine ⟨_, cell_at a10 rfl, ?_⟩
    rw [bs_size]
    refine split_dec (fun hle => ?_) (fun hle => ?_)
    · refine ⟨_, cell_at a10 rfl, ?_⟩
      refine CALL.i (law_cut o.text 700 w10) (by kernel_rfl) ?_
      rintro r w11 ⟨rfl, rfl⟩
      refine ⟨_, rfl, ?_⟩
      refine ST.i a10 (by show 3 + 1 ≤ 8; omega) rfl fun w12 hs12 q12 a12 => ⟨q710.trans q12, hs12, ?_⟩
      have he : cutOp o = { o with box := o.box.take 40, to := o.to.take 40, text := o.text.take 700, words := few o.words } := by
        unfold cutOp
        rw [if_pos (by omega)]
      rw [he]
      exact a12
    · refine ⟨_, cell_at a10 rfl, ?_⟩
      refine CALL.i (law_cut o.text 4097 w10) (by kernel_rfl) ?_
      rintro r w11 ⟨rfl, rfl⟩
      refine ⟨_, rfl, ?_⟩
      refine ST.i a10 (by show 3 + 1 ≤ 8; omega) rfl fun w12 hs12 q12 a12 => ⟨q710.trans q12, hs12, ?_⟩
      have he : cutOp o = { o with box := o.box.take 40, to := o.to.take 40, text := o.text.take 4097, words := few o.words } := by
        unfold cutOp
        rw [if_neg (by omega)]
      rw [he]
      exact a12
  · rintro _ w11 ⟨q11, hs11, a11⟩
    refine DRAW.i fun w12 hw12 q12 => ?_
    have d1 := a11.no q12
    have hs12 : w12.heap.size = w11.heap.size := by rw [hw12]
    refine ⟨_, cell_at d1 rfl, _, cell_at d1 rfl, _, cell_at d1 rfl, _, cell_at d1 rfl, _, cell_at d1 rfl, _, cell_at d1 rfl, _, cell_at d1 rfl, _, _, _, cell_at d1 rfl, ?_⟩
    refine ⟨_, _, _, _, _, _, _, _, _, _, RD.i d1, ?_⟩
    refine NEW.i fun k42 w13 hk42 hs13 q13 a13 => ?_
    have d13 := d1.no q13
    have e2 : At w13 k2 _ := ((q11.at_ (b2.no q7) (by omega)).no q12).no q13
    have e3 : At w13 k3 _ := ((q11.at_ (b3.no q7) (by omega)).no q12).no q13
    have o13 : Own Lst 9 w13 No A2 (few o.words).length c2 (few o.words) := ((o7.kept q11 (fun j hj _ he => hj.elim (fun h => h) (fun h => nA2 j h he))).no q12).no q13
    have hagg : ∀ (u : World), At u k1 (.cells ⟨ocells (cutOp o) A2 (few o.words).length c2⟩ 29 (0, 0)) → (loadVar 29 (⟨k1, 0, none⟩ : Addr)).run PP u = .ok (.agg ⟨ocells (cutOp o) A2 (few o.words).length c2⟩) u := by
      intro u hu
      exact load29 hu
    refine ⟨hagg w13 d13, ?_⟩
    refine ⟨loadVar_cell (by kernel_rfl) (cell_at d13 rfl), loadVar_cell (by kernel_rfl) (cell_at d13 rfl), loadVar_cell (by kernel_rfl) (cell_at d13 rfl), loadVar_cell (by kernel_rfl) (cell_at d13 rfl), loadVar_cell (by kernel_rfl) (cell_at d13 rfl), loadVar_cell (by kernel_rfl) (cell_at d13 rfl), loadVar_cell (by kernel_rfl) (cell_at d13 rfl), loadVar_cell (by kernel_rfl) (cell_at d13 rfl), ?_⟩
    have hO : Own Lst 9 w13 No (some ⟨k42, 0, none⟩) 0 0 ([] : List Str) := Own.new a13 (fun h => h) rfl rfl (Row.nil _ _ _ _ _)
    have hfl : (few o.words).length ≤ 10 := by simp [few]; omega
    refine append_sl T9 Lst_plain hO o13.sl (by omega) ?_ (fun j h => False.elim h)
    intro A' c' w14 q14 hb14 hs14 o14
    have hk42' : ∀ j, ownBlk (some (⟨k42, 0, none⟩ : Addr)) j → j = k42 := fun j hj => hj
    have f14 : ∀ j, ownBlk A' j → k42 ≤ j := fun j hj => by
      rcases hb14 j hj with h | h
      · rw [hk42' j h]; exact Nat.le_refl _
      · omega
    have q14' : Keep (fun j => j = k42) w13 w14 := q14
    have n142 : k1 ≠ k42 := by omega
    have d14 := q14'.at_ d13 n142
    have e214 := q14'.at_ e2 (by omega)
    have e314 := q14'.at_ e3 (by omega)
    refine ⟨_, _, _, rfl, hagg w14 d14, ?_⟩
    refine ⟨loadVar_cell (by kernel_rfl) (cell_at d14 rfl), loadVar_cell (by kernel_rfl) (cell_at d14 rfl), loadVar_cell (by kernel_rfl) (cell_at d14 rfl), loadVar_cell (by kernel_rfl) (cell_at d14 rfl), loadVar_cell (by kernel_rfl) (cell_at d14 rfl), loadVar_cell (by kernel_rfl) (cell_at d14 rfl), loadVar_cell (by kernel_rfl) (cell_at d14 rfl), ?_⟩
    refine ST.i e214 (Nat.le_refl _) rfl fun w15 hs15 q15 a15 => ?_
    have d15 := q15.at_ d14 (by omega)
    refine ⟨hagg w15 d15, ?_⟩
    refine ST.i (q15.at_ e314 (by omega)) (Nat.le_refl _) rfl fun w16 hs16 q16 a16 => ?_
    refine ⟨_, _, _, _, _, _, _, _, _, _, RD.i (q16.at_ a15 (by omega)), _, _, _, _, _, _, _, _, _, _, RD.i a16, ?_⟩
    have sz : w.heap.size ≤ k1 := Nat.le_of_eq hk1
    have hkw : Keep No w w16 := by
      have z7 := h14.trans q7
      have z11 : Keep No w w11 := z7.tmp q11 sz
      have z14 : Keep No w w14 := ((z11.trans q12).trans q13).tmp q14' (by omega)
      exact (z14.tmp q15 (by omega)).tmp q16 (by omega)
    refine ⟨A', c', A2, c2, ?_, hkw, ?_, ?_, fun j hj => by have := f14 j hj; omega, fun j hj => by have := f7 j hj; have := h14.size; omega⟩
    · rw [Nat.zero_add]
      rfl
    · rw [Nat.zero_add] at o14
      refine (o14.kept q15 (fun j hj _ he => hj.elim (fun h => h) (fun h => by have := f14 j h; omega))).kept q16 (fun j hj _ he => hj.elim (fun h => h) (fun h => by have := f14 j h; omega))
    · have l7 : ∀ j, ownBlk A2 j → j < w13.heap.size := o13.lt
      have hA2 : ∀ j, ownBlk A2 j → j < k42 := fun j hj => by have := o7.lt j hj; omega
      refine ((o13.kept q14' (fun j hj _ he => hj.elim (fun h => h) (fun h => by have := hA2 j h; omega))).kept q15 (fun j hj _ he => hj.elim (fun h => h) (fun h => by have := f7 j h; omega))).kept q16 (fun j hj _ he => hj.elim (fun h => h) (fun h => by have := f7 j h; omega))
end Go.SW
