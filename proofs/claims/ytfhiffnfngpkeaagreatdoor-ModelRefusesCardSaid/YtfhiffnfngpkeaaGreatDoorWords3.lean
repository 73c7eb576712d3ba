/- words.rows as an iterator; words.Of; words.Has. -/
import Derived.Test.YtfhiffnfngpkeaaGreatDoorWords
import Derived.Laws.IdiomStrings
set_option linter.unusedVariables false
namespace Go.SW
open Go Go.Proofs Pl

def Lby : Ly UInt8 := .of 1 (fun b => [.int .u8 (b.toNat : Int)]) (fun _ => rfl) (fun _ => rfl)
theorem Lby_plain : Lby.Plain := fun _ _ _ _ _ _ h => h
theorem T5 : ElemTy Lby 184 5 1 := ⟨by kernel_rfl, ⟨tinfo 5, (tinfo 5).zero.getD .nilIface, by kernel_rfl, by kernel_rfl, by kernel_rfl, by kernel_rfl, by kernel_rfl⟩, by omega, by show 0 < 1; omega⟩

theorem runs_drop_letter {t cur : Str} {i : Nat} {b : UInt8} (h : t[i]? = some b) (hl : letB (lowB b) = true) : runs (t.drop i) cur = runs (t.drop (i + 1)) (cur ++ [lowB b]) := by
  have hlt := (List.getElem?_eq_some_iff.1 h).1
  rw [List.drop_eq_getElem_cons hlt, (List.getElem?_eq_some_iff.1 h).2]
  simp [runs, hl]
theorem runs_drop_other {t cur : Str} {i : Nat} {b : UInt8} (h : t[i]? = some b) (hl : letB (lowB b) = false) : runs (t.drop i) cur = (if cur.isEmpty then [] else [cur.take 16]) ++ runs (t.drop (i + 1)) [] := by
  have hlt := (List.getElem?_eq_some_iff.1 h).1
  rw [List.drop_eq_getElem_cons hlt, (List.getElem?_eq_some_iff.1 h).2]
  simp [runs, hl]

theorem own_bytes {w : World} {e : TypeId} {F : Nat → Prop} {A : Option Addr} {n c : Nat} {xs : List UInt8} (h : Own Lby e w F A n c xs) {m : Nat} (hm : m ≤ n) (hm0 : 0 < n) : ∃ g, A = some ⟨g, 0, none⟩ ∧ ∀ j (hj : j < (xs.take m).length), w.cell? (Addr.add ⟨g, 0, none⟩ j) = some (.int .u8 ((xs.take m)[j].toNat : Int)) := by
  rcases h.row with ⟨rfl, h0⟩ | ⟨g, l, rfl, h2, h3, h4, h5⟩
  · have := h.cap; omega
  · refine ⟨g, rfl, fun j hj => ?_⟩
    have hjx : j < xs.length := by simp at hj; omega
    obtain ⟨cs, h6, h7⟩ := h5 j _ (List.getElem?_eq_getElem hjx)
    cases h7
    have h8 : (l.drop (0 + j * 1)).take 1 = [.int .u8 ((xs[j]).toNat : Int)] := h6
    rw [Nat.zero_add, Nat.mul_one] at h8
    have h9 : l[j]? = some (.int .u8 ((xs[j]).toNat : Int)) := by
      have := congrArg (fun z : List Value => z[0]?) h8
      simpa [List.getElem?_drop] using this
    rw [add_off, Nat.zero_add]
    rw [List.getElem_take]
    exact cell_at h3 h9

theorem rows_iter {w : World} {k1 : Nat} {t : Str} (ht : t.length < 1099511627776) (hk1 : At w k1 (.cells ⟨[.string (bs t)]⟩ 9 (0, 0))) :
    ITER (.func (.func 129) #[] ⟨[.pointer (some ⟨k1, 0, none⟩)]⟩) (fun s : Str => [.string (bs s)]) (fun vis x => ∃ r, vis ++ x :: r = runs t []) (fun vis => vis = runs t []) (fun k => k = k1) w := by
  refine ⟨129, _, rfl, by kernel_rfl, ?_⟩
  intro yv J F0 w1 hw1 hJ0 hframe hlt hsrc hstep
  have hk1' := hk1.no hw1
  have hk1lt := hk1'.lt
  refine c129 ?_
  unfold S129
  refine ⟨_, cell_at hk1' rfl, ?_⟩
  rw [bs_size, wrapS (by omega)]
  -- what holds between two bytes
  let Inv : Nat → List Str → (Nat → Prop) → Str → Option Addr → Nat → Nat → World → Prop := fun i vis F cur A n c w2 =>
    Own Lby 5 w2 No A n c cur ∧ (∀ j, ownBlk A j → ¬ F j ∧ w1.heap.size ≤ j) ∧ J vis F w2 ∧ Keep F0 w1 w2 ∧ (∀ j, F j → F0 j ∨ w1.heap.size ≤ j) ∧ cur.length ≤ i
  have hk1F : ∀ {F : Nat → Prop}, (∀ j, F j → F0 j ∨ w1.heap.size ≤ j) → ¬ F k1 := fun hF h => by
    rcases hF _ h with h | h
    · exact hsrc _ h rfl
    · omega
  have hat : ∀ {w2 : World}, Keep F0 w1 w2 → At w2 k1 (.cells ⟨[.string (bs t)]⟩ 9 (0, 0)) := fun hk => hk.at_ hk1' (fun h => hsrc _ h rfl)
  refine ⟨fun A n c x w2 => ∃ i vis F cur, x = (i : Nat) ∧ i ≤ t.length + 1 ∧ Inv i vis F cur A n c w2 ∧ (i ≤ t.length → vis ++ runs (t.drop i) cur = runs t []) ∧ (i = t.length + 1 → vis = runs t []),
    fun _ _ _ x _ => (((t.length + 1 : Nat) : Int) - x).toNat, ⟨0, [], F0, [], rfl, by omega, ⟨Own.nil _ _ _ _, fun j h => False.elim h, hJ0, Keep.refl _ _, fun j h => .inl h, Nat.le_refl _⟩, by simp, by omega⟩, ?_⟩
  rintro _ A n c x w2 ⟨i, vis, F, cur, rfl, hi, ⟨o, hA, hJ, hk, hF, hcl⟩, hr1, hr2⟩
  refine split_dec (fun hlt' => ?_) (fun hge => ?_)
  · have hil : i ≤ t.length := by omega
    have hcur := o.len
    -- the cut: no letter here, or the end
    refine ⟨fun A' n' c' w3 => A' = A ∧ n' = n ∧ c' = c ∧ w3 = w2 ∧ (i < t.length → ∃ b, t[i]? = some b ∧ letB (lowB b) = false), ?_, ?_⟩
    · refine ⟨_, cell_at (hat hk) rfl, ?_⟩
      rw [bs_size]
      refine split_dec (fun h1 => ?_) (fun h1 => ⟨rfl, rfl, rfl, rfl, fun h => by omega⟩)
      have h1' : i < t.length := by omega
      have hb : t[i]? = some t[i] := List.getElem?_eq_getElem h1'
      refine ⟨_, cell_at (hat hk) rfl, ⟨by omega, by rw [bs_size]; exact h1⟩, ?_⟩
      rw [bt_bs t i hb]
      refine CALL.i (words_low t[i] w2) (by kernel_rfl) ?_
      rintro r w3 ⟨rfl, rfl⟩
      refine ⟨_, rfl, ?_⟩
      refine CALL.i (words_letter (lowB t[i]) w3) (by kernel_rfl) ?_
      rintro r w4 ⟨rfl, rfl⟩
      refine ⟨_, rfl, split_i (fun hl => ?_) (fun hl => ⟨rfl, rfl, rfl, rfl, fun _ => ⟨_, hb, hl⟩⟩)⟩
      refine ⟨_, cell_at (hat hk) rfl, ⟨by omega, by rw [bs_size]; exact h1⟩, ?_⟩
      rw [bt_bs t i hb]
      refine CALL.i (words_low t[i] w4) (by kernel_rfl) ?_
      rintro r w5 ⟨rfl, rfl⟩
      refine ⟨_, rfl, ?_⟩
      refine NEW.i fun b w6 hb6 hs6 k6 a6 => ?_
      refine append_one T5 (o.no k6) a6 (x := lowB t[i]) rfl (by omega) ?_ (fun k hk => False.elim hk)
      intro A' c' w7 k7 hb7 hs7 o7
      have hkF : Keep (ownBlk A) w5 w7 := k6.no.trans k7
      refine ⟨_, _, _, rfl, ⟨i + 1, vis, F, cur ++ [lowB t[i]], wrapS (by omega), by omega, ⟨o7, ?_, ?_, ?_, hF, by simp; omega⟩, ?_, fun he => by omega⟩, mu_go (wrapS (by omega)) (by omega)⟩
      · intro j hj
        rcases hb7 j hj with h | h
        · exact hA j h
        · have h5 : w5.heap.size ≤ j := by have := k6.size; omega
          exact ⟨fun hf => by have := hlt _ _ _ j hJ hf; omega, by have := hk.size; omega⟩
      · exact hframe _ _ _ _ hJ (fun j hj => hkF.keep j (hj.elim (hlt _ _ _ j hJ) (fun h => by have := hk.size; omega)) (fun h => hj.elim (hA j h).1 (fun h' => by have := (hA j h).2; omega))) hkF.size
      · exact hk.fresh hkF (fun j hj => (hA j hj).2)
      · intro _
        rw [← runs_drop_letter hb hl]
        exact hr1 hil
    · rintro _ A' n' c' w3 ⟨rfl, rfl, rfl, rfl, hno⟩
      have hruns : vis ++ ((if cur.isEmpty then [] else [cur.take 16]) ++ runs (t.drop (i + 1)) []) = runs t [] ∧ (i = t.length → vis ++ (if cur.isEmpty then [] else [cur.take 16]) = runs t []) := by
        have h0 := hr1 hil
        rcases Nat.lt_or_ge i t.length with h1 | h1
        · obtain ⟨b, hb, hl⟩ := hno h1
          rw [runs_drop_other hb hl] at h0
          exact ⟨h0, fun he => by omega⟩
        · have hid : i = t.length := by omega
          have e1 : t.drop i = [] := by rw [hid]; simp
          have e2 : t.drop (i + 1) = [] := by rw [hid]; simp
          rw [e1] at h0
          rw [e2]
          have e3 : runs [] ([] : Str) = [] := rfl
          have e4 : runs [] cur = if cur.isEmpty then [] else [cur.take 16] := rfl
          rw [e3, List.append_nil]
          rw [e4] at h0
          exact ⟨h0, fun _ => h0⟩
      refine split_dec (fun hn0 => ?_) (fun hn0 => ?_)
      · have hn0' : 0 < n' := by omega
        have hne : cur.isEmpty = false := by
          cases cur with
          | nil => simp at hcur; omega
          | cons _ _ => rfl
        rw [hne] at hruns
        simp only [Bool.false_eq_true, if_false] at hruns
        have hmin : (if (16 : Int) < ((n' : Nat) : Int) then (16 : Int) else ((n' : Nat) : Int)) = ((min 16 n' : Nat) : Int) := by
          split <;> omega
        rw [hmin]
        have hcap := o.cap
        refine ⟨⟨by omega, by omega⟩, ?_⟩
        obtain ⟨g, hg, hcells⟩ := own_bytes o (m := min 16 n') (Nat.min_le_right _ _) hn0'
        subst hg
        have hW : cur.take (min 16 n') = cur.take 16 := by
          rw [← hcur]
          simp [List.take_eq_take_iff]
        rw [hW] at hcells
        have hWl : (cur.take 16).length = min 16 n' := by rw [List.length_take, hcur]
        have hS : SLA (some (⟨g, 0, none⟩ : Addr)) c' 0 1 = some ⟨g, 0, none⟩ := by
          unfold SLA
          split
          · rfl
          · simp [add_off]
        rw [hS, Int.toNat_natCast, Nat.sub_zero, ← hWl]
        refine ⟨_, w3, run_convert_bytes_back w3 184 9 5 ⟨g, 0, none⟩ _ (cur.take 16) (by kernel_rfl) (by kernel_rfl) (by kernel_rfl) hcells, _, rfl, ?_⟩
        refine CALLV.mono (hstep vis F w3 (cur.take 16) hJ ⟨_, hruns.1⟩) ?_
        rintro r w4 ⟨rfl, k4, F', hJ4, hF'⟩
        refine ⟨_, rfl, split_i (fun hc => by cases hc) (fun _ => ?_)⟩
        refine ⟨⟨i + 1, vis ++ [cur.take 16], F', [], wrapS (by omega), by omega, ⟨Own.nil _ _ _ _, fun j h => False.elim h, hJ4, ?_, ?_, by simp⟩, fun _ => by simpa using hruns.1, fun he => hruns.2 (by omega)⟩, mu_go (wrapS (by omega)) (by omega)⟩
        · exact hk.trans' k4 (fun j hj hFj => (hF j hFj).resolve_right (by omega))
        · intro j hj
          rcases hF' j hj with h | h
          · exact hF j h
          · exact .inr (by have := hk.size; omega)
      · have hcn : cur = [] := List.eq_nil_of_length_eq_zero (by omega)
        subst hcn
        simp only [List.isEmpty_nil, if_true, List.nil_append, List.append_nil] at hruns
        refine ⟨⟨i + 1, vis, F, [], wrapS (by omega), by omega, ⟨Own.nil _ _ _ _, fun j h => False.elim h, hJ, hk, hF, by simp⟩, fun _ => hruns.1, fun he => hruns.2 (by omega)⟩, mu_go (wrapS (by omega)) (by omega)⟩
  · have hie : i = t.length + 1 := by omega
    exact ⟨hk, vis, F, hr2 hie, hJ, hF⟩
end Go.SW
set_option linter.unusedVariables false
namespace Go.SW
open Go Go.Proofs Pl

def Esn : KV Str Bool := ⟨.string, fun l => .string (bs l), fun b => .bool b, fun _ => trivial, fun a b h => bs_inj (Value.string.inj h)⟩
theorem T155 : MapTy Esn 155 9 4 (.bool false) := ⟨by kernel_rfl, by kernel_rfl, ⟨tinfo 4, by kernel_rfl, by kernel_rfl⟩⟩
theorem runs_length : ∀ (t cur : Str), (runs t cur).length ≤ t.length + 1
  | [], cur => by
    unfold runs
    split <;> simp
  | b :: t, cur => by
    unfold runs
    split
    · have := runs_length t (cur ++ [lowB b])
      simp only [List.length_cons]
      omega
    · have := runs_length t []
      rw [List.length_append, List.length_cons]
      split <;> simp <;> omega

theorem sortS_out {out vis : List Str} (hn : out.Nodup) (hm : ∀ x, x ∈ out ↔ x ∈ vis) : sortS out = sortW vis := by
  have hp : (sortS out).Perm out := List.mergeSort_perm _ _
  refine rising_ext ?_ (sortW_sorted vis) fun x => by rw [sortW_mem, hp.mem_iff, hm]
  have h1 := sortS_sorted out
  have h2 : (sortS out).Nodup := hp.nodup_iff.2 hn
  refine List.Pairwise.imp₂ ?_ h1 h2
  intro a b hle hne
  rcases List.le_iff_lt_or_eq.1 hle with h | h
  · exact h
  · exact absurd h hne

theorem words_of (t : Str) (ht : t.length < 10000000) (w : World) :
    Calls PP 44 #[.string (bs t)] w (Ret fun r w' => ∃ A c, r = .slice A (ofW t).length c ∧ Keep No w w' ∧ Own Lst 9 w' No A (ofW t).length c (ofW t) ∧ ∀ j, ownBlk A j → w.heap.size ≤ j) := by
  refine c44 ?_
  unfold S44
  refine NEW.i fun k6 w1 hk6 hs1 p1 a1 => NEW.i fun k3 w2 hk3 hs2 p2 a2 => ?_
  refine ST.i a2 (Nat.le_refl _) rfl fun w3 hs3 p3 a3 => ?_
  refine NEW.i fun k4 w4 hk4 hs4 p4 a4 => ?_
  have q3 : Keep No w w3 := (p1.trans p2).tmp p3 (by omega)
  have q4 := q3.trans p4
  have m1 := p3.at_ (a1.no p2) (by omega)
  have m4 := m1.no p4
  have a34 := a3.no p4
  refine CALL.i (R := fun r w' => ∃ k1, r = .func (.func 129) #[] ⟨[.pointer (some ⟨k1, 0, none⟩)]⟩ ∧ w4.heap.size = k1 ∧ Keep No w4 w' ∧ At w' k1 (.cells ⟨[.string (bs t)]⟩ 9 (0, 0))) ?_ (by kernel_rfl) ?_
  · refine c89 ?_
    unfold S89
    exact NEW.i fun k1 w5 hk1 hs5 p5 a5 => ⟨k1, rfl, hk1, p5, a5⟩
  rintro r w5 ⟨k1, rfl, hk1, p5, a5⟩
  have q5 := q4.trans p5
  have hk1lt := a5.lt
  have hs45 := p5.size
  refine RANGE.i (rows_iter (by omega) a5) (fun _ => rfl) (fun k hk => by omega)
    (fun vis F a => ∃ A n c M out, At a k3 (.cells ⟨[.map (some k6)]⟩ 155 (0, 0)) ∧ MapAt Esn a k6 M ∧ (∀ s, mget M s = if s ∈ vis then some true else none) ∧ At a k4 (.cells ⟨[.slice A n c]⟩ 26 (0, 0)) ∧ Own Lst 9 a No A n c out ∧
      out.Nodup ∧ (∀ s, s ∈ out ↔ s ∈ vis) ∧ (∀ j, F j ↔ j = k3 ∨ j = k6 ∨ j = k4 ∨ ownBlk A j) ∧ (∀ j, ownBlk A j → w5.heap.size ≤ j) ∧ out.length ≤ vis.length ∧ w5.heap.size ≤ a.heap.size)
    (fun j => j = k3 ∨ j = k6 ∨ j = k4) ?_ ?_ ?_ ?_ ?_ ?_ ?_
  · intro w6 hk
    exact ⟨none, 0, 0, [], [], (a34.no p5).no hk, ((MapAt.empty m4).no p5).no hk, by simp [mget], (a4.no p5).no hk, Own.nil _ _ _ _, List.nodup_nil, by simp, fun j => ⟨fun h => by rcases h with h | h | h <;> simp [h], fun h => by rcases h with h | h | h | h; exact .inl h; exact .inr (.inl h); exact .inr (.inr h); exact False.elim h⟩, fun j h => False.elim h, Nat.le_refl _, hk.size⟩
  · rintro vis F a b ⟨A, n, c, M, out, h1, h2, h3, h4, h5, h6, h7, h8, h9, h10⟩ hk hs
    exact ⟨A, n, c, M, out, (hk k3 ((h8 k3).2 (.inl rfl))).trans h1, h2.keep (hk k6 ((h8 k6).2 (.inr (.inl rfl)))), h3, (hk k4 ((h8 k4).2 (.inr (.inr (.inl rfl))))).trans h4,
      h5.keep (fun j hj _ => hj.elim (fun h => False.elim h) (fun h => hk j ((h8 j).2 (.inr (.inr (.inr h)))))), h6, h7, h8, h9, h10.1, Nat.le_trans h10.2 hs⟩
  · rintro vis F a k ⟨A, n, c, M, out, h1, h2, h3, h4, h5, h6, h7, h8, h9, h10⟩ hk
    rcases (h8 k).1 hk with rfl | rfl | rfl | h
    · exact h1.lt
    · exact h2.lt
    · exact h4.lt
    · exact h5.lt k h
  · rintro k (rfl | rfl | rfl) <;> omega
  · rintro k (rfl | rfl | rfl) hs <;> omega
  · rintro vis F a x l ⟨A, n, c, M, out, h1, h2, h3, h4, h5, h6, h7, h8, h9, h10⟩ ⟨rest, hx⟩ hl hla beg K hbeg
    have hlen : vis.length < t.length + 1 := by
      have := runs_length t []
      rw [← hx] at this
      simp at this
      omega
    refine ⟨_, _, rfl, _, rfl, rfl, ?_⟩
    refine hbeg _ _ (Keep.refl _ _) fun b1 hsb kb hK => ?_
    have nl3 : k3 ≠ l := fun he => hl ((h8 l).2 (.inl he.symm))
    have nl6 : k6 ≠ l := fun he => hl ((h8 l).2 (.inr (.inl he.symm)))
    have nl4 : k4 ≠ l := fun he => hl ((h8 l).2 (.inr (.inr (.inl he.symm))))
    have nlA : ¬ ownBlk A l := fun h => hl ((h8 l).2 (.inr (.inr (.inr h))))
    have g1 := kb.at_ h1 nl3
    have g2 := h2.kept kb nl6
    have g4 := kb.at_ h4 nl4
    have g5 := h5.kept kb (fun j hj _ he => hj.elim (fun h => h) (fun h => nlA (he ▸ h)))
    refine ⟨_, cell_at g1 rfl, _, map_lookup1 T155 g2 x, ?_⟩
    rw [h3 x]
    by_cases hxv : x ∈ vis
    · rw [if_pos hxv]
      refine ⟨true, rfl, split_i (fun hc => by cases hc) (fun _ => ?_)⟩
      refine hK b1 F (Keep.refl _ _) ⟨A, n, c, M, out, g1, g2, fun s => ?_, g4, g5, h6, fun s => ?_, h8, h9, by simp; omega, by omega⟩ (fun j hj => .inl hj)
      · rw [h3 s]
        by_cases hs : s ∈ vis
        · simp [hs]
        · have : s ≠ x := fun e => hs (e ▸ hxv)
          simp [hs, this]
      · rw [h7 s, List.mem_append, List.mem_singleton]
        constructor
        · exact .inl
        · rintro (h | rfl)
          · exact h
          · exact hxv
    · rw [if_neg hxv]
      refine ⟨false, rfl, split_i (fun _ => ?_) (fun hc => by cases hc)⟩
      refine ⟨_, cell_at g1 rfl, ?_⟩
      refine map_update T155 g2 x true ?_
      intro b2 hsb2 kb2 gm
      have n36 : k3 ≠ k6 := by omega
      have n46 : k4 ≠ k6 := by omega
      have n6A : ¬ ownBlk A k6 := fun h => by have := h9 k6 h; omega
      have n4A : ¬ ownBlk A k4 := fun h => by have := h9 k4 h; omega
      have n3A : ¬ ownBlk A k3 := fun h => by have := h9 k3 h; omega
      have g42 := kb2.at_ g4 n46
      have g52 := g5.kept kb2 (fun j hj _ he => hj.elim (fun h => h) (fun h => n6A (he ▸ h)))
      refine ⟨_, _, _, cell_at g42 rfl, ?_⟩
      refine NEW.i fun k18 b3 hb3 hsb3 kb3 ab3 => ?_
      have hn := h5.len
      refine append_one T9 (g52.no kb3) ab3 (x := x) rfl (by omega) ?_ (fun k hk => False.elim hk)
      intro A' c' b4 kb4 hbA hsb4 o4
      refine ⟨_, _, _, rfl, ?_⟩
      have fresh : ∀ j, j < a.heap.size → ¬ ownBlk A j → ¬ ownBlk A' j := fun j hj hnA h => by
        rcases hbA j h with h | h
        · exact hnA h
        · have := kb3.size; omega
      have n4A' := fresh k4 h4.lt n4A
      have n6A' := fresh k6 h2.lt n6A
      refine ST.i (kb4.at_ (g42.no kb3) n4A) (Nat.le_refl _) rfl fun b5 hsb5 kb5 ab5 => ?_
      have n34 : k3 ≠ k4 := by omega
      have n64 : k6 ≠ k4 := by omega
      refine hK b5 (fun j => j = k3 ∨ j = k6 ∨ j = k4 ∨ ownBlk A' j) ?_ ⟨A', n + 1, c', mput M x true, out ++ [x], kb5.at_ (kb4.at_ ((kb2.at_ g1 n36).no kb3) n3A) n34, ((gm.no kb3).kept kb4 n6A).kept kb5 n64, ?_, ab5, ?_, ?_, ?_, fun j => Iff.rfl, ?_, by simp; omega, by have := kb3.size; have := kb4.size; omega⟩ ?_
      · exact (((kb2.mono fun j _ hj => (h8 j).2 (.inr (.inl hj))).and_no kb3).trans (kb4.mono fun j _ hj => (h8 j).2 (.inr (.inr (.inr hj))))).trans (kb5.mono fun j _ hj => (h8 j).2 (.inr (.inr (.inl hj))))
      · intro s
        rw [mget_mput, h3 s]
        by_cases hs : s = x
        · simp [hs]
        · simp [hs]
      · exact o4.kept kb5 (fun j hj _ he => hj.elim (fun h => h) (fun h => n4A' (he ▸ h)))
      · rw [List.nodup_append]
        refine ⟨h6, by simp, ?_⟩
        intro p hp q hq he
        rw [List.mem_singleton.1 hq] at he
        exact hxv ((h7 x).1 (he ▸ hp))
      · intro s
        rw [List.mem_append, List.mem_append, h7 s]
      · exact own_fresh hbA h9 (by have := kb3.size; omega)
      · rintro j (h | h | h | h)
        · exact .inl ((h8 j).2 (.inl h))
        · exact .inl ((h8 j).2 (.inr (.inl h)))
        · exact .inl ((h8 j).2 (.inr (.inr (.inl h))))
        · rcases hbA j h with h | h
          · exact .inl ((h8 j).2 (.inr (.inr (.inr h))))
          · exact .inr (by have := kb3.size; omega)
  · rintro vis F D b1 hS ⟨A, n, c, M, out, h1, h2, h3, h4, h5, h6, h7, h8, h9, h10⟩ hD hFD hDs hk hF
    subst hS
    have hlen := runs_length t []
    have hn := h5.len
    refine ⟨_, _, _, cell_at h4 rfl, ?_⟩
    refine CALL.i (sort_str h5 (by omega)) (by kernel_rfl) ?_
    rintro r b2 ⟨rfl, kb2, o2⟩
    have n4A : ¬ ownBlk A k4 := fun h => by have := h9 k4 h; omega
    have nDA : ¬ ownBlk A D := fun h => hFD ((h8 D).2 (.inr (.inr (.inr h))))
    have g4 := kb2.at_ h4 n4A
    have gD := kb2.at_ hD nDA
    have hcap := h5.cap
    have hmin : (if (64 : Int) < ((n : Nat) : Int) then (64 : Int) else ((n : Nat) : Int)) = ((min 64 n : Nat) : Int) := by
      split <;> omega
    refine ⟨rfl, _, _, _, cell_at g4 rfl, _, _, _, cell_at g4 rfl, ?_⟩
    rw [hmin]
    refine ⟨⟨by omega, by omega⟩, gD, ?_⟩
    obtain ⟨q1, q2, q3'⟩ := putObj_keep (.deferred none) gD
    have hso := sortS_out h6 h7
    rw [hso] at o2
    have hsl : (sortW (runs t [])).length = n := o2.len
    have hof : (ofW t).length = min 64 n := by simp [ofW, hsl]
    have hSL : SLA A c 0 1 = A := by
      unfold SLA
      split
      · rfl
      · cases A with
        | none => rfl
        | some a => simp [Addr.add]
    have o3 := (o2.pre (j := min 64 n) (Nat.min_le_right _ _)).kept q1 (fun j hj _ he => hj.elim (fun h => h) (fun h => nDA (he ▸ h)))
    have hta : (sortW (runs t [])).take (min 64 n) = ofW t := by
      rw [← hsl]
      simp [ofW, List.take_eq_take_iff]
    rw [hta] at o3
    refine ⟨A, c, ?_, ?_, by rw [hof]; exact o3, fun j hj => by have := h9 j hj; have := q5.size; omega⟩
    · rw [hSL, Int.toNat_natCast, hof, Nat.sub_zero, Nat.sub_zero]
    · have z1 : Keep No w b1 := q5.trans' hk (fun k hk h => by rcases h with rfl | rfl | rfl <;> omega)
      have z2 : Keep No w b2 := z1.fresh kb2 (fun j hj => by have := h9 j hj; have := q5.size; omega)
      exact z2.fresh q1 (fun j hj => by have := q5.size; omega)

theorem ofW_sorted (t : Str) : (ofW t).Pairwise (· ≤ ·) := by
  have h := (sortW_sorted (runs t [])).sublist (List.take_sublist 64 (sortW (runs t [])))
  exact h.imp fun h => List.le_of_lt h
theorem words_has {A : Option Addr} {n c : Nat} {w : World} {F : Nat → Prop} {xs : List Str} (t : Str) (ht : t.length < 10000000) (hs : Sl Lst w F A n c xs) (hn : n < 1000000000) :
    Calls PP 24 #[.string (bs t), .slice A n c] w (Ret fun r w' => r = .bool (hasW t xs) ∧ Keep No w w') := by
  refine c24 ?_
  unfold S24
  refine CALL.i (words_of t ht w) (by kernel_rfl) ?_
  rintro r w1 ⟨A1, c1, rfl, k1, o1, f1⟩
  refine ⟨_, _, _, rfl, ?_⟩
  have hl64 : (ofW t).length ≤ 64 := by simp [ofW]; omega
  refine ⟨fun x w2 => ∃ i : Nat, x = i ∧ i ≤ n ∧ Keep No w1 w2 ∧ ∀ (j : Nat) y, j < i → xs[j]? = some y → (ofW t).contains y = true, fun x _ => (n - x).toNat, ⟨0, rfl, Nat.zero_le _, Keep.refl _ _, by intro j y h; omega⟩, ?_⟩
  rintro _ x w2 ⟨i, rfl, hi, hk, hb⟩
  refine split_dec (fun hlt => ?_) (fun hge => ?_)
  · have hlt' : i < n := by omega
    refine ⟨⟨by omega, hlt⟩, ?_⟩
    obtain ⟨a, x, hA, hx, hr⟩ := (hs.no (k1.trans hk)).stx hlt'
    refine SOMEA.i hA ⟨_, by rw [Int.toNat_natCast]; exact hr, ?_⟩
    refine CALL.i (words_search (o1.no hk).sl (by omega) (ofW_sorted t) x) (by kernel_rfl) ?_
    rintro r w3 ⟨⟨q, rfl⟩, rfl⟩
    refine ⟨_, _, rfl, split_i (fun hc => ?_) (fun hc => ?_)⟩
    · refine ⟨?_, k1.trans hk⟩
      have hcf : (ofW t).contains x = false := by simpa using hc
      have : hasW t xs = false := by
        unfold hasW
        rw [List.all_eq_false]
        exact ⟨x, List.mem_of_getElem? hx, by rw [hcf]; simp⟩
      rw [this]
    · have hct : (ofW t).contains x = true := by simpa using hc
      refine ⟨⟨i + 1, wrapS (by omega), hlt', hk, ?_⟩, mu_go (wrapS (by omega)) hlt'⟩
      intro j y hj hy
      by_cases hji : j = i
      · subst hji
        rw [hx] at hy
        cases hy
        exact hct
      · exact hb j y (by omega) hy
  · refine ⟨?_, k1.trans hk⟩
    have : hasW t xs = true := by
      unfold hasW
      rw [List.all_eq_true]
      intro x hx
      obtain ⟨j, hj⟩ := List.mem_iff_getElem?.1 hx
      refine hb j x ?_ hj
      have := (List.getElem?_eq_some_iff.1 hj).1
      rw [hs.len] at this
      omega
    rw [this]
end Go.SW
