/- The names' functions over their map. -/
import Derived.Test.YtfhiffnfngpkeaaGreatDoorNames
set_option linter.unusedVariables false
namespace Go.SW
open Go Go.Proofs Pl

def IsNames (w : World) (k : Nat) (F : Nat → Prop) (N : Nm) : Prop :=
  ∃ mb, At w k (.cells ⟨[.map (some mb), .int .i64 N.next]⟩ 91 (0, 0)) ∧ F k ∧ F mb ∧ MapAt Enm w mb N.l
theorem IsNames.keep {w w' : World} {k : Nat} {F : Nat → Prop} {N : Nm} (h : IsNames w k F N) (hk : ∀ j, F j → j < w.heap.size → w'.heap[j]? = w.heap[j]?) : IsNames w' k F N := by
  obtain ⟨mb, h1, h2, h3, h4⟩ := h
  exact ⟨mb, (hk k h2 h1.lt).trans h1, h2, h3, h4.keep (hk mb h3 h4.lt)⟩
theorem IsNames.kept {w w' : World} {k : Nat} {F S : Nat → Prop} {N : Nm} (h : IsNames w k F N) (hk : Keep S w w') (hd : ∀ j, F j → ¬ S j) : IsNames w' k F N := h.keep fun j hF hlt => hk.keep j hlt (hd j hF)
theorem IsNames.no {w w' : World} {k : Nat} {F : Nat → Prop} {N : Nm} (h : IsNames w k F N) (hk : Keep No w w') : IsNames w' k F N := h.kept hk (fun _ _ h => h)
theorem IsNames.mono {w : World} {k : Nat} {F G : Nat → Prop} {N : Nm} (h : IsNames w k F N) (hk : ∀ j, F j → G j) : IsNames w k G N := by
  obtain ⟨mb, h1, h2, h3, h4⟩ := h
  exact ⟨mb, h1, hk _ h2, hk _ h3, h4⟩
theorem IsNames.nodup {w : World} {k : Nat} {F : Nat → Prop} {N : Nm} (h : IsNames w k F N) : (mkeys N.l).Nodup := by
  obtain ⟨mb, h1, h2, h3, h4⟩ := h
  exact h4.nodup
theorem ofN_mget (N : Nm) (s : Str) : ofN N s = mget N.l s := rfl

theorem names_of {w : World} {k : Nat} {F : Nat → Prop} {N : Nm} (h : IsNames w k F N) (s : Str) :
    Calls PP 16 #[.pointer (some ⟨k, 0, none⟩), .string (bs s)] w (Ret fun r w' => r = .tuple #[.int .i64 ((ofN N s).getD 0), .bool (ofN N s).isSome] ∧ w' = w) := by
  obtain ⟨mb, h1, h2, h3, h4⟩ := h
  refine c16 ⟨_, cell_at h1 rfl, _, map_lookup T89 h4 s, ?_⟩
  rw [ofN_mget]
  cases mget N.l s with
  | none => exact ⟨_, _, rfl, rfl, rfl⟩
  | some v => exact ⟨_, _, rfl, rfl, rfl⟩
theorem names_next {w : World} {k : Nat} {F : Nat → Prop} {N : Nm} (h : IsNames w k F N) : Calls PP 100 #[.pointer (some ⟨k, 0, none⟩)] w (Ret fun r w' => r = .int .i64 N.next ∧ w' = w) := by
  obtain ⟨mb, h1, h2, h3, h4⟩ := h
  exact c100 ⟨_, cell_at h1 rfl, rfl, rfl⟩
theorem names_new (w : World) : Calls PP 30 #[] w (Ret fun r w' => ∃ k, r = .pointer (some ⟨k, 0, none⟩) ∧ Keep No w w' ∧ w'.heap.size = w.heap.size + 2 ∧ IsNames w' k (fun j => w.heap.size ≤ j ∧ j < w'.heap.size) .new) := by
  refine c30 ?_
  unfold S30
  refine NEW.i fun b w1 hb hs1 k1 a1 => NEW.i fun k w2 hk hs2 k2 a2 => ⟨k, rfl, k1.trans k2, by omega, b, a2, ⟨by omega, by omega⟩, ⟨by omega, by omega⟩, (MapAt.empty a1).no k2⟩
theorem names_clone {w : World} {k : Nat} {F : Nat → Prop} {N : Nm} (h : IsNames w k F N) :
    Calls PP 36 #[.pointer (some ⟨k, 0, none⟩)] w (Ret fun r w' => ∃ k', r = .pointer (some ⟨k', 0, none⟩) ∧ Keep No w w' ∧ IsNames w' k' (fun j => w.heap.size ≤ j ∧ j < w'.heap.size) N) := by
  refine c36 ?_
  unfold S36
  refine DRAW.i fun w1 hw1 k1 => ?_
  obtain ⟨mb, h1, h2, h3, h4⟩ := h.no k1
  refine ⟨_, cell_at h1 rfl, _, cell_at h1 rfl, ?_⟩
  refine CALL.i (clone_str h4) (by kernel_rfl) ?_
  rintro r w2 ⟨mb', rfl, hmb, k2, hm2⟩
  refine ⟨_, rfl, loadVar_cell (by kernel_rfl) (cell_at (h1.no k2) rfl), ?_⟩
  have hs : w1.heap.size = w.heap.size := by rw [hw1]
  have hml := hm2.lt
  refine NEW.i fun k' w3 hk' hs3 k3 a3 => ⟨k', rfl, (k1.trans k2).trans k3, mb', a3, ⟨by have := k2.size; omega, by omega⟩, ⟨by omega, by omega⟩, hm2.no k3⟩

theorem putN_perm (p : Str × Int) : ∀ l : List (Str × Int), (putN p l).Perm (p :: l)
  | [] => List.Perm.refl _
  | q :: l => by
    unfold putN
    split
    · exact ((putN_perm p l).cons q).trans (List.Perm.swap _ _ _)
    · exact List.Perm.refl _
theorem mdel_delN (l : List (Str × Int)) (s : Str) : mdel l s = delN l s := by
  unfold mdel delN
  refine List.filter_congr fun p _ => ?_
  by_cases h : p.1 = s <;> simp [h]
theorem ofN_none {N : Nm} {s : Str} (h : (ofN N s).isSome = false) : s ∉ mkeys N.l := by
  rw [ofN_mget] at h
  exact mget_none.1 (Option.not_isSome_iff_eq_none.1 (by simp [h]))

theorem names_create {w : World} {k : Nat} {F : Nat → Prop} {N : Nm} (h : IsNames w k F N) (hg : Glob w) (s : Str) (hs : s.length < 1099511627776) (hn0 : 0 ≤ N.next) (hn1 : N.next < 4611686018427387904) :
    Calls PP 68 #[.pointer (some ⟨k, 0, none⟩), .string (bs s)] w (Ret fun r w' => r = .tuple #[.int .i64 (createN N s).2.1, .int .i64 (createN N s).2.2] ∧ Keep F w w' ∧ IsNames w' k F (createN N s).1) := by
  refine c68 ?_
  unfold S68
  refine CALL.i (names_of h s) (by kernel_rfl) ?_
  rintro r w1 ⟨rfl, rfl⟩
  refine ⟨_, _, rfl, ?_⟩
  refine CALL.i (names_check s hs hg) (by kernel_rfl) ?_
  rintro r w2 ⟨rfl, rfl⟩
  refine ⟨_, rfl, split_i (fun hc => ?_) (fun hc => ?_)⟩
  · have hc' : checkN s = false := by simpa using hc
    have he : createN N s = (N, 0, 4) := by simp [createN, hc']
    rw [he]
    exact ⟨rfl, Keep.refl _ _, h⟩
  · have hc' : checkN s = true := by simpa using hc
    refine split_i (fun ht => ?_) (fun ht => ?_)
    · have he : createN N s = (N, 0, 6) := by simp [createN, hc', ht]
      rw [he]
      exact ⟨rfl, Keep.refl _ _, h⟩
    · have hbx := h
      obtain ⟨mb, h1, h2, h3, h4⟩ := hbx
      refine ⟨_, cell_at h1 rfl, _, map_len T89 h4 3, split_dec (fun hge => ?_) (fun hlt => ?_)⟩
      · have hl : 16 ≤ N.l.length := by omega
        have he : createN N s = (N, 0, 8) := by simp [createN, hc', ht, hl]
        rw [he]
        exact ⟨rfl, Keep.refl _ _, h⟩
      · have hl : ¬ 16 ≤ N.l.length := by omega
        have he : createN N s = (⟨putN (s, N.next) N.l, N.next + 1⟩, N.next, 0) := by simp [createN, hc', ht, hl]
        rw [he]
        refine DRAW.i fun w3 hw3 k3 => ?_
        have h13 := h1.no k3
        refine ⟨_, cell_at h13 rfl, _, cell_at h13 rfl, ?_⟩
        refine map_update T89 (h4.no k3) s N.next ?_
        intro w4 hs4 k4 hm4
        have hne : k ≠ mb := fun hc => (h4.notCells (hc ▸ h1))
        have h14 := k4.at_ h13 hne
        refine ⟨_, cell_at h14 rfl, ?_⟩
        refine ST.i h14 (by show 1 + 1 ≤ 2; omega) rfl fun w5 hs5 k5 a5 => ?_
        have e1 : IntKind.wrap .i64 (N.next + 1) = N.next + 1 := wrap64 (by omega) (by omega)
        have e2 : IntKind.wrap .i64 (N.next + 1 - 1) = N.next := by rw [wrap64 (by omega) (by omega)]; omega
        rw [e1] at a5
        refine ⟨_, cell_at a5 rfl, ?_⟩
        rw [e2]
        refine ⟨rfl, (k3.no.trans (k4.mono fun j _ hj => hj ▸ h3)).trans (k5.mono fun j _ hj => hj ▸ h2), mb, a5, h2, h3, ?_⟩
        have hm5 := hm4.kept k5 (fun hc => hne hc.symm)
        refine hm5.perm ?_
        unfold mput
        rw [mdel_self (ofN_none ht)]
        exact (putN_perm _ _).symm

theorem names_delete {w : World} {k : Nat} {F : Nat → Prop} {N : Nm} (h : IsNames w k F N) (s : Str) :
    Calls PP 69 #[.pointer (some ⟨k, 0, none⟩), .string (bs s)] w (Ret fun r w' => r = .tuple #[.int .i64 (deleteN N s).2.1, .int .i64 (deleteN N s).2.2] ∧ Keep F w w' ∧ IsNames w' k F (deleteN N s).1) := by
  refine c69 ?_
  unfold S69
  refine CALL.i (names_of h s) (by kernel_rfl) ?_
  rintro r w1 ⟨rfl, rfl⟩
  refine ⟨_, _, rfl, ?_⟩
  cases ho : ofN N s with
  | none =>
    have he : deleteN N s = (N, 0, 5) := by simp [deleteN, ho]
    rw [he]
    refine split_i (fun _ => ⟨rfl, Keep.refl _ _, h⟩) (fun hc => by simp at hc)
  | some id =>
    have he : deleteN N s = (⟨delN N.l s, N.next⟩, id, 0) := by simp [deleteN, ho]
    rw [he]
    refine split_i (fun hc => by simp at hc) (fun _ => ?_)
    obtain ⟨mb, h1, h2, h3, h4⟩ := h
    refine ⟨_, cell_at h1 rfl, ?_⟩
    refine map_delete T89 h4 s 9 0 ?_
    intro w2 hs2 k2 hm2
    have hne : k ≠ mb := fun hc => (h4.notCells (hc ▸ h1))
    refine ⟨rfl, k2.mono fun j _ hj => hj ▸ h3, mb, k2.at_ h1 hne, h2, h3, ?_⟩
    rw [← mdel_delN]
    exact hm2

theorem names_rename {w : World} {k : Nat} {F : Nat → Prop} {N : Nm} (h : IsNames w k F N) (hg : Glob w) (s t : Str) (hs : t.length < 1099511627776) :
    Calls PP 70 #[.pointer (some ⟨k, 0, none⟩), .string (bs s), .string (bs t)] w (Ret fun r w' => r = .tuple #[.int .i64 (renameN N s t).2.1, .int .i64 (renameN N s t).2.2] ∧ Keep F w w' ∧ IsNames w' k F (renameN N s t).1) := by
  refine c70 ?_
  unfold S70
  refine CALL.i (names_of h s) (by kernel_rfl) ?_
  rintro r w1 ⟨rfl, rfl⟩
  refine ⟨_, _, rfl, ?_⟩
  refine CALL.i (names_of h t) (by kernel_rfl) ?_
  rintro r w2 ⟨rfl, rfl⟩
  refine ⟨_, _, rfl, ?_⟩
  cases ho : ofN N s with
  | none =>
    have he : renameN N s t = (N, 0, 5) := by simp [renameN, ho]
    rw [he]
    refine split_i (fun _ => ⟨rfl, Keep.refl _ _, h⟩) (fun hc => by simp at hc)
  | some id =>
    refine split_i (fun hc => by simp at hc) (fun _ => ?_)
    refine CALL.i (names_check t hs hg) (by kernel_rfl) ?_
    rintro r w3 ⟨rfl, rfl⟩
    refine ⟨_, rfl, split_i (fun hc => ?_) (fun hc => ?_)⟩
    · have hc' : checkN t = false := by simpa using hc
      have he : renameN N s t = (N, 0, 4) := by simp [renameN, ho, hc']
      rw [he]
      exact ⟨rfl, Keep.refl _ _, h⟩
    · have hc' : checkN t = true := by simpa using hc
      refine split_i (fun ht => ?_) (fun ht => ?_)
      · have he : renameN N s t = (N, 0, 6) := by simp [renameN, ho, hc', ht]
        rw [he]
        exact ⟨rfl, Keep.refl _ _, h⟩
      · have he : renameN N s t = (⟨putN (t, id) (delN N.l s), N.next⟩, id, 0) := by simp [renameN, ho, hc', ht]
        rw [he]
        obtain ⟨mb, h1, h2, h3, h4⟩ := h
        refine ⟨_, cell_at h1 rfl, ?_⟩
        refine map_delete T89 h4 s 9 0 ?_
        intro w4 hs4 k4 hm4
        have hne : k ≠ mb := fun hc => (h4.notCells (hc ▸ h1))
        have h14 := k4.at_ h1 hne
        refine ⟨_, cell_at h14 rfl, ?_⟩
        refine map_update T89 hm4 t id ?_
        intro w5 hs5 k5 hm5
        refine ⟨rfl, (k4.mono fun j _ hj => hj ▸ h3).trans (k5.mono fun j _ hj => hj ▸ h3), mb, k5.at_ h14 hne, h2, h3, ?_⟩
        refine hm5.perm ?_
        unfold mput
        have hnk : t ∉ mkeys (mdel N.l s) := fun hm => by
          obtain ⟨p, hp, rfl⟩ := List.mem_map.1 hm
          exact ofN_none ht (List.mem_map.2 ⟨p, (mem_mdel.1 hp).1, rfl⟩)
        rw [mdel_self hnk, mdel_delN]
        exact (putN_perm _ _).symm

/-! ## List -/
theorem sortS_perm {xs ys : List Str} (h : xs.Perm ys) (hs : ys.Pairwise (· ≤ ·)) : sortS xs = ys := by
  refine List.Perm.eq_of_pairwise (le := fun a b : Str => decide (a ≤ b) = true) ?_ (List.pairwise_mergeSort ?_ ?_ xs) (hs.imp fun h => by simpa using h) ((List.mergeSort_perm _ _).trans h)
  · intro a b _ _ h1 h2
    exact List.le_antisymm (by simpa using h1) (by simpa using h2)
  · intro a b c h1 h2
    simp only [decide_eq_true_eq] at h1 h2 ⊢
    exact List.le_trans h1 h2
  · intro a b
    rcases List.le_total a b with h | h <;> simp [h]
theorem sortI_perm {xs ys : List Int} (h : xs.Perm ys) (hs : ys.Pairwise (· ≤ ·)) : sortI xs = ys := by
  refine List.Perm.eq_of_pairwise (le := fun a b : Int => decide (a ≤ b) = true) ?_ (List.pairwise_mergeSort ?_ ?_ xs) (hs.imp fun h => by simpa using h) ((List.mergeSort_perm _ _).trans h)
  · intro a b _ _ h1 h2
    exact Int.le_antisymm (by simpa using h1) (by simpa using h2)
  · intro a b c h1 h2
    simp only [decide_eq_true_eq] at h1 h2 ⊢
    exact Int.le_trans h1 h2
  · intro a b
    rcases Int.le_total a b with h | h <;> simp [h]
def Rising (l : List (Str × Int)) : Prop := l.Pairwise fun p q => p.1 < q.1
theorem Rising.keys {l : List (Str × Int)} (h : Rising l) : (mkeys l).Pairwise (· ≤ ·) := List.pairwise_map.2 (h.imp fun h => List.le_of_lt h)

theorem names_list {w : World} {k : Nat} {F : Nat → Prop} {N : Nm} (h : IsNames w k F N) (hr : Rising N.l) (hl : N.l.length < 1000000) :
    Calls PP 15 #[.pointer (some ⟨k, 0, none⟩)] w (Ret fun r w' => ∃ A c, r = .slice A N.l.length c ∧ Keep No w w' ∧ Own Lst 9 w' No A N.l.length c (mkeys N.l) ∧ ∀ j, ownBlk A j → w.heap.size ≤ j) := by
  refine c15 ?_
  unfold S15
  obtain ⟨mb, h1, h2, h3, h4⟩ := h
  refine ⟨_, cell_at h1 rfl, ?_⟩
  refine CALL.i (R := fun r w' => ∃ k1, r = .func (.func 85) #[] ⟨[.pointer (some ⟨k1, 0, none⟩)]⟩ ∧ Keep No w w' ∧ At w' k1 (.cells ⟨[.map (some mb)]⟩ 89 (0, 0))) ?_ (by kernel_rfl) ?_
  · refine c38 ?_
    unfold S38
    exact NEW.i fun k1 w1 hk1 hs1 p1 a1 => ⟨k1, rfl, p1, a1⟩
  · rintro r w1 ⟨k1, rfl, p1, a1⟩
    have hm1 := h4.no p1
    have hlen : ∀ vis : List Str, vis.Nodup → (∀ y ∈ vis, y ∈ mkeys N.l) → vis.length ≤ N.l.length := fun vis hn hm => by
      have := nodup_length_le hn hm
      simpa [mkeys] using this
    refine CALL.i (sorted_str (keys_str a1 hm1) (fun j hj => ?_) ?_ ?_) (by kernel_rfl) ?_
    · rcases hj with rfl | rfl
      · exact a1.lt
      · exact hm1.lt
    · intro vis x hx
      have := hlen _ hx.1 hx.2
      simp at this
      omega
    · intro vis hv
      have := hv.length_eq
      simp [mkeys] at this
      omega
    · rintro r w2 ⟨A, c, xs, rfl, hS, k2, o2, f2⟩
      have hxs : xs.length = N.l.length := by
        have := hS.length_eq
        simpa [mkeys] using this
      rw [hxs] at o2 ⊢
      rw [sortS_perm hS hr.keys] at o2
      exact ⟨_, _, _, rfl, A, c, rfl, p1.trans k2, o2, fun j hj => by have := f2 j hj; have := p1.size; omega⟩
end Go.SW
