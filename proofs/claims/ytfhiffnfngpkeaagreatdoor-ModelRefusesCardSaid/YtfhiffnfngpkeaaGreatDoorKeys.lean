/- maps.Keys, slices.Collect, slices.Sorted, maps.Clone at the program's types. -/
import Derived.Test.YtfhiffnfngpkeaaGreatDoorIter
import Derived.Test.YtfhiffnfngpkeaaGreatDoorSBase
import Derived.Test.YtfhiffnfngpkeaaGreatDoorPlain
set_option linter.unusedVariables false
namespace Go.SW
open Go Go.Proofs Pl

def bs (l : Str) : ByteArray := ⟨⟨l⟩⟩
theorem bs_inj {a b : Str} (h : bs a = bs b) : a = b := by
  unfold bs at h
  cases h
  rfl
def Enm : KV Str Int := ⟨.string, fun l => .string (bs l), fun n => .int .i64 n, fun _ => trivial, fun a b h => bs_inj (Value.string.inj h)⟩
def Eml : KV Int Str := ⟨.int .i64, fun n => .int .i64 n, fun l => .string (bs l), fun _ => rfl, fun a b h => by cases h; rfl⟩
noncomputable def tinfo (t : TypeId) : TypeInfo := (PP.info? t).getD default
theorem T89 : MapTy Enm 89 9 3 (.int .i64 0) := ⟨by kernel_rfl, by kernel_rfl, ⟨tinfo 3, by kernel_rfl, by kernel_rfl⟩⟩
theorem T80 : MapTy Eml 80 3 9 (.string (bs [])) := ⟨by kernel_rfl, by kernel_rfl, ⟨tinfo 9, by kernel_rfl, by kernel_rfl⟩⟩

theorem mem_mkeys {κ ν : Type} {M : List (κ × ν)} {k : κ} (h : k ∈ mkeys M) : ∃ v, (k, v) ∈ M := by
  obtain ⟨p, hp, rfl⟩ := List.mem_map.1 h
  exact ⟨p.2, hp⟩

theorem nodup_length_le {α : Type} [DecidableEq α] : ∀ {l l' : List α}, l.Nodup → (∀ x ∈ l, x ∈ l') → l.length ≤ l'.length
  | [], _, _, _ => Nat.zero_le _
  | a :: l, l', hn, hs => by
    simp only [List.nodup_cons] at hn
    have h1 := nodup_length_le (l := l) (l' := l'.erase a) hn.2 (fun x hx => by
      refine (List.mem_erase_of_ne ?_).2 (hs x (List.mem_cons_of_mem _ hx))
      intro he
      exact hn.1 (he ▸ hx))
    have h2 := List.length_erase_of_mem (hs a List.mem_cons_self)
    have h3 : 0 < l'.length := List.length_pos_of_mem (hs a List.mem_cons_self)
    simp only [List.length_cons]
    omega

theorem keys_str {w : World} {k1 mb : Nat} {M : List (Str × Int)} (hk1 : At w k1 (.cells ⟨[.map (some mb)]⟩ 89 (0, 0))) (hm : MapAt Enm w mb M) :
    ITER (.func (.func 85) #[] ⟨[.pointer (some ⟨k1, 0, none⟩)]⟩) (fun s : Str => [.string (bs s)]) (fun vis x => (vis ++ [x]).Nodup ∧ ∀ y ∈ vis ++ [x], y ∈ mkeys M) (fun vis => vis.Perm (mkeys M)) (fun k => k = k1 ∨ k = mb) w := by
  refine ⟨85, _, rfl, by kernel_rfl, ?_⟩
  intro yv J F0 w1 hw1 hJ0 hframe hlt hsrc hstep
  have hk1' := hk1.no hw1
  have hm' := hm.no hw1
  have hnd := hm.nodup
  refine c85 ?_
  unfold S85
  refine ⟨_, cell_at hk1' rfl, ?_⟩
  refine map_range T89 hm' fun it w2 hit hs2 k2 hmi => ⟨_, rfl, ?_⟩
  have hmit : mb < it := by have := hm'.lt; omega
  have hk1it : k1 < it := by have := hk1'.lt; omega
  have hk1s := hk1'.lt
  have hmbs := hm'.lt
  refine ⟨fun w3 => ∃ vis F, MapIt Enm w3 mb it M vis.reverse ∧ J vis F w3 ∧ vis.Nodup ∧ (∀ x ∈ vis, x ∈ mkeys M) ∧ Keep F0 w1 w3 ∧ (∀ k, F k → F0 k ∨ w1.heap.size ≤ k) ∧ ¬ F it ∧ ¬ F mb,
    fun w3 => M.length - seenN w3 it, ⟨[], F0, hmi, hframe _ _ _ _ hJ0 (fun k hk => k2.keep k (hk.elim (hlt _ _ _ k hJ0) (fun h => by rcases h with h | h <;> omega)) (fun h => h)) k2.size, List.nodup_nil, (fun x hx => by cases hx), k2.no, (fun k hk => .inl hk), (fun h => by have := hlt _ _ _ it hJ0 h; omega), fun h => hsrc _ h (.inr rfl)⟩, ?_⟩
  rintro _ w3 ⟨vis, F, hmi, hJ, hn, hin, hk, hF, hnit, hnmb⟩
  refine map_next T89 hmi 0 ?_ ?_
  · intro hall
    refine ⟨_, _, rfl, ?_⟩
    refine ⟨hk, vis, F, ?_, hJ, hF⟩
    exact (List.perm_ext_iff_of_nodup hn hnd).2 fun x => ⟨hin x, fun hx => by simpa using hall x hx⟩
  · intro w4 k v hs4 k4 hkv hnk hmi4
    refine ⟨_, _, rfl, ?_⟩
    refine ⟨_, _, map_entry hmi4 hkv, _, _, rfl, ?_⟩
    have hkm : k ∈ mkeys M := List.mem_map.2 ⟨_, hkv, rfl⟩
    have hJ4 := hframe _ _ _ _ hJ (fun j hj => k4.keep j (hj.elim (hlt _ _ _ j hJ) (fun h => by have := hmi.lt; rcases h with h | h <;> omega)) (fun he => hj.elim (fun h => hnit (he ▸ h)) (fun h => by rcases h with h | h <;> omega))) (Nat.le_of_eq hs4.symm)
    have hnv : k ∉ vis := by simpa using hnk
    have hmem : ∀ x ∈ vis ++ [k], x ∈ mkeys M := by
      intro x hx
      rcases List.mem_append.1 hx with hx | hx
      · exact hin x hx
      · rw [List.mem_singleton.1 hx]; exact hkm
    have hnd' : (vis ++ [k]).Nodup := by
      rw [List.nodup_append]
      refine ⟨hn, by simp, ?_⟩
      intro a ha b hb
      rw [List.mem_singleton.1 hb]
      intro he
      exact hnv (he ▸ ha)
    refine CALLV.mono (hstep vis F w4 k hJ4 ⟨hnd', hmem⟩) ?_
    rintro r w5 ⟨rfl, k5, F', hJ5, hF'⟩
    refine ⟨_, rfl, ?_⟩
    have hit4 : it < w4.heap.size := hmi4.lt
    have hmb4 : mb < w4.heap.size := hmi4.map.lt
    have hmi5 := hmi4.kept k5 hnmb hnit
    refine ⟨⟨vis ++ [k], F', by simpa using hmi5, hJ5, hnd', hmem, ?_, ?_, ?_, ?_⟩, ?_⟩
    · have z := hk.fresh k4 (fun j hj => by rw [hj]; omega)
      exact z.trans' k5 (fun j hj hFj => (hF j hFj).resolve_right (by omega))
    · intro j hj
      rcases hF' j hj with h | h
      · exact hF j h
      · exact .inr (by have := hk.size; omega)
    · intro h
      rcases hF' _ h with h | h
      · exact hnit h
      · omega
    · intro h
      rcases hF' _ h with h | h
      · exact hnmb h
      · omega
    · have e1 := hmi5.seen
      have e2 := hmi.seen
      have hlen : (vis ++ [k]).length ≤ (mkeys M).length := by
        exact nodup_length_le hnd' hmem
      simp only [mkeys, List.length_map, List.length_append, List.length_singleton] at hlen
      show M.length - seenN w5 it < M.length - seenN w3 it
      rw [e1, e2]
      simp
      omega
theorem keys_int {w : World} {k1 mb : Nat} {M : List (Int × Str)} (hk1 : At w k1 (.cells ⟨[.map (some mb)]⟩ 80 (0, 0))) (hm : MapAt Eml w mb M) :
    ITER (.func (.func 88) #[] ⟨[.pointer (some ⟨k1, 0, none⟩)]⟩) (fun s : Int => [.int .i64 s]) (fun vis x => (vis ++ [x]).Nodup ∧ ∀ y ∈ vis ++ [x], y ∈ mkeys M) (fun vis => vis.Perm (mkeys M)) (fun k => k = k1 ∨ k = mb) w := by
  refine ⟨88, _, rfl, by kernel_rfl, ?_⟩
  intro yv J F0 w1 hw1 hJ0 hframe hlt hsrc hstep
  have hk1' := hk1.no hw1
  have hm' := hm.no hw1
  have hnd := hm.nodup
  refine c88 ?_
  unfold S88
  refine ⟨_, cell_at hk1' rfl, ?_⟩
  refine map_range T80 hm' fun it w2 hit hs2 k2 hmi => ⟨_, rfl, ?_⟩
  have hmit : mb < it := by have := hm'.lt; omega
  have hk1it : k1 < it := by have := hk1'.lt; omega
  have hk1s := hk1'.lt
  have hmbs := hm'.lt
  refine ⟨fun w3 => ∃ vis F, MapIt Eml w3 mb it M vis.reverse ∧ J vis F w3 ∧ vis.Nodup ∧ (∀ x ∈ vis, x ∈ mkeys M) ∧ Keep F0 w1 w3 ∧ (∀ k, F k → F0 k ∨ w1.heap.size ≤ k) ∧ ¬ F it ∧ ¬ F mb,
    fun w3 => M.length - seenN w3 it, ⟨[], F0, hmi, hframe _ _ _ _ hJ0 (fun k hk => k2.keep k (hk.elim (hlt _ _ _ k hJ0) (fun h => by rcases h with h | h <;> omega)) (fun h => h)) k2.size, List.nodup_nil, (fun x hx => by cases hx), k2.no, (fun k hk => .inl hk), (fun h => by have := hlt _ _ _ it hJ0 h; omega), fun h => hsrc _ h (.inr rfl)⟩, ?_⟩
  rintro _ w3 ⟨vis, F, hmi, hJ, hn, hin, hk, hF, hnit, hnmb⟩
  refine map_next T80 hmi 0 ?_ ?_
  · intro hall
    refine ⟨_, _, rfl, ?_⟩
    refine ⟨hk, vis, F, ?_, hJ, hF⟩
    exact (List.perm_ext_iff_of_nodup hn hnd).2 fun x => ⟨hin x, fun hx => by simpa using hall x hx⟩
  · intro w4 k v hs4 k4 hkv hnk hmi4
    refine ⟨_, _, rfl, ?_⟩
    refine ⟨_, _, map_entry hmi4 hkv, _, _, rfl, ?_⟩
    have hkm : k ∈ mkeys M := List.mem_map.2 ⟨_, hkv, rfl⟩
    have hJ4 := hframe _ _ _ _ hJ (fun j hj => k4.keep j (hj.elim (hlt _ _ _ j hJ) (fun h => by have := hmi.lt; rcases h with h | h <;> omega)) (fun he => hj.elim (fun h => hnit (he ▸ h)) (fun h => by rcases h with h | h <;> omega))) (Nat.le_of_eq hs4.symm)
    have hnv : k ∉ vis := by simpa using hnk
    have hmem : ∀ x ∈ vis ++ [k], x ∈ mkeys M := by
      intro x hx
      rcases List.mem_append.1 hx with hx | hx
      · exact hin x hx
      · rw [List.mem_singleton.1 hx]; exact hkm
    have hnd' : (vis ++ [k]).Nodup := by
      rw [List.nodup_append]
      refine ⟨hn, by simp, ?_⟩
      intro a ha b hb
      rw [List.mem_singleton.1 hb]
      intro he
      exact hnv (he ▸ ha)
    refine CALLV.mono (hstep vis F w4 k hJ4 ⟨hnd', hmem⟩) ?_
    rintro r w5 ⟨rfl, k5, F', hJ5, hF'⟩
    refine ⟨_, rfl, ?_⟩
    have hit4 : it < w4.heap.size := hmi4.lt
    have hmb4 : mb < w4.heap.size := hmi4.map.lt
    have hmi5 := hmi4.kept k5 hnmb hnit
    refine ⟨⟨vis ++ [k], F', by simpa using hmi5, hJ5, hnd', hmem, ?_, ?_, ?_, ?_⟩, ?_⟩
    · have z := hk.fresh k4 (fun j hj => by rw [hj]; omega)
      exact z.trans' k5 (fun j hj hFj => (hF j hFj).resolve_right (by omega))
    · intro j hj
      rcases hF' j hj with h | h
      · exact hF j h
      · exact .inr (by have := hk.size; omega)
    · intro h
      rcases hF' _ h with h | h
      · exact hnit h
      · omega
    · intro h
      rcases hF' _ h with h | h
      · exact hnmb h
      · omega
    · have e1 := hmi5.seen
      have e2 := hmi.seen
      have hlen : (vis ++ [k]).length ≤ (mkeys M).length := by
        exact nodup_length_le hnd' hmem
      simp only [mkeys, List.length_map, List.length_append, List.length_singleton] at hlen
      show M.length - seenN w5 it < M.length - seenN w3 it
      rw [e1, e2]
      simp
      omega


def Lst : Ly Str := .of 1 (fun l => [.string (bs l)]) (fun _ => rfl) (fun _ => rfl)
theorem Lst_plain : Lst.Plain := fun _ _ _ _ _ _ h => h
theorem T9 : ElemTy Lst 26 9 16 := ⟨by kernel_rfl, ⟨tinfo 9, (tinfo 9).zero.getD .nilIface, by kernel_rfl, by kernel_rfl, by kernel_rfl, by kernel_rfl, by kernel_rfl⟩, by omega, by show 0 < 1; omega⟩

theorem appendSeq_str {fv : Value} {Sx : List Str → Str → Prop} {S : List Str → Prop} {Src : Nat → Prop} {w : World} (hI : ITER fv (fun s : Str => [.string (bs s)]) Sx S Src w) (hS : ∀ k, Src k → k < w.heap.size)
    (hb : ∀ vis x, Sx vis x → vis.length < 1000000000) :
    Calls PP 124 #[.slice none 0 0, fv] w (Ret fun r w' => ∃ A c xs, r = .slice A xs.length c ∧ S xs ∧ Keep No w w' ∧ Own Lst 9 w' No A xs.length c xs ∧ ∀ j, ownBlk A j → w.heap.size ≤ j) := by
  refine c124 ?_
  unfold S124
  refine NEW.i fun k2 w1 hk2 hs1 p1 a1 => ?_
  have hI1 : ITER fv (fun s : Str => [.string (bs s)]) Sx S Src w1 := hI.later p1
  refine RANGE.i hI1 (fun _ => rfl) (fun k hk => by have := hS k hk; omega)
    (fun vis F a => ∃ A n c, At a k2 (.cells ⟨[.slice A n c]⟩ 26 (0, 0)) ∧ Own Lst 9 a No A n c vis ∧ (∀ j, F j ↔ j = k2 ∨ ownBlk A j) ∧ ∀ j, ownBlk A j → w1.heap.size ≤ j)
    (fun k => k = k2) (fun w2 hk => ⟨none, 0, 0, a1.no hk, Own.nil _ _ _ _, fun j => ⟨.inl, fun h => h.elim id (fun h => False.elim h)⟩, fun j h => False.elim h⟩) ?_ ?_ (fun k hk => by omega) (fun k hk hs => by have := hS k hs; omega) ?_ ?_
  · rintro vis F a b ⟨A, n, c, h1, h2, h3, h4⟩ hk hs
    exact ⟨A, n, c, (hk k2 ((h3 k2).2 (.inl rfl))).trans h1, h2.keep (fun j hj _ => hj.elim (fun h => False.elim h) (fun h => hk j ((h3 j).2 (.inr h)))), h3, h4⟩
  · rintro vis F a k ⟨A, n, c, h1, h2, h3, h4⟩ hk
    rcases (h3 k).1 hk with rfl | h
    · exact h1.lt
    · exact h2.lt k h
  · rintro vis F a x l ⟨A, n, c, h1, h2, h3, h4⟩ hx hl hla beg K hbeg
    have hlen := hb vis x hx
    refine ⟨_, _, rfl, _, rfl, rfl, ?_⟩
    refine hbeg _ _ (Keep.refl _ _) fun w4 hs4 k4 hK => ?_
    have hlk : l ≠ k2 := fun he => hl ((h3 l).2 (.inl he))
    have hlA : ¬ ownBlk A l := fun h => hl ((h3 l).2 (.inr h))
    have h14 := k4.at_ h1 (fun he => hlk he.symm)
    have h24 := h2.kept k4 (fun j hj _ he => hj.elim (fun h => h) (fun h => hlA (he ▸ h)))
    refine ⟨_, _, _, cell_at h14 rfl, ?_⟩
    refine NEW.i fun b w5 hb5 hs5 k5 a5 => ?_
    have hn := h2.len
    refine append_one T9 (h24.no k5) a5 (x := x) rfl (by omega) ?_ (fun k hk => False.elim hk)
    intro A' c' w6 k6 hb6 hs6 o6
    refine ⟨_, _, _, rfl, ?_⟩
    have hk2A : ¬ ownBlk A k2 := fun h => by have := h4 k2 h; have := h1.lt; omega
    have hk2A' : ¬ ownBlk A' k2 := fun h => by
      rcases hb6 k2 h with h | h
      · exact hk2A h
      · have := h14.lt; omega
    refine ST.i (k6.at_ (h14.no k5) hk2A) (Nat.le_refl _) rfl fun w7 hs7 k7 a7 => ?_
    refine hK w7 (fun j => j = k2 ∨ ownBlk A' j) ?_ ⟨A', n + 1, c', a7, ?_, fun j => Iff.rfl, ?_⟩ ?_
    · exact (k5.no.trans (k6.mono fun j _ hj => (h3 j).2 (.inr hj))).trans (k7.mono fun j _ hj => (h3 j).2 (.inl hj))
    · exact o6.kept k7 (fun j hj _ he => hj.elim (fun h => h) (fun h => hk2A' (he ▸ h)))
    · exact own_fresh hb6 h4 (by have := h1.lt; omega)
    · rintro j (rfl | h)
      · exact .inl ((h3 j).2 (.inl rfl))
      · rcases hb6 j h with h | h
        · exact .inl ((h3 j).2 (.inr h))
        · exact .inr (by omega)
  · rintro vis F D w2 hSv ⟨A, n, c, h1, h2, h3, h4⟩ hD hFD hDs hk hF
    refine ⟨_, _, _, cell_at h1 rfl, hD, ?_⟩
    obtain ⟨q1, q2, q3⟩ := putObj_keep (.deferred none) hD
    have hn := h2.len
    subst hn
    refine ⟨A, c, vis, rfl, hSv, ?_, ?_, fun j hj => by have := h4 j hj; omega⟩
    · exact (p1.trans' hk (fun k hk he => by omega)).fresh q1 (fun k hk => by omega)
    · exact h2.kept q1 (fun j hj _ he => hj.elim (fun h => h) (fun h => hFD ((h3 D).2 (.inr (he ▸ h)))))
theorem collect_str {fv : Value} {Sx : List Str → Str → Prop} {S : List Str → Prop} {Src : Nat → Prop} {w : World} (hI : ITER fv (fun s : Str => [.string (bs s)]) Sx S Src w) (hS : ∀ k, Src k → k < w.heap.size)
    (hb : ∀ vis x, Sx vis x → vis.length < 1000000000) :
    Calls PP 83 #[fv] w (Ret fun r w' => ∃ A c xs, r = .slice A xs.length c ∧ S xs ∧ Keep No w w' ∧ Own Lst 9 w' No A xs.length c xs ∧ ∀ j, ownBlk A j → w.heap.size ≤ j) := by
  refine c83 ?_
  unfold S83
  refine CALL.i (appendSeq_str hI hS hb) (by kernel_rfl) ?_
  rintro r w1 ⟨A, c, xs, rfl, h⟩
  exact ⟨_, _, _, rfl, A, c, xs, rfl, h⟩

theorem T3 : ElemTy Ly.int 54 3 8 := ⟨by kernel_rfl, ⟨tinfo 3, (tinfo 3).zero.getD .nilIface, by kernel_rfl, by kernel_rfl, by kernel_rfl, by kernel_rfl, by kernel_rfl⟩, by omega, by show 0 < 1; omega⟩

theorem appendSeq_int {fv : Value} {Sx : List Int → Int → Prop} {S : List Int → Prop} {Src : Nat → Prop} {w : World} (hI : ITER fv (fun s : Int => [.int .i64 s]) Sx S Src w) (hS : ∀ k, Src k → k < w.heap.size)
    (hb : ∀ vis x, Sx vis x → vis.length < 1000000000) :
    Calls PP 127 #[.slice none 0 0, fv] w (Ret fun r w' => ∃ A c xs, r = .slice A xs.length c ∧ S xs ∧ Keep No w w' ∧ Own Ly.int 3 w' No A xs.length c xs ∧ ∀ j, ownBlk A j → w.heap.size ≤ j) := by
  refine c127 ?_
  unfold S127
  refine NEW.i fun k2 w1 hk2 hs1 p1 a1 => ?_
  have hI1 : ITER fv (fun s : Int => [.int .i64 s]) Sx S Src w1 := hI.later p1
  refine RANGE.i hI1 (fun _ => rfl) (fun k hk => by have := hS k hk; omega)
    (fun vis F a => ∃ A n c, At a k2 (.cells ⟨[.slice A n c]⟩ 54 (0, 0)) ∧ Own Ly.int 3 a No A n c vis ∧ (∀ j, F j ↔ j = k2 ∨ ownBlk A j) ∧ ∀ j, ownBlk A j → w1.heap.size ≤ j)
    (fun k => k = k2) (fun w2 hk => ⟨none, 0, 0, a1.no hk, Own.nil _ _ _ _, fun j => ⟨.inl, fun h => h.elim id (fun h => False.elim h)⟩, fun j h => False.elim h⟩) ?_ ?_ (fun k hk => by omega) (fun k hk hs => by have := hS k hs; omega) ?_ ?_
  · rintro vis F a b ⟨A, n, c, h1, h2, h3, h4⟩ hk hs
    exact ⟨A, n, c, (hk k2 ((h3 k2).2 (.inl rfl))).trans h1, h2.keep (fun j hj _ => hj.elim (fun h => False.elim h) (fun h => hk j ((h3 j).2 (.inr h)))), h3, h4⟩
  · rintro vis F a k ⟨A, n, c, h1, h2, h3, h4⟩ hk
    rcases (h3 k).1 hk with rfl | h
    · exact h1.lt
    · exact h2.lt k h
  · rintro vis F a x l ⟨A, n, c, h1, h2, h3, h4⟩ hx hl hla beg K hbeg
    have hlen := hb vis x hx
    refine ⟨_, _, rfl, _, rfl, rfl, ?_⟩
    refine hbeg _ _ (Keep.refl _ _) fun w4 hs4 k4 hK => ?_
    have hlk : l ≠ k2 := fun he => hl ((h3 l).2 (.inl he))
    have hlA : ¬ ownBlk A l := fun h => hl ((h3 l).2 (.inr h))
    have h14 := k4.at_ h1 (fun he => hlk he.symm)
    have h24 := h2.kept k4 (fun j hj _ he => hj.elim (fun h => h) (fun h => hlA (he ▸ h)))
    refine ⟨_, _, _, cell_at h14 rfl, ?_⟩
    refine NEW.i fun b w5 hb5 hs5 k5 a5 => ?_
    have hn := h2.len
    refine append_one T3 (h24.no k5) a5 (x := x) rfl (by omega) ?_ (fun k hk => False.elim hk)
    intro A' c' w6 k6 hb6 hs6 o6
    refine ⟨_, _, _, rfl, ?_⟩
    have hk2A : ¬ ownBlk A k2 := fun h => by have := h4 k2 h; have := h1.lt; omega
    have hk2A' : ¬ ownBlk A' k2 := fun h => by
      rcases hb6 k2 h with h | h
      · exact hk2A h
      · have := h14.lt; omega
    refine ST.i (k6.at_ (h14.no k5) hk2A) (Nat.le_refl _) rfl fun w7 hs7 k7 a7 => ?_
    refine hK w7 (fun j => j = k2 ∨ ownBlk A' j) ?_ ⟨A', n + 1, c', a7, ?_, fun j => Iff.rfl, ?_⟩ ?_
    · exact (k5.no.trans (k6.mono fun j _ hj => (h3 j).2 (.inr hj))).trans (k7.mono fun j _ hj => (h3 j).2 (.inl hj))
    · exact o6.kept k7 (fun j hj _ he => hj.elim (fun h => h) (fun h => hk2A' (he ▸ h)))
    · exact own_fresh hb6 h4 (by have := h1.lt; omega)
    · rintro j (rfl | h)
      · exact .inl ((h3 j).2 (.inl rfl))
      · rcases hb6 j h with h | h
        · exact .inl ((h3 j).2 (.inr h))
        · exact .inr (by omega)
  · rintro vis F D w2 hSv ⟨A, n, c, h1, h2, h3, h4⟩ hD hFD hDs hk hF
    refine ⟨_, _, _, cell_at h1 rfl, hD, ?_⟩
    obtain ⟨q1, q2, q3⟩ := putObj_keep (.deferred none) hD
    have hn := h2.len
    subst hn
    refine ⟨A, c, vis, rfl, hSv, ?_, ?_, fun j hj => by have := h4 j hj; omega⟩
    · exact (p1.trans' hk (fun k hk he => by omega)).fresh q1 (fun k hk => by omega)
    · exact h2.kept q1 (fun j hj _ he => hj.elim (fun h => h) (fun h => hFD ((h3 D).2 (.inr (he ▸ h)))))
theorem collect_int {fv : Value} {Sx : List Int → Int → Prop} {S : List Int → Prop} {Src : Nat → Prop} {w : World} (hI : ITER fv (fun s : Int => [.int .i64 s]) Sx S Src w) (hS : ∀ k, Src k → k < w.heap.size)
    (hb : ∀ vis x, Sx vis x → vis.length < 1000000000) :
    Calls PP 86 #[fv] w (Ret fun r w' => ∃ A c xs, r = .slice A xs.length c ∧ S xs ∧ Keep No w w' ∧ Own Ly.int 3 w' No A xs.length c xs ∧ ∀ j, ownBlk A j → w.heap.size ≤ j) := by
  refine c86 ?_
  unfold S86
  refine CALL.i (appendSeq_int hI hS hb) (by kernel_rfl) ?_
  rintro r w1 ⟨A, c, xs, rfl, h⟩
  exact ⟨_, _, _, rfl, A, c, xs, rfl, h⟩

end Go.SW
