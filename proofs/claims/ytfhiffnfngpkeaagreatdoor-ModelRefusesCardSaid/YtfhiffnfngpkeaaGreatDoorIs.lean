/- Is a store's names, a mailbox, an answer the document's? -/
import Derived.Test.YtfhiffnfngpkeaaGreatDoorPack
set_option linter.unusedVariables false
namespace Go.SW
open Go Go.Proofs Pl

/-- of names: few, none of them empty -/
def Nk (N : Nm) : Prop := N.l.length ≤ 16 ∧ ∀ p ∈ N.l, p.1 ≠ [] ∧ p.1.length ≤ 32
theorem checkN_len {s : Str} (h : checkN s = true) : s ≠ [] ∧ s.length ≤ 32 := by
  unfold checkN at h
  simp only [Bool.and_eq_true, Bool.not_eq_true', decide_eq_true_eq] at h
  refine ⟨fun hc => ?_, h.1.1.1.2⟩
  rw [hc] at h
  simp at h
theorem nk_create {N : Nm} (h : Nk N) (s : Str) : Nk (createN N s).1 := by
  unfold createN
  split
  · exact h
  · split
    · exact h
    · split
      · exact h
      · rename_i h1 h2 h3
        have hc := checkN_len (by simpa using h1)
        refine ⟨by show (putN _ _).length ≤ 16; rw [putN_length]; omega, fun p hp => ?_⟩
        rcases putN_mem.1 hp with rfl | hp
        · exact hc
        · exact h.2 p hp
theorem nk_del {N : Nm} (h : Nk N) (s : Str) : (delN N.l s).length ≤ 16 ∧ ∀ p ∈ delN N.l s, p.1 ≠ [] ∧ p.1.length ≤ 32 :=
  ⟨Nat.le_trans (List.length_filter_le _ _) h.1, fun p hp => h.2 p (delN_mem.1 hp).1⟩
theorem nk_delete {N : Nm} (h : Nk N) (s : Str) : Nk (deleteN N s).1 := by
  unfold deleteN
  cases ofN N s with
  | none => exact h
  | some id => exact nk_del h s
theorem nk_rename {N : Nm} (h : Nk N) (s t : Str) : Nk (renameN N s t).1 := by
  unfold renameN
  cases hof : ofN N s with
  | none => exact h
  | some id =>
    simp only
    split
    · exact h
    · split
      · exact h
      · rename_i h1 h2
        have hc := checkN_len (by simpa using h1)
        have hd := nk_del h s
        have hm : (delN N.l s).length < N.l.length := by
          have := ofN_mem hof
          refine List.length_filter_lt_length_iff_exists.2 ⟨_, this, by simp⟩
        refine ⟨by show (putN _ _).length ≤ 16; rw [putN_length]; have := h.1; omega, fun p hp => ?_⟩
        rcases putN_mem.1 hp with rfl | hp
        · exact hc
        · exact hd.2 p hp
theorem nk_act {M : Md} (h : Nk M.n) (o : Pl.Op) : Nk (act M o).1.n := by
  unfold act
  split
  · unfold named
    split
    · have := nk_create h o.box
      by_cases hc : (createN M.n o.box).2.2 = 0 <;> simp [hc] <;> exact this
    · split
      · have := nk_delete h o.box
        by_cases hc : (deleteN M.n o.box).2.2 = 0 <;> simp [hc] <;> exact this
      · have := nk_rename h o.box o.to
        by_cases hc : (renameN M.n o.box o.to).2.2 = 0 <;> simp [hc] <;> exact this
  split
  · exact h
  split
  · exact h
  split
  · exact h
  split
  · unfold within
    cases hf : find M o.box with
    | none => exact h
    | some x =>
      simp only
      split
      · exact h
      split
      · unfold append
        split
        · exact h
        · by_cases hc : (addB x M.next o.flags).2.2 = 0 <;> simp [hc] <;> exact h
      split
      · exact h
      split
      · unfold copy
        cases find M o.to with
        | none => exact h
        | some y =>
          simp only
          cases findB x o.uid with
          | none => exact h
          | some e =>
            simp only
            split
            · exact h
            · split
              · split
                · exact h
                · exact h
              · exact h
      split
      · split
        · exact h
        · exact h
      · exact h
  · exact h

theorem names_name {w : World} {k : Nat} {F : Nat → Prop} {N : Nm} (h : IsNames w k F N) (id : Int) :
    Calls PP 99 #[.pointer (some ⟨k, 0, none⟩), .int .i64 id] w (Ret fun r w' => Keep No w w' ∧ ((∃ s, (s, id) ∈ N.l ∧ r = .tuple #[.string (bs s), .bool true]) ∨ ((∀ p ∈ N.l, p.2 ≠ id) ∧ r = .tuple #[.string (⟨#[]⟩ : ByteArray), .bool false]))) := by
  have hnd := h.nodup
  obtain ⟨mb, h1, h2, h3, h4⟩ := h
  refine c99 ?_
  unfold S99
  refine ⟨_, cell_at h1 rfl, map_range T89 h4 fun it w1 hit hs1 q1 hmi => ⟨_, rfl, ?_⟩⟩
  refine ⟨fun w2 => ∃ vis, MapIt Enm w2 mb it N.l vis ∧ Keep No w w2 ∧ vis.Nodup ∧ (∀ s ∈ vis, s ∈ mkeys N.l) ∧ ∀ p ∈ N.l, p.1 ∈ vis → p.2 ≠ id, fun w2 => N.l.length - seenN w2 it, ⟨[], hmi, q1, List.nodup_nil, fun s hs => (by cases hs), fun p _ hp => (by cases hp)⟩, ?_⟩
  rintro _ w2 ⟨vis, hmi2, q2, hnv, hin, hne⟩
  refine map_next T89 hmi2 0 ?_ ?_
  · intro hall
    refine ⟨_, _, rfl, q2, .inr ⟨fun p hp => hne p hp (hall p.1 (List.mem_map.2 ⟨p, hp, rfl⟩)), rfl⟩⟩
  · intro w3 s v hs3 q3 hkv hnk hmi3
    refine ⟨_, _, rfl, ⟨_, _, map_entry hmi3 hkv, _, _, rfl, ?_⟩⟩
    have z3 : Keep No w w3 := q2.tmp q3 (by omega)
    refine split_i (fun he => ⟨z3, .inl ⟨s, ?_, rfl⟩⟩) (fun he => ⟨⟨s :: vis, hmi3, z3, List.nodup_cons.2 ⟨hnk, hnv⟩, ?_, ?_⟩, ?_⟩)
    · have : v = id := by simpa using he
      rw [← this]; exact hkv
    · intro a ha
      rcases List.mem_cons.1 ha with rfl | ha
      · exact List.mem_map.2 ⟨_, hkv, rfl⟩
      · exact hin a ha
    · intro p hp hpv
      rcases List.mem_cons.1 hpv with hps | hpv
      · have h5 := mget_of_mem hnd (show (p.1, p.2) ∈ N.l from hp)
        have h6 := mget_of_mem hnd hkv
        rw [hps, h6] at h5
        have : v = p.2 := Option.some.inj h5
        rw [← this]
        simpa using he
      · exact hne p hp hpv
    · have e1 := hmi3.seen
      have e2 := hmi2.seen
      have hlen : (s :: vis).length ≤ (mkeys N.l).length := nodup_length_le (List.nodup_cons.2 ⟨hnk, hnv⟩) (fun a ha => by
        rcases List.mem_cons.1 ha with rfl | ha
        · exact List.mem_map.2 ⟨_, hkv, rfl⟩
        · exact hin a ha)
      simp only [mkeys, List.length_map, List.length_cons] at hlen
      show N.l.length - seenN w3 it < N.l.length - seenN w2 it
      rw [e1, e2]
      simp
      omega

theorem names_pack {w : World} {k : Nat} {F : Nat → Prop} {N : Nm} (h : IsNames w k F N) (hF : ∀ j, F j → j < w.heap.size) (hr : Rising N.l) (hn : Nk N) :
    Calls PP 101 #[.pointer (some ⟨k, 0, none⟩)] w (Ret fun r w' => r = .string (bs (packN N)) ∧ Keep No w w') := by
  refine c101 ?_
  unfold S101
  have hn16 := hn.1
  refine NEW.i fun k3 w1 hk3 hs1 q1 a1 => DRAW.i fun w2 hw2 q2 => ?_
  have g2 : Bu w w2 k3 (fun j => j = k3) [] := (Bu.new q1 a1 (by omega)).no q2
  have hs2 : w2.heap.size = w1.heap.size := by rw [hw2]
  have n2 := (h.no q1).no q2
  obtain ⟨mb, e1, e2, e3, e4⟩ := n2
  refine ⟨_, cell_at e1 rfl, _, cell_at e1 rfl, _, map_len T89 e4 3, NEW.i fun k15 w3 hk15 hs3 q3 a3 => ?_⟩
  have a3' : At w3 k15 (.cells ⟨[N.next, (N.l.length : Int)].map fun x => .int .i64 x⟩ 3 (0, 0)) := a3
  refine CALL.i (out_num (g2.no q3) (lit_int a3' rfl) (fun j hj => by rw [hj]; exact ⟨by omega, fun hc => by have : k15 = k3 := hc; omega⟩) (by simp)) (by kernel_rfl) ?_
  rintro r w4 ⟨rfl, S4, y4, q4, g4⟩
  have nS : ∀ j, F j → ¬ j = k3 := fun j hj he => by have := hF j hj; omega
  have n4 := (((h.no q1).no q2).no q3).kept q4 (fun j hj hs => nS j hj hs)
  refine ⟨_, rfl, CALL.i (names_list n4 hr (by omega)) (by kernel_rfl) ?_⟩
  rintro r w5 ⟨A, c, rfl, q5, o5, f5⟩
  have n5 := n4.no q5
  have g5 := g4.no q5
  have r4 : ∀ j, S4 j → j < w4.heap.size := fun j hj => (g4.rng j hj).2
  refine ⟨_, _, _, rfl, ?_⟩
  have hkl : (mkeys N.l).length = N.l.length := by simp [mkeys]
  refine ⟨fun y w6 => ∃ (i : Nat) (S6 : Nat → Prop), y = i ∧ i ≤ N.l.length ∧ Grow S4 w5 S6 ∧ Keep S4 w5 w6 ∧ Bu w w6 k3 S6 (be8 N.next ++ be8 N.l.length ++ (N.l.take i).flatMap nmB), fun y _ => ((N.l.length : Int) - y).toNat, ⟨0, S4, rfl, Nat.zero_le _, Grow.refl _ _, Keep.refl _ _, by simpa using g5⟩, ?_⟩
  rintro _ y w6 ⟨i, S6, rfl, hi, y6, q6, g6⟩
  have nS4 : ∀ j, F j → ¬ S4 j := fun j hj hc => by have := (g4.rng j hc).1; have := hF j hj; omega
  have hfl := nmB_len (N.l.take i)
  rw [List.length_take] at hfl
  refine split_dec (fun hlt => ?_) (fun hge => ?_)
  · have hlt' : i < N.l.length := by omega
    refine ⟨⟨by omega, hlt⟩, ?_⟩
    obtain ⟨p, hp⟩ : ∃ p, N.l[i]? = some p := ⟨_, List.getElem?_eq_getElem hlt'⟩
    have hpm := List.mem_of_getElem? hp
    obtain ⟨a, s, hA, hs, hrd⟩ := (o5.sl.kept q6 (fun j hj _ hc => by
      rcases hj with hj | hj
      · exact hj
      · have := r4 j hc; have := f5 j hj; omega)).stx hlt'
    have hsp : s = p.1 := by
      have : (mkeys N.l)[i]? = some p.1 := by simp [mkeys, hp]
      rw [this] at hs
      exact (Option.some.inj hs).symm
    subst hsp
    have hps := hn.2 p hpm
    have n6 := n5.kept q6 (fun j hj hc => nS4 j hj hc)
    refine SOMEA.i hA ⟨_, by rw [Int.toNat_natCast]; exact hrd, DRAW.i fun w7 hw7 q7 => ?_⟩
    have n7 := n6.no q7
    have g7 := g6.no q7
    have hw7 : w7.heap.size = w6.heap.size := by rw [hw7]
    have hlook : ∀ {w' : World} {mb : Nat}, MapAt Enm w' mb N.l → (Instr.lookup 89 (.map (some mb)) (.string (bs p.1)) false).run PP w' = .ok (.int .i64 p.2) w' := fun hm => by
      have := map_lookup1 T89 hm p.1
      rw [mget_of_mem hr.nodup (show (p.1, p.2) ∈ N.l from hpm)] at this
      exact this
    obtain ⟨mb, e1, e2, e3, e4⟩ := n7
    refine ⟨_, cell_at e1 rfl, _, hlook e4, _, rfl, ?_, ?_⟩
    · refine CALL.i (out_fixed g7 p.1 (by omega) (by simp only [List.length_append, be8_len, hfl]; omega)) (by kernel_rfl) ?_
      rintro r w8 ⟨rfl, S8, y8, q8, g8⟩
      have nS6 : ∀ j, F j → ¬ S6 j := fun j hj hc => by have := (g6.rng j hc).1; have := hF j hj; omega
      have e1' := q8.at_ e1 (nS6 k e2)
      have e4' := e4.kept q8 (nS6 mb e3)
      refine ⟨_, rfl, hlook e4', loadVar_cell (by kernel_rfl) (cell_at e1' rfl), NEW.i fun k32 w9 hk32 hs9 q9 a9 => ?_⟩
      have a9' : At w9 k32 (.cells ⟨[p.2].map fun x => .int .i64 x⟩ 3 (0, 0)) := a9
      have r8 : ∀ j, S8 j → j < w8.heap.size := fun j hj => (g8.rng j hj).2
      refine CALL.i (out_num (g8.no q9) (lit_int a9' rfl) (fun j hj => by rw [hj]; exact ⟨by omega, fun hc => by have := r8 _ hc; omega⟩) (by simp only [List.length_append, be8_len, hfl, fx_len]; omega)) (by kernel_rfl) ?_
      rintro r w10 ⟨rfl, S10, y10, q10, g10⟩
      have hq8 := q8.size
      refine ⟨_, rfl, ⟨i + 1, S10, wrapS (by omega), hlt', ?_, ?_, ?_⟩, mu_go (wrapS (by omega)) hlt'⟩
      · exact (y6.trans (S2 := S8) ⟨y8.1, fun j hj => (y8.2 j hj).imp id (fun h' => by omega)⟩ q6.size).trans (w1 := w8) ⟨y10.1, fun j hj => (y10.2 j hj).imp id (fun h' => by omega)⟩ (by have := q6.size; omega)
      · refine (((q6.and_no q7).trans' q8 (fun j hj hc => (y6.2 j hc).resolve_right (Nat.not_le.2 hj))).and_no q9).trans' q10 (fun j hj hc => ?_)
        rcases y8.2 j hc with h' | h'
        · exact (y6.2 j h').resolve_right (Nat.not_le.2 hj)
        · have := q6.size; omega
      · rw [take_succ_some hp, List.flatMap_append]
        simpa [nmB, List.append_assoc] using g10
    · refine NEW.i fun k32 w8 hk32 hs8 q8 a8 => ?_
      have r7 : ∀ j, S6 j → j < w7.heap.size := fun j hj => (g7.rng j hj).2
      refine CALL.i (out_fixed (g7.no q8) p.1 (by omega) (by simp only [List.length_append, be8_len, hfl]; omega)) (by kernel_rfl) ?_
      rintro r w9 ⟨rfl, S9, y9, q9, g9⟩
      have a8' : At w8 k32 (.cells ⟨[p.2].map fun x => .int .i64 x⟩ 3 (0, 0)) := a8
      have nk32 : ¬ S6 k32 := fun hc => by have := r7 _ hc; omega
      have a9' := q9.at_ a8' nk32
      have hq9 := q9.size
      refine ⟨_, rfl, CALL.i (out_num g9 (lit_int a9' rfl) (fun j hj => by rw [hj]; exact ⟨by omega, y9.out (by omega) nk32⟩) (by simp only [List.length_append, be8_len, hfl, fx_len]; omega)) (by kernel_rfl) ?_⟩
      rintro r w10 ⟨rfl, S10, y10, q10, g10⟩
      refine ⟨_, rfl, ⟨i + 1, S10, wrapS (by omega), hlt', ?_, ?_, ?_⟩, mu_go (wrapS (by omega)) hlt'⟩
      · exact (y6.trans (S2 := S9) ⟨y9.1, fun j hj => (y9.2 j hj).imp id (fun h' => by omega)⟩ q6.size).trans (w1 := w9) ⟨y10.1, fun j hj => (y10.2 j hj).imp id (fun h' => by omega)⟩ (by have := q6.size; omega)
      · refine (((q6.and_no q7).and_no q8).trans' q9 (fun j hj hc => (y6.2 j hc).resolve_right (Nat.not_le.2 hj))).trans' q10 (fun j hj hc => ?_)
        rcases y9.2 j hc with h' | h'
        · exact (y6.2 j h').resolve_right (Nat.not_le.2 hj)
        · have := q6.size; omega
      · rw [take_succ_some hp, List.flatMap_append]
        simpa [nmB, List.append_assoc] using g10
  · have hie : i = N.l.length := by omega
    rw [hie, List.take_length] at g6
    have hfl := nmB_len N.l
    refine CALL.i (R := fun r w' => r = .string (bs (packN N)) ∧ Keep S6 w6 w') ?_ (by kernel_rfl) ?_
    · refine c138 ?_
      unfold S138
      refine CALL.i (out_string g6 (by simp [be8]) (by simp only [List.length_append, be8_len, hfl]; omega)) (by kernel_rfl) ?_
      rintro r w7 ⟨rfl, q7⟩
      exact ⟨_, rfl, rfl, q7⟩
    · rintro r w7 ⟨rfl, q7⟩
      exact ⟨_, rfl, rfl, g6.keep.fresh q7 (fun j hj => (g6.rng j hj).1)⟩

theorem is_names {w : World} {k : Nat} {F : Nat → Prop} {N : Nm} (h : IsNames w k F N) (hF : ∀ j, F j → j < w.heap.size) (hr : Rising N.l) (hn : Nk N) (hid : IdsOk N.l) (hnd : (N.l.map (·.2)).Nodup) (hx : N.next < 1000000000) (hi9 : ∀ p ∈ N.l, p.2 < 1000000000)
    {A : Option Addr} {n c : Nat} {G : Nat → Prop} (hs : Sl Lnm w G A n c N.l) :
    Calls PP 64 #[.pointer (some ⟨k, 0, none⟩), .agg #[.slice A n c, .int .i64 N.next]] w (Ret fun r w' => r = .bool true ∧ Keep No w w') := by
  refine c64 ?_
  unfold S64
  have hlen := hs.len
  have hn16 := hn.1
  refine NEW.i fun k3 w1 hk3 hs1 q1 a1 => ⟨_, _, _, cell_at a1 rfl, ?_⟩
  refine ⟨fun A5 n5 c5 x w2 => ∃ i : Nat, x = i ∧ i ≤ n ∧ Og Lst 9 No w1 w2 A5 n5 c5 (mkeys (N.l.take i)), fun _ _ _ x _ => ((n : Int) - x).toNat, ⟨0, rfl, Nat.zero_le _, Og.none (Keep.refl _ _) (fun j hj => False.elim hj)⟩, ?_⟩
  rintro _ A5 n5 c5 x w2 ⟨i, rfl, hi, g2⟩
  have hn5 := g2.own.len
  simp only [mkeys, List.length_map, List.length_take] at hn5
  refine split_dec (fun hlt => ?_) (fun hge => ?_)
  · have hlt' : i < n := by omega
    refine ⟨fun A' n' c' w3 => Og Lst 9 No w1 w3 A' n' c' (mkeys (N.l.take (i + 1))), ⟨⟨by omega, hlt⟩, ?_⟩, ?_⟩
    · obtain ⟨a, p, hA, hp, hrd⟩ := ((hs.no q1).no g2.keep).nm hlt'
      have hpm := List.mem_of_getElem? hp
      refine SOMEA.i hA ⟨_, _, by rw [Int.toNat_natCast]; exact hrd, NEW.i fun k7 w3 hk7 hs3 q3 a3 => ST.i a3 (by simp) rfl fun w4 hs4 q4 a4 => ⟨_, cell_at a4 rfl, NEW.i fun k26 w5 hk26 hs5 q5 a5 => ?_⟩⟩
      have hg2 := g2.keep.size
      have g4 := (g2.no q3).st q4 (by omega) (g2.fresh (by omega))
      have n7 : ¬ ownBlk A5 k7 := g2.fresh (by omega)
      refine (g4.no q5).one T9 a5 (x := p.1) rfl (by omega) fun A' c' w6 q6 g6 hb6 => ⟨_, _, _, rfl, ?_⟩
      have b6 := (a4.no q5).own_ q6 n7
      have z6 := q1.trans g6.keep
      refine ⟨_, cell_at b6 rfl, CALL.i (names_of (h.no z6) p.1) (by kernel_rfl) ?_⟩
      rintro r w7 ⟨rfl, rfl⟩
      have hof : ofN N p.1 = some p.2 := mget_of_mem hr.nodup (show (p.1, p.2) ∈ N.l from hpm)
      rw [hof]
      refine ⟨_, _, rfl, _, cell_at b6 rfl, CALL.i (names_name (h.no z6) p.2) (by kernel_rfl) ?_⟩
      rintro r w8 ⟨q8, hnm⟩
      have hnm' : r = .tuple #[.string (bs p.1), .bool true] := by
        rcases hnm with ⟨s, hs', rfl⟩ | ⟨hno, _⟩
        · have : (s, p.2) = p := inj_of_nodup_map (·.2) hnd hs' hpm rfl
          have : s = p.1 := congrArg Prod.fst this
          rw [this]
        · exact absurd rfl (hno p hpm)
      subst hnm'
      refine ⟨_, _, rfl, fun q w9 => w9 = w8 ∧ q = false, ?_, ?_⟩
      · refine split_i (fun hc => by simp at hc) (fun _ => ⟨_, cell_at (b6.no q8) rfl, split_i (fun hc => by simp at hc) (fun _ => split_i (fun hc => by simp at hc) (fun _ => ⟨_, cell_at (b6.no q8) rfl, rfl, by simp⟩))⟩)
      · rintro _ q w9 ⟨rfl, rfl⟩
        refine split_i (fun hc => by cases hc) (fun _ => ?_)
        rw [take_succ_some hp]
        have : mkeys (N.l.take i ++ [p]) = mkeys (N.l.take i) ++ [p.1] := by simp [mkeys]
        rw [this]
        exact g6.no q8
    · rintro _ A' n' c' w3 g3
      exact ⟨⟨i + 1, wrapS (by omega), hlt', g3⟩, mu_go (wrapS (by omega)) hlt'⟩
  · have hie : i = N.l.length := by omega
    rw [hie, List.take_length] at g2
    have z2 := q1.trans g2.keep
    have hof : ofN N [] = none := by
      show mget N.l [] = none
      rw [mget_none]
      intro hc
      obtain ⟨q, hq, he⟩ := List.mem_map.1 hc
      exact (hn.2 q hq).1 he
    refine CALL.i (names_of (h.no z2) []) (by kernel_rfl) ?_
    rintro r w3 ⟨rfl, rfl⟩
    rw [hof]
    refine ⟨_, _, rfl, CALL.i (names_name (h.no z2) 0) (by kernel_rfl) ?_⟩
    rintro r w4 ⟨q4, hnm⟩
    have hnm' : r = .tuple #[.string (⟨#[]⟩ : ByteArray), .bool false] := by
      rcases hnm with ⟨s, hs', rfl⟩ | ⟨_, rfl⟩
      · have := hid _ hs'
        simp at this
      · rfl
    subst hnm'
    refine ⟨_, _, rfl, DRAW.i fun w5 hw5 q5 => split_i (fun _ => split_i (fun _ => ?_) (fun hc => by simp at hc)) (fun hc => by simp at hc)⟩
    have z5 := (z2.trans q4).trans q5
    refine CALL.i (names_list (h.no z5) hr (by omega)) (by kernel_rfl) ?_
    rintro r w6 ⟨A6, c6, rfl, q6, o6, f6⟩
    refine ⟨_, _, _, rfl, CALL.i (same_str o6.sl (((g2.no q4).no q5).no q6).gn (by omega)) (by kernel_rfl) ?_⟩
    rintro r w7 ⟨rfl, q7⟩
    have z7 := (z5.trans q6).trans q7
    have a7 := a1.no ((((g2.keep.trans q4).trans q5).trans q6).trans q7)
    refine ⟨_, rfl, split_i (fun _ => ?_) (fun hc => by cases hc)⟩
    refine ⟨_, cell_at a7 rfl, CALL.i (names_next (h.no z7)) (by kernel_rfl) ?_⟩
    rintro r w8 ⟨rfl, rfl⟩
    refine ⟨_, rfl, loadVar_cell (by kernel_rfl) (cell_at a7 rfl), split_i (fun _ => ?_) (fun hc => by simp at hc)⟩
    refine ⟨_, _, _, _, RD.i a7, CALL.i (names_pack (h.no z7) (fun j hj => by have := hF j hj; have := z7.size; omega) hr hn) (by kernel_rfl) ?_⟩
    rintro r w9 ⟨rfl, q9⟩
    have ld65 : ∀ (a : Addr) (w : World) (K : Value → Prop), LD PP 65 a w K = ∃ (A : Option Addr) (n c : Nat) (x : Int), RD w a 0 [.slice A n c, .int .i64 x] ∧ K (.agg #[.slice A n c, .int .i64 x]) := fun a w K => by kernel_rfl
    refine ⟨_, rfl, load_of (ld65 _ _ _) ⟨_, _, _, _, RD.i (a7.no q9), rfl⟩, CALL.i (ref_pack17 (hs.no (z7.trans q9)) (by omega) hx (fun p hp => ⟨by have := (hn.2 p hp).2; omega, hi9 p hp⟩)) (by kernel_rfl) ?_⟩
    rintro r w10 ⟨rfl, q10⟩
    exact ⟨_, rfl, by simp, (z7.trans q9).trans q10⟩

theorem is_box {w : World} {k : Nat} {F : Nat → Prop} {x : Bx} (h : IsBox w k F x) (hF : ∀ j, F j → j < w.heap.size) (hl : x.l.length < 1000) (hf : FlagsOk x) (hv : x.validity < 1000000000 ∧ x.next < 1000000000) (he : ∀ e ∈ x.l, e.uid < 1000000000 ∧ e.flags < 1000000000 ∧ e.mail < 1000000000)
    {A : Option Addr} {n c : Nat} {G : Nat → Prop} (hs : Sl Lent w G A n c x.l) :
    Calls PP 65 #[.pointer (some ⟨k, 0, none⟩), .agg #[.int .i64 x.validity, .int .i64 x.next, .slice A n c]] w (Ret fun r w' => r = .bool true ∧ Keep No w w') := by
  refine c65 ?_
  unfold S65
  have hlen := hs.len
  refine NEW.i fun k3 w1 hk3 hs1 q1 a1 => DRAW.i fun w2 hw2 q2 => ?_
  have b2 := a1.no q2
  have z2 := q1.trans q2
  refine ⟨_, _, _, cell_at b2 rfl, CALL.i (box_list (G := No) (h.no z2) (by omega) (fun j hj => False.elim hj)) (by kernel_rfl) ?_⟩
  rintro r w3 ⟨A3, c3, rfl, q3, o3, f3⟩
  have z3 := z2.trans q3
  refine ⟨_, _, _, rfl, loadVar_cell (by kernel_rfl) (cell_at (b2.no q3) rfl), CALL.i (same_ent o3.sl (hs.no z3) (by omega)) (by kernel_rfl) ?_⟩
  rintro r w4 ⟨rfl, q4⟩
  have z4 := z3.trans q4
  have b4 := (b2.no q3).no q4
  refine ⟨_, rfl, split_i (fun _ => ?_) (fun hc => by cases hc)⟩
  refine ⟨_, cell_at b4 rfl, CALL.i (box_next (h.no z4)) (by kernel_rfl) ?_⟩
  rintro r w5 ⟨rfl, rfl⟩
  refine ⟨_, rfl, loadVar_cell (by kernel_rfl) (cell_at b4 rfl), split_i (fun _ => ?_) (fun hc => by simp at hc)⟩
  refine ⟨_, cell_at b4 rfl, CALL.i (box_validity (h.no z4)) (by kernel_rfl) ?_⟩
  rintro r w6 ⟨rfl, rfl⟩
  refine ⟨_, rfl, loadVar_cell (by kernel_rfl) (cell_at b4 rfl), split_i (fun _ => ?_) (fun hc => by simp at hc)⟩
  refine ⟨_, _, _, _, _, RD.i b4, CALL.i (box_unseen (h.no z4) hf (by omega)) (by kernel_rfl) ?_⟩
  rintro r w7 ⟨rfl, q7⟩
  refine ⟨_, rfl, load108 (RD.i (b4.no q7)), CALL.i (ref_unseen (hs.no (z4.trans q7)) (by omega) hf) (by kernel_rfl) ?_⟩
  rintro r w8 ⟨rfl, q8⟩
  have z8 := (z4.trans q7).trans q8
  have b8 := (b4.no q7).no q8
  refine ⟨_, rfl, split_i (fun _ => ?_) (fun hc => by simp at hc)⟩
  refine ⟨_, _, _, _, _, RD.i b8, CALL.i (box_pack (h.no z8) (fun j hj => by have := hF j hj; have := z8.size; omega) hl) (by kernel_rfl) ?_⟩
  rintro r w9 ⟨rfl, q9⟩
  refine ⟨_, rfl, load108 (RD.i (b8.no q9)), CALL.i (ref_pack18 (hs.no (z8.trans q9)) (by omega) hv he) (by kernel_rfl) ?_⟩
  rintro r w10 ⟨rfl, q10⟩
  exact ⟨_, rfl, by simp, (z8.trans q9).trans q10⟩
end Go.SW
set_option linter.unusedVariables false
namespace Go.SW
open Go Go.Proofs Pl

theorem T131e : ∃ fs, StructTy PP 131 fs ∧ ∀ a b : Hit, eqF PP fs (hcells a) (hcells b) = some ((a.box == b.box) && ((a.uid == b.uid) && ((a.flags == b.flags) && true))) :=
  ⟨(PP.fieldsOf 131).toList, ⟨by kernel_rfl, rfl, by kernel_rfl, by kernel_rfl⟩, fun a b => by
    have h : eqF PP (PP.fieldsOf 131).toList (hcells a) (hcells b) = some (((bs a.box).toList == (bs b.box).toList) && ((a.uid == b.uid) && ((a.flags == b.flags) && true))) := by kernel_rfl
    rw [h, bs_toList, bs_toList]⟩
theorem Sl.hit {w : World} {F : Nat → Prop} {A : Option Addr} {n c : Nat} {xs : List Hit} (h : Sl Lhit w F A n c xs) {i : Nat} (hi : i < n) :
    ∃ a x, A = some a ∧ xs[i]? = some x ∧ RD w (a.add (i * 3)) 0 [.string (bs x.box), .int .i64 x.uid, .int .i64 x.flags] := by
  obtain ⟨a, cs, x, h1, h2, h3, h4⟩ := h.get hi
  cases h3
  exact ⟨a, x, h1, h2, h4⟩

theorem law_answers {w : World} {a : Ans} {G H : Nat → Prop} {A1 : Option Addr} {n1 c1 : Nat} {A2 : Option Addr} {n2 c2 : Nat} {B1 : Option Addr} {m1 d1 : Nat} {B2 : Option Addr} {m2 d2 : Nat}
    (h1 : Sl Lst w G A1 n1 c1 a.names) (h2 : Sl Lhit w G A2 n2 c2 a.hits) (g1 : Sl Lst w H B1 m1 d1 a.names) (g2 : Sl Lhit w H B2 m2 d2 a.hits) (hb : n1 < 1000000000 ∧ n2 < 1000000000) :
    Calls PP 27 #[.agg #[.int .i64 a.err, .int .i64 a.n, .string (bs a.text), .slice A1 n1 c1, .slice A2 n2 c2], .agg #[.int .i64 a.err, .int .i64 a.n, .string (bs a.text), .slice B1 m1 d1, .slice B2 m2 d2]] w (Ret fun r w' => r = .bool true ∧ Keep No w w') := by
  refine c27 ?_
  unfold S27
  have e1 := h2.len
  have e2 := g2.len
  have : m2 = n2 := by omega
  subst this
  refine NEW.i fun k2 w1 hk2 hs1 q1 x1 => NEW.i fun k3 w2 hk3 hs2 q2 x2 => ?_
  have y1 := x1.no q2
  have z2 := q1.trans q2
  refine ⟨fun w3 => Keep No w2 w3, ⟨fun q w3 => Keep No w2 w3 ∧ q = false, ⟨_, cell_at y1 rfl, _, cell_at x2 rfl, ?_⟩, ?_⟩, ?_⟩
  · refine split_i (fun hc => by simp at hc) (fun _ => ⟨_, cell_at y1 rfl, _, cell_at x2 rfl, split_i (fun hc => by simp at hc) (fun _ => ⟨_, cell_at y1 rfl, _, cell_at x2 rfl, split_i (fun hc => by simp at hc) (fun _ => ?_)⟩)⟩)
    refine ⟨_, _, _, cell_at y1 rfl, _, _, _, cell_at x2 rfl, CALL.i (same_str (h1.no z2) (g1.no z2) hb.1) (by kernel_rfl) ?_⟩
    rintro r w3 ⟨rfl, q3⟩
    exact ⟨_, rfl, split_i (fun hc => by cases hc) (fun _ => ⟨_, _, _, cell_at (y1.no q3) rfl, _, _, _, cell_at (x2.no q3) rfl, q3, by simp⟩)⟩
  · rintro _ q w3 ⟨q3, rfl⟩
    exact split_i (fun hc => by cases hc) (fun _ => q3)
  · rintro _ w3 q3
    refine ⟨_, _, _, cell_at (x2.no q3) rfl, ?_⟩
    refine ⟨fun x w4 => ∃ i : Nat, x = i ∧ i ≤ m2 ∧ Keep No w2 w4, fun x _ => ((m2 : Int) - x).toNat, ⟨0, rfl, Nat.zero_le _, q3⟩, ?_⟩
    rintro _ x w4 ⟨i, rfl, hi, q4⟩
    refine split_dec (fun hlt => ?_) (fun hge => ⟨rfl, z2.trans q4⟩)
    have hlt' : i < m2 := by omega
    refine DRAW.i fun w5 hw5 q5 => ?_
    have q45 := q4.trans q5
    obtain ⟨a1, s, hA, hs, hr⟩ := (h2.no (z2.trans q45)).hit hlt'
    obtain ⟨a2, s', hA', hs', hr'⟩ := (g2.no (z2.trans q45)).hit hlt'
    rw [hs] at hs'
    cases hs'
    refine ⟨_, _, _, cell_at (y1.no q45) rfl, ⟨by omega, hlt⟩, SOMEA.i hA ⟨_, _, _, by rw [Int.toNat_natCast]; exact hr, _, _, _, cell_at (x2.no q45) rfl, ⟨by omega, hlt⟩, SOMEA.i hA' ⟨_, _, _, by rw [Int.toNat_natCast]; exact hr', ?_⟩⟩⟩
    obtain ⟨fs, T, heq⟩ := T131e
    refine ⟨_, run_struct_neq T (heq s s) w5 _ _, ?_⟩
    rw [hit_beq]
    exact split_i (fun hc => by simp at hc) (fun _ => ⟨⟨i + 1, wrapS (by omega), hlt', q45⟩, mu_go (wrapS (by omega)) hlt'⟩)

theorem IsBox.bd {w : World} {k : Nat} {F : Nat → Prop} {B : Bx} (h : IsBox w k F B) : IsBox w k (fun j => F j ∧ j < w.heap.size) B := by
  obtain ⟨A, n, c, h1, h2, h3, h4⟩ := h
  exact ⟨A, n, c, h1, ⟨h2, h1.lt⟩, h3, fun j hj => ⟨h4 j hj, h3.lt j hj⟩⟩
theorem law_is {X : Nat → Prop} {w : World} {k : Nat} {M : Md} {t : Int} (s : Stx X w k M) (hok : Ok t M) (ht : t < 90) (hn : Nk M.n)
    {F : Nat → Prop} {A : Option Addr} {n c : Nat} {B : Option Addr} {nb cb : Nat} {E : Option Addr} {ne ce : Nat} (h : RMd w F M A n c B nb cb E ne ce) :
    Calls PP 28 #[.pointer (some ⟨k, 0, none⟩), .agg #[.slice A n c, .int .i64 M.n.next, .slice B nb cb, .slice E ne ce, .int .i64 M.next]] w (Ret fun r w' => r = .bool true ∧ Keep No w w') := by
  refine c28 ?_
  unfold S28
  have hb := hok.toOk'.bd ht
  have hln := h.nm.len
  have hlb := h.bx.len
  have hle := h.ml.len
  have hbn := hb.nlen
  have hbm := hb.mlen
  have hnn := hb.nnext
  have hbl : M.b.length < 1000 := by
    have := len_rising M.b 1 M.n.next hok.toOk'.br hok.toOk'.bv (by omega)
    omega
  have hid : IdsOk M.n.l := by
    intro p hp
    obtain ⟨x, hx, hv⟩ := hok.toOk'.nb p hp
    have := (hb.bval x hx).1
    omega
  have hi9 : ∀ p ∈ M.n.l, p.2 < 1000000000 := by
    intro p hp
    obtain ⟨x, hx, hv⟩ := hok.toOk'.nb p hp
    have := (hb.bval x hx).2
    omega
  refine NEW.i fun k3 w1 hk3 hs1 q1 a1 => CALL.i (stx_names (s.grow q1)) (by kernel_rfl) ?_
  rintro r w2 ⟨k', rfl, q2, hnm⟩
  have z2 := q1.trans q2
  have b2 := a1.no q2
  refine ⟨_, rfl, fun w3 => Keep No w2 w3, ⟨fun q w3 => Keep No w2 w3 ∧ q = false, DRAW.i fun w3 hw3 q3 => split_i (fun hc => by cases hc) (fun _ => ?_), ?_⟩, ?_⟩
  · refine ⟨_, _, _, _, RD.pre (off := 0) (b2.no q3) rfl, CALL.i (is_names (hnm.no q3) (fun j hj => by have := q3.size; omega) hok.toOk'.nr hn hid hok.toOk'.nids (by omega) hi9 (h.nm.no (z2.trans q3))) (by kernel_rfl) ?_⟩
    rintro r w4 ⟨rfl, q4⟩
    have b4 := (b2.no q3).no q4
    refine ⟨_, rfl, split_i (fun hc => by cases hc) (fun _ => ⟨_, cell_at b4 rfl, CALL.i (stx_next (s.grow ((z2.trans q3).trans q4))) (by kernel_rfl) ?_⟩)⟩
    rintro r w5 ⟨rfl, rfl⟩
    exact ⟨_, rfl, loadVar_cell (by kernel_rfl) (cell_at b4 rfl), q3.trans q4, by simp⟩
  · rintro _ q w3 ⟨q3, rfl⟩
    exact split_i (fun hc => by cases hc) (fun _ => q3)
  rintro _ w3 q3
  refine ⟨_, _, _, cell_at (b2.no q3) rfl, ?_⟩
  refine ⟨fun x w4 => ∃ i : Nat, x = i ∧ i ≤ nb ∧ Keep No w2 w4, fun x _ => ((nb : Int) - x).toNat, ⟨0, rfl, Nat.zero_le _, q3⟩, ?_⟩
  rintro _ x w4 ⟨i, rfl, hi, q4⟩
  have z4 := z2.trans q4
  refine split_dec (fun hlt => ?_) (fun hge => ?_)
  · have hlt' : i < nb := by omega
    refine ⟨fun w5 => Keep No w2 w5, ⟨⟨by omega, hlt⟩, ?_⟩, ?_⟩
    · obtain ⟨a, x, A', n', c', hA, hx, hr, hsx⟩ := (h.bx.no z4).bx hlt'
      have hxm := List.mem_of_getElem? hx
      refine SOMEA.i hA ⟨_, _, _, _, _, by rw [Int.toNat_natCast]; exact hr, NEW.i fun k7 w5 hk7 hs5 q5 a5 => ST.i a5 (by simp) rfl fun w6 hs6 q6 a6 => ⟨_, cell_at a6 rfl, ?_⟩⟩
      have q46 : Keep No w4 w6 := q5.tmp q6 (by omega)
      refine CALL.i (stx_box (s.grow (z4.trans q46)) hb x.validity) (by kernel_rfl) ?_
      rintro r w7 ⟨q7, hr7⟩
      rw [boxOf_mem hok.toOk'.vnodup hxm] at hr7
      obtain ⟨kb, rfl, hbx⟩ := hr7
      refine ⟨_, _, rfl, fun q w8 => Keep No w7 w8 ∧ q = false, ?_, ?_⟩
      · refine split_i (fun hc => by cases hc) (fun _ => split_i (fun hc => by cases hc) (fun _ => ?_))
        have hxb := hok.toOk'.bx x hxm
        have hxl := hb.blen x hxm
        have hxn := hb.bnext x hxm
        have hxv := hb.bval x hxm
        have hme : ∀ e ∈ x.l, e.uid < 1000000000 ∧ e.flags < 1000000000 ∧ e.mail < 1000000000 := by
          intro e he
          have h1 := hxb.ent e he
          have h2 := hok.toOk'.me x hxm e he
          obtain ⟨q, hq, hqe⟩ := List.mem_map.1 h2
          have h3 := hok.toOk'.ml q hq
          have h4 := hb.next
          omega
        refine ⟨_, _, _, _, _, RD.i (a6.no q7), CALL.i (is_box hbx.bd (fun j hj => hj.2) (by omega) (hb.bflags x hxm) ⟨by omega, by omega⟩ hme ((hsx.no q46).no q7)) (by kernel_rfl) ?_⟩
        rintro r w8 ⟨rfl, q8⟩
        exact ⟨_, rfl, q8, rfl⟩
      · rintro _ q w8 ⟨q8, rfl⟩
        exact split_i (fun hc => by cases hc) (fun _ => ((q4.trans q46).trans q7).trans q8)
    · rintro _ w5 q5
      exact ⟨⟨i + 1, wrapS (by omega), hlt', q5⟩, mu_go (wrapS (by omega)) hlt'⟩
  · refine ⟨_, _, _, cell_at (b2.no q4) rfl, ?_⟩
    refine ⟨fun A10 n10 c10 x w5 => ∃ i : Nat, x = i ∧ i ≤ ne ∧ Og Ly.int 3 No w2 w5 A10 n10 c10 (mkeys (M.mails.take i)), fun _ _ _ x _ => ((ne : Int) - x).toNat, ⟨0, rfl, Nat.zero_le _, Og.none q4 (fun j hj => False.elim hj)⟩, ?_⟩
    rintro _ A10 n10 c10 x w5 ⟨j, rfl, hj, g5⟩
    have hn10 := g5.own.len
    simp only [mkeys, List.length_map, List.length_take] at hn10
    have z5 := z2.trans g5.keep
    have hg5 := g5.keep.size
    refine split_dec (fun hlt => ?_) (fun hge2 => ?_)
    · have hlt' : j < ne := by omega
      refine ⟨fun A' n' c' w6 => Og Ly.int 3 No w2 w6 A' n' c' (mkeys (M.mails.take (j + 1))), ⟨⟨by omega, hlt⟩, ?_⟩, ?_⟩
      · obtain ⟨a, p, hA, hp, hr⟩ := (h.ml.no z5).ml hlt'
        refine SOMEA.i hA ⟨_, _, by rw [Int.toNat_natCast]; exact hr, NEW.i fun k12 w6 hk12 hs6 q6 a6 => ST.i a6 (by simp) rfl fun w7 hs7 q7 a7 => ⟨_, cell_at a7 rfl, NEW.i fun k74 w8 hk74 hs8 q8 a8 => ?_⟩⟩
        have g7 := (g5.no q6).st q7 (by omega) (g5.fresh (by omega))
        have n12 : ¬ ownBlk A10 k12 := g5.fresh (by omega)
        refine (g7.no q8).one T3 a8 (x := p.1) rfl (by omega) fun A' c' w9 q9 g9 hb9 => ⟨_, _, _, rfl, ?_⟩
        have b9 := (a7.no q8).own_ q9 n12
        refine ⟨_, cell_at b9 rfl, CALL.i (stx_mail (s.grow (z2.trans g9.keep)) p.1) (by kernel_rfl) ?_⟩
        rintro r w10 ⟨rfl, rfl⟩
        have hmo : mailOf M p.1 = some p.2 := mget_of_mem (by
          unfold List.Nodup mkeys
          rw [List.pairwise_map]
          exact hok.toOk'.mr.imp fun h he => by omega) (show (p.1, p.2) ∈ M.mails from List.mem_of_getElem? hp)
        rw [hmo]
        refine ⟨_, _, rfl, split_i (fun hc => by cases hc) (fun _ => ⟨_, cell_at b9 rfl, split_i (fun hc => by simp at hc) (fun _ => ?_)⟩)⟩
        rw [take_succ_some hp]
        have : mkeys (M.mails.take j ++ [p]) = mkeys (M.mails.take j) ++ [p.1] := by simp [mkeys]
        rw [this]
        exact g9
      · rintro _ A' n' c' w6 g6
        exact ⟨⟨j + 1, wrapS (by omega), hlt', g6⟩, mu_go (wrapS (by omega)) hlt'⟩
    · have hje : j = M.mails.length := by omega
      rw [hje, List.take_length] at g5
      have hb0 : boxOf M 0 = none := by
        unfold boxOf
        rw [List.find?_eq_none]
        intro x hx
        have := (hb.bval x hx).1
        simp
        omega
      have hm0 : mailOf M 0 = none := by
        unfold mailOf
        rw [show M.mails.find? (fun q => decide (q.1 = 0)) = none from ?_]
        · rfl
        rw [List.find?_eq_none]
        intro q hq
        have := (hok.toOk'.ml q hq).1
        simp
        omega
      refine CALL.i (stx_box (s.grow z5) hb 0) (by kernel_rfl) ?_
      rintro r w6 ⟨q6, hr6⟩
      rw [hb0] at hr6
      subst hr6
      refine ⟨_, _, rfl, CALL.i (stx_mail (s.grow (z5.trans q6)) 0) (by kernel_rfl) ?_⟩
      rintro r w7 ⟨rfl, rfl⟩
      rw [hm0]
      refine ⟨_, _, rfl, split_i (fun _ => split_i (fun _ => split_i (fun _ => ?_) (fun hc => by cases hc)) (fun hc => by cases hc)) (fun hc => by cases hc)⟩
      refine CALL.i (stx_mails (s.grow (z5.trans q6)) hok.toOk'.mr (by omega)) (by kernel_rfl) ?_
      rintro r w8 ⟨A8, c8, rfl, q8, o8, f8⟩
      refine ⟨_, _, _, rfl, CALL.i (same_int o8.sl ((g5.no q6).no q8).gn (by omega)) (by kernel_rfl) ?_⟩
      rintro r w9 ⟨rfl, q9⟩
      exact ⟨_, rfl, rfl, ((z5.trans q6).trans q8).trans q9⟩
end Go.SW
