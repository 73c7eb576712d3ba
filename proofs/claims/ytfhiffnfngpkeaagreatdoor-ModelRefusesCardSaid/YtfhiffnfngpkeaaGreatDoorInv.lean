/- What holds of a store behind any ops (plain). -/
import Derived.Test.YtfhiffnfngpkeaaGreatDoorModel7
set_option linter.unusedVariables false
namespace Go.SW
open Go Go.Proofs Pl

structure BxOk (t : Int) (x : Bx) : Prop where
  nx : 1 ≤ x.next ∧ x.next ≤ t + 1
  len : (x.l.length : Int) ≤ t
  uid : x.l.Pairwise fun a b => a.uid < b.uid
  ent : ∀ e ∈ x.l, 1 ≤ e.uid ∧ e.uid < x.next ∧ 0 ≤ e.flags ∧ e.flags ≤ 31 ∧ 1 ≤ e.mail
/-- all but that each mail is used -/
structure Ok' (t : Int) (M : Md) : Prop where
  nr : Rising M.n.l
  nlen : (M.n.l.length : Int) ≤ t
  nn : 1 ≤ M.n.next ∧ M.n.next ≤ t + 1
  nb : ∀ p ∈ M.n.l, ∃ x ∈ M.b, x.validity = p.2
  bn : ∀ x ∈ M.b, ∃ p ∈ M.n.l, p.2 = x.validity
  nids : (M.n.l.map (·.2)).Nodup
  br : M.b.Pairwise fun x y => x.validity < y.validity
  bv : ∀ x ∈ M.b, 1 ≤ x.validity ∧ x.validity < M.n.next
  bx : ∀ x ∈ M.b, BxOk t x
  mr : RisingI M.mails
  mlen : (M.mails.length : Int) ≤ t
  mn : 1 ≤ M.next ∧ M.next ≤ t + 1
  ml : ∀ q ∈ M.mails, 1 ≤ q.1 ∧ q.1 < M.next ∧ q.2.length ≤ 4096
  me : ∀ x ∈ M.b, ∀ e ∈ x.l, e.mail ∈ mkeys M.mails
structure Ok (t : Int) (M : Md) : Prop extends Ok' t M where
  mu : ∀ q ∈ M.mails, used M q.1 = true

theorem BxOk.mono {t t' : Int} {x : Bx} (h : BxOk t x) (ht : t ≤ t') : BxOk t' x := ⟨⟨h.nx.1, by have := h.nx; omega⟩, by have := h.len; omega, h.uid, h.ent⟩
theorem Ok'.mono {t t' : Int} {M : Md} (h : Ok' t M) (ht : t ≤ t') : Ok' t' M :=
  { h with nlen := by have := h.nlen; omega, nn := ⟨h.nn.1, by have := h.nn; omega⟩, bx := fun x hx => (h.bx x hx).mono ht, mlen := by have := h.mlen; omega, mn := ⟨h.mn.1, by have := h.mn; omega⟩ }
theorem Ok.mono {t t' : Int} {M : Md} (h : Ok t M) (ht : t ≤ t') : Ok t' M := { h.toOk'.mono ht with mu := h.mu }
theorem used_iff {M : Md} {id : Int} : used M id = true ↔ ∃ x ∈ M.b, ∃ e ∈ x.l, e.mail = id := by
  simp only [used, List.any_eq_true, beq_iff_eq]
theorem Ok'.vnodup {t : Int} {M : Md} (h : Ok' t M) : (M.b.map (·.validity)).Nodup := by
  unfold List.Nodup
  rw [List.pairwise_map]
  exact h.br.imp fun h => by omega
theorem ok_new {t : Int} (ht : 0 ≤ t) : Ok t .new where
  nr := List.Pairwise.nil
  nlen := ht
  nn := ⟨by decide, by show (1 : Int) ≤ t + 1; omega⟩
  nb := fun p hp => by cases hp
  bn := fun p hp => by cases hp
  nids := List.nodup_nil
  br := List.Pairwise.nil
  bv := fun p hp => by cases hp
  bx := fun p hp => by cases hp
  mr := List.Pairwise.nil
  mlen := ht
  mn := ⟨by decide, by show (1 : Int) ≤ t + 1; omega⟩
  ml := fun p hp => by cases hp
  me := fun p hp => by cases hp
  mu := fun p hp => by cases hp
theorem ok_sweep {t : Int} {M : Md} (h : Ok' t M) : Ok t (sweep M) where
  nr := h.nr
  nlen := h.nlen
  nn := h.nn
  nb := h.nb
  bn := h.bn
  nids := h.nids
  br := h.br
  bv := h.bv
  bx := h.bx
  mr := h.mr.sublist List.filter_sublist
  mlen := by
    have h1 := h.mlen
    have h2 : (M.mails.filter fun p => used M p.1).length ≤ M.mails.length := List.length_filter_le _ _
    show ((M.mails.filter fun p => used M p.1).length : Int) ≤ t
    omega
  mn := h.mn
  ml := fun q hq => h.ml q (List.mem_filter.1 hq).1
  me := fun x hx e he => by
    obtain ⟨q, hq, hqe⟩ := List.mem_map.1 (h.me x hx e he)
    refine List.mem_map.2 ⟨q, List.mem_filter.2 ⟨hq, ?_⟩, hqe⟩
    exact used_iff.2 ⟨x, hx, e, he, hqe.symm⟩
  mu := fun q hq => (List.mem_filter.1 hq).2

/-! ## bounds -/
theorem ofN_mem {N : Nm} {s : Str} {id : Int} (h : ofN N s = some id) : (s, id) ∈ N.l := mget_some (ofN_mget N s ▸ h)
theorem Ok'.names {t : Int} {M : Md} (h : Ok' t M) : NamesOk M := by
  intro s id hs
  obtain ⟨x, hx, hv⟩ := h.nb _ (ofN_mem hs)
  have hv' : x.validity = id := hv
  rw [← hv', boxOf_mem h.vnodup hx]
  rfl
theorem Ok'.bd {t : Int} {M : Md} (h : Ok' t M) (ht : t < 90) : Bd M where
  names := h.names
  rising := h.nr
  nlen := by have := h.nlen; omega
  nnext := ⟨h.nn.1, by have := h.nn; omega⟩
  bval := h.bv
  bflags := fun x hx e he => by have := (h.bx x hx).ent e he; exact ⟨this.2.2.1, this.2.2.2.1⟩
  blen := fun x hx => by have := (h.bx x hx).len; omega
  bnext := fun x hx => by have := (h.bx x hx).nx; omega
  next := ⟨h.mn.1, by have := h.mn; omega⟩
  fresh := fun hc => by
    obtain ⟨q, hq, he⟩ := List.mem_map.1 hc
    have := h.ml q hq
    omega
  mlen := by have := h.mlen; omega
  texts := fun q hq => by have := h.ml q hq; omega

/-! ## names -/
theorem Rising.nodup {l : List (Str × Int)} (h : Rising l) : (mkeys l).Nodup := by
  unfold List.Nodup mkeys
  rw [List.pairwise_map]
  exact h.imp fun h he => by rw [he] at h; exact List.lt_irrefl _ h
theorem putN_mem {p q : Str × Int} {l : List (Str × Int)} : q ∈ putN p l ↔ q = p ∨ q ∈ l := by
  rw [(putN_perm p l).mem_iff, List.mem_cons]
theorem putN_rising {p : Str × Int} : ∀ {l : List (Str × Int)}, Rising l → p.1 ∉ mkeys l → Rising (putN p l)
  | [], _, _ => by simp [putN, Rising]
  | q :: l, h, hp => by
    have hq := List.pairwise_cons.1 h
    have hpl : p.1 ∉ mkeys l := fun hc => hp (List.mem_cons_of_mem _ hc)
    have ih := putN_rising hq.2 hpl
    unfold putN
    split
    · rename_i h1
      refine List.pairwise_cons.2 ⟨fun r hr => ?_, ih⟩
      rcases putN_mem.1 hr with rfl | hr
      · exact h1
      · exact hq.1 r hr
    · rename_i h1
      have hlt : p.1 < q.1 := by
        rcases List.le_total p.1 q.1 with hle | hle
        · rcases (List.le_iff_lt_or_eq.1 hle) with h3 | h3
          · exact h3
          · exact absurd (show p.1 ∈ mkeys (q :: l) by rw [h3]; exact List.mem_cons_self) hp
        · rcases (List.le_iff_lt_or_eq.1 hle) with h3 | h3
          · exact absurd h3 h1
          · exact absurd (show p.1 ∈ mkeys (q :: l) by rw [← h3]; exact List.mem_cons_self) hp
      exact List.pairwise_cons.2 ⟨fun r hr => by
        rcases List.mem_cons.1 hr with rfl | hr
        · exact hlt
        · exact List.lt_trans hlt (hq.1 r hr), h⟩
theorem createN_cases (N : Nm) (s : Str) : ((createN N s).2.2 ≠ 0 ∧ (createN N s).1 = N) ∨ (createN N s = (⟨putN (s, N.next) N.l, N.next + 1⟩, N.next, 0) ∧ s ∉ mkeys N.l) := by
  unfold createN
  split
  · exact .inl ⟨by simp, rfl⟩
  · split
    · exact .inl ⟨by simp, rfl⟩
    · rename_i h2
      split
      · exact .inl ⟨by simp, rfl⟩
      · exact .inr ⟨rfl, ofN_none (by simpa using h2)⟩
theorem deleteN_cases (N : Nm) (s : Str) : (deleteN N s = (N, 0, 5) ∧ ofN N s = none) ∨ ∃ id, ofN N s = some id ∧ deleteN N s = (⟨delN N.l s, N.next⟩, id, 0) := by
  unfold deleteN
  cases h : ofN N s with
  | none => exact .inl ⟨rfl, rfl⟩
  | some id => exact .inr ⟨id, rfl, rfl⟩
theorem renameN_cases (N : Nm) (s t : Str) : ((renameN N s t).2.2 ≠ 0 ∧ (renameN N s t).1 = N) ∨ ∃ id, ofN N s = some id ∧ renameN N s t = (⟨putN (t, id) (delN N.l s), N.next⟩, id, 0) ∧ t ∉ mkeys N.l := by
  unfold renameN
  cases h : ofN N s with
  | none => exact .inl ⟨by simp, rfl⟩
  | some id =>
    simp only
    split
    · exact .inl ⟨by simp, rfl⟩
    · split
      · exact .inl ⟨by simp, rfl⟩
      · rename_i h2
        exact .inr ⟨id, rfl, rfl, ofN_none (by simpa using h2)⟩
theorem delN_mem {l : List (Str × Int)} {s : Str} {p : Str × Int} : p ∈ delN l s ↔ p ∈ l ∧ p.1 ≠ s := by simp [delN]
theorem bxok_new {t id : Int} (ht : 0 ≤ t) : BxOk t (.new id) := ⟨⟨by show (1 : Int) ≤ 1; omega, by show (1 : Int) ≤ t + 1; omega⟩, by simpa [Bx.new] using ht, List.Pairwise.nil, fun e he => by cases he⟩
theorem rising_inj {l : List (Str × Int)} (h : Rising l) {p q : Str × Int} (hp : p ∈ l) (hq : q ∈ l) (he : p.1 = q.1) : p = q := inj_of_nodup_map (fun p : Str × Int => p.1) h.nodup hp hq he
theorem nids_inj {l : List (Str × Int)} (h : (l.map (·.2)).Nodup) {p q : Str × Int} (hp : p ∈ l) (hq : q ∈ l) (he : p.2 = q.2) : p = q := inj_of_nodup_map (·.2) h hp hq he

theorem ok_named {t : Int} {M : Md} (ht : 0 ≤ t ∧ t < 1000000) (h : Ok t M) (o : Pl.Op) : Ok (t + 1) (named M o).1 := by
  have hm := h.mono (show t ≤ t + 1 by omega)
  have hnn := h.nn
  unfold named
  split
  · -- create
    rcases createN_cases M.n o.box with ⟨h1, h2⟩ | ⟨h1, h2⟩
    · simp only [ne_eq, h1, not_false_eq_true, if_true, h2]
      exact hm
    · simp only [h1, ne_eq, not_true_eq_false, if_false]
      have hv : (Bx.new M.n.next).validity = M.n.next := Bx_new_validity h.nn.1 (by omega)
      have hb : ∀ x ∈ M.b, x ∈ M.b ++ [Bx.new M.n.next] := fun x hx => List.mem_append_left _ hx
      have hlen : (putN (o.box, M.n.next) M.n.l).length = M.n.l.length + 1 := by rw [(putN_perm _ _).length_eq]; rfl
      have hl := h.nlen
      exact {
        nr := putN_rising h.nr h2
        nlen := by show ((putN (o.box, M.n.next) M.n.l).length : Int) ≤ t + 1; omega
        nn := ⟨by show 1 ≤ M.n.next + 1; omega, by show M.n.next + 1 ≤ t + 1 + 1; omega⟩
        nb := fun p hp => by
          rcases putN_mem.1 hp with rfl | hp
          · exact ⟨_, List.mem_append_right _ (List.mem_singleton.2 rfl), hv⟩
          · obtain ⟨x, hx, he⟩ := h.nb p hp
            exact ⟨x, hb x hx, he⟩
        bn := fun x hx => by
          rcases List.mem_append.1 hx with hx | hx
          · obtain ⟨p, hp, he⟩ := h.bn x hx
            exact ⟨p, putN_mem.2 (.inr hp), he⟩
          · rw [List.mem_singleton.1 hx]
            exact ⟨_, putN_mem.2 (.inl rfl), hv.symm⟩
        nids := by
          show ((putN (o.box, M.n.next) M.n.l).map (·.2)).Nodup
          rw [((putN_perm _ _).map _).nodup_iff]
          refine List.nodup_cons.2 ⟨fun hc => ?_, h.nids⟩
          obtain ⟨p, hp, he⟩ := List.mem_map.1 hc
          obtain ⟨x, hx, hxe⟩ := h.nb p hp
          have := (h.bv x hx).2
          have he' : p.2 = M.n.next := he
          omega
        br := by
          refine List.pairwise_append.2 ⟨h.br, by simp, fun x hx y hy => ?_⟩
          rw [List.mem_singleton.1 hy, hv]
          exact (h.bv x hx).2
        bv := fun x hx => by
          rcases List.mem_append.1 hx with hx | hx
          · have := h.bv x hx
            exact ⟨this.1, by show x.validity < M.n.next + 1; omega⟩
          · rw [List.mem_singleton.1 hx, hv]
            exact ⟨h.nn.1, by show M.n.next < M.n.next + 1; omega⟩
        bx := fun x hx => by
          rcases List.mem_append.1 hx with hx | hx
          · exact hm.bx x hx
          · rw [List.mem_singleton.1 hx]
            exact bxok_new (by omega)
        mr := h.mr
        mlen := hm.mlen
        mn := hm.mn
        ml := h.ml
        me := fun x hx e he => by
          rcases List.mem_append.1 hx with hx | hx
          · exact h.me x hx e he
          · rw [List.mem_singleton.1 hx] at he
            cases he
        mu := fun q hq => by
          obtain ⟨x, hx, e, he, hqe⟩ := used_iff.1 (h.mu q hq)
          exact used_iff.2 ⟨x, hb x hx, e, he, hqe⟩ }
  · split
    · -- delete
      rcases deleteN_cases M.n o.box with ⟨h1, h2⟩ | ⟨id, h1, h2⟩
      · simp only [h1]
        exact hm
      · simp only [h2, ne_eq, not_true_eq_false, if_false]
        have hmem := ofN_mem h1
        refine ok_sweep ?_
        have hfl : (delN M.n.l o.box).length ≤ M.n.l.length := List.length_filter_le _ _
        have hl := h.nlen
        exact {
          nr := h.nr.sublist List.filter_sublist
          nlen := by show ((delN M.n.l o.box).length : Int) ≤ t + 1; omega
          nn := hm.nn
          nb := fun p hp => by
            obtain ⟨hp1, hp2⟩ := delN_mem.1 hp
            obtain ⟨x, hx, he⟩ := h.nb p hp1
            refine ⟨x, List.mem_filter.2 ⟨hx, ?_⟩, he⟩
            have hne : x.validity ≠ id := fun hc => hp2 (by
              have := nids_inj h.nids hp1 hmem (he.symm.trans hc)
              rw [this])
            simpa using hne
          bn := fun x hx => by
            obtain ⟨hx1, hx2⟩ := List.mem_filter.1 hx
            obtain ⟨p, hp, he⟩ := h.bn x hx1
            refine ⟨p, delN_mem.2 ⟨hp, fun hc => ?_⟩, he⟩
            have := rising_inj h.nr hp hmem hc
            rw [this] at he
            have hx2' : x.validity ≠ id := by simpa using hx2
            exact hx2' he.symm
          nids := by
            show ((delN M.n.l o.box).map (·.2)).Nodup
            exact (List.filter_sublist.map _).nodup h.nids
          br := h.br.sublist List.filter_sublist
          bv := fun x hx => h.bv x (List.mem_filter.1 hx).1
          bx := fun x hx => hm.bx x (List.mem_filter.1 hx).1
          mr := h.mr
          mlen := hm.mlen
          mn := hm.mn
          ml := h.ml
          me := fun x hx => h.me x (List.mem_filter.1 hx).1 }
    · -- rename
      rcases renameN_cases M.n o.box o.to with ⟨h1, h2⟩ | ⟨id, h1, h2, h3⟩
      · simp only [ne_eq, h1, not_false_eq_true, if_true, h2]
        exact hm
      · simp only [h2, ne_eq, not_true_eq_false, if_false]
        have hmem := ofN_mem h1
        have hperm := putN_perm (o.to, id) (delN M.n.l o.box)
        have hd : (delN M.n.l o.box).length < M.n.l.length := by
          unfold delN
          refine Nat.lt_of_not_le fun hc => ?_
          have h5 := List.filter_sublist (p := fun p : Str × Int => decide (p.1 ≠ o.box)) (l := M.n.l)
          have h6 := h5.eq_of_length_le hc
          have h7 := (List.filter_eq_self.1 h6) _ hmem
          simp at h7
        have hl := h.nlen
        exact {
          nr := by
            refine putN_rising (h.nr.sublist List.filter_sublist) fun hc => h3 ?_
            obtain ⟨p, hp, he⟩ := List.mem_map.1 hc
            exact List.mem_map.2 ⟨p, (delN_mem.1 hp).1, he⟩
          nlen := by
            show ((putN (o.to, id) (delN M.n.l o.box)).length : Int) ≤ t + 1
            rw [hperm.length_eq, List.length_cons]
            omega
          nn := hm.nn
          nb := fun p hp => by
            rcases putN_mem.1 hp with rfl | hp
            · exact (h.nb _ hmem).imp fun x hx => hx
            · exact h.nb p (delN_mem.1 hp).1
          bn := fun x hx => by
            obtain ⟨p, hp, he⟩ := h.bn x hx
            by_cases hc : p.1 = o.box
            · have := rising_inj h.nr hp hmem hc
              rw [this] at he
              exact ⟨_, putN_mem.2 (.inl rfl), he⟩
            · exact ⟨p, putN_mem.2 (.inr (delN_mem.2 ⟨hp, hc⟩)), he⟩
          nids := by
            show ((putN (o.to, id) (delN M.n.l o.box)).map (·.2)).Nodup
            rw [(hperm.map _).nodup_iff]
            refine List.nodup_cons.2 ⟨fun hc => ?_, (List.filter_sublist.map _).nodup h.nids⟩
            obtain ⟨p, hp, he⟩ := List.mem_map.1 hc
            obtain ⟨hp1, hp2⟩ := delN_mem.1 hp
            have := nids_inj h.nids hp1 hmem he
            exact hp2 (by rw [this])
          br := h.br
          bv := h.bv
          bx := hm.bx
          mr := h.mr
          mlen := hm.mlen
          mn := hm.mn
          ml := h.ml
          me := h.me
          mu := h.mu }

/-! ## one box -/
theorem setBox_mem {M : Md} {x y z : Bx} (hn : (M.b.map (·.validity)).Nodup) (hx : x ∈ M.b) (hv : y.validity = x.validity) : z ∈ (setBox M y).b ↔ z = y ∨ (z ∈ M.b ∧ z.validity ≠ x.validity) := by
  unfold setBox
  simp only [List.mem_map]
  constructor
  · rintro ⟨w, hw, he⟩
    split at he
    · exact .inl he.symm
    · rename_i hne
      subst he
      exact .inr ⟨hw, fun h => hne (h.trans hv.symm)⟩
  · rintro (rfl | ⟨h1, h2⟩)
    · exact ⟨x, hx, if_pos hv.symm⟩
    · exact ⟨z, h1, if_neg (fun h => h2 (h.trans hv))⟩
theorem ok_setBox {t t' : Int} {M : Md} (h : Ok' t M) (ht : t ≤ t') {x y : Bx} (hx : x ∈ M.b) (hv : y.validity = x.validity) (hy : BxOk t' y) (hm : ∀ e ∈ y.l, e.mail ∈ mkeys M.mails) : Ok' t' (setBox M y) := by
  have hmo := h.mono ht
  have hmem : ∀ z, z ∈ (setBox M y).b ↔ _ := fun z => setBox_mem (z := z) h.vnodup hx hv
  have hvals : (setBox M y).b.map (·.validity) = M.b.map (·.validity) := by
    unfold setBox
    rw [List.map_map]
    refine List.map_congr_left fun z _ => ?_
    simp only [Function.comp]
    split
    · rename_i he; exact he.symm
    · rfl
  exact {
    nr := h.nr
    nlen := hmo.nlen
    nn := hmo.nn
    nb := fun p hp => by
      obtain ⟨z, hz, he⟩ := h.nb p hp
      by_cases hc : z.validity = x.validity
      · exact ⟨y, (hmem y).2 (.inl rfl), by rw [hv, ← hc, he]⟩
      · exact ⟨z, (hmem z).2 (.inr ⟨hz, hc⟩), he⟩
    bn := fun z hz => by
      rcases (hmem z).1 hz with rfl | ⟨hz, _⟩
      · rw [hv]; exact h.bn x hx
      · exact h.bn z hz
    nids := h.nids
    br := by
      have : ((setBox M y).b.map (·.validity)).Pairwise (· < ·) := by rw [hvals]; exact List.pairwise_map.2 h.br
      exact List.pairwise_map.1 this
    bv := fun z hz => by
      rcases (hmem z).1 hz with rfl | ⟨hz, _⟩
      · rw [hv]; exact h.bv x hx
      · exact h.bv z hz
    bx := fun z hz => by
      rcases (hmem z).1 hz with rfl | ⟨hz, _⟩
      · exact hy
      · exact hmo.bx z hz
    mr := h.mr
    mlen := hmo.mlen
    mn := hmo.mn
    ml := h.ml
    me := fun z hz => by
      rcases (hmem z).1 hz with rfl | ⟨hz, _⟩
      · exact hm
      · exact h.me z hz }
theorem addB_cases (b : Bx) (m f : Int) : ((addB b m f).2.2 ≠ 0) ∨ (addB b m f = (⟨b.validity, b.next + 1, b.l ++ [⟨b.next, f, m⟩]⟩, ⟨b.next, f, m⟩, 0) ∧ 1 ≤ m ∧ 0 ≤ f ∧ f ≤ 31) := by
  unfold addB
  split
  · exact .inl (by simp)
  · rename_i h1
    split
    · exact .inl (by simp)
    · refine .inr ⟨rfl, ?_⟩
      simp only [flagOk, Bool.not_eq_true', Bool.and_eq_false_iff, decide_eq_false_iff_not, not_or] at h1
      omega
theorem bxok_add {t : Int} {b : Bx} (h : BxOk t b) {m f : Int} (hm : 1 ≤ m) (hf : 0 ≤ f ∧ f ≤ 31) : BxOk (t + 1) ⟨b.validity, b.next + 1, b.l ++ [⟨b.next, f, m⟩]⟩ where
  nx := ⟨by have := h.nx; show 1 ≤ b.next + 1; omega, by have := h.nx; show b.next + 1 ≤ t + 1 + 1; omega⟩
  len := by have := h.len; simp; omega
  uid := by
    refine List.pairwise_append.2 ⟨h.uid, by simp, fun a ha c hc => ?_⟩
    rw [List.mem_singleton.1 hc]
    exact (h.ent a ha).2.1
  ent := fun e he => by
    have hn := h.nx
    rcases List.mem_append.1 he with he | he
    · have := h.ent e he
      exact ⟨this.1, by show e.uid < b.next + 1; omega, this.2.2⟩
    · rw [List.mem_singleton.1 he]
      exact ⟨hn.1, by show b.next < b.next + 1; omega, hf.1, hf.2, hm⟩
theorem bxok_filter {t : Int} {b : Bx} (h : BxOk t b) (p : Ety → Bool) : BxOk t ⟨b.validity, b.next, b.l.filter p⟩ where
  nx := h.nx
  len := by
    have := h.len
    have h2 : (b.l.filter p).length ≤ b.l.length := List.length_filter_le _ _
    show ((b.l.filter p).length : Int) ≤ t
    omega
  uid := h.uid.sublist List.filter_sublist
  ent := fun e he => h.ent e (List.mem_filter.1 he).1
theorem findB_some {b : Bx} {u : Int} {e : Ety} (h : findB b u = some e) : e ∈ b.l ∧ e.uid = u := ⟨List.mem_of_find?_eq_some h, by have := List.find?_some h; simpa using this⟩

theorem ok_append {t : Int} {M : Md} (ht : 0 ≤ t ∧ t < 1000000) (h : Ok t M) {x : Bx} (hx : x ∈ M.b) (o : Pl.Op) : Ok (t + 1) (append M x o).1 := by
  have hm := h.mono (show t ≤ t + 1 by omega)
  unfold append
  split
  · exact hm
  · rename_i hsm
    rcases addB_cases x M.next o.flags with h1 | ⟨h1, h2, h3⟩
    · simp only [ne_eq, h1, not_false_eq_true, if_true]
      exact hm
    · simp only [h1, ne_eq, not_true_eq_false, if_false]
      have hmn := h.mn
      have hml := h.mlen
      -- first the mail, then the box
      have hM1 : Ok' (t + 1) { M with mails := M.mails ++ [(M.next, o.text)], next := M.next + 1 } := {
        hm.toOk' with
        mr := List.pairwise_append.2 ⟨h.mr, by simp, fun q hq r hr => by rw [List.mem_singleton.1 hr]; exact (h.ml q hq).2.1⟩
        mlen := by simp; omega
        mn := ⟨by show 1 ≤ M.next + 1; omega, by show M.next + 1 ≤ t + 1 + 1; omega⟩
        ml := fun q hq => by
          rcases List.mem_append.1 hq with hq | hq
          · have := h.ml q hq
            exact ⟨this.1, by show q.1 < M.next + 1; omega, this.2.2⟩
          · rw [List.mem_singleton.1 hq]
            exact ⟨hmn.1, by show M.next < M.next + 1; omega, by show o.text.length ≤ 4096; omega⟩
        me := fun z hz e he => by
          have := h.me z hz e he
          show e.mail ∈ mkeys (M.mails ++ [(M.next, o.text)])
          unfold mkeys
          rw [List.map_append]
          exact List.mem_append_left _ this }
      have hy := bxok_add (h.bx x hx) (m := M.next) (f := o.flags) h2 h3
      have h5 := ok_setBox hM1 (Int.le_refl _) (x := x) (y := ⟨x.validity, x.next + 1, x.l ++ [⟨x.next, o.flags, M.next⟩]⟩) hx rfl hy (fun e he => by
        show e.mail ∈ mkeys (M.mails ++ [(M.next, o.text)])
        unfold mkeys
        rw [List.map_append]
        rcases List.mem_append.1 he with he | he
        · exact List.mem_append_left _ (h.me x hx e he)
        · rw [List.mem_singleton.1 he]
          exact List.mem_append_right _ (by simp))
      have hmem : ∀ z, z ∈ (setBox M ⟨x.validity, x.next + 1, x.l ++ [⟨x.next, o.flags, M.next⟩]⟩).b ↔ _ := fun z => setBox_mem (z := z) h.vnodup hx rfl
      refine { h5 with mu := fun q hq => ?_ }
      rcases List.mem_append.1 hq with hq | hq
      · obtain ⟨z, hz, e, he, hqe⟩ := used_iff.1 (h.mu q hq)
        refine used_iff.2 ?_
        by_cases hc : z.validity = x.validity
        · have : z = x := inj_of_nodup_map _ h.vnodup hz hx hc
          subst this
          exact ⟨_, (hmem _).2 (.inl rfl), e, List.mem_append_left _ he, hqe⟩
        · exact ⟨z, (hmem z).2 (.inr ⟨hz, hc⟩), e, he, hqe⟩
      · rw [List.mem_singleton.1 hq]
        exact used_iff.2 ⟨_, (hmem _).2 (.inl rfl), _, List.mem_append_right _ (List.mem_singleton.2 rfl), rfl⟩

theorem ok_copy {t : Int} {M : Md} (ht : 0 ≤ t ∧ t < 1000000) (h : Ok t M) {x : Bx} (hx : x ∈ M.b) (o : Pl.Op) : Ok (t + 1) (copy M x o).1 := by
  have hm := h.mono (show t ≤ t + 1 by omega)
  unfold copy
  cases hf : find M o.to with
  | none => exact hm
  | some y =>
    have hyM := find_some h.names hf
    simp only
    cases hg : findB x o.uid with
    | none => exact hm
    | some e =>
      simp only
      obtain ⟨he1, he2⟩ := findB_some hg
      rcases addB_cases y e.mail e.flags with h1 | ⟨h1, h2, h3⟩
      · simp only [ne_eq, h1, not_false_eq_true, if_true]
        exact hm
      · simp only [h1, ne_eq, not_true_eq_false, if_false]
        have hyb := bxok_add (h.bx y hyM) (m := e.mail) (f := e.flags) h2 h3
        have h5 := ok_setBox h.toOk' (show t ≤ t + 1 by omega) (x := y) (y := ⟨y.validity, y.next + 1, y.l ++ [⟨y.next, e.flags, e.mail⟩]⟩) hyM rfl hyb (fun e' he' => by
          rcases List.mem_append.1 he' with he' | he'
          · exact h.me y hyM e' he'
          · rw [List.mem_singleton.1 he']
            exact h.me x hx e he1)
        have hmem : ∀ z, z ∈ (setBox M ⟨y.validity, y.next + 1, y.l ++ [⟨y.next, e.flags, e.mail⟩]⟩).b ↔ _ := fun z => setBox_mem (z := z) h.vnodup hyM rfl
        have h6 : Ok (t + 1) (setBox M ⟨y.validity, y.next + 1, y.l ++ [⟨y.next, e.flags, e.mail⟩]⟩) := by
          refine { h5 with mu := fun q hq => ?_ }
          obtain ⟨z, hz, e', he', hqe⟩ := used_iff.1 (h.mu q hq)
          refine used_iff.2 ?_
          by_cases hc : z.validity = y.validity
          · have : z = y := inj_of_nodup_map _ h.vnodup hz hyM hc
            subst this
            exact ⟨_, (hmem _).2 (.inl rfl), e', List.mem_append_left _ he', hqe⟩
          · exact ⟨z, (hmem z).2 (.inr ⟨hz, hc⟩), e', he', hqe⟩
        split
        · -- move
          obtain ⟨x1, hx1, hv1, hnew⟩ : ∃ x1 ∈ (setBox M ⟨y.validity, y.next + 1, y.l ++ [⟨y.next, e.flags, e.mail⟩]⟩).b, x1.validity = x.validity ∧ (∃ z ∈ (setBox M ⟨y.validity, y.next + 1, y.l ++ [⟨y.next, e.flags, e.mail⟩]⟩).b, ∃ e' ∈ z.l, e'.mail = e.mail ∧ (z = x1 → e' ≠ e)) := by
            by_cases hc : x.validity = y.validity
            · have : x = y := inj_of_nodup_map _ h.vnodup hx hyM hc
              subst this
              refine ⟨_, (hmem _).2 (.inl rfl), rfl, _, (hmem _).2 (.inl rfl), _, List.mem_append_right _ (List.mem_singleton.2 rfl), rfl, fun _ he' => ?_⟩
              have h7 := ((h.bx x hx).ent e he1).2.1
              have : e.uid = x.next := by rw [← he']
              omega
            · refine ⟨x, (hmem x).2 (.inr ⟨hx, hc⟩), rfl, _, (hmem _).2 (.inl rfl), _, List.mem_append_right _ (List.mem_singleton.2 rfl), rfl, fun hz => ?_⟩
              exact absurd (by rw [← hz]) hc
          have hb1 : boxOf (setBox M ⟨y.validity, y.next + 1, y.l ++ [⟨y.next, e.flags, e.mail⟩]⟩) x.validity = some x1 := by
            rw [← hv1]; exact boxOf_mem h6.vnodup hx1
          rw [hb1]
          simp only
          have hrem : (removeB x1 o.uid).1 = x1 ∨ ∃ e1, findB x1 o.uid = some e1 ∧ (removeB x1 o.uid).1 = ⟨x1.validity, x1.next, x1.l.filter fun x => x ≠ e1⟩ := by
            unfold removeB
            cases hq : findB x1 o.uid with
            | none => exact .inl rfl
            | some e1 => exact .inr ⟨e1, rfl, rfl⟩
          rcases hrem with hr | ⟨e1, hq1, hr⟩
          · rw [hr, setBox_self h6.vnodup hx1]
            exact h6
          · rw [hr]
            have h8 := ok_setBox h6.toOk' (Int.le_refl _) (x := x1) (y := ⟨x1.validity, x1.next, x1.l.filter fun x => x ≠ e1⟩) hx1 rfl (bxok_filter (h6.bx x1 hx1) _) (fun e' he' => h6.me x1 hx1 e' (List.mem_filter.1 he').1)
            refine { h8 with mu := fun q hq => ?_ }
            have hmem2 : ∀ z, z ∈ (setBox (setBox M ⟨y.validity, y.next + 1, y.l ++ [⟨y.next, e.flags, e.mail⟩]⟩) ⟨x1.validity, x1.next, x1.l.filter fun x => x ≠ e1⟩).b ↔ _ := fun z => setBox_mem (z := z) h6.vnodup hx1 rfl
            -- the entry that goes is e
            have he1e : e1 = e := by
              obtain ⟨g1, g2⟩ := findB_some hq1
              have hinx : e ∈ x1.l := by
                rcases (hmem x1).1 hx1 with hz | ⟨hz1, hz2⟩
                · rw [hz]
                  have : x = y := inj_of_nodup_map _ h.vnodup hx hyM (by rw [← hv1, hz])
                  subst this
                  exact List.mem_append_left _ he1
                · have : x1 = x := inj_of_nodup_map _ h.vnodup hz1 hx hv1
                  rw [this]; exact he1
              have hu := (h6.bx x1 hx1).uid
              have hnd : (x1.l.map (·.uid)).Nodup := by
                unfold List.Nodup
                rw [List.pairwise_map]
                exact hu.imp fun h => by omega
              exact inj_of_nodup_map _ hnd g1 hinx (g2.trans he2.symm)
            subst he1e
            have hkeep : ∀ z ∈ (setBox M ⟨y.validity, y.next + 1, y.l ++ [⟨y.next, e1.flags, e1.mail⟩]⟩).b, ∀ e' ∈ z.l, (z = x1 → e' ≠ e1) → used (setBox (setBox M ⟨y.validity, y.next + 1, y.l ++ [⟨y.next, e1.flags, e1.mail⟩]⟩) ⟨x1.validity, x1.next, x1.l.filter fun x => x ≠ e1⟩) e'.mail = true := by
              intro z hz e' he' hne
              refine used_iff.2 ?_
              by_cases hc : z.validity = x1.validity
              · have : z = x1 := inj_of_nodup_map _ h6.vnodup hz hx1 hc
                refine ⟨_, (hmem2 _).2 (.inl rfl), e', List.mem_filter.2 ⟨this ▸ he', ?_⟩, rfl⟩
                simpa using hne this
              · exact ⟨z, (hmem2 z).2 (.inr ⟨hz, hc⟩), e', he', rfl⟩
            obtain ⟨z, hz, e', he', hqe⟩ := used_iff.1 (h6.mu q hq)
            by_cases hc : z = x1 ∧ e' = e1
            · obtain ⟨z2, hz2, e2, he2', hq2, hne2⟩ := hnew
              have := hkeep z2 hz2 e2 he2' hne2
              rw [hq2] at this
              rw [← hqe, hc.2]
              exact this
            · have := hkeep z hz e' he' (fun hz1 he1 => hc ⟨hz1, he1⟩)
              rw [hqe] at this
              exact this
        · exact h6

theorem setL_mem {uid : Int} {e x : Ety} : ∀ {l : List Ety}, x ∈ setL uid e l → x = e ∨ x ∈ l
  | [], h => by cases h
  | y :: l, h => by
    unfold setL at h
    split at h
    · rcases List.mem_cons.1 h with h | h
      · exact .inl h
      · exact .inr (List.mem_cons_of_mem _ h)
    · rcases List.mem_cons.1 h with h | h
      · exact .inr (h ▸ List.mem_cons_self)
      · exact (setL_mem h).imp_right (List.mem_cons_of_mem _)
theorem setL_map {uid : Int} {e e' : Ety} (g : Ety → Int) (h1 : g e' = g e) : ∀ {l : List Ety}, l.find? (fun e => decide (e.uid = uid)) = some e → (setL uid e' l).map g = l.map g
  | [], h => by cases h
  | y :: l, h => by
    unfold setL
    split
    · rename_i hy
      rw [List.find?_cons_of_pos (by simpa using hy)] at h
      have := Option.some.inj h
      simp [h1, this]
    · rename_i hy
      rw [List.find?_cons_of_neg (by simpa using hy)] at h
      simp [setL_map g h1 h]
theorem mix_bd {f on off : Int} (h0 : 0 ≤ f) (h1 : f ≤ 31) (h2 : 0 ≤ on) (h3 : on ≤ 31) (h4 : 0 ≤ off) (h5 : off ≤ 31) : 0 ≤ mix f on off ∧ mix f on off ≤ 31 := (mix_eq h0 h1 h2 h3 h4 h5).2
theorem setB_cases (b : Bx) (u on off : Int) : ((setB b u on off).2.2 ≠ 0 ∧ (setB b u on off).1 = b) ∨ ∃ e, findB b u = some e ∧ flagOk on = true ∧ flagOk off = true ∧ setB b u on off = (⟨b.validity, b.next, setL u { e with flags := mix e.flags on off } b.l⟩, { e with flags := mix e.flags on off }, 0) := by
  unfold setB
  cases h : findB b u with
  | none => exact .inl ⟨by simp, rfl⟩
  | some e =>
    simp only
    split
    · exact .inl ⟨by simp, rfl⟩
    · rename_i h1
      have h2 : flagOk on = true ∧ flagOk off = true := by simpa using h1
      exact .inr ⟨e, rfl, h2.1, h2.2, rfl⟩
theorem ok_setB {t : Int} {M : Md} (h : Ok t M) {x : Bx} (hx : x ∈ M.b) (u on off : Int) : Ok t (setBox M (setB x u on off).1) := by
  rcases setB_cases x u on off with ⟨_, h1⟩ | ⟨e, h1, h2, h3, h4⟩
  · rw [h1, setBox_self h.vnodup hx]; exact h
  · rw [h4]
    have hx' := h.bx x hx
    obtain ⟨g1, g2⟩ := findB_some h1
    have he := hx'.ent e g1
    have hon : 0 ≤ on ∧ on ≤ 31 := by simpa [flagOk] using h2
    have hoff : 0 ≤ off ∧ off ≤ 31 := by simpa [flagOk] using h3
    have hb := mix_bd he.2.2.1 he.2.2.2.1 hon.1 hon.2 hoff.1 hoff.2
    have hu : (setL u { e with flags := mix e.flags on off } x.l).map (·.uid) = x.l.map (·.uid) := setL_map (e := e) (e' := { e with flags := mix e.flags on off }) (·.uid) rfl h1
    have hml : (setL u { e with flags := mix e.flags on off } x.l).map (·.mail) = x.l.map (·.mail) := setL_map (e := e) (e' := { e with flags := mix e.flags on off }) (·.mail) rfl h1
    have hlen : (setL u { e with flags := mix e.flags on off } x.l).length = x.l.length := by
      have := congrArg List.length hu
      simpa using this
    have hent : ∀ y ∈ setL u { e with flags := mix e.flags on off } x.l, 1 ≤ y.uid ∧ y.uid < x.next ∧ 0 ≤ y.flags ∧ y.flags ≤ 31 ∧ 1 ≤ y.mail := fun y hy => by
      rcases setL_mem hy with rfl | hy
      · exact ⟨he.1, he.2.1, hb.1, hb.2, he.2.2.2.2⟩
      · exact hx'.ent y hy
    have hmails : ∀ m, m ∈ (setL u { e with flags := mix e.flags on off } x.l).map (·.mail) ↔ m ∈ x.l.map (·.mail) := fun m => by rw [hml]
    have h5 := ok_setBox h.toOk' (Int.le_refl _) (x := x) (y := ⟨x.validity, x.next, setL u { e with flags := mix e.flags on off } x.l⟩) hx rfl
      ⟨hx'.nx, by rw [hlen]; exact hx'.len, by
        have : ((setL u { e with flags := mix e.flags on off } x.l).map (·.uid)).Pairwise (· < ·) := by rw [hu]; exact List.pairwise_map.2 hx'.uid
        exact List.pairwise_map.1 this, hent⟩ (fun y hy => by
        have : y.mail ∈ x.l.map (·.mail) := (hmails _).1 (List.mem_map.2 ⟨y, hy, rfl⟩)
        obtain ⟨y', hy', hye⟩ := List.mem_map.1 this
        rw [← hye]
        exact h.me x hx y' hy')
    have hmem : ∀ z, z ∈ (setBox M ⟨x.validity, x.next, setL u { e with flags := mix e.flags on off } x.l⟩).b ↔ _ := fun z => setBox_mem (z := z) h.vnodup hx rfl
    refine { h5 with mu := fun q hq => ?_ }
    obtain ⟨z, hz, e', he', hqe⟩ := used_iff.1 (h.mu q hq)
    refine used_iff.2 ?_
    by_cases hc : z.validity = x.validity
    · have : z = x := inj_of_nodup_map _ h.vnodup hz hx hc
      subst this
      have : e'.mail ∈ (setL u { e with flags := mix e.flags on off } z.l).map (·.mail) := (hmails _).2 (List.mem_map.2 ⟨e', he', rfl⟩)
      obtain ⟨y', hy', hye⟩ := List.mem_map.1 this
      exact ⟨_, (hmem _).2 (.inl rfl), y', hy', hye.trans hqe⟩
    · exact ⟨z, (hmem z).2 (.inr ⟨hz, hc⟩), e', he', hqe⟩
theorem ok_expunge {t : Int} {M : Md} (h : Ok t M) {x : Bx} (hx : x ∈ M.b) (s : Str) : Ok t (expunge M x s).1 := by
  refine ok_sweep (ok_setBox h.toOk' (Int.le_refl _) (x := x) (y := (expungeB x).1) hx rfl (bxok_filter (h.bx x hx) _) fun e he => h.me x hx e (List.mem_filter.1 he).1)

theorem ok_act {t : Int} {M : Md} (ht : 0 ≤ t ∧ t < 1000000) (h : Ok t M) (o : Pl.Op) : Ok (t + 1) (act M o).1 := by
  have hm := h.mono (show t ≤ t + 1 by omega)
  unfold act
  split
  · exact ok_named ht h o
  split
  · exact hm
  split
  · exact hm
  split
  · exact hm
  split
  · unfold within
    cases hf : find M o.box with
    | none => exact hm
    | some x =>
      have hx := find_some h.names hf
      simp only
      split
      · exact hm
      split
      · exact ok_append ht h hx o
      split
      · exact hm
      split
      · exact ok_copy ht h hx o
      split
      · split
        · exact hm
        · exact ok_setB hm hx _ _ _
      · exact ok_expunge hm hx _
  · exact hm
theorem ok_acts : ∀ (l : List Pl.Op) {t : Int} {M : Md}, 0 ≤ t → t + l.length < 1000000 → Ok t M → Ok (t + l.length) (acts M l)
  | [], t, M, h0, h1, h => by simpa [acts] using h
  | o :: l, t, M, h0, h1, h => by
    simp only [List.length_cons] at h1 ⊢
    have := ok_acts l (t := t + 1) (by omega) (by omega) (ok_act ⟨h0, by omega⟩ h o)
    rw [show t + ((l.length + 1 : Nat) : Int) = t + 1 + l.length by omega]
    exact this
end Go.SW
