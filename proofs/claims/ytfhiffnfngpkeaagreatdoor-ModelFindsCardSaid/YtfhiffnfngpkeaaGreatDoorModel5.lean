/- The store: named. -/
import Derived.Test.YtfhiffnfngpkeaaGreatDoorModel4
set_option linter.unusedVariables false
namespace Go.SW
open Go Go.Proofs Pl

def nmAct (N : Nm) (o : Pl.Op) : Nm × Int × Int := if o.kind = 1 then createN N o.box else if o.kind = 2 then deleteN N o.box else renameN N o.box o.to
theorem createN_ok {N : Nm} {s : Str} (h : (createN N s).2.2 = 0) : createN N s = (⟨putN (s, N.next) N.l, N.next + 1⟩, N.next, 0) := by
  unfold createN at h ⊢
  split
  · rename_i h1; rw [if_pos h1] at h; simp at h
  · rename_i h1
    rw [if_neg h1] at h
    split
    · rename_i h2; rw [if_pos h2] at h; simp at h
    · rename_i h2
      rw [if_neg h2] at h
      split
      · rename_i h3; rw [if_pos h3] at h; simp at h
      · rfl
theorem Bx_new_validity {id : Int} (h0 : 1 ≤ id) (h1 : id ≤ 1099511627776) : (Bx.new id).validity = id := by
  simp only [Bx.new]
  omega

section
variable {w : World} {k : Nat} {ow : Nat → Tag} {M : Md} {kn bb mb : Nat} {pt : Int → Nat}
theorem Fp_tag {j : Nat} {t : Tag} (h : ow j = t) (ht : t ≠ .out) : Fp ow j := by
  unfold Fp
  rw [h]; exact ht
theorem IsModel.nm {w' : World} {N : Nm} (h : IsModel w k ow M kn bb mb pt) (hk : Keep (fun j => ow j = .names) w w') (hn : IsNames w' kn (fun j => ow j = .names) N) : IsModel w' k ow { M with n := N } kn bb mb pt := by
  have hsame : ∀ j t, t ≠ Tag.out → t ≠ Tag.names → ow j = t → w'.heap[j]? = w.heap[j]? := fun j t h1 h2 h4 => hk.keep j (h.lt j (h4 ▸ h1)) (fun he => h2 (h4.symm.trans he))
  exact {
    top := (hsame k _ (by intro h; cases h) (by intro h; cases h) h.otop).trans h.top
    otop := h.otop
    obb := h.obb
    omb := h.omb
    names := hn
    boxes := h.boxes.keep (hsame bb _ (by intro h; cases h) (by intro h; cases h) h.obb)
    mails := h.mails.keep (hsame mb _ (by intro h; cases h) (by intro h; cases h) h.omb)
    box := fun x hx => (h.box x hx).keep fun j hj _ => hsame j _ (by intro h; cases h) (by intro h; cases h) hj
    lt := fun j hj => Nat.lt_of_lt_of_le (h.lt j hj) hk.size }
/-- what goes through the boxes alone -/
theorem IsModel.bxs {w' : World} {B : List Bx} (h : IsModel w k ow M kn bb mb pt) (hk : Keep (fun j => j = bb) w w') (hb : MapAt Ebx w' bb (B.map fun x => (x.validity, pt x.validity))) (hB : ∀ x ∈ B, x ∈ M.b) : IsModel w' k ow { M with b := B } kn bb mb pt := by
  have hsame : ∀ j t, t ≠ Tag.out → t ≠ Tag.boxes → ow j = t → w'.heap[j]? = w.heap[j]? := fun j t h1 h2 h4 => hk.keep j (h.lt j (h4 ▸ h1)) (fun he => by
    rw [he, h.obb] at h4; exact h2 h4.symm)
  exact {
    top := (hsame k _ (by intro h; cases h) (by intro h; cases h) h.otop).trans h.top
    otop := h.otop
    obb := h.obb
    omb := h.omb
    names := h.names.keep fun j hj _ => hsame j _ (by intro h; cases h) (by intro h; cases h) hj
    boxes := hb
    mails := h.mails.keep (hsame mb _ (by intro h; cases h) (by intro h; cases h) h.omb)
    box := fun x hx => (h.box x (hB x hx)).keep fun j hj _ => hsame j _ (by intro h; cases h) (by intro h; cases h) hj
    lt := fun j hj => Nat.lt_of_lt_of_le (h.lt j hj) hk.size }
/-- one box more -/
theorem IsModel.more {w1 w2 : World} {k1 : Nat} {x : Bx} (h : IsModel w k ow M kn bb mb pt) (hk1 : k1 = w.heap.size) (hs1 : w1.heap.size = k1 + 1) (h1 : Keep No w w1) (hb : IsBox w1 k1 (fun j => j = k1) x) (hfr : ∀ y ∈ M.b, y.validity ≠ x.validity)
    (h2 : Keep (fun j => j = bb) w1 w2) (hm : MapAt Ebx w2 bb (mput (M.b.map fun x => (x.validity, pt x.validity)) x.validity k1)) :
    ∃ ow' pt', (∀ j, j ≠ k1 → ow' j = ow j) ∧ IsModel w2 k ow' { M with b := M.b ++ [x] } kn bb mb pt' := by
  have ho1 : ow k1 = .out := h.new_out (Nat.le_of_eq hk1.symm)
  refine ⟨fun j => if j = k1 then .box x.validity else ow j, fun v => if v = x.validity then k1 else pt v, fun j hj => if_neg hj, ?_⟩
  have htag : ∀ j t, t ≠ Tag.out → ow j = t → (if j = k1 then Tag.box x.validity else ow j) = t := by
    intro j t h1 h2
    rw [if_neg (fun he => by rw [he, ho1] at h2; exact h1 h2.symm)]
    exact h2
  have hsame : ∀ j t, t ≠ Tag.out → t ≠ Tag.boxes → ow j = t → w2.heap[j]? = w.heap[j]? := fun j t h3 h4 h5 => by
    have hlt := h.lt j (h5 ▸ h3)
    exact (h2.keep j (Nat.lt_of_lt_of_le hlt h1.size) (fun he => by rw [he, h.obb] at h5; exact h4 h5.symm)).trans (h1.keep j hlt (fun h => h))
  have hbb : bb ≠ k1 := fun he => by have := h.obb; rw [he, ho1] at this; cases this
  refine { top := ?_, otop := ?_, obb := ?_, omb := ?_, names := ?_, boxes := ?_, mails := ?_, box := ?_, lt := ?_ }
  · exact (hsame k _ (by intro h; cases h) (by intro h; cases h) h.otop).trans h.top
  · exact htag k _ (by intro h; cases h) h.otop
  · exact htag bb _ (by intro h; cases h) h.obb
  · exact htag mb _ (by intro h; cases h) h.omb
  · refine (h.names.keep fun j hj _ => hsame j _ (by intro h; cases h) (by intro h; cases h) hj).mono fun j hj => ?_
    exact htag j _ (by intro h; cases h) hj
  · have hl : (mput (M.b.map fun x => (x.validity, pt x.validity)) x.validity k1) = (x.validity, k1) :: M.b.map fun x => (x.validity, pt x.validity) := by
      unfold mput
      rw [mdel_self]
      intro hc
      obtain ⟨q, hq, he⟩ := List.mem_map.1 hc
      obtain ⟨y, hy, rfl⟩ := List.mem_map.1 hq
      exact hfr y hy he
    rw [hl] at hm
    have hl2 : ((M.b ++ [x]).map fun y => (y.validity, if y.validity = x.validity then k1 else pt y.validity)) = (M.b.map fun y => (y.validity, pt y.validity)) ++ [(x.validity, k1)] := by
      rw [List.map_append]
      congr 1
      · refine List.map_congr_left fun y hy => ?_
        rw [if_neg (hfr y hy)]
      · simp
    show MapAt Ebx w2 bb ((M.b ++ [x]).map fun y => (y.validity, if y.validity = x.validity then k1 else pt y.validity))
    rw [hl2]
    exact hm.perm (List.perm_append_singleton _ _).symm
  · exact h.mails.keep (hsame mb _ (by intro h; cases h) (by intro h; cases h) h.omb)
  · intro y hy
    rcases List.mem_append.1 hy with hy | hy
    · have hv := hfr y hy
      show IsBox w2 (if y.validity = x.validity then k1 else pt y.validity) (fun j => (if j = k1 then Tag.box x.validity else ow j) = .box y.validity) y
      rw [if_neg hv]
      refine ((h.box y hy).keep fun j hj _ => hsame j _ (by intro h; cases h) (by intro h; cases h) hj).mono fun j hj => ?_
      exact htag j _ (by intro h; cases h) hj
    · rw [List.mem_singleton.1 hy]
      show IsBox w2 (if x.validity = x.validity then k1 else pt x.validity) (fun j => (if j = k1 then Tag.box x.validity else ow j) = .box x.validity) x
      rw [if_pos rfl]
      refine (hb.kept h2 (fun j hj he => hbb (he.symm.trans hj))).mono fun j hj => ?_
      rw [hj]; exact if_pos rfl
  · intro j hj
    by_cases hc : j = k1
    · have := h2.size
      omega
    · have : ow j ≠ .out := by
        simp only [if_neg hc] at hj
        exact hj
      have := h.lt j this
      have := h1.size; have := h2.size
      omega

theorem model_named (h : IsModel w k ow M kn bb mb pt) (hg : Glob w) (ho1 : ow 1 = .out) (o : Pl.Op) (hlen : o.box.length < 1099511627776 ∧ o.to.length < 1099511627776) (hn : 1 ≤ M.n.next ∧ M.n.next < 1000000) (hfr : ∀ x ∈ M.b, x.validity < M.n.next)
    (hl : ∀ z ∈ M.b, z.l.length < 10000) (hk3 : o.kind = 1 ∨ o.kind = 2 ∨ o.kind = 3) (A : Option Addr) (n c : Nat) :
    Calls PP 32 #[.pointer (some ⟨k, 0, none⟩), .agg ⟨ocells o A n c⟩] w (Ret fun r w' => DoneAct w k ow kn bb mb (named M o).1 (named M o).2 r w') := by
  refine c32 ?_
  unfold S32
  refine NEW.i fun k3 w1 hk3' hs1 k1 a1 => NEW.i fun k4 w2 hk4 hs2 k2 a2 => ?_
  have hk2 := k1.trans k2
  have a1' := a1.no k2
  have h2 := h.no hk2
  have o3 : ow k3 = .out := h.new_out (by omega)
  have o4 : ow k4 = .out := h.new_out (by omega)
  refine ⟨fun x5 x6 w3 => x5 = (nmAct M.n o).2.1 ∧ x6 = (nmAct M.n o).2.2 ∧ Keep (fun j => ow j = .names) w2 w3 ∧ IsNames w3 kn (fun j => ow j = .names) (nmAct M.n o).1, ?_, ?_⟩
  · refine ⟨_, cell_at a1' rfl, split_i (fun hc => ?_) (fun hc => split_i (fun hc2 => ?_) (fun hc2 => ?_))⟩
    · have hc' : o.kind = 1 := by simpa using hc
      have he : nmAct M.n o = createN M.n o.box := if_pos hc'
      rw [he]
      refine DRAW.i fun w3 hw3 k3 => ?_
      have h3 := h2.no k3
      refine ⟨_, cell_at h3.top rfl, _, cell_at (a1'.no k3) rfl, ?_⟩
      refine CALL.i (names_create h3.names (hg.no (hk2.trans k3)) o.box hlen.1 (by omega) (by omega)) (by kernel_rfl) ?_
      rintro r w4 ⟨rfl, k4, g4⟩
      exact ⟨_, _, rfl, rfl, rfl, k3.no.trans k4, g4⟩
    · have hc' : o.kind = 2 := by simpa using hc2
      have hc1 : ¬ o.kind = 1 := by simpa using hc
      have he : nmAct M.n o = deleteN M.n o.box := by unfold nmAct; rw [if_neg hc1, if_pos hc']
      rw [he]
      refine DRAW.i fun w3 hw3 k3 => ?_
      have h3 := h2.no k3
      refine ⟨_, cell_at h3.top rfl, _, cell_at (a1'.no k3) rfl, ?_⟩
      refine CALL.i (names_delete h3.names o.box) (by kernel_rfl) ?_
      rintro r w4 ⟨rfl, k4, g4⟩
      exact ⟨_, _, rfl, rfl, rfl, k3.no.trans k4, g4⟩
    · have hc' : ¬ o.kind = 2 := by simpa using hc2
      have hc1 : ¬ o.kind = 1 := by simpa using hc
      have he : nmAct M.n o = renameN M.n o.box o.to := by unfold nmAct; rw [if_neg hc1, if_neg hc']
      rw [he]
      refine DRAW.i fun w3 hw3 k3 => ?_
      have h3 := h2.no k3
      refine ⟨_, cell_at h3.top rfl, _, cell_at (a1'.no k3) rfl, _, cell_at (a1'.no k3) rfl, ?_⟩
      refine CALL.i (names_rename h3.names (hg.no (hk2.trans k3)) o.box o.to hlen.2) (by kernel_rfl) ?_
      rintro r w4 ⟨rfl, k4, g4⟩
      exact ⟨_, _, rfl, rfl, rfl, k3.no.trans k4, g4⟩
  · rintro _ _ _ w3 ⟨rfl, rfl, k23, g3⟩
    have h3 := h2.nm k23 g3
    have hne : ∀ j, ow j = .out → ow j ≠ .names := fun j hj => by rw [hj]; intro h; cases h
    have c3 := k23.at_ a1' (hne k3 o3)
    have c4 := k23.at_ a2 (hne k4 o4)
    have hkF : Keep (Fp ow) w w3 := hk2.no.trans (k23.mono fun j _ hj => Fp_tag hj (by intro h; cases h))
    have hnamed : named M o = if (nmAct M.n o).2.2 ≠ 0 then ({ M with n := (nmAct M.n o).1 }, no (nmAct M.n o).2.2) else if o.kind = 1 then ({ M with n := (nmAct M.n o).1, b := M.b ++ [.new (nmAct M.n o).2.1] }, ⟨0, (nmAct M.n o).2.1, [], [], []⟩)
        else if o.kind = 2 then (sweep { M with n := (nmAct M.n o).1, b := M.b.filter fun b => b.validity ≠ (nmAct M.n o).2.1 }, ⟨0, (nmAct M.n o).2.1, [], [], []⟩) else ({ M with n := (nmAct M.n o).1 }, ⟨0, (nmAct M.n o).2.1, [], [], []⟩) := by
      unfold named nmAct
      by_cases e1 : o.kind = 1
      · simp only [e1, if_true]
      · by_cases e2 : o.kind = 2
        · simp only [e2, if_true]
          simp
        · simp only [e1, e2, if_false]
    refine split_i (fun hc => ?_) (fun hc => ?_)
    · have hc' : (nmAct M.n o).2.2 ≠ 0 := by simpa using hc
      rw [hnamed, if_pos hc']
      exact call_no _ h3 hkF (by omega) c4 rfl o4
    · have hc' : (nmAct M.n o).2.2 = 0 := by simpa using hc
      rw [hnamed, if_neg (fun h => h hc')]
      refine ⟨_, cell_at c3 rfl, split_i (fun hk1 => ?_) (fun hk1 => split_i (fun hk2' => ?_) (fun hk2' => ?_))⟩
      · have hk1' : o.kind = 1 := by simpa using hk1
        rw [if_pos hk1']
        have hcr : nmAct M.n o = createN M.n o.box := if_pos hk1'
        have hok := createN_ok (N := M.n) (s := o.box) (by rw [← hcr]; exact hc')
        have hid : (nmAct M.n o).2.1 = M.n.next := by rw [hcr, hok]
        rw [hid]
        have hbv : (Bx.new M.n.next).validity = M.n.next := Bx_new_validity hn.1 (by omega)
        refine DRAW.i fun w4 hw4 k4' => ?_
        have h4 := h3.no k4'
        have hs4 : w4.heap.size = w3.heap.size := by rw [hw4]
        refine ⟨_, cell_at h4.top rfl, ?_⟩
        refine CALL.i (box_new M.n.next w4) (by kernel_rfl) ?_
        rintro r w5 ⟨kb, rfl, hkb, hs5, k5, g5⟩
        have h5 := h4.no k5
        refine ⟨_, rfl, loadVar_cell (by kernel_rfl) (cell_at h5.top rfl), ?_⟩
        refine map_update T79 h5.boxes M.n.next kb fun w6 hs6 k6 m6 => ?_
        obtain ⟨ow', pt', e1, h6⟩ := h4.more (x := .new M.n.next) hkb hs5 k5 g5 (fun y hy => by have := hfr y hy; rw [hbv]; omega) k6 (by rw [hbv]; exact m6)
        have hs23 := k23.size
        have lt4 := a2.lt
        have d4 := k6.at_ ((c4.no k4').no k5) (fun he => by rw [he, h.obb] at o4; cases o4)
        refine flat_ans (t := []) ?_ h6 (fun j hj ho => (e1 j (by have := hk2.size; omega)).trans ho) (by omega) d4 rfl ((e1 k4 (by omega)).trans o4)
        refine ((hkF.and_no k4').and_no k5).trans (k6.mono fun j _ hj => ?_)
        rw [hj]
        exact Fp_tag h.obb (by intro h; cases h)
      · have hk2c : o.kind = 2 := by simpa using hk2'
        have hk1c : ¬ o.kind = 1 := by simpa using hk1
        rw [if_neg hk1c, if_pos hk2c]
        refine ⟨_, cell_at h3.top rfl, ?_⟩
        refine map_delete T79 h3.boxes (nmAct M.n o).2.1 3 0 fun w4 hs4 k4' m4 => ?_
        have hmd : mdel (M.b.map fun x => (x.validity, pt x.validity)) (nmAct M.n o).2.1 = (M.b.filter fun b => b.validity ≠ (nmAct M.n o).2.1).map fun x => (x.validity, pt x.validity) := by
          unfold mdel
          rw [List.filter_map]
          congr 1
          refine List.filter_congr fun x _ => ?_
          by_cases hx : x.validity = (nmAct M.n o).2.1 <;> simp [hx]
        have m4' : MapAt Ebx w4 bb ((M.b.filter fun b => b.validity ≠ (nmAct M.n o).2.1).map fun x => (x.validity, pt x.validity)) := hmd ▸ m4
        have h4 := h3.bxs k4' m4' (fun x hx => (List.mem_filter.1 hx).1)
        refine CALL.i (model_sweep h4 (fun x hx => by have := hl x ((List.mem_filter.1 hx).1); omega)) (by kernel_rfl) ?_
        rintro r w5 ⟨rfl, k5, h5⟩
        refine ⟨rfl, ?_⟩
        have nb : k4 ≠ bb := fun he => by rw [he, h.obb] at o4; cases o4
        have nm : k4 ≠ mb := fun he => by rw [he, h.omb] at o4; cases o4
        refine flat_ans (t := []) ?_ h5 (fun _ _ h => h) (by omega) (k5.at_ (k4'.at_ c4 nb) nm) rfl o4
        refine (hkF.trans (k4'.mono fun j _ hj => ?_)).trans (k5.mono fun j _ hj => ?_)
        · rw [hj]; exact Fp_tag h.obb (by intro h; cases h)
        · rw [hj]; exact Fp_tag h.omb (by intro h; cases h)
      · have hk2c : ¬ o.kind = 2 := by simpa using hk2'
        have hk1c : ¬ o.kind = 1 := by simpa using hk1
        rw [if_neg hk1c, if_neg hk2c]
        exact flat_ans (t := []) hkF h3 (fun _ _ h => h) (by omega) c4 rfl o4
end
end Go.SW
