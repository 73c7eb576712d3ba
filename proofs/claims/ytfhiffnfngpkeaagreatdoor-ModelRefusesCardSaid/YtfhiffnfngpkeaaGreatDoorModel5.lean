/- The store: named. -/
import Derived.Test.YtfhiffnfngpkeaaGreatDoorModel3
set_option linter.unusedVariables false
namespace Go.SW
open Go Go.Proofs Pl

def nmAct (N : Nm) (o : Pl.Op) : Nm × Int × Int := if o.kind = 1 then createN N o.box else if o.kind = 2 then deleteN N o.box else renameN N o.box o.to
theorem createN_ok {N : Nm} {s : Str} (h : (createN N s).2.2 = 0) : createN N s = (⟨putN (s, N.next) N.l, N.next + 1⟩, N.next, 0) := by
  unfold createN at h ⊢
  split
  · rename_i h1; rw [if_pos h1] at h; simp at h
  · rename_i h1
    rw [if_neg h1] at h
    split
    · rename_i h2; rw [if_pos h2] at h; simp at h
    · rename_i h2
      rw [if_neg h2] at h
      split
      · rename_i h3; rw [if_pos h3] at h; simp at h
      · rfl
theorem Bx_new_validity {id : Int} (h0 : 1 ≤ id) (h1 : id ≤ 1099511627776) : (Bx.new id).validity = id := by
  simp only [Bx.new]
  omega

section
variable {w : World} {k : Nat} {ow : Nat → Tag} {M : Md} {kn bb mb : Nat} {pt : Int → Nat}
theorem Fp_tag {j : Nat} {t : Tag} (h : ow j = t) (ht : t ≠ .out) : Fp ow j := by
  unfold Fp
  rw [h]; exact ht
theorem IsModel.nm {w' : World} {N : Nm} (h : IsModel w k ow M kn bb mb pt) (hk : Keep (fun j => ow j = .names) w w') (hn : IsNames w' kn (fun j => ow j = .names) N) : IsModel w' k ow { M with n := N } kn bb mb pt := by
  have hsame : ∀ j t, t ≠ Tag.out → t ≠ Tag.names → ow j = t → w'.heap[j]? = w.heap[j]? := fun j t h1 h2 h4 => hk.keep j (h.lt j (h4 ▸ h1)) (fun he => h2 (h4.symm.trans he))
  exact {
    top := (hsame k _ (by intro h; cases h) (by intro h; cases h) h.otop).trans h.top
    otop := h.otop
    obb := h.obb
    omb := h.omb
    names := hn
    boxes := h.boxes.keep (hsame bb _ (by intro h; cases h) (by intro h; cases h) h.obb)
    mails := h.mails.keep (hsame mb _ (by intro h; cases h) (by intro h; cases h) h.omb)
    box := fun x hx => (h.box x hx).keep fun j hj _ => hsame j _ (by intro h; cases h) (by intro h; cases h) hj
    lt := fun j hj => Nat.lt_of_lt_of_le (h.lt j hj) hk.size }
/-- what goes through the boxes alone -/
theorem IsModel.bxs {w' : World} {B : List Bx} (h : IsModel w k ow M kn bb mb pt) (hk : Keep (fun j => j = bb) w w') (hb : MapAt Ebx w' bb (B.map fun x => (x.validity, pt x.validity))) (hB : ∀ x ∈ B, x ∈ M.b) : IsModel w' k ow { M with b := B } kn bb mb pt := by
  have hsame : ∀ j t, t ≠ Tag.out → t ≠ Tag.boxes → ow j = t → w'.heap[j]? = w.heap[j]? := fun j t h1 h2 h4 => hk.keep j (h.lt j (h4 ▸ h1)) (fun he => by
    rw [he, h.obb] at h4; exact h2 h4.symm)
  exact {
    top := (hsame k _ (by intro h; cases h) (by intro h; cases h) h.otop).trans h.top
    otop := h.otop
    obb := h.obb
    omb := h.omb
    names := h.names.keep fun j hj _ => hsame j _ (by intro h; cases h) (by intro h; cases h) hj
    boxes := hb
    mails := h.mails.keep (hsame mb _ (by intro h; cases h) (by intro h; cases h) h.omb)
    box := fun x hx => (h.box x (hB x hx)).keep fun j hj _ => hsame j _ (by intro h; cases h) (by intro h; cases h) hj
    lt := fun j hj => Nat.lt_of_lt_of_le (h.lt j hj) hk.size }
/-- one box more -/
theorem IsModel.more {w1 w2 : World} {k1 : Nat} {x : Bx} (h : IsModel w k ow M kn bb mb pt) (hk1 : k1 = w.heap.size) (hs1 : w1.heap.size = k1 + 1) (h1 : Keep No w w1) (hb : IsBox w1 k1 (fun j => j = k1) x) (hfr : ∀ y ∈ M.b, y.validity ≠ x.validity)
    (h2 : Keep (fun j => j = bb) w1 w2) (hm : MapAt Ebx w2 bb (mput (M.b.map fun x => (x.validity, pt x.validity)) x.validity k1)) :
    ∃ ow' pt', (∀ j, j ≠ k1 → ow' j = ow j) ∧ IsModel w2 k ow' { M with b := M.b ++ [x] } kn bb mb pt' := by
  have ho1 : ow k1 = .out := h.new_out (Nat.le_of_eq hk1.symm)
  refine ⟨fun j => if j = k1 then .box x.validity else ow j, fun v => if v = x.validity then k1 else pt v, fun j hj => if_neg hj, ?_⟩
  have htag : ∀ j t, t ≠ Tag.out → ow j = t → (if j = k1 then Tag.box x.validity else ow j) = t := by
    intro j t h1 h2
    rw [if_neg (fun he => by rw [he, ho1] at h2; exact h1 h2.symm)]
    exact h2
  have hsame : ∀ j t, t ≠ Tag.out → t ≠ Tag.boxes → ow j = t → w2.heap[j]? = w.heap[j]? := fun j t h3 h4 h5 => by
    have hlt := h.lt j (h5 ▸ h3)
    exact (h2.keep j (Nat.lt_of_lt_of_le hlt h1.size) (fun he => by rw [he, h.obb] at h5; exact h4 h5.symm)).trans (h1.keep j hlt (fun h => h))
  have hbb : bb ≠ k1 := fun he => by have := h.obb; rw [he, ho1] at this; cases this
  refine { top := ?_, otop := ?_, obb := ?_, omb := ?_, names := ?_, boxes := ?_, mails := ?_, box := ?_, lt := ?_ }
  · exact (hsame k _ (by intro h; cases h) (by intro h; cases h) h.otop).trans h.top
  · exact htag k _ (by intro h; cases h) h.otop
  · exact htag bb _ (by intro h; cases h) h.obb
  · exact htag mb _ (by intro h; cases h) h.omb
  · refine (h.names.keep fun j hj _ => hsame j _ (by intro h; cases h) (by intro h; cases h) hj).mono fun j hj => ?_
    exact htag j _ (by intro h; cases h) hj
  · have hl : (mput (M.b.map fun x => (x.validity, pt x.validity)) x.validity k1) = (x.validity, k1) :: M.b.map fun x => (x.validity, pt x.validity) := by
      unfold mput
      rw [mdel_self]
      intro hc
      obtain ⟨q, hq, he⟩ := List.mem_map.1 hc
      obtain ⟨y, hy, rfl⟩ := List.mem_map.1 hq
      exact hfr y hy he
    rw [hl] at hm
    have hl2 : ((M.b ++ [x]).map fun y => (y.validity, if y.validity = x.validity then k1 else pt y.validity)) = (M.b.map fun y => (y.validity, pt y.validity)) ++ [(x.validity, k1)] := by
      rw [List.map_append]
      congr 1
      · refine List.map_congr_left fun y hy => ?_
        rw [if_neg (hfr y hy)]
      · simp
    show MapAt Ebx w2 bb ((M.b ++ [x]).map fun y => (y.validity, if y.validity = x.validity then k1 else pt y.validity))
    rw [hl2]
    exact hm.perm (List.perm_append_singleton _ _).symm
  · exact h.mails.keep (hsame mb _ (by intro h; cases h) (by intro h; cases h) h.omb)
  · intro y hy
    rcases List.mem_append.1 hy with hy | hy
    · have hv := hfr y hy
      show IsBox w2 (if y.validity = x.validity then k1 else pt y.validity) (fun j => (if j = k1 then Tag.box x.validity else ow j) = .box y.validity) y
      rw [if_neg hv]
      refine ((h.box y hy).keep fun j hj _ => hsame j _ (by intro h; cases h) (by intro h; cases h) hj).mono fun j hj => ?_
      exact htag j _ (by intro h; cases h) hj
    · rw [List.mem_singleton.1 hy]
      show IsBox w2 (if x.validity = x.validity then k1 else pt x.validity) (fun j => (if j = k1 then Tag.box x.validity else ow j) = .box x.validity) x
      rw [if_pos rfl]
      refine (hb.kept h2 (fun j hj he => hbb (he.symm.trans hj))).mono fun j hj => ?_
      rw [hj]; exact if_pos rfl
  · intro j hj
    by_cases hc : j = k1
    · have := h2.size
      omega
    · have : ow j ≠ .out := by
        simp only [if_neg hc] at hj
        exact hj
      have := h.lt j this
      have := h1.size; have := h2.size
      omega

theorem model_named (h : IsModel w k ow M kn bb mb pt) (hg : Glob w) (ho1 : ow 1 = .out) (o : Pl.Op) (hlen : o.box.length < 1099511627776 ∧ o.to.length < 1099511627776) (hn : 1 ≤ M.n.next ∧ M.n.next < 1000000) (hfr : ∀ x ∈ M.b, x.validity < M.n.next)
    (hl : ∀ z ∈ M.b, z.l.length < 10000) (hk3 : o.kind = 1 ∨ o.kind = 2 ∨ o.kind = 3) (A : Option Addr) (n c : Nat) :
    Calls PP 32 #[.pointer (some ⟨k, 0, none⟩), .agg ⟨ocells o A n c⟩] w (Ret fun r w' => DoneAct w k ow kn bb mb (named M o).1 (named M o).2 r w') := by
  refine c32 ?_
  unfold S32
  refine NEW.i fun k3 w1 hk3' hs1 k1 a1 => NEW.i fun k4 w2 hk4 hs2 k2 a2 => ?_
  have hk2 := k1.trans k2
  have a1' := a1.no k2
  have h2 := h.no hk2
  have o3 : ow k3 = .out := h.new_out (by omega)
  have o4 : ow k4 = .out := h.new_out (by omega)
  refine ⟨fun x5 x6 w3 => x5 = (nmAct M.n o).2.1 ∧ x6 = (nmAct M.n o).2.2 ∧ Keep (fun j => ow j = .names) w2 w3 ∧ IsNames w3 kn (fun j => ow j = .names) (nmAct M.n o).1, ?_, ?_⟩
  · refine ⟨_, cell_at a1' rfl, split_i (fun hc => ?_) (fun hc => split_i (fun hc2 => ?_) (fun hc2 => ?_))⟩
    · have hc' : o.kind = 1 := by simpa using hc
      have he : nmAct M.n o = createN M.n o.box := if_pos hc'
      rw [he]
      refine DRAW.i fun w3 hw3 k3 => ?_
      have h3 := h2.no k3
      refine ⟨_, cell_at h3.top rfl, _, cell_at (a1'.no k3) rfl, ?_⟩
      refine CALL.i (names_create h3.names (hg.no (hk2.trans k3)) o.box hlen.1 (by omega) (by omega)) (by kernel_rfl) ?_
      rintro r w4 ⟨rfl, k4, g4⟩
      exact ⟨_, _, rfl, rfl, rfl, k3.no.trans k4, g4⟩
    · have hc' : o.kind = 2 := by simpa using hc2
      have hc1 : ¬ o.kind = 1 := by simpa using hc
      have he : nmAct M.n o = deleteN M.n o.box := by unfold nmAct; rw [if_neg hc1, if_pos hc']
      rw [he]
      refine DRAW.i fun w3 hw3 k3 => ?_
      have h3 := h2.no k3
      refine ⟨_, cell_at h3.top rfl, _, cell_at (a1'.no k3) rfl, ?_⟩
      refine CALL.i (names_delete h3.names o.box) (by kernel_rfl) ?_
      rintro r w4 ⟨rfl, k4, g4⟩
      exact ⟨_, _, rfl, rfl, rfl, k3.no.trans k4, g4⟩
    · have hc' : ¬ o.kind = 2 := by simpa using hc2
      have hc1 : ¬ o.kind = 1 := by simpa using hc
      have he : nmAct M.n o = renameN M.n o.box o.to := by unfold nmAct; rw [if_neg hc1, if_neg hc']
      rw [he]
      refine DRAW.i fun w3 hw3 k3 => ?_
      have h3 := h2.no k3
      refine ⟨_, cell_at h3.top rfl, _, cell_at (a1'.no k3) rfl, _, cell_at (a1'.no k3) rfl, ?_⟩
      refine CALL.i (names_rename h3.names (hg.no (hk2.trans k3)) o.box o.to hlen.2) (by kernel_rfl) ?_
      rintro r w4 ⟨rfl, k4, g4⟩
      exact ⟨_, _, rfl, rfl, rfl, k3.no.trans k4, g4⟩
  · rintro _ _ _ w3 ⟨rfl, rfl, k23, g3⟩
    have h3 := h2.nm k23 g3
    have hne : ∀ j, ow j = .out → ow j ≠ .names := fun j hj => by rw [hj]; intro h; cases h
    have c3 := k23.at_ a1' (hne k3 o3)
    have c4 := k23.at_ a2 (hne k4 o4)
    have hkF : Keep (Fp ow) w w3 := hk2.no.trans (k23.mono fun j _ hj => Fp_tag hj (by intro h; cases h))
    have hnamed : named M o = if (nmAct M.n o).2.2 ≠ 0 then ({ M with n := (nmAct M.n o).1 }, no (nmAct M.n o).2.2) else if o.kind = 1 then ({ M with n := (nmAct M.n o).1, b := M.b ++ [.new (nmAct M.n o).2.1] }, ⟨0, (nmAct M.n o).2.1, [], [], []⟩)
        else if o.kind = 2 then (sweep { M with n := (nmAct M.n o).1, b := M.b.filter fun b => b.validity ≠ (nmAct M.n o).2.1 }, ⟨0, (nmAct M.n o).2.1, [], [], []⟩) else ({ M with n := (nmAct M.n o).1 }, ⟨0, (nmAct M.n o).2.1, [], [], []⟩) := by
      unfold named nmAct
      by_cases e1 : o.kind = 1
      · simp only [e1, if_true]
      · by_cases e2 : o.kind = 2
        · simp only [e2, if_true]
          simp
        · simp only [e1, e2, if_false]
    refine split_i (fun hc => ?_) (fun hc => ?_)
    · have hc' : (nmAct M.n o).2.2 ≠ 0 := by simpa using hc
      rw [hnamed, if_pos hc']
      exact call_no _ h3 hkF (by omega) c4 rfl o4
    · have hc' : (nmAct M.n o).2.2 = 0 := by simpa using hc
      rw [hnamed, if_neg (fun h => h hc')]
      refine ⟨_, cell_at c3 rfl, split_i (fun hk1 => ?_) (fun hk1 => split_i (fun hk2' => ?_) (fun hk2' => ?_))⟩
      · have hk1' : o.kind = 1 := by simpa using hk1
        rw [if_pos hk1']
        have hcr : nmAct M.n o = createN M.n o.box := if_pos hk1'
        have hok := createN_ok (N := M.n) (s := o.box) (by rw [← hcr]; exact hc')
        have hid : (nmAct M.n o).2.1 = M.n.next := by rw [hcr, hok]
        rw [hid]
        have hbv : (Bx.new M.n.next).validity = M.n.next := Bx_new_validity hn.1 (by omega)
        refine DRAW.i fun w4 hw4 k4' => ?_
        have h4 := h3.no k4'
        have hs4 : w4.heap.size = w3.heap.size := by rw [hw4]
        refine ⟨_, cell_at h4.top rfl, ?_⟩
        refine CALL.i (box_new M.n.next w4) (by kernel_rfl) ?_
        rintro r w5 ⟨kb, rfl, hkb, hs5, k5, g5⟩
        have h5 := h4.no k5
        refine ⟨_, rfl, loadVar_cell (by kernel_rfl) (cell_at h5.top rfl), ?_⟩
        refine map_update T79 h5.boxes M.n.next kb fun w6 hs6 k6 m6 => ?_
        obtain ⟨ow', pt', e1, h6⟩ := h4.more (x := .new M.n.next) hkb hs5 k5 g5 (fun y hy => by have := hfr y hy; rw [hbv]; omega) k6 (by rw [hbv]; exact m6)
        have hs23 := k23.size
        have lt4 := a2.lt
        have d4 := k6.at_ ((c4.no k4').no k5) (fun he => by rw [he, h.obb] at o4; cases o4)
        refine flat_ans (t := []) ?_ h6 (fun j hj ho => (e1 j (by have := hk2.size; omega)).trans ho) (by omega) d4 rfl ((e1 k4 (by omega)).trans o4)
        refine ((hkF.and_no k4').and_no k5).trans (k6.mono fun j _ hj => ?_)
        rw [hj]
        exact Fp_tag h.obb (by intro h; cases h)
      · have hk2c : o.kind = 2 := by simpa using hk2'
        have hk1c : ¬ o.kind = 1 := by simpa using hk1
        rw [if_neg hk1c, if_pos hk2c]
        refine ⟨_, cell_at h3.top rfl, ?_⟩
        refine map_delete T79 h3.boxes (nmAct M.n o).2.1 3 0 fun w4 hs4 k4' m4 => ?_
        have hmd : mdel (M.b.map fun x => (x.validity, pt x.validity)) (nmAct M.n o).2.1 = (M.b.filter fun b => b.validity ≠ (nmAct M.n o).2.1).map fun x => (x.validity, pt x.validity) := by
          unfold mdel
          rw [List.filter_map]
          congr 1
          refine List.filter_congr fun x _ => ?_
          by_cases hx : x.validity = (nmAct M.n o).2.1 <;> simp [hx]
        have m4' : MapAt Ebx w4 bb ((M.b.filter fun b => b.validity ≠ (nmAct M.n o).2.1).map fun x => (x.validity, pt x.validity)) := hmd ▸ m4
        have h4 := h3.bxs k4' m4' (fun x hx => (List.mem_filter.1 hx).1)
        refine CALL.i (model_sweep h4 (fun x hx => by have := hl x ((List.mem_filter.1 hx).1); omega)) (by kernel_rfl) ?_
        rintro r w5 ⟨rfl, k5, h5⟩
        refine ⟨rfl, ?_⟩
        have nb : k4 ≠ bb := fun he => by rw [he, h.obb] at o4; cases o4
        have nm : k4 ≠ mb := fun he => by rw [he, h.omb] at o4; cases o4
        refine flat_ans (t := []) ?_ h5 (fun _ _ h => h) (by omega) (k5.at_ (k4'.at_ c4 nb) nm) rfl o4
        refine (hkF.trans (k4'.mono fun j _ hj => ?_)).trans (k5.mono fun j _ hj => ?_)
        · rw [hj]; exact Fp_tag h.obb (by intro h; cases h)
        · rw [hj]; exact Fp_tag h.omb (by intro h; cases h)
      · have hk2c : ¬ o.kind = 2 := by simpa using hk2'
        have hk1c : ¬ o.kind = 1 := by simpa using hk1
        rw [if_neg hk1c, if_neg hk2c]
        exact flat_ans (t := []) hkF h3 (fun _ _ h => h) (by omega) c4 rfl o4
end
end Go.SW
set_option linter.unusedVariables false
namespace Go.SW
open Go Go.Proofs Pl

/-! ## plain -/
def hasF (o : Pl.Op) (e : Ety) : Bool := e.flags.toNat &&& o.flags.toNat == o.flags.toNat
def entOf (M : Md) (o : Pl.Op) (s : Str) : List (Str × Ety) := match find M s with
  | none => []
  | some b => (b.l.filter (hasF o)).map fun e => (s, e)
def EE (M : Md) (o : Pl.Op) (l : List (Str × Int)) : List (Str × Ety) := (l.filter fun p => o.box.isEmpty || p.1 == o.box).flatMap fun p => entOf M o p.1
theorem EE_append (M : Md) (o : Pl.Op) (l l' : List (Str × Int)) : EE M o (l ++ l') = EE M o l ++ EE M o l' := by simp [EE]
theorem EE_one (M : Md) (o : Pl.Op) (p : Str × Int) : EE M o [p] = if o.box.isEmpty || p.1 == o.box then entOf M o p.1 else [] := by
  unfold EE
  cases h : (o.box.isEmpty || p.1 == o.box) with
  | true => simp only [List.filter_cons, h, List.filter_nil, if_true, List.flatMap_cons, List.flatMap_nil, List.append_nil]
  | false => simp only [List.filter_cons, h, List.filter_nil, Bool.false_eq_true, if_false, List.flatMap_nil]
theorem hits_EE (M : Md) (o : Pl.Op) (l : List Str) : ((M.n.l.filter fun p => o.box.isEmpty || p.1 == o.box).flatMap fun p => hitsOf M o l p.1) =
    ((EE M o M.n.l).filter fun q => hasW ((mailOf M q.2.mail).getD []) l).map fun q => ⟨q.1, q.2.uid, q.2.flags⟩ := by
  unfold EE
  rw [List.filter_flatMap, List.map_flatMap]
  congr 1
  funext p
  unfold hitsOf entOf
  cases find M p.1 with
  | none => rfl
  | some b =>
    simp only [List.filter_map, List.map_map, List.filter_filter]
    congr 1
    refine List.filter_congr fun e _ => ?_
    simp only [hasF, Function.comp]
    rw [Bool.and_comm]
theorem split_at {α : Type} {l : List α} {i : Nat} {x : α} (h : l[i]? = some x) : l = l.take i ++ x :: l.drop (i + 1) := by
  obtain ⟨h1, h2⟩ := List.getElem?_eq_some_iff.1 h
  rw [← h2, ← List.drop_eq_getElem_cons h1, List.take_append_drop]

theorem and_flags {f g : Int} (h0 : 0 ≤ f) (h1 : f ≤ 31) (g0 : 0 ≤ g) (g1 : g ≤ 31) :
    (IntKind.wrap .i64 (((BitVec.ofInt 64 f) &&& (BitVec.ofInt 64 g)).toNat : Int) == g) = (f.toNat &&& g.toNat == g.toNat) := by
  have H : ∀ n k : Fin 32, (IntKind.wrap .i64 (((BitVec.ofInt 64 (n.val : Int)) &&& (BitVec.ofInt 64 (k.val : Int))).toNat : Int) == (k.val : Int)) = (n.val &&& k.val == k.val) := by decide +kernel
  have := H ⟨f.toNat, by omega⟩ ⟨g.toNat, by omega⟩
  simp only [Int.toNat_of_nonneg h0, Int.toNat_of_nonneg g0] at this
  exact this

section
variable {w : World} {k : Nat} {ow : Nat → Tag} {M : Md} {kn bb mb : Nat} {pt : Int → Nat}

theorem entries_iter (h : IsModel w k ow M kn bb mb pt) (hok : NamesOk M) (hr : Rising M.n.l) (hnl : M.n.l.length < 1000000) (hf : ∀ x ∈ M.b, FlagsOk x) (hl : ∀ z ∈ M.b, z.l.length < 10000) (o : Pl.Op) (hof : 0 ≤ o.flags ∧ o.flags ≤ 31) {A : Option Addr} {n c k1 k2 : Nat} {t1 : TypeId}
    (a1 : At w k1 (.cells ⟨[.pointer (some ⟨k, 0, none⟩)]⟩ t1 (0, 0))) (a2 : At w k2 (.cells ⟨ocells o A n c⟩ 28 (0, 0))) :
    ITER (.func (.func 117) #[] ⟨[.pointer (some ⟨k1, 0, none⟩), .pointer (some ⟨k2, 0, none⟩)]⟩) (fun q : Str × Ety => [.string (bs q.1), evalue q.2]) (fun vis x => ∃ r, vis ++ x :: r = EE M o M.n.l) (fun vis => vis = EE M o M.n.l) (fun j => ow j ≠ .out ∨ j = k1 ∨ j = k2) w := by
  refine ⟨117, _, rfl, by kernel_rfl, ?_⟩
  intro yv J F0 w1 hw1 hJ0 hframe hlt hsrc hstep
  have b1 := a1.no hw1
  have b2 := a2.no hw1
  have g1 := h.no hw1
  have lk1 := b1.lt
  have lk2 := b2.lt
  refine c117 ?_
  unfold S117
  refine ⟨_, cell_at b1 rfl, _, cell_at_add g1.top rfl, ?_⟩
  refine CALL.i (names_list g1.names hr hnl) (by kernel_rfl) ?_
  rintro r w2 ⟨A1, c1, rfl, q2, o2, f2⟩
  refine ⟨_, _, _, rfl, ?_⟩
  have hs2 := q2.size
  have hlt0 : ∀ j, F0 j → j < w1.heap.size := fun j hj => hlt _ _ _ j hJ0 hj
  have hsl : ∀ j, (ow j ≠ .out ∨ j = k1 ∨ j = k2) → j < w1.heap.size := by
    rintro j (hj | hj | hj)
    · exact g1.lt j hj
    · omega
    · omega
  refine ⟨fun x w3 => ∃ (i : Nat) (vis : List (Str × Ety)) (F : Nat → Prop), x = i ∧ i ≤ M.n.l.length ∧ J vis F w3 ∧ vis = EE M o (M.n.l.take i) ∧ Keep F0 w2 w3 ∧ (∀ j, F j → F0 j ∨ w2.heap.size ≤ j),
    fun x _ => ((M.n.l.length : Nat) - x).toNat, ⟨0, [], F0, rfl, Nat.zero_le _, hframe _ _ _ _ hJ0 (fun j hj => q2.keep j (hj.elim (hlt0 j) (hsl j)) (fun h => h)) hs2, rfl, Keep.refl _ _, fun j hj => .inl hj⟩, ?_⟩
  rintro _ x w3 ⟨i, vis, F, rfl, hi, hJ, hvis, k3, hF⟩
  have hkw : Keep F0 w1 w3 := q2.no.trans k3
  have g3 := g1.kept hkw (fun j hj hf => hsrc j hf (.inl hj))
  have d1 := hkw.at_ b1 (fun hf => hsrc _ hf (.inr (.inl rfl)))
  have d2 := hkw.at_ b2 (fun hf => hsrc _ hf (.inr (.inr rfl)))
  have n1F0 : ∀ j, ownBlk A1 j → ¬ F0 j := fun j hj hf => by have := f2 j hj; have := hlt0 j hf; omega
  have o3 := o2.kept k3 (fun j hj _ hf => hj.elim (fun h => h) (fun h => n1F0 j h hf))
  refine split_dec (fun hlt' => ?_) (fun hge => ?_)
  · have hil : i < M.n.l.length := by omega
    refine ⟨⟨by omega, hlt'⟩, ?_⟩
    obtain ⟨a, s, hA, hs, hrd⟩ := o3.sl.stx hil
    refine SOMEA.i hA ⟨_, by rw [Int.toNat_natCast]; exact hrd, _, cell_at d1 rfl, ?_⟩
    refine CALL.i (model_find g3 hok s) (by kernel_rfl) ?_
    rintro r w4 ⟨rfl, hr4⟩
    have hp : M.n.l[i]? = some M.n.l[i] := List.getElem?_eq_getElem hil
    have hps : M.n.l[i].1 = s := by
      have : (mkeys M.n.l)[i]? = some M.n.l[i].1 := by simp [mkeys, hp]
      rw [this] at hs
      exact Option.some.inj hs
    have hfs : (find M s).isSome = true := by
      rw [find_of hok, ofN_mget]
      cases hm : mget M.n.l s with
      | some v => rfl
      | none =>
        exact absurd (List.mem_map.2 ⟨_, List.getElem_mem hil, hps⟩) (mget_none.1 hm)
    obtain ⟨x, hx⟩ := Option.isSome_iff_exists.1 hfs
    rw [hx] at hr4
    obtain ⟨rfl, hxM⟩ := hr4
    refine ⟨_, _, rfl, ?_⟩
    have hsplit := split_at hp
    have hEE : EE M o (M.n.l.take (i + 1)) = EE M o (M.n.l.take i) ++ (if o.box.isEmpty || s == o.box then entOf M o s else []) := by
      rw [take_succ_some hp, EE_append, EE_one, hps]
    have hEall : EE M o M.n.l = EE M o (M.n.l.take i) ++ ((if o.box.isEmpty || s == o.box then entOf M o s else []) ++ EE M o (M.n.l.drop (i + 1))) := by
      have h5 : EE M o M.n.l = EE M o (M.n.l.take i ++ M.n.l[i] :: M.n.l.drop (i + 1)) := by rw [← hsplit]
      rw [h5, EE_append]
      congr 1
      rw [show M.n.l[i] :: M.n.l.drop (i + 1) = [M.n.l[i]] ++ M.n.l.drop (i + 1) from rfl, EE_append, EE_one, hps]
    have hent : entOf M o s = (x.l.filter (hasF o)).map fun e => (s, e) := by unfold entOf; rw [hx]
    have hbx : (bs o.box).toList = o.box := bs_toList _
    have hemp : (⟨#[]⟩ : ByteArray).toList = [] := bs_emp
    refine ⟨fun w5 => w5 = w4 ∧ (o.box.isEmpty || s == o.box) = true, ?_, ?_⟩
    · refine ⟨_, cell_at d2 rfl, split_i (fun hne => ?_) (fun hne => ?_)⟩
      · rw [hbx, hemp] at hne
        refine ⟨_, cell_at d2 rfl, split_i (fun hns => ?_) (fun hns => ?_)⟩
        · rw [bs_toList, bs_toList] at hns
          have hcond : (o.box.isEmpty || s == o.box) = false := by
            have h6 : o.box ≠ [] := by
              intro he; rw [he] at hne; simp at hne
            have h7 : o.box ≠ s := by
              intro he; rw [he] at hns; simp at hns
            have h8 : o.box.isEmpty = false := by
              cases hb : o.box with
              | nil => exact absurd hb h6
              | cons _ _ => rfl
            rw [h8, Bool.false_or]
            exact beq_false_of_ne (fun he => h7 he.symm)
          rw [hcond] at hEE
          refine ⟨⟨i + 1, vis, F, wrapS (by omega), hil, hJ, ?_, k3, hF⟩, mu_go (wrapS (by omega)) hil⟩
          rw [hEE, hvis]
          simp
        · rw [bs_toList, bs_toList] at hns
          refine ⟨rfl, ?_⟩
          have : o.box = s := by simpa using hns
          rw [this]; simp
      · rw [hbx, hemp] at hne
        refine ⟨rfl, ?_⟩
        have : o.box = [] := by simpa using hne
        rw [this]; rfl
    · rintro _ w5 ⟨rfl, hcond⟩
      rw [hcond] at hEE hEall
      simp only [if_true] at hEE hEall
      have hs5 := k3.size
      refine CALL.i (box_list (G := No) (g3.box x hxM) (by have := hl x hxM; omega) (fun j hj => False.elim hj)) (by kernel_rfl) ?_
      rintro r w6 ⟨A2, c2, rfl, k6, o6, f6⟩
      refine ⟨_, _, _, rfl, ?_⟩
      have hs6 := k6.size
      have hltF : ∀ j, F j → j < w5.heap.size := fun j hj => hlt _ _ _ j hJ hj
      refine ⟨fun y w7 => ∃ (m : Nat) (vis' : List (Str × Ety)) (F' : Nat → Prop), y = m ∧ m ≤ x.l.length ∧ J vis' F' w7 ∧ vis' = EE M o (M.n.l.take i) ++ ((x.l.take m).filter (hasF o)).map (fun e => (s, e)) ∧ Keep F0 w2 w7 ∧ Keep F w6 w7 ∧ (∀ j, F' j → F j ∨ w6.heap.size ≤ j),
        fun y _ => ((x.l.length : Nat) - y).toNat, ⟨0, vis, F, rfl, Nat.zero_le _, hframe _ _ _ _ hJ (fun j hj => k6.keep j (hj.elim (hltF j) (fun h => by have := hsl j h; omega)) (fun h => h)) hs6, by simp [hvis], k3.and_no k6, Keep.refl _ _, fun j hj => .inl hj⟩, ?_⟩
      rintro _ y w7 ⟨m, vis', F', rfl, hm, hJ', hvis', k27, k67, hF'⟩
      have hlx := hl x hxM
      have hkw7 : Keep F0 w1 w7 := q2.no.trans k27
      have d27 := hkw7.at_ b2 (fun hf => hsrc _ hf (.inr (.inr rfl)))
      refine split_dec (fun hlt2 => ?_) (fun hge2 => ?_)
      · have hmx : m < x.l.length := by omega
        refine ⟨⟨by omega, hlt2⟩, ?_⟩
        have o7 : Own Lent 53 w7 No A2 x.l.length c2 x.l := o6.kept k67 (fun j hj _ hfj => hj.elim (fun h => h) (fun h => by have := f6 j h; have := hltF j hfj; omega))
        obtain ⟨a, e, hA2, he, hrd2⟩ := o7.sl.ent hmx
        refine SOMEA.i hA2 ⟨_, _, _, by rw [Int.toNat_natCast]; exact hrd2, ?_⟩
        refine NEW.i fun k9 w8 hk9 hs8 k8 a8 => ?_
        refine ST.i a8 (Nat.le_refl _) rfl fun w9 hs9 k9' a9 => ?_
        have k79 : Keep No w7 w9 := k8.tmp k9' (Nat.le_of_eq hk9)
        have hfe := hf x hxM e (List.mem_of_getElem? he)
        have hJ9 := hframe _ _ _ _ hJ' (fun j hj => k79.keep j (hj.elim (hlt _ _ _ j hJ') (fun h => by have := hsl j h; have := hkw7.size; omega)) (fun h => h)) k79.size
        refine ⟨_, cell_at a9 rfl, _, cell_at (d27.no k79) rfl, _, cell_at (d27.no k79) rfl, ?_⟩
        refine split_i (fun hfl => ?_) (fun hfl => ?_)
        · rw [and_flags hfe.1 hfe.2 hof.1 hof.2] at hfl
          have hfl' : hasF o e = true := hfl
          refine ⟨_, _, _, RD.i a9, ?_⟩
          have hfilt : (x.l.take (m + 1)).filter (hasF o) = (x.l.take m).filter (hasF o) ++ [e] := by
            rw [take_succ_some he, List.filter_append]
            simp [hfl']
          have hfall : x.l.filter (hasF o) = (x.l.take m).filter (hasF o) ++ e :: (x.l.drop (m + 1)).filter (hasF o) := by
            have h5 : x.l.filter (hasF o) = (x.l.take m ++ e :: x.l.drop (m + 1)).filter (hasF o) := by rw [← split_at he]
            rw [h5, List.filter_append, List.filter_cons_of_pos hfl']
          refine CALLV.mono (hstep vis' F' w9 (s, e) hJ9 ?_) ?_
          · refine ⟨((x.l.drop (m + 1)).filter (hasF o)).map (fun e => (s, e)) ++ EE M o (M.n.l.drop (i + 1)), ?_⟩
            rw [hEall, hent, hfall, hvis']
            simp
          rintro r w10 ⟨rfl, k10, F2, hJ10, hF2⟩
          refine ⟨_, rfl, split_i (fun hc => by cases hc) (fun _ => ?_)⟩
          refine ⟨⟨m + 1, vis' ++ [(s, e)], F2, wrapS (by omega), hmx, hJ10, ?_, ?_, ?_, ?_⟩, mu_go (wrapS (by omega)) hmx⟩
          · rw [hvis', hfilt]
            simp
          · refine (k27.and_no k79).trans' k10 fun j hj hj' => ?_
            rcases hF' j hj' with h5 | h5
            · exact (hF j h5).resolve_right (by omega)
            · have := k3.size; omega
          · refine (k67.and_no k79).trans' k10 fun j hj hj' => ?_
            exact (hF' j hj').resolve_right (by omega)
          · intro j hj
            rcases hF2 j hj with h5 | h5
            · exact hF' j h5
            · exact .inr (by have := k67.size; have := k79.size; omega)
        · rw [and_flags hfe.1 hfe.2 hof.1 hof.2] at hfl
          have hfl' : hasF o e = false := hfl
          refine ⟨⟨m + 1, vis', F', wrapS (by omega), hmx, hJ9, ?_, k27.and_no k79, k67.and_no k79, hF'⟩, mu_go (wrapS (by omega)) hmx⟩
          rw [hvis', take_succ_some he, List.filter_append]
          simp [hfl']
      · have hme : m = x.l.length := by omega
        subst hme
        rw [List.take_length] at hvis'
        refine ⟨⟨i + 1, vis', F', wrapS (by omega), hil, hJ', ?_, k27, ?_⟩, mu_go (wrapS (by omega)) hil⟩
        · rw [hEE, hent, hvis']
        · intro j hj
          rcases hF' j hj with h5 | h5
          · exact hF j h5
          · exact .inr (by omega)
  · have hie : i = M.n.l.length := by omega
    rw [hie, List.take_length] at hvis
    refine ⟨hkw, vis, F, hvis, hJ, fun j hj => ?_⟩
    rcases hF j hj with h5 | h5
    · exact .inl h5
    · exact .inr (by omega)
end
end Go.SW
