/- The store: entries as an iterator; search. -/
import Derived.Test.YtfhiffnfngpkeaaGreatDoorModel5
set_option linter.unusedVariables false
namespace Go.SW
open Go Go.Proofs Pl

/-! ## plain -/
def hasF (o : Pl.Op) (e : Ety) : Bool := e.flags.toNat &&& o.flags.toNat == o.flags.toNat
def entOf (M : Md) (o : Pl.Op) (s : Str) : List (Str × Ety) := match find M s with
  | none => []
  | some b => (b.l.filter (hasF o)).map fun e => (s, e)
def EE (M : Md) (o : Pl.Op) (l : List (Str × Int)) : List (Str × Ety) := (l.filter fun p => o.box.isEmpty || p.1 == o.box).flatMap fun p => entOf M o p.1
theorem EE_append (M : Md) (o : Pl.Op) (l l' : List (Str × Int)) : EE M o (l ++ l') = EE M o l ++ EE M o l' := by simp [EE]
theorem EE_one (M : Md) (o : Pl.Op) (p : Str × Int) : EE M o [p] = if o.box.isEmpty || p.1 == o.box then entOf M o p.1 else [] := by
  unfold EE
  cases h : (o.box.isEmpty || p.1 == o.box) with
  | true => simp only [List.filter_cons, h, List.filter_nil, if_true, List.flatMap_cons, List.flatMap_nil, List.append_nil]
  | false => simp only [List.filter_cons, h, List.filter_nil, Bool.false_eq_true, if_false, List.flatMap_nil]
theorem hits_EE (M : Md) (o : Pl.Op) (l : List Str) : ((M.n.l.filter fun p => o.box.isEmpty || p.1 == o.box).flatMap fun p => hitsOf M o l p.1) =
    ((EE M o M.n.l).filter fun q => hasW ((mailOf M q.2.mail).getD []) l).map fun q => ⟨q.1, q.2.uid, q.2.flags⟩ := by
  unfold EE
  rw [List.filter_flatMap, List.map_flatMap]
  congr 1
  funext p
  unfold hitsOf entOf
  cases find M p.1 with
  | none => rfl
  | some b =>
    simp only [List.filter_map, List.map_map, List.filter_filter]
    congr 1
    refine List.filter_congr fun e _ => ?_
    simp only [hasF, Function.comp]
    rw [Bool.and_comm]
theorem split_at {α : Type} {l : List α} {i : Nat} {x : α} (h : l[i]? = some x) : l = l.take i ++ x :: l.drop (i + 1) := by
  obtain ⟨h1, h2⟩ := List.getElem?_eq_some_iff.1 h
  rw [← h2, ← List.drop_eq_getElem_cons h1, List.take_append_drop]

theorem and_flags {f g : Int} (h0 : 0 ≤ f) (h1 : f ≤ 31) (g0 : 0 ≤ g) (g1 : g ≤ 31) :
    (IntKind.wrap .i64 (((BitVec.ofInt 64 f) &&& (BitVec.ofInt 64 g)).toNat : Int) == g) = (f.toNat &&& g.toNat == g.toNat) := by
  have H : ∀ n k : Fin 32, (IntKind.wrap .i64 (((BitVec.ofInt 64 (n.val : Int)) &&& (BitVec.ofInt 64 (k.val : Int))).toNat : Int) == (k.val : Int)) = (n.val &&& k.val == k.val) := by decide +kernel
  have := H ⟨f.toNat, by omega⟩ ⟨g.toNat, by omega⟩
  simp only [Int.toNat_of_nonneg h0, Int.toNat_of_nonneg g0] at this
  exact this

section
variable {w : World} {k : Nat} {ow : Nat → Tag} {M : Md} {kn bb mb : Nat} {pt : Int → Nat}

theorem entries_iter (h : IsModel w k ow M kn bb mb pt) (hok : NamesOk M) (hr : Rising M.n.l) (hnl : M.n.l.length < 1000000) (hf : ∀ x ∈ M.b, FlagsOk x) (hl : ∀ z ∈ M.b, z.l.length < 10000) (o : Pl.Op) (hof : 0 ≤ o.flags ∧ o.flags ≤ 31) {A : Option Addr} {n c k1 k2 : Nat} {t1 : TypeId}
    (a1 : At w k1 (.cells ⟨[.pointer (some ⟨k, 0, none⟩)]⟩ t1 (0, 0))) (a2 : At w k2 (.cells ⟨ocells o A n c⟩ 28 (0, 0))) :
    ITER (.func (.func 117) #[] ⟨[.pointer (some ⟨k1, 0, none⟩), .pointer (some ⟨k2, 0, none⟩)]⟩) (fun q : Str × Ety => [.string (bs q.1), evalue q.2]) (fun vis x => ∃ r, vis ++ x :: r = EE M o M.n.l) (fun vis => vis = EE M o M.n.l) (fun j => ow j ≠ .out ∨ j = k1 ∨ j = k2) w := by
  refine ⟨117, _, rfl, by kernel_rfl, ?_⟩
  intro yv J F0 w1 hw1 hJ0 hframe hlt hsrc hstep
  have b1 := a1.no hw1
  have b2 := a2.no hw1
  have g1 := h.no hw1
  have lk1 := b1.lt
  have lk2 := b2.lt
  refine c117 ?_
  unfold S117
  refine ⟨_, cell_at b1 rfl, _, cell_at_add g1.top rfl, ?_⟩
  refine CALL.i (names_list g1.names hr hnl) (by kernel_rfl) ?_
  rintro r w2 ⟨A1, c1, rfl, q2, o2, f2⟩
  refine ⟨_, _, _, rfl, ?_⟩
  have hs2 := q2.size
  have hlt0 : ∀ j, F0 j → j < w1.heap.size := fun j hj => hlt _ _ _ j hJ0 hj
  have hsl : ∀ j, (ow j ≠ .out ∨ j = k1 ∨ j = k2) → j < w1.heap.size := by
    rintro j (hj | hj | hj)
    · exact g1.lt j hj
    · omega
    · omega
  refine ⟨fun x w3 => ∃ (i : Nat) (vis : List (Str × Ety)) (F : Nat → Prop), x = i ∧ i ≤ M.n.l.length ∧ J vis F w3 ∧ vis = EE M o (M.n.l.take i) ∧ Keep F0 w2 w3 ∧ (∀ j, F j → F0 j ∨ w2.heap.size ≤ j),
    fun x _ => ((M.n.l.length : Nat) - x).toNat, ⟨0, [], F0, rfl, Nat.zero_le _, hframe _ _ _ _ hJ0 (fun j hj => q2.keep j (hj.elim (hlt0 j) (hsl j)) (fun h => h)) hs2, rfl, Keep.refl _ _, fun j hj => .inl hj⟩, ?_⟩
  rintro _ x w3 ⟨i, vis, F, rfl, hi, hJ, hvis, k3, hF⟩
  have hkw : Keep F0 w1 w3 := q2.no.trans k3
  have g3 := g1.kept hkw (fun j hj hf => hsrc j hf (.inl hj))
  have d1 := hkw.at_ b1 (fun hf => hsrc _ hf (.inr (.inl rfl)))
  have d2 := hkw.at_ b2 (fun hf => hsrc _ hf (.inr (.inr rfl)))
  have n1F0 : ∀ j, ownBlk A1 j → ¬ F0 j := fun j hj hf => by have := f2 j hj; have := hlt0 j hf; omega
  have o3 := o2.kept k3 (fun j hj _ hf => hj.elim (fun h => h) (fun h => n1F0 j h hf))
  refine split_dec (fun hlt' => ?_) (fun hge => ?_)
  · have hil : i < M.n.l.length := by omega
    refine ⟨⟨by omega, hlt'⟩, ?_⟩
    obtain ⟨a, s, hA, hs, hrd⟩ := o3.sl.stx hil
    refine SOMEA.i hA ⟨_, by rw [Int.toNat_natCast]; exact hrd, _, cell_at d1 rfl, ?_⟩
    refine CALL.i (model_find g3 hok s) (by kernel_rfl) ?_
    rintro r w4 ⟨rfl, hr4⟩
    have hp : M.n.l[i]? = some M.n.l[i] := List.getElem?_eq_getElem hil
    have hps : M.n.l[i].1 = s := by
      have : (mkeys M.n.l)[i]? = some M.n.l[i].1 := by simp [mkeys, hp]
      rw [this] at hs
      exact Option.some.inj hs
    have hfs : (find M s).isSome = true := by
      rw [find_of hok, ofN_mget]
      cases hm : mget M.n.l s with
      | some v => rfl
      | none =>
        exact absurd (List.mem_map.2 ⟨_, List.getElem_mem hil, hps⟩) (mget_none.1 hm)
    obtain ⟨x, hx⟩ := Option.isSome_iff_exists.1 hfs
    rw [hx] at hr4
    obtain ⟨rfl, hxM⟩ := hr4
    refine ⟨_, _, rfl, ?_⟩
    have hsplit := split_at hp
    have hEE : EE M o (M.n.l.take (i + 1)) = EE M o (M.n.l.take i) ++ (if o.box.isEmpty || s == o.box then entOf M o s else []) := by
      rw [take_succ_some hp, EE_append, EE_one, hps]
    have hEall : EE M o M.n.l = EE M o (M.n.l.take i) ++ ((if o.box.isEmpty || s == o.box then entOf M o s else []) ++ EE M o (M.n.l.drop (i + 1))) := by
      have h5 : EE M o M.n.l = EE M o (M.n.l.take i ++ M.n.l[i] :: M.n.l.drop (i + 1)) := by rw [← hsplit]
      rw [h5, EE_append]
      congr 1
      rw [show M.n.l[i] :: M.n.l.drop (i + 1) = [M.n.l[i]] ++ M.n.l.drop (i + 1) from rfl, EE_append, EE_one, hps]
    have hent : entOf M o s = (x.l.filter (hasF o)).map fun e => (s, e) := by unfold entOf; rw [hx]
    have hbx : (bs o.box).toList = o.box := bs_toList _
    have hemp : (⟨#[]⟩ : ByteArray).toList = [] := bs_emp
    refine ⟨fun w5 => w5 = w4 ∧ (o.box.isEmpty || s == o.box) = true, ?_, ?_⟩
    · refine ⟨_, cell_at d2 rfl, split_i (fun hne => ?_) (fun hne => ?_)⟩
      · rw [hbx, hemp] at hne
        refine ⟨_, cell_at d2 rfl, split_i (fun hns => ?_) (fun hns => ?_)⟩
        · rw [bs_toList, bs_toList] at hns
          have hcond : (o.box.isEmpty || s == o.box) = false := by
            have h6 : o.box ≠ [] := by
              intro he; rw [he] at hne; simp at hne
            have h7 : o.box ≠ s := by
              intro he; rw [he] at hns; simp at hns
            have h8 : o.box.isEmpty = false := by
              cases hb : o.box with
              | nil => exact absurd hb h6
              | cons _ _ => rfl
            rw [h8, Bool.false_or]
            exact beq_false_of_ne (fun he => h7 he.symm)
          rw [hcond] at hEE
          refine ⟨⟨i + 1, vis, F, wrapS (by omega), hil, hJ, ?_, k3, hF⟩, mu_go (wrapS (by omega)) hil⟩
          rw [hEE, hvis]
          simp
        · rw [bs_toList, bs_toList] at hns
          refine ⟨rfl, ?_⟩
          have : o.box = s := by simpa using hns
          rw [this]; simp
      · rw [hbx, hemp] at hne
        refine ⟨rfl, ?_⟩
        have : o.box = [] := by simpa using hne
        rw [this]; rfl
    · rintro _ w5 ⟨rfl, hcond⟩
      rw [hcond] at hEE hEall
      simp only [if_true] at hEE hEall
      have hs5 := k3.size
      refine CALL.i (box_list (G := No) (g3.box x hxM) (by have := hl x hxM; omega) (fun j hj => False.elim hj)) (by kernel_rfl) ?_
      rintro r w6 ⟨A2, c2, rfl, k6, o6, f6⟩
      refine ⟨_, _, _, rfl, ?_⟩
      have hs6 := k6.size
      have hltF : ∀ j, F j → j < w5.heap.size := fun j hj => hlt _ _ _ j hJ hj
      refine ⟨fun y w7 => ∃ (m : Nat) (vis' : List (Str × Ety)) (F' : Nat → Prop), y = m ∧ m ≤ x.l.length ∧ J vis' F' w7 ∧ vis' = EE M o (M.n.l.take i) ++ ((x.l.take m).filter (hasF o)).map (fun e => (s, e)) ∧ Keep F0 w2 w7 ∧ Keep F w6 w7 ∧ (∀ j, F' j → F j ∨ w6.heap.size ≤ j),
        fun y _ => ((x.l.length : Nat) - y).toNat, ⟨0, vis, F, rfl, Nat.zero_le _, hframe _ _ _ _ hJ (fun j hj => k6.keep j (hj.elim (hltF j) (fun h => by have := hsl j h; omega)) (fun h => h)) hs6, by simp [hvis], k3.and_no k6, Keep.refl _ _, fun j hj => .inl hj⟩, ?_⟩
      rintro _ y w7 ⟨m, vis', F', rfl, hm, hJ', hvis', k27, k67, hF'⟩
      have hlx := hl x hxM
      have hkw7 : Keep F0 w1 w7 := q2.no.trans k27
      have d27 := hkw7.at_ b2 (fun hf => hsrc _ hf (.inr (.inr rfl)))
      refine split_dec (fun hlt2 => ?_) (fun hge2 => ?_)
      · have hmx : m < x.l.length := by omega
        refine ⟨⟨by omega, hlt2⟩, ?_⟩
        have o7 : Own Lent 53 w7 No A2 x.l.length c2 x.l := o6.kept k67 (fun j hj _ hfj => hj.elim (fun h => h) (fun h => by have := f6 j h; have := hltF j hfj; omega))
        obtain ⟨a, e, hA2, he, hrd2⟩ := o7.sl.ent hmx
        refine SOMEA.i hA2 ⟨_, _, _, by rw [Int.toNat_natCast]; exact hrd2, ?_⟩
        refine NEW.i fun k9 w8 hk9 hs8 k8 a8 => ?_
        refine ST.i a8 (Nat.le_refl _) rfl fun w9 hs9 k9' a9 => ?_
        have k79 : Keep No w7 w9 := k8.tmp k9' (Nat.le_of_eq hk9)
        have hfe := hf x hxM e (List.mem_of_getElem? he)
        have hJ9 := hframe _ _ _ _ hJ' (fun j hj => k79.keep j (hj.elim (hlt _ _ _ j hJ') (fun h => by have := hsl j h; have := hkw7.size; omega)) (fun h => h)) k79.size
        refine ⟨_, cell_at a9 rfl, _, cell_at (d27.no k79) rfl, _, cell_at (d27.no k79) rfl, ?_⟩
        refine split_i (fun hfl => ?_) (fun hfl => ?_)
        · rw [and_flags hfe.1 hfe.2 hof.1 hof.2] at hfl
          have hfl' : hasF o e = true := hfl
          refine ⟨_, _, _, RD.i a9, ?_⟩
          have hfilt : (x.l.take (m + 1)).filter (hasF o) = (x.l.take m).filter (hasF o) ++ [e] := by
            rw [take_succ_some he, List.filter_append]
            simp [hfl']
          have hfall : x.l.filter (hasF o) = (x.l.take m).filter (hasF o) ++ e :: (x.l.drop (m + 1)).filter (hasF o) := by
            have h5 : x.l.filter (hasF o) = (x.l.take m ++ e :: x.l.drop (m + 1)).filter (hasF o) := by rw [← split_at he]
            rw [h5, List.filter_append, List.filter_cons_of_pos hfl']
          refine CALLV.mono (hstep vis' F' w9 (s, e) hJ9 ?_) ?_
          · refine ⟨((x.l.drop (m + 1)).filter (hasF o)).map (fun e => (s, e)) ++ EE M o (M.n.l.drop (i + 1)), ?_⟩
            rw [hEall, hent, hfall, hvis']
            simp
          rintro r w10 ⟨rfl, k10, F2, hJ10, hF2⟩
          refine ⟨_, rfl, split_i (fun hc => by cases hc) (fun _ => ?_)⟩
          refine ⟨⟨m + 1, vis' ++ [(s, e)], F2, wrapS (by omega), hmx, hJ10, ?_, ?_, ?_, ?_⟩, mu_go (wrapS (by omega)) hmx⟩
          · rw [hvis', hfilt]
            simp
          · refine (k27.and_no k79).trans' k10 fun j hj hj' => ?_
            rcases hF' j hj' with h5 | h5
            · exact (hF j h5).resolve_right (by omega)
            · have := k3.size; omega
          · refine (k67.and_no k79).trans' k10 fun j hj hj' => ?_
            exact (hF' j hj').resolve_right (by omega)
          · intro j hj
            rcases hF2 j hj with h5 | h5
            · exact hF' j h5
            · exact .inr (by have := k67.size; have := k79.size; omega)
        · rw [and_flags hfe.1 hfe.2 hof.1 hof.2] at hfl
          have hfl' : hasF o e = false := hfl
          refine ⟨⟨m + 1, vis', F', wrapS (by omega), hmx, hJ9, ?_, k27.and_no k79, k67.and_no k79, hF'⟩, mu_go (wrapS (by omega)) hmx⟩
          rw [hvis', take_succ_some he, List.filter_append]
          simp [hfl']
      · have hme : m = x.l.length := by omega
        subst hme
        rw [List.take_length] at hvis'
        refine ⟨⟨i + 1, vis', F', wrapS (by omega), hil, hJ', ?_, k27, ?_⟩, mu_go (wrapS (by omega)) hil⟩
        · rw [hEE, hent, hvis']
        · intro j hj
          rcases hF' j hj with h5 | h5
          · exact hF j h5
          · exact .inr (by omega)
  · have hie : i = M.n.l.length := by omega
    rw [hie, List.take_length] at hvis
    refine ⟨hkw, vis, F, hvis, hJ, fun j hj => ?_⟩
    rcases hF j hj with h5 | h5
    · exact .inl h5
    · exact .inr (by omega)
end
end Go.SW
