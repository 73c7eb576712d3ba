/- ModelExpunges. -/
import Derived.Test.YtfhiffnfngpkeaaGreatDoorLaw3
set_option linter.unusedVariables false
namespace Go.SW
open Go Go.Proofs Pl

theorem Own.later {α : Type} {L : Ly α} {e : TypeId} {w w' : World} {A : Option Addr} {n c : Nat} {xs : List α} {X : Nat → Prop} (h : Own L e w No A n c xs) (hk : Keep (fun j => j < w.heap.size ∧ ¬ X j) w w') (hX : ∀ j, ownBlk A j → X j) : Own L e w' No A n c xs :=
  h.kept hk (fun j hj _ hs => hj.elim (fun h => h) (fun h => hs.2 (hX j h)))
theorem act_expunge (M : Md) : act M opE = (match find M [97] with | none => (M, no 5) | some b => expunge M b [97]) := by
  have h : act M opE = within M opE := rfl
  rw [h]
  unfold within
  cases hf : find M [97] with
  | none => rw [show find M opE.box = none from hf]
  | some b => rw [show find M opE.box = some b from hf]; rfl
theorem filter_compl {α : Type} (p : α → Bool) : ∀ l : List α, (l.filter fun x => !p x).length + (l.filter p).length = l.length
  | [] => rfl
  | x :: l => by
    have ih := filter_compl p l
    cases h : p x with
    | true => simp [h]; omega
    | false => simp [h]; omega
theorem find_expunge {M : Md} {x : Bx} (hx : find M [97] = some x) : find (expunge M x [97]).1 [97] = some (expungeB x).1 := by
  show find (setBox M (expungeB x).1) [97] = _
  rw [find_setBox, hx]
  show some (if x.validity = x.validity then _ else _) = _
  rw [if_pos rfl]

theorem expunges_pure {t : Int} {M : Md} (h : Ok t M) (ht : t < 200) :
    ((act M (opS [97])).2.err ≠ 0 → (act M opE).2.err = (act M (opS [97])).2.err) ∧
    ((act M (opS [97])).2.err = 0 → (act M opE).2.n = (act M opE).2.hits.length ∧ (∀ e ∈ (act M opE).2.hits, e.box = [97] ∧ 0 ≤ e.flags ∧ e.flags ≤ 31 ∧ (e.flags.toNat / 8 % 2 == 1) = true ∧ (act (act M opE).1 (opF [97] e.uid)).2.err = 7) ∧
      (act (act M opE).1 opE).2.n = 0 ∧ (act (act (act M opE).1 opE).1 (opS [97])).2.n = (act M (opS [97])).2.n - (act M opE).2.n ∧ 0 ≤ (act M (opS [97])).2.n ∧ (act M (opS [97])).2.n < 1000 ∧ 0 ≤ (act M opE).2.n ∧ (act M opE).2.n < 1000) := by
  cases hx : find M [97] with
  | none =>
    have h1 : (act M (opS [97])).2 = no 5 := by rw [act_status, hx]
    have h2 : (act M opE).2 = no 5 := by rw [act_expunge, hx]
    rw [h1, h2]
    exact ⟨fun _ => rfl, fun hc => by simp [no] at hc⟩
  | some x =>
    have hxM := find_some h.names hx
    have hxb := h.bx x hxM
    have h1 : (act M (opS [97])).2 = status x := by rw [act_status, hx]
    have h2 : act M opE = expunge M x [97] := by rw [act_expunge, hx]
    have hf1 := find_expunge hx
    rw [h1, h2]
    have hlen : (expungeB x).2.length ≤ x.l.length := List.length_filter_le _ _
    have hl := hxb.len
    refine ⟨fun hc => absurd rfl hc, fun _ => ⟨?_, ?_, ?_, ?_, ?_, ?_, ?_, ?_⟩⟩
    · show ((expungeB x).2.length : Int) = (((expungeB x).2.map _).length : Nat)
      rw [List.length_map]
    · intro e he
      obtain ⟨y, hy, rfl⟩ := List.mem_map.1 he
      obtain ⟨hy1, hy2⟩ := List.mem_filter.1 hy
      have hye := hxb.ent y hy1
      refine ⟨rfl, hye.2.2.1, hye.2.2.2.1, hy2, ?_⟩
      rw [act_fetch, hf1]
      have hnone : findB (expungeB x).1 y.uid = none := by
        unfold findB
        rw [List.find?_eq_none]
        intro z hz
        obtain ⟨hz1, hz2⟩ := List.mem_filter.1 hz
        have hne : z.uid ≠ y.uid := by
          intro he
          have hnd : (x.l.map (·.uid)).Nodup := by
            unfold List.Nodup
            rw [List.pairwise_map]
            exact hxb.uid.imp fun h => by omega
          have := inj_of_nodup_map _ hnd hz1 hy1 he
          subst this
          rw [hy2] at hz2
          cases hz2
        simpa using hne
      show (fetch _ _ _).err = 7
      unfold fetch
      rw [show findB (expungeB x).1 (opF [97] _).uid = none from hnone]
      rfl
    · rw [act_expunge, hf1]
      show (((expungeB (expungeB x).1).2.length : Nat) : Int) = 0
      have : (expungeB (expungeB x).1).2 = [] := by
        show ((x.l.filter fun e => !del8 e).filter del8) = []
        rw [List.filter_filter, List.filter_eq_nil_iff]
        intro z _
        cases del8 z <;> simp
      rw [this]; rfl
    · rw [act_expunge, hf1]
      simp only
      rw [act_status]
      have hf2 : find (expunge (expunge M x [97]).1 (expungeB x).1 [97]).1 [97] = some (expungeB (expungeB x).1).1 := find_expunge hf1
      rw [hf2]
      have e1 : (expungeB (expungeB x).1).1.l = (expungeB x).1.l := by
        show ((x.l.filter fun e => !del8 e).filter fun e => !del8 e) = x.l.filter fun e => !del8 e
        rw [List.filter_filter]
        refine List.filter_congr fun z _ => ?_
        cases del8 z <;> rfl
      show (((expungeB (expungeB x).1).1.l.length : Nat) : Int) = (x.l.length : Int) - ((expungeB x).2.length : Nat)
      rw [e1]
      have hc := filter_compl del8 x.l
      show (((x.l.filter fun e => !del8 e).length : Nat) : Int) = (x.l.length : Int) - ((x.l.filter del8).length : Nat)
      omega
    · show (0 : Int) ≤ (x.l.length : Int); omega
    · show (x.l.length : Int) < 1000; omega
    · show (0 : Int) ≤ ((expungeB x).2.length : Nat); omega
    · show (((expungeB x).2.length : Nat) : Int) < 1000; omega

theorem Sl.hit {w : World} {F : Nat → Prop} {A : Option Addr} {n c : Nat} {xs : List Hit} (h : Sl Lhit w F A n c xs) {i : Nat} (hi : i < n) :
    ∃ a x, A = some a ∧ xs[i]? = some x ∧ RD w (a.add (i * 3)) 0 (hcells x) := by
  obtain ⟨a, cs, x, h1, h2, h3, h4⟩ := h.get hi
  cases h3
  exact ⟨a, x, h1, h2, h4⟩

theorem modelExpunges_walk {w : World} (hg : Glob w) (h1 : 1 < w.heap.size) {A0 : Option Addr} {n0 c0 : Nat} {xs : List Pl.Op} {F : Nat → Prop} (hs : Sl Lop w F A0 n0 c0 xs) (hF : ∀ j, F j → j < w.heap.size) :
    Calls PP 4 #[.slice A0 n0 c0] w (Ret fun r w' => r = .bool true ∧ Keep No w w') := by
  refine c4 ?_
  unfold S4
  refine CALL.i (law_awake hg h1) (by kernel_rfl) ?_
  rintro r w1 ⟨rfl, q1⟩
  refine ⟨_, rfl, split_i (fun hc => by cases hc) (fun _ => ?_)⟩
  refine CALL.i (stx_new (Y := fun j => j < w.heap.size) (hg.no q1) (by have := q1.size; omega) (fun j hj => by have := q1.size; omega) h1) (by kernel_rfl) ?_
  rintro r w2 ⟨k, rfl, q2, s2⟩
  refine ⟨_, rfl, split_i (fun hc => by cases hc) (fun _ => ?_)⟩
  have p2 := q1.trans q2
  refine ⟨fun w3 => ∃ X M, Stx X w3 k M ∧ Ok 20 M ∧ (∀ j, j < w.heap.size → X j) ∧ Keep No w w3, ?_, ?_⟩
  · refine ⟨fun x w3 => ∃ (i : Nat) (X : Nat → Prop) (M : Md), x = i ∧ i ≤ 20 ∧ Stx X w3 k M ∧ Ok i M ∧ (∀ j, j < w.heap.size → X j) ∧ Keep No w w3, fun x _ => (((20 : Nat) : Int) - x).toNat, ⟨0, _, _, rfl, by omega, s2, ok_new (Int.le_refl _), fun j hj => hj, p2⟩, ?_⟩
    rintro _ x w3 ⟨i, X, M, rfl, hi, s3, ok3, hX, p3⟩
    refine ⟨fun w4 => w4 = w3 ∧ i < n0 ∧ i < 20, split_dec (fun h1 => split_dec (fun h2 => ⟨rfl, by omega, by omega⟩) (fun h2 => ⟨X, M, s3, ok3.mono (by omega), hX, p3⟩)) (fun h1 => ⟨X, M, s3, ok3.mono (by omega), hX, p3⟩), ?_⟩
    rintro _ w4 ⟨rfl, hin, hi15⟩
    refine law_step s3 ok3 (by omega) (by omega) (hs.no p3) hin fun w10 X' o ho hXX s10 ok10 k10 => ?_
    refine ⟨⟨i + 1, X', _, wrapS (by omega), hi15, s10, ok10, fun j hj => hXX j (hX j hj), p3.old k10 hX⟩, mu_go (wrapS (by omega)) hi15⟩
  · rintro _ w3 ⟨X, M, s3, ok3, hX, p3⟩
    obtain ⟨hp1, hp2⟩ := expunges_pure ok3 (by omega)
    have hM1 : (act M (opS [97])).1 = M := by rw [act_status]
    refine do_store s3 ok3 (by omega) (opS [97]) (A := none) (n := 0) (c := 0) (opAt_none _ rfl (by simp [opS]) (by simp [opS]) (by simp [opS])) fun k7 w6 X6 x6 s6 q6 a6 l6 => ?_
    have p6 := p3.old q6 hX
    have hX6 : ∀ j, j < w.heap.size → X6 j := fun j hj => x6 j (hX j hj)
    have ok6 : Ok 20 (act M (opS [97])).1 := by rw [hM1]; exact ok3
    refine do_store s6 ok6 (by omega) opE (A := none) (n := 0) (c := 0) (opAt_none _ rfl (by simp [opE]) (by simp [opE]) (by simp [opE])) fun k8 w9 X9 x9 s9 q9 a9 l9 => ?_
    rw [hM1] at s9 a9
    have ok9 := ok_act (by omega) ok3 opE
    have p9 := p6.old q9 hX6
    have hX9 : ∀ j, j < w.heap.size → X9 j := fun j hj => x9 j (hX6 j hj)
    have b6 := a6.later q9 x9
    refine ⟨_, b6.cell.1, split_i (fun he => ?_) (fun he => ?_)⟩
    · have he' : (act M (opS [97])).2.err ≠ 0 := by simpa using he
      refine ⟨_, a9.cell.1, _, b6.cell.1, ?_, p9⟩
      rw [hp1 he']
      simp
    · have he' : (act M (opS [97])).2.err = 0 := by simpa using he
      obtain ⟨g1, g2, g3, g4, g5, g6, g7, g8⟩ := hp2 he'
      obtain ⟨A55, c55, f1, f2, f3⟩ := a9.hits
      refine ⟨_, _, _, f1, ?_⟩
      have hhl : (act M opE).2.hits.length < 1000 := by omega
      refine ⟨fun x w10 => ∃ (i : Nat) (X' : Nat → Prop), x = i ∧ i ≤ (act M opE).2.hits.length ∧ Stx X' w10 k (act M opE).1 ∧ AnsAt X' w10 k7 (act M (opS [97])).2 ∧ AnsAt X' w10 k8 (act M opE).2 ∧ Own Lhit 39 w10 No A55 (act M opE).2.hits.length c55 (act M opE).2.hits ∧ (∀ j, ownBlk A55 j → X' j) ∧ (∀ j, j < w.heap.size → X' j) ∧ Keep No w w10,
        fun x _ => ((((act M opE).2.hits.length : Nat) : Int) - x).toNat, ⟨0, X9, rfl, Nat.zero_le _, s9, b6, a9, f2, f3, hX9, p9⟩, ?_⟩
      rintro _ x w10 ⟨i, X', rfl, hi, s10, b10, a10, o10, fX, hX', p10⟩
      refine split_dec (fun hlt => ?_) (fun hge => ?_)
      · have hlt' : i < (act M opE).2.hits.length := by omega
        refine ⟨⟨by omega, hlt⟩, ?_⟩
        obtain ⟨a, e, hA, hxe, hrd⟩ := o10.sl.hit hlt'
        obtain ⟨e1, e2, e3, e4, e5⟩ := g2 e (List.mem_of_getElem? hxe)
        refine SOMEA.i hA ⟨_, _, _, by rw [Int.toNat_natCast]; exact hrd, ?_⟩
        refine NEW.i fun k10 w11 hk10 hs11 q11 a11 => ?_
        refine ST.i a11 (Nat.le_refl _) rfl fun w12 hs12 q12 a12 => ?_
        have q1012 : Keep No w10 w12 := q11.tmp q12 (Nat.le_of_eq hk10)
        have s12 := s10.grow q1012
        have hin10 : (fun j => X' j ∨ (w10.heap.size ≤ j ∧ j < w12.heap.size)) k10 := .inr ⟨by omega, by omega⟩
        refine ⟨_, cell_at a12 rfl, ?_⟩
        refine do_store s12 ok9 (by omega) (opF [97] e.uid) (A := none) (n := 0) (c := 0) (opAt_none _ rfl (by simp [opF]) (by simp [opF]) (by simp [opF])) fun k11 w15 X15 x15 s15 q15 a15 l15 => ?_
        have hM3 : (act (act M opE).1 (opF [97] e.uid)).1 = (act M opE).1 := by rw [act_fetch]
        rw [hM3] at s15
        have d12 := q15.at_ a12 (fun hs => hs.2 hin10)
        refine ⟨_, cell_at d12 rfl, ?_⟩
        rw [e1, bs_toList]
        refine split_i (fun hc => by
          have : (bs [97]).toList = (⟨#[97]⟩ : ByteArray).toList := rfl
          rw [← this, bs_toList] at hc
          simp at hc) (fun _ => ?_)
        refine ⟨_, cell_at d12 rfl, split_i (fun hc => ?_) (fun _ => ?_)⟩
        · have := and_bit8 e2 e3
          rw [e4] at this
          simp only [bne, Bool.not_eq_true'] at this
          rw [this] at hc
          cases hc
        · refine ⟨_, a15.cell.1, ?_⟩
          rw [e5]
          refine split_i (fun hc => by cases hc) (fun _ => ?_)
          refine ⟨⟨i + 1, X15, wrapS (by omega), hlt', s15, ?_, ?_, ?_, fun j hj => x15 j (.inl (fX j hj)), fun j hj => x15 j (.inl (hX' j hj)), ?_⟩, mu_go (wrapS (by omega)) hlt'⟩
          · exact (b10.no q1012 (fun j hj => Or.inl hj)).later q15 x15
          · exact (a10.no q1012 (fun j hj => Or.inl hj)).later q15 x15
          · exact (o10.no q1012).later q15 (fun j hj => .inl (fX j hj))
          · exact (p10.and_no q1012).old q15 (fun j hj => .inl (hX' j hj))
      · refine do_read s10 ok9 (by omega) opE (A := none) (n := 0) (c := 0) (opAt_none _ rfl (by simp [opE]) (by simp [opE]) (by simp [opE])) fun w11 X11 B1 d1 B2 d2 x11 s11 q11 ob1 ob2 fb => ?_
        have ok11 := ok_act (by omega) ok9 opE
        have p11 := p10.old q11 hX'
        refine do_read s11 ok11 (by omega) (opS [97]) (A := none) (n := 0) (c := 0) (opAt_none _ rfl (by simp [opS]) (by simp [opS]) (by simp [opS])) fun w12 X12 E1 m1 E2 m2 x12 s12 q12 _ _ _ => ?_
        have hX11 : ∀ j, j < w.heap.size → X11 j := fun j hj => x11 j (hX' j hj)
        have p12 := p11.old q12 hX11
        refine NEW.i fun k12 w13 hk12 hs13 q13 a13 => NEW.i fun k13 w14 hk13 hs14 q14 a14 => ?_
        refine ST.i (a13.no q14) (Nat.le_refl _) rfl fun w15 hs15 q15 a15 => ?_
        refine ST.i (q15.at_ a14 (by omega)) (Nat.le_refl _) rfl fun w16 hs16 q16 a16 => ?_
        have q1214 := q13.trans q14
        have q1216 : Keep No w12 w16 := (q1214.tmp q15 (by omega)).tmp q16 (by omega)
        have b16 := ((b10.later q11 x11).later q12 x12).no q1216 (fun j hj => hj)
        have a16' := ((a10.later q11 x11).later q12 x12).no q1216 (fun j hj => hj)
        have d15 := q16.at_ a15 (by omega)
        refine ⟨_, a16'.cell.2.1, ?_⟩
        obtain ⟨A90, c90, y1, y2, y3⟩ := a16'.hits
        refine ⟨_, _, _, y1, ?_⟩
        rw [g1]
        refine split_i (fun _ => ?_) (fun hc => by simp at hc)
        refine ⟨_, cell_at d15 rfl, ?_⟩
        rw [g3]
        refine split_i (fun _ => ?_) (fun hc => by cases hc)
        refine ⟨_, cell_at a16 rfl, _, b16.cell.2.1, _, a16'.cell.2.1, ?_, p12.and_no q1216⟩
        rw [g4, wrap64 (by omega) (by omega)]
        simp
end Go.SW
