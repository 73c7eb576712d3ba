/- What a law reads of the store; ModelMails. -/
import Derived.Test.YtfhiffnfngpkeaaGreatDoorLaw4
set_option linter.unusedVariables false
namespace Go.SW
open Go Go.Proofs Pl

theorem Stx.no {X : Nat → Prop} {w w' : World} {k : Nat} {M : Md} (h : Stx X w k M) (hk : Keep No w w') : Stx X w' k M := h.wr hk (fun j hj => False.elim hj)
theorem stx_names {X : Nat → Prop} {w : World} {k : Nat} {M : Md} (h : Stx X w k M) : Calls PP 14 #[.pointer (some ⟨k, 0, none⟩)] w (Ret fun r w' => ∃ k', r = .pointer (some ⟨k', 0, none⟩) ∧ Keep No w w' ∧ IsNames w' k' (fun j => w.heap.size ≤ j ∧ j < w'.heap.size) M.n) := by
  obtain ⟨ow, kn, bb, mb, pt, h1, h2, h3, h4⟩ := h
  exact model_names h1
theorem stx_next {X : Nat → Prop} {w : World} {k : Nat} {M : Md} (h : Stx X w k M) : Calls PP 20 #[.pointer (some ⟨k, 0, none⟩)] w (Ret fun r w' => r = .int .i64 M.next ∧ w' = w) := by
  obtain ⟨ow, kn, bb, mb, pt, h1, h2, h3, h4⟩ := h
  exact model_next h1
theorem stx_mail {X : Nat → Prop} {w : World} {k : Nat} {M : Md} (h : Stx X w k M) (id : Int) : Calls PP 23 #[.pointer (some ⟨k, 0, none⟩), .int .i64 id] w (Ret fun r w' => r = .tuple #[.string (bs ((mailOf M id).getD [])), .bool (mailOf M id).isSome] ∧ w' = w) := by
  obtain ⟨ow, kn, bb, mb, pt, h1, h2, h3, h4⟩ := h
  exact model_mail h1 id
theorem stx_box {X : Nat → Prop} {w : World} {k : Nat} {M : Md} (h : Stx X w k M) (hb : Bd M) (id : Int) :
    Calls PP 17 #[.pointer (some ⟨k, 0, none⟩), .int .i64 id] w (Ret fun r w' => Keep No w w' ∧ match boxOf M id with
      | none => r = .tuple #[.pointer none, .bool false]
      | some b => ∃ k', r = .tuple #[.pointer (some ⟨k', 0, none⟩), .bool true] ∧ IsBox w' k' (fun j => w.heap.size ≤ j) b) := by
  obtain ⟨ow, kn, bb, mb, pt, h1, h2, h3, h4⟩ := h
  exact model_box h1 (fun x hx => by have := hb.blen x hx; omega) id
theorem stx_mails {X : Nat → Prop} {w : World} {k : Nat} {M : Md} (h : Stx X w k M) (hr : RisingI M.mails) (hl : M.mails.length < 1000000) :
    Calls PP 19 #[.pointer (some ⟨k, 0, none⟩)] w (Ret fun r w' => ∃ A c, r = .slice A M.mails.length c ∧ Keep No w w' ∧ Own Ly.int 3 w' No A M.mails.length c (mkeys M.mails) ∧ ∀ j, ownBlk A j → w.heap.size ≤ j) := by
  obtain ⟨ow, kn, bb, mb, pt, h1, h2, h3, h4⟩ := h
  exact model_mails h1 hr hl

/-! ## plain -/
def usedN (M : Md) (l : List (Str × Int)) (id : Int) : Bool := l.any fun p => match boxOf M p.2 with | some x => x.l.any fun e => e.mail == id | none => false
theorem usedN_iff {t : Int} {M : Md} (h : Ok t M) (id : Int) : usedN M M.n.l id = true ↔ id ∈ mkeys M.mails := by
  have h1 : usedN M M.n.l id = true ↔ ∃ x ∈ M.b, ∃ e ∈ x.l, e.mail = id := by
    unfold usedN
    simp only [List.any_eq_true]
    constructor
    · rintro ⟨p, hp, hx⟩
      obtain ⟨x, hx1, hx2⟩ := h.nb p hp
      rw [← hx2, boxOf_mem h.vnodup hx1] at hx
      simp only [List.any_eq_true, beq_iff_eq] at hx
      exact ⟨x, hx1, hx⟩
    · rintro ⟨x, hx1, he⟩
      obtain ⟨p, hp, hp2⟩ := h.bn x hx1
      refine ⟨p, hp, ?_⟩
      rw [hp2, boxOf_mem h.vnodup hx1]
      simp only [List.any_eq_true, beq_iff_eq]
      exact he
  rw [h1]
  constructor
  · rintro ⟨x, hx, e, he, rfl⟩
    exact h.me x hx e he
  · intro hid
    obtain ⟨q, hq, rfl⟩ := List.mem_map.1 hid
    exact used_iff.1 (h.mu q hq)
theorem ofN_of_mem {N : Nm} (h : Rising N.l) {p : Str × Int} (hp : p ∈ N.l) : ofN N p.1 = some p.2 := by
  rw [ofN_mget]
  exact mget_of_mem h.nodup hp

theorem modelMails_walk {w : World} (hg : Glob w) (h1 : 1 < w.heap.size) {A0 : Option Addr} {n0 c0 : Nat} {xs : List Pl.Op} {F : Nat → Prop} (hs : Sl Lop w F A0 n0 c0 xs) (hF : ∀ j, F j → j < w.heap.size) :
    Calls PP 5 #[.slice A0 n0 c0] w (Ret fun r w' => r = .bool true ∧ Keep No w w') := by
  refine c5 ?_
  unfold S5
  refine CALL.i (law_awake hg h1) (by kernel_rfl) ?_
  rintro r w1 ⟨rfl, q1⟩
  refine ⟨_, rfl, split_i (fun hc => by cases hc) (fun _ => ?_)⟩
  refine CALL.i (stx_new (Y := fun j => j < w.heap.size) (hg.no q1) (by have := q1.size; omega) (fun j hj => by have := q1.size; omega) h1) (by kernel_rfl) ?_
  rintro r w2 ⟨k, rfl, q2, s2⟩
  refine ⟨_, rfl, split_i (fun hc => by cases hc) (fun _ => ?_)⟩
  have p2 := q1.trans q2
  refine ⟨fun x w3 => ∃ (i : Nat) (X : Nat → Prop) (M : Md), x = i ∧ i ≤ 25 ∧ Stx X w3 k M ∧ Ok i M ∧ (∀ j, j < w.heap.size → X j) ∧ Keep No w w3, fun x _ => (((25 : Nat) : Int) - x).toNat, ⟨0, _, _, rfl, by omega, s2, ok_new (Int.le_refl _), fun j hj => hj, p2⟩, ?_⟩
  rintro _ x w3 ⟨i, X, M0, rfl, hi, s3, ok3, hX, p3⟩
  refine ⟨fun w4 => w4 = w3 ∧ i < n0 ∧ i < 25, split_dec (fun h1 => split_dec (fun h2 => ⟨rfl, by omega, by omega⟩) (fun h2 => ⟨rfl, p3⟩)) (fun h1 => ⟨rfl, p3⟩), ?_⟩
  rintro _ w4 ⟨rfl, hin, hi25⟩
  refine law_step s3 ok3 (by omega) (by omega) (hs.no p3) hin fun w10 X' o ho hXX s10 ok10 k10 => ?_
  have p10 := p3.old k10 hX
  have hX10 : ∀ j, j < w.heap.size → X' j := fun j hj => hXX j (hX j hj)
  generalize (act M0 (cutOp o)).1 = M at s10 ok10
  have hbd : Bd M := ok10.toOk'.bd (by omega)
  have hnl : M.n.l.length < 1000 := hbd.nlen
  refine NEW.i fun k46 w11 hk46 hs11 q11 a11 => ?_
  have s11 := s10.no q11
  have u11 : MapAt Eus w11 k46 [] := MapAt.empty a11
  refine CALL.i (stx_names s11) (by kernel_rfl) ?_
  rintro r w12 ⟨kn', rfl, q12, nm12⟩
  refine ⟨_, rfl, split_i (fun hc => by cases hc) (fun _ => ?_)⟩
  have hs12 := q12.size
  refine CALL.i (names_list nm12 hbd.rising (by omega)) (by kernel_rfl) ?_
  rintro r w13 ⟨A52, c52, rfl, q13, o13, f13⟩
  refine ⟨_, _, _, rfl, ?_⟩
  have hs13 := q13.size
  have z13 : Keep No w10 w13 := (q11.trans q12).trans q13
  refine ⟨fun x w14 => ∃ (i2 : Nat) (U : List (Int × Bool)), x = i2 ∧ i2 ≤ M.n.l.length ∧ Keep No w10 w14 ∧ MapAt Eus w14 k46 U ∧ IsNames w14 kn' (fun j => w11.heap.size ≤ j ∧ j < w12.heap.size) M.n ∧ Own Lst 9 w14 No A52 M.n.l.length c52 (mkeys M.n.l) ∧ w13.heap.size ≤ w14.heap.size ∧
      (∀ q ∈ U, q.2 = true) ∧ ∀ id, (mget U id).getD false = usedN M (M.n.l.take i2) id,
    fun x _ => (((M.n.l.length : Nat) : Int) - x).toNat, ⟨0, [], rfl, Nat.zero_le _, z13, (u11.no q12).no q13, nm12.no q13, o13, Nat.le_refl _, (fun q hq => by cases hq), fun id => rfl⟩, ?_⟩
  rintro _ x w14 ⟨i2, U, rfl, hi2, z14, u14, nm14, o14, hs14, hUt, hU⟩
  have s14 := s10.no z14
  refine split_dec (fun hlt => ?_) (fun hge => ?_)
  · have hlt' : i2 < M.n.l.length := by omega
    refine ⟨⟨by omega, hlt⟩, ?_⟩
    obtain ⟨a, s, hA, hsx, hrd⟩ := o14.sl.stx hlt'
    refine SOMEA.i hA ⟨_, by rw [Int.toNat_natCast]; exact hrd, ?_⟩
    have hp : M.n.l[i2]? = some M.n.l[i2] := List.getElem?_eq_getElem hlt'
    have hps : M.n.l[i2].1 = s := by
      have : (mkeys M.n.l)[i2]? = some M.n.l[i2].1 := by simp [mkeys, hp]
      rw [this] at hsx
      exact Option.some.inj hsx
    have hpm : M.n.l[i2] ∈ M.n.l := List.getElem_mem hlt'
    refine CALL.i (names_of nm14 s) (by kernel_rfl) ?_
    rintro r w15 ⟨rfl, rfl⟩
    have hof : ofN M.n s = some M.n.l[i2].2 := by rw [← hps]; exact ofN_of_mem hbd.rising hpm
    rw [hof]
    refine ⟨_, _, rfl, ?_⟩
    refine CALL.i (stx_box s14 hbd M.n.l[i2].2) (by kernel_rfl) ?_
    rintro r w16 ⟨q16, hr⟩
    obtain ⟨xb, hxb, hxv⟩ := ok10.nb _ hpm
    have hbo : boxOf M M.n.l[i2].2 = some xb := by rw [← hxv]; exact boxOf_mem ok10.vnodup hxb
    rw [hbo] at hr
    obtain ⟨kb, rfl, hbx⟩ := hr
    refine ⟨_, _, rfl, ?_⟩
    refine ⟨fun w17 => w17 = w16, split_i (fun hc => by cases hc) (fun _ => split_i (fun hc => by cases hc) (fun _ => rfl)), ?_⟩
    rintro _ w17 rfl
    have hxl := hbd.blen xb hxb
    refine CALL.i (box_list (G := No) hbx (by omega) (fun j hj => False.elim hj)) (by kernel_rfl) ?_
    rintro r w18 ⟨A77, c77, rfl, q18, o18, f18⟩
    refine ⟨_, _, _, rfl, ?_⟩
    have hs16 := q16.size
    have hs18 := q18.size
    have z18 := (z14.trans q16).trans q18
    refine ⟨fun x w19 => ∃ (j2 : Nat) (U' : List (Int × Bool)), x = j2 ∧ j2 ≤ xb.l.length ∧ Keep No w10 w19 ∧ MapAt Eus w19 k46 U' ∧ IsNames w19 kn' (fun j => w11.heap.size ≤ j ∧ j < w12.heap.size) M.n ∧ Own Lst 9 w19 No A52 M.n.l.length c52 (mkeys M.n.l) ∧ Own Lent 53 w19 No A77 xb.l.length c77 xb.l ∧ w18.heap.size ≤ w19.heap.size ∧
        (∀ q ∈ U', q.2 = true) ∧ ∀ id, (mget U' id).getD false = ((mget U id).getD false || ((xb.l.take j2).any fun e => e.mail == id)),
      fun x _ => (((xb.l.length : Nat) : Int) - x).toNat, ⟨0, U, rfl, Nat.zero_le _, z18, (u14.no q16).no q18, (nm14.no q16).no q18, (o14.no q16).no q18, o18, Nat.le_refl _, hUt, by simp⟩, ?_⟩
    rintro _ x w19 ⟨j2, U', rfl, hj2, z19, u19, nm19, o19, ob19, hs19, hUt', hU'⟩
    refine split_dec (fun hlt2 => ?_) (fun hge2 => ?_)
    · have hlt2' : j2 < xb.l.length := by omega
      refine ⟨⟨by omega, hlt2⟩, ?_⟩
      obtain ⟨a2, e, hA2, he, hrd2⟩ := ob19.sl.ent hlt2'
      refine SOMEA.i hA2 ⟨_, _, _, by rw [Int.toNat_natCast]; exact hrd2, ?_⟩
      refine NEW.i fun b w20 hb20 hs20 q20 a20 => ?_
      refine ST.i a20 (Nat.le_refl _) rfl fun w21 hs21 q21 a21 => ?_
      have q1921 : Keep No w19 w21 := q20.tmp q21 (Nat.le_of_eq hb20)
      refine ⟨_, cell_at a21 rfl, ?_⟩
      refine map_update T41 (u19.no q1921) e.mail true fun w22 hs22 q22 u22 => ?_
      refine ⟨⟨j2 + 1, mput U' e.mail true, wrapS (by omega), hlt2', (z19.trans q1921).tmp q22 (by omega), u22, ?_, ?_, ?_, by have := q1921.size; omega, ?_, ?_⟩, mu_go (wrapS (by omega)) hlt2'⟩
      · exact (nm19.no q1921).kept q22 (fun j hj he => by omega)
      · exact (o19.no q1921).kept q22 (fun j hj _ he => hj.elim (fun h => h) (fun h => by have := f13 j h; omega))
      · exact (ob19.no q1921).kept q22 (fun j hj _ he => hj.elim (fun h => h) (fun h => by have := f18 j h; omega))
      · intro q hq
        rcases List.mem_cons.1 hq with rfl | hq
        · rfl
        · exact hUt' q (mem_mdel.1 hq).1
      · intro id
        rw [getD_mput, hU', take_succ_some he, List.any_append]
        have : decide (id = e.mail) = ([e].any fun y => y.mail == id) := by
          simp only [List.any_cons, List.any_nil, Bool.or_false]
          by_cases hh : id = e.mail
          · subst hh; simp
          · rw [decide_eq_false hh]
            exact (beq_false_of_ne (fun h => hh h.symm)).symm
        rw [this, Bool.or_comm, Bool.or_assoc]
    · have hje : j2 = xb.l.length := by omega
      subst hje
      rw [List.take_length] at hU'
      refine ⟨⟨i2 + 1, U', wrapS (by omega), hlt', z19, u19, nm19, o19, by omega, hUt', ?_⟩, mu_go (wrapS (by omega)) hlt'⟩
      intro id
      rw [hU', hU, take_succ_some hp]
      unfold usedN
      rw [List.any_append]
      congr 1
      simp only [List.any_cons, List.any_nil, Bool.or_false, hbo]
  · have hie : i2 = M.n.l.length := by omega
    rw [hie, List.take_length] at hU
    have hml := hbd.mlen
    refine CALL.i (stx_mails s14 ok10.mr (by omega)) (by kernel_rfl) ?_
    rintro r w15 ⟨A89, c89, rfl, q15, o15, f15⟩
    have hs15 := q15.size
    have u15 := u14.no q15
    have hmem : ∀ id, id ∈ mkeys U ↔ id ∈ mkeys M.mails := by
      intro id
      rw [← usedN_iff ok10 id, ← hU id]
      constructor
      · intro hid
        obtain ⟨q, hq, rfl⟩ := List.mem_map.1 hid
        have := mget_of_mem u14.nodup hq
        rw [this, hUt q hq]; rfl
      · intro hid
        cases hm : mget U id with
        | none => rw [hm] at hid; cases hid
        | some v => exact List.mem_map.2 ⟨_, mget_some hm, rfl⟩
    have hnd : (mkeys M.mails).Nodup := by
      unfold List.Nodup mkeys
      rw [List.pairwise_map]
      exact ok10.mr.imp fun h => by omega
    have hlenU : U.length = M.mails.length := by
      have := ((List.perm_ext_iff_of_nodup u14.nodup hnd).2 hmem).length_eq
      simpa [mkeys] using this
    refine ⟨_, _, _, rfl, _, map_len T41 u15 3, ?_⟩
    rw [hlenU]
    refine split_i (fun hc => by simp at hc) (fun _ => ?_)
    refine ⟨fun x w16 => ∃ i3 : Nat, x = i3 ∧ i3 ≤ M.mails.length ∧ w16 = w15, fun x _ => (((M.mails.length : Nat) : Int) - x).toNat, ⟨0, rfl, Nat.zero_le _, rfl⟩, ?_⟩
    rintro _ x w16 ⟨i3, rfl, hi3, rfl⟩
    refine split_dec (fun hlt => ?_) (fun hge => ?_)
    · have hlt' : i3 < M.mails.length := by omega
      refine ⟨⟨by omega, hlt⟩, ?_⟩
      obtain ⟨a, v, hA, hv, hrd⟩ := o15.sl.int hlt'
      have hv' : M.mails[i3].1 = v := by
        have : (mkeys M.mails)[i3]? = some M.mails[i3].1 := by simp [mkeys, List.getElem?_eq_getElem hlt']
        rw [this] at hv
        exact Option.some.inj hv
      have hvm : v ∈ mkeys M.mails := List.mem_of_getElem? hv
      refine SOMEA.i hA ⟨_, by rw [Int.toNat_natCast]; exact hrd, ?_⟩
      have hlook : ∃ r : Value, (Instr.lookup 41 (.map (some k46)) (.int .i64 v) false).run PP w16 = .ok r w16 ∧ r = .bool true := by
        refine ⟨_, map_lookup1 T41 u15 v, ?_⟩
        have hgd : (mget U v).getD false = true := by rw [hU]; exact (usedN_iff ok10 v).2 hvm
        cases hm : mget U v with
        | none => rw [hm] at hgd; cases hgd
        | some b =>
          rw [hm] at hgd
          have : b = true := hgd
          rw [this]; rfl
      obtain ⟨r, hr1, hr2⟩ := hlook
      refine ⟨r, hr1, _, hr2, split_i (fun hc => by cases hc) (fun _ => ?_)⟩
      have hnext : v < M.next := by
        rw [← hv']
        exact (ok10.ml _ (List.getElem_mem hlt')).2.1
      have s16 := s14.no q15
      have fin : CALL PP 20 [.pointer (some ⟨k, 0, none⟩)] w16 fun r122 w17 => ∃ (x122 : Int), r122 = .int .i64 x122 ∧ SPLIT (decide (v ≥ x122)) ((.bool false : Value) = .bool true ∧ Keep No w w17)
          ((∃ i3' : Nat, IntKind.wrap .i64 ((i3 : Int) + 1) = i3' ∧ i3' ≤ M.mails.length ∧ w17 = w16) ∧ (((M.mails.length : Nat) : Int) - IntKind.wrap .i64 ((i3 : Int) + 1)).toNat < (((M.mails.length : Nat) : Int) - (i3 : Int)).toNat) := by
        refine CALL.i (stx_next s16) (by kernel_rfl) ?_
        rintro r w17 ⟨rfl, rfl⟩
        refine ⟨_, rfl, split_dec (fun hc => by omega) (fun _ => ⟨⟨i3 + 1, wrapS (by omega), hlt', rfl⟩, mu_go (wrapS (by omega)) hlt'⟩)⟩
      refine split_dec (fun hpos => ?_) (fun hpos => fin)
      have hw1 : IntKind.wrap .i64 ((i3 : Int) - 1) = ((i3 - 1 : Nat) : Int) := by
        rw [wrap64 (by omega) (by omega)]
        omega
      rw [hw1]
      refine ⟨⟨by omega, by omega⟩, ?_⟩
      obtain ⟨a', v', hA', hv2, hrd'⟩ := o15.sl.int (i := i3 - 1) (by omega)
      refine SOMEA.i hA' ⟨_, by rw [Int.toNat_natCast]; exact hrd', split_dec (fun hc => ?_) (fun _ => fin)⟩
      have hris : (mkeys M.mails).Pairwise (· < ·) := List.pairwise_map.2 ok10.mr
      have hmlen : (mkeys M.mails).length = M.mails.length := by simp [mkeys]
      have := List.pairwise_iff_getElem.1 hris (i3 - 1) i3 (by omega) (by omega) (by omega)
      rw [(List.getElem?_eq_some_iff.1 hv).2, (List.getElem?_eq_some_iff.1 hv2).2] at this
      omega
    · refine ⟨⟨i + 1, X', M, wrapS (by omega), hi25, s14.no q15, ok10, hX10, (p10.trans z14).trans q15⟩, mu_go (wrapS (by omega)) hi25⟩
end Go.SW
