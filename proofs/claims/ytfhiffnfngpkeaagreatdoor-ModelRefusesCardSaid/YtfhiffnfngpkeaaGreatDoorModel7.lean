/- The store: search, within, Do. -/
import Derived.Test.YtfhiffnfngpkeaaGreatDoorModel5
set_option linter.unusedVariables false
namespace Go.SW
open Go Go.Proofs Pl

/-- an op as it lies in the memory; what its texts may be long -/
structure OpAt (w : World) (o : Pl.Op) (A : Option Addr) (n c : Nat) : Prop where
  words : ∃ F, Sl Lst w F A n c o.words
  none : A = none → n = 0
  box : o.box.length < 10000000
  to : o.to.length < 10000000
  text : o.text.length < 10000000
  ws : ∀ x ∈ o.words, x.length < 10000000
theorem OpAt.no {w w' : World} {o : Pl.Op} {A : Option Addr} {n c : Nat} (h : OpAt w o A n c) (hk : Keep No w w') : OpAt w' o A n c := by
  obtain ⟨F, hF⟩ := h.words
  exact ⟨⟨F, hF.no hk⟩, h.none, h.box, h.to, h.text, h.ws⟩
/-- bounds of a store -/
structure Bd (M : Md) : Prop where
  names : NamesOk M
  rising : Rising M.n.l
  nlen : M.n.l.length < 1000
  nnext : 1 ≤ M.n.next ∧ M.n.next < 100
  bval : ∀ x ∈ M.b, 1 ≤ x.validity ∧ x.validity < M.n.next
  bflags : ∀ x ∈ M.b, FlagsOk x
  blen : ∀ x ∈ M.b, x.l.length < 100
  bnext : ∀ x ∈ M.b, 1 ≤ x.next ∧ x.next < 100
  next : 1 ≤ M.next ∧ M.next < 100
  fresh : M.next ∉ mkeys M.mails
  mlen : M.mails.length < 100
  texts : ∀ q ∈ M.mails, q.2.length < 100000

section
variable {w : World} {k : Nat} {ow : Nat → Tag} {M : Md} {kn bb mb : Nat} {pt : Int → Nat}

theorem mailOf_len (hb : Bd M) (id : Int) : ((mailOf M id).getD []).length < 10000000 := by
  unfold mailOf
  cases h : M.mails.find? (fun p => decide (p.1 = id)) with
  | none => show (0 : Nat) < _; omega
  | some q =>
    have := hb.texts q (List.mem_of_find?_eq_some h)
    show q.2.length < _
    omega

theorem model_search (h : IsModel w k ow M kn bb mb pt) (hb : Bd M) (o : Pl.Op) {A : Option Addr} {n c : Nat} (ho : OpAt w o A n c) :
    Calls PP 33 #[.pointer (some ⟨k, 0, none⟩), .agg ⟨ocells o A n c⟩] w (Ret fun r w' => DoneAct w k ow kn bb mb M (search M o) r w') := by
  refine c33 ?_
  unfold S33
  refine NEW.i fun k2 w1 hk2 hs1 q1 a1 => NEW.i fun k3 w2 hk3 hs2 q2 a2 => NEW.i fun k4 w3 hk4 hs3 q3 a3 => ?_
  have h12 := q1.trans q2
  have h13 := h12.trans q3
  obtain ⟨Fw, hFw⟩ := ho.words
  refine ⟨_, _, _, cell_at (a2.no q3) rfl, ?_⟩
  refine CALL.i (words_clean (hFw.no h13) ho.none (fun x hx => by have := ho.ws x hx; omega)) (by kernel_rfl) ?_
  rintro r w4 ⟨q4, hr⟩
  -- what Clean says
  obtain ⟨A1, n1, c1, e1, rfl, hcl⟩ : ∃ A1 n1 c1 e1, r = .tuple #[.slice A1 n1 c1, .int .i64 e1] ∧ ((cleanW o.words = none ∧ e1 = 4) ∨ ∃ l, cleanW o.words = some l ∧ e1 = 0 ∧ n1 = l.length ∧ Own Lst 9 w4 No A1 n1 c1 l ∧ ∀ j, ownBlk A1 j → w3.heap.size ≤ j) := by
    cases hc : cleanW o.words with
    | none =>
      rw [hc] at hr
      exact ⟨_, _, _, _, hr, .inl ⟨rfl, rfl⟩⟩
    | some l =>
      rw [hc] at hr
      obtain ⟨A', c', h1, h2, h3⟩ := hr
      exact ⟨_, _, _, _, h1, .inr ⟨l, rfl, rfl, rfl, h2, h3⟩⟩
  refine ⟨_, _, _, _, rfl, ?_⟩
  have hs4 := q4.size
  refine NEW.i fun k5 w5 hk5 hs5 q5 a5 => ?_
  refine ST.i a5 (Nat.le_refl _) rfl fun w6 hs6 q6 a6 => ?_
  have q46 : Keep No w4 w6 := q5.tmp q6 (Nat.le_of_eq hk5)
  have h14 := h13.trans q4
  have h16 := h14.trans q46
  have b1 : At w6 k2 _ := (((a1.no q2).no q3).no q4).no q46
  have b2 := ((a2.no q3).no q4).no q46
  have b3 := (a3.no q4).no q46
  have g6 := h.no h16
  refine ⟨_, cell_at b1 rfl, _, cell_at b2 rfl, ?_⟩
  refine CALL.i (model_find g6 hb.names o.box) (by kernel_rfl) ?_
  rintro r w7 ⟨rfl, hr7⟩
  obtain ⟨p, rfl⟩ : ∃ p, r = .tuple #[.pointer p, .bool (find M o.box).isSome] := by
    cases hf : find M o.box with
    | none => rw [hf] at hr7; obtain ⟨p, rfl⟩ := hr7; exact ⟨p, rfl⟩
    | some y => rw [hf] at hr7; obtain ⟨rfl, _⟩ := hr7; exact ⟨_, rfl⟩
  refine ⟨_, _, rfl, ?_⟩
  have o4 : ow k4 = .out := h.new_out (by omega)
  have bad4 : search M o = no 4 → _ := fun he => he
  rcases hcl with ⟨hc1, rfl⟩ | ⟨l, hc1, rfl, rfl, ol, fl⟩
  · refine split_i (fun _ => ?_) (fun hc => by cases hc)
    have he : search M o = no 4 := by unfold search; rw [hc1]
    rw [he]
    exact call_no 4 g6 h16.no (by omega) b3 rfl o4
  · refine split_i (fun hc => by cases hc) (fun _ => ?_)
    refine ⟨_, cell_at b2 rfl, ?_⟩
    refine split_dec (fun hneg => ?_) (fun hneg => ?_)
    · have he : search M o = no 4 := by
        unfold search
        rw [hc1]
        have : flagOk o.flags = false := by
          unfold flagOk
          rw [decide_eq_false (by omega), Bool.false_and]
        simp only [this, Bool.not_false, if_true]
      rw [he]
      exact call_no 4 g6 h16.no (by omega) b3 rfl o4
    refine ⟨_, cell_at b2 rfl, ?_⟩
    refine split_dec (fun hbig => ?_) (fun hbig => ?_)
    · have he : search M o = no 4 := by
        unfold search
        rw [hc1]
        have : flagOk o.flags = false := by
          unfold flagOk
          rw [decide_eq_false (p := o.flags ≤ 31) (by omega), Bool.and_false]
        simp only [this, Bool.not_false, if_true]
      rw [he]
      exact call_no 4 g6 h16.no (by omega) b3 rfl o4
    have hfo : flagOk o.flags = true := by
      unfold flagOk
      rw [decide_eq_true (by omega), decide_eq_true (by omega)]
      rfl
    have hbl : (bs o.box).toList = o.box := bs_toList _
    have hemp : (⟨#[]⟩ : ByteArray).toList = [] := bs_emp
    have hse : (!o.box.isEmpty && (find M o.box).isNone) = false → search M o = ⟨0, (((EE M o M.n.l).filter fun q => hasW ((mailOf M q.2.mail).getD []) l).map fun q => (⟨q.1, q.2.uid, q.2.flags⟩ : Hit)).length, [], [], ((EE M o M.n.l).filter fun q => hasW ((mailOf M q.2.mail).getD []) l).map fun q => ⟨q.1, q.2.uid, q.2.flags⟩⟩ := by
      intro hc
      unfold search
      rw [hc1]
      simp only [hfo, Bool.not_true, Bool.false_eq_true, if_false, hc]
      rw [hits_EE]
    refine ⟨_, cell_at b2 rfl, ?_⟩
    have hEElen : (EE M o M.n.l).length ≤ 100000 := by
      have h1 : ∀ l : List (Str × Int), (EE M o l).length ≤ l.length * 100 := by
        intro l
        induction l with
        | nil => simp [EE]
        | cons p l ih =>
          rw [show p :: l = [p] ++ l from rfl, EE_append, List.length_append, EE_one]
          have : (if o.box.isEmpty || p.1 == o.box then entOf M o p.1 else []).length ≤ 100 := by
            split
            · unfold entOf
              cases hf : find M p.1 with
              | none => simp
              | some b =>
                have h2 := hb.blen b (find_some hb.names hf)
                have h3 := List.length_filter_le (hasF o) b.l
                simp only [List.length_map]
                omega
            · simp
          simp only [List.length_append, List.length_singleton]
          omega
      have := h1 M.n.l
      have := hb.nlen
      omega
    refine split_i (fun hbx => split_i (fun hnf => ?_) (fun hnf => ?_)) (fun hbx => ?_)
    · rw [hbl, hemp] at hbx
      have hne : o.box.isEmpty = false := by
        cases hq : o.box with
        | nil => rw [hq] at hbx; simp at hbx
        | cons _ _ => rfl
      have hnn : (find M o.box).isNone = true := by
        cases hq : find M o.box with
        | none => rfl
        | some y => rw [hq] at hnf; cases hnf
      have he : search M o = no 5 := by
        unfold search
        rw [hc1]
        simp only [hfo, Bool.not_true, Bool.false_eq_true, if_false, hne, hnn, Bool.not_false, Bool.and_self, if_true]
      rw [he]
      exact call_no 5 g6 h16.no (by omega) b3 rfl o4
    all_goals
      have hcond : (!o.box.isEmpty && (find M o.box).isNone) = false := by
        first
        | (have hnn : (find M o.box).isNone = false := by
            cases hq : find M o.box with
            | none => rw [hq] at hnf; cases hnf
            | some y => rfl
           rw [hnn, Bool.and_false])
        | (rw [hbl, hemp] at hbx
           have hne : o.box = [] := by simpa using hbx
           rw [hne]; rfl)
      rw [hse hcond]
      refine NEW.i fun k9 w8 hk9 hs8 q8 a8 => ?_
      refine ⟨_, cell_at (b1.no q8) rfl, _, _, _, _, _, _, _, _, _, _, RD.i (b2.no q8), ?_⟩
      have h18 := h16.trans q8
      refine CALL.i (R := fun r w' => ∃ ka kb ta, r = .func (.func 117) #[] ⟨[.pointer (some ⟨ka, 0, none⟩), .pointer (some ⟨kb, 0, none⟩)]⟩ ∧ Keep No w8 w' ∧ w8.heap.size ≤ ka ∧ w8.heap.size ≤ kb ∧ At w' ka (.cells ⟨[.pointer (some ⟨k, 0, none⟩)]⟩ ta (0, 0)) ∧ At w' kb (.cells ⟨ocells o A n c⟩ 28 (0, 0))) ?_ (by kernel_rfl) ?_
      · refine c75 ?_
        unfold S75
        exact NEW.i fun ka wa hka hsa qa aa => NEW.i fun kb wb hkb hsb qb ab => ⟨ka, kb, _, rfl, qa.trans qb, by omega, by omega, aa.no qb, ab⟩
      rintro r w9 ⟨ka, kb, ta, rfl, q9, fa, fb, aa, ab⟩
      have h19 := h18.trans q9
      have g9 := h.no h19
      have hs9 := q9.size
      have c9 := a8.no q9
      have cl := ((ol.no q46).no q8).no q9
      have ck5 := (a6.no q8).no q9
      have ck2 := (b1.no q8).no q9
      have ck4 := (b3.no q8).no q9
      have lk5 := a6.lt
      have lk2 := b1.lt
      have lk4 := b3.lt
      have ll : ∀ j, ownBlk A1 j → j < w9.heap.size := cl.lt
      have ll6 : ∀ j, ownBlk A1 j → j < w7.heap.size := (ol.no q46).lt
      have hb9 : ∀ j, ow j ≠ .out → j < w.heap.size := h.lt
      refine RANGE.j (entries_iter g9 hb.names hb.rising (by have := hb.nlen; omega) hb.bflags (fun z hz => by have := hb.blen z hz; omega) o (by simpa [flagOk] using hfo) aa ab) (fun _ => rfl) ?_
        (fun vis F a => IsModel a k ow M kn bb mb pt ∧ At a k2 (.cells ⟨[.pointer (some ⟨k, 0, none⟩)]⟩ 24 (0, 0)) ∧ At a k5 (.cells ⟨[.slice A1 l.length c1]⟩ 26 (0, 0)) ∧ Own Lst 9 a No A1 l.length c1 l ∧
          ∃ A n c, At a k9 (.cells ⟨acells 0 0 (bs []) none 0 0 A n c⟩ 35 (0, 0)) ∧ Own Lhit 39 a No A n c ((vis.filter fun q => hasW ((mailOf M q.2.mail).getD []) l).map fun q => (⟨q.1, q.2.uid, q.2.flags⟩ : Hit)) ∧
            (∀ j, F j ↔ j = k9 ∨ ownBlk A j ∨ j = k2 ∨ j = k5 ∨ ownBlk A1 j) ∧ (∀ j, ownBlk A j → w9.heap.size ≤ j) ∧ w9.heap.size ≤ a.heap.size)
        (fun j => j = k9 ∨ j = k2 ∨ j = k5 ∨ ownBlk A1 j) (fun wz hz => ⟨g9.no hz, ck2.no hz, ck5.no hz, cl.no hz, none, 0, 0, c9.no hz, Own.nil _ _ _ _, fun j => ⟨fun h => h.elim .inl (fun h => .inr (.inr h)), fun h => h.elim .inl (fun h => h.elim (fun h => False.elim h) .inr)⟩, fun j h => False.elim h, hz.size⟩) ?_ ?_ ?_ ?_ ?_ ?_
      · rintro j (hj | rfl | rfl)
        · exact g9.lt j hj
        · exact aa.lt
        · exact ab.lt
      · rintro vis F a b ⟨i0, i1, i2, i3, A2, n2, c2, i4, i5, i6, i7, i8⟩ hkk hss
        refine ⟨i0.keep (fun j hj => hkk j (.inr (.inl hj))) hss, (hkk k2 (.inl ((i6 k2).2 (.inr (.inr (.inl rfl)))))).trans i1, (hkk k5 (.inl ((i6 k5).2 (.inr (.inr (.inr (.inl rfl))))))).trans i2,
          i3.keep (fun j hj _ => hj.elim (fun h => False.elim h) (fun h => hkk j (.inl ((i6 j).2 (.inr (.inr (.inr (.inr h)))))))), A2, n2, c2, (hkk k9 (.inl ((i6 k9).2 (.inl rfl)))).trans i4,
          i5.keep (fun j hj _ => hj.elim (fun h => False.elim h) (fun h => hkk j (.inl ((i6 j).2 (.inr (.inl h)))))), i6, i7, by omega⟩
      · rintro vis F a j ⟨i0, i1, i2, i3, A2, n2, c2, i4, i5, i6, i7, i8⟩ hj
        rcases (i6 j).1 hj with rfl | hj | rfl | rfl | hj
        · exact i4.lt
        · exact i5.lt j hj
        · exact i1.lt
        · exact i2.lt
        · exact i3.lt j hj
      · rintro j (rfl | rfl | rfl | hj)
        · exact c9.lt
        · exact ck2.lt
        · exact ck5.lt
        · exact ll j hj
      · have hnew : ∀ j, w.heap.size ≤ j → j < w8.heap.size → ¬ (ow j ≠ .out ∨ j = ka ∨ j = kb) := by
          rintro j hj1 hj2 (h5 | h5 | h5)
          · have := hb9 j h5; omega
          · omega
          · omega
        rintro j (rfl | rfl | rfl | hj)
        · exact hnew _ (by have := h16.size; omega) (by omega)
        · exact hnew _ (by omega) (by omega)
        · exact hnew _ (by have := h14.size; omega) (by omega)
        · exact hnew _ (by have := fl j hj; have := h13.size; omega) (by have := ll6 j hj; omega)
      · rintro vis F a x l' ⟨i0, i1, i2, i3, A2, n2, c2, i4, i5, i6, i7, i8⟩ hx hl' hla hlw beg K hbeg
        have hvl : vis.length ≤ 100000 := by
          obtain ⟨rr, hrr⟩ := hx
          have := congrArg List.length hrr
          simp only [List.length_append, List.length_cons] at this
          omega
        obtain ⟨xs, xe⟩ := x
        refine ⟨_, _, rfl, _, rfl, _, _, rfl, _, _, _, rfl, rfl, ?_⟩
        refine NEW.i fun k11 x1 hk11 hx1 r1 d1 => ?_
        refine ST.i d1 (Nat.le_refl _) rfl fun x2 hx2 r2 d2 => ?_
        have r12 : Keep No a x2 := r1.tmp r2 (Nat.le_of_eq hk11)
        refine hbeg x2 _ r12 fun x3 hx3 r3 hK => ?_
        have hlF : ∀ j, F j → j ≠ l' := fun j hj he => hl' (he ▸ hj)
        have e9 : k9 ≠ l' := hlF _ ((i6 _).2 (.inl rfl))
        have e2 : k2 ≠ l' := hlF _ ((i6 _).2 (.inr (.inr (.inl rfl))))
        have e5 : k5 ≠ l' := hlF _ ((i6 _).2 (.inr (.inr (.inr (.inl rfl)))))
        have eA1 : ∀ j, ownBlk A1 j → j ≠ l' := fun j hj => hlF j ((i6 j).2 (.inr (.inr (.inr (.inr hj)))))
        have eA2 : ∀ j, ownBlk A2 j → j ≠ l' := fun j hj => hlF j ((i6 j).2 (.inr (.inl hj)))
        have e11 : k11 ≠ l' := by omega
        refine DRAW.i fun x4 hx4 r4 => ?_
        have r34 : Keep (fun j => j = l') x2 x4 := r3.and_no r4
        have j0 := (i0.no r12).kept r34 (fun j hj he => by have := hb9 j hj; have := h19.size; omega)
        have j1 := r34.at_ (i1.no r12) e2
        have j2 := r34.at_ (i2.no r12) e5
        have j3 := (i3.no r12).kept r34 (fun j hj _ he => hj.elim (fun h => h) (fun h => eA1 j h he))
        have j4 := r34.at_ (i4.no r12) e9
        have j5 := (i5.no r12).kept r34 (fun j hj _ he => hj.elim (fun h => h) (fun h => eA2 j h he))
        have j11 := r34.at_ d2 e11
        refine ⟨_, cell_at j1 rfl, SOMEA.i rfl ⟨_, cell_at_add j0.top rfl, _, cell_at j11 rfl, ?_⟩⟩
        have hlook : ∃ r : Value, (Instr.lookup 80 (.map (some mb)) (.int .i64 xe.mail) false).run PP x4 = .ok r x4 ∧ r = .string (bs ((mailOf M xe.mail).getD [])) := by
          refine ⟨_, map_lookup1 T80 j0.mails xe.mail, ?_⟩
          have : mget M.mails xe.mail = mailOf M xe.mail := rfl
          rw [this]
          cases mailOf M xe.mail with
          | none => rfl
          | some v => rfl
        obtain ⟨r, hr1, hr2⟩ := hlook
        have hl8 : l.length < 1000000 := by
          have hlw : l.length ≤ 100000 := by
            have h5 : cleanW o.words = some l := hc1
            unfold cleanW at h5
            split at h5
            · cases h5
            · rename_i h6
              simp only [Bool.or_eq_true, decide_eq_true_eq, not_or] at h6
              injection h5 with h5
              have h7 : ∀ (ws a : List Str), (ws.foldl (fun a w => putW w a) a).length ≤ ws.length + a.length := by
                intro ws
                induction ws with
                | nil => intro a; simp
                | cons w0 ws ih =>
                  intro a
                  have h8 := ih (putW w0 a)
                  have h9 : ∀ b : List Str, (putW w0 b).length ≤ b.length + 1 := by
                    intro b
                    induction b with
                    | nil => simp [putW]
                    | cons y b ihb =>
                      unfold putW
                      split
                      · simp; omega
                      · split <;> simp
                  have := h9 a
                  simp only [List.foldl_cons, List.length_cons]
                  omega
              have := h7 o.words []
              rw [← h5]
              unfold sortW
              simp at this
              omega
          omega
        refine ⟨r, hr1, _, hr2, _, _, _, cell_at j2 rfl, ?_⟩
        refine CALL.i (words_has _ (mailOf_len hb xe.mail) j3.sl (by omega)) (by kernel_rfl) ?_
        rintro r5 x5 ⟨rfl, r5⟩
        have hs34 := r34.size
        have hs12 := r12.size
        refine ⟨_, rfl, split_i (fun hh => ?_) (fun hh => ?_)⟩
        · refine ⟨_, _, _, cell_at (j4.no r5) rfl, _, cell_at (j11.no r5) rfl, _, cell_at (j11.no r5) rfl, ?_⟩
          refine NEW.i fun k70 x6 hk70 hx6 r6 d6 => ?_
          have r56 := r5.trans r6
          have hn2 := i5.len
          have hnle : n2 ≤ 100000 := by
            rw [← hn2, List.length_map]
            exact Nat.le_trans (List.length_filter_le _ _) hvl
          refine append_one T39 (j5.no r56) d6 (x := ⟨xs, xe.uid, xe.flags⟩) rfl (by omega) ?_ (fun k hk => False.elim hk)
          intro A' c' x7 r7 hb7 hs7 o7
          refine ⟨_, _, _, rfl, ?_⟩
          have e9A : ¬ ownBlk A2 k9 := fun h => by have := i7 k9 h; have := c9.lt; omega
          have f7 : ∀ j, ownBlk A' j → w9.heap.size ≤ j := own_fresh hb7 i7 (by have := r56.size; omega)
          have e9A' : ¬ ownBlk A' k9 := fun h => by have := f7 k9 h; have := c9.lt; omega
          have j47 := r7.at_ (j4.no r56) e9A
          refine ST.i j47 (Nat.le_refl _) rfl fun x8 hx8 r8 d8 => ?_
          have ne2 : k2 ≠ k9 := by have := h16.size; omega
          have ne5 : k5 ≠ k9 := by omega
          have old2 : ∀ j, j < w9.heap.size → ¬ ownBlk A2 j := fun j hj h => by have := i7 j h; omega
          have lt2 := ck2.lt
          have lt5 := ck5.lt
          refine hK x8 (fun j => j = k9 ∨ ownBlk A' j ∨ j = k2 ∨ j = k5 ∨ ownBlk A1 j) ?_ ⟨?_, ?_, ?_, ?_, A', n2 + 1, c', d8, ?_, fun j => Iff.rfl, f7, ?_⟩ ?_
          · exact ((r4.no.trans r56.no).trans (r7.mono fun j _ hj => (i6 j).2 (.inr (.inl hj)))).trans (r8.mono fun j _ hj => (i6 j).2 (.inl hj))
          · refine ((j0.no r56).kept r7 (fun j hj h => by have := hb9 j hj; have := i7 j h; have := h19.size; omega)).kept r8 (fun j hj h => by have := hb9 j hj; have := h16.size; omega)
          · exact r8.at_ (r7.at_ (j1.no r56) (old2 _ lt2)) ne2
          · exact r8.at_ (r7.at_ (j2.no r56) (old2 _ lt5)) ne5
          · exact ((j3.no r56).kept r7 (fun j hj _ h => hj.elim (fun h => h) (fun h' => old2 j (ll j h') h))).kept r8 (fun j hj _ h => hj.elim (fun h => h) (fun h' => by have := ll6 j h'; omega))
          · have := o7.kept r8 (fun j hj _ h => hj.elim (fun h => h) (fun h' => e9A' (h ▸ h')))
            rw [List.filter_append, List.map_append]
            have hone : ([(xs, xe)].filter fun q : Str × Ety => hasW ((mailOf M q.2.mail).getD []) l) = [(xs, xe)] := by
              simp only [List.filter_cons, List.filter_nil, hh, if_true]
            rw [hone]
            exact this
          · have := r56.size; have := r7.size; omega
          · rintro j (h | h | h | h | h)
            · exact .inl ((i6 j).2 (.inl h))
            · rcases hb7 j h with h | h
              · exact .inl ((i6 j).2 (.inr (.inl h)))
              · exact .inr (by have := r56.size; omega)
            · exact .inl ((i6 j).2 (.inr (.inr (.inl h))))
            · exact .inl ((i6 j).2 (.inr (.inr (.inr (.inl h)))))
            · exact .inl ((i6 j).2 (.inr (.inr (.inr (.inr h)))))
        · refine hK x5 F ((r4.trans r5).no) ⟨j0.no r5, j1.no r5, j2.no r5, j3.no r5, A2, n2, c2, j4.no r5, ?_, i6, i7, ?_⟩ (fun j hj => .inl hj)
          · rw [List.filter_append]
            have hone : ([(xs, xe)].filter fun q : Str × Ety => hasW ((mailOf M q.2.mail).getD []) l) = [] := by
              simp only [List.filter_cons, List.filter_nil, hh, Bool.false_eq_true, if_false]
            rw [hone, List.append_nil]
            exact j5.no r5
          · have := r5.size; omega
      · rintro vis F D w10 hv ⟨i0, i1, i2, i3, A2, n2, c2, i4, i5, i6, i7, i8⟩ hD hFD hDs hk hF
        subst hv
        refine ⟨_, _, _, cell_at i4 rfl, ?_⟩
        refine ST.i i4 (by show 1 + 1 ≤ 5; omega) rfl fun w11 hs11 q11 a11 => ?_
        refine ⟨_, _, _, _, _, _, _, _, _, RD.i a11, ?_⟩
        have hF0 : ∀ j, (j = k9 ∨ j = k2 ∨ j = k5 ∨ ownBlk A1 j) → w.heap.size ≤ j := by
          rintro j (h | h | h | h)
          · have := h16.size; omega
          · omega
          · have := h14.size; omega
          · have := fl j h; have := h13.size; omega
        have k0 : Keep No w w10 := h19.fresh hk hF0
        have ne4 : ∀ j, (j = k9 ∨ j = k2 ∨ j = k5 ∨ ownBlk A1 j) → k4 ≠ j := by
          rintro j (h | h | h | h)
          · have := h16.size; omega
          · omega
          · have := h14.size; omega
          · have := fl j h; omega
        have x4 : At w10 k4 _ := hk.at_ ck4 (fun h => ne4 k4 h rfl)
        have ne49 : k4 ≠ k9 := ne4 k9 (.inl rfl)
        have x11 := q11.at_ x4 ne49
        refine ST.i x11 (Nat.le_refl _) rfl fun w12 hs12 q12 a12 => ?_
        have hDk9 : D ≠ k9 := fun he => hFD ((i6 D).2 (.inl he))
        have hDk4 : D ≠ k4 := fun he => by have := h19.size; have := q9.size; have := lk4; have := q8.size; omega
        have hD12 := q12.at_ (q11.at_ hD hDk9) hDk4
        refine ⟨hD12, ?_⟩
        obtain ⟨z1, z2, z3⟩ := putObj_keep (.deferred none) hD12
        refine ⟨_, _, _, _, _, _, _, _, _, RD.i (z1.at_ a12 (fun he => hDk4 he.symm)), ?_⟩
        have hDw : w.heap.size ≤ D := by have := h19.size; omega
        have hk9w : w.heap.size ≤ k9 := hF0 k9 (.inl rfl)
        have kz : Keep No w (w12.putObj D (.deferred none)) := ((k0.tmp q11 hk9w).tmp q12 (by omega)).tmp z1 hDw
        refine DoneAct.same h kz ?_
        have hDA : ¬ ownBlk A2 D := fun h => hFD ((i6 D).2 (.inr (.inl h)))
        have hn2 := i5.len
        have hA4 : ∀ j, ownBlk A2 j → j ≠ k4 := fun j hj he => by have := i7 j hj; have := h19.size; have := lk4; have := q8.size; omega
        have hA9 : ∀ j, ownBlk A2 j → j ≠ k9 := fun j hj he => by have := i7 j hj; have := c9.lt; omega
        refine ⟨none, 0, A2, c2, ?_, Own.nil _ _ _ _, ?_, ?_⟩
        · show _ = Value.agg ⟨acells 0 _ (bs []) none 0 0 A2 _ c2⟩
          rw [hn2]
          rfl
        · show Own Lhit 39 _ No A2 (List.length _) c2 _
          rw [hn2]
          refine ((i5.kept q11 ?_).kept q12 ?_).kept z1 ?_
          · exact fun j hj _ he => hj.elim (fun h => h) (fun h => hA9 j h he)
          · exact fun j hj _ he => hj.elim (fun h => h) (fun h => hA4 j h he)
          · exact fun j hj _ he => hj.elim (fun h => h) (fun h => hDA (he ▸ h))
        · rintro j (hj | hj)
          · exact False.elim hj
          · have := i7 j hj; have := h19.size; omega
end
end Go.SW
set_option linter.unusedVariables false
namespace Go.SW
open Go Go.Proofs Pl

section
variable {w : World} {k : Nat} {ow : Nat → Tag} {M : Md} {kn bb mb : Nat} {pt : Int → Nat}

theorem model_within (h : IsModel w k ow M kn bb mb pt) (hb : Bd M) (o : Pl.Op) {A : Option Addr} {n c : Nat} (ho : OpAt w o A n c) (hkind : 5 ≤ o.kind ∧ o.kind ≤ 11) :
    Calls PP 34 #[.pointer (some ⟨k, 0, none⟩), .agg ⟨ocells o A n c⟩] w (Ret fun r w' => DoneAct w k ow kn bb mb (within M o).1 (within M o).2 r w') := by
  refine c34 ?_
  unfold S34
  refine NEW.i fun k3 w1 hk3 hs1 q1 a1 => NEW.i fun k4 w2 hk4 hs2 q2 a2 => ?_
  have h12 := q1.trans q2
  have b1 := a1.no q2
  have g2 := h.no h12
  have o4 : ow k4 = .out := h.new_out (by omega)
  refine ⟨_, cell_at b1 rfl, ?_⟩
  refine CALL.i (model_find g2 hb.names o.box) (by kernel_rfl) ?_
  rintro r w3 ⟨rfl, hr⟩
  cases hf : find M o.box with
  | none =>
    rw [hf] at hr
    obtain ⟨p, rfl⟩ := hr
    refine ⟨_, _, rfl, split_i (fun _ => ?_) (fun hc => by cases hc)⟩
    have he : within M o = (M, no 5) := by unfold within; rw [hf]
    rw [he]
    exact call_no 5 g2 h12.no (by omega) a2 rfl o4
  | some x =>
    rw [hf] at hr
    obtain ⟨rfl, hx⟩ := hr
    refine ⟨_, _, rfl, split_i (fun hc => by cases hc) (fun _ => ?_)⟩
    have hbl : ∀ z ∈ M.b, z.l.length < 10000 := fun z hz => by have := hb.blen z hz; omega
    have hbn : ∀ z ∈ M.b, 0 ≤ z.next ∧ z.next < 4611686018427387904 := fun z hz => by have := hb.bnext z hz; omega
    have hxl := hb.blen x hx
    have hxn := hb.bnext x hx
    have hxv := hb.bval x hx
    have hnn := hb.nnext
    have hw : within M o = if o.kind = 5 then (M, status x) else if o.kind = 6 then append M x o else if o.kind = 7 then (M, fetch M x o) else if o.kind = 8 ∨ o.kind = 9 then copy M x o
        else if o.kind = 10 then (if (setB x o.uid o.flags o.off).2.2 ≠ 0 then M else setBox M (setB x o.uid o.flags o.off).1, ⟨(setB x o.uid o.flags o.off).2.2, (setB x o.uid o.flags o.off).2.1.flags, [], [], []⟩) else expunge M x o.box := by
      unfold within; rw [hf]
    rw [hw]
    refine ⟨fun w4 => w4 = w3 ∧ o.kind = 11, ?_, ?_⟩
    · refine ⟨_, cell_at b1 rfl, split_i (fun h5 => ?_) (fun h5 => split_i (fun h6 => ?_) (fun h6 => split_i (fun h7 => ?_) (fun h7 => ?_)))⟩
      · have e5 : o.kind = 5 := by simpa using h5
        rw [if_pos e5]
        refine CALL.i (model_status (g2.box x hx) (hb.bflags x hx) hxl (by omega) (by omega)) (by kernel_rfl) ?_
        rintro r w4 ⟨rfl, q4⟩
        have hans : status x = ⟨0, x.l.length, (status x).text, [], []⟩ := rfl
        refine pass_ans (M' := M) (a := status x) h12.no (DoneAct.same (a := status x) g2 q4 ?_) (by omega) a2 rfl o4
        rw [hans]
        exact IsAns.flat w4 _ 0 x.l.length _
      · have e5 : ¬ o.kind = 5 := by simpa using h5
        have e6 : o.kind = 6 := by simpa using h6
        rw [if_neg e5, if_pos e6]
        refine ⟨_, _, _, _, _, _, _, _, _, _, RD.i b1, ?_⟩
        refine CALL.i (model_append g2 hx (by omega) (by omega) (by omega) (by have := hb.next; omega) (by have := hb.next; omega) hb.fresh o (by have := ho.text; omega) A n c) (by kernel_rfl) ?_
        intro r w4 hd
        exact pass_ans h12.no hd (by omega) a2 rfl o4
      · have e5 : ¬ o.kind = 5 := by simpa using h5
        have e6 : ¬ o.kind = 6 := by simpa using h6
        have e7 : o.kind = 7 := by simpa using h7
        rw [if_neg e5, if_neg e6, if_pos e7]
        refine ⟨_, _, _, _, _, _, _, _, _, _, RD.i b1, ?_⟩
        refine CALL.i (model_fetch g2 hx (by omega) o A n c) (by kernel_rfl) ?_
        intro r w4 hd
        exact pass_ans h12.no hd (by omega) a2 rfl o4
      · have e5 : ¬ o.kind = 5 := by simpa using h5
        have e6 : ¬ o.kind = 6 := by simpa using h6
        have e7 : ¬ o.kind = 7 := by simpa using h7
        rw [if_neg e5, if_neg e6, if_neg e7]
        refine ⟨fun b w4 => w4 = w3 ∧ b = decide (o.kind = 8 ∨ o.kind = 9), ?_, ?_⟩
        · refine split_i (fun h8 => ⟨rfl, ?_⟩) (fun h8 => ⟨rfl, ?_⟩)
          · have : o.kind = 8 := by simpa using h8
            simp [this]
          · have h8' : ¬ o.kind = 8 := by simpa using h8
            by_cases h9 : o.kind = 9
            · simp [h9]
            · rw [decide_eq_false (by omega)]
              simpa using h9
        · rintro _ b w4 ⟨rfl, rfl⟩
          refine split_i (fun h8 => ?_) (fun h8 => split_i (fun h10 => ?_) (fun h10 => ?_))
          · have e8 : o.kind = 8 ∨ o.kind = 9 := of_decide_eq_true h8
            rw [if_pos e8]
            refine ⟨_, _, _, _, _, _, _, _, _, _, RD.i b1, ?_⟩
            refine CALL.i (model_copy g2 hb.names hx hbl hbn o A n c) (by kernel_rfl) ?_
            intro r w5 hd
            exact pass_ans h12.no hd (by omega) a2 rfl o4
          · have e8 : ¬ (o.kind = 8 ∨ o.kind = 9) := of_decide_eq_false h8
            have e10 : o.kind = 10 := by simpa using h10
            rw [if_neg e8, if_pos e10]
            refine ⟨_, cell_at b1 rfl, _, cell_at b1 rfl, _, cell_at b1 rfl, ?_⟩
            refine CALL.i (box_set (g2.box x hx) (hb.bflags x hx) (by omega) o.uid o.flags o.off) (by kernel_rfl) ?_
            rintro r w5 ⟨rfl, q5, g5⟩
            refine ⟨_, _, _, _, rfl, ?_⟩
            obtain ⟨ow', e1, e2, h5m⟩ := g2.setBox hx (setB_validity x o.uid o.flags o.off) No q5 (g5.mono fun j hj => .inl hj)
            refine NEW.i fun k7 w6 hk7 hs6 q6 a6 => ?_
            refine ST.i a6 (Nat.le_refl _) rfl fun w7 hs7 q7 a7 => ?_
            have q57 : Keep No w5 w7 := q6.tmp q7 (Nat.le_of_eq hk7)
            refine ⟨_, cell_at a7 rfl, ?_⟩
            have hne : ow k4 ≠ .box x.validity := by rw [o4]; intro h; cases h
            have d4 := (q5.at_ a2 hne).no q57
            have hkF : Keep (Fp ow) w w7 := (h12.no.trans (q5.mono fun j _ hj => Fp_box hj)).and_no q57
            have hfin : (if (setB x o.uid o.flags o.off).2.2 ≠ 0 then M else setBox M (setB x o.uid o.flags o.off).1) = setBox M (setB x o.uid o.flags o.off).1 := by
              split
              · rename_i hne0
                have : (setB x o.uid o.flags o.off).1 = x := by
                  unfold setB at hne0 ⊢
                  split
                  · rfl
                  · split
                    · rfl
                    · rename_i e hfe hg
                      rw [hfe] at hne0
                      simp only [if_neg hg] at hne0
                      exact absurd rfl hne0
                rw [this, setBox_self g2.vnodup hx]
              · rfl
            rw [hfin]
            refine flat_ans (t := []) hkF (h5m.no q57) (fun j hj hj' => (e2 j (fun h => h)).trans hj') (by omega) d4 rfl ((e2 k4 (fun h => h)).trans o4)
          · have e8 : ¬ (o.kind = 8 ∨ o.kind = 9) := of_decide_eq_false h8
            have e10 : ¬ o.kind = 10 := by simpa using h10
            exact ⟨rfl, by omega⟩
    · rintro _ w4 ⟨rfl, e11⟩
      rw [if_neg (by omega), if_neg (by omega), if_neg (by omega), if_neg (by omega), if_neg (by omega)]
      refine ⟨_, cell_at b1 rfl, ?_⟩
      refine CALL.i (model_expunge g2 hx (hb.bflags x hx) hbl o.box) (by kernel_rfl) ?_
      intro r w5 hd
      exact pass_ans h12.no hd (by omega) a2 rfl o4

theorem model_do (h : IsModel w k ow M kn bb mb pt) (hg : Glob w) (ho1 : ow 1 = .out) (hb : Bd M) (o : Pl.Op) {A : Option Addr} {n c : Nat} (ho : OpAt w o A n c) :
    Calls PP 13 #[.pointer (some ⟨k, 0, none⟩), .agg ⟨ocells o A n c⟩] w (Ret fun r w' => DoneAct w k ow kn bb mb (act M o).1 (act M o).2 r w') := by
  refine c13 ?_
  unfold S13
  refine NEW.i fun k3 w1 hk3 hs1 q1 a1 => NEW.i fun k4 w2 hk4 hs2 q2 a2 => ?_
  have h12 := q1.trans q2
  have b1 := a1.no q2
  have g2 := h.no h12
  have o4 : ow k4 = .out := h.new_out (by omega)
  have ho2 := ho.no h12
  refine ⟨_, cell_at b1 rfl, ?_⟩
  refine ⟨fun b w3 => w3 = w2 ∧ b = decide (o.kind = 1 ∨ o.kind = 2 ∨ o.kind = 3), ?_, ?_⟩
  · refine split_i (fun h1 => ⟨rfl, ?_⟩) (fun h1 => split_i (fun h2 => ⟨rfl, ?_⟩) (fun h2 => ⟨rfl, ?_⟩))
    · have : o.kind = 1 := by simpa using h1
      simp [this]
    · have : o.kind = 2 := by simpa using h2
      simp [this]
    · have h1' : ¬ o.kind = 1 := by simpa using h1
      have h2' : ¬ o.kind = 2 := by simpa using h2
      by_cases h3 : o.kind = 3
      · simp [h3]
      · rw [decide_eq_false (by omega)]
        simpa using h3
  · rintro _ b w3 ⟨rfl, rfl⟩
    refine split_i (fun h1 => ?_) (fun h1 => ?_)
    · have e1 := of_decide_eq_true h1
      have ha : act M o = named M o := if_pos e1
      rw [ha]
      refine ⟨_, _, _, _, _, _, _, _, _, _, RD.i b1, ?_⟩
      refine CALL.i (model_named g2 (hg.no h12) ho1 o ⟨by have := ho.box; omega, by have := ho.to; omega⟩ ⟨hb.nnext.1, by have := hb.nnext; omega⟩ (fun x hx => (hb.bval x hx).2) (fun z hz => by have := hb.blen z hz; omega) e1 A n c) (by kernel_rfl) ?_
      intro r w5 hd
      exact pass_ans h12.no hd (by omega) a2 rfl o4
    · have e1 := of_decide_eq_false h1
      refine split_i (fun h4 => ?_) (fun h4 => split_i (fun h5 => ?_) (fun h5 => split_i (fun h6 => ?_) (fun h6 => ?_)))
      · have e4 : o.kind = 4 := by simpa using h4
        have ha : act M o = (M, ⟨0, 0, [], M.n.l.map (·.1), []⟩) := by unfold act; rw [if_neg e1, if_pos e4]
        rw [ha]
        refine ⟨_, cell_at g2.top rfl, ?_⟩
        refine CALL.i (names_list g2.names hb.rising (by have := hb.nlen; omega)) (by kernel_rfl) ?_
        rintro r w4 ⟨A', c', rfl, q4, o5, f5⟩
        refine ⟨_, _, _, rfl, ?_⟩
        have lt4 := a2.lt
        refine ans_ret (R := DoneAct w k ow kn bb mb M ⟨0, 0, [], M.n.l.map (·.1), []⟩) (a2.no q4) rfl fun w5 q5 hs5 => ?_
        refine DoneAct.same h ((h12.trans q4).tmp q5 (by omega)) ⟨A', c', none, 0, ?_, ?_, Own.nil _ _ _ _, ?_⟩
        · show _ = Value.agg ⟨acells 0 0 (bs []) A' (M.n.l.map (·.1)).length c' none 0 0⟩
          rw [List.length_map]
          rfl
        · show Own Lst 9 _ No A' (M.n.l.map (·.1)).length c' (M.n.l.map (·.1))
          rw [List.length_map]
          exact o5.kept q5 (fun j hj _ he => hj.elim (fun h => h) (fun h => by have := f5 j h; omega))
        · rintro j (hj | hj)
          · have := f5 j hj; omega
          · exact False.elim hj
      · have e4 : ¬ o.kind = 4 := by simpa using h4
        have e12 : o.kind = 12 := by simpa using h5
        have ha : act M o = (M, search M o) := by unfold act; rw [if_neg e1, if_neg e4, if_pos e12]
        rw [ha]
        refine ⟨_, _, _, _, _, _, _, _, _, _, RD.i b1, ?_⟩
        refine CALL.i (model_search g2 hb o ho2) (by kernel_rfl) ?_
        intro r w5 hd
        exact pass_ans h12.no hd (by omega) a2 rfl o4
      · have e4 : ¬ o.kind = 4 := by simpa using h4
        have e12 : ¬ o.kind = 12 := by simpa using h5
        have e13 : o.kind = 13 := by simpa using h6
        have ha : act M o = (M, ⟨0, 0, [], [], []⟩) := by unfold act; rw [if_neg e1, if_neg e4, if_neg e12, if_pos e13]
        rw [ha]
        exact flat_ans (t := []) h12.no g2 (fun _ _ h => h) (by omega) a2 rfl o4
      · have e4 : ¬ o.kind = 4 := by simpa using h4
        have e12 : ¬ o.kind = 12 := by simpa using h5
        have e13 : ¬ o.kind = 13 := by simpa using h6
        have hwithin : 5 ≤ o.kind ∧ o.kind ≤ 11 → act M o = within M o := fun hk => by unfold act; rw [if_neg e1, if_neg e4, if_neg e12, if_neg e13, if_pos hk]
        have go : ∀ j : Int, 5 ≤ j ∧ j ≤ 11 → (o.kind == j) = true → ∃ (x12_0 : Int) (s12_1 : ByteArray) (s12_2 : ByteArray) (s12_3 : ByteArray) (x12_4 : Int) (x12_5 : Int) (x12_6 : Int) (A12_7 : Option Addr) (n12_7 : Nat) (c12_7 : Nat), RD w3 (⟨k3, 0, none⟩ : Addr) 0 [(.int .i64 x12_0), (.string s12_1), (.string s12_2), (.string s12_3), (.int .i64 x12_4), (.int .i64 x12_5), (.int .i64 x12_6), (.slice A12_7 n12_7 c12_7)] ∧
            CALL PP 34 [(.pointer (some ⟨k, 0, none⟩)), (.agg #[(.int .i64 x12_0), (.string s12_1), (.string s12_2), (.string s12_3), (.int .i64 x12_4), (.int .i64 x12_5), (.int .i64 x12_6), (.slice A12_7 n12_7 c12_7)])] w3 fun r13 w4 =>
            ∃ (x13_0 : Int) (x13_1 : Int) (s13_2 : ByteArray) (A13_3 : Option Addr) (n13_3 : Nat) (c13_3 : Nat) (A13_4 : Option Addr) (n13_4 : Nat) (c13_4 : Nat), r13 = (.agg #[(.int .i64 x13_0), (.int .i64 x13_1), (.string s13_2), (.slice A13_3 n13_3 c13_3), (.slice A13_4 n13_4 c13_4)]) ∧
            ST w4 (⟨k4, 0, none⟩ : Addr) 0 [(.int .i64 x13_0), (.int .i64 x13_1), (.string s13_2), (.slice A13_3 n13_3 c13_3), (.slice A13_4 n13_4 c13_4)] fun w5 =>
            ∃ (x4r_0 : Int) (x4r_1 : Int) (s4r_2 : ByteArray) (A4r_3 : Option Addr) (n4r_3 : Nat) (c4r_3 : Nat) (A4r_4 : Option Addr) (n4r_4 : Nat) (c4r_4 : Nat), RD w5 (⟨k4, 0, none⟩ : Addr) 0 [(.int .i64 x4r_0), (.int .i64 x4r_1), (.string s4r_2), (.slice A4r_3 n4r_3 c4r_3), (.slice A4r_4 n4r_4 c4r_4)] ∧
            DoneAct w k ow kn bb mb (act M o).1 (act M o).2 (.agg #[(.int .i64 x4r_0), (.int .i64 x4r_1), (.string s4r_2), (.slice A4r_3 n4r_3 c4r_3), (.slice A4r_4 n4r_4 c4r_4)]) w5 := by
          intro j hj hj'
          have ej : o.kind = j := by simpa using hj'
          rw [hwithin (by omega)]
          refine ⟨_, _, _, _, _, _, _, _, _, _, RD.i b1, ?_⟩
          refine CALL.i (model_within g2 hb o ho2 (by omega)) (by kernel_rfl) ?_
          intro r w5 hd
          exact pass_ans h12.no hd (by omega) a2 rfl o4
        refine split_i (fun h => go 5 (by omega) h) (fun h5 => split_i (fun h => go 6 (by omega) h) (fun h6 => split_i (fun h => go 7 (by omega) h) (fun h7 => split_i (fun h => go 8 (by omega) h) (fun h8 => split_i (fun h => go 9 (by omega) h) (fun h9 => split_i (fun h => go 10 (by omega) h) (fun h10 => split_i (fun h => go 11 (by omega) h) (fun h11 => ?_)))))))
        have f5 : ¬ o.kind = 5 := by simpa using h5
        have f6 : ¬ o.kind = 6 := by simpa using h6
        have f7 : ¬ o.kind = 7 := by simpa using h7
        have f8 : ¬ o.kind = 8 := by simpa using h8
        have f9 : ¬ o.kind = 9 := by simpa using h9
        have f10 : ¬ o.kind = 10 := by simpa using h10
        have f11 : ¬ o.kind = 11 := by simpa using h11
        have ha : act M o = (M, no 4) := by unfold act; rw [if_neg e1, if_neg e4, if_neg e12, if_neg e13, if_neg (by omega)]
        rw [ha]
        exact call_no 4 g2 h12.no (by omega) a2 rfl o4
end
end Go.SW
