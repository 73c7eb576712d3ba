/- ModelFinds. -/
import Derived.Test.YtfhiffnfngpkeaaGreatDoorLaw5
set_option linter.unusedVariables false
namespace Go.SW
open Go Go.Proofs Pl

theorem run_struct_neq {P : Program} {t : TypeId} {fs : List Field} (T : StructTy P t fs) {xs ys : List Value} {r : Bool} (h : eqF P fs xs ys = some r) (w : World) (xo yo : Operand) :
    (do eqGuard .neq t xo yo (.agg ⟨xs⟩) (.agg ⟨ys⟩); binOp .neq t (.agg ⟨xs⟩) (.agg ⟨ys⟩) : Sem Value).run P w = .ok (.bool !r) w := by
  simp only [Sem.run_bind, run_eqGuard_agg w .neq t xo yo _ _ T.guard, Result.andThen_ok, run_neq_struct]
  rw [run_equalIn_struct w 9999 t _ _ T.und T.stood, T.fields, eqF_run 9998 xs ys w fs r h]
  rfl
theorem and31 (x : Int) : 0 ≤ IntKind.wrap .i64 (((BitVec.ofInt 64 x) &&& (BitVec.ofInt 64 (31 : Int))).toNat : Int) ∧ IntKind.wrap .i64 (((BitVec.ofInt 64 x) &&& (BitVec.ofInt 64 (31 : Int))).toNat : Int) ≤ 31 := by
  have h : ((BitVec.ofInt 64 x) &&& (BitVec.ofInt 64 (31 : Int))).toNat ≤ 31 := by
    rw [BitVec.toNat_and]
    exact Nat.and_le_right
  rw [wrap64 (by omega) (by omega)]
  omega

/-! ## plain -/
def opSe (wd : Str) (u : Int) : Pl.Op := ⟨12, [], [], [], 0, u, 0, [wd]⟩
theorem act_search (M : Md) (wd : Str) (u : Int) : act M (opSe wd u) = (M, search M (opSe wd u)) := rfl
theorem clean_one (wd : Str) : cleanW [wd] = if checkW wd then some [wd] else none := by
  unfold cleanW
  cases h : checkW wd <;> simp [h, sortW, putW]
def HH (M : Md) (wd : Str) (u : Int) (l : List (Str × Int)) : List Hit := l.flatMap fun p => hitsOf M (opSe wd u) [wd] p.1
theorem HH_append (M : Md) (wd : Str) (u : Int) (l l' : List (Str × Int)) : HH M wd u (l ++ l') = HH M wd u l ++ HH M wd u l' := by simp [HH]
theorem search_one {M : Md} {wd : Str} {u : Int} (hu : 0 ≤ u ∧ u ≤ 31) : search M (opSe wd u) = if checkW wd then ⟨0, (HH M wd u M.n.l).length, [], [], HH M wd u M.n.l⟩ else no 4 := by
  unfold search
  rw [show (opSe wd u).words = [wd] from rfl, clean_one]
  cases h : checkW wd with
  | false => rfl
  | true =>
    have hf : flagOk (opSe wd u).flags = true := by
      unfold flagOk
      rw [show (opSe wd u).flags = u from rfl, decide_eq_true hu.1, decide_eq_true hu.2]; rfl
    simp only [if_true, hf, Bool.not_true, Bool.false_eq_true, if_false]
    have hb : (opSe wd u).box = [] := rfl
    simp only [hb, List.isEmpty_nil, Bool.not_true, Bool.false_and, Bool.false_eq_true, if_false, Bool.true_or]
    rw [List.filter_eq_self.2 (fun _ _ => rfl)]
    rfl
def keepE (M : Md) (wd : Str) (u : Int) (e : Ety) : Bool := (e.flags.toNat &&& u.toNat == u.toNat) && hasW ((mailOf M e.mail).getD []) [wd]
theorem hitsOf_box {M : Md} {wd : Str} {u : Int} {s : Str} {x : Bx} (h : find M s = some x) : hitsOf M (opSe wd u) [wd] s = (x.l.filter (keepE M wd u)).map fun e => ⟨s, e.uid, e.flags⟩ := by
  unfold hitsOf
  rw [h]
  rfl

theorem modelFinds_walk {w : World} (hg : Glob w) (h1 : 1 < w.heap.size) {A0 : Option Addr} {n0 c0 : Nat} {xs : List Pl.Op} {F : Nat → Prop} (hs : Sl Lop w F A0 n0 c0 xs) (hF : ∀ j, F j → j < w.heap.size) (s1 : Str) (x2 : Int) :
    Calls PP 6 #[.slice A0 n0 c0, .string (bs s1), .int .i64 x2] w (Ret fun r w' => r = .bool true ∧ Keep No w w') := by
  refine c6 ?_
  unfold S6
  refine CALL.i (law_awake hg h1) (by kernel_rfl) ?_
  rintro r w1 ⟨rfl, q1⟩
  refine ⟨_, rfl, split_i (fun hc => by cases hc) (fun _ => ?_)⟩
  refine CALL.i (stx_new (Y := fun j => j < w.heap.size) (hg.no q1) (by have := q1.size; omega) (fun j hj => by have := q1.size; omega) h1) (by kernel_rfl) ?_
  rintro r w2 ⟨k, rfl, q2, s2⟩
  refine ⟨_, rfl, split_i (fun hc => by cases hc) (fun _ => ?_)⟩
  have p2 := q1.trans q2
  refine ⟨fun w3 => ∃ X M, Stx X w3 k M ∧ Ok 20 M ∧ (∀ j, j < w.heap.size → X j) ∧ Keep No w w3, ?_, ?_⟩
  · refine ⟨fun x w3 => ∃ (i : Nat) (X : Nat → Prop) (M : Md), x = i ∧ i ≤ 20 ∧ Stx X w3 k M ∧ Ok i M ∧ (∀ j, j < w.heap.size → X j) ∧ Keep No w w3, fun x _ => (((20 : Nat) : Int) - x).toNat, ⟨0, _, _, rfl, by omega, s2, ok_new (Int.le_refl _), fun j hj => hj, p2⟩, ?_⟩
    rintro _ x w3 ⟨i, X, M, rfl, hi, s3, ok3, hX, p3⟩
    refine ⟨fun w4 => w4 = w3 ∧ i < n0 ∧ i < 20, split_dec (fun h1 => split_dec (fun h2 => ⟨rfl, by omega, by omega⟩) (fun h2 => ⟨X, M, s3, ok3.mono (by omega), hX, p3⟩)) (fun h1 => ⟨X, M, s3, ok3.mono (by omega), hX, p3⟩), ?_⟩
    rintro _ w4 ⟨rfl, hin, hi15⟩
    refine law_step s3 ok3 (by omega) (by omega) (hs.no p3) hin fun w10 X' o ho hXX s10 ok10 k10 => ?_
    refine ⟨⟨i + 1, X', _, wrapS (by omega), hi15, s10, ok10, fun j hj => hXX j (hX j hj), p3.old k10 hX⟩, mu_go (wrapS (by omega)) hi15⟩
  · rintro _ w3 ⟨X, M, s3, ok3, hX, p3⟩
    have hu := and31 x2
    generalize (IntKind.wrap .i64 (((BitVec.ofInt 64 x2) &&& (BitVec.ofInt 64 (31 : Int))).toNat : Int)) = u at hu ⊢
    have hbd : Bd M := ok3.toOk'.bd (by omega)
    have hnlb := hbd.nlen
    refine CALL.i (law_cut s1 20 w3) (by kernel_rfl) ?_
    rintro r w4 ⟨rfl, rfl⟩
    generalize hwd : s1.take 20 = wd
    have hwl : wd.length ≤ 20 := by rw [← hwd]; simp; omega
    refine ⟨_, rfl, ?_⟩
    refine NEW.i fun k56 w5 hk56 hs5 q5 a5 => ?_
    have s5 := s3.grow q5
    have hS : Sl Lst w5 (fun _ => True) (some ⟨k56, 0, none⟩) 1 1 (opSe wd u).words := by
      refine ⟨rfl, Nat.le_refl _, .inr ⟨k56, 0, _, _, _, rfl, trivial, a5, by show 0 + 1 * 1 ≤ 1; omega, ?_⟩⟩
      intro j x hj
      match j, hj with
      | 0, hj => cases hj; exact ⟨_, rfl, rfl⟩
    have hoS : OpAt w5 (opSe wd u) (some ⟨k56, 0, none⟩) 1 1 := ⟨⟨_, hS⟩, (fun h => by cases h), by simp [opSe], by simp [opSe], by simp [opSe], fun x hx => by
      rw [List.mem_singleton.1 hx]; omega⟩
    refine do_store s5 ok3 (by omega) (opSe wd u) hoS fun k11 w8 X8 x8 s8 q8 a8 l8 => ?_
    rw [act_search] at s8 a8
    replace s8 : Stx X8 w8 k M := s8
    replace a8 : AnsAt X8 w8 k11 (search M (opSe wd u)) := a8
    have p8 := (p3.and_no q5).old q8 (fun j hj => .inl (hX j hj))
    rw [search_one hu] at a8
    refine CALL.i (words_check wd (by omega) w8) (by kernel_rfl) ?_
    rintro r w9 ⟨rfl, rfl⟩
    refine ⟨_, rfl, ?_⟩
    cases hck : checkW wd with
    | false =>
      rw [hck] at a8
      refine split_i (fun _ => ?_) (fun hc => by cases hc)
      exact ⟨_, a8.cell.1, rfl, p8⟩
    | true =>
      rw [hck] at a8
      simp only [if_true] at a8
      refine split_i (fun hc => by cases hc) (fun _ => ?_)
      refine CALL.i (stx_names s8) (by kernel_rfl) ?_
      rintro r w10 ⟨kn', rfl, q10, nm10⟩
      refine ⟨_, rfl, ?_⟩
      have a10 := a8.no q10 (fun j hj => hj)
      have hs10 := q10.size
      refine ⟨fun w11 => w11 = w10, ?_, ?_⟩
      · refine split_i (fun hc => by cases hc) (fun _ => ?_)
        refine ⟨_, a10.cell.1, split_i (fun hc => by cases hc) (fun _ => ?_)⟩
        obtain ⟨A79, c79, e1, _⟩ := a10.hits
        refine ⟨_, a10.cell.2.1, _, _, _, e1, split_i (fun hc => ?_) (fun _ => rfl)⟩
        simp at hc
      · rintro _ w11 rfl
        refine CALL.i (names_list nm10 hbd.rising (by have := hbd.nlen; omega)) (by kernel_rfl) ?_
        rintro r w12 ⟨A84, c84, rfl, q12, o12, f12⟩
        refine ⟨_, _, _, rfl, ?_⟩
        have z12 := q10.trans q12
        have hHb : (HH M wd u M.n.l).length < 1000000 := by
          have h1 : ∀ l : List (Str × Int), (HH M wd u l).length ≤ l.length * 100 := by
            intro l
            induction l with
            | nil => simp [HH]
            | cons p l ih =>
              rw [show p :: l = [p] ++ l from rfl, HH_append, List.length_append]
              have : (HH M wd u [p]).length ≤ 100 := by
                unfold HH
                simp only [List.flatMap_cons, List.flatMap_nil, List.append_nil]
                cases hf : find M p.1 with
                | none =>
                  unfold hitsOf
                  rw [hf]; simp
                | some b =>
                  rw [hitsOf_box hf, List.length_map]
                  have h2 := hbd.blen b (find_some hbd.names hf)
                  have h3 := List.length_filter_le (keepE M wd u) b.l
                  omega
              simp only [List.length_append, List.length_singleton]
              omega
          have := h1 M.n.l
          have := hbd.nlen
          omega
        refine ⟨fun x y w13 => ∃ i : Nat, y = i ∧ i ≤ M.n.l.length ∧ x = (((HH M wd u (M.n.l.take i)).length : Nat) : Int) ∧ Keep No w9 w13 ∧ Keep No w12 w13,
          fun _ y _ => (((M.n.l.length : Nat) : Int) - y).toNat, ⟨0, rfl, Nat.zero_le _, by simp [HH], z12, Keep.refl _ _⟩, ?_⟩
        rintro _ x y w13 ⟨i, rfl, hi, rfl, z13, y13⟩
        have a13 := a8.no z13 (fun j hj => hj)
        have o13 := o12.no y13
        have nm13 := (nm10.no q12).no y13
        have s13 := s8.no z13
        refine split_dec (fun hlt => ?_) (fun hge => ?_)
        · have hlt' : i < M.n.l.length := by omega
          refine ⟨⟨by omega, hlt⟩, ?_⟩
          obtain ⟨a, s, hA, hsx, hrd⟩ := o13.sl.stx hlt'
          refine SOMEA.i hA ⟨_, by rw [Int.toNat_natCast]; exact hrd, ?_⟩
          have hp : M.n.l[i]? = some M.n.l[i] := List.getElem?_eq_getElem hlt'
          have hps : M.n.l[i].1 = s := by
            have : (mkeys M.n.l)[i]? = some M.n.l[i].1 := by simp [mkeys, hp]
            rw [this] at hsx
            exact Option.some.inj hsx
          have hpm : M.n.l[i] ∈ M.n.l := List.getElem_mem hlt'
          refine CALL.i (names_of nm13 s) (by kernel_rfl) ?_
          rintro r w14 ⟨rfl, rfl⟩
          have hof : ofN M.n s = some M.n.l[i].2 := by rw [← hps]; exact ofN_of_mem hbd.rising hpm
          rw [hof]
          refine ⟨_, _, rfl, ?_⟩
          refine CALL.i (stx_box s13 hbd M.n.l[i].2) (by kernel_rfl) ?_
          rintro r w15 ⟨q15, hr⟩
          obtain ⟨xb, hxb, hxv⟩ := ok3.nb _ hpm
          have hbo : boxOf M M.n.l[i].2 = some xb := by rw [← hxv]; exact boxOf_mem ok3.vnodup hxb
          have hfind : find M s = some xb := by
            unfold find
            rw [hof]
            exact hbo
          rw [hbo] at hr
          obtain ⟨kb, rfl, hbx⟩ := hr
          refine ⟨_, _, rfl, ?_⟩
          refine ⟨fun w17 => w17 = w15, split_i (fun hc => by cases hc) (fun _ => split_i (fun hc => by cases hc) (fun _ => rfl)), ?_⟩
          rintro _ w16 rfl
          have hxl := hbd.blen xb hxb
          refine CALL.i (box_list (G := No) hbx (by omega) (fun j hj => False.elim hj)) (by kernel_rfl) ?_
          rintro r w17 ⟨A109, c109, rfl, q17, o17, f17⟩
          refine ⟨_, _, _, rfl, ?_⟩
          have z1317 := q15.trans q17
          have hHone : HH M wd u [M.n.l[i]] = (xb.l.filter (keepE M wd u)).map fun e => (⟨s, e.uid, e.flags⟩ : Hit) := by
            unfold HH
            simp only [List.flatMap_cons, List.flatMap_nil, List.append_nil]
            rw [hps, hitsOf_box hfind]
          have hHall : HH M wd u M.n.l = HH M wd u (M.n.l.take i) ++ ((xb.l.filter (keepE M wd u)).map (fun e => (⟨s, e.uid, e.flags⟩ : Hit)) ++ HH M wd u (M.n.l.drop (i + 1))) := by
            have h5 : HH M wd u M.n.l = HH M wd u (M.n.l.take i ++ M.n.l[i] :: M.n.l.drop (i + 1)) := by rw [← split_at hp]
            rw [h5, HH_append]
            congr 1
            rw [show M.n.l[i] :: M.n.l.drop (i + 1) = [M.n.l[i]] ++ M.n.l.drop (i + 1) from rfl, HH_append, hHone]
          refine ⟨fun x y w18 => ∃ j : Nat, y = j ∧ j ≤ xb.l.length ∧ x = (((HH M wd u (M.n.l.take i)).length + ((xb.l.take j).filter (keepE M wd u)).length : Nat) : Int) ∧ Keep No w14 w18 ∧ Keep No w17 w18,
            fun _ y _ => (((xb.l.length : Nat) : Int) - y).toNat, ⟨0, rfl, Nat.zero_le _, by simp, z1317, Keep.refl _ _⟩, ?_⟩
          rintro _ x y w18 ⟨j, rfl, hj, rfl, z18, y18⟩
          have o18 := o17.no y18
          have a18 := a13.no z18 (fun j hj => hj)
          have s18 := s13.no z18
          refine split_dec (fun hlt2 => ?_) (fun hge2 => ?_)
          · have hlt2' : j < xb.l.length := by omega
            refine ⟨⟨by omega, hlt2⟩, ?_⟩
            obtain ⟨a2, e, hA2, he, hrd2⟩ := o18.sl.ent hlt2'
            have hfe := hbd.bflags xb hxb e (List.mem_of_getElem? he)
            refine SOMEA.i hA2 ⟨_, _, _, by rw [Int.toNat_natCast]; exact hrd2, ?_⟩
            refine NEW.i fun k21 w19 hk21 hs19 q19 a19 => ?_
            refine ST.i a19 (Nat.le_refl _) rfl fun w20 hs20 q20 a20 => ?_
            have q1820 : Keep No w18 w20 := q19.tmp q20 (Nat.le_of_eq hk21)
            refine ⟨_, cell_at a20 rfl, ?_⟩
            refine CALL.i (stx_mail (s18.no q1820) e.mail) (by kernel_rfl) ?_
            rintro r w21 ⟨rfl, rfl⟩
            refine ⟨_, _, rfl, ?_⟩
            have hfilt : ((xb.l.take (j + 1)).filter (keepE M wd u)).length = ((xb.l.take j).filter (keepE M wd u)).length + (if keepE M wd u e then 1 else 0) := by
              rw [take_succ_some he, List.filter_append, List.length_append]
              cases hk : keepE M wd u e <;> simp [hk]
            refine ⟨fun w22 => Keep No w21 w22 ∧ keepE M wd u e = true, ?_, ?_⟩
            · refine NEW.i fun k124 w22 hk124 hs22 q22 a22 => ?_
              have hS2 : Sl Lst w22 (fun _ => True) (some ⟨k124, 0, none⟩) 1 1 [wd] := by
                refine ⟨rfl, Nat.le_refl _, .inr ⟨k124, 0, _, _, _, rfl, trivial, a22, by show 0 + 1 * 1 ≤ 1; omega, ?_⟩⟩
                intro j x hj
                match j, hj with
                | 0, hj => cases hj; exact ⟨_, rfl, rfl⟩
              refine CALL.i (words_has _ (mailOf_len hbd e.mail) hS2 (by omega)) (by kernel_rfl) ?_
              rintro r w23 ⟨rfl, q23⟩
              have q2123 := q22.trans q23
              refine ⟨_, rfl, split_i (fun hh => ?_) (fun hh => ?_)⟩
              · have hk : keepE M wd u e = false := by
                  unfold keepE
                  have : hasW ((mailOf M e.mail).getD []) [wd] = false := by simpa using hh
                  rw [this, Bool.and_false]
                refine ⟨⟨j + 1, wrapS (by omega), hlt2', ?_, (z18.trans q1820).trans q2123, (y18.trans q1820).trans q2123⟩, mu_go (wrapS (by omega)) hlt2'⟩
                rw [hfilt, hk]
                rfl
              · have hh' : hasW ((mailOf M e.mail).getD []) [wd] = true := by simpa using hh
                refine ⟨_, cell_at (a20.no q2123) rfl, ?_⟩
                have hand := and_flags hfe.1 hfe.2 hu.1 hu.2
                refine split_i (fun hfl => ?_) (fun hfl => ?_)
                · have hk : keepE M wd u e = false := by
                    unfold keepE
                    rw [← hand]
                    have : (IntKind.wrap .i64 (((BitVec.ofInt 64 e.flags) &&& (BitVec.ofInt 64 u)).toNat : Int) == u) = false := by simpa [bne] using hfl
                    rw [this, Bool.false_and]
                  refine ⟨⟨j + 1, wrapS (by omega), hlt2', ?_, (z18.trans q1820).trans q2123, (y18.trans q1820).trans q2123⟩, mu_go (wrapS (by omega)) hlt2'⟩
                  rw [hfilt, hk]
                  rfl
                · refine ⟨q2123, ?_⟩
                  unfold keepE
                  rw [← hand, hh']
                  have : (IntKind.wrap .i64 (((BitVec.ofInt 64 e.flags) &&& (BitVec.ofInt 64 u)).toNat : Int) == u) = true := by simpa [bne] using hfl
                  rw [this]; rfl
            · rintro _ w22 ⟨q22, hk⟩
              refine DRAW.i fun w23 hw23 q23 => ?_
              have q2123 := q22.trans q23
              have a23 := (a18.no q1820 (fun j hj => hj)).no q2123 (fun j hj => hj)
              obtain ⟨A137, c137, e1, oH, _⟩ := a23.hits
              -- the hit that stands here
              have hfall : xb.l.filter (keepE M wd u) = (xb.l.take j).filter (keepE M wd u) ++ e :: (xb.l.drop (j + 1)).filter (keepE M wd u) := by
                have h5 : xb.l.filter (keepE M wd u) = (xb.l.take j ++ e :: xb.l.drop (j + 1)).filter (keepE M wd u) := by rw [← split_at he]
                rw [h5, List.filter_append, List.filter_cons_of_pos hk]
              have hat : (HH M wd u M.n.l)[(HH M wd u (M.n.l.take i)).length + ((xb.l.take j).filter (keepE M wd u)).length]? = some ⟨s, e.uid, e.flags⟩ := by
                rw [hHall, hfall]
                simp [List.getElem?_append]
              have hatlt := (List.getElem?_eq_some_iff.1 hat).1
              refine ⟨_, _, _, e1, split_dec (fun hc => ?_) (fun _ => ?_)⟩
              · have : (HH M wd u M.n.l).length ≤ (HH M wd u (M.n.l.take i)).length + ((xb.l.take j).filter (keepE M wd u)).length := by
                  have hc' := hc
                  simp only at hc'
                  omega
                omega
              · refine ⟨_, _, _, e1, ⟨by omega, by
                  show (((HH M wd u (M.n.l.take i)).length + ((xb.l.take j).filter (keepE M wd u)).length : Nat) : Int) < (((HH M wd u M.n.l).length : Nat) : Int)
                  omega⟩, ?_⟩
                obtain ⟨a3, h3, hA3, hh3, hrd3⟩ := oH.sl.hit hatlt
                have hh3' : h3 = ⟨s, e.uid, e.flags⟩ := by
                  have hh4 := hh3
                  simp only at hh4
                  rw [hat] at hh4
                  exact (Option.some.inj hh4).symm
                subst hh3'
                refine SOMEA.i hA3 ⟨_, _, _, by rw [Int.toNat_natCast]; exact hrd3, ?_⟩
                refine ⟨_, cell_at (a20.no q2123) rfl, _, cell_at (a20.no q2123) rfl, ?_⟩
                obtain ⟨fs, T, heq⟩ := T39e
                refine ⟨_, run_struct_neq T (heq ⟨s, e.uid, e.flags⟩ ⟨s, e.uid, e.flags⟩) w23 _ _, ?_⟩
                rw [hit_beq]
                refine split_i (fun hc => by simp at hc) (fun _ => ?_)
                refine ⟨⟨j + 1, wrapS (by omega), hlt2', ?_, (z18.trans q1820).trans q2123, (y18.trans q1820).trans q2123⟩, mu_go (wrapS (by omega)) hlt2'⟩
                rw [hfilt, hk, wrapS (by omega)]
                rfl
          · have hje : j = xb.l.length := by omega
            subst hje
            refine ⟨⟨i + 1, wrapS (by omega), hlt', ?_, z13.trans z18, y13.trans z18⟩, mu_go (wrapS (by omega)) hlt'⟩
            rw [List.take_length, take_succ_some hp, HH_append, hHone, List.length_append, List.length_map]
        · have hie : i = M.n.l.length := by omega
          obtain ⟨A160, c160, e1, _⟩ := a13.hits
          refine ⟨_, _, _, e1, ?_, p8.trans z13⟩
          rw [hie, List.take_length]
          simp
end Go.SW
