/- ModelPlays. -/
import Derived.Test.YtfhiffnfngpkeaaGreatDoorIs
import Derived.Test.YtfhiffnfngpkeaaGreatDoorSLaw7
set_option linter.unusedVariables false
namespace Go.SW
open Go Go.Proofs Pl

/-- the document's store in a block of the law's own, beside the store -/
structure Pair (X : Nat → Prop) (w : World) (k4 : Nat) (G : Nat → Prop) (M : Md) (A : Option Addr) (n c : Nat) (B : Option Addr) (nb cb : Nat) (E : Option Addr) (ne ce : Nat) : Prop where
  at4 : At w k4 (.cells ⟨[.slice A n c, .int .i64 M.n.next, .slice B nb cb, .slice E ne ce, .int .i64 M.next]⟩ 69 (0, 0))
  x4 : X k4
  n4 : k4 ≠ 1
  md : RMd w G M A n c B nb cb E ne ce
  gx : ∀ j, G j → X j
  g4 : ¬ G k4
theorem Pair.kept {X X' S : Nat → Prop} {w w' : World} {k4 : Nat} {G : Nat → Prop} {M : Md} {A : Option Addr} {n c : Nat} {B : Option Addr} {nb cb : Nat} {E : Option Addr} {ne ce : Nat} (h : Pair X w k4 G M A n c B nb cb E ne ce) (hk : Keep S w w') (hS : ∀ j, X j → ¬ S j) (hX : ∀ j, X j → X' j) : Pair X' w' k4 G M A n c B nb cb E ne ce :=
  ⟨hk.at_ h.at4 (hS _ h.x4), hX _ h.x4, h.n4, h.md.kept hk (fun j hj => hS j (h.gx j hj)), fun j hj => hX j (h.gx j hj), h.g4⟩

theorem ans_len {M : Md} (hb : Bd M) (o : Pl.Op) : (act M o).2.names.length < 1000000000 ∧ (act M o).2.hits.length < 1000000000 := by
  have z : ∀ e n : Int, ∀ t : Str, ((⟨e, n, t, [], []⟩ : Ans).names.length < 1000000000 ∧ (⟨e, n, t, [], []⟩ : Ans).hits.length < 1000000000) := fun _ _ _ => ⟨by simp, by simp⟩
  have zn : ∀ e : Int, (no e).names.length < 1000000000 ∧ (no e).hits.length < 1000000000 := fun e => z _ _ _
  have hn := hb.nlen
  unfold act
  split
  · unfold named
    split
    · by_cases h : (createN M.n o.box).2.2 = 0 <;> simp [h, no]
    · split
      · by_cases h : (deleteN M.n o.box).2.2 = 0 <;> simp [h, no]
      · by_cases h : (renameN M.n o.box o.to).2.2 = 0 <;> simp [h, no]
  split
  · simp; omega
  split
  · unfold search
    cases cleanW o.words with
    | none => exact zn _
    | some l =>
      simp only
      split
      · exact zn _
      · split
        · exact zn _
        · refine ⟨by simp, ?_⟩
          have := hitN_len hb o l M.n.l
          unfold hitN at this
          simp only
          omega
  split
  · exact z _ _ _
  split
  · unfold within
    cases hf : find M o.box with
    | none => exact zn _
    | some x =>
      have hx := hb.blen x (find_some hb.names hf)
      simp only
      split
      · exact z _ _ _
      split
      · unfold append
        split
        · exact zn _
        · by_cases h : (addB x M.next o.flags).2.2 = 0 <;> simp [h, no]
      split
      · unfold fetch
        cases findB x o.uid with
        | none => exact zn _
        | some e => exact z _ _ _
      split
      · unfold copy
        cases find M o.to with
        | none => exact zn _
        | some y =>
          simp only
          cases findB x o.uid with
          | none => exact zn _
          | some e =>
            simp only
            split
            · exact zn _
            · exact z _ _ _
      split
      · exact z _ _ _
      · have hl : (x.l.filter del8).length ≤ x.l.length := List.length_filter_le _ _
        unfold expunge expungeB
        simp only [List.length_map, List.length_nil]
        omega
  · exact zn _

theorem modelPlays_walk {w : World} (hg : Glob w) (h1 : 1 < w.heap.size) {A0 : Option Addr} {n0 c0 : Nat} {xs : List Pl.Op} {F : Nat → Prop} (hs : Sl Lop w F A0 n0 c0 xs) (hF : ∀ j, F j → j < w.heap.size) :
    Calls PP 7 #[.slice A0 n0 c0] w (Ret fun r w' => r = .bool true ∧ Keep No w w') := by
  refine c7 ?_
  unfold S7
  refine CALL.i (law_awake hg h1) (by kernel_rfl) ?_
  rintro r w1 ⟨rfl, q1⟩
  refine ⟨_, rfl, split_i (fun hc => by cases hc) (fun _ => ?_)⟩
  refine CALL.i (stx_new (Y := fun j => j < w.heap.size) (hg.no q1) (by have := q1.size; omega) (fun j hj => by have := q1.size; omega) h1) (by kernel_rfl) ?_
  rintro r w2 ⟨k, rfl, q2, s2⟩
  refine ⟨_, rfl, CALL.i (ref_new19 w2) (by kernel_rfl) ?_⟩
  rintro r w3 ⟨rfl, q3⟩
  refine ⟨_, _, _, _, _, _, _, _, _, _, _, rfl, NEW.i fun k4 w4 hk4 hs4 q4 a4 => ST.i a4 (by simp) rfl fun w5 hs5 q5 a5 => split_i (fun hc => by cases hc) (fun _ => ?_)⟩
  have p2 := q1.trans q2
  have hp2 := p2.size
  have hq3 := q3.size
  have p25 : Keep No w2 w5 := (q3.trans q4).tmp q5 (by omega)
  refine ⟨fun x w6 => ∃ (i : Nat) (X : Nat → Prop) (G : Nat → Prop) (M : Md) (A : Option Addr) (n c : Nat) (B : Option Addr) (nb cb : Nat) (E : Option Addr) (ne ce : Nat), x = i ∧ i ≤ 25 ∧ Stx X w6 k M ∧ Ok i M ∧ Nk M.n ∧ (∀ j, j < w.heap.size → X j) ∧ Keep No w w6 ∧ Pair X w6 k4 G M A n c B nb cb E ne ce, fun x _ => (((25 : Nat) : Int) - x).toNat, ?_, ?_⟩
  · refine ⟨0, _, No, .new, none, 0, 0, none, 0, 0, none, 0, 0, rfl, by omega, s2.grow p25, ok_new (Int.le_refl _), ⟨Nat.zero_le _, fun p hp => by cases hp⟩, fun j hj => .inl hj, p2.trans p25, a5, .inr ⟨by omega, by omega⟩, by omega, rmd_new _ _ (fun j hj => False.elim hj), fun j hj => False.elim hj, fun hc => hc⟩
  rintro _ x w6 ⟨i, X, G, M, A, n, c, B, nb, cb, E, ne, ce, rfl, hi, s6, ok6, nk6, hX, p6, pr6⟩
  refine ⟨fun w7 => w7 = w6 ∧ i < n0 ∧ i < 25, split_dec (fun h1 => split_dec (fun h2 => ⟨rfl, by omega, by omega⟩) (fun h2 => ⟨rfl, p6⟩)) (fun h1 => ⟨rfl, p6⟩), ?_⟩
  rintro _ w7 ⟨rfl, hin, hi25⟩
  refine ⟨fun w8 => ∃ (X : Nat → Prop) (G : Nat → Prop) (M : Md) (A : Option Addr) (n c : Nat) (B : Option Addr) (nb cb : Nat) (E : Option Addr) (ne ce : Nat), Stx X w8 k M ∧ Ok (i + 1) M ∧ Nk M.n ∧ (∀ j, j < w.heap.size → X j) ∧ Keep No w w8 ∧ Pair X w8 k4 G M A n c B nb cb E ne ce, ⟨⟨by omega, by omega⟩, ?_⟩, ?_⟩
  · obtain ⟨a, cs, o, hA, ho, hrel, hrd⟩ := (hs.no p6).get hin
    obtain ⟨OA, on, oc, rfl, hws⟩ := hrel
    refine SOMEA.i hA ⟨_, _, _, _, _, _, _, _, _, _, by rw [Int.toNat_natCast]; exact hrd, ?_⟩
    refine CALL.i (law_own o hws) (by kernel_rfl) ?_
    rintro r w8 ⟨A1, c1, A2, c2, rfl, q8, o1, o2, f1, f2⟩
    refine ⟨_, _, _, _, _, _, _, _, _, _, _, _, _, _, _, _, _, _, _, _, rfl, ?_⟩
    refine NEW.i fun k6 w9 hk6 hs9 q9 a9 => NEW.i fun k7 w10 hk7 hs10 q10 a10 => ST.i (a9.no q10) (Nat.le_refl _) rfl fun w11 hs11 q11 a11 => ST.i (a10.oth q11 (by omega)) (Nat.le_refl _) rfl fun w12 hs12 q12 a12 => ?_
    have hq8 := q8.size
    have b6 : At w12 k6 (.cells ⟨ocells (cutOp o) A1 (few o.words).length c1⟩ 28 (0, 0)) := a11.oth q12 (by omega)
    have b7 : At w12 k7 (.cells ⟨ocells (cutOp o) A2 (few o.words).length c2⟩ 29 (0, 0)) := a12
    have z12 : Keep No w7 w12 := (((q8.trans q9).trans q10).tmp q11 (by omega)).tmp q12 (by omega)
    have q8_12 : Keep (fun j => j = k6 ∨ j = k7) w8 w12 := (((q9.no.trans q10.no).trans (q11.mono fun j _ hj => .inl hj)).trans (q12.mono fun j _ hj => .inr hj))
    have pr12 := pr6.kept (X' := fun j => X j ∨ (w7.heap.size ≤ j ∧ j < w12.heap.size)) z12 (fun j _ h => h) (fun j hj => .inl hj)
    have o12 : ∀ {A : Option Addr} {c : Nat}, Own Lst 9 w8 No A (few o.words).length c (few o.words) → Own Lst 9 w12 No A (few o.words).length c (few o.words) := fun hh => hh.kept q8_12 (fun j hj _ he => hj.elim (fun h => h) (fun h => by have := hh.lt j h; omega))
    have o1' := o12 o1
    have o2' := o12 o2
    refine ⟨_, _, _, _, _, _, _, _, _, _, _, RD.i pr12.at4, _, _, _, _, _, _, _, _, _, _, RD.i b7, CALL.i (ref_do pr12.md ok6 (by omega) nk6.1 (cutOp o) (cutOp_at o2'.sl o2'.none0)) (by kernel_rfl) ?_⟩
    rintro r w13 ⟨RA, rn, rc, RB, rnb, rcb, RE, rne, rce, N1, m1, d1, N2, m2, d2, rfl, q13, md13, l1, l2⟩
    refine ⟨_, _, _, _, _, _, _, _, _, _, _, _, _, _, _, _, _, _, _, _, rfl, NEW.i fun k8 w14 hk8 hs14 q14 a14 => NEW.i fun k9 w15 hk9 hs15 q15 a15 => ST.i (a14.no q15) (by simp) rfl fun w16 hs16 q16 a16 => ST.i (a15.oth q16 (by omega)) (by simp) rfl fun w17 hs17 q17 a17 => ?_⟩
    have hq13 := q13.size
    have c8 := a16.oth q17 (by omega)
    have z13_17 : Keep (fun j => j = k8 ∨ j = k9) w13 w17 := ((q14.no.trans q15.no).trans (q16.mono fun j _ hj => .inl hj)).trans (q17.mono fun j _ hj => .inr hj)
    have z17 : Keep No w7 w17 := (z12.trans q13).fresh z13_17 (fun j hj => by rcases hj with rfl | rfl <;> omega)
    have z12_17 : Keep No w12 w17 := q13.fresh z13_17 (fun j hj => by rcases hj with rfl | rfl <;> omega)
    have lt4 := pr6.at4.lt
    have b4 := pr12.at4.no z12_17
    refine ⟨_, _, _, _, _, _, _, _, _, _, _, RD.i c8, ST.i b4 (by simp) rfl fun w18 hs18 q18 a18 => DRAW.i fun w19 hw19 q19 => ?_⟩
    have hw19s : w19.heap.size = w18.heap.size := by rw [hw19]
    have s17 := s6.grow z17
    have s18 := s17.wr q18 (fun j hj => by rw [hj]; exact ⟨.inl pr6.x4, pr6.n4⟩)
    have hs12' := z12.size
    have q17_19 : Keep (fun j => j = k4) w17 w19 := q18.and_no q19
    have e6 := (b6.no z12_17).oth q17_19 (by omega)
    have e9 := a17.oth q17_19 (by omega)
    have e4 := a18.no q19
    have o1'' := (o1'.no z12_17).kept q17_19 (fun j hj _ he => hj.elim (fun h => h) (fun h => by have := f1 j h; omega))
    -- what is the document's new store's
    let G' : Nat → Prop := Gn G w12 w13
    have g8 : ∀ j, G' j → ¬ (j = k8 ∨ j = k9) := fun j hj he => by have := md13.lt j hj; rcases he with rfl | rfl <;> omega
    have g4 : ∀ j, G' j → ¬ j = k4 := fun j hj he => by
      subst he
      rcases hj with hj | hj
      · exact pr6.g4 hj
      · omega
    have md19 := (md13.kept z13_17 g8).kept q17_19 g4
    have l1' := (l1.kept z13_17 (fun j hj _ => g8 j hj)).kept q17_19 (fun j hj _ => g4 j hj)
    have l2' := (l2.kept z13_17 (fun j hj _ => g8 j hj)).kept q17_19 (fun j hj _ => g4 j hj)
    have gX : ∀ j, G' j → X j ∨ (w7.heap.size ≤ j ∧ j < w17.heap.size) := fun j hj => by
      have := md13.lt j hj
      rcases hj with hj | hj
      · exact .inl (pr6.gx j hj)
      · exact .inr ⟨by omega, by omega⟩
    have s19 : Stx (fun j => X j ∨ (w7.heap.size ≤ j ∧ j < w17.heap.size)) w19 k M := by
      refine (s18.grow q19).sub (fun j hj => .inl hj) ?_
      obtain ⟨ow, kn, bb, mb, pt, g1, g2, g3, g4⟩ := s17
      exact g3
    refine ⟨_, _, _, _, _, _, _, _, _, _, RD.i e6, _, _, _, _, _, _, _, _, _, RD.i e9, CALL.i (s19.do_ ok6 (by omega) (cutOp o) (cutOp_at o1''.sl o1''.none0)) (by kernel_rfl) ?_⟩
    rintro r w20 ⟨X', hXX, hXn, s20, k20, C1, t1, C2, t2, rfl, u1, u2, u3⟩
    have kx : ∀ j, (X j ∨ (w7.heap.size ≤ j ∧ j < w17.heap.size)) → ¬ (j < w19.heap.size ∧ ¬ (X j ∨ (w7.heap.size ≤ j ∧ j < w17.heap.size))) := fun j hj hc => hc.2 hj
    have e9' := k20.at_ e9 (kx k9 (.inr ⟨by omega, by omega⟩))
    have e4' := k20.at_ e4 (kx k4 (.inl pr6.x4))
    have l1'' := l1'.kept k20 (fun j hj _ => kx j (gX j hj))
    have l2'' := l2'.kept k20 (fun j hj _ => kx j (gX j hj))
    have md20 := md19.kept k20 (fun j hj => kx j (gX j hj))
    have ok' := ok_act ⟨by omega, by omega⟩ ok6 (cutOp o)
    have nk' := nk_act nk6 (cutOp o)
    refine ⟨_, _, _, _, _, _, _, _, _, rfl, load73 e9', CALL.i (law_answers (u1.sl.mono (G := fun _ => True) (fun _ _ => trivial)) (u2.sl.mono (fun _ _ => trivial)) l1'' l2'' (ans_len (ok6.toOk'.bd (by omega)) (cutOp o))) (by kernel_rfl) ?_⟩
    rintro r w21 ⟨rfl, q21⟩
    refine ⟨_, rfl, split_i (fun hc => by cases hc) (fun _ => ?_)⟩
    refine ⟨_, _, _, _, _, _, _, _, _, _, _, RD.i (e4'.no q21), CALL.i (law_is (s20.grow q21) ok' (by omega) nk' (md20.no q21)) (by kernel_rfl) ?_⟩
    rintro r w22 ⟨rfl, q22⟩
    refine ⟨_, rfl, split_i (fun hc => by cases hc) (fun _ => ?_)⟩
    have q20_22 := q21.trans q22
    refine ⟨_, G', (act M (cutOp o)).1, RA, rn, rc, RB, rnb, rcb, RE, rne, rce, s20.grow q20_22, ok', nk', fun j hj => .inl (hXX j (.inl (hX j hj))), ?_, ?_⟩
    · have p17 := p6.trans z17
      have p19 : Keep No w w19 := p17.tmp q17_19 (by omega)
      exact (p19.old k20 (fun j hj => .inl (hX j hj))).trans q20_22
    · exact ⟨(e4'.no q20_22), .inl (hXX _ (.inl pr6.x4)), pr6.n4, md20.no q20_22, fun j hj => .inl (hXX j (gX j hj)), fun hc => g4 k4 hc rfl⟩
  · rintro _ w8 ⟨X, G, M, A, n, c, B, nb, cb, E, ne, ce, s8, ok8, nk8, hX8, p8, pr8⟩
    have : ((i + 1 : Nat) : Int) = (i : Int) + 1 := by omega
    exact ⟨⟨i + 1, X, G, M, A, n, c, B, nb, cb, E, ne, ce, wrapS (by omega), by omega, s8, by rw [this]; exact ok8, nk8, hX8, p8, pr8⟩, mu_go (wrapS (by omega)) hi25⟩
end Go.SW
