/- ModelRefuses. -/
import Derived.Test.YtfhiffnfngpkeaaGreatDoorLawPair
import Derived.Test.YtfhiffnfngpkeaaGreatDoorSLaw8
set_option linter.unusedVariables false
namespace Go.SW
open Go Go.Proofs Pl

theorem act_err {M : Md} {o : Pl.Op} (h : (act M o).2.err ≠ 0) : (act M o).1 = M ∧ (act M o).2.n = 0 ∧ (act M o).2.text = [] ∧ (act M o).2.names = [] ∧ (act M o).2.hits = [] := by
  have zn : ∀ e : Int, (M, no e).1 = M ∧ (M, no e).2.n = 0 ∧ (M, no e).2.text = [] ∧ (M, no e).2.names = [] ∧ (M, no e).2.hits = [] := fun e => ⟨rfl, rfl, rfl, rfl, rfl⟩
  revert h
  unfold act
  split
  · unfold named
    split
    · intro h
      by_cases hc : (createN M.n o.box).2.2 = 0
      · simp [hc] at h
      · have := (createN_err _ _ hc).1
        simp [hc, this, no]
    · split
      · intro h
        rcases deleteN_cases M.n o.box with ⟨hd, _⟩ | ⟨id, _, hd⟩
        · rw [hd]; simp [no]
        · rw [hd] at h; simp at h
      · intro h
        by_cases hc : (renameN M.n o.box o.to).2.2 = 0
        · simp [hc] at h
        · have := (renameN_err _ _ _ hc).1
          simp [hc, this, no]
  split
  · intro h; exact absurd rfl h
  split
  · unfold search
    cases cleanW o.words with
    | none => intro _; exact zn 4
    | some l =>
      simp only
      split
      · intro _; exact ⟨trivial, rfl, rfl, rfl, rfl⟩
      · split
        · intro _; exact ⟨trivial, rfl, rfl, rfl, rfl⟩
        · intro h; exact absurd rfl h
  split
  · intro h; exact absurd rfl h
  split
  · unfold within
    cases hf : find M o.box with
    | none => intro _; exact zn 5
    | some x =>
      simp only
      split
      · intro h; exact absurd rfl h
      split
      · unfold append
        split
        · intro _; exact zn 3
        · intro h
          by_cases hc : (addB x M.next o.flags).2.2 = 0
          · simp [hc] at h
          · simp [hc, no]
      split
      · unfold fetch
        cases findB x o.uid with
        | none => intro _; exact zn 7
        | some e => intro h; exact absurd rfl h
      split
      · unfold copy
        cases find M o.to with
        | none => intro _; exact zn 5
        | some y =>
          simp only
          cases findB x o.uid with
          | none => intro _; exact zn 7
          | some e =>
            simp only
            split
            · intro _; exact zn _
            · intro h; exact absurd rfl h
      split
      · intro h
        rcases setB_cases x o.uid o.flags o.off with ⟨hc, _⟩ | ⟨e, _, _, _, hs⟩
        · have h0 : (setB x o.uid o.flags o.off).2.1.flags = 0 := by
            unfold setB at hc ⊢
            cases hfd : findB x o.uid with
            | none => rfl
            | some e =>
              rw [hfd] at hc
              simp only at hc ⊢
              split
              · rfl
              · rename_i h9
                rw [if_neg h9] at hc
                exact absurd rfl hc
          simp [hc, h0]
        · rw [hs] at h; exact absurd rfl h
      · intro h; exact absurd rfl h
  · intro _; exact zn 4
theorem act_ask {M : Md} {o : Pl.Op} (h : o.kind = 4 ∨ o.kind = 5 ∨ o.kind = 7 ∨ 12 ≤ o.kind) : (act M o).1 = M := by
  unfold act
  rw [if_neg (by omega)]
  split
  · rfl
  split
  · rfl
  split
  · rfl
  split
  · unfold within
    cases find M o.box with
    | none => rfl
    | some x =>
      simp only
      split
      · rfl
      split
      · omega
      split
      · rfl
      · omega
  · rfl

theorem modelRefuses_walk {w : World} (hg : Glob w) (h1 : 1 < w.heap.size) {A0 : Option Addr} {n0 c0 : Nat} {xs : List Pl.Op} {F : Nat → Prop} (hs : Sl Lop w F A0 n0 c0 xs) (hF : ∀ j, F j → j < w.heap.size) :
    Calls PP 8 #[.slice A0 n0 c0] w (Ret fun r w' => r = .bool true ∧ Keep No w w') := by
  refine c8 ?_
  unfold S8
  refine CALL.i (law_awake hg h1) (by kernel_rfl) ?_
  rintro r w1 ⟨rfl, q1⟩
  refine ⟨_, rfl, split_i (fun hc => by cases hc) (fun _ => ?_)⟩
  refine CALL.i (stx_new (Y := fun j => j < w.heap.size) (hg.no q1) (by have := q1.size; omega) (fun j hj => by have := q1.size; omega) h1) (by kernel_rfl) ?_
  rintro r w2 ⟨k, rfl, q2, s2⟩
  refine ⟨_, rfl, CALL.i (ref_new19 w2) (by kernel_rfl) ?_⟩
  rintro r w3 ⟨rfl, q3⟩
  refine ⟨_, _, _, _, _, _, _, _, _, _, _, rfl, NEW.i fun k4 w4 hk4 hs4 q4 a4 => ST.i a4 (by simp) rfl fun w5 hs5 q5 a5 => split_i (fun hc => by cases hc) (fun _ => ?_)⟩
  have p2 := q1.trans q2
  have hp2 := p2.size
  have hq3 := q3.size
  have p25 : Keep No w2 w5 := (q3.trans q4).tmp q5 (by omega)
  refine ⟨fun w6 => ∃ (i : Nat) (X : Nat → Prop) (G : Nat → Prop) (M : Md) (A : Option Addr) (n c : Nat) (B : Option Addr) (nb cb : Nat) (E : Option Addr) (ne ce : Nat), i ≤ 25 ∧ Stx X w6 k M ∧ Ok i M ∧ Nk M.n ∧ Keep No w w6 ∧ Pair X w6 k4 G M A n c B nb cb E ne ce, ?_, ?_⟩
  · refine ⟨fun x w6 => ∃ (i : Nat) (X : Nat → Prop) (G : Nat → Prop) (M : Md) (A : Option Addr) (n c : Nat) (B : Option Addr) (nb cb : Nat) (E : Option Addr) (ne ce : Nat), x = i ∧ i ≤ 25 ∧ Stx X w6 k M ∧ Ok i M ∧ Nk M.n ∧ (∀ j, j < w.heap.size → X j) ∧ Keep No w w6 ∧ Pair X w6 k4 G M A n c B nb cb E ne ce, fun x _ => (((25 : Nat) : Int) - x).toNat, ?_, ?_⟩
    · refine ⟨0, _, No, .new, none, 0, 0, none, 0, 0, none, 0, 0, rfl, by omega, s2.grow p25, ok_new (Int.le_refl _), ⟨Nat.zero_le _, fun p hp => by cases hp⟩, fun j hj => .inl hj, p2.trans p25, a5, .inr ⟨by omega, by omega⟩, by omega, rmd_new _ _ (fun j hj => False.elim hj), fun j hj => False.elim hj, fun hc => hc⟩
    rintro _ x w6 ⟨i, X, G, M, A, n, c, B, nb, cb, E, ne, ce, rfl, hi, s6, ok6, nk6, hX, p6, pr6⟩
    have out : ∃ (i : Nat) (X : Nat → Prop) (G : Nat → Prop) (M : Md) (A : Option Addr) (n c : Nat) (B : Option Addr) (nb cb : Nat) (E : Option Addr) (ne ce : Nat), i ≤ 25 ∧ Stx X w6 k M ∧ Ok i M ∧ Nk M.n ∧ Keep No w w6 ∧ Pair X w6 k4 G M A n c B nb cb E ne ce := ⟨i, X, G, M, A, n, c, B, nb, cb, E, ne, ce, hi, s6, ok6, nk6, p6, pr6⟩
    refine ⟨fun w7 => w7 = w6 ∧ i < n0 ∧ i < 25, split_dec (fun h1 => split_dec (fun h2 => ⟨rfl, by omega, by omega⟩) (fun h2 => out)) (fun h1 => out), ?_⟩
    rintro _ w7 ⟨rfl, hin, hi25⟩
    clear out
    refine ⟨fun w8 => ∃ (X : Nat → Prop) (G : Nat → Prop) (M : Md) (A : Option Addr) (n c : Nat) (B : Option Addr) (nb cb : Nat) (E : Option Addr) (ne ce : Nat), Stx X w8 k M ∧ Ok (i + 1) M ∧ Nk M.n ∧ (∀ j, j < w.heap.size → X j) ∧ Keep No w w8 ∧ Pair X w8 k4 G M A n c B nb cb E ne ce, ⟨⟨by omega, by omega⟩, ?_⟩, ?_⟩
    · obtain ⟨a, cs, o, hA, ho, hrel, hrd⟩ := (hs.no p6).get hin
      obtain ⟨OA, on, oc, rfl, hws⟩ := hrel
      refine SOMEA.i hA ⟨_, _, _, _, _, _, _, _, _, _, by rw [Int.toNat_natCast]; exact hrd, ?_⟩
      refine CALL.i (law_own o hws) (by kernel_rfl) ?_
      rintro r w8 ⟨A1, c1, A2, c2, rfl, q8, o1, o2, f1, f2⟩
      refine ⟨_, _, _, _, _, _, _, _, _, _, _, _, _, _, _, _, _, _, _, _, rfl, ?_⟩
      refine NEW.i fun k6 w9 hk6 hs9 q9 a9 => NEW.i fun k7 w10 hk7 hs10 q10 a10 => ST.i (a9.no q10) (Nat.le_refl _) rfl fun w11 hs11 q11 a11 => ST.i (a10.oth q11 (by omega)) (Nat.le_refl _) rfl fun w12 hs12 q12 a12 => ?_
      have hq8 := q8.size
      have b6 : At w12 k6 (.cells ⟨ocells (cutOp o) A1 (few o.words).length c1⟩ 28 (0, 0)) := a11.oth q12 (by omega)
      have b7 : At w12 k7 (.cells ⟨ocells (cutOp o) A2 (few o.words).length c2⟩ 29 (0, 0)) := a12
      have z12 : Keep No w7 w12 := (((q8.trans q9).trans q10).tmp q11 (by omega)).tmp q12 (by omega)
      have q8_12 : Keep (fun j => j = k6 ∨ j = k7) w8 w12 := (((q9.no.trans q10.no).trans (q11.mono fun j _ hj => .inl hj)).trans (q12.mono fun j _ hj => .inr hj))
      have pr12 := pr6.kept (X' := fun j => X j ∨ (w7.heap.size ≤ j ∧ j < w12.heap.size)) z12 (fun j _ h => h) (fun j hj => .inl hj)
      have o12 : ∀ {A : Option Addr} {c : Nat}, Own Lst 9 w8 No A (few o.words).length c (few o.words) → Own Lst 9 w12 No A (few o.words).length c (few o.words) := fun hh => hh.kept q8_12 (fun j hj _ he => hj.elim (fun h => h) (fun h => by have := hh.lt j h; omega))
      have o1' := o12 o1
      have o2' := o12 o2
      have s12 := s6.grow z12
      have ok' := ok_act ⟨by omega, by omega⟩ ok6 (cutOp o)
      have nk' := nk_act nk6 (cutOp o)
      have lt4 := pr6.at4.lt
      refine ⟨_, _, _, _, _, _, _, _, _, _, RD.i b6, do_store s12 ok6 (by omega) (cutOp o) (cutOp_at o1'.sl o1'.none0) fun k8 w15 X' hXX s15 k15 ans15 hk8 => ?_⟩
      have kx : ∀ j, (X j ∨ (w7.heap.size ≤ j ∧ j < w12.heap.size)) → ¬ (j < w12.heap.size ∧ ¬ (X j ∨ (w7.heap.size ≤ j ∧ j < w12.heap.size))) := fun j hj hc => hc.2 hj
      have pr15 := pr12.kept (X' := X') k15 kx hXX
      have p15 : Keep No w w15 := (p6.trans z12).old k15 (fun j hj => .inl (hX j hj))
      have hz12 := z12.size
      have c7 := k15.at_ b7 (kx k7 (.inr ⟨by omega, by omega⟩))
      have hX' : ∀ j, j < w.heap.size → X' j := fun j hj => hXX j (.inl (hX j hj))
      obtain ⟨t1, t2, t3⟩ := ans15.cell
      refine ⟨_, t1, split_i (fun herr => ?_) (fun herr => ?_)⟩
      · have herr' : (act M (cutOp o)).2.err ≠ 0 := by simpa using herr
        obtain ⟨e1, e2, e3, e4, e5⟩ := act_err herr'
        obtain ⟨_, _, B1, d1, B2, d2, u1, _⟩ := ans15
        refine ⟨fun q w16 => Keep No w15 w16 ∧ q = false, ⟨_, t2, split_i (fun hc => by rw [e2] at hc; simp at hc) (fun _ => ⟨_, t3, split_i (fun hc => ?_) (fun _ => ⟨_, _, _, cell_at u1 rfl, _, _, _, cell_at u1 rfl, split_dec (fun hc => ?_) (fun _ => ?_)⟩)⟩)⟩, ?_⟩
        · rw [e3] at hc
          have : (bs []).toList = [] := bs_toList []
          have hemp : (⟨#[]⟩ : ByteArray).toList = [] := bs_emp
          rw [this, hemp] at hc
          simp at hc
        · rw [e4, e5] at hc
          simp [IntKind.wrap, IntKind.bits, IntKind.signed] at hc
        · rw [e1] at s15
          refine ⟨_, _, _, _, _, _, _, _, _, _, _, RD.i pr15.at4, CALL.i (law_is s15 (ok6.mono (by omega)) (t := i) (by omega) nk6 pr15.md) (by kernel_rfl) ?_⟩
          rintro r w16 ⟨rfl, q16⟩
          exact ⟨_, rfl, q16, rfl⟩
        · rintro _ q w16 ⟨q16, rfl⟩
          rw [e1] at s15
          refine split_i (fun hc => by cases hc) (fun _ => ⟨_, G, M, A, n, c, B, nb, cb, E, ne, ce, s15.grow q16, ok6.mono (by omega), nk6, fun j hj => .inl (hX' j hj), p15.trans q16, pr15.kept q16 (fun j _ h => h) (fun j hj => .inl hj)⟩)
      · refine ⟨fun q w16 => w16 = w15 ∧ (q = true → (act M (cutOp o)).1 = M), ⟨_, cell_at c7 rfl, split_i (fun h => ⟨rfl, fun _ => act_ask (.inl ?_)⟩) (fun h => ⟨_, cell_at c7 rfl, split_i (fun h => ⟨rfl, fun _ => act_ask (.inr (.inl ?_))⟩) (fun h => ⟨_, cell_at c7 rfl, split_i (fun h => ⟨rfl, fun _ => act_ask (.inr (.inr (.inl ?_)))⟩) (fun h => ⟨_, cell_at c7 rfl, rfl, fun hq => act_ask (.inr (.inr (.inr ?_)))⟩)⟩)⟩)⟩, ?_⟩
        · simpa using h
        · simpa using h
        · simpa using h
        · have := of_decide_eq_true hq
          exact this
        · rintro _ q w16 ⟨rfl, hask⟩
          refine ⟨fun w17 => Keep No w16 w17, split_i (fun hq => ?_) (fun _ => Keep.refl _ _), ?_⟩
          · have hm := hask hq
            have s15' := s15
            rw [hm] at s15'
            refine ⟨_, _, _, _, _, _, _, _, _, _, _, RD.i pr15.at4, CALL.i (law_is s15' ok6 (by omega) nk6 pr15.md) (by kernel_rfl) ?_⟩
            rintro r w17 ⟨rfl, q17⟩
            exact ⟨_, rfl, split_i (fun hc => by cases hc) (fun _ => q17)⟩
          · rintro _ w17 q17
            have pr17 := pr15.kept (X' := fun j => X' j ∨ (w16.heap.size ≤ j ∧ j < w17.heap.size)) q17 (fun j _ h => h) (fun j hj => .inl hj)
            have hk2 : ∀ j, ownBlk A2 j → (X j ∨ (w7.heap.size ≤ j ∧ j < w12.heap.size)) := fun j hj => .inr ⟨by have := f2 j hj; omega, o2'.lt j hj⟩
            have o17 := (o2'.kept k15 (fun j hj _ hc => hj.elim (fun h => h) (fun h => kx j (hk2 j h) hc))).no q17
            refine ⟨_, _, _, _, _, _, _, _, _, _, _, RD.i pr17.at4, _, _, _, _, _, _, _, _, _, _, RD.i (c7.no q17), CALL.i (ref_do pr17.md ok6 (by omega) nk6.1 (cutOp o) (cutOp_at o17.sl o17.none0)) (by kernel_rfl) ?_⟩
            rintro r w18 ⟨RA, rn, rc, RB, rnb, rcb, RE, rne, rce, N1, m1, d1, N2, m2, d2, rfl, q18, md18, l1, l2⟩
            have lt17 := pr17.at4.lt
            have g4 : ∀ j, Gn G w17 w18 j → ¬ j = k4 := fun j hj he => by
              subst he
              rcases hj with hj | hj
              · exact pr6.g4 hj
              · omega
            refine ⟨_, _, _, _, _, _, _, _, _, _, _, _, _, _, _, _, _, _, _, _, rfl, ST.i (pr17.at4.no q18) (by simp) rfl fun w19 hs19 q19 a19 => ?_⟩
            have z1718 := q17.trans q18
            have s18 := (s15.grow z1718).wr q19 (fun j hj => by rw [hj]; exact ⟨.inl pr15.x4, pr15.n4⟩)
            have hq17 := q17.size
            refine ⟨_, Gn G w17 w18, (act M (cutOp o)).1, RA, rn, rc, RB, rnb, rcb, RE, rne, rce, s18, ok', nk', fun j hj => .inl (hX' j hj), (p15.trans z1718).tmp q19 (by omega), a19, .inl pr15.x4, pr15.n4, md18.kept q19 g4, fun j hj => ?_, fun hc => g4 k4 hc rfl⟩
            rcases hj with hj | hj
            · exact .inl (pr15.gx j hj)
            · exact .inr ⟨by omega, hj.2⟩
    · rintro _ w8 ⟨X, G, M, A, n, c, B, nb, cb, E, ne, ce, s8, ok8, nk8, hX8, p8, pr8⟩
      have : ((i + 1 : Nat) : Int) = (i : Int) + 1 := by omega
      exact ⟨⟨i + 1, X, G, M, A, n, c, B, nb, cb, E, ne, ce, wrapS (by omega), by omega, s8, by rw [this]; exact ok8, nk8, hX8, p8, pr8⟩, mu_go (wrapS (by omega)) hi25⟩
  · rintro _ w6 ⟨i, X, G, M, A, n, c, B, nb, cb, E, ne, ce, hi, s6, ok6, nk6, p6, pr6⟩
    refine ⟨_, _, _, _, _, _, _, _, _, _, _, RD.i pr6.at4, CALL.i (law_is s6 ok6 (by omega) nk6 pr6.md) (by kernel_rfl) ?_⟩
    rintro r w7 ⟨rfl, q7⟩
    exact ⟨_, rfl, rfl, p6.trans q7⟩
end Go.SW
