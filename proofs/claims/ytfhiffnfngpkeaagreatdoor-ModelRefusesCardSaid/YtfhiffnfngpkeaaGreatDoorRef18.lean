/- The document's mailbox: New, Unseen, Add, Get. -/
import Derived.Test.YtfhiffnfngpkeaaGreatDoorOg
import Derived.Test.YtfhiffnfngpkeaaGreatDoorBox
import Derived.Test.YtfhiffnfngpkeaaGreatDoorInv
import Derived.Test.YtfhiffnfngpkeaaGreatDoorLaw1
import Derived.Test.YtfhiffnfngpkeaaGreatDoorSRefs
set_option linter.unusedVariables false
namespace Go.SW
open Go Go.Proofs Pl

theorem T118 : ElemTy Lent 106 118 24 := ⟨by kernel_rfl, ⟨tinfo 118, (tinfo 118).zero.getD .nilIface, by kernel_rfl, by kernel_rfl, by kernel_rfl, by kernel_rfl, by kernel_rfl⟩, by omega, by show 0 < 3; omega⟩
theorem ld118 (a : Addr) (w : World) (K : Value → Prop) : LD PP 118 a w K = ∃ (x0 x1 x2 : Int), RD w a 0 [.int .i64 x0, .int .i64 x1, .int .i64 x2] ∧ K (.agg #[.int .i64 x0, .int .i64 x1, .int .i64 x2]) := by kernel_rfl
theorem load118 {w : World} {k : Nat} {e : Ety} (h : At w k (.cells ⟨ecells e⟩ 118 (0, 0))) : (loadVar 118 (⟨k, 0, none⟩ : Addr)).run PP w = .ok (.agg #[.int .i64 e.uid, .int .i64 e.flags, .int .i64 e.mail]) w :=
  load_of (ld118 _ _ _) ⟨_, _, _, RD.i h, rfl⟩

theorem ref_new18 (id : Int) (w : World) : Calls PP 48 #[.int .i64 id] w (Ret fun r w' => r = .agg #[.int .i64 (Bx.new id).validity, .int .i64 1, .slice none 0 0] ∧ Keep No w w') := by
  refine c48 ?_
  unfold S48
  have e : (if (if (1099511627776 : Int) < id then (1099511627776 : Int) else id) > (1 : Int) then (if (1099511627776 : Int) < id then (1099511627776 : Int) else id) else (1 : Int)) = (Bx.new id).validity := by
    show _ = max 1 (min id 1099511627776)
    omega
  rw [e]
  exact NEW.i fun k2 w1 hk2 hs1 q1 a1 => ST.i a1 (by simp) rfl fun w2 hs2 q2 a2 => ⟨_, _, _, _, _, RD.i a2, rfl, q1.tmp q2 (by omega)⟩

theorem tmod2 {f : Int} (h0 : 0 ≤ f) (h1 : f ≤ 31) : (Int.tmod f 2 == 0) = (f.toNat % 2 == 0) := by
  have H : ∀ n : Fin 32, (Int.tmod (n.val : Int) 2 == 0) = (n.val % 2 == 0) := by decide +kernel
  have := H ⟨f.toNat, by omega⟩
  rwa [Int.toNat_of_nonneg h0] at this
theorem tmod8 {f : Int} (h0 : 0 ≤ f) (h1 : f ≤ 31) : (Int.tmod (IntKind.wrap .i64 (Int.tdiv f 8)) 2 == 1) = (f.toNat / 8 % 2 == 1) := by
  have H : ∀ n : Fin 32, (Int.tmod (IntKind.wrap .i64 (Int.tdiv (n.val : Int) 8)) 2 == 1) = (n.val / 8 % 2 == 1) := by decide +kernel
  have := H ⟨f.toNat, by omega⟩
  rwa [Int.toNat_of_nonneg h0] at this

theorem ref_unseen {A : Option Addr} {n c : Nat} {w : World} {F : Nat → Prop} {x : Bx} (hs : Sl Lent w F A n c x.l) (hn : n < 1000000000) (hf : ∀ e ∈ x.l, 0 ≤ e.flags ∧ e.flags ≤ 31) :
    Calls PP 55 #[.agg #[.int .i64 x.validity, .int .i64 x.next, .slice A n c]] w (Ret fun r w' => r = .int .i64 (unseenB x) ∧ Keep No w w') := by
  refine c55 ?_
  unfold S55
  have hlen := hs.len
  refine NEW.i fun k1 w1 hk1 hs1 q1 a1 => ⟨_, _, _, cell_at a1 rfl, ?_⟩
  refine ⟨fun y x9 w2 => ∃ i : Nat, x9 = i ∧ i ≤ n ∧ Keep No w w2 ∧ y = (((x.l.take i).filter fun e => e.flags.toNat % 2 == 0).length : Nat), fun _ x9 _ => ((n : Int) - x9).toNat, ⟨0, rfl, Nat.zero_le _, q1, rfl⟩, ?_⟩
  rintro _ y x9 w2 ⟨i, rfl, hi, q2, rfl⟩
  refine split_dec (fun hlt => ?_) (fun hge => ?_)
  · have hlt' : i < n := by omega
    refine ⟨fun y w3 => Keep No w w3 ∧ y = (((x.l.take (i + 1)).filter fun e => e.flags.toNat % 2 == 0).length : Nat), ⟨⟨by omega, hlt⟩, ?_⟩, ?_⟩
    · obtain ⟨a, e, hA, he, hr⟩ := (hs.no q2).ent hlt'
      refine SOMEA.i hA ⟨_, _, _, by rw [Int.toNat_natCast]; exact hr, ?_⟩
      refine NEW.i fun k5 w3 hk5 hs3 q3 a3 => ST.i a3 (by simp) rfl fun w4 hs4 q4 a4 => ⟨_, cell_at a4 rfl, rfl, by decide, ?_⟩
      have hef := hf e (List.mem_of_getElem? he)
      rw [tmod2 hef.1 hef.2]
      have z4 : Keep No w w4 := (q2.trans q3).tmp q4 (by have := q2.size; omega)
      have hle := List.length_filter_le (fun e : Ety => e.flags.toNat % 2 == 0) (x.l.take i)
      simp only [List.length_take] at hle
      have htk := take_succ_some he
      refine split_i (fun h1 => ⟨z4, ?_⟩) (fun h1 => ⟨z4, ?_⟩)
      · rw [wrapS (by omega), htk, List.filter_append, List.filter_cons_of_pos (p := fun e : Ety => e.flags.toNat % 2 == 0) (by simpa using h1)]
        simp
      · rw [htk, List.filter_append, List.filter_cons_of_neg (p := fun e : Ety => e.flags.toNat % 2 == 0) (by simpa using h1)]
        simp
    · rintro _ y w3 ⟨z3, rfl⟩
      exact ⟨⟨i + 1, wrapS (by omega), hlt', z3, rfl⟩, mu_go (wrapS (by omega)) hlt'⟩
  · have hie : i = x.l.length := by omega
    rw [hie, List.take_length]
    exact ⟨rfl, q2⟩

theorem ref_get {A : Option Addr} {n c : Nat} {w : World} {F : Nat → Prop} {x : Bx} (hs : Sl Lent w F A n c x.l) (hn : n < 1000000000) (uid : Int) :
    Calls PP 58 #[.agg #[.int .i64 x.validity, .int .i64 x.next, .slice A n c], .int .i64 uid] w (Ret fun r w' => r = .tuple #[.agg #[.int .i64 (getB x uid).1.uid, .int .i64 (getB x uid).1.flags, .int .i64 (getB x uid).1.mail], .int .i64 (getB x uid).2] ∧ Keep No w w') := by
  refine c58 ?_
  unfold S58
  have hlen := hs.len
  refine NEW.i fun k2 w1 hk2 hs1 q1 a1 => NEW.i fun k4 w2 hk4 hs2 q2 a2 => ⟨_, _, _, cell_at (a1.no q2) rfl, ?_⟩
  refine ⟨fun x9 w3 => ∃ i : Nat, x9 = i ∧ i ≤ n ∧ Keep No w2 w3 ∧ ∀ e ∈ x.l.take i, ¬ e.uid = uid, fun x9 _ => ((n : Int) - x9).toNat, ⟨0, rfl, Nat.zero_le _, Keep.refl _ _, by simp⟩, ?_⟩
  rintro _ x9 w3 ⟨i, rfl, hi, q3, hall⟩
  have z3 := (q1.trans q2).trans q3
  refine split_dec (fun hlt => ?_) (fun hge => ?_)
  · have hlt' : i < n := by omega
    refine ⟨⟨by omega, hlt⟩, ?_⟩
    obtain ⟨a, e, hA, he, hr⟩ := (hs.no z3).ent hlt'
    refine SOMEA.i hA ⟨_, _, _, by rw [Int.toNat_natCast]; exact hr, ?_⟩
    refine NEW.i fun k7 w4 hk7 hs4 q4 a4 => ST.i a4 (by simp) rfl fun w5 hs5 q5 a5 => ⟨_, cell_at a5 rfl, ?_⟩
    have z5 : Keep No w2 w5 := (q3.trans q4).tmp q5 (by have := q3.size; omega)
    refine split_i (fun h1 => ?_) (fun h1 => ⟨⟨i + 1, wrapS (by omega), hlt', z5, ?_⟩, mu_go (wrapS (by omega)) hlt'⟩)
    · refine ⟨_, _, _, RD.i a5, ST.i (a2.no z5) (by simp) rfl fun w6 hs6 q6 a6 => ⟨_, _, _, RD.i a6, ?_, ((q1.trans q2).trans z5).tmp q6 (by omega)⟩⟩
      have hf : findB x uid = some e := by
        unfold findB
        rw [List.find?_eq_some_iff_getElem]
        refine ⟨by simpa using h1, i, (List.getElem?_eq_some_iff.1 he).1, (List.getElem?_eq_some_iff.1 he).2, fun j hj => ?_⟩
        have hjl : j < x.l.length := by omega
        have := hall x.l[j] (List.mem_iff_getElem?.2 ⟨j, by rw [List.getElem?_take, if_pos hj, List.getElem?_eq_getElem hjl]⟩)
        simpa using this
      unfold getB
      rw [hf]
    · rw [take_succ_some he]
      intro q hq
      rcases List.mem_append.1 hq with hq | hq
      · exact hall q hq
      · rw [List.mem_singleton.1 hq]
        simpa using h1
  · have hie : i = x.l.length := by omega
    rw [hie, List.take_length] at hall
    have hf : findB x uid = none := by
      unfold findB
      rw [List.find?_eq_none]
      intro q hq
      simpa using hall q hq
    refine ST.i (a2.no q3) (by simp) rfl fun w4 hs4 q4 a4 => ⟨_, _, _, RD.i a4, ?_, z3.tmp q4 (by omega)⟩
    unfold getB
    rw [hf]
    rfl

theorem ref_add18 {A : Option Addr} {n c : Nat} {w : World} {F : Nat → Prop} {x : Bx} (hs : Sl Lent w F A n c x.l) (hn : n < 1000000000) (hx0 : 0 ≤ x.next) (hx1 : x.next < 1000000000) (mail f : Int) :
    Calls PP 56 #[.agg #[.int .i64 x.validity, .int .i64 x.next, .slice A n c], .int .i64 mail, .int .i64 f] w (Ret fun r w' => ∃ A' n' c', r = .tuple #[.agg #[.int .i64 (addB x mail f).1.validity, .int .i64 (addB x mail f).1.next, .slice A' n' c'], .agg #[.int .i64 (addB x mail f).2.1.uid, .int .i64 (addB x mail f).2.1.flags, .int .i64 (addB x mail f).2.1.mail], .int .i64 (addB x mail f).2.2] ∧ Keep No w w' ∧ Sl Lent w' (Gn F w w') A' n' c' (addB x mail f).1.l) := by
  refine c56 ?_
  unfold S56
  have hlen := hs.len
  refine NEW.i fun k3 w1 hk3 hs1 q1 a1 => NEW.i fun k6 w2 hk6 hs2 q2 a2 => NEW.i fun k7 w3 hk7 hs3 q3 a3 => ?_
  have b1 := (a1.no q2).no q3
  have b2 := a2.no q3
  have z3 := (q1.trans q2).trans q3
  have same : ∀ (w5 w6 w7 : World), Keep No w3 w5 → Keep (fun j => j = k6) w5 w6 → Keep (fun j => j = k7) w6 w7 → Keep No w w7 ∧ Sl Lent w7 (Gn F w w7) A n c x.l := by
    intro w5 w6 w7 q5 q6 q7
    have z7 : Keep No w w7 := ((z3.trans q5).tmp q6 (by omega)).tmp q7 (by omega)
    exact ⟨z7, (hs.no z7).mono fun j hj => .inl hj⟩
  refine ⟨fun w4 => w4 = w3 ∧ 1 ≤ mail ∧ mail ≤ 1099511627776 ∧ flagOk f = true, ?_, ?_⟩
  · have bad : (decide (1 ≤ mail) && decide (mail ≤ 1099511627776) && flagOk f) = false → ∃ (x24_0 : Int) (x24_1 : Int) (A24_2 : Option Addr) (n24_2 : Nat) (c24_2 : Nat), RD w3 (⟨k3, 0, none⟩ : Addr) 0 [(.int .i64 x24_0), (.int .i64 x24_1), (.slice A24_2 n24_2 c24_2)] ∧
        ST w3 (⟨k6, 0, none⟩ : Addr) 0 [(.int .i64 x24_0), (.int .i64 x24_1), (.slice A24_2 n24_2 c24_2)] fun w4 =>
        ST w4 (⟨k7, 0, none⟩ : Addr) 0 [(.int .i64 (0 : Int)), (.int .i64 (0 : Int)), (.int .i64 (0 : Int))] fun w5 =>
        ∃ (x6r_0 : Int) (x6r_1 : Int) (A6r_2 : Option Addr) (n6r_2 : Nat) (c6r_2 : Nat), RD w5 (⟨k6, 0, none⟩ : Addr) 0 [(.int .i64 x6r_0), (.int .i64 x6r_1), (.slice A6r_2 n6r_2 c6r_2)] ∧
        ∃ (x7r_0 : Int) (x7r_1 : Int) (x7r_2 : Int), RD w5 (⟨k7, 0, none⟩ : Addr) 0 [(.int .i64 x7r_0), (.int .i64 x7r_1), (.int .i64 x7r_2)] ∧
        ∃ A' n' c', (.tuple #[(.agg #[(.int .i64 x6r_0), (.int .i64 x6r_1), (.slice A6r_2 n6r_2 c6r_2)]), (.agg #[(.int .i64 x7r_0), (.int .i64 x7r_1), (.int .i64 x7r_2)]), (.int .i64 (4 : Int))] : Value) = .tuple #[.agg #[.int .i64 (addB x mail f).1.validity, .int .i64 (addB x mail f).1.next, .slice A' n' c'], .agg #[.int .i64 (addB x mail f).2.1.uid, .int .i64 (addB x mail f).2.1.flags, .int .i64 (addB x mail f).2.1.mail], .int .i64 (addB x mail f).2.2] ∧ Keep No w w5 ∧ Sl Lent w5 (Gn F w w5) A' n' c' (addB x mail f).1.l := by
      intro h
      have e : addB x mail f = (x, .none, 4) := by unfold addB; rw [h]; rfl
      rw [e]
      exact ⟨_, _, _, _, _, RD.i b1, ST.i b2 (by simp) rfl fun w4 hs4 q4 a4 => ST.i (a3.oth q4 (by omega)) (by simp) rfl fun w5 hs5 q5 a5 => ⟨_, _, _, _, _, RD.i (a4.oth q5 (by omega)), _, _, _, RD.i a5, _, _, _, rfl, same _ _ _ (Keep.refl _ _) q4 q5⟩⟩
    refine ⟨fun b w4 => w4 = w3 ∧ b = !(decide (1 ≤ mail) && decide (mail ≤ 1099511627776) && flagOk f), split_dec (fun h1 => ⟨rfl, ?_⟩) (fun h1 => split_dec (fun h2 => ⟨rfl, ?_⟩) (fun h2 => split_dec (fun h3 => ⟨rfl, ?_⟩) (fun h3 => ⟨rfl, ?_⟩))), ?_⟩
    · have : decide (1 ≤ mail) = false := by simpa using h1
      simp [this]
    · have : decide (mail ≤ 1099511627776) = false := by simpa using h2
      simp [this]
    · have : flagOk f = false := by simp [flagOk]; omega
      simp [this]
    · have e1 : decide (1 ≤ mail) = true := by simp; omega
      have e2 : decide (mail ≤ 1099511627776) = true := by simp; omega
      have e3 : decide (0 ≤ f) = true := by simp; omega
      rw [e1, e2]
      simp only [flagOk, e3, Bool.true_and]
      by_cases h : f ≤ 31
      · simp [h]
      · simp [h]; omega
    · rintro _ b w4 ⟨rfl, rfl⟩
      refine split_i (fun h => bad (by rw [Bool.not_eq_true'] at h; exact h)) (fun h => ⟨rfl, ?_⟩)
      have h' : (decide (1 ≤ mail) && decide (mail ≤ 1099511627776) && flagOk f) = true := by simpa using h
      simp only [Bool.and_eq_true, decide_eq_true_eq] at h'
      exact ⟨h'.1.1, h'.1.2, h'.2⟩
  · rintro _ w4 ⟨rfl, hm0, hm1, hfo⟩
    refine ⟨_, _, _, cell_at b1 rfl, split_dec (fun h256 => ?_) (fun h256 => ?_)⟩
    · have e : addB x mail f = (x, .none, 8) := by
        unfold addB
        rw [hfo, decide_eq_true hm0, decide_eq_true hm1]
        have : 256 ≤ x.l.length := by omega
        simp [this]
      rw [e]
      exact ⟨_, _, _, _, _, RD.i b1, ST.i b2 (by simp) rfl fun w5 hs5 q5 a5 => ST.i (a3.oth q5 (by omega)) (by simp) rfl fun w6 hs6 q6 a6 => ⟨_, _, _, _, _, RD.i (a5.oth q6 (by omega)), _, _, _, RD.i a6, _, _, _, rfl, same _ _ _ (Keep.refl _ _) q5 q6⟩⟩
    · have e : addB x mail f = (⟨x.validity, x.next + 1, x.l ++ [⟨x.next, f, mail⟩]⟩, ⟨x.next, f, mail⟩, 0) := by
        unfold addB
        rw [hfo, decide_eq_true hm0, decide_eq_true hm1]
        have : ¬ 256 ≤ x.l.length := by omega
        simp [this]
      rw [e]
      refine ⟨_, cell_at b1 rfl, NEW.i fun k9 w5 hk9 hs5 q5 a5 => ST.i a5 (by simp) rfl fun w6 hs6 q6 a6 => DRAW.i fun w7 hw7 q7 => ?_⟩
      have c3 := ((b1.no q5).oth q6 (by omega)).no q7
      have c9 : At w7 k9 (.cells ⟨ecells ⟨x.next, f, mail⟩⟩ 118 (0, 0)) := a6.no q7
      have c6 := ((b2.no q5).oth q6 (by omega)).no q7
      have c7 := ((a3.no q5).oth q6 (by omega)).no q7
      have z7 : Keep No w w7 := ((z3.trans q5).tmp q6 (by omega)).trans q7
      have s7 := hs.no z7
      have hw7s : w7.heap.size = w6.heap.size := by rw [hw7]
      refine ⟨_, cell_at c3 rfl, _, cell_at c3 rfl, _, _, _, cell_at c3 rfl, _, _, _, RD.i c9, _, _, _, RD.i c9, ?_⟩
      have l9 : ∀ {w' : World}, At w' k9 (.cells ⟨ecells ⟨x.next, f, mail⟩⟩ 118 (0, 0)) → (loadVar 118 (⟨k9, 0, none⟩ : Addr)).run PP w' = .ok (.agg #[.int .i64 x.next, .int .i64 f, .int .i64 mail]) w' := fun h => load118 h
      have fin : ∀ (w11 : World) (A48 : Option Addr) (c48 : Nat), At w11 k3 (.cells ⟨[.int .i64 x.validity, .int .i64 x.next, .slice A n c]⟩ 108 (0, 0)) → At w11 k9 (.cells ⟨ecells ⟨x.next, f, mail⟩⟩ 118 (0, 0)) → At w11 k6 (.cells ⟨[.int .i64 0, .int .i64 0, .slice none 0 0]⟩ 108 (0, 0)) → At w11 k7 (.cells ⟨[.int .i64 0, .int .i64 0, .int .i64 0]⟩ 118 (0, 0)) →
          Og Lent 118 No w7 w11 A48 (n + 1) c48 (x.l ++ [⟨x.next, f, mail⟩]) →
          (loadVar 118 (⟨k9, 0, none⟩ : Addr)).run PP w11 = .ok (.agg #[.int .i64 x.next, .int .i64 f, .int .i64 mail]) w11 ∧
          (loadVar 3 (⟨k3, 1, none⟩ : Addr)).run PP w11 = .ok (.int .i64 x.next) w11 ∧
          (loadVar 3 (⟨k3, 0, none⟩ : Addr)).run PP w11 = .ok (.int .i64 x.validity) w11 ∧
          ST w11 (⟨k6, 0, none⟩ : Addr) 0 [.int .i64 x.validity, (.int .i64 (IntKind.wrap .i64 (x.next + (1 : Int)))), (.slice A48 (n + 1) c48)] fun w12 =>
          (loadVar 118 (⟨k9, 0, none⟩ : Addr)).run PP w12 = .ok (.agg #[.int .i64 x.next, .int .i64 f, .int .i64 mail]) w12 ∧
          ST w12 (⟨k7, 0, none⟩ : Addr) 0 [.int .i64 x.next, .int .i64 f, .int .i64 mail] fun w13 =>
          ∃ (x6r_0 : Int) (x6r_1 : Int) (A6r_2 : Option Addr) (n6r_2 : Nat) (c6r_2 : Nat), RD w13 (⟨k6, 0, none⟩ : Addr) 0 [.int .i64 x6r_0, .int .i64 x6r_1, (.slice A6r_2 n6r_2 c6r_2)] ∧
          ∃ (x7r_0 : Int) (x7r_1 : Int) (x7r_2 : Int), RD w13 (⟨k7, 0, none⟩ : Addr) 0 [.int .i64 x7r_0, .int .i64 x7r_1, .int .i64 x7r_2] ∧
          ∃ A' n' c', (.tuple #[(.agg #[.int .i64 x6r_0, .int .i64 x6r_1, (.slice A6r_2 n6r_2 c6r_2)]), (.agg #[.int .i64 x7r_0, .int .i64 x7r_1, .int .i64 x7r_2]), .int .i64 (0 : Int)] : Value) = .tuple #[.agg #[.int .i64 x.validity, .int .i64 (x.next + 1), .slice A' n' c'], .agg #[.int .i64 x.next, .int .i64 f, .int .i64 mail], .int .i64 0] ∧ Keep No w w13 ∧ Sl Lent w13 (Gn F w w13) A' n' c' (x.l ++ [⟨x.next, f, mail⟩]) := by
        intro w11 A48 c48 d3 d9 d6 d7 g
        refine ⟨l9 d9, loadVar_cell (by kernel_rfl) (cell_at d3 rfl), loadVar_cell (by kernel_rfl) (cell_at d3 rfl), ?_⟩
        refine ST.i d6 (by simp) rfl fun w12 hs12 q12 a12 => ⟨l9 (d9.oth q12 (by omega)), ST.i (d7.oth q12 (by omega)) (by simp) rfl fun w13 hs13 q13 a13 => ?_⟩
        have hsz := z7.size
        have hgs := g.keep.size
        have n6 : ∀ j, (Gn No w7 w11) j → ¬ j = k6 := fun j hj he => by
          rcases hj with hj | hj
          · exact hj
          · omega
        have n7 : ∀ j, (Gn No w7 w11) j → ¬ j = k7 := fun j hj he => by
          rcases hj with hj | hj
          · exact hj
          · omega
        refine ⟨_, _, _, _, _, RD.i (a12.oth q13 (by omega)), _, _, _, RD.i a13, A48, n + 1, c48, ?_, ((z7.trans g.keep).tmp q12 (by omega)).tmp q13 (by omega), ?_⟩
        · rw [wrap64 (by omega) (by omega)]
        · refine ((g.gn.kept q12 (fun j hj _ => n6 j hj)).kept q13 (fun j hj _ => n7 j hj)).mono fun j hj => ?_
          rcases hj with hj | hj
          · exact False.elim hj
          · exact .inr ⟨by omega, by omega⟩
      clear e same
      refine ⟨?_, ?_⟩
      · refine NEW.i fun k42 w8 hk42 hs8 q8 a8 => ?_
        have g0 : Og Lent 118 No w7 w8 (some ⟨k42, 0, none⟩) 0 0 ([] : List Ety) := Og.nil (l := []) q8 a8 (by omega) (fun j h => False.elim h)
        have d3 := c3.no q8
        have d9 := c9.no q8
        have d6 := c6.no q8
        have d7 := c7.no q8
        refine ⟨l9 d9, l9 d9, loadVar_cell (by kernel_rfl) (cell_at d3 rfl), loadVar_cell (by kernel_rfl) (cell_at d3 rfl), loadVar_cell (by kernel_rfl) (cell_at d3 rfl), ?_, ?_⟩
        · refine g0.moreP T118 Lent_plain (s7.no q8) (by omega) fun A45 c45 w9 q9 g9 hb9 => ⟨_, _, _, rfl, ?_⟩
          rw [Nat.zero_add, List.nil_append] at g9
          have n42 : ∀ k, k < w7.heap.size → ¬ ownBlk (some (⟨k42, 0, none⟩ : Addr)) k := fun k hk hc => by
            have : k = k42 := hc
            omega
          have e3 := d3.own_ q9 (n42 _ (by omega))
          have e9 := d9.own_ q9 (n42 _ (by omega))
          refine ⟨l9 e9, l9 e9, loadVar_cell (by kernel_rfl) (cell_at e3 rfl), loadVar_cell (by kernel_rfl) (cell_at e3 rfl), ?_⟩
          refine NEW.i fun k47 w10 hk47 hs10 q10 a10 => ⟨l9 (e9.no q10), loadVar_cell (by kernel_rfl) (cell_at (e3.no q10) rfl), loadVar_cell (by kernel_rfl) (cell_at (e3.no q10) rfl), ?_⟩
          rw [Nat.zero_add]
          refine (g9.no q10).one T118 a10 (x := ⟨x.next, f, mail⟩) rfl (by omega) fun A48 c48 w11 q11 g11 hb11 => ⟨_, _, _, rfl, ?_⟩
          have o45 : ∀ k, k < w7.heap.size → ¬ ownBlk A45 k := fun k hk hc => by have := g9.new k hc; omega
          exact fin w11 A48 c48 ((e3.no q10).own_ q11 (o45 _ (by omega))) ((e9.no q10).own_ q11 (o45 _ (by omega))) (((d6.own_ q9 (n42 _ (by omega))).no q10).own_ q11 (o45 _ (by omega))) (((d7.own_ q9 (n42 _ (by omega))).no q10).own_ q11 (o45 _ (by omega))) g11
        · refine NEW.i fun k47 w9 hk47 hs9 q9 a9 => ⟨l9 (d9.no q9), loadVar_cell (by kernel_rfl) (cell_at (d3.no q9) rfl), loadVar_cell (by kernel_rfl) (cell_at (d3.no q9) rfl), loadVar_cell (by kernel_rfl) (cell_at (d3.no q9) rfl), ?_⟩
          refine (g0.no q9).moreP T118 Lent_plain ((s7.no q8).no q9) (by omega) fun A45 c45 w10 q10 g10 hb10 => ⟨_, _, _, rfl, ?_⟩
          rw [Nat.zero_add, List.nil_append] at g10
          have n42 : ∀ k, k ≠ k42 → ¬ ownBlk (some (⟨k42, 0, none⟩ : Addr)) k := fun k hk hc => hk hc
          have e3 := (d3.no q9).own_ q10 (n42 _ (by omega))
          have e9 := (d9.no q9).own_ q10 (n42 _ (by omega))
          have e47 := a9.own_ q10 (n42 _ (by omega))
          refine ⟨l9 e9, loadVar_cell (by kernel_rfl) (cell_at e3 rfl), loadVar_cell (by kernel_rfl) (cell_at e3 rfl), ?_⟩
          rw [Nat.zero_add]
          refine g10.one T118 e47 (x := ⟨x.next, f, mail⟩) rfl (by omega) fun A48 c48 w11 q11 g11 hb11 => ⟨_, _, _, rfl, ?_⟩
          have o45 : ∀ k, k < w7.heap.size → ¬ ownBlk A45 k := fun k hk hc => by have := g10.new k hc; omega
          exact fin w11 A48 c48 (e3.own_ q11 (o45 _ (by omega))) (e9.own_ q11 (o45 _ (by omega))) (((d6.no q9).own_ q10 (n42 _ (by omega))).own_ q11 (o45 _ (by omega))) (((d7.no q9).own_ q10 (n42 _ (by omega))).own_ q11 (o45 _ (by omega))) g11
      · refine NEW.i fun k47 w8 hk47 hs8 q8 a8 => ⟨l9 (c9.no q8), loadVar_cell (by kernel_rfl) (cell_at (c3.no q8) rfl), loadVar_cell (by kernel_rfl) (cell_at (c3.no q8) rfl), loadVar_cell (by kernel_rfl) (cell_at (c3.no q8) rfl), NEW.i fun k42 w9 hk42 hs9 q9 a9 => ?_⟩
        have d3 := (c3.no q8).no q9
        have d9 := (c9.no q8).no q9
        refine ⟨l9 d9, loadVar_cell (by kernel_rfl) (cell_at d3 rfl), loadVar_cell (by kernel_rfl) (cell_at d3 rfl), loadVar_cell (by kernel_rfl) (cell_at d3 rfl), ?_⟩
        have g0 : Og Lent 118 No w7 w9 (some ⟨k42, 0, none⟩) 0 0 ([] : List Ety) := Og.nil (l := []) (q8.trans q9) a9 (by omega) (fun j h => False.elim h)
        refine g0.moreP T118 Lent_plain ((s7.no q8).no q9) (by omega) fun A45 c45 w10 q10 g10 hb10 => ⟨_, _, _, rfl, ?_⟩
        rw [Nat.zero_add, List.nil_append] at g10
        have n42 : ∀ k, k ≠ k42 → ¬ ownBlk (some (⟨k42, 0, none⟩ : Addr)) k := fun k hk hc => hk hc
        have e3 := d3.own_ q10 (n42 _ (by omega))
        have e9 := d9.own_ q10 (n42 _ (by omega))
        have e47 := (a8.no q9).own_ q10 (n42 _ (by omega))
        refine ⟨l9 e9, loadVar_cell (by kernel_rfl) (cell_at e3 rfl), loadVar_cell (by kernel_rfl) (cell_at e3 rfl), ?_⟩
        rw [Nat.zero_add]
        refine g10.one T118 e47 (x := ⟨x.next, f, mail⟩) rfl (by omega) fun A48 c48 w11 q11 g11 hb11 => ⟨_, _, _, rfl, ?_⟩
        have o45 : ∀ k, k < w7.heap.size → ¬ ownBlk A45 k := fun k hk hc => by have := g10.new k hc; omega
        exact fin w11 A48 c48 (e3.own_ q11 (o45 _ (by omega))) (e9.own_ q11 (o45 _ (by omega))) ((((c6.no q8).no q9).own_ q10 (n42 _ (by omega))).own_ q11 (o45 _ (by omega))) ((((c7.no q8).no q9).own_ q10 (n42 _ (by omega))).own_ q11 (o45 _ (by omega))) g11
end Go.SW
set_option linter.unusedVariables false
namespace Go.SW
open Go Go.Proofs Pl

/-! ## plain -/
def UidOk (x : Bx) : Prop := x.l.Pairwise fun a b => a.uid < b.uid
theorem UidOk.ne {l : List Ety} (h : l.Pairwise fun a b => a.uid < b.uid) : ∀ a ∈ l, ∀ b ∈ l, a.uid = b.uid → a = b := by
  induction l with
  | nil => intro a ha; cases ha
  | cons x l ih =>
    have hp := List.pairwise_cons.1 h
    intro a ha b hb he
    rcases List.mem_cons.1 ha with ea | ha'
    · rcases List.mem_cons.1 hb with eb | hb'
      · rw [ea, eb]
      · have := hp.1 b hb'; rw [ea] at he; omega
    · rcases List.mem_cons.1 hb with eb | hb'
      · have := hp.1 a ha'; rw [eb] at he; omega
      · exact ih hp.2 a ha' b hb' he
theorem setL_mapU (uid : Int) (e : Ety) : ∀ {l : List Ety}, (l.Pairwise fun a b => a.uid < b.uid) → setL uid e l = l.map fun x => if x.uid = uid then e else x
  | [], _ => rfl
  | x :: l, h => by
    have hp := List.pairwise_cons.1 h
    by_cases hx : x.uid = uid
    · have : l.map (fun x => if x.uid = uid then e else x) = l := by
        conv => rhs; rw [← List.map_id l]
        apply List.map_congr_left
        intro y hy
        have := hp.1 y hy
        rw [if_neg (by omega)]; rfl
      simp only [setL, hx, if_true, List.map_cons, this]
    · simp only [setL, hx, if_false, List.map_cons, setL_mapU uid e hp.2]
theorem removeB_eq {x : Bx} (h : UidOk x) (uid : Int) : removeB x uid = (⟨x.validity, x.next, x.l.filter fun e => e.uid ≠ uid⟩, (getB x uid).1, (getB x uid).2) := by
  unfold removeB getB
  cases hf : findB x uid with
  | none =>
    have : x.l.filter (fun e => decide (e.uid ≠ uid)) = x.l := by
      rw [List.filter_eq_self]
      intro e he
      unfold findB at hf
      rw [List.find?_eq_none] at hf
      have := hf e he
      simpa using this
    simp only
    rw [this]
  | some e =>
    have hm : e ∈ x.l := List.mem_of_find?_eq_some hf
    have hu : e.uid = uid := by
      have := List.find?_some hf
      simpa using this
    simp only
    congr 2
    apply List.filter_congr
    intro y hy
    by_cases hye : y = e
    · rw [hye]; simp [hu]
    · have : y.uid ≠ uid := fun hc => hye (UidOk.ne h y hy e hm (hc.trans hu.symm))
      simp [hye, this]

theorem testBit_div (x i : Nat) : (x / 2 ^ i % 2 == 1) = x.testBit i := by
  rw [Nat.testBit_eq_decide_div_mod_eq]
  by_cases h : x / 2 ^ i % 2 = 1 <;> simp [h]
theorem mix_bit {f on off : Int} (h0 : 0 ≤ f) (h1 : f ≤ 31) {k : Nat} (hk : k < 5) :
    ((on.toNat / 2 ^ k % 2 == 1) || ((f.toNat / 2 ^ k % 2 == 1) && !(off.toNat / 2 ^ k % 2 == 1))) = ((mix f on off).toNat / 2 ^ k % 2 == 1) := by
  rw [testBit_div, testBit_div, testBit_div, testBit_div]
  unfold mix
  rw [Int.toNat_natCast, Nat.testBit_or, Nat.testBit_and, Nat.testBit_xor]
  have h31 : (31 : Nat).testBit k = true := by
    have H : ∀ k : Fin 5, (31 : Nat).testBit k.val = true := by decide
    exact H ⟨k, hk⟩
  rw [h31, Bool.true_xor, Bool.or_comm]
theorem mod_pow_succ (m k : Nat) : m % 2 ^ (k + 1) = m % 2 ^ k + (if (m / 2 ^ k % 2 == 1) then 2 ^ k else 0) := by
  rw [Nat.pow_succ, Nat.mod_mul]
  rcases Nat.mod_two_eq_zero_or_one (m / 2 ^ k) with h | h <;> simp [h]
theorem tdiv_bit {f : Int} (h0 : 0 ≤ f) (h1 : f ≤ 31) (k : Nat) (hk : k < 5) : Int.tmod (IntKind.wrap .i64 (Int.tdiv f ((2 ^ k : Nat) : Int))) 2 = ((f.toNat / 2 ^ k % 2 : Nat) : Int) := by
  have H : ∀ (n : Fin 32) (k : Fin 5), Int.tmod (IntKind.wrap .i64 (Int.tdiv (n.val : Int) ((2 ^ k.val : Nat) : Int))) 2 = ((n.val / 2 ^ k.val % 2 : Nat) : Int) := by decide +kernel
  have := H ⟨f.toNat, by omega⟩ ⟨k, hk⟩
  rwa [Int.toNat_of_nonneg h0] at this

/-! ## Remove, Expunge -/
theorem ref_remove {A : Option Addr} {n c : Nat} {w : World} {F : Nat → Prop} {x : Bx} (hs : Sl Lent w F A n c x.l) (hn : n < 1000000000) (hu : UidOk x) (uid : Int) :
    Calls PP 60 #[.agg #[.int .i64 x.validity, .int .i64 x.next, .slice A n c], .int .i64 uid] w (Ret fun r w' => ∃ A' n' c', r = .tuple #[.agg #[.int .i64 (removeB x uid).1.validity, .int .i64 (removeB x uid).1.next, .slice A' n' c'], .agg #[.int .i64 (removeB x uid).2.1.uid, .int .i64 (removeB x uid).2.1.flags, .int .i64 (removeB x uid).2.1.mail], .int .i64 (removeB x uid).2.2] ∧ Keep No w w' ∧ Sl Lent w' (Gn F w w') A' n' c' (removeB x uid).1.l) := by
  refine c60 ?_
  unfold S60
  rw [removeB_eq hu]
  have hlen := hs.len
  refine NEW.i fun k2 w1 hk2 hs1 q1 a1 => NEW.i fun k4 w2 hk4 hs2 q2 a2 => NEW.i fun k5 w3 hk5 hs3 q3 a3 => ?_
  have z3 := (q1.trans q2).trans q3
  have b2 := (a1.no q2).no q3
  refine ⟨_, _, _, _, _, RD.i b2, CALL.i (ref_get (hs.no z3) hn uid) (by kernel_rfl) ?_⟩
  rintro r w4 ⟨rfl, q4⟩
  refine ⟨_, _, _, _, rfl, NEW.i fun k7 w5 hk7 hs5 q5 a5 => ST.i a5 (by simp) rfl fun w6 hs6 q6 a6 => NEW.i fun k18 w7 hk18 hs7 q7 a7 => ?_⟩
  have z6 : Keep No w w6 := ((z3.trans q4).trans q5).tmp q6 (by have := z3.size; have := q4.size; omega)
  have c2 := ((b2.no q4).no q5).oth q6 (by have := q4.size; omega)
  have c4 := (((a2.no q3).no q4).no q5).oth q6 (by have := q4.size; omega)
  have c5 := ((a3.no q4).no q5).oth q6 (by have := q4.size; omega)
  have c7 := a6.no q7
  have hq4 := q4.size
  refine ⟨_, _, _, cell_at (c2.no q7) rfl, ?_⟩
  refine ⟨fun A9 n9 c9 x22 w8 => ∃ i : Nat, x22 = i ∧ i ≤ n ∧ Og Lent 118 No w6 w8 A9 n9 c9 ((x.l.take i).filter fun e => e.uid ≠ uid), fun _ _ _ x22 _ => ((n : Int) - x22).toNat,
    ⟨0, rfl, Nat.zero_le _, Og.nil (l := []) q7 a7 (by omega) (fun j h => False.elim h)⟩, ?_⟩
  rintro _ A9 n9 c9 x22 w8 ⟨i, rfl, hi, g8⟩
  have hn9 := g8.own.len
  have hle := List.length_filter_le (fun e : Ety => decide (e.uid ≠ uid)) (x.l.take i)
  simp only [List.length_take] at hle
  refine split_dec (fun hlt => ?_) (fun hge => ?_)
  · have hlt' : i < n := by omega
    refine ⟨fun A' n' c' w9 => Og Lent 118 No w6 w9 A' n' c' ((x.l.take (i + 1)).filter fun e => e.uid ≠ uid), ⟨⟨by omega, hlt⟩, ?_⟩, ?_⟩
    · obtain ⟨a, e, hA, he, hr⟩ := ((hs.no z6).no g8.keep).ent hlt'
      refine SOMEA.i hA ⟨_, _, _, by rw [Int.toNat_natCast]; exact hr, ?_⟩
      refine NEW.i fun k11 w9 hk11 hs9 q9 a9 => ST.i a9 (by simp) rfl fun w10 hs10 q10 a10 => ⟨_, cell_at a10 rfl, ?_⟩
      have g10 := (g8.no q9).st q10 (by have := g8.keep.size; omega) (g8.fresh (by omega))
      have htk := take_succ_some he
      refine split_i (fun h => ?_) (fun h => ?_)
      · have h' : decide (e.uid ≠ uid) = true := by simpa using h
        refine ⟨_, _, _, RD.i a10, NEW.i fun k32 w11 hk32 hs11 q11 a11 => ?_⟩
        refine (g10.no q11).one T118 a11 (x := e) rfl (by omega) fun A' c' w12 q12 g12 hb12 => ⟨_, _, _, rfl, ?_⟩
        rw [htk, List.filter_append, List.filter_cons_of_pos (p := fun e : Ety => decide (e.uid ≠ uid)) h']
        exact g12
      · have h' : ¬ (decide (e.uid ≠ uid) = true) := by simpa using h
        rw [htk, List.filter_append, List.filter_cons_of_neg (p := fun e : Ety => decide (e.uid ≠ uid)) h', List.filter_nil, List.append_nil]
        exact g10
    · rintro _ A' n' c' w9 g9
      exact ⟨⟨i + 1, wrapS (by omega), hlt', g9⟩, mu_go (wrapS (by omega)) hlt'⟩
  · have hie : i = x.l.length := by omega
    rw [hie, List.take_length] at g8
    have d2 := c2.no g8.keep
    have d4 := c4.no g8.keep
    have d5 := c5.no g8.keep
    have d7 := a6.no g8.keep
    refine ST.i d2 (by simp) rfl fun w9 hs9 q9 a9 => DRAW.i fun w10 hw10 q10 => ?_
    have e2 := a9.no q10
    have e7 : At w10 k7 (.cells ⟨ecells (getB x uid).1⟩ 118 (0, 0)) := (d7.oth q9 (by omega)).no q10
    refine ⟨_, _, _, _, _, RD.i e2, _, _, _, RD.i e7, ST.i ((d4.oth q9 (by omega)).no q10) (by simp) rfl fun w11 hs11 q11 a11 => ⟨load118 (e7.oth q11 (by omega)), ST.i (((d5.oth q9 (by omega)).no q10).oth q11 (by omega)) (by simp) rfl fun w12 hs12 q12 a12 => ?_⟩⟩
    have hgs := g8.keep.size
    have hz6 := z6.size
    have hw10 := q10.size
    refine ⟨_, _, _, _, _, RD.i (a11.oth q12 (by omega)), _, _, _, RD.i a12, A9, n9, c9, rfl, ?_, ?_⟩
    · exact (((((z6.trans g8.keep).tmp q9 (by omega)).trans q10).tmp q11 (by omega)).tmp q12 (by omega))
    · have ne : ∀ k, k < w6.heap.size → ∀ j, Gn No w6 w8 j → ¬ j = k := fun k hk j hj he => by
        rcases hj with hj | hj
        · exact hj
        · omega
      refine ((((g8.gn.kept q9 (fun j hj _ => ne _ (by omega) j hj)).no q10).kept q11 (fun j hj _ => ne _ (by omega) j hj)).kept q12 (fun j hj _ => ne _ (by omega) j hj)).mono fun j hj => ?_
      rcases hj with hj | hj
      · exact False.elim hj
      · exact .inr ⟨by omega, by omega⟩

theorem ref_expunge {A : Option Addr} {n c : Nat} {w : World} {F : Nat → Prop} {x : Bx} (hs : Sl Lent w F A n c x.l) (hn : n < 1000000000) (hf : ∀ e ∈ x.l, 0 ≤ e.flags ∧ e.flags ≤ 31) :
    Calls PP 62 #[.agg #[.int .i64 x.validity, .int .i64 x.next, .slice A n c]] w (Ret fun r w' => ∃ A' n' c' A2 n2 c2, r = .tuple #[.agg #[.int .i64 (expungeB x).1.validity, .int .i64 (expungeB x).1.next, .slice A' n' c'], .slice A2 n2 c2] ∧ Keep No w w' ∧ Sl Lent w' (Gn F w w') A' n' c' (expungeB x).1.l ∧ Sl Lent w' (Gn F w w') A2 n2 c2 (expungeB x).2) := by
  refine c62 ?_
  unfold S62
  have hlen := hs.len
  refine NEW.i fun k1 w1 hk1 hs1 q1 a1 => NEW.i fun k2 w2 hk2 hs2 q2 a2 => NEW.i fun k8 w3 hk8 hs3 q3 a3 => NEW.i fun k9 w4 hk9 hs4 q4 a4 => ?_
  have z2 := q1.trans q2
  have b1 := a1.no q2
  refine ⟨_, _, _, cell_at ((b1.no q3).no q4) rfl, ?_⟩
  refine ⟨fun A4 n4 c4 A5 n5 c5 x13 w5 => ∃ i : Nat, x13 = i ∧ i ≤ n ∧ Og Lent 118 No w2 w5 A4 n4 c4 ((x.l.take i).filter fun e => !del8 e) ∧ Og Lent 118 No w2 w5 A5 n5 c5 ((x.l.take i).filter del8) ∧ (∀ j, ownBlk A4 j → ¬ ownBlk A5 j), fun _ _ _ _ _ _ x13 _ => ((n : Int) - x13).toNat,
    ⟨0, rfl, Nat.zero_le _, (Og.nil (l := []) q3 a3 (by omega) (fun j h => False.elim h)).no q4, Og.nil (l := []) (q3.trans q4) a4 (by omega) (fun j h => False.elim h), fun j h1 h2 => by
      have e1 : j = k8 := h1
      have e2 : j = k9 := h2
      omega⟩, ?_⟩
  rintro _ A4 n4 c4 A5 n5 c5 x13 w5 ⟨i, rfl, hi, g4, g5, hd⟩
  have hn4 := g4.own.len
  have hn5 := g5.own.len
  have hle4 := List.length_filter_le (fun e : Ety => !del8 e) (x.l.take i)
  have hle5 := List.length_filter_le del8 (x.l.take i)
  simp only [List.length_take] at hle4 hle5
  refine split_dec (fun hlt => ?_) (fun hge => ?_)
  · have hlt' : i < n := by omega
    refine ⟨fun A4' n4' c4' A5' n5' c5' w6 => Og Lent 118 No w2 w6 A4' n4' c4' ((x.l.take (i + 1)).filter fun e => !del8 e) ∧ Og Lent 118 No w2 w6 A5' n5' c5' ((x.l.take (i + 1)).filter del8) ∧ (∀ j, ownBlk A4' j → ¬ ownBlk A5' j), ⟨⟨by omega, hlt⟩, ?_⟩, ?_⟩
    · obtain ⟨a, e, hA, he, hr⟩ := ((hs.no z2).no g4.keep).ent hlt'
      refine SOMEA.i hA ⟨_, _, _, by rw [Int.toNat_natCast]; exact hr, ?_⟩
      refine NEW.i fun k7 w6 hk7 hs6 q6 a6 => ST.i a6 (by simp) rfl fun w7 hs7 q7 a7 => ⟨_, cell_at a7 rfl, rfl, by decide, rfl, by decide, ?_⟩
      have hb := g4.keep.size
      have h4 := (g4.no q6).st q7 (by omega) (g4.fresh (by omega))
      have h5 := (g5.no q6).st q7 (by omega) (g5.fresh (by omega))
      have htk := take_succ_some he
      have hef := hf e (List.mem_of_getElem? he)
      rw [tmod8 hef.1 hef.2, htk, List.filter_append, List.filter_append]
      refine split_i (fun h => ?_) (fun h => ?_)
      · have hdel : del8 e = true := h
        refine ⟨_, _, _, RD.i a7, NEW.i fun k24 w8 hk24 hs8 q8 a8 => ?_⟩
        refine (h5.no q8).one T118 a8 (x := e) rfl (by omega) fun A' c' w9 q9 g9 hb9 => ⟨_, _, _, rfl, ?_, ?_, ?_⟩
        · rw [List.filter_cons_of_neg (by simp [hdel]), List.filter_nil, List.append_nil]
          exact (h4.no q8).oth q9 fun j hj => ⟨h5.new j hj, fun hc => hd j hc hj⟩
        · rw [List.filter_cons_of_pos hdel]
          exact g9
        · intro j hj hc
          rcases hb9 j hc with h | h
          · exact hd j hj h
          · have := h4.own.lt j hj; omega
      · have hdel : del8 e = false := h
        refine ⟨_, _, _, RD.i a7, NEW.i fun k28 w8 hk28 hs8 q8 a8 => ?_⟩
        refine (h4.no q8).one T118 a8 (x := e) rfl (by omega) fun A' c' w9 q9 g9 hb9 => ⟨_, _, _, rfl, ?_, ?_, ?_⟩
        · rw [List.filter_cons_of_pos (by simp [hdel])]
          exact g9
        · rw [List.filter_cons_of_neg (by simp [hdel]), List.filter_nil, List.append_nil]
          exact (h5.no q8).oth q9 fun j hj => ⟨h4.new j hj, fun hc => hd j hj hc⟩
        · intro j hj hc
          rcases hb9 j hj with h | h
          · exact hd j h hc
          · have := h5.own.lt j hc; omega
    · rintro _ A4' n4' c4' A5' n5' c5' w6 ⟨g1, g2, g3⟩
      exact ⟨⟨i + 1, wrapS (by omega), hlt', g1, g2, g3⟩, mu_go (wrapS (by omega)) hlt'⟩
  · have hie : i = x.l.length := by omega
    rw [hie, List.take_length] at g4 g5
    have hgs := g4.keep.size
    have hz2 := z2.size
    refine ST.i (b1.no g4.keep) (by simp) rfl fun w6 hs6 q6 a6 => ⟨_, _, _, _, _, RD.i a6, ST.i ((a2.no g4.keep).oth q6 (by omega)) (by simp) rfl fun w7 hs7 q7 a7 => ?_⟩
    have ne : ∀ k, k < w2.heap.size → ∀ j, Gn No w2 w5 j → ¬ j = k := fun k hk j hj he => by
      rcases hj with hj | hj
      · exact hj
      · omega
    refine ⟨_, _, _, _, _, RD.i a7, A4, n4, c4, A5, n5, c5, rfl, ((z2.trans g4.keep).tmp q6 (by omega)).tmp q7 (by omega), ?_, ?_⟩
    · refine ((g4.gn.kept q6 (fun j hj _ => ne _ (by omega) j hj)).kept q7 (fun j hj _ => ne _ (by omega) j hj)).mono fun j hj => ?_
      rcases hj with hj | hj
      · exact False.elim hj
      · exact .inr ⟨by omega, by omega⟩
    · refine ((g5.gn.kept q6 (fun j hj _ => ne _ (by omega) j hj)).kept q7 (fun j hj _ => ne _ (by omega) j hj)).mono fun j hj => ?_
      rcases hj with hj | hj
      · exact False.elim hj
      · exact .inr ⟨by omega, by omega⟩

/-! ## Set -/
theorem ref_set {A : Option Addr} {n c : Nat} {w : World} {F : Nat → Prop} {x : Bx} (hs : Sl Lent w F A n c x.l) (hn : n < 1000000000) (hf : ∀ e ∈ x.l, 0 ≤ e.flags ∧ e.flags ≤ 31) (hu : UidOk x) (uid on off : Int) :
    Calls PP 61 #[.agg #[.int .i64 x.validity, .int .i64 x.next, .slice A n c], .int .i64 uid, .int .i64 on, .int .i64 off] w (Ret fun r w' => ∃ A' n' c', r = .tuple #[.agg #[.int .i64 (setB x uid on off).1.validity, .int .i64 (setB x uid on off).1.next, .slice A' n' c'], .agg #[.int .i64 (setB x uid on off).2.1.uid, .int .i64 (setB x uid on off).2.1.flags, .int .i64 (setB x uid on off).2.1.mail], .int .i64 (setB x uid on off).2.2] ∧ Keep No w w' ∧ Sl Lent w' (Gn F w w') A' n' c' (setB x uid on off).1.l) := by
  refine c61 ?_
  unfold S61
  have hlen := hs.len
  refine NEW.i fun k4 w1 hk4 hs1 q1 a1 => NEW.i fun k8 w2 hk8 hs2 q2 a2 => NEW.i fun k9 w3 hk9 hs3 q3 a3 => ?_
  have z3 := (q1.trans q2).trans q3
  have b4 := (a1.no q2).no q3
  refine ⟨_, _, _, _, _, RD.i b4, CALL.i (ref_get (hs.no z3) hn uid) (by kernel_rfl) ?_⟩
  rintro r w4 ⟨rfl, q4⟩
  refine ⟨_, _, _, _, rfl, NEW.i fun k11 w5 hk11 hs5 q5 a5 => ST.i a5 (by simp) rfl fun w6 hs6 q6 a6 => ?_⟩
  have hq4 := q4.size
  have z6 : Keep No w w6 := ((z3.trans q4).trans q5).tmp q6 (by have := z3.size; omega)
  have c4 := ((b4.no q4).no q5).oth q6 (by omega)
  have c8 := (((a2.no q3).no q4).no q5).oth q6 (by omega)
  have c9 := ((a3.no q4).no q5).oth q6 (by omega)
  have hz6 := z6.size
  have same : ∀ (w7 w8 w9 : World), Keep No w6 w7 → Keep (fun j => j = k8) w7 w8 → Keep (fun j => j = k9) w8 w9 → Keep No w w9 ∧ Sl Lent w9 (Gn F w w9) A n c x.l := by
    intro w7 w8 w9 p7 p8 p9
    have z7 : Keep No w w9 := ((z6.trans p7).tmp p8 (by omega)).tmp p9 (by omega)
    exact ⟨z7, (hs.no z7).mono fun j hj => .inl hj⟩
  cases hfd : findB x uid with
  | none =>
    have e1 : getB x uid = (.none, 7) := by unfold getB; rw [hfd]
    have e2 : setB x uid on off = (x, .none, 7) := by unfold setB; rw [hfd]
    rw [e1] at a6 ⊢
    rw [e2]
    refine split_i (fun _ => DRAW.i fun w7 hw7 q7 => ?_) (fun h => by simp at h)
    have d11 : At w7 k11 (.cells ⟨ecells .none⟩ 118 (0, 0)) := a6.no q7
    refine ⟨_, _, _, _, _, RD.i (c4.no q7), _, _, _, RD.i d11, ST.i (c8.no q7) (by simp) rfl fun w8 hs8 q8 a8 => ⟨load118 (d11.oth q8 (by omega)), ST.i ((c9.no q7).oth q8 (by omega)) (by simp) rfl fun w9 hs9 q9 a9 => ?_⟩⟩
    exact ⟨_, _, _, _, _, RD.i (a8.oth q9 (by omega)), _, _, _, RD.i a9, _, _, _, rfl, same _ _ _ q7 q8 q9⟩
  | some e =>
    have e1 : getB x uid = (e, 0) := by unfold getB; rw [hfd]
    have hem : e ∈ x.l := List.mem_of_find?_eq_some hfd
    have heu : e.uid = uid := by simpa using List.find?_some hfd
    obtain ⟨hef0, hef1⟩ := hf e hem
    rw [e1] at a6 ⊢
    refine split_i (fun h => by simp at h) (fun _ => ?_)
    refine ⟨fun w7 => w7 = w6 ∧ (flagOk on && flagOk off) = true, ?_, ?_⟩
    · refine ⟨fun b w7 => w7 = w6 ∧ b = !(flagOk on && flagOk off), split_dec (fun h1 => ⟨rfl, ?_⟩) (fun h1 => split_dec (fun h2 => ⟨rfl, ?_⟩) (fun h2 => split_dec (fun h3 => ⟨rfl, ?_⟩) (fun h3 => ⟨rfl, ?_⟩))), ?_⟩
      · have : flagOk on = false := by simp [flagOk]; omega
        simp [this]
      · have : flagOk on = false := by simp [flagOk]; omega
        simp [this]
      · have : flagOk off = false := by simp [flagOk]; omega
        simp [this]
      · have e3 : flagOk on = true := by simp [flagOk]; omega
        have e4 : decide (0 ≤ off) = true := by simp; omega
        rw [e3]
        simp only [flagOk, e4, Bool.true_and]
        by_cases h : off ≤ 31
        · simp [h]
        · simp [h]; omega
      · rintro _ b w7 ⟨rfl, rfl⟩
        refine split_i (fun h => ?_) (fun h => ⟨rfl, by simpa using h⟩)
        have h' : (flagOk on && flagOk off) = false := by rw [Bool.not_eq_true'] at h; exact h
        have e2 : setB x uid on off = (x, .none, 4) := by
          unfold setB
          rw [hfd]
          simp only [h', Bool.not_false, if_true]
        rw [e2]
        refine ⟨_, _, _, _, _, RD.i c4, ST.i c8 (by simp) rfl fun w8 hs8 q8 a8 => ST.i (c9.oth q8 (by omega)) (by simp) rfl fun w9 hs9 q9 a9 => ?_⟩
        exact ⟨_, _, _, _, _, RD.i (a8.oth q9 (by omega)), _, _, _, RD.i a9, _, _, _, rfl, same _ _ _ (Keep.refl _ _) q8 q9⟩
    · rintro _ w7 ⟨rfl, hok⟩
      have e2 : setB x uid on off = (⟨x.validity, x.next, setL uid { e with flags := mix e.flags on off } x.l⟩, { e with flags := mix e.flags on off }, 0) := by
        unfold setB
        rw [hfd]
        simp only [hok, Bool.not_true, Bool.false_eq_true, if_false]
      rw [e2, setL_mapU _ _ hu]
      have hon : 0 ≤ on ∧ on ≤ 31 ∧ 0 ≤ off ∧ off ≤ 31 := by
        simp only [flagOk, Bool.and_eq_true, decide_eq_true_eq] at hok
        omega
      have hmx := (mix_eq hef0 hef1 hon.1 hon.2.1 hon.2.2.1 hon.2.2.2).2
      have b11 : At w7 k11 (.cells ⟨ecells e⟩ 118 (0, 0)) := a6
      clear e2 same
      refine ⟨fun x13 x14 w8 => w8 = w7 ∧ ∃ k : Nat, k ≤ 5 ∧ x14 = ((2 ^ k : Nat) : Int) ∧ x13 = (((mix e.flags on off).toNat % 2 ^ k : Nat) : Int), fun _ x14 _ => (32 - x14).toNat, ⟨rfl, 0, by omega, rfl, by simp [Nat.mod_one]⟩, ?_⟩
      rintro _ x13 x14 w8 ⟨rfl, k, hk, rfl, rfl⟩
      have p5 : (2 : Nat) ^ k ≤ 32 := by
        have : (2 : Nat) ^ k ≤ 2 ^ 5 := Nat.pow_le_pow_right (by omega) hk
        omega
      have p0 : 0 < (2 : Nat) ^ k := Nat.pow_pos (by omega)
      refine split_dec (fun hlt => ?_) (fun hge => ?_)
      · have hk5 : k < 5 := by
          rcases Nat.lt_or_ge k 5 with h | h
          · exact h
          · have : k = 5 := by omega
            subst this
            omega
        have hml : (mix e.flags on off).toNat % 2 ^ k < 2 ^ k := Nat.mod_lt _ p0
        refine ⟨fun y w9 => w9 = w8 ∧ y = (((mix e.flags on off).toNat % 2 ^ (k + 1) : Nat) : Int), ⟨fun b w9 => w9 = w8 ∧ b = ((mix e.flags on off).toNat / 2 ^ k % 2 == 1), ⟨rfl, by omega, rfl, by decide, ?_⟩, ?_⟩, ?_⟩
        · rw [← mix_bit hef0 hef1 hk5, tdiv_bit hon.1 hon.2.1 k hk5]
          have hi : ∀ m : Nat, (((m % 2 : Nat) : Int) == 1) = (m % 2 == 1) := fun m => by
            rcases Nat.mod_two_eq_zero_or_one m with h | h <;> simp [h]
          have hi0 : ∀ m : Nat, (((m % 2 : Nat) : Int) == 0) = !(m % 2 == 1) := fun m => by
            rcases Nat.mod_two_eq_zero_or_one m with h | h <;> simp [h]
          rw [hi]
          refine split_i (fun h => ⟨rfl, by rw [h]; rfl⟩) (fun h => ⟨_, cell_at b11 rfl, rfl, by omega, rfl, by decide, ?_⟩)
          rw [tdiv_bit hef0 hef1 k hk5, hi, h]
          refine split_i (fun h2 => ⟨rfl, by omega, rfl, by decide, rfl, ?_⟩) (fun h2 => ⟨rfl, by rw [h2]; rfl⟩)
          rw [tdiv_bit hon.2.2.1 hon.2.2.2 k hk5, hi0, h2]
          rfl
        · rintro _ b w9 ⟨rfl, rfl⟩
          rw [mod_pow_succ]
          refine split_i (fun h => ⟨rfl, ?_⟩) (fun h => ⟨rfl, ?_⟩)
          · rw [if_pos h, wrap64 (by omega) (by omega)]; omega
          · rw [if_neg (by rw [h]; simp)]; omega
        · rintro _ y w9 ⟨rfl, rfl⟩
          have hw : IntKind.wrap .i64 (2 * ((2 ^ k : Nat) : Int)) = ((2 ^ (k + 1) : Nat) : Int) := by
            rw [wrap64 (by omega) (by omega), Nat.pow_succ]; omega
          rw [hw]
          have p6 : (2 : Nat) ^ (k + 1) = 2 * 2 ^ k := by rw [Nat.pow_succ]; omega
          refine ⟨⟨rfl, k + 1, hk5, rfl, rfl⟩, ?_⟩
          show (32 - ((2 ^ (k + 1) : Nat) : Int)).toNat < (32 - ((2 ^ k : Nat) : Int)).toNat
          omega
      · have hk5 : k = 5 := by
          rcases Nat.lt_or_ge k 5 with h | h
          · have : (2 : Nat) ^ k ≤ 2 ^ 4 := Nat.pow_le_pow_right (by omega) (by omega)
            omega
          · omega
        subst hk5
        have hmm : (((mix e.flags on off).toNat % 2 ^ 5 : Nat) : Int) = mix e.flags on off := by
          rw [Nat.mod_eq_of_lt (by omega)]; omega
        rw [hmm]
        refine ST.i b11 (by simp [ecells]) rfl fun w9 hs9 q9 a9 => NEW.i fun k74 w10 hk74 hs10 q10 a10 => ?_
        have d11 : At w9 k11 (.cells ⟨ecells { e with flags := mix e.flags on off }⟩ 118 (0, 0)) := a9
        have d4 := c4.oth q9 (by omega)
        have d8 := c8.oth q9 (by omega)
        have d9 := c9.oth q9 (by omega)
        have z9 : Keep No w w9 := z6.tmp q9 (by omega)
        refine ⟨_, _, _, cell_at (d4.no q10) rfl, ?_⟩
        refine ⟨fun A15 n15 c15 x78 w11 => ∃ i : Nat, x78 = i ∧ i ≤ n ∧ Og Lent 118 No w9 w11 A15 n15 c15 ((x.l.take i).map fun y => if y.uid = uid then { e with flags := mix e.flags on off } else y), fun _ _ _ x78 _ => ((n : Int) - x78).toNat,
          ⟨0, rfl, Nat.zero_le _, Og.nil (l := []) q10 a10 (by omega) (fun j h => False.elim h)⟩, ?_⟩
        rintro _ A15 n15 c15 x78 w11 ⟨i, rfl, hi, g11⟩
        have hn15 := g11.own.len
        simp only [List.length_map, List.length_take] at hn15
        refine split_dec (fun hlt => ?_) (fun hge => ?_)
        · have hlt' : i < n := by omega
          refine ⟨fun A' n' c' w12 => Og Lent 118 No w9 w12 A' n' c' ((x.l.take (i + 1)).map fun y => if y.uid = uid then { e with flags := mix e.flags on off } else y), ⟨⟨by omega, hlt⟩, ?_⟩, ?_⟩
          · obtain ⟨a, y, hA, hy, hr⟩ := ((hs.no z9).no g11.keep).ent hlt'
            refine SOMEA.i hA ⟨_, _, _, by rw [Int.toNat_natCast]; exact hr, ?_⟩
            have hgs := g11.keep.size
            refine NEW.i fun k17 w12 hk17 hs12 q12 a12 => ST.i a12 (by simp) rfl fun w13 hs13 q13 a13 => ?_
            have g13 := (g11.no q12).st q13 (by omega) (g11.fresh (by omega))
            refine ⟨fun w14 => At w14 k17 (.cells ⟨ecells (if y.uid = uid then { e with flags := mix e.flags on off } else y)⟩ 118 (0, 0)) ∧ Og Lent 118 No w9 w14 A15 n15 c15 ((x.l.take i).map fun y => if y.uid = uid then { e with flags := mix e.flags on off } else y), ⟨_, cell_at a13 rfl, ?_⟩, ?_⟩
            · refine split_i (fun h => ?_) (fun h => ⟨?_, g13⟩)
              · have h' : y.uid = uid := by simpa using h
                refine ⟨_, _, _, RD.i (d11.no g13.keep), ST.i a13 (by simp [putL]) rfl fun w14 hs14 q14 a14 => ⟨?_, g13.st q14 (by omega) (g11.fresh (by omega))⟩⟩
                rw [if_pos h']
                exact a14
              · have h' : ¬ y.uid = uid := by simpa using h
                rw [if_neg h']
                exact a13
            · rintro _ w14 ⟨a14, g14⟩
              refine ⟨_, _, _, RD.i a14, NEW.i fun k89 w15 hk89 hs15 q15 a15 => ?_⟩
              refine (g14.no q15).one T118 a15 (x := if y.uid = uid then { e with flags := mix e.flags on off } else y) rfl (by omega) fun A' c' w16 q16 g16 hb16 => ⟨_, _, _, rfl, ?_⟩
              rw [take_succ_some hy, List.map_append]
              exact g16
          · rintro _ A' n' c' w12 g12
            exact ⟨⟨i + 1, wrapS (by omega), hlt', g12⟩, mu_go (wrapS (by omega)) hlt'⟩
        · have hie : i = x.l.length := by omega
          rw [hie, List.take_length] at g11
          have hgs := g11.keep.size
          have hz9 := z9.size
          refine ST.i (d4.no g11.keep) (by simp) rfl fun w12 hs12 q12 a12 => DRAW.i fun w13 hw13 q13 => ?_
          have f11 := ((d11.no g11.keep).oth q12 (by omega)).no q13
          have f4 := a12.no q13
          have hq13 := q13.size
          refine ⟨_, _, _, _, _, RD.i f4, _, _, _, RD.i f11, ST.i (((d8.no g11.keep).oth q12 (by omega)).no q13) (by simp) rfl fun w14 hs14 q14 a14 => ⟨load118 (f11.oth q14 (by omega)), ST.i ((((d9.no g11.keep).oth q12 (by omega)).no q13).oth q14 (by omega)) (by simp) rfl fun w15 hs15 q15 a15 => ?_⟩⟩
          have ne : ∀ k, k < w9.heap.size → ∀ j, Gn No w9 w11 j → ¬ j = k := fun k hk j hj he => by
            rcases hj with hj | hj
            · exact hj
            · omega
          refine ⟨_, _, _, _, _, RD.i (a14.oth q15 (by omega)), _, _, _, RD.i a15, A15, n15, c15, rfl, ((((z9.trans g11.keep).tmp q12 (by omega)).trans q13).tmp q14 (by omega)).tmp q15 (by omega), ?_⟩
          refine ((((g11.gn.kept q12 (fun j hj _ => ne _ (by omega) j hj)).no q13).kept q14 (fun j hj _ => ne _ (by omega) j hj)).kept q15 (fun j hj _ => ne _ (by omega) j hj)).mono fun j hj => ?_
          rcases hj with hj | hj
          · exact False.elim hj
          · exact .inr ⟨by omega, by omega⟩
end Go.SW
