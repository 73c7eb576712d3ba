/- The words' small functions. -/
import Derived.Test.YtfhiffnfngpkeaaGreatDoorNames2
import Derived.Test.YtfhiffnfngpkeaaGreatDoorSWords
set_option linter.unusedVariables false
namespace Go.SW
open Go Go.Proofs Pl

theorem words_letter (b : UInt8) (w : World) : Calls PP 43 #[.int .u8 (b.toNat : Int)] w (Ret fun r w' => r = .bool (letB b) ∧ w' = w) := by
  have hl : letB b = ((decide (97 ≤ (b.toNat : Int)) && decide ((b.toNat : Int) ≤ 122)) || (decide (48 ≤ (b.toNat : Int)) && decide ((b.toNat : Int) ≤ 57))) := by
    have H : ∀ n : Fin 256, letB (UInt8.ofNat n.val) = ((decide (97 ≤ (n.val : Int)) && decide ((n.val : Int) ≤ 122)) || (decide (48 ≤ (n.val : Int)) && decide ((n.val : Int) ≤ 57))) := by decide +kernel
    have := H ⟨b.toNat, b.toNat_lt⟩
    simpa only [UInt8.ofNat_toNat] using this
  apply c43
  unfold S43
  rw [hl]
  generalize (b.toNat : Int) = x
  repeat' refine split_dec (fun _ => ?_) (fun _ => ?_)
  all_goals refine ⟨?_, rfl⟩
  all_goals simp_all
  all_goals omega
theorem words_low (b : UInt8) (w : World) : Calls PP 130 #[.int .u8 (b.toNat : Int)] w (Ret fun r w' => r = .int .u8 ((lowB b).toNat : Int) ∧ w' = w) := by
  have H : ∀ n : Fin 256, (65 ≤ (n.val : Int) ∧ (n.val : Int) ≤ 90 → IntKind.wrap .u8 ((IntKind.wrap .u8 ((n.val : Int) + (97 : Int))) - (65 : Int)) = ((lowB (UInt8.ofNat n.val)).toNat : Int)) ∧ (¬ (65 ≤ (n.val : Int) ∧ (n.val : Int) ≤ 90) → (n.val : Int) = ((lowB (UInt8.ofNat n.val)).toNat : Int)) := by decide +kernel
  have hb := H ⟨b.toNat, b.toNat_lt⟩
  simp only [UInt8.ofNat_toNat] at hb
  apply c130
  unfold S130
  refine split_dec (fun h1 => ?_) (fun h1 => ?_)
  · refine split_dec (fun h2 => ?_) (fun h2 => ?_)
    · rw [hb.1 ⟨h1, h2⟩]; exact ⟨rfl, rfl⟩
    · rw [← hb.2 (fun h => h2 h.2)]; exact ⟨rfl, rfl⟩
  · rw [← hb.2 (fun h => h1 h.1)]; exact ⟨rfl, rfl⟩

theorem bs_emp : (⟨#[]⟩ : ByteArray).toList = [] := by rw [ByteArray.toList_eq]
theorem words_check (s : Str) (hs : s.length < 1099511627776) (w : World) : Calls PP 22 #[.string (bs s)] w (Ret fun r w' => r = .bool (checkW s) ∧ w' = w) := by
  apply c22
  unfold S22
  rw [bs_size]
  refine ⟨fun x w1 => ∃ i : Nat, x = i ∧ i ≤ s.length ∧ (∀ (j : Nat) b, j < i → s[j]? = some b → letB b = true) ∧ w1 = w, fun x _ => (s.length - x).toNat, ⟨0, rfl, Nat.zero_le _, by intro j b h; omega, rfl⟩, ?_⟩
  rintro _ x w1 ⟨i, rfl, hi, hb, rfl⟩
  refine split_dec (fun hlt => ?_) (fun hge => ?_)
  · have hlt' : i < s.length := by omega
    refine ⟨⟨by omega, hlt⟩, ?_⟩
    have hsi : s[i]? = some s[i] := List.getElem?_eq_getElem hlt'
    rw [bt_bs s i hsi]
    refine CALL.i (words_letter s[i] w1) (by kernel_rfl) ?_
    rintro r w2 ⟨rfl, rfl⟩
    refine ⟨_, rfl, split_i (fun ht => ?_) (fun ht => ?_)⟩
    · refine ⟨?_, rfl⟩
      have hm : letB s[i] = false := by simpa using ht
      have : s.all letB = false := by
        rw [List.all_eq_false]
        exact ⟨s[i], List.getElem_mem hlt', by simp [hm]⟩
      simp [checkW, this]
    · have hm : letB s[i] = true := by simpa using ht
      refine ⟨⟨i + 1, wrapS (by omega), hlt', ?_, rfl⟩, mu_go (wrapS (by omega)) hlt'⟩
      intro j b hj hjb
      by_cases hji : j = i
      · subst hji
        rw [hsi] at hjb
        cases hjb
        exact hm
      · exact hb j b (by omega) hjb
  · have hall : s.all letB = true := by
      rw [List.all_eq_true]
      intro b hbm
      obtain ⟨j, hj⟩ := List.mem_iff_getElem?.1 hbm
      exact hb j b (by have := (List.getElem?_eq_some_iff.1 hj).1; omega) hj
    rw [bs_toList, bs_emp]
    cases s with
    | nil => exact ⟨rfl, rfl⟩
    | cons b l =>
      refine split_i (fun _ => ⟨?_, rfl⟩) (fun hc => by simp at hc)
      simp only [checkW, hall, List.isEmpty_cons, Bool.not_false, Bool.true_and]
      congr 1
      apply decide_eq_decide.2
      omega

/-- element i of a slice of texts -/
theorem Sl.stx {w : World} {F : Nat → Prop} {A : Option Addr} {n c : Nat} {xs : List Str} (h : Sl Lst w F A n c xs) {i : Nat} (hi : i < n) :
    ∃ a x, A = some a ∧ xs[i]? = some x ∧ World.cell? w (a.add (i * 1)) = some (.string (bs x)) := by
  obtain ⟨a, cs, x, h1, h2, h3, h4⟩ := h.get hi
  cases h3
  exact ⟨a, x, h1, h2, RD1 h4⟩

theorem indexFunc_str {A : Option Addr} {n c : Nat} {f : Value} {w : World} {F : Nat → Prop} {xs : List Str} (p : Str → Bool) (hs : Sl Lst w F A n c xs) (hn : n < 4611686018427387904)
    (hf : ∀ w1 x, x ∈ xs → Keep No w w1 → CALLV PP f [.string (bs x)] w1 fun r w2 => r = .bool (p x) ∧ Keep No w1 w2) :
    Calls PP 145 #[.slice A n c, f] w (Ret fun r w' => r = .int .i64 (idx p xs) ∧ Keep No w w') := by
  apply c145
  unfold S145
  refine ⟨fun x w1 => ∃ i : Nat, x = i ∧ i ≤ n ∧ Keep No w w1 ∧ ∀ (j : Nat) y, j < i → xs[j]? = some y → p y = false, fun x _ => (n - x).toNat, ⟨0, rfl, Nat.zero_le _, Keep.refl _ _, by intro j y h; omega⟩, ?_⟩
  rintro _ x w1 ⟨i, rfl, hi, hk, hb⟩
  refine split_dec (fun hlt => ?_) (fun hge => ?_)
  · have hlt' : i < n := by omega
    refine ⟨⟨by omega, hlt⟩, ?_⟩
    obtain ⟨a, x, hA, hx, hr⟩ := (hs.no hk).stx hlt'
    refine SOMEA.i hA ?_
    refine ⟨_, by rw [Int.toNat_natCast]; exact hr, ?_⟩
    refine CALLV.mono (hf w1 x (List.mem_of_getElem? hx) hk) ?_
    rintro r w2 ⟨rfl, hk2⟩
    refine ⟨_, rfl, split_i (fun ht => ⟨?_, hk.trans hk2⟩) (fun hf' => ⟨⟨i + 1, wrapS (by omega), hlt', hk.trans hk2, ?_⟩, mu_go (wrapS (by omega)) hlt'⟩)⟩
    · rw [idx_at hx ht hb]
    · intro j y hj hy
      by_cases hji : j = i
      · subst hji
        rw [hx] at hy
        cases hy
        exact hf'
      · exact hb j y (by omega) hy
  · refine ⟨?_, hk⟩
    rw [idx_none fun j y hy => hb j y ?_ hy]
    have := (List.getElem?_eq_some_iff.1 hy).1
    rw [hs.len] at this
    omega

theorem words_clean1 (s : Str) (hs : s.length < 1099511627776) (w : World) : Calls PP 114 #[.string (bs s)] w (Ret fun r w' => r = .bool (!checkW s) ∧ w' = w) := by
  apply c114
  unfold S114
  refine CALL.i (words_check s hs w) (by kernel_rfl) ?_
  rintro r w1 ⟨rfl, rfl⟩
  exact ⟨_, rfl, rfl, rfl⟩
theorem idx_any {α : Type} (p : α → Bool) (xs : List α) : decide (idx p xs ≥ 0) = xs.any p := by
  rcases idx_lt (p := p) (xs := xs) with ⟨h1, h2⟩ | ⟨i, x, h1, h2, h3, h4, h5⟩
  · rw [decide_eq_false (by omega)]
    rw [List.find?_eq_none] at h2
    symm
    rw [List.any_eq_false]
    intro x hx
    simpa using h2 x hx
  · rw [h1, decide_eq_true (by omega)]
    symm
    rw [List.any_eq_true]
    exact ⟨x, List.mem_of_getElem? h3, h4⟩
theorem words_anyBad {A : Option Addr} {n c : Nat} {w : World} {F : Nat → Prop} {xs : List Str} (hs : Sl Lst w F A n c xs) (hn : n < 4611686018427387904) (hx : ∀ x ∈ xs, x.length < 1099511627776) :
    Calls PP 113 #[.slice A n c, .func (.func 114) #[] #[]] w (Ret fun r w' => r = .bool (xs.any fun x => !checkW x) ∧ Keep No w w') := by
  apply c113
  unfold S113
  refine CALL.i (indexFunc_str (fun x => !checkW x) hs hn fun w1 x hxm hk => ?_) (by kernel_rfl) ?_
  · refine CALLV.i (CALL.i (words_clean1 x (hx x hxm) w1) (by kernel_rfl) ?_)
    rintro r w2 ⟨rfl, rfl⟩
    exact ⟨rfl, Keep.refl _ _⟩
  · rintro r w1 ⟨rfl, hk⟩
    refine ⟨_, rfl, ?_, hk⟩
    rw [idx_any]

/-! ## BinarySearch -/
theorem bytesLess_lt : ∀ a b : Str, Op.bytesLess a b = decide (a < b)
  | _, [] => by simp [Op.bytesLess]
  | [], b :: l => by simp [Op.bytesLess]
  | a :: x, b :: y => by
    have ih := bytesLess_lt x y
    simp only [Op.bytesLess, ih, List.cons_lt_cons_iff]
    by_cases h1 : a < b <;> by_cases h2 : a = b <;> simp [h1, h2]
theorem cmp_less (a b : Str) (w : World) : Calls PP 90 #[.string (bs a), .string (bs b)] w (Ret fun r w' => r = .bool (decide (a < b)) ∧ w' = w) := by
  have nan : ∀ a : Str, Calls PP 131 #[.string (bs a)] w (Ret fun r w' => r = .bool false ∧ w' = w) := fun a => c131 ⟨by simp, rfl⟩
  apply c90
  unfold S90
  refine CALL.i (nan a) (by kernel_rfl) ?_
  rintro r w1 ⟨rfl, rfl⟩
  refine ⟨_, rfl, ?_⟩
  refine split_i (fun hc => by cases hc) (fun _ => ⟨?_, rfl⟩)
  rw [bs_toList, bs_toList, bytesLess_lt]
theorem half_wrap {i j : Nat} (h : i + j < 4611686018427387904) : IntKind.wrap .i64 (Int.fdiv (IntKind.wrap .u64 (IntKind.wrap .i64 ((i : Int) + (j : Int)))) (2 ^ (min (Int.toNat (1 : Int)) 64))) = (((i + j) / 2 : Nat) : Int) := by
  have e1 : IntKind.wrap .i64 ((i : Int) + (j : Int)) = ((i + j : Nat) : Int) := by rw [wrap64 (by omega) (by omega)]; omega
  have e2 : IntKind.wrap .u64 (((i + j : Nat) : Int)) = ((i + j : Nat) : Int) := by
    simp only [IntKind.wrap, IntKind.bits, IntKind.signed]
    simp
    omega
  have e3 : (2 : Int) ^ (min (Int.toNat (1 : Int)) 64) = 2 := by decide
  have e4 : Int.fdiv ((i + j : Nat) : Int) 2 = (((i + j) / 2 : Nat) : Int) := by
    rw [Int.fdiv_eq_ediv_of_nonneg _ (by omega)]
    omega
  rw [e1, e2, e3, e4, wrap64 (by omega) (by omega)]
theorem words_search {A : Option Addr} {n c : Nat} {w : World} {F : Nat → Prop} {xs : List Str} (hs : Sl Lst w F A n c xs) (hn : n < 1000000000) (hso : xs.Pairwise (· ≤ ·)) (t : Str) :
    Calls PP 45 #[.slice A n c, .string (bs t)] w (Ret fun r w' => (∃ x : Int, r = .tuple #[.int .i64 x, .bool (xs.contains t)]) ∧ w' = w) := by
  have hlen := hs.len
  apply c45
  unfold S45
  refine ⟨fun x y w1 => ∃ i j : Nat, x = i ∧ y = j ∧ i ≤ j ∧ j ≤ n ∧ (∀ (q : Nat) s, q < i → xs[q]? = some s → s < t) ∧ (∀ (q : Nat) s, j ≤ q → xs[q]? = some s → ¬ s < t) ∧ w1 = w, fun x y _ => (y - x).toNat,
    ⟨0, n, rfl, rfl, Nat.zero_le _, Nat.le_refl _, (fun q s h => by omega), (fun q s h hq => by have := (List.getElem?_eq_some_iff.1 hq).1; omega), rfl⟩, ?_⟩
  rintro _ x y w1 ⟨i, j, rfl, rfl, hij, hjn, h1, h2, rfl⟩
  have mono : ∀ (q r : Nat) (a b : Str), q ≤ r → xs[q]? = some a → xs[r]? = some b → a ≤ b := by
    intro q r a b hqr ha hb
    rcases Nat.lt_or_ge q r with hlt | hge
    · have hr := (List.getElem?_eq_some_iff.1 hb).1
      have := List.pairwise_iff_getElem.1 hso q r (by omega) hr hlt
      rw [(List.getElem?_eq_some_iff.1 ha).2, (List.getElem?_eq_some_iff.1 hb).2] at this
      exact this
    · have : q = r := by omega
      subst this
      rw [ha] at hb
      cases hb
      exact List.le_refl _
  refine split_dec (fun hlt => ?_) (fun hge => ?_)
  · have hlt' : i < j := by omega
    rw [half_wrap (by omega)]
    have hm : (i + j) / 2 < n := by omega
    refine ⟨by kernel_rfl, by decide, by kernel_rfl, ⟨by omega, by omega⟩, ?_⟩
    obtain ⟨a, s, hA, hx, hr⟩ := hs.stx hm
    refine SOMEA.i hA ⟨_, by rw [Int.toNat_natCast]; exact hr, ?_⟩
    refine CALL.i (cmp_less s t w1) (by kernel_rfl) ?_
    rintro r w2 ⟨rfl, rfl⟩
    refine ⟨_, rfl, split_dec (fun hst => ?_) (fun hst => ?_)⟩
    · rw [wrapS (by omega)]
      refine ⟨⟨(i + j) / 2 + 1, j, rfl, rfl, by omega, hjn, ?_, h2, rfl⟩, ?_⟩
      · intro q u hq hu
        exact List.lt_of_le_of_lt (mono q _ u s (by omega) hu hx) hst
      · show ((j : Int) - (((i + j) / 2 + 1 : Nat) : Int)).toNat < ((j : Int) - (i : Int)).toNat
        omega
    · refine ⟨⟨i, (i + j) / 2, rfl, rfl, by omega, by omega, h1, ?_, rfl⟩, ?_⟩
      · intro q u hq hu hut
        exact hst (List.lt_of_le_of_lt (mono _ q s u hq hx hu) hut)
      · show ((((i + j) / 2 : Nat) : Int) - (i : Int)).toNat < ((j : Int) - (i : Int)).toNat
        omega
  · have hij' : i = j := by omega
    subst hij'
    have hcont : ∀ b : Bool, (b = true ↔ xs[i]? = some t) → b = xs.contains t := by
      intro b hb
      rw [Bool.eq_iff_iff, hb, List.contains_iff_mem]
      constructor
      · intro h; exact List.mem_of_getElem? h
      · intro h
        obtain ⟨q, hq⟩ := List.mem_iff_getElem?.1 h
        have hqi : i ≤ q := by
          rcases Nat.lt_or_ge q i with hlt | hge
          · exact absurd (h1 q t hlt hq) (List.lt_irrefl t)
          · exact hge
        have hqn := (List.getElem?_eq_some_iff.1 hq).1
        have hii : xs[i]? = some xs[i] := List.getElem?_eq_getElem (by omega)
        have hle := mono i q _ t hqi hii hq
        have hnl := h2 i _ (Nat.le_refl _) hii
        rw [hii, List.le_antisymm hle (List.not_lt.1 hnl)]
    refine split_dec (fun hin => ?_) (fun hin => ?_)
    · have hin' : i < n := by omega
      obtain ⟨a, s, hA, hx, hr⟩ := hs.stx hin'
      refine ⟨⟨by omega, by omega⟩, SOMEA.i hA ⟨_, by rw [Int.toNat_natCast]; exact hr, ?_⟩⟩
      rw [bs_toList, bs_toList]
      refine split_i (fun he => ?_) (fun he => ?_)
      · have hst : s = t := by simpa using he
        refine ⟨⟨(i : Int), ?_⟩, rfl⟩
        rw [← hcont true ⟨fun _ => by rw [hx, hst], fun _ => rfl⟩]
      · have hst : s ≠ t := by simpa using he
        refine ⟨⟨by omega, by omega⟩, SOMEA.i hA ⟨_, by rw [Int.toNat_natCast]; exact hr, ?_⟩⟩
        refine CALL.i (R := fun r w' => r = .bool false ∧ w' = w1) (c91 ⟨by simp, rfl⟩) (by kernel_rfl) ?_
        rintro r w2 ⟨rfl, rfl⟩
        refine ⟨_, rfl, split_i (fun hc => by cases hc) (fun _ => ⟨⟨(i : Int), ?_⟩, rfl⟩)⟩
        rw [← hcont false ⟨(fun h => by cases h), fun h => by rw [hx] at h; exact absurd (Option.some.inj h) hst⟩]
    · refine ⟨⟨(i : Int), ?_⟩, rfl⟩
      rw [← hcont false ⟨(fun h => by cases h), fun h => by have := (List.getElem?_eq_some_iff.1 h).1; omega⟩]
end Go.SW
