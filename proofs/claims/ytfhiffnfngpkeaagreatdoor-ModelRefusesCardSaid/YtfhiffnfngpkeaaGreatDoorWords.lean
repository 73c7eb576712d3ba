/- The words' small functions. -/
import Derived.Test.YtfhiffnfngpkeaaGreatDoorNames
import Derived.Test.YtfhiffnfngpkeaaGreatDoorSBase
import Derived.Lib.RowBridge
set_option linter.unusedVariables false
namespace Go.SW
open Go Go.Proofs Pl

theorem words_letter (b : UInt8) (w : World) : Calls PP 43 #[.int .u8 (b.toNat : Int)] w (Ret fun r w' => r = .bool (letB b) ∧ w' = w) := by
  have hl : letB b = ((decide (97 ≤ (b.toNat : Int)) && decide ((b.toNat : Int) ≤ 122)) || (decide (48 ≤ (b.toNat : Int)) && decide ((b.toNat : Int) ≤ 57))) := by
    have H : ∀ n : Fin 256, letB (UInt8.ofNat n.val) = ((decide (97 ≤ (n.val : Int)) && decide ((n.val : Int) ≤ 122)) || (decide (48 ≤ (n.val : Int)) && decide ((n.val : Int) ≤ 57))) := by decide +kernel
    have := H ⟨b.toNat, b.toNat_lt⟩
    simpa only [UInt8.ofNat_toNat] using this
  apply c43
  unfold S43
  rw [hl]
  generalize (b.toNat : Int) = x
  repeat' refine split_dec (fun _ => ?_) (fun _ => ?_)
  all_goals refine ⟨?_, rfl⟩
  all_goals simp_all
  all_goals omega
theorem words_low (b : UInt8) (w : World) : Calls PP 130 #[.int .u8 (b.toNat : Int)] w (Ret fun r w' => r = .int .u8 ((lowB b).toNat : Int) ∧ w' = w) := by
  have H : ∀ n : Fin 256, (65 ≤ (n.val : Int) ∧ (n.val : Int) ≤ 90 → IntKind.wrap .u8 ((IntKind.wrap .u8 ((n.val : Int) + (97 : Int))) - (65 : Int)) = ((lowB (UInt8.ofNat n.val)).toNat : Int)) ∧ (¬ (65 ≤ (n.val : Int) ∧ (n.val : Int) ≤ 90) → (n.val : Int) = ((lowB (UInt8.ofNat n.val)).toNat : Int)) := by decide +kernel
  have hb := H ⟨b.toNat, b.toNat_lt⟩
  simp only [UInt8.ofNat_toNat] at hb
  apply c130
  unfold S130
  refine split_dec (fun h1 => ?_) (fun h1 => ?_)
  · refine split_dec (fun h2 => ?_) (fun h2 => ?_)
    · rw [hb.1 ⟨h1, h2⟩]; exact ⟨rfl, rfl⟩
    · rw [← hb.2 (fun h => h2 h.2)]; exact ⟨rfl, rfl⟩
  · rw [← hb.2 (fun h => h1 h.1)]; exact ⟨rfl, rfl⟩

theorem bs_emp : (⟨#[]⟩ : ByteArray).toList = [] := by rw [ByteArray.toList_eq]
theorem words_check (s : Str) (hs : s.length < 1099511627776) (w : World) : Calls PP 22 #[.string (bs s)] w (Ret fun r w' => r = .bool (checkW s) ∧ w' = w) := by
  apply c22
  unfold S22
  rw [bs_size]
  refine ⟨fun x w1 => ∃ i : Nat, x = i ∧ i ≤ s.length ∧ (∀ (j : Nat) b, j < i → s[j]? = some b → letB b = true) ∧ w1 = w, fun x _ => (s.length - x).toNat, ⟨0, rfl, Nat.zero_le _, by intro j b h; omega, rfl⟩, ?_⟩
  rintro _ x w1 ⟨i, rfl, hi, hb, rfl⟩
  refine split_dec (fun hlt => ?_) (fun hge => ?_)
  · have hlt' : i < s.length := by omega
    refine ⟨⟨by omega, hlt⟩, ?_⟩
    have hsi : s[i]? = some s[i] := List.getElem?_eq_getElem hlt'
    rw [bt_bs s i hsi]
    refine CALL.i (words_letter s[i] w1) (by kernel_rfl) ?_
    rintro r w2 ⟨rfl, rfl⟩
    refine ⟨_, rfl, split_i (fun ht => ?_) (fun ht => ?_)⟩
    · refine ⟨?_, rfl⟩
      have hm : letB s[i] = false := by simpa using ht
      have : s.all letB = false := by
        rw [List.all_eq_false]
        exact ⟨s[i], List.getElem_mem hlt', by simp [hm]⟩
      simp [checkW, this]
    · have hm : letB s[i] = true := by simpa using ht
      refine ⟨⟨i + 1, wrapS (by omega), hlt', ?_, rfl⟩, mu_go (wrapS (by omega)) hlt'⟩
      intro j b hj hjb
      by_cases hji : j = i
      · subst hji
        rw [hsi] at hjb
        cases hjb
        exact hm
      · exact hb j b (by omega) hjb
  · have hall : s.all letB = true := by
      rw [List.all_eq_true]
      intro b hbm
      obtain ⟨j, hj⟩ := List.mem_iff_getElem?.1 hbm
      exact hb j b (by have := (List.getElem?_eq_some_iff.1 hj).1; omega) hj
    rw [bs_toList, bs_emp]
    cases s with
    | nil => exact ⟨rfl, rfl⟩
    | cons b l =>
      refine split_i (fun _ => ⟨?_, rfl⟩) (fun hc => by simp at hc)
      simp only [checkW, hall, List.isEmpty_cons, Bool.not_false, Bool.true_and]
      congr 1
      apply decide_eq_decide.2
      omega

/-- element i of a slice of texts -/
theorem Sl.stx {w : World} {F : Nat → Prop} {A : Option Addr} {n c : Nat} {xs : List Str} (h : Sl Lst w F A n c xs) {i : Nat} (hi : i < n) :
    ∃ a x, A = some a ∧ xs[i]? = some x ∧ World.cell? w (a.add (i * 1)) = some (.string (bs x)) := by
  obtain ⟨a, cs, x, h1, h2, h3, h4⟩ := h.get hi
  cases h3
  exact ⟨a, x, h1, h2, RD1 h4⟩

theorem indexFunc_str {A : Option Addr} {n c : Nat} {f : Value} {w : World} {F : Nat → Prop} {xs : List Str} (p : Str → Bool) (hs : Sl Lst w F A n c xs) (hn : n < 4611686018427387904)
    (hf : ∀ w1 x, x ∈ xs → Keep No w w1 → CALLV PP f [.string (bs x)] w1 fun r w2 => r = .bool (p x) ∧ Keep No w1 w2) :
    Calls PP 145 #[.slice A n c, f] w (Ret fun r w' => r = .int .i64 (idx p xs) ∧ Keep No w w') := by
  apply c145
  unfold S145
  refine ⟨fun x w1 => ∃ i : Nat, x = i ∧ i ≤ n ∧ Keep No w w1 ∧ ∀ (j : Nat) y, j < i → xs[j]? = some y → p y = false, fun x _ => (n - x).toNat, ⟨0, rfl, Nat.zero_le _, Keep.refl _ _, by intro j y h; omega⟩, ?_⟩
  rintro _ x w1 ⟨i, rfl, hi, hk, hb⟩
  refine split_dec (fun hlt => ?_) (fun hge => ?_)
  · have hlt' : i < n := by omega
    refine ⟨⟨by omega, hlt⟩, ?_⟩
    obtain ⟨a, x, hA, hx, hr⟩ := (hs.no hk).stx hlt'
    refine SOMEA.i hA ?_
    refine ⟨_, by rw [Int.toNat_natCast]; exact hr, ?_⟩
    refine CALLV.mono (hf w1 x (List.mem_of_getElem? hx) hk) ?_
    rintro r w2 ⟨rfl, hk2⟩
    refine ⟨_, rfl, split_i (fun ht => ⟨?_, hk.trans hk2⟩) (fun hf' => ⟨⟨i + 1, wrapS (by omega), hlt', hk.trans hk2, ?_⟩, mu_go (wrapS (by omega)) hlt'⟩)⟩
    · rw [idx_at hx ht hb]
    · intro j y hj hy
      by_cases hji : j = i
      · subst hji
        rw [hx] at hy
        cases hy
        exact hf'
      · exact hb j y (by omega) hy
  · refine ⟨?_, hk⟩
    rw [idx_none fun j y hy => hb j y ?_ hy]
    have := (List.getElem?_eq_some_iff.1 hy).1
    rw [hs.len] at this
    omega

theorem words_clean1 (s : Str) (hs : s.length < 1099511627776) (w : World) : Calls PP 114 #[.string (bs s)] w (Ret fun r w' => r = .bool (!checkW s) ∧ w' = w) := by
  apply c114
  unfold S114
  refine CALL.i (words_check s hs w) (by kernel_rfl) ?_
  rintro r w1 ⟨rfl, rfl⟩
  exact ⟨_, rfl, rfl, rfl⟩
theorem idx_any {α : Type} (p : α → Bool) (xs : List α) : decide (idx p xs ≥ 0) = xs.any p := by
  rcases idx_lt (p := p) (xs := xs) with ⟨h1, h2⟩ | ⟨i, x, h1, h2, h3, h4, h5⟩
  · rw [decide_eq_false (by omega)]
    rw [List.find?_eq_none] at h2
    symm
    rw [List.any_eq_false]
    intro x hx
    simpa using h2 x hx
  · rw [h1, decide_eq_true (by omega)]
    symm
    rw [List.any_eq_true]
    exact ⟨x, List.mem_of_getElem? h3, h4⟩
theorem words_anyBad {A : Option Addr} {n c : Nat} {w : World} {F : Nat → Prop} {xs : List Str} (hs : Sl Lst w F A n c xs) (hn : n < 4611686018427387904) (hx : ∀ x ∈ xs, x.length < 1099511627776) :
    Calls PP 113 #[.slice A n c, .func (.func 114) #[] #[]] w (Ret fun r w' => r = .bool (xs.any fun x => !checkW x) ∧ Keep No w w') := by
  apply c113
  unfold S113
  refine CALL.i (indexFunc_str (fun x => !checkW x) hs hn fun w1 x hxm hk => ?_) (by kernel_rfl) ?_
  · refine CALLV.i (CALL.i (words_clean1 x (hx x hxm) w1) (by kernel_rfl) ?_)
    rintro r w2 ⟨rfl, rfl⟩
    exact ⟨rfl, Keep.refl _ _⟩
  · rintro r w1 ⟨rfl, hk⟩
    refine ⟨_, rfl, ?_, hk⟩
    rw [idx_any]

/-! ## BinarySearch -/
theorem bytesLess_lt : ∀ a b : Str, Op.bytesLess a b = decide (a < b)
  | _, [] => by simp [Op.bytesLess]
  | [], b :: l => by simp [Op.bytesLess]
  | a :: x, b :: y => by
    have ih := bytesLess_lt x y
    simp only [Op.bytesLess, ih, List.cons_lt_cons_iff]
    by_cases h1 : a < b <;> by_cases h2 : a = b <;> simp [h1, h2]
theorem cmp_less (a b : Str) (w : World) : Calls PP 90 #[.string (bs a), .string (bs b)] w (Ret fun r w' => r = .bool (decide (a < b)) ∧ w' = w) := by
  have nan : ∀ a : Str, Calls PP 131 #[.string (bs a)] w (Ret fun r w' => r = .bool false ∧ w' = w) := fun a => c131 ⟨by simp, rfl⟩
  apply c90
  unfold S90
  refine CALL.i (nan a) (by kernel_rfl) ?_
  rintro r w1 ⟨rfl, rfl⟩
  refine ⟨_, rfl, ?_⟩
  refine split_i (fun hc => by cases hc) (fun _ => ⟨?_, rfl⟩)
  rw [bs_toList, bs_toList, bytesLess_lt]
theorem half_wrap {i j : Nat} (h : i + j < 4611686018427387904) : IntKind.wrap .i64 (Int.fdiv (IntKind.wrap .u64 (IntKind.wrap .i64 ((i : Int) + (j : Int)))) (2 ^ (min (Int.toNat (1 : Int)) 64))) = (((i + j) / 2 : Nat) : Int) := by
  have e1 : IntKind.wrap .i64 ((i : Int) + (j : Int)) = ((i + j : Nat) : Int) := by rw [wrap64 (by omega) (by omega)]; omega
  have e2 : IntKind.wrap .u64 (((i + j : Nat) : Int)) = ((i + j : Nat) : Int) := by
    simp only [IntKind.wrap, IntKind.bits, IntKind.signed]
    simp
    omega
  have e3 : (2 : Int) ^ (min (Int.toNat (1 : Int)) 64) = 2 := by decide
  have e4 : Int.fdiv ((i + j : Nat) : Int) 2 = (((i + j) / 2 : Nat) : Int) := by
    rw [Int.fdiv_eq_ediv_of_nonneg _ (by omega)]
    omega
  rw [e1, e2, e3, e4, wrap64 (by omega) (by omega)]
theorem words_search {A : Option Addr} {n c : Nat} {w : World} {F : Nat → Prop} {xs : List Str} (hs : Sl Lst w F A n c xs) (hn : n < 1000000000) (hso : xs.Pairwise (· ≤ ·)) (t : Str) :
    Calls PP 45 #[.slice A n c, .string (bs t)] w (Ret fun r w' => (∃ x : Int, r = .tuple #[.int .i64 x, .bool (xs.contains t)]) ∧ w' = w) := by
  have hlen := hs.len
  apply c45
  unfold S45
  refine ⟨fun x y w1 => ∃ i j : Nat, x = i ∧ y = j ∧ i ≤ j ∧ j ≤ n ∧ (∀ (q : Nat) s, q < i → xs[q]? = some s → s < t) ∧ (∀ (q : Nat) s, j ≤ q → xs[q]? = some s → ¬ s < t) ∧ w1 = w, fun x y _ => (y - x).toNat,
    ⟨0, n, rfl, rfl, Nat.zero_le _, Nat.le_refl _, (fun q s h => by omega), (fun q s h hq => by have := (List.getElem?_eq_some_iff.1 hq).1; omega), rfl⟩, ?_⟩
  rintro _ x y w1 ⟨i, j, rfl, rfl, hij, hjn, h1, h2, rfl⟩
  have mono : ∀ (q r : Nat) (a b : Str), q ≤ r → xs[q]? = some a → xs[r]? = some b → a ≤ b := by
    intro q r a b hqr ha hb
    rcases Nat.lt_or_ge q r with hlt | hge
    · have hr := (List.getElem?_eq_some_iff.1 hb).1
      have := List.pairwise_iff_getElem.1 hso q r (by omega) hr hlt
      rw [(List.getElem?_eq_some_iff.1 ha).2, (List.getElem?_eq_some_iff.1 hb).2] at this
      exact this
    · have : q = r := by omega
      subst this
      rw [ha] at hb
      cases hb
      exact List.le_refl _
  refine split_dec (fun hlt => ?_) (fun hge => ?_)
  · have hlt' : i < j := by omega
    rw [half_wrap (by omega)]
    have hm : (i + j) / 2 < n := by omega
    refine ⟨by kernel_rfl, by decide, by kernel_rfl, ⟨by omega, by omega⟩, ?_⟩
    obtain ⟨a, s, hA, hx, hr⟩ := hs.stx hm
    refine SOMEA.i hA ⟨_, by rw [Int.toNat_natCast]; exact hr, ?_⟩
    refine CALL.i (cmp_less s t w1) (by kernel_rfl) ?_
    rintro r w2 ⟨rfl, rfl⟩
    refine ⟨_, rfl, split_dec (fun hst => ?_) (fun hst => ?_)⟩
    · rw [wrapS (by omega)]
      refine ⟨⟨(i + j) / 2 + 1, j, rfl, rfl, by omega, hjn, ?_, h2, rfl⟩, ?_⟩
      · intro q u hq hu
        exact List.lt_of_le_of_lt (mono q _ u s (by omega) hu hx) hst
      · show ((j : Int) - (((i + j) / 2 + 1 : Nat) : Int)).toNat < ((j : Int) - (i : Int)).toNat
        omega
    · refine ⟨⟨i, (i + j) / 2, rfl, rfl, by omega, by omega, h1, ?_, rfl⟩, ?_⟩
      · intro q u hq hu hut
        exact hst (List.lt_of_le_of_lt (mono _ q s u hq hx hu) hut)
      · show ((((i + j) / 2 : Nat) : Int) - (i : Int)).toNat < ((j : Int) - (i : Int)).toNat
        omega
  · have hij' : i = j := by omega
    subst hij'
    have hcont : ∀ b : Bool, (b = true ↔ xs[i]? = some t) → b = xs.contains t := by
      intro b hb
      rw [Bool.eq_iff_iff, hb, List.contains_iff_mem]
      constructor
      · intro h; exact List.mem_of_getElem? h
      · intro h
        obtain ⟨q, hq⟩ := List.mem_iff_getElem?.1 h
        have hqi : i ≤ q := by
          rcases Nat.lt_or_ge q i with hlt | hge
          · exact absurd (h1 q t hlt hq) (List.lt_irrefl t)
          · exact hge
        have hqn := (List.getElem?_eq_some_iff.1 hq).1
        have hii : xs[i]? = some xs[i] := List.getElem?_eq_getElem (by omega)
        have hle := mono i q _ t hqi hii hq
        have hnl := h2 i _ (Nat.le_refl _) hii
        rw [hii, List.le_antisymm hle (List.not_lt.1 hnl)]
    refine split_dec (fun hin => ?_) (fun hin => ?_)
    · have hin' : i < n := by omega
      obtain ⟨a, s, hA, hx, hr⟩ := hs.stx hin'
      refine ⟨⟨by omega, by omega⟩, SOMEA.i hA ⟨_, by rw [Int.toNat_natCast]; exact hr, ?_⟩⟩
      rw [bs_toList, bs_toList]
      refine split_i (fun he => ?_) (fun he => ?_)
      · have hst : s = t := by simpa using he
        refine ⟨⟨(i : Int), ?_⟩, rfl⟩
        rw [← hcont true ⟨fun _ => by rw [hx, hst], fun _ => rfl⟩]
      · have hst : s ≠ t := by simpa using he
        refine ⟨⟨by omega, by omega⟩, SOMEA.i hA ⟨_, by rw [Int.toNat_natCast]; exact hr, ?_⟩⟩
        refine CALL.i (R := fun r w' => r = .bool false ∧ w' = w1) (c91 ⟨by simp, rfl⟩) (by kernel_rfl) ?_
        rintro r w2 ⟨rfl, rfl⟩
        refine ⟨_, rfl, split_i (fun hc => by cases hc) (fun _ => ⟨⟨(i : Int), ?_⟩, rfl⟩)⟩
        rw [← hcont false ⟨(fun h => by cases h), fun h => by rw [hx] at h; exact absurd (Option.some.inj h) hst⟩]
    · refine ⟨⟨(i : Int), ?_⟩, rfl⟩
      rw [← hcont false ⟨(fun h => by cases h), fun h => by have := (List.getElem?_eq_some_iff.1 h).1; omega⟩]
end Go.SW
set_option linter.unusedVariables false
namespace Go.SW
open Go Go.Proofs Pl

theorem clone_strs {A : Option Addr} {n c : Nat} {w : World} {F G : Nat → Prop} {xs : List Str} (hs : Sl Lst w F A n c xs) (hA : A = none → n = 0) (hn : n < 1000000000) (hG : ∀ k, G k → k < w.heap.size) :
    Calls PP 115 #[.slice A n c] w (Ret fun r w' => ∃ A' c', r = .slice A' n c' ∧ Keep No w w' ∧ Own Lst 9 w' G A' n c' xs ∧ ∀ k, ownBlk A' k → w.heap.size ≤ k) := by
  apply c115
  unfold S115
  refine split_i (fun h => ?_) (fun h => ?_)
  · have h0 : A = none := Option.isNone_iff_eq_none.1 h
    have hn0 := hA h0
    subst hn0
    have hx : xs = [] := List.eq_nil_of_length_eq_zero hs.len
    subst hx
    exact ⟨none, 0, rfl, Keep.refl _ _, Own.nil _ _ _ _, fun k hk => False.elim hk⟩
  · refine NEW.i fun b w1 hb hs1 k1 a1 => ?_
    have hs' := hs.no k1
    have hO : Own Lst 9 w1 G (some ⟨b, 0, none⟩) 0 0 ([] : List Str) := Own.new a1 (fun hc => by have := hG b hc; omega) rfl (by simp) (Row.nil _ _ _ _ _)
    refine append_sl T9 Lst_plain hO hs' (by omega) ?_ (fun k hk => by have := hG k hk; omega)
    intro A' c' w' hk hb' hsz hO'
    refine ⟨_, _, _, rfl, A', c', by simp, ?_, by simpa using hO', ?_⟩
    · exact k1.fresh hk (fun k hk => by rw [show k = b from hk]; exact Nat.le_of_eq hb)
    · intro k hk'
      rcases hb' k hk' with h1 | h1
      · rw [show k = b from h1]; exact Nat.le_of_eq hb
      · omega
theorem compact_strs {w : World} {A : Option Addr} {n c : Nat} {xs : List Str} (h : Own Lst 9 w No A n c xs) (hn : n < 4611686018427387904) :
    Calls PP 116 #[.slice A n c] w (Ret fun r w' => r = .slice A (Lib.compact xs).length c ∧ Keep (ownBlk A) w w' ∧ Own Lst 9 w' No A (Lib.compact xs).length c (Lib.compact xs)) := by
  have hlen := h.len
  subst hlen
  have hcl := Lib.compact_length_le xs
  by_cases h0 : xs.length = 0
  · have hx := List.eq_nil_of_length_eq_zero h0
    subst hx
    refine (Tryz.slices_Compact_string_empty A c w).mono ?_
    rintro e w' ⟨rfl, rfl⟩
    exact ⟨rfl, Keep.refl _ _, h⟩
  · rcases h.row with ⟨rfl, hc0⟩ | ⟨g, l, rfl, hFg, hat, hll, hrow⟩
    · have := h.cap; omega
    · have hcap := h.cap
      have hle : xs.length ≤ l.length := by
        rw [hll]; show xs.length ≤ c * 1; omega
      have hiff := fun (l' : List Value) (ys : List Str) (hl' : ys.length ≤ l'.length) (w' : World) => row_take (L := Lst) (enc := fun l => .string (bs l)) (w := w') (F := No) rfl (fun _ _ _ _ => Iff.rfl) hl'
      have ht := (hiff l xs hle w).1 hrow
      refine (Tryz.slices_Compact_string g 0 c xs w (holds_of_block (e := 9) (cur := ⟨l⟩) hat ht) (by omega) hcap).mono ?_
      rintro e w' ⟨rfl, m, rfl⟩
      generalize hts : Lib.compact xs ++ List.replicate (xs.length - (Lib.compact xs).length) [] = ts
      have htl : ts.length = xs.length := by rw [← hts]; simp; omega
      have hk := keep_grown (grownBy_sorted (w := w) (g := g) (n := m) (os := #[]) ts.toArray)
      have ha := heap_sorted (n := m) (os := #[]) ts.toArray hat
      rw [Sort.grow_empty] at hk ha
      have hps : ∀ d : Array (List UInt8), (Sort.putCells encStr 0 d ⟨l⟩).toList.length = l.length := fun d => by
        rw [Array.length_toList]
        exact Array.size_mapIdx
      refine ⟨rfl, hk.mono (fun k _ he => he), ?_⟩
      have hO : Own Lst 9 (Sort.putRow encStr (Sort.ahead w m) g 0 ts.toArray) No (some ⟨g, 0, none⟩) xs.length c ts := by
        refine ⟨htl, h.cap, .inr ⟨g, (Sort.putCells encStr 0 ts.toArray ⟨l⟩).toList, rfl, hFg, ha, ?_, ?_⟩⟩
        · rw [hps]; exact hll
        · refine (hiff _ _ ?_ _).2 ?_
          · rw [htl, hps]
            exact hle
          · exact take_putCells ⟨l⟩ ts (by rw [htl]; exact hle)
      have := hO.pre hcl
      rw [← hts] at this ⊢
      simpa using this

/-! ## Clean -/
theorem putW_mem {w x : Str} : ∀ {l : List Str}, x ∈ putW w l ↔ x = w ∨ x ∈ l
  | [] => by simp [putW]
  | y :: l => by
    have ih := putW_mem (w := w) (x := x) (l := l)
    unfold putW
    split
    · simp only [List.mem_cons, ih]
      constructor
      · rintro (h | h | h)
        · exact .inr (.inl h)
        · exact .inl h
        · exact .inr (.inr h)
      · rintro (h | h | h)
        · exact .inr (.inl h)
        · exact .inl h
        · exact .inr (.inr h)
    · split
      · rename_i h1 h2
        subst h2
        simp
      · simp
theorem putW_sorted {w : Str} : ∀ {l : List Str}, l.Pairwise (· < ·) → (putW w l).Pairwise (· < ·)
  | [], _ => by simp [putW]
  | y :: l, h => by
    have ih := putW_sorted (w := w) (List.pairwise_cons.1 h).2
    have hy := (List.pairwise_cons.1 h).1
    unfold putW
    split
    · rename_i h1
      refine List.pairwise_cons.2 ⟨fun x hx => ?_, ih⟩
      rcases putW_mem.1 hx with rfl | hx
      · exact h1
      · exact hy x hx
    · rename_i h1
      split
      · exact h
      · rename_i h2
        have hwy : w < y := by
          rcases List.le_total w y with hle | hle
          · rcases (List.le_iff_lt_or_eq.1 hle) with h3 | h3
            · exact h3
            · exact absurd h3.symm h2
          · rcases (List.le_iff_lt_or_eq.1 hle) with h3 | h3
            · exact absurd h3 h1
            · exact absurd h3 h2
        exact List.pairwise_cons.2 ⟨fun x hx => by
          rcases List.mem_cons.1 hx with rfl | hx
          · exact hwy
          · exact List.lt_trans hwy (hy x hx), h⟩
theorem foldl_putW : ∀ (l a : List Str), a.Pairwise (· < ·) → (l.foldl (fun a w => putW w a) a).Pairwise (· < ·) ∧ ∀ x, x ∈ l.foldl (fun a w => putW w a) a ↔ x ∈ l ∨ x ∈ a
  | [], a, h => ⟨h, by simp⟩
  | w :: l, a, h => by
    obtain ⟨h1, h2⟩ := foldl_putW l (putW w a) (putW_sorted h)
    refine ⟨h1, fun x => ?_⟩
    rw [List.foldl_cons, h2 x, putW_mem, List.mem_cons]
    constructor
    · rintro (h | h | h)
      · exact .inl (.inr h)
      · exact .inl (.inl h)
      · exact .inr h
    · rintro ((h | h) | h)
      · exact .inr (.inl h)
      · exact .inl h
      · exact .inr (.inr h)
theorem sortW_sorted (l : List Str) : (sortW l).Pairwise (· < ·) := (foldl_putW l [] List.Pairwise.nil).1
theorem sortW_mem (l : List Str) (x : Str) : x ∈ sortW l ↔ x ∈ l := by
  have := (foldl_putW l [] List.Pairwise.nil).2 x
  unfold sortW
  rw [this]
  simp
/-- two lists that rise and hold the same are the same -/
theorem rising_ext {l l' : List Str} (h : l.Pairwise (· < ·)) (h' : l'.Pairwise (· < ·)) (hm : ∀ x, x ∈ l ↔ x ∈ l') : l = l' := by
  have nd : ∀ {l : List Str}, l.Pairwise (· < ·) → l.Nodup := by
    intro l h
    unfold List.Nodup
    refine h.imp ?_
    intro a b hab he
    subst he
    exact List.lt_irrefl _ hab
  refine List.Perm.eq_of_pairwise (le := fun a b : Str => a < b) (fun a b _ _ h1 h2 => absurd (List.lt_trans h1 h2) (List.lt_irrefl a)) h h' ((List.perm_ext_iff_of_nodup (nd h) (nd h')).2 hm)

theorem compact_inv {xs : List Str} (hs : xs.Pairwise (· ≤ ·)) : ∀ m, m ≤ xs.length → (Lib.compactUpTo xs.toArray m).Pairwise (· < ·) ∧ ∀ x, x ∈ Lib.compactUpTo xs.toArray m ↔ ∃ j, j < m ∧ xs[j]? = some x
  | 0, _ => by simp [Lib.compactUpTo]
  | m + 1, hm => by
    obtain ⟨h1, h2⟩ := compact_inv hs m (by omega)
    have get : ∀ j, j < xs.length → xs[j]? = some (xs.toArray[j]!) := fun j hj => by simp [hj]
    have le : ∀ i j, i ≤ j → j < xs.length → xs.toArray[i]! ≤ xs.toArray[j]! := by
      intro i j hij hj
      rcases Nat.lt_or_ge i j with hlt | hge
      · have := List.pairwise_iff_getElem.1 hs i j (by omega) hj hlt
        simpa [hj, show i < xs.length by omega] using this
      · have : i = j := by omega
        subst this
        exact List.le_refl _
    rw [Lib.compactUpTo_succ]
    cases hk : Lib.keeps xs.toArray m with
    | true =>
      simp only [if_true]
      have hlt : ∀ x ∈ Lib.compactUpTo xs.toArray m, x < xs.toArray[m]! := by
        intro x hx
        obtain ⟨j, hj, hxj⟩ := (h2 x).1 hx
        rw [get j (by omega)] at hxj
        cases hxj
        have hm0 : m ≠ 0 := by omega
        have hne : xs.toArray[m]! ≠ xs.toArray[m - 1]! := by
          simp only [Lib.keeps, decide_eq_true_eq] at hk
          exact hk.resolve_left hm0
        have a1 := le j (m - 1) (by omega) (by omega)
        have a2 := le (m - 1) m (by omega) (by omega)
        rcases List.le_iff_lt_or_eq.1 a2 with h3 | h3
        · exact List.lt_of_le_of_lt a1 h3
        · exact absurd h3.symm hne
      refine ⟨List.pairwise_append.2 ⟨h1, by simp, fun a ha b hb => by rw [List.mem_singleton.1 hb]; exact hlt a ha⟩, fun x => ?_⟩
      rw [List.mem_append, h2, List.mem_singleton]
      constructor
      · rintro (⟨j, hj, hx⟩ | rfl)
        · exact ⟨j, by omega, hx⟩
        · exact ⟨m, by omega, get m (by omega)⟩
      · rintro ⟨j, hj, hx⟩
        rcases Nat.lt_or_ge j m with hlt' | hge
        · exact .inl ⟨j, hlt', hx⟩
        · have : j = m := by omega
          subst this
          rw [get j (by omega)] at hx
          exact .inr (Option.some.inj hx).symm
    | false =>
      simp only [Bool.false_eq_true, if_false, List.append_nil]
      refine ⟨h1, fun x => ?_⟩
      rw [h2]
      constructor
      · rintro ⟨j, hj, hx⟩
        exact ⟨j, by omega, hx⟩
      · rintro ⟨j, hj, hx⟩
        rcases Nat.lt_or_ge j m with hlt' | hge
        · exact ⟨j, hlt', hx⟩
        · have : j = m := by omega
          subst this
          have hk' : ¬ (j = 0 ∨ xs.toArray[j]! ≠ xs.toArray[j - 1]!) := by simpa [Lib.keeps] using hk
          have hj0 : j ≠ 0 := fun h => hk' (.inl h)
          have he : xs.toArray[j]! = xs.toArray[j - 1]! := Classical.byContradiction fun h => hk' (.inr h)
          refine ⟨j - 1, by omega, ?_⟩
          rw [get (j - 1) (by omega), ← he, ← get j (by omega)]
          exact hx
theorem sortS_sorted (l : List Str) : (sortS l).Pairwise (· ≤ ·) := by
  refine List.Pairwise.imp (R := fun a b : Str => decide (a ≤ b) = true) (fun h => by simpa using h) (List.pairwise_mergeSort ?_ ?_ l)
  · intro a b c h1 h2
    simp only [decide_eq_true_eq] at h1 h2 ⊢
    exact List.le_trans h1 h2
  · intro a b
    rcases List.le_total a b with h | h <;> simp [h]
theorem compact_sortS (l : List Str) : Lib.compact (sortS l) = sortW l := by
  obtain ⟨h1, h2⟩ := compact_inv (sortS_sorted l) (sortS l).length (Nat.le_refl _)
  refine rising_ext h1 (sortW_sorted l) fun x => ?_
  have hp : x ∈ sortS l ↔ x ∈ l := (List.mergeSort_perm l _).mem_iff
  rw [sortW_mem, ← hp]
  have e : x ∈ Lib.compact (sortS l) ↔ ∃ j, j < (sortS l).length ∧ (sortS l)[j]? = some x := h2 x
  rw [e]
  constructor
  · rintro ⟨j, hj, hx⟩; exact List.mem_of_getElem? hx
  · intro hx
    obtain ⟨j, hj⟩ := List.mem_iff_getElem?.1 hx
    exact ⟨j, (List.getElem?_eq_some_iff.1 hj).1, hj⟩

theorem words_clean {A : Option Addr} {n c : Nat} {w : World} {F : Nat → Prop} {xs : List Str} (hs : Sl Lst w F A n c xs) (hA : A = none → n = 0) (hx : ∀ x ∈ xs, x.length < 1099511627776) :
    Calls PP 73 #[.slice A n c] w (Ret fun r w' => Keep No w w' ∧ match cleanW xs with
      | none => r = .tuple #[.slice none 0 0, .int .i64 4]
      | some l => ∃ A' c', r = .tuple #[.slice A' l.length c', .int .i64 0] ∧ Own Lst 9 w' No A' l.length c' l ∧ ∀ j, ownBlk A' j → w.heap.size ≤ j) := by
  have hlen := hs.len
  apply c73
  unfold S73
  have bad : ∀ w1, Keep No w w1 → cleanW xs = none → (Keep No w w1 ∧ match cleanW xs with
      | none => (.tuple #[.slice none 0 0, .int .i64 4] : Value) = .tuple #[.slice none 0 0, .int .i64 4]
      | some l => ∃ A' c', (.tuple #[.slice none 0 0, .int .i64 4] : Value) = .tuple #[.slice A' l.length c', .int .i64 0] ∧ Own Lst 9 w1 No A' l.length c' l ∧ ∀ j, ownBlk A' j → w.heap.size ≤ j) := by
    intro w1 hk he
    rw [he]
    exact ⟨hk, rfl⟩
  refine ⟨fun w1 => Keep No w w1 ∧ n ≠ 0 ∧ n ≤ 8 ∧ (xs.any fun x => !checkW x) = false, ?_, ?_⟩
  · refine split_i (fun h0 => bad w (Keep.refl _ _) ?_) (fun h0 => ?_)
    · have hn0 : n = 0 := by simpa using h0
      have : xs = [] := List.eq_nil_of_length_eq_zero (hlen.trans hn0)
      subst this
      simp [cleanW]
    · have hn0 : n ≠ 0 := by
        intro h
        subst h
        simp at h0
      refine split_dec (fun h8 => bad w (Keep.refl _ _) ?_) (fun h8 => ?_)
      · have : 8 < xs.length := by omega
        simp [cleanW, this]
      · refine CALL.i (words_anyBad hs (by omega) hx) (by kernel_rfl) ?_
        rintro r w1 ⟨rfl, hk⟩
        refine ⟨_, rfl, split_i (fun hb => bad w1 hk ?_) (fun hb => ⟨hk, hn0, by omega, hb⟩)⟩
        simp only [cleanW, hb, Bool.or_true, if_true]
  · rintro _ w1 ⟨hk, hn0, hn8, hb⟩
    refine CALL.i (clone_strs (G := No) (hs.no hk) hA (by omega) (fun k h => False.elim h)) (by kernel_rfl) ?_
    rintro r w2 ⟨A2, c2, rfl, k2, o2, f2⟩
    refine ⟨_, _, _, rfl, ?_⟩
    refine CALL.i (sort_str o2 (by omega)) (by kernel_rfl) ?_
    rintro r w3 ⟨rfl, k3, o3⟩
    refine ⟨rfl, ?_⟩
    refine CALL.i (compact_strs o3 (by omega)) (by kernel_rfl) ?_
    rintro r w4 ⟨rfl, k4, o4⟩
    refine ⟨_, _, _, rfl, ?_⟩
    have hne : xs.isEmpty = false := by
      cases xs with
      | nil => simp at hlen; omega
      | cons _ _ => rfl
    have h8 : ¬ 8 < xs.length := by omega
    have he : cleanW xs = some (sortW xs) := by
      simp only [cleanW, hne, hb, decide_eq_false h8, Bool.or_false, Bool.false_eq_true, if_false]
    rw [he]
    rw [compact_sortS] at o4 ⊢
    refine ⟨((hk.trans k2).fresh k3 (fun j hj => by have := f2 j hj; have := hk.size; omega)).fresh k4 (fun j hj => by have := f2 j hj; have := hk.size; omega), A2, c2, rfl, o4, fun j hj => by have := f2 j hj; have := hk.size; omega⟩
end Go.SW
