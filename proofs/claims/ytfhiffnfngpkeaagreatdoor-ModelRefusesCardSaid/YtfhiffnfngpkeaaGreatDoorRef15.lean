/- The document's words: put, Of, Check, Clean, Has. -/
import Derived.Test.YtfhiffnfngpkeaaGreatDoorWords3
import Derived.Test.YtfhiffnfngpkeaaGreatDoorModel1
import Derived.Test.YtfhiffnfngpkeaaGreatDoorSRefs
import Derived.Test.YtfhiffnfngpkeaaGreatDoorModel3
set_option linter.unusedVariables false
namespace Go.SW
open Go Go.Proofs Pl

/-- blocks of F, or new ones -/
def Gn (F : Nat → Prop) (w w' : World) : Nat → Prop := fun j => F j ∨ (w.heap.size ≤ j ∧ j < w'.heap.size)
theorem Gn.later {F : Nat → Prop} {w w' w'' : World} (h : w'.heap.size ≤ w''.heap.size) {j : Nat} (hj : Gn F w w' j) : Gn F w w'' j := hj.imp id (fun h' => ⟨h'.1, by omega⟩)
theorem Sl.sub {α : Type} {L : Ly α} {w : World} {F : Nat → Prop} {A : Option Addr} {n c : Nat} {xs : List α} (h : Sl L w F A n c xs) {i j : Nat} (hij : i ≤ j) (hj : j ≤ n) : Sl L w F (SLA A c i L.sz) (j - i) (c - i) ((xs.drop i).take (j - i)) := by
  have hlen := h.len
  have hcap := h.cap
  refine ⟨by simp; omega, by omega, ?_⟩
  rcases Nat.eq_zero_or_pos (j - i) with h0 | hpos
  · exact .inl h0
  · right
    rcases h.row with h0 | ⟨b, off, l, t, fr, h1, h2, h3, h4, h5⟩
    · omega
    · refine ⟨b, off + i * L.sz, l, t, fr, ?_, h2, h3, ?_, ?_⟩
      · unfold SLA
        rw [if_neg (by omega), h1]
        simp [add_off]
      · have : i * L.sz + (j - i) * L.sz = j * L.sz := by rw [← Nat.add_mul]; congr 1; omega
        have : j * L.sz ≤ n * L.sz := Nat.mul_le_mul_right _ hj
        omega
      · intro q x hx
        rw [List.getElem?_take] at hx
        split at hx
        · rw [List.getElem?_drop] at hx
          obtain ⟨cs, e1, e2⟩ := h5 (i + q) x hx
          refine ⟨cs, ?_, e2⟩
          rw [show off + i * L.sz + q * L.sz = off + (i + q) * L.sz by rw [Nat.add_mul]; omega]
          exact e1
        · cases hx
theorem Own.gn {α : Type} {L : Ly α} {e : TypeId} {w w' : World} {F : Nat → Prop} {A : Option Addr} {n c : Nat} {xs : List α} (h : Own L e w' No A n c xs) (hA : ∀ j, ownBlk A j → w.heap.size ≤ j) : Sl L w' (Gn F w w') A n c xs :=
  h.sl.mono fun j hj => hj.elim (fun h => False.elim h) (fun h' => .inr ⟨hA j h', h.lt j h'⟩)

theorem putW_at {s : Str} : ∀ {xs : List Str} {at_ : Nat}, at_ ≤ xs.length → (∀ (j : Nat) x, j < at_ → xs[j]? = some x → x < s) → (∀ x, xs[at_]? = some x → ¬ x < s) → putW s xs = if xs[at_]? = some s then xs else xs.take at_ ++ s :: xs.drop at_
  | [], at_, h, _, _ => by simp [putW] at h ⊢
  | x :: xs, 0, _, _, h2 => by
    have hx := h2 x rfl
    unfold putW
    rw [if_neg hx]
    simp only [List.getElem?_cons_zero, Option.some.injEq, List.take_zero, List.drop_zero, List.nil_append]
  | x :: xs, k + 1, h, h1, h2 => by
    have hx := h1 0 x (by omega) rfl
    have ih := putW_at (s := s) (xs := xs) (at_ := k) (by simp at h; omega) (fun j y hj hy => h1 (j + 1) y (by omega) (by simpa using hy)) (fun y hy => h2 y (by simpa using hy))
    unfold putW
    rw [if_pos hx, ih]
    simp only [List.getElem?_cons_succ, List.take_succ_cons, List.drop_succ_cons, List.cons_append]
    split <;> rfl
theorem putW_len (s : Str) : ∀ xs : List Str, (putW s xs).length ≤ xs.length + 1
  | [] => by simp [putW]
  | x :: xs => by
    have := putW_len s xs
    unfold putW
    split
    · simp; omega
    · split <;> simp

theorem ref_put {A : Option Addr} {n c : Nat} {w : World} {F : Nat → Prop} {xs : List Str} (s : Str) (hs : Sl Lst w F A n c xs) (hn : n < 1000000000) :
    Calls PP 133 #[.slice A n c, .string (bs s)] w (Ret fun r w' => ∃ A' c', r = .slice A' (putW s xs).length c' ∧ Keep No w w' ∧ Sl Lst w' (Gn F w w') A' (putW s xs).length c' (putW s xs)) := by
  refine c133 ?_
  unfold S133
  have hlen := hs.len
  have hcap := hs.cap
  refine ⟨fun x w1 => w1 = w ∧ ∃ i : Nat, x = i ∧ i ≤ n ∧ (∀ (j : Nat) y, j < i → xs[j]? = some y → y < s) ∧ (∀ y, xs[i]? = some y → ¬ y < s), ?_, ?_⟩
  · refine ⟨fun x w1 => w1 = w ∧ ∃ i : Nat, x = i ∧ i ≤ n ∧ (∀ (j : Nat) y, j < i → xs[j]? = some y → y < s), fun x _ => ((n : Int) - x).toNat, ⟨rfl, 0, rfl, Nat.zero_le _, by intro j y h; omega⟩, ?_⟩
    rintro _ x w1 ⟨rfl, i, rfl, hi, hb⟩
    refine split_dec (fun hlt => ?_) (fun hge => ⟨rfl, i, rfl, hi, hb, fun y hy => ?_⟩)
    · have hlt' : i < n := by omega
      refine ⟨⟨by omega, hlt⟩, ?_⟩
      obtain ⟨a, y, hA, hy, hr⟩ := hs.stx hlt'
      refine SOMEA.i hA ⟨_, by rw [Int.toNat_natCast]; exact hr, ?_⟩
      rw [bs_toList, bs_toList, bytesLess_lt]
      refine split_dec (fun hl => ⟨⟨rfl, i + 1, wrapS (by omega), hlt', ?_⟩, mu_go (wrapS (by omega)) hlt'⟩) (fun hl => ⟨rfl, i, rfl, hi, hb, fun y' hy' => ?_⟩)
      · intro j z hj hz
        by_cases hji : j = i
        · subst hji
          rw [hy] at hz
          cases hz
          exact hl
        · exact hb j z (by omega) hz
      · rw [hy] at hy'
        cases hy'
        exact hl
    · have := (List.getElem?_eq_some_iff.1 hy).1
      omega
  · rintro _ x w1 ⟨rfl, i, rfl, hi, hb1, hb2⟩
    have hput := putW_at (s := s) (xs := xs) (at_ := i) (by omega) hb1 hb2
    refine ⟨fun w2 => w2 = w1 ∧ xs[i]? ≠ some s, ?_, ?_⟩
    · refine split_dec (fun hlt => ?_) (fun hge => ⟨rfl, fun hc => by have := (List.getElem?_eq_some_iff.1 hc).1; omega⟩)
      have hlt' : i < n := by omega
      refine ⟨⟨by omega, hlt⟩, ?_⟩
      obtain ⟨a, y, hA, hy, hr⟩ := hs.stx hlt'
      refine SOMEA.i hA ⟨_, by rw [Int.toNat_natCast]; exact hr, ?_⟩
      rw [bs_toList, bs_toList]
      refine split_i (fun he => ?_) (fun he => ⟨rfl, fun hc => ?_⟩)
      · have he' : y = s := by simpa using he
        subst he'
        rw [hput, if_pos hy, hlen]
        exact ⟨A, c, rfl, Keep.refl _ _, hs.mono fun j hj => .inl hj⟩
      · rw [hy] at hc
        have := Option.some.inj hc
        rw [this] at he
        simp at he
    · rintro _ w2 ⟨rfl, hne⟩
      rw [if_neg hne] at hput
      refine DRAW.i fun w3 hw3 q3 => ⟨⟨by omega, by omega⟩, ⟨by omega, by omega⟩, ?_⟩
      have hw3s : w3.heap.size = w2.heap.size := by rw [hw3]
      have hs3 := hs.no q3
      have e1 := hs3.sub (i := 0) (j := i) (Nat.zero_le _) hi
      have e2 := hs3.sub (i := i) (j := n) hi (Nat.le_refl _)
      rw [List.drop_zero] at e1
      have e2' : (xs.drop i).take (n - i) = xs.drop i := List.take_of_length_le (by simp; omega)
      rw [e2'] at e2
      rw [Int.toNat_natCast]
      have fin : ∀ (w7 : World) (A40 : Option Addr) (c40 : Nat), Keep No w3 w7 → Own Lst 9 w7 No A40 (i - 0 + 1) c40 (xs.take (i - 0) ++ [s]) → (∀ j, ownBlk A40 j → w3.heap.size ≤ j) →
          RUN PP (Builtin.append_ #[26, 26] 26 #[(.slice A40 (i - 0 + 1) c40), (.slice (SLA A c i 1) (n - i) (c - i))]) w7 fun r44 w8 =>
          ∃ (A44 : Option Addr) (n44 : Nat) (c44 : Nat), r44 = (.slice A44 n44 c44) ∧
          ∃ A' c', (Value.slice A44 n44 c44) = .slice A' (putW s xs).length c' ∧ Keep No w2 w8 ∧ Sl Lst w8 (Gn F w2 w8) A' (putW s xs).length c' (putW s xs) := by
        intro w7 A40 c40 q7 o7 f7
        refine append_sl T9 Lst_plain o7 (e2.no q7) (by omega) ?_ (fun j h => False.elim h)
        intro A' c' w8 q8 hb8 hs8 o8
        refine ⟨_, _, _, rfl, A', c', ?_, (q3.trans q7).fresh q8 (fun j hj => by have := f7 j hj; omega), ?_⟩
        · rw [hput]
          simp
          omega
        · have : putW s xs = (xs.take (i - 0) ++ [s]) ++ xs.drop i := by rw [hput]; simp
          rw [this]
          have hl8 := o8.len
          rw [hl8]
          exact o8.gn (fun j hj => by
            rcases hb8 j hj with h | h
            · have := f7 j h; omega
            · have := q7.size; omega)
      have run2 : ∀ (w5 : World) (k33 k39 : Nat), Keep No w3 w5 → w3.heap.size ≤ k33 → At w5 k33 (.cells ⟨[]⟩ 9 (0, 0)) → k39 ≠ k33 → w3.heap.size ≤ k39 → At w5 k39 (.cells ⟨[.string (bs s)]⟩ 9 (0, 0)) →
          RUN PP (Builtin.append_ #[26, 26] 26 #[(.slice (some ⟨k33, 0, none⟩) 0 0), (.slice (SLA A c 0 1) (i - 0) (c - 0))]) w5 fun r37 w6 =>
          ∃ (A37 : Option Addr) (n37 : Nat) (c37 : Nat), r37 = (.slice A37 n37 c37) ∧
          RUN PP (Builtin.append_ #[26, 26] 26 #[(.slice A37 n37 c37), (.slice (some ⟨k39, 0, none⟩) 1 1)]) w6 fun r40 w7 =>
          ∃ (A40 : Option Addr) (n40 : Nat) (c40 : Nat), r40 = (.slice A40 n40 c40) ∧
          RUN PP (Builtin.append_ #[26, 26] 26 #[(.slice A40 n40 c40), (.slice (SLA A c i 1) (n - i) (c - i))]) w7 fun r44 w8 =>
          ∃ (A44 : Option Addr) (n44 : Nat) (c44 : Nat), r44 = (.slice A44 n44 c44) ∧
          ∃ A' c', (Value.slice A44 n44 c44) = .slice A' (putW s xs).length c' ∧ Keep No w2 w8 ∧ Sl Lst w8 (Gn F w2 w8) A' (putW s xs).length c' (putW s xs) := by
        intro w5 k33 k39 q5 l33 a33 hne39 l39 a39
        have hO : Own Lst 9 w5 No (some ⟨k33, 0, none⟩) 0 0 ([] : List Str) := Own.new a33 (fun h => h) rfl rfl (Row.nil _ _ _ _ _)
        refine append_sl T9 Lst_plain hO (e1.no q5) (by omega) ?_ (fun j h => False.elim h)
        intro A' c' w6 q6 hb6 hs6 o6
        rw [Nat.zero_add, List.nil_append] at o6
        refine ⟨_, _, _, rfl, ?_⟩
        have q6' : Keep (fun j => j = k33) w5 w6 := q6
        have f6 : ∀ j, ownBlk A' j → w3.heap.size ≤ j := fun j hj => by
          rcases hb6 j hj with h | h
          · have : j = k33 := h
            omega
          · have := q5.size; omega
        have a39' := q6'.at_ a39 hne39
        rw [Nat.zero_add]
        refine append_one T9 o6 a39' (x := s) rfl (by omega) ?_ (fun j h => False.elim h)
        intro A2 c2 w7 q7 hb7 hs7 o7
        refine ⟨_, _, _, rfl, ?_⟩
        have z6 : Keep No w3 w6 := q5.fresh q6' (fun j hj => by omega)
        exact fin w7 A2 c2 (z6.fresh q7 f6) o7 (own_fresh hb7 f6 z6.size)
      refine ⟨?_, ?_⟩
      · refine NEW.i fun k33 w4 hk33 hs4 q4 a4 => ⟨?_, ?_⟩
        · have hO : Own Lst 9 w4 No (some ⟨k33, 0, none⟩) 0 0 ([] : List Str) := Own.new a4 (fun h => h) rfl rfl (Row.nil _ _ _ _ _)
          refine append_sl T9 Lst_plain hO (e1.no q4) (by omega) ?_ (fun j h => False.elim h)
          intro A' c' w5 q5 hb5 hs5 o5
          rw [Nat.zero_add, List.nil_append] at o5
          have q5' : Keep (fun j => j = k33) w4 w5 := q5
          have f5 : ∀ j, ownBlk A' j → w3.heap.size ≤ j := fun j hj => by
            rcases hb5 j hj with h | h
            · have : j = k33 := h
              omega
            · omega
          have z5 : Keep No w3 w5 := q4.fresh q5' (fun j hj => by omega)
          refine ⟨_, _, _, rfl, ?_⟩
          rw [Nat.zero_add]
          refine NEW.i fun k39 w6 hk39 hs6 q6 a6 => ?_
          refine append_one T9 (o5.no q6) a6 (x := s) rfl (by omega) ?_ (fun j h => False.elim h)
          intro A2 c2 w7 q7 hb7 hs7 o7
          exact ⟨_, _, _, rfl, fin w7 A2 c2 ((z5.trans q6).fresh q7 f5) o7 (own_fresh hb7 f5 (z5.trans q6).size)⟩
        · refine NEW.i fun k39 w5 hk39 hs5 q5 a5 => ?_
          exact run2 w5 k33 k39 (q4.trans q5) (by omega) (a4.no q5) (by omega) (by omega) a5
      · refine NEW.i fun k39 w4 hk39 hs4 q4 a4 => NEW.i fun k33 w5 hk33 hs5 q5 a5 => ?_
        exact run2 w5 k33 k39 (q4.trans q5) (by omega) a5 (by omega) (by omega) (a4.no q5)
end Go.SW
set_option linter.unusedVariables false
namespace Go.SW
open Go Go.Proofs Pl

theorem Sl.gn2 {α : Type} {L : Ly α} {w w5 w6 : World} {F : Nat → Prop} {A : Option Addr} {n c : Nat} {xs : List α} (h : Sl L w6 (Gn (Gn F w w5) w5 w6) A n c xs) (h1 : w.heap.size ≤ w5.heap.size) (h2 : w5.heap.size ≤ w6.heap.size) : Sl L w6 (Gn F w w6) A n c xs :=
  h.mono fun j hj => by
    rcases hj with (hj | hj) | hj
    · exact .inl hj
    · exact .inr ⟨hj.1, by omega⟩
    · exact .inr ⟨by omega, hj.2⟩
theorem Sl.gnk {α : Type} {L : Ly α} {w w5 w6 : World} {F : Nat → Prop} {A : Option Addr} {n c : Nat} {xs : List α} (h : Sl L w5 (Gn F w w5) A n c xs) (hk : Keep No w5 w6) : Sl L w6 (Gn F w w6) A n c xs := (h.no hk).mono fun j hj => Gn.later hk.size hj
theorem sortW_snoc (l : List Str) (s : Str) : sortW (l ++ [s]) = putW s (sortW l) := by simp [sortW]
theorem sortW_len (l : List Str) : (sortW l).length ≤ l.length := by
  have : ∀ (l a : List Str), (l.foldl (fun a w => putW w a) a).length ≤ l.length + a.length := by
    intro l
    induction l with
    | nil => intro a; simp
    | cons x l ih =>
      intro a
      have h1 := ih (putW x a)
      have h2 := putW_len x a
      simp only [List.foldl_cons, List.length_cons]
      omega
  have := this l []
  simpa [sortW] using this
theorem low_int (b : UInt8) : (lowB b).toNat = if 65 ≤ b.toNat ∧ b.toNat ≤ 90 then b.toNat + 32 else b.toNat := by
  have H : ∀ n : Fin 256, (lowB (UInt8.ofNat n.val)).toNat = if 65 ≤ n.val ∧ n.val ≤ 90 then n.val + 32 else n.val := by decide +kernel
  have := H ⟨b.toNat, b.toNat_lt⟩
  simpa using this
theorem let_int (b : UInt8) : letB b = ((decide (97 ≤ b.toNat) && decide (b.toNat ≤ 122)) || (decide (48 ≤ b.toNat) && decide (b.toNat ≤ 57))) := by
  have H : ∀ n : Fin 256, letB (UInt8.ofNat n.val) = ((decide (97 ≤ n.val) && decide (n.val ≤ 122)) || (decide (48 ≤ n.val) && decide (n.val ≤ 57))) := by decide +kernel
  have := H ⟨b.toNat, b.toNat_lt⟩
  simpa using this
theorem wrap_u8 {n : Nat} (h : n < 256) : IntKind.wrap .u8 (n : Int) = n := by
  simp only [IntKind.wrap, IntKind.bits, IntKind.signed]
  simp
  omega

theorem ref_of (t : Str) (ht : t.length < 10000000) (w : World) :
    Calls PP 134 #[.string (bs t)] w (Ret fun r w' => ∃ A c, r = .slice A (ofW t).length c ∧ Keep No w w' ∧ Sl Lst w' (Gn No w w') A (ofW t).length c (ofW t)) := by
  refine c134 ?_
  unfold S134
  refine NEW.i fun k7 w1 hk7 hs1 q1 a1 => ?_
  have o1 : Own Lst 9 w1 No (some ⟨k7, 0, none⟩) 0 0 ([] : List Str) := Own.new a1 (fun h => h) rfl rfl (Row.nil _ _ _ _ _)
  have g1 : Sl Lst w1 (Gn No w w1) (some ⟨k7, 0, none⟩) 0 0 ([] : List Str) := o1.gn (fun j hj => by rw [show j = k7 from hj]; omega)
  have hrl := runs_length t []
  refine ⟨fun A n c s x w2 => ∃ (i : Nat) (vis : List Str) (cur : Str), x = (i : Nat) ∧ i ≤ t.length + 1 ∧ s = bs (cur.take 16) ∧ Keep No w w2 ∧ Sl Lst w2 (Gn No w w2) A n c (sortW vis) ∧ (i ≤ t.length → vis ++ runs (t.drop i) cur = runs t []) ∧ (i = t.length + 1 → vis = runs t []) ∧ w1.heap.size ≤ w2.heap.size ∧ vis.length ≤ t.length + 1,
    fun _ _ _ _ x _ => (((t.length + 1 : Nat) : Int) - x).toNat, ⟨0, [], [], rfl, by omega, rfl, q1, g1, by simp, by omega, Nat.le_refl _, by simp⟩, ?_⟩
  rintro _ A n c s x w2 ⟨i, vis, cur, rfl, hi, rfl, q2, g2, hr1, hr2, hs2, hvl⟩
  rw [bs_size]
  have hlenS := g2.len
  have hsl := sortW_len vis
  refine split_dec (fun hle => ?_) (fun hgt => ?_)
  · have hil : i ≤ t.length := by omega
    have hruns := hr1 hil
    refine ⟨fun v w3 => w3 = w2 ∧ ((∃ b, t[i]? = some b ∧ v = (b.toNat : Int)) ∨ (i = t.length ∧ v = 0)), ?_, ?_⟩
    · refine split_dec (fun hlt => ?_) (fun hge => ⟨rfl, .inr ⟨by omega, rfl⟩⟩)
      have hb : t[i]? = some (t[i]'(by omega)) := List.getElem?_eq_getElem (by omega)
      refine ⟨⟨by omega, hlt⟩, by kernel_rfl, rfl, .inl ⟨_, hb, ?_⟩⟩
      rw [bt_bs t i hb]
      have := (t[i]'(by omega)).toNat_lt
      rw [wrap64 (by omega) (by omega)]
    · rintro _ v w3 ⟨rfl, hv⟩
      refine ⟨fun v' w4 => w4 = w3 ∧ ((∃ b, t[i]? = some b ∧ v' = ((lowB b).toNat : Int)) ∨ (i = t.length ∧ v' = 0)), ?_, ?_⟩
      · rcases hv with ⟨b, hb, rfl⟩ | ⟨hie, rfl⟩
        · have hlow := low_int b
          have hb256 := b.toNat_lt
          refine split_dec (fun h65 => split_dec (fun h90 => ⟨rfl, .inl ⟨b, hb, ?_⟩⟩) (fun h90 => ⟨rfl, .inl ⟨b, hb, ?_⟩⟩)) (fun h65 => ⟨rfl, .inl ⟨b, hb, ?_⟩⟩)
          · rw [hlow, if_pos ⟨by omega, by omega⟩, wrap64 (by omega) (by omega)]
            omega
          · rw [hlow, if_neg (by omega)]
          · rw [hlow, if_neg (by omega)]
        · exact split_dec (fun h => by omega) (fun h => ⟨rfl, .inr ⟨hie, rfl⟩⟩)
      · rintro _ v' w4 ⟨rfl, hv'⟩
        have letter : ∀ b, t[i]? = some b → v' = ((lowB b).toNat : Int) → letB (lowB b) = true →
            SPLIT (decide (((cur.take 16).length : Int) < (16 : Int))) (
              (PP.underlying 3).isSome = true ∧
              NEW w4 (.cells #[(.int .u8 (IntKind.wrap .u8 v'))] 5) fun k50 w5 =>
              RUN PP (convert 184 9 (.slice (some ⟨k50, 0, none⟩) 1 1)) w5 fun r51 w6 =>
              ∃ (s51 : ByteArray), r51 = (.string s51) ∧
              (((bs (cur.take 16)).size + s51.size : Nat) : Int) ≤ IntKind.max .i64 ∧
              (∃ (i' : Nat) (vis : List Str) (cur' : Str), IntKind.wrap .i64 ((i : Int) + 1) = (i' : Nat) ∧ i' ≤ t.length + 1 ∧ bs (cur.take 16) ++ s51 = bs (cur'.take 16) ∧ Keep No w w6 ∧ Sl Lst w6 (Gn No w w6) A n c (sortW vis) ∧ (i' ≤ t.length → vis ++ runs (t.drop i') cur' = runs t []) ∧ (i' = t.length + 1 → vis = runs t []) ∧ w1.heap.size ≤ w6.heap.size ∧ vis.length ≤ t.length + 1) ∧
                (((t.length + 1 : Nat) : Int) - IntKind.wrap .i64 ((i : Int) + 1)).toNat < (((t.length + 1 : Nat) : Int) - (i : Int)).toNat) (
              (∃ (i' : Nat) (vis : List Str) (cur' : Str), IntKind.wrap .i64 ((i : Int) + 1) = (i' : Nat) ∧ i' ≤ t.length + 1 ∧ bs (cur.take 16) = bs (cur'.take 16) ∧ Keep No w w4 ∧ Sl Lst w4 (Gn No w w4) A n c (sortW vis) ∧ (i' ≤ t.length → vis ++ runs (t.drop i') cur' = runs t []) ∧ (i' = t.length + 1 → vis = runs t []) ∧ w1.heap.size ≤ w4.heap.size ∧ vis.length ≤ t.length + 1) ∧
                (((t.length + 1 : Nat) : Int) - IntKind.wrap .i64 ((i : Int) + 1)).toNat < (((t.length + 1 : Nat) : Int) - (i : Int)).toNat) := by
          intro b hb hvb hl
          have hlt := (List.getElem?_eq_some_iff.1 hb).1
          have hnext := runs_drop_letter (cur := cur) hb hl
          refine split_dec (fun h16 => ?_) (fun h16 => ?_)
          · refine ⟨by kernel_rfl, NEW.i fun k50 w5 hk50 hs5 q5 a5 => ?_⟩
            have hl256 := (lowB b).toNat_lt
            rw [hvb, wrap_u8 hl256] at a5
            have hcells : ∀ j (hj : j < [lowB b].length), w5.cell? (Addr.add ⟨k50, 0, none⟩ j) = some (.int .u8 (([lowB b])[j].toNat : Int)) := by
              intro j hj
              have hj0 : j = 0 := by simp at hj; exact hj
              subst hj0
              rw [add_off]
              exact cell_at a5 rfl
            refine ⟨_, w5, run_convert_bytes_back w5 184 9 5 ⟨k50, 0, none⟩ _ [lowB b] (by kernel_rfl) (by kernel_rfl) (by kernel_rfl) hcells, _, rfl, ?_, ?_⟩
            · rw [bs_size]
              show (((cur.take 16).length + (bs [lowB b]).size : Nat) : Int) ≤ 9223372036854775807
              rw [bs_size]
              simp
              omega
            · refine ⟨⟨i + 1, vis, cur ++ [lowB b], wrapS (by omega), by omega, ?_, q2.trans q5, g2.gnk q5, fun _ => by rw [← hnext]; exact hruns, fun h => by omega, by omega, hvl⟩, mu_go (wrapS (by omega)) (by omega)⟩
              show bs (cur.take 16) ++ bs [lowB b] = _
              rw [bs_append]
              congr 1
              have hc16 : cur.length < 16 := by simp at h16; omega
              rw [List.take_of_length_le (by omega), List.take_of_length_le (by simp; omega)]
          · refine ⟨⟨i + 1, vis, cur ++ [lowB b], wrapS (by omega), by omega, ?_, q2, g2, fun _ => by rw [← hnext]; exact hruns, fun h => by omega, hs2, hvl⟩, mu_go (wrapS (by omega)) (by omega)⟩
            congr 1
            have hc16 : 16 ≤ cur.length := by simp at h16; omega
            rw [List.take_append_of_le_length hc16]
        refine ⟨fun s' w5 => w5 = w4 ∧ s' = bs (cur.take 16) ∧ (i < t.length → ∃ b, t[i]? = some b ∧ letB (lowB b) = false), ?_, ?_⟩
        · rw [bs_size]
          rcases hv' with ⟨b, hb, hvb⟩ | ⟨hie, hv0⟩
          · have hlet := let_int (lowB b)
            have notL : letB (lowB b) = false → (w4 = w4 ∧ bs (cur.take 16) = bs (cur.take 16) ∧ (i < t.length → ∃ b, t[i]? = some b ∧ letB (lowB b) = false)) := fun h => ⟨rfl, rfl, fun _ => ⟨b, hb, h⟩⟩
            refine split_dec (fun h97 => split_dec (fun h122 => letter b hb hvb ?_) (fun h122 => split_dec (fun h48 => split_dec (fun h57 => letter b hb hvb ?_) (fun h57 => notL ?_)) (fun h48 => notL ?_)))
              (fun h97 => split_dec (fun h48 => split_dec (fun h57 => letter b hb hvb ?_) (fun h57 => notL ?_)) (fun h48 => notL ?_))
            all_goals
              rw [hlet]
              first
              | (simp only [Bool.or_eq_true, Bool.and_eq_true, decide_eq_true_eq]; omega)
              | (simp only [Bool.or_eq_false_iff, Bool.and_eq_false_iff, decide_eq_false_iff_not]; omega)
          · subst hv0
            refine split_dec (fun h => by omega) (fun h => split_dec (fun h => by omega) (fun h => ⟨rfl, rfl, fun hc => by omega⟩))
        · rintro _ s' w5 ⟨rfl, rfl, hno⟩
          have hemp : (⟨#[]⟩ : ByteArray).toList = [] := bs_emp
          rw [bs_toList, hemp]
          have hfl : vis ++ ((if cur.isEmpty then [] else [cur.take 16]) ++ runs (t.drop (i + 1)) []) = runs t [] ∧ (i = t.length → vis ++ (if cur.isEmpty then [] else [cur.take 16]) = runs t []) := by
            rcases Nat.lt_or_ge i t.length with h1 | h1
            · obtain ⟨b, hb, hl⟩ := hno h1
              rw [runs_drop_other hb hl] at hruns
              exact ⟨hruns, fun he => by omega⟩
            · have hid : i = t.length := by omega
              have e1 : t.drop i = [] := by rw [hid]; simp
              have e2 : t.drop (i + 1) = [] := by rw [hid]; simp
              rw [e1] at hruns
              rw [e2]
              have e3 : runs [] ([] : Str) = [] := rfl
              have e4 : runs [] cur = if cur.isEmpty then [] else [cur.take 16] := rfl
              rw [e3, List.append_nil]
              rw [e4] at hruns
              exact ⟨hruns, fun _ => hruns⟩
          cases hcur : cur with
          | nil =>
            rw [hcur] at hfl
            simp only [List.isEmpty_nil, if_true, List.nil_append, List.append_nil] at hfl
            refine split_i (fun hc => by simp at hc) (fun _ => ?_)
            refine ⟨⟨i + 1, vis, [], wrapS (by omega), by omega, rfl, q2, g2, fun _ => hfl.1, fun h => hfl.2 (by omega), hs2, hvl⟩, mu_go (wrapS (by omega)) (by omega)⟩
          | cons c0 cr =>
            rw [hcur] at hfl
            simp only [List.isEmpty_cons, Bool.false_eq_true, if_false] at hfl
            refine split_i (fun _ => ?_) (fun hc => by simp at hc)
            refine CALL.i (ref_put ((c0 :: cr).take 16) g2 (by omega)) (by kernel_rfl) ?_
            rintro r w6 ⟨A', c', rfl, q6, g6⟩
            refine ⟨_, _, _, rfl, ?_⟩
            rw [← sortW_snoc] at g6 ⊢
            have hvl' : vis.length + 1 ≤ t.length + 1 := by
              have := congrArg List.length hfl.1
              simp only [List.length_append, List.length_cons, List.length_nil] at this
              omega
            refine ⟨⟨i + 1, vis ++ [(c0 :: cr).take 16], [], wrapS (by omega), by omega, rfl, q2.trans q6, g6.gn2 q2.size q6.size, fun _ => by rw [← hfl.1]; simp, fun h => hfl.2 (by omega), by have := q6.size; omega, by simp; omega⟩, mu_go (wrapS (by omega)) (by omega)⟩
  · have hie : i = t.length + 1 := by omega
    have hvis := hr2 hie
    have hof : (ofW t).length = min 64 n := by
      unfold ofW
      rw [← hvis, List.length_take, hlenS]
    have hcap := g2.cap
    refine split_dec (fun h64 => ?_) (fun h64 => ?_)
    · have h64' : 64 < n := by omega
      refine ⟨⟨by omega, by omega⟩, SLA A c 0 1, c, ?_, q2, ?_⟩
      · rw [hof, Nat.min_eq_left (by omega)]
        rfl
      · have := g2.sub (i := 0) (j := 64) (by omega) (by omega)
        rw [hof, Nat.min_eq_left (by omega)]
        have e : ofW t = ((sortW vis).drop 0).take (64 - 0) := by
          unfold ofW
          rw [← hvis]; rfl
        rw [e]
        exact this
    · refine ⟨A, c, ?_, q2, ?_⟩
      · rw [hof, Nat.min_eq_right (by omega)]
      · rw [hof, Nat.min_eq_right (by omega)]
        have e : ofW t = sortW vis := by
          unfold ofW
          rw [← hvis, List.take_of_length_le (by omega)]
        rw [e]
        exact g2

/-! ## plain: a word -/
theorem runs_word : ∀ (t cur : Str), t.all letB = true → runs t cur = if (cur ++ t).isEmpty then [] else [(cur ++ t).take 16]
  | [], cur, _ => by simp [runs]
  | b :: t, cur, h => by
    simp only [List.all_cons, Bool.and_eq_true] at h
    have hlow : lowB b = b := by
      have H : ∀ n : Fin 256, letB (UInt8.ofNat n.val) = true → lowB (UInt8.ofNat n.val) = UInt8.ofNat n.val := by decide +kernel
      have := H ⟨b.toNat, b.toNat_lt⟩
      simpa using this (by simpa using h.1)
    unfold runs
    rw [hlow, if_pos h.1, runs_word t (cur ++ [b]) h.2]
    simp
theorem runs_letters : ∀ (t cur : Str), cur.all letB = true → ∀ x ∈ runs t cur, x.all letB = true ∧ x ≠ [] ∧ x.length ≤ 16
  | [], cur, h => by
    intro x hx
    unfold runs at hx
    split at hx
    · cases hx
    · rename_i he
      rw [List.mem_singleton.1 hx]
      refine ⟨List.all_eq_true.2 fun b hb => List.all_eq_true.1 h b (List.mem_of_mem_take hb), ?_, by simp; omega⟩
      intro hc
      apply he
      cases cur with
      | nil => rfl
      | cons _ _ => simp at hc
  | b :: t, cur, h => by
    intro x hx
    unfold runs at hx
    split at hx
    · rename_i hl
      exact runs_letters t (cur ++ [lowB b]) (by simp [h, hl]) x hx
    · rcases List.mem_append.1 hx with hx | hx
      · split at hx
        · cases hx
        · rename_i he
          rw [List.mem_singleton.1 hx]
          refine ⟨List.all_eq_true.2 fun b hb => List.all_eq_true.1 h b (List.mem_of_mem_take hb), ?_, by simp; omega⟩
          intro hc
          apply he
          cases cur with
          | nil => rfl
          | cons _ _ => simp at hc
      · exact runs_letters t [] rfl x hx
/-- a word is just what its words are: itself -/
theorem check_of (s : Str) : checkW s = decide (ofW s = [s]) := by
  cases h : checkW s with
  | true =>
    unfold checkW at h
    simp only [Bool.and_eq_true, Bool.not_eq_true', decide_eq_true_eq] at h
    have hr := runs_word s [] h.1.1
    rw [List.nil_append, h.1.2, List.take_of_length_le h.2] at hr
    simp only [Bool.false_eq_true, if_false] at hr
    have : ofW s = [s] := by
      unfold ofW
      rw [hr]
      simp [sortW, putW]
    rw [this]
    simp
  | false =>
    symm
    rw [decide_eq_false_iff_not]
    intro hc
    have hm : s ∈ runs s [] := by
      have h1 : s ∈ ofW s := by rw [hc]; exact List.mem_singleton.2 rfl
      exact (sortW_mem _ _).1 (List.mem_of_mem_take h1)
    obtain ⟨h1, h2, h3⟩ := runs_letters s [] rfl s hm
    have : checkW s = true := by
      unfold checkW
      rw [h1]
      have : s.isEmpty = false := by
        cases s with
        | nil => exact absurd rfl h2
        | cons _ _ => rfl
      rw [this, decide_eq_true h3]; rfl
    rw [this] at h
    cases h

theorem ref_check (s : Str) (hs : s.length < 10000000) (w : World) : Calls PP 132 #[.string (bs s)] w (Ret fun r w' => r = .bool (checkW s) ∧ Keep No w w') := by
  refine c132 ?_
  unfold S132
  refine CALL.i (ref_of s hs w) (by kernel_rfl) ?_
  rintro r w1 ⟨A, c, rfl, q1, g1⟩
  refine ⟨_, _, _, rfl, ?_⟩
  rw [check_of]
  refine split_i (fun h1 => ?_) (fun h1 => ?_)
  · have h1' : (ofW s).length = 1 := by
      have : (((ofW s).length : Nat) : Int) = 1 := by simpa using h1
      omega
    refine ⟨⟨by omega, by omega⟩, ?_⟩
    obtain ⟨a, x, hA, hx, hr⟩ := g1.stx (i := 0) (by omega)
    refine SOMEA.i hA ⟨_, hr, ?_, q1⟩
    rw [bs_toList, bs_toList]
    have : ofW s = [x] := by
      match hof : ofW s, h1' with
      | [y], _ =>
        rw [hof] at hx
        cases hx
        rfl
    rw [this]
    by_cases hxs : x = s
    · simp [hxs]
    · simp [hxs]
  · refine ⟨?_, q1⟩
    congr 1
    symm
    rw [decide_eq_false_iff_not]
    intro hc
    rw [hc] at h1
    simp at h1

theorem ref_clean {A : Option Addr} {n c : Nat} {w : World} {F : Nat → Prop} {xs : List Str} (hs : Sl Lst w F A n c xs) (hx : ∀ x ∈ xs, x.length < 10000000) :
    Calls PP 96 #[.slice A n c] w (Ret fun r w' => Keep No w w' ∧ match cleanW xs with
      | none => r = .tuple #[.slice none 0 0, .int .i64 4]
      | some l => ∃ A' c', r = .tuple #[.slice A' l.length c', .int .i64 0] ∧ Sl Lst w' (Gn No w w') A' l.length c' l) := by
  refine c96 ?_
  unfold S96
  have hlen := hs.len
  have bad : ∀ w1, Keep No w w1 → cleanW xs = none → (Keep No w w1 ∧ match cleanW xs with
      | none => (.tuple #[.slice none 0 0, .int .i64 4] : Value) = .tuple #[.slice none 0 0, .int .i64 4]
      | some l => ∃ A' c', (.tuple #[.slice none 0 0, .int .i64 4] : Value) = .tuple #[.slice A' l.length c', .int .i64 0] ∧ Sl Lst w1 (Gn No w w1) A' l.length c' l) := by
    intro w1 hk he
    rw [he]
    exact ⟨hk, rfl⟩
  refine ⟨fun w1 => w1 = w ∧ n ≠ 0 ∧ n ≤ 8, ?_, ?_⟩
  · refine split_i (fun h0 => bad w (Keep.refl _ _) ?_) (fun h0 => split_dec (fun h8 => bad w (Keep.refl _ _) ?_) (fun h8 => ⟨rfl, ?_, by omega⟩))
    · have hn0 : n = 0 := by simpa using h0
      have : xs = [] := List.eq_nil_of_length_eq_zero (hlen.trans hn0)
      subst this
      simp [cleanW]
    · have : 8 < xs.length := by omega
      simp [cleanW, this]
    · intro h
      subst h
      simp at h0
  · rintro _ w1 ⟨rfl, hn0, hn8⟩
    have hne : xs.isEmpty = false := by
      cases xs with
      | nil => simp at hlen; omega
      | cons _ _ => rfl
    have h8 : ¬ 8 < xs.length := by omega
    refine NEW.i fun k15 w2 hk15 hs2 q2 a2 => ?_
    have o2 : Own Lst 9 w2 No (some ⟨k15, 0, none⟩) 0 0 ([] : List Str) := Own.new a2 (fun h => h) rfl rfl (Row.nil _ _ _ _ _)
    refine ⟨fun A4 n4 c4 x w3 => ∃ i : Nat, x = i ∧ i ≤ n ∧ Keep No w1 w3 ∧ Sl Lst w3 (Gn No w1 w3) A4 n4 c4 (sortW (xs.take i)) ∧ (xs.take i).any (fun s => !checkW s) = false,
      fun _ _ _ x _ => ((n : Int) - x).toNat, ⟨0, rfl, Nat.zero_le _, q2, o2.gn (fun j hj => by rw [show j = k15 from hj]; omega), rfl⟩, ?_⟩
    rintro _ A4 n4 c4 x w3 ⟨i, rfl, hi, q3, g3, hall⟩
    have hl4 := g3.len
    have hsl := sortW_len (xs.take i)
    simp only [List.length_take] at hsl
    refine split_dec (fun hlt => ?_) (fun hge => ?_)
    · have hlt' : i < n := by omega
      refine ⟨⟨by omega, hlt⟩, ?_⟩
      obtain ⟨a, s, hA, hsx, hr⟩ := (hs.no q3).stx hlt'
      refine SOMEA.i hA ⟨_, by rw [Int.toNat_natCast]; exact hr, ?_⟩
      refine CALL.i (ref_check s (hx s (List.mem_of_getElem? hsx)) w3) (by kernel_rfl) ?_
      rintro r w4 ⟨rfl, q4⟩
      refine ⟨_, rfl, split_i (fun hc => bad w4 (q3.trans q4) ?_) (fun hc => ?_)⟩
      · have : xs.any (fun s => !checkW s) = true := List.any_eq_true.2 ⟨s, List.mem_of_getElem? hsx, hc⟩
        simp only [cleanW, this, Bool.or_true, if_true]
      · refine CALL.i (ref_put s (g3.gnk q4) (by omega)) (by kernel_rfl) ?_
        rintro r w5 ⟨A', c', rfl, q5, g5⟩
        refine ⟨_, _, _, rfl, ?_⟩
        refine ⟨⟨i + 1, wrapS (by omega), hlt', (q3.trans q4).trans q5, ?_, ?_⟩, mu_go (wrapS (by omega)) hlt'⟩
        · rw [take_succ_some hsx, sortW_snoc]
          exact g5.gn2 (q3.trans q4).size q5.size
        · rw [take_succ_some hsx, List.any_append, hall]
          simpa using hc
    · have hie : i = xs.length := by omega
      rw [hie, List.take_length] at g3 hall
      have he : cleanW xs = some (sortW xs) := by
        simp only [cleanW, hne, hall, decide_eq_false h8, Bool.or_false, Bool.false_eq_true, if_false]
      rw [he]
      have hl5 := g3.len
      rw [← hl5] at g3 ⊢
      exact ⟨q3, A4, c4, rfl, g3⟩

theorem ref_has {A : Option Addr} {n c : Nat} {w : World} {F : Nat → Prop} {xs : List Str} (t : Str) (ht : t.length < 10000000) (hs : Sl Lst w F A n c xs) (hn : n < 1000000000) :
    Calls PP 97 #[.string (bs t), .slice A n c] w (Ret fun r w' => r = .bool (hasW t xs) ∧ Keep No w w') := by
  refine c97 ?_
  unfold S97
  have hlen := hs.len
  refine ⟨fun x w1 => ∃ i : Nat, x = i ∧ i ≤ n ∧ Keep No w w1 ∧ hasW t (xs.take i) = true, fun x _ => ((n : Int) - x).toNat, ⟨0, rfl, Nat.zero_le _, Keep.refl _ _, rfl⟩, ?_⟩
  rintro _ x w1 ⟨i, rfl, hi, q1, hall⟩
  refine split_dec (fun hlt => ?_) (fun hge => ?_)
  · have hlt' : i < n := by omega
    refine ⟨⟨by omega, hlt⟩, ?_⟩
    obtain ⟨a, s, hA, hsx, hr⟩ := (hs.no q1).stx hlt'
    refine SOMEA.i hA ⟨_, by rw [Int.toNat_natCast]; exact hr, ?_⟩
    refine CALL.i (ref_of t ht w1) (by kernel_rfl) ?_
    rintro r w2 ⟨A2, c2, rfl, q2, g2⟩
    refine ⟨_, _, _, rfl, ?_⟩
    have hol : (ofW t).length ≤ 64 := by simp [ofW]; omega
    refine ⟨fun b x w3 => w3 = w2 ∧ ∃ j : Nat, x = j ∧ j ≤ (ofW t).length ∧ b = ((ofW t).take j).contains s, fun _ x _ => ((((ofW t).length : Nat) : Int) - x).toNat, ⟨rfl, 0, rfl, Nat.zero_le _, rfl⟩, ?_⟩
    rintro _ b x w3 ⟨rfl, j, rfl, hj, rfl⟩
    refine split_dec (fun hlt2 => ?_) (fun hge2 => ?_)
    · have hlt2' : j < (ofW t).length := by omega
      refine ⟨⟨by omega, hlt2⟩, ?_⟩
      obtain ⟨a2, y, hA2, hy, hr2⟩ := g2.stx hlt2'
      refine SOMEA.i hA2 ⟨_, by rw [Int.toNat_natCast]; exact hr2, ?_⟩
      have hstep : ((ofW t).take (j + 1)).contains s = (((ofW t).take j).contains s || (y == s)) := by
        rw [take_succ_some hy, Bool.eq_iff_iff]
        simp only [List.contains_iff_mem, Bool.or_eq_true, List.mem_append, List.mem_singleton, beq_iff_eq]
        constructor
        · rintro (h | h)
          · exact .inl h
          · exact .inr h.symm
        · rintro (h | h)
          · exact .inl h
          · exact .inr h.symm
      rw [bs_toList, bs_toList]
      refine split_i (fun hb => ?_) (fun hb => ?_)
      · refine ⟨⟨rfl, j + 1, wrapS (by omega), hlt2', ?_⟩, mu_go (wrapS (by omega)) hlt2'⟩
        rw [hstep, hb]; rfl
      · refine ⟨⟨rfl, j + 1, wrapS (by omega), hlt2', ?_⟩, mu_go (wrapS (by omega)) hlt2'⟩
        rw [hstep, hb]; rfl
    · have hje : j = (ofW t).length := by omega
      rw [hje, List.take_length]
      refine split_i (fun hb => ?_) (fun hb => ?_)
      · refine ⟨?_, q1.trans q2⟩
        have : hasW t xs = false := by
          unfold hasW
          rw [List.all_eq_false]
          exact ⟨s, List.mem_of_getElem? hsx, by simpa using hb⟩
        rw [this]
      · refine ⟨⟨i + 1, wrapS (by omega), hlt', q1.trans q2, ?_⟩, mu_go (wrapS (by omega)) hlt'⟩
        unfold hasW at hall ⊢
        rw [take_succ_some hsx, List.all_append, hall]
        simpa using hb
  · have hie : i = xs.length := by omega
    rw [hie, List.take_length] at hall
    exact ⟨by rw [hall], q1⟩
end Go.SW
