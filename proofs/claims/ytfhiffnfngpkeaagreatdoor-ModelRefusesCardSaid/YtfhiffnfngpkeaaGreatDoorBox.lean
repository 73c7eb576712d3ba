/- The mailbox's functions: what each computes. -/
import Derived.Test.YtfhiffnfngpkeaaGreatDoorEqs
import Derived.Test.YtfhiffnfngpkeaaGreatDoorSBase
import Derived.Test.YtfhiffnfngpkeaaGreatDoorPlain
set_option linter.unusedVariables false
namespace Go.SW
open Go Go.Proofs Pl

def ecells (e : Ety) : List Value := [.int .i64 e.uid, .int .i64 e.flags, .int .i64 e.mail]
def evalue (e : Ety) : Value := .agg #[.int .i64 e.uid, .int .i64 e.flags, .int .i64 e.mail]
def Lent : Ly Ety := .of 3 ecells (fun _ => rfl) (fun _ => rfl)
theorem Lent_plain : Lent.Plain := fun _ _ _ _ _ _ h => h
/-- a mailbox in the memory: its own block, and its array's; both in F -/
def IsBox (w : World) (k : Nat) (F : Nat → Prop) (B : Bx) : Prop :=
  ∃ A n c, At w k (.cells ⟨[.int .i64 B.validity, .int .i64 B.next, .slice A n c]⟩ 95 (0, 0)) ∧ F k ∧ Own Lent 53 w (fun j => j = k) A n c B.l ∧ ∀ j, ownBlk A j → F j
theorem IsBox.keep {w w' : World} {k : Nat} {F : Nat → Prop} {B : Bx} (h : IsBox w k F B) (hk : ∀ j, F j → j < w.heap.size → w'.heap[j]? = w.heap[j]?) : IsBox w' k F B := by
  obtain ⟨A, n, c, h1, h2, h3, h4⟩ := h
  exact ⟨A, n, c, (hk k h2 h1.lt).trans h1, h2, h3.keep fun j hj hlt => hk j (hj.elim (fun e => e ▸ h2) (h4 j)) hlt, h4⟩
theorem IsBox.kept {w w' : World} {k : Nat} {F S : Nat → Prop} {B : Bx} (h : IsBox w k F B) (hk : Keep S w w') (hd : ∀ j, F j → ¬ S j) : IsBox w' k F B := h.keep fun j hF hlt => hk.keep j hlt (hd j hF)
theorem IsBox.no {w w' : World} {k : Nat} {F : Nat → Prop} {B : Bx} (h : IsBox w k F B) (hk : Keep No w w') : IsBox w' k F B := h.kept hk (fun _ _ h => h)
theorem IsBox.mono {w : World} {k : Nat} {F G : Nat → Prop} {B : Bx} (h : IsBox w k F B) (hk : ∀ j, F j → G j) : IsBox w k G B := by
  obtain ⟨A, n, c, h1, h2, h3, h4⟩ := h
  exact ⟨A, n, c, h1, hk k h2, h3, fun j hj => hk j (h4 j hj)⟩
theorem IsBox.lt {w : World} {k : Nat} {F : Nat → Prop} {B : Bx} (h : IsBox w k F B) : k < w.heap.size := by
  obtain ⟨A, n, c, h1, h2, h3, h4⟩ := h
  exact h1.lt

noncomputable def i53 : TypeInfo := (PP.info? 53).getD default
noncomputable def z53 : Value := i53.zero.getD .nilIface
theorem z53_flat : z53.cells.toList.all Go.SW.flat = true := by kernel_rfl
theorem T_ent : ElemTy Lent 50 53 24 :=
  ⟨by kernel_rfl, ⟨i53, z53, by kernel_rfl, by kernel_rfl, by kernel_rfl, by kernel_rfl, by kernel_rfl⟩, by omega, by show 0 < 3; omega⟩

theorem indexFunc_ent {A : Option Addr} {n c : Nat} {f : Value} {w : World} {F : Nat → Prop} {xs : List Ety} (p : Ety → Bool) (hs : Sl Lent w F A n c xs) (hn : n < 4611686018427387904)
    (hf : ∀ w1 x, Keep No w w1 → CALLV PP f [evalue x] w1 fun r w2 => r = .bool (p x) ∧ Keep No w1 w2) :
    Calls PP 149 #[.slice A n c, f] w (Ret fun r w' => r = .int .i64 (idx p xs) ∧ Keep No w w') := by
  apply c149
  unfold S149
  refine ⟨fun x w1 => ∃ i : Nat, x = i ∧ i ≤ n ∧ Keep No w w1 ∧ ∀ (j : Nat) y, j < i → xs[j]? = some y → p y = false, fun x _ => (n - x).toNat, ⟨0, rfl, Nat.zero_le _, Keep.refl _ _, by intro j y h; omega⟩, ?_⟩
  rintro _ x w1 ⟨i, rfl, hi, hk, hb⟩
  refine split_dec (fun hlt => ?_) (fun hge => ?_)
  · have hlt' : i < n := by omega
    refine ⟨⟨by omega, hlt⟩, ?_⟩
    obtain ⟨a, cs, x, hA, hx, hrel, hr⟩ := (hs.no hk).get hlt'
    refine SOMEA.i hA ?_
    cases hrel
    refine ⟨_, _, _, by rw [Int.toNat_natCast]; exact hr, ?_⟩
    refine CALLV.mono (hf w1 x hk) ?_
    rintro r w2 ⟨rfl, hk2⟩
    refine ⟨_, rfl, split_i (fun ht => ⟨?_, hk.trans hk2⟩) (fun hf' => ⟨⟨i + 1, wrapS (by omega), hlt', hk.trans hk2, ?_⟩, ?_⟩)⟩
    · rw [idx_at hx ht hb]
    · intro j y hj hy
      by_cases hji : j = i
      · subst hji
        rw [hx] at hy
        cases hy
        exact hf'
      · exact hb j y (by omega) hy
    · rw [wrapS (by omega)]
      exact mu_lt hlt'
  · refine ⟨?_, hk⟩
    rw [idx_none fun j y hy => hb j y ?_ hy]
    have := (List.getElem?_eq_some_iff.1 hy).1
    rw [hs.len] at this
    omega

theorem indexFunc_int {A : Option Addr} {n c : Nat} {f : Value} {w : World} {F : Nat → Prop} {xs : List Int} (p : Int → Bool) (hs : Sl Ly.int w F A n c xs) (hn : n < 4611686018427387904)
    (hf : ∀ w1 x, Keep No w w1 → CALLV PP f [.int .i64 x] w1 fun r w2 => r = .bool (p x) ∧ Keep No w1 w2) :
    Calls PP 185 #[.slice A n c, f] w (Ret fun r w' => r = .int .i64 (idx p xs) ∧ Keep No w w') := by
  apply c185
  unfold S185
  refine ⟨fun x w1 => ∃ i : Nat, x = i ∧ i ≤ n ∧ Keep No w w1 ∧ ∀ (j : Nat) y, j < i → xs[j]? = some y → p y = false, fun x _ => (n - x).toNat, ⟨0, rfl, Nat.zero_le _, Keep.refl _ _, by intro j y h; omega⟩, ?_⟩
  rintro _ x w1 ⟨i, rfl, hi, hk, hb⟩
  refine split_dec (fun hlt => ?_) (fun hge => ?_)
  · have hlt' : i < n := by omega
    refine ⟨⟨by omega, hlt⟩, ?_⟩
    obtain ⟨a, x, hA, hx, hr⟩ := (hs.no hk).int hlt'
    refine SOMEA.i hA ?_
    skip
    refine ⟨_, by rw [Int.toNat_natCast]; exact hr, ?_⟩
    refine CALLV.mono (hf w1 x hk) ?_
    rintro r w2 ⟨rfl, hk2⟩
    refine ⟨_, rfl, split_i (fun ht => ⟨?_, hk.trans hk2⟩) (fun hf' => ⟨⟨i + 1, wrapS (by omega), hlt', hk.trans hk2, ?_⟩, ?_⟩)⟩
    · rw [idx_at hx ht hb]
    · intro j y hj hy
      by_cases hji : j = i
      · subst hji
        rw [hx] at hy
        cases hy
        exact hf'
      · exact hb j y (by omega) hy
    · rw [wrapS (by omega)]
      exact mu_lt hlt'
  · refine ⟨?_, hk⟩
    rw [idx_none fun j y hy => hb j y ?_ hy]
    have := (List.getElem?_eq_some_iff.1 hy).1
    rw [hs.len] at this
    omega

/-! ## small ones -/
theorem box_within (x lo hi : Int) (w : World) : Calls PP 153 #[.int .i64 x, .int .i64 lo, .int .i64 hi] w (Ret fun r w' => r = .bool (decide (lo ≤ x) && decide (x ≤ hi)) ∧ w' = w) := by
  apply c153
  unfold S153
  refine split_dec (fun h => ⟨?_, rfl⟩) (fun h => ⟨?_, rfl⟩)
  · rw [decide_eq_true (show lo ≤ x from h)]; rfl
  · rw [decide_eq_false (show ¬ lo ≤ x from h)]; rfl
theorem box_flags1 (x : Int) (w : World) : Calls PP 152 #[.int .i64 x] w (Ret fun r w' => r = .bool (!flagOk x) ∧ w' = w) := by
  apply c152
  unfold S152
  refine CALL.i (box_within x 0 31 w) (by kernel_rfl) ?_
  rintro r w1 ⟨rfl, rfl⟩
  exact ⟨_, rfl, rfl, rfl⟩
theorem box_flags {A : Option Addr} {n c : Nat} {w : World} {F : Nat → Prop} {xs : List Int} (hs : Sl Ly.int w F A n c xs) (hn : n < 4611686018427387904) :
    Calls PP 122 #[.slice A n c] w (Ret fun r w' => r = .bool (xs.all flagOk) ∧ Keep No w w') := by
  apply c122
  unfold S122
  refine CALL.i (R := fun r w' => r = .bool (decide (idx (fun x => !flagOk x) xs ≥ 0)) ∧ Keep No w w') ?_ (by kernel_rfl) ?_
  · apply c151
    unfold S151
    refine CALL.i (indexFunc_int (fun x => !flagOk x) hs hn fun w1 x hk => ?_) (by kernel_rfl) ?_
    · refine CALLV.i (CALL.i (box_flags1 x w1) (by kernel_rfl) ?_)
      rintro r w2 ⟨rfl, rfl⟩
      exact ⟨rfl, Keep.refl _ _⟩
    · rintro r w1 ⟨rfl, hk⟩
      exact ⟨_, rfl, rfl, hk⟩
  · rintro r w1 ⟨rfl, hk⟩
    refine ⟨_, rfl, ?_, hk⟩
    congr 1
    rcases idx_lt (p := fun x => !flagOk x) (xs := xs) with ⟨h1, h2⟩ | ⟨i, x, h1, h2, h3, h4, h5⟩
    · rw [decide_eq_false (by omega)]
      rw [List.find?_eq_none] at h2
      simp only [Bool.not_false]
      exact (List.all_eq_true.2 fun x hx => by have := h2 x hx; simpa using this).symm
    · rw [h1, decide_eq_true (by omega)]
      have : xs.all flagOk = false := by
        rw [List.all_eq_false]
        exact ⟨x, List.mem_of_getElem? h3, by simpa using h4⟩
      rw [this]; rfl
theorem box_at1 (e : Ety) (k : Nat) (uid : Int) {w : World} (hk : At w k (.cells ⟨[.int .i64 uid]⟩ 3 (0, 0))) :
    Calls PP 150 #[evalue e, .pointer (some ⟨k, 0, none⟩)] w (Ret fun r w' => r = .bool (decide (e.uid = uid)) ∧ Keep No w w') := by
  apply c150
  unfold S150
  refine NEW.i fun b w1 hb hs1 k1 a1 => ?_
  exact ⟨_, cell_at a1 rfl, _, cell_at (hk.no k1) rfl, by rfl, k1⟩
theorem box_at {w : World} {k : Nat} {F : Nat → Prop} {B : Bx} (h : IsBox w k F B) (hl : B.l.length < 4611686018427387904) (uid : Int) :
    Calls PP 121 #[.pointer (some ⟨k, 0, none⟩), .int .i64 uid] w (Ret fun r w' => r = .int .i64 (idx (fun e : Ety => decide (e.uid = uid)) B.l) ∧ Keep No w w') := by
  apply c121
  unfold S121
  refine NEW.i fun b w1 hb hs1 k1 a1 => ?_
  obtain ⟨A, n, c, h1, h2, h3, h4⟩ := h
  refine ⟨_, _, _, cell_at (h1.no k1) rfl, ?_⟩
  refine CALL.i (indexFunc_ent (fun e => decide (e.uid = uid)) (h3.no k1).sl (by rw [← h3.len]; exact hl) fun w2 e hk2 => ?_) (by kernel_rfl) ?_
  · exact CALLV.i (CALL.i (box_at1 e b uid (a1.no hk2)) (by kernel_rfl) fun r w3 h => h)
  · rintro r w2 ⟨rfl, hk2⟩
    exact ⟨_, rfl, rfl, k1.trans hk2⟩


theorem findB_idx (B : Bx) (uid : Int) : (idx (fun e : Ety => decide (e.uid = uid)) B.l < 0 ∧ findB B uid = none) ∨
    ∃ i e, idx (fun e : Ety => decide (e.uid = uid)) B.l = (i : Nat) ∧ i < B.l.length ∧ B.l[i]? = some e ∧ findB B uid = some e ∧ e.uid = uid ∧ ∀ (j : Nat) y, j < i → B.l[j]? = some y → y.uid ≠ uid := by
  rcases idx_lt (p := fun e : Ety => decide (e.uid = uid)) (xs := B.l) with ⟨h1, h2⟩ | ⟨i, e, h1, h2, h3, h4, h5, h6⟩
  · exact .inl ⟨h1, h2⟩
  · exact .inr ⟨i, e, h1, h2, h3, h5, by simpa using h4, fun j y hj hy => by simpa using h6 j y hj hy⟩
/-- element i of a slice of entries -/
theorem Sl.ent {w : World} {F : Nat → Prop} {A : Option Addr} {n c : Nat} {xs : List Ety} (h : Sl Lent w F A n c xs) {i : Nat} (hi : i < n) :
    ∃ a x, A = some a ∧ xs[i]? = some x ∧ RD w (a.add (i * 3)) 0 (ecells x) := by
  obtain ⟨a, cs, x, h1, h2, h3, h4⟩ := h.get hi
  cases h3
  exact ⟨a, x, h1, h2, h4⟩

theorem box_get {w : World} {k : Nat} {F : Nat → Prop} {B : Bx} (h : IsBox w k F B) (hl : B.l.length < 4611686018427387904) (uid : Int) :
    Calls PP 119 #[.pointer (some ⟨k, 0, none⟩), .int .i64 uid] w (Ret fun r w' => r = .tuple #[evalue (getB B uid).1, .int .i64 (getB B uid).2] ∧ Keep No w w') := by
  apply c119
  unfold S119
  refine NEW.i fun b w1 hb hs1 k1 a1 => ?_
  refine CALL.i (box_at (h.no k1) hl uid) (by kernel_rfl) ?_
  rintro r w2 ⟨rfl, k2⟩
  refine ⟨_, rfl, ?_⟩
  rcases findB_idx B uid with ⟨h1, h2⟩ | ⟨i, e, h1, h2, h3, h4, h5, h6⟩
  · refine split_dec (fun _ => ?_) (fun hc => absurd h1 hc)
    refine ST.i (a1.no k2) (Nat.le_refl _) rfl fun w3 hs3 k3 a3 => ?_
    refine ⟨_, _, _, RD.i a3, ?_, (k1.trans k2).tmp k3 (Nat.le_of_eq hb)⟩
    simp [getB, h2, evalue, Ety.none]
  · refine split_dec (fun hc => by rw [h1] at hc; omega) (fun _ => ?_)
    rw [h1]
    obtain ⟨A, n, c, g1, g2, g3, g4⟩ := h.no (k1.trans k2)
    have hn := g3.len
    refine ⟨_, _, _, cell_at g1 rfl, ⟨by omega, by omega⟩, ?_⟩
    obtain ⟨a, x, hA, hx, hr⟩ := g3.sl.ent (i := i) (by omega)
    rw [h3] at hx
    cases hx
    refine SOMEA.i hA ⟨_, _, _, by rw [Int.toNat_natCast]; exact hr, ?_⟩
    refine ST.i (a1.no k2) (Nat.le_refl _) rfl fun w3 hs3 k3 a3 => ?_
    refine ⟨_, _, _, RD.i a3, ?_, (k1.trans k2).tmp k3 (Nat.le_of_eq hb)⟩
    simp [getB, h4, evalue]

theorem box_new (id : Int) (w : World) : Calls PP 71 #[.int .i64 id] w (Ret fun r w' => ∃ k, r = .pointer (some ⟨k, 0, none⟩) ∧ k = w.heap.size ∧ w'.heap.size = k + 1 ∧ Keep No w w' ∧ IsBox w' k (fun j => j = k) (Bx.new id)) := by
  apply c71
  unfold S71
  refine NEW.i fun b w1 hb hs1 k1 a1 => ⟨b, rfl, hb.symm, hs1, k1, none, 0, 0, ?_, rfl, Own.nil _ _ _ _, fun j hj => False.elim hj⟩
  have : (Bx.new id).validity = (if (if (1099511627776 : Int) < id then (1099511627776 : Int) else id) > (1 : Int) then (if (1099511627776 : Int) < id then (1099511627776 : Int) else id) else (1 : Int)) := by
    simp only [Bx.new]
    omega
  rw [this]
  exact a1

theorem box_next {w : World} {k : Nat} {F : Nat → Prop} {B : Bx} (h : IsBox w k F B) : Calls PP 104 #[.pointer (some ⟨k, 0, none⟩)] w (Ret fun r w' => r = .int .i64 B.next ∧ w' = w) := by
  obtain ⟨A, n, c, g1, g2, g3, g4⟩ := h
  exact c104 ⟨_, cell_at g1 rfl, rfl, rfl⟩
theorem box_validity {w : World} {k : Nat} {F : Nat → Prop} {B : Bx} (h : IsBox w k F B) : Calls PP 105 #[.pointer (some ⟨k, 0, none⟩)] w (Ret fun r w' => r = .int .i64 B.validity ∧ w' = w) := by
  obtain ⟨A, n, c, g1, g2, g3, g4⟩ := h
  exact c105 ⟨_, cell_at g1 rfl, rfl, rfl⟩

/-- slices.Clone of entries: the copy is owned -/
theorem clone_ent {A : Option Addr} {n c : Nat} {w : World} {F G : Nat → Prop} {xs : List Ety} (hs : Sl Lent w F A n c xs) (hA : A = none → n = 0) (hn : n < 1000000000) (hG : ∀ k, G k → k < w.heap.size) :
    Calls PP 40 #[.slice A n c] w (Ret fun r w' => ∃ A' c', r = .slice A' n c' ∧ Keep No w w' ∧ Own Lent 53 w' G A' n c' xs ∧ ∀ k, ownBlk A' k → w.heap.size ≤ k) := by
  apply c40
  unfold S40
  refine split_i (fun h => ?_) (fun h => ?_)
  · have h0 : A = none := Option.isNone_iff_eq_none.1 h
    have hn0 := hA h0
    subst hn0
    have hx : xs = [] := List.eq_nil_of_length_eq_zero hs.len
    subst hx
    exact ⟨none, 0, rfl, Keep.refl _ _, Own.nil _ _ _ _, fun k hk => False.elim hk⟩
  · refine NEW.i fun b w1 hb hs1 k1 a1 => ?_
    have hs' := hs.no k1
    have hO : Own Lent 53 w1 G (some ⟨b, 0, none⟩) 0 0 ([] : List Ety) := Own.new a1 (fun hc => by have := hG b hc; omega) rfl (by simp) (Row.nil _ _ _ _ _)
    refine append_sl T_ent Lent_plain hO hs' (by omega) ?_ (fun k hk => by have := hG k hk; omega)
    · intro A' c' w' hk hb' hsz hO'
      refine ⟨_, _, _, rfl, A', c', by simp, ?_, by simpa using hO', ?_⟩
      · exact k1.fresh hk (fun k hk => by rw [show k = b from hk]; exact Nat.le_of_eq hb)
      · intro k hk'
        rcases hb' k hk' with h1 | h1
        · rw [show k = b from h1]; exact Nat.le_of_eq hb
        · omega


theorem IsBox.sl {w : World} {k : Nat} {F : Nat → Prop} {B : Bx} (h : IsBox w k F B) : ∃ A n c, At w k (.cells ⟨[.int .i64 B.validity, .int .i64 B.next, .slice A n c]⟩ 95 (0, 0)) ∧ Sl Lent w F A n c B.l ∧ (A = none → n = 0) ∧ n = B.l.length := by
  obtain ⟨A, n, c, g1, g2, g3, g4⟩ := h
  refine ⟨A, n, c, g1, g3.sl.mono (fun j hj => hj.elim (fun e => e ▸ g2) (g4 j)), ?_, g3.len.symm⟩
  rintro rfl
  rcases g3.row with ⟨_, h0⟩ | ⟨g, l, h0, _⟩
  · have := g3.cap; omega
  · cases h0
theorem box_list {w : World} {k : Nat} {F G : Nat → Prop} {B : Bx} (h : IsBox w k F B) (hl : B.l.length < 1000000000) (hG : ∀ k, G k → k < w.heap.size) :
    Calls PP 18 #[.pointer (some ⟨k, 0, none⟩)] w (Ret fun r w' => ∃ A' c', r = .slice A' B.l.length c' ∧ Keep No w w' ∧ Own Lent 53 w' G A' B.l.length c' B.l ∧ ∀ k, ownBlk A' k → w.heap.size ≤ k) := by
  apply c18
  obtain ⟨A, n, c, g1, g2, g3, g4⟩ := h.sl
  subst g4
  refine ⟨_, _, _, cell_at g1 rfl, CALL.i (clone_ent (G := G) g2 g3 hl hG) (by kernel_rfl) ?_⟩
  rintro r w1 ⟨A', c', rfl, h1, h2, h3⟩
  exact ⟨_, _, _, rfl, A', c', rfl, h1, h2, h3⟩
theorem box_clone {w : World} {k : Nat} {F : Nat → Prop} {B : Bx} (h : IsBox w k F B) (hl : B.l.length < 1000000000) :
    Calls PP 39 #[.pointer (some ⟨k, 0, none⟩)] w (Ret fun r w' => ∃ k', r = .pointer (some ⟨k', 0, none⟩) ∧ Keep No w w' ∧ IsBox w' k' (fun j => w.heap.size ≤ j) B) := by
  apply c39
  unfold S39
  refine DRAW.i fun w0 hw0 k0 => ?_
  have h0 := h.no k0
  obtain ⟨A, n, c, g1, g2, g3, g4⟩ := h0.sl
  subst g4
  refine ⟨_, cell_at g1 rfl, _, cell_at g1 rfl, _, _, _, cell_at g1 rfl, ?_⟩
  refine CALL.i (clone_ent (G := fun _ => False) g2 g3 hl (fun k hk => False.elim hk)) (by kernel_rfl) ?_
  rintro r w1 ⟨A', c', rfl, h1, h2, h3⟩
  have hs : w0.heap.size = w.heap.size := by rw [hw0]
  refine ⟨_, _, _, rfl, loadVar_cell (by kernel_rfl) (cell_at (g1.no h1) rfl), loadVar_cell (by kernel_rfl) (cell_at (g1.no h1) rfl), ?_⟩
  refine NEW.i fun b w2 hb hs2 k2 a2 => ⟨b, rfl, (k0.trans h1).trans k2, A', B.l.length, c', a2, by rw [← hs, ← hb]; exact h1.size, ?_, fun j hj => by rw [← hs]; exact h3 j hj⟩
  exact (h2.no k2).mono (fun j hj => False.elim hj) fun j hj hjb => by
    have := h2.lt j hj
    rw [hjb] at this
    omega


/-! ## flags -/
def FlagsOk (B : Bx) : Prop := ∀ e ∈ B.l, 0 ≤ e.flags ∧ e.flags ≤ 31
theorem and_bit1 {f : Int} (h0 : 0 ≤ f) (h1 : f ≤ 31) : (IntKind.wrap .i64 (((BitVec.ofInt 64 f) &&& (BitVec.ofInt 64 (1 : Int))).toNat : Int) == (0 : Int)) = (f.toNat % 2 == 0) := by
  have H : ∀ n : Fin 32, (IntKind.wrap .i64 (((BitVec.ofInt 64 (n.val : Int)) &&& (BitVec.ofInt 64 (1 : Int))).toNat : Int) == (0 : Int)) = (n.val % 2 == 0) := by decide +kernel
  have := H ⟨f.toNat, by omega⟩
  rwa [Int.toNat_of_nonneg h0] at this
theorem and_bit8 {f : Int} (h0 : 0 ≤ f) (h1 : f ≤ 31) : (IntKind.wrap .i64 (((BitVec.ofInt 64 f) &&& (BitVec.ofInt 64 (8 : Int))).toNat : Int) != (0 : Int)) = (f.toNat / 8 % 2 == 1) := by
  have H : ∀ n : Fin 32, (IntKind.wrap .i64 (((BitVec.ofInt 64 (n.val : Int)) &&& (BitVec.ofInt 64 (8 : Int))).toNat : Int) != (0 : Int)) = (n.val / 8 % 2 == 1) := by decide +kernel
  have := H ⟨f.toNat, by omega⟩
  rwa [Int.toNat_of_nonneg h0] at this
theorem mix_eq {f on off : Int} (h0 : 0 ≤ f) (h1 : f ≤ 31) (h2 : 0 ≤ on) (h3 : on ≤ 31) (h4 : 0 ≤ off) (h5 : off ≤ 31) :
    IntKind.wrap .i64 (((BitVec.ofInt 64 (IntKind.wrap .i64 (((BitVec.ofInt 64 f) &&& ~~~(BitVec.ofInt 64 off)).toNat : Int))) ||| (BitVec.ofInt 64 on)).toNat : Int) = mix f on off ∧ 0 ≤ mix f on off ∧ mix f on off ≤ 31 := by
  have H1 : ∀ n k : Fin 32, IntKind.wrap .i64 (((BitVec.ofInt 64 (n.val : Int)) &&& ~~~(BitVec.ofInt 64 (k.val : Int))).toNat : Int) = ((n.val &&& (31 ^^^ k.val) : Nat) : Int) ∧ n.val &&& (31 ^^^ k.val) < 32 := by decide +kernel
  have H2 : ∀ n k : Fin 32, IntKind.wrap .i64 (((BitVec.ofInt 64 (n.val : Int)) ||| (BitVec.ofInt 64 (k.val : Int))).toNat : Int) = ((n.val ||| k.val : Nat) : Int) ∧ n.val ||| k.val < 32 := by decide +kernel
  obtain ⟨a1, a2⟩ := H1 ⟨f.toNat, by omega⟩ ⟨off.toNat, by omega⟩
  obtain ⟨b1, b2⟩ := H2 ⟨f.toNat &&& (31 ^^^ off.toNat), a2⟩ ⟨on.toNat, by omega⟩
  simp only [Int.toNat_of_nonneg h0, Int.toNat_of_nonneg h4] at a1
  simp only [Int.toNat_of_nonneg h2] at b1
  rw [a1, b1]
  simp only at b2
  exact ⟨rfl, by unfold mix; omega, by unfold mix; omega⟩

theorem take_succ_some {α : Type} {xs : List α} {i : Nat} {x : α} (h : xs[i]? = some x) : xs.take (i + 1) = xs.take i ++ [x] := by
  rw [List.take_add_one, h]; rfl

theorem box_unseen {w : World} {k : Nat} {F : Nat → Prop} {B : Bx} (h : IsBox w k F B) (hf : FlagsOk B) (hl : B.l.length < 1000000000) :
    Calls PP 106 #[.pointer (some ⟨k, 0, none⟩)] w (Ret fun r w' => r = .int .i64 (unseenB B) ∧ Keep No w w') := by
  apply c106
  unfold S106
  obtain ⟨A, n, c, g1, g2, g3, g4⟩ := h.sl
  refine ⟨_, _, _, cell_at g1 rfl, ?_⟩
  refine ⟨fun q x w1 => ∃ i : Nat, x = i ∧ i ≤ n ∧ q = ((((B.l.take i).filter fun e => e.flags.toNat % 2 == 0).length : Nat) : Int) ∧ Keep No w w1, fun _ x _ => (n - x).toNat, ⟨0, rfl, Nat.zero_le _, by simp, Keep.refl _ _⟩, ?_⟩
  rintro _ q x w1 ⟨i, rfl, hi, rfl, hk⟩
  refine split_dec (fun hlt => ?_) (fun hge => ?_)
  · have hlt' : i < n := by omega
    refine ⟨⟨by omega, hlt⟩, ?_⟩
    obtain ⟨a, x, hA, hx, hr⟩ := (g2.no hk).ent hlt'
    have hfx := hf x (List.mem_of_getElem? hx)
    refine SOMEA.i hA ⟨_, _, _, by rw [Int.toNat_natCast]; exact hr, ?_⟩
    refine NEW.i fun b w2 hb hs2 k2 a2 => ?_
    refine ST.i a2 (Nat.le_refl _) rfl fun w3 hs3 k3 a3 => ?_
    have hk3 : Keep No w w3 := (hk.trans k2).tmp k3 (by have := hk.size; omega)
    refine ⟨_, cell_at a3 rfl, ?_⟩
    have hcnt : ((B.l.take i).filter fun e => e.flags.toNat % 2 == 0).length ≤ i := Nat.le_trans (List.length_filter_le _ _) (List.length_take_le _ _)
    refine split_i (fun ht => ⟨⟨i + 1, wrapS (by omega), hlt', ?_, hk3⟩, ?_⟩) (fun ht => ⟨⟨i + 1, wrapS (by omega), hlt', ?_, hk3⟩, ?_⟩)
    · rw [and_bit1 hfx.1 hfx.2] at ht
      rw [wrapS (by omega), take_succ_some hx, List.filter_append, List.length_append]
      simp [ht]
    · exact mu_go (wrapS (by omega)) hlt'
    · rw [and_bit1 hfx.1 hfx.2] at ht
      rw [take_succ_some hx, List.filter_append, List.length_append]
      simp [ht]
    · exact mu_go (wrapS (by omega)) hlt'
  · refine ⟨?_, hk⟩
    have : i = B.l.length := by omega
    subst this
    rw [List.take_length]
    rfl

theorem box_expunge {w : World} {k : Nat} {F : Nat → Prop} {B : Bx} (h : IsBox w k F B) (hf : FlagsOk B) (hl : B.l.length < 1000000000) :
    Calls PP 123 #[.pointer (some ⟨k, 0, none⟩)] w (Ret fun r w' => ∃ A c, r = .slice A (expungeB B).2.length c ∧ Keep (fun j => j = k) w w' ∧
      IsBox w' k (fun j => j = k ∨ (w.heap.size ≤ j ∧ j < w'.heap.size ∧ ¬ ownBlk A j)) (expungeB B).1 ∧ Own Lent 53 w' No A (expungeB B).2.length c (expungeB B).2 ∧ ∀ j, ownBlk A j → w.heap.size ≤ j) := by
  apply c123
  unfold S123
  obtain ⟨A, n, c, g1, g2, g3, g4⟩ := h.sl
  have hkw := h.lt
  refine ⟨_, _, _, cell_at g1 rfl, ?_⟩
  refine ⟨fun A3 n3 c3 A4 n4 c4 x w1 => ∃ i : Nat, x = i ∧ i ≤ n ∧ Keep No w w1 ∧ Own Lent 53 w1 No A3 n3 c3 ((B.l.take i).filter del8) ∧ Own Lent 53 w1 No A4 n4 c4 ((B.l.take i).filter fun e => !del8 e) ∧
      (∀ j, ownBlk A3 j → w.heap.size ≤ j) ∧ (∀ j, ownBlk A4 j → w.heap.size ≤ j) ∧ ∀ j, ownBlk A3 j → ¬ ownBlk A4 j,
    fun _ _ _ _ _ _ x _ => (n - x).toNat, ⟨0, rfl, Nat.zero_le _, Keep.refl _ _, by simpa using Own.nil _ _ _ _, by simpa using Own.nil _ _ _ _, fun j hj => False.elim hj, fun j hj => False.elim hj, fun j hj => False.elim hj⟩, ?_⟩
  rintro _ A3 n3 c3 A4 n4 c4 x w1 ⟨i, rfl, hi, hk, o3, o4, f3, f4, hd⟩
  refine split_dec (fun hlt => ?_) (fun hge => ?_)
  · have hlt' : i < n := by omega
    refine ⟨⟨by omega, hlt⟩, ?_⟩
    obtain ⟨a, x, hA, hx, hr⟩ := (g2.no hk).ent hlt'
    have hfx := hf x (List.mem_of_getElem? hx)
    have hsz := hk.size
    refine SOMEA.i hA ⟨_, _, _, by rw [Int.toNat_natCast]; exact hr, ?_⟩
    refine NEW.i fun b w2 hb hs2 k2 a2 => ?_
    refine ST.i a2 (Nat.le_refl _) rfl fun w3 hs3 k3 a3 => ?_
    have hk3 : Keep No w1 w3 := k2.tmp k3 (by omega)
    have l3 : n3 ≤ i := by rw [← o3.len]; exact Nat.le_trans (List.length_filter_le _ _) (List.length_take_le _ _)
    have l4 : n4 ≤ i := by rw [← o4.len]; exact Nat.le_trans (List.length_filter_le _ _) (List.length_take_le _ _)
    refine ⟨_, cell_at a3 rfl, ?_⟩
    refine split_i (fun ht => ?_) (fun ht => ?_)
    · rw [and_bit8 hfx.1 hfx.2] at ht
      refine ⟨_, _, _, RD.i a3, ?_⟩
      refine NEW.i fun b4 w4 hb4 hs4 k4 a4 => ?_
      have hk4 := hk3.trans k4
      refine append_one T_ent (o3.no hk4) a4 (x := x) rfl (by omega) ?_ (fun k hk => False.elim hk)
      intro A' c' w5 k5 hb5 hs5 o5
      have hk5 : Keep No w w5 := (hk.trans hk4).fresh k5 (fun k hk => f3 k hk)
      refine ⟨_, _, _, rfl, ⟨i + 1, wrapS (by omega), hlt', hk5, ?_, ?_, own_fresh hb5 f3 (hk.trans hk4).size, f4, own_apart hb5 hd (fun j hj => Nat.lt_of_lt_of_le (o4.lt j hj) hk4.size)⟩, mu_go (wrapS (by omega)) hlt'⟩
      · rw [take_succ_some hx, List.filter_append]
        simpa [del8, ht] using o5
      · rw [take_succ_some hx, List.filter_append]
        simpa [del8, ht] using (o4.no hk4).kept k5 (fun j hj hlt hj3 => hj.elim (fun h => h) (fun h4 => hd j hj3 h4))
    · rw [and_bit8 hfx.1 hfx.2] at ht
      refine ⟨_, _, _, RD.i a3, ?_⟩
      refine NEW.i fun b4 w4 hb4 hs4 k4 a4 => ?_
      have hk4 := hk3.trans k4
      refine append_one T_ent (o4.no hk4) a4 (x := x) rfl (by omega) ?_ (fun k hk => False.elim hk)
      intro A' c' w5 k5 hb5 hs5 o5
      have hk5 : Keep No w w5 := (hk.trans hk4).fresh k5 (fun k hk => f4 k hk)
      have hd' := own_apart hb5 (fun j h4 h3 => hd j h3 h4) (fun j hj => Nat.lt_of_lt_of_le (o3.lt j hj) hk4.size)
      refine ⟨_, _, _, rfl, ⟨i + 1, wrapS (by omega), hlt', hk5, ?_, ?_, f3, own_fresh hb5 f4 (hk.trans hk4).size, fun j h3 h4 => hd' j h4 h3⟩, mu_go (wrapS (by omega)) hlt'⟩
      · rw [take_succ_some hx, List.filter_append]
        simpa [del8, ht] using (o3.no hk4).kept k5 (fun j hj hlt hj4 => hj.elim (fun h => h) (fun h3 => hd j h3 hj4))
      · rw [take_succ_some hx, List.filter_append]
        simpa [del8, ht] using o5
  · have hin : i = B.l.length := by omega
    have h3l := o3.len
    have h4l := o4.len
    subst hin
    rw [List.take_length] at o3 o4 h3l h4l
    refine ST.i (g1.no hk) (by show 2 + 1 ≤ 3; omega) rfl fun w2 hs2 k2 a2 => ?_
    have hne3 : ∀ j, ownBlk A3 j → j ≠ k := fun j hj he => by have := f3 j hj; omega
    have hne4 : ∀ j, ownBlk A4 j → j ≠ k := fun j hj he => by have := f4 j hj; omega
    refine ⟨A3, c3, by rw [← h3l]; rfl, hk.no.trans k2, ⟨A4, n4, c4, a2, .inl rfl, ?_, ?_⟩, ?_, f3⟩
    · exact (o4.kept k2 (fun j hj hlt he => hj.elim (fun h => h) (fun h4 => hne4 j h4 he))).any Lent_plain hne4
    · intro j hj
      exact .inr ⟨f4 j hj, by have := o4.lt j hj; omega, fun h3 => hd j h3 hj⟩
    · have := o3.kept k2 (fun j hj hlt he => hj.elim (fun h => h) (fun h3 => hne3 j h3 he))
      rw [← h3l] at this
      exact this


theorem setL_at {xs : List Ety} {i : Nat} {e e' : Ety} {uid : Int} : xs[i]? = some e → e.uid = uid → (∀ (j : Nat) y, j < i → xs[j]? = some y → y.uid ≠ uid) → setL uid e' xs = xs.set i e' := by
  induction xs generalizing i with
  | nil => intro h; simp at h
  | cons x xs ih =>
    intro h1 h2 h3
    cases i with
    | zero =>
      simp at h1
      subst h1
      simp [setL, h2]
    | succ i =>
      have hx := h3 0 x (by omega) rfl
      simp only [List.getElem?_cons_succ] at h1
      simp only [setL, if_neg hx, List.set_cons_succ]
      rw [ih h1 h2 fun j y hj hy => h3 (j + 1) y (by omega) (by simpa using hy)]

theorem box_set {w : World} {k : Nat} {F : Nat → Prop} {B : Bx} (h : IsBox w k F B) (hf : FlagsOk B) (hl : B.l.length < 1000000000) (uid on off : Int) :
    Calls PP 80 #[.pointer (some ⟨k, 0, none⟩), .int .i64 uid, .int .i64 on, .int .i64 off] w (Ret fun r w' => r = .tuple #[evalue (setB B uid on off).2.1, .int .i64 (setB B uid on off).2.2] ∧ Keep F w w' ∧ IsBox w' k F (setB B uid on off).1) := by
  apply c80
  unfold S80
  refine NEW.i fun b w1 hb hs1 k1 a1 => ?_
  refine CALL.i (box_at (h.no k1) (by omega) uid) (by kernel_rfl) ?_
  rintro r w2 ⟨rfl, k2⟩
  refine ⟨_, rfl, ?_⟩
  have hbx := h
  obtain ⟨A, n, c, g1, g2, g3, g4⟩ := hbx
  have hn := g3.len
  have hkw := g1.lt
  rcases findB_idx B uid with ⟨e1, e2⟩ | ⟨i, e, e1, e2, e3, e4, e5, e6⟩
  · refine split_dec (fun _ => ?_) (fun hc => absurd e1 hc)
    refine ST.i (a1.no k2) (Nat.le_refl _) rfl fun w3 hs3 k3 a3 => ?_
    have hk3 : Keep No w w3 := (k1.trans k2).tmp k3 (Nat.le_of_eq hb)
    refine ⟨_, _, _, RD.i a3, ?_, hk3.no, ?_⟩
    · simp [setB, e2, evalue, Ety.none]
    · simpa [setB, e2] using h.no hk3
  · refine split_dec (fun hc => by rw [e1] at hc; omega) (fun _ => ?_)
    rw [e1]
    refine NEW.i fun b2 w3 hb2 hs3 k3 a3 => ?_
    have hS : Sl Ly.int w3 (fun _ => True) (some ⟨b2, 0, none⟩) 2 2 [on, off] := by
      refine ⟨rfl, Nat.le_refl _, .inr ⟨b2, 0, _, _, _, rfl, trivial, a3, by show 0 + 2 * 1 ≤ 2; omega, ?_⟩⟩
      intro j x hj
      match j, hj with
      | 0, hj => cases hj; exact ⟨_, rfl, rfl⟩
      | 1, hj => cases hj; exact ⟨_, rfl, rfl⟩
    refine CALL.i (box_flags hS (by omega)) (by kernel_rfl) ?_
    rintro r w4 ⟨rfl, k4⟩
    refine ⟨_, rfl, ?_⟩
    have hk4 : Keep No w w4 := ((k1.trans k2).trans k3).trans k4
    have a4 := ((a1.no k2).no k3).no k4
    have hflags : [on, off].all flagOk = (flagOk on && flagOk off) := by simp
    refine split_i (fun ht => ?_) (fun ht => ?_)
    · refine ST.i a4 (Nat.le_refl _) rfl fun w5 hs5 k5 a5 => ?_
      have hk5 : Keep No w w5 := hk4.tmp k5 (Nat.le_of_eq hb)
      have hbad : (flagOk on && flagOk off) = false := by
        rw [hflags] at ht
        cases hq : (flagOk on && flagOk off) with
        | true => rw [hq] at ht; cases ht
        | false => rfl
      refine ⟨_, _, _, RD.i a5, ?_, hk5.no, ?_⟩
      · simp [setB, e4, hbad, evalue, Ety.none]
      · simpa [setB, e4, hbad] using h.no hk5
    · have hgood : (flagOk on && flagOk off) = true := by
        rw [hflags] at ht
        cases hq : (flagOk on && flagOk off) with
        | true => rfl
        | false => rw [hq] at ht; cases ht
      have hon : (0 ≤ on ∧ on ≤ 31) ∧ 0 ≤ off ∧ off ≤ 31 := by simpa [flagOk] using hgood
      have hfe := hf e (List.mem_of_getElem? e3)
      have hmix := mix_eq hfe.1 hfe.2 hon.1.1 hon.1.2 hon.2.1 hon.2.2
      refine DRAW.i fun w5 hw5 k5 => ?_
      have hk5 := hk4.trans k5
      have g15 := g1.no hk5
      have g35 := g3.no hk5
      have hrd : ∃ a, A = some a ∧ RD w5 (a.add (i * 3)) 0 (ecells e) := by
        obtain ⟨a, x, hA, hx, hr⟩ := g35.sl.ent (i := i) (by omega)
        rw [e3] at hx
        cases hx
        exact ⟨a, hA, hr⟩
      obtain ⟨a, hA, hr⟩ := hrd
      refine ⟨_, _, _, cell_at g15 rfl, _, _, _, cell_at g15 rfl, ⟨by omega, by omega⟩, SOMEA.i hA ⟨_, by rw [Int.toNat_natCast]; exact hr.2.1, ⟨by omega, by omega⟩, SOMEA.i hA ?_⟩⟩
      rw [hmix.1, Int.toNat_natCast]
      obtain ⟨a', hA', hst⟩ := g35.st_part (o := 1) (vs := [.int .i64 (mix e.flags on off)]) (x' := { e with flags := mix e.flags on off }) e3 rfl (by show 1 + 1 ≤ 3; omega) (by
        rintro w' cs _ rfl
        rfl) (K := fun w6 => w6.heap.size = w5.heap.size ∧ Keep (ownBlk A) w5 w6 ∧ Own Lent 53 w6 (fun j => j = k) A n c (B.l.set i { e with flags := mix e.flags on off })) (fun w6 h1 h2 h3 => ⟨h1, h2, h3⟩)
      rw [hA] at hA'
      cases hA'
      refine ST.mono hst ?_
      rintro w6 ⟨hs6, k6, o6⟩
      have hAk : ∀ j, ownBlk A j → F j := g4
      have hkA : ¬ ownBlk A k := by
        intro hc
        rcases g3.row with ⟨h0, _⟩ | ⟨g, l, h0, h1, _⟩
        · rw [h0] at hc; exact hc
        · rw [h0] at hc
          exact h1 hc.symm
      have g6 := k6.at_ g15 hkA
      refine ⟨_, _, _, cell_at g6 rfl, ⟨by omega, by omega⟩, ?_⟩
      have hr6 : ∃ a, A = some a ∧ RD w6 (a.add (i * 3)) 0 (ecells { e with flags := mix e.flags on off }) := by
        obtain ⟨a, x, hA, hx, hr⟩ := o6.sl.ent (i := i) (by omega)
        rw [List.getElem?_set_self (by omega)] at hx
        cases hx
        exact ⟨a, hA, hr⟩
      obtain ⟨a'', hA'', hr''⟩ := hr6
      refine SOMEA.i hA'' ⟨_, _, _, hr'', ?_⟩
      have hbF : ¬ ownBlk A b := by
        intro hc
        have := g3.lt b hc
        omega
      refine ST.i (k6.at_ (a4.no k5) hbF) (Nat.le_refl _) rfl fun w7 hs7 k7 a7 => ?_
      refine ⟨_, _, _, RD.i a7, ?_, ?_, ?_⟩
      · simp [setB, e4, hgood, evalue]
      · exact (hk5.no.trans (k6.mono fun j _ hj => hAk j hj)).tmp k7 (Nat.le_of_eq hb)
      · have : (setB B uid on off).1 = ⟨B.validity, B.next, B.l.set i { e with flags := mix e.flags on off }⟩ := by
          simp [setB, e4, hgood, setL_at e3 e5 e6]
        rw [this]
        exact ⟨A, n, c, k7.at_ g6 (by omega), g2, o6.kept k7 (fun j hj hlt he => hj.elim (fun h1 => by omega) (fun h1 => hbF (he ▸ h1))), g4⟩


theorem box_add {w : World} {k : Nat} {F : Nat → Prop} {B : Bx} (h : IsBox w k F B) (hl : B.l.length < 1000000000) (hn0 : 0 ≤ B.next) (hn1 : B.next < 4611686018427387904) (mail f : Int) (hF : ∀ j, F j → j < w.heap.size) :
    Calls PP 146 #[.pointer (some ⟨k, 0, none⟩), .int .i64 mail, .int .i64 f] w (Ret fun r w' => r = .tuple #[evalue (addB B mail f).2.1, .int .i64 (addB B mail f).2.2] ∧ Keep F w w' ∧ IsBox w' k (fun j => F j ∨ (w.heap.size ≤ j ∧ j < w'.heap.size)) (addB B mail f).1) := by
  apply c146
  unfold S146
  have hbx := h
  obtain ⟨A, n, c, g1, g2, g3, g4⟩ := hbx
  have hn := g3.len
  have hkw := g1.lt
  refine NEW.i fun b w1 hb hs1 k1 a1 => ?_
  have bad : ∀ (err : Int) (w2 : World), Keep No w w2 → At w2 b (.cells ⟨[.int .i64 0, .int .i64 0, .int .i64 0]⟩ 53 (0, 0)) → addB B mail f = (B, .none, err) →
      ST w2 (⟨b, 0, none⟩ : Addr) 0 [(.int .i64 (0 : Int)), (.int .i64 (0 : Int)), (.int .i64 (0 : Int))] fun w3 =>
      ∃ (x6r_0 : Int) (x6r_1 : Int) (x6r_2 : Int), RD w3 (⟨b, 0, none⟩ : Addr) 0 [(.int .i64 x6r_0), (.int .i64 x6r_1), (.int .i64 x6r_2)] ∧
      (.tuple #[(.agg #[(.int .i64 x6r_0), (.int .i64 x6r_1), (.int .i64 x6r_2)]), (.int .i64 err)] : Value) = .tuple #[evalue (addB B mail f).2.1, .int .i64 (addB B mail f).2.2] ∧ Keep F w w3 ∧ IsBox w3 k (fun j => F j ∨ (w.heap.size ≤ j ∧ j < w3.heap.size)) (addB B mail f).1 := by
    intro err w2 hk2 a2 he
    refine ST.i a2 (Nat.le_refl _) rfl fun w3 hs3 k3 a3 => ?_
    have hk3 : Keep No w w3 := hk2.tmp k3 (Nat.le_of_eq hb)
    refine ⟨_, _, _, RD.i a3, ?_, hk3.no, ?_⟩
    · rw [he]; rfl
    · rw [he]; exact (h.no hk3).mono fun j hj => .inl hj
  refine ⟨fun w2 => Keep No w w2 ∧ At w2 b (.cells ⟨[.int .i64 0, .int .i64 0, .int .i64 0]⟩ 53 (0, 0)) ∧ (decide (1 ≤ mail) && decide (mail ≤ 1099511627776) && flagOk f) = true ∧ n < 256, ?_, ?_⟩
  · refine CALL.i (box_within mail 1 1099511627776 w1) (by kernel_rfl) ?_
    rintro r w2 ⟨rfl, rfl⟩
    refine ⟨_, rfl, split_i (fun ht => ?_) (fun ht => ?_)⟩
    · refine bad 4 _ k1 a1 ?_
      have : (decide (1 ≤ mail) && decide (mail ≤ 1099511627776)) = false := by
        cases hq : (decide (1 ≤ mail) && decide (mail ≤ 1099511627776)) with
        | true => rw [hq] at ht; cases ht
        | false => rfl
      simp only [addB, this, Bool.false_and, Bool.not_false, if_true]
    · have hm : (decide (1 ≤ mail) && decide (mail ≤ 1099511627776)) = true := by
        cases hq : (decide (1 ≤ mail) && decide (mail ≤ 1099511627776)) with
        | true => rfl
        | false => rw [hq] at ht; cases ht
      refine NEW.i fun b2 w3 hb2 hs3 k3 a3 => ?_
      have hS : Sl Ly.int w3 (fun _ => True) (some ⟨b2, 0, none⟩) 1 1 [f] := by
        refine ⟨rfl, Nat.le_refl _, .inr ⟨b2, 0, _, _, _, rfl, trivial, a3, by show 0 + 1 * 1 ≤ 1; omega, ?_⟩⟩
        intro j x hj
        match j, hj with
        | 0, hj => cases hj; exact ⟨_, rfl, rfl⟩
      refine CALL.i (box_flags hS (by omega)) (by kernel_rfl) ?_
      rintro r w4 ⟨rfl, k4⟩
      have hk4 := (k1.trans k3).trans k4
      have a4 := (a1.no k3).no k4
      have hall : [f].all flagOk = flagOk f := by simp
      refine ⟨_, rfl, split_i (fun ht => ?_) (fun ht => ?_)⟩
      · refine bad 4 _ hk4 a4 ?_
        rw [hall] at ht
        have : flagOk f = false := by simpa using ht
        simp [addB, this]
      · rw [hall] at ht
        have hff : flagOk f = true := by simpa using ht
        refine ⟨_, _, _, cell_at (g1.no hk4) rfl, split_dec (fun hge => ?_) (fun hlt => ⟨hk4, a4, by rw [hm, hff]; rfl, by omega⟩)⟩
        refine bad 8 _ hk4 a4 ?_
        have hl256 : 256 ≤ B.l.length := by omega
        simp only [addB, hm, hff, Bool.and_self, Bool.not_true, Bool.false_eq_true, if_false, if_pos hl256]
  · rintro _ w2 ⟨hk2, a2, hok, hn256⟩
    refine ⟨_, cell_at (g1.no hk2) rfl, ?_⟩
    refine NEW.i fun b8 w3 hb8 hs3 k3 a3 => ?_
    refine ST.i a3 (Nat.le_refl _) rfl fun w4 hs4 k4 a4 => ?_
    have hk4 : Keep No w w4 := (hk2.trans k3).tmp k4 (by have := hk2.size; omega)
    have hb4 : At w4 b _ := k4.at_ (a2.no k3) (by have := a2.lt; omega)
    refine DRAW.i fun w5 hw5 k5 => ?_
    have hk5 := hk4.trans k5
    refine ⟨_, _, _, cell_at (g1.no hk5) rfl, _, _, _, RD.i (a4.no k5), ?_⟩
    refine NEW.i fun b41 w6 hb41 hs6 k6 a6 => ?_
    have hk6 := hk5.trans k6
    refine ⟨loadVar_cell (by kernel_rfl) (cell_at (g1.no hk6) rfl), ?_⟩
    refine append_one T_ent (g3.no hk6) a6 (x := ⟨B.next, f, mail⟩) rfl (by omega) ?_ (fun j hj => by have := hk6.size; omega)
    intro A' c' w7 k7 hb7 hs7 o7
    have hkA : ¬ ownBlk A k := by
      intro hc
      rcases g3.row with ⟨h0, _⟩ | ⟨g, l, h0, h1, _⟩
      · rw [h0] at hc; exact hc
      · rw [h0] at hc
        exact h1 hc.symm
    have hfr : ∀ j, w.heap.size ≤ j → ¬ ownBlk A j := fun j hj hc => by have := g3.lt j hc; omega
    have hA' : ∀ j, ownBlk A' j → (ownBlk A j ∨ w6.heap.size ≤ j) ∧ j < w7.heap.size := fun j hj => ⟨hb7 j hj, o7.lt j hj⟩
    have hkA' : ¬ ownBlk A' k := fun hc => by
      rcases (hA' k hc).1 with h1 | h1
      · exact hkA h1
      · have := hk6.size; omega
    refine ⟨_, _, _, rfl, ?_⟩
    have g17 := k7.at_ (g1.no hk6) hkA
    refine ST.i g17 (by show 2 + 1 ≤ 3; omega) rfl fun w8 hs8 k8 a8 => ?_
    refine ⟨_, cell_at a8 rfl, ?_⟩
    refine ST.i a8 (by show 1 + 1 ≤ 3; omega) rfl fun w9 hs9 k9 a9 => ?_
    have z4 : b8 ≠ k := by have := hk2.size; omega
    have z5 : b ≠ k := by omega
    have hb8f : ¬ ownBlk A b8 := hfr _ (by have := hk2.size; omega)
    have hbf : ¬ ownBlk A b := hfr _ (by omega)
    have e9 := k9.at_ (k8.at_ (k7.at_ ((a4.no k5).no k6) hb8f) z4) z4
    refine ⟨_, _, _, RD.i e9, ?_⟩
    have f9 := k9.at_ (k8.at_ (k7.at_ ((hb4.no k5).no k6) hbf) z5) z5
    refine ST.i f9 (Nat.le_refl _) rfl fun w10 hs10 k10 a10 => ?_
    have hn' : ¬ 256 ≤ B.l.length := by omega
    have hadd : addB B mail f = (⟨B.validity, B.next + 1, B.l ++ [⟨B.next, f, mail⟩]⟩, ⟨B.next, f, mail⟩, 0) := by
      simp [addB, hok, hn']
    refine ⟨_, _, _, RD.i a10, ?_, ?_, ?_⟩
    · rw [hadd]; rfl
    · have q7 : Keep F w w7 := hk6.no.trans (k7.mono fun j _ hj => g4 j hj)
      have q9 : Keep F w w9 := (q7.trans (k8.mono fun j _ hj => hj ▸ g2)).trans (k9.mono fun j _ hj => hj ▸ g2)
      exact q9.tmp k10 (Nat.le_of_eq hb)
    · rw [hadd]
      refine ⟨A', n + 1, c', ?_, .inl g2, ?_, ?_⟩
      · have := k10.at_ a9 (fun hc => z5 hc.symm)
        have e : IntKind.wrap .i64 (B.next + 1) = B.next + 1 := wrap64 (by omega) (by omega)
        rw [e] at this
        exact this
      · have hbA' : ¬ ownBlk A' b := fun hc => by
          rcases (hA' b hc).1 with h1 | h1
          · exact hbf h1
          · have := a2.lt; have := k3.size; have := k4.size; have := k5.size; have := k6.size; omega
        have o7' := o7.any Lent_plain (G := No) (fun _ _ h => h)
        have o8 := o7'.kept k8 (fun j hj hlt he => hj.elim (fun h => h) (fun h1 => hkA' (he ▸ h1)))
        have o9 := o8.kept k9 (fun j hj hlt he => hj.elim (fun h => h) (fun h1 => hkA' (he ▸ h1)))
        have o10 := o9.kept k10 (fun j hj hlt he => hj.elim (fun h => h) (fun h1 => hbA' (he ▸ h1)))
        exact o10.any Lent_plain (fun j hj he => hkA' (he ▸ hj))
      · intro j hj
        obtain ⟨h1, h2⟩ := hA' j hj
        rcases h1 with h1 | h1
        · exact .inl (g4 j h1)
        · exact .inr ⟨by have := hk6.size; omega, by omega⟩


/-! ## Remove -/
theorem T53 : ∃ fs, StructTy PP 53 fs ∧ ∀ a b : Ety, eqF PP fs (ecells a) (ecells b) = some ((a.uid == b.uid) && ((a.flags == b.flags) && ((a.mail == b.mail) && true))) :=
  ⟨(PP.fieldsOf 53).toList, ⟨by kernel_rfl, rfl, by kernel_rfl, by kernel_rfl⟩, fun a b => by kernel_rfl⟩
theorem ety_beq (a b : Ety) : ((a.uid == b.uid) && ((a.flags == b.flags) && ((a.mail == b.mail) && true))) = decide (a = b) := by
  obtain ⟨a1, a2, a3⟩ := a
  obtain ⟨b1, b2, b3⟩ := b
  simp only [Ety.mk.injEq, Bool.and_true]
  by_cases h1 : a1 = b1 <;> by_cases h2 : a2 = b2 <;> by_cases h3 : a3 = b3 <;> simp [h1, h2, h3]
theorem box_remove1 (e x : Ety) (k : Nat) {w : World} {t : TypeId} (hk : At w k (.cells ⟨ecells e⟩ t (0, 0))) :
    Calls PP 148 #[evalue x, .pointer (some ⟨k, 0, none⟩)] w (Ret fun r w' => r = .bool (decide (x = e)) ∧ Keep No w w') := by
  apply c148
  unfold S148
  refine NEW.i fun b w1 hb hs1 k1 a1 => ?_
  obtain ⟨fs, T, he⟩ := T53
  refine ⟨_, _, _, RD.i a1, _, _, _, RD.i (hk.no k1), _, run_struct_eql T (he x e) w1 _ _, ?_, k1⟩
  rw [ety_beq]

/-- slices.DeleteFunc of entries, of an array that is owned -/
theorem deleteFunc_ent {A : Option Addr} {n c : Nat} {f : Value} {w : World} {xs : List Ety} (p : Ety → Bool) (hs : Own Lent 53 w No A n c xs) (hn : n < 1000000000)
    (hf : ∀ w1 x, Keep (ownBlk A) w w1 → CALLV PP f [evalue x] w1 fun r w2 => r = .bool (p x) ∧ Keep No w1 w2) :
    Calls PP 147 #[.slice A n c, f] w (Ret fun r w' => r = .slice A (xs.filter fun x => !p x).length c ∧ Keep (ownBlk A) w w' ∧ Own Lent 53 w' No A (xs.filter fun x => !p x).length c (xs.filter fun x => !p x)) := by
  apply c147
  unfold S147
  have hlen := hs.len
  refine CALL.i (indexFunc_ent p hs.sl (by omega) fun w1 x hk => hf w1 x hk.no) (by kernel_rfl) ?_
  rintro r w1 ⟨rfl, k1⟩
  refine ⟨_, rfl, ?_⟩
  rcases idx_lt (p := p) (xs := xs) with ⟨h1, h2⟩ | ⟨i0, x0, h1, h2, h3, h4, h5, h6⟩
  · have hm1 : idx p xs = -1 := by
      rw [List.find?_eq_none] at h2
      exact idx_none fun j y hy => by simpa using h2 y (List.mem_of_getElem? hy)
    have hfil : (xs.filter fun x => !p x) = xs := by
      rw [List.find?_eq_none] at h2
      exact List.filter_eq_self.2 fun x hx => by simpa using h2 x hx
    refine split_i (fun _ => ?_) (fun hc => by rw [hm1] at hc; simp at hc)
    rw [hfil, hlen]
    exact ⟨rfl, k1.no, hs.no k1⟩
  · refine split_i (fun hc => by rw [h1] at hc; simp at hc) (fun _ => ?_)
    rw [h1]
    refine ⟨fun a b w2 => ∃ j i : Nat, a = j ∧ b = i ∧ j < i ∧ i ≤ n ∧ Keep (ownBlk A) w w2 ∧ j = ((xs.take i).filter fun x => !p x).length ∧ ∃ zs, Own Lent 53 w2 No A n c zs ∧ zs.take j = (xs.take i).filter (fun x => !p x) ∧ zs.drop i = xs.drop i, fun _ b _ => (n - b).toNat, ?_, ?_⟩
    · have hall : (xs.take i0).filter (fun x => !p x) = xs.take i0 := by
        refine List.filter_eq_self.2 fun x hx => ?_
        obtain ⟨q, hq⟩ := List.mem_iff_getElem?.1 hx
        rw [List.getElem?_take] at hq
        split at hq
        · rename_i hlt
          simpa using h6 q x hlt hq
        · cases hq
      have hall1 : (xs.take (i0 + 1)).filter (fun x => !p x) = xs.take i0 := by
        rw [take_succ_some h3, List.filter_append, hall]
        simp [h4]
      refine ⟨i0, i0 + 1, rfl, wrapS (by omega), by omega, by omega, k1.no, ?_, xs, hs.no k1, hall1.symm, rfl⟩
      rw [hall1]
      simp
      omega
    · rintro _ _ _ w2 ⟨j, i, rfl, rfl, hji, hi, hk2, hj, zs, oz, hz1, hz2⟩
      refine split_dec (fun hlt => ?_) (fun hge => ?_)
      · have hlt' : i < n := by omega
        refine ⟨⟨by omega, hlt⟩, ?_⟩
        obtain ⟨a, x, hA, hx, hr⟩ := oz.sl.ent hlt'
        have hxi : xs[i]? = some x := by
          have e1 : (zs.drop i)[0]? = (xs.drop i)[0]? := by rw [hz2]
          rw [List.getElem?_drop, List.getElem?_drop, Nat.add_zero] at e1
          rw [← e1, hx]
        refine SOMEA.i hA ⟨_, _, _, by rw [Int.toNat_natCast]; exact hr, ?_⟩
        refine NEW.i fun b w3 hb hs3 k3 a3 => ?_
        refine ST.i a3 (Nat.le_refl _) rfl fun w4 hs4 k4 a4 => ?_
        have hk24 : Keep No w2 w4 := k3.tmp k4 (by omega)
        have hk4 := hk2.and_no hk24
        refine ⟨_, _, _, RD.i a4, ?_⟩
        refine CALLV.mono (hf w4 x hk4) ?_
        rintro r w5 ⟨rfl, k5⟩
        have hk5 := hk4.and_no k5
        have oz5 := (oz.no hk24).no k5
        refine ⟨_, rfl, split_i (fun ht => ?_) (fun ht => ?_)⟩
        · have hpx : p x = false := by simpa using ht
          refine ⟨_, _, _, RD.i (a4.no k5), ⟨by omega, by omega⟩, SOMEA.i hA ?_⟩
          obtain ⟨a', hA', hst⟩ := oz5.st (i := j) (by omega) (x := x) (cs := ecells x) (fun w' _ => rfl) (K := fun w6 => Keep (ownBlk A) w5 w6 ∧ Own Lent 53 w6 No A n c (zs.set j x)) (fun w6 _ h2 h3 => ⟨h2, h3⟩)
          rw [hA] at hA'
          cases hA'
          refine ST.mono (by rw [Int.toNat_natCast]; exact hst) ?_
          rintro w6 ⟨k6, o6⟩
          have hjz : j < zs.length := by rw [oz.len]; omega
          refine ⟨⟨j + 1, i + 1, wrapS (by omega), wrapS (by omega), by omega, hlt', hk5.trans k6, ?_, zs.set j x, o6, ?_, ?_⟩, mu_go (wrapS (by omega)) hlt'⟩
          · rw [take_succ_some hxi, List.filter_append, List.length_append, ← hj]
            simp [hpx]
          · rw [take_succ_some hxi, List.filter_append, ← hz1]
            rw [take_succ_some (x := x) (by rw [List.getElem?_set_self hjz])]
            rw [List.take_set_of_le (Nat.le_refl _)]
            simp [hpx]
          · rw [List.drop_set_of_lt (by omega)]
            have e1 : zs.drop (i + 1) = (zs.drop i).drop 1 := by rw [List.drop_drop]
            rw [e1, hz2, List.drop_drop]
        · have hpx : p x = true := by simpa using ht
          refine ⟨⟨j, i + 1, rfl, wrapS (by omega), by omega, hlt', hk5, ?_, zs, oz5, ?_, ?_⟩, mu_go (wrapS (by omega)) hlt'⟩
          · rw [take_succ_some hxi, List.filter_append, List.length_append, ← hj]
            simp [hpx]
          · rw [take_succ_some hxi, List.filter_append, hz1]
            simp [hpx]
          · have e1 : zs.drop (i + 1) = (zs.drop i).drop 1 := by rw [List.drop_drop]
            rw [e1, hz2, List.drop_drop]
      · have hin : i = xs.length := by omega
        subst hin
        rw [List.take_length] at hj hz1
        refine ⟨⟨by omega, by omega⟩, ?_⟩
        have hcl := oz.cap
        refine clear_own T_ent ?_ oz (j := j) (by omega) 0 ?_
        · intro i z hi hz
          have e1 : PP.info? 53 = some i53 := by kernel_rfl
          rw [e1] at hi
          have hi' := Option.some.inj hi
          subst hi'
          have e2 : i53.zero = some z53 := by kernel_rfl
          rw [e2] at hz
          have hz' := Option.some.inj hz
          subst hz'
          exact z53_flat
        · intro w3 hs3 k3 o3
          refine ⟨⟨by omega, by omega⟩, ?_, hk2.trans k3, ?_⟩
          · rw [Int.toNat_natCast, Nat.sub_zero, Nat.sub_zero, hj]
            have : SLA A c 0 3 = A := by
              unfold SLA
              split
              · rfl
              · cases A with
                | none => rfl
                | some a => simp [Addr.add]
            rw [this]
          · rw [hz1, hj] at o3
            exact o3


theorem box_remove {w : World} {k : Nat} {F : Nat → Prop} {B : Bx} (h : IsBox w k F B) (hl : B.l.length < 1000000000) (uid : Int) :
    Calls PP 120 #[.pointer (some ⟨k, 0, none⟩), .int .i64 uid] w (Ret fun r w' => r = .tuple #[evalue (removeB B uid).2.1, .int .i64 (removeB B uid).2.2] ∧ Keep F w w' ∧ IsBox w' k F (removeB B uid).1) := by
  apply c120
  unfold S120
  have hbx := h
  obtain ⟨A, n, c, g1, g2, g3, g4⟩ := hbx
  have hn := g3.len
  have hkw := g1.lt
  refine NEW.i fun b w1 hb hs1 k1 a1 => ?_
  refine CALL.i (box_get (h.no k1) (by omega) uid) (by kernel_rfl) ?_
  rintro r w2 ⟨rfl, k2⟩
  refine ⟨_, _, _, _, rfl, ?_⟩
  refine NEW.i fun b6 w3 hb6 hs3 k3 a3 => ?_
  refine ST.i a3 (Nat.le_refl _) rfl fun w4 hs4 k4 a4 => ?_
  have hk3 := (k1.trans k2).trans k3
  have hsz3 := hk3.size
  have hsz2 := (k1.trans k2).size
  have hk4 : Keep No w w4 := hk3.tmp k4 (by omega)
  have b4 := k4.at_ ((a1.no k2).no k3) (by have := (a1.no k2).lt; omega)
  have hbf : ∀ j, w.heap.size ≤ j → ¬ ownBlk A j := fun j hj hc => by have := g3.lt j hc; omega
  have hkA : ¬ ownBlk A k := by
    intro hc
    rcases g3.row with ⟨h0, _⟩ | ⟨g, l, h0, h1, _⟩
    · rw [h0] at hc; exact hc
    · rw [h0] at hc
      exact h1 hc.symm
  cases hfb : findB B uid with
  | none =>
    have hget : getB B uid = (.none, 7) := by simp [getB, hfb]
    have hrem : removeB B uid = (B, .none, 7) := by simp [removeB, hfb]
    rw [hget] at a4 ⊢
    refine split_i (fun hc => by simp at hc) (fun _ => ?_)
    refine ⟨_, _, _, RD.i a4, ?_⟩
    refine ST.i b4 (Nat.le_refl _) rfl fun w5 hs5 k5 a5 => ?_
    have hk5 : Keep No w w5 := hk4.tmp k5 (Nat.le_of_eq hb)
    refine ⟨_, _, _, RD.i a5, ?_, hk5.no, ?_⟩
    · rw [hrem]; rfl
    · rw [hrem]; exact h.no hk5
  | some e =>
    have hget : getB B uid = (e, 0) := by simp [getB, hfb]
    have hrem : removeB B uid = (⟨B.validity, B.next, B.l.filter fun x => x ≠ e⟩, e, 0) := by simp [removeB, hfb]
    rw [hget] at a4 ⊢
    refine split_i (fun _ => ?_) (fun hc => by simp at hc)
    refine ⟨_, _, _, cell_at (g1.no hk4) rfl, ?_⟩
    have o4 := (g3.no hk4).any Lent_plain (G := No) (fun _ _ h => h)
    refine CALL.i (deleteFunc_ent (fun x => decide (x = e)) o4 (by omega) ?_) (by kernel_rfl) ?_
    · intro w5 x k5
      refine CALLV.i (CALL.i (box_remove1 e x b6 (t := 53) ?_) (by kernel_rfl) fun r w6 h => h)
      exact k5.at_ a4 (hbf _ (by omega))
    · rintro r w5 ⟨rfl, k5, o5⟩
      refine ⟨_, _, _, rfl, ?_⟩
      have g15 := k5.at_ (g1.no hk4) hkA
      refine ST.i g15 (by show 2 + 1 ≤ 3; omega) rfl fun w6 hs6 k6 a6 => ?_
      have a46 := k6.at_ (k5.at_ a4 (hbf _ (by omega))) (by omega)
      refine ⟨_, _, _, RD.i a46, ?_⟩
      have b46 := k6.at_ (k5.at_ b4 (hbf _ (by omega))) (by omega)
      refine ST.i b46 (Nat.le_refl _) rfl fun w7 hs7 k7 a7 => ?_
      refine ⟨_, _, _, RD.i a7, ?_, ?_, ?_⟩
      · rw [hrem]; rfl
      · have q5 : Keep F w w5 := hk4.no.trans (k5.mono fun j _ hj => g4 j hj)
        exact (q5.trans (k6.mono fun j _ hj => hj ▸ g2)).tmp k7 (Nat.le_of_eq hb)
      · rw [hrem]
        have hfil : (B.l.filter fun x => x ≠ e) = B.l.filter fun x => !decide (x = e) := by
          refine List.filter_congr fun x _ => ?_
          by_cases hx : x = e <;> simp [hx]
        refine ⟨A, _, c, k7.at_ a6 (by omega), g2, ?_, g4⟩
        have o6 := o5.kept k6 (fun j hj hlt he => hj.elim (fun h => h) (fun h1 => hkA (he ▸ h1)))
        have o7 := o6.kept k7 (fun j hj hlt he => hj.elim (fun h => h) (fun h1 => hbf _ (by omega) (he ▸ h1)))
        have := o7.any Lent_plain (G := fun j => j = k) (fun j hj he => hkA (he ▸ hj))
        simp only at hfil ⊢
        rw [hfil]
        exact this

end Go.SW
