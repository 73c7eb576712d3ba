/- A slice that a loop grows: all that it writes was laid since. -/
import Derived.Test.YtfhiffnfngpkeaaGreatDoorRef15
set_option linter.unusedVariables false
namespace Go.SW
open Go Go.Proofs Pl

/-- owned, and laid since w0; since w0 nothing older was written -/
structure Og {α : Type} (L : Ly α) (e : TypeId) (F : Nat → Prop) (w0 w : World) (A : Option Addr) (n c : Nat) (xs : List α) : Prop where
  keep : Keep No w0 w
  own : Own L e w F A n c xs
  new : ∀ j, ownBlk A j → w0.heap.size ≤ j
  beh : ∀ j, F j → j < w0.heap.size

section
variable {α : Type} {L : Ly α} {e : TypeId} {F : Nat → Prop} {w0 w w' : World} {A : Option Addr} {n c : Nat} {xs : List α}
theorem Og.no (h : Og L e F w0 w A n c xs) (hk : Keep No w w') : Og L e F w0 w' A n c xs := ⟨h.keep.trans hk, h.own.no hk, h.new, h.beh⟩
theorem Og.st {k : Nat} (h : Og L e F w0 w A n c xs) (hk : Keep (fun j => j = k) w w') (h0 : w0.heap.size ≤ k) (hne : ¬ ownBlk A k) : Og L e F w0 w' A n c xs :=
  ⟨h.keep.tmp hk h0, h.own.kept hk fun j hj _ he => by
    subst he
    rcases hj with hj | hj
    · have := h.beh _ hj; omega
    · exact hne hj, h.new, h.beh⟩
/-- other blocks, laid since, are written -/
theorem Og.oth {S : Nat → Prop} (h : Og L e F w0 w A n c xs) (hk : Keep S w w') (h0 : ∀ j, S j → w0.heap.size ≤ j ∧ ¬ ownBlk A j) : Og L e F w0 w' A n c xs :=
  ⟨h.keep.fresh hk (fun j hj => (h0 j hj).1), h.own.kept hk fun j hj _ hs => by
    rcases hj with hj | hj
    · have := h.beh _ hj; have := (h0 j hs).1; omega
    · exact (h0 j hs).2 hj, h.new, h.beh⟩
theorem Og.fresh (h : Og L e F w0 w A n c xs) {k : Nat} (hk : w.heap.size ≤ k) : ¬ ownBlk A k := fun hc => by
  have := h.own.lt k hc; omega
theorem Og.gn (h : Og L e F w0 w A n c xs) : Sl L w (Gn F w0 w) A n c xs :=
  h.own.sl.mono fun j hj => hj.imp id fun h' => ⟨h.new j h', h.own.lt j h'⟩
theorem Og.gn' (h : Og L e F w0 w A n c xs) {w1 : World} {G : Nat → Prop} (hs : w1.heap.size ≤ w0.heap.size) (hG : ∀ j, F j → Gn G w1 w j) : Sl L w (Gn G w1 w) A n c xs :=
  h.own.sl.mono fun j hj => hj.elim (hG j) fun h' => .inr ⟨by have := h.new j h'; omega, h.own.lt j h'⟩
/-- an empty literal -/
theorem Og.nil {k : Nat} {l : List Value} (hk : Keep No w0 w) (ha : At w k (.cells ⟨[]⟩ e (0, 0))) (h0 : w0.heap.size ≤ k) (hF : ∀ j, F j → j < w0.heap.size) : Og L e F w0 w (some ⟨k, 0, none⟩) 0 0 ([] : List α) :=
  ⟨hk, Own.new ha (fun h => by have := hF _ h; omega) rfl (by simp) (Row.nil _ _ _ _ _), fun j hj => by rw [show j = k from hj]; exact h0, hF⟩
theorem Og.none (hk : Keep No w0 w) (hF : ∀ j, F j → j < w0.heap.size) : Og L e F w0 w Option.none 0 0 ([] : List α) :=
  ⟨hk, ⟨rfl, Nat.le_refl _, .inl ⟨rfl, rfl⟩⟩, fun j hj => False.elim hj, hF⟩
/-- one more, laid in a block of its own -/
theorem Og.one {t : TypeId} {bytes : Nat} (T : ElemTy L t e bytes) (h : Og L e F w0 w A n c xs) {b : Nat} {x : α} {cs : List Value} {t' : TypeId} {K : Value → World → Prop}
    (hb : At w b (.cells ⟨cs⟩ t' (0, 0))) (hr : L.rel w F x cs) (hsmall : (n + 1) * bytes ≤ 1099511627776)
    (hk : ∀ A' c' w', Keep (ownBlk A) w w' → Og L e F w0 w' A' (n + 1) c' (xs ++ [x]) → (∀ j, ownBlk A' j → ownBlk A j ∨ w.heap.size ≤ j) → K (.slice A' (n + 1) c') w') :
    RUN PP (Builtin.append_ #[t, t] t #[.slice A n c, .slice (some ⟨b, 0, Option.none⟩) 1 1]) w K := by
  refine append_one T h.own hb hr hsmall ?_ fun j hj => by have := h.beh j hj; have := h.keep.size; omega
  intro A' c' w2 q2 hb2 hs2 o2
  exact hk A' c' w2 q2 ⟨h.keep.fresh q2 h.new, o2, own_fresh hb2 h.new h.keep.size, h.beh⟩ hb2
/-- a whole slice more -/
theorem Og.more {t : TypeId} {bytes : Nat} (T : ElemTy L t e bytes) (h : Og L e F w0 w A n c xs) {B : Option Addr} {m c2 : Nat} {ys : List α} {K : Value → World → Prop}
    (hS : Sl L w F B m c2 ys) (hsmall : (n + m) * bytes ≤ 1099511627776)
    (hk : ∀ A' c' w', Keep (ownBlk A) w w' → Og L e F w0 w' A' (n + m) c' (xs ++ ys) → (∀ j, ownBlk A' j → ownBlk A j ∨ w.heap.size ≤ j) → K (.slice A' (n + m) c') w') :
    RUN PP (Builtin.append_ #[t, t] t #[.slice A n c, .slice B m c2]) w K := by
  refine append_own T h.own ?_ hS.len hsmall ?_ fun j hj => by have := h.beh j hj; have := h.keep.size; omega
  · rcases hS.row with h0 | ⟨b', off, l, t, fr, h1, h2, h3, h4, h5⟩
    · have := hS.len
      subst h0
      exact .inl ⟨rfl, List.eq_nil_of_length_eq_zero this⟩
    · exact .inr ⟨b', off, l, t, fr, h1, h3, h4, h5⟩
  intro A' c' w2 q2 hb2 hs2 o2
  exact hk A' c' w2 q2 ⟨h.keep.fresh q2 h.new, o2, own_fresh hb2 h.new h.keep.size, h.beh⟩ hb2
/-- of plain data: whatever lies behind -/
theorem Og.moreP {t : TypeId} {bytes : Nat} (T : ElemTy L t e bytes) (hp : L.Plain) (h : Og L e F w0 w A n c xs) {B : Option Addr} {m c2 : Nat} {ys : List α} {G : Nat → Prop} {K : Value → World → Prop}
    (hS : Sl L w G B m c2 ys) (hsmall : (n + m) * bytes ≤ 1099511627776)
    (hk : ∀ A' c' w', Keep (ownBlk A) w w' → Og L e F w0 w' A' (n + m) c' (xs ++ ys) → (∀ j, ownBlk A' j → ownBlk A j ∨ w.heap.size ≤ j) → K (.slice A' (n + m) c') w') :
    RUN PP (Builtin.append_ #[t, t] t #[.slice A n c, .slice B m c2]) w K := by
  refine append_sl T hp h.own hS hsmall ?_ fun j hj => by have := h.beh j hj; have := h.keep.size; omega
  intro A' c' w2 q2 hb2 hs2 o2
  exact hk A' c' w2 q2 ⟨h.keep.fresh q2 h.new, o2, own_fresh hb2 h.new h.keep.size, h.beh⟩ hb2
end
/-- a local block, laid since -/
theorem At.oth {w w' : World} {b k : Nat} {o : Obj} (h : At w b o) (hk : Keep (fun j => j = k) w w') (hne : b ≠ k) : At w' b o := hk.at_ h hne
theorem At.own_ {w w' : World} {A : Option Addr} {b : Nat} {o : Obj} (h : At w b o) (hk : Keep (ownBlk A) w w') (hne : ¬ ownBlk A b) : At w' b o := hk.at_ h hne
end Go.SW
