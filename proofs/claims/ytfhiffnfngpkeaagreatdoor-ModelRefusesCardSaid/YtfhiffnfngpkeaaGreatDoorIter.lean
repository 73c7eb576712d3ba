/- Iterators: what one promises, and what a loop over it needs. -/
import Derived.Test.YtfhiffnfngpkeaaGreatDoorUtil
set_option linter.unusedVariables false
namespace Go.SW
open Go Go.Proofs

/-- fv is an iterator: it hands out the x's (Sx: what may come behind those that came; S: all that came), and reads the blocks Src alone -/
def ITER {α : Type} (fv : Value) (enc : α → List Value) (Sx : List α → α → Prop) (S : List α → Prop) (Src : Nat → Prop) (w : World) : Prop :=
  ∃ g cs, fv = .func (.func g) #[] ⟨cs⟩ ∧ callable PP g = true ∧
    ∀ (yv : Value) (J : List α → (Nat → Prop) → World → Prop) (F0 : Nat → Prop) (w1 : World), Keep No w w1 → J [] F0 w1 →
      (∀ vis F a b, J vis F a → (∀ k, F k ∨ Src k → b.heap[k]? = a.heap[k]?) → a.heap.size ≤ b.heap.size → J vis F b) →
      (∀ vis F a k, J vis F a → F k → k < a.heap.size) → (∀ k, F0 k → ¬ Src k) →
      (∀ vis F a x, J vis F a → Sx vis x → CALLV PP yv (enc x) a fun r b => r = .bool true ∧ Keep F a b ∧ ∃ F', J (vis ++ [x]) F' b ∧ ∀ k, F' k → F k ∨ a.heap.size ≤ k) →
      Calls PP g ⟨yv :: cs⟩ w1 (Ret fun _ w2 => Keep F0 w1 w2 ∧ ∃ vis F, S vis ∧ J vis F w2 ∧ ∀ k, F k → F0 k ∨ w1.heap.size ≤ k)

theorem ITER.later {α : Type} {fv : Value} {enc : α → List Value} {Sx : List α → α → Prop} {S : List α → Prop} {Src : Nat → Prop} {w w' : World} (h : ITER fv enc Sx S Src w) (hk : Keep No w w') : ITER fv enc Sx S Src w' := by
  obtain ⟨g, cs, h1, h2, h3⟩ := h
  exact ⟨g, cs, h1, h2, fun yv J F0 w1 hw => h3 yv J F0 w1 (hk.trans hw)⟩
theorem putObj_keep {w : World} {l : Nat} {o : Obj} (o' : Obj) (h : At w l o) : Keep (fun k => k = l) w (w.putObj l o') ∧ At (w.putObj l o') l o' ∧ (w.putObj l o').heap.size = w.heap.size := by
  obtain ⟨h1, h2, h3⟩ := set_keep o' h
  exact ⟨h1, h2, h3.symm⟩

theorem RANGE.j {α : Type} {fv : Value} {enc : α → List Value} {Sx : List α → α → Prop} {S : List α → Prop} {Src : Nat → Prop} {w : World} {np : Nat}
    {B : List Value → World → (World → (World → Prop) → Prop) → (World → Prop) → Prop} {Z : Nat → World → Prop}
    (hI : ITER fv enc Sx S Src w) (hnp : ∀ x, (enc x).length = np) (hS : ∀ k, Src k → k < w.heap.size) (I : List α → (Nat → Prop) → World → Prop) (F0 : Nat → Prop)
    (h0 : ∀ w1, Keep No w w1 → I [] F0 w1)
    (hframe : ∀ vis F a b, I vis F a → (∀ k, F k ∨ Src k → b.heap[k]? = a.heap[k]?) → a.heap.size ≤ b.heap.size → I vis F b)
    (hlt : ∀ vis F a k, I vis F a → F k → k < a.heap.size) (hF0 : ∀ k, F0 k → k < w.heap.size) (hsrc : ∀ k, F0 k → ¬ Src k)
    (hbody : ∀ vis F a x l, I vis F a → Sx vis x → ¬ F l → l < a.heap.size → w.heap.size ≤ l → ∀ beg K,
      (∀ w3 X, Keep No a w3 → (∀ w4, w4.heap.size = w3.heap.size → Keep (fun k => k = l) w3 w4 →
        (∀ w5 F', Keep F w4 w5 → I (vis ++ [x]) F' w5 → (∀ k, F' k → F k ∨ a.heap.size ≤ k) → K w5) → X w4) → beg w3 X) → B (enc x) a beg K)
    (hZ : ∀ vis F D w2, S vis → I vis F w2 → At w2 D (.deferred (some [])) → ¬ F D → w.heap.size ≤ D → Keep F0 w w2 → (∀ k, F k → F0 k ∨ w.heap.size ≤ k) → Z D w2) :
    RANGE PP fv np B Z w := by
  obtain ⟨g, cs, rfl, hg, hit⟩ := hI
  refine ⟨g, cs, rfl, ?_⟩
  intro l rdy bsy fin w1 hl hw1 hr hb hf hy
  have k1 : Keep No w (w.alloc (.deferred (some []))) := push_keep _ _
  have k2 : Keep No (w.alloc (.deferred (some []))) w1 := by rw [hw1]; exact push_keep _ _
  have hsz : ∀ (u : World) (o : Obj), (u.alloc o).heap.size = u.heap.size + 1 := fun u o => by simp only [World.alloc, Array.size_push]
  have hs1 : (w.alloc (.deferred (some []))).heap.size = w.heap.size + 1 := hsz _ _
  have hs2 : w1.heap.size = w.heap.size + 2 := by rw [hw1, hsz, hsz]
  have aD : At w1 (l - 1) (.deferred (some [])) := by
    have : At (w.alloc (.deferred (some []))) w.heap.size (.deferred (some [])) := push_at _ _
    rw [hl]
    exact this.no k2
  have aL : At w1 l rdy := by
    have : At w1 (w.alloc (.deferred (some []))).heap.size rdy := by rw [hw1]; exact push_at _ _
    rw [hs1] at this
    rw [hl]; exact this
  refine ⟨callable_ hg, ?_⟩
  refine Calls.ret (hit (.func (.yield l) #[] #[]) (fun vis F a => ∃ F' : Nat → Prop, (∀ k, F k ↔ F' k ∨ k = l ∨ k = l - 1) ∧ I vis F' a ∧ ¬ F' l ∧ ¬ F' (l - 1) ∧ At a l rdy ∧ At a (l - 1) (.deferred (some [])))
    (fun k => F0 k ∨ k = l ∨ k = l - 1) w1 (k1.trans k2) ⟨F0, fun k => Iff.rfl, h0 w1 (k1.trans k2), fun h => by have := hF0 _ h; omega, fun h => by have := hF0 _ h; omega, aL, aD⟩ ?_ ?_ ?_ ?_) ?_
  · rintro vis F a b ⟨F', h1, h2, h3, h4, h5, h6⟩ hk hs
    exact ⟨F', h1, hframe vis F' a b h2 (fun k hk' => hk k (hk'.elim (fun h => .inl ((h1 k).2 (.inl h))) .inr)) hs, h3, h4, (hk l (.inl ((h1 l).2 (.inr (.inl rfl))))).trans h5, (hk _ (.inl ((h1 _).2 (.inr (.inr rfl))))).trans h6⟩
  · rintro vis F a k ⟨F', h1, h2, h3, h4, h5, h6⟩ hk
    rcases (h1 k).1 hk with h | rfl | rfl
    · exact hlt vis F' a k h2 h
    · exact h5.lt
    · exact h6.lt
  · rintro k (h | rfl | rfl) hsk
    · exact hsrc k h hsk
    · have := hS _ hsk; omega
    · have := hS _ hsk; omega
  · rintro vis F a x ⟨F', h1, h2, h3, h4, h5, h6⟩ hx
    refine hy (enc x) a (fun b => Keep F a b ∧ ∃ F'' : Nat → Prop, (∃ F3 : Nat → Prop, (∀ k, F'' k ↔ F3 k ∨ k = l ∨ k = l - 1) ∧ I (vis ++ [x]) F3 b ∧ ¬ F3 l ∧ ¬ F3 (l - 1) ∧ At b l rdy ∧ At b (l - 1) (.deferred (some []))) ∧ ∀ k, F'' k → F k ∨ a.heap.size ≤ k) (hnp x) h5 ?_
    refine hbody vis F' a x l h2 hx h3 h5.lt (by omega) _ _ ?_
    intro w3 X hk3 hX
    have a3 : At w3 l rdy := h5.no hk3
    obtain ⟨p1, p2, p3⟩ := putObj_keep bsy a3
    refine ⟨a3, hX _ p3 p1 ?_⟩
    intro w5 F3 hk5 hI5 hF3
    have a5 : At w5 l bsy := hk5.at_ p2 h3
    obtain ⟨q1, q2, q3⟩ := putObj_keep rdy a5
    have hlF3 : ¬ F3 l := fun h => by
      rcases hF3 l h with h | h
      · exact h3 h
      · have := h5.lt; omega
    have hDF3 : ¬ F3 (l - 1) := fun h => by
      rcases hF3 _ h with h | h
      · exact h4 h
      · have := h6.lt; omega
    have d5 : At w5 (l - 1) (.deferred (some [])) := hk5.at_ (p1.at_ (h6.no hk3) (by omega)) h4
    have hkF : Keep F a w5 := (hk3.no.trans (p1.mono fun k _ hk => (h1 k).2 (.inr (.inl hk)))).trans (hk5.mono fun k _ hk => (h1 k).2 (.inl hk))
    refine ⟨a5, hkF.trans (q1.mono fun k _ hk => (h1 k).2 (.inr (.inl hk))), fun k => F3 k ∨ k = l ∨ k = l - 1, ⟨F3, fun k => Iff.rfl, ?_, hlF3, hDF3, q2, q1.at_ d5 (by omega)⟩, ?_⟩
    · exact hframe _ F3 w5 _ hI5 (fun k hk => by
        rcases hk with hk | hk
        · by_cases hkl : k < w5.heap.size
          · exact q1.keep k hkl (fun he => hlF3 (he ▸ hk))
          · exact absurd (hlt _ F3 w5 k hI5 hk) hkl
        · have z1 := hS k hk
          have z2 := a5.lt
          exact q1.keep k (by omega) (fun he => by omega)) (Nat.le_of_eq q3.symm)
    · rintro k (h | rfl | rfl)
      · rcases hF3 k h with h | h
        · exact .inl ((h1 k).2 (.inl h))
        · exact .inr h
      · exact .inl ((h1 _).2 (.inr (.inl rfl)))
      · exact .inl ((h1 _).2 (.inr (.inr rfl)))
  · rintro r w2 ⟨hk, vis, F, hS', ⟨F', h1, h2, h3, h4, h5, h6⟩, hF⟩
    obtain ⟨q1, q2, q3⟩ := putObj_keep fin h5
    refine ⟨h5, hZ vis F' (l - 1) _ hS' ?_ (q1.at_ h6 (by omega)) h4 (by omega) ?_ ?_⟩
    · exact hframe _ F' w2 _ h2 (fun k hk => by
        rcases hk with hk | hk
        · exact q1.keep k (hlt _ F' w2 k h2 hk) (fun he => h3 (he ▸ hk))
        · have z1 := hS k hk
          have z2 := h5.lt
          exact q1.keep k (by omega) (fun he => by omega)) (Nat.le_of_eq q3.symm)
    · have z1 : Keep (fun k => F0 k) w w2 := (k1.trans k2).no.trans' hk (fun k hk h => by
        rcases h with h | rfl | rfl
        · exact h
        · omega
        · omega)
      exact z1.fresh q1 (fun k hk => by omega)
    · intro k hk'
      rcases hF k ((h1 k).2 (.inl hk')) with (h | rfl | rfl) | h
      · exact .inl h
      · exact .inr (by omega)
      · exact .inr (by omega)
      · exact .inr (by omega)
/-- a body that reads nothing of the source -/
theorem RANGE.i {α : Type} {fv : Value} {enc : α → List Value} {Sx : List α → α → Prop} {S : List α → Prop} {Src : Nat → Prop} {w : World} {np : Nat}
    {B : List Value → World → (World → (World → Prop) → Prop) → (World → Prop) → Prop} {Z : Nat → World → Prop}
    (hI : ITER fv enc Sx S Src w) (hnp : ∀ x, (enc x).length = np) (hS : ∀ k, Src k → k < w.heap.size) (I : List α → (Nat → Prop) → World → Prop) (F0 : Nat → Prop)
    (h0 : ∀ w1, Keep No w w1 → I [] F0 w1)
    (hframe : ∀ vis F a b, I vis F a → (∀ k, F k → b.heap[k]? = a.heap[k]?) → a.heap.size ≤ b.heap.size → I vis F b)
    (hlt : ∀ vis F a k, I vis F a → F k → k < a.heap.size) (hF0 : ∀ k, F0 k → k < w.heap.size) (hsrc : ∀ k, F0 k → ¬ Src k)
    (hbody : ∀ vis F a x l, I vis F a → Sx vis x → ¬ F l → l < a.heap.size → ∀ beg K,
      (∀ w3 X, Keep No a w3 → (∀ w4, w4.heap.size = w3.heap.size → Keep (fun k => k = l) w3 w4 →
        (∀ w5 F', Keep F w4 w5 → I (vis ++ [x]) F' w5 → (∀ k, F' k → F k ∨ a.heap.size ≤ k) → K w5) → X w4) → beg w3 X) → B (enc x) a beg K)
    (hZ : ∀ vis F D w2, S vis → I vis F w2 → At w2 D (.deferred (some [])) → ¬ F D → w.heap.size ≤ D → Keep F0 w w2 → (∀ k, F k → F0 k ∨ w.heap.size ≤ k) → Z D w2) :
    RANGE PP fv np B Z w :=
  RANGE.j hI hnp hS I F0 h0 (fun vis F a b h1 h2 h3 => hframe vis F a b h1 (fun k hk => h2 k (.inl hk)) h3) hlt hF0 hsrc (fun vis F a x l h1 h2 h3 h4 _ => hbody vis F a x l h1 h2 h3 h4) hZ
end Go.SW
