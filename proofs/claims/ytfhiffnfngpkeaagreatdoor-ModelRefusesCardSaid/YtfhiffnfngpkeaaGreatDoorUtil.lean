/- Small words for the walks: kept worlds, loops by an index, the library's IndexFunc. -/
import Derived.Test.YtfhiffnfngpkeaaGreatDoorMaps
set_option linter.unusedVariables false
namespace Go.SW
open Go Go.Proofs

theorem Keep.tmp {w w1 w2 : World} {S : Nat → Prop} {b : Nat} (h : Keep S w w1) (h' : Keep (fun k => k = b) w1 w2) (hb : w.heap.size ≤ b) : Keep S w w2 :=
  h.trans' h' fun k hk he => absurd (he ▸ hk) (Nat.not_lt.2 hb)
/-- what was laid since may be written -/
theorem Keep.fresh {w w1 w2 : World} {S T : Nat → Prop} (h : Keep S w w1) (h' : Keep T w1 w2) (hb : ∀ k, T k → w.heap.size ≤ k) : Keep S w w2 :=
  h.trans' h' fun k hk he => absurd hk (Nat.not_lt.2 (hb k he))
theorem Keep.and_no {w w1 w2 : World} {S : Nat → Prop} (h : Keep S w w1) (h' : Keep No w1 w2) : Keep S w w2 := h.trans h'.no
theorem No.elim {k : Nat} {p : Prop} (h : No k) : p := False.elim h
theorem At.no {w w' : World} {b : Nat} {o : Obj} (h : At w b o) (hk : Keep No w w') : At w' b o := hk.at_ h (fun h => h)
theorem Sl.no {α : Type} {L : Ly α} {w w' : World} {F : Nat → Prop} {A : Option Addr} {n c : Nat} {xs : List α} (h : Sl L w F A n c xs) (hk : Keep No w w') : Sl L w' F A n c xs := h.kept hk (fun _ _ _ h => h)
theorem Own.no {α : Type} {L : Ly α} {e : TypeId} {w w' : World} {F : Nat → Prop} {A : Option Addr} {n c : Nat} {xs : List α} (h : Own L e w F A n c xs) (hk : Keep No w w') : Own L e w' F A n c xs := h.kept hk (fun _ _ _ h => h)
theorem MapAt.no {κ ν : Type} [DecidableEq κ] {E : KV κ ν} {w w' : World} {mb : Nat} {M : List (κ × ν)} (h : MapAt E w mb M) (hk : Keep No w w') : MapAt E w' mb M := h.kept hk (fun h => h)
theorem MapIt.no {κ ν : Type} [DecidableEq κ] {E : KV κ ν} {w w' : World} {mb it : Nat} {M : List (κ × ν)} {vis : List κ} (h : MapIt E w mb it M vis) (hk : Keep No w w') : MapIt E w' mb it M vis := h.kept hk (fun h => h) (fun h => h)

theorem wrapS {i : Nat} (h : i < 4611686018427387904) : IntKind.wrap .i64 ((i : Int) + 1) = ((i + 1 : Nat) : Int) := by
  rw [wrap64 (by omega) (by omega)]; omega
theorem mu_lt {n i : Nat} (h : i < n) : ((n : Int) - ((i + 1 : Nat) : Int)).toNat < ((n : Int) - (i : Int)).toNat := by omega
theorem mu_go {n i : Nat} {x : Int} (hx : x = ((i + 1 : Nat) : Int)) (h : i < n) : ((n : Int) - x).toNat < ((n : Int) - (i : Int)).toNat := by omega
theorem SOMEA.i {A : Option Addr} {a : Addr} {K : Addr → Prop} (h : A = some a) (hk : K a) : SOMEA A K := by rw [h]; exact hk
theorem RD1 {w : World} {a : Addr} {v : Value} (h : RD w a 0 [v]) : World.cell? w a = some v := by
  have := h.1
  rwa [show a.add 0 = a from by unfold Addr.add; simp] at this
/-- element i of a slice of numbers, of texts -/
theorem Sl.int {w : World} {F : Nat → Prop} {A : Option Addr} {n c : Nat} {xs : List Int} (h : Sl Ly.int w F A n c xs) {i : Nat} (hi : i < n) :
    ∃ a x, A = some a ∧ xs[i]? = some x ∧ World.cell? w (a.add (i * 1)) = some (.int .i64 x) := by
  obtain ⟨a, cs, x, h1, h2, h3, h4⟩ := h.get hi
  cases h3
  exact ⟨a, x, h1, h2, RD1 h4⟩
theorem Sl.str {w : World} {F : Nat → Prop} {A : Option Addr} {n c : Nat} {xs : List ByteArray} (h : Sl Ly.str w F A n c xs) {i : Nat} (hi : i < n) :
    ∃ a x, A = some a ∧ xs[i]? = some x ∧ World.cell? w (a.add (i * 1)) = some (.string x) := by
  obtain ⟨a, cs, x, h1, h2, h3, h4⟩ := h.get hi
  cases h3
  exact ⟨a, x, h1, h2, RD1 h4⟩

/-- the place of the first that p says yes of; -1: none -/
def idx {α : Type} (p : α → Bool) (xs : List α) : Int := match xs.findIdx? p with | some i => (i : Int) | none => -1
theorem idx_at {α : Type} {p : α → Bool} {xs : List α} {i : Nat} {x : α} (hx : xs[i]? = some x) (hp : p x = true) (hb : ∀ (j : Nat) y, j < i → xs[j]? = some y → p y = false) : idx p xs = i := by
  have hlt := (List.getElem?_eq_some_iff.1 hx).1
  have : xs.findIdx? p = some i := by
    rw [List.findIdx?_eq_some_iff_getElem]
    refine ⟨hlt, ?_, ?_⟩
    · rw [(List.getElem?_eq_some_iff.1 hx).2]; exact hp
    · intro j hj
      have := hb j _ hj (List.getElem?_eq_getElem (by omega))
      simp [this]
  simp [idx, this]
theorem idx_none {α : Type} {p : α → Bool} {xs : List α} (hb : ∀ (j : Nat) y, xs[j]? = some y → p y = false) : idx p xs = -1 := by
  have : xs.findIdx? p = none := by
    rw [List.findIdx?_eq_none_iff]
    intro x hx
    obtain ⟨j, hj⟩ := List.mem_iff_getElem?.1 hx
    exact hb j x hj
  simp [idx, this]
theorem idx_lt {α : Type} {p : α → Bool} {xs : List α} : (idx p xs < 0 ∧ xs.find? p = none) ∨ ∃ i x, idx p xs = (i : Nat) ∧ i < xs.length ∧ xs[i]? = some x ∧ p x = true ∧ xs.find? p = some x ∧ ∀ (j : Nat) y, j < i → xs[j]? = some y → p y = false := by
  cases h : xs.findIdx? p with
  | none =>
    refine .inl ⟨by simp [idx, h], ?_⟩
    rw [List.findIdx?_eq_none_iff] at h
    rw [List.find?_eq_none]
    intro x hx
    simp [h x hx]
  | some i =>
    rw [List.findIdx?_eq_some_iff_getElem] at h
    obtain ⟨hlt, h1, h2⟩ := h
    refine .inr ⟨i, xs[i], ?_, hlt, List.getElem?_eq_getElem hlt, h1, ?_, ?_⟩
    · have : xs.findIdx? p = some i := by rw [List.findIdx?_eq_some_iff_getElem]; exact ⟨hlt, h1, h2⟩
      simp [idx, this]
    · rw [List.find?_eq_some_iff_getElem]
      exact ⟨h1, i, hlt, rfl, fun j hj => by have := h2 j hj; simpa using this⟩
    · intro j y hj hy
      have := h2 j hj
      rw [(List.getElem?_eq_some_iff.1 hy).2] at this
      simpa using this

/-- data in the cells alone -/
def Ly.Plain {α : Type} (L : Ly α) : Prop := ∀ (w w' : World) (F G : Nat → Prop) (x : α) (cs : List Value), L.rel w F x cs → L.rel w' G x cs
theorem Row.any {α : Type} {L : Ly α} (hp : L.Plain) {w w' : World} {F G : Nat → Prop} {l : List Value} {off : Nat} {xs : List α} (h : Row L w F l off xs) : Row L w' G l off xs := by
  intro j x hx
  obtain ⟨cs, h1, h2⟩ := h j x hx
  exact ⟨cs, h1, hp _ _ _ _ _ _ h2⟩
theorem Ly.str_plain : Ly.str.Plain := fun _ _ _ _ _ _ h => h
theorem Ly.int_plain : Ly.int.Plain := fun _ _ _ _ _ _ h => h
/-- append of what a slice holds, onto an owned one; both of plain data -/
theorem append_sl {α : Type} {L : Ly α} {t e : TypeId} {bytes : Nat} (T : ElemTy L t e bytes) (hp : L.Plain) {w : World} {F G : Nat → Prop} {A B : Option Addr} {n c m c' : Nat} {xs ys : List α} {K : Value → World → Prop}
    (hO : Own L e w F A n c xs) (hS : Sl L w G B m c' ys) (hsmall : (n + m) * bytes ≤ 1099511627776)
    (hk : ∀ A' c' w', Keep (ownBlk A) w w' → (∀ k, ownBlk A' k → ownBlk A k ∨ w.heap.size ≤ k) → w'.heap.size ≤ w.heap.size + 1 → Own L e w' F A' (n + m) c' (xs ++ ys) → K (.slice A' (n + m) c') w')
    (hF : ∀ k, F k → k < w.heap.size) : RUN PP (Builtin.append_ #[t, t] t #[.slice A n c, .slice B m c']) w K := by
  refine append_own T hO ?_ hS.len hsmall hk hF
  rcases hS.row with h0 | ⟨b', off, l, t, fr, h1, h2, h3, h4, h5⟩
  · have := hS.len
    subst h0
    exact .inl ⟨rfl, List.eq_nil_of_length_eq_zero this⟩
  · exact .inr ⟨b', off, l, t, fr, h1, h3, h4, h5.any hp⟩
/-- append(s, x): one element, laid in a block of its own -/
theorem append_one {α : Type} {L : Ly α} {t e : TypeId} {bytes : Nat} (T : ElemTy L t e bytes) {w : World} {F : Nat → Prop} {A : Option Addr} {n c b : Nat} {xs : List α} {x : α} {cs : List Value} {t' : TypeId} {K : Value → World → Prop}
    (hO : Own L e w F A n c xs) (hb : At w b (.cells ⟨cs⟩ t' (0, 0))) (hr : L.rel w F x cs) (hsmall : (n + 1) * bytes ≤ 1099511627776)
    (hk : ∀ A' c' w', Keep (ownBlk A) w w' → (∀ k, ownBlk A' k → ownBlk A k ∨ w.heap.size ≤ k) → w'.heap.size ≤ w.heap.size + 1 → Own L e w' F A' (n + 1) c' (xs ++ [x]) → K (.slice A' (n + 1) c') w')
    (hF : ∀ k, F k → k < w.heap.size) : RUN PP (Builtin.append_ #[t, t] t #[.slice A n c, .slice (some ⟨b, 0, none⟩) 1 1]) w K := by
  refine append_own T hO (.inr ⟨b, 0, cs, t', (0, 0), rfl, hb, by rw [L.len hr]; omega, ?_⟩) rfl hsmall hk hF
  intro j y hj
  have hj0 : j = 0 := by
    have := (List.getElem?_eq_some_iff.1 hj).1
    simp at this
    exact this
  subst hj0
  simp at hj
  subst hj
  exact ⟨cs, by rw [Nat.zero_mul, Nat.add_zero, List.drop_zero, ← L.len hr, List.take_length], hr⟩

noncomputable def scal (t : TypeId) : Bool := match PP.underlying t with
  | some (.struct _) | some (.array _ _) | none => false
  | some _ => true
theorem loadVar_cell {t : TypeId} {w : World} {a : Addr} {v : Value} (hs : scal t = true) (h : World.cell? w a = some v) : (loadVar t a).run PP w = .ok v w := by
  unfold scal at hs
  cases hu : PP.underlying t with
  | none => rw [hu] at hs; cases hs
  | some d =>
    rw [hu] at hs
    have hag : (isAgg t).run PP w = .ok false w := by
      cases d <;> simp_all [isAgg, run_underlying' hu]
    simp [loadVar, hag, load, Sem.run, h]

theorem Own.any {α : Type} {L : Ly α} (hp : L.Plain) {e : TypeId} {w : World} {F G : Nat → Prop} {A : Option Addr} {n c : Nat} {xs : List α} (h : Own L e w F A n c xs) (hd : ∀ j, ownBlk A j → ¬ G j) : Own L e w G A n c xs := by
  refine ⟨h.len, h.cap, ?_⟩
  rcases h.row with h0 | ⟨g, l, rfl, h2, h3, h4, h5⟩
  · exact .inl h0
  · exact .inr ⟨g, l, rfl, hd g rfl, h3, h4, h5.any hp⟩
/-- where a grown slice lies -/
theorem own_fresh {B : Nat} {A A' : Option Addr} {w : World} (h : ∀ k, ownBlk A' k → ownBlk A k ∨ w.heap.size ≤ k) (hA : ∀ k, ownBlk A k → B ≤ k) (hw : B ≤ w.heap.size) : ∀ k, ownBlk A' k → B ≤ k := by
  intro k hk
  rcases h k hk with h1 | h1
  · exact hA k h1
  · omega
theorem own_apart {A A' C : Option Addr} {w : World} (h : ∀ k, ownBlk A' k → ownBlk A k ∨ w.heap.size ≤ k) (hd : ∀ k, ownBlk A k → ¬ ownBlk C k) (hC : ∀ k, ownBlk C k → k < w.heap.size) : ∀ k, ownBlk A' k → ¬ ownBlk C k := by
  intro k hk hc
  rcases h k hk with h1 | h1
  · exact hd k h1 hc
  · have := hC k hc; omega
end Go.SW
