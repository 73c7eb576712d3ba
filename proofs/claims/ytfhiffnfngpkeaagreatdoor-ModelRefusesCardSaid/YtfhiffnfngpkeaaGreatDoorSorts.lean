/- Sorting an owned slice of texts, of numbers; slices.Sorted of maps' keys. -/
import Derived.Test.YtfhiffnfngpkeaaGreatDoorKeys
import Derived.Test.YtfhiffnfngpkeaaGreatDoorShelf
import Derived.Sort.OwnSorted
import Derived.Sort.OwnSortedInts
set_option linter.unusedVariables false
namespace Go.SW
open Go Go.Proofs Pl

/-- a row of one-cell data is a list of cells -/
theorem row_take {α : Type} {L : Ly α} {enc : α → Value} (hL : L.sz = 1) (hr : ∀ w F x cs, L.rel w F x cs ↔ cs = [enc x]) {w : World} {F : Nat → Prop} {l : List Value} {xs : List α} (hle : xs.length ≤ l.length) : Row L w F l 0 xs ↔ l.take xs.length = xs.map enc := by
  have one : ∀ (j : Nat), j < l.length → (l.drop (0 + j * L.sz)).take L.sz = [l[j]!] := by
    intro j hj
    rw [hL, Nat.zero_add, Nat.mul_one, List.drop_eq_getElem_cons hj, getElem!_pos l j hj]
    rfl
  constructor
  · intro h
    apply List.ext_getElem?
    intro j
    by_cases hj : j < xs.length
    · obtain ⟨cs, h1, h2⟩ := h j _ (List.getElem?_eq_getElem hj)
      rw [(hr _ _ _ _).1 h2, one j (by omega)] at h1
      have h3 := (List.cons.inj h1).1
      rw [List.getElem?_take_of_lt hj, List.getElem?_map, List.getElem?_eq_getElem hj, List.getElem?_eq_getElem (show j < l.length by omega)]
      rw [getElem!_pos l j (by omega)] at h3
      simp [h3]
    · rw [List.getElem?_eq_none (by simp; omega), List.getElem?_eq_none (by simp; omega)]
  · intro h j x hx
    have hj := (List.getElem?_eq_some_iff.1 hx).1
    refine ⟨[enc x], ?_, (hr _ _ _ _).2 rfl⟩
    rw [one j (by omega), getElem!_pos l j (by omega)]
    have h1 : (l.take xs.length)[j]? = (xs.map enc)[j]? := by rw [h]
    rw [List.getElem?_take_of_lt hj, List.getElem?_map, hx, List.getElem?_eq_getElem (show j < l.length by omega)] at h1
    simp at h1
    rw [h1]

theorem keep_grown {w w' : World} {g : Nat} (h : w.grownBy w' (some g)) : Keep (fun k => k = g) w w' := by
  obtain ⟨h1, h2, h3, h4, h5⟩ := h
  exact ⟨h4, fun k hk hne => h5 k hk (fun he => hne (Option.some.inj he)), by first | exact h1 | exact h2 | exact h3, by first | exact h1 | exact h2 | exact h3, by first | exact h1 | exact h2 | exact h3⟩

def sortS (l : List Str) : List Str := l.mergeSort fun x y => decide (x ≤ y)
def sortI (l : List Int) : List Int := l.mergeSort fun x y => decide (x ≤ y)

theorem sort_str {w : World} {A : Option Addr} {n c : Nat} {xs : List Str} (h : Own Lst 9 w No A n c xs) (hn : n < 4611686018427387904) :
    Calls PP 84 #[.slice A n c] w (Ret fun r w' => r = .tuple #[] ∧ Keep (ownBlk A) w w' ∧ Own Lst 9 w' No A n c (sortS xs)) := by
  have hlen := h.len
  subst hlen
  by_cases h0 : xs.length = 0
  · rw [h0]
    refine (Tryz.slices_Sort_string_none A c w).mono ?_
    rintro e w' ⟨rfl, rfl⟩
    have hx := List.eq_nil_of_length_eq_zero h0
    subst hx
    exact ⟨rfl, Keep.refl _ _, by simpa [sortS] using h⟩
  · rcases h.row with ⟨rfl, hc0⟩ | ⟨g, l, rfl, hFg, hat, hll, hrow⟩
    · have := h.cap; omega
    · have hcap := h.cap
      have hle : xs.length ≤ l.length := by
        rw [hll]; show xs.length ≤ c * 1; omega
      have hiff := fun (l' : List Value) (ys : List Str) (hl' : ys.length ≤ l'.length) (w' : World) => row_take (L := Lst) (enc := fun l => .string (bs l)) (w := w') (F := No) rfl (fun _ _ _ _ => Iff.rfl) hl'
      have ht := (hiff l xs hle w).1 hrow
      refine (Tryz.slices_Sort_string g 0 c xs w (holds_of_block (e := 9) (cur := ⟨l⟩) hat ht) hat.lt hn).mono ?_
      rintro e w' ⟨rfl, m, os, rfl⟩
      have hk := keep_grown (grownBy_sorted (w := w) (g := g) (n := m) (os := os) (xs.mergeSort fun x y => decide (x ≤ y)).toArray)
      have ha := heap_sorted (n := m) (os := os) (xs.mergeSort fun x y => decide (x ≤ y)).toArray hat
      have hsl : (sortS xs).length = xs.length := by simp [sortS]
      refine ⟨rfl, hk.mono (fun k _ he => he), ?_⟩
      have hps : ∀ d : Array (List UInt8), (Sort.putCells encStr 0 d ⟨l⟩).toList.length = l.length := fun d => by
        rw [Array.length_toList]
        exact Array.size_mapIdx
      refine ⟨hsl, h.cap, .inr ⟨g, (Sort.putCells encStr 0 (xs.mergeSort fun x y => decide (x ≤ y)).toArray ⟨l⟩).toList, rfl, hFg, ha, ?_, ?_⟩⟩
      · rw [hps]; exact hll
      · refine (hiff _ _ ?_ _).2 ?_
        · rw [hsl, hps]
          exact hle
        · exact take_putCells ⟨l⟩ (sortS xs) (by rw [hsl]; exact hle)
theorem sort_int {w : World} {A : Option Addr} {n c : Nat} {xs : List Int} (h : Own Ly.int 3 w No A n c xs) (hn : n < 4611686018427387904) :
    Calls PP 87 #[.slice A n c] w (Ret fun r w' => r = .tuple #[] ∧ Keep (ownBlk A) w w' ∧ Own Ly.int 3 w' No A n c (sortI xs)) := by
  have hlen := h.len
  subst hlen
  by_cases h0 : xs.length = 0
  · rw [h0]
    refine (Tryz.slices_Sort_int_none A c w).mono ?_
    rintro e w' ⟨rfl, rfl⟩
    have hx := List.eq_nil_of_length_eq_zero h0
    subst hx
    exact ⟨rfl, Keep.refl _ _, by simpa [sortI] using h⟩
  · rcases h.row with ⟨rfl, hc0⟩ | ⟨g, l, rfl, hFg, hat, hll, hrow⟩
    · have := h.cap; omega
    · have hcap := h.cap
      have hle : xs.length ≤ l.length := by
        rw [hll]; show xs.length ≤ c * 1; omega
      have hiff := fun (l' : List Value) (ys : List Int) (hl' : ys.length ≤ l'.length) (w' : World) => row_take (L := Ly.int) (enc := fun l => .int .i64 l) (w := w') (F := No) rfl (fun _ _ _ _ => Iff.rfl) hl'
      have ht := (hiff l xs hle w).1 hrow
      refine (Tryz.slices_Sort_int g 0 c xs w (holds_of_blockI (e := 3) (cur := ⟨l⟩) hat ht) hat.lt hn).mono ?_
      rintro e w' ⟨rfl, m, os, rfl⟩
      have hk := keep_grown (grownBy_sortedI (w := w) (g := g) (n := m) (os := os) (xs.mergeSort fun x y => decide (x ≤ y)).toArray)
      have ha := heap_sortedI (n := m) (os := os) (xs.mergeSort fun x y => decide (x ≤ y)).toArray hat
      have hsl : (sortI xs).length = xs.length := by simp [sortI]
      refine ⟨rfl, hk.mono (fun k _ he => he), ?_⟩
      have hps : ∀ d : Array Int, (Sort.putCells (Value.int .i64) 0 d ⟨l⟩).toList.length = l.length := fun d => by
        rw [Array.length_toList]
        exact Array.size_mapIdx
      refine ⟨hsl, h.cap, .inr ⟨g, (Sort.putCells (Value.int .i64) 0 (xs.mergeSort fun x y => decide (x ≤ y)).toArray ⟨l⟩).toList, rfl, hFg, ha, ?_, ?_⟩⟩
      · rw [hps]; exact hll
      · refine (hiff _ _ ?_ _).2 ?_
        · rw [hsl, hps]
          exact hle
        · exact take_putCellsI ⟨l⟩ (sortI xs) (by rw [hsl]; exact hle)

theorem sorted_str {fv : Value} {Sx : List Str → Str → Prop} {S : List Str → Prop} {Src : Nat → Prop} {w : World} (hI : ITER fv (fun s : Str => [.string (bs s)]) Sx S Src w) (hS : ∀ k, Src k → k < w.heap.size)
    (hb : ∀ vis x, Sx vis x → vis.length < 1000000000) (hb' : ∀ vis, S vis → vis.length < 1000000000) :
    Calls PP 37 #[fv] w (Ret fun r w' => ∃ A c xs, r = .slice A xs.length c ∧ S xs ∧ Keep No w w' ∧ Own Lst 9 w' No A xs.length c (sortS xs) ∧ ∀ j, ownBlk A j → w.heap.size ≤ j) := by
  refine c37 ?_
  unfold S37
  refine CALL.i (collect_str hI hS hb) (by kernel_rfl) ?_
  rintro r w1 ⟨A, c, xs, rfl, hS1, k1, o1, f1⟩
  refine ⟨_, _, _, rfl, ?_⟩
  refine CALL.i (sort_str o1 (by have := hb' xs hS1; omega)) (by kernel_rfl) ?_
  rintro r w2 ⟨rfl, k2, o2⟩
  exact ⟨rfl, A, c, xs, rfl, hS1, k1.fresh k2 f1, o2, f1⟩

theorem sorted_int {fv : Value} {Sx : List Int → Int → Prop} {S : List Int → Prop} {Src : Nat → Prop} {w : World} (hI : ITER fv (fun s : Int => [.int .i64 s]) Sx S Src w) (hS : ∀ k, Src k → k < w.heap.size)
    (hb : ∀ vis x, Sx vis x → vis.length < 1000000000) (hb' : ∀ vis, S vis → vis.length < 1000000000) :
    Calls PP 41 #[fv] w (Ret fun r w' => ∃ A c xs, r = .slice A xs.length c ∧ S xs ∧ Keep No w w' ∧ Own Ly.int 3 w' No A xs.length c (sortI xs) ∧ ∀ j, ownBlk A j → w.heap.size ≤ j) := by
  refine c41 ?_
  unfold S41
  refine CALL.i (collect_int hI hS hb) (by kernel_rfl) ?_
  rintro r w1 ⟨A, c, xs, rfl, hS1, k1, o1, f1⟩
  refine ⟨_, _, _, rfl, ?_⟩
  refine CALL.i (sort_int o1 (by have := hb' xs hS1; omega)) (by kernel_rfl) ?_
  rintro r w2 ⟨rfl, k2, o2⟩
  exact ⟨rfl, A, c, xs, rfl, hS1, k1.fresh k2 f1, o2, f1⟩
end Go.SW
