/- A law's arguments, opened. -/
import Derived.Test.YtfhiffnfngpkeaaGreatDoorLaw2
import Derived.Test.YtfhiffnfngpkeaaGreatDoorLawStep
import Derived.ProofKit
import Derived.SliceStrings
import Derived.Deep.Slices
import Derived.Deep.DeepHandedRow
import Derived.SizedLaws
import Derived.Shelf.Vars
set_option linter.unusedVariables false
namespace Go.SW
open Go Go.Proofs Pl
open Go.ChangeShapes Go.WideShapes Go.ChangeAt Go.RowKit Go.Deep

theorem cell_lies {w : World} {a : Addr} {v : Value} (h : w.cell? a = some v) : ∃ b off l t fr, a = ⟨b, off, none⟩ ∧ At w b (.cells ⟨l⟩ t fr) ∧ l[off]? = some v := by
  obtain ⟨b, off, spot⟩ := a
  have hs : spot = none := World.cell?_spot h
  subst hs
  unfold World.cell? at h
  simp only at h
  split at h
  · rename_i c t fr hc
    simp only [Option.isSome_none, Bool.false_eq_true, if_false] at h
    exact ⟨b, off, c.toList, t, fr, rfl, hc, by simpa using h⟩
  · cases h
theorem cell_add_lies {w : World} {b off i : Nat} {l : List Value} {t : TypeId} {fr : Nat × Nat} {v : Value} (ha : At w b (.cells ⟨l⟩ t fr)) (h : w.cell? (Addr.add ⟨b, off, none⟩ i) = some v) : l[off + i]? = some v := by
  rw [add_off] at h
  unfold At at ha
  unfold World.cell? at h
  rw [ha] at h
  simpa using h

/-- a slice off its cells -/
theorem Sl.mk_cells {α : Type} {L : Ly α} {w : World} {F : Nat → Prop} {a : Addr} {n c : Nat} {xs : List α} (hsz : 0 < L.sz) (hl : xs.length = n) (hc : n ≤ c)
    (h : ∀ (i : Nat) x, xs[i]? = some x → ∃ cs, L.rel w F x cs ∧ ∀ (j : Nat) v, cs[j]? = some v → w.cell? (a.add (i * L.sz + j)) = some v) (hF : ∀ b, b < w.heap.size → F b) : Sl L w F (some a) n c xs := by
  refine ⟨hl, hc, ?_⟩
  rcases Nat.eq_zero_or_pos n with h0 | hpos
  · exact .inl h0
  · right
    obtain ⟨x0, hx0⟩ : ∃ x, xs[0]? = some x := ⟨xs[0], List.getElem?_eq_getElem (by omega)⟩
    obtain ⟨cs0, r0, hcs0⟩ := h 0 x0 hx0
    have hl0 := L.len r0
    have hc0 : w.cell? (a.add 0) = some cs0[0] := by
      have := hcs0 0 cs0[0] (List.getElem?_eq_getElem (by omega))
      simpa using this
    rw [show a.add 0 = a from by unfold Addr.add; simp] at hc0
    obtain ⟨b, off, l, t, fr, rfl, ha, _⟩ := cell_lies hc0
    have hcell : ∀ (i : Nat) x, xs[i]? = some x → ∃ cs, L.rel w F x cs ∧ ∀ (j : Nat) v, cs[j]? = some v → l[off + (i * L.sz + j)]? = some v := by
      intro i x hx
      obtain ⟨cs, r, hcs⟩ := h i x hx
      exact ⟨cs, r, fun j v hv => cell_add_lies ha (hcs j v hv)⟩
    refine ⟨b, off, l, t, fr, rfl, hF b ha.lt, ha, ?_, ?_⟩
    · obtain ⟨x, hx⟩ : ∃ x, xs[n - 1]? = some x := ⟨xs[n - 1], List.getElem?_eq_getElem (by omega)⟩
      obtain ⟨cs, r, hcs⟩ := hcell (n - 1) x hx
      have hlen := L.len r
      have := hcs (L.sz - 1) cs[L.sz - 1] (List.getElem?_eq_getElem (by omega))
      have := (List.getElem?_eq_some_iff.1 this).1
      have e : (n - 1) * L.sz + L.sz = n * L.sz := by
        rw [← Nat.succ_mul]
        congr 1
        omega
      omega
    · intro i x hx
      obtain ⟨cs, r, hcs⟩ := hcell i x hx
      have hlen := L.len r
      refine ⟨cs, ?_, r⟩
      apply List.ext_getElem?
      intro j
      rw [List.getElem?_take]
      split
      · rename_i hj
        rw [List.getElem?_drop]
        have h1 := hcs j cs[j] (List.getElem?_eq_getElem (by omega))
        rw [List.getElem?_eq_getElem (by omega : j < cs.length), ← h1]
        congr 1
        omega
      · rw [List.getElem?_eq_none (by omega)]

theorem u26 : PP.underlying 26 = some (.slice 9) := by kernel_rfl
theorem u9 : PP.underlying 9 = some .string := by kernel_rfl
theorem u3 : PP.underlying 3 = some (.int .i64) := by kernel_rfl
theorem u4 : PP.underlying 4 = some .bool := by kernel_rfl
theorem u22 : PP.underlying 22 = some (.slice 29) := by kernel_rfl
theorem n9 : PP.cellsOf 9 = 1 := by kernel_rfl
theorem n3 : PP.cellsOf 3 = 1 := by kernel_rfl
theorem n26 : PP.cellsOf 26 = 1 := by kernel_rfl
theorem n29 : PP.cellsOf 29 = 8 := by kernel_rfl
noncomputable def fs29 : Array Field := match PP.underlying 29 with | some (.struct fs) => fs | _ => #[]
theorem u29 : PP.underlying 29 = some (.struct fs29) := by kernel_rfl
theorem bs_data (s : ByteArray) : bs s.data.toList = s := by
  apply bs_ext
  rw [bs_toList, ByteArray.toList_eq]

section
variable {H : Type} {enc : TypeId × Value → H} {w : World}
theorem open_texts {fuel : Nat} {cs : List Value} {x : DataW H × List MemPlace} (h : DataW.trod enc PP w 0 (fun _ => true) true fuel 26 cs = some x) :
    ∃ A n c xs, cs = [.slice A n c] ∧ Sl Lst w (fun j => j < w.heap.size) A n c xs := by
  rcases open_strings u26 u9 n9 h with ⟨rfl, _⟩ | ⟨a, len, cap, ss, rfl, _, hl, _, hz, _, hcell, _⟩
  · exact ⟨none, 0, 0, [], rfl, Sl.nil _ _ _ _ _⟩
  · simp only [if_true] at hz
    refine ⟨some a, len, cap, (ss.take len).map fun s => s.data.toList, rfl, Sl.mk_cells (by show 0 < 1; omega) (by simp; omega) hl ?_ (fun b hb => hb)⟩
    intro i x hx
    rw [List.getElem?_map, List.getElem?_take] at hx
    by_cases hi : i < len
    · rw [if_pos hi] at hx
      obtain ⟨s, hs, rfl⟩ := Option.map_eq_some_iff.1 hx
      refine ⟨_, rfl, fun j v hv => ?_⟩
      have hj : j = 0 := by
        have := (List.getElem?_eq_some_iff.1 hv).1
        simp at this
        exact this
      subst hj
      simp at hv
      subst hv
      have := hcell i (by omega)
      have hg : ss.getD i ByteArray.empty = s := by simp [List.getD, hs]
      rw [hg] at this
      rw [bs_data]
      show w.cell? (a.add (i * 1 + 0)) = _
      rw [Nat.mul_one, Nat.add_zero]
      exact this
    · rw [if_neg hi] at hx; cases hx
noncomputable def fld (i : Nat) : Field := fs29.getD i default
theorem f29 : fs29.size = 8 ∧ (∀ i, i < 8 → fs29[i]? = some (fld i)) := by
  have hs : fs29.size = 8 := by kernel_rfl
  exact ⟨hs, fun i hi => by
    unfold fld
    rw [Array.getD_eq_getD_getElem?, Array.getElem?_eq_getElem (by omega)]
    rfl⟩
theorem fty : (fld 0).type = 3 ∧ (fld 1).type = 9 ∧ (fld 2).type = 9 ∧ (fld 3).type = 9 ∧ (fld 4).type = 3 ∧ (fld 5).type = 3 ∧ (fld 6).type = 3 ∧ (fld 7).type = 26 :=
  ⟨by kernel_rfl, by kernel_rfl, by kernel_rfl, by kernel_rfl, by kernel_rfl, by kernel_rfl, by kernel_rfl, by kernel_rfl⟩
theorem foff : ∀ i, i < 8 → (fld i).offset = i := by
  have : (fld 0).offset = 0 ∧ (fld 1).offset = 1 ∧ (fld 2).offset = 2 ∧ (fld 3).offset = 3 ∧ (fld 4).offset = 4 ∧ (fld 5).offset = 5 ∧ (fld 6).offset = 6 ∧ (fld 7).offset = 7 :=
    ⟨by kernel_rfl, by kernel_rfl, by kernel_rfl, by kernel_rfl, by kernel_rfl, by kernel_rfl, by kernel_rfl, by kernel_rfl⟩
  intro i hi
  match i, hi with
  | 0, _ => exact this.1
  | 1, _ => exact this.2.1
  | 2, _ => exact this.2.2.1
  | 3, _ => exact this.2.2.2.1
  | 4, _ => exact this.2.2.2.2.1
  | 5, _ => exact this.2.2.2.2.2.1
  | 6, _ => exact this.2.2.2.2.2.2.1
  | 7, _ => exact this.2.2.2.2.2.2.2

set_option maxRecDepth 100000 in
/-- an op off its cells -/
theorem open_op {fuel : Nat} {cs : List Value} {x : DataW H × List MemPlace} (h : DataW.trod enc PP w 0 (fun _ => true) true fuel 29 cs = some x) :
    ∃ o, Lop.rel w (fun j => j < w.heap.size) o cs := by
  obtain ⟨ys, n, _, _, hlen, hyl, hf⟩ := DataW.trod_struct u29 h
  rw [n29] at hlen
  obtain ⟨hs, hfi⟩ := f29
  have each : ∀ i, i < 8 → ∃ y, DataW.trod enc PP w 0 (fun _ => true) true n (fld i).type ((cs.drop i).take (PP.cellsOf (fld i).type)) = some y := by
    intro i hi
    have := hf i (fld i) (hfi i hi)
    rw [foff i hi] at this
    rw [this]
    exact ⟨ys[i], List.getElem?_eq_getElem (by omega)⟩
  obtain ⟨t0, t1, t2, t3, t4, t5, t6, t7⟩ := fty
  match cs, hlen with
  | [v0, v1, v2, v3, v4, v5, v6, v7], _ =>
    obtain ⟨y0, e0⟩ := each 0 (by omega)
    obtain ⟨y1, e1⟩ := each 1 (by omega)
    obtain ⟨y2, e2⟩ := each 2 (by omega)
    obtain ⟨y3, e3⟩ := each 3 (by omega)
    obtain ⟨y4, e4⟩ := each 4 (by omega)
    obtain ⟨y5, e5⟩ := each 5 (by omega)
    obtain ⟨y6, e6⟩ := each 6 (by omega)
    obtain ⟨y7, e7⟩ := each 7 (by omega)
    rw [t0, n3] at e0
    rw [t1, n9] at e1
    rw [t2, n9] at e2
    rw [t3, n9] at e3
    rw [t4, n3] at e4
    rw [t5, n3] at e5
    rw [t6, n3] at e6
    rw [t7, n26] at e7
    obtain ⟨m0, g0, _⟩ := DataW.trod_int u3 e0
    obtain ⟨m1, g1, _⟩ := DataW.trod_string u9 e1
    obtain ⟨m2, g2, _⟩ := DataW.trod_string u9 e2
    obtain ⟨m3, g3, _⟩ := DataW.trod_string u9 e3
    obtain ⟨m4, g4, _⟩ := DataW.trod_int u3 e4
    obtain ⟨m5, g5, _⟩ := DataW.trod_int u3 e5
    obtain ⟨m6, g6, _⟩ := DataW.trod_int u3 e6
    obtain ⟨A, k, c, xs, g7, hS⟩ := open_texts e7
    simp only [List.drop_succ_cons, List.drop_zero, List.take_succ_cons, List.take_zero, List.cons.injEq, and_true] at g0 g1 g2 g3 g4 g5 g6 g7
    subst g0 g1 g2 g3 g4 g5 g6 g7
    refine ⟨⟨m0, m1.data.toList, m2.data.toList, m3.data.toList, m4, m5, m6, xs⟩, A, k, c, ?_, hS⟩
    simp only [ocells, bs_data]
theorem cells?_get {b : Nat} {a : Addr} {n : Nat} {cs : List Value} (h : w.cells? b a n = some cs) : cs.length = n ∧ ∀ (j : Nat) v, cs[j]? = some v → w.cell? (a.add j) = some v := by
  obtain ⟨_, hl, hg⟩ := World.cells?_some h
  refine ⟨hl, fun j v hv => ?_⟩
  have hj := (List.getElem?_eq_some_iff.1 hv).1
  have := hg j (by omega)
  rw [this, hv]
theorem open_ops {fuel : Nat} {cs : List Value} {x : DataW H × List MemPlace} (h : DataW.trod enc PP w 0 (fun _ => true) true fuel 22 cs = some x) :
    ∃ A n c xs, cs = [.slice A n c] ∧ Sl Lop w (fun j => j < w.heap.size) A n c xs := by
  rcases open_slice u22 h with ⟨rfl, _⟩ | ⟨a, len, cap, m, n, D, Pp, rfl, _, hl, _, hm, _, hx⟩
  · exact ⟨none, 0, 0, [], rfl, Sl.nil _ _ _ _ _⟩
  · simp only [if_true] at hm
    haveI : Inhabited (Pl.Op × List Value) := ⟨(⟨0, [], [], [], 0, 0, 0, []⟩, [])⟩
    obtain ⟨f, hf⟩ := choose_lt (α := Pl.Op × List Value) (n := len) (p := fun i y => w.cells? 0 (a.add (i * PP.cellsOf 29)) (PP.cellsOf 29) = some y.2 ∧ Lop.rel w (fun j => j < w.heap.size) y.1 y.2) (fun i hi => by
      obtain ⟨cs', h1, h2⟩ := hx i (by omega)
      obtain ⟨o, ho⟩ := open_op h2
      exact ⟨(o, cs'), h1, ho⟩)
    refine ⟨some a, len, cap, (List.range len).map fun i => (f i).1, rfl, Sl.mk_cells (by show 0 < 8; omega) (by simp) hl ?_ (fun b hb => hb)⟩
    intro i y hy
    rw [List.getElem?_map] at hy
    obtain ⟨i', hi', rfl⟩ := Option.map_eq_some_iff.1 hy
    obtain ⟨hlt, he⟩ := List.getElem?_eq_some_iff.1 hi'
    simp only [List.getElem_range, List.length_range] at he hlt
    subst he
    obtain ⟨h1, h2⟩ := hf i hlt
    refine ⟨_, h2, fun j v hv => ?_⟩
    have h3 := (cells?_get h1).2 j v hv
    rw [n29] at h3
    show w.cell? (a.add (i * 8 + j)) = some v
    rw [← add_add]
    exact h3
end
theorem Keep.below {W W' : World} (h : Keep No W W') : Below W.heap.size W W' := ⟨h.os, h.tape, h.out, h.size, fun k hk => h.keep k hk (fun h => h)⟩
theorem glob_of {W : World} (h : W.ShapedOpen PP) : Glob W ∧ 1 < W.heap.size := by
  obtain ⟨m, hm'⟩ := cell_of_shapedOpen_int (g := 1) (t := 3) (zero := #[.int .i64 0]) (k := .i64) h (of_decide_eq_true (by kernel_rfl)) (by kernel_rfl) rfl (by kernel_rfl) (by kernel_rfl) u3
  refine ⟨⟨m, hm'⟩, ?_⟩
  obtain ⟨b, off, l, t, fr, he, ha, _⟩ := cell_lies hm'
  cases he
  exact ha.lt
end Go.SW
