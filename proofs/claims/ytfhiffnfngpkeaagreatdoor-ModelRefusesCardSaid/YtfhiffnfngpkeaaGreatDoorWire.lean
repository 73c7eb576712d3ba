/- Bytes out: the library's builder as the program's wire.Out holds it; numbers and texts of a fixed length. -/
import Derived.Test.YtfhiffnfngpkeaaGreatDoorOg
import Derived.Test.YtfhiffnfngpkeaaGreatDoorWords3
import Derived.Test.YtfhiffnfngpkeaaGreatDoorLaw1
import Derived.Test.YtfhiffnfngpkeaaGreatDoorShelf2
import Derived.Test.YtfhiffnfngpkeaaGreatDoorSOut
import Derived.Lib.Builder
import Derived.Lib.UnsafeStr
import Derived.Lib.Walk
import Derived.WalkKit
import Derived.Laws.Externs
set_option linter.unusedVariables false
namespace Go.SW
open Go Go.Proofs Pl

/-! ## the builder's own check -/
set_option maxRecDepth 100000 in
set_option maxHeartbeats 1000000 in
theorem copy_used {w : World} {k : Nat} {v : Value} {fr : Nat × Nat} {t : TypeId} (h : At w k (.cells ⟨[.pointer (some ⟨k, 0, none⟩), v]⟩ t fr)) : Calls PP 199 #[.pointer (some ⟨k, 0, none⟩)] w (Ret fun r w' => r = .tuple #[] ∧ w' = w) := by
  have h0 : w.cell? ⟨k, 0, none⟩ = some (.pointer (some ⟨k, 0, none⟩)) := cell_at h rfl
  have : Calls Tryz.prog 199 #[.pointer (some ⟨k, 0, none⟩)] w fun e w' => e = .returned (.tuple #[]) ∧ w' = w := by
    go_enter Tryz.func199, Tryz.ntmps199
    go_wp2
    rw [Lib.run_neq_ptr_same (te := 190) (j := tinfo 190) w _ (by kernel_rfl) (by kernel_rfl)]
    go_wp2
    go_end0
    exact ⟨rfl, rfl⟩
  exact this.mono fun e w' he => by obtain ⟨rfl, rfl⟩ := he; exact ⟨rfl, rfl⟩
set_option maxRecDepth 100000 in
set_option maxHeartbeats 1000000 in
theorem copy_fresh {w : World} {k : Nat} {v : Value} (h : At w k (.cells ⟨[.pointer none, v]⟩ 192 (0, 0))) : Calls PP 199 #[.pointer (some ⟨k, 0, none⟩)] w (Ret fun r w' => r = .tuple #[] ∧ w' = w.setCell ⟨k, 0, none⟩ (.pointer (some ⟨k, 0, none⟩))) := by
  have h0 : w.cell? ⟨k, 0, none⟩ = some (.pointer none) := cell_at h rfl
  have hh : w.heap[k]? = some (.cells ⟨[.pointer none, v]⟩ 192 (0, 0)) := h
  have hsh : w.shape? (⟨k, 0, none⟩ : Addr).block = some (192, 2) := by simp [World.shape?, hh]
  have hfz : w.frozen? ⟨k, 0, none⟩ = false := by simp [World.frozen?, hh]
  have hlies : liesAt PP PP.depth 192 (2 / PP.cellsOf 192) (⟨k, 0, none⟩ : Addr).off 190 1 = true := by kernel_rfl
  have : Calls Tryz.prog 199 #[.pointer (some ⟨k, 0, none⟩)] w fun e w' => e = .returned (.tuple #[]) ∧ w' = w.setCell ⟨k, 0, none⟩ (.pointer (some ⟨k, 0, none⟩)) := by
    go_enter Tryz.func199, Tryz.ntmps199
    go_wp2
    rw [Lib.run_to_unsafe (t := 190) (e := 192) (j := tinfo 190) (cells := 2) w ⟨k, 0, none⟩ (by kernel_rfl) (by kernel_rfl) (by kernel_rfl) (by decide +kernel) hsh (Nat.zero_lt_succ 1)]
    simp only [Result.andThen]
    rw [Oper.upon_value]
    go_wp2
    rw [run_callFunc_extern Tryz.func210 (by kernel_rfl) (by kernel_rfl) (by kernel_rfl) (e := Extern.AbiNoEscape.same) (by kernel_rfl)]
    rw [Lib.run_noEscape]
    simp only [Result.andThen]
    rw [Oper.upon_value]
    go_wp2
    rw [Lib.run_from_unsafe (u := 190) (e := 192) (j := tinfo 190) (cells := 2) w ⟨k, 0, none⟩ (by kernel_rfl) (by kernel_rfl) (by kernel_rfl) hsh hlies]
    simp only [Result.andThen]
    rw [Oper.upon_value]
    go_wp2
    go_end0
    exact ⟨rfl, rfl⟩
  exact this.mono fun e w' he => by obtain ⟨rfl, rfl⟩ := he; exact ⟨rfl, rfl⟩

/-! ## what is written -/
/-- a builder at k, laid since w0; its blocks: S -/
structure Bu (w0 w : World) (k : Nat) (S : Nat → Prop) (l : Str) : Prop where
  keep : Keep No w0 w
  self : S k
  rng : ∀ j, S j → w0.heap.size ≤ j ∧ j < w.heap.size
  cell : ∃ p A n c, At w k (.cells ⟨[.pointer p, .slice A n c]⟩ 192 (0, 0)) ∧ (p = none ∨ p = some ⟨k, 0, none⟩) ∧ Own Lby 5 w No A n c l ∧ ∀ j, ownBlk A j → S j ∧ j ≠ k
def Grow (S : Nat → Prop) (w : World) (S' : Nat → Prop) : Prop := (∀ j, S j → S' j) ∧ ∀ j, S' j → S j ∨ w.heap.size ≤ j
theorem Grow.refl (S : Nat → Prop) (w : World) : Grow S w S := ⟨fun _ h => h, fun _ h => .inl h⟩
theorem Grow.trans {S S1 S2 : Nat → Prop} {w w1 : World} (h : Grow S w S1) (h' : Grow S1 w1 S2) (hs : w.heap.size ≤ w1.heap.size) : Grow S w S2 :=
  ⟨fun j hj => h'.1 j (h.1 j hj), fun j hj => (h'.2 j hj).elim (fun h1 => h.2 j h1) (fun h1 => .inr (by omega))⟩
/-- what was there, and none of its blocks, is none of them now -/
theorem Grow.out {S S' : Nat → Prop} {w : World} (h : Grow S w S') {b : Nat} (hb : b < w.heap.size) (hn : ¬ S b) : ¬ S' b := fun hc => (h.2 b hc).elim hn (fun h1 => by omega)
section
variable {w0 w w' : World} {k : Nat} {S : Nat → Prop} {l : Str}
theorem Bu.oth {T : Nat → Prop} (h : Bu w0 w k S l) (hk : Keep T w w') (hT : ∀ j, T j → w0.heap.size ≤ j ∧ ¬ S j) : Bu w0 w' k S l := by
  obtain ⟨h1, h2, h3, p, A, n, c, h4, h5, h6, h7⟩ := h
  exact ⟨h1.fresh hk (fun j hj => (hT j hj).1), h2, fun j hj => ⟨(h3 j hj).1, Nat.lt_of_lt_of_le (h3 j hj).2 hk.size⟩, p, A, n, c, hk.at_ h4 (fun ht => (hT k ht).2 h2), h5, h6.kept hk (fun j hj _ ht => hj.elim (fun h => h) (fun h => (hT j ht).2 (h7 j h).1)), h7⟩
theorem Bu.no (h : Bu w0 w k S l) (hk : Keep No w w') : Bu w0 w' k S l := h.oth hk (fun j hj => False.elim hj)
theorem Bu.new (hk : Keep No w0 w) (ha : At w k (.cells ⟨[.pointer none, .slice none 0 0]⟩ 192 (0, 0))) (h0 : w0.heap.size ≤ k) : Bu w0 w k (fun j => j = k) [] :=
  ⟨hk, rfl, fun j hj => by have : j = k := hj; subst this; exact ⟨h0, ha.lt⟩, none, none, 0, 0, ha, .inl rfl, ⟨rfl, Nat.le_refl _, .inl ⟨rfl, rfl⟩⟩, fun j hj => False.elim hj⟩

theorem bu_check (h : Bu w0 w k S l) : Calls PP 199 #[.pointer (some ⟨k, 0, none⟩)] w (Ret fun r w' => r = .tuple #[] ∧ w'.heap.size = w.heap.size ∧ Keep (fun j => j = k) w w' ∧ Bu w0 w' k S l) := by
  obtain ⟨h1, h2, h3, p, A, n, c, h4, h5, h6, h7⟩ := h
  rcases h5 with rfl | rfl
  · refine Calls.ret (copy_fresh h4) ?_
    rintro r w' ⟨rfl, rfl⟩
    have hk := setCell_keep w k 0 (.pointer (some ⟨k, 0, none⟩))
    refine ⟨rfl, setCell_size _ _ _, hk, h1.tmp hk (h3 k h2).1, h2, fun j hj => by rw [setCell_size]; exact h3 j hj, some ⟨k, 0, none⟩, A, n, c, setCell_at h4 0 _, .inr rfl, h6.kept hk (fun j hj _ he => hj.elim (fun h => h) (fun h => (h7 j h).2 he)), h7⟩
  · refine Calls.ret (copy_used h4) ?_
    rintro r w' ⟨rfl, rfl⟩
    exact ⟨rfl, rfl, Keep.refl _ _, h1, h2, h3, _, A, n, c, h4, .inr rfl, h6, h7⟩

theorem write_byte (h : Bu w0 w k S l) (hl : l.length < 1000000000) (b : UInt8) :
    Calls PP 177 #[.pointer (some ⟨k, 0, none⟩), .int .u8 (b.toNat : Int)] w (Ret fun r w' => ∃ S', Grow S w S' ∧ Keep S w w' ∧ Bu w0 w' k S' (l ++ [b])) := by
  refine c177 ?_
  unfold S177
  refine CALL.i (bu_check h) (by kernel_rfl) ?_
  rintro r w1 ⟨rfl, hs1, q1, g1⟩
  obtain ⟨h1, h2, h3, p, A, n, c, h4, h5, h6, h7⟩ := g1
  have hlen := h6.len
  refine ⟨rfl, _, _, _, cell_at h4 rfl, NEW.i fun k13 w2 hk13 hs2 q2 a2 => ?_⟩
  refine append_one T5 (h6.no q2) a2 (x := b) rfl (by omega) ?_ (fun j hj => False.elim hj)
  intro A' c' w3 q3 hb3 hs3 o3
  refine ⟨_, _, _, rfl, ?_⟩
  have hk := h4.lt
  have hne : ∀ j, ownBlk A' j → j ≠ k := fun j hj he => by
    rcases hb3 j hj with h' | h'
    · exact (h7 j h').2 he
    · omega
  have a4 := (h4.no q2).own_ q3 (fun hc => (h7 k hc).2 rfl)
  refine ST.i a4 (by simp) rfl fun w4 hs4 q4 a5 => ⟨fun j => S j ∨ ownBlk A' j, ⟨fun j hj => .inl hj, fun j hj => hj.elim .inl (fun h' => ?_)⟩, ?_, ?_, ?_, ?_, ?_⟩
  · rcases hb3 j h' with h8 | h8
    · exact .inl (h7 j h8).1
    · exact .inr (by omega)
  · exact (((q1.mono fun j _ he => by rw [he]; exact h2).and_no q2).trans' q3 fun j hj ho => (h7 j ho).1).trans' q4 fun j _ he => by rw [he]; exact h2
  · exact ((h1.trans q2).fresh q3 (fun j hj => (h3 j (h7 j hj).1).1)).tmp q4 (h3 k h2).1
  · exact .inl h2
  · rintro j (hj | hj)
    · have := h3 j hj; exact ⟨this.1, by have := q3.size; omega⟩
    · have := o3.lt j hj
      refine ⟨?_, by omega⟩
      rcases hb3 j hj with h8 | h8
      · exact (h3 j (h7 j h8).1).1
      · have := h1.size; omega
  · exact ⟨p, A', n + 1, c', a5, h5, o3.kept q4 (fun j hj _ he => hj.elim (fun h => h) (fun h => hne j h he)), fun j hj => ⟨.inr hj, hne j hj⟩⟩

theorem write_string (h : Bu w0 w k S l) (s : Str) (hl : l.length + s.length < 1000000000) :
    Calls PP 200 #[.pointer (some ⟨k, 0, none⟩), .string (bs s)] w (Ret fun r w' => r = .tuple #[.int .i64 s.length, .nilIface] ∧ ∃ S', Grow S w S' ∧ Keep S w w' ∧ Bu w0 w' k S' (l ++ s)) := by
  refine c200 ?_
  unfold S200
  refine CALL.i (bu_check h) (by kernel_rfl) ?_
  rintro r w1 ⟨rfl, hs1, q1, g1⟩
  obtain ⟨h1, h2, h3, p, A, n, c, h4, h5, h6, h7⟩ := g1
  have hlen := h6.len
  refine ⟨rfl, _, _, _, cell_at h4 rfl, ?_⟩
  have hcells : ∀ w2 : World, (Builtin.firstCells 1 s.length (.string (bs s))).run PP w2 = .ok (s.map fun b : UInt8 => Value.int .u8 (b.toNat : Int)).toArray w2 := fun w2 => by
    have := Lib.run_firstCells_string (P := PP) (w := w2) 1 (bs s)
    rw [bs_size] at this
    exact this
  refine append_core (L := Lby) (B := none) (c' := 0) T5 h6 (.inr ⟨bs s, rfl, bs_size s, by kernel_rfl⟩) (ys := s) ⟨s.map fun b : UInt8 => Value.int .u8 (b.toNat : Int), 0, s.map fun b : UInt8 => Value.int .u8 (b.toNat : Int), fun w2 _ => hcells w2, ?_, ?_, ?_⟩ rfl (by omega) ?_ (fun j hj => False.elim hj)
  · show _ = List.take (s.length * 1) (List.drop 0 _)
    rw [List.drop_zero, Nat.mul_one, List.take_of_length_le (by simp)]
  · show _ = s.length * 1
    simp
  · intro j x hx
    refine ⟨[.int .u8 (x.toNat : Int)], ?_, rfl⟩
    have hj := (List.getElem?_eq_some_iff.1 hx).1
    show ((s.map fun b : UInt8 => Value.int .u8 (b.toNat : Int)).drop (0 + j * 1)).take 1 = _
    rw [Nat.zero_add, Nat.mul_one, List.drop_eq_getElem_cons (by simpa using hj)]
    simp [(List.getElem?_eq_some_iff.1 hx).2]
  intro A' c' w3 q3 hb3 hs3 o3
  refine ⟨_, _, _, rfl, ?_⟩
  have hk := h4.lt
  have hne : ∀ j, ownBlk A' j → j ≠ k := fun j hj he => by
    rcases hb3 j hj with h' | h'
    · exact (h7 j h').2 he
    · omega
  have a4 := h4.own_ q3 (fun hc => (h7 k hc).2 rfl)
  refine ST.i a4 (by simp) rfl fun w4 hs4 q4 a5 => ⟨by rw [bs_size], fun j => S j ∨ ownBlk A' j, ⟨fun j hj => .inl hj, fun j hj => hj.elim .inl (fun h' => ?_)⟩, ?_, ?_, ?_, ?_, ?_⟩
  · rcases hb3 j h' with h8 | h8
    · exact .inl (h7 j h8).1
    · exact .inr (by omega)
  · exact ((q1.mono fun j _ he => by rw [he]; exact h2).trans' q3 fun j hj ho => (h7 j ho).1).trans' q4 fun j _ he => by rw [he]; exact h2
  · exact (h1.fresh q3 (fun j hj => (h3 j (h7 j hj).1).1)).tmp q4 (h3 k h2).1
  · exact .inl h2
  · rintro j (hj | hj)
    · have := h3 j hj; exact ⟨this.1, by have := q3.size; omega⟩
    · have := o3.lt j hj
      refine ⟨?_, by omega⟩
      rcases hb3 j hj with h8 | h8
      · exact (h3 j (h7 j h8).1).1
      · have := h1.size; omega
  · exact ⟨p, A', n + s.length, c', a5, h5, o3.kept q4 (fun j hj _ he => hj.elim (fun h => h) (fun h => hne j h he)), fun j hj => ⟨.inr hj, hne j hj⟩⟩

theorem freeze_keep (w : World) (g n : Nat) : Keep (fun j => j = g) w (w.freeze ⟨g, 0, none⟩ n) := by
  unfold World.freeze
  split
  · exact Keep.refl _ _
  · refine ⟨by simp, fun j hj hne => ?_, rfl, rfl, rfl⟩
    simp only [Array.getElem?_modify]
    rw [if_neg (fun he => hne he.symm)]

theorem out_string (h : Bu w0 w k S l) (hne : l ≠ []) (hl : l.length < 1000000000) :
    Calls PP 180 #[.pointer (some ⟨k, 0, none⟩)] w (Ret fun r w' => r = .string (bs l) ∧ Keep S w w') := by
  refine c180 ?_
  unfold S180
  refine DRAW.i fun w1 hw1 q1 => ?_
  obtain ⟨h1, h2, h3, p, A, n, c, h4, h5, h6, h7⟩ := h.no q1
  have hlen := h6.len
  have hcap := h6.cap
  have hn : 0 < l.length := List.length_pos_iff.2 hne
  rcases h6.row with ⟨rfl, h0⟩ | ⟨g, cl, rfl, hg, hat, hll, hrow⟩
  · omega
  refine ⟨_, _, _, cell_at h4 rfl, _, _, _, cell_at h4 rfl, _, w1, Lib.run_unsafeSliceData_row _ _ _ _ _ _ (by omega), _, rfl, loadVar_cell (by kernel_rfl) (cell_at h4 rfl), ?_⟩
  have hh : w1.heap[g]? = some (.cells ⟨cl⟩ 5 (0, 0)) := hat
  have hsh : w1.shape? g = some (5, cl.length) := by simp [World.shape?, hh]
  have hcell : ∀ j x, l[j]? = some x → w1.cell? ((⟨g, 0, none⟩ : Addr).add j) = some (.int .u8 x.toNat) := by
    intro j x hx
    obtain ⟨g', hg', hc'⟩ := own_bytes h6 (m := n) (Nat.le_refl _) (by omega)
    have : g' = g := by
      have := Option.some.inj hg'
      simpa using this.symm
    subst this
    have hj := (List.getElem?_eq_some_iff.1 hx).1
    have := hc' j (by simp; omega)
    rw [this, List.getElem_take, (List.getElem?_eq_some_iff.1 hx).2]
  have hlz : cl.length = c := by rw [hll]; exact Nat.mul_one c
  have := Lib.run_unsafeString_row (P := PP) w1 247 3 9 5 (by kernel_rfl) (by kernel_rfl) g cl.length hsh l hne (by omega) (by omega) hcell
  rw [hlen] at this
  refine ⟨_, _, this, _, rfl, rfl, ?_⟩
  exact (q1.no (S := S)).trans' (freeze_keep w1 g n) fun j hj he => by rw [he]; exact (h7 g rfl).1
end

/-! ## numbers of eight bytes, texts of a fixed length -/
def byteAt (X k : Nat) : UInt8 := UInt8.ofNat (X / 2 ^ (8 * k) % 256)
def be8 (x : Int) : Str := [byteAt x.toNat 7, byteAt x.toNat 6, byteAt x.toNat 5, byteAt x.toNat 4, byteAt x.toNat 3, byteAt x.toNat 2, byteAt x.toNat 1, byteAt x.toNat 0]
theorem be8_get (x : Int) {i : Nat} (hi : i < 8) : (be8 x)[i]? = some (byteAt x.toNat (7 - i)) := by
  match i, hi with
  | 0, _ | 1, _ | 2, _ | 3, _ | 4, _ | 5, _ | 6, _ | 7, _ => rfl
theorem be8_len (x : Int) : (be8 x).length = 8 := rfl
theorem byteAt_toNat (X k : Nat) : ((byteAt X k).toNat : Int) = ((X / 2 ^ (8 * k) % 256 : Nat) : Int) := by
  unfold byteAt
  rw [UInt8.toNat_ofNat']
  simp
def fx (s : Str) (m : Nat) : Str := s.take m ++ List.replicate (m - s.length) 0
theorem fx_len (s : Str) (m : Nat) : (fx s m).length = m := by simp [fx]; omega

theorem max0 (x : Int) : (if x > (0 : Int) then x else (0 : Int)) = ((x.toNat : Nat) : Int) := by omega

theorem out_num {w0 w : World} {k : Nat} {S : Nat → Prop} {l : Str} (h : Bu w0 w k S l) {F : Nat → Prop} {A : Option Addr} {n c : Nat} {xs : List Int} (hs : Sl Ly.int w F A n c xs) (hF : ∀ j, F j → j < w.heap.size ∧ ¬ S j) (hl : l.length + 8 * n < 1000000000) :
    Calls PP 136 #[.pointer (some ⟨k, 0, none⟩), .slice A n c] w (Ret fun r w' => r = .pointer (some ⟨k, 0, none⟩) ∧ ∃ S', Grow S w S' ∧ Keep S w w' ∧ Bu w0 w' k S' (l ++ xs.flatMap be8)) := by
  refine c136 ?_
  unfold S136
  have hlen := hs.len
  have tl : ∀ i, (xs.take i).flatMap be8 = (xs.take i).flatMap be8 ∧ ((xs.take i).flatMap be8).length = 8 * (xs.take i).length := by
    intro i
    refine ⟨rfl, ?_⟩
    generalize xs.take i = ys
    induction ys with
    | nil => rfl
    | cons y ys ih => rw [List.flatMap_cons, List.length_append, ih, be8_len, List.length_cons]; omega
  refine ⟨fun x w1 => ∃ (i : Nat) (S1 : Nat → Prop), x = i ∧ i ≤ n ∧ Grow S w S1 ∧ Keep S w w1 ∧ Bu w0 w1 k S1 (l ++ (xs.take i).flatMap be8), fun x _ => ((n : Int) - x).toNat, ⟨0, S, rfl, Nat.zero_le _, Grow.refl _ _, Keep.refl _ _, by simpa using h⟩, ?_⟩
  rintro _ x w1 ⟨i, S1, rfl, hi, y1, q1, g1⟩
  refine split_dec (fun hlt => ?_) (fun hge => ?_)
  · have hlt' : i < n := by omega
    refine ⟨⟨by omega, hlt⟩, ?_⟩
    obtain ⟨a, v, hA, hv, hr⟩ := (hs.kept q1 (fun j hj _ hc => (hF j hj).2 hc)).int hlt'
    refine SOMEA.i hA ⟨_, by rw [Int.toNat_natCast]; exact hr, ?_⟩
    have htk := take_succ_some hv
    have hti := (tl i).2
    simp only [List.length_take] at hti
    refine ⟨fun x7 w2 => ∃ (m : Nat) (S2 : Nat → Prop), x7 = 56 - 8 * (m : Int) ∧ m ≤ 8 ∧ Grow S w S2 ∧ Keep S w w2 ∧ Bu w0 w2 k S2 (l ++ (xs.take i).flatMap be8 ++ (be8 v).take m), fun x7 _ => (x7 + 8).toNat, ⟨0, S1, rfl, Nat.zero_le _, y1, q1, by simpa using g1⟩, ?_⟩
    rintro _ x7 w2 ⟨m, S2, rfl, hm, y2, q2, g2⟩
    refine split_dec (fun h0 => ?_) (fun h0 => ?_)
    · have hm8 : m < 8 := by omega
      refine DRAW.i fun w3 hw3 q3 => ⟨by omega, by kernel_rfl, ?_⟩
      have hb : IntKind.wrap .u8 (Int.fdiv (if v > (0 : Int) then v else (0 : Int)) (2 ^ (min (Int.toNat (56 - 8 * (m : Int))) 64))) = ((byteAt v.toNat (7 - m)).toNat : Int) := by
        rw [byteAt_toNat, max0]
        have e1 : min (Int.toNat (56 - 8 * (m : Int))) 64 = 8 * (7 - m) := by omega
        rw [e1]
        have e2 : Int.fdiv ((v.toNat : Nat) : Int) (2 ^ (8 * (7 - m))) = ((v.toNat / 2 ^ (8 * (7 - m)) : Nat) : Int) := by
          rw [Int.fdiv_eq_ediv_of_nonneg _ (by exact Int.le_of_lt (Int.pow_pos (by decide)))]
          push_cast
          rfl
        rw [e2]
        simp only [IntKind.wrap, IntKind.bits, IntKind.signed]
        simp
      rw [hb]
      refine CALL.i (write_byte (g2.no q3) (by rw [List.length_append, List.length_append, hti, List.length_take, be8_len]; omega) _) (by kernel_rfl) ?_
      rintro r w4 ⟨S4, y4, q4, g4⟩
      have hw : IntKind.wrap .i64 (56 - 8 * (m : Int) - 8) = 56 - 8 * ((m + 1 : Nat) : Int) := by rw [wrap64 (by omega) (by omega)]; omega
      rw [hw]
      refine ⟨⟨m + 1, S4, rfl, hm8, y2.trans y4 (by have := q2.size; have := q3.size; omega), (q2.and_no q3).trans' q4 (fun j hj hc => (y2.2 j hc).resolve_right (Nat.not_le.2 hj)), ?_⟩, by show (56 - 8 * ((m + 1 : Nat) : Int) + 8).toNat < (56 - 8 * (m : Int) + 8).toNat; omega⟩
      rw [take_succ_some (be8_get v hm8), ← List.append_assoc]
      exact g4
    · have hm8 : m = 8 := by omega
      subst hm8
      have : (be8 v).take 8 = be8 v := rfl
      rw [this] at g2
      refine ⟨⟨i + 1, S2, wrapS (by omega), hlt', y2, q2, ?_⟩, mu_go (wrapS (by omega)) hlt'⟩
      rw [htk, List.flatMap_append, ← List.append_assoc]
      simpa using g2
  · have hie : i = xs.length := by omega
    rw [hie, List.take_length] at g1
    exact ⟨rfl, S1, y1, q1, g1⟩

theorem flat_len : ∀ ys : List Str, (∀ x ∈ ys, x.length < 10000) → ys.flatten.length ≤ 10000 * ys.length
  | [], _ => by simp
  | y :: ys, h => by
    have h1 := flat_len ys fun x hx => h x (List.mem_cons_of_mem _ hx)
    have h2 := h y List.mem_cons_self
    rw [List.flatten_cons, List.length_append, List.length_cons]
    omega
theorem out_raw {w0 w : World} {k : Nat} {S : Nat → Prop} {l : Str} (h : Bu w0 w k S l) {F : Nat → Prop} {A : Option Addr} {n c : Nat} {xs : List Str} (hs : Sl Lst w F A n c xs) (hF : ∀ j, F j → j < w.heap.size ∧ ¬ S j) (hn : n < 1000) (hx : ∀ x ∈ xs, x.length < 10000) (hl : l.length < 100000000) :
    Calls PP 178 #[.pointer (some ⟨k, 0, none⟩), .slice A n c] w (Ret fun r w' => r = .pointer (some ⟨k, 0, none⟩) ∧ ∃ S', Grow S w S' ∧ Keep S w w' ∧ Bu w0 w' k S' (l ++ xs.flatten)) := by
  refine c178 ?_
  unfold S178
  have hlen := hs.len
  have tl : ∀ i, ((xs.take i).flatten).length ≤ 10000 * (xs.take i).length := fun i => flat_len _ fun x hm => hx x (List.mem_of_mem_take hm)
  refine ⟨fun x w1 => ∃ (i : Nat) (S1 : Nat → Prop), x = i ∧ i ≤ n ∧ Grow S w S1 ∧ Keep S w w1 ∧ Bu w0 w1 k S1 (l ++ (xs.take i).flatten), fun x _ => ((n : Int) - x).toNat, ⟨0, S, rfl, Nat.zero_le _, Grow.refl _ _, Keep.refl _ _, by simpa using h⟩, ?_⟩
  rintro _ x w1 ⟨i, S1, rfl, hi, y1, q1, g1⟩
  refine split_dec (fun hlt => ?_) (fun hge => ?_)
  · have hlt' : i < n := by omega
    refine ⟨⟨by omega, hlt⟩, ?_⟩
    obtain ⟨a, v, hA, hv, hr⟩ := (hs.kept q1 (fun j hj _ hc => (hF j hj).2 hc)).stx hlt'
    refine SOMEA.i hA ⟨_, by rw [Int.toNat_natCast]; exact hr, ?_⟩
    have hv1 := hx v (List.mem_of_getElem? hv)
    have hti := tl i
    rw [List.length_take] at hti
    refine CALL.i (write_string g1 v (by rw [List.length_append]; omega)) (by kernel_rfl) ?_
    rintro r w2 ⟨rfl, S2, y2, q2, g2⟩
    refine ⟨_, _, rfl, ⟨i + 1, S2, wrapS (by omega), hlt', y1.trans y2 q1.size, q1.trans' q2 (fun j hj hc => (y1.2 j hc).resolve_right (Nat.not_le.2 hj)), ?_⟩, mu_go (wrapS (by omega)) hlt'⟩
    rw [take_succ_some hv, List.flatten_append, ← List.append_assoc]
    simpa using g2
  · have hie : i = xs.length := by omega
    rw [hie, List.take_length] at g1
    exact ⟨rfl, S1, y1, q1, g1⟩

theorem repeat0 (c : Nat) : Lib.repeatL [(0 : UInt8)] c = List.replicate c 0 := by
  induction c with
  | zero => rfl
  | succ c ih => rw [Lib.repeatL, ih]; rfl
theorem Keep.belowR {w w' : World} (h : Go.RowKit.Below w.heap.size w w') : Keep No w w' := ⟨h.size, fun j hj _ => h.block j hj, h.os, h.tape, h.output⟩

theorem out_fixed {w0 w : World} {k : Nat} {S : Nat → Prop} {l : Str} (h : Bu w0 w k S l) (s : Str) (hs : s.length < 100000) (hl : l.length < 10000000) :
    Calls PP 137 #[.pointer (some ⟨k, 0, none⟩), .string (bs s), .int .i64 32] w (Ret fun r w' => r = .pointer (some ⟨k, 0, none⟩) ∧ ∃ S', Grow S w S' ∧ Keep S w w' ∧ Bu w0 w' k S' (l ++ fx s 32)) := by
  refine c137 ?_
  unfold S137
  have e1 : (if (if (4096 : Int) < 32 then (4096 : Int) else 32) > (0 : Int) then (if (4096 : Int) < 32 then (4096 : Int) else 32) else (0 : Int)) = 32 := by decide
  rw [e1, bs_size]
  have e2 : (if ((s.length : Nat) : Int) < 32 then ((s.length : Nat) : Int) else 32) = ((min s.length 32 : Nat) : Int) := by omega
  rw [e2, Int.toNat_natCast]
  have e3 : ByteArray.extract (bs s) 0 (min s.length 32) = bs (s.take 32) := by
    rw [bs_take, Nat.min_comm, List.take_eq_take_iff.2 (by omega : min (min 32 s.length) s.length = min 32 s.length)]
  rw [e3, bs_size]
  have e4 : IntKind.wrap .i64 (32 - (((s.take 32).length : Nat) : Int)) = ((32 - s.length : Nat) : Int) := by
    rw [List.length_take, wrap64 (by omega) (by omega)]; omega
  rw [e4]
  refine ⟨⟨by omega, by omega⟩, CALL.i (R := fun r w' => r = .string (bs (List.replicate (32 - s.length) 0)) ∧ Keep No w w') ?_ (by kernel_rfl) ?_⟩
  · refine (Tryz.strings_Repeat ⟨#[0]⟩ (32 - s.length) w (by omega) (by show 1 * (32 - s.length) ≤ _; omega)).mono ?_
    rintro e w' ⟨rfl, hb⟩
    refine ⟨?_, Keep.belowR hb⟩
    show Value.string _ = Value.string _
    rw [show (⟨#[0]⟩ : ByteArray).data.toList = [0] from rfl, repeat0]
    rfl
  · rintro r w1 ⟨rfl, q1⟩
    refine ⟨_, rfl, NEW.i fun k23 w2 hk23 hs2 q2 a2 => ?_⟩
    have hS : ∀ j, S j → j < w.heap.size := fun j hj => (h.rng j hj).2
    have hsl : Sl Lst w2 (fun j => j = k23) (some ⟨k23, 0, none⟩) 2 2 [s.take 32, List.replicate (32 - s.length) 0] := by
      refine ⟨rfl, Nat.le_refl _, .inr ⟨k23, 0, _, _, _, rfl, rfl, a2, by simp [Lst, Ly.of], ?_⟩⟩
      intro j x hx
      match j, hx with
      | 0, hx => cases hx; exact ⟨_, rfl, rfl⟩
      | 1, hx => cases hx; exact ⟨_, rfl, rfl⟩
      | j + 2, hx => simp at hx
    have hq1 := q1.size
    refine CALL.i (out_raw ((h.no q1).no q2) hsl (fun j hj => by rw [hj]; exact ⟨by omega, fun hc => by have := hS _ hc; omega⟩) (by omega) ?_ (by omega)) (by kernel_rfl) ?_
    · intro x hx
      simp only [List.mem_cons, List.not_mem_nil, or_false] at hx
      rcases hx with rfl | rfl
      · simp; omega
      · simp; omega
    · rintro r w3 ⟨rfl, S3, y3, q3, g3⟩
      refine ⟨_, rfl, rfl, S3, ⟨y3.1, fun j hj => (y3.2 j hj).imp id (fun h' => by omega)⟩, (q1.trans q2).no.trans q3, ?_⟩
      have : [s.take 32, List.replicate (32 - s.length) (0 : UInt8)].flatten = fx s 32 := by simp [fx]
      rw [this] at g3
      exact g3

theorem ref_num (x : Int) (w : World) (hx : x < 9223372036854775808) : Calls PP 139 #[.int .i64 x] w (Ret fun r w' => r = .string (bs (be8 x)) ∧ Keep No w w') := by
  refine c139 ?_
  unfold S139
  rw [max0]
  refine ⟨fun y s i w1 => ∃ m : Nat, i = m ∧ m ≤ 8 ∧ y = ((x.toNat / 2 ^ (8 * m) : Nat) : Int) ∧ s = bs ((be8 x).drop (8 - m)) ∧ Keep No w w1, fun _ _ i _ => (8 - i).toNat, ⟨0, rfl, Nat.zero_le _, by simp, rfl, Keep.refl _ _⟩, ?_⟩
  rintro _ y s i w1 ⟨m, rfl, hm, rfl, rfl, q1⟩
  refine split_dec (fun hlt => ?_) (fun hge => ?_)
  · have hm8 : m < 8 := by omega
    have hle : x.toNat / 2 ^ (8 * m) ≤ x.toNat := Nat.div_le_self _ _
    have hb : IntKind.wrap .u8 (Int.tmod ((x.toNat / 2 ^ (8 * m) : Nat) : Int) 256) = ((byteAt x.toNat m).toNat : Int) := by
      rw [byteAt_toNat]
      have : Int.tmod ((x.toNat / 2 ^ (8 * m) : Nat) : Int) 256 = ((x.toNat / 2 ^ (8 * m) % 256 : Nat) : Int) := by
        rw [Int.tmod_eq_emod_of_nonneg (Int.natCast_nonneg _)]; rfl
      rw [this, wrap_u8 (Nat.mod_lt _ (by omega))]
    rw [hb]
    refine ⟨rfl, by decide, by kernel_rfl, NEW.i fun k14 w2 hk14 hs2 q2 a2 => ?_⟩
    have hcells : ∀ j (hj : j < [byteAt x.toNat m].length), w2.cell? (Addr.add ⟨k14, 0, none⟩ j) = some (.int .u8 (([byteAt x.toNat m])[j].toNat : Int)) := by
      intro j hj
      have hj0 : j = 0 := by simp at hj; exact hj
      subst hj0
      rw [add_off]
      exact cell_at a2 rfl
    have hd : (be8 x).drop (8 - (m + 1)) = byteAt x.toNat m :: (be8 x).drop (8 - m) := by
      have hlt7 : 8 - (m + 1) < (be8 x).length := by rw [be8_len]; omega
      have hg := be8_get x (i := 8 - (m + 1)) (by omega)
      rw [List.drop_eq_getElem_cons hlt7, (List.getElem?_eq_some_iff.1 hg).2]
      have h1 : 7 - (8 - (m + 1)) = m := by omega
      have h2 : 8 - (m + 1) + 1 = 8 - m := by omega
      rw [h1, h2]
    have hdl : ((be8 x).drop (8 - m)).length = m := by rw [List.length_drop, be8_len]; omega
    refine ⟨_, w2, run_convert_bytes_back w2 184 9 5 ⟨k14, 0, none⟩ _ [byteAt x.toNat m] (by kernel_rfl) (by kernel_rfl) (by kernel_rfl) hcells, _, rfl, ?_, rfl, by decide, ?_⟩
    · show (((bs [byteAt x.toNat m]).size + (bs ((be8 x).drop (8 - m))).size : Nat) : Int) ≤ 9223372036854775807
      rw [bs_size, bs_size, hdl]
      simp
      omega
    · refine ⟨⟨m + 1, wrapS (by omega), hm8, ?_, ?_, q1.trans q2⟩, ?_⟩
      · have e : (2 : Nat) ^ (8 * (m + 1)) = 2 ^ (8 * m) * 256 := by rw [Nat.mul_add, Nat.pow_add]
        rw [e]
        have : Int.tdiv ((x.toNat / 2 ^ (8 * m) : Nat) : Int) 256 = ((x.toNat / 2 ^ (8 * m) / 256 : Nat) : Int) := by
          rw [Int.tdiv_eq_ediv_of_nonneg (Int.natCast_nonneg _)]; rfl
        have hle2 := Nat.div_le_self x.toNat (2 ^ (8 * m) * 256)
        rw [this, Nat.div_div_eq_div_mul]
        generalize x.toNat / (2 ^ (8 * m) * 256) = q at hle2 ⊢
        rw [wrap64 (by omega) (by omega)]

      · show bs [byteAt x.toNat m] ++ bs ((be8 x).drop (8 - m)) = _
        rw [bs_append, hd]
        rfl
      · have : IntKind.wrap .i64 ((m : Int) + 1) = ((m + 1 : Nat) : Int) := wrapS (by omega)
        show (8 - IntKind.wrap .i64 ((m : Int) + 1)).toNat < (8 - (m : Int)).toNat
        rw [this]
        clear hle hd hdl hb
        omega
  · have hm8 : m = 8 := by omega
    subst hm8
    exact ⟨rfl, q1⟩

theorem ref_fixed (s : Str) (hs : s.length < 100000) (w : World) : Calls PP 140 #[.string (bs s), .int .i64 32] w (Ret fun r w' => r = .string (bs (fx s 32)) ∧ w' = w) := by
  refine c140 ?_
  unfold S140
  have e1 : (if (if (4096 : Int) < 32 then (4096 : Int) else 32) > (0 : Int) then (if (4096 : Int) < 32 then (4096 : Int) else 32) else (0 : Int)) = 32 := by decide
  rw [e1]
  refine ⟨fun t w1 => w1 = w ∧ ∃ m : Nat, t = bs (s ++ List.replicate m 0) ∧ (m = 0 ∨ s.length + m ≤ 32), fun t _ => (32 - (t.size : Int)).toNat, ⟨rfl, 0, by simp, .inl rfl⟩, ?_⟩
  rintro _ t w1 ⟨rfl, m, rfl, hm⟩
  have hsz : (bs (s ++ List.replicate m 0)).size = s.length + m := by rw [bs_size]; simp
  have hsz1 : (bs (s ++ List.replicate m 0) ++ (⟨#[0]⟩ : ByteArray)) = bs (s ++ List.replicate (m + 1) 0) := by
    show bs (s ++ List.replicate m 0) ++ bs [0] = _
    rw [bs_append, List.append_assoc, List.replicate_succ', ]
  rw [hsz1]
  have hsz2 : (bs (s ++ List.replicate (m + 1) 0)).size = s.length + (m + 1) := by rw [bs_size]; simp
  rw [hsz]
  refine split_dec (fun hlt => ⟨?_, ⟨rfl, m + 1, rfl, .inr (by omega)⟩, ?_⟩) (fun hge => ⟨⟨by omega, by omega⟩, ?_, rfl⟩)
  · show ((s.length + m + 1 : Nat) : Int) ≤ 9223372036854775807
    omega
  · show (32 - ((bs (s ++ List.replicate (m + 1) 0)).size : Int)).toNat < (32 - ((bs (s ++ List.replicate m 0)).size : Int)).toNat
    rw [hsz2, hsz]; omega
  · have : ByteArray.extract (bs (s ++ List.replicate m 0)) 0 (Int.toNat 32) = bs ((s ++ List.replicate m 0).take 32) := bs_take _ _
    rw [this]
    congr 2
    unfold fx
    rcases hm with rfl | hm
    · rw [List.replicate_zero, List.append_nil, show 32 - s.length = 0 by omega]
      simp
    · have h32 : s.length + m = 32 := by omega
      rw [List.take_of_length_le (by simp; omega), List.take_of_length_le (by omega), show 32 - s.length = m by omega]
end Go.SW
