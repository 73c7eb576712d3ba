/- The document's store: what an op of it holds on to; plain laws of places. -/
import Derived.Test.YtfhiffnfngpkeaaGreatDoorRef19
import Derived.Test.YtfhiffnfngpkeaaGreatDoorLaw1
import Derived.Test.YtfhiffnfngpkeaaGreatDoorSRef26
set_option linter.unusedVariables false
namespace Go.SW
open Go Go.Proofs Pl

/-! ## plain -/
theorem setBox_at {M : Md} (hn : (M.b.map (·.validity)).Nodup) {i : Nat} {x y : Bx} (hx : M.b[i]? = some x) (hv : y.validity = x.validity) : setBox M y = { M with b := M.b.set i y } := by
  unfold setBox
  congr 1
  apply List.ext_getElem?
  intro j
  rw [List.getElem?_map]
  have hil := (List.getElem?_eq_some_iff.1 hx).1
  by_cases hij : i = j
  · subst hij
    rw [hx, List.getElem?_set_self hil]
    simp [hv]
  · rw [List.getElem?_set_ne hij]
    cases hj : M.b[j]? with
    | none => rfl
    | some z =>
      have hne : z.validity ≠ y.validity := by
        intro hc
        rw [hv] at hc
        have h1 : (M.b.map (·.validity))[i]? = some x.validity := by rw [List.getElem?_map, hx]; rfl
        have h2 : (M.b.map (·.validity))[j]? = some x.validity := by rw [List.getElem?_map, hj]; exact congrArg some hc
        exact hij ((List.getElem?_inj (by simpa using hil) hn).1 (h1.trans h2.symm))
      simp [hne]
theorem set_val {l : List Bx} {i : Nat} {x y : Bx} (hx : l[i]? = some x) (hv : y.validity = x.validity) : (l.set i y).map (·.validity) = l.map (·.validity) := by
  apply List.ext_getElem?
  intro j
  have hil := (List.getElem?_eq_some_iff.1 hx).1
  rw [List.getElem?_map, List.getElem?_map]
  by_cases hij : i = j
  · subst hij
    rw [hx, List.getElem?_set_self hil]
    exact congrArg some hv
  · rw [List.getElem?_set_ne hij]
theorem filter_at {l : List Bx} (hn : (l.map (·.validity)).Nodup) {i : Nat} {x : Bx} (hx : l[i]? = some x) : l.filter (fun b => decide (b.validity ≠ x.validity)) = l.take i ++ l.drop (i + 1) := by
  have hs : l = l.take i ++ x :: l.drop (i + 1) := split_at hx
  have hn' := hn
  rw [hs, List.map_append, List.map_cons, List.nodup_append] at hn'
  obtain ⟨h1, h2, h3⟩ := hn'
  rw [List.nodup_cons] at h2
  conv => lhs; rw [hs]
  rw [List.filter_append, List.filter_cons_of_neg (by simp)]
  congr 1
  · rw [List.filter_eq_self]
    intro z hz
    have := h3 z.validity (List.mem_map.2 ⟨z, hz, rfl⟩) x.validity List.mem_cons_self
    simpa using this
  · rw [List.filter_eq_self]
    intro z hz
    have : z.validity ≠ x.validity := fun hc => h2.1 (hc ▸ List.mem_map.2 ⟨z, hz, rfl⟩)
    simpa using this
theorem createN_err (N : Nm) (s : Str) (h : (createN N s).2.2 ≠ 0) : (createN N s).1 = N ∧ (createN N s).2.1 = 0 := by
  unfold createN at h ⊢
  split
  · exact ⟨rfl, rfl⟩
  · split
    · exact ⟨rfl, rfl⟩
    · split
      · exact ⟨rfl, rfl⟩
      · rename_i h1 h2 h3
        rw [if_neg h1, if_neg h2, if_neg h3] at h
        exact absurd rfl h
theorem renameN_err (N : Nm) (s t : Str) (h : (renameN N s t).2.2 ≠ 0) : (renameN N s t).1 = N ∧ (renameN N s t).2.1 = 0 := by
  unfold renameN at h ⊢
  cases hof : ofN N s with
  | none => exact ⟨rfl, rfl⟩
  | some id =>
    rw [hof] at h
    simp only at h ⊢
    split
    · exact ⟨rfl, rfl⟩
    · split
      · exact ⟨rfl, rfl⟩
      · rename_i h1 h2
        rw [if_neg h1, if_neg h2] at h
        exact absurd rfl h

/-! ## the op's own blocks -/
theorem ld69 (a : Addr) (w : World) (K : Value → Prop) : LD PP 69 a w K = ∃ (A : Option Addr) (n c : Nat) (x : Int) (B : Option Addr) (nb cb : Nat) (E : Option Addr) (ne ce : Nat) (y : Int), RD w a 0 [.slice A n c, .int .i64 x, .slice B nb cb, .slice E ne ce, .int .i64 y] ∧
    K (.agg #[.slice A n c, .int .i64 x, .slice B nb cb, .slice E ne ce, .int .i64 y]) := by kernel_rfl
theorem ld73 (a : Addr) (w : World) (K : Value → Prop) : LD PP 73 a w K = ∃ (x y : Int) (s : ByteArray) (A : Option Addr) (n c : Nat) (B : Option Addr) (nb cb : Nat), RD w a 0 [.int .i64 x, .int .i64 y, .string s, .slice A n c, .slice B nb cb] ∧
    K (.agg #[.int .i64 x, .int .i64 y, .string s, .slice A n c, .slice B nb cb]) := by kernel_rfl
theorem ld108 (a : Addr) (w : World) (K : Value → Prop) : LD PP 108 a w K = ∃ (x y : Int) (A : Option Addr) (n c : Nat), RD w a 0 [.int .i64 x, .int .i64 y, .slice A n c] ∧
    K (.agg #[.int .i64 x, .int .i64 y, .slice A n c]) := by kernel_rfl
theorem load69 {w : World} {k : Nat} {A : Option Addr} {n c : Nat} {x : Int} {B : Option Addr} {nb cb : Nat} {E : Option Addr} {ne ce : Nat} {y : Int} (h : At w k (.cells ⟨[.slice A n c, .int .i64 x, .slice B nb cb, .slice E ne ce, .int .i64 y]⟩ 69 (0, 0))) :
    (loadVar 69 (⟨k, 0, none⟩ : Addr)).run PP w = .ok (.agg #[.slice A n c, .int .i64 x, .slice B nb cb, .slice E ne ce, .int .i64 y]) w := load_of (ld69 _ _ _) ⟨_, _, _, _, _, _, _, _, _, _, _, RD.i h, rfl⟩
theorem load73 {w : World} {k : Nat} {x y : Int} {s : ByteArray} {A : Option Addr} {n c : Nat} {B : Option Addr} {nb cb : Nat} (h : At w k (.cells ⟨[.int .i64 x, .int .i64 y, .string s, .slice A n c, .slice B nb cb]⟩ 73 (0, 0))) :
    (loadVar 73 (⟨k, 0, none⟩ : Addr)).run PP w = .ok (.agg #[.int .i64 x, .int .i64 y, .string s, .slice A n c, .slice B nb cb]) w := load_of (ld73 _ _ _) ⟨_, _, _, _, _, _, _, _, _, RD.i h, rfl⟩
theorem load108 {w : World} {a : Addr} {x y : Int} {A : Option Addr} {n c : Nat} (h : RD w a 0 [.int .i64 x, .int .i64 y, .slice A n c]) :
    (loadVar 108 a).run PP w = .ok (.agg #[.int .i64 x, .int .i64 y, .slice A n c]) w := load_of (ld108 _ _ _) ⟨_, _, _, _, _, h, rfl⟩

theorem RMd.kept {w w' : World} {G S : Nat → Prop} {M : Md} {A : Option Addr} {n c : Nat} {B : Option Addr} {nb cb : Nat} {E : Option Addr} {ne ce : Nat} (h : RMd w G M A n c B nb cb E ne ce) (hk : Keep S w w') (hd : ∀ j, G j → ¬ S j) : RMd w' G M A n c B nb cb E ne ce :=
  ⟨h.nm.kept hk (fun j hj _ => hd j hj), h.bx.kept hk (fun j hj _ => hd j hj), h.ml.kept hk (fun j hj _ => hd j hj), fun j hj => Nat.lt_of_lt_of_le (h.lt j hj) hk.size⟩

/-- behind an op of the document's -/
def Done19 (w : World) (F : Nat → Prop) (M' : Md) (a : Ans) (r : Value) (w' : World) : Prop :=
  ∃ A n c B nb cb E ne ce A1 n1 c1 A2 n2 c2, r = .tuple #[.agg #[.slice A n c, .int .i64 M'.n.next, .slice B nb cb, .slice E ne ce, .int .i64 M'.next], .agg #[.int .i64 a.err, .int .i64 a.n, .string (bs a.text), .slice A1 n1 c1, .slice A2 n2 c2]] ∧
    Keep No w w' ∧ RMd w' (Gn F w w') M' A n c B nb cb E ne ce ∧ Sl Lst w' (Gn F w w') A1 n1 c1 a.names ∧ Sl Lhit w' (Gn F w w') A2 n2 c2 a.hits

/-- within an op: k2 the store as it is, k3 the op, k4 and k5 for what it returns; all else of it lies at b or behind -/
structure Cx (w : World) (F : Nat → Prop) (b k2 k3 k4 k5 : Nat) (oc : List Value) (w' : World) (G : Nat → Prop) (M : Md) (A : Option Addr) (n c : Nat) (B : Option Addr) (nb cb : Nat) (E : Option Addr) (ne ce : Nat) : Prop where
  kp : Keep No w w'
  sz : b ≤ w'.heap.size
  fl : ∀ j, F j → j < w.heap.size
  e2 : w.heap.size ≤ k2
  e3 : k2 < k3
  e4 : k3 < k4
  e5 : k4 < k5
  e6 : k5 < b
  h2 : At w' k2 (.cells ⟨[.slice A n c, .int .i64 M.n.next, .slice B nb cb, .slice E ne ce, .int .i64 M.next]⟩ 69 (0, 0))
  h3 : At w' k3 (.cells ⟨oc⟩ 29 (0, 0))
  h4 : At w' k4 (.cells ⟨[.slice none 0 0, .int .i64 0, .slice none 0 0, .slice none 0 0, .int .i64 0]⟩ 69 (0, 0))
  h5 : At w' k5 (.cells ⟨rz⟩ 73 (0, 0))
  md : RMd w' G M A n c B nb cb E ne ce
  gd : ∀ j, G j → F j ∨ b ≤ j
section
variable {w w' w'' : World} {F G : Nat → Prop} {b k2 k3 k4 k5 : Nat} {oc : List Value} {M : Md} {A : Option Addr} {n c : Nat} {B : Option Addr} {nb cb : Nat} {E : Option Addr} {ne ce : Nat}
theorem Cx.fr {S : Nat → Prop} (h : Cx w F b k2 k3 k4 k5 oc w' G M A n c B nb cb E ne ce) (hk : Keep S w' w'') (hS : ∀ j, S j → b ≤ j ∧ ¬ G j) : Cx w F b k2 k3 k4 k5 oc w'' G M A n c B nb cb E ne ce := by
  obtain ⟨kp, sz, fl, e2, e3, e4, e5, e6, h2, h3, h4, h5, md, gd⟩ := h
  have hn : ∀ k, k < b → ¬ S k := fun k hk hs => by have := (hS k hs).1; omega
  exact ⟨kp.fresh hk (fun j hj => by have := (hS j hj).1; omega), Nat.le_trans sz hk.size, fl, e2, e3, e4, e5, e6, hk.at_ h2 (hn _ (by omega)), hk.at_ h3 (hn _ (by omega)), hk.at_ h4 (hn _ (by omega)), hk.at_ h5 (hn _ (by omega)), md.kept hk (fun j hj hs => (hS j hs).2 hj), gd⟩
theorem Cx.no (h : Cx w F b k2 k3 k4 k5 oc w' G M A n c B nb cb E ne ce) (hk : Keep No w' w'') : Cx w F b k2 k3 k4 k5 oc w'' G M A n c B nb cb E ne ce := h.fr hk (fun j hj => False.elim hj)
theorem Cx.st {k : Nat} (h : Cx w F b k2 k3 k4 k5 oc w' G M A n c B nb cb E ne ce) (hk : Keep (fun j => j = k) w' w'') (hb : b ≤ k) (hg : ¬ G k) : Cx w F b k2 k3 k4 k5 oc w'' G M A n c B nb cb E ne ce :=
  h.fr hk (fun j hj => by rw [hj]; exact ⟨hb, hg⟩)
theorem Cx.ng (h : Cx w F b k2 k3 k4 k5 oc w' G M A n c B nb cb E ne ce) {k : Nat} (hk : w'.heap.size ≤ k) : ¬ G k := fun hg => by have := h.md.lt k hg; omega
/-- the store is another one -/
theorem Cx.put {G' : Nat → Prop} {M' : Md} {A' : Option Addr} {n' c' : Nat} {B' : Option Addr} {nb' cb' : Nat} {E' : Option Addr} {ne' ce' : Nat} (h : Cx w F b k2 k3 k4 k5 oc w' G M A n c B nb cb E ne ce) (hk : Keep (fun j => j = k2) w' w'')
    (h2 : At w'' k2 (.cells ⟨[.slice A' n' c', .int .i64 M'.n.next, .slice B' nb' cb', .slice E' ne' ce', .int .i64 M'.next]⟩ 69 (0, 0))) (md : RMd w' G' M' A' n' c' B' nb' cb' E' ne' ce') (gd : ∀ j, G' j → F j ∨ b ≤ j) : Cx w F b k2 k3 k4 k5 oc w'' G' M' A' n' c' B' nb' cb' E' ne' ce' := by
  obtain ⟨kp, sz, fl, e2, e3, e4, e5, e6, _, h3, h4, h5, _, _⟩ := h
  exact ⟨kp.tmp hk e2, Nat.le_trans sz hk.size, fl, e2, e3, e4, e5, e6, h2, h3.oth hk (by omega), h4.oth hk (by omega), h5.oth hk (by omega), md.kept hk (fun j hj he => by
    rcases gd j hj with h | h
    · have := fl j h; omega
    · omega), gd⟩
theorem gd_gn {F G : Nat → Prop} {b : Nat} {w1 w2 : World} (h : ∀ j, G j → F j ∨ b ≤ j) (hs : b ≤ w1.heap.size) : ∀ j, Gn G w1 w2 j → F j ∨ b ≤ j := fun j hj => hj.elim (h j) (fun h' => .inr (by omega))
/-- it ends -/
theorem Cx.finM {G0 : Nat → Prop} {M0 : Md} {A0 : Option Addr} {n0 c0 : Nat} {B0 : Option Addr} {nb0 cb0 : Nat} {E0 : Option Addr} {ne0 ce0 : Nat} (h : Cx w F b k2 k3 k4 k5 oc w' G0 M0 A0 n0 c0 B0 nb0 cb0 E0 ne0 ce0) (md : RMd w' G M A n c B nb cb E ne ce) (gd : ∀ j, G j → F j ∨ b ≤ j) (a : Ans) {A1 : Option Addr} {n1 c1 : Nat} {A2 : Option Addr} {n2 c2 : Nat} {G1 : Nat → Prop} (h1 : Sl Lst w' G1 A1 n1 c1 a.names) (h2 : Sl Lhit w' G1 A2 n2 c2 a.hits) (hG1 : ∀ j, G1 j → F j ∨ (b ≤ j ∧ j < w'.heap.size)) {K : World → Prop}
    (hK : ∀ w9, Keep (fun j => j = k4) w' w9 → (ST w9 (⟨k5, 0, none⟩ : Addr) 0 [.int .i64 a.err, .int .i64 a.n, .string (bs a.text), .slice A1 n1 c1, .slice A2 n2 c2] fun w10 =>
      ∃ (A4r_0 : Option Addr) (n4r_0 : Nat) (c4r_0 : Nat) (x4r_1 : Int) (A4r_2 : Option Addr) (n4r_2 : Nat) (c4r_2 : Nat) (A4r_3 : Option Addr) (n4r_3 : Nat) (c4r_3 : Nat) (x4r_4 : Int), RD w10 (⟨k4, 0, none⟩ : Addr) 0 [.slice A4r_0 n4r_0 c4r_0, .int .i64 x4r_1, .slice A4r_2 n4r_2 c4r_2, .slice A4r_3 n4r_3 c4r_3, .int .i64 x4r_4] ∧
      ∃ (x5r_0 : Int) (x5r_1 : Int) (s5r_2 : ByteArray) (A5r_3 : Option Addr) (n5r_3 : Nat) (c5r_3 : Nat) (A5r_4 : Option Addr) (n5r_4 : Nat) (c5r_4 : Nat), RD w10 (⟨k5, 0, none⟩ : Addr) 0 [.int .i64 x5r_0, .int .i64 x5r_1, .string s5r_2, .slice A5r_3 n5r_3 c5r_3, .slice A5r_4 n5r_4 c5r_4] ∧
      Done19 w F M a (.tuple #[.agg #[.slice A4r_0 n4r_0 c4r_0, .int .i64 x4r_1, .slice A4r_2 n4r_2 c4r_2, .slice A4r_3 n4r_3 c4r_3, .int .i64 x4r_4], .agg #[.int .i64 x5r_0, .int .i64 x5r_1, .string s5r_2, .slice A5r_3 n5r_3 c5r_3, .slice A5r_4 n5r_4 c5r_4]]) w10) → K w9) :
    ST w' (⟨k4, 0, none⟩ : Addr) 0 [.slice A n c, .int .i64 M.n.next, .slice B nb cb, .slice E ne ce, .int .i64 M.next] K := by
  obtain ⟨kp, sz, fl, e2, e3, e4, e5, e6, _, _, h4, h5, _, _⟩ := h
  refine ST.i h4 (by simp) rfl fun w9 hs9 q9 a9 => hK w9 q9 ?_
  refine ST.i (h5.oth q9 (by omega)) (by simp [rz]) rfl fun w10 hs10 q10 a10 => ?_
  refine ⟨_, _, _, _, _, _, _, _, _, _, _, RD.i (a9.oth q10 (by omega)), _, _, _, _, _, _, _, _, _, RD.i a10, ?_⟩
  have z10 : Keep No w w10 := (kp.tmp q9 (by omega)).tmp q10 (by omega)
  have d4 : ∀ j, (F j ∨ b ≤ j) → ¬ j = k4 := fun j hj he => by
    rcases hj with hj | hj
    · have := fl j hj; omega
    · omega
  have d5 : ∀ j, (F j ∨ b ≤ j) → ¬ j = k5 := fun j hj he => by
    rcases hj with hj | hj
    · have := fl j hj; omega
    · omega
  have dG : ∀ j, G1 j → F j ∨ b ≤ j := fun j hj => (hG1 j hj).imp id (fun h => h.1)
  have up : ∀ j, G1 j → Gn F w w10 j := fun j hj => (hG1 j hj).imp id (fun h => ⟨by omega, by have := q9.size; have := q10.size; omega⟩)
  have upG : ∀ j, G j → Gn F w w10 j := fun j hj => (gd j hj).imp id (fun h => ⟨by omega, by have := md.lt j hj; have := q9.size; have := q10.size; omega⟩)
  have m10 := (md.kept q9 (fun j hj => d4 j (gd j hj))).kept q10 (fun j hj => d5 j (gd j hj))
  refine ⟨A, n, c, B, nb, cb, E, ne, ce, A1, n1, c1, A2, n2, c2, rfl, z10, ⟨m10.nm.mono upG, m10.bx.mono upG, m10.ml.mono upG, fun j hj => hj.elim (fun h => by have := fl j h; have := z10.size; omega) (fun h => h.2)⟩, ?_, ?_⟩
  · exact ((h1.kept q9 (fun j hj _ => d4 j (dG j hj))).kept q10 (fun j hj _ => d5 j (dG j hj))).mono up
  · exact ((h2.kept q9 (fun j hj _ => d4 j (dG j hj))).kept q10 (fun j hj _ => d5 j (dG j hj))).mono up
theorem Cx.fin (h : Cx w F b k2 k3 k4 k5 oc w' G M A n c B nb cb E ne ce) (a : Ans) {A1 : Option Addr} {n1 c1 : Nat} {A2 : Option Addr} {n2 c2 : Nat} {G1 : Nat → Prop} (h1 : Sl Lst w' G1 A1 n1 c1 a.names) (h2 : Sl Lhit w' G1 A2 n2 c2 a.hits) (hG1 : ∀ j, G1 j → F j ∨ (b ≤ j ∧ j < w'.heap.size)) {K : World → Prop}
    (hK : ∀ w9, Keep (fun j => j = k4) w' w9 → (ST w9 (⟨k5, 0, none⟩ : Addr) 0 [.int .i64 a.err, .int .i64 a.n, .string (bs a.text), .slice A1 n1 c1, .slice A2 n2 c2] fun w10 =>
      ∃ (A4r_0 : Option Addr) (n4r_0 : Nat) (c4r_0 : Nat) (x4r_1 : Int) (A4r_2 : Option Addr) (n4r_2 : Nat) (c4r_2 : Nat) (A4r_3 : Option Addr) (n4r_3 : Nat) (c4r_3 : Nat) (x4r_4 : Int), RD w10 (⟨k4, 0, none⟩ : Addr) 0 [.slice A4r_0 n4r_0 c4r_0, .int .i64 x4r_1, .slice A4r_2 n4r_2 c4r_2, .slice A4r_3 n4r_3 c4r_3, .int .i64 x4r_4] ∧
      ∃ (x5r_0 : Int) (x5r_1 : Int) (s5r_2 : ByteArray) (A5r_3 : Option Addr) (n5r_3 : Nat) (c5r_3 : Nat) (A5r_4 : Option Addr) (n5r_4 : Nat) (c5r_4 : Nat), RD w10 (⟨k5, 0, none⟩ : Addr) 0 [.int .i64 x5r_0, .int .i64 x5r_1, .string s5r_2, .slice A5r_3 n5r_3 c5r_3, .slice A5r_4 n5r_4 c5r_4] ∧
      Done19 w F M a (.tuple #[.agg #[.slice A4r_0 n4r_0 c4r_0, .int .i64 x4r_1, .slice A4r_2 n4r_2 c4r_2, .slice A4r_3 n4r_3 c4r_3, .int .i64 x4r_4], .agg #[.int .i64 x5r_0, .int .i64 x5r_1, .string s5r_2, .slice A5r_3 n5r_3 c5r_3, .slice A5r_4 n5r_4 c5r_4]]) w10) → K w9) :
    ST w' (⟨k4, 0, none⟩ : Addr) 0 [.slice A n c, .int .i64 M.n.next, .slice B nb cb, .slice E ne ce, .int .i64 M.next] K :=
  h.finM h.md h.gd a h1 h2 hG1 hK
/-- with an answer that lists nothing -/
theorem Cx.fin0 (h : Cx w F b k2 k3 k4 k5 oc w' G M A n c B nb cb E ne ce) (e x : Int) (t : Str) {M' : Md} {a : Ans} (hM : M' = M) (ha : a = ⟨e, x, t, [], []⟩) {K : World → Prop}
    (hK : ∀ w9, Keep (fun j => j = k4) w' w9 → (ST w9 (⟨k5, 0, none⟩ : Addr) 0 [.int .i64 e, .int .i64 x, .string (bs t), .slice none 0 0, .slice none 0 0] fun w10 =>
      ∃ (A4r_0 : Option Addr) (n4r_0 : Nat) (c4r_0 : Nat) (x4r_1 : Int) (A4r_2 : Option Addr) (n4r_2 : Nat) (c4r_2 : Nat) (A4r_3 : Option Addr) (n4r_3 : Nat) (c4r_3 : Nat) (x4r_4 : Int), RD w10 (⟨k4, 0, none⟩ : Addr) 0 [.slice A4r_0 n4r_0 c4r_0, .int .i64 x4r_1, .slice A4r_2 n4r_2 c4r_2, .slice A4r_3 n4r_3 c4r_3, .int .i64 x4r_4] ∧
      ∃ (x5r_0 : Int) (x5r_1 : Int) (s5r_2 : ByteArray) (A5r_3 : Option Addr) (n5r_3 : Nat) (c5r_3 : Nat) (A5r_4 : Option Addr) (n5r_4 : Nat) (c5r_4 : Nat), RD w10 (⟨k5, 0, none⟩ : Addr) 0 [.int .i64 x5r_0, .int .i64 x5r_1, .string s5r_2, .slice A5r_3 n5r_3 c5r_3, .slice A5r_4 n5r_4 c5r_4] ∧
      Done19 w F M' a (.tuple #[.agg #[.slice A4r_0 n4r_0 c4r_0, .int .i64 x4r_1, .slice A4r_2 n4r_2 c4r_2, .slice A4r_3 n4r_3 c4r_3, .int .i64 x4r_4], .agg #[.int .i64 x5r_0, .int .i64 x5r_1, .string s5r_2, .slice A5r_3 n5r_3 c5r_3, .slice A5r_4 n5r_4 c5r_4]]) w10) → K w9) :
    ST w' (⟨k4, 0, none⟩ : Addr) 0 [.slice A n c, .int .i64 M.n.next, .slice B nb cb, .slice E ne ce, .int .i64 M.next] K := by
  subst hM ha
  exact h.fin ⟨e, x, t, [], []⟩ (G1 := No) (Sl.nil _ _ _ _ _) (Sl.nil _ _ _ _ _) (fun j hj => False.elim hj) hK
/-- with an answer that lists nothing -/
theorem Cx.finM0 {G0 : Nat → Prop} {M0 : Md} {A0 : Option Addr} {n0 c0 : Nat} {B0 : Option Addr} {nb0 cb0 : Nat} {E0 : Option Addr} {ne0 ce0 : Nat} (h : Cx w F b k2 k3 k4 k5 oc w' G0 M0 A0 n0 c0 B0 nb0 cb0 E0 ne0 ce0) (md : RMd w' G M A n c B nb cb E ne ce) (gd : ∀ j, G j → F j ∨ b ≤ j) (e x : Int) (t : Str) {M' : Md} {a : Ans} (hM : M' = M) (ha : a = ⟨e, x, t, [], []⟩) {K : World → Prop}
    (hK : ∀ w9, Keep (fun j => j = k4) w' w9 → (ST w9 (⟨k5, 0, none⟩ : Addr) 0 [.int .i64 e, .int .i64 x, .string (bs t), .slice none 0 0, .slice none 0 0] fun w10 =>
      ∃ (A4r_0 : Option Addr) (n4r_0 : Nat) (c4r_0 : Nat) (x4r_1 : Int) (A4r_2 : Option Addr) (n4r_2 : Nat) (c4r_2 : Nat) (A4r_3 : Option Addr) (n4r_3 : Nat) (c4r_3 : Nat) (x4r_4 : Int), RD w10 (⟨k4, 0, none⟩ : Addr) 0 [.slice A4r_0 n4r_0 c4r_0, .int .i64 x4r_1, .slice A4r_2 n4r_2 c4r_2, .slice A4r_3 n4r_3 c4r_3, .int .i64 x4r_4] ∧
      ∃ (x5r_0 : Int) (x5r_1 : Int) (s5r_2 : ByteArray) (A5r_3 : Option Addr) (n5r_3 : Nat) (c5r_3 : Nat) (A5r_4 : Option Addr) (n5r_4 : Nat) (c5r_4 : Nat), RD w10 (⟨k5, 0, none⟩ : Addr) 0 [.int .i64 x5r_0, .int .i64 x5r_1, .string s5r_2, .slice A5r_3 n5r_3 c5r_3, .slice A5r_4 n5r_4 c5r_4] ∧
      Done19 w F M' a (.tuple #[.agg #[.slice A4r_0 n4r_0 c4r_0, .int .i64 x4r_1, .slice A4r_2 n4r_2 c4r_2, .slice A4r_3 n4r_3 c4r_3, .int .i64 x4r_4], .agg #[.int .i64 x5r_0, .int .i64 x5r_1, .string s5r_2, .slice A5r_3 n5r_3 c5r_3, .slice A5r_4 n5r_4 c5r_4]]) w10) → K w9) :
    ST w' (⟨k4, 0, none⟩ : Addr) 0 [.slice A n c, .int .i64 M.n.next, .slice B nb cb, .slice E ne ce, .int .i64 M.next] K := by
  subst hM ha
  exact h.finM md gd ⟨e, x, t, [], []⟩ (G1 := No) (Sl.nil _ _ _ _ _) (Sl.nil _ _ _ _ _) (fun j hj => False.elim hj) hK
theorem RMd.mono {w : World} {G G' : Nat → Prop} {M : Md} {A : Option Addr} {n c : Nat} {B : Option Addr} {nb cb : Nat} {E : Option Addr} {ne ce : Nat} (h : RMd w G M A n c B nb cb E ne ce) (hG : ∀ j, G j → G' j) (hl : ∀ j, G' j → j < w.heap.size) : RMd w G' M A n c B nb cb E ne ce :=
  ⟨h.nm.mono hG, h.bx.mono hG, h.ml.mono hG, hl⟩
theorem Cx.mono {G' : Nat → Prop} (h : Cx w F b k2 k3 k4 k5 oc w' G M A n c B nb cb E ne ce) (hG : ∀ j, G j → G' j) (hl : ∀ j, G' j → j < w'.heap.size) (hd : ∀ j, G' j → F j ∨ b ≤ j) : Cx w F b k2 k3 k4 k5 oc w' G' M A n c B nb cb E ne ce :=
  { h with md := h.md.mono hG hl, gd := hd }
/-- a mailbox of the row, wherever its row is kept -/
theorem Sl.bxk {w : World} {F : Nat → Prop} {A : Option Addr} {n c : Nat} {xs : List Bx} (h : Sl Lbx w F A n c xs) {i : Nat} (hi : i < n) :
    ∃ a x A' n' c', A = some a ∧ xs[i]? = some x ∧ (∀ w' : World, (∀ j, F j → j < w.heap.size → w'.heap[j]? = w.heap[j]?) → RD w' (a.add (i * 3)) 0 [.int .i64 x.validity, .int .i64 x.next, .slice A' n' c']) ∧ Sl Lent w F A' n' c' x.l := by
  rcases h.row with h0 | ⟨b, off, l, t, fr, h1, h2, h3, h4, h5⟩
  · omega
  · have hix : i < xs.length := by rw [h.len]; exact hi
    obtain ⟨cs, h6, A', n', c', rfl, h8⟩ := h5 i _ (List.getElem?_eq_getElem hix)
    refine ⟨_, _, A', n', c', h1, List.getElem?_eq_getElem hix, fun w' hk => ?_, h8⟩
    rw [add_off]
    have h3' : At w' b (.cells ⟨l⟩ t fr) := (hk b h2 h3.lt).trans h3
    refine RD.pre (r := (l.drop (off + i * 3)).drop 3) h3' ?_
    rw [← h6]
    exact (List.take_append_drop _ _).symm
end
end Go.SW
