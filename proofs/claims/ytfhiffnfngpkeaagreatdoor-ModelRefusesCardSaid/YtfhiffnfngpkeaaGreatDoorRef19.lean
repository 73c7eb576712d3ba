/- The document's store: how it lies; New, Find, Text, set, sweep. -/
import Derived.Test.YtfhiffnfngpkeaaGreatDoorRef17
import Derived.Test.YtfhiffnfngpkeaaGreatDoorRef18
import Derived.Test.YtfhiffnfngpkeaaGreatDoorSRefs
import Derived.Test.YtfhiffnfngpkeaaGreatDoorModel7
set_option linter.unusedVariables false
namespace Go.SW
open Go Go.Proofs Pl

/-- a mailbox in three cells; its entries lie behind -/
def Lbx : Ly Bx where
  sz := 3
  rel := fun w F x cs => ∃ A n c, cs = [.int .i64 x.validity, .int .i64 x.next, .slice A n c] ∧ Sl Lent w F A n c x.l
  len := by rintro w F x cs ⟨A, n, c, rfl, _⟩; rfl
  flat := by
    rintro w F x cs ⟨A, n, c, rfl, _⟩ v hv
    exact List.all_eq_true.1 (show ([.int .i64 x.validity, .int .i64 x.next, .slice A n c] : List Value).all Go.SW.flat = true from rfl) v hv
  keep := by rintro w w' F x cs ⟨A, n, c, rfl, h⟩ hk; exact ⟨A, n, c, rfl, h.keep hk⟩
  mono := by rintro w F G x cs ⟨A, n, c, rfl, h⟩ hk; exact ⟨A, n, c, rfl, h.mono hk⟩
def Lml : Ly (Int × Str) := .of 2 (fun p => [.int .i64 p.1, .string (bs p.2)]) (fun _ => rfl) (fun _ => rfl)
theorem Lml_plain : Lml.Plain := fun _ _ _ _ _ _ h => h
theorem T108 : ElemTy Lbx 66 108 40 := ⟨by kernel_rfl, ⟨tinfo 108, (tinfo 108).zero.getD .nilIface, by kernel_rfl, by kernel_rfl, by kernel_rfl, by kernel_rfl, by kernel_rfl⟩, by omega, by show 0 < 3; omega⟩
theorem T123 : ElemTy Lml 67 123 24 := ⟨by kernel_rfl, ⟨tinfo 123, (tinfo 123).zero.getD .nilIface, by kernel_rfl, by kernel_rfl, by kernel_rfl, by kernel_rfl, by kernel_rfl⟩, by omega, by show 0 < 2; omega⟩
theorem Sl.bx {w : World} {F : Nat → Prop} {A : Option Addr} {n c : Nat} {xs : List Bx} (h : Sl Lbx w F A n c xs) {i : Nat} (hi : i < n) :
    ∃ a x A' n' c', A = some a ∧ xs[i]? = some x ∧ RD w (a.add (i * 3)) 0 [.int .i64 x.validity, .int .i64 x.next, .slice A' n' c'] ∧ Sl Lent w F A' n' c' x.l := by
  obtain ⟨a, cs, x, h1, h2, ⟨A', n', c', rfl, h5⟩, h4⟩ := h.get hi
  exact ⟨a, x, A', n', c', h1, h2, h4, h5⟩
theorem Sl.ml {w : World} {F : Nat → Prop} {A : Option Addr} {n c : Nat} {xs : List (Int × Str)} (h : Sl Lml w F A n c xs) {i : Nat} (hi : i < n) :
    ∃ a p, A = some a ∧ xs[i]? = some p ∧ RD w (a.add (i * 2)) 0 [.int .i64 p.1, .string (bs p.2)] := by
  obtain ⟨a, cs, p, h1, h2, h3, h4⟩ := h.get hi
  cases h3
  exact ⟨a, p, h1, h2, h4⟩

/-- the document's store in its five cells -/
structure RMd (w : World) (F : Nat → Prop) (M : Md) (A : Option Addr) (n c : Nat) (B : Option Addr) (nb cb : Nat) (E : Option Addr) (ne ce : Nat) : Prop where
  nm : Sl Lnm w F A n c M.n.l
  bx : Sl Lbx w F B nb cb M.b
  ml : Sl Lml w F E ne ce M.mails
  lt : ∀ j, F j → j < w.heap.size
section
variable {w w' : World} {F G : Nat → Prop} {M : Md} {A : Option Addr} {n c : Nat} {B : Option Addr} {nb cb : Nat} {E : Option Addr} {ne ce : Nat}
theorem RMd.no (h : RMd w F M A n c B nb cb E ne ce) (hk : Keep No w w') : RMd w' F M A n c B nb cb E ne ce := ⟨h.nm.no hk, h.bx.no hk, h.ml.no hk, fun j hj => Nat.lt_of_lt_of_le (h.lt j hj) hk.size⟩
theorem RMd.gn (h : RMd w F M A n c B nb cb E ne ce) (hk : Keep No w w') : RMd w' (Gn F w w') M A n c B nb cb E ne ce :=
  ⟨(h.nm.no hk).mono fun j hj => .inl hj, (h.bx.no hk).mono fun j hj => .inl hj, (h.ml.no hk).mono fun j hj => .inl hj, fun j hj => hj.elim (fun h' => Nat.lt_of_lt_of_le (h.lt j h') hk.size) (fun h' => h'.2)⟩

theorem ref_new19 (w : World) : Calls PP 25 #[] w (Ret fun r w' => r = .agg #[.slice none 0 0, .int .i64 1, .slice none 0 0, .slice none 0 0, .int .i64 1] ∧ Keep No w w') := by
  refine c25 ?_
  unfold S25
  refine NEW.i fun k0 w1 hk0 hs1 q1 a1 => CALL.i (ref_new17 w1) (by kernel_rfl) ?_
  rintro r w2 ⟨rfl, q2⟩
  have := q2.size
  exact ⟨_, _, _, _, rfl, ST.i (a1.no q2) (by simp) rfl fun w3 hs3 q3 a3 => ⟨_, _, _, _, _, _, _, _, _, _, _, RD.i a3, rfl, (q1.trans q2).tmp q3 (by omega)⟩⟩
theorem rmd_new (w : World) (F : Nat → Prop) (hF : ∀ j, F j → j < w.heap.size) : RMd w F .new none 0 0 none 0 0 none 0 0 := ⟨Sl.nil _ _ _ _ _, Sl.nil _ _ _ _ _, Sl.nil _ _ _ _ _, hF⟩

/-- the place of a mailbox -/
def findI (M : Md) (s : Str) : Int := idx (fun b : Bx => decide (b.validity = (ofN M.n s).getD 0)) M.b
theorem findI_cases (hok : NamesOk M) (hv : ∀ x ∈ M.b, 1 ≤ x.validity) (s : Str) : (findI M s < 0 ∧ find M s = none) ∨ ∃ (i : Nat) (x : Bx), findI M s = i ∧ M.b[i]? = some x ∧ find M s = some x := by
  unfold findI
  cases ho : ofN M.n s with
  | none =>
    left
    have hf : find M s = none := by unfold find; rw [ho]
    refine ⟨?_, hf⟩
    rw [idx_none]
    · decide
    · intro j y hy
      have := hv y (List.mem_of_getElem? hy)
      rw [decide_eq_false_iff_not]
      show ¬ y.validity = 0
      omega
  | some id =>
    have hf : find M s = boxOf M id := by unfold find; rw [ho]
    have hsome := hok s id ho
    rcases idx_lt (p := fun b : Bx => decide (b.validity = id)) (xs := M.b) with ⟨h1, h2⟩ | ⟨i, x, h1, h2, h3, h4, h5, h6⟩
    · unfold boxOf at hsome
      rw [h2] at hsome
      cases hsome
    · right
      exact ⟨i, x, h1, h3, hf.trans h5⟩

theorem ref_find (h : RMd w F M A n c B nb cb E ne ce) (hn : n < 1000000000) (hb : nb < 1000000000) (s : Str) :
    Calls PP 49 #[.agg #[.slice A n c, .int .i64 M.n.next, .slice B nb cb, .slice E ne ce, .int .i64 M.next], .string (bs s)] w (Ret fun r w' => r = .int .i64 (findI M s) ∧ Keep No w w') := by
  refine c49 ?_
  unfold S49
  have hlen := h.bx.len
  refine NEW.i fun k2 w1 hk2 hs1 q1 a1 => ⟨_, _, _, _, RD.pre (off := 0) a1 rfl, CALL.i (ref_of17 (h.nm.no q1) hn s) (by kernel_rfl) ?_⟩
  rintro r w2 ⟨rfl, q2⟩
  have z2 := q1.trans q2
  refine ⟨_, rfl, _, _, _, cell_at (a1.no q2) rfl, ?_⟩
  refine ⟨fun x w3 => ∃ i : Nat, x = i ∧ i ≤ nb ∧ Keep No w w3 ∧ ∀ (j : Nat) (y : Bx), j < i → M.b[j]? = some y → decide (y.validity = (ofN M.n s).getD 0) = false, fun x _ => ((nb : Int) - x).toNat, ⟨0, rfl, Nat.zero_le _, z2, by intro j y hj; omega⟩, ?_⟩
  rintro _ x w3 ⟨i, rfl, hi, q3, hall⟩
  refine split_dec (fun hlt => ?_) (fun hge => ?_)
  · have hlt' : i < nb := by omega
    refine ⟨⟨by omega, hlt⟩, ?_⟩
    obtain ⟨a, x, A', n', c', hA, hx, hr, _⟩ := (h.bx.no q3).bx hlt'
    refine SOMEA.i hA ⟨_, _, _, _, _, by rw [Int.toNat_natCast]; exact hr, ?_⟩
    refine NEW.i fun k7 w4 hk7 hs4 q4 a4 => ST.i a4 (by simp) rfl fun w5 hs5 q5 a5 => ⟨_, cell_at a5 rfl, ?_⟩
    have z5 : Keep No w w5 := (q3.trans q4).tmp q5 (by have := q3.size; omega)
    have hofe : (ofN ⟨M.n.l, M.n.next⟩ s) = ofN M.n s := rfl
    rw [hofe]
    refine split_i (fun he => ⟨?_, z5⟩) (fun he => ⟨⟨i + 1, wrapS (by omega), hlt', z5, ?_⟩, mu_go (wrapS (by omega)) hlt'⟩)
    · unfold findI
      rw [idx_at hx (by simpa using he) hall]
    · intro j y hj hy
      by_cases hji : j = i
      · subst hji
        rw [hx] at hy
        cases hy
        simpa using he
      · exact hall j y (by omega) hy
  · refine ⟨?_, q3⟩
    unfold findI
    rw [idx_none]
    intro j y hy
    have hjl := (List.getElem?_eq_some_iff.1 hy).1
    exact hall j y (by omega) hy

theorem ref_text (h : RMd w F M A n c B nb cb E ne ce) (hb : ne < 1000000000) (id : Int) :
    Calls PP 59 #[.agg #[.slice A n c, .int .i64 M.n.next, .slice B nb cb, .slice E ne ce, .int .i64 M.next], .int .i64 id] w (Ret fun r w' => r = .tuple #[.string (bs ((mailOf M id).getD [])), .bool (mailOf M id).isSome] ∧ Keep No w w') := by
  refine c59 ?_
  unfold S59
  have hlen := h.ml.len
  refine NEW.i fun k2 w1 hk2 hs1 q1 a1 => ⟨_, _, _, cell_at a1 rfl, ?_⟩
  refine ⟨fun x w3 => ∃ i : Nat, x = i ∧ i ≤ ne ∧ Keep No w w3 ∧ ∀ p ∈ M.mails.take i, ¬ p.1 = id, fun x _ => ((ne : Int) - x).toNat, ⟨0, rfl, Nat.zero_le _, q1, by simp⟩, ?_⟩
  rintro _ x w3 ⟨i, rfl, hi, q3, hall⟩
  refine split_dec (fun hlt => ?_) (fun hge => ?_)
  · have hlt' : i < ne := by omega
    refine ⟨⟨by omega, hlt⟩, ?_⟩
    obtain ⟨a, p, hA, hp, hr⟩ := (h.ml.no q3).ml hlt'
    refine SOMEA.i hA ⟨_, _, by rw [Int.toNat_natCast]; exact hr, ?_⟩
    refine NEW.i fun k7 w4 hk7 hs4 q4 a4 => ST.i a4 (by simp) rfl fun w5 hs5 q5 a5 => ⟨_, cell_at a5 rfl, ?_⟩
    have z5 : Keep No w w5 := (q3.trans q4).tmp q5 (by have := q3.size; omega)
    refine split_i (fun he => ?_) (fun he => ⟨⟨i + 1, wrapS (by omega), hlt', z5, ?_⟩, mu_go (wrapS (by omega)) hlt'⟩)
    · refine ⟨_, cell_at a5 rfl, ?_, z5⟩
      have hf : M.mails.find? (fun q => decide (q.1 = id)) = some p := by
        rw [List.find?_eq_some_iff_getElem]
        refine ⟨by simpa using he, i, (List.getElem?_eq_some_iff.1 hp).1, (List.getElem?_eq_some_iff.1 hp).2, fun j hj => ?_⟩
        have hjl : j < M.mails.length := by omega
        have := hall M.mails[j] (List.mem_iff_getElem?.2 ⟨j, by rw [List.getElem?_take, if_pos hj, List.getElem?_eq_getElem hjl]⟩)
        simpa using this
      unfold mailOf
      rw [hf]
      rfl
    · rw [take_succ_some hp]
      intro q hq
      rcases List.mem_append.1 hq with hq | hq
      · exact hall q hq
      · rw [List.mem_singleton.1 hq]
        simpa using he
  · have hie : i = M.mails.length := by omega
    rw [hie, List.take_length] at hall
    have hf : M.mails.find? (fun q => decide (q.1 = id)) = none := by
      rw [List.find?_eq_none]
      intro q hq
      simpa using hall q hq
    refine ⟨?_, q3⟩
    unfold mailOf
    rw [hf]
    rfl

/-- one mailbox is another one -/
theorem ref_set19 (h : RMd w F M A n c B nb cb E ne ce) (hb : nb < 1000000000) {i : Nat} (hi : i < nb) {y : Bx} {Y : Option Addr} {ny cy : Nat} (hy : Sl Lent w F Y ny cy y.l) :
    Calls PP 57 #[.agg #[.slice A n c, .int .i64 M.n.next, .slice B nb cb, .slice E ne ce, .int .i64 M.next], .int .i64 (i : Int), .agg #[.int .i64 y.validity, .int .i64 y.next, .slice Y ny cy]] w
      (Ret fun r w' => ∃ B' cb', r = .agg #[.slice A n c, .int .i64 M.n.next, .slice B' nb cb', .slice E ne ce, .int .i64 M.next] ∧ Keep No w w' ∧ RMd w' (Gn F w w') { M with b := M.b.set i y } A n c B' nb cb' E ne ce) := by
  refine c57 ?_
  unfold S57
  have hlen := h.bx.len
  refine NEW.i fun k3 w1 hk3 hs1 q1 a1 => NEW.i fun k5 w2 hk5 hs2 q2 a2 => NEW.i fun k6 w3 hk6 hs3 q3 a3 => NEW.i fun k8 w4 hk8 hs4 q4 a4 => ?_
  have z3 := (q1.trans q2).trans q3
  have hz3 := z3.size
  have b3 := ((a1.no q2).no q3).no q4
  have b5 := (a2.no q3).no q4
  have b6 := a3.no q4
  refine ⟨_, _, _, cell_at b3 rfl, ?_⟩
  have g4 : Og Lbx 108 F w3 w4 (some ⟨k8, 0, none⟩) 0 0 ([] : List Bx) := Og.nil (l := []) q4 a4 (by omega) (fun j hj => by have := h.lt j hj; omega)
  refine g4.more T108 ((h.bx.no z3).no q4) (by omega) fun A' c' w5 q5 g5 hb5 => ⟨_, _, _, rfl, ?_⟩
  rw [Nat.zero_add, List.nil_append] at g5
  rw [Nat.zero_add]
  have nk : ∀ k, k ≠ k8 → ¬ ownBlk (some (⟨k8, 0, none⟩ : Addr)) k := fun k hk hc => hk hc
  have c3 := b3.own_ q5 (nk _ (by omega))
  have c5 := b5.own_ q5 (nk _ (by omega))
  have c6 := b6.own_ q5 (nk _ (by omega))
  refine ⟨_, _, _, _, _, RD.i c5, ⟨by omega, by omega⟩, ?_⟩
  rw [Int.toNat_natCast]
  obtain ⟨a, hA, hst⟩ := g5.own.st (i := i) (x := y) (cs := [.int .i64 y.validity, .int .i64 y.next, .slice Y ny cy]) hi
    (fun w' hk => ⟨Y, ny, cy, rfl, ((hy.no (z3.trans g5.keep)).kept hk fun j hj _ hc => by have := h.lt j hj; have := g5.new j hc; omega)⟩)
    (K := fun w6 => ST w6 (⟨k3, 2, none⟩ : Addr) 0 [(.slice A' nb c')] fun w7 =>
      ∃ (A18_0 : Option Addr) (n18_0 : Nat) (c18_0 : Nat) (x18_1 : Int) (A18_2 : Option Addr) (n18_2 : Nat) (c18_2 : Nat) (A18_3 : Option Addr) (n18_3 : Nat) (c18_3 : Nat) (x18_4 : Int), RD w7 (⟨k3, 0, none⟩ : Addr) 0 [(.slice A18_0 n18_0 c18_0), .int .i64 x18_1, (.slice A18_2 n18_2 c18_2), (.slice A18_3 n18_3 c18_3), .int .i64 x18_4] ∧
      ST w7 (⟨k6, 0, none⟩ : Addr) 0 [(.slice A18_0 n18_0 c18_0), .int .i64 x18_1, (.slice A18_2 n18_2 c18_2), (.slice A18_3 n18_3 c18_3), .int .i64 x18_4] fun w8 =>
      ∃ (A6r_0 : Option Addr) (n6r_0 : Nat) (c6r_0 : Nat) (x6r_1 : Int) (A6r_2 : Option Addr) (n6r_2 : Nat) (c6r_2 : Nat) (A6r_3 : Option Addr) (n6r_3 : Nat) (c6r_3 : Nat) (x6r_4 : Int), RD w8 (⟨k6, 0, none⟩ : Addr) 0 [(.slice A6r_0 n6r_0 c6r_0), .int .i64 x6r_1, (.slice A6r_2 n6r_2 c6r_2), (.slice A6r_3 n6r_3 c6r_3), .int .i64 x6r_4] ∧
      ∃ B' cb', (.agg #[(.slice A6r_0 n6r_0 c6r_0), .int .i64 x6r_1, (.slice A6r_2 n6r_2 c6r_2), (.slice A6r_3 n6r_3 c6r_3), .int .i64 x6r_4] : Value) = .agg #[.slice A n c, .int .i64 M.n.next, .slice B' nb cb', .slice E ne ce, .int .i64 M.next] ∧ Keep No w w8 ∧ RMd w8 (Gn F w w8) { M with b := M.b.set i y } A n c B' nb cb' E ne ce)
    (by
      intro w6 hs6 q6 o6
      have hn5 : ∀ k, k < w3.heap.size → ¬ ownBlk A' k := fun k hk hc => by have := g5.new k hc; omega
      have d3 := c3.own_ q6 (hn5 _ (by omega))
      have d6 := c6.own_ q6 (hn5 _ (by omega))
      refine ST.i d3 (by simp) rfl fun w7 hs7 q7 a7 => ⟨_, _, _, _, _, _, _, _, _, _, _, RD.i a7, ST.i (d6.oth q7 (by omega)) (by simp) rfl fun w8 hs8 q8 a8 => ?_⟩
      have hg5 := g5.keep.size
      have z8 : Keep No w w8 := ((((z3.trans g5.keep).fresh q6 (fun j hj => by have := g5.new j hj; omega)).tmp q7 (by omega)).tmp q8 (by omega))
      refine ⟨_, _, _, _, _, _, _, _, _, _, _, RD.i a8, A', c', rfl, z8, ?_⟩
      have hs := z8.size
      have hin : ∀ j, F j ∨ ownBlk A' j → j ≠ k3 ∧ j ≠ k6 ∧ Gn F w w8 j := fun j hj => by
        rcases hj with hj | hj
        · have := h.lt j hj; exact ⟨by omega, by omega, .inl hj⟩
        · have := g5.new j hj; have := o6.lt j hj; exact ⟨by omega, by omega, .inr ⟨by omega, by omega⟩⟩
      refine ⟨(h.nm.no z8).mono fun j hj => .inl hj, ?_, (h.ml.no z8).mono fun j hj => .inl hj, fun j hj => hj.elim (fun h' => by have := h.lt j h'; omega) (fun h' => h'.2)⟩
      exact ((o6.sl.kept q7 fun j hj _ he => (hin j hj).1 he).kept q8 fun j hj _ he => (hin j hj).2.1 he).mono fun j hj => (hin j hj).2.2)
  exact SOMEA.i hA hst

/-- mails of which no entry is go -/
theorem ref_sweep (h : RMd w F M A n c B nb cb E ne ce) (hb : nb < 1000000000) (he : ne < 1000000000) (hl : ∀ x ∈ M.b, x.l.length < 1000000000) :
    Calls PP 51 #[.agg #[.slice A n c, .int .i64 M.n.next, .slice B nb cb, .slice E ne ce, .int .i64 M.next]] w
      (Ret fun r w' => ∃ E' ne' ce', r = .agg #[.slice A n c, .int .i64 M.n.next, .slice B nb cb, .slice E' ne' ce', .int .i64 M.next] ∧ Keep No w w' ∧ RMd w' (Gn F w w') (sweep M) A n c B nb cb E' ne' ce') := by
  refine c51 ?_
  unfold S51
  have hlb := h.bx.len
  have hle := h.ml.len
  refine NEW.i fun k1 w1 hk1 hs1 q1 a1 => NEW.i fun k2 w2 hk2 hs2 q2 a2 => NEW.i fun k11 w3 hk11 hs3 q3 a3 => ?_
  have b1 := a1.no q2
  have z2 := q1.trans q2
  have hz2 := z2.size
  refine ⟨_, _, _, cell_at (b1.no q3) rfl, ?_⟩
  refine ⟨fun A3 n3 c3 x15 w4 => ∃ i : Nat, x15 = i ∧ i ≤ ne ∧ Og Lml 123 No w2 w4 A3 n3 c3 ((M.mails.take i).filter fun p => used M p.1), fun _ _ _ x15 _ => ((ne : Int) - x15).toNat,
    ⟨0, rfl, Nat.zero_le _, Og.nil (l := []) q3 a3 (by omega) (fun j h => False.elim h)⟩, ?_⟩
  rintro _ A3 n3 c3 x15 w4 ⟨i, rfl, hi, g4⟩
  have hn3 := g4.own.len
  have hfl := List.length_filter_le (fun p : Int × Str => used M p.1) (M.mails.take i)
  simp only [List.length_take] at hfl
  have hg4 := g4.keep.size
  refine split_dec (fun hlt => ?_) (fun hge => ?_)
  · have hlt' : i < ne := by omega
    refine ⟨fun A' n' c' w5 => Og Lml 123 No w2 w5 A' n' c' ((M.mails.take (i + 1)).filter fun p => used M p.1), ⟨⟨by omega, hlt⟩, ?_⟩, ?_⟩
    · obtain ⟨a, p, hA, hp, hr⟩ := ((h.ml.no z2).no g4.keep).ml hlt'
      refine SOMEA.i hA ⟨_, _, by rw [Int.toNat_natCast]; exact hr, ?_⟩
      refine NEW.i fun k5 w5 hk5 hs5 q5 a5 => ST.i a5 (by simp) rfl fun w6 hs6 q6 a6 => ?_
      have g6 := (g4.no q5).st q6 (by omega) (g4.fresh (by omega))
      refine ⟨_, _, _, cell_at (b1.no g6.keep) rfl, ?_⟩
      refine ⟨fun b6 x22 w7 => ∃ k : Nat, x22 = k ∧ k ≤ nb ∧ Keep No w6 w7 ∧ b6 = (M.b.take k).any (fun b => b.l.any fun e => e.mail == p.1), fun _ x22 _ => ((nb : Int) - x22).toNat, ⟨0, rfl, Nat.zero_le _, Keep.refl _ _, rfl⟩, ?_⟩
      rintro _ b6 x22 w7 ⟨k, rfl, hk, q7, rfl⟩
      refine split_dec (fun hltk => ?_) (fun hgek => ?_)
      · have hltk' : k < nb := by omega
        refine ⟨⟨by omega, hltk⟩, ?_⟩
        obtain ⟨a2, y, Y, ny, cy, hA2, hy, hr2, hsy⟩ := (((h.bx.no z2).no g6.keep).no q7).bx hltk'
        refine SOMEA.i hA2 ⟨_, _, _, _, _, by rw [Int.toNat_natCast]; exact hr2, ?_⟩
        have hly := hsy.len
        have hll := hl y (List.mem_of_getElem? hy)
        refine NEW.i fun k8 w8 hk8 hs8 q8 a8 => ST.i a8 (by simp) rfl fun w9 hs9 q9 a9 => ?_
        have hq7 := q7.size
        have z9 : Keep No w6 w9 := (q7.trans q8).tmp q9 (by omega)
        have z79 : Keep No w7 w9 := q8.tmp q9 (by omega)
        refine ⟨_, _, _, cell_at a9 rfl, ?_⟩
        refine ⟨fun b x29 w10 => ∃ m : Nat, x29 = m ∧ m ≤ ny ∧ Keep No w9 w10 ∧ b = ((M.b.take k).any (fun b => b.l.any fun e => e.mail == p.1) || (y.l.take m).any fun e => e.mail == p.1), fun _ x29 _ => ((ny : Int) - x29).toNat, ⟨0, rfl, Nat.zero_le _, Keep.refl _ _, by simp⟩, ?_⟩
        rintro _ b x29 w10 ⟨m, rfl, hm, q10, rfl⟩
        refine split_dec (fun hltm => ?_) (fun hgem => ?_)
        · have hltm' : m < ny := by omega
          refine ⟨fun b w11 => Keep No w9 w11 ∧ b = ((M.b.take k).any (fun b => b.l.any fun e => e.mail == p.1) || (y.l.take (m + 1)).any fun e => e.mail == p.1), ⟨⟨by omega, hltm⟩, ?_⟩, ?_⟩
          · obtain ⟨a4, e, hA4, hee, hr4⟩ := ((hsy.no z79).no q10).ent hltm'
            refine SOMEA.i hA4 ⟨_, _, _, by rw [Int.toNat_natCast]; exact hr4, ?_⟩
            refine NEW.i fun k10 w11 hk10 hs11 q11 a11 => ST.i a11 (by simp) rfl fun w12 hs12 q12 a12 => ?_
            have z12 : Keep No w9 w12 := (q10.trans q11).tmp q12 (by have := q10.size; omega)
            rw [take_succ_some hee, List.any_append]
            refine split_i (fun hbt => ⟨z12, ?_⟩) (fun hbf => ⟨_, cell_at a12 rfl, _, cell_at ((a6.no z9).no z12) rfl, z12, ?_⟩)
            · rw [← Bool.or_assoc, hbt]; rfl
            · rw [← Bool.or_assoc, hbf]; simp
          · rintro _ b w11 ⟨q11, rfl⟩
            exact ⟨⟨m + 1, wrapS (by omega), hltm', q11, rfl⟩, mu_go (wrapS (by omega)) hltm'⟩
        · have hme : m = y.l.length := by omega
          rw [hme, List.take_length]
          refine ⟨⟨k + 1, wrapS (by omega), hltk', z9.trans q10, ?_⟩, mu_go (wrapS (by omega)) hltk'⟩
          rw [take_succ_some hy, List.any_append]
          simp
      · have hke : k = M.b.length := by omega
        rw [hke, List.take_length]
        have hus : (M.b.any fun b => b.l.any fun e => e.mail == p.1) = used M p.1 := rfl
        rw [hus, take_succ_some hp, List.filter_append]
        have g7 := g6.no q7
        refine split_i (fun hu => ?_) (fun hu => ?_)
        · refine ⟨_, _, RD.i (a6.no q7), NEW.i fun k46 w8 hk46 hs8 q8 a8 => ?_⟩
          refine (g7.no q8).one T123 a8 (x := p) rfl (by omega) fun A' c' w9 q9 g9 hb9 => ⟨_, _, _, rfl, ?_⟩
          rw [List.filter_cons_of_pos (p := fun p : Int × Str => used M p.1) hu]
          exact g9
        · rw [List.filter_cons_of_neg (p := fun p : Int × Str => used M p.1) (by rw [hu]; simp), List.filter_nil, List.append_nil]
          exact g7
    · rintro _ A' n' c' w5 g5
      exact ⟨⟨i + 1, wrapS (by omega), hlt', g5⟩, mu_go (wrapS (by omega)) hlt'⟩
  · have hie : i = M.mails.length := by omega
    rw [hie, List.take_length] at g4
    refine ST.i (b1.no g4.keep) (by simp) rfl fun w5 hs5 q5 a5 => ⟨_, _, _, _, _, _, _, _, _, _, _, RD.i a5, ST.i ((a2.no g4.keep).oth q5 (by omega)) (by simp) rfl fun w6 hs6 q6 a6 => ?_⟩
    have z6 : Keep No w w6 := ((z2.trans g4.keep).tmp q5 (by omega)).tmp q6 (by omega)
    have ne' : ∀ k, k < w2.heap.size → ∀ j, Gn No w2 w4 j → ¬ j = k := fun k hk j hj he => by
      rcases hj with hj | hj
      · exact hj
      · omega
    refine ⟨_, _, _, _, _, _, _, _, _, _, _, RD.i a6, A3, n3, c3, rfl, z6, ?_⟩
    refine ⟨(h.nm.no z6).mono fun j hj => .inl hj, (h.bx.no z6).mono fun j hj => .inl hj, ?_, fun j hj => hj.elim (fun h' => by have := h.lt j h'; omega) (fun h' => h'.2)⟩
    refine ((g4.gn.kept q5 (fun j hj _ => ne' _ (by omega) j hj)).kept q6 (fun j hj _ => ne' _ (by omega) j hj)).mono fun j hj => ?_
    rcases hj with hj | hj
    · exact False.elim hj
    · exact .inr ⟨by omega, by omega⟩
end
end Go.SW
set_option linter.unusedVariables false
namespace Go.SW
open Go Go.Proofs Pl

theorem T131 : ElemTy Lhit 71 131 32 := ⟨by kernel_rfl, ⟨tinfo 131, (tinfo 131).zero.getD .nilIface, by kernel_rfl, by kernel_rfl, by kernel_rfl, by kernel_rfl, by kernel_rfl⟩, by omega, by show 0 < 3; omega⟩
/-- an answer of the document's -/
def IsAnsR (w : World) (G : Nat → Prop) (a : Ans) (r : Value) : Prop :=
  ∃ A1 n1 c1 A2 n2 c2, r = .agg #[.int .i64 a.err, .int .i64 a.n, .string (bs a.text), .slice A1 n1 c1, .slice A2 n2 c2] ∧ Sl Lst w G A1 n1 c1 a.names ∧ Sl Lhit w G A2 n2 c2 a.hits
theorem IsAnsR.flat (w : World) (G : Nat → Prop) (e n : Int) (t : Str) : IsAnsR w G ⟨e, n, t, [], []⟩ (.agg #[.int .i64 e, .int .i64 n, .string (bs t), .slice none 0 0, .slice none 0 0]) :=
  ⟨_, _, _, _, _, _, rfl, Sl.nil _ _ _ _ _, Sl.nil _ _ _ _ _⟩
def rz : List Value := [.int .i64 0, .int .i64 0, .string ⟨#[]⟩, .slice none 0 0, .slice none 0 0]

section
variable {w w' : World} {F G : Nat → Prop} {M : Md} {A : Option Addr} {n c : Nat} {B : Option Addr} {nb cb : Nat} {E : Option Addr} {ne ce : Nat}

def hitP (M : Md) (o : Pl.Op) (l : List Str) (e : Ety) : Bool := (e.flags.toNat &&& o.flags.toNat == o.flags.toNat) && hasW ((mailOf M e.mail).getD []) l
def hitL (M : Md) (o : Pl.Op) (l : List Str) (s : Str) (es : List Ety) : List Hit := (es.filter (hitP M o l)).map fun e => ⟨s, e.uid, e.flags⟩
def hitN (M : Md) (o : Pl.Op) (l : List Str) (ps : List (Str × Int)) : List Hit := (ps.filter fun p => o.box.isEmpty || p.1 == o.box).flatMap fun p => hitsOf M o l p.1
theorem hitL_len (M : Md) (o : Pl.Op) (l : List Str) (s : Str) (es : List Ety) : (hitL M o l s es).length ≤ es.length := by
  unfold hitL
  rw [List.length_map]
  exact List.length_filter_le _ _
theorem hitN_len (hb : Bd M) (o : Pl.Op) (l : List Str) : ∀ ps : List (Str × Int), (hitN M o l ps).length ≤ ps.length * 100
  | [] => by simp [hitN]
  | p :: ps => by
    have ih := hitN_len hb o l ps
    have h1 : (hitsOf M o l p.1).length ≤ 100 := by
      unfold hitsOf
      cases hf : find M p.1 with
      | none => simp
      | some b =>
        have h2 := hb.blen b (find_some hb.names hf)
        have := hitL_len M o l p.1 b.l
        unfold hitL hitP at this
        simp only
        omega
    unfold hitN at ih ⊢
    by_cases hp : (o.box.isEmpty || p.1 == o.box) = true
    · rw [List.filter_cons_of_pos (p := fun p : Str × Int => o.box.isEmpty || p.1 == o.box) hp, List.flatMap_cons, List.length_append, List.length_cons]
      omega
    · rw [List.filter_cons_of_neg (p := fun p : Str × Int => o.box.isEmpty || p.1 == o.box) hp, List.length_cons]
      omega

theorem ref_search (h : RMd w F M A n c B nb cb E ne ce) (hb : Bd M) (hbl : M.b.length < 1000000) (o : Pl.Op) {OA : Option Addr} {on oc : Nat} (ho : OpAt w o OA on oc) :
    Calls PP 53 #[.agg #[.slice A n c, .int .i64 M.n.next, .slice B nb cb, .slice E ne ce, .int .i64 M.next], .agg ⟨ocells o OA on oc⟩] w (Ret fun r w' => Keep No w w' ∧ IsAnsR w' (Gn No w w') (search M o) r) := by
  refine c53 ?_
  unfold S53
  have hln := h.nm.len
  have hlb := h.bx.len
  have hle := h.ml.len
  have hbn := hb.nlen
  have hbm := hb.mlen
  refine NEW.i fun k2 w1 hk2 hs1 q1 a1 => NEW.i fun k3 w2 hk3 hs2 q2 a2 => NEW.i fun k4 w3 hk4 hs3 q3 a3 => ?_
  have z3 := (q1.trans q2).trans q3
  have a2' : At w2 k3 (.cells ⟨ocells o OA on oc⟩ 29 (0, 0)) := a2
  obtain ⟨Fw, hFw⟩ := ho.words
  refine ⟨_, _, _, cell_at (a2'.no q3) rfl, CALL.i (ref_clean (hFw.no z3) ho.ws) (by kernel_rfl) ?_⟩
  rintro r w4 ⟨q4, hr⟩
  have z4 := z3.trans q4
  have b2 := ((a1.no q2).no q3).no q4
  have b3 := (a2'.no q3).no q4
  have b4 := a3.no q4
  have hq4 := q4.size
  obtain ⟨A1, n1, c1, e1, rfl, hcl⟩ : ∃ A1 n1 c1 e1, r = .tuple #[.slice A1 n1 c1, .int .i64 e1] ∧ ((cleanW o.words = none ∧ e1 = 4) ∨ ∃ l, cleanW o.words = some l ∧ e1 = 0 ∧ n1 = l.length ∧ Sl Lst w4 (Gn No w3 w4) A1 n1 c1 l) := by
    cases hc : cleanW o.words with
    | none =>
      rw [hc] at hr
      exact ⟨_, _, _, _, hr, .inl ⟨rfl, rfl⟩⟩
    | some l =>
      rw [hc] at hr
      obtain ⟨A', c', h1, h2⟩ := hr
      exact ⟨_, _, _, _, h1, .inr ⟨l, rfl, rfl, rfl, h2⟩⟩
  refine ⟨_, _, _, _, rfl, ?_⟩
  -- an answer that is an error
  have bad : ∀ (e : Int) (w5 : World), Keep No w4 w5 → search M o = no e → ST w5 (⟨k4, 0, none⟩ : Addr) 0 [(.int .i64 e), (.int .i64 (0 : Int)), (.string (⟨#[]⟩ : ByteArray)), (.slice none 0 0), (.slice none 0 0)] fun w6 =>
      ∃ (x4r_0 : Int) (x4r_1 : Int) (s4r_2 : ByteArray) (A4r_3 : Option Addr) (n4r_3 : Nat) (c4r_3 : Nat) (A4r_4 : Option Addr) (n4r_4 : Nat) (c4r_4 : Nat), RD w6 (⟨k4, 0, none⟩ : Addr) 0 [(.int .i64 x4r_0), (.int .i64 x4r_1), (.string s4r_2), (.slice A4r_3 n4r_3 c4r_3), (.slice A4r_4 n4r_4 c4r_4)] ∧
      (Keep No w w6 ∧ IsAnsR w6 (Gn No w w6) (search M o) (.agg #[(.int .i64 x4r_0), (.int .i64 x4r_1), (.string s4r_2), (.slice A4r_3 n4r_3 c4r_3), (.slice A4r_4 n4r_4 c4r_4)])) := by
    intro e w5 q5 he
    refine ST.i (b4.no q5) (by simp) rfl fun w6 hs6 q6 a6 => ⟨_, _, _, _, _, _, _, _, _, RD.i a6, (z4.trans q5).tmp q6 (by have := z3.size; omega), ?_⟩
    rw [he]
    exact IsAnsR.flat _ _ e 0 []
  refine ⟨fun w5 => w5 = w4 ∧ flagOk o.flags = true ∧ ∃ l, cleanW o.words = some l ∧ n1 = l.length ∧ Sl Lst w4 (Gn No w3 w4) A1 n1 c1 l, ?_, ?_⟩
  · refine ⟨fun b w5 => w5 = w4 ∧ (b = true → search M o = no 4) ∧ (b = false → flagOk o.flags = true ∧ ∃ l, cleanW o.words = some l ∧ n1 = l.length ∧ Sl Lst w4 (Gn No w3 w4) A1 n1 c1 l), ?_, ?_⟩
    · rcases hcl with ⟨hc1, rfl⟩ | ⟨l, hc1, rfl, rfl, hsl⟩
      · refine split_i (fun _ => ⟨rfl, fun _ => ?_, fun hc => by cases hc⟩) (fun hc => by cases hc)
        unfold search
        rw [hc1]
      · have s4 : flagOk o.flags = false → search M o = no 4 := fun hf => by
          unfold search
          rw [hc1]
          simp only [hf, Bool.not_false, if_true]
        refine split_i (fun hc => by cases hc) (fun _ => ⟨_, cell_at b3 rfl, split_dec (fun hneg => ⟨rfl, fun _ => s4 ?_, fun hc => by cases hc⟩) (fun hneg => ⟨_, cell_at b3 rfl, rfl, fun hbig => s4 ?_, fun hbig => ⟨?_, l, hc1, rfl, hsl⟩⟩)⟩)
        · simp only [flagOk, Bool.and_eq_false_iff, decide_eq_false_iff_not]; omega
        · simp only [flagOk, Bool.and_eq_false_iff, decide_eq_false_iff_not]
          have := of_decide_eq_true hbig
          omega
        · simp only [flagOk, Bool.and_eq_true, decide_eq_true_eq]
          have := of_decide_eq_false hbig
          omega
    · rintro _ b w5 ⟨rfl, hb1, hb2⟩
      exact split_i (fun hb => bad 4 _ (Keep.refl _ _) (hb1 hb)) (fun hb => ⟨rfl, hb2 hb⟩)
  rintro _ w5 ⟨rfl, hfo, l, hc1, rfl, hsl⟩
  have hl8 : l.length ≤ 8 := by
    unfold cleanW at hc1
    split at hc1
    · cases hc1
    · rename_i h6
      simp only [Bool.or_eq_true, decide_eq_true_eq, not_or] at h6
      injection hc1 with h5
      have := sortW_len o.words
      rw [h5] at this
      omega
  have hemp : (⟨#[]⟩ : ByteArray).toList = [] := bs_emp
  have hbt : (bs o.box).toList = o.box := bs_toList _
  have hboxE : ((bs o.box).toList == (⟨#[]⟩ : ByteArray).toList) = o.box.isEmpty := by
    rw [hbt, hemp]
    cases o.box <;> simp
  refine ⟨fun w6 => Keep No w5 w6 ∧ (!o.box.isEmpty && (find M o.box).isNone) = false, ?_, ?_⟩
  · refine ⟨fun b w6 => Keep No w5 w6 ∧ b = (!o.box.isEmpty && (find M o.box).isNone), ⟨_, cell_at b3 rfl, ?_⟩, ?_⟩
    · rw [hboxE]
      refine split_i (fun hne => ?_) (fun he => ⟨Keep.refl _ _, by rw [he]; rfl⟩)
      refine ⟨_, _, _, _, _, _, _, _, _, _, _, RD.i b2, _, cell_at b3 rfl, CALL.i (ref_find (h.no z4) (by omega) (by omega) o.box) (by kernel_rfl) ?_⟩
      rintro r w6 ⟨rfl, q6⟩
      refine ⟨_, rfl, q6, ?_⟩
      rw [hne, Bool.true_and]
      rcases findI_cases hb.names (fun x hx => (hb.bval x hx).1) o.box with ⟨h1, h2⟩ | ⟨i, x, h1, h2, h3⟩
      · rw [h2, decide_eq_true h1]; rfl
      · rw [h3, h1, decide_eq_false (by omega)]; rfl
    · rintro _ b w6 ⟨q6, rfl⟩
      refine split_i (fun hb' => bad 5 _ q6 ?_) (fun hb' => ⟨q6, hb'⟩)
      unfold search
      rw [hc1]
      simp only [hfo, Bool.not_true, Bool.false_eq_true, if_false, hb', if_true]
  rintro _ w6 ⟨q6, hcond⟩
  have z6 := z4.trans q6
  have c2 := b2.no q6
  have c3 := b3.no q6
  have c4 := b4.no q6
  have hsl6 := hsl.no q6
  have hz3 := z3.size
  have hz6 := z6.size
  have hq6 := q6.size
  have hsearch : search M o = ⟨0, (hitN M o l M.n.l).length, [], [], hitN M o l M.n.l⟩ := by
    unfold search
    rw [hc1]
    simp only [hfo, Bool.not_true, Bool.false_eq_true, if_false, hcond]
    rfl
  refine NEW.i fun k7 w7 hk7 hs7 q7 a7 => ST.i a7 (by simp) rfl fun w8 hs8 q8 a8 => ⟨_, _, _, cell_at ((c2.no q7).oth q8 (by omega)) rfl, ?_⟩
  have hlenN : ∀ i, (hitN M o l (M.n.l.take i)).length ≤ 100000 := fun i => by
    have := hitN_len hb o l (M.n.l.take i)
    have h2 : (M.n.l.take i).length ≤ M.n.l.length := by simp; omega
    have h3 : (M.n.l.take i).length * 100 ≤ M.n.l.length * 100 := Nat.mul_le_mul_right _ h2
    omega
  refine ⟨fun x49 w9 => ∃ (i : Nat) (A2 : Option Addr) (n2 c2 : Nat), x49 = i ∧ i ≤ n ∧ At w9 k7 (.cells ⟨[.int .i64 0, .int .i64 0, .string ⟨#[]⟩, .slice none 0 0, .slice A2 n2 c2]⟩ 73 (0, 0)) ∧ ¬ ownBlk A2 k7 ∧ Og Lhit 131 No w6 w9 A2 n2 c2 (hitN M o l (M.n.l.take i)),
    fun x49 _ => ((n : Int) - x49).toNat, ⟨0, none, 0, 0, rfl, Nat.zero_le _, a8, fun h => h, Og.none (q7.tmp q8 (by omega)) (fun j hj => False.elim hj)⟩, ?_⟩
  rintro _ x49 w9 ⟨i, A2, n2, c2', rfl, hi, a9, d9, g9⟩
  have hg9 := g9.keep.size
  have hn2 := g9.own.len
  have hbd2 := hlenN i
  refine split_dec (fun hlt => ?_) (fun hge => ?_)
  · have hlt' : i < n := by omega
    refine ⟨fun w10 => ∃ (A2 : Option Addr) (n2 c2 : Nat), At w10 k7 (.cells ⟨[.int .i64 0, .int .i64 0, .string ⟨#[]⟩, .slice none 0 0, .slice A2 n2 c2]⟩ 73 (0, 0)) ∧ ¬ ownBlk A2 k7 ∧ Og Lhit 131 No w6 w10 A2 n2 c2 (hitN M o l (M.n.l.take (i + 1))), ⟨⟨by omega, hlt⟩, ?_⟩, ?_⟩
    · obtain ⟨a, p, hA, hp, hr⟩ := ((h.nm.no z6).no g9.keep).nm hlt'
      refine SOMEA.i hA ⟨_, _, by rw [Int.toNat_natCast]; exact hr, ?_⟩
      refine NEW.i fun k9 w10 hk9 hs10 q10 a10 => ST.i a10 (by simp) rfl fun w11 hs11 q11 a11 => ?_
      have ha9 := a9.lt
      have e7 := (a9.no q10).oth q11 (by omega)
      have g11 := (g9.no q10).st q11 (by omega) (g9.fresh (by omega))
      have htk := take_succ_some hp
      have hstep : hitN M o l (M.n.l.take (i + 1)) = hitN M o l (M.n.l.take i) ++ (if (o.box.isEmpty || p.1 == o.box) then hitsOf M o l p.1 else []) := by
        rw [htk]
        unfold hitN
        rw [List.filter_append, List.flatMap_append]
        congr 1
        by_cases hpp : (o.box.isEmpty || p.1 == o.box) = true
        · rw [List.filter_cons_of_pos (p := fun p : Str × Int => o.box.isEmpty || p.1 == o.box) hpp, if_pos hpp]
          simp
        · rw [List.filter_cons_of_neg (p := fun p : Str × Int => o.box.isEmpty || p.1 == o.box) hpp, if_neg hpp]
          rfl
      refine ⟨fun w12 => w12 = w11 ∧ (o.box.isEmpty || p.1 == o.box) = true, ⟨_, cell_at (c3.no g11.keep) rfl, ?_⟩, ?_⟩
      · rw [hboxE]
        refine split_i (fun hne => ⟨_, cell_at (c3.no g11.keep) rfl, _, cell_at a11 rfl, ?_⟩) (fun he => ⟨rfl, by simp only [Bool.not_eq_false'] at he; rw [he]; rfl⟩)
        have hne' : o.box.isEmpty = false := by simpa using hne
        rw [hbt, bs_toList]
        refine split_i (fun hx => ⟨A2, n2, c2', e7, d9, ?_⟩) (fun hx => ⟨rfl, ?_⟩)
        · have hpp : (o.box.isEmpty || p.1 == o.box) = false := by
            rw [hne', Bool.false_or]
            simp at hx ⊢
            exact fun hc => hx hc.symm
          rw [hstep, hpp]
          simp only [Bool.false_eq_true, if_false, List.append_nil]
          exact g11
        · rw [hne', Bool.false_or]
          simp at hx ⊢
          exact hx.symm
      · rintro _ w12 ⟨rfl, hpp⟩
        rw [hpp, if_pos rfl] at hstep
        refine DRAW.i fun w13 hw13 q13 => ?_
        have g13 := g11.no q13
        have z13 := z6.trans g13.keep
        refine ⟨_, _, _, cell_at (c2.no g13.keep) rfl, _, _, _, _, _, _, _, _, _, _, _, RD.i (c2.no g13.keep), _, cell_at (a11.no q13) rfl, CALL.i (ref_find (h.no z13) (by omega) (by omega) p.1) (by kernel_rfl) ?_⟩
        rintro r w14 ⟨rfl, q14⟩
        have g14 := g13.no q14
        have z14 := z13.trans q14
        have hfind : (find M p.1).isSome = true := by
          have hof : ofN M.n p.1 = some p.2 := by
            have := mget_of_mem hb.rising.nodup (show (p.1, p.2) ∈ M.n.l from List.mem_of_getElem? hp)
            exact this
          unfold find
          rw [hof]
          exact hb.names p.1 p.2 hof
        rcases findI_cases hb.names (fun x hx => (hb.bval x hx).1) p.1 with ⟨h1, h2⟩ | ⟨k, x, h1, h2, h3⟩
        · rw [h2] at hfind; cases hfind
        have hkl := (List.getElem?_eq_some_iff.1 h2).1
        obtain ⟨ab, x', X, nx, cx, hAb, hx', hrx, hsx⟩ := (h.bx.no z14).bx (i := k) (by omega)
        rw [h2] at hx'
        cases hx'
        have hxl := hb.blen x (List.mem_of_getElem? h2)
        have hsxl := hsx.len
        rw [h1]
        refine ⟨_, rfl, loadVar_cell (by kernel_rfl) (cell_at (c2.no g14.keep) rfl), ⟨by omega, by omega⟩, SOMEA.i hAb ⟨X, nx, cx, by rw [Int.toNat_natCast]; exact hrx.2.2.1, ?_⟩⟩
        have hh : hitsOf M o l p.1 = hitL M o l p.1 x.l := by
          unfold hitsOf
          rw [h3]
          rfl
        rw [hh] at hstep
        have e14 := (e7.no q13).no q14
        have f14 := (a11.no q13).no q14
        have hk97 : k9 ≠ k7 := by omega
        refine ⟨fun x73 w15 => ∃ (m : Nat) (A2 : Option Addr) (n2 c2 : Nat), x73 = m ∧ m ≤ nx ∧ At w15 k7 (.cells ⟨[.int .i64 0, .int .i64 0, .string ⟨#[]⟩, .slice none 0 0, .slice A2 n2 c2]⟩ 73 (0, 0)) ∧ ¬ ownBlk A2 k7 ∧ At w15 k9 (.cells ⟨[.string (bs p.1), .int .i64 p.2]⟩ 114 (0, 0)) ∧ ¬ ownBlk A2 k9 ∧ Keep (fun j => w6.heap.size ≤ j) w14 w15 ∧ Og Lhit 131 No w6 w15 A2 n2 c2 (hitN M o l (M.n.l.take i) ++ hitL M o l p.1 (x.l.take m)),
          fun x73 _ => ((nx : Int) - x73).toNat, ⟨0, A2, n2, c2', rfl, Nat.zero_le _, e14, d9, f14, g9.fresh (by omega), Keep.refl _ _, by simpa [hitL] using g14⟩, ?_⟩
        rintro _ x73 w15 ⟨m, A3, n3, c3', rfl, hm, e15, d15, f15, o15, q15, g15⟩
        have hg15 := g15.keep.size
        have hn3 := g15.own.len
        rw [List.length_append] at hn3
        have hL3 := hitL_len M o l p.1 (x.l.take m)
        simp only [List.length_take] at hL3
        have hsx15 := hsx.kept q15 (fun j hj _ hs => by have := h.lt j hj; omega)
        refine split_dec (fun hlt2 => ?_) (fun hge2 => ?_)
        · have hlt2' : m < nx := by omega
          refine ⟨fun w16 => ∃ (A2 : Option Addr) (n2 c2 : Nat), At w16 k7 (.cells ⟨[.int .i64 0, .int .i64 0, .string ⟨#[]⟩, .slice none 0 0, .slice A2 n2 c2]⟩ 73 (0, 0)) ∧ ¬ ownBlk A2 k7 ∧ At w16 k9 (.cells ⟨[.string (bs p.1), .int .i64 p.2]⟩ 114 (0, 0)) ∧ ¬ ownBlk A2 k9 ∧ Keep (fun j => w6.heap.size ≤ j) w14 w16 ∧ Og Lhit 131 No w6 w16 A2 n2 c2 (hitN M o l (M.n.l.take i) ++ hitL M o l p.1 (x.l.take (m + 1))), ⟨⟨by omega, hlt2⟩, ?_⟩, ?_⟩
          · obtain ⟨ae, e, hAe, he, hre⟩ := hsx15.ent hlt2'
            have hef := hb.bflags x (List.mem_of_getElem? h2) e (List.mem_of_getElem? he)
            refine SOMEA.i hAe ⟨_, _, _, by rw [Int.toNat_natCast]; exact hre, ?_⟩
            refine NEW.i fun k11 w16 hk11 hs16 q16 a16 => ST.i a16 (by simp) rfl fun w17 hs17 q17 a17 => ?_
            have le15 := e15.lt
            have lf15 := f15.lt
            have g17 := (g15.no q16).st q17 (by omega) (g15.fresh (by omega))
            have e17 := (e15.no q16).oth q17 (by omega)
            have f17 := (f15.no q16).oth q17 (by omega)
            have o17 : ¬ ownBlk A3 k11 := g15.fresh (by omega)
            refine ⟨_, _, _, _, _, _, _, _, _, _, _, RD.i (c2.no g17.keep), _, cell_at a17 rfl, CALL.i (ref_text (h.no (z6.trans g17.keep)) (by omega) e.mail) (by kernel_rfl) ?_⟩
            rintro r w18 ⟨rfl, q18⟩
            have g18 := g17.no q18
            refine ⟨_, _, rfl, fun b w19 => Keep No w18 w19 ∧ b = hitP M o l e, ⟨_, cell_at (a17.no q18) rfl, _, cell_at (c3.no g18.keep) rfl, _, cell_at (c3.no g18.keep) rfl, ?_⟩, ?_⟩
            · have hfl : 0 ≤ o.flags ∧ o.flags ≤ 31 := by
                simp only [flagOk, Bool.and_eq_true, decide_eq_true_eq] at hfo
                exact hfo
              rw [and_flags hef.1 hef.2 hfl.1 hfl.2]
              refine split_i (fun ht => CALL.i (ref_has ((mailOf M e.mail).getD []) (mailOf_len hb e.mail) (hsl6.no g18.keep) (by omega)) (by kernel_rfl) ?_) (fun hf => ⟨Keep.refl _ _, by unfold hitP; rw [hf]; rfl⟩)
              rintro r w19 ⟨rfl, q19⟩
              exact ⟨_, rfl, q19, by unfold hitP; rw [ht]; rfl⟩
            · rintro _ b w19 ⟨q19, rfl⟩
              have g19 := g18.no q19
              have e19 := (e17.no q18).no q19
              have f19 := (f17.no q18).no q19
              have a19 := (a17.no q18).no q19
              have hq17 : Keep (fun j => w6.heap.size ≤ j) w14 w19 := ((q15.and_no q16).trans (q17.mono fun j _ hj => by rw [hj]; omega)).and_no (q18.trans q19)
              have htk2 := take_succ_some he
              refine split_i (fun ht => ?_) (fun hf => ?_)
              · refine ⟨_, _, _, cell_at e19 rfl, _, cell_at f19 rfl, _, cell_at a19 rfl, _, cell_at a19 rfl, NEW.i fun k106 w20 hk106 hs20 q20 a20 => ?_⟩
                refine (g19.no q20).one T131 a20 (x := ⟨p.1, e.uid, e.flags⟩) rfl (by omega) fun A' c' w21 q21 g21 hb21 => ⟨_, _, _, rfl, ?_⟩
                have e21 := (e19.no q20).own_ q21 d15
                have hnew7 : ¬ ownBlk A' k7 := fun hc => by
                  rcases hb21 k7 hc with h' | h'
                  · exact d15 h'
                  · have := e19.lt; omega
                have hnew9 : ¬ ownBlk A' k9 := fun hc => by
                  rcases hb21 k9 hc with h' | h'
                  · exact o15 h'
                  · have := f19.lt; omega
                refine ST.i e21 (by simp) rfl fun w22 hs22 q22 a22 => ⟨A', n3 + 1, c', a22, hnew7, ((f19.no q20).own_ q21 o15).oth q22 hk97, hnew9, ?_, ?_⟩
                · exact ((hq17.and_no q20).trans (q21.mono fun j _ hj => g15.new j hj)).trans (q22.mono fun j _ hj => by rw [hj]; omega)
                · rw [htk2]
                  have : hitL M o l p.1 (x.l.take m ++ [e]) = hitL M o l p.1 (x.l.take m) ++ [⟨p.1, e.uid, e.flags⟩] := by
                    unfold hitL
                    rw [List.filter_append, List.filter_cons_of_pos ht, List.map_append]
                    rfl
                  rw [this, ← List.append_assoc]
                  exact g21.st q22 (by omega) hnew7
              · refine ⟨A3, n3, c3', e19, d15, f19, o15, hq17, ?_⟩
                rw [htk2]
                have : hitL M o l p.1 (x.l.take m ++ [e]) = hitL M o l p.1 (x.l.take m) := by
                  unfold hitL
                  rw [List.filter_append, List.filter_cons_of_neg (by rw [hf]; simp), List.filter_nil, List.append_nil]
                rw [this]
                exact g19
          · rintro _ w16 ⟨A4, n4, c4', r1, r2, r3, r4, r5, r6⟩
            exact ⟨⟨m + 1, A4, n4, c4', wrapS (by omega), hlt2', r1, r2, r3, r4, r5, r6⟩, mu_go (wrapS (by omega)) hlt2'⟩
        · have hme : m = x.l.length := by omega
          rw [hme, List.take_length, ← hstep] at g15
          exact ⟨A3, n3, c3', e15, d15, g15⟩
    · rintro _ w10 ⟨A3, n3, c3', r1, r2, r3⟩
      exact ⟨⟨i + 1, A3, n3, c3', wrapS (by omega), hlt', r1, r2, r3⟩, mu_go (wrapS (by omega)) hlt'⟩
  · have hie : i = M.n.l.length := by omega
    rw [hie, List.take_length] at g9
    have hn2' := g9.own.len
    refine ⟨_, _, _, cell_at a9 rfl, ST.i a9 (by simp) rfl fun w10 hs10 q10 a10 => ⟨_, _, _, _, _, _, _, _, _, RD.i a10, ST.i ((c4.no g9.keep).oth q10 (by omega)) (by simp) rfl fun w11 hs11 q11 a11 => ⟨_, _, _, _, _, _, _, _, _, RD.i a11, ?_, ?_⟩⟩⟩
    · exact ((z6.trans g9.keep).tmp q10 (by omega)).tmp q11 (by omega)
    · rw [hsearch]
      refine ⟨none, 0, 0, A2, n2, c2', ?_, Sl.nil _ _ _ _ _, ?_⟩
      · rw [← hn2']; rfl
      · have ne' : ∀ j, ownBlk A2 j → j ≠ k7 ∧ j ≠ k4 := fun j hj => ⟨fun he => d9 (he ▸ hj), fun he => by have := g9.new j hj; omega⟩
        refine ((g9.own.sl.kept q10 (fun j hj _ he => ?_)).kept q11 (fun j hj _ he => ?_)).mono fun j hj => ?_
        · rcases hj with hj | hj
          · exact hj
          · exact (ne' j hj).1 he
        · rcases hj with hj | hj
          · exact hj
          · exact (ne' j hj).2 he
        · rcases hj with hj | hj
          · exact .inl hj
          · have := g9.new j hj
            have := g9.own.lt j hj
            exact .inr ⟨by omega, by omega⟩
end
end Go.SW
