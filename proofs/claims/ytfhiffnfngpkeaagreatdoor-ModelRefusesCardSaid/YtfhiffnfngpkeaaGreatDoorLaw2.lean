/- The store as a law holds it; awake. -/
import Derived.Test.YtfhiffnfngpkeaaGreatDoorLaw1
set_option linter.unusedVariables false
namespace Go.SW
open Go Go.Proofs Pl

/-- the store at k; X: blocks that are not its -/
def Stx (X : Nat → Prop) (w : World) (k : Nat) (M : Md) : Prop :=
  ∃ ow kn bb mb pt, IsModel w k ow M kn bb mb pt ∧ (∀ j, X j → ow j = .out ∧ j < w.heap.size) ∧ X 1 ∧ Glob w
theorem Stx.lt {X : Nat → Prop} {w : World} {k : Nat} {M : Md} (h : Stx X w k M) {j : Nat} (hj : X j) : j < w.heap.size := by
  obtain ⟨ow, kn, bb, mb, pt, h1, h2, h3, h4⟩ := h
  exact (h2 j hj).2
/-- what is new is not the store's -/
theorem Stx.grow {X : Nat → Prop} {w w' : World} {k : Nat} {M : Md} (h : Stx X w k M) (hk : Keep No w w') : Stx (fun j => X j ∨ (w.heap.size ≤ j ∧ j < w'.heap.size)) w' k M := by
  obtain ⟨ow, kn, bb, mb, pt, h1, h2, h3, h4⟩ := h
  refine ⟨ow, kn, bb, mb, pt, h1.no hk, ?_, .inl h3, h4.no hk⟩
  rintro j (hj | hj)
  · exact ⟨(h2 j hj).1, Nat.lt_of_lt_of_le (h2 j hj).2 hk.size⟩
  · exact ⟨h1.new_out hj.1, hj.2⟩
/-- a block of X is written -/
theorem Stx.wr {X S : Nat → Prop} {w w' : World} {k : Nat} {M : Md} (h : Stx X w k M) (hk : Keep S w w') (hS : ∀ j, S j → X j ∧ j ≠ 1) : Stx X w' k M := by
  obtain ⟨ow, kn, bb, mb, pt, h1, h2, h3, h4⟩ := h
  refine ⟨ow, kn, bb, mb, pt, h1.kept hk (fun j hj hs => hj (h2 j (hS j hs).1).1), fun j hj => ⟨(h2 j hj).1, Nat.lt_of_lt_of_le (h2 j hj).2 hk.size⟩, h3, h4.kept hk (fun hs => (hS 1 hs).2 rfl)⟩
theorem Stx.sub {X Y : Nat → Prop} {w : World} {k : Nat} {M : Md} (h : Stx X w k M) (hY : ∀ j, Y j → X j) (h1 : Y 1) : Stx Y w k M := by
  obtain ⟨ow, kn, bb, mb, pt, g1, h2, h3, h4⟩ := h
  exact ⟨ow, kn, bb, mb, pt, g1, fun j hj => h2 j (hY j hj), h1, h4⟩
/-- an op -/
theorem Stx.do_ {X : Nat → Prop} {w : World} {k : Nat} {M : Md} {t : Int} (h : Stx X w k M) (hok : Ok t M) (ht : t < 90) (o : Pl.Op) {A : Option Addr} {n c : Nat} (ho : OpAt w o A n c) :
    Calls PP 13 #[.pointer (some ⟨k, 0, none⟩), .agg ⟨ocells o A n c⟩] w (Ret fun r w' => ∃ X' : Nat → Prop, (∀ j, X j → X' j) ∧ (∀ j, X' j → X j ∨ w.heap.size ≤ j) ∧ Stx X' w' k (act M o).1 ∧ Keep (fun j => j < w.heap.size ∧ ¬ X j) w w' ∧ IsAns w' (fun j => X' j ∧ w.heap.size ≤ j) (act M o).2 r) := by
  obtain ⟨ow, kn, bb, mb, pt, h1, h2, h3, h4⟩ := h
  refine Calls.ret (model_do h1 h4 (h2 1 h3).1 (hok.toOk'.bd ht) o ho) ?_
  rintro r w' ⟨ow', pt', g1, g2, g3, g4⟩
  refine ⟨fun j => X j ∨ (w.heap.size ≤ j ∧ j < w'.heap.size ∧ ow' j = .out), fun j hj => .inl hj, fun j hj => hj.imp id (fun h => h.1), ⟨ow', kn, bb, mb, pt', g2, ?_, .inl h3, h4.kept g1 (fun hf => hf (h2 1 h3).1)⟩, ?_, ?_⟩
  · rintro j (hj | hj)
    · exact ⟨g3 j (h2 j hj).2 (h2 j hj).1, Nat.lt_of_lt_of_le (h2 j hj).2 g1.size⟩
    · exact ⟨hj.2.2, hj.2.1⟩
  · exact g1.mono fun j hj hf => ⟨hj, fun hx => hf (h2 j hx).1⟩
  · obtain ⟨A1, c1, A2, c2, e1, e2, e3, e4⟩ := g4
    refine ⟨A1, c1, A2, c2, e1, e2, e3, fun j hj => ?_⟩
    have := e4 j hj
    refine ⟨.inr ⟨this.1, ?_, this.2⟩, this.1⟩
    rcases hj with hj | hj
    · exact e2.lt j hj
    · exact e3.lt j hj
theorem stx_new {w : World} {Y : Nat → Prop} (hg : Glob w) (h1 : 1 < w.heap.size) (hY : ∀ j, Y j → j < w.heap.size) (hY1 : Y 1) : Calls PP 11 #[] w (Ret fun r w' => ∃ k, r = .pointer (some ⟨k, 0, none⟩) ∧ Keep No w w' ∧ Stx Y w' k .new) := by
  refine Calls.ret (model_new w) ?_
  rintro r w' ⟨k, ow, kn, bb, mb, pt, rfl, g1, g2, g3⟩
  exact ⟨k, rfl, g1, ow, kn, bb, mb, pt, g2, fun j hj => ⟨g3 j (hY j hj), Nat.lt_of_lt_of_le (hY j hj) g1.size⟩, hY1, hg.no g1⟩

/-- an answer as it lies in a block of the law's own -/
def AnsAt (X : Nat → Prop) (w : World) (b : Nat) (a : Ans) : Prop :=
  X b ∧ b ≠ 1 ∧ ∃ A1 c1 A2 c2, At w b (.cells ⟨acells a.err a.n (bs a.text) A1 a.names.length c1 A2 a.hits.length c2⟩ 35 (0, 0)) ∧ Own Lst 9 w No A1 a.names.length c1 a.names ∧ Own Lhit 39 w No A2 a.hits.length c2 a.hits ∧ ∀ j, ownBlk A1 j ∨ ownBlk A2 j → X j ∧ j ≠ b ∧ j ≠ 1
theorem AnsAt.kept {X Y S : Nat → Prop} {w w' : World} {b : Nat} {a : Ans} (h : AnsAt X w b a) (hk : Keep S w w') (hS : ∀ j, X j → ¬ S j) (hXY : ∀ j, X j → Y j) : AnsAt Y w' b a := by
  obtain ⟨h1, h0, A1, c1, A2, c2, h2, h3, h4, h5⟩ := h
  exact ⟨hXY b h1, h0, A1, c1, A2, c2, hk.at_ h2 (hS b h1), h3.kept hk (fun j hj _ => hj.elim (fun h => False.elim h) (fun h => hS j (h5 j (.inl h)).1)), h4.kept hk (fun j hj _ => hj.elim (fun h => False.elim h) (fun h => hS j (h5 j (.inr h)).1)), fun j hj => ⟨hXY j (h5 j hj).1, (h5 j hj).2⟩⟩
theorem AnsAt.later {X X' : Nat → Prop} {w w' : World} {b : Nat} {a : Ans} (h : AnsAt X w b a) (hk : Keep (fun j => j < w.heap.size ∧ ¬ X j) w w') (hX : ∀ j, X j → X' j) : AnsAt X' w' b a := h.kept hk (fun j hj hs => hs.2 hj) hX
theorem AnsAt.no {X X' : Nat → Prop} {w w' : World} {b : Nat} {a : Ans} (h : AnsAt X w b a) (hk : Keep No w w') (hX : ∀ j, X j → X' j) : AnsAt X' w' b a := h.kept hk (fun j hj hs => hs) hX
theorem AnsAt.cell {X : Nat → Prop} {w : World} {b : Nat} {a : Ans} (h : AnsAt X w b a) : World.cell? w ⟨b, 0, none⟩ = some (.int .i64 a.err) ∧ World.cell? w ⟨b, 1, none⟩ = some (.int .i64 a.n) ∧ World.cell? w ⟨b, 2, none⟩ = some (.string (bs a.text)) := by
  obtain ⟨h1, h0, A1, c1, A2, c2, h2, h3, h4, h5⟩ := h
  exact ⟨cell_at h2 rfl, cell_at h2 rfl, cell_at h2 rfl⟩
theorem AnsAt.hits {X : Nat → Prop} {w : World} {b : Nat} {a : Ans} (h : AnsAt X w b a) : ∃ A2 c2, World.cell? w ⟨b, 4, none⟩ = some (.slice A2 a.hits.length c2) ∧ Own Lhit 39 w No A2 a.hits.length c2 a.hits ∧ ∀ j, ownBlk A2 j → X j := by
  obtain ⟨h1, h0, A1, c1, A2, c2, h2, h3, h4, h5⟩ := h
  exact ⟨A2, c2, cell_at h2 rfl, h4, fun j hj => (h5 j (.inr hj)).1⟩
/-- an op whose answer goes into a new block -/
theorem do_store {X : Nat → Prop} {w : World} {k : Nat} {M : Md} {t : Int} (h : Stx X w k M) (hok : Ok t M) (ht : t < 90) (o : Pl.Op) {A : Option Addr} {n c : Nat} (ho : OpAt w o A n c) {K : Nat → World → Prop}
    (hK : ∀ (b : Nat) (w3 : World) (X' : Nat → Prop), (∀ j, X j → X' j) → Stx X' w3 k (act M o).1 → Keep (fun j => j < w.heap.size ∧ ¬ X j) w w3 → AnsAt X' w3 b (act M o).2 → w.heap.size ≤ b → K b w3) :
    CALL PP 13 [.pointer (some ⟨k, 0, none⟩), .agg ⟨ocells o A n c⟩] w fun r w1 =>
    ∃ (x_0 : Int) (x_1 : Int) (s_2 : ByteArray) (A_3 : Option Addr) (n_3 : Nat) (c_3 : Nat) (A_4 : Option Addr) (n_4 : Nat) (c_4 : Nat), r = (.agg #[(.int .i64 x_0), (.int .i64 x_1), (.string s_2), (.slice A_3 n_3 c_3), (.slice A_4 n_4 c_4)]) ∧
    NEW w1 (.cells #[(.int .i64 (0 : Int)), (.int .i64 (0 : Int)), (.string (⟨#[]⟩ : ByteArray)), (.slice none 0 0), (.slice none 0 0)] 35) fun b w2 =>
    ST w2 (⟨b, 0, none⟩ : Addr) 0 [(.int .i64 x_0), (.int .i64 x_1), (.string s_2), (.slice A_3 n_3 c_3), (.slice A_4 n_4 c_4)] fun w3 => K b w3 := by
  refine CALL.i (h.do_ hok ht o ho) (by kernel_rfl) ?_
  rintro r w1 ⟨X1, h1, h2, h3, h4, A1, c1, A2, c2, rfl, h6, h7, h8⟩
  refine ⟨_, _, _, _, _, _, _, _, _, rfl, ?_⟩
  refine NEW.i fun b w2 hb hs2 k2 a2 => ?_
  refine ST.i a2 (Nat.le_refl _) rfl fun w3 hs3 k3 a3 => ?_
  have hbig : 1 < w1.heap.size := by
    obtain ⟨ow, kn, bb, mb, pt, g1, g2, g3, g4⟩ := h3
    exact (g2 1 g3).2
  have hs1 := h4.size
  have hne : ∀ j, ownBlk A1 j ∨ ownBlk A2 j → j ≠ b := fun j hj he => by
    have := h3.lt (h8 j hj).1
    omega
  have hs : Stx (fun j => X1 j ∨ (w1.heap.size ≤ j ∧ j < w2.heap.size)) w3 k (act M o).1 := (h3.grow k2).wr k3 (fun j hj => by rw [hj]; exact ⟨.inr ⟨by omega, by omega⟩, by omega⟩)
  have h1w : 1 < w.heap.size := by
    obtain ⟨ow, kn, bb, mb, pt, g1, g2, g3, g4⟩ := h
    exact (g2 1 g3).2
  refine hK b w3 _ (fun j hj => .inl (h1 j hj)) hs ((h4.and_no k2).fresh k3 (fun j hj => by rw [hj]; omega)) ⟨.inr ⟨by omega, by omega⟩, by omega, A1, c1, A2, c2, a3, ?_, ?_, ?_⟩ (by omega)
  · exact (h6.no k2).kept k3 (fun j hj _ he => hj.elim (fun h => h) (fun h => hne j (.inl h) he))
  · exact (h7.no k2).kept k3 (fun j hj _ he => hj.elim (fun h => h) (fun h => hne j (.inr h) he))
  · exact fun j hj => ⟨.inl (h8 j hj).1, hne j hj, by have := (h8 j hj).2; omega⟩
/-- an op whose answer is read at once -/
theorem do_read {X : Nat → Prop} {w : World} {k : Nat} {M : Md} {t : Int} (h : Stx X w k M) (hok : Ok t M) (ht : t < 90) (o : Pl.Op) {A : Option Addr} {n c : Nat} (ho : OpAt w o A n c) {K : Int → Int → ByteArray → Option Addr → Nat → Nat → Option Addr → Nat → Nat → World → Prop}
    (hK : ∀ (w3 : World) (X' : Nat → Prop) A1 c1 A2 c2, (∀ j, X j → X' j) → Stx X' w3 k (act M o).1 → Keep (fun j => j < w.heap.size ∧ ¬ X j) w w3 → Own Lst 9 w3 No A1 (act M o).2.names.length c1 (act M o).2.names → Own Lhit 39 w3 No A2 (act M o).2.hits.length c2 (act M o).2.hits → (∀ j, ownBlk A1 j ∨ ownBlk A2 j → X' j ∧ w.heap.size ≤ j) →
      K (act M o).2.err (act M o).2.n (bs (act M o).2.text) A1 (act M o).2.names.length c1 A2 (act M o).2.hits.length c2 w3) :
    CALL PP 13 [.pointer (some ⟨k, 0, none⟩), .agg ⟨ocells o A n c⟩] w fun r w1 =>
    ∃ (x_0 : Int) (x_1 : Int) (s_2 : ByteArray) (A_3 : Option Addr) (n_3 : Nat) (c_3 : Nat) (A_4 : Option Addr) (n_4 : Nat) (c_4 : Nat), r = (.agg #[(.int .i64 x_0), (.int .i64 x_1), (.string s_2), (.slice A_3 n_3 c_3), (.slice A_4 n_4 c_4)]) ∧
    K x_0 x_1 s_2 A_3 n_3 c_3 A_4 n_4 c_4 w1 := by
  refine CALL.i (h.do_ hok ht o ho) (by kernel_rfl) ?_
  rintro r w1 ⟨X1, h1, h2, h3, h4, A1, c1, A2, c2, rfl, h6, h7, h8⟩
  exact ⟨_, _, _, _, _, _, _, _, _, rfl, hK w1 X1 A1 c1 A2 c2 h1 h3 h4 h6 h7 h8⟩

/-- an op without words -/
theorem opAt_none {w : World} (o : Pl.Op) (h : o.words = []) (h1 : o.box.length < 10000000) (h2 : o.to.length < 10000000) (h3 : o.text.length < 10000000) : OpAt w o none 0 0 where
  words := ⟨No, by rw [h]; exact Sl.nil _ _ _ _ _⟩
  none := fun _ => rfl
  box := h1
  to := h2
  text := h3
  ws := fun x hx => by rw [h] at hx; cases hx

/-! ## awake -/
theorem T39e : ∃ fs, StructTy PP 39 fs ∧ ∀ a b : Hit, eqF PP fs (hcells a) (hcells b) = some ((a.box == b.box) && ((a.uid == b.uid) && ((a.flags == b.flags) && true))) :=
  ⟨(PP.fieldsOf 39).toList, ⟨by kernel_rfl, rfl, by kernel_rfl, by kernel_rfl⟩, fun a b => by
    have h : eqF PP (PP.fieldsOf 39).toList (hcells a) (hcells b) = some (((bs a.box).toList == (bs b.box).toList) && ((a.uid == b.uid) && ((a.flags == b.flags) && true))) := by kernel_rfl
    rw [h, bs_toList, bs_toList]⟩
theorem hit_beq (a b : Hit) : ((a.box == b.box) && ((a.uid == b.uid) && ((a.flags == b.flags) && true))) = decide (a = b) := by
  obtain ⟨a1, a2, a3⟩ := a
  obtain ⟨b1, b2, b3⟩ := b
  simp only [Hit.mk.injEq, Bool.and_true]
  by_cases h1 : a1 = b1 <;> by_cases h2 : a2 = b2 <;> by_cases h3 : a3 = b3 <;> simp [h1, h2, h3]

theorem Keep.old {X : Nat → Prop} {w0 w w' : World} (hk : Keep No w0 w) (h : Keep (fun j => j < w.heap.size ∧ ¬ X j) w w') (hX : ∀ j, j < w0.heap.size → X j) : Keep No w0 w' := hk.trans' h (fun j hj hs => absurd (hX j hj) hs.2)
def opD : Pl.Op := ⟨5, [97], [], [], 0, 0, 0, []⟩
theorem law_awake {w : World} (hg : Glob w) (h1 : 1 < w.heap.size) : Calls PP 10 #[] w (Ret fun r w' => r = .bool true ∧ Keep No w w') := by
  refine c10 ?_
  unfold S10
  refine CALL.i (stx_new (Y := fun j => j < w.heap.size) hg h1 (fun j hj => hj) h1) (by kernel_rfl) ?_
  rintro r w1 ⟨k, rfl, q1, s1⟩
  refine ⟨_, rfl, split_i (fun hc => by cases hc) (fun _ => ?_)⟩
  have ok0 := ok_new (t := 0) (Int.le_refl _)
  refine do_store s1 ok0 (by omega) opA (A := none) (n := 0) (c := 0) (opAt_none _ rfl (by decide) (by decide) (by decide)) fun k2 w4 X4 x4 s4 q4 a4 l4 => ?_
  have ok1 := ok_act (by omega) ok0 opA
  have p4 : Keep No w w4 := q1.old q4 (fun j hj => hj)
  refine do_store s4 ok1 (by omega) opB (A := none) (n := 0) (c := 0) (opAt_none _ rfl (by decide) (by decide) (by decide)) fun k3 w7 X7 x7 s7 q7 a7 l7 => ?_
  have ok2 := ok_act (by omega) ok1 opB
  have p7 : Keep No w w7 := p4.old q7 (fun j hj => x4 j hj)
  refine NEW.i fun k15 w8 hk15 hs8 q8 a8 => ?_
  have s8 := s7.grow q8
  have hS : Sl Lst w8 (fun _ => True) (some ⟨k15, 0, none⟩) 1 1 opC.words := by
    refine ⟨rfl, Nat.le_refl _, .inr ⟨k15, 0, _, _, _, rfl, trivial, a8, by show 0 + 1 * 1 ≤ 1; omega, ?_⟩⟩
    intro j x hj
    match j, hj with
    | 0, hj => cases hj; exact ⟨_, rfl, rfl⟩
  have hoC : OpAt w8 opC (some ⟨k15, 0, none⟩) 1 1 := ⟨⟨_, hS⟩, (fun h => by cases h), by decide, by decide, by decide, by decide⟩
  refine do_store s8 ok2 (by omega) opC hoC fun k4 w11 X11 x11 s11 q11 a11 l11 => ?_
  have p8 := p7.and_no q8
  have p11 : Keep No w w11 := p8.old q11 (fun j hj => .inl (x7 j (x4 j hj)))
  have b4 := ((a4.later q7 x7).no q8 (fun j hj => Or.inl hj)).later q11 x11
  have b7 := (a7.no q8 (fun j hj => Or.inl hj)).later q11 x11
  have e4 : (act .new opA).2.n = 1 := by decide +kernel
  have e7 : (act (act .new opA).1 opB).2.n = 1 ∧ (act (act .new opA).1 opB).2.err = 0 := by decide +kernel
  have e11 : (act (act (act .new opA).1 opB).1 opC).2.hits = [⟨[97], 1, 0⟩] := by decide +kernel
  refine ⟨_, b4.cell.2.1, ?_⟩
  rw [e4]
  refine split_i (fun _ => ?_) (fun hc => by cases hc)
  refine ⟨_, b7.cell.2.1, ?_⟩
  rw [e7.1]
  refine split_i (fun _ => ?_) (fun hc => by cases hc)
  refine ⟨_, b7.cell.1, ?_⟩
  rw [e7.2]
  refine split_i (fun _ => ?_) (fun hc => by cases hc)
  obtain ⟨A, c, f1, f2, f3⟩ := a11.hits
  rw [e11] at f1 f2
  refine ⟨_, _, _, f1, split_i (fun _ => ?_) (fun hc => by cases hc)⟩
  refine ⟨_, _, _, f1, ⟨by decide, by decide⟩, ?_⟩
  obtain ⟨a, cs, x, hA, hx, hr, hrd⟩ := f2.sl.get (i := 0) (by decide)
  cases hx
  cases hr
  refine SOMEA.i hA ⟨_, _, _, hrd, ?_⟩
  obtain ⟨fs, T, he⟩ := T39e
  refine ⟨_, run_struct_eql T (he ⟨[97], 1, 0⟩ ⟨[97], 1, 0⟩) w11 _ _, ?_, p11⟩
  rw [hit_beq]
  rfl
end Go.SW
