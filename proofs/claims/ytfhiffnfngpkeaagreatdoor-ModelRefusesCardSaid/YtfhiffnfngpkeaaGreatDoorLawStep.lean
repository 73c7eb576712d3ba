/- A law's loop over ops; what a law asks of the store. -/
import Derived.Test.YtfhiffnfngpkeaaGreatDoorLaw2
set_option linter.unusedVariables false
namespace Go.SW
open Go Go.Proofs Pl

/-- an op of the document's, as an element -/
def Lop : Ly Pl.Op where
  sz := 8
  rel := fun w F o cs => ∃ A n c, cs = ocells o A n c ∧ Sl Lst w F A n c o.words
  len := by rintro w F o cs ⟨A, n, c, rfl, _⟩; rfl
  flat := by
    rintro w F o cs ⟨A, n, c, rfl, _⟩ v hv
    simp only [ocells, List.mem_cons, List.not_mem_nil, or_false] at hv
    rcases hv with rfl | rfl | rfl | rfl | rfl | rfl | rfl | rfl <;> rfl
  keep := by rintro w w' F o cs ⟨A, n, c, rfl, h⟩ hk; exact ⟨A, n, c, rfl, h.keep hk⟩
  mono := by rintro w F G o cs ⟨A, n, c, rfl, h⟩ hk; exact ⟨A, n, c, rfl, h.mono hk⟩

theorem law_step {X : Nat → Prop} {w : World} {k : Nat} {M : Md} {t : Int} (s : Stx X w k M) (hok : Ok t M) (h0 : 0 ≤ t) (ht : t < 90) {A0 : Option Addr} {n0 c0 : Nat} {xs : List Pl.Op} {F : Nat → Prop} (hs : Sl Lop w F A0 n0 c0 xs) {i : Nat} (hi : i < n0) {K : World → Prop}
    (hK : ∀ (w10 : World) (X' : Nat → Prop) (o : Pl.Op), xs[i]? = some o → (∀ j, X j → X' j) → Stx X' w10 k (act M (cutOp o)).1 → Ok (t + 1) (act M (cutOp o)).1 → Keep (fun j => j < w.heap.size ∧ ¬ X j) w w10 → K w10) :
    (0 ≤ (i : Int) ∧ (i : Int) < ((n0 : Nat) : Int)) ∧
      SOMEA A0 fun a32 =>
      ∃ (x33_0 : Int) (s33_1 : ByteArray) (s33_2 : ByteArray) (s33_3 : ByteArray) (x33_4 : Int) (x33_5 : Int) (x33_6 : Int) (A33_7 : Option Addr) (n33_7 : Nat) (c33_7 : Nat), RD w (Addr.add a32 (Int.toNat (i : Int) * 8)) 0 [(.int .i64 x33_0), (.string s33_1), (.string s33_2), (.string s33_3), (.int .i64 x33_4), (.int .i64 x33_5), (.int .i64 x33_6), (.slice A33_7 n33_7 c33_7)] ∧
      CALL PP 12 [(.agg #[(.int .i64 x33_0), (.string s33_1), (.string s33_2), (.string s33_3), (.int .i64 x33_4), (.int .i64 x33_5), (.int .i64 x33_6), (.slice A33_7 n33_7 c33_7)])] w fun r34 w5 =>
      ∃ (x34a_0 : Int) (s34a_1 : ByteArray) (s34a_2 : ByteArray) (s34a_3 : ByteArray) (x34a_4 : Int) (x34a_5 : Int) (x34a_6 : Int) (A34a_7 : Option Addr) (n34a_7 : Nat) (c34a_7 : Nat) (x34b_0 : Int) (s34b_1 : ByteArray) (s34b_2 : ByteArray) (s34b_3 : ByteArray) (x34b_4 : Int) (x34b_5 : Int) (x34b_6 : Int) (A34b_7 : Option Addr) (n34b_7 : Nat) (c34b_7 : Nat),
        r34 = (.tuple #[(.agg #[(.int .i64 x34a_0), (.string s34a_1), (.string s34a_2), (.string s34a_3), (.int .i64 x34a_4), (.int .i64 x34a_5), (.int .i64 x34a_6), (.slice A34a_7 n34a_7 c34a_7)]), (.agg #[(.int .i64 x34b_0), (.string s34b_1), (.string s34b_2), (.string s34b_3), (.int .i64 x34b_4), (.int .i64 x34b_5), (.int .i64 x34b_6), (.slice A34b_7 n34b_7 c34b_7)])]) ∧
      NEW w5 (.cells #[(.int .i64 (0 : Int)), (.string (⟨#[]⟩ : ByteArray)), (.string (⟨#[]⟩ : ByteArray)), (.string (⟨#[]⟩ : ByteArray)), (.int .i64 (0 : Int)), (.int .i64 (0 : Int)), (.int .i64 (0 : Int)), (.slice none 0 0)] 28) fun k7 w6 =>
      NEW w6 (.cells #[(.int .i64 (0 : Int)), (.string (⟨#[]⟩ : ByteArray)), (.string (⟨#[]⟩ : ByteArray)), (.string (⟨#[]⟩ : ByteArray)), (.int .i64 (0 : Int)), (.int .i64 (0 : Int)), (.int .i64 (0 : Int)), (.slice none 0 0)] 29) fun k8 w7 =>
      ST w7 (⟨k7, 0, none⟩ : Addr) 0 [(.int .i64 x34a_0), (.string s34a_1), (.string s34a_2), (.string s34a_3), (.int .i64 x34a_4), (.int .i64 x34a_5), (.int .i64 x34a_6), (.slice A34a_7 n34a_7 c34a_7)] fun w8 =>
      ST w8 (⟨k8, 0, none⟩ : Addr) 0 [(.int .i64 x34b_0), (.string s34b_1), (.string s34b_2), (.string s34b_3), (.int .i64 x34b_4), (.int .i64 x34b_5), (.int .i64 x34b_6), (.slice A34b_7 n34b_7 c34b_7)] fun w9 =>
      ∃ (x38_0 : Int) (s38_1 : ByteArray) (s38_2 : ByteArray) (s38_3 : ByteArray) (x38_4 : Int) (x38_5 : Int) (x38_6 : Int) (A38_7 : Option Addr) (n38_7 : Nat) (c38_7 : Nat), RD w9 (⟨k7, 0, none⟩ : Addr) 0 [(.int .i64 x38_0), (.string s38_1), (.string s38_2), (.string s38_3), (.int .i64 x38_4), (.int .i64 x38_5), (.int .i64 x38_6), (.slice A38_7 n38_7 c38_7)] ∧
      CALL PP 13 [(.pointer (some ⟨k, 0, none⟩)), (.agg #[(.int .i64 x38_0), (.string s38_1), (.string s38_2), (.string s38_3), (.int .i64 x38_4), (.int .i64 x38_5), (.int .i64 x38_6), (.slice A38_7 n38_7 c38_7)])] w9 fun r39 w10 =>
      ∃ (x39_0 : Int) (x39_1 : Int) (s39_2 : ByteArray) (A39_3 : Option Addr) (n39_3 : Nat) (c39_3 : Nat) (A39_4 : Option Addr) (n39_4 : Nat) (c39_4 : Nat), r39 = (.agg #[(.int .i64 x39_0), (.int .i64 x39_1), (.string s39_2), (.slice A39_3 n39_3 c39_3), (.slice A39_4 n39_4 c39_4)]) ∧
      K w10 := by
  refine ⟨⟨by omega, by omega⟩, ?_⟩
  obtain ⟨a, cs, o, hA, ho, hrel, hrd⟩ := hs.get hi
  obtain ⟨A, n, c, rfl, hws⟩ := hrel
  refine SOMEA.i hA ⟨_, _, _, _, _, _, _, _, _, _, by rw [Int.toNat_natCast]; exact hrd, ?_⟩
  refine CALL.i (law_own o hws) (by kernel_rfl) ?_
  rintro r w5 ⟨A1, c1, A2, c2, rfl, q5, o1, o2, f1, f2⟩
  refine ⟨_, _, _, _, _, _, _, _, _, _, _, _, _, _, _, _, _, _, _, _, rfl, ?_⟩
  refine NEW.i fun k7 w6 hk7 hs6 q6 a6 => NEW.i fun k8 w7 hk8 hs7 q7 a7 => ?_
  refine ST.i (a6.no q7) (Nat.le_refl _) rfl fun w8 hs8 q8 a8 => ?_
  refine ST.i (q8.at_ a7 (by omega)) (Nat.le_refl _) rfl fun w9 hs9 q9 a9 => ?_
  have b8 := q9.at_ a8 (by omega)
  have p7 := (q5.trans q6).trans q7
  have q79 : Keep (fun j => j = k7 ∨ j = k8) w7 w9 := (q8.mono fun j _ hj => .inl hj).trans (q9.mono fun j _ hj => .inr hj)
  have s9 : Stx (fun j => X j ∨ (w.heap.size ≤ j ∧ j < w7.heap.size)) w9 k M := (s.grow p7).wr q79 (fun j hj => by
    have hs5 := q5.size
    have h1w := s.lt (j := 1) (by obtain ⟨ow, kn, bb, mb, pt, g1, g2, g3, g4⟩ := s; exact g3)
    refine ⟨.inr ?_, ?_⟩
    · rcases hj with rfl | rfl <;> omega
    · rcases hj with rfl | rfl <;> omega)
  refine ⟨_, _, _, _, _, _, _, _, _, _, RD.i b8, ?_⟩
  have lt5 : ∀ j, ownBlk A1 j → j < w5.heap.size := o1.lt
  have o9 : Own Lst 9 w9 No A1 (few o.words).length c1 (few o.words) := ((o1.no q6).no q7).kept q79 (fun j hj _ he => hj.elim (fun h => h) (fun h => by have := lt5 j h; omega))
  refine do_read (X := fun j => X j ∨ (w.heap.size ≤ j ∧ j < w7.heap.size)) s9 hok ht (cutOp o) (A := A1) (n := (few o.words).length) (c := c1) (cutOp_at o9.sl o9.none0) fun w10 X' B1 d1 B2 d2 hX hs10 hk10 _ _ _ => ?_
  refine hK w10 X' o ho (fun j hj => hX j (.inl hj)) hs10 (ok_act ⟨h0, by omega⟩ hok (cutOp o)) ?_
  have z9 : Keep No w w9 := p7.fresh q79 (fun j hj => by have := q5.size; rcases hj with rfl | rfl <;> omega)
  exact z9.no.trans' hk10 (fun j hj hs => ⟨hj, fun hx => hs.2 (.inl hx)⟩)

theorem stx_names {X : Nat → Prop} {w : World} {k : Nat} {M : Md} (h : Stx X w k M) : Calls PP 14 #[.pointer (some ⟨k, 0, none⟩)] w (Ret fun r w' => ∃ k', r = .pointer (some ⟨k', 0, none⟩) ∧ Keep No w w' ∧ IsNames w' k' (fun j => w.heap.size ≤ j ∧ j < w'.heap.size) M.n) := by
  obtain ⟨ow, kn, bb, mb, pt, h1, h2, h3, h4⟩ := h
  exact model_names h1
theorem stx_next {X : Nat → Prop} {w : World} {k : Nat} {M : Md} (h : Stx X w k M) : Calls PP 20 #[.pointer (some ⟨k, 0, none⟩)] w (Ret fun r w' => r = .int .i64 M.next ∧ w' = w) := by
  obtain ⟨ow, kn, bb, mb, pt, h1, h2, h3, h4⟩ := h
  exact model_next h1
theorem stx_mail {X : Nat → Prop} {w : World} {k : Nat} {M : Md} (h : Stx X w k M) (id : Int) : Calls PP 23 #[.pointer (some ⟨k, 0, none⟩), .int .i64 id] w (Ret fun r w' => r = .tuple #[.string (bs ((mailOf M id).getD [])), .bool (mailOf M id).isSome] ∧ w' = w) := by
  obtain ⟨ow, kn, bb, mb, pt, h1, h2, h3, h4⟩ := h
  exact model_mail h1 id
theorem stx_box {X : Nat → Prop} {w : World} {k : Nat} {M : Md} (h : Stx X w k M) (hb : Bd M) (id : Int) :
    Calls PP 17 #[.pointer (some ⟨k, 0, none⟩), .int .i64 id] w (Ret fun r w' => Keep No w w' ∧ match boxOf M id with
      | none => r = .tuple #[.pointer none, .bool false]
      | some b => ∃ k', r = .tuple #[.pointer (some ⟨k', 0, none⟩), .bool true] ∧ IsBox w' k' (fun j => w.heap.size ≤ j) b) := by
  obtain ⟨ow, kn, bb, mb, pt, h1, h2, h3, h4⟩ := h
  exact model_box h1 (fun x hx => by have := hb.blen x hx; omega) id
theorem stx_mails {X : Nat → Prop} {w : World} {k : Nat} {M : Md} (h : Stx X w k M) (hr : RisingI M.mails) (hl : M.mails.length < 1000000) :
    Calls PP 19 #[.pointer (some ⟨k, 0, none⟩)] w (Ret fun r w' => ∃ A c, r = .slice A M.mails.length c ∧ Keep No w w' ∧ Own Ly.int 3 w' No A M.mails.length c (mkeys M.mails) ∧ ∀ j, ownBlk A j → w.heap.size ≤ j) := by
  obtain ⟨ow, kn, bb, mb, pt, h1, h2, h3, h4⟩ := h
  exact model_mails h1 hr hl
theorem run_struct_neq {P : Program} {t : TypeId} {fs : List Field} (T : StructTy P t fs) {xs ys : List Value} {r : Bool} (h : eqF P fs xs ys = some r) (w : World) (xo yo : Operand) :
    (do eqGuard .neq t xo yo (.agg ⟨xs⟩) (.agg ⟨ys⟩); binOp .neq t (.agg ⟨xs⟩) (.agg ⟨ys⟩) : Sem Value).run P w = .ok (.bool !r) w := by
  simp only [Sem.run_bind, run_eqGuard_agg w .neq t xo yo _ _ T.guard, Result.andThen_ok, run_neq_struct]
  rw [run_equalIn_struct w 9999 t _ _ T.und T.stood, T.fields, eqF_run 9998 xs ys w fs r h]
  rfl
end Go.SW
