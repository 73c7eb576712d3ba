/- The store: answers handed on; status, add, fetch, append. -/
import Derived.Test.YtfhiffnfngpkeaaGreatDoorModel2
import Derived.Test.YtfhiffnfngpkeaaGreatDoorShelf
set_option linter.unusedVariables false
namespace Go.SW
open Go Go.Proofs Pl

/-- what an op leaves: the store is M', the answer a; what is new of the answer is nobody's -/
def DoneAct (w : World) (k : Nat) (ow : Nat → Tag) (kn bb mb : Nat) (M' : Md) (a : Ans) (r : Value) (w' : World) : Prop :=
  ∃ ow' pt', Keep (Fp ow) w w' ∧ IsModel w' k ow' M' kn bb mb pt' ∧ (∀ j, j < w.heap.size → ow j = .out → ow' j = .out) ∧ IsAns w' (fun j => w.heap.size ≤ j ∧ ow' j = .out) a r
theorem IsModel.new_out {w : World} {k : Nat} {ow : Nat → Tag} {M : Md} {kn bb mb : Nat} {pt : Int → Nat} (h : IsModel w k ow M kn bb mb pt) {j : Nat} (hj : w.heap.size ≤ j) : ow j = .out := by
  by_cases hc : ow j = .out
  · exact hc
  · exact absurd (h.lt j hc) (Nat.not_lt.2 hj)
theorem DoneAct.same {w w' : World} {k : Nat} {ow : Nat → Tag} {M : Md} {kn bb mb : Nat} {pt : Int → Nat} {a : Ans} {r : Value} (h : IsModel w k ow M kn bb mb pt) (hk : Keep No w w') (ha : IsAns w' (fun j => w.heap.size ≤ j) a r) : DoneAct w k ow kn bb mb M a r w' :=
  ⟨ow, pt, hk.no, h.no hk, fun _ _ h => h, ha.mono fun j hj => ⟨hj, h.new_out hj⟩⟩
theorem DoneAct.up {w w2 w3 w4 : World} {k k4 : Nat} {ow : Nat → Tag} {M' : Md} {kn bb mb : Nat} {a : Ans} {r : Value} (hk : Keep (Fp ow) w w2) (h : DoneAct w2 k ow kn bb mb M' a r w3)
    (h4 : w.heap.size ≤ k4) (h4' : k4 < w2.heap.size) (ho : ow k4 = .out) (hk' : Keep (fun j => j = k4) w3 w4) : DoneAct w k ow kn bb mb M' a r w4 := by
  obtain ⟨ow', pt', h1, h2, h3, h5⟩ := h
  have ho' := h3 k4 h4' ho
  refine ⟨ow', pt', (hk.trans h1).tmp hk' h4, h2.kept hk' (fun j hj he => hj (he ▸ ho')), fun j hj hj' => h3 j (Nat.lt_of_lt_of_le hj hk.size) hj', ?_⟩
  refine (h5.kept hk' ?_).mono fun j hj => ⟨Nat.le_trans hk.size hj.1, hj.2⟩
  rintro j ⟨hj, _⟩ he
  omega
/-- an answer is handed on through the block k4 -/
theorem pass_ans {w w2 w3 : World} {k k4 : Nat} {ow : Nat → Tag} {M' : Md} {kn bb mb : Nat} {a : Ans} {r : Value} {l : List Value} (hk : Keep (Fp ow) w w2) (h : DoneAct w2 k ow kn bb mb M' a r w3)
    (h4 : w.heap.size ≤ k4) (a2 : At w2 k4 (.cells ⟨l⟩ 35 (0, 0))) (hl : l.length = 5) (ho : ow k4 = .out) :
    ∃ (x_0 : Int) (x_1 : Int) (s_2 : ByteArray) (A_3 : Option Addr) (n_3 : Nat) (c_3 : Nat) (A_4 : Option Addr) (n_4 : Nat) (c_4 : Nat), r = (.agg #[(.int .i64 x_0), (.int .i64 x_1), (.string s_2), (.slice A_3 n_3 c_3), (.slice A_4 n_4 c_4)]) ∧
    ST w3 (⟨k4, 0, none⟩ : Addr) 0 [(.int .i64 x_0), (.int .i64 x_1), (.string s_2), (.slice A_3 n_3 c_3), (.slice A_4 n_4 c_4)] fun w5 =>
    ∃ (x4r_0 : Int) (x4r_1 : Int) (s4r_2 : ByteArray) (A4r_3 : Option Addr) (n4r_3 : Nat) (c4r_3 : Nat) (A4r_4 : Option Addr) (n4r_4 : Nat) (c4r_4 : Nat), RD w5 (⟨k4, 0, none⟩ : Addr) 0 [(.int .i64 x4r_0), (.int .i64 x4r_1), (.string s4r_2), (.slice A4r_3 n4r_3 c4r_3), (.slice A4r_4 n4r_4 c4r_4)] ∧
    DoneAct w k ow kn bb mb M' a (.agg #[(.int .i64 x4r_0), (.int .i64 x4r_1), (.string s4r_2), (.slice A4r_3 n4r_3 c4r_3), (.slice A4r_4 n4r_4 c4r_4)]) w5 := by
  have hd := h
  obtain ⟨ow', pt', h1, h2, h3, A1, c1, A2, c2, rfl, h6, h7, h8⟩ := h
  refine ⟨_, _, _, _, _, _, _, _, _, rfl, ?_⟩
  have a3 : At w3 k4 (.cells ⟨l⟩ 35 (0, 0)) := h1.at_ a2 (fun hf => hf ho)
  exact ans_ret (R := DoneAct w k ow kn bb mb M' a) a3 hl fun w4 k4' hs => hd.up hk h4 a2.lt ho k4'
theorem call_no {w w2 : World} {k k4 : Nat} {ow : Nat → Tag} {M : Md} {kn bb mb : Nat} {pt : Int → Nat} {l : List Value} (e : Int) (h : IsModel w2 k ow M kn bb mb pt) (hk : Keep (Fp ow) w w2)
    (h4 : w.heap.size ≤ k4) (a2 : At w2 k4 (.cells ⟨l⟩ 35 (0, 0))) (hl : l.length = 5) (ho : ow k4 = .out) :
    CALL PP 35 [.int .i64 e] w2 fun r w3 => ∃ (x_0 : Int) (x_1 : Int) (s_2 : ByteArray) (A_3 : Option Addr) (n_3 : Nat) (c_3 : Nat) (A_4 : Option Addr) (n_4 : Nat) (c_4 : Nat), r = (.agg #[(.int .i64 x_0), (.int .i64 x_1), (.string s_2), (.slice A_3 n_3 c_3), (.slice A_4 n_4 c_4)]) ∧
    ST w3 (⟨k4, 0, none⟩ : Addr) 0 [(.int .i64 x_0), (.int .i64 x_1), (.string s_2), (.slice A_3 n_3 c_3), (.slice A_4 n_4 c_4)] fun w5 =>
    ∃ (x4r_0 : Int) (x4r_1 : Int) (s4r_2 : ByteArray) (A4r_3 : Option Addr) (n4r_3 : Nat) (c4r_3 : Nat) (A4r_4 : Option Addr) (n4r_4 : Nat) (c4r_4 : Nat), RD w5 (⟨k4, 0, none⟩ : Addr) 0 [(.int .i64 x4r_0), (.int .i64 x4r_1), (.string s4r_2), (.slice A4r_3 n4r_3 c4r_3), (.slice A4r_4 n4r_4 c4r_4)] ∧
    DoneAct w k ow kn bb mb M (no e) (.agg #[(.int .i64 x4r_0), (.int .i64 x4r_1), (.string s4r_2), (.slice A4r_3 n4r_3 c4r_3), (.slice A4r_4 n4r_4 c4r_4)]) w5 := by
  refine CALL.i (model_no e w2) (by kernel_rfl) ?_
  rintro r w3 ⟨rfl, k3⟩
  exact pass_ans hk (DoneAct.same (a := no e) h k3 (IsAns.flat w3 _ e 0 [])) h4 a2 hl ho
/-- an answer without slices, laid into the block k4 -/
theorem flat_ans {w w3 : World} {k k4 : Nat} {ow ow' : Nat → Tag} {M' : Md} {kn bb mb : Nat} {pt' : Int → Nat} {l : List Value} {e n : Int} {t : Str} (hk : Keep (Fp ow) w w3) (h2 : IsModel w3 k ow' M' kn bb mb pt') (h3 : ∀ j, j < w.heap.size → ow j = .out → ow' j = .out)
    (h4 : w.heap.size ≤ k4) (a3 : At w3 k4 (.cells ⟨l⟩ 35 (0, 0))) (hl : l.length = 5) (ho : ow' k4 = .out) :
    ST w3 (⟨k4, 0, none⟩ : Addr) 0 [(.int .i64 e), (.int .i64 n), (.string (bs t)), (.slice none 0 0), (.slice none 0 0)] fun w5 =>
    ∃ (x4r_0 : Int) (x4r_1 : Int) (s4r_2 : ByteArray) (A4r_3 : Option Addr) (n4r_3 : Nat) (c4r_3 : Nat) (A4r_4 : Option Addr) (n4r_4 : Nat) (c4r_4 : Nat), RD w5 (⟨k4, 0, none⟩ : Addr) 0 [(.int .i64 x4r_0), (.int .i64 x4r_1), (.string s4r_2), (.slice A4r_3 n4r_3 c4r_3), (.slice A4r_4 n4r_4 c4r_4)] ∧
    DoneAct w k ow kn bb mb M' ⟨e, n, t, [], []⟩ (.agg #[(.int .i64 x4r_0), (.int .i64 x4r_1), (.string s4r_2), (.slice A4r_3 n4r_3 c4r_3), (.slice A4r_4 n4r_4 c4r_4)]) w5 :=
  ans_ret (R := DoneAct w k ow kn bb mb M' ⟨e, n, t, [], []⟩) a3 hl fun w4 k4' hs => ⟨ow', pt', hk.tmp k4' h4, h2.kept k4' (fun j hj he => hj (he ▸ ho)), h3, IsAns.flat w4 _ e n t⟩

/-! ## status -/
theorem itoa {i : Int} (h0 : 0 ≤ i) (h1 : i < 100) (w : World) : Calls PP 54 #[.int .i64 i] w (Ret fun r w' => r = .string (bs (dec i)) ∧ w' = w) := by
  have h := Tryz.strconv_Itoa_small i.toNat (by omega) w
  rw [Int.toNat_of_nonneg h0] at h
  refine h.mono fun e w' he => ?_
  obtain ⟨rfl, rfl⟩ := he
  exact ⟨rfl, rfl⟩
theorem bs_append (a b : Str) : bs a ++ bs b = bs (a ++ b) := by
  apply ByteArray.ext
  simp [bs]
theorem dec_length {i : Int} (h0 : 0 ≤ i) (h1 : i < 100) : (dec i).length ≤ 2 := by
  unfold dec
  by_cases h : i.toNat < 10
  · rw [Lib.decDigits_one h]; simp
  · rw [Lib.decDigits_two h (by omega)]; simp

theorem model_status {w : World} {k : Nat} {F : Nat → Prop} {B : Bx} (h : IsBox w k F B) (hf : FlagsOk B) (hl : B.l.length < 100) (hv : 0 ≤ B.validity ∧ B.validity < 100) (hn : 0 ≤ B.next ∧ B.next < 100) :
    Calls PP 76 #[.pointer (some ⟨k, 0, none⟩)] w (Ret fun r w' => r = .agg ⟨acells 0 B.l.length (bs (status B).text) none 0 0 none 0 0⟩ ∧ Keep No w w') := by
  refine c76 ?_
  unfold S76
  refine NEW.i fun k2 w1 hk2 hs1 k1 a1 => ?_
  refine CALL.i (box_list (G := No) (h.no k1) (by omega) (fun j hj => False.elim hj)) (by kernel_rfl) ?_
  rintro r w2 ⟨A, c, rfl, k2', o2, f2⟩
  refine ⟨_, _, _, rfl, ?_⟩
  have h2 := (h.no k1).no k2'
  refine CALL.i (box_validity h2) (by kernel_rfl) ?_
  rintro r w3 ⟨rfl, rfl⟩
  refine ⟨_, rfl, ?_⟩
  refine CALL.i (itoa hv.1 hv.2 w3) (by kernel_rfl) ?_
  rintro r w4 ⟨rfl, rfl⟩
  refine ⟨_, rfl, ?_⟩
  have l1 := dec_length hv.1 hv.2
  have l2 := dec_length hn.1 hn.2
  have e32 : (⟨#[32]⟩ : ByteArray) = bs [32] := rfl
  have hmax : IntKind.max .i64 = 9223372036854775807 := rfl
  rw [e32, hmax]
  refine ⟨by rw [bs_size, bs_size]; simp; omega, ?_⟩
  refine CALL.i (box_next h2) (by kernel_rfl) ?_
  rintro r w5 ⟨rfl, rfl⟩
  refine ⟨_, rfl, ?_⟩
  refine CALL.i (itoa hn.1 hn.2 w5) (by kernel_rfl) ?_
  rintro r w6 ⟨rfl, rfl⟩
  refine ⟨_, rfl, ?_⟩
  rw [bs_append, bs_append, bs_append]
  refine ⟨by rw [bs_size, bs_size]; simp; omega, by rw [bs_size, bs_size]; simp; omega, ?_⟩
  refine CALL.i (box_unseen h2 hf (by omega)) (by kernel_rfl) ?_
  rintro r w7 ⟨rfl, k7⟩
  refine ⟨_, rfl, ?_⟩
  have hu : unseenB B < 100 := Nat.lt_of_le_of_lt (List.length_filter_le _ _) hl
  have l3 := dec_length (i := (unseenB B : Int)) (by omega) (by omega)
  refine CALL.i (itoa (i := (unseenB B : Int)) (by omega) (by omega) w7) (by kernel_rfl) ?_
  rintro r w8 ⟨rfl, rfl⟩
  refine ⟨_, rfl, ?_⟩
  refine ⟨by rw [bs_size, bs_size]; simp; omega, ?_⟩
  rw [bs_append]
  have hk8 := (k1.trans k2').trans k7
  refine ans_ret (R := fun r w' => r = .agg ⟨acells 0 B.l.length (bs (status B).text) none 0 0 none 0 0⟩ ∧ Keep No w w') ((a1.no k2').no k7) rfl fun w9 k9 hs9 => ?_
  refine ⟨?_, hk8.tmp k9 (Nat.le_of_eq hk2)⟩
  simp [status]

/-! ## add, fetch -/
theorem model_add {w : World} {k : Nat} {F : Nat → Prop} {B : Bx} (h : IsBox w k F B) (hl : B.l.length < 1000000000) (hn0 : 0 ≤ B.next) (hn1 : B.next < 4611686018427387904) (mail f : Int) (hF : ∀ j, F j → j < w.heap.size) :
    Calls PP 118 #[.pointer (some ⟨k, 0, none⟩), .int .i64 mail, .int .i64 f] w (Ret fun r w' => r = .agg ⟨acells (addB B mail f).2.2 (addB B mail f).2.1.uid (bs []) none 0 0 none 0 0⟩ ∧ Keep F w w' ∧ IsBox w' k (fun j => F j ∨ (w.heap.size ≤ j ∧ j < w'.heap.size)) (addB B mail f).1) := by
  refine c118 ?_
  unfold S118
  refine NEW.i fun k6 w1 hk6 hs1 k1 a1 => ?_
  refine CALL.i (box_add (h.no k1) hl hn0 hn1 mail f (fun j hj => Nat.lt_of_lt_of_le (hF j hj) k1.size)) (by kernel_rfl) ?_
  rintro r w2 ⟨rfl, k2, h2⟩
  refine ⟨_, _, _, _, rfl, ?_⟩
  have hs2 := k2.size
  refine NEW.i fun k7 w3 hk7 hs3 k3 a3 => ?_
  refine ST.i a3 (Nat.le_refl _) rfl fun w4 hs4 k4 a4 => ?_
  refine ⟨_, cell_at a4 rfl, ?_⟩
  have n6 : ¬ F k6 := fun hc => by have := hF k6 hc; omega
  have b4 := k4.at_ ((k2.at_ a1 n6).no k3) (by omega)
  have k34 : Keep No w2 w4 := k3.tmp k4 (Nat.le_of_eq hk7)
  refine ans_ret (R := fun r w' => r = .agg ⟨acells (addB B mail f).2.2 (addB B mail f).2.1.uid (bs []) none 0 0 none 0 0⟩ ∧ Keep F w w' ∧ IsBox w' k (fun j => F j ∨ (w.heap.size ≤ j ∧ j < w'.heap.size)) (addB B mail f).1) b4 rfl fun w5 k5 hs5 => ?_
  refine ⟨rfl, ((k1.no.trans k2).and_no k34).tmp k5 (Nat.le_of_eq hk6), ?_⟩
  have h4 := h2.no k34
  refine (h4.kept k5 ?_).mono ?_
  · rintro j (hj | hj) he
    · exact n6 (he ▸ hj)
    · omega
  · rintro j (hj | hj)
    · exact .inl hj
    · exact .inr (by omega)

def ocells (o : Pl.Op) (A : Option Addr) (n c : Nat) : List Value := [.int .i64 o.kind, .string (bs o.box), .string (bs o.to), .string (bs o.text), .int .i64 o.uid, .int .i64 o.flags, .int .i64 o.off, .slice A n c]

section
variable {w : World} {k : Nat} {ow : Nat → Tag} {M : Md} {kn bb mb : Nat} {pt : Int → Nat}
theorem model_fetch (h : IsModel w k ow M kn bb mb pt) {x : Bx} (hx : x ∈ M.b) (hl : x.l.length < 1000000000) (o : Pl.Op) (A : Option Addr) (n c : Nat) :
    Calls PP 78 #[.pointer (some ⟨k, 0, none⟩), .pointer (some ⟨pt x.validity, 0, none⟩), .agg ⟨ocells o A n c⟩] w (Ret fun r w' => DoneAct w k ow kn bb mb M (fetch M x o) r w') := by
  refine c78 ?_
  unfold S78
  refine NEW.i fun k5 w1 hk5 hs1 k1 a1 => NEW.i fun k6 w2 hk6 hs2 k2 a2 => ?_
  have hk2 := k1.trans k2
  refine ⟨_, cell_at (a1.no k2) rfl, ?_⟩
  refine CALL.i (box_get ((h.no hk2).box x hx) (by omega) o.uid) (by kernel_rfl) ?_
  rintro r w3 ⟨rfl, k3⟩
  refine ⟨_, _, _, _, rfl, ?_⟩
  refine NEW.i fun k7 w4 hk7 hs4 k4 a4 => ?_
  refine ST.i a4 (Nat.le_refl _) rfl fun w5 hs5 k5' a5 => ?_
  have hs3 := k3.size
  have k35 : Keep No w3 w5 := k4.tmp k5' (Nat.le_of_eq hk7)
  have hk5' := (hk2.trans k3).trans k35
  have b5 := (a2.no k3).no k35
  have h5 := h.no hk5'
  cases hf : findB x o.uid with
  | none =>
    have hg : getB x o.uid = (.none, 7) := by simp [getB, hf]
    rw [hg] at a5 ⊢
    refine split_i (fun _ => ?_) (fun hc => by simp at hc)
    have he : fetch M x o = no 7 := by simp [fetch, hf]
    rw [he]
    exact call_no 7 h5 hk5'.no (by omega) b5 rfl (h.new_out (by omega))
  | some e =>
    have hg : getB x o.uid = (e, 0) := by simp [getB, hf]
    rw [hg] at a5 ⊢
    refine split_i (fun hc => by simp at hc) (fun _ => ?_)
    refine DRAW.i fun w6 hw6 k6' => ?_
    have h6 := h5.no k6'
    have hlook : ∃ r : Value, (Instr.lookup 80 (.map (some mb)) (.int .i64 e.mail) false).run PP w6 = .ok r w6 ∧ r = .string (bs ((mailOf M e.mail).getD [])) := by
      refine ⟨_, map_lookup1 T80 h6.mails e.mail, ?_⟩
      have : mget M.mails e.mail = mailOf M e.mail := rfl
      rw [this]
      cases mailOf M e.mail with
      | none => rfl
      | some v => rfl
    obtain ⟨r, hr1, hr2⟩ := hlook
    refine ⟨_, cell_at (a5.no k6') rfl, _, cell_at h6.top rfl, _, cell_at (a5.no k6') rfl, r, hr1, _, hr2, ?_⟩
    have he : fetch M x o = ⟨0, e.flags, (mailOf M e.mail).getD [], [], []⟩ := by simp [fetch, hf]
    rw [he]
    exact flat_ans (hk5'.trans k6').no h6 (fun _ _ h => h) (by omega) (b5.no k6') rfl (h.new_out (by omega))

/-- a box is another one; P: what is new and its -/
theorem IsModel.setBox {w' : World} (h : IsModel w k ow M kn bb mb pt) {x y : Bx} (hx : x ∈ M.b) (hv : y.validity = x.validity) (P : Nat → Prop) (hk : Keep (fun j => ow j = .box x.validity) w w')
    (hb : IsBox w' (pt x.validity) (fun j => ow j = .box x.validity ∨ (w.heap.size ≤ j ∧ j < w'.heap.size ∧ P j)) y) :
    ∃ ow', (∀ j, j < w.heap.size → ow' j = ow j) ∧ (∀ j, ¬ P j → ow' j = ow j) ∧ IsModel w' k ow' (setBox M y) kn bb mb pt := by
  classical
  let ow' : Nat → Tag := fun j => if w.heap.size ≤ j ∧ j < w'.heap.size ∧ P j then .box x.validity else ow j
  have hold : ∀ j, j < w.heap.size → ow' j = ow j := fun j hj => if_neg (by omega)
  have hnp : ∀ j, ¬ P j → ow' j = ow j := fun j hj => if_neg (fun h => hj h.2.2)
  have hne : ∀ j t, t ≠ Tag.out → t ≠ Tag.box x.validity → ow' j = t → ow j = t := by
    intro j t h1 h2 h3
    by_cases hc : w.heap.size ≤ j ∧ j < w'.heap.size ∧ P j
    · have : ow' j = .box x.validity := if_pos hc
      exact absurd (h3.symm.trans this) h2
    · have : ow' j = ow j := if_neg hc
      rw [← this]; exact h3
  have hsame : ∀ j t, t ≠ Tag.out → t ≠ Tag.box x.validity → ow j = t → w'.heap[j]? = w.heap[j]? := fun j t h1 h2 h3 => hk.keep j (h.lt j (h3 ▸ h1)) (fun he => h2 (h3.symm.trans he))
  have htag : ∀ j t, t ≠ Tag.out → ow j = t → ow' j = t := fun j t h1 h3 => (hold j (h.lt j (h3 ▸ h1))).trans h3
  refine ⟨ow', hold, hnp, ?_⟩
  have hmap : ((Pl.setBox M y).b.map fun z => (z.validity, pt z.validity)) = M.b.map fun z => (z.validity, pt z.validity) := by
    simp only [Pl.setBox, List.map_map]
    refine List.map_congr_left fun z hz => ?_
    simp only [Function.comp]
    split
    · rename_i he; rw [he]
    · rfl
  refine { top := ?_, otop := ?_, obb := ?_, omb := ?_, names := ?_, boxes := ?_, mails := ?_, box := ?_, lt := ?_ }
  · exact (hsame k .top (by intro h; cases h) (by intro h; cases h) h.otop).trans h.top
  · exact htag k .top (by intro h; cases h) h.otop
  · exact htag bb .boxes (by intro h; cases h) h.obb
  · exact htag mb .mails (by intro h; cases h) h.omb
  · refine (h.names.keep fun j hj _ => hsame j .names (by intro h; cases h) (by intro h; cases h) hj).mono fun j hj => ?_
    exact htag j .names (by intro h; cases h) hj
  · rw [hmap]
    exact h.boxes.keep (hsame bb .boxes (by intro h; cases h) (by intro h; cases h) h.obb)
  · exact h.mails.keep (hsame mb .mails (by intro h; cases h) (by intro h; cases h) h.omb)
  · intro z hz
    obtain ⟨z0, hz0, he⟩ := List.mem_map.1 hz
    by_cases hv' : z0.validity = y.validity
    · rw [if_pos hv'] at he
      subst he
      rw [hv]
      refine hb.mono ?_
      rintro j (hj | hj)
      · exact htag j _ (by intro h; cases h) hj
      · exact if_pos hj
    · rw [if_neg hv'] at he
      subst he
      have hvx : z0.validity ≠ x.validity := fun he => hv' (he.trans hv.symm)
      have hvx' : Tag.box z0.validity ≠ Tag.box x.validity := fun he => hvx (Tag.box.inj he)
      refine ((h.box z0 hz0).keep fun j hj _ => hsame j _ (by intro h; cases h) hvx' hj).mono fun j hj => ?_
      exact htag j _ (by intro h; cases h) hj
  · intro j hj
    by_cases hc : w.heap.size ≤ j ∧ j < w'.heap.size ∧ P j
    · exact hc.2.1
    · have : ow' j = ow j := if_neg hc
      rw [this] at hj
      exact Nat.lt_of_lt_of_le (h.lt j hj) hk.size
end
end Go.SW
