/- The store: answers handed on; status, add, fetch, append. -/
import Derived.Test.YtfhiffnfngpkeaaGreatDoorModel1
import Derived.Test.YtfhiffnfngpkeaaGreatDoorShelf
set_option linter.unusedVariables false
namespace Go.SW
open Go Go.Proofs Pl

/-- what an op leaves: the store is M', the answer a; what is new of the answer is nobody's -/
def DoneAct (w : World) (k : Nat) (ow : Nat → Tag) (kn bb mb : Nat) (M' : Md) (a : Ans) (r : Value) (w' : World) : Prop :=
  ∃ ow' pt', Keep (Fp ow) w w' ∧ IsModel w' k ow' M' kn bb mb pt' ∧ (∀ j, j < w.heap.size → ow j = .out → ow' j = .out) ∧ IsAns w' (fun j => w.heap.size ≤ j ∧ ow' j = .out) a r
theorem IsModel.new_out {w : World} {k : Nat} {ow : Nat → Tag} {M : Md} {kn bb mb : Nat} {pt : Int → Nat} (h : IsModel w k ow M kn bb mb pt) {j : Nat} (hj : w.heap.size ≤ j) : ow j = .out := by
  by_cases hc : ow j = .out
  · exact hc
  · exact absurd (h.lt j hc) (Nat.not_lt.2 hj)
theorem DoneAct.same {w w' : World} {k : Nat} {ow : Nat → Tag} {M : Md} {kn bb mb : Nat} {pt : Int → Nat} {a : Ans} {r : Value} (h : IsModel w k ow M kn bb mb pt) (hk : Keep No w w') (ha : IsAns w' (fun j => w.heap.size ≤ j) a r) : DoneAct w k ow kn bb mb M a r w' :=
  ⟨ow, pt, hk.no, h.no hk, fun _ _ h => h, ha.mono fun j hj => ⟨hj, h.new_out hj⟩⟩
theorem DoneAct.up {w w2 w3 w4 : World} {k k4 : Nat} {ow : Nat → Tag} {M' : Md} {kn bb mb : Nat} {a : Ans} {r : Value} (hk : Keep (Fp ow) w w2) (h : DoneAct w2 k ow kn bb mb M' a r w3)
    (h4 : w.heap.size ≤ k4) (h4' : k4 < w2.heap.size) (ho : ow k4 = .out) (hk' : Keep (fun j => j = k4) w3 w4) : DoneAct w k ow kn bb mb M' a r w4 := by
  obtain ⟨ow', pt', h1, h2, h3, h5⟩ := h
  have ho' := h3 k4 h4' ho
  refine ⟨ow', pt', (hk.trans h1).tmp hk' h4, h2.kept hk' (fun j hj he => hj (he ▸ ho')), fun j hj hj' => h3 j (Nat.lt_of_lt_of_le hj hk.size) hj', ?_⟩
  refine (h5.kept hk' ?_).mono fun j hj => ⟨Nat.le_trans hk.size hj.1, hj.2⟩
  rintro j ⟨hj, _⟩ he
  omega
/-- an answer is handed on through the block k4 -/
theorem pass_ans {w w2 w3 : World} {k k4 : Nat} {ow : Nat → Tag} {M' : Md} {kn bb mb : Nat} {a : Ans} {r : Value} {l : List Value} (hk : Keep (Fp ow) w w2) (h : DoneAct w2 k ow kn bb mb M' a r w3)
    (h4 : w.heap.size ≤ k4) (a2 : At w2 k4 (.cells ⟨l⟩ 35 (0, 0))) (hl : l.length = 5) (ho : ow k4 = .out) :
    ∃ (x_0 : Int) (x_1 : Int) (s_2 : ByteArray) (A_3 : Option Addr) (n_3 : Nat) (c_3 : Nat) (A_4 : Option Addr) (n_4 : Nat) (c_4 : Nat), r = (.agg #[(.int .i64 x_0), (.int .i64 x_1), (.string s_2), (.slice A_3 n_3 c_3), (.slice A_4 n_4 c_4)]) ∧
    ST w3 (⟨k4, 0, none⟩ : Addr) 0 [(.int .i64 x_0), (.int .i64 x_1), (.string s_2), (.slice A_3 n_3 c_3), (.slice A_4 n_4 c_4)] fun w5 =>
    ∃ (x4r_0 : Int) (x4r_1 : Int) (s4r_2 : ByteArray) (A4r_3 : Option Addr) (n4r_3 : Nat) (c4r_3 : Nat) (A4r_4 : Option Addr) (n4r_4 : Nat) (c4r_4 : Nat), RD w5 (⟨k4, 0, none⟩ : Addr) 0 [(.int .i64 x4r_0), (.int .i64 x4r_1), (.string s4r_2), (.slice A4r_3 n4r_3 c4r_3), (.slice A4r_4 n4r_4 c4r_4)] ∧
    DoneAct w k ow kn bb mb M' a (.agg #[(.int .i64 x4r_0), (.int .i64 x4r_1), (.string s4r_2), (.slice A4r_3 n4r_3 c4r_3), (.slice A4r_4 n4r_4 c4r_4)]) w5 := by
  have hd := h
  obtain ⟨ow', pt', h1, h2, h3, A1, c1, A2, c2, rfl, h6, h7, h8⟩ := h
  refine ⟨_, _, _, _, _, _, _, _, _, rfl, ?_⟩
  have a3 : At w3 k4 (.cells ⟨l⟩ 35 (0, 0)) := h1.at_ a2 (fun hf => hf ho)
  exact ans_ret (R := DoneAct w k ow kn bb mb M' a) a3 hl fun w4 k4' hs => hd.up hk h4 a2.lt ho k4'
theorem call_no {w w2 : World} {k k4 : Nat} {ow : Nat → Tag} {M : Md} {kn bb mb : Nat} {pt : Int → Nat} {l : List Value} (e : Int) (h : IsModel w2 k ow M kn bb mb pt) (hk : Keep (Fp ow) w w2)
    (h4 : w.heap.size ≤ k4) (a2 : At w2 k4 (.cells ⟨l⟩ 35 (0, 0))) (hl : l.length = 5) (ho : ow k4 = .out) :
    CALL PP 35 [.int .i64 e] w2 fun r w3 => ∃ (x_0 : Int) (x_1 : Int) (s_2 : ByteArray) (A_3 : Option Addr) (n_3 : Nat) (c_3 : Nat) (A_4 : Option Addr) (n_4 : Nat) (c_4 : Nat), r = (.agg #[(.int .i64 x_0), (.int .i64 x_1), (.string s_2), (.slice A_3 n_3 c_3), (.slice A_4 n_4 c_4)]) ∧
    ST w3 (⟨k4, 0, none⟩ : Addr) 0 [(.int .i64 x_0), (.int .i64 x_1), (.string s_2), (.slice A_3 n_3 c_3), (.slice A_4 n_4 c_4)] fun w5 =>
    ∃ (x4r_0 : Int) (x4r_1 : Int) (s4r_2 : ByteArray) (A4r_3 : Option Addr) (n4r_3 : Nat) (c4r_3 : Nat) (A4r_4 : Option Addr) (n4r_4 : Nat) (c4r_4 : Nat), RD w5 (⟨k4, 0, none⟩ : Addr) 0 [(.int .i64 x4r_0), (.int .i64 x4r_1), (.string s4r_2), (.slice A4r_3 n4r_3 c4r_3), (.slice A4r_4 n4r_4 c4r_4)] ∧
    DoneAct w k ow kn bb mb M (no e) (.agg #[(.int .i64 x4r_0), (.int .i64 x4r_1), (.string s4r_2), (.slice A4r_3 n4r_3 c4r_3), (.slice A4r_4 n4r_4 c4r_4)]) w5 := by
  refine CALL.i (model_no e w2) (by kernel_rfl) ?_
  rintro r w3 ⟨rfl, k3⟩
  exact pass_ans hk (DoneAct.same (a := no e) h k3 (IsAns.flat w3 _ e 0 [])) h4 a2 hl ho
/-- an answer without slices, laid into the block k4 -/
theorem flat_ans {w w3 : World} {k k4 : Nat} {ow ow' : Nat → Tag} {M' : Md} {kn bb mb : Nat} {pt' : Int → Nat} {l : List Value} {e n : Int} {t : Str} (hk : Keep (Fp ow) w w3) (h2 : IsModel w3 k ow' M' kn bb mb pt') (h3 : ∀ j, j < w.heap.size → ow j = .out → ow' j = .out)
    (h4 : w.heap.size ≤ k4) (a3 : At w3 k4 (.cells ⟨l⟩ 35 (0, 0))) (hl : l.length = 5) (ho : ow' k4 = .out) :
    ST w3 (⟨k4, 0, none⟩ : Addr) 0 [(.int .i64 e), (.int .i64 n), (.string (bs t)), (.slice none 0 0), (.slice none 0 0)] fun w5 =>
    ∃ (x4r_0 : Int) (x4r_1 : Int) (s4r_2 : ByteArray) (A4r_3 : Option Addr) (n4r_3 : Nat) (c4r_3 : Nat) (A4r_4 : Option Addr) (n4r_4 : Nat) (c4r_4 : Nat), RD w5 (⟨k4, 0, none⟩ : Addr) 0 [(.int .i64 x4r_0), (.int .i64 x4r_1), (.string s4r_2), (.slice A4r_3 n4r_3 c4r_3), (.slice A4r_4 n4r_4 c4r_4)] ∧
    DoneAct w k ow kn bb mb M' ⟨e, n, t, [], []⟩ (.agg #[(.int .i64 x4r_0), (.int .i64 x4r_1), (.string s4r_2), (.slice A4r_3 n4r_3 c4r_3), (.slice A4r_4 n4r_4 c4r_4)]) w5 :=
  ans_ret (R := DoneAct w k ow kn bb mb M' ⟨e, n, t, [], []⟩) a3 hl fun w4 k4' hs => ⟨ow', pt', hk.tmp k4' h4, h2.kept k4' (fun j hj he => hj (he ▸ ho)), h3, IsAns.flat w4 _ e n t⟩

/-! ## status -/
theorem itoa {i : Int} (h0 : 0 ≤ i) (h1 : i < 100) (w : World) : Calls PP 54 #[.int .i64 i] w (Ret fun r w' => r = .string (bs (dec i)) ∧ w' = w) := by
  have h := Tryz.strconv_Itoa_small i.toNat (by omega) w
  rw [Int.toNat_of_nonneg h0] at h
  refine h.mono fun e w' he => ?_
  obtain ⟨rfl, rfl⟩ := he
  exact ⟨rfl, rfl⟩
theorem bs_append (a b : Str) : bs a ++ bs b = bs (a ++ b) := by
  apply ByteArray.ext
  simp [bs]
theorem dec_length {i : Int} (h0 : 0 ≤ i) (h1 : i < 100) : (dec i).length ≤ 2 := by
  unfold dec
  by_cases h : i.toNat < 10
  · rw [Lib.decDigits_one h]; simp
  · rw [Lib.decDigits_two h (by omega)]; simp

theorem model_status {w : World} {k : Nat} {F : Nat → Prop} {B : Bx} (h : IsBox w k F B) (hf : FlagsOk B) (hl : B.l.length < 100) (hv : 0 ≤ B.validity ∧ B.validity < 100) (hn : 0 ≤ B.next ∧ B.next < 100) :
    Calls PP 76 #[.pointer (some ⟨k, 0, none⟩)] w (Ret fun r w' => r = .agg ⟨acells 0 B.l.length (bs (status B).text) none 0 0 none 0 0⟩ ∧ Keep No w w') := by
  refine c76 ?_
  unfold S76
  refine NEW.i fun k2 w1 hk2 hs1 k1 a1 => ?_
  refine CALL.i (box_list (G := No) (h.no k1) (by omega) (fun j hj => False.elim hj)) (by kernel_rfl) ?_
  rintro r w2 ⟨A, c, rfl, k2', o2, f2⟩
  refine ⟨_, _, _, rfl, ?_⟩
  have h2 := (h.no k1).no k2'
  refine CALL.i (box_validity h2) (by kernel_rfl) ?_
  rintro r w3 ⟨rfl, rfl⟩
  refine ⟨_, rfl, ?_⟩
  refine CALL.i (itoa hv.1 hv.2 w3) (by kernel_rfl) ?_
  rintro r w4 ⟨rfl, rfl⟩
  refine ⟨_, rfl, ?_⟩
  have l1 := dec_length hv.1 hv.2
  have l2 := dec_length hn.1 hn.2
  have e32 : (⟨#[32]⟩ : ByteArray) = bs [32] := rfl
  have hmax : IntKind.max .i64 = 9223372036854775807 := rfl
  rw [e32, hmax]
  refine ⟨by rw [bs_size, bs_size]; simp; omega, ?_⟩
  refine CALL.i (box_next h2) (by kernel_rfl) ?_
  rintro r w5 ⟨rfl, rfl⟩
  refine ⟨_, rfl, ?_⟩
  refine CALL.i (itoa hn.1 hn.2 w5) (by kernel_rfl) ?_
  rintro r w6 ⟨rfl, rfl⟩
  refine ⟨_, rfl, ?_⟩
  rw [bs_append, bs_append, bs_append]
  refine ⟨by rw [bs_size, bs_size]; simp; omega, by rw [bs_size, bs_size]; simp; omega, ?_⟩
  refine CALL.i (box_unseen h2 hf (by omega)) (by kernel_rfl) ?_
  rintro r w7 ⟨rfl, k7⟩
  refine ⟨_, rfl, ?_⟩
  have hu : unseenB B < 100 := Nat.lt_of_le_of_lt (List.length_filter_le _ _) hl
  have l3 := dec_length (i := (unseenB B : Int)) (by omega) (by omega)
  refine CALL.i (itoa (i := (unseenB B : Int)) (by omega) (by omega) w7) (by kernel_rfl) ?_
  rintro r w8 ⟨rfl, rfl⟩
  refine ⟨_, rfl, ?_⟩
  refine ⟨by rw [bs_size, bs_size]; simp; omega, ?_⟩
  rw [bs_append]
  have hk8 := (k1.trans k2').trans k7
  refine ans_ret (R := fun r w' => r = .agg ⟨acells 0 B.l.length (bs (status B).text) none 0 0 none 0 0⟩ ∧ Keep No w w') ((a1.no k2').no k7) rfl fun w9 k9 hs9 => ?_
  refine ⟨?_, hk8.tmp k9 (Nat.le_of_eq hk2)⟩
  simp [status]

/-! ## add, fetch -/
theorem model_add {w : World} {k : Nat} {F : Nat → Prop} {B : Bx} (h : IsBox w k F B) (hl : B.l.length < 1000000000) (hn0 : 0 ≤ B.next) (hn1 : B.next < 4611686018427387904) (mail f : Int) (hF : ∀ j, F j → j < w.heap.size) :
    Calls PP 118 #[.pointer (some ⟨k, 0, none⟩), .int .i64 mail, .int .i64 f] w (Ret fun r w' => r = .agg ⟨acells (addB B mail f).2.2 (addB B mail f).2.1.uid (bs []) none 0 0 none 0 0⟩ ∧ Keep F w w' ∧ IsBox w' k (fun j => F j ∨ (w.heap.size ≤ j ∧ j < w'.heap.size)) (addB B mail f).1) := by
  refine c118 ?_
  unfold S118
  refine NEW.i fun k6 w1 hk6 hs1 k1 a1 => ?_
  refine CALL.i (box_add (h.no k1) hl hn0 hn1 mail f (fun j hj => Nat.lt_of_lt_of_le (hF j hj) k1.size)) (by kernel_rfl) ?_
  rintro r w2 ⟨rfl, k2, h2⟩
  refine ⟨_, _, _, _, rfl, ?_⟩
  have hs2 := k2.size
  refine NEW.i fun k7 w3 hk7 hs3 k3 a3 => ?_
  refine ST.i a3 (Nat.le_refl _) rfl fun w4 hs4 k4 a4 => ?_
  refine ⟨_, cell_at a4 rfl, ?_⟩
  have n6 : ¬ F k6 := fun hc => by have := hF k6 hc; omega
  have b4 := k4.at_ ((k2.at_ a1 n6).no k3) (by omega)
  have k34 : Keep No w2 w4 := k3.tmp k4 (Nat.le_of_eq hk7)
  refine ans_ret (R := fun r w' => r = .agg ⟨acells (addB B mail f).2.2 (addB B mail f).2.1.uid (bs []) none 0 0 none 0 0⟩ ∧ Keep F w w' ∧ IsBox w' k (fun j => F j ∨ (w.heap.size ≤ j ∧ j < w'.heap.size)) (addB B mail f).1) b4 rfl fun w5 k5 hs5 => ?_
  refine ⟨rfl, ((k1.no.trans k2).and_no k34).tmp k5 (Nat.le_of_eq hk6), ?_⟩
  have h4 := h2.no k34
  refine (h4.kept k5 ?_).mono ?_
  · rintro j (hj | hj) he
    · exact n6 (he ▸ hj)
    · omega
  · rintro j (hj | hj)
    · exact .inl hj
    · exact .inr (by omega)

def ocells (o : Pl.Op) (A : Option Addr) (n c : Nat) : List Value := [.int .i64 o.kind, .string (bs o.box), .string (bs o.to), .string (bs o.text), .int .i64 o.uid, .int .i64 o.flags, .int .i64 o.off, .slice A n c]

section
variable {w : World} {k : Nat} {ow : Nat → Tag} {M : Md} {kn bb mb : Nat} {pt : Int → Nat}
theorem model_fetch (h : IsModel w k ow M kn bb mb pt) {x : Bx} (hx : x ∈ M.b) (hl : x.l.length < 1000000000) (o : Pl.Op) (A : Option Addr) (n c : Nat) :
    Calls PP 78 #[.pointer (some ⟨k, 0, none⟩), .pointer (some ⟨pt x.validity, 0, none⟩), .agg ⟨ocells o A n c⟩] w (Ret fun r w' => DoneAct w k ow kn bb mb M (fetch M x o) r w') := by
  refine c78 ?_
  unfold S78
  refine NEW.i fun k5 w1 hk5 hs1 k1 a1 => NEW.i fun k6 w2 hk6 hs2 k2 a2 => ?_
  have hk2 := k1.trans k2
  refine ⟨_, cell_at (a1.no k2) rfl, ?_⟩
  refine CALL.i (box_get ((h.no hk2).box x hx) (by omega) o.uid) (by kernel_rfl) ?_
  rintro r w3 ⟨rfl, k3⟩
  refine ⟨_, _, _, _, rfl, ?_⟩
  refine NEW.i fun k7 w4 hk7 hs4 k4 a4 => ?_
  refine ST.i a4 (Nat.le_refl _) rfl fun w5 hs5 k5' a5 => ?_
  have hs3 := k3.size
  have k35 : Keep No w3 w5 := k4.tmp k5' (Nat.le_of_eq hk7)
  have hk5' := (hk2.trans k3).trans k35
  have b5 := (a2.no k3).no k35
  have h5 := h.no hk5'
  cases hf : findB x o.uid with
  | none =>
    have hg : getB x o.uid = (.none, 7) := by simp [getB, hf]
    rw [hg] at a5 ⊢
    refine split_i (fun _ => ?_) (fun hc => by simp at hc)
    have he : fetch M x o = no 7 := by simp [fetch, hf]
    rw [he]
    exact call_no 7 h5 hk5'.no (by omega) b5 rfl (h.new_out (by omega))
  | some e =>
    have hg : getB x o.uid = (e, 0) := by simp [getB, hf]
    rw [hg] at a5 ⊢
    refine split_i (fun hc => by simp at hc) (fun _ => ?_)
    refine DRAW.i fun w6 hw6 k6' => ?_
    have h6 := h5.no k6'
    have hlook : ∃ r : Value, (Instr.lookup 80 (.map (some mb)) (.int .i64 e.mail) false).run PP w6 = .ok r w6 ∧ r = .string (bs ((mailOf M e.mail).getD [])) := by
      refine ⟨_, map_lookup1 T80 h6.mails e.mail, ?_⟩
      have : mget M.mails e.mail = mailOf M e.mail := rfl
      rw [this]
      cases mailOf M e.mail with
      | none => rfl
      | some v => rfl
    obtain ⟨r, hr1, hr2⟩ := hlook
    refine ⟨_, cell_at (a5.no k6') rfl, _, cell_at h6.top rfl, _, cell_at (a5.no k6') rfl, r, hr1, _, hr2, ?_⟩
    have he : fetch M x o = ⟨0, e.flags, (mailOf M e.mail).getD [], [], []⟩ := by simp [fetch, hf]
    rw [he]
    exact flat_ans (hk5'.trans k6').no h6 (fun _ _ h => h) (by omega) (b5.no k6') rfl (h.new_out (by omega))

/-- a box is another one; P: what is new and its -/
theorem IsModel.setBox {w' : World} (h : IsModel w k ow M kn bb mb pt) {x y : Bx} (hx : x ∈ M.b) (hv : y.validity = x.validity) (P : Nat → Prop) (hk : Keep (fun j => ow j = .box x.validity) w w')
    (hb : IsBox w' (pt x.validity) (fun j => ow j = .box x.validity ∨ (w.heap.size ≤ j ∧ j < w'.heap.size ∧ P j)) y) :
    ∃ ow', (∀ j, j < w.heap.size → ow' j = ow j) ∧ (∀ j, ¬ P j → ow' j = ow j) ∧ IsModel w' k ow' (setBox M y) kn bb mb pt := by
  classical
  let ow' : Nat → Tag := fun j => if w.heap.size ≤ j ∧ j < w'.heap.size ∧ P j then .box x.validity else ow j
  have hold : ∀ j, j < w.heap.size → ow' j = ow j := fun j hj => if_neg (by omega)
  have hnp : ∀ j, ¬ P j → ow' j = ow j := fun j hj => if_neg (fun h => hj h.2.2)
  have hne : ∀ j t, t ≠ Tag.out → t ≠ Tag.box x.validity → ow' j = t → ow j = t := by
    intro j t h1 h2 h3
    by_cases hc : w.heap.size ≤ j ∧ j < w'.heap.size ∧ P j
    · have : ow' j = .box x.validity := if_pos hc
      exact absurd (h3.symm.trans this) h2
    · have : ow' j = ow j := if_neg hc
      rw [← this]; exact h3
  have hsame : ∀ j t, t ≠ Tag.out → t ≠ Tag.box x.validity → ow j = t → w'.heap[j]? = w.heap[j]? := fun j t h1 h2 h3 => hk.keep j (h.lt j (h3 ▸ h1)) (fun he => h2 (h3.symm.trans he))
  have htag : ∀ j t, t ≠ Tag.out → ow j = t → ow' j = t := fun j t h1 h3 => (hold j (h.lt j (h3 ▸ h1))).trans h3
  refine ⟨ow', hold, hnp, ?_⟩
  have hmap : ((Pl.setBox M y).b.map fun z => (z.validity, pt z.validity)) = M.b.map fun z => (z.validity, pt z.validity) := by
    simp only [Pl.setBox, List.map_map]
    refine List.map_congr_left fun z hz => ?_
    simp only [Function.comp]
    split
    · rename_i he; rw [he]
    · rfl
  refine { top := ?_, otop := ?_, obb := ?_, omb := ?_, names := ?_, boxes := ?_, mails := ?_, box := ?_, lt := ?_ }
  · exact (hsame k .top (by intro h; cases h) (by intro h; cases h) h.otop).trans h.top
  · exact htag k .top (by intro h; cases h) h.otop
  · exact htag bb .boxes (by intro h; cases h) h.obb
  · exact htag mb .mails (by intro h; cases h) h.omb
  · refine (h.names.keep fun j hj _ => hsame j .names (by intro h; cases h) (by intro h; cases h) hj).mono fun j hj => ?_
    exact htag j .names (by intro h; cases h) hj
  · rw [hmap]
    exact h.boxes.keep (hsame bb .boxes (by intro h; cases h) (by intro h; cases h) h.obb)
  · exact h.mails.keep (hsame mb .mails (by intro h; cases h) (by intro h; cases h) h.omb)
  · intro z hz
    obtain ⟨z0, hz0, he⟩ := List.mem_map.1 hz
    by_cases hv' : z0.validity = y.validity
    · rw [if_pos hv'] at he
      subst he
      rw [hv]
      refine hb.mono ?_
      rintro j (hj | hj)
      · exact htag j _ (by intro h; cases h) hj
      · exact if_pos hj
    · rw [if_neg hv'] at he
      subst he
      have hvx : z0.validity ≠ x.validity := fun he => hv' (he.trans hv.symm)
      have hvx' : Tag.box z0.validity ≠ Tag.box x.validity := fun he => hvx (Tag.box.inj he)
      refine ((h.box z0 hz0).keep fun j hj _ => hsame j _ (by intro h; cases h) hvx' hj).mono fun j hj => ?_
      exact htag j _ (by intro h; cases h) hj
  · intro j hj
    by_cases hc : w.heap.size ≤ j ∧ j < w'.heap.size ∧ P j
    · exact hc.2.1
    · have : ow' j = ow j := if_neg hc
      rw [this] at hj
      exact Nat.lt_of_lt_of_le (h.lt j hj) hk.size
end
end Go.SW
set_option linter.unusedVariables false
namespace Go.SW
open Go Go.Proofs Pl

theorem addB_validity (b : Bx) (m f : Int) : (addB b m f).1.validity = b.validity := by
  unfold addB
  split
  · rfl
  · split <;> rfl
theorem addB_err {b : Bx} {m f : Int} (h : (addB b m f).2.2 ≠ 0) : (addB b m f).1 = b ∧ (addB b m f).2.1 = .none := by
  unfold addB at h ⊢
  split
  · exact ⟨rfl, rfl⟩
  · split
    · exact ⟨rfl, rfl⟩
    · rename_i h1 h2
      rw [if_neg h1, if_neg h2] at h
      exact absurd rfl h
theorem removeB_validity (b : Bx) (u : Int) : (removeB b u).1.validity = b.validity := by
  unfold removeB
  split <;> rfl
theorem setB_validity (b : Bx) (u on off : Int) : (setB b u on off).1.validity = b.validity := by
  unfold setB
  split
  · rfl
  · split <;> rfl

section
variable {w : World} {k : Nat} {ow : Nat → Tag} {M : Md} {kn bb mb : Nat} {pt : Int → Nat}
theorem setBox_self {M : Md} (hn : (M.b.map (·.validity)).Nodup) {x : Bx} (hx : x ∈ M.b) : setBox M x = M := by
  have : (M.b.map fun z => if z.validity = x.validity then x else z) = M.b := by
    have : (M.b.map fun z => if z.validity = x.validity then x else z) = M.b.map id := by
      refine List.map_congr_left fun z hz => ?_
      split
      · rename_i he
        exact (inj_of_nodup_map _ hn hz hx he).symm
      · rfl
    rw [this, List.map_id]
  unfold setBox
  rw [this]
/-- mails and the next mail's number are others -/
theorem IsModel.tops {w' : World} {ms : List (Int × Str)} {nx : Int} (h : IsModel w k ow M kn bb mb pt) (hk : Keep (fun j => j = mb ∨ j = k) w w')
    (ht : At w' k (.cells ⟨[.pointer (some ⟨kn, 0, none⟩), .map (some bb), .map (some mb), .int .i64 nx]⟩ 82 (0, 0))) (hm : MapAt Eml w' mb ms) : IsModel w' k ow { M with mails := ms, next := nx } kn bb mb pt := by
  have hsame : ∀ j t, t ≠ Tag.out → t ≠ Tag.mails → t ≠ Tag.top → ow j = t → w'.heap[j]? = w.heap[j]? := fun j t h1 h2 h3 h4 => hk.keep j (h.lt j (h4 ▸ h1)) (fun he => by
    rcases he with rfl | rfl
    · exact h2 (h4.symm.trans h.omb)
    · exact h3 (h4.symm.trans h.otop))
  exact {
    top := ht
    otop := h.otop
    obb := h.obb
    omb := h.omb
    names := h.names.keep fun j hj _ => hsame j _ (by intro h; cases h) (by intro h; cases h) (by intro h; cases h) hj
    boxes := h.boxes.keep (hsame bb _ (by intro h; cases h) (by intro h; cases h) (by intro h; cases h) h.obb)
    mails := hm
    box := fun x hx => (h.box x hx).keep fun j hj _ => hsame j _ (by intro h; cases h) (by intro h; cases h) (by intro h; cases h) hj
    lt := fun j hj => Nat.lt_of_lt_of_le (h.lt j hj) hk.size }
theorem Fp_box {v : Int} {j : Nat} (h : ow j = .box v) : Fp ow j := by
  unfold Fp
  rw [h]
  intro h; cases h

theorem model_append (h : IsModel w k ow M kn bb mb pt) {x : Bx} (hx : x ∈ M.b) (hl : x.l.length < 1000000000) (hn0 : 0 ≤ x.next) (hn1 : x.next < 4611686018427387904)
    (hm0 : 0 ≤ M.next) (hm1 : M.next < 4611686018427387904) (hfr : M.next ∉ mkeys M.mails) (o : Pl.Op) (ho : o.text.length < 1099511627776) (A : Option Addr) (n c : Nat) :
    Calls PP 77 #[.pointer (some ⟨k, 0, none⟩), .pointer (some ⟨pt x.validity, 0, none⟩), .agg ⟨ocells o A n c⟩] w (Ret fun r w' => DoneAct w k ow kn bb mb (append M x o).1 (append M x o).2 r w') := by
  refine c77 ?_
  unfold S77
  refine NEW.i fun k5 w1 hk5 hs1 k1 a1 => NEW.i fun k6 w2 hk6 hs2 k2 a2 => ?_
  have hk2 := k1.trans k2
  have a1' := a1.no k2
  have h2 := h.no hk2
  refine ⟨_, cell_at a1' rfl, ?_⟩
  rw [bs_size]
  refine split_dec (fun hbig => ?_) (fun hsm => ?_)
  · have he : append M x o = (M, no 3) := by
      unfold append
      rw [if_pos (by omega)]
    rw [he]
    exact call_no 3 h2 hk2.no (by omega) a2 rfl (h.new_out (by omega))
  · have hsm' : ¬ 4096 < o.text.length := by omega
    refine DRAW.i fun w3 hw3 k3 => ?_
    have hk3 := hk2.trans k3
    have hw3s : w3.heap.size = w2.heap.size := by rw [hw3]
    have h3 := h.no hk3
    have b1 := a1'.no k3
    have b2 := a2.no k3
    refine ⟨_, cell_at h3.top rfl, _, cell_at b1 rfl, ?_⟩
    have hval := addB_validity x M.next o.flags
    have rest : ∀ (k7 : Nat) (w6 : World) (P : Nat → Prop), ¬ P k5 → ¬ P k6 → ¬ P k7 → Keep (fun j => ow j = .box x.validity) w3 w6 → w3.heap.size ≤ k7 →
        IsBox w6 (pt x.validity) (fun j => ow j = .box x.validity ∨ (w3.heap.size ≤ j ∧ j < w6.heap.size ∧ P j)) (addB x M.next o.flags).1 →
        At w6 k7 (.cells ⟨acells (addB x M.next o.flags).2.2 (addB x M.next o.flags).2.1.uid (bs []) none 0 0 none 0 0⟩ 35 (0, 0)) →
        ∃ (x22 : Int), World.cell? w6 (⟨k7, 0, none⟩ : Addr) = some (.int .i64 x22) ∧
        SPLIT (x22 == (0 : Int)) (
          DRAW w6 fun w7 =>
          ∃ (m27 : Option Nat), World.cell? w7 (⟨k, 2, none⟩ : Addr) = some (.map m27) ∧
          ∃ (x31 : Int), World.cell? w7 (⟨k, 3, none⟩ : Addr) = some (.int .i64 x31) ∧
          ∃ (s33 : ByteArray), World.cell? w7 (⟨k5, 3, none⟩ : Addr) = some (.string s33) ∧
          RUN PP (Instr.mapUpdate 80 (.map m27) (.int .i64 x31) (.string s33)) w7 fun _uq w8 =>
          ∃ (x37 : Int), World.cell? w8 (⟨k, 3, none⟩ : Addr) = some (.int .i64 x37) ∧
          ST w8 (⟨k, 3, none⟩ : Addr) 0 [(.int .i64 (IntKind.wrap .i64 (x37 + (1 : Int))))] fun w9 =>
          ∃ (x41_0 : Int) (x41_1 : Int) (s41_2 : ByteArray) (A41_3 : Option Addr) (n41_3 : Nat) (c41_3 : Nat) (A41_4 : Option Addr) (n41_4 : Nat) (c41_4 : Nat), RD w9 (⟨k7, 0, none⟩ : Addr) 0 [(.int .i64 x41_0), (.int .i64 x41_1), (.string s41_2), (.slice A41_3 n41_3 c41_3), (.slice A41_4 n41_4 c41_4)] ∧
          ST w9 (⟨k6, 0, none⟩ : Addr) 0 [(.int .i64 x41_0), (.int .i64 x41_1), (.string s41_2), (.slice A41_3 n41_3 c41_3), (.slice A41_4 n41_4 c41_4)] fun w10 =>
          ∃ (x6r_0 : Int) (x6r_1 : Int) (s6r_2 : ByteArray) (A6r_3 : Option Addr) (n6r_3 : Nat) (c6r_3 : Nat) (A6r_4 : Option Addr) (n6r_4 : Nat) (c6r_4 : Nat), RD w10 (⟨k6, 0, none⟩ : Addr) 0 [(.int .i64 x6r_0), (.int .i64 x6r_1), (.string s6r_2), (.slice A6r_3 n6r_3 c6r_3), (.slice A6r_4 n6r_4 c6r_4)] ∧
          DoneAct w k ow kn bb mb (append M x o).1 (append M x o).2 (.agg #[(.int .i64 x6r_0), (.int .i64 x6r_1), (.string s6r_2), (.slice A6r_3 n6r_3 c6r_3), (.slice A6r_4 n6r_4 c6r_4)]) w10) (
          ∃ (x41_0 : Int) (x41_1 : Int) (s41_2 : ByteArray) (A41_3 : Option Addr) (n41_3 : Nat) (c41_3 : Nat) (A41_4 : Option Addr) (n41_4 : Nat) (c41_4 : Nat), RD w6 (⟨k7, 0, none⟩ : Addr) 0 [(.int .i64 x41_0), (.int .i64 x41_1), (.string s41_2), (.slice A41_3 n41_3 c41_3), (.slice A41_4 n41_4 c41_4)] ∧
          ST w6 (⟨k6, 0, none⟩ : Addr) 0 [(.int .i64 x41_0), (.int .i64 x41_1), (.string s41_2), (.slice A41_3 n41_3 c41_3), (.slice A41_4 n41_4 c41_4)] fun w7 =>
          ∃ (x6r_0 : Int) (x6r_1 : Int) (s6r_2 : ByteArray) (A6r_3 : Option Addr) (n6r_3 : Nat) (c6r_3 : Nat) (A6r_4 : Option Addr) (n6r_4 : Nat) (c6r_4 : Nat), RD w7 (⟨k6, 0, none⟩ : Addr) 0 [(.int .i64 x6r_0), (.int .i64 x6r_1), (.string s6r_2), (.slice A6r_3 n6r_3 c6r_3), (.slice A6r_4 n6r_4 c6r_4)] ∧
          DoneAct w k ow kn bb mb (append M x o).1 (append M x o).2 (.agg #[(.int .i64 x6r_0), (.int .i64 x6r_1), (.string s6r_2), (.slice A6r_3 n6r_3 c6r_3), (.slice A6r_4 n6r_4 c6r_4)]) w7) := by
      intro k7 w6 P np5 np6 np7 k6' h7 hbx a7
      obtain ⟨ow', e1, e2, h6⟩ := h3.setBox hx hval P k6' hbx
      have ow5 : ow k5 = .out := h.new_out (by omega)
      have ow6 : ow k6 = .out := h.new_out (by omega)
      have ow7 : ow k7 = .out := h.new_out (by have := hk3.size; omega)
      have c1 := k6'.at_ b1 (by rw [ow5]; intro h; cases h)
      have c2 := k6'.at_ b2 (by rw [ow6]; intro h; cases h)
      have hkF : Keep (Fp ow) w w6 := hk3.no.trans (k6'.mono fun j _ hj => Fp_box hj)
      have hthird : ∀ j, j < w.heap.size → ow j = .out → ow' j = .out := fun j hj h => (e1 j (by have := hk3.size; omega)).trans h
      have ow6' : ow' k6 = .out := (e2 k6 np6).trans ow6
      have ow7' : ow' k7 = .out := (e2 k7 np7).trans ow7
      refine ⟨_, cell_at a7 rfl, split_i (fun hz => ?_) (fun hz => ?_)⟩
      · have hz' : (addB x M.next o.flags).2.2 = 0 := by simpa using hz
        refine DRAW.i fun w7 hw7 k7' => ?_
        have g7 := h6.no k7'
        refine ⟨_, cell_at g7.top rfl, _, cell_at g7.top rfl, _, cell_at (c1.no k7') rfl, ?_⟩
        refine map_update T80 g7.mails M.next o.text fun w8 hs8 k8 m8 => ?_
        have hkm : k ≠ mb := fun he => by
          have h1 := h.otop; have h2 := h.omb
          rw [he, h2] at h1; cases h1
        have t8 := k8.at_ g7.top hkm
        refine ⟨_, cell_at t8 rfl, ?_⟩
        refine ST.i t8 (Nat.le_refl _) rfl fun w9 hs9 k9 a9 => ?_
        have hk79 : Keep (fun j => j = mb ∨ j = k) w7 w9 := (k8.mono fun j _ hj => .inl hj).trans (k9.mono fun j _ hj => .inr hj)
        have hw : IntKind.wrap .i64 (M.next + 1) = M.next + 1 := wrap64 (by omega) (by omega)
        have g9 := g7.tops (nx := M.next + 1) hk79 (by
          have := a9
          rw [show (setBox M (addB x M.next o.flags).1).next = M.next from rfl, hw] at this
          exact this) (m8.kept k9 (fun he => hkm he.symm))
        have hmput : mput (setBox M (addB x M.next o.flags).1).mails M.next o.text = (M.next, o.text) :: M.mails := by
          show (M.next, o.text) :: mdel M.mails M.next = _
          rw [mdel_self hfr]
        rw [hmput] at g9
        have d7 : At w9 k7 _ := hk79.at_ (a7.no k7') (by
          rintro (he | he)
          · rw [he, h6.omb] at ow7'; cases ow7'
          · rw [he, h6.otop] at ow7'; cases ow7')
        refine ⟨_, _, _, _, _, _, _, _, _, RD.i d7, ?_⟩
        have hap : append M x o = ({ setBox M (addB x M.next o.flags).1 with mails := M.mails ++ [(M.next, o.text)], next := M.next + 1 }, ⟨0, (addB x M.next o.flags).2.1.uid, [], [], []⟩) := by
          unfold append
          rw [if_neg hsm']
          simp only [hz']
          simp
        rw [hap]
        have g9' : IsModel w9 k ow' { setBox M (addB x M.next o.flags).1 with mails := M.mails ++ [(M.next, o.text)], next := M.next + 1 } kn bb mb pt :=
          { top := g9.top, otop := g9.otop, obb := g9.obb, omb := g9.omb, names := g9.names, boxes := g9.boxes, mails := g9.mails.perm (List.perm_append_singleton _ _).symm, box := g9.box, lt := g9.lt }
        have d6 := hk79.at_ (c2.no k7') (by
          rintro (he | he)
          · rw [he, h6.omb] at ow6'; cases ow6'
          · rw [he, h6.otop] at ow6'; cases ow6')
        rw [hz']
        refine flat_ans (t := []) ?_ g9' hthird (by omega) d6 rfl ow6'
        refine (hkF.trans k7'.no).trans (hk79.mono fun j _ hj => ?_)
        rcases hj with rfl | rfl
        · unfold Fp; rw [h.omb]; intro h; cases h
        · unfold Fp; rw [h.otop]; intro h; cases h
      · have hz' : (addB x M.next o.flags).2.2 ≠ 0 := by simpa using hz
        obtain ⟨hb1, hb2⟩ := addB_err hz'
        have hap : append M x o = (M, no (addB x M.next o.flags).2.2) := by
          unfold append
          rw [if_neg hsm']
          simp only [ne_eq, hz', not_false_eq_true, if_true]
        rw [hap]
        rw [hb1, setBox_self h.vnodup hx] at h6
        refine ⟨_, _, _, _, _, _, _, _, _, RD.i a7, ?_⟩
        rw [hb2]
        exact flat_ans (t := []) hkF h6 hthird (by omega) c2 rfl ow6'
    have hlt3 : ∀ j, ow j = .box x.validity → j < w3.heap.size := fun j hj => h3.lt j (by rw [hj]; intro h; cases h)
    have hs3 := hk3.size
    refine ⟨?_, ?_⟩
    · refine CALL.i (model_add (h3.box x hx) hl hn0 hn1 M.next o.flags hlt3) (by kernel_rfl) ?_
      rintro r w4 ⟨rfl, k4, g4⟩
      refine ⟨_, _, _, _, _, _, _, _, _, rfl, ?_⟩
      refine NEW.i fun k7 w5 hk7 hs5 k5' a5 => ?_
      refine ST.i a5 (Nat.le_refl _) rfl fun w6 hs6 k6' a6 => ?_
      have k46 : Keep No w4 w6 := k5'.tmp k6' (Nat.le_of_eq hk7)
      have hs4 := k4.size
      refine rest k7 w6 (fun j => j < w4.heap.size ∧ w3.heap.size ≤ j) (by omega) (by omega) (by omega) (k4.and_no k46) (by omega) ?_ a6
      refine (g4.no k46).mono ?_
      rintro j (hj | hj)
      · exact .inl hj
      · exact .inr ⟨hj.1, by omega, hj.2, hj.1⟩
    · refine NEW.i fun k7 w4 hk7 hs4 k4 a4 => ?_
      refine ⟨loadVar_cell (by kernel_rfl) (cell_at (b1.no k4) rfl), loadVar_cell (by kernel_rfl) (cell_at (h3.no k4).top rfl), ?_⟩
      refine CALL.i (model_add ((h3.no k4).box x hx) hl hn0 hn1 M.next o.flags (fun j hj => Nat.lt_of_lt_of_le (hlt3 j hj) k4.size)) (by kernel_rfl) ?_
      rintro r w5 ⟨rfl, k5', g5⟩
      refine ⟨_, _, _, _, _, _, _, _, _, rfl, ?_⟩
      have ow7 : ow k7 = .out := h.new_out (by omega)
      have hs5 := k5'.size
      refine ST.i (k5'.at_ a4 (by rw [ow7]; intro h; cases h)) (Nat.le_refl _) rfl fun w6 hs6 k6' a6 => ?_
      refine rest k7 w6 (fun j => w4.heap.size ≤ j) (by omega) (by omega) (by omega) ?_ (by omega) ?_ a6
      · exact (k4.no.trans k5').tmp k6' (Nat.le_of_eq hk7)
      · refine (g5.kept k6' ?_).mono ?_
        · rintro j (hj | hj) he
          · rw [he, ow7] at hj; cases hj
          · omega
        · rintro j (hj | hj)
          · exact .inl hj
          · exact .inr ⟨by omega, by omega, hj.1⟩

/-- every name has its box, and no box is past the bounds -/
theorem find_some {M : Md} (hok : NamesOk M) {s : Str} {x : Bx} (h : find M s = some x) : x ∈ M.b := by
  unfold find at h
  cases ho : ofN M.n s with
  | none => rw [ho] at h; cases h
  | some id => rw [ho] at h; exact (boxOf_some h).1
theorem boxOf_mem {M : Md} (hn : (M.b.map (·.validity)).Nodup) {x : Bx} (hx : x ∈ M.b) : boxOf M x.validity = some x := by
  unfold boxOf
  cases h : M.b.find? (fun b => decide (b.validity = x.validity)) with
  | none =>
    rw [List.find?_eq_none] at h
    exact absurd (h x hx) (by simp)
  | some y =>
    have h1 := List.mem_of_find?_eq_some h
    have h2 := List.find?_some h
    rw [inj_of_nodup_map _ hn h1 hx (by simpa using h2)]

theorem model_copy (h : IsModel w k ow M kn bb mb pt) (hok : NamesOk M) {x : Bx} (hx : x ∈ M.b) (hl : ∀ z ∈ M.b, z.l.length < 10000) (hn : ∀ z ∈ M.b, 0 ≤ z.next ∧ z.next < 4611686018427387904) (o : Pl.Op) (A : Option Addr) (n c : Nat) :
    Calls PP 79 #[.pointer (some ⟨k, 0, none⟩), .pointer (some ⟨pt x.validity, 0, none⟩), .agg ⟨ocells o A n c⟩] w (Ret fun r w' => DoneAct w k ow kn bb mb (copy M x o).1 (copy M x o).2 r w') := by
  refine c79 ?_
  unfold S79
  refine NEW.i fun k5 w1 hk5 hs1 k1 a1 => NEW.i fun k6 w2 hk6 hs2 k2 a2 => ?_
  have hk2 := k1.trans k2
  have a1' := a1.no k2
  have h2 := h.no hk2
  refine ⟨_, cell_at a1' rfl, ?_⟩
  refine CALL.i (model_find h2 hok o.to) (by kernel_rfl) ?_
  rintro r w3 ⟨rfl, hr⟩
  have o6 : ow k6 = .out := h.new_out (by omega)
  have o5 : ow k5 = .out := h.new_out (by omega)
  cases hf : find M o.to with
  | none =>
    rw [hf] at hr
    obtain ⟨p, rfl⟩ := hr
    refine ⟨_, _, rfl, split_i (fun _ => ?_) (fun hc => by cases hc)⟩
    have he : copy M x o = (M, no 5) := by simp [copy, hf]
    rw [he]
    exact call_no 5 h2 hk2.no (by omega) a2 rfl o6
  | some y =>
    rw [hf] at hr
    obtain ⟨rfl, hy⟩ := hr
    refine ⟨_, _, rfl, split_i (fun hc => by cases hc) (fun _ => ?_)⟩
    refine ⟨_, cell_at a1' rfl, ?_⟩
    have hlx := hl x hx
    refine CALL.i (box_get (h2.box x hx) (by omega) o.uid) (by kernel_rfl) ?_
    rintro r w4 ⟨rfl, k4⟩
    refine ⟨_, _, _, _, rfl, ?_⟩
    have hs4 := k4.size
    refine NEW.i fun k9 w5 hk9 hs5 k5' a5 => ?_
    refine ST.i a5 (Nat.le_refl _) rfl fun w6 hs6 k6' a6 => ?_
    have k46 : Keep No w4 w6 := k5'.tmp k6' (Nat.le_of_eq hk9)
    have hk6' := (hk2.trans k4).trans k46
    have h6 := h.no hk6'
    have b5 := (a1'.no k4).no k46
    have b6 := (a2.no k4).no k46
    cases hg : findB x o.uid with
    | none =>
      have hget : getB x o.uid = (.none, 7) := by simp [getB, hg]
      rw [hget] at a6 ⊢
      refine split_i (fun _ => ?_) (fun hc => by simp at hc)
      have he : copy M x o = (M, no 7) := by simp [copy, hf, hg]
      rw [he]
      exact call_no 7 h6 hk6'.no (by omega) b6 rfl o6
    | some e =>
      have hget : getB x o.uid = (e, 0) := by simp [getB, hg]
      rw [hget] at a6 ⊢
      refine split_i (fun hc => by simp at hc) (fun _ => ?_)
      refine ⟨_, cell_at a6 rfl, _, cell_at a6 rfl, ?_⟩
      have hly := hl y hy
      have hny := hn y hy
      refine CALL.i (model_add (h6.box y hy) (by omega) hny.1 hny.2 e.mail e.flags (fun j hj => h6.lt j (by rw [hj]; intro h; cases h))) (by kernel_rfl) ?_
      rintro r w7 ⟨rfl, k7, g7⟩
      refine ⟨_, _, _, _, _, _, _, _, _, rfl, ?_⟩
      have hs7 := k7.size
      have hs6' := hk6'.size
      have hval := addB_validity y e.mail e.flags
      obtain ⟨ow', e1, e2, h7⟩ := h6.setBox hy hval (fun j => j < w7.heap.size ∧ w6.heap.size ≤ j) k7 (g7.mono fun j hj => by
        rcases hj with hj | hj
        · exact .inl hj
        · exact .inr ⟨hj.1, hj.2, hj.2, hj.1⟩)
      refine NEW.i fun k11 w8 hk11 hs8 k8 a8 => ?_
      refine ST.i a8 (Nat.le_refl _) rfl fun w9 hs9 k9' a9 => ?_
      have k79 : Keep No w7 w9 := k8.tmp k9' (Nat.le_of_eq hk11)
      have h9 := h7.no k79
      have hne : ∀ j, ow j = .out → ow j ≠ .box y.validity := fun j hj => by rw [hj]; intro h; cases h
      have c5 := (k7.at_ b5 (hne k5 o5)).no k79
      have c6 := (k7.at_ b6 (hne k6 o6)).no k79
      have hkF : Keep (Fp ow) w w9 := (hk6'.no.trans (k7.mono fun j _ hj => Fp_box hj)).and_no k79
      have hthird : ∀ j, j < w.heap.size → ow j = .out → ow' j = .out := fun j hj h => (e1 j (by omega)).trans h
      have lt5 := b5.lt
      have lt6 := b6.lt
      have o5' : ow' k5 = .out := (e1 k5 lt5).trans o5
      have o6' : ow' k6 = .out := (e1 k6 lt6).trans o6
      have o11' : ow' k11 = .out := h7.new_out (Nat.le_of_eq hk11)
      refine ⟨_, cell_at a9 rfl, ?_⟩
      refine split_i (fun hz => ?_) (fun hz => ?_)
      · have hz' : (addB y e.mail e.flags).2.2 = 0 := by simpa using hz
        refine ⟨_, cell_at c5 rfl, split_i (fun h9k => ?_) (fun h9k => ?_)⟩
        · have hk9 : o.kind = 9 := by simpa using h9k
          obtain ⟨x1, hx1, hv1⟩ : ∃ x1 ∈ (setBox M (addB y e.mail e.flags).1).b, x1.validity = x.validity := by
            refine ⟨_, List.mem_map.2 ⟨x, hx, rfl⟩, ?_⟩
            split
            · rename_i hh; exact hh.symm
            · rfl
          have hb1 : boxOf (setBox M (addB y e.mail e.flags).1) x.validity = some x1 := by
            rw [← hv1]; exact boxOf_mem h7.vnodup hx1
          have hl1 : x1.l.length < 1000000000 := by
            obtain ⟨z, hz1, hz2⟩ := List.mem_map.1 hx1
            split at hz2
            · rw [← hz2]
              unfold addB
              split
              · show y.l.length < _; omega
              · split
                · show y.l.length < _; omega
                · show (y.l ++ [_]).length < _
                  simp
                  omega
            · rw [← hz2]
              have := hl z hz1
              omega
          refine ⟨_, cell_at c5 rfl, ?_⟩
          rw [show (Value.pointer (some ⟨pt x.validity, 0, none⟩)) = .pointer (some ⟨pt x1.validity, 0, none⟩) by rw [hv1]]
          refine CALL.i (box_remove (h9.box x1 hx1) hl1 o.uid) (by kernel_rfl) ?_
          rintro r w10 ⟨rfl, k10, g10⟩
          refine ⟨_, _, _, _, rfl, ?_⟩
          obtain ⟨ow2, f1, f2, h10⟩ := h9.setBox hx1 (removeB_validity x1 o.uid) No k10 (g10.mono fun j hj => .inl hj)
          have hne' : ∀ j, ow' j = .out → ow' j ≠ .box x1.validity := fun j hj => by rw [hj]; intro h; cases h
          have d6 := k10.at_ c6 (hne' k6 o6')
          have d11 := k10.at_ a9 (hne' k11 o11')
          refine ⟨_, _, _, _, _, _, _, _, _, RD.i d11, ?_⟩
          have hfold : ∀ j, ow2 j = ow' j := fun j => f2 j (fun h => h)
          have he : copy M x o = (setBox (setBox M (addB y e.mail e.flags).1) (removeB x1 o.uid).1, ⟨0, (addB y e.mail e.flags).2.1.uid, [], [], []⟩) := by
            unfold copy
            simp only [hf, hg, hz']
            simp [hk9, hb1]
          rw [he, hz']
          refine flat_ans (t := []) ?_ h10 (fun j hj ho => (hfold j).trans (hthird j hj ho)) (by omega) d6 rfl ((hfold k6).trans o6')
          refine hkF.trans' k10 fun j hj hF => ?_
          have : ow' j = ow j := e1 j (by omega)
          rw [this] at hF
          exact Fp_box hF
        · have hk9 : ¬ o.kind = 9 := by simpa using h9k
          refine ⟨_, _, _, _, _, _, _, _, _, RD.i a9, ?_⟩
          have he : copy M x o = (setBox M (addB y e.mail e.flags).1, ⟨0, (addB y e.mail e.flags).2.1.uid, [], [], []⟩) := by
            unfold copy
            simp only [hf, hg, hz']
            simp [hk9]
          rw [he, hz']
          exact flat_ans (t := []) hkF h9 hthird (by omega) c6 rfl o6'
      · have hz' : (addB y e.mail e.flags).2.2 ≠ 0 := by simpa using hz
        obtain ⟨hb1, hb2⟩ := addB_err hz'
        have he : copy M x o = (M, no (addB y e.mail e.flags).2.2) := by
          unfold copy
          simp only [hf, hg, ne_eq, hz', not_false_eq_true, if_true]
        rw [he]
        rw [hb1, setBox_self h.vnodup hy] at h9
        refine ⟨_, _, _, _, _, _, _, _, _, RD.i a9, ?_⟩
        rw [hb2]
        exact flat_ans (t := []) hkF h9 hthird (by omega) c6 rfl o6'

theorem model_expunge (h : IsModel w k ow M kn bb mb pt) {x : Bx} (hx : x ∈ M.b) (hf : FlagsOk x) (hl : ∀ z ∈ M.b, z.l.length < 10000) (s : Str) :
    Calls PP 81 #[.pointer (some ⟨k, 0, none⟩), .pointer (some ⟨pt x.validity, 0, none⟩), .string (bs s)] w (Ret fun r w' => DoneAct w k ow kn bb mb (expunge M x s).1 (expunge M x s).2 r w') := by
  refine c81 ?_
  unfold S81
  refine NEW.i fun k6 w1 hk6 hs1 k1 a1 => NEW.i fun k7 w2 hk7 hs2 k2 a2 => ?_
  have hk2 := k1.trans k2
  have h2 := h.no hk2
  have b1 := a1.no k2
  have hlx := hl x hx
  refine CALL.i (box_expunge (h2.box x hx) hf (by omega)) (by kernel_rfl) ?_
  rintro r w3 ⟨A, c, rfl, k3, g3, o3, f3⟩
  have hs3 := k3.size
  have htag : ow (pt x.validity) = .box x.validity := by
    obtain ⟨_, _, _, _, q, _⟩ := h2.box x hx
    exact q
  have k3' : Keep (fun j => ow j = .box x.validity) w2 w3 := k3.mono fun j _ hj => by rw [hj]; exact htag
  obtain ⟨ow', e1, e2, h3⟩ := h2.setBox (y := (expungeB x).1) hx rfl (fun j => w2.heap.size ≤ j ∧ j < w3.heap.size ∧ ¬ ownBlk A j) k3' (g3.mono fun j hj => by
    rcases hj with hj | hj
    · exact .inl (by rw [hj]; exact htag)
    · exact .inr ⟨hj.1, hj.2.1, hj⟩)
  have o6 : ow k6 = .out := h.new_out (by omega)
  have o7 : ow k7 = .out := h.new_out (by omega)
  have hne : ∀ j, ow j = .out → j ≠ pt x.validity := fun j hj he => by rw [he, htag] at hj; cases hj
  have c6 := k3.at_ b1 (hne k6 o6)
  have c7 := k3.at_ a2 (hne k7 o7)
  have lt6 := b1.lt
  have lt7 := a2.lt
  have o6' : ow' k6 = .out := (e1 k6 lt6).trans o6
  have o7' : ow' k7 = .out := (e1 k7 lt7).trans o7
  have hkF3 : Keep (Fp ow) w w3 := hk2.no.trans (k3'.mono fun j _ hj => Fp_box hj)
  refine ⟨_, _, _, rfl, ?_⟩
  have hgl : (expungeB x).2.length ≤ x.l.length := List.length_filter_le _ _
  refine ⟨fun y w4 => ∃ i : Nat, y = i ∧ i ≤ (expungeB x).2.length ∧ Keep (fun j => j = k7) w3 w4 ∧ ∃ A1 n1 c1, At w4 k7 (.cells ⟨acells 0 0 (bs []) none 0 0 A1 n1 c1⟩ 35 (0, 0)) ∧
      Own Lhit 39 w4 No A1 n1 c1 (((expungeB x).2.take i).map fun e => (⟨s, e.uid, e.flags⟩ : Hit)) ∧ ∀ j, ownBlk A1 j → w3.heap.size ≤ j,
    fun y _ => (((expungeB x).2.length : Nat) - y).toNat, ⟨0, rfl, Nat.zero_le _, Keep.refl _ _, none, 0, 0, c7, Own.nil _ _ _ _, fun j hj => False.elim hj⟩, ?_⟩
  rintro _ y w4 ⟨i, rfl, hi, k4, A1, n1, c1, a4, o4, f4⟩
  have hs4 := k4.size
  have n7 : ∀ j, ownBlk A1 j → j ≠ k7 := fun j hj he => by have := f4 j hj; omega
  refine split_dec (fun hlt => ?_) (fun hge => ?_)
  · have hlt' : i < (expungeB x).2.length := by omega
    refine ⟨⟨by omega, hlt⟩, ?_⟩
    have o3' : Own Lent 53 w4 No A (expungeB x).2.length c (expungeB x).2 := o3.kept k4 (fun j hj _ he => hj.elim (fun h => h) (fun h => by have := f3 j h; omega))
    obtain ⟨a, e, hA, he, hr⟩ := o3'.sl.ent hlt'
    refine SOMEA.i hA ⟨_, _, _, by rw [Int.toNat_natCast]; exact hr, ?_⟩
    refine NEW.i fun b w5 hb5 hs5 k5 a5 => ?_
    refine ST.i a5 (Nat.le_refl _) rfl fun w6 hs6 k6' a6 => ?_
    have k46 : Keep No w4 w6 := k5.tmp k6' (Nat.le_of_eq hb5)
    refine ⟨_, _, _, cell_at (a4.no k46) rfl, _, cell_at a6 rfl, _, cell_at a6 rfl, ?_⟩
    refine NEW.i fun b2 w7 hb7 hs7 k7' a7 => ?_
    have hn1 := o4.len
    simp only [List.length_map, List.length_take] at hn1
    refine append_one T39 ((o4.no k46).no k7') a7 (x := ⟨s, e.uid, e.flags⟩) rfl (by omega) ?_ (fun k hk => False.elim hk)
    intro A' c' w8 k8 hb8 hs8 o8
    refine ⟨_, _, _, rfl, ?_⟩
    have k47 := k46.trans k7'
    have hs47 := k47.size
    have a8 := k8.at_ (a4.no k47) (fun h => n7 _ h rfl)
    refine ST.i a8 (Nat.le_refl _) rfl fun w9 hs9 k9 a9 => ?_
    have f8 : ∀ j, ownBlk A' j → w3.heap.size ≤ j := own_fresh hb8 f4 (by omega)
    have n7' : ∀ j, ownBlk A' j → j ≠ k7 := fun j hj he => by have := f8 j hj; omega
    refine ⟨⟨i + 1, wrapS (by omega), hlt', ?_, A', n1 + 1, c', a9, ?_, f8⟩, mu_go (wrapS (by omega)) hlt'⟩
    · exact ((k4.and_no k47).fresh k8 (fun j hj => f4 j hj)).trans k9
    · have := o8.kept k9 (fun j hj _ he => hj.elim (fun h => h) (fun h => n7' j h he))
      rw [take_succ_some he, List.map_append]
      exact this
  · have hie : i = (expungeB x).2.length := by omega
    subst hie
    rw [List.take_length] at o4
    have hn1 := o4.len
    simp only [List.length_map] at hn1
    subst hn1
    refine ⟨_, _, _, cell_at a4 rfl, ?_⟩
    refine ST.i a4 (by show 1 + 1 ≤ 5; omega) rfl fun w5 hs5 k5 a5 => ?_
    have k35 : Keep (fun j => j = k7) w3 w5 := k4.trans k5
    have h5 := h3.kept k35 (fun j hj he => hj (he ▸ o7'))
    have hl' : ∀ z ∈ (setBox M (expungeB x).1).b, z.l.length < 1000000000 := by
      intro z hz
      obtain ⟨z0, hz0, he⟩ := List.mem_map.1 hz
      split at he
      · rw [← he]
        show (x.l.filter _).length < _
        have : (x.l.filter fun e => !del8 e).length ≤ x.l.length := List.length_filter_le _ _
        omega
      · rw [← he]
        have := hl z0 hz0
        omega
    refine CALL.i (model_sweep h5 hl') (by kernel_rfl) ?_
    rintro r w6 ⟨rfl, k6', h6⟩
    refine ⟨rfl, ?_⟩
    have n6mb : k6 ≠ mb := fun he => by rw [he, h3.omb] at o6'; cases o6'
    have n7mb : k7 ≠ mb := fun he => by rw [he, h3.omb] at o7'; cases o7'
    have a6 := k6'.at_ a5 n7mb
    refine ⟨_, _, _, _, _, _, _, _, _, RD.i a6, ?_⟩
    have d6 := k6'.at_ (k35.at_ c6 (by omega)) n6mb
    have owA : ∀ j, ownBlk A1 j → ow' j = .out := fun j hj => (e2 j (fun hP => by have := f4 j hj; omega)).trans (h2.new_out (by have := f4 j hj; omega))
    have o5 : Own Lhit 39 w5 No A1 (expungeB x).2.length c1 ((expungeB x).2.map fun e => (⟨s, e.uid, e.flags⟩ : Hit)) := o4.kept k5 (fun j hj _ he => hj.elim (fun h => h) (fun h => n7 j h he))
    have o6x := o5.kept k6' (fun j hj _ he => hj.elim (fun h => h) (fun h => by
      have := owA j h
      rw [he, h3.omb] at this
      cases this))
    refine ans_ret (R := DoneAct w k ow kn bb mb (expunge M x s).1 (expunge M x s).2) d6 rfl fun w7 k7' hs7 => ?_
    refine ⟨ow', pt, ?_, h6.kept k7' (fun j hj he => hj (he ▸ o6')), fun j hj ho => (e1 j (by omega)).trans ho, ?_⟩
    · have q5 : Keep (Fp ow) w w5 := hkF3.tmp k35 (by omega)
      have q6 : Keep (Fp ow) w w6 := q5.trans' k6' fun j hj he => by
        rw [he]
        unfold Fp
        rw [h.omb]
        intro h; cases h
      exact q6.tmp k7' (by omega)
    · have hlen : ((expungeB x).2.map fun e => (⟨s, e.uid, e.flags⟩ : Hit)).length = (expungeB x).2.length := by simp
      have hans : (expunge M x s).2 = ⟨0, (expungeB x).2.length, [], [], (expungeB x).2.map fun e => ⟨s, e.uid, e.flags⟩⟩ := rfl
      rw [hans]
      refine ⟨none, 0, A1, c1, ?_, Own.nil _ _ _ _, ?_, ?_⟩
      · simp only [hlen]
        rfl
      · have := o6x.kept k7' (fun j hj _ he => hj.elim (fun h => h) (fun h => by have := f4 j h; omega))
        rw [← hlen] at this
        exact this
      · rintro j (hj | hj)
        · exact False.elim hj
        · exact ⟨by have := f4 j hj; omega, owA j hj⟩
end
end Go.SW
