/- A law's loop over ops; ModelCopies. -/
import Derived.Test.YtfhiffnfngpkeaaGreatDoorLaw2
set_option linter.unusedVariables false
namespace Go.SW
open Go Go.Proofs Pl

/-- an op of the document's, as an element -/
def Lop : Ly Pl.Op where
  sz := 8
  rel := fun w F o cs => ∃ A n c, cs = ocells o A n c ∧ Sl Lst w F A n c o.words
  len := by rintro w F o cs ⟨A, n, c, rfl, _⟩; rfl
  flat := by
    rintro w F o cs ⟨A, n, c, rfl, _⟩ v hv
    simp only [ocells, List.mem_cons, List.not_mem_nil, or_false] at hv
    rcases hv with rfl | rfl | rfl | rfl | rfl | rfl | rfl | rfl <;> rfl
  keep := by rintro w w' F o cs ⟨A, n, c, rfl, h⟩ hk; exact ⟨A, n, c, rfl, h.keep hk⟩
  mono := by rintro w F G o cs ⟨A, n, c, rfl, h⟩ hk; exact ⟨A, n, c, rfl, h.mono hk⟩

theorem law_step {X : Nat → Prop} {w : World} {k : Nat} {M : Md} {t : Int} (s : Stx X w k M) (hok : Ok t M) (h0 : 0 ≤ t) (ht : t < 90) {A0 : Option Addr} {n0 c0 : Nat} {xs : List Pl.Op} {F : Nat → Prop} (hs : Sl Lop w F A0 n0 c0 xs) {i : Nat} (hi : i < n0) {K : World → Prop}
    (hK : ∀ (w10 : World) (X' : Nat → Prop) (o : Pl.Op), xs[i]? = some o → (∀ j, X j → X' j) → Stx X' w10 k (act M (cutOp o)).1 → Ok (t + 1) (act M (cutOp o)).1 → Keep (fun j => j < w.heap.size ∧ ¬ X j) w w10 → K w10) :
    (0 ≤ (i : Int) ∧ (i : Int) < ((n0 : Nat) : Int)) ∧
      SOMEA A0 fun a32 =>
      ∃ (x33_0 : Int) (s33_1 : ByteArray) (s33_2 : ByteArray) (s33_3 : ByteArray) (x33_4 : Int) (x33_5 : Int) (x33_6 : Int) (A33_7 : Option Addr) (n33_7 : Nat) (c33_7 : Nat), RD w (Addr.add a32 (Int.toNat (i : Int) * 8)) 0 [(.int .i64 x33_0), (.string s33_1), (.string s33_2), (.string s33_3), (.int .i64 x33_4), (.int .i64 x33_5), (.int .i64 x33_6), (.slice A33_7 n33_7 c33_7)] ∧
      CALL PP 12 [(.agg #[(.int .i64 x33_0), (.string s33_1), (.string s33_2), (.string s33_3), (.int .i64 x33_4), (.int .i64 x33_5), (.int .i64 x33_6), (.slice A33_7 n33_7 c33_7)])] w fun r34 w5 =>
      ∃ (x34a_0 : Int) (s34a_1 : ByteArray) (s34a_2 : ByteArray) (s34a_3 : ByteArray) (x34a_4 : Int) (x34a_5 : Int) (x34a_6 : Int) (A34a_7 : Option Addr) (n34a_7 : Nat) (c34a_7 : Nat) (x34b_0 : Int) (s34b_1 : ByteArray) (s34b_2 : ByteArray) (s34b_3 : ByteArray) (x34b_4 : Int) (x34b_5 : Int) (x34b_6 : Int) (A34b_7 : Option Addr) (n34b_7 : Nat) (c34b_7 : Nat),
        r34 = (.tuple #[(.agg #[(.int .i64 x34a_0), (.string s34a_1), (.string s34a_2), (.string s34a_3), (.int .i64 x34a_4), (.int .i64 x34a_5), (.int .i64 x34a_6), (.slice A34a_7 n34a_7 c34a_7)]), (.agg #[(.int .i64 x34b_0), (.string s34b_1), (.string s34b_2), (.string s34b_3), (.int .i64 x34b_4), (.int .i64 x34b_5), (.int .i64 x34b_6), (.slice A34b_7 n34b_7 c34b_7)])]) ∧
      NEW w5 (.cells #[(.int .i64 (0 : Int)), (.string (⟨#[]⟩ : ByteArray)), (.string (⟨#[]⟩ : ByteArray)), (.string (⟨#[]⟩ : ByteArray)), (.int .i64 (0 : Int)), (.int .i64 (0 : Int)), (.int .i64 (0 : Int)), (.slice none 0 0)] 28) fun k7 w6 =>
      NEW w6 (.cells #[(.int .i64 (0 : Int)), (.string (⟨#[]⟩ : ByteArray)), (.string (⟨#[]⟩ : ByteArray)), (.string (⟨#[]⟩ : ByteArray)), (.int .i64 (0 : Int)), (.int .i64 (0 : Int)), (.int .i64 (0 : Int)), (.slice none 0 0)] 29) fun k8 w7 =>
      ST w7 (⟨k7, 0, none⟩ : Addr) 0 [(.int .i64 x34a_0), (.string s34a_1), (.string s34a_2), (.string s34a_3), (.int .i64 x34a_4), (.int .i64 x34a_5), (.int .i64 x34a_6), (.slice A34a_7 n34a_7 c34a_7)] fun w8 =>
      ST w8 (⟨k8, 0, none⟩ : Addr) 0 [(.int .i64 x34b_0), (.string s34b_1), (.string s34b_2), (.string s34b_3), (.int .i64 x34b_4), (.int .i64 x34b_5), (.int .i64 x34b_6), (.slice A34b_7 n34b_7 c34b_7)] fun w9 =>
      ∃ (x38_0 : Int) (s38_1 : ByteArray) (s38_2 : ByteArray) (s38_3 : ByteArray) (x38_4 : Int) (x38_5 : Int) (x38_6 : Int) (A38_7 : Option Addr) (n38_7 : Nat) (c38_7 : Nat), RD w9 (⟨k7, 0, none⟩ : Addr) 0 [(.int .i64 x38_0), (.string s38_1), (.string s38_2), (.string s38_3), (.int .i64 x38_4), (.int .i64 x38_5), (.int .i64 x38_6), (.slice A38_7 n38_7 c38_7)] ∧
      CALL PP 13 [(.pointer (some ⟨k, 0, none⟩)), (.agg #[(.int .i64 x38_0), (.string s38_1), (.string s38_2), (.string s38_3), (.int .i64 x38_4), (.int .i64 x38_5), (.int .i64 x38_6), (.slice A38_7 n38_7 c38_7)])] w9 fun r39 w10 =>
      ∃ (x39_0 : Int) (x39_1 : Int) (s39_2 : ByteArray) (A39_3 : Option Addr) (n39_3 : Nat) (c39_3 : Nat) (A39_4 : Option Addr) (n39_4 : Nat) (c39_4 : Nat), r39 = (.agg #[(.int .i64 x39_0), (.int .i64 x39_1), (.string s39_2), (.slice A39_3 n39_3 c39_3), (.slice A39_4 n39_4 c39_4)]) ∧
      K w10 := by
  refine ⟨⟨by omega, by omega⟩, ?_⟩
  obtain ⟨a, cs, o, hA, ho, hrel, hrd⟩ := hs.get hi
  obtain ⟨A, n, c, rfl, hws⟩ := hrel
  refine SOMEA.i hA ⟨_, _, _, _, _, _, _, _, _, _, by rw [Int.toNat_natCast]; exact hrd, ?_⟩
  refine CALL.i (law_own o hws) (by kernel_rfl) ?_
  rintro r w5 ⟨A1, c1, A2, c2, rfl, q5, o1, o2, f1, f2⟩
  refine ⟨_, _, _, _, _, _, _, _, _, _, _, _, _, _, _, _, _, _, _, _, rfl, ?_⟩
  refine NEW.i fun k7 w6 hk7 hs6 q6 a6 => NEW.i fun k8 w7 hk8 hs7 q7 a7 => ?_
  refine ST.i (a6.no q7) (Nat.le_refl _) rfl fun w8 hs8 q8 a8 => ?_
  refine ST.i (q8.at_ a7 (by omega)) (Nat.le_refl _) rfl fun w9 hs9 q9 a9 => ?_
  have b8 := q9.at_ a8 (by omega)
  have p7 := (q5.trans q6).trans q7
  have q79 : Keep (fun j => j = k7 ∨ j = k8) w7 w9 := (q8.mono fun j _ hj => .inl hj).trans (q9.mono fun j _ hj => .inr hj)
  have s9 : Stx (fun j => X j ∨ (w.heap.size ≤ j ∧ j < w7.heap.size)) w9 k M := (s.grow p7).wr q79 (fun j hj => by
    have hs5 := q5.size
    have h1w := s.lt (j := 1) (by obtain ⟨ow, kn, bb, mb, pt, g1, g2, g3, g4⟩ := s; exact g3)
    refine ⟨.inr ?_, ?_⟩
    · rcases hj with rfl | rfl <;> omega
    · rcases hj with rfl | rfl <;> omega)
  refine ⟨_, _, _, _, _, _, _, _, _, _, RD.i b8, ?_⟩
  have lt5 : ∀ j, ownBlk A1 j → j < w5.heap.size := o1.lt
  have o9 : Own Lst 9 w9 No A1 (few o.words).length c1 (few o.words) := ((o1.no q6).no q7).kept q79 (fun j hj _ he => hj.elim (fun h => h) (fun h => by have := lt5 j h; omega))
  refine do_read (X := fun j => X j ∨ (w.heap.size ≤ j ∧ j < w7.heap.size)) s9 hok ht (cutOp o) (A := A1) (n := (few o.words).length) (c := c1) (cutOp_at o9.sl o9.none0) fun w10 X' B1 d1 B2 d2 hX hs10 hk10 _ _ _ => ?_
  refine hK w10 X' o ho (fun j hj => hX j (.inl hj)) hs10 (ok_act ⟨h0, by omega⟩ hok (cutOp o)) ?_
  have z9 : Keep No w w9 := p7.fresh q79 (fun j hj => by have := q5.size; rcases hj with rfl | rfl <;> omega)
  exact z9.no.trans' hk10 (fun j hj hs => ⟨hj, fun hx => hs.2 (.inl hx)⟩)

/-! ## plain -/
theorem boxOf_setBox (M : Md) (y : Bx) (v : Int) : boxOf (setBox M y) v = (boxOf M v).map fun x => if x.validity = y.validity then y else x := by
  unfold boxOf setBox
  simp only
  rw [List.find?_map]
  congr 1
  congr 1
  funext x
  simp only [Function.comp]
  split
  · rename_i h; rw [h]
  · rfl
theorem find_setBox (M : Md) (y : Bx) (s : Str) : find (setBox M y) s = (find M s).map fun x => if x.validity = y.validity then y else x := by
  unfold find
  show (match ofN M.n s with | none => none | some id => boxOf (setBox M y) id) = _
  cases ofN M.n s with
  | none => rfl
  | some id => exact boxOf_setBox M y id
theorem mailOf_setBox (M : Md) (y : Bx) (id : Int) : mailOf (setBox M y) id = mailOf M id := rfl
theorem find_ofN {M : Md} {s : Str} {x : Bx} (h : find M s = some x) : ofN M.n s = some x.validity := by
  unfold find at h
  cases ho : ofN M.n s with
  | none => rw [ho] at h; cases h
  | some id =>
    rw [ho] at h
    rw [(boxOf_some h).2]
/-- boxes of different names are different ones -/
theorem find_ne {t : Int} {M : Md} (h : Ok t M) {s s' : Str} {x y : Bx} (hx : find M s = some x) (hy : find M s' = some y) (hne : s ≠ s') : x.validity ≠ y.validity := by
  intro he
  have h1 := ofN_mem (find_ofN hx)
  have h2 := ofN_mem (find_ofN hy)
  have := nids_inj h.nids h1 h2 he
  exact hne (congrArg Prod.fst this)
def opF (s : Str) (u : Int) : Pl.Op := ⟨7, s, [], [], u, 0, 0, []⟩
def opCp (u : Int) : Pl.Op := ⟨8, [97], [98], [], u, 0, 0, []⟩
def opS (s : Str) : Pl.Op := ⟨5, s, [], [], 0, 0, 0, []⟩
def opFl (u : Int) : Pl.Op := ⟨10, [98], [], [], u, 31, 0, []⟩
def opE : Pl.Op := ⟨11, [97], [], [], 0, 0, 0, []⟩
theorem act_fetch (M : Md) (s : Str) (u : Int) : act M (opF s u) = (M, match find M s with | none => no 5 | some b => fetch M b (opF s u)) := by
  unfold act within
  simp [opF]
  cases find M s <;> rfl
theorem act_status (M : Md) (s : Str) : act M (opS s) = (M, match find M s with | none => no 5 | some b => status b) := by
  unfold act within
  simp [opS]
  cases find M s <;> rfl
theorem act_copy (M : Md) (u : Int) : act M (opCp u) = (match find M [97] with | none => (M, no 5) | some b => copy M b (opCp u)) := by
  unfold act within
  simp [opCp]
  cases find M [97] <;> rfl
theorem act_flag (M : Md) (u : Int) : act M (opFl u) = (match find M [98] with | none => (M, no 5) | some b => (if (setB b u 31 0).2.2 ≠ 0 then M else setBox M (setB b u 31 0).1, ⟨(setB b u 31 0).2.2, (setB b u 31 0).2.1.flags, [], [], []⟩)) := by
  have h : act M (opFl u) = within M (opFl u) := rfl
  rw [h]
  unfold within
  cases hf : find M [98] with
  | none => rw [show find M (opFl u).box = none from hf]
  | some b => rw [show find M (opFl u).box = some b from hf]; rfl
theorem mix31 {f : Int} (h0 : 0 ≤ f) (h1 : f ≤ 31) : mix f 31 0 = 31 := by
  have H : ∀ n : Fin 32, mix (n.val : Int) 31 0 = 31 := by decide +kernel
  have := H ⟨f.toNat, by omega⟩
  rwa [show ((f.toNat : Nat) : Int) = f by omega] at this

theorem copies_pure {t : Int} {M : Md} (h : Ok t M) (ht : t < 200) (u : Int) :
    ((act M (opCp u)).2.err ≠ 0 → (act M (opF [97] u)).2.err = 0 → (act (act M (opCp u)).1 (opS [98])).2.err ≠ 0) ∧
    ((act M (opCp u)).2.err = 0 → (act M (opF [97] u)).2.err = 0 ∧ (act (act M (opCp u)).1 (opF [98] (act M (opCp u)).2.n)).2.err = 0 ∧
      (act (act M (opCp u)).1 (opF [98] (act M (opCp u)).2.n)).2.text = (act M (opF [97] u)).2.text ∧ (act (act M (opCp u)).1 (opF [98] (act M (opCp u)).2.n)).2.n = (act M (opF [97] u)).2.n ∧
      (act (act M (opCp u)).1 (opFl (act M (opCp u)).2.n)).2.n = 31 ∧
      (act (act (act M (opCp u)).1 (opFl (act M (opCp u)).2.n)).1 (opF [97] u)).2.n = (act M (opF [97] u)).2.n ∧
      (act (act (act M (opCp u)).1 (opFl (act M (opCp u)).2.n)).1 (opF [97] u)).2.text = (act M (opF [97] u)).2.text) := by
  cases hx : find M [97] with
  | none =>
    have hC : act M (opCp u) = (M, no 5) := by rw [act_copy, hx]
    rw [hC, act_fetch, hx]
    exact ⟨fun _ hc => by simp [no] at hc, fun hc => by simp [no] at hc⟩
  | some x =>
    have hxM := find_some h.names hx
    have hA0 : (act M (opF [97] u)).2 = fetch M x (opF [97] u) := by rw [act_fetch, hx]
    have hC0 : act M (opCp u) = copy M x (opCp u) := by rw [act_copy, hx]
    cases hy : find M [98] with
    | none =>
      have hC : copy M x (opCp u) = (M, no 5) := by
        unfold copy
        rw [show find M (opCp u).to = none from hy]
      rw [hC0, hC]
      refine ⟨fun _ _ => ?_, fun hc => by simp [no] at hc⟩
      rw [act_status, hy]
      simp [no]
    | some y =>
      have hyM := find_some h.names hy
      cases hf : findB x u with
      | none =>
        have hC : copy M x (opCp u) = (M, no 7) := by
          unfold copy
          rw [show find M (opCp u).to = some y from hy]
          simp only
          rw [show findB x (opCp u).uid = none from hf]
        have hA : fetch M x (opF [97] u) = no 7 := by
          unfold fetch
          rw [show findB x (opF [97] u).uid = none from hf]
        rw [hC0, hC, hA0, hA]
        exact ⟨fun _ hc => by simp [no] at hc, fun hc => by simp [no] at hc⟩
      | some e =>
        obtain ⟨he1, he2⟩ := findB_some hf
        have hxe := (h.bx x hxM).ent e he1
        have hyb := h.bx y hyM
        have hmail : e.mail < M.next := by
          obtain ⟨q, hq, hqe⟩ := List.mem_map.1 (h.me x hxM e he1)
          rw [← hqe]
          exact (h.ml q hq).2.1
        have hmn := h.mn
        have hadd : addB y e.mail e.flags = (⟨y.validity, y.next + 1, y.l ++ [⟨y.next, e.flags, e.mail⟩]⟩, ⟨y.next, e.flags, e.mail⟩, 0) := by
          have hlen := hyb.len
          have h256 : ¬ 256 ≤ y.l.length := by omega
          have hfo : flagOk e.flags = true := by
            unfold flagOk
            rw [decide_eq_true hxe.2.2.1, decide_eq_true hxe.2.2.2.1]; rfl
          unfold addB
          rw [decide_eq_true hxe.2.2.2.2, decide_eq_true (show e.mail ≤ 1099511627776 by omega), hfo, if_neg h256]
          rfl
        have hC : copy M x (opCp u) = (setBox M ⟨y.validity, y.next + 1, y.l ++ [⟨y.next, e.flags, e.mail⟩]⟩, ⟨0, y.next, [], [], []⟩) := by
          unfold copy
          rw [show find M (opCp u).to = some y from hy]
          simp only
          rw [show findB x (opCp u).uid = some e from hf]
          simp only [hadd]
          simp [opCp]
        have hA : fetch M x (opF [97] u) = ⟨0, e.flags, (mailOf M e.mail).getD [], [], []⟩ := by
          unfold fetch
          rw [show findB x (opF [97] u).uid = some e from hf]
        have hne : x.validity ≠ y.validity := find_ne h hx hy (by decide)
        -- the box b, behind the copy
        have hfb : find (setBox M ⟨y.validity, y.next + 1, y.l ++ [⟨y.next, e.flags, e.mail⟩]⟩) [98] = some ⟨y.validity, y.next + 1, y.l ++ [⟨y.next, e.flags, e.mail⟩]⟩ := by
          rw [find_setBox, hy]
          simp
        have hfind : findB ⟨y.validity, y.next + 1, y.l ++ [⟨y.next, e.flags, e.mail⟩]⟩ y.next = some ⟨y.next, e.flags, e.mail⟩ := by
          unfold findB
          simp only
          rw [List.find?_append]
          have : y.l.find? (fun e => decide (e.uid = y.next)) = none := by
            rw [List.find?_eq_none]
            intro z hz
            have := ((hyb.ent z hz).2.1)
            have hz' : z.uid ≠ y.next := by omega
            simpa using hz'
          rw [this]
          simp
        have hset : setB ⟨y.validity, y.next + 1, y.l ++ [⟨y.next, e.flags, e.mail⟩]⟩ y.next 31 0 = (⟨y.validity, y.next + 1, setL y.next ⟨y.next, 31, e.mail⟩ (y.l ++ [⟨y.next, e.flags, e.mail⟩])⟩, ⟨y.next, 31, e.mail⟩, 0) := by
          unfold setB
          rw [hfind]
          simp only [mix31 hxe.2.2.1 hxe.2.2.2.1]
          rfl
        rw [hC0, hC, hA0, hA]
        refine ⟨fun hc => absurd rfl hc, fun _ => ⟨rfl, ?_⟩⟩
        rw [act_fetch, act_flag, hfb]
        simp only [hset]
        have hfetch : fetch (setBox M ⟨y.validity, y.next + 1, y.l ++ [⟨y.next, e.flags, e.mail⟩]⟩) ⟨y.validity, y.next + 1, y.l ++ [⟨y.next, e.flags, e.mail⟩]⟩ (opF [98] y.next) = ⟨0, e.flags, (mailOf M e.mail).getD [], [], []⟩ := by
          unfold fetch
          rw [show findB _ (opF [98] y.next).uid = _ from hfind]
          rfl
        rw [hfetch]
        refine ⟨by trivial, by trivial, by trivial, by trivial, ?_⟩
        simp only [ne_eq, not_true_eq_false, if_false]
        rw [act_fetch]
        have hfa : find (setBox (setBox M ⟨y.validity, y.next + 1, y.l ++ [⟨y.next, e.flags, e.mail⟩]⟩) ⟨y.validity, y.next + 1, setL y.next ⟨y.next, 31, e.mail⟩ (y.l ++ [⟨y.next, e.flags, e.mail⟩])⟩) [97] = some x := by
          rw [find_setBox, find_setBox, hx]
          simp [hne]
        rw [hfa]
        simp only
        have hA2 : fetch (setBox (setBox M ⟨y.validity, y.next + 1, y.l ++ [⟨y.next, e.flags, e.mail⟩]⟩) ⟨y.validity, y.next + 1, setL y.next ⟨y.next, 31, e.mail⟩ (y.l ++ [⟨y.next, e.flags, e.mail⟩])⟩) x (opF [97] u) = ⟨0, e.flags, (mailOf M e.mail).getD [], [], []⟩ := by
          unfold fetch
          rw [show findB x (opF [97] u).uid = some e from hf]
          rfl
        rw [hA2]
        exact ⟨rfl, rfl⟩

theorem modelCopies_walk {w : World} (hg : Glob w) (h1 : 1 < w.heap.size) {A0 : Option Addr} {n0 c0 : Nat} {xs : List Pl.Op} {F : Nat → Prop} (hs : Sl Lop w F A0 n0 c0 xs) (hF : ∀ j, F j → j < w.heap.size) (uid : Int) :
    Calls PP 3 #[.slice A0 n0 c0, .int .i64 uid] w (Ret fun r w' => r = .bool true ∧ Keep No w w') := by
  refine c3 ?_
  unfold S3
  refine CALL.i (law_awake hg h1) (by kernel_rfl) ?_
  rintro r w1 ⟨rfl, q1⟩
  refine ⟨_, rfl, split_i (fun hc => by cases hc) (fun _ => ?_)⟩
  refine CALL.i (stx_new (Y := fun j => j < w.heap.size) (hg.no q1) (by have := q1.size; omega) (fun j hj => by have := q1.size; omega) h1) (by kernel_rfl) ?_
  rintro r w2 ⟨k, rfl, q2, s2⟩
  refine ⟨_, rfl, split_i (fun hc => by cases hc) (fun _ => ?_)⟩
  have p2 := q1.trans q2
  refine ⟨fun w3 => ∃ X M, Stx X w3 k M ∧ Ok 15 M ∧ (∀ j, j < w.heap.size → X j) ∧ Keep No w w3, ?_, ?_⟩
  · refine ⟨fun x w3 => ∃ (i : Nat) (X : Nat → Prop) (M : Md), x = i ∧ i ≤ 15 ∧ Stx X w3 k M ∧ Ok i M ∧ (∀ j, j < w.heap.size → X j) ∧ Keep No w w3, fun x _ => (((15 : Nat) : Int) - x).toNat, ⟨0, _, _, rfl, by omega, s2, ok_new (Int.le_refl _), fun j hj => hj, p2⟩, ?_⟩
    rintro _ x w3 ⟨i, X, M, rfl, hi, s3, ok3, hX, p3⟩
    refine ⟨fun w4 => w4 = w3 ∧ i < n0 ∧ i < 15, split_dec (fun h1 => split_dec (fun h2 => ⟨rfl, by omega, by omega⟩) (fun h2 => ⟨X, M, s3, ok3.mono (by omega), hX, p3⟩)) (fun h1 => ⟨X, M, s3, ok3.mono (by omega), hX, p3⟩), ?_⟩
    rintro _ w4 ⟨rfl, hin, hi15⟩
    refine law_step s3 ok3 (by omega) (by omega) (hs.no p3) hin fun w10 X' o ho hXX s10 ok10 k10 => ?_
    refine ⟨⟨i + 1, X', _, wrapS (by omega), hi15, s10, ok10, fun j hj => hXX j (hX j hj), p3.old k10 hX⟩, mu_go (wrapS (by omega)) hi15⟩
  · rintro _ w3 ⟨X, M, s3, ok3, hX, p3⟩
    generalize (IntKind.wrap .i64 (((BitVec.ofInt 64 uid) &&& (BitVec.ofInt 64 (7 : Int))).toNat : Int)) = u
    obtain ⟨hp1, hp2⟩ := copies_pure ok3 (by omega) u
    have hM1 : (act M (opF [97] u)).1 = M := by rw [act_fetch]
    refine do_store s3 ok3 (by omega) (opF [97] u) (A := none) (n := 0) (c := 0) (opAt_none _ rfl (by simp [opF]) (by simp [opF]) (by simp [opF])) fun k9 w6 X6 x6 s6 q6 a6 l6 => ?_
    have p6 := p3.old q6 hX
    have hX6 : ∀ j, j < w.heap.size → X6 j := fun j hj => x6 j (hX j hj)
    have ok6 : Ok 15 (act M (opF [97] u)).1 := by rw [hM1]; exact ok3
    refine do_store s6 ok6 (by omega) (opCp u) (A := none) (n := 0) (c := 0) (opAt_none _ rfl (by simp [opCp]) (by simp [opCp]) (by simp [opCp])) fun k10 w9 X9 x9 s9 q9 a9 l9 => ?_
    rw [hM1] at s9 a9
    have ok9 := ok_act (by omega) ok3 (opCp u)
    have p9 := p6.old q9 hX6
    have hX9 : ∀ j, j < w.heap.size → X9 j := fun j hj => x9 j (hX6 j hj)
    have b6 := a6.later q9 x9
    refine ⟨_, a9.cell.1, split_i (fun he => ?_) (fun he => ?_)⟩
    · have he' : (act M (opCp u)).2.err ≠ 0 := by simpa using he
      refine ⟨_, b6.cell.1, split_i (fun hf => ⟨rfl, p9⟩) (fun hf => ?_)⟩
      have hf' : (act M (opF [97] u)).2.err = 0 := by simpa using hf
      refine do_read s9 ok9 (by omega) (opS [98]) (A := none) (n := 0) (c := 0) (opAt_none _ rfl (by simp [opS]) (by simp [opS]) (by simp [opS])) fun w10 X10 B1 d1 B2 d2 x10 s10 q10 _ _ _ => ?_
      refine ⟨?_, p9.old q10 hX9⟩
      have := hp1 he' hf'
      have hb : ((act (act M (opCp u)).1 (opS [98])).2.err != 0) = true := by simpa using this
      rw [hb]
    · have he' : (act M (opCp u)).2.err = 0 := by simpa using he
      obtain ⟨g1, g2, g3, g4, g5, g6, g7⟩ := hp2 he'
      refine ⟨_, a9.cell.2.1, ?_⟩
      refine do_store s9 ok9 (by omega) (opF [98] (act M (opCp u)).2.n) (A := none) (n := 0) (c := 0) (opAt_none _ rfl (by simp [opF]) (by simp [opF]) (by simp [opF])) fun k11 w12 X12 x12 s12 q12 a12 l12 => ?_
      have hM2 : (act (act M (opCp u)).1 (opF [98] (act M (opCp u)).2.n)).1 = (act M (opCp u)).1 := by rw [act_fetch]
      rw [hM2] at s12
      have p12 := p9.old q12 hX9
      have hX12 : ∀ j, j < w.heap.size → X12 j := fun j hj => x12 j (hX9 j hj)
      have c6 := b6.later q12 x12
      have c9 := a9.later q12 x12
      refine ⟨fun w13 => w13 = w12, ?_, ?_⟩
      · refine ⟨_, c6.cell.1, ?_⟩
        rw [g1]
        refine split_i (fun hc => by cases hc) (fun _ => ?_)
        refine ⟨_, a12.cell.1, ?_⟩
        rw [g2]
        refine split_i (fun hc => by cases hc) (fun _ => ?_)
        refine ⟨_, a12.cell.2.2, _, c6.cell.2.2, ?_⟩
        rw [g3]
        refine split_i (fun hc => by simp at hc) (fun _ => ?_)
        refine ⟨_, a12.cell.2.1, _, c6.cell.2.1, ?_⟩
        rw [g4]
        refine split_i (fun hc => by simp at hc) (fun _ => rfl)
      · rintro _ w13 rfl
        refine ⟨_, c9.cell.2.1, ?_⟩
        refine do_store s12 ok9 (by omega) (opFl (act M (opCp u)).2.n) (A := none) (n := 0) (c := 0) (opAt_none _ rfl (by simp [opFl]) (by simp [opFl]) (by simp [opFl])) fun k12 w16 X16 x16 s16 q16 a16 l16 => ?_
        have p16 := p12.old q16 hX12
        have hX16 : ∀ j, j < w.heap.size → X16 j := fun j hj => x16 j (hX12 j hj)
        have ok16 := ok_act (by omega) ok9 (opFl (act M (opCp u)).2.n)
        have d6 := c6.later q16 x16
        refine do_store s16 ok16 (by omega) (opF [97] u) (A := none) (n := 0) (c := 0) (opAt_none _ rfl (by simp [opF]) (by simp [opF]) (by simp [opF])) fun k13 w19 X19 x19 s19 q19 a19 l19 => ?_
        have p19 := p16.old q19 hX16
        have e6 := d6.later q19 x19
        have e16 := a16.later q19 x19
        refine ⟨_, e16.cell.2.1, ?_⟩
        rw [g5]
        refine split_i (fun _ => ?_) (fun hc => by cases hc)
        refine ⟨_, a19.cell.2.1, _, e6.cell.2.1, ?_⟩
        rw [g6]
        refine split_i (fun _ => ?_) (fun hc => by simp at hc)
        refine ⟨_, a19.cell.2.2, _, e6.cell.2.2, ?_, p19⟩
        rw [g7]
        simp
end Go.SW
