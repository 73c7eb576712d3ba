/- The store in the memory; what only reads it. -/
import Derived.Test.YtfhiffnfngpkeaaGreatDoorWords4
import Derived.Test.YtfhiffnfngpkeaaGreatDoorBox
import Derived.Test.YtfhiffnfngpkeaaGreatDoorSModel
set_option linter.unusedVariables false
namespace Go.SW
open Go Go.Proofs Pl

inductive Tag where
  | out | top | names | boxes | mails | box (id : Int)
  deriving DecidableEq
def Ebx : KV Int Nat := ⟨.int .i64, fun n => .int .i64 n, fun k => .pointer (some ⟨k, 0, none⟩), fun _ => rfl, fun a b h => by cases h; rfl⟩
theorem T79 : MapTy Ebx 79 3 47 (.pointer none) := ⟨by kernel_rfl, by kernel_rfl, ⟨tinfo 47, by kernel_rfl, by kernel_rfl⟩⟩

/-- the store at block k; ow: whose each block is -/
structure IsModel (w : World) (k : Nat) (ow : Nat → Tag) (M : Md) (kn bb mb : Nat) (pt : Int → Nat) : Prop where
  top : At w k (.cells ⟨[.pointer (some ⟨kn, 0, none⟩), .map (some bb), .map (some mb), .int .i64 M.next]⟩ 82 (0, 0))
  otop : ow k = .top
  obb : ow bb = .boxes
  omb : ow mb = .mails
  names : IsNames w kn (fun j => ow j = .names) M.n
  boxes : MapAt Ebx w bb (M.b.map fun x => (x.validity, pt x.validity))
  mails : MapAt Eml w mb M.mails
  box : ∀ x ∈ M.b, IsBox w (pt x.validity) (fun j => ow j = .box x.validity) x
  lt : ∀ j, ow j ≠ .out → j < w.heap.size
def Fp (ow : Nat → Tag) : Nat → Prop := fun j => ow j ≠ .out
theorem IsModel.keep {w w' : World} {k : Nat} {ow : Nat → Tag} {M : Md} {kn bb mb : Nat} {pt : Int → Nat} (h : IsModel w k ow M kn bb mb pt) (hk : ∀ j, ow j ≠ .out → w'.heap[j]? = w.heap[j]?) (hs : w.heap.size ≤ w'.heap.size) : IsModel w' k ow M kn bb mb pt where
  top := (hk k (by rw [h.otop]; intro h; cases h)).trans h.top
  otop := h.otop
  obb := h.obb
  omb := h.omb
  names := h.names.keep fun j hj _ => hk j (by rw [hj]; intro h; cases h)
  boxes := h.boxes.keep (hk bb (by rw [h.obb]; intro h; cases h))
  mails := h.mails.keep (hk mb (by rw [h.omb]; intro h; cases h))
  box := fun x hx => (h.box x hx).keep fun j hj _ => hk j (by rw [hj]; intro h; cases h)
  lt := fun j hj => Nat.lt_of_lt_of_le (h.lt j hj) hs
theorem IsModel.kept {w w' : World} {k : Nat} {ow : Nat → Tag} {M : Md} {kn bb mb : Nat} {pt : Int → Nat} {S : Nat → Prop} (h : IsModel w k ow M kn bb mb pt) (hk : Keep S w w') (hd : ∀ j, ow j ≠ .out → ¬ S j) : IsModel w' k ow M kn bb mb pt :=
  h.keep (fun j hj => hk.keep j (h.lt j hj) (hd j hj)) hk.size
theorem IsModel.no {w w' : World} {k : Nat} {ow : Nat → Tag} {M : Md} {kn bb mb : Nat} {pt : Int → Nat} (h : IsModel w k ow M kn bb mb pt) (hk : Keep No w w') : IsModel w' k ow M kn bb mb pt := h.kept hk (fun _ _ h => h)

/-! ## answers -/
def hcells (h : Hit) : List Value := [.string (bs h.box), .int .i64 h.uid, .int .i64 h.flags]
def Lhit : Ly Hit := .of 3 hcells (fun _ => rfl) (fun _ => rfl)
theorem Lhit_plain : Lhit.Plain := fun _ _ _ _ _ _ h => h
theorem T39 : ElemTy Lhit 33 39 32 := ⟨by kernel_rfl, ⟨tinfo 39, (tinfo 39).zero.getD .nilIface, by kernel_rfl, by kernel_rfl, by kernel_rfl, by kernel_rfl, by kernel_rfl⟩, by omega, by show 0 < 3; omega⟩
def acells (e n : Int) (t : ByteArray) (A1 : Option Addr) (n1 c1 : Nat) (A2 : Option Addr) (n2 c2 : Nat) : List Value := [.int .i64 e, .int .i64 n, .string t, .slice A1 n1 c1, .slice A2 n2 c2]
def IsAns (w : World) (G : Nat → Prop) (a : Ans) (r : Value) : Prop :=
  ∃ A1 c1 A2 c2, r = .agg ⟨acells a.err a.n (bs a.text) A1 a.names.length c1 A2 a.hits.length c2⟩ ∧ Own Lst 9 w No A1 a.names.length c1 a.names ∧ Own Lhit 39 w No A2 a.hits.length c2 a.hits ∧ ∀ j, ownBlk A1 j ∨ ownBlk A2 j → G j
theorem IsAns.kept {w w' : World} {G S : Nat → Prop} {a : Ans} {r : Value} (h : IsAns w G a r) (hk : Keep S w w') (hd : ∀ j, G j → ¬ S j) : IsAns w' G a r := by
  obtain ⟨A1, c1, A2, c2, h1, h2, h3, h4⟩ := h
  exact ⟨A1, c1, A2, c2, h1, h2.kept hk (fun j hj _ => hj.elim (fun h => False.elim h) (fun h => hd j (h4 j (.inl h)))), h3.kept hk (fun j hj _ => hj.elim (fun h => False.elim h) (fun h => hd j (h4 j (.inr h)))), h4⟩
theorem IsAns.mono {w : World} {G H : Nat → Prop} {a : Ans} {r : Value} (h : IsAns w G a r) (hd : ∀ j, G j → H j) : IsAns w H a r := by
  obtain ⟨A1, c1, A2, c2, h1, h2, h3, h4⟩ := h
  exact ⟨A1, c1, A2, c2, h1, h2, h3, fun j hj => hd j (h4 j hj)⟩
/-- an answer without slices -/
theorem IsAns.flat (w : World) (G : Nat → Prop) (e n : Int) (t : Str) : IsAns w G ⟨e, n, t, [], []⟩ (.agg ⟨acells e n (bs t) none 0 0 none 0 0⟩) :=
  ⟨none, 0, none, 0, rfl, Own.nil _ _ _ _, Own.nil _ _ _ _, fun j h => h.elim (fun h => False.elim h) (fun h => False.elim h)⟩
/-- 'return': the answer goes through its own block -/
theorem ans_ret {w : World} {k : Nat} {l : List Value} {R : Value → World → Prop} {e n : Int} {t : ByteArray} {A1 : Option Addr} {n1 c1 : Nat} {A2 : Option Addr} {n2 c2 : Nat} (ha : At w k (.cells ⟨l⟩ 35 (0, 0))) (hl : l.length = 5)
    (hR : ∀ w', Keep (fun j => j = k) w w' → w'.heap.size = w.heap.size → R (.agg ⟨acells e n t A1 n1 c1 A2 n2 c2⟩) w') :
    ST w (⟨k, 0, none⟩ : Addr) 0 [(.int .i64 e), (.int .i64 n), (.string t), (.slice A1 n1 c1), (.slice A2 n2 c2)] fun w5 =>
    ∃ (x4r_0 : Int) (x4r_1 : Int) (s4r_2 : ByteArray) (A4r_3 : Option Addr) (n4r_3 : Nat) (c4r_3 : Nat) (A4r_4 : Option Addr) (n4r_4 : Nat) (c4r_4 : Nat), RD w5 (⟨k, 0, none⟩ : Addr) 0 [(.int .i64 x4r_0), (.int .i64 x4r_1), (.string s4r_2), (.slice A4r_3 n4r_3 c4r_3), (.slice A4r_4 n4r_4 c4r_4)] ∧
    R (.agg #[(.int .i64 x4r_0), (.int .i64 x4r_1), (.string s4r_2), (.slice A4r_3 n4r_3 c4r_3), (.slice A4r_4 n4r_4 c4r_4)]) w5 := by
  obtain ⟨a0, a1, a2, a3, a4, rfl⟩ : ∃ a0 a1 a2 a3 a4, l = [a0, a1, a2, a3, a4] := by
    match l, hl with
    | [a0, a1, a2, a3, a4], _ => exact ⟨a0, a1, a2, a3, a4, rfl⟩
  refine ST.i ha (Nat.le_refl _) rfl fun w5 hs k5 a5 => ?_
  exact ⟨_, _, _, _, _, _, _, _, _, RD.i a5, hR w5 k5 hs⟩
theorem model_no (e : Int) (w : World) : Calls PP 35 #[.int .i64 e] w (Ret fun r w' => r = .agg ⟨acells e 0 (bs []) none 0 0 none 0 0⟩ ∧ Keep No w w') := by
  suffices H : ∀ R : Value → World → Prop, (∀ w', Keep No w w' → R (.agg ⟨acells e 0 (bs []) none 0 0 none 0 0⟩) w') → S35 e w R from c35 (H _ fun w' hk => ⟨rfl, hk⟩)
  intro R hR
  unfold S35
  exact NEW.i fun k w1 hk hs1 k1 a1 => ans_ret (R := R) a1 rfl fun w2 k2 hs2 => hR w2 (k1.tmp k2 (Nat.le_of_eq hk))

/-! ## what reads -/
section
variable {w : World} {k : Nat} {ow : Nat → Tag} {M : Md} {kn bb mb : Nat} {pt : Int → Nat}
theorem mget_boxes {l : List Bx} {pt : Int → Nat} {id : Int} : mget (l.map fun x => (x.validity, pt x.validity)) id = ((l.find? fun b => decide (b.validity = id)).map fun x => pt x.validity) := by
  unfold mget
  rw [List.find?_map]
  cases h : l.find? ((fun p : Int × Nat => decide (p.1 = id)) ∘ fun x : Bx => (x.validity, pt x.validity)) with
  | none =>
    have : l.find? (fun b => decide (b.validity = id)) = none := h
    rw [this]; rfl
  | some x =>
    have : l.find? (fun b => decide (b.validity = id)) = some x := h
    rw [this]; rfl
theorem boxOf_some {M : Md} {id : Int} {x : Bx} (h : boxOf M id = some x) : x ∈ M.b ∧ x.validity = id :=
  ⟨List.mem_of_find?_eq_some h, by have := List.find?_some h; simpa using this⟩

/-- every name has its box -/
def NamesOk (M : Md) : Prop := ∀ s id, ofN M.n s = some id → (boxOf M id).isSome = true
theorem find_of (hok : NamesOk M) (s : Str) : (find M s).isSome = (ofN M.n s).isSome := by
  unfold find
  cases h : ofN M.n s with
  | none => rfl
  | some id => simpa using hok s id h
theorem model_find (h : IsModel w k ow M kn bb mb pt) (hok : NamesOk M) (s : Str) :
    Calls PP 74 #[.pointer (some ⟨k, 0, none⟩), .string (bs s)] w (Ret fun r w' => w' = w ∧ match find M s with
      | none => ∃ p, r = .tuple #[.pointer p, .bool false]
      | some b => r = .tuple #[.pointer (some ⟨pt b.validity, 0, none⟩), .bool true] ∧ b ∈ M.b) := by
  refine c74 ?_
  unfold S74
  refine ⟨_, cell_at h.top rfl, ?_⟩
  refine CALL.i (names_of h.names s) (by kernel_rfl) ?_
  rintro r w1 ⟨rfl, rfl⟩
  refine ⟨_, _, rfl, _, cell_at h.top rfl, _, map_lookup1 T79 h.boxes _, ?_⟩
  rw [mget_boxes]
  unfold find
  cases ho : ofN M.n s with
  | none =>
    simp only [Option.getD_none, Option.isSome_none]
    cases hb : M.b.find? (fun b => decide (b.validity = 0)) with
    | none => exact ⟨_, rfl, trivial, _, rfl⟩
    | some x => exact ⟨_, rfl, trivial, _, rfl⟩
  | some id =>
    have h1 := hok s id ho
    simp only [Option.getD_some, Option.isSome_some]
    cases hb : boxOf M id with
    | none => rw [hb] at h1; cases h1
    | some x =>
      have h2 : M.b.find? (fun b => decide (b.validity = id)) = some x := hb
      rw [h2]
      exact ⟨_, rfl, trivial, rfl, (boxOf_some hb).1⟩
theorem model_next (h : IsModel w k ow M kn bb mb pt) : Calls PP 20 #[.pointer (some ⟨k, 0, none⟩)] w (Ret fun r w' => r = .int .i64 M.next ∧ w' = w) := c20 ⟨_, cell_at h.top rfl, rfl, rfl⟩
theorem model_mail (h : IsModel w k ow M kn bb mb pt) (id : Int) : Calls PP 23 #[.pointer (some ⟨k, 0, none⟩), .int .i64 id] w (Ret fun r w' => r = .tuple #[.string (bs ((mailOf M id).getD [])), .bool (mailOf M id).isSome] ∧ w' = w) := by
  refine c23 ⟨_, cell_at h.top rfl, _, map_lookup T80 h.mails id, ?_⟩
  show _
  have : mget M.mails id = mailOf M id := rfl
  rw [this]
  cases mailOf M id with
  | none => exact ⟨_, _, rfl, rfl, rfl⟩
  | some v => exact ⟨_, _, rfl, rfl, rfl⟩
theorem model_names (h : IsModel w k ow M kn bb mb pt) : Calls PP 14 #[.pointer (some ⟨k, 0, none⟩)] w (Ret fun r w' => ∃ k', r = .pointer (some ⟨k', 0, none⟩) ∧ Keep No w w' ∧ IsNames w' k' (fun j => w.heap.size ≤ j ∧ j < w'.heap.size) M.n) := by
  refine c14 ⟨_, cell_at h.top rfl, ?_⟩
  refine CALL.i (names_clone h.names) (by kernel_rfl) ?_
  rintro r w1 ⟨k', rfl, h1⟩
  exact ⟨_, rfl, k', rfl, h1⟩
theorem model_box (h : IsModel w k ow M kn bb mb pt) (hl : ∀ x ∈ M.b, x.l.length < 1000000000) (id : Int) :
    Calls PP 17 #[.pointer (some ⟨k, 0, none⟩), .int .i64 id] w (Ret fun r w' => Keep No w w' ∧ match boxOf M id with
      | none => r = .tuple #[.pointer none, .bool false]
      | some b => ∃ k', r = .tuple #[.pointer (some ⟨k', 0, none⟩), .bool true] ∧ IsBox w' k' (fun j => w.heap.size ≤ j) b) := by
  refine c17 ⟨_, cell_at h.top rfl, _, map_lookup T79 h.boxes id, ?_⟩
  rw [mget_boxes]
  cases hb : boxOf M id with
  | none =>
    have h2 : M.b.find? (fun b => decide (b.validity = id)) = none := hb
    rw [h2]
    exact ⟨_, _, rfl, split_i (fun _ => ⟨Keep.refl _ _, rfl⟩) (fun hc => by cases hc)⟩
  | some x =>
    have h2 : M.b.find? (fun b => decide (b.validity = id)) = some x := hb
    rw [h2]
    refine ⟨_, _, rfl, split_i (fun hc => by cases hc) (fun _ => ?_)⟩
    have hx := (boxOf_some hb).1
    refine CALL.i (box_clone (h.box x hx) (hl x hx)) (by kernel_rfl) ?_
    rintro r w1 ⟨k', rfl, k1, h1⟩
    exact ⟨_, rfl, k1, k', rfl, h1⟩
def RisingI (l : List (Int × Str)) : Prop := l.Pairwise fun p q => p.1 < q.1
theorem RisingI.keys {l : List (Int × Str)} (h : RisingI l) : (mkeys l).Pairwise (· ≤ ·) := List.pairwise_map.2 (h.imp fun h => Int.le_of_lt h)
theorem model_mails (h : IsModel w k ow M kn bb mb pt) (hr : RisingI M.mails) (hl : M.mails.length < 1000000) :
    Calls PP 19 #[.pointer (some ⟨k, 0, none⟩)] w (Ret fun r w' => ∃ A c, r = .slice A M.mails.length c ∧ Keep No w w' ∧ Own Ly.int 3 w' No A M.mails.length c (mkeys M.mails) ∧ ∀ j, ownBlk A j → w.heap.size ≤ j) := by
  refine c19 ?_
  unfold S19
  refine ⟨_, cell_at h.top rfl, ?_⟩
  refine CALL.i (R := fun r w' => ∃ k1, r = .func (.func 88) #[] ⟨[.pointer (some ⟨k1, 0, none⟩)]⟩ ∧ Keep No w w' ∧ At w' k1 (.cells ⟨[.map (some mb)]⟩ 80 (0, 0))) ?_ (by kernel_rfl) ?_
  · refine c42 ?_
    unfold S42
    exact NEW.i fun k1 w1 hk1 hs1 p1 a1 => ⟨k1, rfl, p1, a1⟩
  · rintro r w1 ⟨k1, rfl, p1, a1⟩
    have hm1 := h.mails.no p1
    have hlen : ∀ vis : List Int, vis.Nodup → (∀ y ∈ vis, y ∈ mkeys M.mails) → vis.length ≤ M.mails.length := fun vis hn hm => by
      have := nodup_length_le hn hm
      simpa [mkeys] using this
    refine CALL.i (sorted_int (keys_int a1 hm1) (fun j hj => ?_) ?_ ?_) (by kernel_rfl) ?_
    · rcases hj with rfl | rfl
      · exact a1.lt
      · exact hm1.lt
    · intro vis x hx
      have := hlen _ hx.1 hx.2
      simp at this
      omega
    · intro vis hv
      have := hv.length_eq
      simp [mkeys] at this
      omega
    · rintro r w2 ⟨A, c, xs, rfl, hS, k2, o2, f2⟩
      have hxs : xs.length = M.mails.length := by
        have := hS.length_eq
        simpa [mkeys] using this
      rw [hxs] at o2 ⊢
      rw [sortI_perm hS hr.keys] at o2
      exact ⟨_, _, _, rfl, A, c, rfl, p1.trans k2, o2, fun j hj => by have := f2 j hj; have := p1.size; omega⟩
end
theorem model_new (w : World) : Calls PP 11 #[] w (Ret fun r w' => ∃ k ow kn bb mb pt, r = .pointer (some ⟨k, 0, none⟩) ∧ Keep No w w' ∧ IsModel w' k ow .new kn bb mb pt ∧ ∀ j, j < w.heap.size → ow j = .out) := by
  refine c11 ?_
  unfold S11
  refine CALL.i (names_new w) (by kernel_rfl) ?_
  rintro r w1 ⟨kn, rfl, p1, hs1, h1⟩
  refine ⟨_, rfl, ?_⟩
  refine NEW.i fun b2 w2 hb2 hs2 p2 a2 => NEW.i fun b3 w3 hb3 hs3 p3 a3 => NEW.i fun b5 w4 hb5 hs4 p4 a4 => ?_
  refine ⟨b5, fun j => if j < w.heap.size then .out else if j < b2 then .names else if j = b2 then .boxes else if j = b3 then .mails else if j = b5 then .top else .out, kn, b2, b3, fun _ => 0, rfl, ((p1.trans p2).trans p3).trans p4, ?_, fun j hj => if_pos hj⟩
  refine ⟨a4, ?_, ?_, ?_, ?_, (MapAt.empty (a2.no p3)).no p4, (MapAt.empty a3).no p4, (fun x hx => by cases hx), ?_⟩
  · show (if _ then _ else _) = _
    rw [if_neg (by omega), if_neg (by omega), if_neg (by omega), if_neg (by omega), if_pos rfl]
  · show (if _ then _ else _) = _
    rw [if_neg (by omega), if_neg (by omega), if_pos rfl]
  · show (if _ then _ else _) = _
    rw [if_neg (by omega), if_neg (by omega), if_neg (by omega), if_pos rfl]
  · refine (((h1.no p2).no p3).no p4).mono fun j hj => ?_
    show (if _ then _ else _) = _
    rw [if_neg (by omega), if_pos (by omega)]
  · intro j hj
    by_cases h : j < w4.heap.size
    · exact h
    · exfalso
      apply hj
      show (if _ then _ else _) = _
      rw [if_neg (by omega), if_neg (by omega), if_neg (by omega), if_neg (by omega), if_neg (by omega)]
end Go.SW
