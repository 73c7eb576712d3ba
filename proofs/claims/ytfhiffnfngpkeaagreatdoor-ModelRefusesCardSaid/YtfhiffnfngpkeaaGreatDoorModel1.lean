/- The store in the memory; what only reads it. -/
import Derived.Test.YtfhiffnfngpkeaaGreatDoorWords3
import Derived.Test.YtfhiffnfngpkeaaGreatDoorBox
import Derived.Test.YtfhiffnfngpkeaaGreatDoorSModel
set_option linter.unusedVariables false
namespace Go.SW
open Go Go.Proofs Pl

inductive Tag where
  | out | top | names | boxes | mails | box (id : Int)
  deriving DecidableEq
def Ebx : KV Int Nat := ⟨.int .i64, fun n => .int .i64 n, fun k => .pointer (some ⟨k, 0, none⟩), fun _ => rfl, fun a b h => by cases h; rfl⟩
theorem T79 : MapTy Ebx 79 3 47 (.pointer none) := ⟨by kernel_rfl, by kernel_rfl, ⟨tinfo 47, by kernel_rfl, by kernel_rfl⟩⟩

/-- the store at block k; ow: whose each block is -/
structure IsModel (w : World) (k : Nat) (ow : Nat → Tag) (M : Md) (kn bb mb : Nat) (pt : Int → Nat) : Prop where
  top : At w k (.cells ⟨[.pointer (some ⟨kn, 0, none⟩), .map (some bb), .map (some mb), .int .i64 M.next]⟩ 82 (0, 0))
  otop : ow k = .top
  obb : ow bb = .boxes
  omb : ow mb = .mails
  names : IsNames w kn (fun j => ow j = .names) M.n
  boxes : MapAt Ebx w bb (M.b.map fun x => (x.validity, pt x.validity))
  mails : MapAt Eml w mb M.mails
  box : ∀ x ∈ M.b, IsBox w (pt x.validity) (fun j => ow j = .box x.validity) x
  lt : ∀ j, ow j ≠ .out → j < w.heap.size
def Fp (ow : Nat → Tag) : Nat → Prop := fun j => ow j ≠ .out
theorem IsModel.keep {w w' : World} {k : Nat} {ow : Nat → Tag} {M : Md} {kn bb mb : Nat} {pt : Int → Nat} (h : IsModel w k ow M kn bb mb pt) (hk : ∀ j, ow j ≠ .out → w'.heap[j]? = w.heap[j]?) (hs : w.heap.size ≤ w'.heap.size) : IsModel w' k ow M kn bb mb pt where
  top := (hk k (by rw [h.otop]; intro h; cases h)).trans h.top
  otop := h.otop
  obb := h.obb
  omb := h.omb
  names := h.names.keep fun j hj _ => hk j (by rw [hj]; intro h; cases h)
  boxes := h.boxes.keep (hk bb (by rw [h.obb]; intro h; cases h))
  mails := h.mails.keep (hk mb (by rw [h.omb]; intro h; cases h))
  box := fun x hx => (h.box x hx).keep fun j hj _ => hk j (by rw [hj]; intro h; cases h)
  lt := fun j hj => Nat.lt_of_lt_of_le (h.lt j hj) hs
theorem IsModel.kept {w w' : World} {k : Nat} {ow : Nat → Tag} {M : Md} {kn bb mb : Nat} {pt : Int → Nat} {S : Nat → Prop} (h : IsModel w k ow M kn bb mb pt) (hk : Keep S w w') (hd : ∀ j, ow j ≠ .out → ¬ S j) : IsModel w' k ow M kn bb mb pt :=
  h.keep (fun j hj => hk.keep j (h.lt j hj) (hd j hj)) hk.size
theorem IsModel.no {w w' : World} {k : Nat} {ow : Nat → Tag} {M : Md} {kn bb mb : Nat} {pt : Int → Nat} (h : IsModel w k ow M kn bb mb pt) (hk : Keep No w w') : IsModel w' k ow M kn bb mb pt := h.kept hk (fun _ _ h => h)

/-! ## answers -/
def hcells (h : Hit) : List Value := [.string (bs h.box), .int .i64 h.uid, .int .i64 h.flags]
def Lhit : Ly Hit := .of 3 hcells (fun _ => rfl) (fun _ => rfl)
theorem Lhit_plain : Lhit.Plain := fun _ _ _ _ _ _ h => h
theorem T39 : ElemTy Lhit 33 39 32 := ⟨by kernel_rfl, ⟨tinfo 39, (tinfo 39).zero.getD .nilIface, by kernel_rfl, by kernel_rfl, by kernel_rfl, by kernel_rfl, by kernel_rfl⟩, by omega, by show 0 < 3; omega⟩
def acells (e n : Int) (t : ByteArray) (A1 : Option Addr) (n1 c1 : Nat) (A2 : Option Addr) (n2 c2 : Nat) : List Value := [.int .i64 e, .int .i64 n, .string t, .slice A1 n1 c1, .slice A2 n2 c2]
def IsAns (w : World) (G : Nat → Prop) (a : Ans) (r : Value) : Prop :=
  ∃ A1 c1 A2 c2, r = .agg ⟨acells a.err a.n (bs a.text) A1 a.names.length c1 A2 a.hits.length c2⟩ ∧ Own Lst 9 w No A1 a.names.length c1 a.names ∧ Own Lhit 39 w No A2 a.hits.length c2 a.hits ∧ ∀ j, ownBlk A1 j ∨ ownBlk A2 j → G j
theorem IsAns.kept {w w' : World} {G S : Nat → Prop} {a : Ans} {r : Value} (h : IsAns w G a r) (hk : Keep S w w') (hd : ∀ j, G j → ¬ S j) : IsAns w' G a r := by
  obtain ⟨A1, c1, A2, c2, h1, h2, h3, h4⟩ := h
  exact ⟨A1, c1, A2, c2, h1, h2.kept hk (fun j hj _ => hj.elim (fun h => False.elim h) (fun h => hd j (h4 j (.inl h)))), h3.kept hk (fun j hj _ => hj.elim (fun h => False.elim h) (fun h => hd j (h4 j (.inr h)))), h4⟩
theorem IsAns.mono {w : World} {G H : Nat → Prop} {a : Ans} {r : Value} (h : IsAns w G a r) (hd : ∀ j, G j → H j) : IsAns w H a r := by
  obtain ⟨A1, c1, A2, c2, h1, h2, h3, h4⟩ := h
  exact ⟨A1, c1, A2, c2, h1, h2, h3, fun j hj => hd j (h4 j hj)⟩
/-- an answer without slices -/
theorem IsAns.flat (w : World) (G : Nat → Prop) (e n : Int) (t : Str) : IsAns w G ⟨e, n, t, [], []⟩ (.agg ⟨acells e n (bs t) none 0 0 none 0 0⟩) :=
  ⟨none, 0, none, 0, rfl, Own.nil _ _ _ _, Own.nil _ _ _ _, fun j h => h.elim (fun h => False.elim h) (fun h => False.elim h)⟩
/-- 'return': the answer goes through its own block -/
theorem ans_ret {w : World} {k : Nat} {l : List Value} {R : Value → World → Prop} {e n : Int} {t : ByteArray} {A1 : Option Addr} {n1 c1 : Nat} {A2 : Option Addr} {n2 c2 : Nat} (ha : At w k (.cells ⟨l⟩ 35 (0, 0))) (hl : l.length = 5)
    (hR : ∀ w', Keep (fun j => j = k) w w' → w'.heap.size = w.heap.size → R (.agg ⟨acells e n t A1 n1 c1 A2 n2 c2⟩) w') :
    ST w (⟨k, 0, none⟩ : Addr) 0 [(.int .i64 e), (.int .i64 n), (.string t), (.slice A1 n1 c1), (.slice A2 n2 c2)] fun w5 =>
    ∃ (x4r_0 : Int) (x4r_1 : Int) (s4r_2 : ByteArray) (A4r_3 : Option Addr) (n4r_3 : Nat) (c4r_3 : Nat) (A4r_4 : Option Addr) (n4r_4 : Nat) (c4r_4 : Nat), RD w5 (⟨k, 0, none⟩ : Addr) 0 [(.int .i64 x4r_0), (.int .i64 x4r_1), (.string s4r_2), (.slice A4r_3 n4r_3 c4r_3), (.slice A4r_4 n4r_4 c4r_4)] ∧
    R (.agg #[(.int .i64 x4r_0), (.int .i64 x4r_1), (.string s4r_2), (.slice A4r_3 n4r_3 c4r_3), (.slice A4r_4 n4r_4 c4r_4)]) w5 := by
  obtain ⟨a0, a1, a2, a3, a4, rfl⟩ : ∃ a0 a1 a2 a3 a4, l = [a0, a1, a2, a3, a4] := by
    match l, hl with
    | [a0, a1, a2, a3, a4], _ => exact ⟨a0, a1, a2, a3, a4, rfl⟩
  refine ST.i ha (Nat.le_refl _) rfl fun w5 hs k5 a5 => ?_
  exact ⟨_, _, _, _, _, _, _, _, _, RD.i a5, hR w5 k5 hs⟩
theorem model_no (e : Int) (w : World) : Calls PP 35 #[.int .i64 e] w (Ret fun r w' => r = .agg ⟨acells e 0 (bs []) none 0 0 none 0 0⟩ ∧ Keep No w w') := by
  suffices H : ∀ R : Value → World → Prop, (∀ w', Keep No w w' → R (.agg ⟨acells e 0 (bs []) none 0 0 none 0 0⟩) w') → S35 e w R from c35 (H _ fun w' hk => ⟨rfl, hk⟩)
  intro R hR
  unfold S35
  exact NEW.i fun k w1 hk hs1 k1 a1 => ans_ret (R := R) a1 rfl fun w2 k2 hs2 => hR w2 (k1.tmp k2 (Nat.le_of_eq hk))

/-! ## what reads -/
section
variable {w : World} {k : Nat} {ow : Nat → Tag} {M : Md} {kn bb mb : Nat} {pt : Int → Nat}
theorem mget_boxes {l : List Bx} {pt : Int → Nat} {id : Int} : mget (l.map fun x => (x.validity, pt x.validity)) id = ((l.find? fun b => decide (b.validity = id)).map fun x => pt x.validity) := by
  unfold mget
  rw [List.find?_map]
  cases h : l.find? ((fun p : Int × Nat => decide (p.1 = id)) ∘ fun x : Bx => (x.validity, pt x.validity)) with
  | none =>
    have : l.find? (fun b => decide (b.validity = id)) = none := h
    rw [this]; rfl
  | some x =>
    have : l.find? (fun b => decide (b.validity = id)) = some x := h
    rw [this]; rfl
theorem boxOf_some {M : Md} {id : Int} {x : Bx} (h : boxOf M id = some x) : x ∈ M.b ∧ x.validity = id :=
  ⟨List.mem_of_find?_eq_some h, by have := List.find?_some h; simpa using this⟩

/-- every name has its box -/
def NamesOk (M : Md) : Prop := ∀ s id, ofN M.n s = some id → (boxOf M id).isSome = true
theorem find_of (hok : NamesOk M) (s : Str) : (find M s).isSome = (ofN M.n s).isSome := by
  unfold find
  cases h : ofN M.n s with
  | none => rfl
  | some id => simpa using hok s id h
theorem model_find (h : IsModel w k ow M kn bb mb pt) (hok : NamesOk M) (s : Str) :
    Calls PP 74 #[.pointer (some ⟨k, 0, none⟩), .string (bs s)] w (Ret fun r w' => w' = w ∧ match find M s with
      | none => ∃ p, r = .tuple #[.pointer p, .bool false]
      | some b => r = .tuple #[.pointer (some ⟨pt b.validity, 0, none⟩), .bool true] ∧ b ∈ M.b) := by
  refine c74 ?_
  unfold S74
  refine ⟨_, cell_at h.top rfl, ?_⟩
  refine CALL.i (names_of h.names s) (by kernel_rfl) ?_
  rintro r w1 ⟨rfl, rfl⟩
  refine ⟨_, _, rfl, _, cell_at h.top rfl, _, map_lookup1 T79 h.boxes _, ?_⟩
  rw [mget_boxes]
  unfold find
  cases ho : ofN M.n s with
  | none =>
    simp only [Option.getD_none, Option.isSome_none]
    cases hb : M.b.find? (fun b => decide (b.validity = 0)) with
    | none => exact ⟨_, rfl, trivial, _, rfl⟩
    | some x => exact ⟨_, rfl, trivial, _, rfl⟩
  | some id =>
    have h1 := hok s id ho
    simp only [Option.getD_some, Option.isSome_some]
    cases hb : boxOf M id with
    | none => rw [hb] at h1; cases h1
    | some x =>
      have h2 : M.b.find? (fun b => decide (b.validity = id)) = some x := hb
      rw [h2]
      exact ⟨_, rfl, trivial, rfl, (boxOf_some hb).1⟩
theorem model_next (h : IsModel w k ow M kn bb mb pt) : Calls PP 20 #[.pointer (some ⟨k, 0, none⟩)] w (Ret fun r w' => r = .int .i64 M.next ∧ w' = w) := c20 ⟨_, cell_at h.top rfl, rfl, rfl⟩
theorem model_mail (h : IsModel w k ow M kn bb mb pt) (id : Int) : Calls PP 23 #[.pointer (some ⟨k, 0, none⟩), .int .i64 id] w (Ret fun r w' => r = .tuple #[.string (bs ((mailOf M id).getD [])), .bool (mailOf M id).isSome] ∧ w' = w) := by
  refine c23 ⟨_, cell_at h.top rfl, _, map_lookup T80 h.mails id, ?_⟩
  show _
  have : mget M.mails id = mailOf M id := rfl
  rw [this]
  cases mailOf M id with
  | none => exact ⟨_, _, rfl, rfl, rfl⟩
  | some v => exact ⟨_, _, rfl, rfl, rfl⟩
theorem model_names (h : IsModel w k ow M kn bb mb pt) : Calls PP 14 #[.pointer (some ⟨k, 0, none⟩)] w (Ret fun r w' => ∃ k', r = .pointer (some ⟨k', 0, none⟩) ∧ Keep No w w' ∧ IsNames w' k' (fun j => w.heap.size ≤ j ∧ j < w'.heap.size) M.n) := by
  refine c14 ⟨_, cell_at h.top rfl, ?_⟩
  refine CALL.i (names_clone h.names) (by kernel_rfl) ?_
  rintro r w1 ⟨k', rfl, h1⟩
  exact ⟨_, rfl, k', rfl, h1⟩
theorem model_box (h : IsModel w k ow M kn bb mb pt) (hl : ∀ x ∈ M.b, x.l.length < 1000000000) (id : Int) :
    Calls PP 17 #[.pointer (some ⟨k, 0, none⟩), .int .i64 id] w (Ret fun r w' => Keep No w w' ∧ match boxOf M id with
      | none => r = .tuple #[.pointer none, .bool false]
      | some b => ∃ k', r = .tuple #[.pointer (some ⟨k', 0, none⟩), .bool true] ∧ IsBox w' k' (fun j => w.heap.size ≤ j) b) := by
  refine c17 ⟨_, cell_at h.top rfl, _, map_lookup T79 h.boxes id, ?_⟩
  rw [mget_boxes]
  cases hb : boxOf M id with
  | none =>
    have h2 : M.b.find? (fun b => decide (b.validity = id)) = none := hb
    rw [h2]
    exact ⟨_, _, rfl, split_i (fun _ => ⟨Keep.refl _ _, rfl⟩) (fun hc => by cases hc)⟩
  | some x =>
    have h2 : M.b.find? (fun b => decide (b.validity = id)) = some x := hb
    rw [h2]
    refine ⟨_, _, rfl, split_i (fun hc => by cases hc) (fun _ => ?_)⟩
    have hx := (boxOf_some hb).1
    refine CALL.i (box_clone (h.box x hx) (hl x hx)) (by kernel_rfl) ?_
    rintro r w1 ⟨k', rfl, k1, h1⟩
    exact ⟨_, rfl, k1, k', rfl, h1⟩
def RisingI (l : List (Int × Str)) : Prop := l.Pairwise fun p q => p.1 < q.1
theorem RisingI.keys {l : List (Int × Str)} (h : RisingI l) : (mkeys l).Pairwise (· ≤ ·) := List.pairwise_map.2 (h.imp fun h => Int.le_of_lt h)
theorem model_mails (h : IsModel w k ow M kn bb mb pt) (hr : RisingI M.mails) (hl : M.mails.length < 1000000) :
    Calls PP 19 #[.pointer (some ⟨k, 0, none⟩)] w (Ret fun r w' => ∃ A c, r = .slice A M.mails.length c ∧ Keep No w w' ∧ Own Ly.int 3 w' No A M.mails.length c (mkeys M.mails) ∧ ∀ j, ownBlk A j → w.heap.size ≤ j) := by
  refine c19 ?_
  unfold S19
  refine ⟨_, cell_at h.top rfl, ?_⟩
  refine CALL.i (R := fun r w' => ∃ k1, r = .func (.func 88) #[] ⟨[.pointer (some ⟨k1, 0, none⟩)]⟩ ∧ Keep No w w' ∧ At w' k1 (.cells ⟨[.map (some mb)]⟩ 80 (0, 0))) ?_ (by kernel_rfl) ?_
  · refine c42 ?_
    unfold S42
    exact NEW.i fun k1 w1 hk1 hs1 p1 a1 => ⟨k1, rfl, p1, a1⟩
  · rintro r w1 ⟨k1, rfl, p1, a1⟩
    have hm1 := h.mails.no p1
    have hlen : ∀ vis : List Int, vis.Nodup → (∀ y ∈ vis, y ∈ mkeys M.mails) → vis.length ≤ M.mails.length := fun vis hn hm => by
      have := nodup_length_le hn hm
      simpa [mkeys] using this
    refine CALL.i (sorted_int (keys_int a1 hm1) (fun j hj => ?_) ?_ ?_) (by kernel_rfl) ?_
    · rcases hj with rfl | rfl
      · exact a1.lt
      · exact hm1.lt
    · intro vis x hx
      have := hlen _ hx.1 hx.2
      simp at this
      omega
    · intro vis hv
      have := hv.length_eq
      simp [mkeys] at this
      omega
    · rintro r w2 ⟨A, c, xs, rfl, hS, k2, o2, f2⟩
      have hxs : xs.length = M.mails.length := by
        have := hS.length_eq
        simpa [mkeys] using this
      rw [hxs] at o2 ⊢
      rw [sortI_perm hS hr.keys] at o2
      exact ⟨_, _, _, rfl, A, c, rfl, p1.trans k2, o2, fun j hj => by have := f2 j hj; have := p1.size; omega⟩
end
theorem model_new (w : World) : Calls PP 11 #[] w (Ret fun r w' => ∃ k ow kn bb mb pt, r = .pointer (some ⟨k, 0, none⟩) ∧ Keep No w w' ∧ IsModel w' k ow .new kn bb mb pt ∧ ∀ j, j < w.heap.size → ow j = .out) := by
  refine c11 ?_
  unfold S11
  refine CALL.i (names_new w) (by kernel_rfl) ?_
  rintro r w1 ⟨kn, rfl, p1, hs1, h1⟩
  refine ⟨_, rfl, ?_⟩
  refine NEW.i fun b2 w2 hb2 hs2 p2 a2 => NEW.i fun b3 w3 hb3 hs3 p3 a3 => NEW.i fun b5 w4 hb5 hs4 p4 a4 => ?_
  refine ⟨b5, fun j => if j < w.heap.size then .out else if j < b2 then .names else if j = b2 then .boxes else if j = b3 then .mails else if j = b5 then .top else .out, kn, b2, b3, fun _ => 0, rfl, ((p1.trans p2).trans p3).trans p4, ?_, fun j hj => if_pos hj⟩
  refine ⟨a4, ?_, ?_, ?_, ?_, (MapAt.empty (a2.no p3)).no p4, (MapAt.empty a3).no p4, (fun x hx => by cases hx), ?_⟩
  · show (if _ then _ else _) = _
    rw [if_neg (by omega), if_neg (by omega), if_neg (by omega), if_neg (by omega), if_pos rfl]
  · show (if _ then _ else _) = _
    rw [if_neg (by omega), if_neg (by omega), if_pos rfl]
  · show (if _ then _ else _) = _
    rw [if_neg (by omega), if_neg (by omega), if_neg (by omega), if_pos rfl]
  · refine (((h1.no p2).no p3).no p4).mono fun j hj => ?_
    show (if _ then _ else _) = _
    rw [if_neg (by omega), if_pos (by omega)]
  · intro j hj
    by_cases h : j < w4.heap.size
    · exact h
    · exfalso
      apply hj
      show (if _ then _ else _) = _
      rw [if_neg (by omega), if_neg (by omega), if_neg (by omega), if_neg (by omega), if_neg (by omega)]
end Go.SW
set_option linter.unusedVariables false
namespace Go.SW
open Go Go.Proofs Pl

def Eus : KV Int Bool := ⟨.int .i64, fun n => .int .i64 n, fun b => .bool b, fun _ => rfl, fun a b h => by cases h; rfl⟩
theorem T41 : MapTy Eus 41 3 4 (.bool false) := ⟨by kernel_rfl, by kernel_rfl, ⟨tinfo 4, by kernel_rfl, by kernel_rfl⟩⟩

theorem seen_lt {α β : Type} [DecidableEq α] {M : List (α × β)} {vis : List α} {k : α} {v : β} (hn : vis.Nodup) (hm : ∀ x ∈ vis, x ∈ mkeys M) (hk : (k, v) ∈ M) (hv : k ∉ vis) : vis.length < M.length := by
  have h1 : (k :: vis).Nodup := List.nodup_cons.2 ⟨hv, hn⟩
  have h2 : ∀ x ∈ k :: vis, x ∈ mkeys M := by
    intro x hx
    rcases List.mem_cons.1 hx with rfl | hx
    · exact List.mem_map.2 ⟨_, hk, rfl⟩
    · exact hm x hx
  have := nodup_length_le h1 h2
  simp [mkeys] at this
  omega

/-- maps.DeleteFunc of mails -/
theorem deleteFunc_mails {w : World} {mb : Nat} {ms : List (Int × Str)} {f : Value} (p : Int → Bool) (hm : MapAt Eml w mb ms)
    (hf : ∀ w1 id s, Keep (fun j => j = mb) w w1 → CALLV PP f [.int .i64 id, .string (bs s)] w1 fun r w2 => r = .bool (p id) ∧ w2 = w1) :
    Calls PP 111 #[.map (some mb), f] w (Ret fun r w' => r = .tuple #[] ∧ Keep (fun j => j = mb) w w' ∧ MapAt Eml w' mb (ms.filter fun q => !p q.1)) := by
  refine c111 ?_
  unfold S111
  have hmlt := hm.lt
  refine map_range T80 hm fun it w1 hit hs1 k1 hmi => ⟨_, rfl, ?_⟩
  refine ⟨fun w2 => ∃ vis, MapIt Eml w2 mb it (ms.filter fun q => !(vis.contains q.1 && p q.1)) vis ∧ vis.Nodup ∧ (∀ x ∈ vis, x ∈ mkeys ms) ∧ Keep (fun j => j = mb) w w2,
    fun w2 => ms.length - seenN w2 it, ⟨[], by rw [List.filter_eq_self.2 (fun q _ => by simp)]; exact hmi, List.nodup_nil, (fun x hx => by cases hx), k1.no⟩, ?_⟩
  rintro _ w2 ⟨vis, hmi, hn, hin, hk⟩
  refine map_next T80 hmi 0 ?_ ?_
  · intro hall
    refine ⟨_, _, rfl, ?_⟩
    refine ⟨rfl, hk, ?_⟩
    have he : (ms.filter fun q => !(vis.contains q.1 && p q.1)) = ms.filter fun q => !p q.1 := by
      refine List.filter_congr fun q hq => ?_
      cases hp : p q.1 with
      | false => simp
      | true =>
        simp only [Bool.and_true, Bool.not_true]
        cases hc : vis.contains q.1 with
        | true => rfl
        | false =>
          exfalso
          have : q.1 ∈ vis := hall q.1 (List.mem_map.2 ⟨q, List.mem_filter.2 ⟨hq, by rw [hc]; rfl⟩, rfl⟩)
          rw [List.contains_iff_mem.2 this] at hc
          cases hc
    rw [← he]
    exact hmi.map
  · intro w3 k v hs3 k3 hkv hnk hmi3
    refine ⟨_, _, rfl, ?_⟩
    refine ⟨_, _, map_entry hmi3 hkv, _, _, rfl, ?_⟩
    have hkms : (k, v) ∈ ms := (List.mem_filter.1 hkv).1
    have hk3 : Keep (fun j => j = mb) w w3 := hk.tmp k3 (Nat.le_of_eq hit)
    have hlt := seen_lt hn hin hkms hnk
    have hn' : (k :: vis).Nodup := List.nodup_cons.2 ⟨hnk, hn⟩
    have hin' : ∀ x ∈ k :: vis, x ∈ mkeys ms := by
      intro x hx
      rcases List.mem_cons.1 hx with rfl | hx
      · exact List.mem_map.2 ⟨_, hkms, rfl⟩
      · exact hin x hx
    refine CALLV.mono (hf w3 k v hk3) ?_
    rintro r w4 ⟨rfl, rfl⟩
    have hmu : ∀ {w5 : World} {M' : List (Int × Str)}, MapIt Eml w5 mb it M' (k :: vis) → ms.length - seenN w5 it < ms.length - seenN w2 it := by
      intro w5 M' h5
      rw [h5.seen, hmi.seen]
      simp
      omega
    refine ⟨_, rfl, split_i (fun hp => ?_) (fun hp => ?_)⟩
    · refine map_delete_it T80 hmi3 k 3 0 fun w5 hs5 k5 hmi5 => ?_
      refine ⟨⟨k :: vis, ?_, hn', hin', hk3.trans k5⟩, hmu hmi5⟩
      have he : mdel (ms.filter fun q => !(vis.contains q.1 && p q.1)) k = ms.filter fun q => !((k :: vis).contains q.1 && p q.1) := by
        unfold mdel
        rw [List.filter_filter]
        refine List.filter_congr fun q hq => ?_
        by_cases hqk : q.1 = k
        · rw [hqk, hp]; simp
        · have h1 : ((k :: vis).contains q.1) = vis.contains q.1 := by
            rw [List.contains_cons]
            simp [hqk]
          rw [h1]
          simp [hqk]
      rw [he] at hmi5
      exact hmi5
    · refine ⟨⟨k :: vis, ?_, hn', hin', hk3⟩, hmu hmi3⟩
      have he : (ms.filter fun q => !(vis.contains q.1 && p q.1)) = ms.filter fun q => !((k :: vis).contains q.1 && p q.1) := by
        refine List.filter_congr fun q hq => ?_
        by_cases hqk : q.1 = k
        · rw [hqk, hp]; simp
        · have h1 : ((k :: vis).contains q.1) = vis.contains q.1 := by
            rw [List.contains_cons]
            simp [hqk]
          rw [h1]
      rw [← he]
      exact hmi3

theorem sweep1 {w : World} {k2 m : Nat} {U : List (Int × Bool)} (hk : At w k2 (.cells ⟨[.map (some m)]⟩ 41 (0, 0))) (hU : MapAt Eus w m U) (id : Int) (s : ByteArray) :
    Calls PP 112 #[.int .i64 id, .string s, .pointer (some ⟨k2, 0, none⟩)] w (Ret fun r w' => r = .bool (!(mget U id).getD false) ∧ w' = w) := by
  refine c112 ?_
  refine ⟨_, cell_at hk rfl, _, map_lookup1 T41 hU id, ?_⟩
  cases mget U id with
  | none => exact ⟨_, rfl, rfl, rfl⟩
  | some v => exact ⟨_, rfl, rfl, rfl⟩

theorem getD_mput (U : List (Int × Bool)) (k j : Int) : (mget (mput U k true) j).getD false = (decide (j = k) || (mget U j).getD false) := by
  rw [mget_mput]
  by_cases h : j = k <;> simp [h]

section
variable {w : World} {k : Nat} {ow : Nat → Tag} {M : Md} {kn bb mb : Nat} {pt : Int → Nat}
theorem IsModel.vnodup (h : IsModel w k ow M kn bb mb pt) : (M.b.map (·.validity)).Nodup := by
  have := h.boxes.nodup
  unfold mkeys at this
  rw [List.map_map] at this
  exact this
theorem mem_boxes {l : List Bx} {pt : Int → Nat} {id : Int} {q : Nat} (h : (id, q) ∈ l.map fun x => (x.validity, pt x.validity)) : ∃ x ∈ l, x.validity = id ∧ q = pt x.validity := by
  obtain ⟨x, hx, he⟩ := List.mem_map.1 h
  cases he
  exact ⟨x, hx, rfl, rfl⟩
theorem any_step {l : List Bx} (hn : (l.map (·.validity)).Nodup) {x : Bx} (hx : x ∈ l) (vis : List Int) (P : Bx → Bool) :
    (l.any fun y => (x.validity :: vis).contains y.validity && P y) = ((l.any fun y => vis.contains y.validity && P y) || P x) := by
  rw [Bool.eq_iff_iff]
  simp only [List.any_eq_true, Bool.or_eq_true, Bool.and_eq_true, List.contains_iff_mem, List.mem_cons]
  constructor
  · rintro ⟨y, hy, h1 | h1, h2⟩
    · have := inj_of_nodup_map _ hn hy hx h1
      subst this
      exact .inr h2
    · exact .inl ⟨y, hy, h1, h2⟩
  · rintro (⟨y, hy, h1, h2⟩ | h)
    · exact ⟨y, hy, .inr h1, h2⟩
    · exact ⟨x, hx, .inl rfl, h⟩

theorem model_sweep (h : IsModel w k ow M kn bb mb pt) (hl : ∀ x ∈ M.b, x.l.length < 1000000000) :
    Calls PP 72 #[.pointer (some ⟨k, 0, none⟩)] w (Ret fun r w' => r = .tuple #[] ∧ Keep (fun j => j = mb) w w' ∧ IsModel w' k ow (sweep M) kn bb mb pt) := by
  refine c72 ?_
  unfold S72
  have hklt := h.top.lt
  have hbblt := h.boxes.lt
  have hmblt := h.mails.lt
  have hnd := h.vnodup
  refine NEW.i fun k7 w1 hk7 hs1 k1 a1 => NEW.i fun k2 w2 hk2 hs2 k2' a2 => ?_
  refine ST.i a2 (Nat.le_refl _) rfl fun w3 hs3 k3 a3 => ?_
  have hw3 : Keep No w w3 := (k1.trans k2').tmp k3 (by omega)
  have u3 : MapAt Eus w3 k7 [] := (MapAt.empty (a1.no k2')).kept k3 (by omega)
  have h3 := h.no hw3
  refine ⟨_, cell_at h3.top rfl, ?_⟩
  refine map_range T79 h3.boxes fun it w4 hit hs4 k4 hmi => ⟨_, rfl, ?_⟩
  have hw4 := hw3.trans k4
  refine ⟨fun w5 => ∃ vis U, MapIt Ebx w5 bb it (M.b.map fun x => (x.validity, pt x.validity)) vis ∧ vis.Nodup ∧ (∀ x ∈ vis, x ∈ mkeys (M.b.map fun x => (x.validity, pt x.validity))) ∧ Keep No w w5 ∧ At w5 k2 (.cells ⟨[.map (some k7)]⟩ 41 (0, 0)) ∧ MapAt Eus w5 k7 U ∧ it < w5.heap.size ∧
      ∀ id, (mget U id).getD false = M.b.any fun y => vis.contains y.validity && (y.l.any fun e => e.mail == id),
    fun w5 => (M.b.map fun x => (x.validity, pt x.validity)).length - seenN w5 it, ⟨[], [], hmi, List.nodup_nil, (fun x hx => by cases hx), hw4, a3.no k4, u3.no k4, by omega, ?_⟩, ?_⟩
  · intro id
    have : (M.b.any fun y => ([] : List Int).contains y.validity && (y.l.any fun e => e.mail == id)) = false := by
      rw [List.any_eq_false]
      intro y hy
      simp
    rw [this]; rfl
  rintro _ w5 ⟨vis, U, hmi, hn, hin, hk, a5, u5, hit5, hU⟩
  have hb5 := h.no hk
  refine map_next T79 hmi 0 ?_ ?_
  · intro hall
    refine ⟨_, _, rfl, ?_⟩
    refine ⟨_, cell_at hb5.top rfl, ?_⟩
    refine CALL.i (deleteFunc_mails (fun id => !(mget U id).getD false) hb5.mails ?_) (by kernel_rfl) ?_
    · intro w6 id s k6
      refine CALLV.i (CALL.i (sweep1 (k6.at_ a5 (by omega)) (u5.kept k6 (by omega)) id (bs s)) (by kernel_rfl) ?_)
      rintro r w7 ⟨rfl, rfl⟩
      exact ⟨rfl, rfl⟩
    · rintro r w6 ⟨rfl, k6, m6⟩
      refine ⟨rfl, rfl, hk.no.trans k6, ?_⟩
      have hused : (M.mails.filter fun q => !!(mget U q.1).getD false) = M.mails.filter fun q => used M q.1 := by
        refine List.filter_congr fun q hq => ?_
        rw [hU, Bool.not_not]
        unfold used
        rw [Bool.eq_iff_iff]
        simp only [List.any_eq_true, Bool.and_eq_true, List.contains_iff_mem]
        constructor
        · rintro ⟨y, hy, h1, h2⟩
          exact ⟨y, hy, h2⟩
        · rintro ⟨y, hy, h2⟩
          refine ⟨y, hy, hall y.validity ?_, h2⟩
          exact List.mem_map.2 ⟨(y.validity, pt y.validity), List.mem_map.2 ⟨y, hy, rfl⟩, rfl⟩
      rw [hused] at m6
      have htag : ∀ j, ow j ≠ .mails → ow j ≠ .out → w6.heap[j]? = w5.heap[j]? := fun j hj ho => k6.keep j (hb5.lt j ho) (fun he => hj (he ▸ h.omb))
      exact {
        top := (htag k (by rw [h.otop]; intro h; cases h) (by rw [h.otop]; intro h; cases h)).trans hb5.top
        otop := h.otop
        obb := h.obb
        omb := h.omb
        names := hb5.names.keep fun j hj _ => htag j (by rw [hj]; intro h; cases h) (by rw [hj]; intro h; cases h)
        boxes := hb5.boxes.keep (htag bb (by rw [h.obb]; intro h; cases h) (by rw [h.obb]; intro h; cases h))
        mails := m6
        box := fun x hx => (hb5.box x hx).keep fun j hj _ => htag j (by rw [hj]; intro h; cases h) (by rw [hj]; intro h; cases h)
        lt := fun j hj => Nat.lt_of_lt_of_le (hb5.lt j hj) k6.size }
  · intro w6 id q hs6 k6 hkv hnk hmi6
    refine ⟨_, _, rfl, ?_⟩
    refine ⟨_, _, map_entry hmi6 hkv, _, _, rfl, ?_⟩
    obtain ⟨x, hx, rfl, rfl⟩ := mem_boxes hkv
    have hk6 : Keep No w w6 := hk.tmp k6 (by have := hw3.size; omega)
    have hb6 := h.no hk6
    have it2 : it ≠ k2 ∧ it ≠ k7 := by omega
    have a6 := k6.at_ a5 (fun he => it2.1 he.symm)
    have u6 := u5.kept k6 (fun he => it2.2 he.symm)
    refine CALL.i (box_list (G := No) (hb6.box x hx) (hl x hx) (fun j hj => False.elim hj)) (by kernel_rfl) ?_
    rintro r w7 ⟨A, c, rfl, k7', o7, f7⟩
    refine ⟨_, _, _, rfl, ?_⟩
    have hx1 := hl x hx
    refine ⟨fun i w8 => ∃ n : Nat, i = n ∧ n ≤ x.l.length ∧ ∃ U', Keep No w w8 ∧ Keep (fun j => j = k7) w6 w8 ∧ MapIt Ebx w8 bb it (M.b.map fun x => (x.validity, pt x.validity)) (x.validity :: vis) ∧ At w8 k2 (.cells ⟨[.map (some k7)]⟩ 41 (0, 0)) ∧ MapAt Eus w8 k7 U' ∧
        Own Lent 53 w8 No A x.l.length c x.l ∧ ∀ id, (mget U' id).getD false = ((mget U id).getD false || ((x.l.take n).any fun e => e.mail == id)),
      fun i w8 => (x.l.length - i).toNat, ⟨0, rfl, Nat.zero_le _, U, hk6.trans k7', k7'.no, hmi6.no k7', a6.no k7', u6.no k7', o7, by simp⟩, ?_⟩
    rintro _ i w8 ⟨n, rfl, hnl, U', hk8, k8, hmi8, a8, u8, o8, hU'⟩
    refine split_dec (fun hlt => ?_) (fun hge => ?_)
    · have hlt' : n < x.l.length := by omega
      refine ⟨⟨by omega, hlt⟩, ?_⟩
      obtain ⟨a, e, hA, he, hr⟩ := o8.sl.ent hlt'
      refine SOMEA.i hA ⟨_, _, _, by rw [Int.toNat_natCast]; exact hr, ?_⟩
      refine NEW.i fun b w9 hb9 hs9 k9 a9 => ?_
      refine ST.i a9 (Nat.le_refl _) rfl fun w10 hs10 k10 a10 => ?_
      have hk10 : Keep No w8 w10 := k9.tmp k10 (Nat.le_of_eq hb9)
      refine ⟨_, cell_at (a8.no hk10) rfl, _, cell_at a10 rfl, ?_⟩
      refine map_update T41 (u8.no hk10) e.mail true fun w11 hs11 k11 u11 => ?_
      have z7 : w.heap.size ≤ k7 := Nat.le_of_eq hk7
      refine ⟨⟨n + 1, wrapS (by omega), hlt', mput U' e.mail true, (hk8.trans hk10).tmp k11 z7, (k8.and_no hk10).trans k11, ?_, ?_, u11, ?_, ?_⟩, mu_go (wrapS (by omega)) hlt'⟩
      · exact (hmi8.no hk10).kept k11 (by omega) (by omega)
      · exact k11.at_ (a8.no hk10) (by omega)
      · exact (o8.no hk10).kept k11 (fun j hj _ he => hj.elim (fun h => h) (fun h => by have := f7 j h; have := u6.lt; omega))
      · intro id
        rw [getD_mput, hU', take_succ_some he, List.any_append]
        have : decide (id = e.mail) = ([e].any fun y => y.mail == id) := by
          simp only [List.any_cons, List.any_nil, Bool.or_false]
          by_cases hh : id = e.mail
          · subst hh; simp
          · rw [decide_eq_false hh]
            exact (beq_false_of_ne (fun h => hh h.symm)).symm
        rw [this, Bool.or_comm, Bool.or_assoc]
    · have hne : n = x.l.length := by omega
      subst hne
      rw [List.take_length] at hU'
      have hlt := seen_lt hn hin hkv hnk
      refine ⟨⟨x.validity :: vis, U', hmi8, List.nodup_cons.2 ⟨hnk, hn⟩, ?_, hk8, a8, u8, hmi8.lt, ?_⟩, ?_⟩
      · intro y hy
        rcases List.mem_cons.1 hy with rfl | hy
        · exact List.mem_map.2 ⟨_, hkv, rfl⟩
        · exact hin y hy
      · intro id
        rw [hU', hU, any_step hnd hx]
      · show _ - seenN w8 it < _ - seenN w5 it
        rw [hmi8.seen, hmi.seen]
        simp only [List.length_cons]
        omega
end
end Go.SW
