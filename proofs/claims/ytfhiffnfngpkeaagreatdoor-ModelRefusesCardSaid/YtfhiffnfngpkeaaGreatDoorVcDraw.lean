/- Regions whose order is open: the computed condition covers every order. -/
import Derived.Test.YtfhiffnfngpkeaaGreatDoorVcOps
namespace Go.SW
open Go

theorem upd_same {e : Env} {t : Nat} {v : Value} (h : e t = v) : e.upd t v = e := by
  funext x
  unfold Env.upd
  cases hb : Nat.beq x t with
  | false => rfl
  | true =>
    have := Nat.eq_of_beq_eq_true hb
    subst this
    exact h.symm

theorem Does.congr {P : Program} {o : Oper} {ρ ρ' : Operand → Value} {w : World} {K : Value → World → Prop} (h : Does P o ρ w K) (he : execOp ρ' o = execOp ρ o) : Does P o ρ' w K := by
  unfold Does at h ⊢
  rw [he]
  exact h

/-! ### wanted, over an environment -/
def yieldedE (ops : Array Oper) (e : Env) (j : Nat) : Option Bool := match (ops[j]?).bind (·.dst) with
  | some d => match e d with | .bool b => some b | _ => none
  | none => none
def wantedE (ops : Array Oper) (o : Oper) (e : Env) : Bool := Region.wanted o (yieldedE ops e)
theorem yielded_rel {ops : Array Oper} {a : Act} {e : Env} {ds : List Deferred} {n : Nat} (hr : Rel ds n a e) : yielded ops a.tmps = yieldedE ops e := by
  funext j
  unfold yielded yieldedE
  cases hd : (ops[j]?).bind (·.dst) with
  | none => rfl
  | some d =>
    simp only [Option.bind_some]
    have h := hr.at_ d
    cases ht : a.tmps[d]? with
    | none =>
      have : e d = undef := by rw [← h]; simp [Array.getD_eq_getD_getElem?, ht]
      rw [this]
      rfl
    | some v =>
      have : e d = v := by rw [← h]; simp [Array.getD_eq_getD_getElem?, ht]
      rw [this]
      cases v <;> rfl
theorem wanted_rel {ops : Array Oper} {o : Oper} {a : Act} {e : Env} {ds : List Deferred} {n : Nat} (hr : Rel ds n a e) : Region.wanted o (yielded ops a.tmps) = wantedE ops o e := by rw [yielded_rel hr]; rfl

theorem GRDX_cases {ops : Array Oper} {o : Oper} {e : Env} {F G : Env → Prop} (h : GRDX ops.toList o e F G) : (wantedE ops o e = true ∧ F e) ∨ (wantedE ops o e = false ∧ G e) := by
  unfold GRDX at h
  split at h
  · rename_i hg
    exact .inl ⟨by simp [wantedE, Region.wanted, hg], h⟩
  · rename_i j want hg
    split at h
    · exact False.elim h
    · rename_i d hd
      have h1 : (ops[j]?).bind (·.dst) = some d := by
        unfold dstAt at hd
        split at hd
        · rename_i o' ho
          have : ops[j]? = some o' := by simpa using ho
          rw [this]; exact hd
        · cases hd
      split at h
      · rename_i t ht
        have hw : wantedE ops o e = (t == want) := by simp [wantedE, Region.wanted, hg, yieldedE, h1, ht]
        cases t with
        | true =>
          rw [upd_same ht] at h
          cases want with
          | true => exact .inl ⟨hw, h⟩
          | false => exact .inr ⟨hw, h⟩
        | false =>
          rw [upd_same ht] at h
          cases want with
          | true => exact .inr ⟨hw, h⟩
          | false => exact .inl ⟨hw, h⟩
      · rename_i x ht
        exact .inr ⟨by simp [wantedE, Region.wanted, hg, yieldedE, h1, ht], h⟩
      · exact False.elim h

/-! ### what an operation looks at -/
def eqOn (l : List Tmp) (e e' : Env) : Prop := ∀ t ∈ l, e t = e' t
theorem exec_eqOn {ops : Array Oper} {o : Oper} {e e' : Env} (hs : ∀ cs b, o.op ≠ .select cs b) (h : eqOn (o.looksAt ops) e e') : execOp e.ev o = execOp e'.ev o :=
  execOp_congr o hs fun x hx => by
    cases x with
    | tmp t => exact h t (List.mem_append_left _ (List.mem_filterMap.2 ⟨.tmp t, by simpa using hx, rfl⟩))
    | _ => rfl
theorem wanted_eqOn {ops : Array Oper} {o : Oper} {e e' : Env} (h : eqOn (o.looksAt ops) e e') : wantedE ops o e = wantedE ops o e' := by
  unfold wantedE Region.wanted
  cases hg : o.guard with
  | none => rfl
  | some gw =>
    obtain ⟨g, want⟩ := gw
    have hy : yieldedE ops e g = yieldedE ops e' g := by
      unfold yieldedE
      cases hd : (ops[g]?).bind (·.dst) with
      | none => rfl
      | some d =>
        have : e d = e' d := h d (by simp [Oper.looksAt, hg, hd])
        simp only [this]
    simp only [hy]
def Step (P : Program) (ops : Array Oper) (o : Oper) (e : Env) (v : Value) (w : World) : Prop :=
  (wantedE ops o e = true ∧ (execOp e.ev o).run P w = .ok (.value v) w) ∨ (wantedE ops o e = false ∧ v = undef)
theorem Step.eqOn {P : Program} {ops : Array Oper} {o : Oper} {e e' : Env} {v : Value} {w : World} (hs : ∀ cs b, o.op ≠ .select cs b) (h : eqOn (o.looksAt ops) e e') (hst : Step P ops o e v w) : Step P ops o e' v w := by
  unfold Step at *
  rw [← exec_eqOn hs h, ← wanted_eqOn h]
  exact hst
theorem eqOn_put {l : List Tmp} {e : Env} {d : Option Tmp} {v : Value} (h : ∀ t, d = some t → t ∉ l) : eqOn l e (e.put d v) := by
  intro t ht
  cases d with
  | none => rfl
  | some d =>
    have hne : t ≠ d := fun he => h d rfl (he ▸ ht)
    simp [Env.put, Env.upd, beq_ne hne]
theorem eqOn.symm {l : List Tmp} {e e' : Env} (h : eqOn l e e') : eqOn l e' e := fun t ht => (h t ht).symm
theorem eqOn.trans {l : List Tmp} {e e1 e2 : Env} (h : eqOn l e e1) (h' : eqOn l e1 e2) : eqOn l e e2 := fun t ht => (h t ht).trans (h' t ht)
theorem put_comm {e : Env} {x y : Option Tmp} {v u : Value} (h : ∀ d, x = some d → y ≠ some d) : (e.put x v).put y u = (e.put y u).put x v := by
  cases x with
  | none => rfl
  | some d =>
    cases y with
    | none => rfl
    | some d' =>
      have hne : d ≠ d' := fun he => h d rfl (by rw [he])
      funext t
      simp only [Env.put, Env.upd]
      by_cases h1 : t = d
      · subst h1
        simp [beq_ne hne, Nat.beq_refl]
      · by_cases h2 : t = d'
        · subst h2
          simp [beq_ne h1, Nat.beq_refl]
        · simp [beq_ne h1, beq_ne h2]

/-! ### pending operations -/
structure Apart3 (ops : Array Oper) (x y : Oper) : Prop where
  a : ∀ d, x.dst = some d → d ∉ y.looksAt ops
  b : ∀ d, x.dst = some d → y.dst ≠ some d
  c : ∀ d, y.dst = some d → d ∉ x.looksAt ops
theorem Apart3.symm {ops : Array Oper} {x y : Oper} (h : Apart3 ops x y) : Apart3 ops y x := ⟨h.c, fun d hy hx => h.b d hx hy, h.a⟩

abbrev Ent := Nat × Value × (World → Prop)
inductive Pend (P : Program) (ops : Array Oper) : Env → List Ent → Env → Prop
  | nil (e : Env) : Pend P ops e [] e
  | cons {e e' : Env} {i : Nat} {o : Oper} {v : Value} {p : World → Prop} {r : List Ent} (ho : ops[i]? = some o) (hs : ∀ cs b, o.op ≠ .select cs b) (h : ∀ w, p w → Step P ops o e v w) (t : Pend P ops (e.put o.dst v) r e') : Pend P ops e ((i, v, p) :: r) e'

section
variable {P : Program} {ops : Array Oper}
theorem Pend.snoc {e e' : Env} {l : List Ent} (h : Pend P ops e l e') {i : Nat} {o : Oper} {v : Value} {p : World → Prop} (ho : ops[i]? = some o) (hs : ∀ cs b, o.op ≠ .select cs b) (hp : ∀ w, p w → Step P ops o e' v w) :
    Pend P ops e (l ++ [(i, v, p)]) (e'.put o.dst v) := by
  induction h with
  | nil e => exact .cons ho hs hp (.nil _)
  | cons ho' hs' h' t ih => exact .cons ho' hs' h' (ih hp)
theorem Pend.front {es : Env} {i : Nat} {oi : Oper} {v : Value} {p : World → Prop} {l2 : List Ent} (hoi : ops[i]? = some oi) : ∀ {l1 : List Ent} {e : Env}, Pend P ops e (l1 ++ (i, v, p) :: l2) es →
    (∀ x ∈ l1, ∀ o, ops[x.1]? = some o → Apart3 ops o oi) → (∀ w, p w → Step P ops oi e v w) ∧ (∀ cs b, oi.op ≠ .select cs b) ∧ Pend P ops (e.put oi.dst v) (l1 ++ l2) es
  | [], e, h, _ => by
    cases h with
    | cons ho hs h t =>
      rw [hoi] at ho
      cases ho
      exact ⟨h, hs, t⟩
  | x :: l1, e, h, ha => by
    cases h with
    | cons ho hs h t =>
      obtain ⟨h1, h2, h3⟩ := Pend.front hoi t (fun y hy => ha y (List.mem_cons_of_mem _ hy))
      have hap := ha _ List.mem_cons_self _ ho
      refine ⟨fun w hw => (h1 w hw).eqOn h2 (eqOn_put hap.a).symm, h2, .cons ho hs (fun w hw => (h w hw).eqOn hs (eqOn_put hap.c)) ?_⟩
      rw [← put_comm hap.b]
      exact h3
theorem Pend.put {e es : Env} {l : List Ent} (h : Pend P ops e l es) {oi : Oper} {v : Value} (ha : ∀ x ∈ l, ∀ o, ops[x.1]? = some o → Apart3 ops o oi) : Pend P ops (e.put oi.dst v) l (es.put oi.dst v) := by
  induction h with
  | nil e => exact .nil _
  | cons ho hs h t ih =>
    have hap := ha _ List.mem_cons_self _ ho
    refine .cons ho hs (fun w hw => (h w hw).eqOn hs (eqOn_put hap.c)) ?_
    rw [← put_comm hap.b]
    exact ih (fun y hy => ha y (List.mem_cons_of_mem _ hy))
theorem Pend.look {e es : Env} {l : List Ent} (h : Pend P ops e l es) {oi : Oper} (ha : ∀ x ∈ l, ∀ o, ops[x.1]? = some o → Apart3 ops o oi) : eqOn (oi.looksAt ops) e es := by
  induction h with
  | nil e => exact fun _ _ => rfl
  | cons ho hs h t ih =>
    have hap := ha _ List.mem_cons_self _ ho
    exact (eqOn_put hap.a).trans (ih (fun y hy => ha y (List.mem_cons_of_mem _ hy)))
theorem Pend.valid {e es : Env} {l : List Ent} (h : Pend P ops e l es) : ∀ x ∈ l, ∃ o, ops[x.1]? = some o := by
  induction h with
  | nil e => intro x hx; cases hx
  | cons ho hs h t ih =>
    intro x hx
    rcases List.mem_cons.1 hx with rfl | hx
    · exact ⟨_, ho⟩
    · exact ih x hx
end

/-! ### the edges -/
theorem bindsA_eq (ed : Edge) : Region.binds .any ed = bindsA ed := by
  unfold Region.binds bindsA
  cases ed.ground <;> rfl
def Dep (ops : Array Oper) (i j : Nat) : Prop := ∃ o ed, ops[i]? = some o ∧ ed ∈ o.after.toList ∧ bindsA ed = true ∧ ed.on = j
theorem depsDone_iff {ops : Array Oper} {i : Nat} {o : Oper} {done : List Nat} (ho : ops[i]? = some o) : depsDone o done = true ↔ ∀ j, Dep ops i j → j ∈ done := by
  unfold depsDone
  rw [List.all_eq_true]
  constructor
  · rintro h j ⟨o', ed, ho', hed, hb, rfl⟩
    rw [ho] at ho'
    cases ho'
    have := h ed hed
    rw [hb, cond_true] at this
    obtain ⟨x, hx, he⟩ := List.any_eq_true.1 this
    rw [Nat.eq_of_beq_eq_true he]
    exact hx
  · intro h ed hed
    cases hb : bindsA ed with
    | false => rfl
    | true =>
      rw [cond_true]
      exact List.any_eq_true.2 ⟨ed.on, h _ ⟨o, ed, ho, hed, hb, rfl⟩, Nat.beq_refl _⟩
theorem forward_dep {ops : List Oper} : ∀ {k : Nat}, forwardOk ops k = true → ∀ i o, ops[i]? = some o → ∀ ed ∈ o.after.toList, bindsA ed = true → ed.on < i + k := by
  induction ops with
  | nil => intro k _ i o ho; simp at ho
  | cons x r ih =>
    intro k h i o ho ed hed hb
    unfold forwardOk at h
    simp only [Bool.and_eq_true] at h
    cases i with
    | zero =>
      simp at ho
      subst ho
      have := List.all_eq_true.1 h.1 ed hed
      rw [hb, cond_true] at this
      have : ed.on < k := by simpa using this
      omega
    | succ i =>
      have := ih h.2 i o (by simpa using ho) ed hed hb
      omega

def befRow (acc : List Nat) (o : Oper) : Nat := o.after.toList.foldl (fun s ed => cond (bindsA ed) (s ||| 2 ^ ed.on ||| acc.getD ed.on 0) s) 0
theorem befL_prefix : ∀ (l : List Oper) (acc : List Nat), ∃ r, befL l acc = acc ++ r ∧ r.length = l.length
  | [], acc => ⟨[], by simp [befL], rfl⟩
  | o :: l, acc => by
    obtain ⟨r, hr, hl⟩ := befL_prefix l (acc ++ [befRow acc o])
    exact ⟨befRow acc o :: r, by unfold befL; rw [show (acc ++ [o.after.toList.foldl (fun s ed => cond (bindsA ed) (s ||| 2 ^ ed.on ||| acc.getD ed.on 0) s) 0]) = acc ++ [befRow acc o] from rfl, hr]; simp, by simp [hl]⟩
theorem befL_row : ∀ (l : List Oper) (acc : List Nat) (i : Nat) (o : Oper), l[i]? = some o → ∃ acc', (befL l acc).getD (acc.length + i) 0 = befRow acc' o ∧ acc'.length = acc.length + i ∧ ∃ r, befL l acc = acc' ++ r
  | [], acc, i, o, h => by simp at h
  | x :: l, acc, i, o, h => by
    obtain ⟨r, hr, hl⟩ := befL_prefix l (acc ++ [befRow acc x])
    have hb : befL (x :: l) acc = befL l (acc ++ [befRow acc x]) := rfl
    cases i with
    | zero =>
      simp at h
      subst h
      refine ⟨acc, ?_, by simp, _, by rw [hb, hr, List.append_assoc]⟩
      rw [hb, hr]
      simp
    | succ i =>
      obtain ⟨acc', h1, h2, h3⟩ := befL_row l (acc ++ [befRow acc x]) i o (by simpa using h)
      refine ⟨acc', ?_, by rw [h2]; simp; omega, by rw [hb]; exact h3⟩
      rw [hb, ← h1]
      congr 1
      simp; omega
theorem befRow_bit {acc : List Nat} {o : Oper} {k : Nat} (h : (befRow acc o).testBit k = true) : ∃ ed ∈ o.after.toList, bindsA ed = true ∧ (k = ed.on ∨ (acc.getD ed.on 0).testBit k = true) := by
  have : ∀ (l : List Edge) (s : Nat), (l.foldl (fun s ed => cond (bindsA ed) (s ||| 2 ^ ed.on ||| acc.getD ed.on 0) s) s).testBit k = true → s.testBit k = true ∨ ∃ ed ∈ l, bindsA ed = true ∧ (k = ed.on ∨ (acc.getD ed.on 0).testBit k = true) := by
    intro l
    induction l with
    | nil => intro s h; exact .inl h
    | cons ed l ih =>
      intro s h
      rw [List.foldl_cons] at h
      rcases ih _ h with h | ⟨ed', h1, h2⟩
      · cases hb : bindsA ed with
        | false => rw [hb, cond_false] at h; exact .inl h
        | true =>
          rw [hb, cond_true, Nat.testBit_or, Nat.testBit_or, Bool.or_eq_true, Bool.or_eq_true] at h
          rcases h with (h | h) | h
          · exact .inl h
          · rw [Nat.testBit_two_pow] at h
            exact .inr ⟨ed, List.mem_cons_self, hb, .inl (by simpa using (of_decide_eq_true h).symm)⟩
          · exact .inr ⟨ed, List.mem_cons_self, hb, .inr h⟩
      · exact .inr ⟨ed', List.mem_cons_of_mem _ h1, h2⟩
  rcases this _ 0 h with h | h
  · simp at h
  · exact h
/-- what is before is in every closed set -/
theorem bef_closed {ops : Array Oper} (hf : forwardOk ops.toList 0 = true) {X : Nat → Prop} (hX : ∀ i, X i → ∀ j, Dep ops i j → X j) : ∀ (m i k : Nat), i ≤ m → (∀ j, Dep ops i j → X j) → ((befL ops.toList []).getD i 0).testBit k = true → X k := by
  intro m
  induction m with
  | zero =>
    intro i k hi hd hk
    have hi0 : i = 0 := by omega
    subst hi0
    cases ho : ops.toList[0]? with
    | none =>
      obtain ⟨r, hr, hl⟩ := befL_prefix ops.toList []
      have : (befL ops.toList []).getD 0 0 = 0 := by
        rw [List.getD_eq_getElem?_getD, List.getElem?_eq_none]
        · rfl
        · rw [hr]; simp [hl]; simpa using ho
      rw [this] at hk
      simp at hk
    | some o =>
      obtain ⟨acc', h1, h2, h3⟩ := befL_row ops.toList [] 0 o ho
      simp only [List.length_nil, Nat.zero_add] at h1
      rw [h1] at hk
      obtain ⟨ed, hed, hb, _⟩ := befRow_bit hk
      have := forward_dep hf 0 o ho ed hed hb
      omega
  | succ m ih =>
    intro i k hi hd hk
    cases ho : ops.toList[i]? with
    | none =>
      obtain ⟨r, hr, hl⟩ := befL_prefix ops.toList []
      have : (befL ops.toList []).getD i 0 = 0 := by
        rw [List.getD_eq_getElem?_getD, List.getElem?_eq_none]
        · rfl
        · rw [hr]; simp [hl]; simpa using ho
      rw [this] at hk
      simp at hk
    | some o =>
      obtain ⟨acc', h1, h2, r, h3⟩ := befL_row ops.toList [] i o ho
      simp only [List.length_nil, Nat.zero_add] at h1 h2
      rw [h1] at hk
      obtain ⟨ed, hed, hb, hk⟩ := befRow_bit hk
      have ho' : ops[i]? = some o := by simpa using ho
      have hdep : Dep ops i ed.on := ⟨o, ed, ho', hed, hb, rfl⟩
      have hlt := forward_dep hf i o ho ed hed hb
      rcases hk with rfl | hk
      · exact hd _ hdep
      · refine ih ed.on k (by omega) (fun j hj => hX _ (hd _ hdep) j hj) ?_
        rw [h3, List.getD_eq_getElem?_getD, List.getElem?_append_left (by omega), ← List.getD_eq_getElem?_getD]
        exact hk
theorem apartAll_spec {ops : Array Oper} {B : List Nat} : ∀ {l : List Oper} {k : Nat}, apartAll ops B l k = true → ∀ i j oi oj, i < j → l[i]? = some oi → l[j]? = some oj → (B.getD (j + k) 0).testBit (i + k) = true ∨ Apart3 ops oi oj := by
  have one : ∀ {l : List Oper} {i : Nat} {o : Oper} {k : Nat}, apartAll.apartOne ops B i o l k = true → ∀ j oj, l[j]? = some oj → (B.getD (j + k) 0).testBit i = true ∨ Apart3 ops o oj := by
    intro l
    induction l with
    | nil => intro i o k _ j oj h; simp at h
    | cons x l ih =>
      intro i o k h j oj hj
      unfold apartAll.apartOne at h
      simp only [Bool.and_eq_true, Bool.or_eq_true] at h
      cases j with
      | zero =>
        simp at hj
        subst hj
        rcases h.1 with h1 | h1
        · exact .inl (by simpa using h1)
        · obtain ⟨a, b, c⟩ := Oper.apart_spec h1
          exact .inr ⟨a, b, c⟩
      | succ j =>
        have := ih h.2 j oj (by simpa using hj)
        rwa [show j + (k + 1) = j + 1 + k by omega] at this
  intro l
  induction l with
  | nil => intro k _ i j oi oj _ h; simp at h
  | cons x l ih =>
    intro k h i j oi oj hij hi hj
    unfold apartAll at h
    simp only [Bool.and_eq_true] at h
    cases j with
    | zero => omega
    | succ j =>
      cases i with
      | zero =>
        simp at hi
        subst hi
        have := one h.1 j oj (by simpa using hj)
        rw [show j + (k + 1) = j + 1 + k by omega] at this
        rw [Nat.zero_add]
        exact this
      | succ i =>
        have := ih h.2 i j oi oj (by omega) (by simpa using hi) (by simpa using hj)
        rwa [show j + (k + 1) = j + 1 + k by omega, show i + (k + 1) = i + 1 + k by omega] at this

/-! ### the main induction -/
structure DInv (P : Program) (ops : Array Oper) (L : Array Bool) (ea : Env) (f : Nat) (done : List Nat) (wt : List (Nat × (World → Prop))) (es : Env) (w : World) (pend : List Ent) (U : List Nat) : Prop where
  size : L.size = ops.size
  un : ∀ i, i ∈ U ↔ i < ops.size ∧ L.getD i true = false
  nodup : U.Nodup
  fuel : f + done.length = ops.size
  dnodup : done.Nodup
  dlt : ∀ i ∈ done, i < ops.size
  dmem : ∀ i, i ∈ done ↔ L.getD i false = true ∨ ∃ x ∈ pend, x.1 = i
  pnd : Pend P ops ea pend es
  pun : ∀ x ∈ pend, L.getD x.1 true = false
  pnodup : (pend.map (·.1)).Nodup
  closed : ∀ i, L.getD i false = true → ∀ j, Dep ops i j → L.getD j false = true
  pclosed : ∀ l1 x l2, pend = l1 ++ x :: l2 → ∀ j, Dep ops x.1 j → L.getD j false = true ∨ ∃ y ∈ l1, y.1 = j
  watch : ∀ x ∈ pend, x.2.2 w ∧ ((∀ w, x.2.2 w) ∨ (x.1, x.2.2) ∈ wt)

theorem getD_false_true {L : Array Bool} {i : Nat} (h : L.getD i false = true) : L.getD i true = true := by
  rw [Array.getD_eq_getD_getElem?] at *
  cases hh : L[i]? with
  | none => rfl
  | some b => rw [hh] at h; exact h
theorem getD_true_false {L : Array Bool} {i : Nat} (hi : i < L.size) (h : L.getD i true = true) : L.getD i false = true := by
  rw [Array.getD_eq_getD_getElem?] at *
  rw [Array.getElem?_eq_getElem hi] at *
  exact h
theorem getD_set {L : Array Bool} {i j : Nat} {d : Bool} (hi : i < L.size) : (L.setIfInBounds i true).getD j d = if j = i then true else L.getD j d := by
  rw [Array.getD_eq_getD_getElem?, Array.getD_eq_getD_getElem?, Array.getElem?_setIfInBounds]
  by_cases h : i = j
  · subst h
    simp [hi]
  · rw [if_neg h, if_neg (Ne.symm h)]

theorem mem_ready {ops : Array Oper} {L : Array Bool} {i : Nat} : i ∈ Region.ready .any ops L ↔ i < ops.size ∧ L.getD i true = false ∧ ∀ j, Dep ops i j → L.getD j false = true := by
  unfold Region.ready
  rw [List.mem_filter, List.mem_range]
  constructor
  · rintro ⟨h1, h2⟩
    simp only [Bool.and_eq_true, Bool.not_eq_true'] at h2
    refine ⟨h1, h2.1, ?_⟩
    rintro j ⟨o, ed, ho, hed, hb, rfl⟩
    have h3 := h2.2
    rw [ho] at h3
    simp only [Option.map_some, Option.getD_some] at h3
    rw [← Array.all_toList] at h3
    have := List.all_eq_true.1 h3 ed hed
    rw [bindsA_eq, hb] at this
    simpa using this
  · rintro ⟨h1, h2, h3⟩
    refine ⟨h1, ?_⟩
    simp only [Bool.and_eq_true, Bool.not_eq_true']
    refine ⟨h2, ?_⟩
    rw [Array.getElem?_eq_getElem h1]
    simp only [Option.map_some, Option.getD_some]
    rw [← Array.all_toList]
    rw [List.all_eq_true]
    intro ed hed
    rw [bindsA_eq]
    cases hb : bindsA ed with
    | false => rfl
    | true =>
      have := h3 ed.on ⟨ops[i], ed, Array.getElem?_eq_getElem h1, hed, hb, rfl⟩
      simpa using this

theorem nextQ_spec {P : Program} : ∀ {l : List Oper} {k : Nat} {done : List Nat} {e : Env}, (∀ i o, nextQ P l k done e = some (i, o) → ∃ j, i = j + k ∧ l[j]? = some o ∧ i ∉ done ∧ depsDone o done = true ∧ isQ P e o = true) ∧
    (nextQ P l k done e = none → ∀ j o, l[j]? = some o → (j + k) ∉ done → depsDone o done = true → isQ P e o = false)
  | [], k, done, e => ⟨fun i o h => by simp [nextQ] at h, fun _ j o h => by simp at h⟩
  | x :: l, k, done, e => by
    obtain ⟨h1, h2⟩ := nextQ_spec (P := P) (l := l) (k := k + 1) (done := done) (e := e)
    unfold nextQ
    cases hc : (!(done.any (Nat.beq k)) && depsDone x done && isQ P e x) with
    | true =>
      simp only [Bool.and_eq_true, Bool.not_eq_true'] at hc
      refine ⟨fun i o h => ?_, fun h => by cases h⟩
      rw [cond_true] at h
      cases h
      refine ⟨0, by omega, rfl, fun hm => ?_, hc.1.2, hc.2⟩
      have := any_mem' hm
      rw [hc.1.1] at this
      cases this
    | false =>
      rw [cond_false]
      refine ⟨fun i o h => ?_, fun h j o hj hnd hdd => ?_⟩
      · obtain ⟨j, rfl, hj, r⟩ := h1 i o h
        exact ⟨j + 1, by omega, by simpa using hj, r⟩
      · cases j with
        | zero =>
          simp at hj
          subst hj
          have hn : done.any (Nat.beq k) = false := by
            cases hb : done.any (Nat.beq k) with
            | false => rfl
            | true =>
              obtain ⟨y, hy, hbe⟩ := List.any_eq_true.1 hb
              have := Nat.eq_of_beq_eq_true hbe
              subst this
              exact absurd hy (by simpa using hnd)
          rw [hn, hdd] at hc
          simpa using hc
        | succ j => exact h2 h j o (by simpa using hj) (by rwa [show j + (k + 1) = j + 1 + k by omega]) hdd
where
  any_mem' {l : List Nat} {t : Nat} (h : t ∈ l) : l.any (Nat.beq t) = true := List.any_eq_true.2 ⟨t, h, Nat.beq_refl t⟩
theorem mem_readyW : ∀ {l : List Oper} {k : Nat} {done : List Nat} {j : Nat} {o : Oper}, l[j]? = some o → (j + k) ∉ done → depsDone o done = true → (j + k, o) ∈ readyW l k done
  | [], k, done, j, o, h, _, _ => by simp at h
  | x :: l, k, done, j, o, h, hn, hd => by
    unfold readyW
    cases j with
    | zero =>
      simp at h
      subst h
      have hn' : done.any (Nat.beq k) = false := by
        cases hb : done.any (Nat.beq k) with
        | false => rfl
        | true =>
          obtain ⟨y, hy, hbe⟩ := List.any_eq_true.1 hb
          have := Nat.eq_of_beq_eq_true hbe
          subst this
          exact absurd hy (by simpa using hn)
      rw [hn', hd]
      simp
    | succ j =>
      have := mem_readyW (k := k + 1) (by simpa using h) (by rwa [show j + (k + 1) = j + 1 + k by omega]) hd
      rw [show j + (k + 1) = j + 1 + k by omega] at this
      cases (!(done.any (Nat.beq k)) && depsDone x done) with
      | true => exact List.mem_cons_of_mem _ this
      | false => exact this
theorem ALLR_mem {F : Nat → Oper → Prop} : ∀ {l : List (Nat × Oper)}, ALLR l F → ∀ x ∈ l, F x.1 x.2
  | [], h, _, _ => False.elim h
  | [x], h, y, hy => by
    rcases List.mem_singleton.1 hy with rfl
    exact h
  | x :: z :: l, h, y, hy => by
    rcases List.mem_cons.1 hy with rfl | hy
    · exact h.1
    · exact ALLR_mem h.2 y hy
theorem WATCH_elim : ∀ {l : List (Nat × (World → Prop))} {w : World} {X : Prop}, WATCH l w X → X ∧ ∀ x ∈ l, x.2 w
  | [], w, X, h => ⟨h, fun x hx => by cases hx⟩
  | y :: l, w, X, h => by
    obtain ⟨h1, h2⟩ := h
    obtain ⟨h3, h4⟩ := WATCH_elim h2
    exact ⟨h3, fun x hx => by
      rcases List.mem_cons.1 hx with rfl | hx
      · exact h1
      · exact h4 x hx⟩

theorem nosel_Q {P : Program} {e : Env} {o : Oper} (h : isQ P e o = true) : ∀ cs b, o.op ≠ .select cs b := by
  intro cs b ho
  unfold isQ clsOf at h
  rw [ho] at h
  cases h

/-- the spec runs ahead with what is quiet -/
theorem advance {P : Program} {ops : Array Oper} {K : Env → World → Prop} {L : Array Bool} {ea : Env} {w : World} {U : List Nat} (B : List Nat) : ∀ (f : Nat) (done : List Nat) (wt : List (Nat × (World → Prop))) (es : Env) (pend : List Ent),
    DInv P ops L ea f done wt es w pend U → vcD P ops.toList B f done wt es w K →
    ∃ f' done' wt' es' pend', DInv P ops L ea f' done' wt' es' w pend' U ∧ vcD P ops.toList B f' done' wt' es' w K ∧ (f' = 0 ∨ nextQ P ops.toList 0 done' es' = none) := by
  intro f
  induction f with
  | zero => intro done wt es pend hI h; exact ⟨0, done, wt, es, pend, hI, h, .inl rfl⟩
  | succ f ih =>
    intro done wt es pend hI h
    cases hn : nextQ P ops.toList 0 done es with
    | none => exact ⟨f + 1, done, wt, es, pend, hI, h, .inr hn⟩
    | some x =>
      obtain ⟨i, o⟩ := x
      obtain ⟨j, hij, hj, hnd, hdd, hq⟩ := nextQ_spec.1 i o hn
      have hij' : i = j := by omega
      subst hij'
      have ho : ops[i]? = some o := by simpa using hj
      have hilt : i < ops.size := (Array.getElem?_eq_some_iff.1 ho).1
      have hsel := nosel_Q hq
      have hdeps := (depsDone_iff ho).1 hdd
      have hLi : L.getD i true = false := by
        cases hh : L.getD i true with
        | false => rfl
        | true => exact absurd ((hI.dmem i).2 (.inl (getD_true_false (by rw [hI.size]; exact hilt) hh))) hnd
      -- one entry more
      have step : ∀ (v : Value) (p : World → Prop) (wt' : List (Nat × (World → Prop))), (∀ w, p w → Step P ops o es v w) → p w → ((∀ w, p w) ∨ (i, p) ∈ wt') → (∀ x ∈ wt, x ∈ wt') →
          vcD P ops.toList B f (i :: done) wt' (es.put o.dst v) w K → ∃ f' done' wt' es' pend', DInv P ops L ea f' done' wt' es' w pend' U ∧ vcD P ops.toList B f' done' wt' es' w K ∧ (f' = 0 ∨ nextQ P ops.toList 0 done' es' = none) := by
        intro v p wt' hst hpw hpt hsub hv
        refine ih (i :: done) wt' (es.put o.dst v) (pend ++ [(i, v, p)]) ⟨hI.size, hI.un, hI.nodup, ?_, ?_, ?_, ?_, hI.pnd.snoc ho hsel hst, ?_, ?_, hI.closed, ?_, ?_⟩ hv
        · have := hI.fuel
          simp only [List.length_cons]
          omega
        · exact List.nodup_cons.2 ⟨hnd, hI.dnodup⟩
        · intro k hk
          rcases List.mem_cons.1 hk with rfl | hk
          · exact hilt
          · exact hI.dlt k hk
        · intro k
          rw [List.mem_cons, hI.dmem k]
          constructor
          · rintro (rfl | h | ⟨x, hx, rfl⟩)
            · exact .inr ⟨_, List.mem_append_right _ List.mem_cons_self, rfl⟩
            · exact .inl h
            · exact .inr ⟨x, List.mem_append_left _ hx, rfl⟩
          · rintro (h | ⟨x, hx, rfl⟩)
            · exact .inr (.inl h)
            · rcases List.mem_append.1 hx with hx | hx
              · exact .inr (.inr ⟨x, hx, rfl⟩)
              · rw [List.mem_singleton.1 hx]; exact .inl rfl
        · intro x hx
          rcases List.mem_append.1 hx with hx | hx
          · exact hI.pun x hx
          · rw [List.mem_singleton.1 hx]; exact hLi
        · rw [List.map_append, List.nodup_append]
          refine ⟨hI.pnodup, by simp, ?_⟩
          intro a ha b hb hab
          obtain ⟨x, hx, rfl⟩ := List.mem_map.1 ha
          simp at hb
          subst hb
          exact hnd ((hI.dmem _).2 (.inr ⟨x, hx, hab⟩))
        · intro l1 x l2 he k hk
          rcases List.append_eq_append_iff.1 he with ⟨l3, h1, h2⟩ | ⟨l3, h1, h2⟩
          · cases l3 with
            | nil =>
              simp at h2
              obtain ⟨rfl, rfl⟩ := h2
              have := hdeps k hk
              rcases (hI.dmem k).1 this with h | ⟨y, hy, rfl⟩
              · exact .inl h
              · exact .inr ⟨y, by rw [h1]; simpa using hy, rfl⟩
            | cons y l3 => simp at h2
          · cases l3 with
            | nil =>
              simp at h2
              obtain ⟨rfl, rfl⟩ := h2
              have := hdeps k hk
              rcases (hI.dmem k).1 this with h | ⟨y, hy, rfl⟩
              · exact .inl h
              · exact .inr ⟨y, by rw [h1] at hy; simpa using hy, rfl⟩
            | cons y l3 =>
              simp at h2
              obtain ⟨rfl, h2⟩ := h2
              exact hI.pclosed l1 x l3 h1 k hk
        · intro x hx
          rcases List.mem_append.1 hx with hx | hx
          · obtain ⟨h1, h2⟩ := hI.watch x hx
            exact ⟨h1, h2.imp id (hsub _)⟩
          · rw [List.mem_singleton.1 hx]
            exact ⟨hpw, hpt⟩
      unfold vcD at h
      rw [hn] at h
      rcases GRDX_cases h with ⟨hw, h⟩ | ⟨hw, h⟩
      · split at h
        · obtain ⟨v, hr, hk⟩ := OPP_run h
          exact step v (fun _ => True) wt (fun w _ => .inl ⟨hw, hr w⟩) trivial (.inl fun _ => trivial) (fun _ h => h) hk
        · obtain ⟨v, p, _, hp, hr, hk⟩ := OPR_run h
          exact step v p ((i, p) :: wt) (fun w hpw => .inl ⟨hw, hr w hpw⟩) hp (.inr List.mem_cons_self) (fun _ h => List.mem_cons_of_mem _ h) hk
      · exact step undef (fun _ => True) wt (fun w _ => .inr ⟨hw, rfl⟩) trivial (.inl fun _ => trivial) (fun _ h => h) h

theorem apart_pair {ops : Array Oper} (ha : apartAll ops (befL ops.toList []) ops.toList 0 = true) {i j : Nat} {oi oj : Oper} (hi : ops[i]? = some oi) (hj : ops[j]? = some oj) (hne : i ≠ j)
    (h1 : ((befL ops.toList []).getD i 0).testBit j ≠ true) (h2 : ((befL ops.toList []).getD j 0).testBit i ≠ true) : Apart3 ops oi oj := by
  rcases Nat.lt_or_gt_of_ne hne with h | h
  · rcases apartAll_spec ha i j oi oj h (by simpa using hi) (by simpa using hj) with h3 | h3
    · exact absurd h3 h2
    · exact h3
  · rcases apartAll_spec ha j i oj oi h (by simpa using hj) (by simpa using hi) with h3 | h3
    · exact absurd h3 h1
    · exact h3.symm

theorem erase_length {l : List Nat} {i : Nat} (h : i ∈ l) : (l.erase i).length + 1 = l.length := by
  rw [List.length_erase_of_mem h]
  have := List.length_pos_of_mem h
  omega

theorem nodup_le : ∀ {l l' : List Nat}, l.Nodup → (∀ x ∈ l, x ∈ l') → l.length ≤ l'.length
  | [], l', _, _ => Nat.zero_le _
  | x :: l, l', hn, hs => by
    rw [List.nodup_cons] at hn
    have hx := hs x List.mem_cons_self
    have ih := nodup_le (l := l) (l' := l'.erase x) hn.2 fun y hy => by
      have hne : y ≠ x := fun he => hn.1 (he ▸ hy)
      exact (List.mem_erase_of_ne hne).2 (hs y (List.mem_cons_of_mem _ hy))
    have := erase_length hx
    simp only [List.length_cons]
    omega

theorem draw_main {ds : List Deferred} {ro : Option Nat} {fm : Nat} {P : Program} {ops : Array Oper} {K : Env → World → Prop} {Q : Exit → Act → World → Prop} {n : Nat} {ch : List Nat} {e0 : Env}
    (hf : forwardOk ops.toList 0 = true) (ha : apartAll ops (befL ops.toList []) ops.toList 0 = true)
    (hds : ∀ o ∈ ops.toList, dstOk n o.dst = true ∧ ∀ d, o.dst = some d → ch.any (Nat.beq d) = true)
    (hk : ∀ e' a' w', Rel ds n a' e' → agree ch e0 e' → K e' w' → Q .normal a' w') : ∀ (m : Nat) (L : Array Bool) (a : Act) (ea : Env) (w : World) (f : Nat) (done : List Nat) (wt : List (Nat × (World → Prop))) (es : Env) (pend : List Ent) (U : List Nat),
    U.length ≤ m → Rel ds n a ea → agree ch e0 ea → DInv P ops L ea f done wt es w pend U → vcD P ops.toList (befL ops.toList []) f done wt es w K → wpAnyIn (WF ro) fm P .any ops Q m L a w := by
  -- all is listed
  have over : ∀ (L : Array Bool) (a : Act) (ea : Env) (w : World) (f : Nat) (done : List Nat) (wt : List (Nat × (World → Prop))) (es : Env) (pend : List Ent), Rel ds n a ea → agree ch e0 ea →
      DInv P ops L ea f done wt es w pend [] → vcD P ops.toList (befL ops.toList []) f done wt es w K → Region.ready .any ops L = [] ∧ Q .normal a w := by
    intro L a ea w f done wt es pend hr hag hI h
    have hall : ∀ i, i < ops.size → L.getD i true = true := by
      intro i hi
      cases hh : L.getD i true with
      | true => rfl
      | false => have := (hI.un i).2 ⟨hi, hh⟩; cases this
    refine ⟨?_, ?_⟩
    · apply List.eq_nil_iff_forall_not_mem.2
      intro i hi
      obtain ⟨h1, h2, _⟩ := mem_ready.1 hi
      rw [hall i h1] at h2
      cases h2
    · have hp : pend = [] := by
        cases pend with
        | nil => rfl
        | cons x r =>
          obtain ⟨o, ho⟩ := hI.pnd.valid x List.mem_cons_self
          have := hI.pun x List.mem_cons_self
          rw [hall _ (Array.getElem?_eq_some_iff.1 ho).1] at this
          cases this
      subst hp
      have hes : es = ea := by
        have := hI.pnd
        cases this
        rfl
      subst hes
      have hf0 : f = 0 := by
        have h1 : ops.size ≤ done.length := by
          have : (List.range ops.size).length ≤ done.length := by
            apply nodup_le List.nodup_range
            intro i hi
            have hi' := List.mem_range.1 hi
            exact (hI.dmem i).2 (.inl (getD_true_false (by rw [hI.size]; exact hi') (hall i hi')))
          simpa using this
        have := hI.fuel
        omega
      subst hf0
      exact hk _ _ _ hr hag h
  intro m
  induction m with
  | zero =>
    intro L a ea w f done wt es pend U hU hr hag hI h
    have hU0 : U = [] := List.eq_nil_of_length_eq_zero (by omega)
    subst hU0
    exact over L a ea w f done wt es pend hr hag hI h
  | succ m ih =>
    intro L a ea w f done wt es pend U hU hr hag hI h
    refine ⟨?_, ?_⟩
    · intro hready
      -- nothing is ready: all is listed
      have hU0 : U = [] := by
        apply Classical.byContradiction
        intro hne
        -- the least unlisted
        have : ∀ k, (∀ i, i < k → i ∉ U) := by
          intro k
          induction k with
          | zero => intro i hi; omega
          | succ k ihk =>
            intro i hi hiU
            have hik : i = k := by
              rcases Nat.lt_or_ge i k with h1 | h1
              · exact absurd hiU (ihk i h1)
              · omega
            subst hik
            obtain ⟨h1, h2⟩ := (hI.un i).1 hiU
            have : i ∈ Region.ready .any ops L := by
              refine mem_ready.2 ⟨h1, h2, fun j hj => ?_⟩
              obtain ⟨o, ed, ho, hed, hb, hon⟩ := hj
              have hlt := forward_dep hf i o (by simpa using ho) ed hed hb
              have hjU := ihk j (by omega)
              have hjs : j < ops.size := by omega
              refine getD_true_false (by rw [hI.size]; exact hjs) ?_
              cases hh : L.getD j true with
              | true => rfl
              | false => exact absurd ((hI.un j).2 ⟨hjs, hh⟩) hjU
            rw [hready] at this
            cases this
        obtain ⟨i, hi⟩ := List.exists_mem_of_ne_nil U hne
        exact this (i + 1) i (by omega) hi
      subst hU0
      exact (over L a ea w f done wt es pend hr hag hI h).2
    · intro i hi
      obtain ⟨hil, hiL, hideps⟩ := mem_ready.1 hi
      have ho : ops[i]? = some ops[i] := Array.getElem?_eq_getElem hil
      generalize hoi : ops[i] = oi at ho
      have hmem : oi ∈ ops.toList := by rw [← hoi]; exact Array.getElem_mem_toList hil
      obtain ⟨hdst, hch⟩ := hds oi hmem
      have hiU : i ∈ U := (hI.un i).2 ⟨hil, hiL⟩
      have hLs : i < L.size := by rw [hI.size]; exact hil
      obtain ⟨f, done, wt, es, pend, hI, h, hend⟩ := advance _ f done wt es pend hI h
      -- who is not before whom
      have hAcl : ∀ k, L.getD k false = true → ∀ j, Dep ops k j → L.getD j false = true := hI.closed
      have notbef : ∀ x ∈ pend, ((befL ops.toList []).getD i 0).testBit x.1 ≠ true := by
        intro x hx hb
        have := bef_closed hf (X := fun k => L.getD k false = true) hAcl i i x.1 (Nat.le_refl _) hideps hb
        have h2 := hI.pun x hx
        rw [getD_false_true this] at h2
        cases h2
      have xcl : ∀ l1 l2, pend = l1 ++ l2 → ∀ k, (L.getD k false = true ∨ ∃ y ∈ l1, y.1 = k) → ∀ j, Dep ops k j → (L.getD j false = true ∨ ∃ y ∈ l1, y.1 = j) := by
        intro l1 l2 he k hk j hj
        rcases hk with hk | ⟨y, hy, rfl⟩
        · exact .inl (hAcl k hk j hj)
        · obtain ⟨u, v, huv⟩ := List.append_of_mem hy
          rcases hI.pclosed u y (v ++ l2) (by rw [he, huv]; simp) j hj with h | ⟨z, hz, hzj⟩
          · exact .inl h
          · exact .inr ⟨z, by rw [huv]; exact List.mem_append_left _ hz, hzj⟩
      have apartWith : ∀ l1 x l2, pend = l1 ++ x :: l2 → (∀ y ∈ l1, y.1 ≠ i) → x.1 ≠ i → ∀ o, ops[x.1]? = some o → Apart3 ops o oi := by
        intro l1 x l2 he hl1 hxi o hox
        refine (apart_pair ha ho hox (Ne.symm hxi) (notbef x (by rw [he]; simp)) ?_).symm
        intro hb
        have := bef_closed hf (X := fun k => L.getD k false = true ∨ ∃ y ∈ l1, y.1 = k) (xcl l1 (x :: l2) he) x.1 x.1 i (Nat.le_refl _) (hI.pclosed l1 x l2 he) hb
        rcases this with h | ⟨y, hy, hyi⟩
        · rw [getD_false_true h] at hiL; cases hiL
        · exact hl1 y hy hyi
      have hnext : ∀ (v : Value) (w' : World) (f : Nat) (done : List Nat) (wt : List (Nat × (World → Prop))) (es : Env) (pend : List Ent), DInv P ops (L.setIfInBounds i true) (ea.put oi.dst v) f done wt es w' pend (U.erase i) →
          vcD P ops.toList (befL ops.toList []) f done wt es w' K → wpAnyIn (WF ro) fm P .any ops Q m (L.setIfInBounds i true) (a.put oi.dst v) w' := by
        intro v w' f done wt es pend hI' h'
        refine ih _ _ (ea.put oi.dst v) w' f done wt es pend (U.erase i) ?_ (hr.put hdst v) (hag.trans (agree.put v hch)) hI' h'
        have := erase_length hiU
        omega
      have hsize' : (L.setIfInBounds i true).size = ops.size := by rw [Array.size_setIfInBounds]; exact hI.size
      have hun' : ∀ k, k ∈ U.erase i ↔ k < ops.size ∧ (L.setIfInBounds i true).getD k true = false := by
        intro k
        rw [hI.nodup.mem_erase_iff, hI.un k, getD_set hLs]
        by_cases hki : k = i
        · subst hki; simp
        · simp [hki]
      have hnodup' : (U.erase i).Nodup := hI.nodup.erase i
      have hclosed' : ∀ k, (L.setIfInBounds i true).getD k false = true → ∀ j, Dep ops k j → (L.setIfInBounds i true).getD j false = true := by
        intro k hk j hj
        rw [getD_set hLs] at hk ⊢
        by_cases hji : j = i
        · rw [if_pos hji]
        · rw [if_neg hji]
          by_cases hki : k = i
          · subst hki; exact hideps j hj
          · rw [if_neg hki] at hk
            exact hAcl k hk j hj
      unfold wpOpIn
      rw [ho]
      simp only
      rw [wanted_rel hr]
      by_cases hin : ∃ x ∈ pend, x.1 = i
      · -- it ran ahead
        obtain ⟨⟨i', v, p⟩, hx, hxi⟩ := hin
        simp only at hxi
        subst hxi
        obtain ⟨l1, l2, hpe⟩ := List.append_of_mem hx
        have hnd := hI.pnodup
        rw [hpe] at hnd
        simp only [List.map_append, List.map_cons] at hnd
        rw [List.nodup_append] at hnd
        have hl1 : ∀ y ∈ l1, y.1 ≠ i' := fun y hy => hnd.2.2 y.1 (List.mem_map.2 ⟨y, hy, rfl⟩) i' List.mem_cons_self
        have hl2 : ∀ y ∈ l2, y.1 ≠ i' := fun y hy he => (List.nodup_cons.1 hnd.2.1).1 (he ▸ List.mem_map.2 ⟨y, hy, rfl⟩)
        have hap : ∀ x ∈ l1, ∀ o, ops[x.1]? = some o → Apart3 ops o oi := by
          intro x hx o hox
          obtain ⟨u, r, hur⟩ := List.append_of_mem hx
          exact apartWith u x (r ++ (i', v, p) :: l2) (by rw [hpe, hur]; simp) (fun y hy => hl1 y (by rw [hur]; exact List.mem_append_left _ hy)) (hl1 x hx) o hox
        have hpnd := hI.pnd
        rw [hpe] at hpnd
        obtain ⟨hst, hsel, hrest⟩ := Pend.front ho hpnd hap
        have hnew : DInv P ops (L.setIfInBounds i' true) (ea.put oi.dst v) f done wt es w (l1 ++ l2) (U.erase i') := by
          have sub : ∀ y ∈ l1 ++ l2, y ∈ pend := by
            intro y hy
            rw [hpe]
            rcases List.mem_append.1 hy with hy | hy
            · exact List.mem_append_left _ hy
            · exact List.mem_append_right _ (List.mem_cons_of_mem _ hy)
          have ne : ∀ y ∈ l1 ++ l2, y.1 ≠ i' := fun y hy => (List.mem_append.1 hy).elim (hl1 y) (hl2 y)
          refine ⟨hsize', hun', hnodup', hI.fuel, hI.dnodup, hI.dlt, ?_, hrest, ?_, ?_, hclosed', ?_, fun x hx => hI.watch x (sub x hx)⟩
          · intro k
            rw [hI.dmem k, getD_set hLs, hpe]
            by_cases hki : k = i'
            · subst hki
              rw [if_pos rfl]
              exact ⟨fun _ => .inl rfl, fun _ => .inr ⟨_, List.mem_append_right _ List.mem_cons_self, rfl⟩⟩
            · rw [if_neg hki]
              constructor
              · rintro (h | ⟨y, hy, rfl⟩)
                · exact .inl h
                · refine .inr ⟨y, ?_, rfl⟩
                  rcases List.mem_append.1 hy with hy | hy
                  · exact List.mem_append_left _ hy
                  · rcases List.mem_cons.1 hy with rfl | hy
                    · exact absurd rfl hki
                    · exact List.mem_append_right _ hy
              · rintro (h | ⟨y, hy, rfl⟩)
                · exact .inl h
                · exact .inr ⟨y, by rw [← hpe]; exact sub y hy, rfl⟩
          · intro y hy
            rw [getD_set hLs, if_neg (ne y hy)]
            exact hI.pun y (sub y hy)
          · have : ((l1 ++ l2).map (·.1)).Sublist (pend.map (·.1)) := by
              rw [hpe]
              exact List.Sublist.map _ (List.Sublist.append (List.Sublist.refl _) (List.sublist_cons_self _ _))
            exact this.nodup hI.pnodup
          · intro u x r he k hk
            rw [getD_set hLs]
            by_cases hki : k = i'
            · exact .inl (by rw [if_pos hki])
            · rw [if_neg hki]
              rcases List.append_eq_append_iff.1 he with ⟨l3, h1, h2⟩ | ⟨l3, h1, h2⟩
              · -- u = l1 ++ l3
                rcases hI.pclosed (l1 ++ (i', v, p) :: l3) x r (by rw [hpe, h2]; simp) k hk with h | ⟨y, hy, rfl⟩
                · exact .inl h
                · refine .inr ⟨y, ?_, rfl⟩
                  rw [h1]
                  rcases List.mem_append.1 hy with hy | hy
                  · exact List.mem_append_left _ hy
                  · rcases List.mem_cons.1 hy with rfl | hy
                    · exact absurd rfl hki
                    · exact List.mem_append_right _ hy
              · cases l3 with
                | nil =>
                  simp at h2 h1
                  rcases hI.pclosed (l1 ++ [(i', v, p)]) x r (by rw [hpe, ← h2]; simp) k hk with h | ⟨y, hy, rfl⟩
                  · exact .inl h
                  · refine .inr ⟨y, ?_, rfl⟩
                    rw [← h1]
                    rcases List.mem_append.1 hy with hy | hy
                    · exact hy
                    · rw [List.mem_singleton.1 hy] at hki; exact absurd rfl hki
                | cons z l3 =>
                  simp at h2
                  obtain ⟨rfl, h2⟩ := h2
                  rcases hI.pclosed u x (l3 ++ (i', v, p) :: l2) (by rw [hpe, h1]; simp) k hk with h | h
                  · exact .inl h
                  · exact .inr h
        rcases hst w (hI.watch _ hx).1 with ⟨hw, hrun⟩ | ⟨hw, rfl⟩
        · rw [if_pos hw]
          unfold Oper.wpIn
          refine ⟨fun _ _ => trivial, ?_⟩
          rw [hr.evf, semAt_run hrun (fun d hd => by cases hd)]
          exact hnext v w f done wt es _ hnew h
        · rw [if_neg (by simp [hw])]
          exact ⟨fun _ _ => trivial, hnext undef w f done wt es _ hnew h⟩
      · -- it may turn the world
        have hall : ∀ x ∈ pend, ∀ o, ops[x.1]? = some o → Apart3 ops o oi := by
          intro x hx o hox
          obtain ⟨u, r, hur⟩ := List.append_of_mem hx
          exact apartWith u x r hur (fun y hy he => hin ⟨y, by rw [hur]; exact List.mem_append_left _ hy, he⟩) (fun he => hin ⟨x, hx, he⟩) o hox
        have hlook := hI.pnd.look hall
        have hnd : i ∉ done := by
          intro hd
          rcases (hI.dmem i).1 hd with h | h
          · rw [getD_false_true h] at hiL; cases hiL
          · exact hin h
        have hdd : depsDone oi done = true := (depsDone_iff ho).2 fun j hj => (hI.dmem j).2 (.inl (hideps j hj))
        have hlist : ops.toList[i]? = some oi := by simpa using ho
        rcases hend with hf0 | hn
        · exfalso
          subst hf0
          have hfu := hI.fuel
          have hlen : (i :: done).length ≤ (List.range ops.size).length := by
            apply nodup_le (List.nodup_cons.2 ⟨hnd, hI.dnodup⟩)
            intro k hk
            rw [List.mem_range]
            rcases List.mem_cons.1 hk with rfl | hk
            · exact hil
            · exact hI.dlt k hk
          simp at hlen
          omega
        · have hfpos : ∃ f', f = f' + 1 := by
            cases f with
            | succ f' => exact ⟨f', rfl⟩
            | zero =>
              exfalso
              have hfu := hI.fuel
              have hlen : (i :: done).length ≤ (List.range ops.size).length := by
                apply nodup_le (List.nodup_cons.2 ⟨hnd, hI.dnodup⟩)
                intro k hk
                rw [List.mem_range]
                rcases List.mem_cons.1 hk with rfl | hk
                · exact hil
                · exact hI.dlt k hk
              simp at hlen
              omega
          obtain ⟨f', rfl⟩ := hfpos
          unfold vcD at h
          rw [hn] at h
          have hG := ALLR_mem h _ (mem_readyW (k := 0) hlist (by simpa using hnd) hdd)
          simp only [Nat.add_zero] at hG
          have hnew : ∀ (v : Value) (w' : World) (wt' : List (Nat × (World → Prop))), (∀ x ∈ pend, x.2.2 w' ∧ ((∀ w, x.2.2 w) ∨ (x.1, x.2.2) ∈ wt')) →
              DInv P ops (L.setIfInBounds i true) (ea.put oi.dst v) f' (i :: done) wt' (es.put oi.dst v) w' pend (U.erase i) := by
            intro v w' wt' hwatch
            refine ⟨hsize', hun', hnodup', ?_, List.nodup_cons.2 ⟨hnd, hI.dnodup⟩, ?_, ?_, hI.pnd.put hall, ?_, hI.pnodup, hclosed', ?_, hwatch⟩
            · have := hI.fuel
              simp only [List.length_cons]
              omega
            · intro k hk
              rcases List.mem_cons.1 hk with rfl | hk
              · exact hil
              · exact hI.dlt k hk
            · intro k
              rw [List.mem_cons, hI.dmem k, getD_set hLs]
              by_cases hki : k = i
              · subst hki; simp
              · simp [hki]
            · intro y hy
              rw [getD_set hLs, if_neg (fun he => hin ⟨y, hy, he⟩)]
              exact hI.pun y hy
            · intro u x r he k hk
              rw [getD_set hLs]
              by_cases hki : k = i
              · exact .inl (by rw [if_pos hki])
              · rw [if_neg hki]
                exact hI.pclosed u x r he k hk
          rcases GRDX_cases hG with ⟨hw, hG⟩ | ⟨hw, hG⟩
          · rw [if_pos ((wanted_eqOn hlook).trans hw)]
            have hsel : ∀ cs b, oi.op ≠ .select cs b := by
              intro cs b hs
              unfold OPW at hG
              rw [hs] at hG
              exact hG
            have hdoes := OPW_does hG
            have hex : execOp a.eval oi = execOp es.ev oi := by rw [hr.evf]; exact exec_eqOn hsel hlook
            refine (hdoes.congr hex).wp fun v w' hv => ?_
            obtain ⟨hv, hwat⟩ := WATCH_elim hv
            refine hnext v w' f' (i :: done) _ _ pend (hnew v w' _ fun x hx => ?_) hv
            obtain ⟨_, hp⟩ := hI.watch x hx
            rcases hp with hp | hp
            · exact ⟨hp w', .inl hp⟩
            · have hmem : (x.1, x.2.2) ∈ wt.filter fun x => !(Nat.testBit ((befL ops.toList []).getD i 0) x.1) := by
                rw [List.mem_filter]
                refine ⟨hp, ?_⟩
                have := notbef x hx
                simpa using this
              exact ⟨hwat _ hmem, .inr hmem⟩
          · rw [if_neg (by rw [wanted_eqOn hlook, hw]; simp)]
            exact ⟨fun _ _ => trivial, hnext undef w f' (i :: done) wt _ pend (hnew undef w wt fun x hx => hI.watch x hx) hG⟩

theorem vcDraw_sound {ds : List Deferred} {ro : Option Nat} {fm : Nat} {P : Program} {id : Nat} {ops : Array Oper} {Q : Exit → Act → World → Prop} {n : Nat} {ch : List Nat} {e : Env} {a : Act} {w : World} {K : Env → World → Prop} (hm : P.follows .mixedOrders = true)
    (hd : ∀ o ∈ ops.toList, dstOk n o.dst = true ∧ ∀ d, o.dst = some d → ch.any (Nat.beq d) = true) (h : vcDraw P ops e w K) (hr : Rel ds n a e)
    (hk : ∀ e' a' w', Rel ds n a' e' → agree ch e e' → K e' w' → Q .normal a' w') : (Code.region id ops true).wpIn (WF ro) fm P Q a w := by
  unfold vcDraw at h
  cases hc : (forwardOk ops.toList 0 && apartAll ops (befL ops.toList []) ops.toList 0) with
  | false => rw [hc] at h; exact False.elim h
  | true =>
    rw [hc, cond_true] at h
    simp only [Bool.and_eq_true] at hc
    refine wpIn_region_any hm ?_
    have hrep : ∀ (i : Nat) (d : Bool), (Array.replicate ops.size false).getD i d = if i < ops.size then false else d := by
      intro i d
      rw [Array.getD_eq_getD_getElem?, Array.getElem?_replicate]
      split <;> rfl
    refine draw_main hc.1 hc.2 hd hk ops.size _ a e _ ops.toList.length [] [] e [] (List.range ops.size) (by simp) hr (.refl _ _) ⟨by simp, ?_, List.nodup_range, by simp, List.nodup_nil, (fun _ h => (by cases h)), ?_, .nil _, (fun _ h => (by cases h)), List.nodup_nil, ?_, ?_, (fun _ h => (by cases h))⟩ h
    · intro i
      rw [List.mem_range, hrep]
      by_cases hi : i < ops.size <;> simp [hi]
    · intro i
      rw [hrep]
      simp
    · intro i hi
      rw [hrep] at hi
      split at hi <;> cases hi
    · intro l1 x l2 he
      simp at he

end Go.SW
