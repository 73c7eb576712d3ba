/- Maps whose keys are numbers or texts: what they hold (a list of pairs, in any order), and the operations on them. -/
import Derived.Test.YtfhiffnfngpkeaaGreatDoorSl
import Derived.MapKept
import Derived.Maps.RangeRun
set_option linter.unusedVariables false
set_option linter.unusedSectionVars false
namespace Go.SW
open Go Go.Proofs

structure KV (κ ν : Type) where
  d : TypeDesc
  ek : κ → Value
  ev : ν → Value
  key : ∀ k, MapKept.IsKey d (ek k)
  inj : ∀ a b, ek a = ek b → a = b
def KV.enc {κ ν : Type} (E : KV κ ν) (p : κ × ν) : Value × Value := (E.ek p.1, E.ev p.2)
structure MapTy {κ ν : Type} (E : KV κ ν) (t kt et : TypeId) (z : Value) : Prop where
  und : PP.underlying t = some (.map kt et)
  kd : PP.underlying kt = some E.d
  zero : ∃ i, PP.info? et = some i ∧ i.zero = some z

def kvs (es : List MapEntry) : List (Value × Value) := es.map fun x => (x.key, x.val)
def MapAt {κ ν : Type} (E : KV κ ν) (w : World) (mb : Nat) (M : List (κ × ν)) : Prop :=
  ∃ es clock, At w mb (.map ⟨es⟩ clock) ∧ MapKept.Stamped ⟨es⟩ clock ∧ (kvs es).Perm (M.map E.enc)

theorem inj_of_nodup_map {α β : Type} (f : α → β) : ∀ {l : List α}, (l.map f).Nodup → ∀ {a b : α}, a ∈ l → b ∈ l → f a = f b → a = b
  | [], _, _, _, h, _, _ => by cases h
  | x :: l, hn, a, b, ha, hb, hf => by
    simp only [List.map_cons, List.nodup_cons] at hn
    rcases List.mem_cons.1 ha with h1 | h1 <;> rcases List.mem_cons.1 hb with h2 | h2
    · rw [h1, h2]
    · exact absurd (List.mem_map.2 ⟨b, h2, by rw [← hf, h1]⟩) hn.1
    · exact absurd (List.mem_map.2 ⟨a, h1, by rw [hf, h2]⟩) hn.1
    · exact inj_of_nodup_map f hn.2 h1 h2 hf

section
variable {κ ν : Type} [DecidableEq κ]
def mget (M : List (κ × ν)) (k : κ) : Option ν := (M.find? fun p => decide (p.1 = k)).map (·.2)
def mdel (M : List (κ × ν)) (k : κ) : List (κ × ν) := M.filter fun p => !decide (p.1 = k)
def mput (M : List (κ × ν)) (k : κ) (v : ν) : List (κ × ν) := (k, v) :: mdel M k
def mkeys (M : List (κ × ν)) : List κ := M.map (·.1)

theorem mget_some {M : List (κ × ν)} {k : κ} {v : ν} (h : mget M k = some v) : (k, v) ∈ M := by
  unfold mget at h
  cases hf : M.find? fun p => decide (p.1 = k) with
  | none => rw [hf] at h; cases h
  | some p =>
    rw [hf] at h
    have h1 := List.find?_some hf
    have h2 := List.mem_of_find?_eq_some hf
    simp at h h1
    subst h h1
    exact h2
theorem mget_none {M : List (κ × ν)} {k : κ} : mget M k = none ↔ k ∉ mkeys M := by
  simp [mget, mkeys]
  constructor
  · intro h x hx
    exact h k x hx rfl
  · intro h a b hab e
    subst e
    exact h b hab
theorem mget_of_mem : ∀ {M : List (κ × ν)} {k : κ} {v : ν}, (mkeys M).Nodup → (k, v) ∈ M → mget M k = some v
  | [], _, _, _, h => by cases h
  | p :: M, k, v, hn, h => by
    simp only [mkeys, List.map_cons, List.nodup_cons] at hn
    unfold mget
    rw [List.find?_cons]
    rcases List.mem_cons.1 h with h | h
    · subst h
      simp
    · have : p.1 ≠ k := fun e => hn.1 (List.mem_map.2 ⟨_, h, e.symm⟩)
      rw [decide_eq_false this]
      exact mget_of_mem hn.2 h
theorem mem_mdel {M : List (κ × ν)} {k : κ} {p : κ × ν} : p ∈ mdel M k ↔ p ∈ M ∧ p.1 ≠ k := by simp [mdel]
theorem mget_mdel (M : List (κ × ν)) (k j : κ) : mget (mdel M k) j = if j = k then none else mget M j := by
  unfold mget mdel
  rw [List.find?_filter]
  by_cases h : j = k
  · subst h
    simp
  · rw [if_neg h]
    congr 2
    funext p
    by_cases hp : p.1 = j
    · simp [hp, h]
    · simp [hp]
theorem mget_mput (M : List (κ × ν)) (k : κ) (v : ν) (j : κ) : mget (mput M k v) j = if j = k then some v else mget M j := by
  unfold mput
  have hc : mget ((k, v) :: mdel M k) j = if k = j then some v else mget (mdel M k) j := by
    unfold mget
    rw [List.find?_cons]
    by_cases h : k = j
    · simp [h]
    · simp [h]
  rw [hc, mget_mdel]
  by_cases h : j = k
  · simp [h]
  · simp [h, Ne.symm h]
theorem mdel_nodup {M : List (κ × ν)} {k : κ} (h : (mkeys M).Nodup) : (mkeys (mdel M k)).Nodup := (List.filter_sublist.map _).nodup h
theorem mput_nodup {M : List (κ × ν)} {k : κ} {v : ν} (h : (mkeys M).Nodup) : (mkeys (mput M k v)).Nodup := by
  simp only [mput, mkeys, List.map_cons, List.nodup_cons]
  refine ⟨?_, mdel_nodup h⟩
  intro hm
  obtain ⟨p, hp, he⟩ := List.mem_map.1 hm
  exact (mem_mdel.1 hp).2 he
theorem mdel_self {M : List (κ × ν)} {k : κ} (h : k ∉ mkeys M) : mdel M k = M := by
  unfold mdel
  refine List.filter_eq_self.2 fun p hp => ?_
  have : p.1 ≠ k := fun e => h (List.mem_map.2 ⟨p, hp, e⟩)
  simp [this]

/-! ## the entries and the pairs -/
variable {E : KV κ ν} {es : List MapEntry} {M : List (κ × ν)} {clock : Nat}
theorem kvs_mem (hp : (kvs es).Perm (M.map E.enc)) {e : MapEntry} (he : e ∈ es) : ∃ p ∈ M, e.key = E.ek p.1 ∧ e.val = E.ev p.2 := by
  have h1 : (e.key, e.val) ∈ kvs es := List.mem_map.2 ⟨e, he, rfl⟩
  obtain ⟨p, hp, h2⟩ := List.mem_map.1 (hp.subset h1)
  simp only [KV.enc, Prod.mk.injEq] at h2
  exact ⟨p, hp, h2.1.symm, h2.2.symm⟩
theorem kvs_mem' (hp : (kvs es).Perm (M.map E.enc)) {p : κ × ν} (hm : p ∈ M) : ∃ e ∈ es, e.key = E.ek p.1 ∧ e.val = E.ev p.2 := by
  have h1 : E.enc p ∈ M.map E.enc := List.mem_map.2 ⟨p, hm, rfl⟩
  obtain ⟨e, he, h2⟩ := List.mem_map.1 (hp.symm.subset h1)
  simp only [KV.enc, Prod.mk.injEq] at h2
  exact ⟨e, he, h2.1, h2.2⟩
theorem kvs_isKey (hp : (kvs es).Perm (M.map E.enc)) : ∀ e ∈ es, MapKept.IsKey E.d e.key := by
  intro e he
  obtain ⟨p, _, h, _⟩ := kvs_mem hp he
  rw [h]; exact E.key _
theorem kvs_nodup (hs : MapKept.Stamped ⟨es⟩ clock) (hp : (kvs es).Perm (M.map E.enc)) : (mkeys M).Nodup := by
  have h1 : (es.map (·.key)).Nodup := hs.2.2
  have h2 : ((kvs es).map (·.1)).Perm ((M.map E.enc).map (·.1)) := hp.map _
  have h3 : (kvs es).map (·.1) = es.map (·.key) := by simp [kvs]
  have h4 : (M.map E.enc).map (·.1) = (mkeys M).map E.ek := by simp [mkeys, KV.enc]
  rw [h3, h4] at h2
  have h5 := h2.nodup_iff.1 h1
  exact (List.pairwise_map.1 h5).imp fun h e => h (congrArg E.ek e)
theorem kvs_size (hp : (kvs es).Perm (M.map E.enc)) : es.length = M.length := by
  have := hp.length_eq
  simpa [kvs] using this

theorem MapAt.perm {w : World} {mb : Nat} {M' : List (κ × ν)} (h : MapAt E w mb M) (hp : M.Perm M') : MapAt E w mb M' := by
  obtain ⟨es, clock, h1, h2, h3⟩ := h
  exact ⟨es, clock, h1, h2, h3.trans (hp.map _)⟩
theorem MapAt.nodup {w : World} {mb : Nat} (h : MapAt E w mb M) : (mkeys M).Nodup := by
  obtain ⟨es, clock, h1, h2, h3⟩ := h
  exact kvs_nodup h2 h3
theorem MapAt.keep {w w' : World} {mb : Nat} (h : MapAt E w mb M) (hk : w'.heap[mb]? = w.heap[mb]?) : MapAt E w' mb M := by
  obtain ⟨es, clock, h1, h2, h3⟩ := h
  exact ⟨es, clock, hk.trans h1, h2, h3⟩
theorem MapAt.lt {w : World} {mb : Nat} (h : MapAt E w mb M) : mb < w.heap.size := by
  obtain ⟨es, clock, h1, h2, h3⟩ := h
  exact h1.lt
theorem MapAt.kept {w w' : World} {S : Nat → Prop} {mb : Nat} (h : MapAt E w mb M) (hk : Keep S w w') (hd : ¬ S mb) : MapAt E w' mb M := h.keep (hk.keep mb h.lt hd)
theorem MapAt.empty {w : World} {mb : Nat} (h : At w mb (.map #[] 0)) : MapAt E w mb ([] : List (κ × ν)) := ⟨[], 0, h, MapKept.stamped_empty 0, List.Perm.nil⟩
theorem MapAt.notCells {w : World} {mb : Nat} (h : MapAt E w mb M) {cs : Array Value} {t : TypeId} {fr : Nat × Nat} (h' : At w mb (.cells cs t fr)) : False := by
  obtain ⟨es, clock, h1, h2, h3⟩ := h
  have := h1.inj h'
  cases this

variable {t kt et : TypeId} {z : Value}
theorem map_len (T : MapTy E t kt et z) {w : World} {mb : Nat} (h : MapAt E w mb M) (u : TypeId) : (Builtin.len_ #[t] u #[.map (some mb)]).run PP w = .ok (.int .i64 M.length) w := by
  obtain ⟨es, clock, h1, h2, h3⟩ := h
  have hb : w.heap[mb]? = some (.map ⟨es⟩ clock) := h1
  rw [← kvs_size h3]
  simp [Builtin.len_, run_underlying' T.und, MapKept.run_getObj_map hb, goInt]

theorem kvs_find {k : κ} (hs : MapKept.Stamped ⟨es⟩ clock) (hp : (kvs es).Perm (M.map E.enc)) : (Instr.findNow E.d (E.ek k) es 0 = some none ∧ mget M k = none) ∨
    ∃ j e v, Instr.findNow E.d (E.ek k) es 0 = some (some (j, e.val)) ∧ es[j]? = some e ∧ e.key = E.ek k ∧ e.val = E.ev v ∧ mget M k = some v := by
  rcases MapKept.findNow_spec (E.key k) es 0 (kvs_isKey hp) with ⟨h1, h2⟩ | ⟨j, e, h1, h2, h3⟩
  · refine .inl ⟨h1, mget_none.2 fun hm => ?_⟩
    obtain ⟨p, hp', rfl⟩ := List.mem_map.1 hm
    obtain ⟨e, he, h3, _⟩ := kvs_mem' hp hp'
    exact h2 e he h3
  · obtain ⟨p, hp', h4, h5⟩ := kvs_mem hp (List.mem_of_getElem? h2)
    refine .inr ⟨j, e, p.2, by simpa using h1, h2, h3, h5, mget_of_mem (kvs_nodup hs hp) ?_⟩
    have : p.1 = k := E.inj _ _ (h4.symm.trans h3)
    rw [← this]
    exact hp'

theorem map_lookup (T : MapTy E t kt et z) {w : World} {mb : Nat} (h : MapAt E w mb M) (k : κ) :
    (Instr.lookup t (.map (some mb)) (E.ek k) true).run PP w = .ok (.tuple #[match mget M k with | some v => E.ev v | none => z, .bool (mget M k).isSome]) w := by
  obtain ⟨es, clock, h1, h2, h3⟩ := h
  have hb : w.heap[mb]? = some (.map ⟨es⟩ clock) := h1
  obtain ⟨i, hi, hz⟩ := T.zero
  rcases kvs_find (k := k) h2 h3 with ⟨h4, h5⟩ | ⟨j, e, v, h4, h5, h6, h7, h8⟩
  · rw [h5]
    simp [Instr.lookup, run_underlying' T.und, MapKept.run_getObj_map hb, MapKept.run_checkKey T.kd (E.key k), MapKept.run_findKey T.kd h4, zeroValue, typeInfo, hi, hz]
  · rw [h8]
    simp [Instr.lookup, run_underlying' T.und, MapKept.run_getObj_map hb, MapKept.run_checkKey T.kd (E.key k), MapKept.run_findKey T.kd h4, h7]
theorem map_lookup1 (T : MapTy E t kt et z) {w : World} {mb : Nat} (h : MapAt E w mb M) (k : κ) :
    (Instr.lookup t (.map (some mb)) (E.ek k) false).run PP w = .ok (match mget M k with | some v => E.ev v | none => z) w := by
  obtain ⟨es, clock, h1, h2, h3⟩ := h
  have hb : w.heap[mb]? = some (.map ⟨es⟩ clock) := h1
  obtain ⟨i, hi, hz⟩ := T.zero
  rcases kvs_find (k := k) h2 h3 with ⟨h4, h5⟩ | ⟨j, e, v, h4, h5, h6, h7, h8⟩
  · rw [h5]
    simp [Instr.lookup, run_underlying' T.und, MapKept.run_getObj_map hb, MapKept.run_checkKey T.kd (E.key k), MapKept.run_findKey T.kd h4, zeroValue, typeInfo, hi, hz]
  · rw [h8]
    simp [Instr.lookup, run_underlying' T.und, MapKept.run_getObj_map hb, MapKept.run_checkKey T.kd (E.key k), MapKept.run_findKey T.kd h4, h7]

theorem set_keep {w : World} {b : Nat} {o : Obj} (o' : Obj) (h : At w b o) : Keep (fun k => k = b) w { w with heap := w.heap.setIfInBounds b o' } ∧ At { w with heap := w.heap.setIfInBounds b o' } b o' ∧ w.heap.size = (w.heap.setIfInBounds b o').size := by
  have h1 := MapKept.heap_set (o' := o') (show w.heap[b]? = some o from h)
  exact ⟨⟨by simp, fun k _ hk => h1.2 k hk, rfl, rfl, rfl⟩, h1.1, by simp⟩

/-- the pairs behind a change of one entry, one entry less, one more -/
theorem nodup_split {es : List MapEntry} (hs : (es.map (·.key)).Nodup) {j : Nat} {e : MapEntry} (hj : es[j]? = some e) : ∃ a b, es = a ++ e :: b ∧ a.length = j ∧ (∀ x ∈ a, x.key ≠ e.key) ∧ (∀ x ∈ b, x.key ≠ e.key) := by
  have hlt := (List.getElem?_eq_some_iff.1 hj).1
  have he := (List.getElem?_eq_some_iff.1 hj).2
  have h1 : es = es.take j ++ e :: es.drop (j + 1) := by rw [← he, List.getElem_cons_drop, List.take_append_drop]
  refine ⟨es.take j, es.drop (j + 1), h1, by simp; omega, ?_, ?_⟩
  · intro x hx hk
    rw [h1, List.map_append, List.map_cons, List.nodup_append] at hs
    exact hs.2.2 x.key (List.mem_map.2 ⟨x, hx, rfl⟩) e.key List.mem_cons_self hk
  · intro x hx hk
    rw [h1, List.map_append, List.map_cons, List.nodup_append, List.nodup_cons] at hs
    exact hs.2.1.1 (List.mem_map.2 ⟨x, hx, hk⟩)
theorem mdel_perm : ∀ {M : List (κ × ν)} {p : κ × ν}, (mkeys M).Nodup → p ∈ M → M.Perm (p :: mdel M p.1)
  | [], _, _, h => by cases h
  | q :: M, p, hn, h => by
    simp only [mkeys, List.map_cons, List.nodup_cons] at hn
    rcases List.mem_cons.1 h with h | h
    · subst h
      have : mdel (p :: M) p.1 = M := by
        have h1 : mdel (p :: M) p.1 = mdel M p.1 := by simp [mdel]
        rw [h1, mdel_self hn.1]
      rw [this]
    · have hne : q.1 ≠ p.1 := fun e => hn.1 (List.mem_map.2 ⟨_, h, e.symm⟩)
      have h1 : mdel (q :: M) p.1 = q :: mdel M p.1 := by simp [mdel, hne]
      rw [h1]
      exact ((mdel_perm hn.2 h).cons q).trans (List.Perm.swap _ _ _)
theorem kvs_del {a b : List MapEntry} {e : MapEntry} {k : κ} (hs : MapKept.Stamped ⟨a ++ e :: b⟩ clock) (hk : e.key = E.ek k) (hp : (kvs (a ++ e :: b)).Perm (M.map E.enc)) : (kvs (a ++ b)).Perm ((mdel M k).map E.enc) := by
  obtain ⟨p, hpm, h1, h2⟩ := kvs_mem hp (e := e) (by simp)
  have h3 : p.1 = k := E.inj _ _ (h1.symm.trans hk)
  have h4 := (mdel_perm (kvs_nodup hs hp) hpm).map E.enc
  rw [h3] at h4
  have h5 : ((e.key, e.val) :: kvs (a ++ b)).Perm (E.enc p :: (mdel M k).map E.enc) := by
    have e1 : kvs (a ++ e :: b) = kvs a ++ (e.key, e.val) :: kvs b := by simp [kvs]
    have e2 : kvs (a ++ b) = kvs a ++ kvs b := by simp [kvs]
    rw [e2]
    rw [e1] at hp
    exact (List.perm_middle.symm.trans hp).trans h4
  have h6 : E.enc p = (e.key, e.val) := by simp [KV.enc, h1, h2]
  rw [h6] at h5
  exact h5.cons_inv

theorem map_update (T : MapTy E t kt et z) {w : World} {mb : Nat} (h : MapAt E w mb M) (k : κ) (v : ν) {K : Unit → World → Prop}
    (hK : ∀ w', w'.heap.size = w.heap.size → Keep (fun k => k = mb) w w' → MapAt E w' mb (mput M k v) → K () w') : RUN PP (Instr.mapUpdate t (.map (some mb)) (E.ek k) (E.ev v)) w K := by
  obtain ⟨es, clock, h1, h2, h3⟩ := h
  have hb : w.heap[mb]? = some (.map ⟨es⟩ clock) := h1
  have hkey := E.key k
  rcases kvs_find (k := k) h2 h3 with ⟨h4, h5⟩ | ⟨j, e, v0, h4, h5, h6, h7, h8⟩
  · obtain ⟨k1, k2, k3⟩ := set_keep (.map ((⟨es⟩ : Array MapEntry).push { key := E.ek k, val := E.ev v, born := clock }) (clock + 1)) h1
    refine ⟨(), _, ?_, hK _ k3.symm k1 ⟨es ++ [{ key := E.ek k, val := E.ev v, born := clock }], clock + 1, ?_, ?_, ?_⟩⟩
    · simp [Instr.mapUpdate, run_underlying' T.und, MapKept.run_getObj_map hb, MapKept.run_checkKey T.kd hkey, MapKept.run_findKey T.kd h4, MapKept.run_setObj_map _ hb]
    · have : (⟨es ++ [{ key := E.ek k, val := E.ev v, born := clock }]⟩ : Array MapEntry) = (⟨es⟩ : Array MapEntry).push { key := E.ek k, val := E.ev v, born := clock } := by simp
      rw [this]; exact k2
    · have := MapKept.stamped_push h2 (key := E.ek k) (val := E.ev v) (fun x hx hq => by
        obtain ⟨p, hp, h6, _⟩ := kvs_mem h3 hx
        have : p.1 = k := E.inj _ _ (h6.symm.trans hq)
        exact mget_none.1 h5 (List.mem_map.2 ⟨p, hp, this⟩))
      simpa using this
    · rw [mput, mdel_self (mget_none.1 h5)]
      have : kvs (es ++ [{ key := E.ek k, val := E.ev v, born := clock }]) = kvs es ++ [E.enc (k, v)] := by simp [kvs, KV.enc]
      rw [this, List.map_cons]
      exact (List.perm_append_comm).trans (h3.cons _)
  · obtain ⟨a, b, rfl, rfl, ha, hb'⟩ := nodup_split h2.2.2 h5
    have hj : (⟨a ++ e :: b⟩ : Array MapEntry)[a.length]? = some e := by simp
    obtain ⟨k1, k2, k3⟩ := set_keep (.map ((⟨a ++ e :: b⟩ : Array MapEntry).modify a.length fun e => { e with key := E.ek k, val := E.ev v }) clock) h1
    have hmod : (⟨a ++ e :: b⟩ : Array MapEntry).modify a.length (fun e => { e with key := E.ek k, val := E.ev v }) = ⟨a ++ { e with key := E.ek k, val := E.ev v } :: b⟩ := by
      apply Array.ext'
      apply List.ext_getElem?
      intro i
      rw [Array.getElem?_toList, Array.getElem?_modify]
      by_cases hi : a.length = i
      · subst hi; simp
      · rw [if_neg hi]
        by_cases hlt : i < a.length
        · simp [List.getElem?_append_left hlt]
        · simp only [List.getElem?_toArray]
          rw [List.getElem?_append_right (by omega), List.getElem?_append_right (by omega)]
          obtain ⟨d, hd⟩ : ∃ d, i - a.length = d + 1 := ⟨i - a.length - 1, by omega⟩
          rw [hd]; simp
    have hat : ∀ es', (⟨a ++ e :: b⟩ : Array MapEntry).modify a.length (fun e => { e with key := E.ek k, val := E.ev v }) = ⟨es'⟩ → At { w with heap := w.heap.setIfInBounds mb (.map ((⟨a ++ e :: b⟩ : Array MapEntry).modify a.length fun e => { e with key := E.ek k, val := E.ev v }) clock) } mb (.map ⟨es'⟩ clock) := fun es' he => by
      rw [← he]; exact k2
    refine ⟨(), _, ?_, hK _ k3.symm k1 ⟨_, clock, hat _ hmod, ?_, ?_⟩⟩
    · simp [Instr.mapUpdate, run_underlying' T.und, MapKept.run_getObj_map hb, MapKept.run_checkKey T.kd hkey, MapKept.run_findKey T.kd h4, h6, MapKept.run_keyThatStays hkey, MapKept.run_setObj_map _ hb]
    · rw [← hmod]
      refine MapKept.stamped_modify h2 _ _ (fun _ _ => rfl) (fun e' _ he' => ?_)
      rw [hj] at he'
      cases he'
      exact h6.symm
    · have hd := kvs_del h2 h6 h3
      have e1 : kvs (a ++ { e with key := E.ek k, val := E.ev v } :: b) = kvs a ++ E.enc (k, v) :: kvs b := by simp [kvs, KV.enc]
      have e2 : kvs (a ++ b) = kvs a ++ kvs b := by simp [kvs]
      rw [e1, mput, List.map_cons]
      rw [e2] at hd
      exact List.perm_middle.trans (hd.cons _)

theorem map_delete (T : MapTy E t kt et z) {w : World} {mb : Nat} (h : MapAt E w mb M) (k : κ) (u v : TypeId) {K : Value → World → Prop}
    (hK : ∀ w', w'.heap.size = w.heap.size → Keep (fun k => k = mb) w w' → MapAt E w' mb (mdel M k) → K (.tuple #[]) w') : RUN PP (Builtin.delete_ #[t, u] v #[.map (some mb), E.ek k]) w K := by
  obtain ⟨es, clock, h1, h2, h3⟩ := h
  have hb : w.heap[mb]? = some (.map ⟨es⟩ clock) := h1
  have hkey := E.key k
  rcases kvs_find (k := k) h2 h3 with ⟨h4, h5⟩ | ⟨j, e, v0, h4, h5, h6, h7, h8⟩
  · obtain ⟨k1, k2, k3⟩ := set_keep (.map ⟨es⟩ clock) h1
    refine ⟨.tuple #[], _, ?_, hK _ k3.symm k1 ⟨es, clock, k2, h2, ?_⟩⟩
    · simp [Builtin.delete_, run_underlying' T.und, MapKept.run_getObj_map hb, MapKept.run_checkKey T.kd hkey, MapKept.run_findKey T.kd h4, MapKept.run_setObj_map _ hb]
    · rw [mdel_self (mget_none.1 h5)]; exact h3
  · obtain ⟨a, b, rfl, rfl, ha, hb'⟩ := nodup_split h2.2.2 h5
    have her : (⟨a ++ e :: b⟩ : Array MapEntry).eraseIdxIfInBounds a.length = ⟨a ++ b⟩ := by
      unfold Array.eraseIdxIfInBounds
      rw [dif_pos (by simp)]
      apply Array.ext'
      have : ∀ l : List MapEntry, (l ++ e :: b).eraseIdx l.length = l ++ b := by
        intro l
        induction l with
        | nil => rfl
        | cons x l ih => simp [ih]
      simpa using this a
    obtain ⟨k1, k2, k3⟩ := set_keep (.map ((⟨a ++ e :: b⟩ : Array MapEntry).eraseIdxIfInBounds a.length) clock) h1
    have hat : ∀ es', (⟨a ++ e :: b⟩ : Array MapEntry).eraseIdxIfInBounds a.length = ⟨es'⟩ → At { w with heap := w.heap.setIfInBounds mb (.map ((⟨a ++ e :: b⟩ : Array MapEntry).eraseIdxIfInBounds a.length) clock) } mb (.map ⟨es'⟩ clock) := fun es' he => by
      rw [← he]; exact k2
    refine ⟨.tuple #[], _, ?_, hK _ k3.symm k1 ⟨_, clock, hat _ her, ?_, kvs_del h2 h6 h3⟩⟩
    · simp [Builtin.delete_, run_underlying' T.und, MapKept.run_getObj_map hb, MapKept.run_checkKey T.kd hkey, MapKept.run_findKey T.kd h4, MapKept.run_setObj_map _ hb]
    · rw [← her]
      exact MapKept.stamped_erase h2 _

/-! ## going through a map -/
/-- it is an iterator over the map mb of pairs M; vis: the keys that it showed, the last first -/
def MapIt (E : KV κ ν) (w : World) (mb it : Nat) (M : List (κ × ν)) (vis : List κ) : Prop :=
  ∃ es clock seen, At w mb (.map ⟨es⟩ clock) ∧ MapKept.Stamped ⟨es⟩ clock ∧ (kvs es).Perm (M.map E.enc) ∧ At w it (.mapIter (some mb) clock ⟨seen⟩ clock) ∧ seen.length = vis.length ∧
    (∀ e ∈ es, ∀ k, e.key = E.ek k → (e.born ∈ seen ↔ k ∈ vis)) ∧ (∀ k l, vis = k :: l → ∀ e ∈ es, e.key = E.ek k → seen.getLast? = some e.born)
def seenN (w : World) (it : Nat) : Nat := match w.heap[it]? with | some (.mapIter _ _ seen _) => seen.size | _ => 0
theorem MapIt.map {w : World} {mb it : Nat} {vis : List κ} (h : MapIt E w mb it M vis) : MapAt E w mb M := by
  obtain ⟨es, clock, seen, h1, h2, h3, h4⟩ := h
  exact ⟨es, clock, h1, h2, h3⟩
theorem MapIt.seen {w : World} {mb it : Nat} {vis : List κ} (h : MapIt E w mb it M vis) : seenN w it = vis.length := by
  obtain ⟨es, clock, seen, h1, h2, h3, h4, h5, _⟩ := h
  unfold At at h4
  unfold seenN
  rw [h4]
  exact h5
theorem MapIt.keep {w w' : World} {mb it : Nat} {vis : List κ} (h : MapIt E w mb it M vis) (hm : w'.heap[mb]? = w.heap[mb]?) (hi : w'.heap[it]? = w.heap[it]?) : MapIt E w' mb it M vis := by
  obtain ⟨es, clock, seen, h1, h2, h3, h4, h5⟩ := h
  exact ⟨es, clock, seen, hm.trans h1, h2, h3, hi.trans h4, h5⟩
theorem MapIt.lt {w : World} {mb it : Nat} {vis : List κ} (h : MapIt E w mb it M vis) : it < w.heap.size := by
  obtain ⟨es, clock, seen, h1, h2, h3, h4, h5⟩ := h
  exact h4.lt
theorem MapIt.kept {w w' : World} {S : Nat → Prop} {mb it : Nat} {vis : List κ} (h : MapIt E w mb it M vis) (hk : Keep S w w') (hm : ¬ S mb) (hi : ¬ S it) : MapIt E w' mb it M vis :=
  h.keep (hk.keep _ h.map.lt hm) (hk.keep _ h.lt hi)

theorem map_range (T : MapTy E t kt et z) {w : World} {mb : Nat} (h : MapAt E w mb M) {K : Value → World → Prop}
    (hK : ∀ it w', w.heap.size = it → w'.heap.size = it + 1 → Keep No w w' → MapIt E w' mb it M [] → K (.pointer (some ⟨it, 0, none⟩)) w') : RUN PP (Instr.range t (.map (some mb))) w K := by
  obtain ⟨es, clock, h1, h2, h3⟩ := h
  have hb : w.heap[mb]? = some (.map ⟨es⟩ clock) := h1
  refine ⟨.pointer (some ⟨w.heap.size, 0, none⟩), w.alloc (.mapIter (some mb) clock #[] clock), ?_, ?_⟩
  · simp [Instr.range, run_underlying' T.und, MapKept.run_getObj_map hb]
  · refine hK _ _ rfl (by simp only [World.alloc, Array.size_push]) (push_keep _ _) ⟨es, clock, [], (push_keep w _).at_ h1 (fun h => h), h2, h3, push_at w _, rfl, ?_, ?_⟩
    · intro e _ k _; simp
    · intro k l hl; cases hl

theorem map_next (T : MapTy E t kt et z) {w : World} {mb it : Nat} {vis : List κ} (h : MapIt E w mb it M vis) (u : TypeId) {K : Value → World → Prop}
    (hover : (∀ k ∈ mkeys M, k ∈ vis) → K (.tuple #[.bool false]) w)
    (hgo : ∀ w' k v, w'.heap.size = w.heap.size → Keep (fun k => k = it) w w' → (k, v) ∈ M → k ∉ vis → MapIt E w' mb it M (k :: vis) → K (.tuple #[.bool true, E.ek k, E.ev v]) w') :
    RUN PP (Instr.next (.pointer (some ⟨it, 0, none⟩)) false u) w K := by
  obtain ⟨es, clock, seen, h1, h2, h3, h4, h5, h6, h7⟩ := h
  rcases run_next_at (P := PP) w u it mb clock clock ⟨seen⟩ ⟨es⟩ clock h4 h1 (fun x hx => h2.1 x hx) (Nat.le_refl _) with ⟨h8, h9⟩ | ⟨e, he, w1, hw, h9⟩
  · refine ⟨_, w, h9, hover fun k hk => ?_⟩
    obtain ⟨p, hp, rfl⟩ := List.mem_map.1 hk
    obtain ⟨e, he, h10, _⟩ := kvs_mem' h3 hp
    refine (h6 e he p.1 h10).1 ?_
    have h11 : leftOf ⟨es⟩ ⟨seen⟩ = #[] := Array.eq_empty_of_size_eq_zero h8
    unfold leftOf at h11
    rw [Array.filter_eq_empty_iff] at h11
    have := h11 e (by simpa using he)
    simpa using this
  · have he' : e ∈ es ∧ e.born ∉ seen := by simpa [leftOf] using he
    obtain ⟨p, hp, h10, h11⟩ := kvs_mem h3 he'.1
    have hw1 : w1.heap = w.heap ∧ Keep No w w1 := by
      rcases hw with rfl | rfl
      · exact ⟨rfl, Keep.refl _ _⟩
      · exact ⟨rfl, Keep.drew _ _⟩
    have h4' : At w1 it (.mapIter (some mb) clock ⟨seen⟩ clock) := by unfold At; rw [hw1.1]; exact h4
    have h1' : At w1 mb (.map ⟨es⟩ clock) := by unfold At; rw [hw1.1]; exact h1
    obtain ⟨k1, k2, k3⟩ := set_keep (.mapIter (some mb) clock ((⟨seen⟩ : Array Nat).push e.born) clock) h4'
    have hne : mb ≠ it := by
      intro hc
      subst hc
      have := h1.inj h4
      cases this
    have hpush : ((⟨seen⟩ : Array Nat).push e.born) = ⟨seen ++ [e.born]⟩ := by simp
    rw [h10, h11] at h9
    refine ⟨_, _, h9, hgo _ p.1 p.2 (by rw [show (ChangeMaps.setBlock w1 it (.mapIter (some mb) clock ((⟨seen⟩ : Array Nat).push e.born) clock)).heap.size = w1.heap.size from k3.symm, hw1.1]) (hw1.2.no.trans k1) hp (fun hv => he'.2 ((h6 e he'.1 p.1 h10).2 hv)) ?_⟩
    refine ⟨es, clock, seen ++ [e.born], k1.at_ h1' hne, h2, h3, hpush ▸ k2, by simp [h5], ?_, ?_⟩
    · intro x hx k hk
      rw [List.mem_append, List.mem_singleton, List.mem_cons, h6 x hx k hk, or_comm]
      refine or_congr ?_ Iff.rfl
      constructor
      · intro hb
        have hxe : x = e := by
          have hn := h2.2.1
          exact inj_of_nodup_map (fun y : MapEntry => y.born) hn hx he'.1 hb
        rw [hxe, h10] at hk
        exact (E.inj _ _ hk).symm
      · intro hkp
        have hxe : x = e := inj_of_nodup_map (fun y : MapEntry => y.key) h2.2.2 hx he'.1 (by rw [hk, h10, hkp])
        rw [hxe]
    · intro k l hl x hx hk
      simp only [List.cons.injEq] at hl
      have hxe : x = e := inj_of_nodup_map (fun y : MapEntry => y.key) h2.2.2 hx he'.1 (by rw [hk, h10, hl.1])
      rw [hxe]
      simp

theorem map_entry {w : World} {mb it : Nat} {vis : List κ} {k : κ} {v : ν} (h : MapIt E w mb it M (k :: vis)) (hm : (k, v) ∈ M) :
    (Instr.entry (.pointer (some ⟨it, 0, none⟩))).run PP w = .ok (.tuple #[E.ek k, E.ev v]) w := by
  obtain ⟨es, clock, seen, h1, h2, h3, h4, h5, h6, h7⟩ := h
  obtain ⟨e, he, h8, h9⟩ := kvs_mem' h3 hm
  have hl := h7 k vis rfl e he h8
  obtain ⟨s0, rfl⟩ : ∃ s0, seen = s0 ++ [e.born] := by
    obtain ⟨s0, hs⟩ := List.getLast?_eq_some_iff.1 hl
    exact ⟨s0, hs⟩
  have hpush : (⟨s0 ++ [e.born]⟩ : Array Nat) = ((⟨s0⟩ : Array Nat).push e.born) := by simp
  rw [hpush] at h4
  have := run_entry_at (P := PP) w it mb clock ⟨s0⟩ ⟨es⟩ clock e h4 h1 he h2.2.1
  rw [this, h8, h9]

/-- an entry goes as the loop goes on -/
theorem map_delete_it (T : MapTy E t kt et z) {w : World} {mb it : Nat} {vis : List κ} (h : MapIt E w mb it M vis) (k : κ) (u v : TypeId) {K : Value → World → Prop}
    (hK : ∀ w', w'.heap.size = w.heap.size → Keep (fun k => k = mb) w w' → MapIt E w' mb it (mdel M k) vis → K (.tuple #[]) w') : RUN PP (Builtin.delete_ #[t, u] v #[.map (some mb), E.ek k]) w K := by
  obtain ⟨es, clock, seen, h1, h2, h3, h4, h5, h6, h7⟩ := h
  have hb : w.heap[mb]? = some (.map ⟨es⟩ clock) := h1
  have hkey := E.key k
  have hne : it ≠ mb := by
    intro hc
    subst hc
    have := h1.inj h4
    cases this
  rcases kvs_find (k := k) h2 h3 with ⟨h8, h9⟩ | ⟨j, e, v0, h8, h9, h10, h11, h12⟩
  · obtain ⟨k1, k2, k3⟩ := set_keep (.map ⟨es⟩ clock) h1
    refine ⟨.tuple #[], _, ?_, hK _ k3.symm k1 ⟨es, clock, seen, k2, h2, ?_, k1.at_ h4 hne, h5, h6, h7⟩⟩
    · simp [Builtin.delete_, run_underlying' T.und, MapKept.run_getObj_map hb, MapKept.run_checkKey T.kd hkey, MapKept.run_findKey T.kd h8, MapKept.run_setObj_map _ hb]
    · rw [mdel_self (mget_none.1 h9)]; exact h3
  · obtain ⟨a, b, rfl, rfl, ha, hb'⟩ := nodup_split h2.2.2 h9
    have her : (⟨a ++ e :: b⟩ : Array MapEntry).eraseIdxIfInBounds a.length = ⟨a ++ b⟩ := by
      unfold Array.eraseIdxIfInBounds
      rw [dif_pos (by simp)]
      apply Array.ext'
      have : ∀ l : List MapEntry, (l ++ e :: b).eraseIdx l.length = l ++ b := by
        intro l
        induction l with
        | nil => rfl
        | cons x l ih => simp [ih]
      simpa using this a
    obtain ⟨k1, k2, k3⟩ := set_keep (.map ((⟨a ++ e :: b⟩ : Array MapEntry).eraseIdxIfInBounds a.length) clock) h1
    have hat : ∀ es', (⟨a ++ e :: b⟩ : Array MapEntry).eraseIdxIfInBounds a.length = ⟨es'⟩ → At { w with heap := w.heap.setIfInBounds mb (.map ((⟨a ++ e :: b⟩ : Array MapEntry).eraseIdxIfInBounds a.length) clock) } mb (.map ⟨es'⟩ clock) := fun es' he => by
      rw [← he]; exact k2
    have hsub : ∀ x ∈ a ++ b, x ∈ a ++ e :: b := by
      intro x hx
      rcases List.mem_append.1 hx with hx | hx
      · exact List.mem_append_left _ hx
      · exact List.mem_append_right _ (List.mem_cons_of_mem _ hx)
    refine ⟨.tuple #[], _, ?_, hK _ k3.symm k1 ⟨_, clock, seen, hat _ her, ?_, kvs_del h2 h10 h3, k1.at_ h4 hne, h5, fun x hx => h6 x (hsub x hx), fun k l hl x hx => h7 k l hl x (hsub x hx)⟩⟩
    · simp [Builtin.delete_, run_underlying' T.und, MapKept.run_getObj_map hb, MapKept.run_checkKey T.kd hkey, MapKept.run_findKey T.kd h8, MapKept.run_setObj_map _ hb]
    · rw [← her]
      exact MapKept.stamped_erase h2 _

end
end Go.SW
