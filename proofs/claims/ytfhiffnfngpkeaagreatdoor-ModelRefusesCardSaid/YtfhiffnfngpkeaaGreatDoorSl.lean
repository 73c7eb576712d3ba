/- Slices: what they read as, what a call owns; append. -/
import Derived.Test.YtfhiffnfngpkeaaGreatDoorMem
import Derived.ArgAppend
set_option linter.unusedVariables false
namespace Go.SW
open Go Go.Proofs

/-- how data lie in cells; F: the blocks that lie behind -/
structure Ly (α : Type) where
  sz : Nat
  rel : World → (Nat → Prop) → α → List Value → Prop
  len : ∀ {w F x cs}, rel w F x cs → cs.length = sz
  flat : ∀ {w F x cs}, rel w F x cs → ∀ v ∈ cs, flat v = true
  keep : ∀ {w w' : World} {F x cs}, rel w F x cs → (∀ k, F k → k < w.heap.size → w'.heap[k]? = w.heap[k]?) → rel w' F x cs
  mono : ∀ {w F G x cs}, rel w F x cs → (∀ k, F k → G k) → rel w G x cs

/-- data in the cells themselves -/
def Ly.of {α : Type} (sz : Nat) (enc : α → List Value) (hl : ∀ x, (enc x).length = sz) (hf : ∀ x, (enc x).all Go.SW.flat = true) : Ly α where
  sz := sz
  rel := fun _ _ x cs => cs = enc x
  len := by rintro w F x cs rfl; exact hl x
  flat := by rintro w F x cs rfl v hv; exact List.all_eq_true.1 (hf x) v hv
  keep := fun h _ => h
  mono := fun h _ => h
def Ly.int : Ly Int := .of 1 (fun n => [.int .i64 n]) (fun _ => rfl) (fun _ => rfl)
def Ly.u8 : Ly Int := .of 1 (fun n => [.int .u8 n]) (fun _ => rfl) (fun _ => rfl)
def Ly.str : Ly ByteArray := .of 1 (fun s => [.string s]) (fun _ => rfl) (fun _ => rfl)

/-- a row of cells that reads as xs -/
def Row {α : Type} (L : Ly α) (w : World) (F : Nat → Prop) (l : List Value) (off : Nat) (xs : List α) : Prop :=
  ∀ j x, xs[j]? = some x → ∃ cs, (l.drop (off + j * L.sz)).take L.sz = cs ∧ L.rel w F x cs
theorem Row.keep {α : Type} {L : Ly α} {w w' : World} {F : Nat → Prop} {l : List Value} {off : Nat} {xs : List α} (h : Row L w F l off xs) (hk : ∀ k, F k → k < w.heap.size → w'.heap[k]? = w.heap[k]?) : Row L w' F l off xs := by
  intro j x hx
  obtain ⟨cs, h1, h2⟩ := h j x hx
  exact ⟨cs, h1, L.keep h2 hk⟩
theorem Row.mono {α : Type} {L : Ly α} {w : World} {F G : Nat → Prop} {l : List Value} {off : Nat} {xs : List α} (h : Row L w F l off xs) (hk : ∀ k, F k → G k) : Row L w G l off xs := by
  intro j x hx
  obtain ⟨cs, h1, h2⟩ := h j x hx
  exact ⟨cs, h1, L.mono h2 hk⟩
theorem Row.nil {α : Type} (L : Ly α) (w : World) (F : Nat → Prop) (l : List Value) (off : Nat) : Row L w F l off [] := by
  intro j x hx
  simp at hx
theorem Row.length {α : Type} {L : Ly α} {w : World} {F : Nat → Prop} {l : List Value} {off : Nat} {xs : List α} (h : Row L w F l off xs) {j : Nat} (hj : j < xs.length) : off + (j + 1) * L.sz ≤ l.length ∨ L.sz = 0 := by
  obtain ⟨cs, h1, h2⟩ := h j _ (List.getElem?_eq_getElem hj)
  have h3 := L.len h2
  rw [← h1] at h3
  simp at h3
  rw [Nat.add_mul]
  omega

/-- a slice that reads as xs; its array and what lies behind in F -/
structure Sl {α : Type} (L : Ly α) (w : World) (F : Nat → Prop) (A : Option Addr) (n c : Nat) (xs : List α) : Prop where
  len : xs.length = n
  cap : n ≤ c
  row : n = 0 ∨ ∃ b off l t fr, A = some ⟨b, off, none⟩ ∧ F b ∧ At w b (.cells ⟨l⟩ t fr) ∧ off + n * L.sz ≤ l.length ∧ Row L w F l off xs
theorem Sl.keep {α : Type} {L : Ly α} {w w' : World} {F : Nat → Prop} {A : Option Addr} {n c : Nat} {xs : List α} (h : Sl L w F A n c xs) (hk : ∀ k, F k → k < w.heap.size → w'.heap[k]? = w.heap[k]?) : Sl L w' F A n c xs := by
  refine ⟨h.len, h.cap, ?_⟩
  rcases h.row with h0 | ⟨b, off, l, t, fr, h1, h2, h3, h4, h5⟩
  · exact .inl h0
  · exact .inr ⟨b, off, l, t, fr, h1, h2, (hk b h2 h3.lt).trans h3, h4, h5.keep hk⟩
theorem Sl.mono {α : Type} {L : Ly α} {w : World} {F G : Nat → Prop} {A : Option Addr} {n c : Nat} {xs : List α} (h : Sl L w F A n c xs) (hk : ∀ k, F k → G k) : Sl L w G A n c xs := by
  refine ⟨h.len, h.cap, ?_⟩
  rcases h.row with h0 | ⟨b, off, l, t, fr, h1, h2, h3, h4, h5⟩
  · exact .inl h0
  · exact .inr ⟨b, off, l, t, fr, h1, hk _ h2, h3, h4, h5.mono hk⟩
theorem Sl.kept {α : Type} {L : Ly α} {w w' : World} {F S : Nat → Prop} {A : Option Addr} {n c : Nat} {xs : List α} (h : Sl L w F A n c xs) (hk : Keep S w w') (hd : ∀ k, F k → k < w.heap.size → ¬ S k) : Sl L w' F A n c xs :=
  h.keep fun k hF hlt => hk.keep k hlt (hd k hF hlt)
theorem Sl.nil {α : Type} (L : Ly α) (w : World) (F : Nat → Prop) (A : Option Addr) (c : Nat) : Sl L w F A 0 c [] := ⟨rfl, Nat.zero_le _, .inl rfl⟩
/-- element i -/
theorem Sl.get {α : Type} {L : Ly α} {w : World} {F : Nat → Prop} {A : Option Addr} {n c : Nat} {xs : List α} (h : Sl L w F A n c xs) {i : Nat} (hi : i < n) :
    ∃ a cs x, A = some a ∧ xs[i]? = some x ∧ L.rel w F x cs ∧ RD w (a.add (i * L.sz)) 0 cs := by
  rcases h.row with h0 | ⟨b, off, l, t, fr, h1, h2, h3, h4, h5⟩
  · omega
  · have hix : i < xs.length := by rw [h.len]; exact hi
    obtain ⟨cs, h6, h7⟩ := h5 i _ (List.getElem?_eq_getElem hix)
    refine ⟨_, cs, _, h1, List.getElem?_eq_getElem hix, h7, ?_⟩
    rw [add_off]
    refine RD.pre (r := (l.drop (off + i * L.sz)).drop L.sz) h3 ?_
    rw [← h6, List.take_append_drop]

/-- a slice that the call owns: it begins its block, of type e; the block is none of F -/
structure Own {α : Type} (L : Ly α) (e : TypeId) (w : World) (F : Nat → Prop) (A : Option Addr) (n c : Nat) (xs : List α) : Prop where
  len : xs.length = n
  cap : n ≤ c
  row : (A = none ∧ c = 0) ∨ ∃ g l, A = some ⟨g, 0, none⟩ ∧ ¬ F g ∧ At w g (.cells ⟨l⟩ e (0, 0)) ∧ l.length = c * L.sz ∧ Row L w F l 0 xs
def ownBlk (A : Option Addr) (k : Nat) : Prop := match A with | some a => k = a.block | none => False
theorem Own.nil {α : Type} (L : Ly α) (e : TypeId) (w : World) (F : Nat → Prop) : Own L e w F none 0 0 [] := ⟨rfl, Nat.le_refl _, .inl ⟨rfl, rfl⟩⟩
theorem Own.keep {α : Type} {L : Ly α} {e : TypeId} {w w' : World} {F : Nat → Prop} {A : Option Addr} {n c : Nat} {xs : List α} (h : Own L e w F A n c xs) (hk : ∀ k, F k ∨ ownBlk A k → k < w.heap.size → w'.heap[k]? = w.heap[k]?) : Own L e w' F A n c xs := by
  refine ⟨h.len, h.cap, ?_⟩
  rcases h.row with h0 | ⟨g, l, rfl, h2, h3, h4, h5⟩
  · exact .inl h0
  · exact .inr ⟨g, l, rfl, h2, (hk g (.inr rfl) h3.lt).trans h3, h4, h5.keep fun k hF => hk k (.inl hF)⟩
theorem Own.kept {α : Type} {L : Ly α} {e : TypeId} {w w' : World} {F S : Nat → Prop} {A : Option Addr} {n c : Nat} {xs : List α} (h : Own L e w F A n c xs) (hk : Keep S w w') (hd : ∀ k, F k ∨ ownBlk A k → k < w.heap.size → ¬ S k) : Own L e w' F A n c xs :=
  h.keep fun k hF hlt => hk.keep k hlt (hd k hF hlt)
theorem Own.lt {α : Type} {L : Ly α} {e : TypeId} {w : World} {F : Nat → Prop} {A : Option Addr} {n c : Nat} {xs : List α} (h : Own L e w F A n c xs) : ∀ k, ownBlk A k → k < w.heap.size := by
  intro k hk
  rcases h.row with ⟨rfl, _⟩ | ⟨g, l, rfl, h2, h3, h4, h5⟩
  · exact False.elim hk
  · rw [show k = g from hk]; exact h3.lt
theorem Own.sl {α : Type} {L : Ly α} {e : TypeId} {w : World} {F : Nat → Prop} {A : Option Addr} {n c : Nat} {xs : List α} (h : Own L e w F A n c xs) : Sl L w (fun k => F k ∨ ownBlk A k) A n c xs := by
  refine ⟨h.len, h.cap, ?_⟩
  rcases h.row with ⟨rfl, rfl⟩ | ⟨g, l, rfl, h2, h3, h4, h5⟩
  · have := h.cap
    exact .inl (by omega)
  · exact .inr ⟨g, 0, l, e, (0, 0), rfl, .inr rfl, h3, by rw [h4, Nat.zero_add]; exact Nat.mul_le_mul_right _ h.cap, h5.mono fun k hk => .inl hk⟩
theorem Own.mono {α : Type} {L : Ly α} {e : TypeId} {w : World} {F G : Nat → Prop} {A : Option Addr} {n c : Nat} {xs : List α} (h : Own L e w F A n c xs) (hk : ∀ k, F k → G k) (hn : ∀ k, ownBlk A k → ¬ G k) : Own L e w G A n c xs := by
  refine ⟨h.len, h.cap, ?_⟩
  rcases h.row with h0 | ⟨g, l, rfl, h2, h3, h4, h5⟩
  · exact .inl h0
  · exact .inr ⟨g, l, rfl, hn g rfl, h3, h4, h5.mono hk⟩
/-- a literal of k elements, laid just now -/
theorem Own.new {α : Type} {L : Ly α} {e : TypeId} {w : World} {F : Nat → Prop} {k : Nat} {l : List Value} {xs : List α} {n : Nat} (h : At w k (.cells ⟨l⟩ e (0, 0))) (hF : ¬ F k) (hn : xs.length = n) (hl : l.length = n * L.sz) (hr : Row L w F l 0 xs) :
    Own L e w F (some ⟨k, 0, none⟩) n n xs := ⟨hn, Nat.le_refl _, .inr ⟨k, l, rfl, hF, h, hl, hr⟩⟩

/-! ## append -/
theorem growBy_le : ∀ (r need c : Nat), c ≤ 2 * need + 192 → Builtin.growBy need r c ≤ 2 * need + 192
  | 0, need, c, h => h
  | r + 1, need, c, h => by
    unfold Builtin.growBy
    split
    · exact h
    · exact growBy_le r need _ (by omega)
theorem nextcap_le {need old : Nat} (h : old < need) : Builtin.nextslicecap need old ≤ 2 * need + 192 := by
  unfold Builtin.nextslicecap
  split
  · omega
  · split
    · omega
    · exact growBy_le _ _ _ (by omega)

theorem loadCells_run {P : Program} {w : World} {a : Addr} {l : List Value} (h : RD w a 0 l) : (loadCells a l.length).run P w = .ok l.toArray w := by
  have := RD_run P w a l 0 #[] h
  simpa [loadCells] using this
theorem zeroCells_length (z : Array Value) (n : Nat) : (Builtin.zeroCells z n).toList.length = n * z.size := by simp [Builtin.zeroCells]

theorem storeCells_run {P : Program} {b : Nat} {t : TypeId} : ∀ (vs : List Value) (off i : Nat) (w : World) (l : List Value), At w b (.cells ⟨l⟩ t (0, 0)) → off + i + vs.length ≤ l.length → (∀ v ∈ vs, flat v = true) →
    ∃ u w', (storeCells ⟨b, off, none⟩ vs i).run P w = .ok u w' ∧ w'.heap.size = w.heap.size ∧ Keep (fun k => k = b) w w' ∧ At w' b (.cells ⟨putL l (off + i) vs⟩ t (0, 0)) := by
  intro vs off i w l h hl hf
  have := ST_run P ⟨b, off, none⟩ vs i w (fun w' => w'.heap.size = w.heap.size ∧ Keep (fun k => k = b) w w' ∧ At w' b (.cells ⟨putL l (off + i) vs⟩ t (0, 0))) (ST_at vs i w l _ h hl hf fun w' h1 h2 h3 => ⟨h1, h2, h3⟩)
  exact this

theorem Row.cells {α : Type} {L : Ly α} {w : World} {F : Nat → Prop} {l : List Value} {off : Nat} {xs : List α} (h : Row L w F l off xs) : ∀ v ∈ (l.drop off).take (xs.length * L.sz), flat v = true := by
  intro v hv
  obtain ⟨i, hi⟩ := List.mem_iff_getElem?.1 hv
  rw [List.getElem?_take] at hi
  split at hi
  · rename_i hlt
    rw [List.getElem?_drop] at hi
    have hpos : 0 < L.sz := by
      rcases Nat.eq_zero_or_pos L.sz with h0 | h0
      · rw [h0] at hlt; simp at hlt
      · exact h0
    have hj : i / L.sz < xs.length := (Nat.div_lt_iff_lt_mul hpos).2 hlt
    obtain ⟨cs, h1, h2⟩ := h (i / L.sz) _ (List.getElem?_eq_getElem hj)
    refine L.flat h2 v ?_
    rw [← h1]
    refine List.mem_iff_getElem?.2 ⟨i % L.sz, ?_⟩
    rw [List.getElem?_take, if_pos (Nat.mod_lt _ hpos), List.getElem?_drop]
    have : off + i / L.sz * L.sz + i % L.sz = off + i := by
      have := Nat.div_add_mod i L.sz
      rw [Nat.mul_comm] at this
      omega
    rw [this]
    exact hi
  · cases hi

theorem putL_get : ∀ (vs l : List Value) (off i : Nat), off + vs.length ≤ l.length → (putL l off vs)[i]? = if off ≤ i ∧ i < off + vs.length then vs[i - off]? else l[i]?
  | [], l, off, i, h => by
    simp only [putL, List.length_nil, Nat.add_zero]
    rw [if_neg (by omega)]
  | v :: vs, l, off, i, h => by
    simp only [List.length_cons] at h
    simp only [putL]
    rw [putL_get vs (l.set off v) (off + 1) i (by simp; omega)]
    by_cases h1 : off + 1 ≤ i ∧ i < off + 1 + vs.length
    · rw [if_pos h1, if_pos (by simp; omega)]
      have : i - off = (i - (off + 1)) + 1 := by omega
      rw [this, List.getElem?_cons_succ]
    · rw [if_neg h1]
      by_cases h2 : i = off
      · subst h2
        rw [if_pos (by simp)]
        have hlt : i < l.length := by omega
        simp [hlt]
      · rw [if_neg (by simp; omega), List.getElem?_set_ne (Ne.symm h2)]

theorem take_drop_get (l : List Value) (a b i : Nat) : ((l.drop a).take b)[i]? = if i < b then l[a + i]? else none := by
  rw [List.getElem?_take, List.getElem?_drop]

/-- one row behind the other -/
theorem Row.app {α : Type} {L : Ly α} {w : World} {F : Nat → Prop} {l l1 l2 : List Value} {off1 off2 : Nat} {xs ys : List α} (hx : Row L w F l1 off1 xs) (hy : Row L w F l2 off2 ys)
    (h1 : ∀ i, i < xs.length * L.sz → l[i]? = l1[off1 + i]?) (h2 : ∀ i, i < ys.length * L.sz → l[xs.length * L.sz + i]? = l2[off2 + i]?) : Row L w F l 0 (xs ++ ys) := by
  intro j x hj
  have ext : ∀ (l' : List Value) (o : Nat) (cs : List Value), (l'.drop o).take L.sz = cs → (∀ i, i < L.sz → l[0 + j * L.sz + i]? = l'[o + i]?) → (l.drop (0 + j * L.sz)).take L.sz = cs := by
    intro l' o cs h h3
    rw [← h]
    apply List.ext_getElem?
    intro i
    rw [take_drop_get, take_drop_get]
    by_cases hi : i < L.sz
    · rw [if_pos hi, if_pos hi, h3 i hi]
    · rw [if_neg hi, if_neg hi]
  by_cases hlt : j < xs.length
  · rw [List.getElem?_append_left hlt] at hj
    obtain ⟨cs, h3, h4⟩ := hx j x hj
    refine ⟨cs, ext l1 _ cs h3 fun i hi => ?_, h4⟩
    have hb : j * L.sz + i < xs.length * L.sz := by
      have : (j + 1) * L.sz ≤ xs.length * L.sz := Nat.mul_le_mul_right _ hlt
      rw [Nat.add_mul] at this
      omega
    rw [Nat.zero_add, h1 _ hb, Nat.add_assoc]
  · rw [List.getElem?_append_right (by omega)] at hj
    obtain ⟨cs, h3, h4⟩ := hy _ x hj
    have hjy : j - xs.length < ys.length := (List.getElem?_eq_some_iff.1 hj).1
    refine ⟨cs, ext l2 _ cs h3 fun i hi => ?_, h4⟩
    have hb : (j - xs.length) * L.sz + i < ys.length * L.sz := by
      have : (j - xs.length + 1) * L.sz ≤ ys.length * L.sz := Nat.mul_le_mul_right _ hjy
      rw [Nat.add_mul] at this
      omega
    have he : 0 + j * L.sz + i = xs.length * L.sz + ((j - xs.length) * L.sz + i) := by
      have : j * L.sz = xs.length * L.sz + (j - xs.length) * L.sz := by rw [← Nat.add_mul]; congr 1; omega
      omega
    rw [he, h2 _ hb, Nat.add_assoc]

structure ElemTy {α : Type} (L : Ly α) (t e : TypeId) (bytes : Nat) : Prop where
  und : PP.underlying t = some (.slice e)
  info : ∃ i z, PP.info? e = some i ∧ i.size = L.sz ∧ i.bytes = bytes ∧ i.zero = some z ∧ z.cells.size = L.sz
  pos : 0 < bytes
  spos : 0 < L.sz

/-- append: what is appended may be a slice or a text -/
theorem append_core {α : Type} {L : Ly α} {t u e : TypeId} {bytes : Nat} (T : ElemTy L t e bytes) {w : World} {F : Nat → Prop} {A B : Option Addr} {n c m c' : Nat} {xs ys : List α} {x : Value} {K : Value → World → Prop}
    (hO : Own L e w F A n c xs) (hX : (x = .slice B m c' ∧ u = t) ∨ ∃ s, x = .string s ∧ s.size = m ∧ PP.underlying u = some .string)
    (hnew : ∃ l2 off2 new, (∀ w0 : World, w0.heap = w.heap → (Builtin.firstCells L.sz m x).run PP w0 = .ok new.toArray w0) ∧ new = (l2.drop off2).take (m * L.sz) ∧ new.length = m * L.sz ∧ Row L w F l2 off2 ys) (hm : ys.length = m)
    (hsmall : (n + m) * bytes ≤ 1099511627776)
    (hk : ∀ A' c' w', Keep (ownBlk A) w w' → (∀ k, ownBlk A' k → ownBlk A k ∨ w.heap.size ≤ k) → w'.heap.size ≤ w.heap.size + 1 → Own L e w' F A' (n + m) c' (xs ++ ys) → K (.slice A' (n + m) c') w')
    (hF : ∀ k, F k → k < w.heap.size) :
    RUN PP (Builtin.append_ #[t, u] t #[.slice A n c, x]) w K := by
  obtain ⟨i, z, hi, hsz, hby, hz, hzs⟩ := T.info
  have hlen := hO.len
  obtain ⟨l2, off2, new, hfc, hnw, hnl, hrow2⟩ := hnew
  have hnewget : ∀ i, i < ys.length * L.sz → new[i]? = l2[off2 + i]? := by
    intro i hi
    rw [hnw, take_drop_get, if_pos (by rw [hm] at hi; exact hi)]
  have hnewflat : ∀ v ∈ new, flat v = true := by
    intro v hv
    rw [hnw, ← hm] at hv
    exact hrow2.cells v hv
  by_cases hfit : n + m ≤ c
  · -- within the capacity
    rcases hO.row with ⟨rfl, rfl⟩ | ⟨g, l, rfl, hFg, hat, hll, hrow⟩
    · have hn0 : n = 0 := by omega
      have hm0 : m = 0 := by omega
      subst hn0 hm0
      have hy : ys = [] := List.eq_nil_of_length_eq_zero hm
      subst hy
      refine ⟨.slice none 0 0, w, ?_, ?_⟩
      · rcases hX with ⟨rfl, rfl⟩ | ⟨s, rfl, hs, hu⟩
        · simp only [Builtin.append_]
          simp [run_underlying' T.und, run_sizeOf' hi, Builtin.lenOf, hsz, hfc w rfl]
        · simp only [Builtin.append_]
          simp [run_underlying' T.und, run_underlying' hu, run_sizeOf' hi, Builtin.lenOf, hsz, hs, hfc w rfl]
      · exact hk none 0 w (Keep.refl _ _) (fun k h => False.elim h) (by omega) ⟨by simpa using hlen, Nat.le_refl _, .inl ⟨rfl, rfl⟩⟩
    · obtain ⟨u, w', hr, hws, hkp, hat'⟩ := storeCells_run (P := PP) new (n * L.sz) 0 w l hat (by rw [hll, hnl, Nat.add_zero, ← Nat.add_mul]; exact Nat.mul_le_mul_right _ hfit) hnewflat
      refine ⟨.slice (some ⟨g, 0, none⟩) (n + m) c, w', ?_, ?_⟩
      · rcases hX with ⟨rfl, rfl⟩ | ⟨s, rfl, hs, hu⟩
        · simp only [Builtin.append_]
          simp [run_underlying' T.und, run_sizeOf' hi, Builtin.lenOf, hsz, hfc w rfl, hfit]
          rw [add_off, Nat.zero_add, hr]
          rfl
        · simp only [Builtin.append_]
          simp [run_underlying' T.und, run_underlying' hu, run_sizeOf' hi, Builtin.lenOf, hsz, hs, hfc w rfl, hfit]
          rw [add_off, Nat.zero_add, hr]
          rfl
      · refine hk _ _ w' hkp (fun k h => .inl h) (by omega) ⟨by simp [hlen, hm], hfit, .inr ⟨g, _, rfl, hFg, hat', by rw [putL_length, hll], ?_⟩⟩
        have hpl : n * L.sz + 0 + new.length ≤ l.length := by rw [hll, hnl, Nat.add_zero, ← Nat.add_mul]; exact Nat.mul_le_mul_right _ hfit
        refine Row.app (l1 := l) (off1 := 0) (l2 := l2) (off2 := off2) (hrow.keep fun k hF hlt => hkp.keep k hlt (fun hkg => hFg (hkg ▸ hF))) (hrow2.keep fun k hF hlt => hkp.keep k hlt (fun hkg => hFg (hkg ▸ hF))) ?_ ?_
        · intro i hi'
          rw [putL_get _ _ _ _ hpl, if_neg (by rw [hlen] at hi'; omega), Nat.zero_add]
        · intro i hi'
          rw [putL_get _ _ _ _ hpl, if_pos (by rw [hlen, hnl]; rw [hm] at hi'; omega)]
          rw [hlen, show n * L.sz + i - (n * L.sz + 0) = i by omega]
          exact hnewget i hi'
  · -- a new row
    have hcap : Builtin.nextslicecap (n + m) c * bytes ≤ 281474976710656 := by
      have h1 := nextcap_le (need := n + m) (old := c) (by omega)
      have h2 : Builtin.nextslicecap (n + m) c * bytes ≤ (2 * (n + m) + 192) * bytes := Nat.mul_le_mul_right _ h1
      have h3 : (2 * (n + m) + 192) * bytes = 2 * ((n + m) * bytes) + 192 * bytes := by rw [Nat.add_mul, Nat.mul_assoc]
      have h4 : bytes ≤ (n + m) * bytes := Nat.le_mul_of_pos_left _ (by omega)
      omega
    -- what is there
    have hold : ∃ l1 old : List Value, (∀ w0 : World, w0.heap = w.heap → (Builtin.firstCells L.sz n (.slice A n c)).run PP w0 = .ok old.toArray w0) ∧ old.length = n * L.sz ∧ (∀ i, i < n * L.sz → old[i]? = l1[i]?) ∧ Row L w F l1 0 xs := by
      rcases hO.row with ⟨rfl, rfl⟩ | ⟨g, l, rfl, hFg, hat, hll, hrow⟩
      · have hn0 : n = 0 := by have := hO.cap; omega
        subst hn0
        have hx : xs = [] := List.eq_nil_of_length_eq_zero hlen
        subst hx
        exact ⟨[], [], fun w0 _ => rfl, by simp, by simp, Row.nil _ _ _ _ _⟩
      · have hle : n * L.sz ≤ l.length := by rw [hll]; exact Nat.mul_le_mul_right _ hO.cap
        refine ⟨l, l.take (n * L.sz), fun w0 hw0 => ?_, by simp; omega, fun i hi => by rw [List.getElem?_take, if_pos hi], hrow⟩
        have h3' : At w0 g (.cells ⟨l⟩ e (0, 0)) := by unfold At; rw [hw0]; exact hat
        have hrd : RD w0 ⟨g, 0, none⟩ 0 (l.take (n * L.sz)) := RD.pre (r := l.drop (n * L.sz)) h3' (by rw [List.drop_zero]; exact (List.take_append_drop _ _).symm)
        have := loadCells_run (P := PP) hrd
        rw [show (l.take (n * L.sz)).length = n * L.sz by simp; omega] at this
        simpa [Builtin.firstCells] using this
    obtain ⟨l1, old, hfo, hol, hog, hrow1⟩ := hold
    have h48' : ¬ (281474976710656 < Builtin.nextslicecap (n + m) c * bytes) := by omega
    have h63' : ¬ (9223372036854775807 < ((n : Int) + (m : Int))) := by
      have h4 : n + m ≤ (n + m) * bytes := Nat.le_mul_of_pos_right _ T.pos
      omega
    have hge := grownCap_ge w (n + m) c e
    have hdr : w.drew.heap = w.heap := rfl
    have hq : ∀ Z : Array Value, old.toArray ++ (new.toArray ++ Z) = (old ++ new).toArray ++ Z := by
      intro Z; apply Array.ext'; simp
    refine ⟨.slice (some ⟨w.heap.size, 0, none⟩) (n + m) (grownCap w (n + m) c e), w.drew.alloc (.cells (old.toArray ++ new.toArray ++ Builtin.zeroCells z.cells (grownCap w (n + m) c e - (n + m))) e), ?_, ?_⟩
    · rcases hX with ⟨rfl, rfl⟩ | ⟨s, rfl, hs, hu⟩
      · simp only [Builtin.append_]
        simp [run_underlying' T.und, run_sizeOf' hi, typeInfo, zeroValue, hi, hz, hby, Builtin.lenOf, hsz, hfit, h63', h48', Question.forced, hfc w.drew hdr, hfo w.drew hdr, newRow, grownCap]
        exact congrArg (fun x => w.drew.alloc (.cells x e)) (hq _)
      · simp only [Builtin.append_]
        simp [run_underlying' T.und, run_underlying' hu, run_sizeOf' hi, typeInfo, zeroValue, hi, hz, hby, Builtin.lenOf, hsz, hs, hfit, h63', h48', Question.forced, hfc w.drew hdr, hfo w.drew hdr, newRow, grownCap]
        exact congrArg (fun x => w.drew.alloc (.cells x e)) (hq _)
    · have hsize : w.drew.heap.size = w.heap.size := rfl
      have hlist : (old.toArray ++ new.toArray ++ Builtin.zeroCells z.cells (grownCap w (n + m) c e - (n + m))) = (⟨old ++ new ++ (Builtin.zeroCells z.cells (grownCap w (n + m) c e - (n + m))).toList⟩ : Array Value) := by
        apply Array.ext'; simp
      rw [hlist]
      have hkp : Keep No w.drew (w.drew.alloc (.cells ⟨old ++ new ++ (Builtin.zeroCells z.cells (grownCap w (n + m) c e - (n + m))).toList⟩ e)) := push_keep _ _
      have hkp' : Keep No w (w.drew.alloc (.cells ⟨old ++ new ++ (Builtin.zeroCells z.cells (grownCap w (n + m) c e - (n + m))).toList⟩ e)) := (Keep.drew No w).trans hkp
      refine hk _ _ _ hkp'.no (fun k hk => .inr (by rw [show k = w.heap.size from hk]; exact Nat.le_refl _)) (by simp only [World.alloc, Array.size_push]; exact Nat.le_refl _) ⟨by simp [hlen, hm], hge, .inr ⟨w.heap.size, _, rfl, fun hc => Nat.lt_irrefl _ (hF _ hc), push_at w.drew _, ?_, ?_⟩⟩
      · rw [List.length_append, List.length_append, zeroCells_length, hzs, hol, hnl, ← Nat.add_mul, ← Nat.add_mul]
        have he : n + m + (grownCap w (n + m) c e - (n + m)) = grownCap w (n + m) c e := by omega
        rw [he]
      · have hpl : ∀ i, i < n * L.sz → (old ++ new ++ (Builtin.zeroCells z.cells (grownCap w (n + m) c e - (n + m))).toList)[i]? = l1[0 + i]? := by
          intro i hi
          rw [List.append_assoc, List.getElem?_append_left (by omega), Nat.zero_add, hog i hi]
        refine Row.app (l1 := l1) (off1 := 0) (l2 := l2) (off2 := off2) (hrow1.keep fun k _ hlt => hkp'.keep k hlt (fun h => h)) (hrow2.keep fun k _ hlt => hkp'.keep k hlt (fun h => h)) ?_ ?_
        · intro i hi'
          rw [hlen] at hi'
          exact hpl i hi'
        · intro i hi'
          have hi2 := hi'
          rw [hm, ← hnl] at hi2
          rw [hlen, List.append_assoc, List.getElem?_append_right (by omega), hol, show n * L.sz + i - n * L.sz = i by omega, List.getElem?_append_left hi2]
          exact hnewget i hi'

/-- append(s, x...): s is owned, x is read (of what lies behind: in F too) -/
theorem append_own {α : Type} {L : Ly α} {t e : TypeId} {bytes : Nat} (T : ElemTy L t e bytes) {w : World} {F : Nat → Prop} {A B : Option Addr} {n c m c' : Nat} {xs ys : List α} {K : Value → World → Prop}
    (hO : Own L e w F A n c xs) (hS : m = 0 ∧ ys = [] ∨ ∃ b off l t' fr, B = some ⟨b, off, none⟩ ∧ At w b (.cells ⟨l⟩ t' fr) ∧ off + m * L.sz ≤ l.length ∧ Row L w F l off ys) (hm : ys.length = m)
    (hsmall : (n + m) * bytes ≤ 1099511627776)
    (hk : ∀ A' c' w', Keep (ownBlk A) w w' → (∀ k, ownBlk A' k → ownBlk A k ∨ w.heap.size ≤ k) → w'.heap.size ≤ w.heap.size + 1 → Own L e w' F A' (n + m) c' (xs ++ ys) → K (.slice A' (n + m) c') w')
    (hF : ∀ k, F k → k < w.heap.size) :
    RUN PP (Builtin.append_ #[t, t] t #[.slice A n c, .slice B m c']) w K := by
  have hnew : ∃ l2 off2 new, (∀ w0 : World, w0.heap = w.heap → (Builtin.firstCells L.sz m (.slice B m c')).run PP w0 = .ok new.toArray w0) ∧ new = (l2.drop off2).take (m * L.sz) ∧ new.length = m * L.sz ∧ Row L w F l2 off2 ys := by
    rcases hS with ⟨rfl, rfl⟩ | ⟨b, off, l, t', fr, rfl, h3, h4, h5⟩
    · refine ⟨[], 0, [], ?_, by simp, by simp, Row.nil _ _ _ _ _⟩
      intro w0 _
      cases B with
      | none => rfl
      | some a => simp [Builtin.firstCells, loadCells, loadCellsFrom]
    · have hl : ((l.drop off).take (m * L.sz)).length = m * L.sz := by simp; omega
      refine ⟨l, off, _, fun w0 hw0 => ?_, rfl, hl, h5⟩
      have h3' : At w0 b (.cells ⟨l⟩ t' fr) := by unfold At; rw [hw0]; exact h3
      have hrd : RD w0 ⟨b, off, none⟩ 0 ((l.drop off).take (m * L.sz)) := RD.pre (r := (l.drop off).drop (m * L.sz)) h3' (List.take_append_drop _ _).symm
      have := loadCells_run (P := PP) hrd
      rw [hl] at this
      simpa [Builtin.firstCells] using this
  exact append_core T hO (.inl ⟨rfl, rfl⟩) hnew hm hsmall hk hF


/-! ## stores into a slice -/
theorem putL_take {l vs : List Value} {off : Nat} (h : off + vs.length ≤ l.length) : ((putL l off vs).drop off).take vs.length = vs := by
  apply List.ext_getElem?
  intro i
  rw [take_drop_get]
  by_cases hi : i < vs.length
  · rw [if_pos hi, putL_get _ _ _ _ h, if_pos (by omega), show off + i - off = i by omega]
  · rw [if_neg hi, List.getElem?_eq_none (by omega)]
/-- a row in which one element is another one -/
theorem Row.put {α : Type} {L : Ly α} {w w' : World} {F : Nat → Prop} {l l' cs : List Value} {off i : Nat} {xs : List α} {x : α} (h : Row L w F l off xs) (hk : ∀ k, F k → k < w.heap.size → w'.heap[k]? = w.heap[k]?)
    (hl : ∀ j, ¬ (off + i * L.sz ≤ j ∧ j < off + (i + 1) * L.sz) → l'[j]? = l[j]?) (hc : (l'.drop (off + i * L.sz)).take L.sz = cs) (hr : L.rel w' F x cs) : Row L w' F l' off (xs.set i x) := by
  intro j y hj
  by_cases hij : i = j
  · subst hij
    rw [List.getElem?_set_self (by have := (List.getElem?_eq_some_iff.1 hj).1; simpa using this)] at hj
    cases hj
    exact ⟨cs, hc, hr⟩
  · rw [List.getElem?_set_ne hij] at hj
    obtain ⟨cs', h1, h2⟩ := h j y hj
    refine ⟨cs', ?_, L.keep h2 hk⟩
    rw [← h1]
    apply List.ext_getElem?
    intro q
    rw [take_drop_get, take_drop_get]
    by_cases hq : q < L.sz
    · rw [if_pos hq, if_pos hq, hl]
      intro hc
      rcases Nat.lt_or_gt_of_ne hij with hlt | hlt
      · have : (i + 1) * L.sz ≤ j * L.sz := Nat.mul_le_mul_right _ hlt
        omega
      · have : (j + 1) * L.sz ≤ i * L.sz := Nat.mul_le_mul_right _ hlt
        rw [Nat.add_mul] at this
        omega
    · rw [if_neg hq, if_neg hq]
/-- a whole element is written -/
theorem Own.st {α : Type} {L : Ly α} {e : TypeId} {w : World} {F : Nat → Prop} {A : Option Addr} {n c : Nat} {xs : List α} (h : Own L e w F A n c xs) {i : Nat} (hi : i < n) {x : α} {cs : List Value} (hr : ∀ w', Keep (ownBlk A) w w' → L.rel w' F x cs) {K : World → Prop}
    (hK : ∀ w', w'.heap.size = w.heap.size → Keep (ownBlk A) w w' → Own L e w' F A n c (xs.set i x) → K w') : ∃ a, A = some a ∧ ST w (a.add (i * L.sz)) 0 cs K := by
  rcases h.row with ⟨rfl, hc0⟩ | ⟨g, l, rfl, hFg, hat, hll, hrow⟩
  · have := h.cap; omega
  · refine ⟨_, rfl, ?_⟩
    rw [add_off]
    have hcs : cs.length = L.sz := L.len (hr w (Keep.refl _ _))
    have hle : 0 + i * L.sz + cs.length ≤ l.length := by
      have : (i + 1) * L.sz ≤ c * L.sz := Nat.mul_le_mul_right _ (Nat.le_trans hi h.cap)
      rw [Nat.add_mul] at this
      omega
    refine ST.i hat hle (List.all_eq_true.2 fun v hv => L.flat (hr w (Keep.refl _ _)) v hv) fun w' hs hk ha => ?_
    have hk' : Keep (ownBlk (some ⟨g, 0, none⟩)) w w' := hk.mono fun k _ he => he
    refine hK w' hs hk' ⟨by rw [List.length_set]; exact h.len, h.cap, .inr ⟨g, _, rfl, hFg, ha, by rw [putL_length, hll], ?_⟩⟩
    refine hrow.put (fun k hF hlt => hk.keep k hlt (fun he => hFg (he ▸ hF))) ?_ (putL_take hle |> fun t => by rw [hcs] at t; exact t) (hr w' hk')
    intro j hj
    rw [putL_get _ _ _ _ hle, if_neg]
    rw [Nat.add_mul] at hj
    omega
/-- a part of an element is written -/
theorem Own.st_part {α : Type} {L : Ly α} {e : TypeId} {w : World} {F : Nat → Prop} {A : Option Addr} {n c : Nat} {xs : List α} (h : Own L e w F A n c xs) {i o : Nat} {x x' : α} (hi : xs[i]? = some x) {vs : List Value} (hf : vs.all flat = true) (ho : o + vs.length ≤ L.sz)
    (hr : ∀ w' cs, Keep (ownBlk A) w w' → L.rel w F x cs → L.rel w' F x' (putL cs o vs)) {K : World → Prop}
    (hK : ∀ w', w'.heap.size = w.heap.size → Keep (ownBlk A) w w' → Own L e w' F A n c (xs.set i x') → K w') : ∃ a, A = some a ∧ ST w ((a.add (i * L.sz)).add o) 0 vs K := by
  have hin : i < n := by rw [← h.len]; exact (List.getElem?_eq_some_iff.1 hi).1
  rcases h.row with ⟨rfl, hc0⟩ | ⟨g, l, rfl, hFg, hat, hll, hrow⟩
  · have := h.cap; omega
  · refine ⟨_, rfl, ?_⟩
    rw [add_off, add_off]
    obtain ⟨cs, h1, h2⟩ := hrow i x hi
    have hcs := L.len h2
    have hle0 : (i + 1) * L.sz ≤ c * L.sz := Nat.mul_le_mul_right _ (Nat.le_trans hin h.cap)
    rw [Nat.add_mul] at hle0
    have hle : 0 + i * L.sz + o + vs.length ≤ l.length := by omega
    refine ST.i hat hle hf fun w' hs hk ha => ?_
    have hk' : Keep (ownBlk (some ⟨g, 0, none⟩)) w w' := hk.mono fun k _ he => he
    refine hK w' hs hk' ⟨by rw [List.length_set]; exact h.len, h.cap, .inr ⟨g, _, rfl, hFg, ha, by rw [putL_length, hll], ?_⟩⟩
    refine hrow.put (fun k hF hlt => hk.keep k hlt (fun he => hFg (he ▸ hF))) ?_ (cs := putL cs o vs) ?_ (hr w' cs hk' h2)
    · intro j hj
      rw [putL_get _ _ _ _ hle, if_neg]
      rw [Nat.add_mul] at hj
      omega
    · apply List.ext_getElem?
      intro q
      rw [take_drop_get, putL_get _ _ _ _ hle, putL_get _ _ _ _ (by omega), ← h1, take_drop_get]
      by_cases hq : q < L.sz
      · rw [if_pos hq, if_pos hq]
        by_cases hv : o ≤ q ∧ q < o + vs.length
        · rw [if_pos (by omega), if_pos hv]
          congr 1
          omega
        · rw [if_neg (by omega), if_neg hv]
      · rw [if_neg hq, if_neg hq, if_neg (by omega)]
/-- fewer elements, the same array -/
theorem Own.pre {α : Type} {L : Ly α} {e : TypeId} {w : World} {F : Nat → Prop} {A : Option Addr} {n c : Nat} {xs : List α} (h : Own L e w F A n c xs) {j : Nat} (hj : j ≤ n) : Own L e w F A j c (xs.take j) := by
  refine ⟨by rw [List.length_take, h.len]; omega, Nat.le_trans hj h.cap, ?_⟩
  rcases h.row with h0 | ⟨g, l, h1, h2, h3, h4, h5⟩
  · exact .inl h0
  · refine .inr ⟨g, l, h1, h2, h3, h4, fun i x hx => h5 i x ?_⟩
    rw [List.getElem?_take] at hx
    split at hx
    · exact hx
    · cases hx
theorem zeroCells_flat {z : Array Value} (hz : z.toList.all flat = true) (n : Nat) : (Builtin.zeroCells z n).toList.all flat = true := by
  rw [List.all_eq_true] at hz ⊢
  intro v hv
  simp [Builtin.zeroCells] at hv
  obtain ⟨q, hq, hv⟩ := hv
  have hpos : 0 < z.size := by
    rcases Nat.eq_zero_or_pos z.size with h0 | h0
    · rw [h0] at hq; simp at hq
    · exact h0
  have hlt : q % z.size < z.size := Nat.mod_lt _ hpos
  rw [getElem!_pos z _ hlt] at hv
  exact hz v (by rw [← hv]; simp)
/-- clear(s[j:]) -/
theorem clear_own {α : Type} {L : Ly α} {t e : TypeId} {bytes : Nat} (T : ElemTy L t e bytes) (hzf : ∀ i z, PP.info? e = some i → i.zero = some z → z.cells.toList.all flat = true) {w : World} {F : Nat → Prop} {A : Option Addr} {n c j : Nat} {xs : List α} (h : Own L e w F A n c xs) (hj : j ≤ n) (u : TypeId) {K : Value → World → Prop}
    (hK : ∀ w', w'.heap.size = w.heap.size → Keep (ownBlk A) w w' → Own L e w' F A j c (xs.take j) → K (.tuple #[]) w') :
    RUN PP (Builtin.clear_ #[t] u #[.slice (SLA A c j L.sz) (n - j) (c - j)]) w K := by
  obtain ⟨i, z, hi, hsz, hby, hz, hzs⟩ := T.info
  rcases h.row with ⟨rfl, hc0⟩ | ⟨g, l, rfl, hFg, hat, hll, hrow⟩
  · have h0 := h.cap
    have hA : SLA none c j L.sz = none := by unfold SLA; split <;> rfl
    rw [hA]
    refine ⟨.tuple #[], w, ?_, hK w rfl (Keep.refl _ _) (h.pre hj)⟩
    simp [Builtin.clear_, run_underlying' T.und]
  · by_cases hnj : n - j = 0
    · rw [hnj]
      refine ⟨.tuple #[], w, ?_, hK w rfl (Keep.refl _ _) (h.pre hj)⟩
      simp only [Builtin.clear_]
      cases SLA (some ⟨g, 0, none⟩) c j L.sz <;> simp [run_underlying' T.und]
    · have hc := h.cap
      have hA : SLA (some ⟨g, 0, none⟩) c j L.sz = some ⟨g, j * L.sz, none⟩ := by
        unfold SLA
        rw [if_neg (by omega)]
        simp [add_off]
      rw [hA]
      have hzl := zeroCells_length z.cells (n - j)
      rw [hzs] at hzl
      have hle : j * L.sz + 0 + (Builtin.zeroCells z.cells (n - j)).toList.length ≤ l.length := by
        rw [hzl, hll, Nat.add_zero, ← Nat.add_mul]
        exact Nat.mul_le_mul_right _ (by omega)
      obtain ⟨uu, w', hr, hws, hkp, hat'⟩ := storeCells_run (P := PP) (Builtin.zeroCells z.cells (n - j)).toList (j * L.sz) 0 w l hat hle (fun v hv => List.all_eq_true.1 (zeroCells_flat (hzf i z hi hz) (n - j)) v hv)
      refine ⟨.tuple #[], w', ?_, hK w' hws (hkp.mono fun k _ he => he) ?_⟩
      · obtain ⟨m, hm⟩ : ∃ m, n - j = m + 1 := ⟨n - j - 1, by omega⟩
        rw [hm] at hr ⊢
        simp [Builtin.clear_, run_underlying' T.und, zeroValue, typeInfo, hi, hz]
        rw [hr]
        rfl
      · have hp := h.pre hj
        refine ⟨hp.len, hp.cap, .inr ⟨g, _, rfl, hFg, hat', by rw [putL_length, hll], ?_⟩⟩
        intro q x hx
        have hqj : q < j := by
          have := (List.getElem?_eq_some_iff.1 hx).1
          simp at this
          omega
        rw [List.getElem?_take, if_pos hqj] at hx
        obtain ⟨cs, h1, h2⟩ := hrow q x hx
        refine ⟨cs, ?_, L.keep h2 fun k hF hlt => hkp.keep k hlt (fun he => hFg (he ▸ hF))⟩
        rw [← h1]
        apply List.ext_getElem?
        intro r
        rw [take_drop_get, take_drop_get]
        by_cases hr' : r < L.sz
        · rw [if_pos hr', if_pos hr', putL_get _ _ _ _ hle, if_neg]
          have : (q + 1) * L.sz ≤ j * L.sz := Nat.mul_le_mul_right _ hqj
          rw [Nat.add_mul] at this
          omega
        · rw [if_neg hr', if_neg hr']

end Go.SW
