/- Memory: what a block holds, what a call keeps; slices; the forms of Vc.lean by these words. -/
import Derived.Test.YtfhiffnfngpkeaaGreatDoorVcSeat
set_option linter.unusedVariables false
namespace Go.SW
open Go Go.Proofs

/-! ## Blocks -/
def At (w : World) (b : Nat) (o : Obj) : Prop := w.heap[b]? = some o
theorem At.lt {w : World} {b : Nat} {o : Obj} (h : At w b o) : b < w.heap.size := (Array.getElem?_eq_some_iff.1 h).1
theorem At.inj {w : World} {b : Nat} {o o' : Obj} (h : At w b o) (h' : At w b o') : o = o' := by
  unfold At at h h'
  rw [h] at h'
  exact Option.some.inj h'

/-- all but the blocks S (and what is new) is as it was -/
structure Keep (S : Nat → Prop) (w w' : World) : Prop where
  size : w.heap.size ≤ w'.heap.size
  keep : ∀ k, k < w.heap.size → ¬ S k → w'.heap[k]? = w.heap[k]?
  os : w'.os = w.os
  tape : w'.tape = w.tape
  out : w'.output = w.output
def No : Nat → Prop := fun _ => False
theorem Keep.refl (S : Nat → Prop) (w : World) : Keep S w w := ⟨Nat.le_refl _, fun _ _ _ => rfl, rfl, rfl, rfl⟩
theorem Keep.trans {S : Nat → Prop} {w w1 w2 : World} (h : Keep S w w1) (h' : Keep S w1 w2) : Keep S w w2 :=
  ⟨Nat.le_trans h.size h'.size, fun k hk hs => (h'.keep k (Nat.lt_of_lt_of_le hk h.size) hs).trans (h.keep k hk hs), h'.os.trans h.os, h'.tape.trans h.tape, h'.out.trans h.out⟩
/-- the second's blocks may be new ones -/
theorem Keep.trans' {S T : Nat → Prop} {w w1 w2 : World} (h : Keep S w w1) (h' : Keep T w1 w2) (hT : ∀ k, k < w.heap.size → T k → S k) : Keep S w w2 :=
  ⟨Nat.le_trans h.size h'.size, fun k hk hs => (h'.keep k (Nat.lt_of_lt_of_le hk h.size) (fun ht => hs (hT k hk ht))).trans (h.keep k hk hs), h'.os.trans h.os, h'.tape.trans h.tape, h'.out.trans h.out⟩
theorem Keep.mono {S T : Nat → Prop} {w w1 : World} (h : Keep S w w1) (hT : ∀ k, k < w.heap.size → S k → T k) : Keep T w w1 :=
  ⟨h.size, fun k hk hs => h.keep k hk (fun ht => hs (hT k hk ht)), h.os, h.tape, h.out⟩
theorem Keep.no {S : Nat → Prop} {w w1 : World} (h : Keep No w w1) : Keep S w w1 := h.mono (fun _ _ h => False.elim h)
theorem Keep.at_ {S : Nat → Prop} {w w1 : World} (h : Keep S w w1) {b : Nat} {o : Obj} (ha : At w b o) (hs : ¬ S b) : At w1 b o := (h.keep b ha.lt hs).trans ha
theorem Keep.drew (S : Nat → Prop) (w : World) : Keep S w { w with drawn := w.drawn + 1 } := ⟨Nat.le_refl _, fun _ _ _ => rfl, rfl, rfl, rfl⟩

theorem push_keep (w : World) (o : Obj) : Keep No w { w with heap := w.heap.push o } := by
  refine ⟨by simp, fun k hk _ => ?_, rfl, rfl, rfl⟩
  simp [Array.getElem?_push, Nat.ne_of_lt hk]
theorem push_at (w : World) (o : Obj) : At { w with heap := w.heap.push o } w.heap.size o := by simp [At]
theorem NEW.i {w : World} {o : Obj} {K : Nat → World → Prop} (h : ∀ b w', w.heap.size = b → w'.heap.size = b + 1 → Keep No w w' → At w' b o → K b w') : NEW w o K :=
  h _ _ rfl (by simp) (push_keep w o) (push_at w o)
theorem DRAW.i {w : World} {K : World → Prop} (h : ∀ w', w'.heap = w.heap → Keep No w w' → K w') : DRAW w K := h _ rfl (Keep.drew _ w)

theorem add_off (b off i : Nat) : (⟨b, off, none⟩ : Addr).add i = ⟨b, off + i, none⟩ := by
  unfold Addr.add
  split
  · rename_i h; subst h; rfl
  · rfl
theorem cell_at {w : World} {b i : Nat} {l : List Value} {t : TypeId} {fr : Nat × Nat} {v : Value} (h : At w b (.cells ⟨l⟩ t fr)) (hv : l[i]? = some v) : World.cell? w ⟨b, i, none⟩ = some v := by
  unfold At at h
  simp [World.cell?, h, hv]
theorem cell_at_add {w : World} {b off i : Nat} {l : List Value} {t : TypeId} {fr : Nat × Nat} {v : Value} (h : At w b (.cells ⟨l⟩ t fr)) (hv : l[off + i]? = some v) : World.cell? w (Addr.add ⟨b, off, none⟩ i) = some v := by
  rw [add_off]; exact cell_at h hv
theorem RD_at {w : World} {b off : Nat} {l : List Value} {t : TypeId} {fr : Nat × Nat} (h : At w b (.cells ⟨l⟩ t fr)) : ∀ (vs : List Value) (i : Nat), (∀ j v, vs[j]? = some v → l[off + i + j]? = some v) → RD w ⟨b, off, none⟩ i vs
  | [], _, _ => trivial
  | v :: vs, i, hv => ⟨by
      rw [add_off]
      exact cell_at h (by simpa using hv 0 v rfl), RD_at h vs (i + 1) (fun j u hu => by
      have := hv (j + 1) u (by simpa using hu)
      rwa [show off + i + (j + 1) = off + (i + 1) + j by omega] at this)⟩
/-- the whole block -/
theorem RD.i {w : World} {b : Nat} {l : List Value} {t : TypeId} {fr : Nat × Nat} (h : At w b (.cells ⟨l⟩ t fr)) : RD w ⟨b, 0, none⟩ 0 l :=
  RD_at h l 0 (fun j v hv => by simpa using hv)
theorem RD.pre {w : World} {b off : Nat} {l vs r : List Value} {t : TypeId} {fr : Nat × Nat} (h : At w b (.cells ⟨l⟩ t fr)) (hp : l.drop off = vs ++ r) : RD w ⟨b, off, none⟩ 0 vs :=
  RD_at h vs 0 (fun j v hv => by
    have : (l.drop off)[j]? = some v := by rw [hp, List.getElem?_append_left (by have := (List.getElem?_eq_some_iff.1 hv).1; exact this)]; exact hv
    simpa [List.getElem?_drop] using this)

theorem setCell_heap_ne (w : World) (b i : Nat) (v : Value) {k : Nat} (hk : k ≠ b) : (w.setCell ⟨b, i, none⟩ v).heap[k]? = w.heap[k]? := by
  simp only [World.setCell]
  rw [Array.getElem?_modify]
  simp [Ne.symm hk]
theorem setCell_size (w : World) (a : Addr) (v : Value) : (w.setCell a v).heap.size = w.heap.size := by simp [World.setCell]
theorem setCell_at {w : World} {b : Nat} {l : List Value} {t : TypeId} {fr : Nat × Nat} (h : At w b (.cells ⟨l⟩ t fr)) (i : Nat) (v : Value) : At (w.setCell ⟨b, i, none⟩ v) b (.cells ⟨l.set i v⟩ t fr) := by
  unfold At at h ⊢
  simp only [World.setCell]
  rw [Array.getElem?_modify]
  simp [h]
theorem setCell_keep (w : World) (b i : Nat) (v : Value) : Keep (fun k => k = b) w (w.setCell ⟨b, i, none⟩ v) :=
  ⟨by rw [setCell_size]; exact Nat.le_refl _, fun k _ hk => setCell_heap_ne w b i v hk, rfl, rfl, rfl⟩

theorem ST_at {b off : Nat} {t : TypeId} : ∀ (vs : List Value) (i : Nat) (w : World) (l : List Value) (K : World → Prop), At w b (.cells ⟨l⟩ t (0, 0)) → off + i + vs.length ≤ l.length → (∀ v ∈ vs, flat v = true) →
    (∀ w', w'.heap.size = w.heap.size → Keep (fun k => k = b) w w' → At w' b (.cells ⟨putL l (off + i) vs⟩ t (0, 0)) → K w') → ST w ⟨b, off, none⟩ i vs K
  | [], i, w, l, K, h, _, _, hk => hk w rfl (Keep.refl _ _) h
  | v :: vs, i, w, l, K, h, hl, hf, hk => by
    simp only [List.length_cons] at hl
    refine ⟨hf v List.mem_cons_self, ?_, ?_, ?_⟩
    · rw [add_off]
      exact ⟨l[off + i]'(by omega), cell_at h (List.getElem?_eq_getElem (by omega))⟩
    · unfold At at h
      simp [World.frozen?, h, add_off]
    · rw [add_off]
      refine ST_at vs (i + 1) _ _ K (setCell_at h (off + i) v) (by simp; omega) (fun u hu => hf u (List.mem_cons_of_mem _ hu)) fun w' hs hkp ha => ?_
      exact hk w' (by rw [hs, setCell_size]) ((setCell_keep w b (off + i) v).trans hkp) (by simpa [putL, Nat.add_assoc] using ha)
/-- a store into a block -/
theorem ST.i {w : World} {b off : Nat} {l : List Value} {t : TypeId} {vs : List Value} {K : World → Prop} (h : At w b (.cells ⟨l⟩ t (0, 0))) (hl : off + vs.length ≤ l.length) (hf : vs.all flat = true)
    (hk : ∀ w', w'.heap.size = w.heap.size → Keep (fun k => k = b) w w' → At w' b (.cells ⟨putL l off vs⟩ t (0, 0)) → K w') : ST w ⟨b, off, none⟩ 0 vs K :=
  ST_at vs 0 w l K h hl (fun v hv => List.all_eq_true.1 hf v hv) (fun w' h1 h2 h3 => hk w' h1 h2 h3)

theorem ST.mono {a : Addr} : ∀ {vs : List Value} {i : Nat} {w : World} {K K' : World → Prop}, ST w a i vs K → (∀ w', K w' → K' w') → ST w a i vs K'
  | [], _, _, _, _, h, hk => hk _ h
  | _ :: _, _, _, _, _, h, hk => ⟨h.1, h.2.1, h.2.2.1, ST.mono h.2.2.2 hk⟩

/-! ## Calls -/
theorem CALL.i {f : FuncId} {args : List Value} {w : World} {K R : Value → World → Prop} (h : Calls PP f ⟨args⟩ w (Ret R)) (hc : callable PP f = true) (hk : ∀ v w', R v w' → K v w') : CALL PP f args w K :=
  .inl ⟨callable_ hc, h.mono fun e w' he => by
    cases e with
    | returned v => exact hk v w' he
    | _ => exact he⟩
/-- a function without a body -/
theorem CALL.x {f : FuncId} {args : List Value} {w w' : World} {v : Value} {K : Value → World → Prop} (h : (callFunc f ⟨args⟩).run PP w = .ok (.value v) w') (hk : K v w') : CALL PP f args w K := .inr ⟨v, w', h, hk⟩
theorem CALL.mono {P : Program} {f : FuncId} {args : List Value} {w : World} {K K' : Value → World → Prop} (h : CALL P f args w K) (hk : ∀ v w', K v w' → K' v w') : CALL P f args w K' := by
  rcases h with ⟨h1, h2⟩ | ⟨v, w', h1, h2⟩
  · exact .inl ⟨h1, h2.mono fun e w' he => by
      cases e with
      | returned v => exact hk v w' he
      | _ => exact he⟩
  · exact .inr ⟨v, w', h1, hk v w' h2⟩
theorem CALLV.mono {P : Program} {f : Value} {args : List Value} {w : World} {K K' : Value → World → Prop} (h : CALLV P f args w K) (hk : ∀ v w', K v w' → K' v w') : CALLV P f args w K' := by
  rcases h with ⟨g, fs, cs, h1, h2⟩ | ⟨l, fn, tmps, asn, body, h1, h2, h3⟩
  · exact .inl ⟨g, fs, cs, h1, h2.mono hk⟩
  · exact .inr ⟨l, fn, tmps, asn, body, h1, h2, fun m => (h3 m).mono fun e w' he => by
      cases e with
      | returned v => exact hk v w' he
      | _ => exact he⟩
/-- a function value of a function -/
theorem CALLV.i {g : FuncId} {cs args : List Value} {w : World} {K : Value → World → Prop} (h : CALL PP g (args ++ cs) w K) : CALLV PP (.func (.func g) #[] ⟨cs⟩) args w K := .inl ⟨g, [], cs, rfl, h⟩
theorem Calls.ret {f : FuncId} {args : Array Value} {w : World} {K R : Value → World → Prop} (h : Calls PP f args w (Ret R)) (hk : ∀ v w', R v w' → K v w') : Calls PP f args w (Ret K) :=
  h.mono fun e w' he => by
    cases e with
    | returned v => exact hk v w' he
    | _ => exact he

theorem split_dec {p : Prop} [Decidable p] {A B : Prop} (hA : p → A) (hB : ¬ p → B) : SPLIT (decide p) A B := by
  by_cases h : p
  · rw [decide_eq_true h]; exact hA h
  · rw [decide_eq_false h]; exact hB h
theorem split_i {t : Bool} {A B : Prop} (hA : t = true → A) (hB : t = false → B) : SPLIT t A B := by
  cases t with
  | true => exact hA rfl
  | false => exact hB rfl
theorem wrap64 {n : Int} (h0 : -9223372036854775808 ≤ n) (h1 : n ≤ 9223372036854775807) : IntKind.wrap .i64 n = n := by
  simp only [IntKind.wrap, IntKind.bits, IntKind.signed]
  simp
  omega

end Go.SW
