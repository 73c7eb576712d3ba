/- A function that ranges over a function: its computed condition, and that it implies Calls. -/
import Derived.Test.YtfhiffnfngpkeaaGreatDoorVcCode
set_option linter.unusedVariables false
namespace Go.SW
open Go

def ARGS : List VK → List Value → (List Value → Prop) → Prop
  | [], v, F => v = [] ∧ F []
  | k :: ks, v, F => ∃ (x : Value) (r : List Value), v = x :: r ∧ TYV k x fun x => ARGS ks r fun l => F (x :: l)
def upds : Env → List Tmp → List Value → Env
  | e, p :: ps, v :: vs => upds (e.upd p v) ps vs
  | e, _, _ => e
/-- for .. := range f: B: a round at v (beg: behind the assignments; K: how it ends); Z: behind the loop (D: the block of the loop's deferred calls) -/
def RANGE (P : Program) (fv : Value) (np : Nat) (B : List Value → World → (World → (World → Prop) → Prop) → (World → Prop) → Prop) (Z : Nat → World → Prop) (w : World) : Prop :=
  ∃ g cs, fv = .func (.func g) #[] ⟨cs⟩ ∧ ∀ (l : Nat) (rdy bsy fin : Obj) (w1 : World), l = w.heap.size + 1 → w1 = (w.alloc (.deferred (some []))).alloc rdy → rdy.isCells = false → bsy.isCells = false → fin.isCells = false →
    (∀ (v : List Value) (w2 : World) (K : World → Prop), v.length = np → w2.heap[l]? = some rdy → B v w2 (fun w3 X => w3.heap[l]? = some rdy ∧ X (w3.putObj l bsy)) (fun w3 => w3.heap[l]? = some bsy ∧ K (w3.putObj l rdy)) →
      CALLV P (.func (.yield l) #[] #[]) v w2 fun r w3 => r = .bool true ∧ K w3) →
    (callFunc g ⟨.func (.yield l) #[] #[] :: cs⟩).run P w1 = .ok (.enter g ⟨.func (.yield l) #[] #[] :: cs⟩) w1 ∧
    Calls P g ⟨.func (.yield l) #[] #[] :: cs⟩ w1 (Ret fun _ w3 => w3.heap[l]? = some rdy ∧ Z (l - 1) (w3.putObj l fin))
def roundQ (K : Env → World → Prop) : Exit → Env → World → Prop
  | .normal, e, w => K e w
  | _, _, _ => False
def rangeOf : Code → Option (Code × Operand × Array Tmp × Code × Code)
  | .seq p (.block _ (.rangeFunc f ps asn body)) => some (p, f, ps, asn, body)
  | _ => none
def endD (P : Program) (fn : Func) (R : Value → World → Prop) (D : Nat) : Exit → Env → World → Prop
  | .normal, e, w | .ret, e, w => w.heap[D]? = some (.deferred (some [])) ∧ RES P fn.results.toList e (w.putObj D (.deferred none)) [] R
  | _, _, _ => False
def RNG (P : Program) (n : Nat) (f : Operand) (ps : Array Tmp) (asn body : Code) (ks : List VK) (A : Ann) (e : Env) (Z : Nat → World → Prop) (w : World) : Prop :=
  cond (ps.toList.all (fun p => dstOk n (some p)) && (allDst n asn && allDst n body))
    (RANGE P (e.ev f) ps.size (fun v w beg K => ARGS ks v fun l => vc P asn .leaf (roundQ fun e' w' => beg w' fun w'' => vc P body A (roundQ fun _ w3 => K w3) e' w'') (upds e ps.toList l) w) Z w) False
/-- ann: one '.two' for each statement of the spine; ks: the loop variables' kinds; A: the body's -/
def vcT (P : Program) (fn : Func) (R : Value → World → Prop) (ks : List VK) : Code → Ann → Env → World → Prop
  | .seq x y, ann, e, w => match ann with
    | .two A B => match rangeOf x with
      | some (p, f, ps, asn, body) => vc P p .leaf (thenQ (fun e w => RNG P fn.ntmps f ps asn body ks A e (fun D w => vc P y B (endD P fn R D) e w) w) (endQ P fn R)) e w
      | none => vc P x A (thenQ (fun e w => vcT P fn R ks y B e w) (endQ P fn R)) e w
    | _ => False
  | _, _, _, _ => False
def vcFT (P : Program) (fn : Func) (c : Code) (ks : List VK) (ann : Ann) (args : List Value) (w : World) (R : Value → World → Prop) : Prop :=
  cond (allDst fn.ntmps c && Nat.ble args.length fn.ntmps) (vcT P fn R ks c ann (env0 args 0) w) False

/-! ## soundness -/
theorem ARGS_elim : ∀ {ks : List VK} {v : List Value} {F : List Value → Prop}, ARGS ks v F → F v
  | [], v, F, h => by
    obtain ⟨rfl, h⟩ := h
    exact h
  | k :: ks, v, F, h => by
    obtain ⟨x, r, rfl, h⟩ := h
    have h2 : ARGS ks r fun l => F (x :: l) := TYV.elim (k := k) (v := x) (K := fun x => ARGS ks r fun l => F (x :: l)) h
    exact ARGS_elim (F := fun l => F (x :: l)) h2

theorem upds_rel {ds : List Deferred} {n : Nat} : ∀ (ps : List Tmp) (vs : List Value) (a : Act) (e : Env), ps.all (fun p => dstOk n (some p)) = true → Rel ds n a e → ps.length = vs.length →
    Rel ds n { a with tmps := (ps.zip vs).foldl (fun t (p, v) => t.setIfInBounds p v) a.tmps } (upds e ps vs)
  | [], vs, a, e, _, h, _ => by simpa [upds] using h
  | p :: ps, [], a, e, _, h, hl => by simp at hl
  | p :: ps, v :: vs, a, e, hp, h, hl => by
    simp only [List.all_cons, Bool.and_eq_true] at hp
    have h1 : Rel ds n (a.put (some p) v) (e.put (some p) v) := h.put hp.1 v
    exact upds_rel ps vs _ _ hp.2 h1 (by simpa using hl)

theorem vcT_sound {P : Program} {fn : Func} {R : Value → World → Prop} {ks : List VK} (hm : P.follows .mixedOrders = true) : ∀ (c : Code) (ann : Ann) (e : Env) (w : World) (a : Act),
    allDst fn.ntmps c = true → vcT P fn R ks c ann e w → Rel [] fn.ntmps a e → c.wpIn (WF none) 0 P (bodyPostM (WF none) 0 P fn (Ret R)) a w := by
  intro c
  have fin : ∀ {e : Env} {a : Act} {w : World}, Rel [] fn.ntmps a e → RES P fn.results.toList e w [] R → LeavesIn (WF none) 0 P fn a.tmps (Ret R) [] .returning w := by
    intro e a w hr hq
    obtain ⟨vs, hv, hR⟩ := RES_run hr fn.results.toList [] R hq
    refine ⟨if h : vs.toArray.size = 1 then vs.toArray[0] else .tuple vs.toArray, ?_, ?_⟩
    · rw [results_eq, Array.mapM_eq_mapM_toList]
      simp [hv]
    · simp only [List.nil_append] at hR
      show R _ w
      have : (if h : vs.toArray.size = 1 then vs.toArray[0] else .tuple vs.toArray) = one vs := by
        rcases vs with _ | ⟨v, _ | ⟨v2, l⟩⟩
        · rfl
        · rfl
        · rw [dif_neg (by simp)]; rfl
      rw [this]
      exact hR
  have endq : ∀ {ex : Exit} {e : Env} {a : Act} {w : World}, Rel [] fn.ntmps a e → endQ P fn R ex e w → bodyPostM (WF none) 0 P fn (Ret R) ex a w := by
    intro ex e a w hr hq
    cases ex with
    | normal => show LeavesInM _ _ _ _ _ _ a.defers _ _; rw [hr.defers]; exact fin hr hq
    | ret => show LeavesInM _ _ _ _ _ _ a.defers _ _; rw [hr.defers]; exact fin hr hq
    | _ => exact False.elim hq
  induction c with
  | seq x y ihx ihy =>
    intro ann e w a hd h hr
    simp only [allDst, Bool.and_eq_true] at hd
    cases ann with
    | two A B =>
      simp only [vcT] at h
      split at h
      · rename_i p f ps asn body hx
        have hx' : ∃ id, x = .seq p (.block id (.rangeFunc f ps asn body)) := by
          unfold rangeOf at hx
          split at hx
          · simp only [Option.some.injEq, Prod.mk.injEq] at hx
            obtain ⟨rfl, rfl, rfl, rfl, rfl⟩ := hx
            exact ⟨_, rfl⟩
          · cases hx
        obtain ⟨id, rfl⟩ := hx'
        simp only [allDst, Bool.and_eq_true] at hd
        refine wpIn_seq (wpIn_seq (vc_sound (ro := none) (fm := 0) hm p .leaf _ e w a _ hd.1.1 h hr ?_))
        clear h hr
        intro ex e1 a1 w1 hr hag h
        clear hag
        cases ex with
        | ret => exact endq (ex := .ret) hr h
        | exit _ => exact False.elim h
        | goto _ => exact False.elim h
        | panic _ => exact False.elim h
        | outgrown => exact False.elim h
        | normal =>
        clear e w a
        revert e1 a1 w1
        intro e a w hr h
        simp only [thenQ] at h
        unfold RNG at h
        cases hc : (ps.toList.all (fun p => dstOk fn.ntmps (some p)) && (allDst fn.ntmps asn && allDst fn.ntmps body)) with
        | false => rw [hc] at h; exact False.elim h
        | true =>
          rw [hc, cond_true] at h
          simp only [Bool.and_eq_true] at hc
          obtain ⟨hp, hda, hdb⟩ := hc
          obtain ⟨g, cs, hf, h⟩ := h
          show Code.wpIn _ _ _ _ _ _ _
          refine wpIn_block (wpIn_rangeFunc ?_)
          intro fnid hfn
          obtain ⟨rec, hrec⟩ : ∃ rec : LoopState → Option Code → Loop, rec = fun st pe => { state := st, pending := pe, fn := fnid, tmps := a.tmps, params := ps, assign := asn, body := body, defers := w.heap.size } := ⟨_, rfl⟩
          obtain ⟨W1, hW1⟩ : ∃ W1, (w.alloc (.deferred (some []))).alloc (.loop (rec .ready none)) = W1 := ⟨_, rfl⟩
          have hcall := h (w.heap.size + 1) (.loop (rec .ready none)) (.loop (rec .busy none)) (.loop (rec .exhausted none)) W1 rfl hW1.symm rfl rfl rfl ?_
          · obtain ⟨hc1, hc2⟩ := hcall
            have hev : a.eval f = .func (.func g) #[] ⟨cs⟩ := by rw [hr.ev]; exact hf
            refine ⟨w.heap.size + 1, [{ target := .collected w.heap.size, args := #[] }], W1, { target := .fn (.func g) ⟨cs⟩, args := #[.func (.yield (w.heap.size + 1)) #[] #[]] }, W1, g, ⟨.func (.yield (w.heap.size + 1)) #[] #[] :: cs⟩, W1, ?_, ?_, ?_, ?_, (fun hd => by cases hd), ?_⟩
            · rw [← hW1, hrec]; exact run_enterLoop_outer _ _ _ _ _
            · simp only [resolve, hev, Deferred.ofValue]
              simp [go_sem]
            · intro f' _; trivial
            · have happ : ∀ v : Value, #[v] ++ (⟨cs⟩ : Array Value) = ⟨v :: cs⟩ := by
                intro v; apply Array.ext'; simp
              have hinv : ∀ v : Value, invoke (.fn (.func g) ⟨cs⟩) #[v] = callFunc g (#[v] ++ (⟨cs⟩ : Array Value)) := fun v => rfl
              rw [hinv, happ]
              exact hc1
            · refine (callsIn_wide (n := 0 - 1)).2 (hc2.mono ?_)
              intro en w3 hen
              cases en with
              | returned v =>
                obtain ⟨hl, hz⟩ := hen
                have he := run_endLoop (P := P) hl (by rw [hrec]; simp)
                refine ⟨none, _, by rw [hrec] at he; exact he, ?_⟩
                show (y.wpIn (WF none) 0 P _) _ _
                have hz' : vc P y B (endD P fn R w.heap.size) e (w3.putObj (w.heap.size + 1) (.loop (rec .exhausted none))) := hz
                have hr' : Rel [{ target := .collected w.heap.size, args := #[] }] fn.ntmps { a with defers := [{ target := .collected w.heap.size, args := #[] }] ++ a.defers } e := ⟨by rw [hr.defers]; rfl, hr.size, hr.at_⟩
                have hfin : { rec .ready none with state := LoopState.exhausted } = rec .exhausted none := by rw [hrec]
                rw [hrec] at hfin
                refine vc_sound (ro := none) (fm := 0) hm y B _ e _ _ _ hd.2 (by rw [hrec] at hz'; exact hz') hr' ?_
                intro ex e' a' w' hr2 _ hq
                have done : ∀ {w' : World}, w'.heap[w.heap.size]? = some (.deferred (some [])) ∧ RES P fn.results.toList e' (w'.putObj w.heap.size (.deferred none)) [] R → LeavesInM (WF none) 0 P fn a'.tmps (Ret R) a'.defers .returning w' := by
                  intro w' hq
                  rw [hr2.defers]
                  refine ⟨by simp, .inl ⟨_, _, rfl, run_takeDeferred hq.1, ?_⟩⟩
                  exact fin (a := { a' with defers := [] }) ⟨rfl, hr2.size, hr2.at_⟩ hq.2
                cases ex with
                | normal => exact done hq
                | ret => exact done hq
                | _ => exact False.elim hq
              | panicked _ => exact False.elim hen
              | outgrown => exact False.elim hen
          · -- a round
            intro v w2 K hvl hl hB
            have hy := run_yield (P := P) (args := ⟨v⟩) hl (by rw [hrec]; simpa using hvl)
            rw [hrec] at hy
            refine .inr ⟨_, _, _, _, _, rfl, hy, fun m => roundIn_of_wpIn (F := Fence.wide) trivial ?_⟩
            have hB2 := ARGS_elim hB
            have hrel : Rel [] fn.ntmps { tmps := (ps.zip ⟨v⟩).foldl (fun t (p, v) => t.setIfInBounds p v) a.tmps, defers := [] } (upds e ps.toList v) := by
              have h1 := upds_rel (ds := []) ps.toList v a e hp hr (by simpa using hvl.symm)
              have hz : (ps.toList.zip v) = (ps.zip (⟨v⟩ : Array Value)).toList := by simp
              have hf : (ps.zip (⟨v⟩ : Array Value)).foldl (fun t (x : Tmp × Value) => t.setIfInBounds x.1 x.2) a.tmps = (ps.toList.zip v).foldl (fun t x => t.setIfInBounds x.1 x.2) a.tmps := by
                rw [hz, Array.foldl_toList]
              exact ⟨rfl, (congrArg Array.size hf).trans h1.size, fun t => (congrArg (fun z => Array.getD z t undef) hf).trans (h1.at_ t)⟩
            refine vc_sound (ro := some (w.heap.size + 1)) (fm := m) (ds := []) hm asn .leaf _ _ w2 _ _ hda hB2 hrel ?_
            intro ex e' a' w' hr' _ hq
            cases ex with
            | normal =>
              obtain ⟨hl', hX⟩ := hq
              have hb := run_beginRound (P := P) hl' (by rw [hrec])
              rw [hrec] at hb
              refine ⟨_, hb, ?_⟩
              rw [hrec] at hX
              refine vc_sound (ro := some (w.heap.size + 1)) (fm := m) (ds := []) hm body A _ _ _ _ _ hdb hX hr' ?_
              intro ex2 e2 a2 w4 hr4 _ hq2
              cases ex2 with
              | normal =>
                obtain ⟨hl4, hK⟩ := hq2
                have he := run_endRound (P := P) none hl4
                exact ⟨_, _, he, rfl, hK⟩
              | _ => exact False.elim hq2
            | _ => exact False.elim hq
      · refine wpIn_seq (vc_sound (ro := none) (fm := 0) hm x A _ e w a _ hd.1 h hr ?_)
        intro ex e' a' w' hr' _ hq
        cases ex with
        | normal => exact ihy B e' w' a' hd.2 hq hr'
        | ret => exact endq (ex := .ret) hr' hq
        | _ => exact False.elim hq
    | _ => exact False.elim h
  | _ => intro ann e w a _ h _; exact False.elim h

theorem vcFT_sound {P : Program} {f : FuncId} {fn : Func} {c : Code} {ks : List VK} {ann : Ann} {args : List Value} {w : World} {R : Value → World → Prop} (hm : P.follows .mixedOrders = true)
    (hf : P.funcs[f]? = some fn) (hb : fn.body = some c) (h : vcFT P fn c ks ann args w R) : Calls P f ⟨args⟩ w (Ret R) := by
  unfold vcFT at h
  cases hc : (allDst fn.ntmps c && Nat.ble args.length fn.ntmps) with
  | false => rw [hc] at h; exact False.elim h
  | true =>
    rw [hc, cond_true] at h
    simp only [Bool.and_eq_true] at hc
    have hle : args.length ≤ fn.ntmps := Nat.le_of_ble_eq_true hc.2
    refine callsIn_wide.1 (callsIn_of_wp_marks (F := Fence.wide) (n := 0) hf hb trivial (vcT_sound hm c ann (env0 args 0) w _ hc.1 h ⟨rfl, ?_, fun t => ?_⟩))
    · simp; omega
    · rw [env0_at]
      simp only [Nat.zero_le, if_true, Nat.sub_zero]
      rw [Array.getD_eq_getD_getElem?, List.getD_eq_getElem?_getD]
      by_cases ht : t < args.length
      · rw [Array.getElem?_append_left (by simpa using ht)]
        simp
      · rw [Array.getElem?_append_right (by simpa using ht), List.getElem?_eq_none (by omega)]
        simp [Array.getElem?_replicate]
        split <;> rfl
end Go.SW
