/- Every operation's form implies what the operation does. -/
import Derived.Test.YtfhiffnfngpkeaaGreatDoorVc
namespace Go.SW
open Go

def PureVal (P : Program) (o : Oper) (ρ : Operand → Value) (K : Value → Prop) : Prop := ∃ v, (∀ w, (execOp ρ o).run P w = .ok (.value v) w) ∧ K v
theorem PureVal.of {P : Program} {o : Oper} {ρ : Operand → Value} {K : Value → Prop} {s : Sem Value} (hs : execOp ρ o = (do pure (Next.value (← s)))) (h : ∃ v, (∀ w, s.run P w = .ok v w) ∧ K v) : PureVal P o ρ K := by
  obtain ⟨v, h, hk⟩ := h
  exact ⟨v, fun w => by rw [hs]; exact Sem.run_v (h w), hk⟩
theorem PureVal.now {P : Program} {o : Oper} {ρ : Operand → Value} {K : Value → Prop} {v : Value} (hs : execOp ρ o = pure (Next.value v)) (h : K v) : PureVal P o ρ K := ⟨v, fun w => by rw [hs]; rfl, h⟩

set_option maxHeartbeats 1000000 in
theorem OPP_run {P : Program} {o : Oper} {e : Env} {K : Value → Prop} (h : OPP P o e K) : PureVal P o e.ev K := by
  obtain ⟨dst, op, type, pos, after, guard⟩ := o
  unfold OPP at h
  cases op with
  | move x => exact .now rfl h
  | assign x => exact .now rfl h
  | pick c a b =>
    simp only at h
    split at h
    · rename_i t ht
      cases t with
      | true => exact ⟨_, fun w => by simp [execOp, ht, asBool], h⟩
      | false => exact ⟨_, fun w => by simp [execOp, ht, asBool], h⟩
    · exact False.elim h
  | build t ps =>
    simp only at h
    obtain ⟨cs, hc, h⟩ := SOMEL.elim h
    refine .of (s := Instr.build t (ps.map fun (i, x) => (i, e.ev x))) rfl ⟨_, fun w => run_build w t _ _ (builtL_eq (ps := parts e ps) hc ▸ ?_), h⟩
    simp [parts]
  | nilCheck x =>
    simp only at h
    split at h
    · rename_i p hp
      obtain ⟨a, rfl, h'⟩ := SOMEA.elim h
      exact ⟨_, fun w => by simp [execOp, hp], h'⟩
    · rename_i f a b hp
      exact ⟨_, fun w => by simp [execOp, hp], h⟩
    · exact False.elim h
  | binOp op t x y yt => exact .of rfl (BIN_run h)
  | unOp op t x => exact .of rfl (semP_sound P _ K h)
  | convert s d x =>
    simp only at h
    split at h
    · rename_i k k' n hu hx
      obtain ⟨hs, h'⟩ := h
      exact .of (s := convert s d (e.ev x)) rfl ⟨_, fun w => by rw [hx]; exact convert_int_run hu hs, h'⟩
    · rename_i s' hu hx
      obtain ⟨hs, h'⟩ := h
      exact .of (s := convert s d (e.ev x)) rfl ⟨_, fun w => by rw [hx]; exact convert_str_run hu hs, h'⟩
    · exact False.elim h
  | makeFunc fn first cap =>
    refine .of (s := Instr.makeFunc fn (first.map e.ev) (cap.map e.ev)) rfl ⟨_, fun w => by rw [vals_eq, vals_eq]; rfl, h⟩
  | slice t x lo hi mx =>
    cases mx with
    | some mx =>
      cases hi with
      | none => exact False.elim h
      | some hi =>
        simp only at h
        split at h
        · rename_i el A n c hu hx
          split at h
          · rename_i i hi'
            obtain ⟨l, m, r, hr, h'⟩ := slice3_run (P := P) (A := A) (n := n) hu hi' h
            exact .of (s := Instr.sliceAt t (e.ev x) (lo.map e.ev) (some (e.ev hi)) (some (e.ev mx))) rfl ⟨_, fun w => by rw [hx]; exact hr w, h'⟩
          · exact False.elim h
        · exact False.elim h
    | none =>
      simp only at h
      split at h
      · rename_i s hu hx
        obtain ⟨l, m, hr, h'⟩ := slice_str_run (P := P) hu h
        exact .of (s := Instr.sliceAt t (e.ev x) (lo.map e.ev) (hi.map e.ev) none) rfl ⟨_, fun w => by rw [hx]; exact hr w, h'⟩
      · rename_i el A n c hu hx
        split at h
        · rename_i i hi'
          obtain ⟨l, m, hr, h'⟩ := slice_sl_run (P := P) (A := A) hu hi' h
          exact .of (s := Instr.sliceAt t (e.ev x) (lo.map e.ev) (hi.map e.ev) none) rfl ⟨_, fun w => by rw [hx]; exact hr w, h'⟩
        · exact False.elim h
      · rename_i n el p hu hx
        split at h
        · rename_i i hi'
          obtain ⟨a, rfl, h2⟩ := SOMEA.elim h
          obtain ⟨l, m, hr, h'⟩ := slice_arr_run (P := P) (a := a) hu hi' h2
          exact .of (s := Instr.sliceAt t (e.ev x) (lo.map e.ev) (hi.map e.ev) none) rfl ⟨_, fun w => by rw [hx]; exact hr w, h'⟩
        · exact False.elim h
      · exact False.elim h
  | fieldAddr s x f =>
    simp only at h
    split at h
    · rename_i fs hu
      split at h
      · rename_i fd p hf hx
        obtain ⟨a, rfl, h'⟩ := SOMEA.elim h
        split at h'
        · rename_i i hi
          cases hz : Nat.beq i.size 0 with
          | true => rw [hz] at h'; exact False.elim h'
          | false =>
            rw [hz, cond_false] at h'
            have hne : i.size ≠ 0 := fun h0 => by rw [h0] at hz; cases hz
            have hf' : fs[f]? = some fd := by simpa using hf
            exact .of (s := Instr.fieldAt s (e.ev x) f) rfl ⟨_, fun w => by simp [Instr.fieldAt, run_underlying' hu, hf', hx, Instr.sureAddr, fieldPlace, run_sizeOf' hi, hne], h'⟩
        · exact False.elim h'
      · exact False.elim h
    · exact False.elim h
  | field s x f =>
    simp only at h
    split at h
    · rename_i fs hu
      split at h
      · rename_i fd cs hf hx
        have hf' : fs[f]? = some fd := by simpa using hf
        split at h
        · rename_i d hd
          split at h
          · rename_i i hi
            exact .of (s := Instr.field s (e.ev x) f) rfl ⟨_, fun w => by simp only [Instr.field, Sem.run_bind, run_underlying' hu, Result.andThen_ok, hf', hx, asAgg, Sem.run_pure]; exact part_agg_run hi (by simp [isAgg, run_underlying' hd]), h⟩
          · exact False.elim h
        · rename_i n el hd
          split at h
          · rename_i i hi
            exact .of (s := Instr.field s (e.ev x) f) rfl ⟨_, fun w => by simp only [Instr.field, Sem.run_bind, run_underlying' hu, Result.andThen_ok, hf', hx, asAgg, Sem.run_pure]; exact part_agg_run hi (by simp [isAgg, run_underlying' hd]), h⟩
          · exact False.elim h
        · rename_i d h1 h2 hd
          obtain ⟨v, hv, h'⟩ := GETV.elim h
          refine .of (s := Instr.field s (e.ev x) f) rfl ⟨_, fun w => ?_, h'⟩
          simp only [Instr.field, Sem.run_bind, run_underlying' hu, Result.andThen_ok, hf', hx, asAgg, Sem.run_pure]
          refine part_one_run hv ?_
          simp only [isAgg, Sem.run_bind, run_underlying' hd, Result.andThen_ok]
          rfl
        · exact False.elim h
      · exact False.elim h
    · exact False.elim h
  | indexAddr t x i =>
    simp only at h
    split at h
    · rename_i el A n c k iv hu hx hi
      split at h
      · rename_i ti hti
        obtain ⟨hb, h⟩ := h
        obtain ⟨a, rfl, h'⟩ := SOMEA.elim h
        exact .of (s := Instr.indexAt t (e.ev x) (e.ev i)) rfl ⟨_, fun w => by simp [Instr.indexAt, run_underlying' hu, hx, hi, asIntOf, hb, run_sizeOf' hti], h'⟩
      · exact False.elim h
    · rename_i n el p k iv hu hx hi
      split at h
      · rename_i ti hti
        obtain ⟨hb, h⟩ := h
        obtain ⟨a, rfl, h'⟩ := SOMEA.elim h
        exact .of (s := Instr.indexAt t (e.ev x) (e.ev i)) rfl ⟨_, fun w => by simp [Instr.indexAt, run_underlying' hu, hx, hi, asIntOf, Instr.sureAddr, hb, run_sizeOf' hti], h'⟩
      · exact False.elim h
    · exact False.elim h
  | index t x i =>
    simp only at h
    split at h
    · rename_i s k iv hu hx hi
      obtain ⟨⟨h0, h1⟩, h'⟩ := h
      exact .of (s := Instr.index t (e.ev x) (e.ev i)) rfl ⟨_, fun w => by rw [hx, hi]; exact index_str_run hu h0 h1, h'⟩
    · exact False.elim h
  | extract x i =>
    simp only at h
    split at h
    · rename_i vs hv
      obtain ⟨v, hv2, h⟩ := GETV.elim h
      have : vs[i]? = some v := by simpa using hv2
      exact .of rfl ⟨v, fun w => by rw [hv]; simp [Instr.extract, this], h⟩
    · exact False.elim h
  | call c =>
    obtain ⟨cal, args, ts⟩ := c
    cases cal with
    | builtin b =>
      obtain ⟨v, hr, hk⟩ := BLP_run (cs := args.map fun | .const _ => true | _ => false) h
      refine ⟨v, fun w => ?_, hk⟩
      have : execOp e.ev { dst := dst, op := Op.call { callee := .builtin b, args := args, argTypes := ts }, type := type, pos := pos, after := after, guard := guard } =
        builtin b ts type (args.map fun | .const _ => true | _ => false) ⟨vals e args⟩ := by
        rw [← vals_eq]
        rfl
      rw [this]
      exact hr w
    | _ => exact False.elim h
  | _ => exact False.elim h

theorem OPR_run {P : Program} {o : Oper} {e : Env} {w : World} {K : Value → (World → Prop) → Prop} (h : OPR P o e w K) :
    ∃ v p, (execOp e.ev o).run P w = .ok (.value v) w ∧ p w ∧ (∀ w', p w' → (execOp e.ev o).run P w' = .ok (.value v) w') ∧ K v p := by
  obtain ⟨dst, op, type, pos, after, guard⟩ := o
  unfold OPR at h
  have go : ∀ (s : Sem Value) (v : Value), execOp e.ev { dst := dst, op := op, type := type, pos := pos, after := after, guard := guard } = (do pure (Next.value (← s))) → s.run P w = .ok v w → K v (fun w' => s.run P w' = .ok v w') →
      ∃ v p, (execOp e.ev { dst := dst, op := op, type := type, pos := pos, after := after, guard := guard }).run P w = .ok (.value v) w ∧ p w ∧ (∀ w', p w' → (execOp e.ev { dst := dst, op := op, type := type, pos := pos, after := after, guard := guard }).run P w' = .ok (.value v) w') ∧ K v p := by
    intro s v hs hr hk
    exact ⟨v, _, by rw [hs]; exact Sem.run_v hr, hr, fun w' h' => by rw [hs]; exact Sem.run_v h', hk⟩
  cases op with
  | load t x =>
    simp only at h
    split at h
    · rename_i p hp
      obtain ⟨a, rfl, h'⟩ := SOMEA.elim h
      obtain ⟨v, hv, hk⟩ := LD_run h'
      have he : Instr.loadAt t (e.ev x) = loadVar t a := by rw [hp]; rfl
      exact go (loadVar t a) v (by rw [← he]; rfl) hv hk
    · exact False.elim h
  | lookup t m k ok =>
    obtain ⟨v, hr, h⟩ := h
    exact go (Instr.lookup t (e.ev m) (e.ev k) ok) v rfl hr (TYV.elim h)
  | binOp op t x y yt =>
    obtain ⟨b, hr, h⟩ := h
    exact go _ _ rfl hr h
  | call c =>
    obtain ⟨cal, args, ts⟩ := c
    cases cal with
    | builtin b =>
      cases b with
      | len =>
        obtain ⟨n, hr, h⟩ := h
        exact go (Builtin.len_ ts type ⟨vals e args⟩) _ (by rw [← vals_eq]; rfl) hr h
      | cap =>
        obtain ⟨n, hr, h⟩ := h
        exact go (Builtin.cap_ ts type ⟨vals e args⟩) _ (by rw [← vals_eq]; rfl) hr h
      | _ => exact False.elim h
    | _ => exact False.elim h
  | _ => exact False.elim h

set_option maxHeartbeats 1000000 in
theorem OPW_does {P : Program} {rest : List Oper} {o : Oper} {e : Env} {w : World} {K : Value → World → Prop} (h : OPW P rest o e w K) : Does P o e.ev w K := by
  obtain ⟨dst, op, type, pos, after, guard⟩ := o
  unfold OPW at h
  cases op with
  | alloc t =>
    simp only at h
    split at h
    · rename_i i hi
      split at h
      · rename_i z hz
        exact .val rfl ⟨_, _, by simp [Instr.alloc, run_zero' hi hz, newVar, newRow, newObj, Sem.run], h⟩
      · exact False.elim h
    · exact False.elim h
  | box t x => exact .val rfl ⟨_, _, by simp [Instr.box, newVar, newRow, newObj, Sem.run], h⟩
  | buildSlice t n ps =>
    simp only at h
    split at h
    · rename_i el hu
      split at h
      · rename_i x hx
        split at h
        · rename_i z hz
          cases hc : (Nat.ble (n * x.size) 16777216 && Nat.beq z.cells.toList.length x.size) with
          | false => rw [hc] at h; exact False.elim h
          | true =>
            rw [hc, cond_true] at h
            obtain ⟨cs, hf, h⟩ := SOMEL.elim h
            refine .val (s := Instr.buildSlice t n (ps.map fun (i, v) => (i, e.ev v))) rfl ⟨_, _, buildSlice_run hu hx hz hc ?_, h⟩
            rw [← hf]
            simp [parts]
        · exact False.elim h
      · exact False.elim h
    · exact False.elim h
  | store t x v =>
    simp only at h
    split at h
    · rename_i p hp
      obtain ⟨a, rfl, h2⟩ := SOMEA.elim h
      cases hi : P.info? t with
      | none => rw [hi] at h2; exact False.elim h2
      | some i =>
        rw [hi] at h2
        simp only [Option.map_some, Option.getD_some] at h2
        cases hs : i.size == (e.ev v).cells.toList.length with
        | false => rw [hs] at h2; exact False.elim h2
        | true =>
          rw [hs] at h2
          obtain ⟨u, w', hr, hk⟩ := ST_run P a _ 0 w _ h2
          have hz : (e.ev v).cells.size = i.size := by have := beq_iff_eq.1 hs; simpa using this.symm
          exact .unit rfl ⟨u, w', by rw [hp]; simp [Instr.storeAt, Instr.sureAddr, storeVar, run_sizeOf' hi, hz]; exact hr, hk⟩
    · exact False.elim h
  | convert s d x =>
    obtain ⟨v, w', hr, h⟩ := h
    exact .val rfl ⟨v, w', hr, TYV.elim h⟩
  | makeMap t r =>
    cases r with
    | none => exact .val rfl ⟨_, _, by simp [Instr.makeMap, newObj, Sem.run], h⟩
    | some _ => exact False.elim h
  | index t x i =>
    obtain ⟨v, w', hr, h⟩ := h
    exact .val rfl ⟨v, w', hr, TYV.elim h⟩
  | mapUpdate t m k x =>
    obtain ⟨v, w', hr, h⟩ := h
    exact .unit rfl ⟨v, w', hr, h⟩
  | range t x =>
    obtain ⟨v, w', hr, p, rfl, h⟩ := h
    exact .val rfl ⟨_, w', hr, h⟩
  | next it s =>
    cases s with
    | true => exact False.elim h
    | false =>
      obtain ⟨v, w', hr, b, r, rfl, h⟩ := h
      exact .val rfl ⟨_, w', hr, h⟩
  | entry it =>
    obtain ⟨v, w', hr, h⟩ := h
    obtain ⟨x, h⟩ := EX1.elim h
    obtain ⟨y, rfl, h'⟩ := EX1.elim h
    exact .val rfl ⟨_, w', hr, h'⟩
  | call c =>
    obtain ⟨cal, args, ts⟩ := c
    cases cal with
    | invoke r m => exact False.elim h
    | builtin b =>
      obtain ⟨v, w', hr, hk⟩ := BLW_run (cs := args.map fun | .const _ => true | _ => false) h
      refine .inl ⟨v, w', ?_, hk⟩
      have : execOp e.ev { dst := dst, op := Op.call { callee := .builtin b, args := args, argTypes := ts }, type := type, pos := pos, after := after, guard := guard } =
        builtin b ts type (args.map fun | .const _ => true | _ => false) ⟨vals e args⟩ := by
        rw [← vals_eq]
        rfl
      rw [this]
      exact hr
    | value f =>
      have known : ∀ g (fs cs : List Value), e.ev f = .func (.func g) ⟨fs⟩ ⟨cs⟩ → CALL P g (fs ++ vals e args ++ cs) w (fun v w' => TYV (vkOf P type) v fun v => K v w') → Does P { dst := dst, op := Op.call { callee := .value f, args := args, argTypes := ts }, type := type, pos := pos, after := after, guard := guard } e.ev w K := by
        intro g fs cs hf h
        have h3 : e.ev f = .func (.func g) fs.toArray cs.toArray := hf
        rcases h with ⟨h1, h2⟩ | ⟨v, w', h1, h2⟩
        · refine .inr (.inr (.inl ⟨_, _, w, ?_, h2.mono ?_⟩))
          · rw [← h1]
            simp only [execOp, resolve, h3, vals_eq, Deferred.ofValue]
            simp [invoke, vals]
          · intro en w' hen
            cases en with
            | returned v => exact TYV.elim (k := vkOf P type) (K := fun v => K v w') hen
            | _ => exact hen
        · refine .inl ⟨v, w', ?_, TYV.elim h2⟩
          rw [← h1]
          simp only [execOp, resolve, h3, vals_eq, Deferred.ofValue]
          simp [invoke, vals]
      simp only at h
      split at h
      · exact known _ [] [] rfl (by simpa using h)
      · rcases h with ⟨g, fs, cs, hf, h⟩ | ⟨l, fn, tmps, asn, body, hf, h1, h2⟩
        · exact known g fs cs hf h
        · refine .inr (.inr (.inr ⟨l, fn, tmps, asn, body, w, ?_, fun m => (h2 m).mono ?_⟩))
          · rw [← h1]
            simp only [execOp, resolve, hf, vals_eq, Deferred.ofValue]
            simp [invoke, vals]
          · intro en w' hen
            cases en with
            | returned v => exact TYV.elim (k := vkOf P type) (K := fun v => K v w') hen
            | _ => exact hen
  | makeInterface t x =>
    obtain ⟨v, w', hr, h⟩ := h
    exact .val rfl ⟨_, w', hr, h⟩
  | typeAssert x t u ok =>
    obtain ⟨v, w', hr, h⟩ := h
    exact .val rfl ⟨_, w', hr, TYV.elim h⟩
  | makeSlice t l c =>
    obtain ⟨v, w', hr, A, n, c, rfl, h⟩ := h
    exact .val rfl ⟨_, w', hr, h⟩
  | makeChan t l =>
    obtain ⟨v, w', hr, m, rfl, h⟩ := h
    exact .val rfl ⟨_, w', hr, h⟩
  | sliceToArrayPointer t l =>
    obtain ⟨v, w', hr, m, rfl, h⟩ := h
    exact .val rfl ⟨_, w', hr, h⟩
  | _ => exact False.elim h

theorem OPK_does {P : Program} {rest : List Oper} {o : Oper} {e : Env} {w : World} {K : Value → World → Prop} (h : OPK P rest o e w K) : Does P o e.ev w K := by
  unfold OPK at h
  split at h
  · obtain ⟨v, hr, hk⟩ := OPP_run h
    exact .inl ⟨v, w, hr w, hk⟩
  · obtain ⟨v, p, hr, _, _, hk⟩ := OPR_run h
    exact .inl ⟨v, w, hr, hk⟩
  · exact OPW_does h

end Go.SW
