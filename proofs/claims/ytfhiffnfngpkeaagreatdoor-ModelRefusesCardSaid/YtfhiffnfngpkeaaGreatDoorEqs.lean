/- Equality of structs of numbers, texts and truth values. -/
import Derived.Test.YtfhiffnfngpkeaaGreatDoorUtil
import Derived.Laws.StructEq
import Derived.ChangeKeysEq
set_option linter.unusedVariables false
namespace Go.SW
open Go Go.Proofs

def eqF (P : Program) : List Field → List Value → List Value → Option Bool
  | [], _, _ => some true
  | f :: fs, xs, ys => cond (f.name == "_" || !P.plainKey f.type) none (match P.underlying f.type, xs[f.offset]?, ys[f.offset]? with
    | some (.int k), some (.int k1 a), some (.int k2 b) => cond (k1 == k2) ((eqF P fs xs ys).map fun r => (a == b) && r) none
    | some .string, some (.string a), some (.string b) => (eqF P fs xs ys).map fun r => (a.toList == b.toList) && r
    | some .bool, some (.bool a), some (.bool b) => (eqF P fs xs ys).map fun r => (a == b) && r
    | _, _, _ => none)

theorem eqF_run {P : Program} (d : Nat) (xs ys : List Value) (w : World) : ∀ (fs : List Field) (r : Bool), eqF P fs xs ys = some r → (Op.eqFields (d + 1) ⟨xs⟩ ⟨ys⟩ fs).run P w = .ok r w
  | [], r, h => by
    simp [eqF] at h
    subst h
    rfl
  | f :: fs, r, h => by
    unfold eqF at h
    cases hc : (f.name == "_" || !P.plainKey f.type) with
    | true => rw [hc] at h; cases h
    | false =>
      rw [hc] at h
      simp only [cond_false] at h
      have hn : f.name ≠ "_" := by
        intro he
        rw [he] at hc
        simp at hc
      have hp : P.plainKey f.type = true := by
        cases hp : P.plainKey f.type with
        | true => rfl
        | false => rw [hp] at hc; simp at hc
      have step : ∀ (v u : Value) (q : Bool), xs[f.offset]? = some v → ys[f.offset]? = some u → (Op.equalIn (d + 1) f.type v u).run P w = .ok q w → (∀ s, eqF P fs xs ys = some s → r = (q && s)) → (∃ s, eqF P fs xs ys = some s) → (Op.eqFields (d + 1) ⟨xs⟩ ⟨ys⟩ (f :: fs)).run P w = .ok r w := by
        intro v u q hv hu hq hr hs
        obtain ⟨s, hs⟩ := hs
        have hr := hr s hs
        have h1 : (⟨xs⟩ : Array Value)[f.offset]? = some v := by simpa using hv
        have h2 : (⟨ys⟩ : Array Value)[f.offset]? = some u := by simpa using hu
        rw [Op.eqFields, if_pos hn]
        simp only [Sem.run_bind, run_part_plain w hp h1, run_part_plain w hp h2, hq, Result.andThen_ok]
        cases q with
        | false => simp [hr]
        | true =>
          have := eqF_run d xs ys w fs s hs
          simp [hr, this]
      split at h
      · rename_i k k1 a k2 b h1 h2 h3
        cases hk : (k1 == k2) with
        | false => rw [hk] at h; cases h
        | true =>
          rw [hk] at h
          have hk' : k1 = k2 := by simpa using hk
          subst hk'
          simp only [cond_true, Option.map_eq_some_iff] at h
          obtain ⟨s, hs, rfl⟩ := h
          exact step _ _ _ h2 h3 (run_equalIn_int w d f.type k1 k a b h1) (fun s' hs' => by rw [hs] at hs'; cases hs'; rfl) ⟨s, hs⟩
      · rename_i a b h1 h2 h3
        simp only [Option.map_eq_some_iff] at h
        obtain ⟨s, hs, rfl⟩ := h
        exact step _ _ _ h2 h3 (run_equalIn_string w d f.type a b h1) (fun s' hs' => by rw [hs] at hs'; cases hs'; rfl) ⟨s, hs⟩
      · rename_i a b h1 h2 h3
        simp only [Option.map_eq_some_iff] at h
        obtain ⟨s, hs, rfl⟩ := h
        exact step _ _ _ h2 h3 (run_equalIn_bool' w d f.type a b h1) (fun s' hs' => by rw [hs] at hs'; cases hs'; rfl) ⟨s, hs⟩
      · cases h

structure StructTy (P : Program) (t : TypeId) (fs : List Field) : Prop where
  und : P.underlying t = some (.struct (P.fieldsOf t))
  fields : (P.fieldsOf t).toList = fs
  stood : P.stoodInHeld t = false
  guard : P.eqGuardType P.depth t = false
theorem run_struct_eql {P : Program} {t : TypeId} {fs : List Field} (T : StructTy P t fs) {xs ys : List Value} {r : Bool} (h : eqF P fs xs ys = some r) (w : World) (xo yo : Operand) :
    (do eqGuard .eql t xo yo (.agg ⟨xs⟩) (.agg ⟨ys⟩); binOp .eql t (.agg ⟨xs⟩) (.agg ⟨ys⟩) : Sem Value).run P w = .ok (.bool r) w := by
  simp only [Sem.run_bind, run_eqGuard_agg w .eql t xo yo _ _ T.guard, Result.andThen_ok, run_eql_struct]
  rw [run_equalIn_struct w 9999 t _ _ T.und T.stood, T.fields, eqF_run 9998 xs ys w fs r h]
  rfl
end Go.SW
