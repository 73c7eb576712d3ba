/- The seat's program behind a short name, and two facts on it. -/
import Derived.Test.YtfhiffnfngpkeaaGreatDoorVcRange
import Derived.Test.YtfhiffnfngpkeaaGreatDoorProg
namespace Go.SW
open Go Go.Proofs

abbrev OA := Option Addr
noncomputable abbrev PP : Program := Tryz.prog
theorem follows_ : PP.follows .mixedOrders = true := by kernel_rfl
def callable (P : Program) (f : FuncId) : Bool := match P.funcs[f]? with
  | some fn => !(fn.name == "runtime.NumGoroutine") && fn.body.isSome
  | none => false
theorem callable_run {P : Program} {f : FuncId} {l : List Value} {w : World} (h : callable P f = true) : (callFunc f ⟨l⟩).run P w = .ok (.enter f ⟨l⟩) w := by
  unfold callable at h
  split at h
  · rename_i fn hf
    simp only [Bool.and_eq_true, Bool.not_eq_true'] at h
    have hb : ¬ fn.body = none := fun hh => by rw [hh] at h; simp at h
    have hn : ¬ fn.name = "runtime.NumGoroutine" := by simpa using h.1
    simp [callFunc, program, Sem.run, bind, Sem.bind, hf, hn, hb]
  · cases h
theorem callable_ {f : FuncId} {l : List Value} {w : World} (h : callable PP f = true) : (callFunc f ⟨l⟩).run PP w = .ok (.enter f ⟨l⟩) w := callable_run h

end Go.SW
