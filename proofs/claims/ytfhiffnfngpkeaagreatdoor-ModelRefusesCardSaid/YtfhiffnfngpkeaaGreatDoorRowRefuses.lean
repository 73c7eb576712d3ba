/- ModelRefuses (sealwaxlaw19): an op with an error, or that only asks, changes nothing: true for every list of ops. No condition. -/
import Derived.Test.YtfhiffnfngpkeaaGreatDoorLaid
import Derived.Test.YtfhiffnfngpkeaaGreatDoorLaw8
set_option linter.unusedVariables false
namespace Go.Proofs.YtfhiffnfngpkeaaGreatDoor
open Go Go.SW Go.ChangeShapes Go.WideShapes Go.ChangeAt Go.RowKit

set_option maxRecDepth 100000 in
theorem refuses_witness (os : Os) {H : Type} (enc : TypeId × Value → H) :
    (OpenSpec.ofChange Rows.modelRefusesSpec).preRow enc Tryz.prog Tryz.f8 Rows.modelRefusesRow.domain false Rows.modelRefusesRow.laid ((laidWorld os).forCall (fun _ _ => 0) ⟨#[], #[.slice none 0 0], []⟩).memory #[.slice none 0 0] := by
  have hw : (DataW.whole enc Tryz.prog ((laidWorld os).forCall (fun _ _ => 0) ⟨#[], #[.slice none 0 0], []⟩).memory Tryz.f8.params.toList (OpenSpec.ofChange Rows.modelRefusesSpec).vars false #[Value.slice none 0 0].toList 8).map (fun x => (x.1, x.2.1)) =
      some ([.nil], []) := by kernel_rfl
  obtain ⟨⟨x1, x2, x3⟩, hx, hx1⟩ := Option.map_eq_some_iff.1 hw
  simp only [Prod.mk.injEq] at hx1
  obtain ⟨rfl, rfl⟩ := hx1
  exact OpenSpec.preRow_of_cond 8 hx (by kernel_rfl) (fun k hk => by cases hk) (by kernel_rfl) (laid_met os _)

set_option maxRecDepth 100000 in
set_option maxHeartbeats 2000000 in
theorem refuses_lifted (os : Os) (started : os.Started) (H : Type) (enc : TypeId × Value → H) (F : Stop.Interp) :
    ReturnsInHanded {} Tryz.checked os 8 .any ((OpenSpec.ofChange Rows.modelRefusesSpec).preRow enc Tryz.prog Tryz.f8 Rows.modelRefusesRow.domain false Rows.modelRefusesRow.laid) (((OpenSpec.ofChange Rows.modelRefusesSpec).at F).post enc Tryz.prog Tryz.f8 false true false false) := by
  refine returnsInHanded_of_row (C := Tryz.checked) (s := OpenSpec.ofChange Rows.modelRefusesSpec) own started (by kernel_rfl) Tryz.func8
    (witness_row_at (enc := enc) (C := Tryz.checked) false (laidWorld os) #[.slice none 0 0] rfl (by kernel_rfl) (by kernel_rfl) (by kernel_rfl) (refuses_witness os enc)) ?_
  intro W base args ds gs before hval0 hW _ hcond0 hsz0 hL hsh _
  have hval : ∀ (j : Nat) t v, Tryz.f8.params[j]? = some t → args[j]? = some v → Value.okWide Tryz.prog W .any base t v := hval0
  have hW' := hW
  obtain ⟨p, q, hA0, hV0, rfl, _, _⟩ := hW
  have hA : DataW.TrodAll enc Tryz.prog W 0 (fun _ => true) true Tryz.f8.params.toList args.toList ds p := hA0
  rw [Tryz.params8] at hA hval
  obtain ⟨v0, d0, rfl, rfl, h0⟩ := trodAll_one hA
  obtain ⟨rfl, rfl⟩ := trodVars_none hV0
  obtain ⟨a0, l0, k0, rfl⟩ := okWide_slice u22 (hval 0 22 v0 rfl rfl)
  have h0k := h0
  obtain ⟨fuel0, hf0⟩ := h0
  simp only [List.append_nil] at hW'
  have hlt : ∀ y ∈ p, y.block < W.heap.size := fun y hy => by simpa using hW'.lt y hy
  obtain ⟨A0, n0, c0, xs0, hcs0, hS0⟩ := open_ops hf0
  simp only [Value.cells, List.cons.injEq, Value.slice.injEq, and_true] at hcs0
  obtain ⟨rfl, rfl, rfl⟩ := hcs0
  obtain ⟨hg, h1w⟩ := glob_of hsh
  refine (modelRefuses_walk hg h1w hS0 (fun j hj => hj)).mono ?_
  rintro e W' he
  cases e with
  | returned v =>
    obtain ⟨rfl, hk⟩ := he
    have bel := hk.below
    have e1 : ((OpenSpec.ofChange Rows.modelRefusesSpec).at F).fn H ([d0] ++ []) = { results := [.lit (.bool true)], args := [d0] } := rfl
    obtain ⟨ps, res0⟩ : ∃ ps, DataW.Trod enc Tryz.prog W' W.heap.size (fun _ => false) false 4 (.bool true) (.lit (.bool true)) ps := ⟨_, shut_bool u4 true⟩
    refine ⟨_, rfl, _, _, _, ps, p, [], hW', ?_, ?_, ?_, bel.frame _, fun h => by cases h⟩
    · rw [e1]; exact trodAll_mk1 res0
    · have t2 := trodAll_mk1 (Below.trod laidOut (by kernel_rfl) (of_decide_eq_true (by kernel_rfl)) h0k bel hlt)
      rw [e1]; exact t2
    · rw [e1]; rfl
  | _ => exact False.elim he

theorem refuses_row : Rows.ModelRefusesSaid :=
  OpenClaim.holds_of_cond 8 Tryz.f8 rfl rfl rfl rfl rfl rfl rfl ⟨rfl, rfl, rfl, rfl, rfl⟩ rfl rfl rfl rfl rfl (by kernel_rfl) Tryz.func8 (by kernel_rfl)
    (of_decide_eq_true (by kernel_rfl)) (by unfold Func.isWrapper; rw [if_neg (of_decide_eq_false (by kernel_rfl))]; exact ⟨rfl, rfl⟩)
    (fun os started H enc _ F0 => by rw [OpenClaim.pre_eq_preRow]; exact refuses_lifted os started H enc F0)

theorem refuses_card : Rows.ModelRefusesCardSaid :=
  Claim7.holds_tied_plain_at .later [] [.data, .data, .data] true (true, "b9d96cc3dd80722ff0fdd43e96982dbd2ddb115fd917d8db3f1b404f79f83d8c") true
    refuses_row (fun _ h => by cases h) (by kernel_rfl) (fun _ h => by cases h) modelRefuses_row_tie rfl ⟨rfl, rfl⟩ (by kernel_rfl) rfl
    (fun f fn hf hfn => by
      obtain rfl : f = 8 := Option.some.inj ((show Tryz.prog.funcNamed "sealwax/sealwaxlaw19.ModelRefuses" = some 8 by kernel_rfl).symm.trans hf) |>.symm
      obtain rfl : fn = Tryz.f8 := (Option.some.inj (Tryz.func8.symm.trans hfn)).symm
      exact ⟨by kernel_rfl, fun j t ht => by
        rw [Tryz.params8] at ht
        have h3 : t = 22 := by
          rcases j with _ | j
          · have h9 := ht.symm; simp at h9; first | exact h9 | exact .inl h9 | exact .inr h9 | exact .inr (.inl h9) | exact .inr (.inr h9)
          · simp at ht
        subst h3
        exact (show Tryz.prog.wantsStandIn 22 = false by kernel_rfl)⟩)
    (by kernel_rfl)
#print axioms refuses_card
end Go.Proofs.YtfhiffnfngpkeaaGreatDoor
