/- The document's store beside the program's. -/
import Derived.Test.YtfhiffnfngpkeaaGreatDoorIs
set_option linter.unusedVariables false
namespace Go.SW
open Go Go.Proofs Pl

/-- the document's store in a block of the law's own, beside the store -/
structure Pair (X : Nat → Prop) (w : World) (k4 : Nat) (G : Nat → Prop) (M : Md) (A : Option Addr) (n c : Nat) (B : Option Addr) (nb cb : Nat) (E : Option Addr) (ne ce : Nat) : Prop where
  at4 : At w k4 (.cells ⟨[.slice A n c, .int .i64 M.n.next, .slice B nb cb, .slice E ne ce, .int .i64 M.next]⟩ 69 (0, 0))
  x4 : X k4
  n4 : k4 ≠ 1
  md : RMd w G M A n c B nb cb E ne ce
  gx : ∀ j, G j → X j
  g4 : ¬ G k4
theorem Pair.kept {X X' S : Nat → Prop} {w w' : World} {k4 : Nat} {G : Nat → Prop} {M : Md} {A : Option Addr} {n c : Nat} {B : Option Addr} {nb cb : Nat} {E : Option Addr} {ne ce : Nat} (h : Pair X w k4 G M A n c B nb cb E ne ce) (hk : Keep S w w') (hS : ∀ j, X j → ¬ S j) (hX : ∀ j, X j → X' j) : Pair X' w' k4 G M A n c B nb cb E ne ce :=
  ⟨hk.at_ h.at4 (hS _ h.x4), hX _ h.x4, h.n4, h.md.kept hk (fun j hj => hS j (h.gx j hj)), fun j hj => hX j (h.gx j hj), h.g4⟩

theorem ans_len {M : Md} (hb : Bd M) (o : Pl.Op) : (act M o).2.names.length < 1000000000 ∧ (act M o).2.hits.length < 1000000000 := by
  have z : ∀ e n : Int, ∀ t : Str, ((⟨e, n, t, [], []⟩ : Ans).names.length < 1000000000 ∧ (⟨e, n, t, [], []⟩ : Ans).hits.length < 1000000000) := fun _ _ _ => ⟨by simp, by simp⟩
  have zn : ∀ e : Int, (no e).names.length < 1000000000 ∧ (no e).hits.length < 1000000000 := fun e => z _ _ _
  have hn := hb.nlen
  unfold act
  split
  · unfold named
    split
    · by_cases h : (createN M.n o.box).2.2 = 0 <;> simp [h, no]
    · split
      · by_cases h : (deleteN M.n o.box).2.2 = 0 <;> simp [h, no]
      · by_cases h : (renameN M.n o.box o.to).2.2 = 0 <;> simp [h, no]
  split
  · simp; omega
  split
  · unfold search
    cases cleanW o.words with
    | none => exact zn _
    | some l =>
      simp only
      split
      · exact zn _
      · split
        · exact zn _
        · refine ⟨by simp, ?_⟩
          have := hitN_len hb o l M.n.l
          unfold hitN at this
          simp only
          omega
  split
  · exact z _ _ _
  split
  · unfold within
    cases hf : find M o.box with
    | none => exact zn _
    | some x =>
      have hx := hb.blen x (find_some hb.names hf)
      simp only
      split
      · exact z _ _ _
      split
      · unfold append
        split
        · exact zn _
        · by_cases h : (addB x M.next o.flags).2.2 = 0 <;> simp [h, no]
      split
      · unfold fetch
        cases findB x o.uid with
        | none => exact zn _
        | some e => exact z _ _ _
      split
      · unfold copy
        cases find M o.to with
        | none => exact zn _
        | some y =>
          simp only
          cases findB x o.uid with
          | none => exact zn _
          | some e =>
            simp only
            split
            · exact zn _
            · exact z _ _ _
      split
      · exact z _ _ _
      · have hl : (x.l.filter del8).length ≤ x.l.length := List.length_filter_le _ _
        unfold expunge expungeB
        simp only [List.length_map, List.length_nil]
        omega
  · exact zn _
end Go.SW
