/- words.rows as an iterator; words.Of; words.Has. -/
import Derived.Test.YtfhiffnfngpkeaaGreatDoorWords2
import Derived.Laws.IdiomStrings
set_option linter.unusedVariables false
namespace Go.SW
open Go Go.Proofs Pl

def Lby : Ly UInt8 := .of 1 (fun b => [.int .u8 (b.toNat : Int)]) (fun _ => rfl) (fun _ => rfl)
theorem Lby_plain : Lby.Plain := fun _ _ _ _ _ _ h => h
theorem T5 : ElemTy Lby 184 5 1 := ⟨by kernel_rfl, ⟨tinfo 5, (tinfo 5).zero.getD .nilIface, by kernel_rfl, by kernel_rfl, by kernel_rfl, by kernel_rfl, by kernel_rfl⟩, by omega, by show 0 < 1; omega⟩

theorem runs_drop_letter {t cur : Str} {i : Nat} {b : UInt8} (h : t[i]? = some b) (hl : letB (lowB b) = true) : runs (t.drop i) cur = runs (t.drop (i + 1)) (cur ++ [lowB b]) := by
  have hlt := (List.getElem?_eq_some_iff.1 h).1
  rw [List.drop_eq_getElem_cons hlt, (List.getElem?_eq_some_iff.1 h).2]
  simp [runs, hl]
theorem runs_drop_other {t cur : Str} {i : Nat} {b : UInt8} (h : t[i]? = some b) (hl : letB (lowB b) = false) : runs (t.drop i) cur = (if cur.isEmpty then [] else [cur.take 16]) ++ runs (t.drop (i + 1)) [] := by
  have hlt := (List.getElem?_eq_some_iff.1 h).1
  rw [List.drop_eq_getElem_cons hlt, (List.getElem?_eq_some_iff.1 h).2]
  simp [runs, hl]

theorem own_bytes {w : World} {e : TypeId} {F : Nat → Prop} {A : Option Addr} {n c : Nat} {xs : List UInt8} (h : Own Lby e w F A n c xs) {m : Nat} (hm : m ≤ n) (hm0 : 0 < n) : ∃ g, A = some ⟨g, 0, none⟩ ∧ ∀ j (hj : j < (xs.take m).length), w.cell? (Addr.add ⟨g, 0, none⟩ j) = some (.int .u8 ((xs.take m)[j].toNat : Int)) := by
  rcases h.row with ⟨rfl, h0⟩ | ⟨g, l, rfl, h2, h3, h4, h5⟩
  · have := h.cap; omega
  · refine ⟨g, rfl, fun j hj => ?_⟩
    have hjx : j < xs.length := by simp at hj; omega
    obtain ⟨cs, h6, h7⟩ := h5 j _ (List.getElem?_eq_getElem hjx)
    cases h7
    have h8 : (l.drop (0 + j * 1)).take 1 = [.int .u8 ((xs[j]).toNat : Int)] := h6
    rw [Nat.zero_add, Nat.mul_one] at h8
    have h9 : l[j]? = some (.int .u8 ((xs[j]).toNat : Int)) := by
      have := congrArg (fun z : List Value => z[0]?) h8
      simpa [List.getElem?_drop] using this
    rw [add_off, Nat.zero_add]
    rw [List.getElem_take]
    exact cell_at h3 h9

theorem rows_iter {w : World} {k1 : Nat} {t : Str} (ht : t.length < 1099511627776) (hk1 : At w k1 (.cells ⟨[.string (bs t)]⟩ 9 (0, 0))) :
    ITER (.func (.func 129) #[] ⟨[.pointer (some ⟨k1, 0, none⟩)]⟩) (fun s : Str => [.string (bs s)]) (fun vis x => ∃ r, vis ++ x :: r = runs t []) (fun vis => vis = runs t []) (fun k => k = k1) w := by
  refine ⟨129, _, rfl, by kernel_rfl, ?_⟩
  intro yv J F0 w1 hw1 hJ0 hframe hlt hsrc hstep
  have hk1' := hk1.no hw1
  have hk1lt := hk1'.lt
  refine c129 ?_
  unfold S129
  refine ⟨_, cell_at hk1' rfl, ?_⟩
  rw [bs_size, wrapS (by omega)]
  -- what holds between two bytes
  let Inv : Nat → List Str → (Nat → Prop) → Str → Option Addr → Nat → Nat → World → Prop := fun i vis F cur A n c w2 =>
    Own Lby 5 w2 No A n c cur ∧ (∀ j, ownBlk A j → ¬ F j ∧ w1.heap.size ≤ j) ∧ J vis F w2 ∧ Keep F0 w1 w2 ∧ (∀ j, F j → F0 j ∨ w1.heap.size ≤ j) ∧ cur.length ≤ i
  have hk1F : ∀ {F : Nat → Prop}, (∀ j, F j → F0 j ∨ w1.heap.size ≤ j) → ¬ F k1 := fun hF h => by
    rcases hF _ h with h | h
    · exact hsrc _ h rfl
    · omega
  have hat : ∀ {w2 : World}, Keep F0 w1 w2 → At w2 k1 (.cells ⟨[.string (bs t)]⟩ 9 (0, 0)) := fun hk => hk.at_ hk1' (fun h => hsrc _ h rfl)
  refine ⟨fun A n c x w2 => ∃ i vis F cur, x = (i : Nat) ∧ i ≤ t.length + 1 ∧ Inv i vis F cur A n c w2 ∧ (i ≤ t.length → vis ++ runs (t.drop i) cur = runs t []) ∧ (i = t.length + 1 → vis = runs t []),
    fun _ _ _ x _ => (((t.length + 1 : Nat) : Int) - x).toNat, ⟨0, [], F0, [], rfl, by omega, ⟨Own.nil _ _ _ _, fun j h => False.elim h, hJ0, Keep.refl _ _, fun j h => .inl h, Nat.le_refl _⟩, by simp, by omega⟩, ?_⟩
  rintro _ A n c x w2 ⟨i, vis, F, cur, rfl, hi, ⟨o, hA, hJ, hk, hF, hcl⟩, hr1, hr2⟩
  refine split_dec (fun hlt' => ?_) (fun hge => ?_)
  · have hil : i ≤ t.length := by omega
    have hcur := o.len
    -- the cut: no letter here, or the end
    refine ⟨fun A' n' c' w3 => A' = A ∧ n' = n ∧ c' = c ∧ w3 = w2 ∧ (i < t.length → ∃ b, t[i]? = some b ∧ letB (lowB b) = false), ?_, ?_⟩
    · refine ⟨_, cell_at (hat hk) rfl, ?_⟩
      rw [bs_size]
      refine split_dec (fun h1 => ?_) (fun h1 => ⟨rfl, rfl, rfl, rfl, fun h => by omega⟩)
      have h1' : i < t.length := by omega
      have hb : t[i]? = some t[i] := List.getElem?_eq_getElem h1'
      refine ⟨_, cell_at (hat hk) rfl, ⟨by omega, by rw [bs_size]; exact h1⟩, ?_⟩
      rw [bt_bs t i hb]
      refine CALL.i (words_low t[i] w2) (by kernel_rfl) ?_
      rintro r w3 ⟨rfl, rfl⟩
      refine ⟨_, rfl, ?_⟩
      refine CALL.i (words_letter (lowB t[i]) w3) (by kernel_rfl) ?_
      rintro r w4 ⟨rfl, rfl⟩
      refine ⟨_, rfl, split_i (fun hl => ?_) (fun hl => ⟨rfl, rfl, rfl, rfl, fun _ => ⟨_, hb, hl⟩⟩)⟩
      refine ⟨_, cell_at (hat hk) rfl, ⟨by omega, by rw [bs_size]; exact h1⟩, ?_⟩
      rw [bt_bs t i hb]
      refine CALL.i (words_low t[i] w4) (by kernel_rfl) ?_
      rintro r w5 ⟨rfl, rfl⟩
      refine ⟨_, rfl, ?_⟩
      refine NEW.i fun b w6 hb6 hs6 k6 a6 => ?_
      refine append_one T5 (o.no k6) a6 (x := lowB t[i]) rfl (by omega) ?_ (fun k hk => False.elim hk)
      intro A' c' w7 k7 hb7 hs7 o7
      have hkF : Keep (ownBlk A) w5 w7 := k6.no.trans k7
      refine ⟨_, _, _, rfl, ⟨i + 1, vis, F, cur ++ [lowB t[i]], wrapS (by omega), by omega, ⟨o7, ?_, ?_, ?_, hF, by simp; omega⟩, ?_, fun he => by omega⟩, mu_go (wrapS (by omega)) (by omega)⟩
      · intro j hj
        rcases hb7 j hj with h | h
        · exact hA j h
        · have h5 : w5.heap.size ≤ j := by have := k6.size; omega
          exact ⟨fun hf => by have := hlt _ _ _ j hJ hf; omega, by have := hk.size; omega⟩
      · exact hframe _ _ _ _ hJ (fun j hj => hkF.keep j (hj.elim (hlt _ _ _ j hJ) (fun h => by have := hk.size; omega)) (fun h => hj.elim (hA j h).1 (fun h' => by have := (hA j h).2; omega))) hkF.size
      · exact hk.fresh hkF (fun j hj => (hA j hj).2)
      · intro _
        rw [← runs_drop_letter hb hl]
        exact hr1 hil
    · rintro _ A' n' c' w3 ⟨rfl, rfl, rfl, rfl, hno⟩
      have hruns : vis ++ ((if cur.isEmpty then [] else [cur.take 16]) ++ runs (t.drop (i + 1)) []) = runs t [] ∧ (i = t.length → vis ++ (if cur.isEmpty then [] else [cur.take 16]) = runs t []) := by
        have h0 := hr1 hil
        rcases Nat.lt_or_ge i t.length with h1 | h1
        · obtain ⟨b, hb, hl⟩ := hno h1
          rw [runs_drop_other hb hl] at h0
          exact ⟨h0, fun he => by omega⟩
        · have hid : i = t.length := by omega
          have e1 : t.drop i = [] := by rw [hid]; simp
          have e2 : t.drop (i + 1) = [] := by rw [hid]; simp
          rw [e1] at h0
          rw [e2]
          have e3 : runs [] ([] : Str) = [] := rfl
          have e4 : runs [] cur = if cur.isEmpty then [] else [cur.take 16] := rfl
          rw [e3, List.append_nil]
          rw [e4] at h0
          exact ⟨h0, fun _ => h0⟩
      refine split_dec (fun hn0 => ?_) (fun hn0 => ?_)
      · have hn0' : 0 < n' := by omega
        have hne : cur.isEmpty = false := by
          cases cur with
          | nil => simp at hcur; omega
          | cons _ _ => rfl
        rw [hne] at hruns
        simp only [Bool.false_eq_true, if_false] at hruns
        have hmin : (if (16 : Int) < ((n' : Nat) : Int) then (16 : Int) else ((n' : Nat) : Int)) = ((min 16 n' : Nat) : Int) := by
          split <;> omega
        rw [hmin]
        have hcap := o.cap
        refine ⟨⟨by omega, by omega⟩, ?_⟩
        obtain ⟨g, hg, hcells⟩ := own_bytes o (m := min 16 n') (Nat.min_le_right _ _) hn0'
        subst hg
        have hW : cur.take (min 16 n') = cur.take 16 := by
          rw [← hcur]
          simp [List.take_eq_take_iff]
        rw [hW] at hcells
        have hWl : (cur.take 16).length = min 16 n' := by rw [List.length_take, hcur]
        have hS : SLA (some (⟨g, 0, none⟩ : Addr)) c' 0 1 = some ⟨g, 0, none⟩ := by
          unfold SLA
          split
          · rfl
          · simp [add_off]
        rw [hS, Int.toNat_natCast, Nat.sub_zero, ← hWl]
        refine ⟨_, w3, run_convert_bytes_back w3 184 9 5 ⟨g, 0, none⟩ _ (cur.take 16) (by kernel_rfl) (by kernel_rfl) (by kernel_rfl) hcells, _, rfl, ?_⟩
        refine CALLV.mono (hstep vis F w3 (cur.take 16) hJ ⟨_, hruns.1⟩) ?_
        rintro r w4 ⟨rfl, k4, F', hJ4, hF'⟩
        refine ⟨_, rfl, split_i (fun hc => by cases hc) (fun _ => ?_)⟩
        refine ⟨⟨i + 1, vis ++ [cur.take 16], F', [], wrapS (by omega), by omega, ⟨Own.nil _ _ _ _, fun j h => False.elim h, hJ4, ?_, ?_, by simp⟩, fun _ => by simpa using hruns.1, fun he => hruns.2 (by omega)⟩, mu_go (wrapS (by omega)) (by omega)⟩
        · exact hk.trans' k4 (fun j hj hFj => (hF j hFj).resolve_right (by omega))
        · intro j hj
          rcases hF' j hj with h | h
          · exact hF j h
          · exact .inr (by have := hk.size; omega)
      · have hcn : cur = [] := List.eq_nil_of_length_eq_zero (by omega)
        subst hcn
        simp only [List.isEmpty_nil, if_true, List.nil_append, List.append_nil] at hruns
        refine ⟨⟨i + 1, vis, F, [], wrapS (by omega), by omega, ⟨Own.nil _ _ _ _, fun j h => False.elim h, hJ, hk, hF, by simp⟩, fun _ => hruns.1, fun he => hruns.2 (by omega)⟩, mu_go (wrapS (by omega)) (by omega)⟩
  · have hie : i = t.length + 1 := by omega
    exact ⟨hk, vis, F, hr2 hie, hJ, hF⟩
end Go.SW
