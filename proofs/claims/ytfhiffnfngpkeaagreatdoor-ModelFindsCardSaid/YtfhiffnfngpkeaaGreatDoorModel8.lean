/- The store: within, Do. -/
import Derived.Test.YtfhiffnfngpkeaaGreatDoorModel7
set_option linter.unusedVariables false
namespace Go.SW
open Go Go.Proofs Pl

section
variable {w : World} {k : Nat} {ow : Nat → Tag} {M : Md} {kn bb mb : Nat} {pt : Int → Nat}

theorem model_within (h : IsModel w k ow M kn bb mb pt) (hb : Bd M) (o : Pl.Op) {A : Option Addr} {n c : Nat} (ho : OpAt w o A n c) (hkind : 5 ≤ o.kind ∧ o.kind ≤ 11) :
    Calls PP 34 #[.pointer (some ⟨k, 0, none⟩), .agg ⟨ocells o A n c⟩] w (Ret fun r w' => DoneAct w k ow kn bb mb (within M o).1 (within M o).2 r w') := by
  refine c34 ?_
  unfold S34
  refine NEW.i fun k3 w1 hk3 hs1 q1 a1 => NEW.i fun k4 w2 hk4 hs2 q2 a2 => ?_
  have h12 := q1.trans q2
  have b1 := a1.no q2
  have g2 := h.no h12
  have o4 : ow k4 = .out := h.new_out (by omega)
  refine ⟨_, cell_at b1 rfl, ?_⟩
  refine CALL.i (model_find g2 hb.names o.box) (by kernel_rfl) ?_
  rintro r w3 ⟨rfl, hr⟩
  cases hf : find M o.box with
  | none =>
    rw [hf] at hr
    obtain ⟨p, rfl⟩ := hr
    refine ⟨_, _, rfl, split_i (fun _ => ?_) (fun hc => by cases hc)⟩
    have he : within M o = (M, no 5) := by unfold within; rw [hf]
    rw [he]
    exact call_no 5 g2 h12.no (by omega) a2 rfl o4
  | some x =>
    rw [hf] at hr
    obtain ⟨rfl, hx⟩ := hr
    refine ⟨_, _, rfl, split_i (fun hc => by cases hc) (fun _ => ?_)⟩
    have hbl : ∀ z ∈ M.b, z.l.length < 10000 := fun z hz => by have := hb.blen z hz; omega
    have hbn : ∀ z ∈ M.b, 0 ≤ z.next ∧ z.next < 4611686018427387904 := fun z hz => by have := hb.bnext z hz; omega
    have hxl := hb.blen x hx
    have hxn := hb.bnext x hx
    have hxv := hb.bval x hx
    have hnn := hb.nnext
    have hw : within M o = if o.kind = 5 then (M, status x) else if o.kind = 6 then append M x o else if o.kind = 7 then (M, fetch M x o) else if o.kind = 8 ∨ o.kind = 9 then copy M x o
        else if o.kind = 10 then (if (setB x o.uid o.flags o.off).2.2 ≠ 0 then M else setBox M (setB x o.uid o.flags o.off).1, ⟨(setB x o.uid o.flags o.off).2.2, (setB x o.uid o.flags o.off).2.1.flags, [], [], []⟩) else expunge M x o.box := by
      unfold within; rw [hf]
    rw [hw]
    refine ⟨fun w4 => w4 = w3 ∧ o.kind = 11, ?_, ?_⟩
    · refine ⟨_, cell_at b1 rfl, split_i (fun h5 => ?_) (fun h5 => split_i (fun h6 => ?_) (fun h6 => split_i (fun h7 => ?_) (fun h7 => ?_)))⟩
      · have e5 : o.kind = 5 := by simpa using h5
        rw [if_pos e5]
        refine CALL.i (model_status (g2.box x hx) (hb.bflags x hx) hxl (by omega) (by omega)) (by kernel_rfl) ?_
        rintro r w4 ⟨rfl, q4⟩
        have hans : status x = ⟨0, x.l.length, (status x).text, [], []⟩ := rfl
        refine pass_ans (M' := M) (a := status x) h12.no (DoneAct.same (a := status x) g2 q4 ?_) (by omega) a2 rfl o4
        rw [hans]
        exact IsAns.flat w4 _ 0 x.l.length _
      · have e5 : ¬ o.kind = 5 := by simpa using h5
        have e6 : o.kind = 6 := by simpa using h6
        rw [if_neg e5, if_pos e6]
        refine ⟨_, _, _, _, _, _, _, _, _, _, RD.i b1, ?_⟩
        refine CALL.i (model_append g2 hx (by omega) (by omega) (by omega) (by have := hb.next; omega) (by have := hb.next; omega) hb.fresh o (by have := ho.text; omega) A n c) (by kernel_rfl) ?_
        intro r w4 hd
        exact pass_ans h12.no hd (by omega) a2 rfl o4
      · have e5 : ¬ o.kind = 5 := by simpa using h5
        have e6 : ¬ o.kind = 6 := by simpa using h6
        have e7 : o.kind = 7 := by simpa using h7
        rw [if_neg e5, if_neg e6, if_pos e7]
        refine ⟨_, _, _, _, _, _, _, _, _, _, RD.i b1, ?_⟩
        refine CALL.i (model_fetch g2 hx (by omega) o A n c) (by kernel_rfl) ?_
        intro r w4 hd
        exact pass_ans h12.no hd (by omega) a2 rfl o4
      · have e5 : ¬ o.kind = 5 := by simpa using h5
        have e6 : ¬ o.kind = 6 := by simpa using h6
        have e7 : ¬ o.kind = 7 := by simpa using h7
        rw [if_neg e5, if_neg e6, if_neg e7]
        refine ⟨fun b w4 => w4 = w3 ∧ b = decide (o.kind = 8 ∨ o.kind = 9), ?_, ?_⟩
        · refine split_i (fun h8 => ⟨rfl, ?_⟩) (fun h8 => ⟨rfl, ?_⟩)
          · have : o.kind = 8 := by simpa using h8
            simp [this]
          · have h8' : ¬ o.kind = 8 := by simpa using h8
            by_cases h9 : o.kind = 9
            · simp [h9]
            · rw [decide_eq_false (by omega)]
              simpa using h9
        · rintro _ b w4 ⟨rfl, rfl⟩
          refine split_i (fun h8 => ?_) (fun h8 => split_i (fun h10 => ?_) (fun h10 => ?_))
          · have e8 : o.kind = 8 ∨ o.kind = 9 := of_decide_eq_true h8
            rw [if_pos e8]
            refine ⟨_, _, _, _, _, _, _, _, _, _, RD.i b1, ?_⟩
            refine CALL.i (model_copy g2 hb.names hx hbl hbn o A n c) (by kernel_rfl) ?_
            intro r w5 hd
            exact pass_ans h12.no hd (by omega) a2 rfl o4
          · have e8 : ¬ (o.kind = 8 ∨ o.kind = 9) := of_decide_eq_false h8
            have e10 : o.kind = 10 := by simpa using h10
            rw [if_neg e8, if_pos e10]
            refine ⟨_, cell_at b1 rfl, _, cell_at b1 rfl, _, cell_at b1 rfl, ?_⟩
            refine CALL.i (box_set (g2.box x hx) (hb.bflags x hx) (by omega) o.uid o.flags o.off) (by kernel_rfl) ?_
            rintro r w5 ⟨rfl, q5, g5⟩
            refine ⟨_, _, _, _, rfl, ?_⟩
            obtain ⟨ow', e1, e2, h5m⟩ := g2.setBox hx (setB_validity x o.uid o.flags o.off) No q5 (g5.mono fun j hj => .inl hj)
            refine NEW.i fun k7 w6 hk7 hs6 q6 a6 => ?_
            refine ST.i a6 (Nat.le_refl _) rfl fun w7 hs7 q7 a7 => ?_
            have q57 : Keep No w5 w7 := q6.tmp q7 (Nat.le_of_eq hk7)
            refine ⟨_, cell_at a7 rfl, ?_⟩
            have hne : ow k4 ≠ .box x.validity := by rw [o4]; intro h; cases h
            have d4 := (q5.at_ a2 hne).no q57
            have hkF : Keep (Fp ow) w w7 := (h12.no.trans (q5.mono fun j _ hj => Fp_box hj)).and_no q57
            have hfin : (if (setB x o.uid o.flags o.off).2.2 ≠ 0 then M else setBox M (setB x o.uid o.flags o.off).1) = setBox M (setB x o.uid o.flags o.off).1 := by
              split
              · rename_i hne0
                have : (setB x o.uid o.flags o.off).1 = x := by
                  unfold setB at hne0 ⊢
                  split
                  · rfl
                  · split
                    · rfl
                    · rename_i e hfe hg
                      rw [hfe] at hne0
                      simp only [if_neg hg] at hne0
                      exact absurd rfl hne0
                rw [this, setBox_self g2.vnodup hx]
              · rfl
            rw [hfin]
            refine flat_ans (t := []) hkF (h5m.no q57) (fun j hj hj' => (e2 j (fun h => h)).trans hj') (by omega) d4 rfl ((e2 k4 (fun h => h)).trans o4)
          · have e8 : ¬ (o.kind = 8 ∨ o.kind = 9) := of_decide_eq_false h8
            have e10 : ¬ o.kind = 10 := by simpa using h10
            exact ⟨rfl, by omega⟩
    · rintro _ w4 ⟨rfl, e11⟩
      rw [if_neg (by omega), if_neg (by omega), if_neg (by omega), if_neg (by omega), if_neg (by omega)]
      refine ⟨_, cell_at b1 rfl, ?_⟩
      refine CALL.i (model_expunge g2 hx (hb.bflags x hx) hbl o.box) (by kernel_rfl) ?_
      intro r w5 hd
      exact pass_ans h12.no hd (by omega) a2 rfl o4

theorem model_do (h : IsModel w k ow M kn bb mb pt) (hg : Glob w) (ho1 : ow 1 = .out) (hb : Bd M) (o : Pl.Op) {A : Option Addr} {n c : Nat} (ho : OpAt w o A n c) :
    Calls PP 13 #[.pointer (some ⟨k, 0, none⟩), .agg ⟨ocells o A n c⟩] w (Ret fun r w' => DoneAct w k ow kn bb mb (act M o).1 (act M o).2 r w') := by
  refine c13 ?_
  unfold S13
  refine NEW.i fun k3 w1 hk3 hs1 q1 a1 => NEW.i fun k4 w2 hk4 hs2 q2 a2 => ?_
  have h12 := q1.trans q2
  have b1 := a1.no q2
  have g2 := h.no h12
  have o4 : ow k4 = .out := h.new_out (by omega)
  have ho2 := ho.no h12
  refine ⟨_, cell_at b1 rfl, ?_⟩
  refine ⟨fun b w3 => w3 = w2 ∧ b = decide (o.kind = 1 ∨ o.kind = 2 ∨ o.kind = 3), ?_, ?_⟩
  · refine split_i (fun h1 => ⟨rfl, ?_⟩) (fun h1 => split_i (fun h2 => ⟨rfl, ?_⟩) (fun h2 => ⟨rfl, ?_⟩))
    · have : o.kind = 1 := by simpa using h1
      simp [this]
    · have : o.kind = 2 := by simpa using h2
      simp [this]
    · have h1' : ¬ o.kind = 1 := by simpa using h1
      have h2' : ¬ o.kind = 2 := by simpa using h2
      by_cases h3 : o.kind = 3
      · simp [h3]
      · rw [decide_eq_false (by omega)]
        simpa using h3
  · rintro _ b w3 ⟨rfl, rfl⟩
    refine split_i (fun h1 => ?_) (fun h1 => ?_)
    · have e1 := of_decide_eq_true h1
      have ha : act M o = named M o := if_pos e1
      rw [ha]
      refine ⟨_, _, _, _, _, _, _, _, _, _, RD.i b1, ?_⟩
      refine CALL.i (model_named g2 (hg.no h12) ho1 o ⟨by have := ho.box; omega, by have := ho.to; omega⟩ ⟨hb.nnext.1, by have := hb.nnext; omega⟩ (fun x hx => (hb.bval x hx).2) (fun z hz => by have := hb.blen z hz; omega) e1 A n c) (by kernel_rfl) ?_
      intro r w5 hd
      exact pass_ans h12.no hd (by omega) a2 rfl o4
    · have e1 := of_decide_eq_false h1
      refine split_i (fun h4 => ?_) (fun h4 => split_i (fun h5 => ?_) (fun h5 => split_i (fun h6 => ?_) (fun h6 => ?_)))
      · have e4 : o.kind = 4 := by simpa using h4
        have ha : act M o = (M, ⟨0, 0, [], M.n.l.map (·.1), []⟩) := by unfold act; rw [if_neg e1, if_pos e4]
        rw [ha]
        refine ⟨_, cell_at g2.top rfl, ?_⟩
        refine CALL.i (names_list g2.names hb.rising (by have := hb.nlen; omega)) (by kernel_rfl) ?_
        rintro r w4 ⟨A', c', rfl, q4, o5, f5⟩
        refine ⟨_, _, _, rfl, ?_⟩
        have lt4 := a2.lt
        refine ans_ret (R := DoneAct w k ow kn bb mb M ⟨0, 0, [], M.n.l.map (·.1), []⟩) (a2.no q4) rfl fun w5 q5 hs5 => ?_
        refine DoneAct.same h ((h12.trans q4).tmp q5 (by omega)) ⟨A', c', none, 0, ?_, ?_, Own.nil _ _ _ _, ?_⟩
        · show _ = Value.agg ⟨acells 0 0 (bs []) A' (M.n.l.map (·.1)).length c' none 0 0⟩
          rw [List.length_map]
          rfl
        · show Own Lst 9 _ No A' (M.n.l.map (·.1)).length c' (M.n.l.map (·.1))
          rw [List.length_map]
          exact o5.kept q5 (fun j hj _ he => hj.elim (fun h => h) (fun h => by have := f5 j h; omega))
        · rintro j (hj | hj)
          · have := f5 j hj; omega
          · exact False.elim hj
      · have e4 : ¬ o.kind = 4 := by simpa using h4
        have e12 : o.kind = 12 := by simpa using h5
        have ha : act M o = (M, search M o) := by unfold act; rw [if_neg e1, if_neg e4, if_pos e12]
        rw [ha]
        refine ⟨_, _, _, _, _, _, _, _, _, _, RD.i b1, ?_⟩
        refine CALL.i (model_search g2 hb o ho2) (by kernel_rfl) ?_
        intro r w5 hd
        exact pass_ans h12.no hd (by omega) a2 rfl o4
      · have e4 : ¬ o.kind = 4 := by simpa using h4
        have e12 : ¬ o.kind = 12 := by simpa using h5
        have e13 : o.kind = 13 := by simpa using h6
        have ha : act M o = (M, ⟨0, 0, [], [], []⟩) := by unfold act; rw [if_neg e1, if_neg e4, if_neg e12, if_pos e13]
        rw [ha]
        exact flat_ans (t := []) h12.no g2 (fun _ _ h => h) (by omega) a2 rfl o4
      · have e4 : ¬ o.kind = 4 := by simpa using h4
        have e12 : ¬ o.kind = 12 := by simpa using h5
        have e13 : ¬ o.kind = 13 := by simpa using h6
        have hwithin : 5 ≤ o.kind ∧ o.kind ≤ 11 → act M o = within M o := fun hk => by unfold act; rw [if_neg e1, if_neg e4, if_neg e12, if_neg e13, if_pos hk]
        have go : ∀ j : Int, 5 ≤ j ∧ j ≤ 11 → (o.kind == j) = true → ∃ (x12_0 : Int) (s12_1 : ByteArray) (s12_2 : ByteArray) (s12_3 : ByteArray) (x12_4 : Int) (x12_5 : Int) (x12_6 : Int) (A12_7 : Option Addr) (n12_7 : Nat) (c12_7 : Nat), RD w3 (⟨k3, 0, none⟩ : Addr) 0 [(.int .i64 x12_0), (.string s12_1), (.string s12_2), (.string s12_3), (.int .i64 x12_4), (.int .i64 x12_5), (.int .i64 x12_6), (.slice A12_7 n12_7 c12_7)] ∧
            CALL PP 34 [(.pointer (some ⟨k, 0, none⟩)), (.agg #[(.int .i64 x12_0), (.string s12_1), (.string s12_2), (.string s12_3), (.int .i64 x12_4), (.int .i64 x12_5), (.int .i64 x12_6), (.slice A12_7 n12_7 c12_7)])] w3 fun r13 w4 =>
            ∃ (x13_0 : Int) (x13_1 : Int) (s13_2 : ByteArray) (A13_3 : Option Addr) (n13_3 : Nat) (c13_3 : Nat) (A13_4 : Option Addr) (n13_4 : Nat) (c13_4 : Nat), r13 = (.agg #[(.int .i64 x13_0), (.int .i64 x13_1), (.string s13_2), (.slice A13_3 n13_3 c13_3), (.slice A13_4 n13_4 c13_4)]) ∧
            ST w4 (⟨k4, 0, none⟩ : Addr) 0 [(.int .i64 x13_0), (.int .i64 x13_1), (.string s13_2), (.slice A13_3 n13_3 c13_3), (.slice A13_4 n13_4 c13_4)] fun w5 =>
            ∃ (x4r_0 : Int) (x4r_1 : Int) (s4r_2 : ByteArray) (A4r_3 : Option Addr) (n4r_3 : Nat) (c4r_3 : Nat) (A4r_4 : Option Addr) (n4r_4 : Nat) (c4r_4 : Nat), RD w5 (⟨k4, 0, none⟩ : Addr) 0 [(.int .i64 x4r_0), (.int .i64 x4r_1), (.string s4r_2), (.slice A4r_3 n4r_3 c4r_3), (.slice A4r_4 n4r_4 c4r_4)] ∧
            DoneAct w k ow kn bb mb (act M o).1 (act M o).2 (.agg #[(.int .i64 x4r_0), (.int .i64 x4r_1), (.string s4r_2), (.slice A4r_3 n4r_3 c4r_3), (.slice A4r_4 n4r_4 c4r_4)]) w5 := by
          intro j hj hj'
          have ej : o.kind = j := by simpa using hj'
          rw [hwithin (by omega)]
          refine ⟨_, _, _, _, _, _, _, _, _, _, RD.i b1, ?_⟩
          refine CALL.i (model_within g2 hb o ho2 (by omega)) (by kernel_rfl) ?_
          intro r w5 hd
          exact pass_ans h12.no hd (by omega) a2 rfl o4
        refine split_i (fun h => go 5 (by omega) h) (fun h5 => split_i (fun h => go 6 (by omega) h) (fun h6 => split_i (fun h => go 7 (by omega) h) (fun h7 => split_i (fun h => go 8 (by omega) h) (fun h8 => split_i (fun h => go 9 (by omega) h) (fun h9 => split_i (fun h => go 10 (by omega) h) (fun h10 => split_i (fun h => go 11 (by omega) h) (fun h11 => ?_)))))))
        have f5 : ¬ o.kind = 5 := by simpa using h5
        have f6 : ¬ o.kind = 6 := by simpa using h6
        have f7 : ¬ o.kind = 7 := by simpa using h7
        have f8 : ¬ o.kind = 8 := by simpa using h8
        have f9 : ¬ o.kind = 9 := by simpa using h9
        have f10 : ¬ o.kind = 10 := by simpa using h10
        have f11 : ¬ o.kind = 11 := by simpa using h11
        have ha : act M o = (M, no 4) := by unfold act; rw [if_neg e1, if_neg e4, if_neg e12, if_neg e13, if_neg (by omega)]
        rw [ha]
        exact call_no 4 g2 h12.no (by omega) a2 rfl o4
end
end Go.SW
