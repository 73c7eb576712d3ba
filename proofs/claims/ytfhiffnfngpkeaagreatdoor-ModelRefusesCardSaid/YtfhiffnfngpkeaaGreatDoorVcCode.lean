/- The computed condition implies the kit's Code.wp, and Calls. -/
import Derived.Test.YtfhiffnfngpkeaaGreatDoorVcDraw
namespace Go.SW
open Go

theorem ikEq_eq {a b : IntKind} (h : ikEq a b = true) : a = b := by
  cases a <;> cases b <;> first | rfl | cases h

theorem Fn.app_elim {A : Type} {k : SK} {f : Fn k A} {v : Value} {c : A → Prop} (h : Fn.app k f v c False) :
    ∃ g, c g ∧ ∀ F : Value → Prop, AL1 k F → F v := by
  cases k with
  | int k =>
    cases v with
    | int k' n =>
      simp only [Fn.app] at h
      cases hb : ikEq k k' with
      | false => rw [hb] at h; exact False.elim h
      | true =>
        rw [hb] at h
        have := ikEq_eq hb
        subst this
        exact ⟨_, h, fun F hF => hF n⟩
    | _ => exact False.elim h
  | bool =>
    cases v with
    | bool b => exact ⟨_, h, fun F hF => hF b⟩
    | _ => exact False.elim h
  | str =>
    cases v with
    | string b => exact ⟨_, h, fun F hF => hF b⟩
    | _ => exact False.elim h
  | ptr =>
    cases v with
    | pointer b => exact ⟨_, h, fun F hF => hF b⟩
    | _ => exact False.elim h
  | slice =>
    cases v with
    | slice A n c => exact ⟨_, h, fun F hF => hF A n c⟩
    | _ => exact False.elim h
  | map =>
    cases v with
    | map b => exact ⟨_, h, fun F hF => hF b⟩
    | _ => exact False.elim h
  | chan =>
    cases v with
    | chan b => exact ⟨_, h, fun F hF => hF b⟩
    | _ => exact False.elim h
  | raw => exact ⟨_, h, fun F hF => hF v⟩
theorem Fn.app_prop {A R : Type} (k : SK) (f : Fn k A) (v : Value) (c : A → R) (d : R) (φ : R → Prop) : φ (Fn.app k f v c d) = Fn.app k f v (fun a => φ (c a)) (φ d) := by
  unfold Fn.app
  cases k <;> cases v <;> try rfl
  rename_i k k' n
  show φ (cond (ikEq k k') _ _) = cond (ikEq k k') _ _
  cases ikEq k k' <;> rfl

theorem allS_app {F : Env → Prop} {e : Env} {w : World} : ∀ {l : List (Nat × SK)} {I : Cur l (World → Prop)}, allS l F e → appS l I e (fun _ => False) w → F e
  | [], _, h, _ => h
  | x :: l, I, h, h2 => by
    have h3 : Fn.app x.2 I (e x.1) (fun g => appS l g e (fun _ => False) w) False := by
      have := Fn.app_prop x.2 I (e x.1) (fun g => appS l g e (fun _ => False)) (fun _ => False) (fun r => r w)
      unfold appS at h2
      rw [this] at h2
      exact h2
    obtain ⟨g, hg, ha⟩ := Fn.app_elim h3
    have h4 := ha _ h
    rw [upd_same rfl] at h4
    exact allS_app h4 hg

theorem any_mem {l : List Nat} {t : Nat} (h : t ∈ l) : l.any (Nat.beq t) = true := List.any_eq_true.2 ⟨t, h, Nat.beq_refl t⟩

theorem vcL_sound {ds : List Deferred} {ro : Option Nat} {fm : Nat} {P : Program} {ops : Array Oper} {Q : Exit → Act → World → Prop} {n : Nat} {ch : List Nat} : ∀ (l : List Oper) (e : Env) (a : Act) (w : World) (K : Env → World → Prop),
    (∀ o ∈ l, dstOk n o.dst = true ∧ ∀ d, o.dst = some d → ch.any (Nat.beq d) = true) → vcL P ops.toList l e w K → Rel ds n a e →
    (∀ e' a' w', Rel ds n a' e' → agree ch e e' → K e' w' → Q .normal a' w') → wpListIn (WF ro) fm P ops Q l a w
  | [], e, a, w, K, _, h, hr, hk => hk e a w hr (.refl _ _) h
  | o :: l, e, a, w, K, hd, h, hr, hk => by
    have hd0 := hd o List.mem_cons_self
    have next : ∀ (v : Value) (w' : World), vcL P ops.toList l (e.put o.dst v) w' K → wpListIn (WF ro) fm P ops Q l (a.put o.dst v) w' := fun v w' h =>
      vcL_sound l _ _ w' K (fun o' ho' => hd o' (List.mem_cons_of_mem _ ho')) h (hr.put hd0.1 v) (fun e' a' w'' hr' ha hk' => hk e' a' w'' hr' ((agree.put v hd0.2).trans ha) hk')
    refine wpListIn_step fun K' hK' => ?_
    rw [wanted_rel hr]
    rcases GRDX_cases h with ⟨hw, h⟩ | ⟨hw, h⟩
    · rw [if_pos hw]
      have := OPK_does h
      rw [← hr.evf] at this
      exact this.wp fun v w' hv => hK' _ _ (next v w' hv)
    · rw [if_neg (by simp [hw])]
      exact ⟨fun _ _ => trivial, hK' _ _ (next undef w h)⟩

theorem subs_any {l : List Nat} {m : Nat} (h : subs l m = true) {t : Nat} (ht : l.any (Nat.beq t) = true) : inM m t = true := by
  obtain ⟨x, hx, hb⟩ := List.any_eq_true.1 ht
  have := Nat.eq_of_beq_eq_true hb
  subst this
  exact List.all_eq_true.1 h t hx
theorem agree.subs {l : List Nat} {m : Nat} {e e' : Env} (h : agree l e e') (hs : subs l m = true) : agreeM m e e' := fun t ht => h t (by
  cases hl : l.any (Nat.beq t) with
  | false => rfl
  | true => rw [subs_any hs hl] at ht; cases ht)
theorem agree.left {l l' : List Nat} {e e' : Env} (h : agree l e e') : agree (l ++ l') e e' := fun t ht => h t (by
  rw [List.any_append, Bool.or_eq_false_iff] at ht; exact ht.1)
theorem agree.right {l l' : List Nat} {e e' : Env} (h : agree l' e e') : agree (l ++ l') e e' := fun t ht => h t (by
  rw [List.any_append, Bool.or_eq_false_iff] at ht; exact ht.2)

theorem setc_same {e : Env} {c : Operand} {t : Bool} (h : e.ev c = .bool t) : setc e c t = e := by
  cases c with
  | tmp d => exact upd_same h
  | _ => rfl

theorem vc_sound {ds : List Deferred} {ro : Option Nat} {fm : Nat} {P : Program} {n : Nat} (hm : P.follows .mixedOrders = true) : ∀ (c : Code) (ann : Ann) (Q : Exit → Env → World → Prop) (e : Env) (w : World) (a : Act) (Q' : Exit → Act → World → Prop),
    allDst n c = true → vc P c ann Q e w → Rel ds n a e → (∀ ex e' a' w', Rel ds n a' e' → agree (asg c) e e' → Q ex e' w' → Q' ex a' w') → c.wpIn (WF ro) fm P Q' a w := by
  intro c
  induction c with
  | skip => intro ann Q e w a Q' _ h hr hk; exact wpIn_skip (hk _ e a w hr (.refl _ _) h)
  | label l => intro ann Q e w a Q' _ h hr hk; exact wpIn_label (hk _ e a w hr (.refl _ _) h)
  | exit id => intro ann Q e w a Q' _ h hr hk; exact wpIn_exit (hk _ e a w hr (.refl _ _) h)
  | ret => intro ann Q e w a Q' _ h hr hk; exact wpIn_ret (hk _ e a w hr (.refl _ _) h)
  | region id ops dr =>
    intro ann Q e w a Q' hd h hr hk
    have hds : ∀ o ∈ ops.toList, dstOk n o.dst = true ∧ ∀ d, o.dst = some d → (asg (.region id ops dr)).any (Nat.beq d) = true := by
      intro o ho
      refine ⟨List.all_eq_true.1 hd o ho, fun x hx => any_mem ?_⟩
      simp only [asg, List.mem_filterMap]
      exact ⟨o, ho, hx⟩
    cases dr with
    | false =>
      refine wpIn_region_list ?_
      exact vcL_sound ops.toList e a w _ hds h hr fun e' a' w' hr' ha hk' => hk _ e' a' w' hr' ha hk'
    | true =>
      exact vcDraw_sound hm hds h hr fun e' a' w' hr' ha hk' => hk _ e' a' w' hr' ha hk'
  | seq x y ihx ihy =>
    intro ann Q e w a Q' hd h hr hk
    simp only [allDst, Bool.and_eq_true] at hd
    refine wpIn_seq ?_
    have plain : ∀ A B, vc P x A (thenQ (vc P y B Q) Q) e w → x.wpIn (WF ro) fm P (Exit.then (y.wpIn (WF ro) fm P Q') Q') a w := by
      intro A B h
      refine ihx A _ e w a _ hd.1 h hr fun ex e' a' w' hr' ha hq => ?_
      cases ex with
      | normal => exact ihy B Q e' w' a' Q' hd.2 hq hr' fun ex2 e2 a2 w2 hr2 ha2 hq2 => hk ex2 e2 a2 w2 hr2 (ha.left.trans ha2.right) hq2
      | _ => exact hk _ e' a' w' hr' ha.left hq
    cases ann with
    | leaf => exact plain _ _ h
    | one _ => exact plain _ _ h
    | loop _ _ _ => exact plain _ _ h
    | two A B => exact plain _ _ h
    | cut ch live A B =>
      simp only [vc] at h
      cases hs : subs (asg x) ch with
      | false => rw [hs] at h; exact False.elim h
      | true =>
        rw [hs, cond_true] at h
        obtain ⟨I, h1, h2⟩ := h
        refine ihx A _ e w a _ hd.1 h1 hr fun ex e' a' w' hr' ha hq => ?_
        cases ex with
        | normal =>
          have h3 := h2 e'
          rw [← (ha.subs hs).havoc] at h3
          exact ihy B Q e' w' a' Q' hd.2 (allS_app h3 hq w' hq) hr' fun ex2 e2 a2 w2 hr2 ha2 hq2 => hk ex2 e2 a2 w2 hr2 (ha.left.trans ha2.right) hq2
        | _ => exact hk _ e' a' w' hr' ha.left hq
  | cond c x y ihx ihy =>
    intro ann Q e w a Q' hd h hr hk
    simp only [allDst, Bool.and_eq_true] at hd
    have main : ∀ A B t, e.ev c = .bool t → SPLIT t (vc P x A Q (setc e c true) w) (vc P y B Q (setc e c false) w) → (Code.cond c x y).wpIn (WF ro) fm P Q' a w := by
      intro A B t ht h
      have hc : a.eval c = .bool t := by rw [hr.ev]; exact ht
      cases t with
      | true =>
        rw [SPLIT, setc_same ht] at h
        exact wpIn_cond_true hc (ihx A Q e w a Q' hd.1 h hr fun ex e' a' w' hr' ha hq => hk ex e' a' w' hr' ha.left hq)
      | false =>
        rw [SPLIT, setc_same ht] at h
        exact wpIn_cond_false hc (ihy B Q e w a Q' hd.2 h hr fun ex e' a' w' hr' ha hq => hk ex e' a' w' hr' ha.right hq)
    simp only [vc] at h
    split at h
    · rename_i t A B ht
      exact main _ _ _ ht h
    · rename_i ht _
      exact main _ _ _ ht h
    · exact False.elim h
  | block id x ih =>
    intro ann Q e w a Q' hd h hr hk
    have main : ∀ A, vc P x A (blockQ id Q) e w → (Code.block id x).wpIn (WF ro) fm P Q' a w := by
      intro A h
      refine wpIn_block (ih A _ e w a _ hd h hr fun ex e' a' w' hr' ha hq => ?_)
      cases ex with
      | exit i =>
        simp only [blockQ] at hq
        simp only [Exit.inBlock]
        cases hb : Nat.beq i id with
        | true =>
          rw [hb] at hq
          rw [if_pos (Nat.eq_of_beq_eq_true hb)]
          exact hk _ e' a' w' hr' ha hq
        | false =>
          rw [hb] at hq
          rw [if_neg (fun he => by rw [he, Nat.beq_refl] at hb; cases hb)]
          exact hk _ e' a' w' hr' ha hq
      | _ => exact hk _ e' a' w' hr' ha hq
    simp only [vc] at h
    split at h <;> exact main _ h
  | loop x ih =>
    intro ann Q e w a Q' hd h hr hk
    simp only [vc] at h
    split at h
    · rename_i ch live A
      cases hs : subs (asg x) ch with
      | false => rw [hs] at h; exact False.elim h
      | true =>
        rw [hs, cond_true] at h
        obtain ⟨I, μ, h0, h2⟩ := h
        refine wpIn_loop (fun a' w' => ∃ e', Rel ds n a' e' ∧ agree (asg x) e e' ∧ appS live I e' (fun _ => False) w')
          (fun a' w' => appS live μ (fun t => a'.tmps.getD t undef) (fun _ => 0) w') ⟨e, hr, .refl _ _, h0⟩ ?_
        rintro a' w' ⟨e', hr', ha', hI⟩
        have he' : (fun t => a'.tmps.getD t undef) = e' := funext hr'.at_
        have h3 := h2 e'
        rw [← (ha'.subs hs).havoc] at h3
        refine ih A _ e' w' a' _ hd (allS_app h3 hI w' hI) hr' fun ex e2 a2 w2 hr2 ha2 hq => ?_
        have he2 : (fun t => a2.tmps.getD t undef) = e2 := funext hr2.at_
        cases ex with
        | normal =>
          refine ⟨⟨e2, hr2, ha'.trans ha2, hq.1⟩, ?_⟩
          show appS live μ (fun t => a2.tmps.getD t undef) (fun _ => 0) w2 < appS live μ (fun t => a'.tmps.getD t undef) (fun _ => 0) w'
          rw [he', he2]
          exact hq.2
        | _ => exact hk _ e2 a2 w2 hr2 (ha'.trans ha2) hq
    · exact False.elim h
  | rangeFunc f ps asn body ih1 ih2 => intro ann Q e w a Q' hd h hr hk; exact False.elim h
  | scope x ih => intro ann Q e w a Q' hd h hr hk; exact False.elim h
  | goto l => intro ann Q e w a Q' hd h hr hk; exact False.elim h
  | refuse s => intro ann Q e w a Q' hd h hr hk; exact False.elim h

theorem env0_at : ∀ (l : List Value) (i t : Nat), env0 l i t = if i ≤ t then l.getD (t - i) undef else undef
  | [], i, t => by simp [env0]
  | v :: l, i, t => by
    unfold env0 Env.upd
    cases hb : Nat.beq t i with
    | true =>
      have := Nat.eq_of_beq_eq_true hb
      subst this
      simp
    | false =>
      have hne : t ≠ i := fun he => by rw [he, Nat.beq_refl] at hb; cases hb
      rw [cond_false, env0_at l (i + 1) t]
      by_cases h : i ≤ t
      · rw [if_pos (by omega), if_pos h]
        have : t - i = (t - (i + 1)) + 1 := by omega
        rw [this, List.getD_cons_succ]
      · rw [if_neg (by omega), if_neg h]

def resG (tmps : Array Value) : ResultVar → Sem Value
  | .tmp t => pure (tmps.getD t undef)
  | .cell x t => do loadVar t (← asAddr (tmps.getD x undef))
theorem results_eq (fn : Func) (tmps : Array Value) : results fn tmps = (do let vs ← fn.results.mapM (resG tmps); pure (if h : vs.size = 1 then vs[0] else .tuple vs)) := rfl
theorem run_asAddr (P : Program) (ad : Addr) (w : World) : (asAddr (.pointer (some ad))).run P w = .ok ad w := rfl
theorem RES_run {ds : List Deferred} {P : Program} {a : Act} {e : Env} {n : Nat} {w : World} (hr : Rel ds n a e) : ∀ (l : List ResultVar) (acc : List Value) (R : Value → World → Prop), RES P l e w acc R →
    ∃ vs, (l.mapM (resG a.tmps)).run P w = .ok vs w ∧
      R (one (acc ++ vs)) w
  | [], acc, R, h => ⟨[], by simp, by simpa [RES] using h⟩
  | .tmp t :: l, acc, R, h => by
    obtain ⟨vs, hv, hR⟩ := RES_run hr l _ R h
    refine ⟨e t :: vs, ?_, by simpa using hR⟩
    simp only [List.mapM_cons, resG, Sem.run_bind, Sem.run_pure, Result.andThen_ok, hv, hr.at_ t]
  | .cell x t :: l, acc, R, h => by
    simp only [RES] at h
    split at h
    · rename_i p hp
      obtain ⟨ad, rfl, h2⟩ := SOMEA.elim h
      obtain ⟨v, hv, h3⟩ := LD_run h2
      obtain ⟨vs, hvs, hR⟩ := RES_run hr l _ R h3
      refine ⟨v :: vs, ?_, by simpa using hR⟩
      have hx := hr.at_ x
      rw [hp] at hx
      have h4 : (resG a.tmps (.cell x t)).run P w = .ok v w := by
        simp only [resG, Sem.run_bind, hx, run_asAddr, Result.andThen_ok, hv]
      simp only [List.mapM_cons, Sem.run_bind, h4, Sem.run_pure, Result.andThen_ok, hvs]
    · exact False.elim h

theorem vcF_sound {P : Program} {f : FuncId} {fn : Func} {c : Code} {ann : Ann} {args : List Value} {w : World} {R : Value → World → Prop} (hm : P.follows .mixedOrders = true)
    (hf : P.funcs[f]? = some fn) (hb : fn.body = some c) (h : vcF P fn c ann args w R) : Calls P f ⟨args⟩ w (Ret R) := by
  unfold vcF at h
  cases hc : (allDst fn.ntmps c && Nat.ble args.length fn.ntmps) with
  | false => rw [hc] at h; exact False.elim h
  | true =>
    rw [hc, cond_true] at h
    simp only [Bool.and_eq_true] at hc
    have hle : args.length ≤ fn.ntmps := Nat.le_of_ble_eq_true hc.2
    refine calls_of_wp hf hb (wpIn_wide.1 (vc_sound (ro := none) (fm := 0) (ds := []) hm c ann _ (env0 args 0) w _ _ hc.1 h ⟨rfl, ?_, fun t => ?_⟩ ?_))
    · simp; omega
    · rw [env0_at]
      simp only [Nat.zero_le, if_true, Nat.sub_zero]
      rw [Array.getD_eq_getD_getElem?, List.getD_eq_getElem?_getD]
      by_cases ht : t < args.length
      · rw [Array.getElem?_append_left (by simpa using ht)]
        simp
      · rw [Array.getElem?_append_right (by simpa using ht), List.getElem?_eq_none (by omega)]
        simp [Array.getElem?_replicate]
        split <;> rfl
    · intro ex e' a' w' hr ha hq
      have main : RES P fn.results.toList e' w' [] R → a'.defers = [] ∧ ∃ v, (results fn a'.tmps).run P w' = .ok v w' ∧ Ret R (.returned v) w' := by
        intro hq
        obtain ⟨vs, hv, hR⟩ := RES_run hr fn.results.toList [] R hq
        refine ⟨hr.defers, if h : vs.toArray.size = 1 then vs.toArray[0] else .tuple vs.toArray, ?_, ?_⟩
        · rw [results_eq, Array.mapM_eq_mapM_toList]
          simp [hv]
        · simp only [List.nil_append] at hR
          show R _ w'
          have : (if h : vs.toArray.size = 1 then vs.toArray[0] else .tuple vs.toArray) = one vs := by
            rcases vs with _ | ⟨v, _ | ⟨v2, l⟩⟩
            · rfl
            · rfl
            · rw [dif_neg (by simp)]; rfl
          rw [this]
          exact hR
      cases ex with
      | normal => exact main hq
      | ret => exact main hq
      | _ => exact False.elim hq

end Go.SW
