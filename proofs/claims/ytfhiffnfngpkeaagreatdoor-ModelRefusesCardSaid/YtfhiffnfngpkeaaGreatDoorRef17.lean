/- The document's names: Check, Of, put, without, Create, Delete, Rename. -/
import Derived.Test.YtfhiffnfngpkeaaGreatDoorOg
import Derived.Test.YtfhiffnfngpkeaaGreatDoorInv
import Derived.Test.YtfhiffnfngpkeaaGreatDoorSRefs
set_option linter.unusedVariables false
namespace Go.SW
open Go Go.Proofs Pl

def ncells (p : Str × Int) : List Value := [.string (bs p.1), .int .i64 p.2]
def Lnm : Ly (Str × Int) := .of 2 ncells (fun _ => rfl) (fun _ => rfl)
theorem Lnm_plain : Lnm.Plain := fun _ _ _ _ _ _ h => h
theorem T114 : ElemTy Lnm 63 114 24 := ⟨by kernel_rfl, ⟨tinfo 114, (tinfo 114).zero.getD .nilIface, by kernel_rfl, by kernel_rfl, by kernel_rfl, by kernel_rfl, by kernel_rfl⟩, by omega, by show 0 < 2; omega⟩
/-- element i of a slice of plain data -/
theorem Sl.nm {w : World} {F : Nat → Prop} {A : Option Addr} {n c : Nat} {xs : List (Str × Int)} (h : Sl Lnm w F A n c xs) {i : Nat} (hi : i < n) :
    ∃ a p, A = some a ∧ xs[i]? = some p ∧ RD w (a.add (i * 2)) 0 [.string (bs p.1), .int .i64 p.2] := by
  obtain ⟨a, cs, p, h1, h2, h3, h4⟩ := h.get hi
  cases h3
  exact ⟨a, p, h1, h2, h4⟩

theorem ref_of17 {A : Option Addr} {n c : Nat} {w : World} {F : Nat → Prop} {xs : List (Str × Int)} {nx : Int} (hs : Sl Lnm w F A n c xs) (hn : n < 1000000000) (s : Str) :
    Calls PP 93 #[.agg #[.slice A n c, .int .i64 nx], .string (bs s)] w (Ret fun r w' => r = .int .i64 ((ofN ⟨xs, nx⟩ s).getD 0) ∧ Keep No w w') := by
  refine c93 ?_
  unfold S93
  have hlen := hs.len
  refine NEW.i fun k2 w1 hk2 hs1 q1 a1 => ⟨_, _, _, cell_at a1 rfl, ?_⟩
  refine ⟨fun x w2 => ∃ i : Nat, x = i ∧ i ≤ n ∧ Keep No w w2 ∧ ∀ p ∈ xs.take i, ¬ p.1 = s, fun x _ => ((n : Int) - x).toNat, ⟨0, rfl, Nat.zero_le _, q1, by simp⟩, ?_⟩
  rintro _ x w2 ⟨i, rfl, hi, q2, hall⟩
  refine split_dec (fun hlt => ?_) (fun hge => ?_)
  · have hlt' : i < n := by omega
    refine ⟨⟨by omega, hlt⟩, ?_⟩
    obtain ⟨a, p, hA, hp, hr⟩ := (hs.no q2).nm hlt'
    refine SOMEA.i hA ⟨_, _, by rw [Int.toNat_natCast]; exact hr, ?_⟩
    refine NEW.i fun k6 w3 hk6 hs3 q3 a3 => ST.i a3 (by simp) rfl fun w4 hs4 q4 a4 => ⟨_, cell_at a4 rfl, ?_⟩
    have z4 : Keep No w w4 := (q2.trans q3).tmp q4 (by have := q2.size; omega)
    rw [bs_toList, bs_toList]
    refine split_i (fun he => ?_) (fun he => ⟨⟨i + 1, wrapS (by omega), hlt', z4, ?_⟩, mu_go (wrapS (by omega)) hlt'⟩)
    · refine ⟨_, cell_at a4 rfl, ?_, z4⟩
      have hp1 : p.1 = s := by simpa using he
      have : (ofN ⟨xs, nx⟩ s) = some p.2 := by
        unfold ofN
        have hf : xs.find? (fun q => decide (q.1 = s)) = some p := by
          rw [List.find?_eq_some_iff_getElem]
          refine ⟨by simpa using hp1, i, (List.getElem?_eq_some_iff.1 hp).1, (List.getElem?_eq_some_iff.1 hp).2, fun j hj => ?_⟩
          have hjl : j < xs.length := by omega
          have := hall xs[j] (List.mem_iff_getElem?.2 ⟨j, by rw [List.getElem?_take, if_pos hj, List.getElem?_eq_getElem hjl]⟩)
          simpa using this
        rw [hf]; rfl
      rw [this]; rfl
    · rw [take_succ_some hp]
      intro q hq
      rcases List.mem_append.1 hq with hq | hq
      · exact hall q hq
      · rw [List.mem_singleton.1 hq]
        simpa using he
  · have hie : i = xs.length := by omega
    rw [hie, List.take_length] at hall
    refine ⟨?_, q2⟩
    have : ofN ⟨xs, nx⟩ s = none := by
      unfold ofN
      have : xs.find? (fun q => decide (q.1 = s)) = none := by
        rw [List.find?_eq_none]
        intro q hq
        simpa using hall q hq
      rw [this]; rfl
    rw [this]; rfl

theorem putN_t {p : Str × Int} : ∀ {l : List (Str × Int)} (r : List (Str × Int)), (∃ q ∈ l, ¬ q.1 < p.1) → putN p (l ++ r) = putN p l ++ r
  | [], r, h => by obtain ⟨q, hq, _⟩ := h; cases hq
  | x :: l, r, h => by
    show (if x.1 < p.1 then x :: putN p (l ++ r) else p :: x :: (l ++ r)) = (if x.1 < p.1 then x :: putN p l else p :: x :: l) ++ r
    by_cases hx : x.1 < p.1
    · rw [if_pos hx, if_pos hx, putN_t r]
      · rfl
      · obtain ⟨q, hq, hn⟩ := h
        rcases List.mem_cons.1 hq with rfl | hq
        · exact absurd hx hn
        · exact ⟨q, hq, hn⟩
    · rw [if_neg hx, if_neg hx]; rfl
theorem putN_f {p : Str × Int} : ∀ {l : List (Str × Int)} (r : List (Str × Int)), (∀ q ∈ l, q.1 < p.1) → putN p (l ++ r) = l ++ putN p r
  | [], r, _ => rfl
  | x :: l, r, h => by
    show (if x.1 < p.1 then x :: putN p (l ++ r) else p :: x :: (l ++ r)) = x :: (l ++ putN p r)
    rw [if_pos (h x List.mem_cons_self), putN_f r (fun q hq => h q (List.mem_cons_of_mem _ hq))]
theorem putN_length (p : Str × Int) (l : List (Str × Int)) : (putN p l).length = l.length + 1 := by simpa using (putN_perm p l).length_eq

theorem ref_put17 {A : Option Addr} {n c : Nat} {w : World} {F : Nat → Prop} {xs : List (Str × Int)} (hs : Sl Lnm w F A n c xs) (hn : n < 1000000000) (p : Str × Int) (hp : p.1 ∉ mkeys xs) :
    Calls PP 94 #[.slice A n c, .agg #[.string (bs p.1), .int .i64 p.2]] w (Ret fun r w' => ∃ A' c', r = .slice A' (n + 1) c' ∧ Keep No w w' ∧ Sl Lnm w' (Gn No w w') A' (n + 1) c' (putN p xs)) := by
  refine c94 ?_
  unfold S94
  have hlen := hs.len
  have hne : ∀ q ∈ xs, q.1 ≠ p.1 := fun q hq hc => hp (hc ▸ List.mem_map.2 ⟨q, hq, rfl⟩)
  refine NEW.i fun k3 w1 hk3 hs1 q1 a1 => NEW.i fun k9 w2 hk9 hs2 q2 a2 => ?_
  have s1 := hs.no q1
  refine ⟨fun A5 n5 c5 b6 x w3 => ∃ (i : Nat) (out : List (Str × Int)), x = i ∧ i ≤ n ∧ Og Lnm 114 No w1 w3 A5 n5 c5 out ∧ (b6 = true → (∃ q ∈ xs.take i, ¬ q.1 < p.1) ∧ out = putN p (xs.take i)) ∧ (b6 = false → (∀ q ∈ xs.take i, q.1 < p.1) ∧ out = xs.take i),
    fun _ _ _ _ x _ => ((n : Int) - x).toNat, ⟨0, [], rfl, Nat.zero_le _, Og.nil (l := []) q2 a2 (by omega) (fun j h => False.elim h), by simp, by simp⟩, ?_⟩
  rintro _ A5 n5 c5 b6 x w3 ⟨i, out, rfl, hi, g3, ht, hf⟩
  have hn5 := g3.own.len
  have hout : n5 ≤ i + 1 := by
    rw [← hn5]
    cases b6 with
    | true => rw [(ht rfl).2, putN_length]; simp; omega
    | false => rw [(hf rfl).2]; simp; omega
  refine split_dec (fun hlt => ?_) (fun hge => ?_)
  · have hlt' : i < n := by omega
    refine ⟨fun A' n' c' b' w4 => ∃ out', Og Lnm 114 No w1 w4 A' n' c' out' ∧ (b' = true → (∃ q ∈ xs.take (i + 1), ¬ q.1 < p.1) ∧ out' = putN p (xs.take (i + 1))) ∧ (b' = false → (∀ q ∈ xs.take (i + 1), q.1 < p.1) ∧ out' = xs.take (i + 1)), ?_, ?_⟩
    · refine ⟨⟨by omega, hlt⟩, ?_⟩
      obtain ⟨a, y, hA, hy, hr⟩ := (s1.no g3.keep).nm hlt'
      refine SOMEA.i hA ⟨_, _, by rw [Int.toNat_natCast]; exact hr, ?_⟩
      have htk := take_succ_some hy
      refine NEW.i fun k8 w4 hk8 hs4 q4 a4 => ST.i a4 (by simp) rfl fun w5 hs5 q5 a5 => ?_
      have g5 := (g3.no q4).st q5 (by have := g3.keep.size; omega) (g3.fresh (by omega))
      have a15 := a1.no g5.keep
      have h8 : w1.heap.size ≤ k8 := by have := g3.keep.size; omega
      have own8 := g3.fresh (k := k8) (by omega)
      refine ⟨fun A' n' c' b' w6 => At w6 k8 (.cells ⟨[.string (bs y.1), .int .i64 y.2]⟩ 114 (0, 0)) ∧ ¬ ownBlk A' k8 ∧ n' ≤ i + 1 ∧ ∃ out', Og Lnm 114 No w1 w6 A' n' c' out' ∧ (b' = true → (∃ q ∈ xs.take (i + 1), ¬ q.1 < p.1) ∧ out' ++ [y] = putN p (xs.take (i + 1))) ∧ (b' = false → (∀ q ∈ xs.take (i + 1), q.1 < p.1) ∧ out' = xs.take i), ?_, ?_⟩
      · refine split_i (fun hb => ?_) (fun hb => ?_)
        · have hb' : b6 = false := by simpa using hb
          obtain ⟨hall, ho⟩ := hf hb'
          refine ⟨_, cell_at a5 rfl, _, cell_at a15 rfl, ?_⟩
          rw [bs_toList, bs_toList, bytesLess_lt]
          have hye := hne y (List.mem_of_getElem? hy)
          refine split_i (fun hg => ?_) (fun hg => ⟨a5, own8, by subst hb'; rw [← hn5, ho]; simp; omega, out, g5, fun hc => (by rw [hb'] at hc; cases hc), fun _ => ⟨?_, ho⟩⟩)
          · have hg' : ¬ y.1 < p.1 := by
              intro hc
              simp [hc] at hg
            refine ⟨_, _, RD.i a15, ?_⟩
            refine NEW.i fun k27 w6 hk27 hs6 q6 a6 => ?_
            have hnn : n5 = i := by rw [← hn5, ho]; simp; omega
            refine (g5.no q6).one T114 a6 (x := p) rfl (by omega) fun A' c' w7 q7 g7 hb7 => ⟨_, _, _, rfl, ?_⟩
            refine ⟨(a5.no q6).own_ q7 own8, fun hc => ?_, by omega, _, g7, fun _ => ⟨⟨y, by rw [htk]; simp, hg'⟩, ?_⟩, fun hc => by cases hc⟩
            · rcases hb7 k8 hc with h | h
              · exact own8 h
              · omega
            · rw [htk, ho, putN_f _ hall]
              show _ = _ ++ (if y.1 < p.1 then _ else _)
              rw [if_neg hg']; simp
          · rw [htk]
            intro q hq
            rcases List.mem_append.1 hq with hq | hq
            · exact hall q hq
            · rw [List.mem_singleton.1 hq]
              by_cases hlt : y.1 < p.1
              · exact hlt
              · simp [hlt, hye] at hg
        · have hb' : b6 = true := by simpa using hb
          obtain ⟨hex, ho⟩ := ht hb'
          refine ⟨a5, own8, hout, out, g5, fun _ => ⟨?_, ?_⟩, fun hc => by rw [hb'] at hc; cases hc⟩
          · obtain ⟨q, hq, h⟩ := hex
            exact ⟨q, by rw [htk]; exact List.mem_append_left _ hq, h⟩
          · rw [htk, putN_t _ hex, ho]
      · rintro _ A' n' c' b' w6 ⟨a6, own6, hn6, out', g6, ht6, hf6⟩
        refine ⟨_, _, RD.i a6, ?_⟩
        refine NEW.i fun k31 w7 hk31 hs7 q7 a7 => ?_
        refine (g6.no q7).one T114 a7 (x := y) rfl (by omega) fun A'' c'' w8 q8 g8 hb8 => ⟨_, _, _, rfl, _, g8, fun hb => ht6 hb, fun hb => ?_⟩
        obtain ⟨h1, h2⟩ := hf6 hb
        exact ⟨h1, by rw [htk, h2]⟩
    · rintro _ A' n' c' b' w4 ⟨out', g4, ht4, hf4⟩
      exact ⟨⟨i + 1, out', wrapS (by omega), hlt', g4, ht4, hf4⟩, mu_go (wrapS (by omega)) hlt'⟩
  · have hie : i = xs.length := by omega
    rw [hie, List.take_length] at ht hf
    refine ⟨fun A' n' c' w4 => n' = n + 1 ∧ Og Lnm 114 No w1 w4 A' n' c' (putN p xs), ?_, ?_⟩
    · refine split_i (fun hb => ?_) (fun hb => ?_)
      · have hb' : b6 = false := by simpa using hb
        obtain ⟨hall, ho⟩ := hf hb'
        refine ⟨_, _, RD.i (a1.no g3.keep), ?_⟩
        refine NEW.i fun k38 w4 hk38 hs4 q4 a4 => ?_
        refine (g3.no q4).one T114 a4 (x := p) rfl (by omega) fun A' c' w5 q5 g5 hb5 => ⟨_, _, _, rfl, by rw [← hn5, ho]; omega, ?_⟩
        have := putN_f (p := p) [] hall
        rw [List.append_nil] at this
        rw [this, ← ho]
        exact g5
      · have hb' : b6 = true := by simpa using hb
        obtain ⟨hex, ho⟩ := ht hb'
        rw [ho] at g3 hn5
        rw [putN_length] at hn5
        exact ⟨by omega, g3⟩
    · rintro _ A' n' c' w4 ⟨rfl, g4⟩
      exact ⟨A', c', rfl, q1.trans g4.keep, g4.gn' (by omega) (fun j h => False.elim h)⟩

theorem ref_without {A : Option Addr} {n c : Nat} {w : World} {F : Nat → Prop} {xs : List (Str × Int)} (hs : Sl Lnm w F A n c xs) (hn : n < 1000000000) (s : Str) :
    Calls PP 95 #[.slice A n c, .string (bs s)] w (Ret fun r w' => ∃ A' c', r = .slice A' (delN xs s).length c' ∧ Keep No w w' ∧ Sl Lnm w' (Gn No w w') A' (delN xs s).length c' (delN xs s)) := by
  refine c95 ?_
  unfold S95
  have hlen := hs.len
  refine NEW.i fun k8 w1 hk8 hs1 q1 a1 => ?_
  refine ⟨fun A5 n5 c5 x w3 => ∃ (i : Nat), x = i ∧ i ≤ n ∧ Og Lnm 114 No w w3 A5 n5 c5 (delN (xs.take i) s),
    fun _ _ _ x _ => ((n : Int) - x).toNat, ⟨0, rfl, Nat.zero_le _, Og.nil (l := []) q1 a1 (by omega) (fun j h => False.elim h)⟩, ?_⟩
  rintro _ A5 n5 c5 x w2 ⟨i, rfl, hi, g2⟩
  have hn5 := g2.own.len
  have hle : n5 ≤ i := by
    rw [← hn5]
    have := List.length_filter_le (fun p : Str × Int => decide (p.1 ≠ s)) (xs.take i)
    simp only [List.length_take] at this
    unfold delN
    omega
  refine split_dec (fun hlt => ?_) (fun hge => ?_)
  · have hlt' : i < n := by omega
    refine ⟨fun A' n' c' w3 => Og Lnm 114 No w w3 A' n' c' (delN (xs.take (i + 1)) s), ?_, ?_⟩
    · refine ⟨⟨by omega, hlt⟩, ?_⟩
      obtain ⟨a, y, hA, hy, hr⟩ := (hs.no g2.keep).nm hlt'
      refine SOMEA.i hA ⟨_, _, by rw [Int.toNat_natCast]; exact hr, ?_⟩
      have htk := take_succ_some hy
      refine NEW.i fun k7 w3 hk7 hs3 q3 a3 => ST.i a3 (by simp) rfl fun w4 hs4 q4 a4 => ?_
      have g4 := (g2.no q3).st q4 (by have := g2.keep.size; omega) (g2.fresh (by omega))
      refine ⟨_, cell_at a4 rfl, ?_⟩
      rw [bs_toList, bs_toList, htk]
      refine split_i (fun he => ?_) (fun he => ?_)
      · have he' : y.1 ≠ s := by simpa using he
        refine ⟨_, _, RD.i a4, ?_⟩
        refine NEW.i fun k21 w5 hk21 hs5 q5 a5 => ?_
        refine (g4.no q5).one T114 a5 (x := y) rfl (by omega) fun A' c' w6 q6 g6 hb6 => ⟨_, _, _, rfl, ?_⟩
        have : delN (xs.take i ++ [y]) s = delN (xs.take i) s ++ [y] := by simp [delN, he']
        rw [this]
        exact g6
      · have he' : y.1 = s := by simpa using he
        have : delN (xs.take i ++ [y]) s = delN (xs.take i) s := by simp [delN, he']
        rw [this]
        exact g4
    · rintro _ A' n' c' w3 g3
      exact ⟨⟨i + 1, wrapS (by omega), hlt', g3⟩, mu_go (wrapS (by omega)) hlt'⟩
  · have hie : i = xs.length := by omega
    rw [hie, List.take_length] at g2
    have hl := g2.own.len
    rw [← hl] at g2 ⊢
    exact ⟨A5, c5, rfl, g2.keep, g2.gn⟩
end Go.SW
set_option linter.unusedVariables false
namespace Go.SW
open Go Go.Proofs Pl

theorem twice_snoc (b : UInt8) : ∀ l : Str, twice (l ++ [b]) = (twice l || (l.getLast? == some 47 && b == 47))
  | [] => by
    have : twice [b] = twice ([] : Str) := by
      unfold twice
      split
      · rename_i h; cases h
      · rename_i h; cases h; rfl
      · rename_i h; cases h
    show twice [b] = _
    rw [this]
    simp [twice]
  | [a] => by
    by_cases ha : a = 47
    · subst ha
      by_cases hb : b = 47
      · subst hb; rfl
      · have : twice [47, b] = false := by
          unfold twice
          split
          · rename_i h; cases h; exact absurd rfl hb
          · rename_i h; cases h; unfold twice; split <;> first | rfl | (rename_i h; cases h; try rfl)
          · rename_i h; cases h
        show twice [47, b] = _
        rw [this]
        simp [hb, twice]
    · have : twice [a, b] = false := by
        unfold twice
        split
        · rename_i h; cases h; exact absurd rfl ha
        · rename_i h; cases h; unfold twice; split <;> first | rfl | (rename_i h; cases h; try rfl)
        · rename_i h; cases h
      show twice [a, b] = _
      rw [this]
      simp [ha, twice]
  | a :: c :: l => by
    have ih := twice_snoc b (c :: l)
    have e : ∀ m : Str, twice (a :: c :: m) = ((a == 47 && c == 47) || twice (c :: m)) := by
      intro m
      by_cases h : a = 47 ∧ c = 47
      · obtain ⟨rfl, rfl⟩ := h
        simp [twice]
      · have : twice (a :: c :: m) = twice (c :: m) := by
          rw [twice]
          intro t h1 h2
          exact h ⟨h1, by injection h2⟩
        rw [this]
        have : (a == 47 && c == 47) = false := by
          by_cases ha : a = 47
          · simp [ha]; intro hc; exact h ⟨ha, hc⟩
          · simp [ha]
        rw [this]; rfl
    show twice (a :: c :: (l ++ [b])) = _
    rw [e, e l]
    rw [List.cons_append] at ih
    rw [ih, List.getLast?_cons_cons, Bool.or_assoc]

theorem may_int (b : UInt8) : mayB b = ((decide (97 ≤ (b.toNat : Int)) && decide ((b.toNat : Int) ≤ 122)) || (decide (65 ≤ (b.toNat : Int)) && decide ((b.toNat : Int) ≤ 90)) || (decide (48 ≤ (b.toNat : Int)) && decide ((b.toNat : Int) ≤ 57)) || ((b.toNat : Int) == 46 || (b.toNat : Int) == 95 || (b.toNat : Int) == 45 || (b.toNat : Int) == 47)) := by
  have H : ∀ n : Fin 256, mayB (UInt8.ofNat n.val) = ((decide (97 ≤ (n.val : Int)) && decide ((n.val : Int) ≤ 122)) || (decide (65 ≤ (n.val : Int)) && decide ((n.val : Int) ≤ 90)) || (decide (48 ≤ (n.val : Int)) && decide ((n.val : Int) ≤ 57)) || ((n.val : Int) == 46 || (n.val : Int) == 95 || (n.val : Int) == 45 || (n.val : Int) == 47)) := by decide +kernel
  have := H ⟨b.toNat, b.toNat_lt⟩
  simpa only [UInt8.ofNat_toNat] using this
theorem b47 (b : UInt8) : ((b.toNat : Int) == 47) = (b == 47) := by
  have H : ∀ n : Fin 256, ((n.val : Int) == 47) = (UInt8.ofNat n.val == 47) := by decide +kernel
  have := H ⟨b.toNat, b.toNat_lt⟩
  simpa only [UInt8.ofNat_toNat] using this

theorem ref_check17 (s : Str) (hs : s.length < 1000000000) (w : World) : Calls PP 92 #[.string (bs s)] w (Ret fun r w' => r = .bool (checkN s) ∧ Keep No w w') := by
  refine c92 ?_
  unfold S92
  have bad : checkN s = false → ((.bool false : Value) = .bool (checkN s) ∧ Keep No w w) := fun h => ⟨by rw [h], Keep.refl _ _⟩
  refine ⟨fun w1 => w1 = w ∧ s ≠ [] ∧ s.length ≤ 32 ∧ s.head? ≠ some 47 ∧ s.getLast? ≠ some 47, ?_, ?_⟩
  · have hemp : (⟨#[]⟩ : ByteArray).toList = [] := bs_emp
    rw [bs_toList, bs_size]
    refine split_i (fun he => bad ?_) (fun he => split_dec (fun h32 => bad ?_) (fun h32 => ?_))
    · have : s = [] := by simpa [hemp] using he
      subst this
      rfl
    · have : ¬ s.length ≤ 32 := by omega
      simp [checkN, this]
    · have hne : s ≠ [] := by
        intro h
        subst h
        simp [hemp] at he
      have hpos : 0 < s.length := List.length_pos_iff.2 hne
      obtain ⟨b0, hb0⟩ : ∃ b, s[0]? = some b := ⟨_, List.getElem?_eq_getElem hpos⟩
      have e0 : bt (bs s) 0 = (b0.toNat : Int) := bt_bs s 0 hb0
      have hh : s.head? = some b0 := by rw [← hb0]; cases s <;> rfl
      rw [e0, b47]
      refine ⟨⟨by omega, by omega⟩, split_i (fun h0 => bad ?_) (fun h0 => ?_)⟩
      · have : b0 = 47 := by simpa using h0
        rw [this] at hh
        simp [checkN, hh]
      · have hw : IntKind.wrap .i64 ((s.length : Int) - 1) = ((s.length - 1 : Nat) : Int) := by rw [wrap64 (by omega) (by omega)]; omega
        rw [hw]
        obtain ⟨b1, hb1⟩ : ∃ b, s[s.length - 1]? = some b := ⟨_, List.getElem?_eq_getElem (by omega)⟩
        have hl : s.getLast? = some b1 := by rw [List.getLast?_eq_getElem?]; exact hb1
        rw [bt_bs s _ hb1, b47]
        refine ⟨⟨by omega, by omega⟩, split_i (fun h1 => bad ?_) (fun h1 => ⟨rfl, hne, by omega, ?_, ?_⟩)⟩
        · have : b1 = 47 := by simpa using h1
          rw [this] at hl
          simp [checkN, hl]
        · rw [hh]; intro hc; cases hc; simp at h0
        · rw [hl]; intro hc; cases hc; simp at h1
  · rintro _ w1 ⟨rfl, hne, h32, hh, hl⟩
    have hchk : checkN s = (s.all mayB && !twice s) := by
      have e1 : s.isEmpty = false := by cases s with | nil => exact absurd rfl hne | cons _ _ => rfl
      have e2 : (s.head? == some 47) = false := by simpa using hh
      have e3 : (s.getLast? == some 47) = false := by simpa using hl
      unfold checkN
      rw [e1, e2, e3, decide_eq_true h32]
      simp
    refine ⟨fun x w2 => w2 = w1 ∧ ∃ i : Nat, x = i ∧ i ≤ s.length ∧ (s.take i).all mayB = true ∧ twice (s.take i) = false, fun x _ => ((s.length : Int) - x).toNat, ⟨rfl, 0, rfl, Nat.zero_le _, rfl, rfl⟩, ?_⟩
    rintro _ x w2 ⟨rfl, i, rfl, hi, hall, htw⟩
    rw [bs_size]
    refine split_dec (fun hlt => ?_) (fun hge => ?_)
    · have hlt' : i < s.length := by omega
      obtain ⟨b, hb⟩ : ∃ b, s[i]? = some b := ⟨_, List.getElem?_eq_getElem hlt'⟩
      have htk := take_succ_some hb
      have hbt : bt (bs s) (i : Int) = (b.toNat : Int) := bt_bs s i hb
      have hall' : (s.take (i + 1)).all mayB = mayB b := by rw [htk, List.all_append, hall]; simp
      have htw' : twice (s.take (i + 1)) = ((s.take i).getLast? == some 47 && b == 47) := by rw [htk, twice_snoc, htw]; rfl
      have mono_all : mayB b = false → checkN s = false := fun h => by
        rw [hchk]
        have : s.all mayB = false := by
          rw [List.all_eq_false]
          exact ⟨b, List.mem_of_getElem? hb, by simp [h]⟩
        rw [this]; rfl
      have mono_tw : ∀ (r l : Str), twice l = true → twice (l ++ r) = true := by
        intro r
        induction r with
        | nil => intro l h; simpa using h
        | cons y r ih =>
          intro l h
          have := ih (l ++ [y]) (by rw [twice_snoc, h]; rfl)
          simpa using this
      have bad2 : twice (s.take (i + 1)) = true → checkN s = false := fun h => by
        rw [hchk]
        have := mono_tw (s.drop (i + 1)) _ h
        rw [List.take_append_drop] at this
        rw [this]; simp
      refine ⟨fun w3 => w3 = w2 ∧ (s.take (i + 1)).all mayB = true ∧ twice (s.take (i + 1)) = false, ⟨⟨by omega, hlt⟩, ?_⟩, ?_⟩
      · rw [hbt]
        refine ⟨fun v w3 => w3 = w2 ∧ v = ((decide (97 ≤ (b.toNat : Int)) && decide ((b.toNat : Int) ≤ 122)) || (decide (65 ≤ (b.toNat : Int)) && decide ((b.toNat : Int) ≤ 90)) || (decide (48 ≤ (b.toNat : Int)) && decide ((b.toNat : Int) ≤ 57))), ?_, ?_⟩
        · generalize (b.toNat : Int) = v
          repeat' first
            | refine split_dec (fun _ => ?_) (fun _ => ?_)
            | refine And.intro rfl ?_
          all_goals
            first
            | (symm; simp only [Bool.or_eq_true, Bool.and_eq_true, decide_eq_true_eq]; omega)
            | (symm; simp only [Bool.or_eq_false_iff, Bool.and_eq_false_iff, decide_eq_false_iff_not]; omega)
            | (rw [Bool.eq_iff_iff]; simp only [Bool.or_eq_true, Bool.and_eq_true, decide_eq_true_eq]; omega)
        · rintro _ v w3 ⟨rfl, hv⟩
          have hmay := may_int b
          rw [← hv] at hmay
          refine ⟨fun bad w4 => w4 = w3 ∧ bad = (!mayB b || twice (s.take (i + 1))), ?_, ?_⟩
          · -- the slash
            have slash : ∀ (K : Bool → Prop), K (twice (s.take (i + 1))) →
                SPLIT ((b.toNat : Int) == (47 : Int)) (
                  (0 ≤ (IntKind.wrap .i64 ((i : Int) - (1 : Int))) ∧ (IntKind.wrap .i64 ((i : Int) - (1 : Int))) < (s.length : Int)) ∧
                  K ((bt (bs s) (IntKind.wrap .i64 ((i : Int) - (1 : Int)))) == (47 : Int))) (K false) := by
              intro K hK
              rw [b47]
              refine split_i (fun h => ?_) (fun h => ?_)
              · have hb' : b = 47 := by simpa using h
                have hi0 : 0 < i := by
                  rcases Nat.eq_zero_or_pos i with h0 | h0
                  · subst h0
                    subst hb'
                    exfalso
                    apply hh
                    rw [← hb]
                    cases s <;> rfl
                  · exact h0
                have hw : IntKind.wrap .i64 ((i : Int) - 1) = ((i - 1 : Nat) : Int) := by rw [wrap64 (by omega) (by omega)]; omega
                obtain ⟨b1, hb1⟩ : ∃ b1, s[i - 1]? = some b1 := ⟨_, List.getElem?_eq_getElem (by omega)⟩
                rw [hw, bt_bs s _ hb1, b47]
                refine ⟨⟨by omega, by omega⟩, ?_⟩
                have hgl : (s.take i).getLast? = some b1 := by
                  rw [List.getLast?_eq_getElem?, List.getElem?_take, if_pos (by simp; omega)]
                  rw [← hb1]
                  congr 1
                  simp; omega
                rw [htw', hgl, h] at hK
                have e : (some b1 == some (47 : UInt8) && true) = (b1 == 47) := by simp
                rw [e] at hK
                exact hK
              · rw [htw', h, Bool.and_false] at hK
                exact hK
            have fin := slash (fun q => w3 = w3 ∧ q = (!mayB b || twice (s.take (i + 1))))
            refine split_i (fun hv1 => ?_) (fun hv1 => ?_)
            · have hv' : v = false := by simpa using hv1
              rw [hv', Bool.false_or] at hmay
              refine split_i (fun h46 => split_i (fun h95 => split_i (fun h45 => split_i (fun h47 => ⟨rfl, ?_⟩) (fun h47 => ?_)) (fun h45 => ?_)) (fun h95 => ?_)) (fun h46 => ?_)
              · have : mayB b = false := by rw [hmay]; simp_all
                rw [this]; rfl
              all_goals
                have hm : mayB b = true := by rw [hmay]; simp_all
                rw [hm] at fin ⊢
                exact fin ⟨rfl, rfl⟩
            · have hv' : v = true := by simpa using hv1
              have hm : mayB b = true := by rw [hmay, hv']; rfl
              rw [hm] at fin ⊢
              exact fin ⟨rfl, rfl⟩
          · rintro _ q w4 ⟨rfl, rfl⟩
            refine split_i (fun h => bad ?_) (fun h => ⟨rfl, ?_⟩)
            · cases hm : mayB b with
              | false => exact mono_all hm
              | true =>
                rw [hm] at h
                exact bad2 (by simpa using h)
            · rw [hall']
              simpa using h
      · rintro _ w3 ⟨rfl, h1, h2⟩
        exact ⟨⟨rfl, i + 1, wrapS (by omega), hlt', h1, h2⟩, mu_go (wrapS (by omega)) hlt'⟩
    · have hie : i = s.length := by omega
      rw [hie, List.take_length] at hall htw
      rw [hchk, hall, htw]
      exact ⟨rfl, Keep.refl _ _⟩

theorem ref_new17 (w : World) : Calls PP 46 #[] w (Ret fun r w' => r = .agg #[.slice none 0 0, .int .i64 1] ∧ Keep No w w') := by
  refine c46 ?_
  unfold S46
  refine NEW.i fun k0 w1 hk0 hs1 q1 a1 => ST.i a1 (by simp) rfl fun w2 hs2 q2 a2 => ⟨_, _, _, _, RD.i a2, rfl, q1.tmp q2 (by omega)⟩

def IdsOk (l : List (Str × Int)) : Prop := ∀ p ∈ l, 1 ≤ p.2
theorem IdsOk.of {N : Nm} (h : IdsOk N.l) {s : Str} {id : Int} (hs : ofN N s = some id) : 1 ≤ id := h _ (ofN_mem hs)

theorem ref_create {A : Option Addr} {n c : Nat} {w : World} {F : Nat → Prop} {N : Nm} (hs : Sl Lnm w F A n c N.l) (hn : n ≤ 16) (hid : IdsOk N.l) (hx0 : 0 ≤ N.next) (hx1 : N.next < 1000000000) (s : Str) (hsl : s.length < 1000000000) :
    Calls PP 47 #[.agg #[.slice A n c, .int .i64 N.next], .string (bs s)] w (Ret fun r w' => ∃ A' n' c', r = .tuple #[.agg #[.slice A' n' c', .int .i64 (createN N s).1.next], .int .i64 (createN N s).2.1, .int .i64 (createN N s).2.2] ∧ Keep No w w' ∧ Sl Lnm w' (Gn F w w') A' n' c' (createN N s).1.l) := by
  refine c47 ?_
  unfold S47
  have hlen := hs.len
  refine NEW.i fun k2 w1 hk2 hs1 q1 a1 => NEW.i fun k4 w2 hk4 hs2 q2 a2 => ?_
  refine CALL.i (ref_check17 s hsl w2) (by kernel_rfl) ?_
  rintro r w3 ⟨rfl, q3⟩
  have z3 := (q1.trans q2).trans q3
  have b1 := (a1.no q2).no q3
  have b2 := a2.no q3
  have same : ∀ (w5 : World), Keep No w3 w5 → ∀ w6, Keep (fun j => j = k4) w5 w6 → Keep No w w6 ∧ Sl Lnm w6 (Gn F w w6) A n c N.l := by
    intro w5 q5 w6 q6
    have z6 : Keep No w w6 := (z3.trans q5).tmp q6 (by omega)
    exact ⟨z6, (hs.no z6).mono fun j hj => .inl hj⟩
  refine ⟨_, rfl, split_i (fun hc => ?_) (fun hc => ?_)⟩
  · have hc' : checkN s = false := by simpa using hc
    have e : createN N s = (N, 0, 4) := by unfold createN; rw [hc']; rfl
    rw [e]
    refine ⟨_, _, _, _, RD.i b1, ST.i b2 (by simp) rfl fun w4 hs4 q4 a4 => ⟨_, _, _, _, RD.i a4, _, _, _, rfl, ?_⟩⟩
    exact same _ (Keep.refl _ _) _ q4
  · have hc' : checkN s = true := by simpa using hc
    refine ⟨_, _, _, _, RD.i b1, CALL.i (ref_of17 ((hs.no z3)) (by omega) s) (by kernel_rfl) ?_⟩
    rintro r w4 ⟨rfl, q4⟩
    have c1 := b1.no q4
    have c2 := b2.no q4
    refine ⟨_, rfl, split_dec (fun hof => ?_) (fun hof => ?_)⟩
    · cases ho : ofN N s with
      | none =>
        have : (ofN ⟨N.l, N.next⟩ s).getD 0 = 0 := by show (ofN N s).getD 0 = 0; rw [ho]; rfl
        omega
      | some id =>
        have e : createN N s = (N, 0, 6) := by unfold createN; rw [hc', ho]; rfl
        rw [e]
        refine ⟨_, _, _, _, RD.i c1, ST.i c2 (by simp) rfl fun w5 hs5 q5 a5 => ⟨_, _, _, _, RD.i a5, _, _, _, rfl, ?_⟩⟩
        exact same _ q4 _ q5
    · have ho : ofN N s = none := by
        cases ho : ofN N s with
        | none => rfl
        | some id =>
          have h1 := hid.of ho
          have : (ofN ⟨N.l, N.next⟩ s).getD 0 = id := by show (ofN N s).getD 0 = id; rw [ho]; rfl
          omega
      refine ⟨_, _, _, cell_at c1 rfl, split_i (fun h16 => ?_) (fun h16 => ?_)⟩
      · have hl : 16 ≤ N.l.length := by
          have : ((n : Nat) : Int) = 16 := by simpa using h16
          omega
        have e : createN N s = (N, 0, 8) := by
          unfold createN
          rw [hc', ho]
          simp [hl]
        rw [e]
        refine ⟨_, _, _, _, RD.i c1, ST.i c2 (by simp) rfl fun w5 hs5 q5 a5 => ⟨_, _, _, _, RD.i a5, _, _, _, rfl, ?_⟩⟩
        exact same _ q4 _ q5
      · have hl : ¬ 16 ≤ N.l.length := by
          intro h
          have : ((n : Nat) : Int) = 16 := by omega
          rw [this] at h16
          simp at h16
        have e : createN N s = (⟨putN (s, N.next) N.l, N.next + 1⟩, N.next, 0) := by
          unfold createN
          rw [hc', ho]
          simp [hl]
        rw [e]
        refine DRAW.i fun w5 hw5 q5 => ?_
        have d1 := c1.no q5
        have d2 := c2.no q5
        refine ⟨_, _, _, cell_at d1 rfl, _, cell_at d1 rfl, _, cell_at d1 rfl, _, cell_at d1 rfl, ?_⟩
        have zz : Keep No w w5 := (z3.trans q4).trans q5
        refine CALL.i (ref_put17 (hs.no zz) (by omega) (s, N.next) (ofN_none (by rw [ho]; rfl))) (by kernel_rfl) ?_
        rintro r w6 ⟨A', c', rfl, q6, g6⟩
        have e1 := d1.no q6
        refine ⟨_, _, _, rfl, loadVar_cell (by kernel_rfl) (cell_at e1 rfl), loadVar_cell (by kernel_rfl) (cell_at e1 rfl), ?_⟩
        refine ST.i (d2.no q6) (by simp) rfl fun w7 hs7 q7 a7 => ⟨loadVar_cell (by kernel_rfl) (cell_at (e1.oth q7 (by omega)) rfl), _, _, _, _, RD.i a7, A', n + 1, c', ?_, (zz.trans q6).tmp q7 (by omega), ?_⟩
        · rw [wrap64 (by omega) (by omega)]
        · have := q6.size
          have hz := zz.size
          exact (g6.kept q7 (fun j hj _ he => by
            rcases hj with hj | hj
            · exact hj
            · have := z3.size; have := q4.size; have := q5.size; have := q3.size; omega)).mono fun j hj => by
            rcases hj with hj | hj
            · exact False.elim hj
            · exact .inr ⟨by omega, by omega⟩

theorem ref_delete {A : Option Addr} {n c : Nat} {w : World} {F : Nat → Prop} {N : Nm} (hs : Sl Lnm w F A n c N.l) (hn : n < 1000000000) (hid : IdsOk N.l) (s : Str) :
    Calls PP 50 #[.agg #[.slice A n c, .int .i64 N.next], .string (bs s)] w (Ret fun r w' => ∃ A' n' c', r = .tuple #[.agg #[.slice A' n' c', .int .i64 (deleteN N s).1.next], .int .i64 (deleteN N s).2.1, .int .i64 (deleteN N s).2.2] ∧ Keep No w w' ∧ Sl Lnm w' (Gn F w w') A' n' c' (deleteN N s).1.l) := by
  refine c50 ?_
  unfold S50
  have hlen := hs.len
  refine NEW.i fun k2 w1 hk2 hs1 q1 a1 => NEW.i fun k4 w2 hk4 hs2 q2 a2 => ?_
  have b1 := a1.no q2
  have z2 := q1.trans q2
  refine ⟨_, _, _, _, RD.i b1, CALL.i (ref_of17 (hs.no z2) hn s) (by kernel_rfl) ?_⟩
  rintro r w3 ⟨rfl, q3⟩
  have c1 := b1.no q3
  have c2 := a2.no q3
  refine ⟨_, rfl, split_i (fun hof => ?_) (fun hof => ?_)⟩
  · have ho : ofN N s = none := by
      cases ho : ofN N s with
      | none => rfl
      | some id =>
        have h1 := hid.of ho
        have : (ofN ⟨N.l, N.next⟩ s).getD 0 = id := by show (ofN N s).getD 0 = id; rw [ho]; rfl
        rw [this] at hof
        have : id = 0 := by simpa using hof
        omega
    have e : deleteN N s = (N, 0, 5) := by unfold deleteN; rw [ho]
    rw [e]
    refine ⟨_, _, _, _, RD.i c1, ST.i c2 (by simp) rfl fun w4 hs4 q4 a4 => ⟨_, _, _, _, RD.i a4, _, _, _, rfl, ?_⟩⟩
    have z6 : Keep No w w4 := (z2.trans q3).tmp q4 (by omega)
    exact ⟨z6, (hs.no z6).mono fun j hj => .inl hj⟩
  · cases ho : ofN N s with
    | none =>
      have : (ofN ⟨N.l, N.next⟩ s).getD 0 = 0 := by show (ofN N s).getD 0 = 0; rw [ho]; rfl
      rw [this] at hof
      simp at hof
    | some id =>
      have hgd : (ofN ⟨N.l, N.next⟩ s).getD 0 = id := by show (ofN N s).getD 0 = id; rw [ho]; rfl
      have e : deleteN N s = (⟨delN N.l s, N.next⟩, id, 0) := by unfold deleteN; rw [ho]
      rw [e]
      refine DRAW.i fun w4 hw4 q4 => ?_
      have d1 := c1.no q4
      have zz : Keep No w w4 := (z2.trans q3).trans q4
      refine ⟨_, _, _, cell_at d1 rfl, _, cell_at d1 rfl, CALL.i (ref_without (hs.no zz) hn s) (by kernel_rfl) ?_⟩
      rintro r w5 ⟨A', c', rfl, q5, g5⟩
      have e1 := d1.no q5
      refine ⟨_, _, _, rfl, loadVar_cell (by kernel_rfl) (cell_at e1 rfl), ?_⟩
      refine ST.i ((c2.no q4).no q5) (by simp) rfl fun w6 hs6 q6 a6 => ⟨_, _, _, _, RD.i a6, _, _, _, rfl, (zz.trans q5).tmp q6 (by omega), ?_⟩
      have := q5.size
      have hz := zz.size
      exact (g5.kept q6 (fun j hj _ he => by
        rcases hj with hj | hj
        · exact hj
        · have := z2.size; have := q3.size; have := q4.size; omega)).mono fun j hj => by
        rcases hj with hj | hj
        · exact False.elim hj
        · exact .inr ⟨by omega, by omega⟩

theorem ref_rename {A : Option Addr} {n c : Nat} {w : World} {F : Nat → Prop} {N : Nm} (hs : Sl Lnm w F A n c N.l) (hn : n < 1000000) (hid : IdsOk N.l) (s t : Str) (htl : t.length < 1000000000) :
    Calls PP 52 #[.agg #[.slice A n c, .int .i64 N.next], .string (bs s), .string (bs t)] w (Ret fun r w' => ∃ A' n' c', r = .tuple #[.agg #[.slice A' n' c', .int .i64 (renameN N s t).1.next], .int .i64 (renameN N s t).2.1, .int .i64 (renameN N s t).2.2] ∧ Keep No w w' ∧ Sl Lnm w' (Gn F w w') A' n' c' (renameN N s t).1.l) := by
  refine c52 ?_
  unfold S52
  have hlen := hs.len
  refine NEW.i fun k3 w1 hk3 hs1 q1 a1 => NEW.i fun k6 w2 hk6 hs2 q2 a2 => ?_
  have b1 := a1.no q2
  have z2 := q1.trans q2
  have same : ∀ (w5 : World), Keep No w2 w5 → ∀ w6, Keep (fun j => j = k6) w5 w6 → Keep No w w6 ∧ Sl Lnm w6 (Gn F w w6) A n c N.l := by
    intro w5 q5 w6 q6
    have z6 : Keep No w w6 := (z2.trans q5).tmp q6 (by omega)
    exact ⟨z6, (hs.no z6).mono fun j hj => .inl hj⟩
  refine ⟨_, _, _, _, RD.i b1, CALL.i (ref_of17 (hs.no z2) (by omega) s) (by kernel_rfl) ?_⟩
  rintro r w3 ⟨rfl, q3⟩
  have c1 := b1.no q3
  have c2 := a2.no q3
  refine ⟨_, rfl, split_i (fun hof => ?_) (fun hof => ?_)⟩
  · have ho : ofN N s = none := by
      cases ho : ofN N s with
      | none => rfl
      | some id =>
        have h1 := hid.of ho
        have : (ofN ⟨N.l, N.next⟩ s).getD 0 = id := by show (ofN N s).getD 0 = id; rw [ho]; rfl
        rw [this] at hof
        have : id = 0 := by simpa using hof
        omega
    have e : renameN N s t = (N, 0, 5) := by unfold renameN; rw [ho]
    rw [e]
    refine ⟨_, _, _, _, RD.i c1, ST.i c2 (by simp) rfl fun w4 hs4 q4 a4 => ⟨_, _, _, _, RD.i a4, _, _, _, rfl, same _ q3 _ q4⟩⟩
  · cases ho : ofN N s with
    | none =>
      have : (ofN ⟨N.l, N.next⟩ s).getD 0 = 0 := by show (ofN N s).getD 0 = 0; rw [ho]; rfl
      rw [this] at hof
      simp at hof
    | some id =>
      have hgd : (ofN ⟨N.l, N.next⟩ s).getD 0 = id := by show (ofN N s).getD 0 = id; rw [ho]; rfl
      refine CALL.i (ref_check17 t htl w3) (by kernel_rfl) ?_
      rintro r w4 ⟨rfl, q4⟩
      have d1 := c1.no q4
      have d2 := c2.no q4
      refine ⟨_, rfl, split_i (fun hc => ?_) (fun hc => ?_)⟩
      · have hc' : checkN t = false := by simpa using hc
        have e : renameN N s t = (N, 0, 4) := by unfold renameN; rw [ho, hc']; rfl
        rw [e]
        refine ⟨_, _, _, _, RD.i d1, ST.i d2 (by simp) rfl fun w5 hs5 q5 a5 => ⟨_, _, _, _, RD.i a5, _, _, _, rfl, same _ (q3.trans q4) _ q5⟩⟩
      · have hc' : checkN t = true := by simpa using hc
        refine ⟨_, _, _, _, RD.i d1, CALL.i (ref_of17 (hs.no ((z2.trans q3).trans q4)) (by omega) t) (by kernel_rfl) ?_⟩
        rintro r w5 ⟨rfl, q5⟩
        have e1 := d1.no q5
        have e2 := d2.no q5
        refine ⟨_, rfl, split_dec (fun ht => ?_) (fun ht => ?_)⟩
        · cases hot : ofN N t with
          | none =>
            have : (ofN ⟨N.l, N.next⟩ t).getD 0 = 0 := by show (ofN N t).getD 0 = 0; rw [hot]; rfl
            omega
          | some id2 =>
            have e : renameN N s t = (N, 0, 6) := by unfold renameN; rw [ho, hc', hot]; rfl
            rw [e]
            refine ⟨_, _, _, _, RD.i e1, ST.i e2 (by simp) rfl fun w6 hs6 q6 a6 => ⟨_, _, _, _, RD.i a6, _, _, _, rfl, same _ ((q3.trans q4).trans q5) _ q6⟩⟩
        · have hot : ofN N t = none := by
            cases hot : ofN N t with
            | none => rfl
            | some id2 =>
              have h1 := hid.of hot
              have : (ofN ⟨N.l, N.next⟩ t).getD 0 = id2 := by show (ofN N t).getD 0 = id2; rw [hot]; rfl
              omega
          have e : renameN N s t = (⟨putN (t, id) (delN N.l s), N.next⟩, id, 0) := by unfold renameN; rw [ho, hc', hot]; rfl
          rw [e]
          refine DRAW.i fun w6 hw6 q6 => ?_
          have f1 := e1.no q6
          have zz : Keep No w w6 := (((z2.trans q3).trans q4).trans q5).trans q6
          refine ⟨_, _, _, cell_at f1 rfl, _, cell_at f1 rfl, CALL.i (ref_without (hs.no zz) (by omega) s) (by kernel_rfl) ?_⟩
          rintro r w7 ⟨A', c', rfl, q7, g7⟩
          have g1 := f1.no q7
          refine ⟨_, _, _, rfl, loadVar_cell (by kernel_rfl) (cell_at g1 rfl), ?_⟩
          have hdl : (delN N.l s).length ≤ N.l.length := List.length_filter_le _ _
          have hnk : t ∉ mkeys (delN N.l s) := by
            intro hc
            obtain ⟨q, hq, he⟩ := List.mem_map.1 hc
            exact ofN_none (N := N) (by rw [hot]; rfl) (List.mem_map.2 ⟨q, (delN_mem.1 hq).1, he⟩)
          refine CALL.i (ref_put17 g7 (by omega) (t, id) hnk) (by kernel_rfl) ?_
          rintro r w8 ⟨A2, c2', rfl, q8, g8⟩
          refine ⟨_, _, _, rfl, loadVar_cell (by kernel_rfl) (cell_at (g1.no q8) rfl), ?_⟩
          have z8 := (zz.trans q7).trans q8
          refine ST.i (((e2.no q6).no q7).no q8) (by simp) rfl fun w9 hs9 q9 a9 => ⟨_, _, _, _, RD.i a9, _, _, _, rfl, z8.tmp q9 (by omega), ?_⟩
          have := q7.size
          have := q8.size
          have hz := zz.size
          exact (g8.kept q9 (fun j hj _ he => by
            rcases hj with hj | hj
            · exact hj
            · have := z2.size; have := q3.size; have := q4.size; have := q5.size; have := q6.size; omega)).mono fun j hj => by
            rcases hj with hj | hj
            · exact False.elim hj
            · exact .inr ⟨by omega, by omega⟩
end Go.SW
