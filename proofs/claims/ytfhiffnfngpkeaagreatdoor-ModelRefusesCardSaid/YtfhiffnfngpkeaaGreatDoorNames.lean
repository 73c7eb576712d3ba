/- The names' functions: what each computes. -/
import Derived.Test.YtfhiffnfngpkeaaGreatDoorSorts
set_option linter.unusedVariables false
namespace Go.SW
open Go Go.Proofs Pl

/-! ## texts -/
theorem bs_size (l : Str) : (bs l).size = l.length := by
  show (⟨l⟩ : Array UInt8).size = l.length
  simp
theorem bs_toList (l : Str) : (bs l).toList = l := by
  rw [ByteArray.toList_eq]; rfl
theorem bt_bs (l : Str) (i : Nat) {b : UInt8} (h : l[i]? = some b) : bt (bs l) (i : Int) = (b.toNat : Int) := by
  unfold bt
  show ((l.getD (Int.toNat (i : Int)) 0).toNat : Int) = _
  rw [Int.toNat_natCast, List.getD_eq_getElem?_getD, h]; rfl
theorem bs_extract (l : Str) (i j : Nat) : (ByteArray.extract (bs l) i j).toList = (l.drop i).take (j - i) := by
  rw [ByteArray.toList_eq]
  have : (ByteArray.extract (bs l) i j).data = (⟨l⟩ : Array UInt8).extract i j := by simp [bs]
  rw [this]
  simp

theorem names_hasPrefix (l p : Str) (w : World) : Calls PP 142 #[.string (bs l), .string (bs p)] w (Ret fun r w' => r = .bool (decide (p.length ≤ l.length ∧ l.take p.length = p)) ∧ w' = w) := by
  apply c142
  unfold S142
  refine CALL.i (R := fun r w' => r = .bool (decide (p.length ≤ l.length ∧ l.take p.length = p)) ∧ w' = w) ?_ (by kernel_rfl) ?_
  · apply c182
    unfold S182
    rw [bs_size, bs_size]
    refine split_dec (fun h => ?_) (fun h => ?_)
    · refine ⟨⟨by omega, by omega⟩, ?_, rfl⟩
      rw [Int.toNat_natCast, bs_extract, bs_toList, List.drop_zero, Nat.sub_zero]
      congr 1
      have hl : p.length ≤ l.length := by omega
      by_cases hp : l.take p.length = p
      · simp [hl, hp]
      · simp [hp]
    · refine ⟨?_, rfl⟩
      have hl : ¬ p.length ≤ l.length := by omega
      simp [hl]
  · rintro r w1 ⟨rfl, rfl⟩
    exact ⟨_, rfl, rfl, rfl⟩
theorem names_hasSuffix (l p : Str) (hl9 : l.length < 4611686018427387904) (w : World) : Calls PP 143 #[.string (bs l), .string (bs p)] w (Ret fun r w' => r = .bool (decide (p.length ≤ l.length ∧ l.drop (l.length - p.length) = p)) ∧ w' = w) := by
  apply c143
  unfold S143
  refine CALL.i (R := fun r w' => r = .bool (decide (p.length ≤ l.length ∧ l.drop (l.length - p.length) = p)) ∧ w' = w) ?_ (by kernel_rfl) ?_
  · apply c183
    unfold S183
    rw [bs_size, bs_size]
    refine split_dec (fun h => ?_) (fun h => ?_)
    · have hl : p.length ≤ l.length := by omega
      have hw : IntKind.wrap .i64 ((l.length : Int) - (p.length : Int)) = ((l.length - p.length : Nat) : Int) := by
        rw [wrap64 (by omega) (by omega)]; omega
      rw [hw]
      refine ⟨⟨by omega, by omega⟩, ?_, rfl⟩
      rw [Int.toNat_natCast, bs_extract, bs_toList]
      congr 1
      rw [List.take_of_length_le (by simp)]
      by_cases hp : l.drop (l.length - p.length) = p
      · simp [hl, hp]
      · simp [hp]
    · refine ⟨?_, rfl⟩
      have hl : ¬ p.length ≤ l.length := by omega
      simp [hl]
  · rintro r w1 ⟨rfl, rfl⟩
    exact ⟨_, rfl, rfl, rfl⟩

theorem names_may (b : UInt8) (w : World) : Calls PP 141 #[.int .u8 (b.toNat : Int)] w (Ret fun r w' => r = .bool (mayB b) ∧ w' = w) := by
  have others : ∀ (K : Value → World → Prop), (K (.bool (b == 46 || b == 95 || b == 45 || b == 47)) w) →
      CALL PP 181 [(.string (⟨#[46, 95, 45, 47]⟩ : ByteArray)), (.int .u8 (b.toNat : Int))] w fun r27 w1 => ∃ (x27 : Int), r27 = (.int .i64 x27) ∧ K (.bool (decide (x27 ≥ (0 : Int)))) w1 := by
    intro K hK
    refine CALL.i (R := fun r w' => r = .int .i64 (Lib.indexByte [46, 95, 45, 47] b) ∧ w' = w) ?_ (by kernel_rfl) ?_
    · refine (Tryz.strings_IndexByte ⟨#[46, 95, 45, 47]⟩ (b.toNat : Int) w).mono ?_
      rintro e w' ⟨rfl, rfl⟩
      refine ⟨?_, rfl⟩
      have hb : b.toNat.toUInt8 = b := by simp
      rw [Int.toNat_natCast, hb]
    · rintro r w1 ⟨rfl, rfl⟩
      refine ⟨_, rfl, ?_⟩
      have H : ∀ n : Fin 256, decide (Lib.indexByte [46, 95, 45, 47] (UInt8.ofNat n.val) ≥ 0) = (UInt8.ofNat n.val == 46 || UInt8.ofNat n.val == 95 || UInt8.ofNat n.val == 45 || UInt8.ofNat n.val == 47) := by decide +kernel
      have := H ⟨b.toNat, b.toNat_lt⟩
      simp only [UInt8.ofNat_toNat] at this
      rw [this]
      exact hK
  have hmay : mayB b = ((decide (97 ≤ (b.toNat : Int)) && decide ((b.toNat : Int) ≤ 122)) || (decide (65 ≤ (b.toNat : Int)) && decide ((b.toNat : Int) ≤ 90)) || (decide (48 ≤ (b.toNat : Int)) && decide ((b.toNat : Int) ≤ 57)) || (b == 46 || b == 95 || b == 45 || b == 47)) := by
    have H : ∀ n : Fin 256, mayB (UInt8.ofNat n.val) = ((decide (97 ≤ (n.val : Int)) && decide ((n.val : Int) ≤ 122)) || (decide (65 ≤ (n.val : Int)) && decide ((n.val : Int) ≤ 90)) || (decide (48 ≤ (n.val : Int)) && decide ((n.val : Int) ≤ 57)) || (UInt8.ofNat n.val == 46 || UInt8.ofNat n.val == 95 || UInt8.ofNat n.val == 45 || UInt8.ofNat n.val == 47)) := by decide +kernel
    have := H ⟨b.toNat, b.toNat_lt⟩
    simpa only [UInt8.ofNat_toNat] using this
  suffices H : ∀ R : Value → World → Prop, R (.bool (mayB b)) w → S141 (b.toNat : Int) w R from c141 (H _ ⟨rfl, rfl⟩)
  intro R hR
  have oth := others R
  clear others
  unfold S141
  rw [hmay] at hR
  clear hmay
  generalize (b.toNat : Int) = x at *
  generalize (b == 46 || b == 95 || b == 45 || b == 47) = q at *
  repeat' first
    | refine split_dec (fun _ => ?_) (fun _ => ?_)
    | refine oth ?_
  all_goals simp_all

/-! ## a word of the library's that lies in block 1 -/
def Glob (w : World) : Prop := ∃ m : Int, w.cell? ⟨1, 0, none⟩ = some (.int .i64 m)
theorem cell_congr {w w' : World} {b i : Nat} (h : w'.heap[b]? = w.heap[b]?) : w'.cell? ⟨b, i, none⟩ = w.cell? ⟨b, i, none⟩ := by simp [World.cell?, h]
theorem Glob.kept {w w' : World} {S : Nat → Prop} (h : Glob w) (hk : Keep S w w') (hS : ¬ S 1) : Glob w' := by
  obtain ⟨m, h⟩ := h
  have hlt : 1 < w.heap.size := by
    cases hh : w.heap[1]? with
    | none => simp [World.cell?, hh] at h
    | some o => exact (Array.getElem?_eq_some_iff.1 hh).1
  exact ⟨m, (cell_congr (hk.keep 1 hlt hS)).trans h⟩
theorem Glob.no {w w' : World} (h : Glob w) (hk : Keep No w w') : Glob w' := h.kept hk (fun h => h)

theorem prefix47 (s : Str) : decide ([(47 : UInt8)].length ≤ s.length ∧ s.take [(47 : UInt8)].length = [47]) = (s.head? == some 47) := by
  cases s with
  | nil => simp
  | cons b l =>
    simp
    by_cases h : b = 47 <;> simp [h]
theorem suffix47 (s : Str) : decide ([(47 : UInt8)].length ≤ s.length ∧ s.drop (s.length - [(47 : UInt8)].length) = [47]) = (s.getLast? == some 47) := by
  rcases List.eq_nil_or_concat s with rfl | ⟨l, b, rfl⟩
  · simp
  · simp
    by_cases h : b = 47 <;> simp [h]
theorem twice_index : ∀ s : Str, Lib.contains s [47, 47] = twice s
  | [] => by simp [Lib.contains, Lib.index, twice]
  | b :: l => by
    have ih := twice_index l
    unfold Lib.contains at ih ⊢
    unfold Lib.index
    cases l with
    | nil => simp [twice, Lib.index]
    | cons c l =>
      by_cases hp : b = 47 ∧ c = 47
      · obtain ⟨rfl, rfl⟩ := hp
        simp [twice, List.isPrefixOf]
      · have h1 : List.isPrefixOf [47, 47] (b :: c :: l) = false := by
          simp [List.isPrefixOf]
          intro h
          exact fun h2 => hp ⟨h.symm, h2.symm⟩
        have h2 : twice (b :: c :: l) = twice (c :: l) := by
          by_cases hb : b = 47
          · subst hb
            have hc : c ≠ 47 := fun h => hp ⟨rfl, h⟩
            simp [twice, hc]
          · simp [twice, hb]
        rw [h1, h2, ← ih]
        simp only [Bool.false_eq_true, if_false]
        by_cases hi : Lib.index (c :: l) [47, 47] = -1
        · rw [hi]; rfl
        · have hge : -1 ≤ Lib.index (c :: l) [47, 47] := Lib.index_ge _ _
          rw [if_neg (by simpa using hi)]
          congr 1
          apply propext
          omega

theorem names_check (s : Str) (hs : s.length < 1099511627776) {w : World} (hg : Glob w) : Calls PP 110 #[.string (bs s)] w (Ret fun r w' => r = .bool (checkN s) ∧ w' = w) := by
  apply c110
  unfold S110
  rw [bs_size]
  refine ⟨fun x w1 => ∃ i : Nat, x = i ∧ i ≤ s.length ∧ (∀ (j : Nat) b, j < i → s[j]? = some b → mayB b = true) ∧ w1 = w, fun x _ => (s.length - x).toNat, ⟨0, rfl, Nat.zero_le _, by intro j b h; omega, rfl⟩, ?_⟩
  rintro _ x w1 ⟨i, rfl, hi, hb, rfl⟩
  refine split_dec (fun hlt => ?_) (fun hge => ?_)
  · have hlt' : i < s.length := by omega
    refine ⟨⟨by omega, hlt⟩, ?_⟩
    have hsi : s[i]? = some s[i] := List.getElem?_eq_getElem hlt'
    rw [bt_bs s i hsi]
    refine CALL.i (names_may s[i] w1) (by kernel_rfl) ?_
    rintro r w2 ⟨rfl, rfl⟩
    refine ⟨_, rfl, split_i (fun ht => ?_) (fun ht => ?_)⟩
    · refine ⟨?_, rfl⟩
      have hm : mayB s[i] = false := by simpa using ht
      have : s.all mayB = false := by
        rw [List.all_eq_false]
        exact ⟨s[i], List.getElem_mem hlt', by simp [hm]⟩
      simp [checkN, this]
    · have hm : mayB s[i] = true := by simpa using ht
      refine ⟨⟨i + 1, wrapS (by omega), hlt', ?_, rfl⟩, mu_go (wrapS (by omega)) hlt'⟩
      intro j b hj hjb
      by_cases hji : j = i
      · subst hji
        rw [hsi] at hjb
        cases hjb
        exact hm
      · exact hb j b (by omega) hjb
  · have hall : s.all mayB = true := by
      rw [List.all_eq_true]
      intro b hbm
      obtain ⟨j, hj⟩ := List.mem_iff_getElem?.1 hbm
      exact hb j b (by have := (List.getElem?_eq_some_iff.1 hj).1; omega) hj
    have hemp : (⟨#[]⟩ : ByteArray).toList = [] := by rw [ByteArray.toList_eq]
    rw [bs_toList, hemp]
    refine split_i (fun hne => ?_) (fun he => ?_)
    · have hne' : s.isEmpty = false := by
        cases s with
        | nil => simp at hne
        | cons _ _ => rfl
      refine split_dec (fun h32 => ?_) (fun h32 => ?_)
      · have h32' : s.length ≤ 32 := by omega
        refine CALL.i (names_hasPrefix s [47] w1) (by kernel_rfl) ?_
        rintro r w2 ⟨rfl, rfl⟩
        refine ⟨_, rfl, ?_⟩
        rw [prefix47]
        refine split_i (fun hp => ?_) (fun hp => ?_)
        · have hp' : (s.head? == some 47) = false := by simpa using hp
          refine CALL.i (names_hasSuffix s [47] (by omega) w2) (by kernel_rfl) ?_
          rintro r w3 ⟨rfl, rfl⟩
          refine ⟨_, rfl, ?_⟩
          rw [suffix47]
          refine split_i (fun hq => ?_) (fun hq => ?_)
          · have hq' : (s.getLast? == some 47) = false := by simpa using hq
            obtain ⟨m, hm⟩ := hg
            refine CALL.i (R := fun r w' => r = .bool (twice s) ∧ w' = w3) ?_ (by kernel_rfl) ?_
            · refine (Tryz.strings_Contains (bs s) ⟨#[47, 47]⟩ m w3 (by rw [bs_size]; omega) hm).mono ?_
              rintro e w' ⟨rfl, rfl⟩
              refine ⟨?_, rfl⟩
              have := twice_index s
              rw [← this]
              rfl
            · rintro r w4 ⟨rfl, rfl⟩
              refine ⟨_, rfl, ?_, rfl⟩
              simp [checkN, hall, hne', h32', hp', hq']
          · have hq' : (s.getLast? == some 47) = true := by simpa using hq
            refine ⟨?_, rfl⟩
            simp [checkN, hall, hne', h32', hp', hq']
        · have hp' : (s.head? == some 47) = true := by simpa using hp
          refine ⟨?_, rfl⟩
          simp [checkN, hall, hne', h32', hp']
      · refine ⟨?_, rfl⟩
        have h32' : ¬ s.length ≤ 32 := by omega
        simp [checkN, hall, hne', h32']
    · refine ⟨?_, rfl⟩
      have hnil : s = [] := by
        cases s with
        | nil => rfl
        | cons _ _ => simp at he
      subst hnil
      rfl

/-! ## maps.Clone -/
theorem run_makeInterface {t : TypeId} {d : TypeDesc} (hu : PP.underlying t = some d) (hd : ∀ ms, d ≠ .interface ms) (x : Value) (w : World) : (Instr.makeInterface t x).run PP w = .ok (.iface t x) w := by
  unfold Instr.makeInterface
  simp only [Sem.run_bind, run_underlying' hu, Result.andThen_ok]
  cases d <;> first | rfl | exact absurd rfl (hd _)
theorem run_typeAssert {t i k e : TypeId} (hu : PP.underlying t = some (.map k e)) (x : Value) (w : World) : (Instr.typeAssert (.iface t x) i t false).run PP w = .ok x w := by
  simp [Instr.typeAssert, run_underlying' hu]
theorem call_mapsClone {w : World} {t : TypeId} {mb : Nat} {es : Array MapEntry} {clock : Nat} (h : At w mb (.map es clock)) :
    (callFunc 109 ⟨[.iface t (.map (some mb))]⟩).run PP w = .ok (.value (.iface t (.map (some w.heap.size)))) (w.alloc (.map es clock)) := by
  have hb : w.heap[mb]? = some (.map es clock) := h
  rw [run_callFunc_extern (fn := Tryz.f109) (e := Extern.MapsClone.clone) Tryz.func109 (by kernel_rfl) (by kernel_rfl) (by kernel_rfl) (by kernel_rfl)]
  have hcl : Extern.MapsClone.clone ⟨[.iface t (.map (some mb))]⟩ = (do
      let .map entries clock ← getObj mb | stuck "maps.clone: a map expected"
      pure (.iface t (.map (some (← newObj (.map entries clock)))))) := rfl
  rw [hcl]
  simp [MapKept.run_getObj_map hb]
theorem clone_map {κ ν : Type} [DecidableEq κ] {E : KV κ ν} {t k e : TypeId} {z : Value} (T : MapTy E t k e z) {w : World} {mb : Nat} {M : List (κ × ν)} (h : MapAt E w mb M) (i : TypeId) {K : Nat → World → Prop}
    (hK : ∀ mb' w', w.heap.size = mb' → w'.heap.size = mb' + 1 → Keep No w w' → MapAt E w' mb' M → K mb' w') :
    RUN PP (Instr.makeInterface t (.map (some mb))) w fun r6 w1 =>
    CALL PP 109 [r6] w1 fun r7 w2 =>
    RUN PP (Instr.typeAssert r7 i t false) w2 fun r8 w3 =>
    ∃ (m8 : Option Nat), r8 = (.map m8) ∧ ∃ mb', m8 = some mb' ∧ K mb' w3 := by
  obtain ⟨es, clock, h1, h2, h3⟩ := h
  refine ⟨_, w, run_makeInterface T.und (fun ms h => by cases h) _ _, CALL.x (call_mapsClone h1) ⟨_, _, run_typeAssert T.und _ _, _, rfl, _, rfl, ?_⟩⟩
  exact hK _ _ rfl (by simp only [World.alloc, Array.size_push]) (push_keep _ _) ⟨es, clock, push_at _ _, h2, h3⟩
theorem clone_str {w : World} {mb : Nat} {M : List (Str × Int)} (h : MapAt Enm w mb M) : Calls PP 82 #[.map (some mb)] w (Ret fun r w' => ∃ mb', r = .map (some mb') ∧ w.heap.size = mb' ∧ Keep No w w' ∧ MapAt Enm w' mb' M) := by
  apply c82
  unfold S82
  show RUN _ _ _ _
  obtain ⟨v, w1, h1, h2⟩ := clone_map T89 h 20 (K := fun mb' w' => w.heap.size = mb' ∧ Keep No w w' ∧ MapAt Enm w' mb' M) (fun mb' w' a b c d => ⟨a, c, d⟩)
  refine ⟨v, w1, h1, h2.mono fun r w2 h3 => ?_⟩
  obtain ⟨r8, w3, h4, m8, h5, mb', h6, h7⟩ := h3
  subst h5 h6
  exact ⟨_, w3, h4, _, rfl, mb', rfl, h7⟩
theorem clone_int {w : World} {mb : Nat} {M : List (Int × Str)} (h : MapAt Eml w mb M) : Calls PP 67 #[.map (some mb)] w (Ret fun r w' => ∃ mb', r = .map (some mb') ∧ w.heap.size = mb' ∧ Keep No w w' ∧ MapAt Eml w' mb' M) := by
  apply c67
  unfold S67
  show RUN _ _ _ _
  obtain ⟨v, w1, h1, h2⟩ := clone_map T80 h 20 (K := fun mb' w' => w.heap.size = mb' ∧ Keep No w w' ∧ MapAt Eml w' mb' M) (fun mb' w' a b c d => ⟨a, c, d⟩)
  refine ⟨v, w1, h1, h2.mono fun r w2 h3 => ?_⟩
  obtain ⟨r8, w3, h4, m8, h5, mb', h6, h7⟩ := h3
  subst h5 h6
  exact ⟨_, w3, h4, _, rfl, mb', rfl, h7⟩
end Go.SW
set_option linter.unusedVariables false
namespace Go.SW
open Go Go.Proofs Pl

def IsNames (w : World) (k : Nat) (F : Nat → Prop) (N : Nm) : Prop :=
  ∃ mb, At w k (.cells ⟨[.map (some mb), .int .i64 N.next]⟩ 91 (0, 0)) ∧ F k ∧ F mb ∧ MapAt Enm w mb N.l
theorem IsNames.keep {w w' : World} {k : Nat} {F : Nat → Prop} {N : Nm} (h : IsNames w k F N) (hk : ∀ j, F j → j < w.heap.size → w'.heap[j]? = w.heap[j]?) : IsNames w' k F N := by
  obtain ⟨mb, h1, h2, h3, h4⟩ := h
  exact ⟨mb, (hk k h2 h1.lt).trans h1, h2, h3, h4.keep (hk mb h3 h4.lt)⟩
theorem IsNames.kept {w w' : World} {k : Nat} {F S : Nat → Prop} {N : Nm} (h : IsNames w k F N) (hk : Keep S w w') (hd : ∀ j, F j → ¬ S j) : IsNames w' k F N := h.keep fun j hF hlt => hk.keep j hlt (hd j hF)
theorem IsNames.no {w w' : World} {k : Nat} {F : Nat → Prop} {N : Nm} (h : IsNames w k F N) (hk : Keep No w w') : IsNames w' k F N := h.kept hk (fun _ _ h => h)
theorem IsNames.mono {w : World} {k : Nat} {F G : Nat → Prop} {N : Nm} (h : IsNames w k F N) (hk : ∀ j, F j → G j) : IsNames w k G N := by
  obtain ⟨mb, h1, h2, h3, h4⟩ := h
  exact ⟨mb, h1, hk _ h2, hk _ h3, h4⟩
theorem IsNames.nodup {w : World} {k : Nat} {F : Nat → Prop} {N : Nm} (h : IsNames w k F N) : (mkeys N.l).Nodup := by
  obtain ⟨mb, h1, h2, h3, h4⟩ := h
  exact h4.nodup
theorem ofN_mget (N : Nm) (s : Str) : ofN N s = mget N.l s := rfl

theorem names_of {w : World} {k : Nat} {F : Nat → Prop} {N : Nm} (h : IsNames w k F N) (s : Str) :
    Calls PP 16 #[.pointer (some ⟨k, 0, none⟩), .string (bs s)] w (Ret fun r w' => r = .tuple #[.int .i64 ((ofN N s).getD 0), .bool (ofN N s).isSome] ∧ w' = w) := by
  obtain ⟨mb, h1, h2, h3, h4⟩ := h
  refine c16 ⟨_, cell_at h1 rfl, _, map_lookup T89 h4 s, ?_⟩
  rw [ofN_mget]
  cases mget N.l s with
  | none => exact ⟨_, _, rfl, rfl, rfl⟩
  | some v => exact ⟨_, _, rfl, rfl, rfl⟩
theorem names_next {w : World} {k : Nat} {F : Nat → Prop} {N : Nm} (h : IsNames w k F N) : Calls PP 100 #[.pointer (some ⟨k, 0, none⟩)] w (Ret fun r w' => r = .int .i64 N.next ∧ w' = w) := by
  obtain ⟨mb, h1, h2, h3, h4⟩ := h
  exact c100 ⟨_, cell_at h1 rfl, rfl, rfl⟩
theorem names_new (w : World) : Calls PP 30 #[] w (Ret fun r w' => ∃ k, r = .pointer (some ⟨k, 0, none⟩) ∧ Keep No w w' ∧ w'.heap.size = w.heap.size + 2 ∧ IsNames w' k (fun j => w.heap.size ≤ j ∧ j < w'.heap.size) .new) := by
  refine c30 ?_
  unfold S30
  refine NEW.i fun b w1 hb hs1 k1 a1 => NEW.i fun k w2 hk hs2 k2 a2 => ⟨k, rfl, k1.trans k2, by omega, b, a2, ⟨by omega, by omega⟩, ⟨by omega, by omega⟩, (MapAt.empty a1).no k2⟩
theorem names_clone {w : World} {k : Nat} {F : Nat → Prop} {N : Nm} (h : IsNames w k F N) :
    Calls PP 36 #[.pointer (some ⟨k, 0, none⟩)] w (Ret fun r w' => ∃ k', r = .pointer (some ⟨k', 0, none⟩) ∧ Keep No w w' ∧ IsNames w' k' (fun j => w.heap.size ≤ j ∧ j < w'.heap.size) N) := by
  refine c36 ?_
  unfold S36
  refine DRAW.i fun w1 hw1 k1 => ?_
  obtain ⟨mb, h1, h2, h3, h4⟩ := h.no k1
  refine ⟨_, cell_at h1 rfl, _, cell_at h1 rfl, ?_⟩
  refine CALL.i (clone_str h4) (by kernel_rfl) ?_
  rintro r w2 ⟨mb', rfl, hmb, k2, hm2⟩
  refine ⟨_, rfl, loadVar_cell (by kernel_rfl) (cell_at (h1.no k2) rfl), ?_⟩
  have hs : w1.heap.size = w.heap.size := by rw [hw1]
  have hml := hm2.lt
  refine NEW.i fun k' w3 hk' hs3 k3 a3 => ⟨k', rfl, (k1.trans k2).trans k3, mb', a3, ⟨by have := k2.size; omega, by omega⟩, ⟨by omega, by omega⟩, hm2.no k3⟩

theorem putN_perm (p : Str × Int) : ∀ l : List (Str × Int), (putN p l).Perm (p :: l)
  | [] => List.Perm.refl _
  | q :: l => by
    unfold putN
    split
    · exact ((putN_perm p l).cons q).trans (List.Perm.swap _ _ _)
    · exact List.Perm.refl _
theorem mdel_delN (l : List (Str × Int)) (s : Str) : mdel l s = delN l s := by
  unfold mdel delN
  refine List.filter_congr fun p _ => ?_
  by_cases h : p.1 = s <;> simp [h]
theorem ofN_none {N : Nm} {s : Str} (h : (ofN N s).isSome = false) : s ∉ mkeys N.l := by
  rw [ofN_mget] at h
  exact mget_none.1 (Option.not_isSome_iff_eq_none.1 (by simp [h]))

theorem names_create {w : World} {k : Nat} {F : Nat → Prop} {N : Nm} (h : IsNames w k F N) (hg : Glob w) (s : Str) (hs : s.length < 1099511627776) (hn0 : 0 ≤ N.next) (hn1 : N.next < 4611686018427387904) :
    Calls PP 68 #[.pointer (some ⟨k, 0, none⟩), .string (bs s)] w (Ret fun r w' => r = .tuple #[.int .i64 (createN N s).2.1, .int .i64 (createN N s).2.2] ∧ Keep F w w' ∧ IsNames w' k F (createN N s).1) := by
  refine c68 ?_
  unfold S68
  refine CALL.i (names_of h s) (by kernel_rfl) ?_
  rintro r w1 ⟨rfl, rfl⟩
  refine ⟨_, _, rfl, ?_⟩
  refine CALL.i (names_check s hs hg) (by kernel_rfl) ?_
  rintro r w2 ⟨rfl, rfl⟩
  refine ⟨_, rfl, split_i (fun hc => ?_) (fun hc => ?_)⟩
  · have hc' : checkN s = false := by simpa using hc
    have he : createN N s = (N, 0, 4) := by simp [createN, hc']
    rw [he]
    exact ⟨rfl, Keep.refl _ _, h⟩
  · have hc' : checkN s = true := by simpa using hc
    refine split_i (fun ht => ?_) (fun ht => ?_)
    · have he : createN N s = (N, 0, 6) := by simp [createN, hc', ht]
      rw [he]
      exact ⟨rfl, Keep.refl _ _, h⟩
    · have hbx := h
      obtain ⟨mb, h1, h2, h3, h4⟩ := hbx
      refine ⟨_, cell_at h1 rfl, _, map_len T89 h4 3, split_dec (fun hge => ?_) (fun hlt => ?_)⟩
      · have hl : 16 ≤ N.l.length := by omega
        have he : createN N s = (N, 0, 8) := by simp [createN, hc', ht, hl]
        rw [he]
        exact ⟨rfl, Keep.refl _ _, h⟩
      · have hl : ¬ 16 ≤ N.l.length := by omega
        have he : createN N s = (⟨putN (s, N.next) N.l, N.next + 1⟩, N.next, 0) := by simp [createN, hc', ht, hl]
        rw [he]
        refine DRAW.i fun w3 hw3 k3 => ?_
        have h13 := h1.no k3
        refine ⟨_, cell_at h13 rfl, _, cell_at h13 rfl, ?_⟩
        refine map_update T89 (h4.no k3) s N.next ?_
        intro w4 hs4 k4 hm4
        have hne : k ≠ mb := fun hc => (h4.notCells (hc ▸ h1))
        have h14 := k4.at_ h13 hne
        refine ⟨_, cell_at h14 rfl, ?_⟩
        refine ST.i h14 (by show 1 + 1 ≤ 2; omega) rfl fun w5 hs5 k5 a5 => ?_
        have e1 : IntKind.wrap .i64 (N.next + 1) = N.next + 1 := wrap64 (by omega) (by omega)
        have e2 : IntKind.wrap .i64 (N.next + 1 - 1) = N.next := by rw [wrap64 (by omega) (by omega)]; omega
        rw [e1] at a5
        refine ⟨_, cell_at a5 rfl, ?_⟩
        rw [e2]
        refine ⟨rfl, (k3.no.trans (k4.mono fun j _ hj => hj ▸ h3)).trans (k5.mono fun j _ hj => hj ▸ h2), mb, a5, h2, h3, ?_⟩
        have hm5 := hm4.kept k5 (fun hc => hne hc.symm)
        refine hm5.perm ?_
        unfold mput
        rw [mdel_self (ofN_none ht)]
        exact (putN_perm _ _).symm

theorem names_delete {w : World} {k : Nat} {F : Nat → Prop} {N : Nm} (h : IsNames w k F N) (s : Str) :
    Calls PP 69 #[.pointer (some ⟨k, 0, none⟩), .string (bs s)] w (Ret fun r w' => r = .tuple #[.int .i64 (deleteN N s).2.1, .int .i64 (deleteN N s).2.2] ∧ Keep F w w' ∧ IsNames w' k F (deleteN N s).1) := by
  refine c69 ?_
  unfold S69
  refine CALL.i (names_of h s) (by kernel_rfl) ?_
  rintro r w1 ⟨rfl, rfl⟩
  refine ⟨_, _, rfl, ?_⟩
  cases ho : ofN N s with
  | none =>
    have he : deleteN N s = (N, 0, 5) := by simp [deleteN, ho]
    rw [he]
    refine split_i (fun _ => ⟨rfl, Keep.refl _ _, h⟩) (fun hc => by simp at hc)
  | some id =>
    have he : deleteN N s = (⟨delN N.l s, N.next⟩, id, 0) := by simp [deleteN, ho]
    rw [he]
    refine split_i (fun hc => by simp at hc) (fun _ => ?_)
    obtain ⟨mb, h1, h2, h3, h4⟩ := h
    refine ⟨_, cell_at h1 rfl, ?_⟩
    refine map_delete T89 h4 s 9 0 ?_
    intro w2 hs2 k2 hm2
    have hne : k ≠ mb := fun hc => (h4.notCells (hc ▸ h1))
    refine ⟨rfl, k2.mono fun j _ hj => hj ▸ h3, mb, k2.at_ h1 hne, h2, h3, ?_⟩
    rw [← mdel_delN]
    exact hm2

theorem names_rename {w : World} {k : Nat} {F : Nat → Prop} {N : Nm} (h : IsNames w k F N) (hg : Glob w) (s t : Str) (hs : t.length < 1099511627776) :
    Calls PP 70 #[.pointer (some ⟨k, 0, none⟩), .string (bs s), .string (bs t)] w (Ret fun r w' => r = .tuple #[.int .i64 (renameN N s t).2.1, .int .i64 (renameN N s t).2.2] ∧ Keep F w w' ∧ IsNames w' k F (renameN N s t).1) := by
  refine c70 ?_
  unfold S70
  refine CALL.i (names_of h s) (by kernel_rfl) ?_
  rintro r w1 ⟨rfl, rfl⟩
  refine ⟨_, _, rfl, ?_⟩
  refine CALL.i (names_of h t) (by kernel_rfl) ?_
  rintro r w2 ⟨rfl, rfl⟩
  refine ⟨_, _, rfl, ?_⟩
  cases ho : ofN N s with
  | none =>
    have he : renameN N s t = (N, 0, 5) := by simp [renameN, ho]
    rw [he]
    refine split_i (fun _ => ⟨rfl, Keep.refl _ _, h⟩) (fun hc => by simp at hc)
  | some id =>
    refine split_i (fun hc => by simp at hc) (fun _ => ?_)
    refine CALL.i (names_check t hs hg) (by kernel_rfl) ?_
    rintro r w3 ⟨rfl, rfl⟩
    refine ⟨_, rfl, split_i (fun hc => ?_) (fun hc => ?_)⟩
    · have hc' : checkN t = false := by simpa using hc
      have he : renameN N s t = (N, 0, 4) := by simp [renameN, ho, hc']
      rw [he]
      exact ⟨rfl, Keep.refl _ _, h⟩
    · have hc' : checkN t = true := by simpa using hc
      refine split_i (fun ht => ?_) (fun ht => ?_)
      · have he : renameN N s t = (N, 0, 6) := by simp [renameN, ho, hc', ht]
        rw [he]
        exact ⟨rfl, Keep.refl _ _, h⟩
      · have he : renameN N s t = (⟨putN (t, id) (delN N.l s), N.next⟩, id, 0) := by simp [renameN, ho, hc', ht]
        rw [he]
        obtain ⟨mb, h1, h2, h3, h4⟩ := h
        refine ⟨_, cell_at h1 rfl, ?_⟩
        refine map_delete T89 h4 s 9 0 ?_
        intro w4 hs4 k4 hm4
        have hne : k ≠ mb := fun hc => (h4.notCells (hc ▸ h1))
        have h14 := k4.at_ h1 hne
        refine ⟨_, cell_at h14 rfl, ?_⟩
        refine map_update T89 hm4 t id ?_
        intro w5 hs5 k5 hm5
        refine ⟨rfl, (k4.mono fun j _ hj => hj ▸ h3).trans (k5.mono fun j _ hj => hj ▸ h3), mb, k5.at_ h14 hne, h2, h3, ?_⟩
        refine hm5.perm ?_
        unfold mput
        have hnk : t ∉ mkeys (mdel N.l s) := fun hm => by
          obtain ⟨p, hp, rfl⟩ := List.mem_map.1 hm
          exact ofN_none ht (List.mem_map.2 ⟨p, (mem_mdel.1 hp).1, rfl⟩)
        rw [mdel_self hnk, mdel_delN]
        exact (putN_perm _ _).symm

/-! ## List -/
theorem sortS_perm {xs ys : List Str} (h : xs.Perm ys) (hs : ys.Pairwise (· ≤ ·)) : sortS xs = ys := by
  refine List.Perm.eq_of_pairwise (le := fun a b : Str => decide (a ≤ b) = true) ?_ (List.pairwise_mergeSort ?_ ?_ xs) (hs.imp fun h => by simpa using h) ((List.mergeSort_perm _ _).trans h)
  · intro a b _ _ h1 h2
    exact List.le_antisymm (by simpa using h1) (by simpa using h2)
  · intro a b c h1 h2
    simp only [decide_eq_true_eq] at h1 h2 ⊢
    exact List.le_trans h1 h2
  · intro a b
    rcases List.le_total a b with h | h <;> simp [h]
theorem sortI_perm {xs ys : List Int} (h : xs.Perm ys) (hs : ys.Pairwise (· ≤ ·)) : sortI xs = ys := by
  refine List.Perm.eq_of_pairwise (le := fun a b : Int => decide (a ≤ b) = true) ?_ (List.pairwise_mergeSort ?_ ?_ xs) (hs.imp fun h => by simpa using h) ((List.mergeSort_perm _ _).trans h)
  · intro a b _ _ h1 h2
    exact Int.le_antisymm (by simpa using h1) (by simpa using h2)
  · intro a b c h1 h2
    simp only [decide_eq_true_eq] at h1 h2 ⊢
    exact Int.le_trans h1 h2
  · intro a b
    rcases Int.le_total a b with h | h <;> simp [h]
def Rising (l : List (Str × Int)) : Prop := l.Pairwise fun p q => p.1 < q.1
theorem Rising.keys {l : List (Str × Int)} (h : Rising l) : (mkeys l).Pairwise (· ≤ ·) := List.pairwise_map.2 (h.imp fun h => List.le_of_lt h)

theorem names_list {w : World} {k : Nat} {F : Nat → Prop} {N : Nm} (h : IsNames w k F N) (hr : Rising N.l) (hl : N.l.length < 1000000) :
    Calls PP 15 #[.pointer (some ⟨k, 0, none⟩)] w (Ret fun r w' => ∃ A c, r = .slice A N.l.length c ∧ Keep No w w' ∧ Own Lst 9 w' No A N.l.length c (mkeys N.l) ∧ ∀ j, ownBlk A j → w.heap.size ≤ j) := by
  refine c15 ?_
  unfold S15
  obtain ⟨mb, h1, h2, h3, h4⟩ := h
  refine ⟨_, cell_at h1 rfl, ?_⟩
  refine CALL.i (R := fun r w' => ∃ k1, r = .func (.func 85) #[] ⟨[.pointer (some ⟨k1, 0, none⟩)]⟩ ∧ Keep No w w' ∧ At w' k1 (.cells ⟨[.map (some mb)]⟩ 89 (0, 0))) ?_ (by kernel_rfl) ?_
  · refine c38 ?_
    unfold S38
    exact NEW.i fun k1 w1 hk1 hs1 p1 a1 => ⟨k1, rfl, p1, a1⟩
  · rintro r w1 ⟨k1, rfl, p1, a1⟩
    have hm1 := h4.no p1
    have hlen : ∀ vis : List Str, vis.Nodup → (∀ y ∈ vis, y ∈ mkeys N.l) → vis.length ≤ N.l.length := fun vis hn hm => by
      have := nodup_length_le hn hm
      simpa [mkeys] using this
    refine CALL.i (sorted_str (keys_str a1 hm1) (fun j hj => ?_) ?_ ?_) (by kernel_rfl) ?_
    · rcases hj with rfl | rfl
      · exact a1.lt
      · exact hm1.lt
    · intro vis x hx
      have := hlen _ hx.1 hx.2
      simp at this
      omega
    · intro vis hv
      have := hv.length_eq
      simp [mkeys] at this
      omega
    · rintro r w2 ⟨A, c, xs, rfl, hS, k2, o2, f2⟩
      have hxs : xs.length = N.l.length := by
        have := hS.length_eq
        simpa [mkeys] using this
      rw [hxs] at o2 ⊢
      rw [sortS_perm hS hr.keys] at o2
      exact ⟨_, _, _, rfl, A, c, rfl, p1.trans k2, o2, fun j hj => by have := f2 j hj; have := p1.size; omega⟩
end Go.SW
