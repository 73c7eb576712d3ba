/- The names' functions: what each computes. -/
import Derived.Test.YtfhiffnfngpkeaaGreatDoorSorts
set_option linter.unusedVariables false
namespace Go.SW
open Go Go.Proofs Pl

/-! ## texts -/
theorem bs_size (l : Str) : (bs l).size = l.length := by
  show (⟨l⟩ : Array UInt8).size = l.length
  simp
theorem bs_toList (l : Str) : (bs l).toList = l := by
  rw [ByteArray.toList_eq]; rfl
theorem bt_bs (l : Str) (i : Nat) {b : UInt8} (h : l[i]? = some b) : bt (bs l) (i : Int) = (b.toNat : Int) := by
  unfold bt
  show ((l.getD (Int.toNat (i : Int)) 0).toNat : Int) = _
  rw [Int.toNat_natCast, List.getD_eq_getElem?_getD, h]; rfl
theorem bs_extract (l : Str) (i j : Nat) : (ByteArray.extract (bs l) i j).toList = (l.drop i).take (j - i) := by
  rw [ByteArray.toList_eq]
  have : (ByteArray.extract (bs l) i j).data = (⟨l⟩ : Array UInt8).extract i j := by simp [bs]
  rw [this]
  simp

theorem names_hasPrefix (l p : Str) (w : World) : Calls PP 142 #[.string (bs l), .string (bs p)] w (Ret fun r w' => r = .bool (decide (p.length ≤ l.length ∧ l.take p.length = p)) ∧ w' = w) := by
  apply c142
  unfold S142
  refine CALL.i (R := fun r w' => r = .bool (decide (p.length ≤ l.length ∧ l.take p.length = p)) ∧ w' = w) ?_ (by kernel_rfl) ?_
  · apply c182
    unfold S182
    rw [bs_size, bs_size]
    refine split_dec (fun h => ?_) (fun h => ?_)
    · refine ⟨⟨by omega, by omega⟩, ?_, rfl⟩
      rw [Int.toNat_natCast, bs_extract, bs_toList, List.drop_zero, Nat.sub_zero]
      congr 1
      have hl : p.length ≤ l.length := by omega
      by_cases hp : l.take p.length = p
      · simp [hl, hp]
      · simp [hp]
    · refine ⟨?_, rfl⟩
      have hl : ¬ p.length ≤ l.length := by omega
      simp [hl]
  · rintro r w1 ⟨rfl, rfl⟩
    exact ⟨_, rfl, rfl, rfl⟩
theorem names_hasSuffix (l p : Str) (hl9 : l.length < 4611686018427387904) (w : World) : Calls PP 143 #[.string (bs l), .string (bs p)] w (Ret fun r w' => r = .bool (decide (p.length ≤ l.length ∧ l.drop (l.length - p.length) = p)) ∧ w' = w) := by
  apply c143
  unfold S143
  refine CALL.i (R := fun r w' => r = .bool (decide (p.length ≤ l.length ∧ l.drop (l.length - p.length) = p)) ∧ w' = w) ?_ (by kernel_rfl) ?_
  · apply c183
    unfold S183
    rw [bs_size, bs_size]
    refine split_dec (fun h => ?_) (fun h => ?_)
    · have hl : p.length ≤ l.length := by omega
      have hw : IntKind.wrap .i64 ((l.length : Int) - (p.length : Int)) = ((l.length - p.length : Nat) : Int) := by
        rw [wrap64 (by omega) (by omega)]; omega
      rw [hw]
      refine ⟨⟨by omega, by omega⟩, ?_, rfl⟩
      rw [Int.toNat_natCast, bs_extract, bs_toList]
      congr 1
      rw [List.take_of_length_le (by simp)]
      by_cases hp : l.drop (l.length - p.length) = p
      · simp [hl, hp]
      · simp [hp]
    · refine ⟨?_, rfl⟩
      have hl : ¬ p.length ≤ l.length := by omega
      simp [hl]
  · rintro r w1 ⟨rfl, rfl⟩
    exact ⟨_, rfl, rfl, rfl⟩

theorem names_may (b : UInt8) (w : World) : Calls PP 141 #[.int .u8 (b.toNat : Int)] w (Ret fun r w' => r = .bool (mayB b) ∧ w' = w) := by
  have others : ∀ (K : Value → World → Prop), (K (.bool (b == 46 || b == 95 || b == 45 || b == 47)) w) →
      CALL PP 181 [(.string (⟨#[46, 95, 45, 47]⟩ : ByteArray)), (.int .u8 (b.toNat : Int))] w fun r27 w1 => ∃ (x27 : Int), r27 = (.int .i64 x27) ∧ K (.bool (decide (x27 ≥ (0 : Int)))) w1 := by
    intro K hK
    refine CALL.i (R := fun r w' => r = .int .i64 (Lib.indexByte [46, 95, 45, 47] b) ∧ w' = w) ?_ (by kernel_rfl) ?_
    · refine (Tryz.strings_IndexByte ⟨#[46, 95, 45, 47]⟩ (b.toNat : Int) w).mono ?_
      rintro e w' ⟨rfl, rfl⟩
      refine ⟨?_, rfl⟩
      have hb : b.toNat.toUInt8 = b := by simp
      rw [Int.toNat_natCast, hb]
    · rintro r w1 ⟨rfl, rfl⟩
      refine ⟨_, rfl, ?_⟩
      have H : ∀ n : Fin 256, decide (Lib.indexByte [46, 95, 45, 47] (UInt8.ofNat n.val) ≥ 0) = (UInt8.ofNat n.val == 46 || UInt8.ofNat n.val == 95 || UInt8.ofNat n.val == 45 || UInt8.ofNat n.val == 47) := by decide +kernel
      have := H ⟨b.toNat, b.toNat_lt⟩
      simp only [UInt8.ofNat_toNat] at this
      rw [this]
      exact hK
  have hmay : mayB b = ((decide (97 ≤ (b.toNat : Int)) && decide ((b.toNat : Int) ≤ 122)) || (decide (65 ≤ (b.toNat : Int)) && decide ((b.toNat : Int) ≤ 90)) || (decide (48 ≤ (b.toNat : Int)) && decide ((b.toNat : Int) ≤ 57)) || (b == 46 || b == 95 || b == 45 || b == 47)) := by
    have H : ∀ n : Fin 256, mayB (UInt8.ofNat n.val) = ((decide (97 ≤ (n.val : Int)) && decide ((n.val : Int) ≤ 122)) || (decide (65 ≤ (n.val : Int)) && decide ((n.val : Int) ≤ 90)) || (decide (48 ≤ (n.val : Int)) && decide ((n.val : Int) ≤ 57)) || (UInt8.ofNat n.val == 46 || UInt8.ofNat n.val == 95 || UInt8.ofNat n.val == 45 || UInt8.ofNat n.val == 47)) := by decide +kernel
    have := H ⟨b.toNat, b.toNat_lt⟩
    simpa only [UInt8.ofNat_toNat] using this
  suffices H : ∀ R : Value → World → Prop, R (.bool (mayB b)) w → S141 (b.toNat : Int) w R from c141 (H _ ⟨rfl, rfl⟩)
  intro R hR
  have oth := others R
  clear others
  unfold S141
  rw [hmay] at hR
  clear hmay
  generalize (b.toNat : Int) = x at *
  generalize (b == 46 || b == 95 || b == 45 || b == 47) = q at *
  repeat' first
    | refine split_dec (fun _ => ?_) (fun _ => ?_)
    | refine oth ?_
  all_goals simp_all

/-! ## a word of the library's that lies in block 1 -/
def Glob (w : World) : Prop := ∃ m : Int, w.cell? ⟨1, 0, none⟩ = some (.int .i64 m)
theorem cell_congr {w w' : World} {b i : Nat} (h : w'.heap[b]? = w.heap[b]?) : w'.cell? ⟨b, i, none⟩ = w.cell? ⟨b, i, none⟩ := by simp [World.cell?, h]
theorem Glob.kept {w w' : World} {S : Nat → Prop} (h : Glob w) (hk : Keep S w w') (hS : ¬ S 1) : Glob w' := by
  obtain ⟨m, h⟩ := h
  have hlt : 1 < w.heap.size := by
    cases hh : w.heap[1]? with
    | none => simp [World.cell?, hh] at h
    | some o => exact (Array.getElem?_eq_some_iff.1 hh).1
  exact ⟨m, (cell_congr (hk.keep 1 hlt hS)).trans h⟩
theorem Glob.no {w w' : World} (h : Glob w) (hk : Keep No w w') : Glob w' := h.kept hk (fun h => h)

theorem prefix47 (s : Str) : decide ([(47 : UInt8)].length ≤ s.length ∧ s.take [(47 : UInt8)].length = [47]) = (s.head? == some 47) := by
  cases s with
  | nil => simp
  | cons b l =>
    simp
    by_cases h : b = 47 <;> simp [h]
theorem suffix47 (s : Str) : decide ([(47 : UInt8)].length ≤ s.length ∧ s.drop (s.length - [(47 : UInt8)].length) = [47]) = (s.getLast? == some 47) := by
  rcases List.eq_nil_or_concat s with rfl | ⟨l, b, rfl⟩
  · simp
  · simp
    by_cases h : b = 47 <;> simp [h]
theorem twice_index : ∀ s : Str, Lib.contains s [47, 47] = twice s
  | [] => by simp [Lib.contains, Lib.index, twice]
  | b :: l => by
    have ih := twice_index l
    unfold Lib.contains at ih ⊢
    unfold Lib.index
    cases l with
    | nil => simp [twice, Lib.index]
    | cons c l =>
      by_cases hp : b = 47 ∧ c = 47
      · obtain ⟨rfl, rfl⟩ := hp
        simp [twice, List.isPrefixOf]
      · have h1 : List.isPrefixOf [47, 47] (b :: c :: l) = false := by
          simp [List.isPrefixOf]
          intro h
          exact fun h2 => hp ⟨h.symm, h2.symm⟩
        have h2 : twice (b :: c :: l) = twice (c :: l) := by
          by_cases hb : b = 47
          · subst hb
            have hc : c ≠ 47 := fun h => hp ⟨rfl, h⟩
            simp [twice, hc]
          · simp [twice, hb]
        rw [h1, h2, ← ih]
        simp only [Bool.false_eq_true, if_false]
        by_cases hi : Lib.index (c :: l) [47, 47] = -1
        · rw [hi]; rfl
        · have hge : -1 ≤ Lib.index (c :: l) [47, 47] := Lib.index_ge _ _
          rw [if_neg (by simpa using hi)]
          congr 1
          apply propext
          omega

theorem names_check (s : Str) (hs : s.length < 1099511627776) {w : World} (hg : Glob w) : Calls PP 110 #[.string (bs s)] w (Ret fun r w' => r = .bool (checkN s) ∧ w' = w) := by
  apply c110
  unfold S110
  rw [bs_size]
  refine ⟨fun x w1 => ∃ i : Nat, x = i ∧ i ≤ s.length ∧ (∀ (j : Nat) b, j < i → s[j]? = some b → mayB b = true) ∧ w1 = w, fun x _ => (s.length - x).toNat, ⟨0, rfl, Nat.zero_le _, by intro j b h; omega, rfl⟩, ?_⟩
  rintro _ x w1 ⟨i, rfl, hi, hb, rfl⟩
  refine split_dec (fun hlt => ?_) (fun hge => ?_)
  · have hlt' : i < s.length := by omega
    refine ⟨⟨by omega, hlt⟩, ?_⟩
    have hsi : s[i]? = some s[i] := List.getElem?_eq_getElem hlt'
    rw [bt_bs s i hsi]
    refine CALL.i (names_may s[i] w1) (by kernel_rfl) ?_
    rintro r w2 ⟨rfl, rfl⟩
    refine ⟨_, rfl, split_i (fun ht => ?_) (fun ht => ?_)⟩
    · refine ⟨?_, rfl⟩
      have hm : mayB s[i] = false := by simpa using ht
      have : s.all mayB = false := by
        rw [List.all_eq_false]
        exact ⟨s[i], List.getElem_mem hlt', by simp [hm]⟩
      simp [checkN, this]
    · have hm : mayB s[i] = true := by simpa using ht
      refine ⟨⟨i + 1, wrapS (by omega), hlt', ?_, rfl⟩, mu_go (wrapS (by omega)) hlt'⟩
      intro j b hj hjb
      by_cases hji : j = i
      · subst hji
        rw [hsi] at hjb
        cases hjb
        exact hm
      · exact hb j b (by omega) hjb
  · have hall : s.all mayB = true := by
      rw [List.all_eq_true]
      intro b hbm
      obtain ⟨j, hj⟩ := List.mem_iff_getElem?.1 hbm
      exact hb j b (by have := (List.getElem?_eq_some_iff.1 hj).1; omega) hj
    have hemp : (⟨#[]⟩ : ByteArray).toList = [] := by rw [ByteArray.toList_eq]
    rw [bs_toList, hemp]
    refine split_i (fun hne => ?_) (fun he => ?_)
    · have hne' : s.isEmpty = false := by
        cases s with
        | nil => simp at hne
        | cons _ _ => rfl
      refine split_dec (fun h32 => ?_) (fun h32 => ?_)
      · have h32' : s.length ≤ 32 := by omega
        refine CALL.i (names_hasPrefix s [47] w1) (by kernel_rfl) ?_
        rintro r w2 ⟨rfl, rfl⟩
        refine ⟨_, rfl, ?_⟩
        rw [prefix47]
        refine split_i (fun hp => ?_) (fun hp => ?_)
        · have hp' : (s.head? == some 47) = false := by simpa using hp
          refine CALL.i (names_hasSuffix s [47] (by omega) w2) (by kernel_rfl) ?_
          rintro r w3 ⟨rfl, rfl⟩
          refine ⟨_, rfl, ?_⟩
          rw [suffix47]
          refine split_i (fun hq => ?_) (fun hq => ?_)
          · have hq' : (s.getLast? == some 47) = false := by simpa using hq
            obtain ⟨m, hm⟩ := hg
            refine CALL.i (R := fun r w' => r = .bool (twice s) ∧ w' = w3) ?_ (by kernel_rfl) ?_
            · refine (Tryz.strings_Contains (bs s) ⟨#[47, 47]⟩ m w3 (by rw [bs_size]; omega) hm).mono ?_
              rintro e w' ⟨rfl, rfl⟩
              refine ⟨?_, rfl⟩
              have := twice_index s
              rw [← this]
              rfl
            · rintro r w4 ⟨rfl, rfl⟩
              refine ⟨_, rfl, ?_, rfl⟩
              simp [checkN, hall, hne', h32', hp', hq']
          · have hq' : (s.getLast? == some 47) = true := by simpa using hq
            refine ⟨?_, rfl⟩
            simp [checkN, hall, hne', h32', hp', hq']
        · have hp' : (s.head? == some 47) = true := by simpa using hp
          refine ⟨?_, rfl⟩
          simp [checkN, hall, hne', h32', hp']
      · refine ⟨?_, rfl⟩
        have h32' : ¬ s.length ≤ 32 := by omega
        simp [checkN, hall, hne', h32']
    · refine ⟨?_, rfl⟩
      have hnil : s = [] := by
        cases s with
        | nil => rfl
        | cons _ _ => simp at he
      subst hnil
      rfl

/-! ## maps.Clone -/
theorem run_makeInterface {t : TypeId} {d : TypeDesc} (hu : PP.underlying t = some d) (hd : ∀ ms, d ≠ .interface ms) (x : Value) (w : World) : (Instr.makeInterface t x).run PP w = .ok (.iface t x) w := by
  unfold Instr.makeInterface
  simp only [Sem.run_bind, run_underlying' hu, Result.andThen_ok]
  cases d <;> first | rfl | exact absurd rfl (hd _)
theorem run_typeAssert {t i k e : TypeId} (hu : PP.underlying t = some (.map k e)) (x : Value) (w : World) : (Instr.typeAssert (.iface t x) i t false).run PP w = .ok x w := by
  simp [Instr.typeAssert, run_underlying' hu]
theorem call_mapsClone {w : World} {t : TypeId} {mb : Nat} {es : Array MapEntry} {clock : Nat} (h : At w mb (.map es clock)) :
    (callFunc 109 ⟨[.iface t (.map (some mb))]⟩).run PP w = .ok (.value (.iface t (.map (some w.heap.size)))) (w.alloc (.map es clock)) := by
  have hb : w.heap[mb]? = some (.map es clock) := h
  rw [run_callFunc_extern (fn := Tryz.f109) (e := Extern.MapsClone.clone) Tryz.func109 (by kernel_rfl) (by kernel_rfl) (by kernel_rfl) (by kernel_rfl)]
  have hcl : Extern.MapsClone.clone ⟨[.iface t (.map (some mb))]⟩ = (do
      let .map entries clock ← getObj mb | stuck "maps.clone: a map expected"
      pure (.iface t (.map (some (← newObj (.map entries clock)))))) := rfl
  rw [hcl]
  simp [MapKept.run_getObj_map hb]
theorem clone_map {κ ν : Type} [DecidableEq κ] {E : KV κ ν} {t k e : TypeId} {z : Value} (T : MapTy E t k e z) {w : World} {mb : Nat} {M : List (κ × ν)} (h : MapAt E w mb M) (i : TypeId) {K : Nat → World → Prop}
    (hK : ∀ mb' w', w.heap.size = mb' → w'.heap.size = mb' + 1 → Keep No w w' → MapAt E w' mb' M → K mb' w') :
    RUN PP (Instr.makeInterface t (.map (some mb))) w fun r6 w1 =>
    CALL PP 109 [r6] w1 fun r7 w2 =>
    RUN PP (Instr.typeAssert r7 i t false) w2 fun r8 w3 =>
    ∃ (m8 : Option Nat), r8 = (.map m8) ∧ ∃ mb', m8 = some mb' ∧ K mb' w3 := by
  obtain ⟨es, clock, h1, h2, h3⟩ := h
  refine ⟨_, w, run_makeInterface T.und (fun ms h => by cases h) _ _, CALL.x (call_mapsClone h1) ⟨_, _, run_typeAssert T.und _ _, _, rfl, _, rfl, ?_⟩⟩
  exact hK _ _ rfl (by simp only [World.alloc, Array.size_push]) (push_keep _ _) ⟨es, clock, push_at _ _, h2, h3⟩
theorem clone_str {w : World} {mb : Nat} {M : List (Str × Int)} (h : MapAt Enm w mb M) : Calls PP 82 #[.map (some mb)] w (Ret fun r w' => ∃ mb', r = .map (some mb') ∧ w.heap.size = mb' ∧ Keep No w w' ∧ MapAt Enm w' mb' M) := by
  apply c82
  unfold S82
  show RUN _ _ _ _
  obtain ⟨v, w1, h1, h2⟩ := clone_map T89 h 20 (K := fun mb' w' => w.heap.size = mb' ∧ Keep No w w' ∧ MapAt Enm w' mb' M) (fun mb' w' a b c d => ⟨a, c, d⟩)
  refine ⟨v, w1, h1, h2.mono fun r w2 h3 => ?_⟩
  obtain ⟨r8, w3, h4, m8, h5, mb', h6, h7⟩ := h3
  subst h5 h6
  exact ⟨_, w3, h4, _, rfl, mb', rfl, h7⟩
theorem clone_int {w : World} {mb : Nat} {M : List (Int × Str)} (h : MapAt Eml w mb M) : Calls PP 67 #[.map (some mb)] w (Ret fun r w' => ∃ mb', r = .map (some mb') ∧ w.heap.size = mb' ∧ Keep No w w' ∧ MapAt Eml w' mb' M) := by
  apply c67
  unfold S67
  show RUN _ _ _ _
  obtain ⟨v, w1, h1, h2⟩ := clone_map T80 h 20 (K := fun mb' w' => w.heap.size = mb' ∧ Keep No w w' ∧ MapAt Eml w' mb' M) (fun mb' w' a b c d => ⟨a, c, d⟩)
  refine ⟨v, w1, h1, h2.mono fun r w2 h3 => ?_⟩
  obtain ⟨r8, w3, h4, m8, h5, mb', h6, h7⟩ := h3
  subst h5 h6
  exact ⟨_, w3, h4, _, rfl, mb', rfl, h7⟩
end Go.SW
