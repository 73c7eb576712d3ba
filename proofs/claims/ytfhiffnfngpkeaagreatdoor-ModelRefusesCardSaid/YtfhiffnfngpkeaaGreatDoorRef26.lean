/- The document's store: Do. -/
import Derived.Test.YtfhiffnfngpkeaaGreatDoorRef26a
set_option linter.unusedVariables false
namespace Go.SW
open Go Go.Proofs Pl

theorem len_rising : ∀ (l : List Bx) (lo hi : Int), l.Pairwise (fun x y => x.validity < y.validity) → (∀ x ∈ l, lo ≤ x.validity ∧ x.validity < hi) → lo ≤ hi → (l.length : Int) ≤ hi - lo
  | [], lo, hi, _, _, h => by simp; omega
  | x :: l, lo, hi, hp, hb, h => by
    have hp' := List.pairwise_cons.1 hp
    have hx := hb x List.mem_cons_self
    have := len_rising l (x.validity + 1) hi hp'.2 (fun y hy => ⟨by have := hp'.1 y hy; omega, (hb y (List.mem_cons_of_mem _ hy)).2⟩) (by omega)
    simp only [List.length_cons]
    omega

section
variable {w : World} {F : Nat → Prop} {M : Md} {A : Option Addr} {n c : Nat} {B : Option Addr} {nb cb : Nat} {E : Option Addr} {ne ce : Nat} {t : Int}

theorem ref_do (h : RMd w F M A n c B nb cb E ne ce) (hok : Ok t M) (ht : t < 90) (h16 : M.n.l.length ≤ 16) (o : Pl.Op) {OA : Option Addr} {on oc : Nat} (ho : OpAt w o OA on oc) :
    Calls PP 26 #[.agg #[.slice A n c, .int .i64 M.n.next, .slice B nb cb, .slice E ne ce, .int .i64 M.next], .agg ⟨ocells o OA on oc⟩] w (Ret fun r w' => Done19 w F (act M o).1 (act M o).2 r w') := by
  refine c26 ?_
  unfold S26
  have hb := hok.toOk'.bd ht
  have hln := h.nm.len
  have hlb := h.bx.len
  have hle := h.ml.len
  have hnn := hb.nnext
  have hbm := hb.mlen
  have hbl : M.b.length < 1000 := by
    have := len_rising M.b 1 M.n.next hok.toOk'.br hok.toOk'.bv (by omega)
    omega
  have hid : IdsOk M.n.l := by
    intro p hp
    obtain ⟨x, hx, hv⟩ := hok.toOk'.nb p hp
    have := (hb.bval x hx).1
    omega
  refine NEW.i fun k2 w1 hk2 hs1 q1 a1 => NEW.i fun k3 w2 hk3 hs2 q2 a2 => NEW.i fun k4 w3 hk4 hs3 q3 a3 => NEW.i fun k5 w4 hk5 hs4 q4 a4 => ?_
  have z4 : Keep No w w4 := ((q1.trans q2).trans q3).trans q4
  have a2' : At w2 k3 (.cells ⟨ocells o OA on oc⟩ 29 (0, 0)) := a2
  have C4 : Cx w F (k5 + 1) k2 k3 k4 k5 (ocells o OA on oc) w4 F M A n c B nb cb E ne ce :=
    ⟨z4, by omega, h.lt, by omega, by omega, by omega, by omega, by omega, ((a1.no q2).no q3).no q4, (a2'.no q3).no q4, a3.no q4, a4, h.no z4, fun j hj => .inl hj⟩
  have o3 := C4.h3
  have o2 := C4.h2
  clear a1 a2 a2' a3 a4
  refine ⟨_, cell_at o3 rfl, split_i (fun h1 => ?_) (fun h1 => split_i (fun h2 => ?_) (fun h2 => split_i (fun h3 => ?_) (fun h3 => split_i (fun h4 => ?_) (fun h4 => split_i (fun h12 => ?_) (fun h12 => split_i (fun h13 => ?_) (fun h13 => ?_))))))⟩
  · -- Create
    have hk1 : o.kind = 1 := by simpa using h1
    have hact : act M o = named M o := by unfold act; rw [if_pos (.inl hk1)]
    refine ⟨_, _, _, _, RD.pre (off := 0) o2 rfl, _, cell_at o3 rfl, CALL.i (ref_create C4.md.nm (by omega) hid (by omega) (by omega) o.box (by have := ho.box; omega)) (by kernel_rfl) ?_⟩
    rintro r w5 ⟨A', n', c', rfl, q5, g5⟩
    have C5 := C4.no q5
    refine ⟨_, _, _, _, _, _, rfl, ST.i C5.h2 (by simp) rfl fun w6 hs6 q6 a6 => ?_⟩
    have m5 : RMd w5 (Gn F w4 w5) { M with n := (createN M.n o.box).1 } A' n' c' B nb cb E ne ce := ⟨g5, (C5.md.bx).mono fun j hj => .inl hj, C5.md.ml.mono fun j hj => .inl hj, fun j hj => hj.elim (fun h' => C5.md.lt j h') (fun h' => h'.2)⟩
    have C6 := C5.put (M' := { M with n := (createN M.n o.box).1 }) q6 a6 m5 (gd_gn C4.gd C4.sz)
    have hM : (createN M.n o.box).2.2 ≠ 0 → (act M o).1 = { M with n := (createN M.n o.box).1 } := fun he => by rw [hact]; unfold named; rw [if_pos hk1]; simp only [he, ne_eq, not_false_eq_true, if_true]
    have hM0 : (createN M.n o.box).2.2 = 0 → (act M o).1 = { M with n := (createN M.n o.box).1, b := M.b ++ [.new (createN M.n o.box).2.1] } := fun he => by rw [hact]; unfold named; rw [if_pos hk1]; simp only [he, ne_eq, not_true_eq_false, if_false]
    have hA : (act M o).2 = ⟨(createN M.n o.box).2.2, (createN M.n o.box).2.1, [], [], []⟩ := by
      rw [hact]
      unfold named
      rw [if_pos hk1]
      by_cases he : (createN M.n o.box).2.2 = 0
      · simp only [he, ne_eq, not_true_eq_false, if_false]
      · simp only [he, ne_eq, not_false_eq_true, if_true, (createN_err _ _ he).2]
        rfl
    refine ⟨fun w7 => ∃ G A n c B nb cb E ne ce, Cx w F (k5 + 1) k2 k3 k4 k5 (ocells o OA on oc) w7 G (act M o).1 A n c B nb cb E ne ce, ?_, ?_⟩
    · refine split_i (fun hz => ?_) (fun hz => ?_)
      · have he : (createN M.n o.box).2.2 = 0 := by simpa using hz
        refine NEW.i fun k51 w7 hk51 hs7 q7 a7 => ?_
        have C7 := C6.no q7
        have g7 : Og Lbx 108 (Gn F w4 w5) w6 w7 (some ⟨k51, 0, none⟩) 0 0 ([] : List Bx) := Og.nil (l := []) q7 a7 (by omega) C6.md.lt
        refine ⟨_, _, _, cell_at C7.h2 rfl, g7.more T108 C7.md.bx (by omega) fun A8 c8 w8 q8 g8 hb8 => ⟨_, _, _, rfl, ?_⟩⟩
        rw [Nat.zero_add, List.nil_append] at g8
        have C8 := C7.fr q8 (fun j hj => by
          have : j = k51 := hj
          have := C6.sz
          exact ⟨by omega, fun hg => by have := C6.md.lt j hg; omega⟩)
        refine CALL.i (ref_new18 _ w8) (by kernel_rfl) ?_
        rintro r w9 ⟨rfl, q9⟩
        refine ⟨_, _, _, _, _, rfl, NEW.i fun k57 w10 hk57 hs10 q10 a10 => ?_⟩
        have C10 := (C8.no q9).no q10
        rw [Nat.zero_add]
        refine ((g8.no q9).no q10).one T108 a10 (x := Bx.new (createN M.n o.box).2.1) ⟨none, 0, 0, rfl, Sl.nil _ _ _ _ _⟩ (by omega) fun A11 c11 w11 q11 g11 hb11 => ⟨_, _, _, rfl, ?_⟩
        have C11 := C10.fr q11 (fun j hj => by
          have := g8.new j hj
          have := C6.sz
          exact ⟨by omega, fun hg => by have := C6.md.lt j hg; omega⟩)
        refine ST.i C11.h2 (by simp) rfl fun w12 hs12 q12 a12 => ⟨Gn (Gn F w4 w5) w6 w11, A', n', c', A11, nb + 1, c11, E, ne, ce, ?_⟩
        rw [hM0 he]
        refine C11.put q12 a12 ⟨C11.md.nm.mono fun j hj => .inl hj, g11.gn, C11.md.ml.mono fun j hj => .inl hj, fun j hj => hj.elim (fun h' => C11.md.lt j h') (fun h' => h'.2)⟩ (gd_gn C6.gd C6.sz)
      · have he : (createN M.n o.box).2.2 ≠ 0 := by simpa using hz
        rw [hM he]
        exact ⟨_, _, _, _, _, _, _, _, _, _, C6⟩
    · rintro _ w7 ⟨G7, A7, n7, c7, B7, nb7, cb7, E7, ne7, ce7, C7⟩
      exact ⟨_, _, _, _, _, _, _, _, _, _, _, RD.i C7.h2, C7.fin0 _ _ [] rfl hA fun w9 q9 hh => hh⟩
  · -- Delete
    have hk1 : o.kind = 2 := by simpa using h2
    have hact : act M o = named M o := by unfold act; rw [if_pos (.inr (.inl hk1))]
    refine ⟨_, _, _, _, _, _, _, _, _, _, _, RD.i o2, _, cell_at o3 rfl, CALL.i (ref_find C4.md (by omega) (by omega) o.box) (by kernel_rfl) ?_⟩
    rintro r w5 ⟨rfl, q5⟩
    have C5 := C4.no q5
    refine ⟨_, rfl, _, _, _, _, RD.pre (off := 0) C5.h2 rfl, _, cell_at C5.h3 rfl, CALL.i (ref_delete C5.md.nm (by omega) hid o.box) (by kernel_rfl) ?_⟩
    rintro r w6 ⟨A', n', c', rfl, q6, g6⟩
    have C6 := C5.no q6
    refine ⟨_, _, _, _, _, _, rfl, ST.i C6.h2 (by simp) rfl fun w7 hs7 q7 a7 => ?_⟩
    have m6 : RMd w6 (Gn F w5 w6) { M with n := (deleteN M.n o.box).1 } A' n' c' B nb cb E ne ce := ⟨g6, (C6.md.bx).mono fun j hj => .inl hj, C6.md.ml.mono fun j hj => .inl hj, fun j hj => hj.elim (fun h' => C6.md.lt j h') (fun h' => h'.2)⟩
    have C7 := C6.put (M' := { M with n := (deleteN M.n o.box).1 }) q7 a7 m6 (gd_gn C5.gd C5.sz)
    refine ⟨fun w8 => ∃ G A n c B nb cb E ne ce, Cx w F (k5 + 1) k2 k3 k4 k5 (ocells o OA on oc) w8 G (act M o).1 A n c B nb cb E ne ce, ?_, ?_⟩
    · rcases deleteN_cases M.n o.box with ⟨hd, hof⟩ | ⟨id, hof, hd⟩
      · rw [hd]
        refine split_i (fun hz => by simp at hz) (fun hz => ?_)
        rw [hd] at C7
        have hM : (act M o).1 = { M with n := M.n } := by rw [hact]; unfold named; rw [if_neg (by omega), if_pos hk1, hd]; rfl
        rw [hM]
        exact ⟨_, _, _, _, _, _, _, _, _, _, C7⟩
      · rw [hd]
        refine split_i (fun hz => ?_) (fun hz => by simp at hz)
        rw [hd] at C7
        have hM : (act M o).1 = sweep { M with n := ⟨delN M.n.l o.box, M.n.next⟩, b := M.b.filter fun b => b.validity ≠ id } := by rw [hact]; unfold named; rw [if_neg (by omega), if_pos hk1, hd]; rfl
        refine DRAW.i fun w8 hw8 q8 => ?_
        have C8 := C7.no q8
        have hfi : ∃ (i : Nat) (x : Bx), findI M o.box = i ∧ M.b[i]? = some x ∧ x.validity = id := by
          rcases findI_cases hb.names (fun x hx => (hb.bval x hx).1) o.box with ⟨h5, h6⟩ | ⟨i, x, h5, h6, h7⟩
          · unfold find at h6
            rw [hof] at h6
            have := hb.names o.box id hof
            simp only at h6
            rw [h6] at this
            cases this
          · refine ⟨i, x, h5, h6, ?_⟩
            unfold find at h7
            rw [hof] at h7
            exact (boxOf_some h7).2
        obtain ⟨i, x, h5, h6, h7⟩ := hfi
        have hil := (List.getElem?_eq_some_iff.1 h6).1
        have hcb := C8.md.bx.cap
        have hw1 : IntKind.wrap .i64 ((i : Int) + 1) = ((i + 1 : Nat) : Int) := wrapS (by omega)
        rw [h5, hw1]
        refine ⟨_, _, _, cell_at C8.h2 rfl, ⟨by omega, by omega⟩, _, _, _, cell_at C8.h2 rfl, ⟨by omega, by omega⟩, ?_⟩
        rw [Int.toNat_natCast, Int.toNat_natCast]
        refine NEW.i fun k82 w9 hk82 hs9 q9 a9 => ?_
        have C9 := C8.no q9
        refine ⟨loadVar_cell (by kernel_rfl) (cell_at C9.h2 rfl), loadVar_cell (by kernel_rfl) (cell_at C9.h2 rfl), ?_⟩
        have g9 : Og Lbx 108 (Gn F w5 w6) w8 w9 (some ⟨k82, 0, none⟩) 0 0 ([] : List Bx) := Og.nil (l := []) q9 a9 (by omega) C8.md.lt
        refine g9.more T108 (C9.md.bx.sub (i := 0) (j := i) (Nat.zero_le _) (by omega)) (by omega) fun A10 c10 w10 q10 g10 hb10 => ⟨_, _, _, rfl, ?_⟩
        have C10 := C9.fr q10 (fun j hj => by
          have : j = k82 := hj
          have := C8.sz
          exact ⟨by omega, fun hg => by have := C8.md.lt j hg; omega⟩)
        refine ⟨loadVar_cell (by kernel_rfl) (cell_at C10.h2 rfl), ?_⟩
        refine g10.more T108 (C10.md.bx.sub (i := i + 1) (j := nb) (by omega) (Nat.le_refl _)) (by omega) fun A11 c11 w11 q11 g11 hb11 => ⟨_, _, _, rfl, ?_⟩
        have C11 := C10.fr q11 (fun j hj => by
          have := g10.new j hj
          have := C8.sz
          exact ⟨by omega, fun hg => by have := C8.md.lt j hg; omega⟩)
        have hfe : M.b.filter (fun b => decide (b.validity ≠ id)) = ([] ++ (M.b.drop 0).take (i - 0)) ++ (M.b.drop (i + 1)).take (nb - (i + 1)) := by
          rw [← h7, filter_at hok.toOk'.vnodup h6]
          simp
          rw [List.take_of_length_le (by simp; omega)]
        have g11' : Sl Lbx w11 (Gn (Gn F w5 w6) w8 w11) A11 _ c11 (M.b.filter (fun b => decide (b.validity ≠ id))) := hfe ▸ g11.gn
        refine ST.i C11.h2 (by simp) rfl fun w12 hs12 q12 a12 => ?_
        have C12 := C11.put (M' := { M with n := ⟨delN M.n.l o.box, M.n.next⟩, b := M.b.filter fun b => b.validity ≠ id }) q12 a12 ⟨C11.md.nm.mono fun j hj => .inl hj, g11', C11.md.ml.mono fun j hj => .inl hj, fun j hj => hj.elim (fun h' => C11.md.lt j h') (fun h' => h'.2)⟩ (gd_gn C8.gd C8.sz)
        refine ⟨_, _, _, _, _, _, _, _, _, _, _, RD.i C12.h2, CALL.i (ref_sweep C12.md (by omega) (by omega) (fun y hy => by have := hb.blen y (List.mem_filter.1 hy).1; omega)) (by kernel_rfl) ?_⟩
        rintro r w13 ⟨E', ne', ce', rfl, q13, m13⟩
        have C13 := C12.no q13
        refine ⟨_, _, _, _, _, _, _, _, _, _, _, rfl, ST.i C13.h2 (by simp) rfl fun w14 hs14 q14 a14 => ?_⟩
        rw [hM]
        exact ⟨_, _, _, _, _, _, _, _, _, _, C13.put q14 a14 m13 (gd_gn C12.gd C12.sz)⟩
    · rintro _ w8 ⟨G7, A7, n7, c7, B7, nb7, cb7, E7, ne7, ce7, C7⟩
      have hA : (act M o).2 = ⟨(deleteN M.n o.box).2.2, (deleteN M.n o.box).2.1, [], [], []⟩ := by
        rw [hact]
        unfold named
        rw [if_neg (by omega), if_pos hk1]
        rcases deleteN_cases M.n o.box with ⟨hd, hof⟩ | ⟨id, hof, hd⟩
        · rw [hd]; rfl
        · rw [hd]; rfl
      exact ⟨_, _, _, _, _, _, _, _, _, _, _, RD.i C7.h2, C7.fin0 _ _ [] rfl hA fun w9 q9 hh => hh⟩
  · -- Rename
    have hk1 : o.kind = 3 := by simpa using h3
    have hact : act M o = named M o := by unfold act; rw [if_pos (.inr (.inr hk1))]
    refine ⟨_, _, _, _, RD.pre (off := 0) o2 rfl, _, cell_at o3 rfl, _, cell_at o3 rfl, CALL.i (ref_rename C4.md.nm (by omega) hid o.box o.to (by have := ho.to; omega)) (by kernel_rfl) ?_⟩
    rintro r w5 ⟨A', n', c', rfl, q5, g5⟩
    have C5 := C4.no q5
    refine ⟨_, _, _, _, _, _, rfl, ST.i C5.h2 (by simp) rfl fun w6 hs6 q6 a6 => ?_⟩
    have m5 : RMd w5 (Gn F w4 w5) { M with n := (renameN M.n o.box o.to).1 } A' n' c' B nb cb E ne ce := ⟨g5, (C5.md.bx).mono fun j hj => .inl hj, C5.md.ml.mono fun j hj => .inl hj, fun j hj => hj.elim (fun h' => C5.md.lt j h') (fun h' => h'.2)⟩
    have C6 := C5.put (M' := { M with n := (renameN M.n o.box o.to).1 }) q6 a6 m5 (gd_gn C4.gd C4.sz)
    have hM : (act M o).1 = { M with n := (renameN M.n o.box o.to).1 } := by
      rw [hact]
      unfold named
      rw [if_neg (by omega), if_neg (by omega)]
      by_cases he : (renameN M.n o.box o.to).2.2 = 0
      · simp only [he, ne_eq, not_true_eq_false, if_false]
      · simp only [he, ne_eq, not_false_eq_true, if_true]
    have hA : (act M o).2 = ⟨(renameN M.n o.box o.to).2.2, (renameN M.n o.box o.to).2.1, [], [], []⟩ := by
      rw [hact]
      unfold named
      rw [if_neg (by omega), if_neg (by omega)]
      by_cases he : (renameN M.n o.box o.to).2.2 = 0
      · simp only [he, ne_eq, not_true_eq_false, if_false]
      · simp only [he, ne_eq, not_false_eq_true, if_true, (renameN_err _ _ _ he).2]
        rfl
    exact ⟨_, _, _, _, _, _, _, _, _, _, _, RD.i C6.h2, C6.fin0 _ _ [] hM hA fun w9 q9 hh => hh⟩
  · -- Names
    have hk1 : o.kind = 4 := by simpa using h4
    have hact : act M o = (M, ⟨0, 0, [], M.n.l.map (·.1), []⟩) := by unfold act; rw [if_neg (by omega), if_pos hk1]
    refine NEW.i fun k9 w5 hk9 hs5 q5 a5 => ST.i a5 (by simp) rfl fun w6 hs6 q6 a6 => ?_
    have C6 := (C4.no q5).st q6 (by omega) (C4.ng (by omega))
    refine ⟨_, _, _, cell_at C6.h2 rfl, ?_⟩
    refine ⟨fun x w7 => ∃ (i : Nat) (A1 : Option Addr) (n1 c1 : Nat), x = i ∧ i ≤ n ∧ At w7 k9 (.cells ⟨[.int .i64 0, .int .i64 0, .string ⟨#[]⟩, .slice A1 n1 c1, .slice none 0 0]⟩ 73 (0, 0)) ∧ ¬ ownBlk A1 k9 ∧ Cx w F (k5 + 1) k2 k3 k4 k5 (ocells o OA on oc) w7 F M A n c B nb cb E ne ce ∧ Og Lst 9 No w4 w7 A1 n1 c1 ((M.n.l.take i).map (·.1)),
      fun x _ => ((n : Int) - x).toNat, ⟨0, none, 0, 0, rfl, Nat.zero_le _, a6, fun h => h, C6, Og.none (q5.tmp q6 (by omega)) (fun j hj => False.elim hj)⟩, ?_⟩
    rintro _ x w7 ⟨i, A1, n1, c1, rfl, hi, a7, d7, C7, g7⟩
    have hn1 := g7.own.len
    simp only [List.length_map, List.length_take] at hn1
    refine split_dec (fun hlt => ?_) (fun hge => ?_)
    · have hlt' : i < n := by omega
      refine ⟨⟨by omega, hlt⟩, ?_⟩
      obtain ⟨a, p, hA, hp, hr⟩ := C7.md.nm.nm hlt'
      refine SOMEA.i hA ⟨_, _, by rw [Int.toNat_natCast]; exact hr, ?_⟩
      refine NEW.i fun k11 w8 hk11 hs8 q8 a8 => ST.i a8 (by simp) rfl fun w9 hs9 q9 a9 => ?_
      have hg7 := g7.keep.size
      have lt7 := a7.lt
      have C9 := (C7.no q8).st q9 (by omega) (C7.ng (by omega))
      have g9 := (g7.no q8).st q9 (by omega) (g7.fresh (by omega))
      have b9 := (a7.no q8).oth q9 (by omega)
      refine ⟨_, _, _, cell_at b9 rfl, _, cell_at a9 rfl, NEW.i fun k134 w10 hk134 hs10 q10 a10 => ?_⟩
      refine (g9.no q10).one T9 a10 (x := p.1) rfl (by omega) fun A' c' w11 q11 g11 hb11 => ⟨_, _, _, rfl, ?_⟩
      have C11 := (C9.no q10).fr q11 (fun j hj => ⟨by have := g7.new j hj; omega, fun hg => by have := C4.md.lt j hg; have := g7.new j hj; omega⟩)
      have b11 := (b9.no q10).own_ q11 d7
      have hnew : ¬ ownBlk A' k9 := fun hc => by
        rcases hb11 k9 hc with h' | h'
        · exact d7 h'
        · have := b9.lt; omega
      refine ST.i b11 (by simp) rfl fun w12 hs12 q12 a12 => ⟨⟨i + 1, A', n1 + 1, c', wrapS (by omega), hlt', a12, hnew, C11.st q12 (by omega) (fun hg => by have := h.lt k9 hg; omega), ?_⟩, mu_go (wrapS (by omega)) hlt'⟩
      rw [take_succ_some hp, List.map_append]
      exact g11.st q12 (by omega) hnew
    · have hie : i = M.n.l.length := by omega
      rw [hie, List.take_length] at g7
      refine DRAW.i fun w8 hw8 q8 => ?_
      have C8 := C7.no q8
      have b8 := a7.no q8
      refine ⟨_, _, _, _, _, _, _, _, _, _, _, RD.i C8.h2, _, _, _, _, _, _, _, _, _, RD.i b8, ?_⟩
      have hM : (act M o).1 = M := by rw [hact]
      have hA : (act M o).2 = ⟨0, 0, [], M.n.l.map (·.1), []⟩ := by rw [hact]
      rw [hM, hA]
      refine C8.fin (⟨0, 0, [], M.n.l.map (fun p : Str × Int => p.1), []⟩ : Ans) (A1 := A1) (n1 := n1) (c1 := c1) (A2 := none) (n2 := 0) (c2 := 0) (g7.no q8).gn (Sl.nil _ _ (Gn No w4 w8) _ _) (fun j hj => .inr ?_) fun w9 q9 hh => ⟨load73 (b8.oth q9 (by have := C8.e6; have := C8.e5; omega)), hh⟩
      rcases hj with hj | hj
      · exact False.elim hj
      · exact ⟨by omega, hj.2⟩
  · -- Search
    have hk1 : o.kind = 12 := by simpa using h12
    have hact : act M o = (M, search M o) := by unfold act; rw [if_neg (by omega), if_neg (by omega), if_pos hk1]
    refine DRAW.i fun w5 hw5 q5 => ?_
    have C5 := C4.no q5
    refine ⟨_, _, _, _, _, _, _, _, _, _, _, RD.i C5.h2, _, _, _, _, _, _, _, _, _, _, _, RD.i C5.h2, _, _, _, _, _, _, _, _, _, _, RD.i C5.h3, CALL.i (ref_search C5.md hb (by omega) o (ho.no C5.kp)) (by kernel_rfl) ?_⟩
    rintro r w6 ⟨q6, A1, n1, c1, A2, n2, c2, rfl, s1, s2⟩
    have C6 := C5.no q6
    refine ⟨_, _, _, _, _, _, _, _, _, rfl, load69 C6.h2, ?_⟩
    have hM : (act M o).1 = M := by rw [hact]
    have hA : (act M o).2 = search M o := by rw [hact]
    rw [hM, hA]
    refine C6.fin (search M o) s1 s2 (fun j hj => .inr ?_) fun w9 q9 hh => hh
    rcases hj with hj | hj
    · exact False.elim hj
    · exact ⟨by have := C5.sz; omega, hj.2⟩
  · -- nothing
    have hk1 : o.kind = 13 := by simpa using h13
    have hact : act M o = (M, ⟨0, 0, [], [], []⟩) := by unfold act; rw [if_neg (by omega), if_neg (by omega), if_neg (by omega), if_pos hk1]
    exact ⟨_, _, _, _, _, _, _, _, _, _, _, RD.i o2, C4.fin0 0 0 [] (by rw [hact]) (by rw [hact]) fun w9 q9 hh => hh⟩
  · have hk1 : o.kind ≠ 1 := by simpa using h1
    have hk2 : o.kind ≠ 2 := by simpa using h2
    have hk3 : o.kind ≠ 3 := by simpa using h3
    have hk4 : o.kind ≠ 4 := by simpa using h4
    have hk12 : o.kind ≠ 12 := by simpa using h12
    have hk13 : o.kind ≠ 13 := by simpa using h13
    refine ⟨fun w5 => w5 = w4 ∧ 5 ≤ o.kind ∧ o.kind ≤ 11, ⟨fun q w5 => w5 = w4 ∧ q = !(decide (1 ≤ o.kind) && decide (o.kind ≤ 13)), ⟨_, cell_at o3 rfl, split_dec (fun hlo => ⟨rfl, ?_⟩) (fun hlo => ⟨_, cell_at o3 rfl, rfl, ?_⟩)⟩, ?_⟩, ?_⟩
    · have : decide (1 ≤ o.kind) = false := by simpa using hlo
      rw [this]; rfl
    · have : decide (1 ≤ o.kind) = true := by simpa using hlo
      rw [this, Bool.true_and]
      by_cases h : o.kind ≤ 13
      · simp [h]
      · simp [h]; omega
    · rintro _ q w5 ⟨rfl, rfl⟩
      refine split_i (fun hq => ?_) (fun hq => ⟨rfl, ?_⟩)
      · have hact : act M o = (M, no 4) := by
          have : ¬ (1 ≤ o.kind ∧ o.kind ≤ 13) := by
            intro hc
            simp [hc.1, hc.2] at hq
          unfold act
          rw [if_neg (by omega), if_neg (by omega), if_neg (by omega), if_neg (by omega), if_neg (by omega)]
        exact ⟨_, _, _, _, _, _, _, _, _, _, _, RD.i o2, C4.fin0 4 0 [] (by rw [hact]) (by rw [hact]; rfl) fun w9 q9 hh => hh⟩
      · have : 1 ≤ o.kind ∧ o.kind ≤ 13 := by simpa using hq
        omega
    · rintro _ w5 ⟨rfl, hlo, hhi⟩
      have hact : act M o = within M o := by
        unfold act
        rw [if_neg (by omega), if_neg (by omega), if_neg (by omega), if_neg (by omega), if_pos ⟨hlo, hhi⟩]
      refine ⟨_, _, _, _, _, _, _, _, _, _, _, RD.i o2, _, cell_at o3 rfl, CALL.i (ref_find C4.md (by omega) (by omega) o.box) (by kernel_rfl) ?_⟩
      rintro r w6 ⟨rfl, q6⟩
      have C6 := C4.no q6
      refine ⟨_, rfl, ?_⟩
      rcases findI_cases hb.names (fun x hx => (hb.bval x hx).1) o.box with ⟨h5, h6⟩ | ⟨i, x, h5, h6, h7⟩
      · refine split_dec (fun _ => ?_) (fun hc => absurd h5 hc)
        have hw : within M o = (M, no 5) := by unfold within; rw [h6]
        exact ⟨_, _, _, _, _, _, _, _, _, _, _, RD.i C6.h2, C6.fin0 5 0 [] (by rw [hact, hw]) (by rw [hact, hw]; rfl) fun w9 q9 hh => hh⟩
      · refine split_dec (fun hc => by omega) (fun _ => ?_)
        rw [h5]
        have hil := (List.getElem?_eq_some_iff.1 h6).1
        have hxm := List.mem_of_getElem? h6
        have hxb := hok.toOk'.bx x hxm
        have hxl := hb.blen x hxm
        have hxn := hb.bnext x hxm
        have hxf := hb.bflags x hxm
        have hxv := hb.bval x hxm
        obtain ⟨aB, x', X, nx, cx, hAB, hx', hrx, hsx⟩ := C6.md.bx.bx (i := i) (by omega)
        rw [h6] at hx'
        cases hx'
        have hlx := hsx.len
        refine ⟨_, _, _, cell_at C6.h2 rfl, ⟨by omega, by omega⟩, SOMEA.i hAB ⟨_, _, _, _, _, by rw [Int.toNat_natCast]; exact hrx, ?_⟩⟩
        refine NEW.i fun k13 w7 hk13' hs7 q7 a7 => ST.i a7 (by simp) rfl fun w8 hs8 q8 a8 => ?_
        have hsz6 := C6.sz
        have C8 := (C6.no q7).st q8 (by omega) (C6.ng (by omega))
        have hsx8 : Sl Lent w8 F X nx cx x.l := (hsx.no q7).kept q8 (fun j hj _ he => by have := h.lt j hj; omega)
        have hw : within M o = (if o.kind = 5 then (M, status x)
            else if o.kind = 6 then append M x o
            else if o.kind = 7 then (M, fetch M x o)
            else if o.kind = 8 ∨ o.kind = 9 then copy M x o
            else if o.kind = 10 then
              let r := setB x o.uid o.flags o.off
              (if r.2.2 ≠ 0 then M else setBox M r.1, ⟨r.2.2, r.2.1.flags, [], [], []⟩)
            else expunge M x o.box) := by
          unfold within
          rw [h7]
        have hm0 : mailOf M 0 = none := by
          unfold mailOf
          rw [show M.mails.find? (fun q => decide (q.1 = 0)) = none from ?_]
          · rfl
          rw [List.find?_eq_none]
          intro q hq
          have := (hok.toOk'.ml q hq).1
          simp
          omega
        have hvn := hok.toOk'.vnodup
        have lt8 : k13 < w8.heap.size := a8.lt
        refine ⟨fun w9 => w9 = w8 ∧ o.kind = 11, ⟨_, cell_at C8.h3 rfl, split_i (fun h5' => ?_) (fun h5' => split_i (fun h6' => ?_) (fun h6' => split_i (fun h7' => ?_) (fun h7' => ?_)))⟩, ?_⟩
        · -- Status
          have hk5 : o.kind = 5 := by simpa using h5'
          rw [if_pos hk5] at hw
          have hu : unseenB x < 100 := Nat.lt_of_le_of_lt (List.length_filter_le _ _) hxl
          have l1 := dec_length (i := x.validity) (by omega) (by omega)
          have l2 := dec_length (i := x.next) (by omega) (by omega)
          have l3 := dec_length (i := (unseenB x : Int)) (by omega) (by omega)
          have e32 : (⟨#[32]⟩ : ByteArray) = bs [32] := rfl
          have hmax : IntKind.max .i64 = 9223372036854775807 := rfl
          refine DRAW.i fun w9 hw9 q9 => ?_
          have C9 := C8.no q9
          have b9 := a8.no q9
          refine ⟨_, _, _, _, _, _, _, _, _, _, _, RD.i C9.h2, _, _, _, cell_at b9 rfl, _, cell_at b9 rfl, _, cell_at b9 rfl, _, _, _, _, _, RD.i b9, ?_⟩
          refine CALL.i (itoa (i := x.validity) (by omega) (by omega) w9) (by kernel_rfl) ?_
          rintro r w10 ⟨rfl, rfl⟩
          refine ⟨_, rfl, load108 (RD.i b9), loadVar_cell (by kernel_rfl) (cell_at b9 rfl), loadVar_cell (by kernel_rfl) (cell_at b9 rfl), load69 C9.h2, ?_⟩
          rw [e32, hmax]
          refine ⟨by rw [bs_size, bs_size]; simp; omega, CALL.i (itoa (i := x.next) (by omega) (by omega) w10) (by kernel_rfl) ?_⟩
          rintro r w11 ⟨rfl, rfl⟩
          refine ⟨_, rfl, load108 (RD.i b9), loadVar_cell (by kernel_rfl) (cell_at b9 rfl), load69 C9.h2, ?_⟩
          rw [bs_append, bs_append, bs_append]
          refine ⟨by rw [bs_size, bs_size]; simp; omega, by rw [bs_size, bs_size]; simp; omega, CALL.i (ref_unseen (hsx8.no q9) (by omega) hxf) (by kernel_rfl) ?_⟩
          rintro r w12 ⟨rfl, q12⟩
          have C12 := C9.no q12
          have b12 := b9.no q12
          refine ⟨_, rfl, loadVar_cell (by kernel_rfl) (cell_at b12 rfl), load69 C12.h2, CALL.i (itoa (i := (unseenB x : Int)) (by omega) (by omega) w12) (by kernel_rfl) ?_⟩
          rintro r w13 ⟨rfl, rfl⟩
          refine ⟨_, rfl, loadVar_cell (by kernel_rfl) (cell_at b12 rfl), load69 C12.h2, by rw [bs_size, bs_size]; simp; omega, ?_⟩
          rw [bs_append]
          refine C12.fin0 0 (nx : Int) _ (by rw [hact, hw]) (by rw [hact, hw]; simp [status, hlx]) fun w14 q14 hh => ⟨loadVar_cell (by kernel_rfl) (cell_at (b12.oth q14 (by have := C12.e6; have := C12.e5; omega)) rfl), hh⟩
        · -- Append
          have hk6 : o.kind = 6 := by simpa using h6'
          rw [if_neg (by omega), if_pos hk6] at hw
          refine ⟨_, cell_at C8.h3 rfl, ?_⟩
          rw [bs_size]
          refine split_dec (fun hbig => ?_) (fun hbig => ?_)
          · have hap : append M x o = (M, no 3) := by unfold append; rw [if_pos (by omega)]
            exact ⟨_, _, _, _, _, _, _, _, _, _, _, RD.i C8.h2, C8.fin0 3 0 [] (by rw [hact, hw, hap]) (by rw [hact, hw, hap]; rfl) fun w9 q9 hh => hh⟩
          · refine ⟨_, _, _, _, _, RD.i a8, _, cell_at C8.h2 rfl, _, cell_at C8.h3 rfl, CALL.i (ref_add18 hsx8 (by omega) (by omega) (by omega) M.next o.flags) (by kernel_rfl) ?_⟩
            rintro r w9 ⟨Y, ny, cy, rfl, q9, hsy⟩
            have hq9 := q9.size
            have C9 := (C8.no q9).mono (G' := Gn F w8 w9) (fun j hj => .inl hj) (fun j hj => hj.elim (fun h' => by have := h.lt j h'; have := C8.kp.size; omega) (fun h' => h'.2)) (gd_gn C8.gd C8.sz)
            refine ⟨_, _, _, _, _, _, _, _, _, rfl, NEW.i fun k14 w10 hk14 hs10 q10 a10 => NEW.i fun k15 w11 hk15 hs11 q11 a11 => ST.i (a10.no q11) (by simp) rfl fun w12 hs12 q12 a12 => ST.i (a11.oth q12 (by omega)) (by simp) rfl fun w13 hs13 q13 a13 => ?_⟩
            have hsz9 := C9.sz
            have hsz8 := C8.sz
            have n14 : ∀ k, w9.heap.size ≤ k → ¬ Gn F w8 w9 k := fun k hk hg => C9.ng hk hg
            have C13 := (((C9.no q10).no q11).st q12 (by omega) (n14 _ (by omega))).st q13 (by omega) (n14 _ (by omega))
            have b14 := a12.oth q13 (by omega)
            have sy13 := (((hsy.no q10).no q11).kept q12 (fun j hj _ he => n14 k14 (by omega) (he ▸ hj))).kept q13 (fun j hj _ he => n14 k15 (by omega) (he ▸ hj))
            have b15 : At w13 k15 (.cells ⟨ecells (addB x M.next o.flags).2.1⟩ 118 (0, 0)) := a13
            refine split_i (fun he => ?_) (fun he => ?_)
            · have he' : (addB x M.next o.flags).2.2 ≠ 0 := by simpa using he
              have hap : append M x o = (M, no (addB x M.next o.flags).2.2) := by unfold append; rw [if_neg (by omega)]; simp only [he', ne_eq, not_false_eq_true, if_true]
              exact ⟨_, _, _, _, _, _, _, _, _, _, _, RD.i C13.h2, C13.fin0 _ 0 [] (by rw [hact, hw, hap]) (by rw [hact, hw, hap]; rfl) fun w14 q14 hh => hh⟩
            · have he' : (addB x M.next o.flags).2.2 = 0 := by simpa using he
              obtain ⟨had, hadb⟩ := (addB_cases x M.next o.flags).resolve_left (fun hc => hc he')
              have hvv : (addB x M.next o.flags).1.validity = x.validity := by rw [had]
              have hap : append M x o = ({ M with b := M.b.set i (addB x M.next o.flags).1, mails := M.mails ++ [(M.next, o.text)], next := M.next + 1 }, ⟨0, (addB x M.next o.flags).2.1.uid, [], [], []⟩) := by
                unfold append
                rw [if_neg (by omega)]
                simp only [he', ne_eq, not_true_eq_false, if_false]
                rw [setBox_at hvn h6 hvv]
              refine ⟨_, _, _, _, _, _, _, _, _, _, _, RD.i C13.h2, _, _, _, _, _, RD.i b14, CALL.i (ref_set19 C13.md (by omega) (i := i) (by omega) sy13) (by kernel_rfl) ?_⟩
              rintro r w14 ⟨B', cb', rfl, q14, m14⟩
              have C14 := C13.no q14
              refine ⟨_, _, _, _, _, _, _, _, _, _, _, rfl, ST.i C14.h2 (by simp) rfl fun w15 hs15 q15 a15 => ?_⟩
              have C15 := C14.put (M' := { M with b := M.b.set i (addB x M.next o.flags).1 }) q15 a15 m14 (gd_gn C13.gd C13.sz)
              have b15' := (b15.no q14).oth q15 (by have := C14.e6; have := C14.e5; have := C14.e4; have := C14.e3; omega)
              have hsz15 := C15.sz
              have n15 : ∀ k, k < w14.heap.size → w13.heap.size ≤ k ∨ k = k15 → k = k15 → ¬ Gn (Gn F w8 w9) w13 w14 k := fun k hk _ he hg => by
                rcases hg with hg | hg
                · exact n14 k (by omega) hg
                · omega
              refine ⟨fun w16 => At w16 k15 (.cells ⟨ecells (addB x M.next o.flags).2.1⟩ 118 (0, 0)) ∧ ∃ G A n c B nb cb E ne ce, Cx w F (k5 + 1) k2 k3 k4 k5 (ocells o OA on oc) w16 G { M with b := M.b.set i (addB x M.next o.flags).1, mails := M.mails ++ [(M.next, o.text)] } A n c B nb cb E ne ce, ?_, ?_⟩
              · refine DRAW.i fun w16 hw16 q16 => ?_
                have C16 := C15.no q16
                have b16 := b15'.no q16
                have ltk : k15 < w16.heap.size := b16.lt
                have hne16 : w16.heap.size = w15.heap.size := by rw [hw16]
                refine ⟨_, _, _, cell_at C16.h2 rfl, _, cell_at C16.h2 rfl, _, cell_at C16.h3 rfl, ?_⟩
                have fin : ∀ (w20 : World) (A2 : Option Addr) (c2 : Nat), Cx w F (k5 + 1) k2 k3 k4 k5 (ocells o OA on oc) w20 (Gn (Gn F w8 w9) w13 w14) { M with b := M.b.set i (addB x M.next o.flags).1 } A n c B' nb cb' E ne ce → At w20 k15 (.cells ⟨ecells (addB x M.next o.flags).2.1⟩ 118 (0, 0)) → Og Lml 123 No w16 w20 A2 (ne + 1) c2 (M.mails ++ [(M.next, o.text)]) →
                    ST w20 (⟨k2, 3, none⟩ : Addr) 0 [(.slice A2 (ne + 1) c2)] fun w21 => At w21 k15 (.cells ⟨ecells (addB x M.next o.flags).2.1⟩ 118 (0, 0)) ∧ ∃ G A n c B nb cb E ne ce, Cx w F (k5 + 1) k2 k3 k4 k5 (ocells o OA on oc) w21 G { M with b := M.b.set i (addB x M.next o.flags).1, mails := M.mails ++ [(M.next, o.text)] } A n c B nb cb E ne ce := by
                  intro w20 A2 c2 C20 b20 g20
                  refine ST.i C20.h2 (by simp) rfl fun w21 hs21 q21 a21 => ⟨b20.oth q21 (by have := C14.e6; have := C14.e5; have := C14.e4; have := C14.e3; omega), Gn (Gn (Gn F w8 w9) w13 w14) w16 w20, A, n, c, B', nb, cb', A2, ne + 1, c2, ?_⟩
                  exact C20.put (M' := { M with b := M.b.set i (addB x M.next o.flags).1, mails := M.mails ++ [(M.next, o.text)] }) q21 a21 ⟨C20.md.nm.mono fun j hj => .inl hj, C20.md.bx.mono fun j hj => .inl hj, g20.gn.mono fun j hj => hj.elim (fun h' => False.elim h') .inr, fun j hj => hj.elim (fun h' => C20.md.lt j h') (fun h' => h'.2)⟩ (gd_gn C20.gd C16.sz)
                have gl : ∀ j, Gn (Gn F w8 w9) w13 w14 j → j < w16.heap.size := C16.md.lt
                have frO : ∀ {w1 w2 : World} {A2 : Option Addr}, Cx w F (k5 + 1) k2 k3 k4 k5 (ocells o OA on oc) w1 (Gn (Gn F w8 w9) w13 w14) { M with b := M.b.set i (addB x M.next o.flags).1 } A n c B' nb cb' E ne ce → At w1 k15 (.cells ⟨ecells (addB x M.next o.flags).2.1⟩ 118 (0, 0)) → Keep (ownBlk A2) w1 w2 → (∀ j, ownBlk A2 j → w16.heap.size ≤ j) →
                    Cx w F (k5 + 1) k2 k3 k4 k5 (ocells o OA on oc) w2 (Gn (Gn F w8 w9) w13 w14) { M with b := M.b.set i (addB x M.next o.flags).1 } A n c B' nb cb' E ne ce ∧ At w2 k15 (.cells ⟨ecells (addB x M.next o.flags).2.1⟩ 118 (0, 0)) := by
                  intro w1 w2 A2 c1 b1 hk hA
                  exact ⟨c1.fr hk (fun j hj => ⟨by have := hA j hj; omega, fun hg => by have := gl j hg; have := hA j hj; omega⟩), hk.at_ b1 (fun hj => by have := hA _ hj; omega)⟩
                refine ⟨?_, ?_⟩
                · refine NEW.i fun k222 w17 hk222 hs17 q17 a17 => ?_
                  have C17 := C16.no q17
                  have g17 : Og Lml 123 No w16 w17 (some ⟨k222, 0, none⟩) 0 0 ([] : List (Int × Str)) := Og.nil (l := []) q17 a17 (by omega) (fun j hj => False.elim hj)
                  refine ⟨loadVar_cell (by kernel_rfl) (cell_at C17.h3 rfl), loadVar_cell (by kernel_rfl) (cell_at C17.h2 rfl), loadVar_cell (by kernel_rfl) (cell_at C17.h2 rfl), ?_, ?_⟩
                  · refine g17.moreP T123 Lml_plain C17.md.ml (by omega) fun A18 c18 w18 q18 g18 hb18 => ⟨_, _, _, rfl, ?_⟩
                    rw [Nat.zero_add, List.nil_append] at g18
                    obtain ⟨C18, b18⟩ := frO C17 (b16.no q17) q18 g17.new
                    refine ⟨loadVar_cell (by kernel_rfl) (cell_at C18.h3 rfl), loadVar_cell (by kernel_rfl) (cell_at C18.h2 rfl), NEW.i fun k231 w19 hk231 hs19 q19 a19 => ?_⟩
                    rw [Nat.zero_add]
                    refine (g18.no q19).one T123 a19 (x := (M.next, o.text)) rfl (by omega) fun A20 c20 w20 q20 g20 hb20 => ⟨_, _, _, rfl, ?_⟩
                    obtain ⟨C20, b20⟩ := frO (C18.no q19) (b18.no q19) q20 g18.new
                    exact fin w20 A20 c20 C20 b20 g20
                  · refine NEW.i fun k231 w18 hk231 hs18 q18 a18 => ⟨loadVar_cell (by kernel_rfl) (cell_at (C17.no q18).h2 rfl), ?_⟩
                    refine (g17.no q18).moreP T123 Lml_plain (C17.no q18).md.ml (by omega) fun A19 c19 w19 q19 g19 hb19 => ⟨_, _, _, rfl, ?_⟩
                    rw [Nat.zero_add, List.nil_append] at g19
                    obtain ⟨C19, b19⟩ := frO (C17.no q18) ((b16.no q17).no q18) q19 g17.new
                    rw [Nat.zero_add]
                    refine g19.one T123 (a18.own_ q19 (fun hc => by have : k231 = k222 := hc; omega)) (x := (M.next, o.text)) rfl (by omega) fun A20 c20 w20 q20 g20 hb20 => ⟨_, _, _, rfl, ?_⟩
                    obtain ⟨C20, b20⟩ := frO C19 b19 q20 g19.new
                    exact fin w20 A20 c20 C20 b20 g20
                · refine NEW.i fun k231 w17 hk231 hs17 q17 a17 => ⟨loadVar_cell (by kernel_rfl) (cell_at (C16.no q17).h2 rfl), NEW.i fun k222 w18 hk222 hs18 q18 a18 => ⟨loadVar_cell (by kernel_rfl) (cell_at ((C16.no q17).no q18).h2 rfl), ?_⟩⟩
                  have C18 := (C16.no q17).no q18
                  have g18 : Og Lml 123 No w16 w18 (some ⟨k222, 0, none⟩) 0 0 ([] : List (Int × Str)) := Og.nil (l := []) (q17.trans q18) a18 (by omega) (fun j hj => False.elim hj)
                  refine g18.moreP T123 Lml_plain C18.md.ml (by omega) fun A19 c19 w19 q19 g19 hb19 => ⟨_, _, _, rfl, ?_⟩
                  rw [Nat.zero_add, List.nil_append] at g19
                  obtain ⟨C19, b19⟩ := frO C18 ((b16.no q17).no q18) q19 g18.new
                  rw [Nat.zero_add]
                  refine g19.one T123 ((a17.no q18).own_ q19 (fun hc => by have : k231 = k222 := hc; omega)) (x := (M.next, o.text)) rfl (by omega) fun A20 c20 w20 q20 g20 hb20 => ⟨_, _, _, rfl, ?_⟩
                  obtain ⟨C20, b20⟩ := frO C19 b19 q20 g19.new
                  exact fin w20 A20 c20 C20 b20 g20
              · rintro _ w16 ⟨b16, G6, A6, n6, c6, B6, nb6, cb6, E6, ne6, ce6, C16⟩
                refine ⟨_, cell_at C16.h2 rfl, ST.i C16.h2 (by simp) rfl fun w17 hs17 q17 a17 => DRAW.i fun w18 hw18 q18 => ?_⟩
                have hnext : IntKind.wrap .i64 (M.next + 1) = M.next + 1 := by have := hb.next; rw [wrap64 (by omega) (by omega)]
                have C17 := C16.put (M' := { M with b := M.b.set i (addB x M.next o.flags).1, mails := M.mails ++ [(M.next, o.text)], next := M.next + 1 }) q17 (hnext ▸ a17) ⟨C16.md.nm, C16.md.bx, C16.md.ml, C16.md.lt⟩ C16.gd
                have C18 := C17.no q18
                have b18 : At w18 k15 (.cells ⟨ecells (addB x M.next o.flags).2.1⟩ 118 (0, 0)) := (b16.oth q17 (by have := C14.e6; have := C14.e5; have := C14.e4; have := C14.e3; omega)).no q18
                refine ⟨_, _, _, _, _, _, _, _, _, _, _, RD.i C18.h2, _, cell_at b18 rfl, C18.fin0 0 _ [] (by rw [hact, hw, hap]) (by rw [hact, hw, hap]) fun w19 q19 hh => ⟨loadVar_cell (by kernel_rfl) (cell_at (b18.oth q19 (by have := C14.e6; have := C14.e5; omega)) rfl), hh⟩⟩
        · -- Fetch
          have hk7 : o.kind = 7 := by simpa using h7'
          rw [if_neg (by omega), if_neg (by omega), if_pos hk7] at hw
          refine ⟨_, _, _, _, _, RD.i a8, _, cell_at C8.h3 rfl, CALL.i (ref_get hsx8 (by omega) o.uid) (by kernel_rfl) ?_⟩
          rintro r w9 ⟨rfl, q9⟩
          refine ⟨_, _, _, _, rfl, NEW.i fun k17 w10 hk17 hs10 q10 a10 => ST.i a10 (by simp) rfl fun w11 hs11 q11 a11 => ?_⟩
          have hsz8 := C8.sz
          have hq9 := q9.size
          have C11 := ((C8.no q9).no q10).st q11 (by omega) ((C8.no q9).ng (by omega))
          refine ⟨_, _, _, _, _, _, _, _, _, _, _, RD.i C11.h2, _, cell_at a11 rfl, CALL.i (ref_text C11.md (by omega) _) (by kernel_rfl) ?_⟩
          rintro r w12 ⟨rfl, q12⟩
          refine ⟨_, _, rfl, DRAW.i fun w13 hw13 q13 => ?_⟩
          have C13 := (C11.no q12).no q13
          have b13 := (a11.no q12).no q13
          have hA : (act M o).2 = ⟨(getB x o.uid).2, (getB x o.uid).1.flags, (mailOf M (getB x o.uid).1.mail).getD [], [], []⟩ := by
            rw [hact, hw]
            unfold fetch getB
            cases hfd : findB x o.uid with
            | none =>
              show no 7 = ⟨7, 0, (mailOf M 0).getD [], [], []⟩
              rw [hm0]
              rfl
            | some e => rfl
          refine ⟨_, _, _, _, _, _, _, _, _, _, _, RD.i C13.h2, _, cell_at b13 rfl, C13.fin0 _ _ _ (by rw [hact, hw]) hA fun w14 q14 hh => ⟨loadVar_cell (by kernel_rfl) (cell_at (b13.oth q14 (by have := C13.e6; have := C13.e5; omega)) rfl), hh⟩⟩
        · refine ⟨fun q w9 => w9 = w8 ∧ q = (decide (o.kind = 8) || decide (o.kind = 9)), split_i (fun h8 => ⟨rfl, ?_⟩) (fun h8 => ⟨rfl, ?_⟩), ?_⟩
          · have : o.kind = 8 := by simpa using h8
            simp [this]
          · have : ¬ o.kind = 8 := by simpa using h8
            simp [this]
            by_cases h9 : o.kind = 9 <;> simp [h9]
          rintro _ q w9 ⟨rfl, rfl⟩
          refine split_i (fun h89 => ?_) (fun h89 => split_i (fun h10 => ?_) (fun h10 => ⟨rfl, ?_⟩))
          · -- Copy, Move
            have hk89 : o.kind = 8 ∨ o.kind = 9 := by simpa using h89
            rw [if_neg (by omega), if_neg (by omega), if_neg (by omega), if_pos hk89] at hw
            have hsz8 := C8.sz
            refine ⟨_, _, _, _, _, _, _, _, _, _, _, RD.i C8.h2, _, cell_at C8.h3 rfl, CALL.i (ref_find C8.md (by omega) (by omega) o.to) (by kernel_rfl) ?_⟩
            rintro r w10 ⟨rfl, q10⟩
            have C10 := C8.no q10
            have hq10 := q10.size
            refine ⟨_, rfl, ?_⟩
            rcases findI_cases hb.names (fun x hx => (hb.bval x hx).1) o.to with ⟨g5, g6⟩ | ⟨k, y, g5, g6, g7⟩
            · refine split_dec (fun _ => ?_) (fun hc => absurd g5 hc)
              have hcp : copy M x o = (M, no 5) := by unfold copy; rw [g6]
              exact ⟨_, _, _, _, _, _, _, _, _, _, _, RD.i C10.h2, C10.fin0 5 0 [] (by rw [hact, hw, hcp]) (by rw [hact, hw, hcp]; rfl) fun w11 q11 hh => hh⟩
            refine split_dec (fun hc => by omega) (fun _ => ?_)
            rw [g5]
            have hkl := (List.getElem?_eq_some_iff.1 g6).1
            have hym := List.mem_of_getElem? g6
            have hyl := hb.blen y hym
            have hyn := hb.bnext y hym
            refine ⟨_, _, _, _, _, RD.i (a8.no q10), _, cell_at C10.h3 rfl, CALL.i (ref_get (hsx8.no q10) (by omega) o.uid) (by kernel_rfl) ?_⟩
            rintro r w11 ⟨rfl, q11⟩
            have hq11 := q11.size
            refine ⟨_, _, _, _, rfl, NEW.i fun k22 w12 hk22 hs12 q12 a12 => ST.i a12 (by simp) rfl fun w13 hs13 q13 a13 => ?_⟩
            have C13 := ((C10.no q11).no q12).st q13 (by omega) ((C10.no q11).ng (by omega))
            cases hfd : findB x o.uid with
            | none =>
              have hg : getB x o.uid = (.none, 7) := by unfold getB; rw [hfd]
              rw [hg]
              refine split_i (fun _ => ?_) (fun hc => by simp at hc)
              have hcp : copy M x o = (M, no 7) := by unfold copy; rw [g7]; simp only [hfd]
              exact ⟨_, _, _, _, _, _, _, _, _, _, _, RD.i C13.h2, C13.fin0 7 0 [] (by rw [hact, hw, hcp]) (by rw [hact, hw, hcp]; rfl) fun w14 q14 hh => hh⟩
            | some e =>
              have hg : getB x o.uid = (e, 0) := by unfold getB; rw [hfd]
              rw [hg] at a13 ⊢
              refine split_i (fun hc => by simp at hc) (fun _ => ?_)
              have b22 : At w13 k22 (.cells ⟨ecells e⟩ 118 (0, 0)) := a13
              clear a12 a13
              have hem : e ∈ x.l := (findB_some hfd).1
              refine ⟨fun p24 p25 x26 w14 => ∃ (ka kb : Nat) (G : Nat → Prop) (Y : Option Addr) (ny cy : Nat), p24 = some ⟨ka, 0, none⟩ ∧ p25 = some ⟨kb, 0, none⟩ ∧ x26 = (addB y e.mail e.flags).2.2 ∧ Cx w F (k5 + 1) k2 k3 k4 k5 (ocells o OA on oc) w14 G M A n c B nb cb E ne ce ∧
                At w14 ka (.cells ⟨[.int .i64 (addB y e.mail e.flags).1.validity, .int .i64 (addB y e.mail e.flags).1.next, .slice Y ny cy]⟩ 108 (0, 0)) ∧ At w14 kb (.cells ⟨ecells (addB y e.mail e.flags).2.1⟩ 118 (0, 0)) ∧ Sl Lent w14 G Y ny cy (addB y e.mail e.flags).1.l ∧ k5 + 1 ≤ ka ∧ k5 + 1 ≤ kb ∧ ka ≠ kb ∧ ¬ G ka ∧ ¬ G kb, ?_, ?_⟩
              · refine DRAW.i fun w14 hw14 q14 => ?_
                have C14 := C13.no q14
                have c22 := b22.no q14
                have hsz14 := C14.sz
                obtain ⟨aY, y', Y0, n0, c0, hAY, hy', hry, hsy⟩ := C14.md.bx.bxk (i := k) (by omega)
                rw [g6] at hy'
                cases hy'
                have hly := hsy.len
                refine ⟨_, _, _, cell_at C14.h2 rfl, ⟨by omega, by omega⟩, SOMEA.i hAY ?_⟩
                rw [Int.toNat_natCast]
                have hryN : ∀ {w' : World}, Keep No w14 w' → RD w' (aY.add (k * 3)) 0 [.int .i64 y.validity, .int .i64 y.next, .slice Y0 n0 c0] := fun hk => hry _ (fun j hj hlt => hk.keep j hlt (fun h => h))
                refine ⟨_, _, _, _, _, hryN (Keep.refl _ _), _, cell_at c22 rfl, _, cell_at c22 rfl, ?_⟩
                have wt : ∀ {w' : World}, Keep No w14 w' → (loadVar 3 (⟨k22, 1, none⟩ : Addr)).run PP w' = .ok (.int .i64 e.flags) w' ∧ (loadVar 3 (⟨k22, 2, none⟩ : Addr)).run PP w' = .ok (.int .i64 e.mail) w' ∧
                    (loadVar 108 (aY.add (k * 3))).run PP w' = .ok (.agg #[.int .i64 y.validity, .int .i64 y.next, .slice Y0 n0 c0]) w' ∧ (loadVar 66 (⟨k2, 2, none⟩ : Addr)).run PP w' = .ok (.slice B nb cb) w' := fun hk =>
                  ⟨loadVar_cell (by kernel_rfl) (cell_at (c22.no hk) rfl), loadVar_cell (by kernel_rfl) (cell_at (c22.no hk) rfl), load108 (hryN hk), loadVar_cell (by kernel_rfl) (cell_at (C14.no hk).h2 rfl)⟩
                have add : ∀ {w' : World}, Keep No w14 w' → _ := fun {w'} hk => ref_add18 (hsy.no hk) (by omega) (by omega) (by omega) e.mail e.flags (w := w')
                -- both are stored
                have fin : ∀ (wa wb wz : World) (ka kb : Nat) (Y : Option Addr) (ny cy : Nat), Keep No w14 wa → Keep No wa wb → Keep No wb wz → Sl Lent wb (Gn F wa wb) Y ny cy (addB y e.mail e.flags).1.l → w14.heap.size ≤ ka → w14.heap.size ≤ kb → ka ≠ kb → (wb.heap.size ≤ ka ∨ ka < wa.heap.size) → (wb.heap.size ≤ kb ∨ kb < wa.heap.size) →
                    At wz ka (.cells ⟨[.int .i64 0, .int .i64 0, .slice none 0 0]⟩ 108 (0, 0)) → At wz kb (.cells ⟨[.int .i64 0, .int .i64 0, .int .i64 0]⟩ 118 (0, 0)) →
                    ST wz (⟨ka, 0, none⟩ : Addr) 0 [.int .i64 (addB y e.mail e.flags).1.validity, .int .i64 (addB y e.mail e.flags).1.next, .slice Y ny cy] fun w18 => ST w18 (⟨kb, 0, none⟩ : Addr) 0 [.int .i64 (addB y e.mail e.flags).2.1.uid, .int .i64 (addB y e.mail e.flags).2.1.flags, .int .i64 (addB y e.mail e.flags).2.1.mail] fun w19 =>
                    ∃ (ka' kb' : Nat) (G : Nat → Prop) (Y : Option Addr) (ny cy : Nat), (some ⟨ka, 0, none⟩ : Option Addr) = some ⟨ka', 0, none⟩ ∧ (some ⟨kb, 0, none⟩ : Option Addr) = some ⟨kb', 0, none⟩ ∧ (addB y e.mail e.flags).2.2 = (addB y e.mail e.flags).2.2 ∧ Cx w F (k5 + 1) k2 k3 k4 k5 (ocells o OA on oc) w19 G M A n c B nb cb E ne ce ∧
                      At w19 ka' (.cells ⟨[.int .i64 (addB y e.mail e.flags).1.validity, .int .i64 (addB y e.mail e.flags).1.next, .slice Y ny cy]⟩ 108 (0, 0)) ∧ At w19 kb' (.cells ⟨ecells (addB y e.mail e.flags).2.1⟩ 118 (0, 0)) ∧ Sl Lent w19 G Y ny cy (addB y e.mail e.flags).1.l ∧ k5 + 1 ≤ ka' ∧ k5 + 1 ≤ kb' ∧ ka' ≠ kb' ∧ ¬ G ka' ∧ ¬ G kb' := by
                  intro wa wb wz ka kb Y ny cy p1 p2 p3 sl l1 l2 hne d1 d2 t1 t2
                  have s1 := p1.size
                  have s2 := p2.size
                  have s3 := p3.size
                  have hs0 := C14.kp.size
                  have g1 : ¬ Gn F wa wb ka := fun hg => by
                    rcases hg with hg | hg
                    · have := h.lt ka hg; omega
                    · omega
                  have g2 : ¬ Gn F wa wb kb := fun hg => by
                    rcases hg with hg | hg
                    · have := h.lt kb hg; omega
                    · omega
                  have Cz := ((C14.no p1).no p2).no p3
                  have Cz' := Cz.mono (G' := Gn F wa wb) (fun j hj => .inl hj) (fun j hj => hj.elim (fun h' => by have := h.lt j h'; omega) (fun h' => by omega)) (gd_gn C14.gd (by omega))
                  refine ST.i t1 (by simp) rfl fun w18 hs18 q18 a18 => ST.i (t2.oth q18 (fun he => hne he.symm)) (by simp) rfl fun w19 hs19 q19 a19 => ?_
                  refine ⟨ka, kb, Gn F wa wb, Y, ny, cy, rfl, rfl, rfl, (Cz'.st q18 (by omega) g1).st q19 (by omega) g2, a18.oth q19 hne, a19, ?_, by omega, by omega, hne, g1, g2⟩
                  exact ((sl.no p3).kept q18 (fun j hj _ he => g1 (he ▸ hj))).kept q19 (fun j hj _ he => g2 (he ▸ hj))
                refine ⟨?_, ?_, ?_⟩
                · refine CALL.i (add (Keep.refl _ _)) (by kernel_rfl) ?_
                  rintro r w15 ⟨Y, ny, cy, rfl, q15, sl⟩
                  have hq15 := q15.size
                  refine ⟨_, _, _, _, _, _, _, _, _, rfl, ?_, ?_⟩
                  · refine NEW.i fun k24 w16 hk24 hs16 q16 a16 => NEW.i fun k25 w17 hk25 hs17 q17 a17 => ?_
                    exact fin w14 w15 w17 k24 k25 Y ny cy (Keep.refl _ _) q15 (q16.trans q17) sl (by omega) (by omega) (by omega) (by omega) (by omega) (a16.no q17) a17
                  · refine NEW.i fun k25 w16 hk25 hs16 q16 a16 => NEW.i fun k24 w17 hk24 hs17 q17 a17 => ?_
                    exact fin w14 w15 w17 k24 k25 Y ny cy (Keep.refl _ _) q15 (q16.trans q17) sl (by omega) (by omega) (by omega) (by omega) (by omega) a17 (a16.no q17)
                · refine NEW.i fun k24 w15 hk24 hs15 q15 a15 => ?_
                  obtain ⟨t1, t2, t3, t4⟩ := wt q15
                  refine ⟨t1, t2, t3, t4, ?_, ?_⟩
                  · refine CALL.i (add q15) (by kernel_rfl) ?_
                    rintro r w16 ⟨Y, ny, cy, rfl, q16, sl⟩
                    have hq16 := q16.size
                    refine ⟨_, _, _, _, _, _, _, _, _, rfl, NEW.i fun k25 w17 hk25 hs17 q17 a17 => ?_⟩
                    exact fin w15 w16 w17 k24 k25 Y ny cy q15 q16 q17 sl (by omega) (by omega) (by omega) (by omega) (by omega) ((a15.no q16).no q17) a17
                  · refine NEW.i fun k25 w16 hk25 hs16 q16 a16 => ?_
                    obtain ⟨u1, u2, u3, u4⟩ := wt (q15.trans q16)
                    refine ⟨u1, u2, u3, u4, CALL.i (add (q15.trans q16)) (by kernel_rfl) ?_⟩
                    rintro r w17 ⟨Y, ny, cy, rfl, q17, sl⟩
                    have hq17 := q17.size
                    refine ⟨_, _, _, _, _, _, _, _, _, rfl, ?_⟩
                    exact fin w16 w17 w17 k24 k25 Y ny cy (q15.trans q16) q17 (Keep.refl _ _) sl (by omega) (by omega) (by omega) (by omega) (by omega) ((a15.no q16).no q17) (a16.no q17)
                · refine NEW.i fun k25 w15 hk25 hs15 q15 a15 => ?_
                  obtain ⟨t1, t2, t3, t4⟩ := wt q15
                  refine ⟨t1, t2, t3, t4, ?_, ?_⟩
                  · refine CALL.i (add q15) (by kernel_rfl) ?_
                    rintro r w16 ⟨Y, ny, cy, rfl, q16, sl⟩
                    have hq16 := q16.size
                    refine ⟨_, _, _, _, _, _, _, _, _, rfl, NEW.i fun k24 w17 hk24 hs17 q17 a17 => ?_⟩
                    exact fin w15 w16 w17 k24 k25 Y ny cy q15 q16 q17 sl (by omega) (by omega) (by omega) (by omega) (by omega) a17 ((a15.no q16).no q17)
                  · refine NEW.i fun k24 w16 hk24 hs16 q16 a16 => ?_
                    obtain ⟨u1, u2, u3, u4⟩ := wt (q15.trans q16)
                    refine ⟨u1, u2, u3, u4, CALL.i (add (q15.trans q16)) (by kernel_rfl) ?_⟩
                    rintro r w17 ⟨Y, ny, cy, rfl, q17, sl⟩
                    have hq17 := q17.size
                    refine ⟨_, _, _, _, _, _, _, _, _, rfl, ?_⟩
                    exact fin w16 w17 w17 k24 k25 Y ny cy (q15.trans q16) q17 (Keep.refl _ _) sl (by omega) (by omega) (by omega) (by omega) (by omega) (a16.no q17) ((a15.no q16).no q17)
              · rintro _ p24 p25 x26 w14 ⟨ka, kb, G, Y, ny, cy, rfl, rfl, rfl, C14, aa, ab, sl, la, lb, hne, ga, gb⟩
                have hyv : (addB y e.mail e.flags).1.validity = y.validity := by
                  unfold addB
                  split
                  · rfl
                  · split <;> rfl
                refine split_i (fun he => ?_) (fun he => ?_)
                · have he' : (addB y e.mail e.flags).2.2 ≠ 0 := by simpa using he
                  have hcp : copy M x o = (M, no (addB y e.mail e.flags).2.2) := by
                    unfold copy
                    rw [g7]
                    simp only [hfd, he', ne_eq, not_false_eq_true, if_true]
                  exact ⟨_, _, _, _, _, _, _, _, _, _, _, RD.i C14.h2, C14.fin0 _ 0 [] (by rw [hact, hw, hcp]) (by rw [hact, hw, hcp]; rfl) fun w15 q15 hh => hh⟩
                · have he' : (addB y e.mail e.flags).2.2 = 0 := by simpa using he
                  obtain ⟨had, hadb⟩ := (addB_cases y e.mail e.flags).resolve_left (fun hc => hc he')
                  refine ⟨_, _, _, _, _, _, _, _, _, _, _, RD.i C14.h2, SOMEA.i rfl ⟨_, _, _, _, _, RD.i aa, CALL.i (ref_set19 C14.md (by omega) (i := k) (by omega) sl) (by kernel_rfl) ?_⟩⟩
                  rintro r w15 ⟨B', cb', rfl, q15, m15⟩
                  have C15 := C14.no q15
                  have hq15 := q15.size
                  refine ⟨_, _, _, _, _, _, _, _, _, _, _, rfl, ST.i C15.h2 (by simp) rfl fun w16 hs16 q16 a16 => ?_⟩
                  have C16 := C15.put (M' := { M with b := M.b.set k (addB y e.mail e.flags).1 }) q16 a16 m15 (gd_gn C14.gd C14.sz)
                  have ca := (aa.no q15).oth q16 (by have := C14.e6; have := C14.e5; have := C14.e4; have := C14.e3; omega)
                  have cb2 := (ab.no q15).oth q16 (by have := C14.e6; have := C14.e5; have := C14.e4; have := C14.e3; omega)
                  have lta := aa.lt
                  have ltb := ab.lt
                  have ga' : ¬ Gn G w14 w15 ka := fun hg => by
                    rcases hg with hg | hg
                    · exact ga hg
                    · omega
                  have gb' : ¬ Gn G w14 w15 kb := fun hg => by
                    rcases hg with hg | hg
                    · exact gb hg
                    · omega
                  -- what is at place i now
                  obtain ⟨x1, hx1, hx1v, hx1o⟩ : ∃ x1, (M.b.set k (addB y e.mail e.flags).1)[i]? = some x1 ∧ x1.validity = x.validity ∧ (x1.l.length < 1000 ∧ UidOk x1) := by
                    by_cases hik : k = i
                    · subst hik
                      rw [g6] at h6
                      cases h6
                      refine ⟨_, List.getElem?_set_self hkl, hyv, ?_⟩
                      have hbk := bxok_add hxb hadb.1 ⟨hadb.2.1, hadb.2.2⟩
                      rw [had]
                      exact ⟨by simp; omega, hbk.uid⟩
                    · exact ⟨x, by rw [List.getElem?_set_ne hik]; exact h6, rfl, by omega, hxb.uid⟩
                  have hset : setBox M (addB y e.mail e.flags).1 = { M with b := M.b.set k (addB y e.mail e.flags).1 } := setBox_at hvn g6 hyv
                  have hvn1 : (({ M with b := M.b.set k (addB y e.mail e.flags).1 } : Md).b.map (·.validity)).Nodup := by
                    show ((M.b.set k (addB y e.mail e.flags).1).map (·.validity)).Nodup
                    rw [set_val g6 hyv]
                    exact hvn
                  have hbo : boxOf { M with b := M.b.set k (addB y e.mail e.flags).1 } x.validity = some x1 := by
                    rw [← hx1v]
                    exact boxOf_mem hvn1 (List.mem_of_getElem? hx1)
                  have hrv : (removeB x1 o.uid).1.validity = x1.validity := by rw [removeB_eq hx1o.2]
                  have hcp : copy M x o = (if o.kind = 9 then { M with b := (M.b.set k (addB y e.mail e.flags).1).set i (removeB x1 o.uid).1 } else { M with b := M.b.set k (addB y e.mail e.flags).1 }, ⟨0, (addB y e.mail e.flags).2.1.uid, [], [], []⟩) := by
                    unfold copy
                    rw [g7]
                    simp only [hfd, he', ne_eq, not_true_eq_false, if_false]
                    rw [hset, hbo]
                    simp only
                    rw [setBox_at (M := { M with b := M.b.set k (addB y e.mail e.flags).1 }) hvn1 hx1 hrv]
                  refine ⟨fun w17 => At w17 kb (.cells ⟨ecells (addB y e.mail e.flags).2.1⟩ 118 (0, 0)) ∧ ∃ G A n c B nb cb E ne ce, Cx w F (k5 + 1) k2 k3 k4 k5 (ocells o OA on oc) w17 G (act M o).1 A n c B nb cb E ne ce, ⟨_, cell_at C16.h3 rfl, split_i (fun h9 => ?_) (fun h9 => ?_)⟩, ?_⟩
                  · have hk9 : o.kind = 9 := by simpa using h9
                    refine DRAW.i fun w17 hw17 q17 => ?_
                    have C17 := C16.no q17
                    obtain ⟨aX, x', X0, n0, c0, hAX, hx', hrx1, hsx1⟩ := C17.md.bx.bx (i := i) (by omega)
                    rw [show ({ M with b := M.b.set k (addB y e.mail e.flags).1 } : Md).b[i]? = some x1 from hx1] at hx'
                    cases hx'
                    have hlx1 := hsx1.len
                    refine ⟨_, _, _, cell_at C17.h2 rfl, ⟨by omega, by omega⟩, SOMEA.i hAX ⟨_, _, _, _, _, by rw [Int.toNat_natCast]; exact hrx1, _, cell_at C17.h3 rfl, CALL.i (ref_remove hsx1 (by omega) hx1o.2 o.uid) (by kernel_rfl) ?_⟩⟩
                    rintro r w18 ⟨Z, nz, cz, rfl, q18, sz⟩
                    have hq18 := q18.size
                    have hs17 : w17.heap.size = w16.heap.size := by rw [hw17]
                    have da := (ca.no q17).no q18
                    have db := (cb2.no q17).no q18
                    have C18 := (C17.no q18).mono (G' := Gn (Gn G w14 w15) w17 w18) (fun j hj => .inl hj) (fun j hj => hj.elim (fun h' => by have := C17.md.lt j h'; omega) (fun h' => h'.2)) (gd_gn C17.gd C17.sz)
                    have gA : ¬ Gn (Gn G w14 w15) w17 w18 ka := fun hg => by
                      rcases hg with hg | hg
                      · exact ga' hg
                      · omega
                    refine ⟨_, _, _, _, _, _, _, _, _, rfl, SOMEA.i rfl (ST.i da (by simp) rfl fun w19 hs19 q19 a19 => ?_)⟩
                    have C19 := C18.st q19 (by omega) gA
                    have sz19 := sz.kept q19 (fun j hj _ he => gA (he ▸ hj))
                    refine ⟨_, _, _, _, _, _, _, _, _, _, _, RD.i C19.h2, SOMEA.i rfl ⟨_, _, _, _, _, RD.i a19, CALL.i (ref_set19 C19.md (by omega) (i := i) (by omega) sz19) (by kernel_rfl) ?_⟩⟩
                    rintro r w20 ⟨B2, cb3, rfl, q20, m20⟩
                    have C20 := C19.no q20
                    refine ⟨_, _, _, _, _, _, _, _, _, _, _, rfl, ST.i C20.h2 (by simp) rfl fun w21 hs21 q21 a21 => ⟨((db.oth q19 (fun he => hne he.symm)).no q20).oth q21 (by have := C14.e6; have := C14.e5; have := C14.e4; have := C14.e3; omega), ?_⟩⟩
                    rw [hact, hw, hcp]
                    simp only [hk9, if_true]
                    exact ⟨_, _, _, _, _, _, _, _, _, _, C20.put (M' := { M with b := (M.b.set k (addB y e.mail e.flags).1).set i (removeB x1 o.uid).1 }) q21 a21 m20 (gd_gn C19.gd C19.sz)⟩
                  · have hk9 : ¬ o.kind = 9 := by simpa using h9
                    refine ⟨cb2, ?_⟩
                    rw [hact, hw, hcp]
                    simp only [hk9, if_false]
                    exact ⟨_, _, _, _, _, _, _, _, _, _, C16⟩
                  · rintro _ w17 ⟨b17, G6, A6, n6, c6, B6, nb6, cb6, E6, ne6, ce6, C17⟩
                    refine DRAW.i fun w18 hw18 q18 => ?_
                    have C18 := C17.no q18
                    have b18 := b17.no q18
                    refine ⟨_, _, _, _, _, _, _, _, _, _, _, RD.i C18.h2, SOMEA.i rfl ⟨_, by rw [add_off]; exact cell_at b18 rfl, C18.fin0 0 _ [] rfl (by rw [hact, hw, hcp]) fun w19 q19 hh => ⟨loadVar_cell (by kernel_rfl) (by rw [add_off]; exact cell_at (b18.oth q19 (by have := C18.e6; have := C18.e5; omega)) rfl), hh⟩⟩⟩
          · -- Flag
            have hk10 : o.kind = 10 := by simpa using h10
            rw [if_neg (by omega), if_neg (by omega), if_neg (by omega), if_neg (by omega), if_pos hk10] at hw
            have hsz8 := C8.sz
            refine ⟨_, _, _, _, _, RD.i a8, _, cell_at C8.h3 rfl, _, cell_at C8.h3 rfl, _, cell_at C8.h3 rfl, CALL.i (ref_set hsx8 (by omega) hxf hxb.uid o.uid o.flags o.off) (by kernel_rfl) ?_⟩
            rintro r w10 ⟨Y, ny, cy, rfl, q10, hsy⟩
            have hq10 := q10.size
            have C10 := (C8.no q10).mono (G' := Gn F w9 w10) (fun j hj => .inl hj) (fun j hj => hj.elim (fun h' => by have := h.lt j h'; have := C8.kp.size; omega) (fun h' => h'.2)) (gd_gn C8.gd C8.sz)
            refine ⟨_, _, _, _, _, _, _, _, _, rfl, NEW.i fun k27 w11 hk27 hs11 q11 a11 => NEW.i fun k28 w12 hk28 hs12 q12 a12 => ST.i (a11.no q12) (by simp) rfl fun w13 hs13 q13 a13 => ST.i (a12.oth q13 (by omega)) (by simp) rfl fun w14 hs14 q14 a14 => ?_⟩
            have n27 : ∀ k, w10.heap.size ≤ k → ¬ Gn F w9 w10 k := fun k hk hg => C10.ng hk hg
            have C14 := (((C10.no q11).no q12).st q13 (by omega) (n27 _ (by omega))).st q14 (by omega) (n27 _ (by omega))
            have b27 := a13.oth q14 (by omega)
            have b28 : At w14 k28 (.cells ⟨ecells (setB x o.uid o.flags o.off).2.1⟩ 118 (0, 0)) := a14
            have sy14 := (((hsy.no q11).no q12).kept q13 (fun j hj _ he => n27 k27 (by omega) (he ▸ hj))).kept q14 (fun j hj _ he => n27 k28 (by omega) (he ▸ hj))
            refine split_i (fun he => ?_) (fun he => ?_)
            · have he' : (setB x o.uid o.flags o.off).2.2 ≠ 0 := by simpa using he
              have hfl0 : (setB x o.uid o.flags o.off).2.1.flags = 0 := by
                unfold setB at he' ⊢
                cases hfd : findB x o.uid with
                | none => rfl
                | some e =>
                  rw [hfd] at he'
                  simp only at he' ⊢
                  split
                  · rfl
                  · rename_i hc
                    rw [if_neg hc] at he'
                    exact absurd rfl he'
              refine ⟨_, _, _, _, _, _, _, _, _, _, _, RD.i C14.h2, C14.fin0 _ 0 [] (by rw [hact, hw]; simp only [he', ne_eq, not_false_eq_true, if_true]) (by rw [hact, hw]; simp only [hfl0]) fun w15 q15 hh => hh⟩
            · have he' : (setB x o.uid o.flags o.off).2.2 = 0 := by simpa using he
              have hvv : (setB x o.uid o.flags o.off).1.validity = x.validity := by
                rcases setB_cases x o.uid o.flags o.off with ⟨hc, _⟩ | ⟨e, _, _, _, hse⟩
                · exact absurd he' hc
                · rw [hse]
              refine DRAW.i fun w15 hw15 q15 => ?_
              have C15 := C14.no q15
              have c28 := b28.no q15
              refine ⟨_, _, _, _, _, _, _, _, _, _, _, RD.i C15.h2, _, _, _, _, _, RD.i (b27.no q15), _, cell_at c28 rfl, CALL.i (ref_set19 C15.md (by omega) (i := i) (by omega) (sy14.no q15)) (by kernel_rfl) ?_⟩
              rintro r w16 ⟨B', cb', rfl, q16, m16⟩
              have C16 := C15.no q16
              have d28 := c28.no q16
              refine ⟨_, _, _, _, _, _, _, _, _, _, _, rfl, loadVar_cell (by kernel_rfl) (cell_at d28 rfl), C16.finM0 m16 (gd_gn C15.gd C15.sz) 0 _ [] ?_ ?_ fun w17 q17 hh => ⟨loadVar_cell (by kernel_rfl) (cell_at (d28.oth q17 (by have := C16.e6; have := C16.e5; omega)) rfl), hh⟩⟩
              · rw [hact, hw]
                simp only [he', ne_eq, not_true_eq_false, if_false]
                rw [setBox_at hvn h6 hvv]
              · rw [hact, hw]
                simp only [he']
          · have hk10 : o.kind ≠ 10 := by simpa using h10
            have h5n : o.kind ≠ 5 := by simpa using h5'
            have h6n : o.kind ≠ 6 := by simpa using h6'
            have h7n : o.kind ≠ 7 := by simpa using h7'
            have h89n : ¬ (o.kind = 8 ∨ o.kind = 9) := by
              intro hc
              rcases hc with hc | hc <;> simp [hc] at h89
            omega
        · -- Expunge
          rintro _ w9 ⟨rfl, hk11⟩
          rw [if_neg (by omega), if_neg (by omega), if_neg (by omega), if_neg (by omega), if_neg (by omega)] at hw
          have hexp : expunge M x o.box = (sweep { M with b := M.b.set i (expungeB x).1 }, ⟨0, (expungeB x).2.length, [], [], (expungeB x).2.map fun e => ⟨o.box, e.uid, e.flags⟩⟩) := by
            unfold expunge
            simp only
            rw [setBox_at hvn h6 (show (expungeB x).1.validity = x.validity from rfl)]
          refine ⟨_, _, _, _, _, RD.i a8, CALL.i (ref_expunge hsx8 (by omega) hxf) (by kernel_rfl) ?_⟩
          rintro r w10 ⟨Y, ny, cy, D, nd, cd, rfl, q10, hsy, hsd⟩
          have hq10 := q10.size
          have hsz8 := C8.sz
          have hlD := hsd.len
          have hdl : (expungeB x).2.length ≤ x.l.length := List.length_filter_le _ _
          have C10 := (C8.no q10).mono (G' := Gn F w9 w10) (fun j hj => .inl hj) (fun j hj => hj.elim (fun h' => by have := h.lt j h'; have := C8.kp.size; omega) (fun h' => h'.2)) (gd_gn C8.gd C8.sz)
          have n10 : ∀ k, w10.heap.size ≤ k → ¬ Gn F w9 w10 k := fun k hk hg => C10.ng hk hg
          refine ⟨_, _, _, _, _, _, _, _, rfl, NEW.i fun k30 w11 hk30 hs11 q11 a11 => ST.i a11 (by simp) rfl fun w12 hs12 q12 a12 => NEW.i fun k32 w13 hk32 hs13 q13 a13 => ST.i a13 (by simp) rfl fun w14 hs14 q14 a14 => ?_⟩
          have C14 := (((C10.no q11).st q12 (by omega) (n10 _ (by omega))).no q13).st q14 (by omega) (n10 _ (by omega))
          have b30 := (a12.no q13).oth q14 (by omega)
          have kp : ∀ {cs : List Ety} {A : Option Addr} {n c : Nat}, Sl Lent w10 (Gn F w9 w10) A n c cs → Sl Lent w14 (Gn F w9 w10) A n c cs := fun hh => (((hh.no q11).kept q12 (fun j hj _ he => n10 k30 (by omega) (he ▸ hj))).no q13).kept q14 (fun j hj _ he => n10 k32 (by omega) (he ▸ hj))
          have sy14 := kp hsy
          have sd14 := kp hsd
          have lt12 : w12.heap.size = k32 := hk32
          refine ⟨fun x7 w15 => ∃ (m : Nat) (A2 : Option Addr) (n2 c2 : Nat), x7 = m ∧ m ≤ nd ∧ At w15 k32 (.cells ⟨[.int .i64 0, .int .i64 (nd : Int), .string ⟨#[]⟩, .slice none 0 0, .slice A2 n2 c2]⟩ 73 (0, 0)) ∧ ¬ ownBlk A2 k32 ∧ Keep (fun j => k32 ≤ j) w14 w15 ∧ Og Lhit 131 No w12 w15 A2 n2 c2 (((expungeB x).2.take m).map fun e => (⟨o.box, e.uid, e.flags⟩ : Hit)),
            fun x7 _ => ((nd : Int) - x7).toNat, ⟨0, none, 0, 0, rfl, Nat.zero_le _, a14, fun h => h, Keep.refl _ _, Og.none (q13.tmp q14 (by omega)) (fun j hj => False.elim hj)⟩, ?_⟩
          rintro _ x7 w15 ⟨m, A2, n2, c2, rfl, hm, a15, d15, q15, g15⟩
          have hgs := g15.keep.size
          have hn2 := g15.own.len
          simp only [List.length_map, List.length_take] at hn2
          have hg10 : ∀ j, Gn F w9 w10 j → ¬ k32 ≤ j := fun j hj hc => n10 j (by omega) hj
          have C15 := C14.fr q15 (fun j hj => ⟨by omega, fun hg => hg10 j hg hj⟩)
          refine split_dec (fun hlt => ?_) (fun hge => ?_)
          · have hlt' : m < nd := by omega
            refine ⟨⟨by omega, hlt⟩, ?_⟩
            obtain ⟨ae, e, hAe, he, hre⟩ := (sd14.kept q15 (fun j hj _ hs => hg10 j hj hs)).ent hlt'
            refine SOMEA.i hAe ⟨_, _, _, by rw [Int.toNat_natCast]; exact hre, ?_⟩
            refine NEW.i fun k34 w16 hk34 hs16 q16 a16 => ST.i a16 (by simp) rfl fun w17 hs17 q17 a17 => ?_
            have lt15 := a15.lt
            have g17 := (g15.no q16).st q17 (by omega) (g15.fresh (by omega))
            have e17 := (a15.no q16).oth q17 (by omega)
            have C17 := (C15.no q16).st q17 (by omega) (C15.ng (by omega))
            refine ⟨_, _, _, cell_at e17 rfl, _, cell_at C17.h3 rfl, _, cell_at a17 rfl, _, cell_at a17 rfl, NEW.i fun k382 w18 hk382 hs18 q18 a18 => ?_⟩
            refine (g17.no q18).one T131 a18 (x := ⟨o.box, e.uid, e.flags⟩) rfl (by omega) fun A' c' w19 q19 g19 hb19 => ⟨_, _, _, rfl, ?_⟩
            have e19 := (e17.no q18).own_ q19 d15
            have hnew : ¬ ownBlk A' k32 := fun hc => by
              rcases hb19 k32 hc with h' | h'
              · exact d15 h'
              · have := e19.lt; omega
            have hoA : ∀ j, ownBlk A2 j → k32 ≤ j := fun j hj => by have := g15.new j hj; omega
            refine ST.i e19 (by simp) rfl fun w20 hs20 q20 a20 => ⟨⟨m + 1, A', n2 + 1, c', wrapS (by omega), hlt', a20, hnew, ?_, ?_⟩, mu_go (wrapS (by omega)) hlt'⟩
            · exact ((((q15.and_no q16).trans (q17.mono fun j _ hj => by rw [hj]; omega)).and_no q18).trans (q19.mono fun j _ hj => hoA j hj)).trans (q20.mono fun j _ hj => by rw [hj]; omega)
            · rw [take_succ_some he, List.map_append]
              exact g19.st q20 (by omega) hnew
          · have hme : m = (expungeB x).2.length := by omega
            rw [hme, List.take_length] at g15
            refine DRAW.i fun w16 hw16 q16 => ?_
            have C16 := C15.no q16
            have e16 := a15.no q16
            have f16 := (q15.at_ b30 (fun hc => by omega)).no q16
            have sy16 := (sy14.kept q15 (fun j hj _ hs => hg10 j hj hs)).no q16
            have g16 := g15.no q16
            refine ⟨_, _, _, _, _, _, _, _, _, _, _, RD.i C16.h2, _, _, _, _, _, RD.i f16, _, _, _, _, _, _, _, _, _, RD.i e16, CALL.i (ref_set19 C16.md (by omega) (i := i) (by omega) sy16) (by kernel_rfl) ?_⟩
            rintro r w17 ⟨B', cb', rfl, q17, m17⟩
            have C17 := C16.no q17
            refine ⟨_, _, _, _, _, _, _, _, _, _, _, rfl, load73 (e16.no q17), CALL.i (ref_sweep (M := { M with b := M.b.set i (expungeB x).1 }) m17 (by simpa using (by omega : nb < 1000000000)) (by omega) (fun y hy => ?_)) (by kernel_rfl) ?_⟩
            · rcases List.mem_or_eq_of_mem_set hy with hy | rfl
              · have := hb.blen y hy; omega
              · have : (expungeB x).1.l.length ≤ x.l.length := List.length_filter_le _ _
                omega
            rintro r w18 ⟨E', ne', ce', rfl, q18, m18⟩
            have C18 := C17.no q18
            have e18 := (e16.no q17).no q18
            refine ⟨_, _, _, _, _, _, _, _, _, _, _, rfl, load73 e18, ?_⟩
            rw [hact, hw, hexp]
            have hlt16 := e16.lt
            refine C18.finM m18 (gd_gn (gd_gn C16.gd C16.sz) (by have := C17.sz; omega)) (⟨0, (expungeB x).2.length, [], [], (expungeB x).2.map fun e => ⟨o.box, e.uid, e.flags⟩⟩ : Ans) (A1 := none) (n1 := 0) (c1 := 0) (A2 := A2) (n2 := n2) (c2 := c2) (G1 := Gn No w12 w16) (Sl.nil _ _ _ _ _) ((g16.gn.no q17).no q18) ?_ ?_
            · intro j hj
              rcases hj with hj | hj
              · exact False.elim hj
              · have := q17.size; have := q18.size; exact .inr ⟨by omega, by omega⟩
            · intro w19 q19 hh
              refine ⟨load73 (e18.oth q19 (by have := C18.e6; have := C18.e5; omega)), ?_⟩
              rw [hlD] at hh ⊢
              exact hh
end
end Go.SW
