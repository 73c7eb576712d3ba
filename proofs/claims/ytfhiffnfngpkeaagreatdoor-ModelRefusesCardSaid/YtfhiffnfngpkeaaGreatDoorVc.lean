/- A computed verification condition for the Code of Go functions, with its proof that it implies the kit's Code.wp and Calls. -/
import Derived.Tactics
import Derived.Orders
import Derived.Laws.Tables
import Derived.KernelRfl
import Derived.OrdersIn
import Derived.TacticsIn
import Derived.RangeFuncLeaves
import Derived.RangeFuncCalls
namespace Go.SW
open Go

/-! ## Environments -/
abbrev Env := Nat → Value
def Env.upd (e : Env) (d : Nat) (v : Value) : Env := fun t => cond (Nat.beq t d) v (e t)
def Env.put (e : Env) (d : Option Tmp) (v : Value) : Env := match d with | none => e | some d => Env.upd e d v
def Env.ev (e : Env) : Operand → Value
  | .tmp t => e t
  | .const v => v
  | .global g => .pointer (some ⟨g, 0, none⟩)
  | .func f => .func (.func f) #[] #[]
/-- a set of slots as a number's bits -/
def inM (m t : Nat) : Bool := Nat.beq (Nat.land (Nat.shiftRight m t) 1) 1
def Env.havoc (e : Env) (m : Nat) (j : Nat → Value) : Env := fun t => cond (inM m t) (j t) (e t)

structure Rel (ds : List Deferred) (n : Nat) (a : Act) (e : Env) : Prop where
  defers : a.defers = ds
  size : a.tmps.size = n
  at_ : ∀ t, a.tmps.getD t undef = e t

theorem Rel.ev {ds : List Deferred} {n : Nat} {a : Act} {e : Env} (h : Rel ds n a e) (x : Operand) : a.eval x = e.ev x := by
  cases x with
  | tmp t => exact h.at_ t
  | _ => rfl

theorem Rel.evf {ds : List Deferred} {n : Nat} {a : Act} {e : Env} (h : Rel ds n a e) : a.eval = e.ev := funext h.ev

theorem beq_ne {t d : Nat} (h : t ≠ d) : Nat.beq t d = false := by
  cases hb : Nat.beq t d with
  | false => rfl
  | true => exact absurd (Nat.eq_of_beq_eq_true hb) h

def dstOk (n : Nat) : Option Tmp → Bool
  | none => true
  | some d => Nat.blt d n

theorem Rel.put {ds : List Deferred} {n : Nat} {a : Act} {e : Env} (h : Rel ds n a e) {d : Option Tmp} (hd : dstOk n d = true) (v : Value) : Rel ds n (a.put d v) (e.put d v) := by
  cases d with
  | none => exact h
  | some d =>
    have hd' : d < n := by simpa [dstOk] using hd
    refine ⟨h.defers, by simp [Act.put, h.size], fun t => ?_⟩
    have := h.at_ t
    by_cases htd : t = d
    · subst htd
      have hb : Nat.beq t t = true := Nat.beq_refl t
      have hlt : t < a.tmps.size := by rw [h.size]; exact hd'
      simp [Act.put, Env.put, Env.upd, hlt]
    · have hb : Nat.beq t d = false := beq_ne htd
      simp only [Act.put, Env.put, Env.upd, hb, cond_false]
      rw [← this]
      simp [Array.getElem?_setIfInBounds_ne (Ne.symm htd)]

/-- what code may assign -/
def agree (ch : List Nat) (e e' : Env) : Prop := ∀ t, ch.any (Nat.beq t) = false → e' t = e t
theorem agree.refl (ch : List Nat) (e : Env) : agree ch e e := fun _ _ => rfl
theorem agree.trans {ch : List Nat} {e e1 e2 : Env} (h : agree ch e e1) (h' : agree ch e1 e2) : agree ch e e2 := fun t ht => (h' t ht).trans (h t ht)
theorem agree.mono {ch ch' : List Nat} {e e1 : Env} (h : agree ch e e1) (hs : ch.all (fun t => ch'.any (Nat.beq t)) = true) : agree ch' e e1 := by
  intro t ht
  refine h t ?_
  cases hc : ch.any (Nat.beq t) with
  | false => rfl
  | true =>
    obtain ⟨x, hx, hb⟩ := List.any_eq_true.1 hc
    have : t = x := by simpa using hb
    subst this
    have := List.all_eq_true.1 hs t hx
    simp [this] at ht
theorem agree.put {ch : List Nat} {e : Env} {d : Option Tmp} (v : Value) (h : ∀ t, d = some t → ch.any (Nat.beq t) = true) : agree ch e (e.put d v) := by
  intro t ht
  cases d with
  | none => rfl
  | some d =>
    have hne : t ≠ d := fun he => by have := h d rfl; rw [← he, ht] at this; cases this
    have hb : Nat.beq t d = false := beq_ne hne
    simp [Env.put, Env.upd, hb]
def agreeM (m : Nat) (e e' : Env) : Prop := ∀ t, inM m t = false → e' t = e t
theorem agreeM.havoc {m : Nat} {e e' : Env} (h : agreeM m e e') : e' = e.havoc m e' := by
  funext t
  unfold Env.havoc
  cases hc : inM m t with
  | true => rfl
  | false => exact h t hc

/-! ## Kinds -/
inductive SK where
  | int (k : IntKind) | bool | str | ptr | slice | map | chan | raw
inductive VK where
  | sc (k : SK) | ag (l : List SK) | tup (l : List (SK ⊕ List SK))

def skOf : TypeDesc → SK
  | .int k => .int k | .bool => .bool | .string => .str | .pointer _ => .ptr | .slice _ => .slice | .map _ _ => .map | .chan _ _ => .chan | _ => .raw

def cellKinds (P : Program) : Nat → TypeId → List SK
  | 0, _ => []
  | d + 1, t => match P.underlying t with
    | some (.struct fs) => fs.toList.foldr (fun f acc => cellKinds P d f.type ++ acc) []
    | some (.array n e) => (List.replicate n (cellKinds P d e)).foldr (fun l acc => l ++ acc) []
    | some x => [skOf x]
    | none => [.raw]

def vkOf (P : Program) (t : TypeId) : VK := match P.underlying t with
  | some (.struct _) | some (.array _ _) => .ag (cellKinds P 8 t)
  | some (.tuple ts) => .tup (ts.toList.map fun u => match P.underlying u with
    | some (.struct _) | some (.array _ _) => .inr (cellKinds P 8 u)
    | some x => .inl (skOf x)
    | none => .inl .raw)
  | some x => .sc (skOf x)
  | none => .sc .raw

def EX1 : SK → (Value → Prop) → Prop
  | .int k, F => ∃ n : Int, F (.int k n)
  | .bool, F => ∃ b : Bool, F (.bool b)
  | .str, F => ∃ s : ByteArray, F (.string s)
  | .ptr, F => ∃ p : Option Addr, F (.pointer p)
  | .slice, F => ∃ (A : Option Addr) (n c : Nat), F (.slice A n c)
  | .map, F => ∃ m : Option Nat, F (.map m)
  | .chan, F => ∃ m : Option Nat, F (.chan m)
  | .raw, F => ∃ v : Value, F v
def EXS : List SK → (List Value → Prop) → Prop
  | [], F => F []
  | k :: r, F => EX1 k fun v => EXS r fun l => F (v :: l)
def EXT : List (SK ⊕ List SK) → (List Value → Prop) → Prop
  | [], F => F []
  | .inl k :: r, F => EX1 k fun v => EXT r fun l => F (v :: l)
  | .inr ks :: r, F => EXS ks fun cs => EXT r fun l => F (.agg ⟨cs⟩ :: l)
def EXV : VK → (Value → Prop) → Prop
  | .sc k, F => EX1 k F
  | .ag ks, F => EXS ks fun cs => F (.agg ⟨cs⟩)
  | .tup l, F => EXT l fun vs => F (.tuple ⟨vs⟩)
/-- a value of a kind: named by its parts -/
def TYV (k : VK) (v : Value) (K : Value → Prop) : Prop := match k with
  | .sc .raw => K v
  | k => EXV k fun u => v = u ∧ K u
def AL1 : SK → (Value → Prop) → Prop
  | .int k, F => ∀ n : Int, F (.int k n)
  | .bool, F => ∀ b : Bool, F (.bool b)
  | .str, F => ∀ s : ByteArray, F (.string s)
  | .ptr, F => ∀ p : Option Addr, F (.pointer p)
  | .slice, F => ∀ (A : Option Addr) (n c : Nat), F (.slice A n c)
  | .map, F => ∀ m : Option Nat, F (.map m)
  | .chan, F => ∀ m : Option Nat, F (.chan m)
  | .raw, F => ∀ v : Value, F v

theorem EX1.elim {k : SK} {F : Value → Prop} (h : EX1 k F) : ∃ v, F v := by
  cases k <;> simp only [EX1] at h
  case slice => obtain ⟨A, n, c, h⟩ := h; exact ⟨_, h⟩
  all_goals (obtain ⟨x, h⟩ := h; exact ⟨_, h⟩)
theorem EXS.elim : ∀ {l : List SK} {F : List Value → Prop}, EXS l F → ∃ cs, F cs
  | [], _, h => ⟨_, h⟩
  | _ :: _, _, h => by
    obtain ⟨v, h⟩ := EX1.elim h
    obtain ⟨cs, h⟩ := EXS.elim h
    exact ⟨_, h⟩
theorem EXT.elim : ∀ {l : List (SK ⊕ List SK)} {F : List Value → Prop}, EXT l F → ∃ cs, F cs
  | [], _, h => ⟨_, h⟩
  | .inl _ :: _, _, h => by
    obtain ⟨v, h⟩ := EX1.elim h
    obtain ⟨cs, h⟩ := EXT.elim h
    exact ⟨_, h⟩
  | .inr _ :: _, _, h => by
    obtain ⟨v, h⟩ := EXS.elim h
    obtain ⟨cs, h⟩ := EXT.elim h
    exact ⟨_, h⟩
theorem EXV.elim {k : VK} {F : Value → Prop} (h : EXV k F) : ∃ v, F v := by
  cases k with
  | sc k => exact EX1.elim h
  | ag l => obtain ⟨cs, h⟩ := EXS.elim h; exact ⟨_, h⟩
  | tup l => obtain ⟨cs, h⟩ := EXT.elim h; exact ⟨_, h⟩
theorem TYV.elim {k : VK} {v : Value} {K : Value → Prop} (h : TYV k v K) : K v := by
  have aux : ∀ k, EXV k (fun u => v = u ∧ K u) → K v := fun k h => by obtain ⟨u, rfl, h⟩ := EXV.elim h; exact h
  unfold TYV at h
  split at h
  · exact h
  · exact aux _ h

theorem Sem.run_v {P : Program} {s : Sem Value} {w w' : World} {v : Value} (h : s.run P w = .ok v w') : (do pure (Next.value (← s)) : Sem Next).run P w = .ok (.value v) w' := by
  simp [h]
theorem Sem.run_u {P : Program} {s : Sem Unit} {w w' : World} {v : Unit} (h : s.run P w = .ok v w') : (do s; pure Next.skip : Sem Next).run P w = .ok .skip w' := by
  simp [h]

/-! ## Forms -/
def SPLIT (t : Bool) (A B : Prop) : Prop := match t with | true => A | false => B
def SOMEA (p : Option Addr) (F : Addr → Prop) : Prop := match p with | some a => F a | none => False
def GETV (l : List Value) (i : Nat) (F : Value → Prop) : Prop := match l[i]? with | some v => F v | none => False
def RD (w : World) (a : Addr) : Nat → List Value → Prop
  | _, [] => True
  | i, v :: l => w.cell? (a.add i) = some v ∧ RD w a (i + 1) l
def LD (P : Program) (t : TypeId) (a : Addr) (w : World) (K : Value → Prop) : Prop := match P.underlying t with
  | some (.struct _) | some (.array _ _) => cond (((P.info? t).map fun i => i.size == (cellKinds P 8 t).length).getD false) (EXS (cellKinds P 8 t) fun l => RD w a 0 l ∧ K (.agg ⟨l⟩)) False
  | some x => EX1 (skOf x) fun u => w.cell? a = some u ∧ K u
  | none => False
def flat : Value → Bool
  | .agg _ | .tuple _ => false
  | _ => true
def ST (w : World) (a : Addr) : Nat → List Value → (World → Prop) → Prop
  | _, [], K => K w
  | i, v :: l, K => flat v = true ∧ (∃ u, w.cell? (a.add i) = some u) ∧ w.frozen? (a.add i) = false ∧ ST (w.setCell (a.add i) v) a (i + 1) l K
def NEW (w : World) (o : Obj) (K : Nat → World → Prop) : Prop := K w.heap.size { w with heap := w.heap.push o }
def RUN {α : Type} (P : Program) (s : Sem α) (w : World) (K : α → World → Prop) : Prop := ∃ v w', s.run P w = .ok v w' ∧ K v w'
/-- it returns, and so -/
def Ret (K : Value → World → Prop) : Ending → World → Prop
  | .returned v, w => K v w
  | _, _ => False
inductive CALL (P : Program) (f : FuncId) (args : List Value) (w : World) (K : Value → World → Prop) : Prop where
  | inl (h : (callFunc f ⟨args⟩).run P w = .ok (.enter f ⟨args⟩) w ∧ Calls P f ⟨args⟩ w (Ret K))
  | inr (h : ∃ v w', (callFunc f ⟨args⟩).run P w = .ok (.value v) w' ∧ K v w')
/-- a call of a function value that is not known -/
inductive CALLV (P : Program) (f : Value) (args : List Value) (w : World) (K : Value → World → Prop) : Prop where
  | inl (h : ∃ g fs cs, f = .func (.func g) ⟨fs⟩ ⟨cs⟩ ∧ CALL P g (fs ++ args ++ cs) w K)
  | inr (h : ∃ l fn tmps asn body, f = .func (.yield l) #[] #[] ∧ (Instr.yield l ⟨args⟩).run P w = .ok (.round l fn tmps asn body) w ∧ ∀ m, RoundIn Fence.wide m P l fn tmps asn body w (Ret K))

def putL : List Value → Nat → List Value → List Value
  | cs, _, [] => cs
  | cs, off, v :: r => putL (cs.set off v) (off + 1) r
def fillL (pl : Nat → Option (Nat × Nat)) : List Value → List (Nat × Value) → Option (List Value)
  | cs, [] => some cs
  | cs, (i, v) :: r => match pl i with
    | some (off, size) => cond (Nat.beq v.cells.toList.length size && Nat.ble (off + size) cs.length) (fillL pl (putL cs off v.cells.toList) r) none
    | none => none
def builtL (P : Program) (t : TypeId) (ps : List (Nat × Value)) : Option (List Value) := match P.info? t, P.underlying t with
  | some it, some (.array _ e) => match it.zero, P.info? e with
    | some z, some ie => fillL (fun i => some (i * ie.size, ie.size)) z.cells.toList ps
    | _, _ => none
  | some it, some (.struct fs) => match it.zero, fs.toList.mapM (fun f => (P.info? f.type).map fun i => (f.offset, i.size)) with
    | some z, some pl => fillL (fun i => pl[i]?) z.cells.toList ps
    | _, _ => none
  | _, _ => none
def SOMEL (o : Option (List Value)) (F : List Value → Prop) : Prop := match o with | some l => F l | none => False

def BND (x : Option Value) (upper dflt : Nat) (K : Nat → Prop) : Prop := match x with
  | none => K dflt
  | some (.int _ i) => (0 ≤ i ∧ i ≤ (upper : Int)) ∧ K i.toNat
  | _ => False
def SLA (A : Option Addr) (m l size : Nat) : Option Addr := if m = l then A else A.map (·.add (l * size))
def bt (s : ByteArray) (i : Int) : Int := ((s.data.toList.getD i.toNat 0).toNat : Int)

def vals (e : Env) (l : Array Operand) : List Value := l.toList.map e.ev
def parts (e : Env) (l : Array (Nat × Operand)) : List (Nat × Value) := l.toList.map fun p => (p.1, e.ev p.2)
/-- what kind the part i of tuple d is taken for -/
def xk (P : Program) (rest : List Oper) (d : Option Tmp) (i : Nat) : SK := match rest with
  | [] => .raw
  | o :: r => match o.op, d with
    | .extract (.tmp t) j, some d => cond (Nat.beq t d && Nat.beq i j) (match P.underlying o.type with | some x => skOf x | none => .raw) (xk P r (some d) i)
    | _, d => xk P r d i

/-- a Sem that asks nothing of the world -/
def semP {α : Type} (P : Program) : Sem α → (α → Prop) → Prop
  | .pure a, K => K a
  | .program k, K => semP P (k P) K
  | _, _ => False

def BIN (P : Program) (op : BinOp) (t : TypeId) (xo yo : Operand) (x y : Value) (K : Value → Prop) : Prop := match op, x, y with
  | .quo, .int k a, .int k' b => k = k' ∧ b ≠ 0 ∧ K (.int k (k.wrap (a.tdiv b)))
  | .rem, .int k a, .int k' b => k = k' ∧ b ≠ 0 ∧ K (.int k (a.tmod b))
  | .shl, .int k a, .int _ b => 0 ≤ b ∧ K (.int k (k.wrap (a * 2 ^ (min b.toNat k.bits))))
  | .shr, .int k a, .int _ b => 0 ≤ b ∧ K (.int k (a.fdiv (2 ^ (min b.toNat k.bits))))
  | .add, .string a, .string b => ((a.size + b.size : Nat) : Int) ≤ IntKind.i64.max ∧ K (.string (a ++ b))
  | .eql, .pointer p, .pointer none => match P.underlying t with | some (.pointer _) => K (.bool p.isNone) | _ => False
  | .neq, .pointer p, .pointer none => match P.underlying t with | some (.pointer _) => K (.bool (!p.isNone)) | _ => False
  | .eql, .slice A _ _, .slice none _ _ => match P.underlying t with | some (.slice _) => K (.bool A.isNone) | _ => False
  | .neq, .slice A _ _, .slice none _ _ => match P.underlying t with | some (.slice _) => K (.bool (!A.isNone)) | _ => False
  | .eql, .map m, .map none => match P.underlying t with | some (.map _ _) => K (.bool m.isNone) | _ => False
  | .neq, .map m, .map none => match P.underlying t with | some (.map _ _) => K (.bool (!m.isNone)) | _ => False
  | op, x, y => semP P (do eqGuard op t xo yo x y; binOp op t x y) K

def tyAt (P : Program) (ts : Array TypeId) : Option TypeDesc := match ts.toList with | t :: _ => P.underlying t | [] => none
def BLP (P : Program) (o : Oper) (b : Builtin) (ts : Array TypeId) (args : List Value) (K : Value → Prop) : Prop := match b, args with
  | .len, [.string s] => match tyAt P ts with | some .string => K (.int .i64 s.size) | _ => False
  | .len, [.slice _ n _] => match tyAt P ts with | some (.slice _) => K (.int .i64 n) | _ => False
  | .min, args => semP P (Builtin.min_ ts o.type ⟨args⟩) K
  | .max, args => semP P (Builtin.max_ ts o.type ⟨args⟩) K
  | .cap, [.slice _ _ c] => match tyAt P ts with | some (.slice _) => K (.int .i64 c) | _ => False
  | _, _ => False

/-- what asks nothing of the world, and turns nothing -/
def OPP (P : Program) (o : Oper) (e : Env) (K : Value → Prop) : Prop := match o.op with
  | .move x => K (e.ev x)
  | .assign x => K (e.ev x)
  | .pick c a b => match e.ev c with
    | .bool t => SPLIT t (K (e.ev a)) (K (e.ev b))
    | _ => False
  | .build t ps => SOMEL (builtL P t (parts e ps)) fun cs => K (.agg ⟨cs⟩)
  | .nilCheck x => match e.ev x with
    | .pointer p => SOMEA p fun a => K (.pointer (some a))
    | .func (.func f) a b => K (.func (.func f) a b)
    | _ => False
  | .binOp op t x y _ => BIN P op t x y (e.ev x) (e.ev y) K
  | .unOp op _ x => semP P (Op.unary op (e.ev x)) K
  | .convert s d x => match P.underlying d, e.ev x with
    | some (.int k), .int _ n => (P.underlying s).isSome = true ∧ K (.int k (k.wrap n))
    | some .string, .string n => (P.underlying s).isSome = true ∧ K (.string n)
    | _, _ => False
  | .makeFunc fn first cap => K (.func fn ⟨vals e first⟩ ⟨vals e cap⟩)
  | .slice t x lo hi none => match P.underlying t, e.ev x with
    | some .string, .string s => BND (hi.map e.ev) s.size s.size fun h => BND (lo.map e.ev) h 0 fun l => K (.string (s.extract l h))
    | some (.slice el), .slice A n c => match P.info? el with
      | some x => BND (hi.map e.ev) c n fun h => BND (lo.map e.ev) h 0 fun l => K (.slice (SLA A c l x.size) (h - l) (c - l))
      | none => False
    | some (.array n el), .pointer p => match P.info? el with
      | some x => SOMEA p fun a => BND (hi.map e.ev) n n fun h => BND (lo.map e.ev) h 0 fun l => K (.slice (SLA (some a) n l x.size) (h - l) (n - l))
      | none => False
    | _, _ => False
  | .slice t x lo (some hi) (some mx) => match P.underlying t, e.ev x with
    | some (.slice el), .slice A _ c => match P.info? el with
      | some x => BND (some (e.ev mx)) c 0 fun m => BND (some (e.ev hi)) m 0 fun h => BND (lo.map e.ev) h 0 fun l => K (.slice (SLA A m l x.size) (h - l) (m - l))
      | none => False
    | _, _ => False
  | .fieldAddr s x f => match P.underlying s with
    | some (.struct fs) => match fs.toList[f]?, e.ev x with
      | some fd, .pointer p => SOMEA p fun a => match P.info? fd.type with
        | some i => cond (Nat.beq i.size 0) False (K (.pointer (some (a.add fd.offset))))
        | none => False
      | _, _ => False
    | _ => False
  | .field s x f => match P.underlying s with
    | some (.struct fs) => match fs.toList[f]?, e.ev x with
      | some fd, .agg cs => match P.underlying fd.type with
        | some (.struct _) | some (.array _ _) => match P.info? fd.type with | some i => K (.agg ⟨(cs.toList.drop fd.offset).take i.size⟩) | none => False
        | some _ => GETV cs.toList fd.offset fun v => K v
        | none => False
      | _, _ => False
    | _ => False
  | .indexAddr t x i => match P.underlying t, e.ev x, e.ev i with
    | some (.slice el), .slice A n _, .int _ i => match P.info? el with
      | some x => (0 ≤ i ∧ i < (n : Int)) ∧ SOMEA A fun a => K (.pointer (some (a.add (i.toNat * x.size))))
      | none => False
    | some (.array n el), .pointer p, .int _ i => match P.info? el with
      | some x => (0 ≤ i ∧ i < (n : Int)) ∧ SOMEA p fun a => K (.pointer (some (a.add (i.toNat * x.size))))
      | none => False
    | _, _, _ => False
  | .index t x i => match P.underlying t, e.ev x, e.ev i with
    | some .string, .string s, .int _ i => (0 ≤ i ∧ i < (s.size : Int)) ∧ K (.int .u8 (bt s i))
    | _, _, _ => False
  | .extract x i => match e.ev x with
    | .tuple vs => GETV vs.toList i fun v => K v
    | _ => False
  | .call c => match c.callee with
    | .builtin b => BLP P o b c.argTypes (vals e c.args) K
    | _ => False
  | _ => False

/-- reads of the world: what was read, and what says that it would be read again -/
def OPR (P : Program) (o : Oper) (e : Env) (w : World) (K : Value → (World → Prop) → Prop) : Prop := match o.op with
  | .load t x => match e.ev x with
    | .pointer p => SOMEA p fun a => LD P t a w fun v => K v (fun w' => (loadVar t a).run P w' = .ok v w')
    | _ => False
  | .lookup t m k ok => ∃ v, (Instr.lookup t (e.ev m) (e.ev k) ok).run P w = .ok v w ∧ TYV (vkOf P o.type) v fun v => K v (fun w' => (Instr.lookup t (e.ev m) (e.ev k) ok).run P w' = .ok v w')
  | .binOp op t x y _ => ∃ b : Bool, (do eqGuard op t x y (e.ev x) (e.ev y); binOp op t (e.ev x) (e.ev y) : Sem Value).run P w = .ok (.bool b) w ∧
      K (.bool b) (fun w' => (do eqGuard op t x y (e.ev x) (e.ev y); binOp op t (e.ev x) (e.ev y) : Sem Value).run P w' = .ok (.bool b) w')
  | .call c => match c.callee with
    | .builtin .len => ∃ n : Int, (Builtin.len_ c.argTypes o.type ⟨vals e c.args⟩).run P w = .ok (.int .i64 n) w ∧ K (.int .i64 n) (fun w' => (Builtin.len_ c.argTypes o.type ⟨vals e c.args⟩).run P w' = .ok (.int .i64 n) w')
    | .builtin .cap => ∃ n : Int, (Builtin.cap_ c.argTypes o.type ⟨vals e c.args⟩).run P w = .ok (.int .i64 n) w ∧ K (.int .i64 n) (fun w' => (Builtin.cap_ c.argTypes o.type ⟨vals e c.args⟩).run P w' = .ok (.int .i64 n) w')
    | _ => False
  | _ => False

def BLW (P : Program) (o : Oper) (b : Builtin) (ts : Array TypeId) (args : List Value) (w : World) (K : Value → World → Prop) : Prop := match b with
  | .append => RUN P (Builtin.append_ ts o.type ⟨args⟩) w fun v w' => ∃ (A : Option Addr) (n c : Nat), v = .slice A n c ∧ K (.slice A n c) w'
  | .copy => RUN P (Builtin.copy_ ts o.type ⟨args⟩) w fun v w' => ∃ n : Int, v = .int .i64 n ∧ K (.int .i64 n) w'
  | .delete => RUN P (Builtin.delete_ ts o.type ⟨args⟩) w K
  | .clear => RUN P (Builtin.clear_ ts o.type ⟨args⟩) w K
  | .unsafeSliceData => RUN P (Builtin.unsafeSliceData_ ts o.type ⟨args⟩) w fun v w' => ∃ p : Option Addr, v = .pointer p ∧ K (.pointer p) w'
  | .unsafeString => RUN P (Builtin.unsafeString_ ts o.type ⟨args⟩) w fun v w' => ∃ s : ByteArray, v = .string s ∧ K (.string s) w'
  | _ => False

/-- what may turn the world -/
def OPW (P : Program) (rest : List Oper) (o : Oper) (e : Env) (w : World) (K : Value → World → Prop) : Prop := match o.op with
  | .alloc t => match P.info? t with
    | some i => match i.zero with
      | some z => NEW w (.cells z.cells t) fun b w' => K (.pointer (some ⟨b, 0, none⟩)) w'
      | none => False
    | none => False
  | .box t x => NEW w (.cells (e.ev x).cells t) fun b w' => K (.pointer (some ⟨b, 0, none⟩)) w'
  | .buildSlice t n ps => match P.underlying t with
    | some (.slice el) => match P.info? el with
      | some x => match x.zero with
        | some z => cond (Nat.ble (n * x.size) 16777216 && Nat.beq z.cells.toList.length x.size)
            (SOMEL (fillL (fun i => some (i * x.size, x.size)) (List.replicate n z.cells.toList).flatten (parts e ps)) fun cs =>
              NEW w (.cells ⟨cs⟩ el) fun b w' => K (.slice (some ⟨b, 0, none⟩) n n) w') False
        | none => False
      | none => False
    | _ => False
  | .store t x v => match e.ev x with
    | .pointer p => SOMEA p fun a => cond (((P.info? t).map fun i => i.size == (e.ev v).cells.toList.length).getD false) (ST w a 0 (e.ev v).cells.toList fun w' => K undef w') False
    | _ => False
  | .convert s d x => RUN P (convert s d (e.ev x)) w fun v w' => TYV (vkOf P d) v fun v => K v w'
  | .makeMap _ none => NEW w (.map #[] 0) fun b w' => K (.map (some b)) w'
  | .mapUpdate t m k x => RUN P (Instr.mapUpdate t (e.ev m) (e.ev k) (e.ev x)) w fun _ w' => K undef w'
  | .range t x => RUN P (Instr.range t (e.ev x)) w fun v w' => ∃ p : Option Addr, v = .pointer p ∧ K (.pointer p) w'
  | .next it false => RUN P (Instr.next (e.ev it) false o.type) w fun v w' => ∃ (b : Bool) (r : List Value), v = .tuple ⟨.bool b :: r⟩ ∧ K (.tuple ⟨.bool b :: r⟩) w'
  | .entry it => RUN P (Instr.entry (e.ev it)) w fun v w' => EX1 (xk P rest o.dst 0) fun x => EX1 (xk P rest o.dst 1) fun y => v = .tuple ⟨[x, y]⟩ ∧ K (.tuple ⟨[x, y]⟩) w'
  | .index t x i => RUN P (Instr.index t (e.ev x) (e.ev i)) w fun v w' => TYV (vkOf P o.type) v fun v => K v w'
  | .call c => match c.callee with
    | .value f => match f with
      | .func f => CALL P f (vals e c.args) w fun v w' => TYV (vkOf P o.type) v fun v => K v w'
      | f => CALLV P (e.ev f) (vals e c.args) w fun v w' => TYV (vkOf P o.type) v fun v => K v w'
    | .builtin b => BLW P o b c.argTypes (vals e c.args) w K
    | _ => False
  | .makeInterface t x => RUN P (Instr.makeInterface t (e.ev x)) w K
  | .typeAssert x t u ok => RUN P (Instr.typeAssert (e.ev x) t u ok) w fun v w' => TYV (vkOf P o.type) v fun v => K v w'
  | .makeSlice t l c => RUN P (Instr.makeSlice t (e.ev l) (e.ev c)) w fun v w' => ∃ (A : Option Addr) (n c : Nat), v = .slice A n c ∧ K (.slice A n c) w'
  | .makeChan t s => RUN P (Instr.makeChan t (e.ev s)) w fun v w' => ∃ m : Option Nat, v = .chan m ∧ K (.chan m) w'
  | .sliceToArrayPointer t x => RUN P (Instr.arrayAt t (e.ev x)) w fun v w' => ∃ p : Option Addr, v = .pointer p ∧ K (.pointer p) w'
  | _ => False

/-- 0: pure, 1: a read, 2: what may turn the world -/
def clsOf (P : Program) (e : Env) (o : Oper) : Nat := match o.op with
  | .move _ | .assign _ | .pick _ _ _ | .build _ _ | .nilCheck _ | .unOp _ _ _ | .makeFunc _ _ _ | .slice _ _ _ _ _ | .fieldAddr _ _ _ | .field _ _ _ | .indexAddr _ _ _ | .extract _ _ => 0
  | .binOp _ _ x _ _ => match e.ev x with | .agg _ => 1 | _ => 0
  | .convert s d _ => match P.underlying s, P.underlying d with
    | some (.int _), some (.int _) => 0
    | some .string, some .string => 0
    | _, _ => 2
  | .index t _ _ => match P.underlying t with | some .string => 0 | _ => 2
  | .load _ _ | .lookup _ _ _ _ => 1
  | .call c => match c.callee with
    | .builtin .min | .builtin .max => 0
    | .builtin .len | .builtin .cap => match tyAt P c.argTypes with | some .string | some (.slice _) => 0 | _ => 1
    | _ => 2
  | _ => 2

def OPK (P : Program) (rest : List Oper) (o : Oper) (e : Env) (w : World) (K : Value → World → Prop) : Prop := match clsOf P e o with
  | 0 => OPP P o e fun v => K v w
  | 1 => OPR P o e w fun v _ => K v w
  | _ => OPW P rest o e w K

/-! ## Lists of operations -/
def dstAt (ops : List Oper) (j : Nat) : Option Tmp := match ops[j]? with | some o => o.dst | none => none
def GRDX (ops : List Oper) (o : Oper) (e : Env) (F G : Env → Prop) : Prop := match o.guard with
  | none => F e
  | some (j, want) => match dstAt ops j with
    | none => False
    | some d => match e d with
      | .bool t => SPLIT t (cond want (F (e.upd d (.bool true))) (G (e.upd d (.bool true)))) (cond want (G (e.upd d (.bool false))) (F (e.upd d (.bool false))))
      | .tuple _ => G e
      | _ => False
def vcL (P : Program) (ops : List Oper) : List Oper → Env → World → (Env → World → Prop) → Prop
  | [], e, w, K => K e w
  | o :: r, e, w, K => GRDX ops o e (fun e => OPK P r o e w fun v w' => vcL P ops r (e.put o.dst v) w' K) (fun e => vcL P ops r (e.put o.dst undef) w K)

/-! ## Regions whose order is open -/
def bindsA (ed : Edge) : Bool := match ed.ground with
  | .textOnly _ | .gcOnly _ => false
  | _ => true
def depsDone (o : Oper) (done : List Nat) : Bool := o.after.toList.all fun ed => cond (bindsA ed) (done.any (Nat.beq ed.on)) true
def befL : List Oper → List Nat → List Nat
  | [], acc => acc
  | o :: r, acc => befL r (acc ++ [o.after.toList.foldl (fun s ed => cond (bindsA ed) (s ||| 2 ^ ed.on ||| acc.getD ed.on 0) s) 0])
def apartAll (ops : Array Oper) (B : List Nat) : List Oper → Nat → Bool
  | [], _ => true
  | o :: r, i => (apartOne i o r (i + 1)) && apartAll ops B r (i + 1)
where
  apartOne (i : Nat) (o : Oper) : List Oper → Nat → Bool
    | [], _ => true
    | o' :: r, j => (Nat.testBit (B.getD j 0) i || o.apart ops o') && apartOne i o r (j + 1)
def forwardOk : List Oper → Nat → Bool
  | [], _ => true
  | o :: r, i => (o.after.toList.all fun ed => cond (bindsA ed) (Nat.blt ed.on i) true) && forwardOk r (i + 1)
def isQ (P : Program) (e : Env) (o : Oper) : Bool := match clsOf P e o with | 0 | 1 => true | _ => false
def nextQ (P : Program) : List Oper → Nat → List Nat → Env → Option (Nat × Oper)
  | [], _, _, _ => none
  | o :: r, i, done, e => cond (!(done.any (Nat.beq i)) && depsDone o done && isQ P e o) (some (i, o)) (nextQ P r (i + 1) done e)
def readyW : List Oper → Nat → List Nat → List (Nat × Oper)
  | [], _, _ => []
  | o :: r, i, done => cond (!(done.any (Nat.beq i)) && depsDone o done) ((i, o) :: readyW r (i + 1) done) (readyW r (i + 1) done)
def ALLR : List (Nat × Oper) → (Nat → Oper → Prop) → Prop
  | [], _ => False
  | [x], F => F x.1 x.2
  | x :: y :: l, F => F x.1 x.2 ∧ ALLR (y :: l) F
def WATCH : List (Nat × (World → Prop)) → World → Prop → Prop
  | [], _, X => X
  | (_, p) :: l, w, X => p w ∧ WATCH l w X
def vcD (P : Program) (ops : List Oper) (B : List Nat) : Nat → List Nat → List (Nat × (World → Prop)) → Env → World → (Env → World → Prop) → Prop
  | 0, _, _, e, w, K => K e w
  | f + 1, done, wt, e, w, K => match nextQ P ops 0 done e with
    | some (i, o) => GRDX ops o e
        (fun e => match clsOf P e o with
          | 0 => OPP P o e fun v => vcD P ops B f (i :: done) wt (e.put o.dst v) w K
          | _ => OPR P o e w fun v p => vcD P ops B f (i :: done) ((i, p) :: wt) (e.put o.dst v) w K)
        (fun e => vcD P ops B f (i :: done) wt (e.put o.dst undef) w K)
    | none => ALLR (readyW ops 0 done) fun i o => GRDX ops o e
        (fun e => OPW P [] o e w fun v w' => WATCH (wt.filter fun x => !(Nat.testBit (B.getD i 0) x.1)) w' (vcD P ops B f (i :: done) (wt.filter fun x => !(Nat.testBit (B.getD i 0) x.1)) (e.put o.dst v) w' K))
        (fun e => vcD P ops B f (i :: done) wt (e.put o.dst undef) w K)
def DRAW (w : World) (K : World → Prop) : Prop := K { w with drawn := w.drawn + 1 }
def vcDraw (P : Program) (ops : Array Oper) (e : Env) (w : World) (K : Env → World → Prop) : Prop :=
  cond (forwardOk ops.toList 0 && apartAll ops (befL ops.toList []) ops.toList 0) (DRAW w fun w => vcD P ops.toList (befL ops.toList []) ops.toList.length [] [] e w K) False

/-! ## Code -/
def ikEq : IntKind → IntKind → Bool
  | .i8, .i8 | .i16, .i16 | .i32, .i32 | .i64, .i64 | .u8, .u8 | .u16, .u16 | .u32, .u32 | .u64, .u64 => true
  | _, _ => false
def Fn (k : SK) (R : Type) : Type := match k with
  | .int _ => Int → R
  | .bool => Bool → R
  | .str => ByteArray → R
  | .ptr => Option Addr → R
  | .slice => Option Addr → Nat → Nat → R
  | .map => Option Nat → R
  | .chan => Option Nat → R
  | .raw => Value → R
def Cur : List (Nat × SK) → Type → Type
  | [], R => R
  | x :: l, R => Fn x.2 (Cur l R)
def Fn.app {A R : Type} (k : SK) (f : Fn k A) (v : Value) (c : A → R) (d : R) : R := match k, f, v with
  | .int k, f, .int k' n => cond (ikEq k k') (c (f n)) d
  | .bool, f, .bool b => c (f b)
  | .str, f, .string s => c (f s)
  | .ptr, f, .pointer p => c (f p)
  | .slice, f, .slice A n m => c (f A n m)
  | .map, f, .map m => c (f m)
  | .chan, f, .chan m => c (f m)
  | .raw, f, v => c (f v)
  | _, _, _ => d
def appS {R : Type} : (l : List (Nat × SK)) → Cur l R → Env → R → R
  | [], r, _, _ => r
  | x :: l, f, e, d => Fn.app x.2 f (e x.1) (fun g => appS l g e d) d
def allS : List (Nat × SK) → (Env → Prop) → Env → Prop
  | [], F, e => F e
  | x :: l, F, e => AL1 x.2 fun v => allS l F (e.upd x.1 v)

inductive Ann where
  | leaf
  | one (a : Ann)
  | two (a b : Ann)
  | cut (ch : Nat) (live : List (Nat × SK)) (a b : Ann)
  | loop (ch : Nat) (live : List (Nat × SK)) (a : Ann)

def thenQ (N : Env → World → Prop) (Q : Exit → Env → World → Prop) : Exit → Env → World → Prop
  | .normal, e, w => N e w
  | ex, e, w => Q ex e w
def blockQ (id : Nat) (Q : Exit → Env → World → Prop) : Exit → Env → World → Prop
  | .exit i, e, w => cond (Nat.beq i id) (Q .normal e w) (Q (.exit i) e w)
  | ex, e, w => Q ex e w
def setc (e : Env) (c : Operand) (b : Bool) : Env := match c with
  | .tmp t => e.upd t (.bool b)
  | _ => e
def asg : Code → List Nat
  | .region _ ops _ => ops.toList.filterMap (·.dst)
  | .seq a b => asg a ++ asg b
  | .cond _ a b => asg a ++ asg b
  | .block _ a => asg a
  | .loop a => asg a
  | .scope a => asg a
  | _ => []
def subs (l : List Nat) (m : Nat) : Bool := l.all fun t => inM m t
def allDst (n : Nat) : Code → Bool
  | .region _ ops _ => ops.toList.all fun o => dstOk n o.dst
  | .seq a b => allDst n a && allDst n b
  | .cond _ a b => allDst n a && allDst n b
  | .block _ a => allDst n a
  | .loop a => allDst n a
  | .scope a => allDst n a
  | _ => true
def vc (P : Program) : Code → Ann → (Exit → Env → World → Prop) → Env → World → Prop
  | .skip, _, Q, e, w => Q .normal e w
  | .label _, _, Q, e, w => Q .normal e w
  | .exit id, _, Q, e, w => Q (.exit id) e w
  | .ret, _, Q, e, w => Q .ret e w
  | .region _ ops d, _, Q, e, w => cond d (vcDraw P ops e w fun e w => Q .normal e w) (vcL P ops.toList ops.toList e w fun e w => Q .normal e w)
  | .seq a b, ann, Q, e, w => match ann with
    | .two x y => vc P a x (thenQ (vc P b y Q) Q) e w
    | .cut ch live x y => cond (subs (asg a) ch)
        (∃ I : Cur live (World → Prop), vc P a x (thenQ (fun e w => appS live I e (fun _ => False) w) Q) e w ∧
          ∀ j, allS live (fun e' => ∀ w, appS live I e' (fun _ => False) w → vc P b y Q e' w) (e.havoc ch j)) False
    | _ => vc P a .leaf (thenQ (vc P b .leaf Q) Q) e w
  | .cond c a b, ann, Q, e, w => match e.ev c, ann with
    | .bool t, .two x y => SPLIT t (vc P a x Q (setc e c true) w) (vc P b y Q (setc e c false) w)
    | .bool t, _ => SPLIT t (vc P a .leaf Q (setc e c true) w) (vc P b .leaf Q (setc e c false) w)
    | _, _ => False
  | .block id a, ann, Q, e, w => match ann with
    | .one x => vc P a x (blockQ id Q) e w
    | _ => vc P a .leaf (blockQ id Q) e w
  | .loop a, ann, Q, e, w => match ann with
    | .loop ch live x => cond (subs (asg a) ch)
        (∃ (I : Cur live (World → Prop)) (μ : Cur live (World → Nat)), appS live I e (fun _ => False) w ∧
          ∀ j, allS live (fun e' => ∀ w, appS live I e' (fun _ => False) w →
            vc P a x (thenQ (fun e2 w2 => appS live I e2 (fun _ => False) w2 ∧ appS live μ e2 (fun _ => 0) w2 < appS live μ e' (fun _ => 0) w) Q) e' w) (e.havoc ch j)) False
    | _ => False
  | _, _, _, _, _ => False

def env0 : List Value → Nat → Env
  | [], _ => fun _ => undef
  | v :: l, i => Env.upd (env0 l (i + 1)) i v
def one : List Value → Value
  | [v] => v
  | l => .tuple ⟨l⟩
def RES (P : Program) : List ResultVar → Env → World → List Value → (Value → World → Prop) → Prop
  | [], _, w, acc, R => R (one acc) w
  | .tmp t :: r, e, w, acc, R => RES P r e w (acc ++ [e t]) R
  | .cell a t :: r, e, w, acc, R => match e a with
    | .pointer p => SOMEA p fun ad => LD P t ad w fun v => RES P r e w (acc ++ [v]) R
    | _ => False
def endQ (P : Program) (fn : Func) (R : Value → World → Prop) : Exit → Env → World → Prop
  | .normal, e, w | .ret, e, w => RES P fn.results.toList e w [] R
  | _, _, _ => False
def vcF (P : Program) (fn : Func) (c : Code) (ann : Ann) (args : List Value) (w : World) (R : Value → World → Prop) : Prop :=
  cond (allDst fn.ntmps c && Nat.ble args.length fn.ntmps) (vc P c ann (endQ P fn R) (env0 args 0) w) False

/-! ## The forms are sound -/
def Does (P : Program) (o : Oper) (ρ : Operand → Value) (w : World) (K : Value → World → Prop) : Prop :=
  (∃ v w', (execOp ρ o).run P w = .ok (.value v) w' ∧ K v w') ∨ (∃ w', (execOp ρ o).run P w = .ok .skip w' ∧ K undef w') ∨
  (∃ f args w', (execOp ρ o).run P w = .ok (.enter f args) w' ∧ Calls P f args w' (Ret K)) ∨
  ∃ l fn tmps asn body w', (execOp ρ o).run P w = .ok (.round l fn tmps asn body) w' ∧ ∀ m, RoundIn Fence.wide m P l fn tmps asn body w' (Ret K)

/-- every function, in a round or in none -/
def WF (ro : Option Nat) : Fence := { Fence.wide with round := ro }
theorem WF_none : WF none = Fence.wide := rfl
theorem semAt_run {ro : Option Nat} {ρ : Operand → Value} {o : Oper} {P : Program} {w w' : World} {x : Next} (h : (execOp ρ o).run P w = .ok x w') (hx : ∀ d, x ≠ .defer d) : (o.semAt ro ρ).run P w = .ok x w' := by
  rw [Oper.semAt_eq]
  · exact h
  · intro c hc
    unfold execOp at h
    rw [hc] at h
    simp only [Sem.run_bind] at h
    cases hr : (resolve ρ c o.type).run P w with
    | halt hh w1 => rw [hr] at h; simp [Result.andThen] at h
    | ok d w1 =>
      rw [hr] at h
      simp [Result.andThen] at h
      exact hx d h.1.symm
theorem Does.wp {P : Program} {o : Oper} {a : Act} {w : World} {K : Value → World → Prop} {next : Act → World → Prop} {Q : Exit → Act → World → Prop} {ro : Option Nat} {m : Nat}
    (h : Does P o a.eval w K) (hK : ∀ v w', K v w' → next (a.put o.dst v) w') : o.wpIn (WF ro) m P a w next Q := by
  unfold Oper.wpIn
  refine ⟨fun _ _ => trivial, ?_⟩
  rcases h with ⟨v, w', h, hk⟩ | ⟨w', h, hk⟩ | ⟨f, args, w', h, hk⟩ | ⟨l, fn, tmps, asn, body, w', h, hk⟩
  · rw [semAt_run h (fun d hd => by cases hd)]; exact hK _ _ hk
  · rw [semAt_run h (fun d hd => by cases hd)]; exact hK _ _ hk
  · rw [semAt_run h (fun d hd => by cases hd)]
    refine ⟨(fun hd => by cases hd), (callsIn_wide (n := m - 1)).2 (hk.mono fun e w'' he => ?_)⟩
    cases e with
    | returned v => exact hK _ _ he
    | panicked c => exact he.elim
    | outgrown => exact he.elim
  · rw [semAt_run h (fun d hd => by cases hd)]
    refine ⟨(fun hd => by cases hd), RoundIn.mono (F := Fence.wide) (hk (m - 1)) fun e w'' he => ?_⟩
    cases e with
    | returned v => exact hK _ _ he
    | panicked c => exact he.elim
    | outgrown => exact he.elim

section
variable {P : Program} {o : Oper} {ρ : Operand → Value} {w : World} {K : Value → World → Prop}
theorem Does.val {s : Sem Value} (hs : execOp ρ o = (do pure (Next.value (← s)))) (h : ∃ v w', s.run P w = .ok v w' ∧ K v w') : Does P o ρ w K := by
  obtain ⟨v, w', h, hk⟩ := h
  exact .inl ⟨v, w', by rw [hs]; exact Sem.run_v h, hk⟩
theorem Does.unit {s : Sem Unit} (hs : execOp ρ o = (do s; pure Next.skip)) (h : ∃ v w', s.run P w = .ok v w' ∧ K undef w') : Does P o ρ w K := by
  obtain ⟨v, w', h, hk⟩ := h
  exact .inr (.inl ⟨w', by rw [hs]; exact Sem.run_u h, hk⟩)
theorem Does.now {v : Value} (hs : execOp ρ o = pure (Next.value v)) (h : K v w) : Does P o ρ w K := .inl ⟨v, w, by rw [hs]; rfl, h⟩
end

theorem run_typeInfo {P : Program} {t : TypeId} {i : TypeInfo} (h : P.info? t = some i) (w : World) : (typeInfo t).run P w = .ok i w := by
  simp [typeInfo, program, Sem.run, h, bind, Sem.bind, pure]
theorem run_underlying' {P : Program} {t : TypeId} {d : TypeDesc} (h : P.underlying t = some d) (w : World) : (underlying t).run P w = .ok d w := by
  simp [underlying, program, Sem.run, h, bind, Sem.bind, pure]
theorem run_sizeOf' {P : Program} {t : TypeId} {i : TypeInfo} (h : P.info? t = some i) (w : World) : (sizeOf t).run P w = .ok i.size w := by
  simp [sizeOf, run_typeInfo h]
theorem run_zero' {P : Program} {t : TypeId} {i : TypeInfo} {z : Value} (h : P.info? t = some i) (hz : i.zero = some z) (w : World) : (zeroValue t).run P w = .ok z w := by
  simp [zeroValue, run_typeInfo h, hz]

theorem RD_run (P : Program) (w : World) (a : Addr) : ∀ (l : List Value) (i : Nat) (acc : Array Value), RD w a i l → (loadCellsFrom a i l.length acc).run P w = .ok (acc ++ l.toArray) w
  | [], i, acc, _ => by simp [loadCellsFrom]
  | v :: l, i, acc, h => by
    obtain ⟨h, h2⟩ := h
    have ih := RD_run P w a l (i + 1) (acc.push v) h2
    simp only [List.length_cons, loadCellsFrom, load, bind, Sem.bind, Sem.run, h]
    rw [ih]
    simp
theorem LD_run {P : Program} {t : TypeId} {a : Addr} {w : World} {K : Value → Prop} (h : LD P t a w K) : ∃ v, (loadVar t a).run P w = .ok v w ∧ K v := by
  have agg : ∀ (hagg : (isAgg t).run P w = .ok true w), cond (((P.info? t).map fun i => i.size == (cellKinds P 8 t).length).getD false) (EXS (cellKinds P 8 t) fun l => RD w a 0 l ∧ K (.agg ⟨l⟩)) False → ∃ v, (loadVar t a).run P w = .ok v w ∧ K v := by
    intro hagg h
    cases hi : P.info? t with
    | none => rw [hi] at h; exact h.elim
    | some i =>
      rw [hi] at h
      simp only [Option.map_some, Option.getD_some] at h
      cases hs : i.size == (cellKinds P 8 t).length with
      | false => rw [hs] at h; exact h.elim
      | true =>
        rw [hs] at h
        have key : ∀ (ks : List SK) (F : List Value → Prop), EXS ks F → ∃ cs, cs.length = ks.length ∧ F cs := by
          intro ks
          induction ks with
          | nil => intro F h; exact ⟨[], rfl, h⟩
          | cons k ks ih =>
            intro F h
            obtain ⟨v, h⟩ := EX1.elim h
            obtain ⟨cs, hl, h⟩ := ih _ h
            exact ⟨v :: cs, by simp [hl], h⟩
        obtain ⟨cs, hl, hr, hk⟩ := key _ _ h
        refine ⟨_, ?_, hk⟩
        have hz : i.size = cs.length := by rw [hl]; simpa using hs
        have := RD_run P w a cs 0 #[] hr
        simp only [loadVar, Sem.run_bind, hagg, Result.andThen_ok, if_true, run_sizeOf' hi, loadCells, hz, this]
        simp
  unfold LD at h
  split at h
  · rename_i hu
    exact agg (by simp [isAgg, run_underlying' hu]) h
  · rename_i hu
    exact agg (by simp [isAgg, run_underlying' hu]) h
  · rename_i d h1 h2 hu
    obtain ⟨v, hv, hk⟩ := EX1.elim h
    refine ⟨v, ?_, hk⟩
    have hagg : (isAgg t).run P w = .ok false w := by
      simp only [isAgg, Sem.run_bind, run_underlying' hu, Result.andThen_ok]
      rfl
    simp [loadVar, hagg, load, Sem.run, hv]
  · exact False.elim h

theorem ST_run (P : Program) (a : Addr) : ∀ (l : List Value) (i : Nat) (w : World) (K : World → Prop), ST w a i l K → ∃ u w', (storeCells a l i).run P w = .ok u w' ∧ K w'
  | [], i, w, K, h => ⟨(), w, by simp [storeCells], h⟩
  | v :: l, i, w, K, h => by
    obtain ⟨hv, ⟨u, hu⟩, hf, h⟩ := h
    obtain ⟨r, w', hr, hk⟩ := ST_run P a l (i + 1) _ K h
    refine ⟨r, w', ?_, hk⟩
    cases v with
    | agg _ => cases hv
    | tuple _ => cases hv
    | _ => simp only [storeCells, store, bind, Sem.bind, Sem.run, hu, hf, Bool.false_eq_true, if_false]; exact hr

/-! ### building -/
theorem putL_eq (v : List Value) : ∀ (cs : Array Value) (off k : Nat), ((v.zipIdx k).foldl (fun cs (p : Value × Nat) => cs.setIfInBounds (off + p.2) p.1) cs).toList = putL cs.toList (off + k) v := by
  induction v with
  | nil => intro cs off k; rfl
  | cons x v ih =>
    intro cs off k
    simp only [List.zipIdx_cons, List.foldl_cons, putL]
    rw [ih]
    simp [Nat.add_assoc]
theorem putL_length : ∀ (v cs : List Value) (off : Nat), (putL cs off v).length = cs.length
  | [], _, _ => rfl
  | x :: v, cs, off => by simp [putL, putL_length v]
theorem fillL_eq (pl : Nat → Option (Nat × Nat)) : ∀ (ps : List (Nat × Value)) (cs : Array Value) (r : List Value), fillL pl cs.toList ps = some r → Instr.fill pl cs ps = some r.toArray
  | [], cs, r, h => by
    simp only [fillL, Option.some.injEq] at h
    subst h
    simp [Instr.fill]
  | (i, v) :: ps, cs, r, h => by
    simp only [fillL] at h
    simp only [Instr.fill]
    cases hp : pl i with
    | none => rw [hp] at h; cases h
    | some x =>
      obtain ⟨off, size⟩ := x
      rw [hp] at h
      simp only at h ⊢
      cases hc : (Nat.beq v.cells.toList.length size && Nat.ble (off + size) cs.toList.length) with
      | false => rw [hc] at h; cases h
      | true =>
        rw [hc, cond_true] at h
        simp only [Bool.and_eq_true] at hc
        have h1 : v.cells.size = size := by have := Nat.eq_of_beq_eq_true hc.1; simpa using this
        have h2 : off + size ≤ cs.size := by have := Nat.le_of_ble_eq_true hc.2; simpa using this
        rw [if_neg (by simp [h1]; omega)]
        refine fillL_eq pl ps _ r ?_
        have := putL_eq v.cells.toList cs off 0
        simp only [Nat.add_zero] at this
        rw [← this] at h
        rw [← h, ← Array.foldl_toList, Array.toList_zipIdx]

theorem builtL_eq {P : Program} {t : TypeId} {ps : List (Nat × Value)} {cs : List Value} (h : builtL P t ps = some cs) : P.built t ps = some cs.toArray := by
  unfold builtL at h
  unfold Program.built
  split at h
  · rename_i it e hi hu
    split at h
    · rename_i z ie hz he
      simp only [hi, hu, hz, he]
      exact fillL_eq _ _ _ _ h
    · cases h
  · rename_i it fs hi hu
    split at h
    · rename_i z pl hz hp
      simp only [hi, hu, hz, hp]
      have := fillL_eq _ _ _ _ h
      simpa using this
    · cases h
  · cases h

theorem zeros_eq (zc : List Value) (hz : 0 < zc.length) : ∀ n, (List.range (n * zc.length)).map (fun i => zc[i % zc.length]!) = (List.replicate n zc).flatten
  | 0 => by simp
  | n + 1 => by
    have ih := zeros_eq zc hz n
    rw [Nat.add_mul, Nat.one_mul, List.range_add, List.map_append, ih, List.replicate_succ', List.flatten_append]
    congr 1
    simp only [List.map_map, List.flatten_cons, List.flatten_nil, List.append_nil]
    apply List.ext_getElem (by simp)
    intro i h1 h2
    have hi : i < zc.length := h2
    have hm : (n * zc.length + i) % zc.length = i := by rw [Nat.add_comm, Nat.add_mul_mod_self_right]; exact Nat.mod_eq_of_lt hi
    simp [hm, hi]

section
variable {P : Program} {t : TypeId} {w : World}
theorem bin_eql (x y : Value) (b : Bool) (hx : binOp .eql t x y = (do pure (.bool (← Op.equal t x y)))) (h : (Op.equal t x y).run P w = .ok b w) (xo yo : Operand) (hg : eqGuard .eql t xo yo x y = pure ()) :
    (do eqGuard .eql t xo yo x y; binOp .eql t x y : Sem Value).run P w = .ok (.bool b) w := by
  rw [hg, hx]; simp [h]
theorem bin_neq (x y : Value) (b : Bool) (hx : binOp .neq t x y = (do pure (.bool (!(← Op.equal t x y))))) (h : (Op.equal t x y).run P w = .ok b w) (xo yo : Operand) (hg : eqGuard .neq t xo yo x y = pure ()) :
    (do eqGuard .neq t xo yo x y; binOp .neq t x y : Sem Value).run P w = .ok (.bool (!b)) w := by
  rw [hg, hx]; simp [h]
theorem equal_ptr {u : TypeId} (hu : P.underlying t = some (.pointer u)) (p : Option Addr) : (Op.equal t (.pointer p) (.pointer none)).run P w = .ok p.isNone w := by
  have : ∀ d, (Op.equalIn (d + 1) t (.pointer p) (.pointer none)).run P w = .ok p.isNone w := by
    intro d
    cases p <;> simp [Op.equalIn, run_underlying' hu]
  exact this 9999
theorem equal_slice {u : TypeId} (hu : P.underlying t = some (.slice u)) (p : Option Addr) (n c n' c' : Nat) : (Op.equal t (.slice p n c) (.slice none n' c')).run P w = .ok p.isNone w := by
  have : ∀ d, (Op.equalIn (d + 1) t (.slice p n c) (.slice none n' c')).run P w = .ok p.isNone w := by
    intro d
    cases p <;> simp [Op.equalIn, run_underlying' hu]
  exact this 9999
theorem equal_map {u v : TypeId} (hu : P.underlying t = some (.map u v)) (p : Option Nat) : (Op.equal t (.map p) (.map none)).run P w = .ok p.isNone w := by
  have : ∀ d, (Op.equalIn (d + 1) t (.map p) (.map none)).run P w = .ok p.isNone w := by
    intro d
    cases p <;> simp [Op.equalIn, run_underlying' hu]
  exact this 9999
end

theorem semP_sound {α : Type} (P : Program) : ∀ (s : Sem α) (K : α → Prop), semP P s K → ∃ v, (∀ w, s.run P w = .ok v w) ∧ K v := by
  intro s
  induction s with
  | pure a => intro K h; exact ⟨a, fun _ => rfl, h⟩
  | program k ih => intro K h; exact ih _ K h
  | _ => intro K h; exact False.elim h

theorem BIN_run {P : Program} {op : BinOp} {t : TypeId} {xo yo : Operand} {x y : Value} {K : Value → Prop} (h : BIN P op t xo yo x y K) :
    ∃ v, (∀ w, (do eqGuard op t xo yo x y; binOp op t x y : Sem Value).run P w = .ok v w) ∧ K v := by
  unfold BIN at h
  split at h
  · rename_i k a k' b
    obtain ⟨rfl, hb, h⟩ := h
    exact ⟨_, fun w => by rw [show eqGuard _ t xo yo _ _ = pure () from rfl]; simp [binOp, Op.intDiv, hb], h⟩
  · rename_i k a k' b
    obtain ⟨rfl, hb, h⟩ := h
    exact ⟨_, fun w => by rw [show eqGuard _ t xo yo _ _ = pure () from rfl]; simp [binOp, Op.intDiv, hb], h⟩
  · rename_i k a k' b
    obtain ⟨hb, h⟩ := h
    exact ⟨_, fun w => by rw [show eqGuard _ t xo yo _ _ = pure () from rfl]; simp [binOp, Op.shift, show ¬ b < 0 by omega], h⟩
  · rename_i k a k' b
    obtain ⟨hb, h⟩ := h
    exact ⟨_, fun w => by rw [show eqGuard _ t xo yo _ _ = pure () from rfl]; simp [binOp, Op.shift, show ¬ b < 0 by omega], h⟩
  · rename_i a b
    obtain ⟨hb, h⟩ := h
    refine ⟨_, fun w => ?_, h⟩
    rw [show eqGuard _ t xo yo _ _ = pure () from rfl]
    simp only [pure_bind, binOp, Op.stringOp]
    rw [if_neg (by omega)]
    rfl
  · rename_i p
    split at h
    · rename_i u hu
      exact ⟨_, fun w => bin_eql _ _ _ rfl (equal_ptr hu p) _ _ rfl, h⟩
    · exact False.elim h
  · rename_i p
    split at h
    · rename_i u hu
      exact ⟨_, fun w => bin_neq _ _ _ rfl (equal_ptr hu p) _ _ rfl, h⟩
    · exact False.elim h
  · rename_i p _ _ _ _
    split at h
    · rename_i u hu
      exact ⟨_, fun w => bin_eql _ _ _ rfl (equal_slice hu p _ _ _ _) _ _ rfl, h⟩
    · exact False.elim h
  · rename_i p _ _ _ _
    split at h
    · rename_i u hu
      exact ⟨_, fun w => bin_neq _ _ _ rfl (equal_slice hu p _ _ _ _) _ _ rfl, h⟩
    · exact False.elim h
  · rename_i p
    split at h
    · rename_i u u2 hu
      exact ⟨_, fun w => bin_eql _ _ _ rfl (equal_map hu p) _ _ rfl, h⟩
    · exact False.elim h
  · rename_i p
    split at h
    · rename_i u u2 hu
      exact ⟨_, fun w => bin_neq _ _ _ rfl (equal_map hu p) _ _ rfl, h⟩
    · exact False.elim h
  · exact semP_sound P _ K h

theorem SOMEA.elim {p : Option Addr} {F : Addr → Prop} (h : SOMEA p F) : ∃ a, p = some a ∧ F a := by
  cases p with
  | none => exact False.elim h
  | some a => exact ⟨a, rfl, h⟩
theorem SOMEL.elim {p : Option (List Value)} {F : List Value → Prop} (h : SOMEL p F) : ∃ a, p = some a ∧ F a := by
  cases p with
  | none => exact False.elim h
  | some a => exact ⟨a, rfl, h⟩
theorem GETV.elim {l : List Value} {i : Nat} {F : Value → Prop} (h : GETV l i F) : ∃ a, l[i]? = some a ∧ F a := by
  unfold GETV at h
  split at h
  · exact ⟨_, by assumption, h⟩
  · exact False.elim h

theorem vals_eq (e : Env) (l : Array Operand) : l.map e.ev = ⟨vals e l⟩ := by
  apply Array.ext'
  simp [vals]

theorem BLP_run {P : Program} {o : Oper} {b : Builtin} {ts : Array TypeId} {args : List Value} {K : Value → Prop} {cs : Array Bool} (h : BLP P o b ts args K) :
    ∃ v, (∀ w, (builtin b ts o.type cs ⟨args⟩).run P w = .ok (.value v) w) ∧ K v := by
  have fromv : ∀ (s : Sem Value), (builtin b ts o.type cs ⟨args⟩ = do pure (Next.value (← s))) → (∃ v, (∀ w, s.run P w = .ok v w) ∧ K v) → ∃ v, (∀ w, (builtin b ts o.type cs ⟨args⟩).run P w = .ok (.value v) w) ∧ K v := by
    intro s hs ⟨v, hr, hk⟩
    exact ⟨v, fun w => by rw [hs]; exact Sem.run_v (hr w), hk⟩
  have tyat : ∀ d, tyAt P ts = some d → ∃ t, ts[0]? = some t ∧ P.underlying t = some d := by
    intro d hd
    obtain ⟨l⟩ := ts
    cases l with
    | nil => cases hd
    | cons t l => exact ⟨t, rfl, hd⟩
  unfold BLP at h
  split at h
  · split at h
    · rename_i s hd
      obtain ⟨t, h0, hu⟩ := tyat _ hd
      exact fromv _ rfl ⟨_, fun w => by simp [Builtin.len_, h0, run_underlying' hu, goInt], h⟩
    · exact False.elim h
  · split at h
    · rename_i s hd
      obtain ⟨t, h0, hu⟩ := tyat _ hd
      exact fromv _ rfl ⟨_, fun w => by simp [Builtin.len_, h0, run_underlying' hu, goInt], h⟩
    · exact False.elim h
  · exact fromv _ rfl (semP_sound P _ K h)
  · exact fromv _ rfl (semP_sound P _ K h)
  · split at h
    · rename_i s hd
      obtain ⟨t, h0, hu⟩ := tyat _ hd
      exact fromv _ rfl ⟨_, fun w => by simp [Builtin.cap_, h0, run_underlying' hu, goInt], h⟩
    · exact False.elim h
  · exact False.elim h
theorem BLW_run {P : Program} {o : Oper} {b : Builtin} {ts : Array TypeId} {args : List Value} {w : World} {K : Value → World → Prop} {cs : Array Bool} (h : BLW P o b ts args w K) :
    ∃ v w', (builtin b ts o.type cs ⟨args⟩).run P w = .ok (.value v) w' ∧ K v w' := by
  have fromv : ∀ (s : Sem Value), (builtin b ts o.type cs ⟨args⟩ = do pure (Next.value (← s))) → (∃ v w', s.run P w = .ok v w' ∧ K v w') → ∃ v w', (builtin b ts o.type cs ⟨args⟩).run P w = .ok (.value v) w' ∧ K v w' := by
    intro s hs ⟨v, w', hr, hk⟩
    exact ⟨v, w', by rw [hs]; exact Sem.run_v hr, hk⟩
  unfold BLW at h
  split at h
  · obtain ⟨v, w', hr, A, n, c, rfl, hk⟩ := h
    exact fromv _ rfl ⟨_, _, hr, hk⟩
  · obtain ⟨v, w', hr, n, rfl, hk⟩ := h
    exact fromv _ rfl ⟨_, _, hr, hk⟩
  · exact fromv _ rfl h
  · exact fromv _ rfl h
  · obtain ⟨v, w', hr, p, rfl, hk⟩ := h
    exact fromv _ rfl ⟨_, _, hr, hk⟩
  · obtain ⟨v, w', hr, p, rfl, hk⟩ := h
    exact fromv _ rfl ⟨_, _, hr, hk⟩
  · exact False.elim h

theorem buildSlice_run {P : Program} {w : World} {t el : TypeId} {n : Nat} {ps : Array (Nat × Value)} {x : TypeInfo} {z : Value} {cs : List Value} (hu : P.underlying t = some (.slice el)) (hx : P.info? el = some x) (hz : x.zero = some z)
    (hc : (Nat.ble (n * x.size) 16777216 && Nat.beq z.cells.toList.length x.size) = true) (hf : fillL (fun i => some (i * x.size, x.size)) (List.replicate n z.cells.toList).flatten ps.toList = some cs) :
    (Instr.buildSlice t n ps).run P w = .ok (.slice (some ⟨w.heap.size, 0, none⟩) n n) { w with heap := w.heap.push (.cells ⟨cs⟩ el) } := by
  simp only [Bool.and_eq_true] at hc
  have h1 : n * x.size ≤ 16777216 := Nat.le_of_ble_eq_true hc.1
  have h2 : z.cells.size = x.size := by have := Nat.eq_of_beq_eq_true hc.2; simpa using this
  have h3 : ¬ (n * x.size > 2 ^ 24) := by
    rw [show (2 : Nat) ^ 24 = 16777216 from by decide]
    exact Nat.not_lt.2 h1
  simp only [Instr.buildSlice, Sem.run_bind, run_underlying' hu, Result.andThen_ok, run_sizeOf' hx]
  rw [if_neg h3]
  by_cases h0 : n * x.size = 0
  · have hnil : (List.replicate n z.cells.toList).flatten = [] := by
      apply List.eq_nil_of_length_eq_zero
      simp [h2, h0]
    rw [hnil] at hf
    have h4 := fillL_eq _ _ #[] _ hf
    rw [if_pos h0]
    simp only [Sem.run_bind, Sem.run_pure, Result.andThen_ok]
    have h5 : (Array.range (n * x.size)).map (fun i => (#[] : Array Value)[i % (#[] : Array Value).size]!) = #[] := by rw [h0]; simp
    rw [h5, h4]
    rfl
  · have hpos : 0 < z.cells.toList.length := by
      have : 0 < x.size := Nat.pos_of_ne_zero (fun hz0 => h0 (by simp [hz0]))
      simpa [h2] using this
    have hzs : ((Array.range (n * x.size)).map (fun i => z.cells[i % z.cells.size]!)).toList = (List.replicate n z.cells.toList).flatten := by
      rw [← zeros_eq z.cells.toList hpos n]
      simp [h2]
      intro a _
      cases hh : z.cells[a % x.size]? <;> simp [hh, getElem!_def]
    rw [← hzs] at hf
    have h4 := fillL_eq _ _ _ _ hf
    rw [if_neg h0]
    simp only [Sem.run_bind, run_zero' hx hz, Sem.run_pure, Result.andThen_ok]
    rw [h4]
    rfl


theorem bound_run {P : Program} {x : Value} {upper : Nat} {K : Nat → Prop} (code : BoundsCode) (h : BND (some x) upper 0 K) : ∃ n, (∀ w, (Instr.sliceBound x upper code).run P w = .ok n w) ∧ K n := by
  unfold BND at h
  split at h
  · rename_i hh; cases hh
  · rename_i k i hh
    cases hh
    obtain ⟨h1, h2⟩ := h
    exact ⟨_, fun w => by simp [Instr.sliceBound, asIntOf, h1], h2⟩
  · exact False.elim h
theorem BND_some {x : Value} {upper d d' : Nat} {K : Nat → Prop} (h : BND (some x) upper d K) : BND (some x) upper d' K := by
  unfold BND at h ⊢
  split at h
  · rename_i hh; cases hh
  · exact h
  · exact False.elim h

theorem bounds_run {P : Program} (sl : Bool) {len cap : Nat} {lo hi : Option Value} {R : Nat → Nat → Prop} (h : BND hi cap len fun h => BND lo h 0 fun l => R l h) :
    ∃ l h, (∀ w, (Instr.sliceBounds sl len cap lo hi none).run P w = .ok (l, h, cap) w) ∧ R l h := by
  cases hi with
  | none =>
    cases lo with
    | none => exact ⟨0, len, fun w => by simp [Instr.sliceBounds], h⟩
    | some l =>
      have h' : BND (some l) len 0 fun l => R l len := h
      obtain ⟨n, hn, hk⟩ := bound_run (P := P) .sliceB h'
      exact ⟨n, len, fun w => by simp [Instr.sliceBounds, hn], hk⟩
  | some hv =>
    obtain ⟨m, hm, h⟩ := bound_run (P := P) (if sl then .sliceAcap else .sliceAlen) (BND_some (d' := 0) h)
    cases lo with
    | none => exact ⟨0, m, fun w => by simp [Instr.sliceBounds, hm], h⟩
    | some l =>
      obtain ⟨n, hn, hk⟩ := bound_run (P := P) .sliceB (BND_some (d' := 0) h)
      exact ⟨n, m, fun w => by simp [Instr.sliceBounds, hm, hn], hk⟩

theorem slice_str_run {P : Program} {t : TypeId} {s : ByteArray} {lo hi : Option Value} {R : Nat → Nat → Prop} (hu : P.underlying t = some .string) (h : BND hi s.size s.size fun h => BND lo h 0 fun l => R l h) :
    ∃ l h, (∀ w, (Instr.sliceAt t (.string s) lo hi none).run P w = .ok (.string (s.extract l h)) w) ∧ R l h := by
  obtain ⟨l, m, hr, hk⟩ := bounds_run (P := P) false h
  exact ⟨l, m, fun w => by simp [Instr.sliceAt, run_underlying' hu, Instr.slice, hr], hk⟩
theorem slice_sl_run {P : Program} {t el : TypeId} {A : Option Addr} {n c : Nat} {i : TypeInfo} {lo hi : Option Value} {R : Nat → Nat → Prop} (hu : P.underlying t = some (.slice el)) (hi' : P.info? el = some i)
    (h : BND hi c n fun h => BND lo h 0 fun l => R l h) :
    ∃ l h, (∀ w, (Instr.sliceAt t (.slice A n c) lo hi none).run P w = .ok (.slice (SLA A c l i.size) (h - l) (c - l)) w) ∧ R l h := by
  obtain ⟨l, m, hr, hk⟩ := bounds_run (P := P) true h
  exact ⟨l, m, fun w => by simp [Instr.sliceAt, run_underlying' hu, Instr.slice, hr, run_sizeOf' hi', SLA], hk⟩
theorem slice_arr_run {P : Program} {t el n : TypeId} {a : Addr} {i : TypeInfo} {lo hi : Option Value} {R : Nat → Nat → Prop} (hu : P.underlying t = some (.array n el)) (hi' : P.info? el = some i)
    (h : BND hi n n fun h => BND lo h 0 fun l => R l h) :
    ∃ l h, (∀ w, (Instr.sliceAt t (.pointer (some a)) lo hi none).run P w = .ok (.slice (SLA (some a) n l i.size) (h - l) (n - l)) w) ∧ R l h := by
  obtain ⟨l, m, hr, hk⟩ := bounds_run (P := P) false h
  refine ⟨l, m, fun w => ?_, hk⟩
  simp only [Instr.sliceAt, Sem.run_bind, run_underlying' hu, Result.andThen_ok, Instr.sureAddr, Sem.run_pure, hr, run_sizeOf' hi', SLA]
  by_cases hnl : n = l <;> simp [hnl]
theorem slice3_run {P : Program} {t el : TypeId} {A : Option Addr} {n c : Nat} {i : TypeInfo} {lo : Option Value} {hi mx : Value} {R : Nat → Nat → Nat → Prop} (hu : P.underlying t = some (.slice el)) (hi' : P.info? el = some i)
    (h : BND (some mx) c 0 fun m => BND (some hi) m 0 fun h => BND lo h 0 fun l => R l h m) :
    ∃ l h m, (∀ w, (Instr.sliceAt t (.slice A n c) lo (some hi) (some mx)).run P w = .ok (.slice (SLA A m l i.size) (h - l) (m - l)) w) ∧ R l h m := by
  obtain ⟨m, hm, h⟩ := bound_run (P := P) .slice3Acap h
  obtain ⟨h', hh, h⟩ := bound_run (P := P) .slice3B h
  cases lo with
  | none => exact ⟨0, h', m, fun w => by simp [Instr.sliceAt, run_underlying' hu, Instr.slice, Instr.sliceBounds, hm, hh, run_sizeOf' hi', SLA], h⟩
  | some l =>
    obtain ⟨l', hl, h⟩ := bound_run (P := P) .slice3C h
    exact ⟨l', h', m, fun w => by simp [Instr.sliceAt, run_underlying' hu, Instr.slice, Instr.sliceBounds, hm, hh, hl, run_sizeOf' hi', SLA], h⟩

theorem convert_int_run {P : Program} {w : World} {s d : TypeId} {k k' : IntKind} {n : Int} (hu : P.underlying d = some (.int k)) (hs : (P.underlying s).isSome = true) : (convert s d (.int k' n)).run P w = .ok (.int k (k.wrap n)) w := by
  obtain ⟨x, hx⟩ := Option.isSome_iff_exists.1 hs
  simp only [convert, Sem.run_bind, run_underlying' hx, run_underlying' hu, Result.andThen_ok]
  cases x <;> rfl
theorem convert_str_run {P : Program} {w : World} {s d : TypeId} {n : ByteArray} (hu : P.underlying d = some .string) (hs : (P.underlying s).isSome = true) : (convert s d (.string n)).run P w = .ok (.string n) w := by
  obtain ⟨x, hx⟩ := Option.isSome_iff_exists.1 hs
  simp only [convert, Sem.run_bind, run_underlying' hx, run_underlying' hu, Result.andThen_ok]
  cases x <;> rfl
theorem index_str_run {P : Program} {w : World} {t : TypeId} {s : ByteArray} {k : IntKind} {i : Int} (hu : P.underlying t = some .string) (h0 : 0 ≤ i) (h1 : i < (s.size : Int)) :
    (Instr.index t (.string s) (.int k i)).run P w = .ok (.int .u8 (bt s i)) w := by
  have hlt : i.toNat < s.size := by omega
  have h2 : s[i.toNat]? = some s[i.toNat] := by rw [getElem?_pos]
  simp only [Instr.index, Sem.run_bind, asIntOf, Sem.run_pure, Result.andThen_ok, run_underlying' hu]
  rw [if_pos h0, h2]
  simp only [Sem.run_pure, bt]
  have h3 : i.toNat < s.data.toList.length := hlt
  congr 2
  rw [List.getD_eq_getElem?_getD, List.getElem?_eq_getElem h3]
  rfl
theorem part_agg_run {P : Program} {w : World} {t : TypeId} {cs : Array Value} {off : Nat} {i : TypeInfo} (hi : P.info? t = some i) (ha : (isAgg t).run P w = .ok true w) : (part t cs off).run P w = .ok (.agg ⟨(cs.toList.drop off).take i.size⟩) w := by
  simp only [part, Sem.run_bind, ha, Result.andThen_ok, if_true, run_sizeOf' hi, Sem.run_pure]
  congr 2
  apply Array.ext'
  simp [Array.toList_extract, List.extract]
theorem part_one_run {P : Program} {w : World} {t : TypeId} {cs : Array Value} {off : Nat} {v : Value} (hv : cs.toList[off]? = some v) (ha : (isAgg t).run P w = .ok false w) : (part t cs off).run P w = .ok v w := by
  have hv' : cs[off]? = some v := by simpa using hv
  simp [part, ha, hv']

end Go.SW
