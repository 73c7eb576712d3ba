/- The mail store in plain words: texts are lists of bytes; names, boxes and mails are lists, rising. -/
import Derived.Lib.ItoaNum
namespace Go.SW.Pl

abbrev Str := List UInt8

/-! ## words of a text -/
def lowB (b : UInt8) : UInt8 := if 65 ≤ b && b ≤ 90 then b + 32 else b
def letB (b : UInt8) : Bool := (97 ≤ b && b ≤ 122) || (48 ≤ b && b ≤ 57)
/-- the rows of letters in a text, in its order -/
def runs : Str → Str → List Str
  | [], cur => if cur.isEmpty then [] else [cur.take 16]
  | b :: t, cur => if letB (lowB b) then runs t (cur ++ [lowB b]) else (if cur.isEmpty then [] else [cur.take 16]) ++ runs t []
/-- put in its place, once -/
def putW (w : Str) : List Str → List Str
  | [] => [w]
  | x :: l => if x < w then x :: putW w l else if x = w then x :: l else w :: x :: l
def sortW (l : List Str) : List Str := l.foldl (fun a w => putW w a) []
def ofW (t : Str) : List Str := (sortW (runs t [])).take 64
def checkW (w : Str) : Bool := w.all letB && !w.isEmpty && decide (w.length ≤ 16)
def hasW (t : Str) (l : List Str) : Bool := l.all fun w => (ofW t).contains w
def cleanW (l : List Str) : Option (List Str) := if l.isEmpty || decide (8 < l.length) || l.any (fun w => !checkW w) then none else some (sortW l)

/-! ## names -/
structure Nm where
  l : List (Str × Int)
  next : Int
  deriving DecidableEq, Repr
def mayB (b : UInt8) : Bool := (97 ≤ b && b ≤ 122) || (65 ≤ b && b ≤ 90) || (48 ≤ b && b ≤ 57) || b == 46 || b == 95 || b == 45 || b == 47
/-- two slashes in a row? -/
def twice : Str → Bool
  | 47 :: 47 :: _ => true
  | _ :: t => twice t
  | [] => false
def checkN (s : Str) : Bool := s.all mayB && !s.isEmpty && decide (s.length ≤ 32) && !(s.head? == some 47) && !(s.getLast? == some 47) && !twice s
def putN (p : Str × Int) : List (Str × Int) → List (Str × Int)
  | [] => [p]
  | q :: l => if q.1 < p.1 then q :: putN p l else p :: q :: l
def ofN (n : Nm) (s : Str) : Option Int := (n.l.find? fun p => p.1 = s).map (·.2)
def delN (l : List (Str × Int)) (s : Str) : List (Str × Int) := l.filter fun p => p.1 ≠ s
def Nm.new : Nm := ⟨[], 1⟩
def createN (n : Nm) (s : Str) : Nm × Int × Int :=
  if !checkN s then (n, 0, 4) else if (ofN n s).isSome then (n, 0, 6) else if 16 ≤ n.l.length then (n, 0, 8)
  else (⟨putN (s, n.next) n.l, n.next + 1⟩, n.next, 0)
def deleteN (n : Nm) (s : Str) : Nm × Int × Int := match ofN n s with
  | none => (n, 0, 5)
  | some id => (⟨delN n.l s, n.next⟩, id, 0)
def renameN (n : Nm) (s t : Str) : Nm × Int × Int := match ofN n s with
  | none => (n, 0, 5)
  | some id => if !checkN t then (n, 0, 4) else if (ofN n t).isSome then (n, 0, 6) else (⟨putN (t, id) (delN n.l s), n.next⟩, id, 0)

/-! ## a mailbox -/
structure Ety where
  uid : Int
  flags : Int
  mail : Int
  deriving DecidableEq, Repr
structure Bx where
  validity : Int
  next : Int
  l : List Ety
  deriving DecidableEq, Repr
def Bx.new (id : Int) : Bx := ⟨max 1 (min id 1099511627776), 1, []⟩
def Ety.none : Ety := ⟨0, 0, 0⟩
def flagOk (f : Int) : Bool := decide (0 ≤ f) && decide (f ≤ 31)
def addB (b : Bx) (mail f : Int) : Bx × Ety × Int :=
  if !(decide (1 ≤ mail) && decide (mail ≤ 1099511627776) && flagOk f) then (b, .none, 4) else if 256 ≤ b.l.length then (b, .none, 8)
  else (⟨b.validity, b.next + 1, b.l ++ [⟨b.next, f, mail⟩]⟩, ⟨b.next, f, mail⟩, 0)
def findB (b : Bx) (uid : Int) : Option Ety := b.l.find? fun e => e.uid = uid
def getB (b : Bx) (uid : Int) : Ety × Int := match findB b uid with
  | none => (.none, 7)
  | some e => (e, 0)
/-- f &^ off | on, of numbers below 32 -/
def mix (f on off : Int) : Int := (((f.toNat &&& (31 ^^^ off.toNat)) ||| on.toNat : Nat) : Int)
/-- the first with that uid is another one -/
def setL (uid : Int) (e : Ety) : List Ety → List Ety
  | [] => []
  | x :: l => if x.uid = uid then e :: l else x :: setL uid e l
def setB (b : Bx) (uid on off : Int) : Bx × Ety × Int := match findB b uid with
  | none => (b, .none, 7)
  | some e => if !(flagOk on && flagOk off) then (b, .none, 4) else
    (⟨b.validity, b.next, setL uid { e with flags := mix e.flags on off } b.l⟩, { e with flags := mix e.flags on off }, 0)
def removeB (b : Bx) (uid : Int) : Bx × Ety × Int := match findB b uid with
  | none => (b, .none, 7)
  | some e => (⟨b.validity, b.next, b.l.filter fun x => x ≠ e⟩, e, 0)
def del8 (e : Ety) : Bool := e.flags.toNat / 8 % 2 == 1
def expungeB (b : Bx) : Bx × List Ety := (⟨b.validity, b.next, b.l.filter fun e => !del8 e⟩, b.l.filter del8)
def unseenB (b : Bx) : Nat := (b.l.filter fun e => e.flags.toNat % 2 == 0).length

/-! ## the store -/
structure Md where
  n : Nm
  b : List Bx
  mails : List (Int × Str)
  next : Int
  deriving DecidableEq, Repr
structure Op where
  kind : Int
  box : Str
  to : Str
  text : Str
  uid : Int
  flags : Int
  off : Int
  words : List Str
  deriving DecidableEq, Repr
structure Hit where
  box : Str
  uid : Int
  flags : Int
  deriving DecidableEq, Repr
structure Ans where
  err : Int
  n : Int
  text : Str
  names : List Str
  hits : List Hit
  deriving DecidableEq, Repr
def no (e : Int) : Ans := ⟨e, 0, [], [], []⟩
def Md.new : Md := ⟨.new, [], [], 1⟩
def boxOf (m : Md) (id : Int) : Option Bx := m.b.find? fun b => b.validity = id
def find (m : Md) (s : Str) : Option Bx := match ofN m.n s with
  | none => none
  | some id => boxOf m id
def mailOf (m : Md) (id : Int) : Option Str := (m.mails.find? fun p => p.1 = id).map (·.2)
/-- the box of this validity is another one -/
def setBox (m : Md) (c : Bx) : Md := { m with b := m.b.map fun x => if x.validity = c.validity then c else x }
def used (m : Md) (id : Int) : Bool := m.b.any fun b => b.l.any fun e => e.mail == id
def sweep (m : Md) : Md := { m with mails := m.mails.filter fun p => used m p.1 }
def dec (n : Int) : Str := Go.Lib.decDigits n.toNat
def status (b : Bx) : Ans := ⟨0, b.l.length, dec b.validity ++ [32] ++ dec b.next ++ [32] ++ dec (unseenB b), [], []⟩
def hitsOf (m : Md) (o : Op) (l : List Str) (s : Str) : List Hit := match find m s with
  | none => []
  | some b => (b.l.filter fun e => (e.flags.toNat &&& o.flags.toNat == o.flags.toNat) && hasW ((mailOf m e.mail).getD []) l).map fun e => ⟨s, e.uid, e.flags⟩
def search (m : Md) (o : Op) : Ans := match cleanW o.words with
  | none => no 4
  | some l => if !flagOk o.flags then no 4 else if !o.box.isEmpty && (find m o.box).isNone then no 5
    else
      let hits := (m.n.l.filter fun p => o.box.isEmpty || p.1 == o.box).flatMap fun p => hitsOf m o l p.1
      ⟨0, hits.length, [], [], hits⟩
def named (m : Md) (o : Op) : Md × Ans :=
  if o.kind = 1 then
    let r := createN m.n o.box
    if r.2.2 ≠ 0 then ({ m with n := r.1 }, no r.2.2) else ({ m with n := r.1, b := m.b ++ [.new r.2.1] }, ⟨0, r.2.1, [], [], []⟩)
  else if o.kind = 2 then
    let r := deleteN m.n o.box
    if r.2.2 ≠ 0 then ({ m with n := r.1 }, no r.2.2) else (sweep { m with n := r.1, b := m.b.filter fun b => b.validity ≠ r.2.1 }, ⟨0, r.2.1, [], [], []⟩)
  else
    let r := renameN m.n o.box o.to
    if r.2.2 ≠ 0 then ({ m with n := r.1 }, no r.2.2) else ({ m with n := r.1 }, ⟨0, r.2.1, [], [], []⟩)
def append (m : Md) (b : Bx) (o : Op) : Md × Ans :=
  if 4096 < o.text.length then (m, no 3) else
  let r := addB b m.next o.flags
  if r.2.2 ≠ 0 then (m, no r.2.2) else ({ setBox m r.1 with mails := m.mails ++ [(m.next, o.text)], next := m.next + 1 }, ⟨0, r.2.1.uid, [], [], []⟩)
def copy (m : Md) (b : Bx) (o : Op) : Md × Ans := match find m o.to with
  | none => (m, no 5)
  | some to => match findB b o.uid with
    | none => (m, no 7)
    | some e =>
      let r := addB to e.mail e.flags
      if r.2.2 ≠ 0 then (m, no r.2.2) else
      let m1 := setBox m r.1
      (if o.kind = 9 then match boxOf m1 b.validity with
        | some b1 => setBox m1 (removeB b1 o.uid).1
        | none => m1
      else m1, ⟨0, r.2.1.uid, [], [], []⟩)
def fetch (m : Md) (b : Bx) (o : Op) : Ans := match findB b o.uid with
  | none => no 7
  | some e => ⟨0, e.flags, (mailOf m e.mail).getD [], [], []⟩
def expunge (m : Md) (b : Bx) (s : Str) : Md × Ans :=
  let r := expungeB b
  (sweep (setBox m r.1), ⟨0, r.2.length, [], [], r.2.map fun e => ⟨s, e.uid, e.flags⟩⟩)
def within (m : Md) (o : Op) : Md × Ans := match find m o.box with
  | none => (m, no 5)
  | some b =>
    if o.kind = 5 then (m, status b)
    else if o.kind = 6 then append m b o
    else if o.kind = 7 then (m, fetch m b o)
    else if o.kind = 8 ∨ o.kind = 9 then copy m b o
    else if o.kind = 10 then
      let r := setB b o.uid o.flags o.off
      (if r.2.2 ≠ 0 then m else setBox m r.1, ⟨r.2.2, r.2.1.flags, [], [], []⟩)
    else expunge m b o.box
def act (m : Md) (o : Op) : Md × Ans :=
  if o.kind = 1 ∨ o.kind = 2 ∨ o.kind = 3 then named m o
  else if o.kind = 4 then (m, ⟨0, 0, [], m.n.l.map (·.1), []⟩)
  else if o.kind = 12 then (m, search m o)
  else if o.kind = 13 then (m, ⟨0, 0, [], [], []⟩)
  else if 5 ≤ o.kind ∧ o.kind ≤ 11 then within m o
  else (m, no 4)
def acts (m : Md) : List Op → Md
  | [] => m
  | o :: l => acts (act m o).1 l

/-! a try -/
def opA : Op := ⟨1, [97], [], [], 0, 0, 0, []⟩
def opB : Op := ⟨6, [97], [], [116, 119, 111, 32, 99, 97, 116, 115], 0, 0, 0, []⟩
def opC : Op := ⟨12, [], [], [], 0, 0, 0, [[99, 97, 116, 115]]⟩
example : (act (acts .new [opA, opB]) opC).2.hits = [⟨[97], 1, 0⟩] := by decide +kernel
end Go.SW.Pl
