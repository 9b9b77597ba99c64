/- The abstract interpreter 'Ab': values as trees, objects, operations, code, calls. Definitions alone. -/
import Derived.Test.YtkiliokeanmagaaDoorAbG
namespace Go.Proofs.YtkiliokeanmagaaDoor.Ab
open Go
set_option linter.unusedVariables false
set_option linter.unusedSimpArgs false

instance : Inhabited V := ⟨.c (.tuple #[])⟩

def V.cells : V → List V
  | .agg cs => cs
  | v => [v]
def flats (us : List V) : List V := us.flatMap V.cells

/-- Objects: not there; cells that are written; a row that grows (how many elements, of how many cells); a row that grows and is written. -/
inductive O where
  | dead
  | cells (cs : List V)
  | tok (n z : Nat)
  | tokc (n z : Nat) (cs : List V)
  /-- A map; a loop over a function: 0 ready, 1 in a round, 2 over, else left by a jump. -/
  | mapo (ks : List Value) (vs : List V)
  | loop (s : Nat)
  /-- Not there, and for anybody to take; not there, and rather one that is for anybody. -/
  | free
  | want

structure St where
  tm : List V
  h : List O
  base : Nat
  rb : Nat

def V.vw1 : V → V
  | .sl us _ => .sl us .any
  | v => v
def V.vw2 : V → V
  | .agg cs => .agg (cs.map V.vw1)
  | v => v.vw1
/-- As vw2, but a slice that is full stays known as such. -/
def V.vwf : V → V
  | .sl us .full => .sl us .full
  | v => v.vw2
def V.vw : V → V
  | .tup vs => .tup (vs.map V.vw2)
  | v => v.vw2

def SI.low (n : Nat) : SI → Bool
  | .tok k => decide (k < n)
  | _ => true
mutual
def V.low (n : Nat) : V → Bool
  | .c _ => true
  | .agg cs => V.lows n cs
  | .tup vs => V.lows n vs
  | .sl us i => V.lows n us && i.low n
  | .ptr cs _ => V.lows n cs
  | .ref id _ => decide (id < n)
  | .clo _ caps => V.lows n caps
  | .row id _ m _ => decide (id < n) || m == 0
  | .buf id _ => decide (id < n)
  | .tsl k _ _ => decide (k < n)
  | .tref k _ _ => decide (k < n)
  | .top => true
  | .fmp _ vs => V.lows n vs
  | .mref id => decide (id < n)
  | .yld k _ _ caps => decide (k < n) && V.lows n caps
def V.lows (n : Nat) : List V → Bool
  | [] => true
  | v :: vs => V.low n v && V.lows n vs
end

/-- A constant as a value. -/
def toV1 : Value → V
  | .slice none 0 0 => .sl [] .nil
  | v => .c v
def toV : Value → V
  | .agg cs => .agg (cs.toList.map toV1)
  | v => toV1 v
def undefV : V := .c (.tuple #[])

def O.low (n : Nat) : O → Bool
  | .cells cs => V.lows n cs
  | .tokc _ _ cs => V.lows n cs
  | .mapo _ vs => V.lows n vs
  | _ => true

/-- The same, with other names for the objects. -/
def SI.shift (k : Nat) : SI → SI
  | .tok t => .tok (t + k)
  | i => i
mutual
def V.shift (k : Nat) : V → V
  | .c x => .c x
  | .agg cs => .agg (V.shifts k cs)
  | .tup cs => .tup (V.shifts k cs)
  | .sl us i => .sl (V.shifts k us) (i.shift k)
  | .ptr cs o => .ptr (V.shifts k cs) o
  | .ref id o => .ref (id + k) o
  | .clo f cs => .clo f (V.shifts k cs)
  | .row id off n z => .row (id + k) off n z
  | .buf id n => .buf (id + k) n
  | .tsl t n z => .tsl (t + k) n z
  | .tref t n o => .tref (t + k) n o
  | .top => .top
  | .fmp ks vs => .fmp ks (V.shifts k vs)
  | .mref id => .mref (id + k)
  | .yld l y m caps => .yld (l + k) y m (V.shifts k caps)
def V.shifts (k : Nat) : List V → List V
  | [] => []
  | v :: vs => V.shift k v :: V.shifts k vs
end
def O.shift (k : Nat) : O → O
  | .cells cs => .cells (V.shifts k cs)
  | .tokc n z cs => .tokc n z (V.shifts k cs)
  | .mapo ks vs => .mapo ks (V.shifts k vs)
  | o => o

inductive A where
  | t (i : Nat)
  | k (v : V)

inductive XOp where
  | mv (x : A)
  | pick (c a b : A)
  | alloc (al : Nat) (zero : List V)
  | box (al : Nat) (x : A)
  | build (zero : List V) (parts : List (Nat × Nat × A))
  | bslice (al : Nat) (z : Nat) (parts : List A)
  | load (n : Option Nat) (x : A)
  | store (n : Nat) (a x : A)
  | bin (op : BinOp) (q : Nat) (x y : A)
  | un (op : UnOp) (x : A)
  | fieldAddr (off : Nat) (x : A)
  | field (off : Nat) (n : Option Nat) (x : A)
  | indexAddr (z : Nat) (x i : A)
  | index (x i : A)
  | slice (str : Bool) (z : Nat) (x : A) (lo hi mx : Option A)
  | extract (x : A) (i : Nat)
  | len (str : Bool) (x : A)
  | append (al : Nat) (z : Option Nat) (bytes : Nat) (rw : Bool) (x y : A)
  | mm (isMax : Bool) (args : List A)
  | conv (k : IntKind) (x : A)
  | call (f : A) (args : List A)
  | clos (f : Nat) (caps : List A)
  | nilchk (x : A)
  | makeMap (al : Nat)
  | lookup (zero : V) (ok : Bool) (x k : A)
  | mapUpd (m k v : A)
  /-- A load from an object of one cell. -/
  | load1 (x : A)

structure XOper where
  d : Option Nat
  op : XOp
  g : Option (Nat × Bool) := none

/-- Code: a region's operations, how its new objects begin, whether its order is drawn. -/
inductive XC where
  | skip
  | reg (ops : List XOper) (pre : List O) (drawn : Bool)
  | regw (ops : List XOper) (pre : List O)
  | seq (a b : XC)
  | cond (c : A) (a b : XC)
  | block (id : Nat) (body : XC)
  | loop (body : XC)
  | exit (id : Nat)
  | ret
  /-- A range over a function: the function; the round's number; how many arguments; how many temporaries, and which the round looks at. -/
  | rangeF (f : A) (y m nt : Nat) (us : List Nat)

inductive XR where
  | t (i : Nat)
  | cell (i : Nat) (n : Option Nat)

structure XF where
  ntm : Nat
  body : XC
  res : List XR
  pure : Bool
  esc : Bool
  rw : Bool
  /-- Of a round: where the arguments go, and the assignment. -/
  asg : Option (List Nat × XC) := none

inductive Ex where
  | normal
  | exit (id : Nat)
  | ret

abbrev CallF := Nat → List V → List O → Option (V × List O)

def ev (tm : List V) : A → V
  | .t i => tm.getD i undefV
  | .k v => v

/-- May it lie in memory, cell by cell? -/
def okc : V → Bool
  | .c x => x.oneCell'
  | .tup _ => false
  | .top => false
  | _ => true

/-- The first element has so many cells (all have as many). -/
def hz (z : Nat) : List V → Bool
  | [] => true
  | u :: _ => u.cells.length == z

def splice (cs : List V) (o : Nat) (xs : List V) : List V := cs.take o ++ (xs ++ cs.drop (o + xs.length))

/-- Is a slice nil? -/
def nilB : SI → List V → Option Bool
  | .nil, _ => some true
  | .isn, _ => some true
  | .nz, _ => some false
  | _, u :: _ => if u.cells.length = 0 then none else some false
  | _, [] => none

def binI (op : BinOp) (k : IntKind) (a b : Int) : Option V :=
  match op with
  | .add => some (.c (.int k (k.wrap (a + b))))
  | .sub => some (.c (.int k (k.wrap (a - b))))
  | .mul => some (.c (.int k (k.wrap (a * b))))
  | .quo => if b = 0 then none else some (.c (.int k (k.wrap (a.tdiv b))))
  | .rem => if b = 0 then none else some (.c (.int k (a.tmod b)))
  | .eql => some (.c (.bool (a == b)))
  | .neq => some (.c (.bool (a != b)))
  | .lss => some (.c (.bool (a < b)))
  | .leq => some (.c (.bool (a ≤ b)))
  | .gtr => some (.c (.bool (a > b)))
  | .geq => some (.c (.bool (a ≥ b)))
  | _ => none
def binS (op : BinOp) (a b : ByteArray) : Option V :=
  match op with
  | .eql => some (.c (.bool (a.toList == b.toList)))
  | .neq => some (.c (.bool !(a.toList == b.toList)))
  | .lss => some (.c (.bool (Op.bytesLess a.toList b.toList)))
  | .leq => some (.c (.bool (Op.bytesLess a.toList b.toList || a.toList == b.toList)))
  | .gtr => some (.c (.bool !(Op.bytesLess a.toList b.toList || a.toList == b.toList)))
  | .geq => some (.c (.bool !(Op.bytesLess a.toList b.toList)))
  | .add => if a.size + b.size ≤ 9223372036854775807 then some (.c (.string (a ++ b))) else none
  | _ => none
/-- q: what the operands' type is: 0 an integer or a string; 1 a bool; 2 a slice; 3 a pointer. -/
def binV (op : BinOp) (q : Nat) (x y : V) : Option V :=
  match q, x, y with
  | 0, .c (.int k a), .c (.int k' b) => if k = k' then binI op k a b else none
  | 0, .c (.string a), .c (.string b) => binS op a b
  | 1, .c (.bool a), .c (.bool b) =>
    match op with
    | .eql => some (.c (.bool (a == b)))
    | .neq => some (.c (.bool !(a == b)))
    | _ => none
  | 2, .sl us i, .sl [] .nil =>
    match op with
    | .eql => (nilB i us).map fun b => .c (.bool b)
    | .neq => (nilB i us).map fun b => .c (.bool !b)
    | _ => none
  | 2, .row _ _ (_ + 1) _, .sl [] .nil =>
    match op with
    | .eql => some (.c (.bool false))
    | .neq => some (.c (.bool true))
    | _ => none
  | 3, .c (.pointer none), .c (.pointer none) =>
    match op with
    | .eql => some (.c (.bool true))
    | .neq => some (.c (.bool false))
    | _ => none
  | 3, .ref _ _, .c (.pointer none) =>
    match op with
    | .eql => some (.c (.bool false))
    | .neq => some (.c (.bool true))
    | _ => none
  | 3, .ptr _ _, .c (.pointer none) =>
    match op with
    | .eql => some (.c (.bool false))
    | .neq => some (.c (.bool true))
    | _ => none
  | _, _, _ => none

/-- Cells read as a value: an aggregate of n cells, or the one cell. -/
def rdV (cs : List V) (o : Nat) : Option Nat → Option V
  | some n => if o + n ≤ cs.length then some (.agg ((cs.drop o).take n)) else none
  | none => cs[o]?

def zc : Option Nat → Nat
  | none => 1
  | some k => k
/-- Cells as elements. -/
def elems (z : Option Nat) : Nat → List V → Option (List V)
  | 0, _ => some []
  | n + 1, cs => match rdV cs 0 z, elems z n (cs.drop (zc z)) with
    | some u, some us => some (u :: us)
    | _, _ => none
def mapO (f : V → Option V) : List V → Option (List V)
  | [] => some []
  | v :: vs => match f v, mapO f vs with
    | some u, some us => some (u :: us)
    | _, _ => none
mutual
/-- A value as it is now: rows from 'lo' on are read, and what they know of their room is forgotten. -/
def snapV (lo : Nat) (f : V → Option V) (h : List O) : V → Option V
  | .c x => some (.c x)
  | .agg cs => (snapL lo f h cs).map .agg
  | .tup cs => (snapL lo f h cs).map .tup
  | .sl us _ => (snapL lo f h us).map (.sl · .any)
  | .ptr cs o => (snapL lo f h cs).map (.ptr · o)
  | .ref id o => if id < lo then some (.ref id o) else none
  | .clo g cs => (snapL lo f h cs).map (.clo g)
  | .row id off n z => if id < lo then some (.row id off n z) else match h[id]? with
    | some (.cells cs) => match elems z n (cs.drop off) with
      | some us => (mapO f us).map (.sl · .any)
      | none => none
    | _ => none
  | .buf id n => if id < lo then some (.buf id n) else none
  | .tsl k n z => if k < lo then some (.tsl k n z) else match h[k]? with
    | some (.tokc n' z' cs) => if n' = n ∧ z' = zc z then match elems z n cs with
      | some us => (mapO f us).map (.sl · .any)
      | none => none
      else none
    | _ => none
  | .tref k n o => if k < lo then some (.tref k n o) else none
  | .top => some .top
  | .fmp ks vs => (snapL lo f h vs).map (.fmp ks)
  | .mref id => if id < lo then some (.mref id) else none
  | .yld k y m caps => if k < lo then (snapL lo f h caps).map (.yld k y m) else none
def snapL (lo : Nat) (f : V → Option V) (h : List O) : List V → Option (List V)
  | [] => some []
  | v :: vs => match snapV lo f h v, snapL lo f h vs with
    | some u, some us => some (u :: us)
    | _, _ => none
end
def snap (lo : Nat) (h : List O) : Nat → V → Option V
  | 0, _ => none
  | k + 1, v => snapV lo (snap lo h k) h v
mutual
/-- Nothing in it lies in memory. -/
def V.flat : V → Bool
  | .c _ => true
  | .agg cs => V.flatl cs
  | .tup cs => V.flatl cs
  | _ => false
def V.flatl : List V → Bool
  | [] => true
  | v :: vs => V.flat v && V.flatl vs
end

def fillV (zero : List V) (tm : List V) : List (Nat × Nat × A) → Option (List V)
  | [] => some zero
  | (off, size, x) :: r =>
    let v := (ev tm x).vwf
    if okc v = true ∧ v.cells.length = size ∧ off + size ≤ zero.length then fillV (splice zero off v.cells) tm r else none

def mmStep (isMax : Bool) : Option V → V → Option V
  | some (.c (.int k a)), .c (.int _ b) => some (.c (.int k (if isMax then (if b > a then b else a) else (if b < a then b else a))))
  | _, _ => none
def mmV (isMax : Bool) : List V → Option V
  | [] => none
  | v :: vs => vs.foldl (mmStep isMax) (some v)

def idx : V → Option Int
  | .c (.int _ n) => some n
  | _ => none
def optIdx (tm : List V) (d : Int) : Option A → Option Int
  | none => some d
  | some x => idx (ev tm x)

def stV (tm : List V) (s : ByteArray) (lo hi mx : Option A) : Option V :=
  match mx, optIdx tm 0 lo, optIdx tm s.size hi with
  | none, some l, some h => if 0 ≤ l ∧ l ≤ h ∧ h ≤ s.size then some (.c (.string (s.extract l.toNat h.toNat))) else none
  | _, _, _ => none
def rowV (tm : List V) (id off n : Nat) (zz : Option Nat) (z : Nat) (lo hi mx : Option A) : Option V :=
  if zc zz = z then
    match optIdx tm 0 lo, optIdx tm n hi, mx with
    | some l, some h, none => if 0 ≤ l ∧ l ≤ h ∧ h ≤ n then some (.row id (off + l.toNat * z) (h.toNat - l.toNat) zz) else none
    | some l, some h, some m => match idx (ev tm m) with
      | some m => if hi.isSome ∧ 0 ≤ l ∧ l = h ∧ h = m ∧ m ≤ n then some (.sl [] .full) else none
      | none => none
    | _, _, _ => none
  else none
def slV (tm : List V) (us : List V) (z : Nat) (lo hi mx : Option A) : Option V :=
  match optIdx tm 0 lo, optIdx tm us.length hi, mx with
  | some l, some h, none => if 0 ≤ l ∧ l ≤ h ∧ h ≤ us.length ∧ hz z us = true then some (.sl ((us.take h.toNat).drop l.toNat) .any) else none
  | some l, some h, some m => match idx (ev tm m) with
    | some m => if hi.isSome ∧ 0 ≤ l ∧ l ≤ h ∧ h = m ∧ m ≤ us.length ∧ hz z us = true then some (.sl ((us.take h.toNat).drop l.toNat) .full) else none
    | none => none
  | _, _, _ => none

/-- Operations that leave the objects alone and do not look at them. -/
def pureV (tm : List V) (rb : Nat) : XOp → Option V
  | .mv x => some (ev tm x)
  | .pick c a b => match ev tm c with
    | .c (.bool t) => some (if t then ev tm a else ev tm b)
    | _ => none
  | .build zero parts => (fillV zero tm parts).map .agg
  | .bin op q x y => binV op q (ev tm x) (ev tm y)
  | .un op x => match op, ev tm x with
    | .not, .c (.bool b) => some (.c (.bool !b))
    | .neg, .c (.int k n) => some (.c (.int k (k.wrap (0 - n))))
    | _, _ => none
  | .fieldAddr off x => match ev tm x with
    | .ref id o => some (.ref id (o + off))
    | .ptr cs o => some (.ptr cs (o + off))
    | _ => none
  | .field off n x => match ev tm x with
    | .agg cs => rdV cs off n
    | _ => none
  | .indexAddr z x i => match ev tm x, idx (ev tm i) with
    | .sl us _, some n => if 0 ≤ n ∧ n < us.length then match us[n.toNat]? with
        | some u => if u.cells.length = z then some (.ptr u.cells 0) else none
        | none => none
      else none
    | .row id off n zz, some k => if 0 ≤ k ∧ k < n ∧ zc zz = z then some (.ref id (off + k.toNat * z)) else none
    | .tsl t n zz, some k => if 0 ≤ k ∧ k < n ∧ zc zz = z then some (.tref t n (k.toNat * z)) else none
    | _, _ => none
  | .index x i => match ev tm x, idx (ev tm i) with
    | .c (.string s), some n => if 0 ≤ n then (s[n.toNat]?).map fun b => .c (.int .u8 b.toNat) else none
    | _, _ => none
  | .slice str z x lo hi mx => match str, ev tm x with
    | true, .c (.string s) => stV tm s lo hi mx
    | false, .sl us _ => slV tm us z lo hi mx
    | false, .row id off n zz => rowV tm id off n zz z lo hi mx
    | _, _ => none
  | .extract x i => match ev tm x with
    | .tup vs => vs[i]?
    | _ => none
  | .len str x => match str, ev tm x with
    | false, .sl us _ => some (.c (.int .i64 us.length))
    | false, .row _ _ n _ => some (.c (.int .i64 n))
    | false, .tsl _ n _ => some (.c (.int .i64 n))
    | true, .c (.string s) => some (.c (.int .i64 s.size))
    | _, _ => none
  | .mm isMax args => mmV isMax (args.map (ev tm))
  | .conv k x => match ev tm x with
    | .c (.int _ n) => some (.c (.int k (k.wrap n)))
    | _ => none
  | .clos f caps => some (.clo f (caps.map (ev tm)))
  | .nilchk x => match ev tm x with
    | .ref id o => some (.ref id o)
    | .ptr cs o => some (.ptr cs o)
    | .clo f caps => some (.clo f caps)
    | .c (.func (.func f) a b) => some (.c (.func (.func f) a b))
    | _ => none
  | .alloc al _ => some (.ref (rb + al) 0)
  | .bslice al z parts =>
    let us := parts.map fun x => (ev tm x).vw2
    if us.all (fun u => okc u && u.cells.length == z) then some (.sl us .full) else none
  | _ => none

/-- The element at a key (which is a string). -/
def mlook : List Value → List V → ByteArray → Option (Option V)
  | .string s' :: ks, v :: vs, s => if s = s' then some (some v) else mlook ks vs s
  | [], [], _ => some none
  | _, _, _ => none
/-- With another element at a key. -/
def mput : List Value → List V → ByteArray → V → Option (List Value × List V)
  | .string s' :: ks, v :: vs, s, u => if s = s' then some (.string s :: ks, u :: vs) else (mput ks vs s u).map fun r => (.string s' :: r.1, v :: r.2)
  | [], [], s, u => some ([.string s], [u])
  | _, _, _, _ => none
def mres (zero : V) (ok : Bool) : Option V → V
  | some v => if ok then .tup [v, .c (.bool true)] else v
  | none => if ok then .tup [zero, .c (.bool false)] else zero
/-- From here on numbers are those of rounds. -/
abbrev rid : Nat := 1000000

def callee : V → Option (Nat × List V)
  | .c (.func (.func f) a b) => if a.size = 0 ∧ b.size = 0 then some (f, []) else none
  | .clo f caps => some (f, caps)
  | _ => none

/-- A call that keeps the objects there are. -/
def longer (h : List O) : Option (V × List O) → Option (V × List O)
  | some (r, h') => if h.length ≤ h'.length then some (r, h') else none
  | none => none
def callFn (cf : CallF) (fv : V) (vs : List V) (h : List O) : Option (V × List O) :=
  match callee fv with
  | some (f, caps) => if f < rid then longer h (cf f (vs ++ caps) h) else none
  | none => none
def callV (cf : CallF) (fv : V) (vs : List V) (h : List O) : Option (V × List O) :=
  match fv with
  | .yld k y m caps => if rid ≤ y ∧ vs.length = m then longer h (cf y (.c (.int .i64 k) :: (vs ++ caps)) h) else none
  | fv => callFn cf fv vs h
theorem callV_fn {cf : CallF} {fv : V} {vs : List V} {h : List O} {f : Nat} {caps : List V} (hc : callee fv = some (f, caps)) : callV cf fv vs h = if f < rid then longer h (cf f (vs ++ caps) h) else none := by
  cases fv <;> first | (simp only [callV, callFn, hc]; done) | (simp [callee] at hc; done)
theorem callV_c {cf : CallF} {q : Nat} {vs : List V} {h : List O} (hq : q < rid) : callV cf (.c (.func (.func q) #[] #[])) vs h = longer h (cf q vs h) := by
  rw [callV_fn (f := q) (caps := []) (by simp [callee]), if_pos hq, List.append_nil]
theorem callV_f {cf : CallF} {fv : V} {vs : List V} {h : List O} {f : Nat} {caps : List V} (hc : callee fv = some (f, caps)) (hq : f < rid) : callV cf fv vs h = longer h (cf f (vs ++ caps) h) := by
  rw [callV_fn hc, if_pos hq]
theorem longer_of {h h' : List O} {r : V} (hl : h.length ≤ h'.length) : longer h (some (r, h')) = some (r, h') := by simp [longer, hl]
theorem longer_some {h : List O} {o : Option (V × List O)} {r : V} {h' : List O} (e : longer h o = some (r, h')) : o = some (r, h') ∧ h.length ≤ h'.length := by
  unfold longer at e
  split at e
  · split at e
    · simp only [Option.some.injEq, Prod.mk.injEq] at e
      obtain ⟨rfl, rfl⟩ := e
      exact ⟨rfl, ‹_›⟩
    · cases e
  · cases e

/-- The elements that are appended. -/
def srcV (h : List O) : V → Option (List V)
  | .sl ws _ => some ws
  | .row id off n z => match h[id]? with
    | some (.cells cs) => elems z n (cs.drop off)
    | _ => none
  | _ => none

/-- The first object before b that is for anybody; d if there is none. -/
def isFree : Option O → Bool
  | some .free => true
  | _ => false
def freeSlot (h : List O) (b d : Nat) : Nat := ((List.range b).find? fun i => isFree h[i]?).getD d
/-- One operation: its value, and the objects behind it. -/
def act (cf : CallF) (st : St) (op : XOp) : Option (V × List O) :=
  match op with
  | .load n x => match ev st.tm x with
    | .ref id o => match st.h[id]? with
      | some (.cells cs) => (rdV cs o n).map (·, st.h)
      | _ => none
    | .ptr cs o => (rdV cs o n).map (·, st.h)
    | _ => none
  | .store n a x =>
    let v := ev st.tm x
    match ev st.tm a with
    | .ref id o => match st.h[id]? with
      | some (.cells cs) => if okc v = true ∧ v.cells.length = n ∧ o + n ≤ cs.length then some (undefV, st.h.set id (.cells (splice cs o v.cells))) else none
      | _ => none
    | .tref k m o => match st.h[k]? with
      | some (.tokc m' z cs) => if m' = m ∧ okc v = true ∧ v.cells.length = n ∧ o + n ≤ cs.length then some (undefV, st.h.set k (.tokc m z (splice cs o v.cells))) else none
      | _ => none
    | _ => none
  | .box al x =>
    let v := ev st.tm x
    match st.h[st.rb + al]? with
    | some .dead => if okc v = true then some (.ref (st.rb + al) 0, st.h.set (st.rb + al) (.cells v.cells)) else none
    | _ => none
  | .append al z bytes rw x y => match ev st.tm x, srcV st.h (ev st.tm y) with
    | .sl us i, some ws => if (us.length + ws.length) * bytes ≤ 140737488355328 ∧ us.length + ws.length ≤ 140737488355328 ∧ hz (zc z) us = true ∧ hz (zc z) ws = true then
        match ws with
        | [] => some (.sl us i, st.h)
        | _ :: _ => match i with
          | .nil | .full => match st.h[st.rb + al]? with
            | some .dead => if rw then match us with
                | [] => some (.row (st.rb + al) 0 (us.length + ws.length) z, st.h.set (st.rb + al) (.cells (flats (us ++ ws))))
                | _ :: _ => some (.tsl (st.rb + al) (us.length + ws.length) z, st.h.set (st.rb + al) (.tokc (us.length + ws.length) (zc z) (flats (us ++ ws))))
              else some (.sl (us ++ ws) (.tok (st.rb + al)), st.h.set (st.rb + al) (.tok (us.length + ws.length) (zc z)))
            | some .want => if rw then none else some (.sl (us ++ ws) (.tok (freeSlot st.h st.base (st.rb + al))), st.h.set (freeSlot st.h st.base (st.rb + al)) (.tok (us.length + ws.length) (zc z)))
            | _ => none
          | .tok k => match st.h[k]? with
            | some (.tok n z') => if n = us.length ∧ z' = zc z then some (.sl (us ++ ws) (.tok k), st.h.set k (.tok (us.length + ws.length) (zc z))) else none
            | _ => none
          | .any => none
          | .isn => none
          | .nz => none
      else none
    | .tsl k n zz, some ws => if rw = true ∧ zz = z ∧ (n + ws.length) * bytes ≤ 140737488355328 ∧ n + ws.length ≤ 140737488355328 ∧ hz (zc z) ws = true then
        match ws with
        | [] => some (.tsl k n zz, st.h)
        | _ :: _ => match st.h[k]? with
          | some (.tokc m zz' cs) => if m = n ∧ zz' = zc z then some (.tsl k (n + ws.length) z, st.h.set k (.tokc (n + ws.length) (zc z) (cs ++ flats ws))) else none
          | _ => none
      else none
    | _, _ => none
  | .makeMap al => match st.h[st.rb + al]? with
    | some .dead => some (.mref (st.rb + al), st.h.set (st.rb + al) (.mapo [] []))
    | _ => none
  | .lookup zero ok x k => match ev st.tm x, ev st.tm k with
    | .fmp ks vs, .c (.string s) => (mlook ks vs s).map fun r => (mres zero ok r, st.h)
    | .mref id, .c (.string s) => match st.h[id]? with
      | some (.mapo ks vs) => (mlook ks vs s).map fun r => (mres zero ok r, st.h)
      | _ => none
    | _, _ => none
  | .load1 x => match ev st.tm x with
    | .ref id 0 => match st.h[id]? with
      | some (.cells [c]) => some (c, st.h)
      | _ => none
    | _ => none
  | .mapUpd m k v => match ev st.tm m, ev st.tm k with
    | .mref id, .c (.string s) => match st.h[id]? with
      | some (.mapo ks vs) => (mput ks vs s (ev st.tm v)).map fun r => (undefV, st.h.set id (.mapo r.1 r.2))
      | _ => none
    | _, _ => none
  | .call f args => callV cf (ev st.tm f) (args.map (ev st.tm)) st.h
  | op => (pureV st.tm st.rb op).map (·, st.h)

def wants (tm : List V) : Option (Nat × Bool) → Bool
  | none => true
  | some (t, b) => match tm[t]? with
    | some (.c (.bool x)) => x == b
    | _ => false

def known (tm : List V) : Option (Nat × Bool) → Bool
  | none => true
  | some (t, _) => match tm[t]? with
    | some .top => false
    | _ => true

def putV (tm : List V) (d : Option Nat) (v : V) : List V :=
  match d with
  | some d => tm.set d v
  | none => tm

def stepO (cf : CallF) (o : XOper) (st : St) : Option St :=
  if known st.tm o.g then
    if wants st.tm o.g then
      match act cf st o.op with
      | some (v, h) => some { st with tm := putV st.tm o.d v, h := h }
      | none => none
    else some { st with tm := putV st.tm o.d undefV }
  else none

def runOps (cf : CallF) : List XOper → St → Option St
  | [], st => some st
  | o :: r, st => match stepO cf o st with
    | some st => runOps cf r st
    | none => none

/-- Calls that know of the first m objects alone. -/
def frameCf (m : Nat) (cf : CallF) : CallF := fun f args H =>
  if f < rid ∧ m ≤ H.length ∧ V.lows m args = true ∧ (H.take m).all (O.low m) = true then
    match cf f args (H.take m) with
    | some (r, h1) => if h1.length = m then some (r, h1 ++ H.drop m) else none
    | none => none
  else none

/-- Does it read the frame's own objects alone? -/
def ownB (st : St) : XOp → Bool
  | .load _ x => match ev st.tm x with
    | .ref id _ => decide (st.base ≤ id)
    | _ => true
  | _ => true
/-- A step that keeps the frame's own objects apart from what calls see. -/
def stepW (cf : CallF) (o : XOper) (st : St) : Option St := if ownB st o.op then stepO (frameCf st.base cf) o st else none
def runW (cf : CallF) : List XOper → St → Option St
  | [], st => some st
  | o :: r, st => match stepW cf o st with
    | some st => runW cf r st
    | none => none

def keepV (nt : Nat) (us : List Nat) (tm : List V) : List V := (List.range nt).map fun i => if us.contains i then tm.getD i undefV else .top
def iter (f : St → Option (Ex × St)) : Nat → St → Option (Ex × St)
  | 0, _ => none
  | n + 1, st => match f st with
    | some (.normal, st) => iter f n st
    | r => r

/-- How a round was left, as a number. -/
def Ex.num : Ex → Nat
  | .normal => 0
  | .ret => 3
  | .exit id => id + 4
def Ex.ofNum : Nat → Option Ex
  | 0 => some .normal
  | 1 => none
  | 2 => none
  | 3 => some .ret
  | n + 4 => some (.exit n)

def exec (cf : CallF) (n : Nat) : XC → St → Option (Ex × St)
  | .skip, st => some (.normal, st)
  | .reg ops pre _, st => (runOps cf ops { st with h := st.h ++ pre, rb := st.h.length }).map (.normal, ·)
  | .regw ops pre, st => (runW cf ops { st with h := st.h ++ pre, rb := st.h.length }).map (.normal, ·)
  | .seq a b, st => match exec cf n a st with
    | some (.normal, st) => exec cf n b st
    | r => r
  | .cond c a b, st => match ev st.tm c with
    | .c (.bool t) => if t then exec cf n a st else exec cf n b st
    | _ => none
  | .block id c, st => match exec cf n c st with
    | some (.exit id', st) => if id' = id then some (.normal, st) else some (.exit id', st)
    | r => r
  | .loop c, st => iter (exec cf n c) n st
  | .exit id, st => some (.exit id, st)
  | .ret, st => some (.ret, st)
  | .rangeF f y m nt us, st => match callee (ev st.tm f) with
    | some (g, lb) => if g < rid ∧ rid ≤ y ∧ st.tm.length = nt then match cf g (.yld st.h.length y m (keepV nt us st.tm) :: lb) (st.h ++ [.loop 0]) with
      | some (_, h') => match h'[st.h.length]? with
        | some (.loop s) => (Ex.ofNum s).map fun e => (e, { st with h := h'.set st.h.length (.loop 2) })
        | _ => none
      | none => none
      else none
    | none => none

def resV (st : St) : XR → Option V
  | .t i => st.tm[i]?
  | .cell i n => match st.tm[i]? with
    | some (.ref id o) => match st.h[id]? with
      | some (.cells cs) => rdV cs o n
      | _ => none
    | _ => none
def resAll (st : St) : List XR → Option (List V)
  | [] => some []
  | r :: rs => match resV st r, resAll st rs with
    | some v, some vs => some (v :: vs)
    | _, _ => none
def resOf : List V → V
  | [v] => v
  | vs => .tup vs

/-- What a call gives: as it is, with all objects; or without the call's own objects, its rows read. -/
def fin (esc : Bool) (n : Nat) (res : List XR) : Option (Ex × St) → Option (V × List O)
  | some (.exit _, _) => none
  | some (_, st) => match resAll st res with
    | some vs =>
      if esc then some ((resOf vs).vw, st.h) else
      if (resOf vs).vw.low st.base then if (st.h.take st.base).all (O.low st.base) then some ((resOf vs).vw, st.h.take st.base) else none
      else match snap st.base st.h n (resOf vs).vw with
        | some r => if r.low st.base && (st.h.take st.base).all (O.low st.base) then some (r, st.h.take st.base) else none
        | none => none
    | none => none
  | none => none

def start (xf : XF) (args : List V) (h : List O) : St := { tm := args ++ List.replicate (xf.ntm - args.length) undefV, h, base := h.length, rb := 0 }

/-- Functions that are not walked but known by what they do. -/
abbrev Ext := Nat → Option (Nat → CallF → List V → List O → Option (V × List O))

/-- Objects for anybody, that a function which gives its objects away has ahead. -/
@[irreducible] def frees : List O := List.replicate 4096 .free
def pre0 (xf : XF) : List O := if xf.rw then frees else []
def runF (cf : CallF) (n : Nat) (xf : XF) (args : List V) (h : List O) : Option (V × List O) :=
  if xf.pure then
    if V.lows 0 (args.map V.vw2) then
      if xf.esc then (fin true n xf.res (exec cf n xf.body (start xf (args.map V.vw2) (pre0 xf)))).map fun r => (r.1.shift h.length, h ++ r.2.map (O.shift h.length))
      else (fin false n xf.res (exec cf n xf.body (start xf (args.map V.vw2) []))).map fun r => (r.1, h)
    else if xf.esc then none
    else match mapO (snap 0 h n) (args.map V.vw2) with
      | some bs => if V.lows 0 bs then match fin false n xf.res (exec cf n xf.body (start xf bs [])) with
          | some (r, _) => if r.flat then some (r, h) else none
          | none => none
        else none
      | none => none
  else fin xf.esc n xf.res (exec cf n xf.body (start xf (args.map V.vw2) h))

/-- The arguments at their places. -/
def putAll : List Nat → List V → List V → Option (List V)
  | [], [], tm => some tm
  | p :: ps, v :: vs, tm => putAll ps vs (tm.set p v)
  | _, _, _ => none
/-- A round: the assignment, then the body. -/
def runRound (cf : CallF) (n : Nat) (ps : List Nat) (asg body : XC) (k : Nat) (vs caps : List V) (h : List O) : Option (V × List O) :=
  match putAll ps vs caps with
  | some tm => match exec cf n asg { tm := tm, h := h, base := h.length, rb := 0 } with
    | some (.normal, st1) => match st1.h[k]? with
      | some (.loop 0) => match exec cf n body { st1 with h := st1.h.set k (.loop 1) } with
        | some (e, st2) => match st2.h[k]? with
          | some (.loop 1) =>
            let h3 := (st2.h.set k (.loop e.num)).take h.length
            if h3.all (O.low h.length) then some (.c (.bool (e.num == 0)), h3) else none
          | _ => none
        | none => none
      | _ => none
    | _ => none
  | none => none

def call (X : Nat → Option XF) (E : Ext) : Nat → CallF
  | 0 => fun _ _ _ => none
  | n + 1 => fun f args h =>
    match E f with
    | some e => e n (call X E n) args h
    | none => match X f with
      | none => none
      | some xf => match xf.asg with
        | some (ps, asg) => match args with
          | .c (.int _ k) :: rs => if k.toNat < h.length then runRound (call X E n) n ps asg xf.body k.toNat (rs.take ps.length) (rs.drop ps.length) h else none
          | _ => none
        | none => runF (call X E n) n xf args h
end Go.Proofs.YtkiliokeanmagaaDoor.Ab
