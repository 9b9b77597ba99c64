/- A part. -/
import Derived.WalkKit
import Derived.Test.YtjhffhmokcogkaaGreatDoorProg
import Derived.WideKeyRuns
import Derived.MapKept
import Derived.Laws.StructEq
set_option linter.unusedVariables false
set_option linter.unusedSimpArgs false
set_option linter.defProp false
set_option maxRecDepth 20000
set_option maxHeartbeats 8000000
namespace Go.Proofs.YtjhffhmokcogkaaGreatDoor.Ab
open Go
def sI := @Option.some.injEq
def pI := @Prod.mk.injEq
def gS := @List.getElem?_eq_some_iff
def mS := @Option.map_eq_some_iff
def aL := @List.getElem?_append_left
def aR := @List.getElem?_append_right
def gE := @List.getElem?_eq_getElem
def bT := @Bool.and_eq_true
def lA := @List.length_append
def sN := @List.getElem?_set_ne
def sS := @List.getElem?_set_self
def nL := @Nat.le_refl
def dC := @List.drop_eq_getElem_cons
def bS := @Option.bind_eq_some_iff
def lC := @List.length_cons
def dT := @decide_eq_true_eq
def cI := @List.cons.injEq
inductive SI where
 | any | nil | full | tok (k:Nat)
 | isn | nz
inductive V where
 | c (x:Value)
 | agg (cs:List V)
 | tup (vs:List V)
 | sl (us:List V) (i:SI)
 | ptr (cs:List V) (o:Nat)
 | ref (id o:Nat)
 | clo (f:Nat) (caps:List V)
 | row (id off n:Nat) (z:Option Nat)
 | buf (id n:Nat)
 | tsl (k n:Nat) (z:Option Nat)
 | tref (k n o:Nat)
 | top
 /-- A map that nobody writes;a map;the loop body that a function is ranged over with. -/
 | fmp (ks:List Value) (vs:List V)
 | mref (id:Nat)
 | yld (k y m:Nat) (caps:List V)
 /-- A method bound to a pointer. -/
 | bnd (f id o:Nat)
def gvs:Nat→Option V
 | 0=>some (.ptr [.sl [.c (.string ⟨#[110,97,109,101]⟩),.c (.string ⟨#[108,105,102,116]⟩),.c (.string ⟨#[115,105,102]⟩),.c (.string ⟨#[100,105,102]⟩),.c (.string ⟨#[115,108,101,116]⟩),.c (.string ⟨#[100,108,101,116]⟩),.c (.string ⟨#[100,112,114,105,109]⟩),.c (.string ⟨#[100,99,97,108,108]⟩)] .any] 0)
 | 1=>some (.ptr [.fmp [.string ⟨#[99,97,108,108]⟩,.string ⟨#[102,110]⟩,.string ⟨#[105,102]⟩,.string ⟨#[108,101,116]⟩,.string ⟨#[113,117,111,116,101]⟩,.string ⟨#[114,101,99]⟩,.string ⟨#[115,101,113]⟩,.string ⟨#[117,112]⟩] [.c (.bool true),.c (.bool true),.c (.bool true),.c (.bool true),.c (.bool true),.c (.bool true),.c (.bool true),.c (.bool true)]] 0)
 | 2=>some (.ptr [.sl [.agg [.c (.string ⟨#[43]⟩),.c (.int .i64 2)],.agg [.c (.string ⟨#[45]⟩),.c (.int .i64 2)],.agg [.c (.string ⟨#[42]⟩),.c (.int .i64 2)],.agg [.c (.string ⟨#[113,117,111,116]⟩),.c (.int .i64 2)],.agg [.c (.string ⟨#[114,101,109]⟩),.c (.int .i64 2)],.agg [.c (.string ⟨#[60]⟩),.c (.int .i64 2)],.agg [.c (.string ⟨#[61]⟩),.c (.int .i64 2)],.agg [.c (.string ⟨#[99,111,110,115]⟩),.c (.int .i64 2)],.agg [.c (.string ⟨#[102,105,114,115,116]⟩),.c (.int .i64 1)],.agg [.c (.string ⟨#[114,101,115,116]⟩),.c (.int .i64 1)],.agg [.c (.string ⟨#[99,111,117,110,116]⟩),.c (.int .i64 1)],.agg [.c (.string ⟨#[108,105,115,116,63]⟩),.c (.int .i64 1)],.agg [.c (.string ⟨#[110,117,109,63]⟩),.c (.int .i64 1)],.agg [.c (.string ⟨#[115,121,109,63]⟩),.c (.int .i64 1)],.agg [.c (.string ⟨#[109,97,114,107]⟩),.c (.int .i64 2)],.agg [.c (.string ⟨#[115,116,111,112]⟩),.c (.int .i64 1)]] .any] 0)
 | _=>none
def aJ:Code→List (Array Tmp × Code × Code)
 | .seq a b=>aJ a++aJ b
 | .cond _ a b=>aJ a++aJ b
 | .block _ c=>aJ c
 | .loop c=>aJ c
 | .rangeFunc _ ps a b=>(ps,a,b)::(aJ a++aJ b)
 | _=>[]
noncomputable def Hm (f j:Nat):Option (Array Tmp × Code × Code) :=
 match Tryz.prog.funcs[f]? with
 | some fn=>match fn.body with
  | some c=>(aJ c)[j]?
  | none=>none
 | none=>none
noncomputable def yc (y:Nat):Option (Array Tmp × Code × Code):=Hm ((y-1000000) / 100) ((y-1000000) % 100)
def i9:Value→Value→Bool
 | .int k a,.int k' b=>decide (k=k')&&decide (a=b)
 | .bool a,.bool b=>a==b
 | .string a,.string b=>decide (a=b)
 | .pointer none,.pointer none=>true
 | .map none,.map none=>true
 | .func (.func f) a b,.func (.func g) c d=>f==g&&(a.size==0&&(b.size==0&&(c.size==0&&d.size==0)))
 | .tuple a,.tuple b=>a.size==0&&b.size==0
 | _,_=>false
theorem lX {x y:Value}(h:i9 x y=true):x=y:=by
 unfold i9 at h;split at h
 ·simp only[bT,dT] at h;rw[h.1,h.2]
 ·simp only[beq_iff_eq] at h;rw[h]
 ·simp only[dT] at h;rw[h]
 ·rfl
 ·rfl
 ·simp only[bT,beq_iff_eq] at h;obtain⟨rfl,h1,h2,h3,h4⟩:=h;rw[Array.eq_empty_of_size_eq_zero h1,Array.eq_empty_of_size_eq_zero h2,Array.eq_empty_of_size_eq_zero h3,Array.eq_empty_of_size_eq_zero h4]
 ·simp only[bT,beq_iff_eq] at h;rw[Array.eq_empty_of_size_eq_zero h.1,Array.eq_empty_of_size_eq_zero h.2]
 ·cases h
def j2:SI→SI→Bool
 | .any,.any=>true
 | .nil,.nil=>true
 | .full,.full=>true
 | .isn,.isn=>true
 | .nz,.nz=>true
 | .tok a,.tok b=>a==b
 | _,_=>false
theorem ur {i j:SI}(h:j2 i j=true):i=j:=by
 cases i<;>cases j<;>simp_all [j2]
def nI:Option Nat→Option Nat→Bool
 | none,none=>true
 | some a,some b=>a==b
 | _,_=>false
theorem qV {i j:Option Nat}(h:nI i j=true):i=j:=by
 cases i<;>cases j<;>simp_all [nI]
mutual
def aX:V→V→Bool
 | .c x,.c y=>i9 x y
 | .agg a,.agg b=>cU a b
 | .tup a,.tup b=>cU a b
 | .sl a i,.sl b j=>j2 i j&&cU a b
 | .ptr a o,.ptr b p=>o==p&&cU a b
 | .ref i o,.ref j p=>i==j&&o==p
 | .clo f a,.clo g b=>f==g&&cU a b
 | .row i o n z,.row j p m y=>i==j&&(o==p&&(n==m&&nI z y))
 | .tsl i n z,.tsl j m y=>i==j&&(n==m&&nI z y)
 | .mref i,.mref j=>i==j
 | .bnd f i o,.bnd g j p=>f==g&&(i==j&&o==p)
 | .top,.top=>true
 | _,_=>false
def cU:List V→List V→Bool
 | [],[]=>true
 | v::vs,w::ws=>aX v w&&cU vs ws
 | _,_=>false
end
mutual
theorem yS:∀(x y:V),aX x y=true→x=y
 | .c x,y,h=>by
  cases y<;>first|(simp[aX] at h;done)|skip
  simp only[aX] at h;rw[lX h]
 | .agg a,y,h=>by
  cases y<;>first|(simp[aX] at h;done)|skip
  simp only[aX] at h;rw[de _ _ h]
 | .tup a,y,h=>by
  cases y<;>first|(simp[aX] at h;done)|skip
  simp only[aX] at h;rw[de _ _ h]
 | .sl a i,y,h=>by
  cases y<;>first|(simp[aX] at h;done)|skip
  simp only[aX,bT] at h;rw[ur h.1,de _ _ h.2]
 | .ptr a o,y,h=>by
  cases y<;>first|(simp[aX] at h;done)|skip
  simp only[aX,bT,beq_iff_eq] at h;rw[h.1,de _ _ h.2]
 | .ref i o,y,h=>by
  cases y<;>first|(simp[aX] at h;done)|skip
  simp only[aX,bT,beq_iff_eq] at h;rw[h.1,h.2]
 | .clo f a,y,h=>by
  cases y<;>first|(simp[aX] at h;done)|skip
  simp only[aX,bT,beq_iff_eq] at h;rw[h.1,de _ _ h.2]
 | .row i o n z,y,h=>by
  cases y<;>first|(simp[aX] at h;done)|skip
  simp only[aX,bT,beq_iff_eq] at h;rw[h.1,h.2.1,h.2.2.1,qV h.2.2.2]
 | .buf i n,y,h=>by cases y <;> simp[aX] at h
 | .tsl i n z,y,h=>by
  cases y<;>first|(simp[aX] at h;done)|skip
  simp only[aX,bT,beq_iff_eq] at h;rw[h.1,h.2.1,qV h.2.2]
 | .tref i n o,y,h=>by cases y <;> simp[aX] at h
 | .top,y,h=>by
  cases y<;>first|(simp[aX] at h;done)|rfl
 | .fmp _ _,y,h=>by cases y <;> simp[aX] at h
 | .mref i,y,h=>by
  cases y<;>first|(simp[aX] at h;done)|skip
  simp only[aX,beq_iff_eq] at h;rw[h]
 | .yld _ _ _ _,y,h=>by cases y <;> simp[aX] at h
 | .bnd f i o,y,h=>by
  cases y<;>first|(simp[aX] at h;done)|skip
  simp only[aX,bT,beq_iff_eq] at h;rw[h.1,h.2.1,h.2.2]
theorem de:∀(x y:List V),cU x y=true→x=y
 | [],y,h=>by
  cases y<;>first|rfl|(simp[cU] at h;done)
 | v::vs,y,h=>by
  cases y<;>first|(simp[cU] at h;done)|skip
  simp only[cU,bT] at h;rw[yS _ _ h.1,de _ _ h.2]
end
instance:Inhabited V:=⟨.c (.tuple #[])⟩
def V.cells:V→List V
 | .agg cs=>cs
 | v=>[v]
def aG (us:List V):List V:=us.flatMap V.cells
inductive O where
 | dead
 | cells (cs:List V)
 | tok (n z:Nat)
 | tokc (n z:Nat) (cs:List V)
 /-- A map;a loop over a function: 0 ready,1 in a round,2 over,else left by a jump. -/
 | mapo (ks:List Value) (vs:List V)
 | loop (s:Nat)
 /-- Not there,and for anybody to take;not there,and rather one that is for anybody. -/
 | free
 | want
structure St where
 tm:List V
 h:List O
 base:Nat
 rb:Nat
def V.vw1:V→V
 | .sl us _=>.sl us .any
 | v=>v
def V.vw2:V→V
 | .agg cs=>.agg (cs.map V.vw1)
 | v=>v.vw1
def V.vwf:V→V
 | .sl us .full=>.sl us .full
 | v=>v.vw2
def V.vw:V→V
 | .tup vs=>.tup (vs.map V.vw2)
 | .sl us .nil=>.sl us .nil
 | v=>v.vwf
def V.vwt:V→V
 | .sl us i=>.sl us i
 | v=>v.vw2
def V.vwr:V→V
 | .sl us i=>.sl us i
 | v=>v.vw
def SI.low (n:Nat):SI→Bool
 | .tok k=>decide (k<n)
 | _=>true
mutual
def V.low (n:Nat):V→Bool
 | .c _=>true
 | .agg cs=>V.lows n cs
 | .tup vs=>V.lows n vs
 | .sl us i=>V.lows n us&&i.low n
 | .ptr cs _=>V.lows n cs
 | .ref id _=>decide (id<n)
 | .clo _ caps=>V.lows n caps
 | .row id _ m _=>decide (id<n)||m==0
 | .buf id _=>decide (id<n)
 | .tsl k _ _=>decide (k<n)
 | .tref k _ _=>decide (k<n)
 | .top=>true
 | .fmp _ vs=>V.lows n vs
 | .mref id=>decide (id<n)
 | .yld k _ _ caps=>decide (k<n)&&V.lows n caps
 | .bnd _ id _=>decide (id<n)
def V.lows (n:Nat):List V→Bool
 | []=>true
 | v::vs=>V.low n v&&V.lows n vs
end
def Fq:Value→V
 | .slice none 0 0=>.sl [] .nil
 | v=>.c v
def toV:Value→V
 | .agg cs=>.agg (cs.toList.map Fq)
 | v=>Fq v
def az:V:=.c (.tuple #[])
def O.low (n:Nat):O→Bool
 | .cells cs=>V.lows n cs
 | .tokc _ _ cs=>V.lows n cs
 | .mapo _ vs=>V.lows n vs
 | _=>true
def SI.shift (k:Nat):SI→SI
 | .tok t=>.tok (t+k)
 | i=>i
mutual
def V.shift (k:Nat):V→V
 | .c x=>.c x
 | .agg cs=>.agg (V.shifts k cs)
 | .tup cs=>.tup (V.shifts k cs)
 | .sl us i=>.sl (V.shifts k us) (i.shift k)
 | .ptr cs o=>.ptr (V.shifts k cs) o
 | .ref id o=>.ref (id+k) o
 | .clo f cs=>.clo f (V.shifts k cs)
 | .row id off n z=>.row (id+k) off n z
 | .buf id n=>.buf (id+k) n
 | .tsl t n z=>.tsl (t+k) n z
 | .tref t n o=>.tref (t+k) n o
 | .top=>.top
 | .fmp ks vs=>.fmp ks (V.shifts k vs)
 | .mref id=>.mref (id+k)
 | .yld l y m caps=>.yld (l+k) y m (V.shifts k caps)
 | .bnd f id o=>.bnd f (id+k) o
def V.shifts (k:Nat):List V→List V
 | []=>[]
 | v::vs=>V.shift k v::V.shifts k vs
end
def O.shift (k:Nat):O→O
 | .cells cs=>.cells (V.shifts k cs)
 | .tokc n z cs=>.tokc n z (V.shifts k cs)
 | .mapo ks vs=>.mapo ks (V.shifts k vs)
 | o=>o
inductive A where
 | t (i:Nat)
 | k (v:V)
inductive XOp where
 | mv (x:A)
 | pick (c a b:A)
 | alloc (al:Nat) (zero:List V)
 | box (al:Nat) (x:A)
 | build (zero:List V) (parts:List (Nat × Nat × A))
 | bslice (al:Nat) (z:Nat) (parts:List A)
 | load (n:Option Nat) (x:A)
 | store (n:Nat) (a x:A)
 | bin (op:BinOp) (q:Nat) (x y:A)
 | un (op:UnOp) (x:A)
 | fieldAddr (off:Nat) (x:A)
 | field (off:Nat) (n:Option Nat) (x:A)
 | indexAddr (z:Nat) (x i:A)
 | index (x i:A)
 | slice (str:Bool) (z:Nat) (x:A) (lo hi mx:Option A)
 | extract (x:A) (i:Nat)
 | len (str:Bool) (x:A)
 | append (al:Nat) (z:Option Nat) (bytes:Nat) (rw:Bool) (x y:A)
 | mm (isMax:Bool) (args:List A)
 | conv (k:IntKind) (x:A)
 | call (f:A) (args:List A)
 | clos (f:Nat) (caps:List A)
 | nilchk (x:A)
 | makeMap (al:Nat)
 | lookup (kd:Option (List Nat)) (zero:V) (ok:Bool) (x k:A)
 | mapUpd (kd:Option (List Nat)) (m k v:A)
 | mksl (al:Nat) (z:Option Nat) (zero:List V) (n:A)
 | eqs (neg:Bool) (kd:List Nat) (x y:A)
 | bndm (f:Nat) (x:A)
 /-- A load from an object of one cell. -/
 | load1 (x:A)
 | load2 (n:Option Nat) (x:A)
structure XOper where
 d:Option Nat
 op:XOp
 g:Option (Nat × Bool):=none
inductive XC where
 | skip
 | reg (ops:List XOper) (pre:List O) (drawn:Bool)
 | regw (ops:List XOper) (pre:List O)
 | regm (ops:List XOper) (pre:List O)
 | regr (ops:List XOper) (pre:List O)
 | seq (a b:XC)
 | cond (c:A) (a b:XC)
 | block (id:Nat) (body:XC)
 | loop (body:XC)
 | exit (id:Nat)
 | ret
 /-- A range over a function: the function;the round's number;how many arguments;how many temporaries,and which the round looks at. -/
 | rangeF (f:A) (y m nt:Nat) (us:List Nat)
inductive XR where
 | t (i:Nat)
 | cell (i:Nat) (n:Option Nat)
structure XF where
 ntm:Nat
 body:XC
 res:List XR
 pure:Bool
 esc:Bool
 rw:Bool
 /-- Of a round: where the arguments go,and the assignment. -/
 asg:Option (List Nat × XC):=none
inductive Ex where
 | normal
 | exit (id:Nat)
 | ret
abbrev av:=Nat→List V→List O→Option (V × List O)
def ev (tm:List V):A→V
 | .t i=>tm.getD i az
 | .k v=>v
def okc:V→Bool
 | .c x=>x.oneCell'
 | .tup _=>false
 | .top=>false
 | _=>true
def hz (z:Nat):List V→Bool
 | []=>true
 | u::_=>u.cells.length==z
def bF (cs:List V) (o:Nat) (xs:List V):List V:=cs.take o++(xs++cs.drop (o+xs.length))
def n0:SI→List V→Option Bool
 | .nil,_=>some true
 | .isn,_=>some true
 | .nz,_=>some false
 | _,u::_=>if u.cells.length=0 then none else some false
 | _,[]=>none
def fW (op:BinOp) (k:IntKind) (a b:Int):Option V :=
 match op with
 | .add=>some (.c (.int k (k.wrap (a+b))))
 | .sub=>some (.c (.int k (k.wrap (a-b))))
 | .mul=>some (.c (.int k (k.wrap (a*b))))
 | .quo=>if b=0 then none else some (.c (.int k (k.wrap (a.tdiv b))))
 | .rem=>if b=0 then none else some (.c (.int k (a.tmod b)))
 | .eql=>some (.c (.bool (a==b)))
 | .neq=>some (.c (.bool (a != b)))
 | .lss=>some (.c (.bool (a<b)))
 | .leq=>some (.c (.bool (a≤b)))
 | .gtr=>some (.c (.bool (a > b)))
 | .geq=>some (.c (.bool (a≥b)))
 | _=>none
def yD (op:BinOp) (a b:ByteArray):Option V :=
 match op with
 | .eql=>some (.c (.bool (a.toList==b.toList)))
 | .neq=>some (.c (.bool !(a.toList==b.toList)))
 | .lss=>some (.c (.bool (Op.bytesLess a.toList b.toList)))
 | .leq=>some (.c (.bool (Op.bytesLess a.toList b.toList||a.toList==b.toList)))
 | .gtr=>some (.c (.bool !(Op.bytesLess a.toList b.toList||a.toList==b.toList)))
 | .geq=>some (.c (.bool !(Op.bytesLess a.toList b.toList)))
 | .add=>if a.size+b.size≤9223372036854775807 then some (.c (.string (a++b))) else none
 | _=>none
def ec (op:BinOp) (q:Nat) (x y:V):Option V :=
 match q,x,y with
 | 0,.c (.int k a),.c (.int k' b)=>if k=k' then fW op k a b else none
 | 0,.c (.string a),.c (.string b)=>yD op a b
 | 1,.c (.bool a),.c (.bool b) =>
  match op with
  | .eql=>some (.c (.bool (a==b)))
  | .neq=>some (.c (.bool !(a==b)))
  | _=>none
 | 2,.sl us i,.sl [] .nil =>
  match op with
  | .eql=>(n0 i us).map fun b=>.c (.bool b)
  | .neq=>(n0 i us).map fun b=>.c (.bool !b)
  | _=>none
 | 2,.row _ _ (_+1) _,.sl [] .nil =>
  match op with
  | .eql=>some (.c (.bool false))
  | .neq=>some (.c (.bool true))
  | _=>none
 | 3,.c (.pointer none),.c (.pointer none) =>
  match op with
  | .eql=>some (.c (.bool true))
  | .neq=>some (.c (.bool false))
  | _=>none
 | 3,.ref _ _,.c (.pointer none) =>
  match op with
  | .eql=>some (.c (.bool false))
  | .neq=>some (.c (.bool true))
  | _=>none
 | 3,.ptr _ _,.c (.pointer none) =>
  match op with
  | .eql=>some (.c (.bool false))
  | .neq=>some (.c (.bool true))
  | _=>none
 | _,_,_=>none
def rdV (cs:List V) (o:Nat):Option Nat→Option V
 | some n=>if o+n≤cs.length then some (.agg ((cs.drop o).take n)) else none
 | none=>cs[o]?
def zc:Option Nat→Nat
 | none=>1
 | some k=>k
def elems (z:Option Nat):Nat→List V→Option (List V)
 | 0,_=>some []
 | n+1,cs=>match rdV cs 0 z,elems z n (cs.drop (zc z)) with
  | some u,some us=>some (u::us)
  | _,_=>none
def lk (f:V→Option V):List V→Option (List V)
 | []=>some []
 | v::vs=>match f v,lk f vs with
  | some u,some us=>some (u::us)
  | _,_=>none
mutual
def bx (lo:Nat) (f:V→Option V) (h:List O):V→Option V
 | .c x=>some (.c x)
 | .agg cs=>(dI lo f h cs).map .agg
 | .tup cs=>(dI lo f h cs).map .tup
 | .sl us _=>(dI lo f h us).map (.sl · .any)
 | .ptr cs o=>(dI lo f h cs).map (.ptr · o)
 | .ref id o=>if id<lo then some (.ref id o) else none
 | .clo g cs=>(dI lo f h cs).map (.clo g)
 | .row id off n z=>if id<lo then some (.row id off n z) else match h[id]? with
  | some (.cells cs)=>match elems z n (cs.drop off) with
   | some us=>(lk f us).map (.sl · .any)
   | none=>none
  | _=>none
 | .buf id n=>if id<lo then some (.buf id n) else none
 | .tsl k n z=>if k<lo then some (.tsl k n z) else match h[k]? with
  | some (.tokc n' z' cs)=>if n'=n∧z'=zc z then match elems z n cs with
   | some us=>(lk f us).map (.sl · .any)
   | none=>none
   else none
  | _=>none
 | .tref k n o=>if k<lo then some (.tref k n o) else none
 | .top=>some .top
 | .fmp ks vs=>(dI lo f h vs).map (.fmp ks)
 | .mref id=>if id<lo then some (.mref id) else none
 | .yld k y m caps=>if k<lo then (dI lo f h caps).map (.yld k y m) else none
 | .bnd g id o=>if id<lo then some (.bnd g id o) else none
def dI (lo:Nat) (f:V→Option V) (h:List O):List V→Option (List V)
 | []=>some []
 | v::vs=>match bx lo f h v,dI lo f h vs with
  | some u,some us=>some (u::us)
  | _,_=>none
end
def fV (lo:Nat) (h:List O):Nat→V→Option V
 | 0,_=>none
 | k+1,v=>bx lo (fV lo h k) h v
mutual
def V.flat:V→Bool
 | .c _=>true
 | .agg cs=>V.flatl cs
 | .tup cs=>V.flatl cs
 | _=>false
def V.flatl:List V→Bool
 | []=>true
 | v::vs=>V.flat v&&V.flatl vs
end
def EB:Value→Bool
 | .bool _=>true
 | _=>false
def BG:V→Bool
 | .c x=>EB x
 | _=>false
mutual
def V.nb:V→Bool
 | .c x => !EB x
 | .agg cs=>V.nbl cs
 | .tup cs=>V.nbl cs
 | .sl us _=>V.nbl us
 | _=>false
def V.nbl:List V→Bool
 | []=>true
 | v::vs=>V.nb v&&V.nbl vs
end
def nbO:Option O→Bool
 | some (.cells cs)=>cs.all BG
 | some (.tokc _ _ cs)=>cs.all BG
 | _=>false
def nbA (h:List O) (v:V):Bool:=v.low 0||match v with
 | .row id _ _ _=>nbO h[id]?
 | .tsl k _ _=>nbO h[k]?
 | _=>false
def fQ (zero:List V) (tm:List V):List (Nat × Nat × A)→Option (List V)
 | []=>some zero
 | (off,size,x)::r =>
  let v:=(ev tm x).vwf
  if okc v=true∧v.cells.length=size∧off+size≤zero.length then fQ (bF zero off v.cells) tm r else none
def im (isMax:Bool):Option V→V→Option V
 | some (.c (.int k a)),.c (.int _ b)=>some (.c (.int k (if isMax then (if b > a then b else a) else (if b<a then b else a))))
 | _,_=>none
def mmV (isMax:Bool):List V→Option V
 | []=>none
 | v::vs=>vs.foldl (im isMax) (some v)
def idx:V→Option Int
 | .c (.int _ n)=>some n
 | _=>none
def bc (tm:List V) (d:Int):Option A→Option Int
 | none=>some d
 | some x=>idx (ev tm x)
def stV (tm:List V) (s:ByteArray) (lo hi mx:Option A):Option V :=
 match mx,bc tm 0 lo,bc tm s.size hi with
 | none,some l,some h=>if 0≤l∧l≤h∧h≤s.size then some (.c (.string (s.extract l.toNat h.toNat))) else none
 | _,_,_=>none
def xD (tm:List V) (id off n:Nat) (zz:Option Nat) (z:Nat) (lo hi mx:Option A):Option V :=
 if zc zz=z then
  match bc tm 0 lo,bc tm n hi,mx with
  | some l,some h,none=>if 0≤l∧l≤h∧h≤n then some (.row id (off+l.toNat*z) (h.toNat-l.toNat) zz) else none
  | some l,some h,some m=>match idx (ev tm m) with
   | some m=>if hi.isSome∧0≤l∧l=h∧h=m∧m≤n then some (.sl [] .full) else none
   | none=>none
  | _,_,_=>none
 else none
def slV (tm:List V) (us:List V) (z:Nat) (lo hi mx:Option A):Option V :=
 match bc tm 0 lo,bc tm us.length hi,mx with
 | some l,some h,none=>if 0≤l∧l≤h∧h≤us.length∧hz z us=true then some (.sl ((us.take h.toNat).drop l.toNat) .any) else none
 | some l,some h,some m=>match idx (ev tm m) with
  | some m=>if hi.isSome∧0≤l∧l≤h∧h=m∧m≤us.length∧hz z us=true then some (.sl ((us.take h.toNat).drop l.toNat) .full) else none
  | none=>none
 | _,_,_=>none
def ea:Nat→Value→Value→Option Bool
 | 0,.int k a,.int k' b=>if k=k' then some (a==b) else none
 | 1,.string a,.string b=>some (decide (a=b))
 | 2,.bool a,.bool b=>some (a==b)
 | _,_,_=>none
def bO:List Nat→List Value→List Value→Option Bool
 | [],[],[]=>some true
 | k::l,x::xs,y::ys=>match ea k x y with
  | some true=>bO l xs ys
  | r=>r
 | _,_,_=>none
def cS:Option (List Nat)→Value→Value→Option Bool
 | none,x,y=>ea 1 x y
 | some l,.agg xs,.agg ys=>bO l xs.toList ys.toList
 | _,_,_=>none
def dD:List V→Option (List Value)
 | []=>some []
 | .c x::r=>(dD r).map (x :: ·)
 | _=>none
def l6:Option (List Nat)→V→Option Value
 | none,.c (.string s)=>some (.string s)
 | some l,.agg cs=>match dD cs with
  | some xs=>if bO l xs xs=some true then some (.agg xs.toArray) else none
  | none=>none
 | _,_=>none
def aB (tm:List V) (rb:Nat):XOp→Option V
 | .mv x=>some (ev tm x)
 | .pick c a b=>match ev tm c with
  | .c (.bool t)=>some (if t then ev tm a else ev tm b)
  | _=>none
 | .build zero parts=>(fQ zero tm parts).map .agg
 | .bin op q x y=>ec op q (ev tm x) (ev tm y)
 | .un op x=>match op,ev tm x with
  | .not,.c (.bool b)=>some (.c (.bool !b))
  | .neg,.c (.int k n)=>some (.c (.int k (k.wrap (0-n))))
  | _,_=>none
 | .fieldAddr off x=>match ev tm x with
  | .ref id o=>some (.ref id (o+off))
  | .ptr cs o=>some (.ptr cs (o+off))
  | .tref k n o=>some (.tref k n (o+off))
  | _=>none
 | .field off n x=>match ev tm x with
  | .agg cs=>rdV cs off n
  | _=>none
 | .indexAddr z x i=>match ev tm x,idx (ev tm i) with
  | .sl us _,some n=>if 0≤n∧n<us.length then match us[n.toNat]? with
    | some u=>if u.cells.length=z then some (.ptr u.cells 0) else none
    | none=>none
   else none
  | .row id off n zz,some k=>if 0≤k∧k<n∧zc zz=z then some (.ref id (off+k.toNat*z)) else none
  | .tsl t n zz,some k=>if 0≤k∧k<n∧zc zz=z then some (.tref t n (k.toNat*z)) else none
  | _,_=>none
 | .index x i=>match ev tm x,idx (ev tm i) with
  | .c (.string s),some n=>if 0≤n then (s[n.toNat]?).map fun b=>.c (.int .u8 b.toNat) else none
  | _,_=>none
 | .slice str z x lo hi mx=>match str,ev tm x with
  | true,.c (.string s)=>stV tm s lo hi mx
  | false,.sl us _=>slV tm us z lo hi mx
  | false,.row id off n zz=>xD tm id off n zz z lo hi mx
  | _,_=>none
 | .extract x i=>match ev tm x with
  | .tup vs=>vs[i]?
  | _=>none
 | .len str x=>match str,ev tm x with
  | false,.sl us _=>some (.c (.int .i64 us.length))
  | false,.row _ _ n _=>some (.c (.int .i64 n))
  | false,.tsl _ n _=>some (.c (.int .i64 n))
  | true,.c (.string s)=>some (.c (.int .i64 s.size))
  | _,_=>none
 | .mm isMax args=>mmV isMax (args.map (ev tm))
 | .conv k x=>match ev tm x with
  | .c (.int _ n)=>some (.c (.int k (k.wrap n)))
  | _=>none
 | .clos f caps=>some (.clo f (caps.map (ev tm)))
 | .nilchk x=>match ev tm x with
  | .ref id o=>some (.ref id o)
  | .ptr cs o=>some (.ptr cs o)
  | .clo f caps=>some (.clo f caps)
  | .bnd f id o=>some (.bnd f id o)
  | .c (.func (.func f) a b)=>some (.c (.func (.func f) a b))
  | _=>none
 | .eqs neg kd x y=>match ev tm x,ev tm y with
  | .agg cs,.agg ds=>match dD cs,dD ds with
   | some xs,some ys=>(bO kd xs ys).map fun b=>.c (.bool (if neg then !b else b))
   | _,_=>none
  | _,_=>none
 | .bndm f x=>match ev tm x with
  | .ref id o=>some (.bnd f id o)
  | _=>none
 | .alloc al _=>some (.ref (rb+al) 0)
 | .bslice al z parts =>
  let us:=parts.map fun x=>(ev tm x).vw2
  if us.all (fun u=>okc u&&u.cells.length==z) then some (.sl us .full) else none
 | _=>none
def eT (kd:Option (List Nat)):List Value→List V→Value→Option (Option V)
 | k'::ks,v::vs,k=>match cS kd k k' with
  | some true=>some (some v)
  | some false=>eT kd ks vs k
  | none=>none
 | [],[],_=>some none
 | _,_,_=>none
def sW (kd:Option (List Nat)):List Value→List V→Value→V→Option (List Value × List V)
 | k'::ks,v::vs,k,u=>match cS kd k k' with
  | some true=>some (k::ks,u::vs)
  | some false=>(sW kd ks vs k u).map fun r=>(k'::r.1,v::r.2)
  | none=>none
 | [],[],k,u=>some ([k],[u])
 | _,_,_,_=>none
def l7 (zero:V) (ok:Bool):Option V→V
 | some v=>if ok then .tup [v,.c (.bool true)] else v
 | none=>if ok then .tup [zero,.c (.bool false)] else zero
abbrev rid:Nat:=1000000
def aT:V→Option (Nat × List V)
 | .c (.func (.func f) a b)=>if a.size=0∧b.size=0 then some (f,[]) else none
 | .clo f caps=>some (f,caps)
 | _=>none
def longer (h:List O):Option (V × List O)→Option (V × List O)
 | some (r,h')=>if h.length≤h'.length then some (r,h') else none
 | none=>none
def fU (cf:av) (fv:V) (vs:List V) (h:List O):Option (V × List O) :=
 match aT fv with
 | some (f,caps)=>if f<rid then longer h (cf f (vs++caps) h) else none
 | none=>none
def eb (cf:av) (fv:V) (vs:List V) (h:List O):Option (V × List O) :=
 match fv with
 | .yld k y m caps=>if rid≤y∧vs.length=m then longer h (cf y (.c (.int .i64 k)::(vs++caps)) h) else none
 | .bnd f id o=>if f<rid then longer h (cf f (.ref id o::vs) h) else none
 | fv=>fU cf fv vs h
theorem di {cf:av}{fv:V}{vs:List V}{h:List O}{f:Nat}{caps:List V}(hc:aT fv=some (f,caps)):eb cf fv vs h=if f<rid then longer h (cf f (vs++caps) h) else none:=by
 cases fv<;>first|(simp only[eb,fU,hc];done)|(simp[aT] at hc;done)
theorem tK {cf:av}{q:Nat}{vs:List V}{h:List O}(hq:q<rid):eb cf (.c (.func (.func q) #[] #[])) vs h=longer h (cf q vs h):=by
 rw[di (f:=q) (caps:=[]) (by simp[aT]),if_pos hq,List.append_nil]
theorem Dn {cf:av}{fv:V}{vs:List V}{h:List O}{f:Nat}{caps:List V}(hc:aT fv=some (f,caps)) (hq:f<rid):eb cf fv vs h=longer h (cf f (vs++caps) h):=by
 rw[di hc,if_pos hq]
theorem eo {h h':List O}{r:V}(hl:h.length≤h'.length):longer h (some (r,h'))=some (r,h'):=by simp[longer,hl]
theorem bd {h:List O}{o:Option (V × List O)}{r:V}{h':List O}(e:longer h o=some (r,h')):o=some (r,h')∧h.length≤h'.length:=by
 unfold longer at e;split at e
 ·split at e
  ·simp only[sI,pI] at e;obtain⟨rfl,rfl⟩:=e;exact⟨rfl,‹_›⟩
  ·cases e
 ·cases e
def sK (h:List O):V→Option (List V)
 | .sl ws _=>some ws
 | .row id off n z=>match h[id]? with
  | some (.cells cs)=>elems z n (cs.drop off)
  | _=>none
 | _=>none
def pS:Option O→Bool
 | some .free=>true
 | _=>false
def bp (h:List O) (b d:Nat):Nat:=((List.range b).find? fun i=>pS h[i]?).getD d
def act (cf:av) (st:St) (op:XOp):Option (V × List O) :=
 match op with
 | .load n x=>match ev st.tm x with
  | .ref id o=>match st.h[id]? with
   | some (.cells cs)=>(rdV cs o n).map (·,st.h)
   | _=>none
  | .ptr cs o=>(rdV cs o n).map (·,st.h)
  | _=>none
 | .store n a x =>
  let v:=ev st.tm x
  match ev st.tm a with
  | .ref id o=>match st.h[id]? with
   | some (.cells cs)=>if okc v=true∧v.cells.length=n∧o+n≤cs.length then some (az,st.h.set id (.cells (bF cs o v.cells))) else none
   | _=>none
  | .tref k m o=>match st.h[k]? with
   | some (.tokc m' z cs)=>if m'=m∧okc v=true∧v.cells.length=n∧o+n≤cs.length then some (az,st.h.set k (.tokc m z (bF cs o v.cells))) else none
   | _=>none
  | _=>none
 | .box al x =>
  let v:=ev st.tm x
  match st.h[st.rb+al]? with
  | some .dead=>if okc v=true then some (.ref (st.rb+al) 0,st.h.set (st.rb+al) (.cells v.cells)) else none
  | _=>none
 | .append al z bytes rw x y=>match ev st.tm x,sK st.h (ev st.tm y) with
  | .sl us i,some ws=>if (us.length+ws.length)*bytes≤140737488355328∧us.length+ws.length≤140737488355328∧hz (zc z) us=true∧hz (zc z) ws=true then
    match ws with
    | []=>some (.sl us i,st.h)
    | _::_=>match i with
     | .nil=>match st.h[st.rb+al]? with
      | some .dead=>if rw then some (.tsl (st.rb+al) (us.length+ws.length) z,st.h.set (st.rb+al) (.tokc (us.length+ws.length) (zc z) (aG (us++ws))))
       else some (.sl (us++ws) (.tok (st.rb+al)),st.h.set (st.rb+al) (.tok (us.length+ws.length) (zc z)))
      | some .want=>if rw then none else some (.sl (us++ws) (.tok (bp st.h st.base (st.rb+al))),st.h.set (bp st.h st.base (st.rb+al)) (.tok (us.length+ws.length) (zc z)))
      | _=>none
     | .full=>match st.h[st.rb+al]? with
      | some .dead=>if rw then match us with
        | []=>some (.row (st.rb+al) 0 (us.length+ws.length) z,st.h.set (st.rb+al) (.cells (aG (us++ws))))
        | _::_=>some (.tsl (st.rb+al) (us.length+ws.length) z,st.h.set (st.rb+al) (.tokc (us.length+ws.length) (zc z) (aG (us++ws))))
       else some (.sl (us++ws) (.tok (st.rb+al)),st.h.set (st.rb+al) (.tok (us.length+ws.length) (zc z)))
      | some .want=>if rw then none else some (.sl (us++ws) (.tok (bp st.h st.base (st.rb+al))),st.h.set (bp st.h st.base (st.rb+al)) (.tok (us.length+ws.length) (zc z)))
      | _=>none
     | .tok k=>match st.h[k]? with
      | some (.tok n z')=>if n=us.length∧z'=zc z then some (.sl (us++ws) (.tok k),st.h.set k (.tok (us.length+ws.length) (zc z))) else none
      | _=>none
     | .any=>none
     | .isn=>none
     | .nz=>none
   else none
  | .tsl k n zz,some ws=>if rw=true∧zz=z∧(n+ws.length)*bytes≤140737488355328∧n+ws.length≤140737488355328∧hz (zc z) ws=true then
    match ws with
    | []=>some (.tsl k n zz,st.h)
    | _::_=>match st.h[k]? with
     | some (.tokc m zz' cs)=>if m=n∧zz'=zc z then some (.tsl k (n+ws.length) z,st.h.set k (.tokc (n+ws.length) (zc z) (cs++aG ws))) else none
     | _=>none
   else none
  | _,_=>none
 | .makeMap al=>match st.h[st.rb+al]? with
  | some .dead=>some (.mref (st.rb+al),st.h.set (st.rb+al) (.mapo [] []))
  | _=>none
 | .lookup kd zero ok x k=>match l6 kd (ev st.tm k) with
  | some kv=>match ev st.tm x with
   | .fmp ks vs=>match kd with
    | none=>(eT none ks vs kv).map fun r=>(l7 zero ok r,st.h)
    | some _=>none
   | .mref id=>match st.h[id]? with
    | some (.mapo ks vs)=>(eT kd ks vs kv).map fun r=>(l7 zero ok r,st.h)
    | _=>none
   | _=>none
  | none=>none
 | .load1 x=>match ev st.tm x with
  | .ref id 0=>match st.h[id]? with
   | some (.cells [c])=>some (c,st.h)
   | _=>none
  | _=>none
 | .load2 n x=>match ev st.tm x with
  | .ref id o=>if id<st.rb then match st.h[id]? with
   | some (.cells cs)=>(rdV cs o n).map fun v=>(v,st.h)
   | _=>none
   else none
  | .ptr cs o=>(rdV cs o n).map fun v=>(v,st.h)
  | _=>none
 | .mapUpd kd m k v=>match l6 kd (ev st.tm k) with
  | some kv=>match ev st.tm m with
   | .mref id=>match st.h[id]? with
    | some (.mapo ks vs)=>(sW kd ks vs kv (ev st.tm v)).map fun r=>(az,st.h.set id (.mapo r.1 r.2))
    | _=>none
   | _=>none
  | none=>none
 | .mksl al z zero n=>match idx (ev st.tm n) with
  | some k=>if 0≤k∧k≤1048576∧k.toNat*zero.length≤16777216 then match st.h[st.rb+al]? with
    | some .dead=>some (.row (st.rb+al) 0 k.toNat z,st.h.set (st.rb+al) (.cells (List.replicate k.toNat zero).flatten))
    | _=>none
   else none
  | none=>none
 | .call f args=>eb cf (ev st.tm f) (args.map (ev st.tm)) st.h
 | op=>(aB st.tm st.rb op).map (·,st.h)
def aY (tm:List V):Option (Nat × Bool)→Bool
 | none=>true
 | some (t,b)=>match tm[t]? with
  | some (.c (.bool x))=>x==b
  | _=>false
def aZ (tm:List V):Option (Nat × Bool)→Bool
 | none=>true
 | some (t,_)=>match tm[t]? with
  | some .top=>false
  | _=>true
def bH (tm:List V) (d:Option Nat) (v:V):List V :=
 match d with
 | some d=>tm.set d v
 | none=>tm
def aI (cf:av) (o:XOper) (st:St):Option St :=
 if aZ st.tm o.g then
  if aY st.tm o.g then
   match act cf st o.op with
   | some (v,h)=>some { st with tm:=bH st.tm o.d v,h:=h }
   | none=>none
  else some { st with tm:=bH st.tm o.d az }
 else none
def aC (cf:av):List XOper→St→Option St
 | [],st=>some st
 | o::r,st=>match aI cf o st with
  | some st=>aC cf r st
  | none=>none
def b9 (m:Nat) (cf:av):av:=fun f args H =>
 if f<rid∧m≤H.length∧V.lows m args=true∧(H.take m).all (O.low m)=true then
  match cf f args (H.take m) with
  | some (r,h1)=>if h1.length=m then some (r,h1++H.drop m) else none
  | none=>none
 else none
def aF (m:Nat) (cf:av):av:=fun f args H=>b9 m cf f (if V.lows m args=true then args else args.map V.vw2) H
def ir (m:Nat) (st:St):XOp→Bool
 | .load _ x=>match ev st.tm x with
  | .ref id _=>decide (m≤id)
  | _=>true
 | _=>true
def eU (lt:Bool) (o:XOper):Bool:=lt&&o.g.isSome
def d8 (m:Nat) (lt:Bool) (cf:av) (o:XOper) (st:St):Option St:=if eU lt o||ir m st o.op then aI (aF m cf) o st else none
def ed (m:Nat) (lt:Bool) (cf:av):List XOper→St→Option St
 | [],st=>some st
 | o::r,st=>match d8 m lt cf o st with
  | some st=>ed m lt cf r st
  | none=>none
def yB (st:St):A→Nat→Nat
 | .t i,m=>match st.tm[i]? with
  | some (.ref id _)=>if st.base≤id∧id<m then id else m
  | _=>m
 | _,m=>m
def pM (st:St):List XOper→Nat→Nat
 | [],m=>m
 | o::r,m=>pM st r (if o.g.isSome then m else match o.op with
  | .fieldAddr _ x=>yB st x m
  | .load _ x=>yB st x m
  | _=>m)
def pK (d:Nat) (ops:List XOper):Bool:=ops.any fun o=>match o.op with
 | .call _ args=>args.any fun a=>match a with
  | .t i=>i==d
  | _=>false
 | _=>false
def An (st:St) (ops:List XOper):Bool:=ops.any fun o=>match o.op,o.d with
 | .mv (.t x),some d=>(match ev st.tm (.t x) with
  | .ref id _=>decide (st.base≤id)
  | _=>false)&&pK d ops
 | _,_=>false
def thr (st:St) (ops:List XOper):Nat:=if An st ops then pM st ops st.h.length else st.base
def sameK:Value→Value→Bool
 | .agg a,.agg b=>sameKs a.toList b.toList
 | x,y=>i9 x y
where sameKs:List Value→List Value→Bool
 | [],[]=>true
 | x::xs,y::ys=>i9 x y&&sameKs xs ys
 | _,_=>false
def fY:List Value→List Value→Bool
 | [],[]=>true
 | x::xs,y::ys=>sameK x y&&fY xs ys
 | _,_=>false
def it:O→O→Bool
 | .cells a,.cells b=>cU a b
 | .dead,.dead=>true
 | .tok n z,.tok m y=>n==m&&z==y
 | .tokc n z a,.tokc m y b=>n==m&&(z==y&&cU a b)
 | .mapo ks vs,.mapo ls ws=>fY ks ls&&cU vs ws
 | .loop s,.loop t=>s==t
 | .free,.free=>true
 | .want,.want=>true
 | _,_=>false
def oc:List O→List O→Bool
 | [],[]=>true
 | x::xs,y::ys=>it x y&&oc xs ys
 | _,_=>false
def eR (m:Nat) (cf:av):av:=fun f args H =>
 if f<rid∧m≤H.length∧V.lows m args=true∧(H.take m).all (O.low m)=true then
  match cf f args (H.take m) with
  | some (r,h1)=>if h1.length=m∧oc (H.take m) h1=true then some (r,H) else none
  | none=>none
 else none
def ik (m:Nat) (st:St):XOp→Bool
 | .append al _ _ _ x _=>match ev st.tm x with
  | .sl _ (.tok k)=>decide (m≤k)
  | .sl _ .nil=>decide (m≤st.rb+al)&&(match st.h[st.rb+al]? with
   | some .dead=>true
   | _=>false)
  | .sl _ .full=>decide (m≤st.rb+al)&&(match st.h[st.rb+al]? with
   | some .dead=>true
   | _=>false)
  | _=>false
 | _=>true
def ee (m:Nat) (cf:av) (o:XOper) (st:St):Option St:=if ik m st o.op then aI (eR m cf) o st else none
def gt (m:Nat) (cf:av):List XOper→St→Option St
 | [],st=>some st
 | o::r,st=>match ee m cf o st with
  | some st=>gt m cf r st
  | none=>none
def lO (nt:Nat) (us:List Nat) (tm:List V):List V:=(List.range nt).map fun i=>if us.contains i then tm.getD i az else .top
def iq (f:St→Option (Ex × St)):Nat→St→Option (Ex × St)
 | 0,_=>none
 | n+1,st=>match f st with
  | some (.normal,st)=>iq f n st
  | r=>r
def Ex.num:Ex→Nat
 | .normal=>0
 | .ret=>3
 | .exit id=>id+4
def Ex.ofNum:Nat→Option Ex
 | 0=>some .normal
 | 1=>none
 | 2=>none
 | 3=>some .ret
 | n+4=>some (.exit n)
def aK (cf:av) (n:Nat):XC→St→Option (Ex × St)
 | .skip,st=>some (.normal,st)
 | .reg ops pre _,st=>(aC cf ops { st with h:=st.h++pre,rb:=st.h.length }).map (.normal,·)
 | .regw ops pre,st=>(ed st.base false cf ops { st with h:=st.h++pre,rb:=st.h.length }).map (.normal,·)
 | .regr ops pre,st=>(gt (min st.base st.h.length) cf ops { st with h:=st.h++pre,rb:=st.h.length }).map (.normal,·)
 | .regm ops pre,st=>(ed (thr st ops) true cf ops { st with h:=st.h++pre,rb:=st.h.length }).map (.normal,·)
 | .seq a b,st=>match aK cf n a st with
  | some (.normal,st)=>aK cf n b st
  | r=>r
 | .cond c a b,st=>match ev st.tm c with
  | .c (.bool t)=>if t then aK cf n a st else aK cf n b st
  | _=>none
 | .block id c,st=>match aK cf n c st with
  | some (.exit id',st)=>if id'=id then some (.normal,st) else some (.exit id',st)
  | r=>r
 | .loop c,st=>iq (aK cf n c) n st
 | .exit id,st=>some (.exit id,st)
 | .ret,st=>some (.ret,st)
 | .rangeF f y m nt us,st=>match aT (ev st.tm f) with
  | some (g,lb)=>if g<rid∧rid≤y∧st.tm.length=nt then match cf g (.yld st.h.length y m (lO nt us st.tm)::lb) (st.h++[.loop 0]) with
   | some (_,h')=>match h'[st.h.length]? with
    | some (.loop s)=>(Ex.ofNum s).map fun e=>(e,{ st with h:=h'.set st.h.length (.loop 2) })
    | _=>none
   | none=>none
   else none
  | none=>none
def xI (st:St):XR→Option V
 | .t i=>st.tm[i]?
 | .cell i n=>match st.tm[i]? with
  | some (.ref id o)=>match st.h[id]? with
   | some (.cells cs)=>rdV cs o n
   | _=>none
  | _=>none
def cE (st:St):List XR→Option (List V)
 | []=>some []
 | r::rs=>match xI st r,cE st rs with
  | some v,some vs=>some (v::vs)
  | _,_=>none
def bk:List V→V
 | [v]=>v
 | vs=>.tup vs
def fin (esc:Bool) (n:Nat) (res:List XR):Option (Ex × St)→Option (V × List O)
 | some (.exit _,_)=>none
 | some (_,st)=>match cE st res with
  | some vs =>
   if esc then some ((bk vs).vwr,st.h) else
   if (bk vs).vw.low st.base then if (st.h.take st.base).all (O.low st.base) then some ((bk vs).vw,st.h.take st.base) else none
   else match fV st.base st.h n (bk vs).vw with
    | some r=>if r.low st.base&&(st.h.take st.base).all (O.low st.base) then some (r,st.h.take st.base) else none
    | none=>none
  | none=>none
 | none=>none
def cB (xf:XF) (args:List V) (h:List O):St:={ tm:=args++List.replicate (xf.ntm-args.length) az,h,base:=h.length,rb:=0 }
abbrev Ext:=Nat→Option (Nat→av→List V→List O→Option (V × List O))
@[irreducible] def Ga:List O:=List.replicate 4096 .free
def Ce (xf:XF):List O:=if xf.rw then Ga else []
def fE (cf:av) (n:Nat) (xf:XF) (args:List V) (h:List O):Option (V × List O) :=
 if xf.pure then
  if V.lows 0 (args.map V.vw2) then
   if xf.esc then (fin true n xf.res (aK cf n xf.body (cB xf (args.map V.vw2) (Ce xf)))).map fun r=>(r.1.shift h.length,h++r.2.map (O.shift h.length))
   else (fin false n xf.res (aK cf n xf.body (cB xf (args.map V.vw2) []))).map fun r=>(r.1,h)
  else if xf.esc then none
  else match lk (fV 0 h n) (args.map V.vw2) with
   | some bs=>if V.lows 0 bs then match fin false n xf.res (aK cf n xf.body (cB xf bs [])) with
     | some (r,_)=>if r.flat||(r.nb&&(args.map V.vw2).all (nbA h)) then some (r,h) else none
     | none=>none
    else none
   | none=>none
 else fin xf.esc n xf.res (aK cf n xf.body (cB xf (args.map (if xf.esc then V.vwt else V.vw2)) h))
def eZ:List Nat→List V→List V→Option (List V)
 | [],[],tm=>some tm
 | p::ps,v::vs,tm=>eZ ps vs (tm.set p v)
 | _,_,_=>none
def cN (cf:av) (n:Nat) (ps:List Nat) (asg body:XC) (k:Nat) (vs caps:List V) (h:List O):Option (V × List O) :=
 match eZ ps vs caps with
 | some tm=>match aK cf n asg { tm:=tm,h:=h,base:=h.length,rb:=0 } with
  | some (.normal,st1)=>match st1.h[k]? with
   | some (.loop 0)=>match aK cf n body { st1 with h:=st1.h.set k (.loop 1) } with
    | some (e,st2)=>match st2.h[k]? with
     | some (.loop 1) =>
      let h3:=(st2.h.set k (.loop e.num)).take h.length
      if h3.all (O.low h.length) then some (.c (.bool (e.num==0)),h3) else none
     | _=>none
    | none=>none
   | _=>none
  | _=>none
 | none=>none
def call (X:Nat→Option XF) (E:Ext):Nat→av
 | 0=>fun _ _ _=>none
 | n+1=>fun f args h =>
  match E f with
  | some e=>e n (call X E n) args h
  | none=>match X f with
   | none=>none
   | some xf=>match xf.asg with
    | some (ps,asg)=>match args with
     | .c (.int _ k)::rs=>if k.toNat<h.length then cN (call X E n) n ps asg xf.body k.toNat (rs.take ps.length) (rs.drop ps.length) h else none
     | _=>none
    | none=>fE (call X E n) n xf args h
structure Gh where
 blk:Nat→Option Nat
 tok:Nat→Option (Nat × Nat × Nat)
 fz:Nat→Nat→Prop
def Gh.owns (g:Gh) (b:Nat):Prop:=(∃id,g.blk id=some b)∨∃k l c,g.tok k=some (b,l,c)
def SIok (g:Gh) (A:Option Addr) (n cap:Nat):SI→Prop
 | .any=>True
 | .nil=>A=none∧cap=0
 | .full=>cap=n
 | .isn=>A=none
 | .nz=>A≠none
 | .tok k=>∃b l c,g.tok k=some (b,l,c)∧n≤l∧(n=l→A=some ⟨b,0,none⟩∧cap=c)
def LSame (L L':Loop):Prop:=L'.fn=L.fn∧L'.tmps=L.tmps∧L'.params=L.params∧L'.assign=L.assign∧L'.body=L.body∧L'.defers=L.defers
theorem LSame.refl (L:Loop):LSame L L:=⟨rfl,rfl,rfl,rfl,rfl,rfl⟩
theorem LSame.trans {L L' L'':Loop}(h:LSame L L') (k:LSame L' L''):LSame L L'' :=
 ⟨k.1.trans h.1,k.2.1.trans h.2.1,k.2.2.1.trans h.2.2.1,k.2.2.2.1.trans h.2.2.2.1,k.2.2.2.2.1.trans h.2.2.2.2.1,k.2.2.2.2.2.trans h.2.2.2.2.2⟩
def jY:Obj→Bool
 | .cells _ _ _=>true
 | _=>false
def Goes:Obj→Obj→Prop
 | .loop L,o'=>∃L',o'=.loop L'∧LSame L L'
 | _,_=>True
theorem Goes.refl (o:Obj):Goes o o:=by
 cases o<;>first|exact trivial|exact⟨_,rfl,LSame.refl _⟩
theorem Goes.trans {o o' o'':Obj}(h:Goes o o') (k:Goes o' o''):Goes o o'':=by
 cases o<;>first|exact trivial|(obtain⟨L',rfl,h⟩:=h;obtain⟨L'',rfl,k⟩:=k;exact⟨_,rfl,h.trans k⟩)
def Oth (g:Gh) (w w':World):Prop:=∀(b:Nat) (o:Obj),w.heap[b]?=some o→jY o=false→∃o',w'.heap[b]?=some o'∧jY o'=false∧Goes o o'∧∀es ck,o=.map es ck→g.fz b 0→o'=o
theorem Oth.of_same {g:Gh}{w w':World}(h:∀(b:Nat) (o:Obj),w.heap[b]?=some o→jY o=false→w'.heap[b]?=some o):Oth g w w' :=
 fun b o e c=>⟨o,h b o e c,c,Goes.refl o,fun _ _ _ _=>rfl⟩
theorem Oth.fzs {g g':Gh}{w w':World}(h:Oth g w w') (hf:∀b o,g'.fz b o→g.fz b o):Oth g' w w' :=
 fun b o e c=>let ⟨o',a1,a2,a3,a4⟩:=h b o e c;⟨o',a1,a2,a3,fun es ck q k=>a4 es ck q (hf _ _ k)⟩
def LoopAt (w:World) (l y m:Nat) (tmps:Array Value):Prop:=∃L,w.heap[l]?=some (.loop L)∧L.tmps=tmps∧yc y=some (L.params,L.assign,L.body)∧L.params.size=m
def Ey (w:World) (b:Nat) (es:Array MapEntry) (ck:Nat):Prop :=
 ∃es0:Array MapEntry,w.heap[b]?=some (.map es0 ck)∧(∀e,e∈es0.toList↔e∈es.toList)∧(∀e∈es.toList,∃s,e.key=.string s)∧∀e∈es.toList,∀e'∈es.toList,e.key=e'.key→e=e'
inductive Rep (g:Gh) (w:World):Value→V→Prop where
 | c (x:Value):Rep g w x (.c x)
 | agg (xs:Array Value) (cs:List V) (hn:xs.size=cs.length) (h1:∀i (hi:i<xs.size),(xs[i]).oneCell'=true)
   (h:∀i (hi:i<xs.size) (hj:i<cs.length),Rep g w xs[i] cs[i]):Rep g w (.agg xs) (.agg cs)
 | tup (xs:Array Value) (cs:List V) (hn:xs.size=cs.length)
   (h:∀i (hi:i<xs.size) (hj:i<cs.length),Rep g w xs[i] cs[i]):Rep g w (.tuple xs) (.tup cs)
 | sl (A:Option Addr) (n cap:Nat) (us:List V) (i:SI) (z:Nat) (cv:Nat→Value) (hn:n=us.length) (hc:n≤cap) (hzz:∀u∈us,u.cells.length=z)
   (hA:us≠[]→∃b o,A=some ⟨b,o,none⟩∧∀j,j<us.length*z→g.fz b (o+j)∧w.cell? ⟨b,o+j,none⟩=some (cv j)∧(cv j).oneCell'=true)
   (h:∀j (hj:j<(aG us).length),Rep g w (cv j) (aG us)[j])
   (hi:SIok g A n cap i):Rep g w (.slice A n cap) (.sl us i)
 | ptr (b o o':Nat) (cs:List V) (off:Nat) (cv:Nat→Value) (ho:o'=o+off)
   (hA:∀j,j<cs.length→g.fz b (o+j)∧w.cell? ⟨b,o+j,none⟩=some (cv j)∧(cv j).oneCell'=true)
   (h:∀j (hj:j<cs.length),Rep g w (cv j) cs[j]):Rep g w (.pointer (some ⟨b,o',none⟩)) (.ptr cs off)
 | ref (id b o:Nat) (h:g.blk id=some b):Rep g w (.pointer (some ⟨b,o,none⟩)) (.ref id o)
 | clo (f:Nat) (xs:Array Value) (cs:List V) (hn:xs.size=cs.length)
   (h:∀i (hi:i<xs.size) (hj:i<cs.length),Rep g w xs[i] cs[i]):Rep g w (.func (.func f) #[] xs) (.clo f cs)
 | row (A:Option Addr) (n cap id off:Nat) (z:Option Nat) (hc:n≤cap) (h:n≠0→∃b,A=some ⟨b,off,none⟩∧g.blk id=some b):Rep g w (.slice A n cap) (.row id off n z)
 | buf (A:Option Addr) (n cap id:Nat) (hc:n≤cap) (h:∃b cc T,A=some ⟨b,0,none⟩∧g.blk id=some b∧w.heap[b]?=some (.cells cc T (0,0))∧cap≤cc.size):Rep g w (.slice A n cap) (.buf id n)
 | tsl (A:Option Addr) (n cap k:Nat) (z:Option Nat) (hc:n≤cap) (hA:n≠0→∃b,A=some ⟨b,0,none⟩) (h:∃b l c,g.tok k=some (b,l,c)∧n≤l∧(n=l→A=some ⟨b,0,none⟩∧cap=c)):Rep g w (.slice A n cap) (.tsl k n z)
 | tref (A:Addr) (k n o:Nat) (h:∃b l c,g.tok k=some (b,l,c)∧n≤l∧(n=l→A=⟨b,o,none⟩)):Rep g w (.pointer (some A)) (.tref k n o)
 | top (x:Value):Rep g w x .top
 | fmp (b:Nat) (es:Array MapEntry) (ck:Nat) (ks:List Value) (vs:List V) (hb:Ey w b es ck) (hf:g.fz b 0) (hk:es.toList.map (·.key)=ks) (hn:es.size=vs.length)
   (h:∀i (hi:i<es.size) (hj:i<vs.length),Rep g w (es[i]).val vs[i]):Rep g w (.map (some b)) (.fmp ks vs)
 | mref (id b:Nat) (h:g.blk id=some b):Rep g w (.map (some b)) (.mref id)
 | yld (l k y m:Nat) (tmps:Array Value) (caps:List V) (hb:g.blk k=some l) (hl:LoopAt w l y m tmps) (hn:tmps.size=caps.length)
   (h:∀i (hi:i<tmps.size) (hj:i<caps.length),Rep g w tmps[i] caps[i]):Rep g w (.func (.yield l) #[] #[]) (.yld k y m caps)
 | bnd (f id b o:Nat) (h:g.blk id=some b):Rep g w (.func (.func f) #[.pointer (some ⟨b,o,none⟩)] #[]) (.bnd f id o)
structure Le (g:Gh) (w:World) (g':Gh) (w':World):Prop where
 blk:∀id b,g.blk id=some b→g'.blk id=some b
 tok:∀k b l c,g.tok k=some (b,l,c)→∃b' l' c',g'.tok k=some (b',l',c')∧l≤l'∧(l=l'→b=b'∧c=c')
 fz:∀b o,g.fz b o→g'.fz b o∧w'.cell? ⟨b,o,none⟩=w.cell? ⟨b,o,none⟩
 own:∀b,g'.owns b→b<w.heap.size→g.owns b
 fzn:∀b o,g'.fz b o→b<w.heap.size→g.fz b o∨g.owns b
 kept:∀b,b<w.heap.size→¬g.owns b→w'.heap[b]?=w.heap[b]?
 size:w.heap.size≤w'.heap.size
 tape:w'.tape=w.tape
 os:w'.os=w.os
 output:w'.output=w.output
 sz:∀(b:Nat) (c:Array Value) (T:TypeId),w.heap[b]?=some (.cells c T (0,0))→∃c',w'.heap[b]?=some (.cells c' T (0,0))∧c'.size=c.size
 oth:Oth g w w'
theorem Le.refl (g:Gh) (w:World):Le g w g w :=
 ⟨fun _ _ h=>h,fun _ _ _ _ h=>⟨_,_,_,h,nL _,fun _=>⟨rfl,rfl⟩⟩,fun _ _ h=>⟨h,rfl⟩,fun _ h _=>h,fun _ _ h _=>.inl h,fun _ _ _=>rfl,nL _,rfl,rfl,rfl,fun _ c _ h=>⟨c,h,rfl⟩,Oth.of_same fun _ _ h _=>h⟩
theorem Le.trans {g g' g'':Gh}{w w' w'':World}(h:Le g w g' w') (k:Le g' w' g'' w''):Le g w g'' w'' where
 blk id b hb:=k.blk _ _ (h.blk _ _ hb)
 tok t b l c hb:=by
  obtain⟨b1,l1,c1,h1,h2,h3⟩:=h.tok _ _ _ _ hb;obtain⟨b2,l2,c2,k1,k2,k3⟩:=k.tok _ _ _ _ h1;refine⟨b2,l2,c2,k1,by omega,fun e=>?_⟩;have e1:l=l1:=by omega
  have e2:l1=l2:=by omega
  exact⟨(h3 e1).1.trans (k3 e2).1,(h3 e1).2.trans (k3 e2).2⟩
 fz b o hb:=⟨(k.fz _ _ (h.fz _ _ hb).1).1,(k.fz _ _ (h.fz _ _ hb).1).2.trans (h.fz _ _ hb).2⟩
 own b hb hlt:=h.own b (k.own b hb (Nat.lt_of_lt_of_le hlt h.size)) hlt
 fzn b o hb hlt:=by
  rcases k.fzn b o hb (Nat.lt_of_lt_of_le hlt h.size) with h1|h1
  ·exact h.fzn b o h1 hlt
  ·exact .inr (h.own b h1 hlt)
 kept b hlt hn:=(k.kept b (Nat.lt_of_lt_of_le hlt h.size) (fun h1=>hn (h.own b h1 hlt))).trans (h.kept b hlt hn)
 size:=Nat.le_trans h.size k.size
 tape:=k.tape.trans h.tape
 os:=k.os.trans h.os
 output:=k.output.trans h.output
 sz b c T e:=by
  obtain⟨c1,h1,h2⟩:=h.sz b c T e;obtain⟨c2,k1,k2⟩:=k.sz b c1 T h1;exact⟨c2,k1,k2.trans h2⟩
 oth b o e c:=by
  obtain⟨o1,a1,a2,a3,a4⟩:=h.oth b o e c;obtain⟨o2,b1,b2,b3,b4⟩:=k.oth b o1 a1 a2;exact⟨o2,b1,b2,a3.trans b3,fun es ck q f=>by have h9:=a4 es ck q f;exact (b4 es ck (h9.trans q) (h.fz b 0 f).1).trans h9⟩
theorem LoopAt.mono {g:Gh}{w w':World}(h:Oth g w w'){l y m:Nat}{tmps:Array Value}(k:LoopAt w l y m tmps):LoopAt w' l y m tmps:=by
 obtain⟨L,e,rfl,hy,hps⟩:=k;obtain⟨o',a1,_,⟨L',rfl,s1,s2,s3,s4,s5,s6⟩,_⟩:=h l _ e rfl;exact⟨L',a1,s2,by rw[s3,s4,s5];exact hy,by rw[s3];exact hps⟩
structure LeV (g:Gh) (w:World) (g':Gh) (w':World):Prop where
 blk:∀id b,g.blk id=some b→g'.blk id=some b
 tok:∀k b l c,g.tok k=some (b,l,c)→∃b' l' c',g'.tok k=some (b',l',c')∧l≤l'∧(l=l'→b=b'∧c=c')
 fz:∀b o,g.fz b o→g'.fz b o∧w'.cell? ⟨b,o,none⟩=w.cell? ⟨b,o,none⟩
 sz:∀(b:Nat) (c:Array Value) (T:TypeId),w.heap[b]?=some (.cells c T (0,0))→∃c',w'.heap[b]?=some (.cells c' T (0,0))∧c'.size=c.size
 oth:Oth g w w'
theorem Le.v {g g':Gh}{w w':World}(h:Le g w g' w'):LeV g w g' w':=⟨h.blk,h.tok,h.fz,h.sz,h.oth⟩
theorem SIok.mono {g g':Gh}{w w':World}(hle:LeV g w g' w'){A:Option Addr}{n cap:Nat}{i:SI}(h:SIok g A n cap i):SIok g' A n cap i:=by
 cases i with
 | any=>trivial
 | nil=>exact h
 | full=>exact h
 | isn=>exact h
 | nz=>exact h
 | tok k =>
  obtain⟨b,l,c,h1,h2,h3⟩:=h;obtain⟨b',l',c',k1,k2,k3⟩:=hle.tok _ _ _ _ h1;refine⟨b',l',c',k1,by omega,fun e=>?_⟩;have e1:l=l':=by omega
  have e2:=h3 (by omega);have e3:=k3 e1;rw[e2.1,e2.2,e3.1,e3.2];exact⟨rfl,rfl⟩
theorem rH {g g':Gh}{w w':World}(hle:LeV g w g' w'){k n:Nat}{Q:Nat→Nat→Prop}(h:∃b l c,g.tok k=some (b,l,c)∧n≤l∧(n=l→Q b c)):∃b l c,g'.tok k=some (b,l,c)∧n≤l∧(n=l→Q b c):=by
 obtain⟨b,l,c,h1,h2,h3⟩:=h;obtain⟨b',l',c',k1,k2,k3⟩:=hle.tok _ _ _ _ h1;refine⟨b',l',c',k1,by omega,fun e=>?_⟩;have e1:l=l':=by omega
 have e2:=h3 (by omega);have e3:=k3 e1;rw[← e3.1,← e3.2];exact e2
theorem Rep.monoV {g g':Gh}{w w':World}(hle:LeV g w g' w'){x:Value}{v:V}(h:Rep g w x v):Rep g' w' x v:=by
 induction h with
 | c x=>exact .c x
 | agg xs cs hn h1 _ ih=>exact .agg xs cs hn h1 ih
 | tup xs cs hn _ ih=>exact .tup xs cs hn ih
 | sl A n cap us i z cv hn hc hzz hA _ hi ih =>
  refine .sl A n cap us i z cv hn hc hzz (fun hne=>?_) ih (hi.mono hle);obtain⟨b,o,e,hc⟩:=hA hne;exact⟨b,o,e,fun j hj=>⟨(hle.fz _ _ (hc j hj).1).1,(hle.fz _ _ (hc j hj).1).2.trans (hc j hj).2.1,(hc j hj).2.2⟩⟩
 | ptr b o o' cs off cv ho hA _ ih =>
  exact .ptr b o o' cs off cv ho (fun j hj=>⟨(hle.fz _ _ (hA j hj).1).1,(hle.fz _ _ (hA j hj).1).2.trans (hA j hj).2.1,(hA j hj).2.2⟩) ih
 | ref id b o h=>exact .ref id b o (hle.blk _ _ h)
 | bnd f id b o h=>exact .bnd f id b o (hle.blk _ _ h)
 | clo f xs cs hn _ ih=>exact .clo f xs cs hn ih
 | row A n cap id off z hc h=>exact .row A n cap id off z hc fun hn=>(h hn).imp fun b hb=>⟨hb.1,hle.blk _ _ hb.2⟩
 | buf A n cap id hc h =>
  obtain⟨b,cc,T,h1,h2,h3,h4⟩:=h;obtain⟨c',k1,k2⟩:=hle.sz b cc T h3;exact .buf A n cap id hc ⟨b,c',T,h1,hle.blk _ _ h2,k1,by omega⟩
 | tsl A n cap k z hc hA h=>exact .tsl A n cap k z hc hA (rH hle (Q:=fun b c=>A=some ⟨b,0,none⟩∧cap=c) h)
 | tref A k n o h=>exact .tref A k n o (rH hle (Q:=fun b c=>A=⟨b,o,none⟩) h)
 | top x=>exact .top x
 | fmp b es ck ks vs hb hf hk hn _ ih =>
  obtain⟨es0,hb,hp⟩:=hb;obtain⟨o',a1,_,_,a4⟩:=hle.oth b _ hb rfl;rw[a4 es0 ck rfl hf] at a1;exact .fmp b es ck ks vs ⟨es0,a1,hp⟩ (hle.fz _ _ hf).1 hk hn ih
 | mref id b h=>exact .mref id b (hle.blk _ _ h)
 | yld l k y m tmps caps hb hl hn _ ih=>exact .yld l k y m tmps caps (hle.blk _ _ hb) (hl.mono hle.oth) hn ih
theorem Rep.mono {g g':Gh}{w w':World}(hle:Le g w g' w'){x:Value}{v:V}(h:Rep g w x v):Rep g' w' x v:=h.monoV hle.v
def Gh.res (g:Gh) (n:Nat):Gh:={ g with blk:=fun id=>if id<n then g.blk id else none,tok:=fun id=>if id<n then g.tok id else none }
theorem aU {n:Nat}:∀{cs:List V},V.lows n cs=true→∀i (hi:i<cs.length),V.low n cs[i]=true
 | [],_,i,hi=>absurd hi (Nat.not_lt_zero _)
 | c::cs,h,i,hi=>by
  simp only[V.lows,bT] at h;cases i with
  | zero=>exact h.1
  | succ i=>exact aU h.2 i (by simpa using hi)
theorem b7 {n:Nat}:∀{cs:List V},(∀v∈cs,V.low n v=true)→V.lows n cs=true
 | [],_=>by simp[V.lows]
 | c::cs,h=>by
  simp only[V.lows,bT];exact⟨h c (by simp),b7 fun v hv=>h v (by simp[hv])⟩
theorem eJ {n:Nat}:∀{cs:List V},V.lows n cs=true→∀v∈cs,V.low n v=true
 | [],_,v,hv=>by simp at hv
 | c::cs,h,v,hv=>by
  simp only[V.lows,bT] at h;rcases List.mem_cons.1 hv with rfl|hv
  ·exact h.1
  ·exact eJ h.2 v hv
theorem mB {n:Nat}{v:V}(h:V.low n v=true):∀c∈v.cells,V.low n c=true:=by
 cases v with
 | agg cs=>simp only[V.low] at h;exact eJ h
 | _=>intro c hc;simp only[V.cells,List.mem_singleton] at hc;rw[hc];exact h
theorem iU {n:Nat}{us:List V}(h:V.lows n us=true):∀c∈aG us,V.low n c=true:=by
 intro c hc;obtain⟨u,hu,hcu⟩:=List.mem_flatMap.1 hc;exact mB (eJ h u hu) c hcu
theorem Rep.res {g:Gh}{w:World}{n:Nat}{x:Value}{v:V}(h:Rep g w x v) (hl:V.low n v=true):Rep (g.res n) w x v:=by
 induction h with
 | c x=>exact .c x
 | agg xs cs hn h1 _ ih =>
  simp only[V.low] at hl;exact .agg xs cs hn h1 fun i hi hj=>ih i hi hj (aU hl i hj)
 | tup xs cs hn _ ih =>
  simp only[V.low] at hl;exact .tup xs cs hn fun i hi hj=>ih i hi hj (aU hl i hj)
 | sl A m cap us i z cv hn hc hzz hA _ hi ih =>
  simp only[V.low,bT] at hl;refine .sl A m cap us i z cv hn hc hzz hA (fun j hj=>ih j hj (iU hl.1 _ (List.getElem_mem _))) ?_;cases i with
  | any=>trivial
  | nil=>exact hi
  | full=>exact hi
  | isn=>exact hi
  | nz=>exact hi
  | tok k =>
   obtain⟨b,l,c,h1,h2⟩:=hi;have hk:k<n:=by simpa[SI.low] using hl.2
   exact⟨b,l,c,by simp[Gh.res,hk,h1],h2⟩
 | ptr b o o' cs off cv ho hA _ ih =>
  simp only[V.low] at hl;exact .ptr b o o' cs off cv ho hA fun j hj=>ih j hj (aU hl j hj)
 | ref id b o h =>
  have hk:id<n:=by simpa[V.low] using hl
  exact .ref id b o (by simp[Gh.res,hk,h])
 | bnd f id b o h =>
  have hk:id<n:=by simpa[V.low] using hl
  exact .bnd f id b o (by simp[Gh.res,hk,h])
 | clo f xs cs hn _ ih =>
  simp only[V.low] at hl;exact .clo f xs cs hn fun i hi hj=>ih i hi hj (aU hl i hj)
 | row A m cap id off z hc h =>
  refine .row A m cap id off z hc fun hn=>(h hn).imp fun b hb=>⟨hb.1,?_⟩
  have hk:id<n:=by simp[V.low] at hl;omega
  simp[Gh.res,hk,hb.2]
 | buf A m cap id hc h =>
  have hk:id<n:=by simpa[V.low] using hl
  obtain⟨b,cc,T,h1,h2,h3,h4⟩:=h;exact .buf A m cap id hc ⟨b,cc,T,h1,by simp[Gh.res,hk,h2],h3,h4⟩
 | tsl A m cap k z hc hA h =>
  have hk:k<n:=by simpa[V.low] using hl
  obtain⟨b,l,c,h1,h2⟩:=h;exact .tsl A m cap k z hc hA ⟨b,l,c,by simp[Gh.res,hk,h1],h2⟩
 | tref A k m o h =>
  have hk:k<n:=by simpa[V.low] using hl
  obtain⟨b,l,c,h1,h2⟩:=h;exact .tref A k m o ⟨b,l,c,by simp[Gh.res,hk,h1],h2⟩
 | top x=>exact .top x
 | fmp b es ck ks vs hb hf hk hn _ ih =>
  simp only[V.low] at hl;exact .fmp b es ck ks vs hb hf hk hn fun i hi hj=>ih i hi hj (aU hl i hj)
 | mref id b h =>
  have hk:id<n:=by simpa[V.low] using hl
  exact .mref id b (by simp[Gh.res,hk,h])
 | yld l k y mm tmps caps hb hl' hn _ ih =>
  simp only[V.low,bT,dT] at hl;exact .yld l k y mm tmps caps (by simp[Gh.res,hl.1,hb]) hl' hn fun i hi hj=>ih i hi hj (aU hl.2 i hj)
theorem Rep.bare {g g':Gh}{w:World}{x:Value}{v:V}(h:Rep g w x v) (hl:V.low 0 v=true) (hf:∀b o,g.fz b o→g'.fz b o):Rep g' w x v:=by
 induction h with
 | c x=>exact .c x
 | agg xs cs hn h1 _ ih =>
  simp only[V.low] at hl;exact .agg xs cs hn h1 fun i hi hj=>ih i hi hj (aU hl i hj)
 | tup xs cs hn _ ih =>
  simp only[V.low] at hl;exact .tup xs cs hn fun i hi hj=>ih i hi hj (aU hl i hj)
 | sl A m cap us i z cv hn hc hzz hA _ hi ih =>
  simp only[V.low,bT] at hl;refine .sl A m cap us i z cv hn hc hzz (fun hne=>?_) (fun j hj=>ih j hj (iU hl.1 _ (List.getElem_mem _))) ?_
  ·obtain⟨b,o,e,h2⟩:=hA hne;exact⟨b,o,e,fun j hj=>⟨hf _ _ (h2 j hj).1,(h2 j hj).2⟩⟩
  ·cases i with
   | any=>trivial
   | nil=>exact hi
   | full=>exact hi
   | isn=>exact hi
   | nz=>exact hi
   | tok k=>simp[SI.low] at hl
 | ptr b o o' cs off cv ho hA _ ih =>
  simp only[V.low] at hl;exact .ptr b o o' cs off cv ho (fun j hj=>⟨hf _ _ (hA j hj).1,(hA j hj).2⟩) fun j hj=>ih j hj (aU hl j hj)
 | ref id b o h=>simp[V.low] at hl
 | bnd f id b o h=>simp[V.low] at hl
 | clo f xs cs hn _ ih =>
  simp only[V.low] at hl;exact .clo f xs cs hn fun i hi hj=>ih i hi hj (aU hl i hj)
 | row A m cap id off z hc h =>
  have hm:m=0:=by simpa[V.low] using hl
  exact .row A m cap id off z hc fun hn=>absurd hm hn
 | buf A m cap id hc h=>simp[V.low] at hl
 | tsl A m cap k z hc hA h=>simp[V.low] at hl
 | tref A k m o h=>simp[V.low] at hl
 | top x=>exact .top x
 | fmp b es ck ks vs hb hfz hk hn _ ih =>
  simp only[V.low] at hl;exact .fmp b es ck ks vs hb (hf _ _ hfz) hk hn fun i hi hj=>ih i hi hj (aU hl i hj)
 | mref id b h=>simp[V.low] at hl
 | yld l k y m tmps caps hb hl' hn _ ih=>simp[V.low] at hl
def TokAt (g:Gh) (w:World) (h:List O) (id b n z:Nat) (c:Array Value):Prop :=
 h[id]?=some (.tok n z)∨∃cs,h[id]?=some (.tokc n z cs)∧cs.length=n*z∧(∀j (hj:j<cs.length) (hc:j<c.size),Rep g w c[j] cs[j]∧(c[j]).oneCell'=true)∧∀o,¬g.fz b o
theorem TokAt.lt {g:Gh}{w:World}{h:List O}{id b n z:Nat}{c:Array Value}(t:TokAt g w h id b n z c):id<h.length:=by
 rcases t with t|⟨cs,t,_⟩
 ·exact (gS.1 t).1
 ·exact (gS.1 t).1
theorem TokAt.go {g g':Gh}{w w':World}{h h':List O}{id b n z:Nat}{c:Array Value}(t:TokAt g w h id b n z c) (hle:Le g w g' w') (hh:h'[id]?=h[id]?) (hf:∀o,g'.fz b o→g.fz b o):TokAt g' w' h' id b n z c:=by
 rcases t with t|⟨cs,t1,t2,t3,t4⟩
 ·exact .inl (hh.trans t)
 ·exact .inr ⟨cs,hh.trans t1,t2,fun j hj hc=>⟨(t3 j hj hc).1.mono hle,(t3 j hj hc).2⟩,fun o ho=>t4 o (hf o ho)⟩
theorem TokAt.map {g g':Gh}{w w':World}{h h':List O}{id id' b n z:Nat}{c:Array Value}(t:TokAt g w h id b n z c) (hh:h'[id']?=h[id]?) (hr:∀{x:Value}{v:V},Rep g w x v→Rep g' w' x v) (hf:∀o,g'.fz b o→g.fz b o):TokAt g' w' h' id' b n z c:=by
 rcases t with t|⟨cs,t1,t2,t3,t4⟩
 ·exact .inl (hh.trans t)
 ·exact .inr ⟨cs,hh.trans t1,t2,fun j hj hc=>⟨hr (t3 j hj hc).1,(t3 j hj hc).2⟩,fun o ho=>t4 o (hf o ho)⟩
theorem TokAt.mapL {g g':Gh}{w w':World}{h h':List O}{id id' b n z m:Nat}{c:Array Value}(t:TokAt g w h id b n z c) (hh:h'[id']?=h[id]?) (hr:∀{x:Value}{v:V},Rep g w x v→V.low m v=true→Rep g' w' x v) (hl:∀o,h[id]?=some o→O.low m o=true) (hf:∀o,g'.fz b o→g.fz b o):TokAt g' w' h' id' b n z c:=by
 rcases t with t|⟨cs,t1,t2,t3,t4⟩
 ·exact .inl (hh.trans t)
 ·have h7:=hl _ t1;exact .inr ⟨cs,hh.trans t1,t2,fun j hj hc=>⟨hr (t3 j hj hc).1 (aU h7 j hj),(t3 j hj hc).2⟩,fun o ho=>t4 o (hf o ho)⟩
theorem TokAt.not_cells {g:Gh}{w:World}{h:List O}{id b n z:Nat}{c:Array Value}(t:TokAt g w h id b n z c){cs:List V}(e:h[id]?=some (.cells cs)):False:=by
 rcases t with t|⟨cs',t,_⟩<;>rw[e] at t<;>simp at t
theorem TokAt.tok {g:Gh}{w:World}{h:List O}{id b n z n' z':Nat}{c:Array Value}(t:TokAt g w h id b n z c) (e:h[id]?=some (.tok n' z')):n'=n∧z'=z:=by
 rcases t with t|⟨cs',t,_⟩<;>rw[e] at t
 ·simp only[sI,O.tok.injEq] at t;exact t
 ·simp at t
def nU:Nat→Loop→Prop
 | 0,L=>L.state=.ready∧L.pending=none
 | 1,L=>L.state=.busy
 | 2,_=>True
 | 3,L=>L.state=.done∧L.pending=some .ret
 | n+4,L=>L.state=.done∧L.pending=some (.exit n)
def AG (g:Gh) (w:World) (h:List O) (id b:Nat):Prop:=∃cs c T,h[id]?=some (.cells cs)∧w.heap[b]?=some (.cells c T (0,0))∧cs.length≤c.size ∧
  (∀j (hj:j<cs.length) (hc:j<c.size),Rep g w c[j] cs[j]∧(c[j]).oneCell'=true)∧∀o,¬g.fz b o
def OthAt (g:Gh) (w:World) (h:List O) (id b:Nat):Prop :=
 (∃s L,h[id]?=some (.loop s)∧w.heap[b]?=some (.loop L)∧nU s L∧∀o,¬g.fz b o) ∨
 ∃ks vs es ck,h[id]?=some (.mapo ks vs)∧w.heap[b]?=some (.map es ck)∧es.toList.map (·.key)=ks∧es.size=vs.length ∧
  (∀i (hi:i<es.size) (hj:i<vs.length),Rep g w (es[i]).val vs[i])∧∀o,¬g.fz b o
theorem OthAt.lt {g:Gh}{w:World}{h:List O}{id b:Nat}(t:OthAt g w h id b):id<h.length∧b<w.heap.size:=by
 rcases t with⟨s,L,t1,t2,_⟩|⟨ks,vs,es,ck,t1,t2,_⟩
 ·exact⟨(gS.1 t1).1,(Array.getElem?_eq_some_iff.1 t2).1⟩
 ·exact⟨(gS.1 t1).1,(Array.getElem?_eq_some_iff.1 t2).1⟩
theorem OthAt.not_cells {g:Gh}{w:World}{h:List O}{id b:Nat}(t:OthAt g w h id b){cs:List V}(e:h[id]?=some (.cells cs)):False:=by
 rcases t with⟨s,L,t1,_⟩|⟨ks,vs,es,ck,t1,_⟩<;>rw[e] at t1<;>simp at t1
theorem OthAt.not_tok {g:Gh}{w:World}{h:List O}{id b:Nat}(t:OthAt g w h id b){n z:Nat}(e:h[id]?=some (.tok n z)):False:=by
 rcases t with⟨s,L,t1,_⟩|⟨ks,vs,es,ck,t1,_⟩<;>rw[e] at t1<;>simp at t1
theorem OthAt.not_tokc {g:Gh}{w:World}{h:List O}{id b:Nat}(t:OthAt g w h id b){n z:Nat}{cs:List V}(e:h[id]?=some (.tokc n z cs)):False:=by
 rcases t with⟨s,L,t1,_⟩|⟨ks,vs,es,ck,t1,_⟩<;>rw[e] at t1<;>simp at t1
theorem OthAt.noFz {g:Gh}{w:World}{h:List O}{id b:Nat}(t:OthAt g w h id b):∀o,¬g.fz b o:=by
 rcases t with⟨s,L,_,_,_,t⟩|⟨ks,vs,es,ck,_,_,_,_,_,t⟩<;>exact t
theorem OthAt.map {g g':Gh}{w w':World}{h h':List O}{id id' b:Nat}(t:OthAt g w h id b) (hh:h'[id']?=h[id]?) (hb:w'.heap[b]?=w.heap[b]?) (hr:∀{x:Value}{v:V},Rep g w x v→Rep g' w' x v)
  (hf:∀o,g'.fz b o→g.fz b o):OthAt g' w' h' id' b:=by
 rcases t with⟨s,L,t1,t2,t3,t4⟩|⟨ks,vs,es,ck,t1,t2,t3,t4,t5,t6⟩
 ·exact .inl ⟨s,L,hh.trans t1,hb.trans t2,t3,fun o k=>t4 o (hf o k)⟩
 ·exact .inr ⟨ks,vs,es,ck,hh.trans t1,hb.trans t2,t3,t4,fun i hi hj=>hr (t5 i hi hj),fun o k=>t6 o (hf o k)⟩
theorem OthAt.mapL {g g':Gh}{w w':World}{h h':List O}{id id' b m:Nat}(t:OthAt g w h id b) (hh:h'[id']?=h[id]?) (hb:w'.heap[b]?=w.heap[b]?) (hr:∀{x:Value}{v:V},Rep g w x v→V.low m v=true→Rep g' w' x v)
  (hl:∀o,h[id]?=some o→O.low m o=true) (hf:∀o,g'.fz b o→g.fz b o):OthAt g' w' h' id' b:=by
 rcases t with⟨s,L,t1,t2,t3,t4⟩|⟨ks,vs,es,ck,t1,t2,t3,t4,t5,t6⟩
 ·exact .inl ⟨s,L,hh.trans t1,hb.trans t2,t3,fun o k=>t4 o (hf o k)⟩
 ·exact .inr ⟨ks,vs,es,ck,hh.trans t1,hb.trans t2,t3,t4,fun i hi hj=>hr (t5 i hi hj) (aU (hl _ t1) i hj),fun o k=>t6 o (hf o k)⟩
theorem OthAt.go {g g':Gh}{w w':World}{h h':List O}{id b:Nat}(t:OthAt g w h id b) (hle:Le g w g' w') (hh:h'[id]?=h[id]?) (hb:w'.heap[b]?=w.heap[b]?) (hf:∀o,g'.fz b o→g.fz b o):OthAt g' w' h' id b :=
 t.map hh hb (fun r=>r.mono hle) hf
def GP (g:Gh) (w:World):Prop:=∀n v,gvs n=some v→Rep g w (.pointer (some ⟨n,0,none⟩)) v
theorem CQ {n:Nat}{v:V}(h:gvs n=some v):V.low 0 v=true:=by
 unfold gvs at h;split at h<;>first|(cases h;done)|(simp only[sI] at h;subst h;simp[V.low,V.lows,SI.low])
structure AgOk (g:Gh) (w:World):Prop where
 al:∀b o,g.fz b o→b<w.heap.size
 gl:GP g w
theorem AgOk.fzs {g g':Gh}{w:World}(h:AgOk g w) (h1:∀b o,g.fz b o→g'.fz b o) (h2:∀b o,g'.fz b o→b<w.heap.size):AgOk g' w :=
 ⟨h2,fun n v e=>(h.gl n v e).bare (CQ e) h1⟩
theorem AgOk.eqv {g g':Gh}{w:World}(h:AgOk g w) (h1:g'.fz=g.fz):AgOk g' w:=h.fzs (fun b o e=>by rw[h1];exact e) fun b o e=>h.al b o (by rw[← h1];exact e)
theorem AgOk.go {g g':Gh}{w w':World}(h:AgOk g w) (hle:Le g w g' w') (h2:∀b o,g'.fz b o→b<w'.heap.size):AgOk g' w' :=
 ⟨h2,fun n v e=>(h.gl n v e).mono hle⟩
structure HOk (g:Gh) (w:World) (h:List O):Prop where
 obj:∀id b,g.blk id=some b→AG g w h id b∨OthAt g w h id b
 tok:∀id b n cap,g.tok id=some (b,n,cap)→∃z c T,TokAt g w h id b n z c∧w.heap[b]?=some (.cells c T (0,0))∧n≤cap∧cap*z≤c.size∧∀o,g.fz b o→o<n*z
 inj:∀id id' b,g.blk id=some b→g.blk id'=some b→id=id'
 tinj:∀id id' b n c n' c',g.tok id=some (b,n,c)→g.tok id'=some (b,n',c')→id=id'
 bt:∀id id' b n c,g.blk id=some b→g.tok id'=some (b,n,c)→False
 ag:AgOk g w
theorem HOk.al {g:Gh}{w:World}{h:List O}(H:HOk g w h):∀b o,g.fz b o→b<w.heap.size:=H.ag.al
theorem HOk.cellsOf {g:Gh}{w:World}{h:List O}(H:HOk g w h){id b:Nat}(e:g.blk id=some b){cs:List V}(hid:h[id]?=some (.cells cs)):AG g w h id b :=
 (H.obj id b e).resolve_right fun t=>t.not_cells hid
theorem HOk.noFz {g:Gh}{w:World}{h:List O}(H:HOk g w h){id b:Nat}(e:g.blk id=some b):∀o,¬g.fz b o:=by
 rcases H.obj _ _ e with⟨_,_,_,_,_,_,_,t⟩|t
 ·exact t
 ·exact t.noFz
theorem HOk.not_tok {g:Gh}{w:World}{h:List O}(H:HOk g w h){id b:Nat}(e:g.blk id=some b){n z:Nat}:h[id]?≠some (.tok n z):=by
 intro k;rcases H.obj _ _ e with⟨_,_,_,t,_⟩|t
 ·rw[k] at t;simp at t
 ·exact t.not_tok k
theorem HOk.not_tokc {g:Gh}{w:World}{h:List O}(H:HOk g w h){id b:Nat}(e:g.blk id=some b){n z:Nat}{cs:List V}:h[id]?≠some (.tokc n z cs):=by
 intro k;rcases H.obj _ _ e with⟨_,_,_,t,_⟩|t
 ·rw[k] at t;simp at t
 ·exact t.not_tokc k
theorem HOk.blk_lt {g:Gh}{w:World}{h:List O}(H:HOk g w h){id b:Nat}(e:g.blk id=some b):id<h.length∧b<w.heap.size:=by
 rcases H.obj _ _ e with⟨cs,c,T,h1,h2,_⟩|t
 ·exact⟨(gS.1 h1).1,(Array.getElem?_eq_some_iff.1 h2).1⟩
 ·exact t.lt
theorem HOk.tok_lt {g:Gh}{w:World}{h:List O}(H:HOk g w h){id b n c:Nat}(e:g.tok id=some (b,n,c)):id<h.length∧b<w.heap.size:=by
 obtain⟨z,c,T,h1,h2,_⟩:=H.tok _ _ _ _ e;exact⟨h1.lt,(Array.getElem?_eq_some_iff.1 h2).1⟩
theorem HOk.owns_lt {g:Gh}{w:World}{h:List O}(H:HOk g w h){b:Nat}(e:g.owns b):b<w.heap.size:=by
 rcases e with⟨id,e⟩|⟨k,l,c,e⟩
 ·exact (H.blk_lt e).2
 ·exact (H.tok_lt e).2
theorem HOk.blk_none {g:Gh}{w:World}{h:List O}(H:HOk g w h){id:Nat}(hi:h.length≤id):g.blk id=none:=by
 cases e:g.blk id with
 | none=>rfl
 | some b=>have:=(H.blk_lt e).1;omega
theorem HOk.tok_none {g:Gh}{w:World}{h:List O}(H:HOk g w h){id:Nat}(hi:h.length≤id):g.tok id=none:=by
 cases e:g.tok id with
 | none=>rfl
 | some p=>obtain⟨b,n,c⟩:=p;have:=(H.tok_lt e).1;omega
theorem HOk.append {g:Gh}{w:World}{h:List O}(H:HOk g w h) (pre:List O):HOk g w (h++pre) where
 obj id b e:=by
  rcases H.obj _ _ e with⟨cs,c,T,h1,h2⟩|t
  ·exact .inl ⟨cs,c,T,by rw[aL (H.blk_lt e).1];exact h1,h2⟩
  ·exact .inr (t.go (Le.refl g w) (aL (H.blk_lt e).1) rfl fun _ h=>h)
 tok id b n cap e:=by
  obtain⟨z,c,T,h1,h2⟩:=H.tok _ _ _ _ e;exact⟨z,c,T,h1.go (Le.refl g w) (aL (H.tok_lt e).1) (fun _ h=>h),h2⟩
 inj:=H.inj
 tinj:=H.tinj
 bt:=H.bt
 ag:=H.ag
theorem HOk.res {g:Gh}{w:World}{h:List O}(H:HOk g w h) (n:Nat) (hl:(h.take n).all (O.low n)=true):HOk (g.res n) w (h.take n) where
 obj id b e:=by
  have hid:id<n:=by
   rcases Nat.lt_or_ge id n with h1|h1
   ·exact h1
   ·simp[Gh.res,Nat.not_lt.2 h1] at e
  have e':g.blk id=some b:=by simpa[Gh.res,hid] using e
  rcases H.obj _ _ e' with⟨cs,c,T,h1,h2,h3,h4,h5⟩|t
  ·have h6:(h.take n)[id]?=some (.cells cs):=by rw[List.getElem?_take,if_pos hid];exact h1
   have h7:=List.all_eq_true.1 hl _ (List.mem_of_getElem? h6);exact .inl ⟨cs,c,T,h6,h2,h3,fun j hj hc=>⟨(h4 j hj hc).1.res (aU h7 j hj),(h4 j hj hc).2⟩,h5⟩
  ·have h6:(h.take n)[id]?=h[id]?:=by rw[List.getElem?_take,if_pos hid]
   exact .inr (t.mapL h6 rfl (fun r hv=>r.res hv) (fun o ho=>List.all_eq_true.1 hl _ (List.mem_of_getElem? (h6.trans ho))) fun _ h=>h)
 tok id b m cap e:=by
  have hid:id<n:=by
   rcases Nat.lt_or_ge id n with h1|h1
   ·exact h1
   ·simp[Gh.res,Nat.not_lt.2 h1] at e
  have e':g.tok id=some (b,m,cap):=by simpa[Gh.res,hid] using e
  obtain⟨z,c,T,h1,h2⟩:=H.tok _ _ _ _ e';have hh:(h.take n)[id]?=h[id]?:=by rw[List.getElem?_take,if_pos hid]
  refine⟨z,c,T,?_,h2⟩;rcases h1 with h1|⟨cs,h1,h3,h4,h5⟩
  ·exact .inl (hh.trans h1)
  ·have h6:=hh.trans h1;have h7:=List.all_eq_true.1 hl _ (List.mem_of_getElem? h6);exact .inr ⟨cs,h6,h3,fun j hj hc=>⟨(h4 j hj hc).1.res (aU h7 j hj),(h4 j hj hc).2⟩,h5⟩
 inj id id' b e e':=H.inj id id' b (by by_cases h1:id<n<;>simp_all [Gh.res]) (by by_cases h1:id'<n<;>simp_all [Gh.res])
 tinj id id' b m c m' c' e e':=H.tinj id id' b m c m' c' (by by_cases h1:id<n<;>simp_all [Gh.res]) (by by_cases h1:id'<n<;>simp_all [Gh.res])
 bt id id' b m c e e':=H.bt id id' b m c (by by_cases h1:id<n<;>simp_all [Gh.res]) (by by_cases h1:id'<n<;>simp_all [Gh.res])
 ag:=H.ag.eqv rfl
theorem Rep.vw1 {g:Gh}{w:World}{x:Value}{v:V}(h:Rep g w x v):Rep g w x v.vw1:=by
 cases h with
 | sl A n cap us i z cv hn hc hzz hA h hi=>exact .sl A n cap us .any z cv hn hc hzz hA h trivial
 | c x=>exact .c x
 | agg xs cs hn h1 h=>exact .agg xs cs hn h1 h
 | tup xs cs hn h=>exact .tup xs cs hn h
 | ptr b o o' cs off cv ho hA h=>exact .ptr b o o' cs off cv ho hA h
 | ref id b o h=>exact .ref id b o h
 | bnd f id b o h=>exact .bnd f id b o h
 | clo f xs cs hn h=>exact .clo f xs cs hn h
 | row A m cap id off z hc h=>exact .row A m cap id off z hc h
 | buf A m cap id hc h=>exact .buf A m cap id hc h
 | tsl A n cap k z hc hA h=>exact .tsl A n cap k z hc hA h
 | tref A k n o h=>exact .tref A k n o h
 | top x=>exact .top x
 | fmp b es ck ks vs hb hf hk hn h=>exact .fmp b es ck ks vs hb hf hk hn h
 | mref id b h=>exact .mref id b h
 | yld l k y m tmps caps hb hl hn h=>exact .yld l k y m tmps caps hb hl hn h
theorem Rep.vw2 {g:Gh}{w:World}{x:Value}{v:V}(h:Rep g w x v):Rep g w x v.vw2:=by
 cases v with
 | agg cs =>
  cases h with
  | agg xs cs hn h1 h=>exact .agg xs _ (by simpa using hn) h1 fun i hi hj=>by rw[List.getElem_map];exact (h i hi (by simpa using hj)).vw1
 | _=>exact h.vw1
theorem Rep.vwf {g:Gh}{w:World}{x:Value}{v:V}(h:Rep g w x v):Rep g w x v.vwf:=by
 cases v with
 | sl us i=>cases i <;> first | exact h | exact h.vw2
 | _=>exact h.vw2
theorem Rep.vw {g:Gh}{w:World}{x:Value}{v:V}(h:Rep g w x v):Rep g w x v.vw:=by
 cases v with
 | tup cs =>
  cases h with
  | tup xs cs hn h=>exact .tup xs _ (by simpa using hn) fun i hi hj=>by rw[List.getElem_map];exact (h i hi (by simpa using hj)).vw2
 | sl us i=>cases i <;> first | exact h | exact h.vwf
 | _=>exact h.vwf
theorem Rep.vwt {g:Gh}{w:World}{x:Value}{v:V}(h:Rep g w x v):Rep g w x v.vwt:=by
 cases v with
 | sl us i=>exact h
 | _=>exact h.vw2
theorem Rep.vwr {g:Gh}{w:World}{x:Value}{v:V}(h:Rep g w x v):Rep g w x v.vwr:=by
 cases v with
 | sl us i=>exact h
 | _=>exact h.vw
theorem Rep.cells {g:Gh}{w:World}{x:Value}{v:V}(h:Rep g w x v) (ho:okc v=true) :
  x.cells.size=v.cells.length∧∀j (hj:j<v.cells.length) (hc:j<x.cells.size),Rep g w (x.cells[j]) v.cells[j]∧(x.cells[j]).oneCell'=true:=by
 cases h with
 | agg xs cs hn h1 h=>exact⟨hn,fun j hj hc=>⟨h j hc hj,h1 j hc⟩⟩
 | tup xs cs hn h=>simp[okc] at ho
 | c x =>
  simp only[okc] at ho;have:x.cells=#[x]:=by cases x<;>first|rfl|simp[Value.oneCell'] at ho
  refine⟨by rw[this];rfl,fun j hj hc=>?_⟩;have hj0:j=0:=by simp[V.cells] at hj;omega
  subst hj0;simp only[this];exact⟨.c x,ho⟩
 | sl A n cap us i z cv hn hc hzz hA h hi =>
  refine⟨rfl,fun j hj hc'=>?_⟩;have hj0:j=0:=by simp[V.cells] at hj;omega
  subst hj0;exact⟨.sl A n cap us i z cv hn hc hzz hA h hi,rfl⟩
 | ptr b o o' cs off cv he hA h =>
  refine⟨rfl,fun j hj hc'=>?_⟩;have hj0:j=0:=by simp[V.cells] at hj;omega
  subst hj0;exact⟨.ptr b o o' cs off cv he hA h,rfl⟩
 | ref id b o h =>
  refine⟨rfl,fun j hj hc'=>?_⟩;have hj0:j=0:=by simp[V.cells] at hj;omega
  subst hj0;exact⟨.ref id b o h,rfl⟩
 | bnd f id b o h =>
  refine⟨rfl,fun j hj hc'=>?_⟩;have hj0:j=0:=by simp[V.cells] at hj;omega
  subst hj0;exact⟨.bnd f id b o h,rfl⟩
 | clo f xs cs hn h =>
  refine⟨rfl,fun j hj hc'=>?_⟩;have hj0:j=0:=by simp[V.cells] at hj;omega
  subst hj0;exact⟨.clo f xs cs hn h,rfl⟩
 | row A m cap id off z hc h =>
  refine⟨rfl,fun j hj hc'=>?_⟩;have hj0:j=0:=by simp[V.cells] at hj;omega
  subst hj0;exact⟨.row A m cap id off z hc h,rfl⟩
 | buf A m cap id hc h =>
  refine⟨rfl,fun j hj hc'=>?_⟩;have hj0:j=0:=by simp[V.cells] at hj;omega
  subst hj0;exact⟨.buf A m cap id hc h,rfl⟩
 | tsl A n cap k z hc hA h =>
  refine⟨rfl,fun j hj hc'=>?_⟩;have hj0:j=0:=by simp[V.cells] at hj;omega
  subst hj0;exact⟨.tsl A n cap k z hc hA h,rfl⟩
 | tref A k n o h =>
  refine⟨rfl,fun j hj hc'=>?_⟩;have hj0:j=0:=by simp[V.cells] at hj;omega
  subst hj0;exact⟨.tref A k n o h,rfl⟩
 | fmp b es ck ks vs hb hf hk hn h =>
  refine⟨rfl,fun j hj hc'=>?_⟩;have hj0:j=0:=by simp[V.cells] at hj;omega
  subst hj0;exact⟨.fmp b es ck ks vs hb hf hk hn h,rfl⟩
 | mref id b h =>
  refine⟨rfl,fun j hj hc'=>?_⟩;have hj0:j=0:=by simp[V.cells] at hj;omega
  subst hj0;exact⟨.mref id b h,rfl⟩
 | yld l k y m tmps caps hb hl hn h =>
  refine⟨rfl,fun j hj hc'=>?_⟩;have hj0:j=0:=by simp[V.cells] at hj;omega
  subst hj0;exact⟨.yld l k y m tmps caps hb hl hn h,rfl⟩
 | top x=>simp[okc] at ho
structure Grew (w w':World) (o:Obj):Prop where
 heap:w'.heap=w.heap.push o
 tape:w'.tape=w.tape
 os:w'.os=w.os
 output:w'.output=w.output
theorem Grew.alloc (w:World) (o:Obj):Grew w (w.alloc o) o:=⟨rfl,rfl,rfl,rfl⟩
theorem Grew.drewAlloc (w:World) (o:Obj):Grew w (w.drew.alloc o) o:=⟨rfl,rfl,rfl,rfl⟩
section
variable {w w':World}{o:Obj}
theorem Grew.size (h:Grew w w' o):w'.heap.size=w.heap.size+1:=by rw[h.heap,Array.size_push]
theorem Grew.old (h:Grew w w' o){b:Nat}(hb:b<w.heap.size):w'.heap[b]?=w.heap[b]?:=by
 rw[h.heap,Array.getElem?_push_lt hb,Array.getElem?_eq_getElem hb]
theorem Grew.new (h:Grew w w' o):w'.heap[w.heap.size]?=some o:=by rw[h.heap];simp
theorem cW {b o:Nat}(h:w'.heap[b]?=w.heap[b]?):w'.cell? ⟨b,o,none⟩=w.cell? ⟨b,o,none⟩:=by simp[World.cell?,h]
end
theorem bW {w:World}{b j:Nat}{c:Array Value}{T:TypeId}{fr:Nat × Nat}(h:w.heap[b]?=some (.cells c T fr)):w.cell? ⟨b,j,none⟩=c[j]?:=by simp[World.cell?,h]
theorem iO {w:World}{b:Nat}{c c':Array Value}{T:TypeId}(hb:w.heap[b]?=some (.cells c T (0,0))) (hs:c'.size=c.size) (b':Nat) (c1:Array Value) (T1:TypeId) (e:w.heap[b']?=some (.cells c1 T1 (0,0))) :
  ∃c2,(w.setRow b c').heap[b']?=some (.cells c2 T1 (0,0))∧c2.size=c1.size:=by
 by_cases hbb:b'=b
 ·subst hbb;rw[hb] at e;simp only[sI,Obj.cells.injEq] at e;obtain⟨rfl,rfl,_⟩:=e;exact⟨c',setRow_heap w _ _ c' _ _ hb,hs⟩
 ·exact⟨c1,by rw[setRow_other w b b' c' hbb];exact e,rfl⟩
theorem Le.quiet {g g':Gh}{w w':World}(hb:∀id b,g.blk id=some b→g'.blk id=some b) (ht:∀k p,g.tok k=some p→g'.tok k=some p)
  (hf:∀b o,g.fz b o→g'.fz b o) (hal:∀b o,g.fz b o→b<w.heap.size)
  (hown:∀b,g'.owns b→b<w.heap.size→g.owns b) (hfn:∀b o,g'.fz b o→b<w.heap.size→g.fz b o∨g.owns b)
  (hk:∀b,b<w.heap.size→w'.heap[b]?=w.heap[b]?) (hs:w.heap.size≤w'.heap.size) (h1:w'.tape=w.tape) (h2:w'.os=w.os) (h3:w'.output=w.output):Le g w g' w' :=
 ⟨hb,fun k b l c h=>⟨b,l,c,ht _ _ h,nL _,fun _=>⟨rfl,rfl⟩⟩,fun b o h=>⟨hf _ _ h,cW (hk b (hal _ _ h))⟩,hown,hfn,fun b hlt _=>hk b hlt,hs,h1,h2,h3,fun b c T e=>⟨c,(hk b (Array.getElem?_eq_some_iff.1 e).1).trans e,rfl⟩,Oth.of_same fun b o e _=>(hk b (Array.getElem?_eq_some_iff.1 e).1).trans e⟩
theorem Oth.grew {g:Gh}{w w':World}{o:Obj}(hg:Grew w w' o):Oth g w w':=Oth.of_same fun b o e _=>(hg.old (Array.getElem?_eq_some_iff.1 e).1).trans e
theorem Oth.row {g:Gh}{w:World}{b:Nat}{c c':Array Value}{T:TypeId}(hb:w.heap[b]?=some (.cells c T (0,0))):Oth g w (w.setRow b c') :=
 Oth.of_same fun b' o e k=>(setRow_other w b b' c' fun hbb=>by subst hbb;rw[hb] at e;cases e;cases k).trans e
theorem HOk.drew {g:Gh}{w:World}{h:List O}(H:HOk g w h):Le g w g w.drew∧HOk g w.drew h:=by
 have hle:Le g w g w.drew:=Le.quiet (fun _ _ h=>h) (fun _ _ h=>h) (fun _ _ h=>h) H.al (fun _ h _=>h) (fun _ _ h _=>.inl h) (fun _ _=>rfl) (nL _) rfl rfl rfl;refine⟨hle,?_,fun id b n cap e=>by
  obtain⟨z,c,T,h1,h2⟩:=H.tok _ _ _ _ e;exact⟨z,c,T,h1.go hle rfl (fun _ h=>h),h2⟩,H.inj,H.tinj,H.bt,H.ag.go hle H.al⟩
 intro id b e;rcases H.obj _ _ e with⟨cs,c,T,h1,h2,h3,h4,h5⟩|t
 ·exact .inl ⟨cs,c,T,h1,h2,h3,fun j hj hc=>⟨(h4 j hj hc).1.mono hle,(h4 j hj hc).2⟩,h5⟩
 ·exact .inr (t.go hle rfl rfl fun _ h=>h)
def Gh.setBlk (g:Gh) (id b:Nat):Gh:={ g with blk:=fun i=>if i=id then some b else g.blk i }
theorem HOk.newCells {g:Gh}{w w':World}{h:List O}(H:HOk g w h){id:Nat}(hid:id<h.length) (hb:g.blk id=none) (ht:g.tok id=none){c:Array Value}{T:TypeId}{cs:List V}
  (hg:Grew w w' (.cells c T)) (hl:cs.length≤c.size) (hc:∀j (hj:j<cs.length) (hk:j<c.size),Rep g w c[j] cs[j]∧(c[j]).oneCell'=true) :
  Le g w (g.setBlk id w.heap.size) w'∧HOk (g.setBlk id w.heap.size) w' (h.set id (.cells cs)):=by
 have hne:∀i b,g.blk i=some b→i≠id:=fun i b e e'=>by rw[e',hb] at e;cases e
 have hnt:∀i p,g.tok i=some p→i≠id:=fun i b e e'=>by rw[e',ht] at e;cases e
 have hblk:∀i b,(g.setBlk id w.heap.size).blk i=some b→(i=id∧b=w.heap.size)∨(i≠id∧g.blk i=some b):=by
  intro i b e;by_cases hi:i=id
  ·subst hi;simp[Gh.setBlk] at e;exact .inl ⟨rfl,e.symm⟩
  ·simp[Gh.setBlk,hi] at e;exact .inr ⟨hi,e⟩
 have hle:Le g w (g.setBlk id w.heap.size) w':=by
  refine Le.quiet (fun i b e=>by simp[Gh.setBlk,hne i b e,e]) (fun _ _ h=>h) (fun _ _ h=>h) H.al ?_ (fun _ _ h _=>.inl h) (fun b hb=>hg.old hb) (by rw[hg.size];omega) hg.tape hg.os hg.output;rintro b (⟨i,e⟩|e) hlt
  ·rcases hblk i b e with⟨_,rfl⟩|⟨_,e'⟩
   ·omega
   ·exact .inl ⟨i,e'⟩
  ·exact .inr e
 refine⟨hle,?_,?_,?_,?_,?_,?_⟩
 ·intro i b e;rcases hblk i b e with⟨rfl,rfl⟩|⟨hi,e'⟩
  ·refine .inl ⟨cs,c,T,by rw[sS (by exact hid)],hg.new,hl,fun j hj hk=>⟨(hc j hj hk).1.mono hle,(hc j hj hk).2⟩,fun o hf=>?_⟩;have:=H.al _ _ hf;omega
  ·rcases H.obj _ _ e' with⟨cs',c',T',h1,h2,h3,h4,h5⟩|t
   ·exact .inl ⟨cs',c',T',by rw[sN (Ne.symm hi)];exact h1,by rw[hg.old (H.blk_lt e').2];exact h2,h3,fun j hj hk=>⟨(h4 j hj hk).1.mono hle,(h4 j hj hk).2⟩,h5⟩
   ·exact .inr (t.go hle (sN (Ne.symm hi)) (hg.old (H.blk_lt e').2) fun _ h=>h)
 ·intro i b n cap e;have hi:=hnt i _ e;obtain⟨z,c',T',h1,h2,h3⟩:=H.tok _ _ _ _ e;exact⟨z,c',T',h1.go hle (sN (Ne.symm hi)) (fun _ h=>h),by rw[hg.old (H.tok_lt e).2];exact h2,h3⟩
 ·intro i i' b e e';rcases hblk i b e with⟨rfl,rfl⟩|⟨hi,e1⟩<;>rcases hblk i' _ e' with⟨rfl,h2⟩|⟨hi',e2⟩
  ·rfl
  ·have:=(H.blk_lt e2).2;omega
  ·have:=(H.blk_lt e1).2;omega
  ·exact H.inj _ _ _ e1 e2
 ·exact H.tinj
 ·intro i i' b n c' e e';rcases hblk i b e with⟨rfl,rfl⟩|⟨hi,e1⟩
  ·have:=(H.tok_lt (id:=i') e').2;omega
  ·exact H.bt _ _ _ _ _ e1 e'
 ·refine H.ag.go hle fun b o hf=>?_
  have:=H.al b o hf;rw[hg.size];omega
def Gh.setTok (g:Gh) (k b n cap m:Nat):Gh:={ g with tok:=fun i=>if i=k then some (b,n,cap) else g.tok i,fz:=fun b' o=>g.fz b' o∨(b'=b∧o<m) }
theorem HOk.newRow {g:Gh}{w w':World}{h:List O}(H:HOk g w h){k:Nat}(hk:k<h.length) (hb:g.blk k=none){n cap z:Nat}{c:Array Value}{T:TypeId}
  (hold:∀b' n' c',g.tok k=some (b',n',c')→n'<n) (hg:Grew w w' (.cells c T)) (hn:n≤cap) (hc:cap*z≤c.size) :
  Le g w (g.setTok k w.heap.size n cap (n*z)) w'∧HOk (g.setTok k w.heap.size n cap (n*z)) w' (h.set k (.tok n z)):=by
 have hne:∀i b,g.blk i=some b→i≠k:=fun i b e e'=>by rw[e',hb] at e;cases e
 have htk:∀i p,(g.setTok k w.heap.size n cap (n*z)).tok i=some p→(i=k∧p=(w.heap.size,n,cap))∨(i≠k∧g.tok i=some p):=by
  intro i p e;by_cases hi:i=k
  ·subst hi;simp[Gh.setTok] at e;exact .inl ⟨rfl,e.symm⟩
  ·simp[Gh.setTok,hi] at e;exact .inr ⟨hi,e⟩
 have hle:Le g w (g.setTok k w.heap.size n cap (n*z)) w':=by
  refine⟨fun i b e=>e,?_,fun b o hf=>⟨.inl hf,cW (hg.old (H.al _ _ hf))⟩,?_,?_,fun b hlt _=>hg.old hlt,by rw[hg.size];omega,hg.tape,hg.os,hg.output,fun b c T e=>⟨c,(hg.old (Array.getElem?_eq_some_iff.1 e).1).trans e,rfl⟩,Oth.grew hg⟩
  ·intro i b l c' e;by_cases hi:i=k
   ·subst hi;have:=hold _ _ _ e;exact⟨w.heap.size,n,cap,by simp[Gh.setTok],by omega,fun e'=>by omega⟩
   ·exact⟨b,l,c',by simp[Gh.setTok,hi,e],nL _,fun _=>⟨rfl,rfl⟩⟩
  ·rintro b (e|⟨i,l,c',e⟩) hlt
   ·exact .inl e
   ·rcases htk i _ e with⟨_,e'⟩|⟨_,e'⟩
    ·simp only[pI] at e';omega
    ·exact .inr ⟨i,l,c',e'⟩
  ·rintro b o (hf|⟨rfl,_⟩) hlt
   ·exact .inl hf
   ·omega
 refine⟨hle,?_,?_,?_,?_,?_,?_⟩
 ·intro i b e;have hi:=hne i b e;have hlt:=(H.blk_lt (id:=i) e).2;rcases H.obj _ _ e with⟨cs',c',T',h1,h2,h3,h4,h5⟩|t
  ·refine .inl ⟨cs',c',T',by rw[sN (Ne.symm hi)];exact h1,by rw[hg.old hlt];exact h2,h3,fun j hj hk=>⟨(h4 j hj hk).1.mono hle,(h4 j hj hk).2⟩,fun o hf=>?_⟩;rcases hf with hf|⟨e',_⟩
   ·exact h5 o hf
   ·omega
  ·exact .inr (t.go hle (sN (Ne.symm hi)) (hg.old hlt) fun o hf=>hf.elim id fun ⟨e',_⟩=>by omega)
 ·intro i b m cap' e;rcases htk i _ e with⟨rfl,e'⟩|⟨hi,e'⟩
  ·simp only[pI] at e';obtain⟨rfl,rfl,rfl⟩:=e';refine⟨z,c,T,.inl (sS (by exact hk)),hg.new,hn,hc,fun o hf=>?_⟩;rcases hf with hf|⟨_,hf⟩
   ·have:=H.al _ _ hf;omega
   ·exact hf
  ·obtain⟨z',c',T',h1,h2,h3,h4,h5⟩:=H.tok _ _ _ _ e';have hlt:=(H.tok_lt e').2;refine⟨z',c',T',h1.go hle (sN (Ne.symm hi)) (fun o hf=>hf.elim id fun ⟨e'',_⟩=>by omega),by rw[hg.old hlt];exact h2,h3,h4,fun o hf=>?_⟩;rcases hf with hf|⟨e'',_⟩
   ·exact h5 o hf
   ·omega
 ·exact H.inj
 ·intro i i' b m c1 m' c2 e e';rcases htk i _ e with⟨rfl,h1⟩|⟨hi,h1⟩<;>rcases htk i' _ e' with⟨rfl,h2⟩|⟨hi',h2⟩
  ·rfl
  ·simp only[pI] at h1;have:=(H.tok_lt h2).2;omega
  ·simp only[pI] at h2;have:=(H.tok_lt h1).2;omega
  ·exact H.tinj _ _ _ _ _ _ _ h1 h2
 ·intro i i' b m c1 e e';rcases htk i' _ e' with⟨rfl,h2⟩|⟨hi',h2⟩
  ·simp only[pI] at h2;have:=(H.blk_lt (id:=i) e).2;omega
  ·exact H.bt _ _ _ _ _ e h2
 ·refine H.ag.go hle ?_;rintro b o (hf|⟨rfl,_⟩)
  ·have:=H.al b o hf;rw[hg.size];omega
  ·rw[hg.size];omega
theorem HOk.growRow {g:Gh}{w:World}{h:List O}(H:HOk g w h){k b n cap n' z:Nat}(e:g.tok k=some (b,n,cap)) (hz:h[k]?=some (.tok n z)) (hn:n<n') (hn':n'≤cap)
  {c:Array Value}{T:TypeId}(hb:w.heap[b]?=some (.cells c T (0,0))){c':Array Value}(hs:c'.size=c.size) (hk:∀j,j<n*z→c'[j]?=c[j]?) :
  Le g w (g.setTok k b n' cap (n'*z)) (w.setRow b c')∧HOk (g.setTok k b n' cap (n'*z)) (w.setRow b c') (h.set k (.tok n' z)):=by
 have hkl:=(H.tok_lt e).1;obtain⟨z0,c0,T0,a1,a2,a3,a4,a5⟩:=H.tok _ _ _ _ e;have hz0:z0=z:=(a1.tok hz).2.symm;subst hz0;have hcc:c0=c:=by rw[hb] at a2;simp at a2;exact a2.1.symm
 subst hcc;have hne:∀i b',g.blk i=some b'→b'≠b:=fun i b' e' e''=>H.bt _ _ _ _ _ (e'' ▸ e') e
 have hnk:∀i b',g.blk i=some b'→i≠k:=fun i b' e' e''=>by
  first
   | exact H.not_tok e' (e'' ▸ hz)
   | exact H.not_tokc e' (e'' ▸ hz)
 have htk:∀i p,(g.setTok k b n' cap (n'*z0)).tok i=some p→(i=k∧p=(b,n',cap))∨(i≠k∧g.tok i=some p):=by
  intro i p e;by_cases hi:i=k
  ·subst hi;simp[Gh.setTok] at e;exact .inl ⟨rfl,e.symm⟩
  ·simp[Gh.setTok,hi] at e;exact .inr ⟨hi,e⟩
 have hcell:∀b' o,g.fz b' o→(w.setRow b c').cell? ⟨b',o,none⟩=w.cell? ⟨b',o,none⟩:=by
  intro b' o hf;by_cases hbb:b'=b
  ·subst hbb;rw[bW (setRow_heap w _ _ c' _ _ hb),bW hb];exact hk o (a5 o hf)
  ·exact cW (setRow_other w b b' c' hbb)
 have hle:Le g w (g.setTok k b n' cap (n'*z0)) (w.setRow b c'):=by
  refine⟨fun i b e=>e,?_,fun b' o hf=>⟨.inl hf,hcell b' o hf⟩,?_,?_,?_,by simp[World.setRow],rfl,rfl,rfl,fun b' c1 T1 e'=>iO hb hs b' c1 T1 e',Oth.row hb⟩
  ·intro i b' l c1 e';by_cases hi:i=k
   ·subst hi;rw[e] at e';simp only[sI,pI] at e';exact⟨b,n',cap,by simp[Gh.setTok],by omega,fun e''=>by omega⟩
   ·exact⟨b',l,c1,by simp[Gh.setTok,hi,e'],nL _,fun _=>⟨rfl,rfl⟩⟩
  ·rintro b' (e'|⟨i,l,c1,e'⟩) _
   ·exact .inl e'
   ·rcases htk i _ e' with⟨_,h2⟩|⟨_,h2⟩
    ·simp only[pI] at h2;exact .inr ⟨k,n,cap,by rw[e,h2.1]⟩
    ·exact .inr ⟨i,l,c1,h2⟩
  ·rintro b' o (hf|⟨rfl,_⟩) _
   ·exact .inl hf
   ·exact .inr (.inr ⟨k,n,cap,e⟩)
  ·intro b' _ hno;exact setRow_other w b b' c' (fun hbb=>hno (.inr ⟨k,n,cap,by rw[hbb];exact e⟩))
 refine⟨hle,?_,?_,?_,?_,?_,?_⟩
 ·intro i b' e';rcases H.obj _ _ e' with⟨cs1,c1,T1,h1,h2,h3,h4,h5⟩|t
  ·refine .inl ⟨cs1,c1,T1,by rw[sN (Ne.symm (hnk i b' e'))];exact h1,by rw[setRow_other w b b' c' (hne i b' e')];exact h2,h3,fun j hj hk=>⟨(h4 j hj hk).1.mono hle,(h4 j hj hk).2⟩,fun o hf=>?_⟩;rcases hf with hf|⟨e'',_⟩
   ·exact h5 o hf
   ·exact hne i b' e' e''
  ·exact .inr (t.go hle (sN (Ne.symm (hnk i b' e'))) (setRow_other w b b' c' (hne i b' e')) fun o hf=>hf.elim id fun ⟨e'',_⟩=>absurd e'' (hne i b' e'))
 ·intro i b' m cap' e';rcases htk i _ e' with⟨rfl,h2⟩|⟨hi,h2⟩
  ·simp only[pI] at h2;obtain⟨rfl,rfl,rfl⟩:=h2;refine⟨z0,c',T,.inl (sS (by exact hkl)),setRow_heap w _ _ c' _ _ hb,hn',by omega,fun o hf=>?_⟩;rcases hf with hf|⟨_,hf⟩
   ·have:=a5 o hf;have:n*z0≤m*z0:=Nat.mul_le_mul_right _ (by omega);omega
   ·exact hf
  ·obtain⟨z',c1,T',h1,h3,h4,h5,h6⟩:=H.tok _ _ _ _ h2;have hbb:b'≠b:=fun hbb=>hi (H.tinj _ _ _ _ _ _ _ (hbb ▸ h2) e)
   refine⟨z',c1,T',h1.go hle (sN (Ne.symm hi)) (fun o hf=>hf.elim id fun ⟨e'',_⟩=>absurd e'' hbb),by rw[setRow_other w b b' c' hbb];exact h3,h4,h5,fun o hf=>?_⟩;rcases hf with hf|⟨e'',_⟩
   ·exact h6 o hf
   ·exact absurd e'' hbb
 ·exact H.inj
 ·intro i i' b' m c1 m' c2 e1 e2;rcases htk i _ e1 with⟨rfl,h1⟩|⟨hi,h1⟩<;>rcases htk i' _ e2 with⟨rfl,h2⟩|⟨hi',h2⟩
  ·rfl
  ·simp only[pI] at h1;rw[h1.1] at h2;exact H.tinj _ _ _ _ _ _ _ e h2
  ·simp only[pI] at h2;rw[h2.1] at h1;exact H.tinj _ _ _ _ _ _ _ h1 e
  ·exact H.tinj _ _ _ _ _ _ _ h1 h2
 ·intro i i' b' m c1 e1 e2;rcases htk i' _ e2 with⟨rfl,h2⟩|⟨hi',h2⟩
  ·simp only[pI] at h2;exact hne i b' e1 h2.1
  ·exact H.bt _ _ _ _ _ e1 h2
 ·refine H.ag.go hle ?_;rintro b' o (hf|⟨rfl,_⟩)
  ·have:=H.al b' o hf;simpa[World.setRow] using this
  ·have:=(H.tok_lt e).2;simpa[World.setRow] using this
theorem HOk.newRowC {g:Gh}{w w':World}{h:List O}(H:HOk g w h){k:Nat}(hk:k<h.length) (hb:g.blk k=none){n cap z:Nat}{c:Array Value}{T:TypeId}
  (hold:∀b' n' c',g.tok k=some (b',n',c')→n'<n) (hg:Grew w w' (.cells c T)) (hn:n≤cap) (hc:cap*z≤c.size){cs:List V}(hcs:cs.length=n*z) (hrep:∀j (hj:j<cs.length) (hk:j<c.size),Rep g w c[j] cs[j]∧(c[j]).oneCell'=true) :
  Le g w (g.setTok k w.heap.size n cap 0) w'∧HOk (g.setTok k w.heap.size n cap 0) w' (h.set k (.tokc n z cs)):=by
 have hne:∀i b,g.blk i=some b→i≠k:=fun i b e e'=>by rw[e',hb] at e;cases e
 have htk:∀i p,(g.setTok k w.heap.size n cap 0).tok i=some p→(i=k∧p=(w.heap.size,n,cap))∨(i≠k∧g.tok i=some p):=by
  intro i p e;by_cases hi:i=k
  ·subst hi;simp[Gh.setTok] at e;exact .inl ⟨rfl,e.symm⟩
  ·simp[Gh.setTok,hi] at e;exact .inr ⟨hi,e⟩
 have hle:Le g w (g.setTok k w.heap.size n cap 0) w':=by
  refine⟨fun i b e=>e,?_,fun b o hf=>⟨.inl hf,cW (hg.old (H.al _ _ hf))⟩,?_,?_,fun b hlt _=>hg.old hlt,by rw[hg.size];omega,hg.tape,hg.os,hg.output,fun b c T e=>⟨c,(hg.old (Array.getElem?_eq_some_iff.1 e).1).trans e,rfl⟩,Oth.grew hg⟩
  ·intro i b l c' e;by_cases hi:i=k
   ·subst hi;have:=hold _ _ _ e;exact⟨w.heap.size,n,cap,by simp[Gh.setTok],by omega,fun e'=>by omega⟩
   ·exact⟨b,l,c',by simp[Gh.setTok,hi,e],nL _,fun _=>⟨rfl,rfl⟩⟩
  ·rintro b (e|⟨i,l,c',e⟩) hlt
   ·exact .inl e
   ·rcases htk i _ e with⟨_,e'⟩|⟨_,e'⟩
    ·simp only[pI] at e';omega
    ·exact .inr ⟨i,l,c',e'⟩
  ·rintro b o (hf|⟨rfl,_⟩) hlt
   ·exact .inl hf
   ·omega
 refine⟨hle,?_,?_,?_,?_,?_,?_⟩
 ·intro i b e;have hi:=hne i b e;have hlt:=(H.blk_lt (id:=i) e).2;rcases H.obj _ _ e with⟨cs',c',T',h1,h2,h3,h4,h5⟩|t
  ·refine .inl ⟨cs',c',T',by rw[sN (Ne.symm hi)];exact h1,by rw[hg.old hlt];exact h2,h3,fun j hj hk=>⟨(h4 j hj hk).1.mono hle,(h4 j hj hk).2⟩,fun o hf=>?_⟩;rcases hf with hf|⟨e',_⟩
   ·exact h5 o hf
   ·omega
  ·exact .inr (t.go hle (sN (Ne.symm hi)) (hg.old hlt) fun o hf=>hf.elim id fun ⟨e',_⟩=>by omega)
 ·intro i b m cap' e;rcases htk i _ e with⟨rfl,e'⟩|⟨hi,e'⟩
  ·simp only[pI] at e';obtain⟨rfl,rfl,rfl⟩:=e';refine⟨z,c,T,.inr ⟨cs,sS (by exact hk),hcs,fun j hj hk=>⟨(hrep j hj hk).1.mono hle,(hrep j hj hk).2⟩,fun o hf=>?_⟩,hg.new,hn,hc,fun o hf=>?_⟩
   ·rcases hf with hf|⟨_,hf⟩
    ·have:=H.al _ _ hf;omega
    ·omega
   ·rcases hf with hf|⟨_,hf⟩
    ·have:=H.al _ _ hf;omega
    ·omega
  ·obtain⟨z',c',T',h1,h2,h3,h4,h5⟩:=H.tok _ _ _ _ e';have hlt:=(H.tok_lt e').2;refine⟨z',c',T',h1.go hle (sN (Ne.symm hi)) (fun o hf=>hf.elim id fun ⟨e'',_⟩=>by omega),by rw[hg.old hlt];exact h2,h3,h4,fun o hf=>?_⟩;rcases hf with hf|⟨e'',_⟩
   ·exact h5 o hf
   ·omega
 ·exact H.inj
 ·intro i i' b m c1 m' c2 e e';rcases htk i _ e with⟨rfl,h1⟩|⟨hi,h1⟩<;>rcases htk i' _ e' with⟨rfl,h2⟩|⟨hi',h2⟩
  ·rfl
  ·simp only[pI] at h1;have:=(H.tok_lt h2).2;omega
  ·simp only[pI] at h2;have:=(H.tok_lt h1).2;omega
  ·exact H.tinj _ _ _ _ _ _ _ h1 h2
 ·intro i i' b m c1 e e';rcases htk i' _ e' with⟨rfl,h2⟩|⟨hi',h2⟩
  ·simp only[pI] at h2;have:=(H.blk_lt (id:=i) e).2;omega
  ·exact H.bt _ _ _ _ _ e h2
 ·refine H.ag.go hle ?_;rintro b o (hf|⟨rfl,_⟩)
  ·have:=H.al b o hf;rw[hg.size];omega
  ·rw[hg.size];omega
theorem HOk.growRowC {g:Gh}{w:World}{h:List O}(H:HOk g w h){k b n cap n' z:Nat}(e:g.tok k=some (b,n,cap)){cs cs':List V}(hz:h[k]?=some (.tokc n z cs)) (hn:n≤n') (hn':n'≤cap)
  {c:Array Value}{T:TypeId}(hb:w.heap[b]?=some (.cells c T (0,0))){c':Array Value}(hs:c'.size=c.size) (hcs:cs'.length=n'*z) (hrep:∀j (hj:j<cs'.length) (hk:j<c'.size),Rep g w c'[j] cs'[j]∧(c'[j]).oneCell'=true) :
  Le g w (g.setTok k b n' cap 0) (w.setRow b c')∧HOk (g.setTok k b n' cap 0) (w.setRow b c') (h.set k (.tokc n' z cs')):=by
 have hkl:=(H.tok_lt e).1;obtain⟨z0,c0,T0,a1,a2,a3,a4,a5⟩:=H.tok _ _ _ _ e;obtain⟨hz0,hnf⟩:z0=z∧∀o,¬g.fz b o:=by
  rcases a1 with t|⟨cs1,t,_,_,t4⟩<;>rw[hz] at t
  ·simp at t
  ·simp only[sI,O.tokc.injEq] at t;exact⟨t.2.1.symm,t4⟩
 subst hz0;have hcc:c0=c:=by rw[hb] at a2;simp at a2;exact a2.1.symm
 subst hcc;have hne:∀i b',g.blk i=some b'→b'≠b:=fun i b' e' e''=>H.bt _ _ _ _ _ (e'' ▸ e') e
 have hnk:∀i b',g.blk i=some b'→i≠k:=fun i b' e' e''=>by
  first
   | exact H.not_tok e' (e'' ▸ hz)
   | exact H.not_tokc e' (e'' ▸ hz)
 have htk:∀i p,(g.setTok k b n' cap 0).tok i=some p→(i=k∧p=(b,n',cap))∨(i≠k∧g.tok i=some p):=by
  intro i p e;by_cases hi:i=k
  ·subst hi;simp[Gh.setTok] at e;exact .inl ⟨rfl,e.symm⟩
  ·simp[Gh.setTok,hi] at e;exact .inr ⟨hi,e⟩
 have hcell:∀b' o,g.fz b' o→(w.setRow b c').cell? ⟨b',o,none⟩=w.cell? ⟨b',o,none⟩:=by
  intro b' o hf;by_cases hbb:b'=b
  ·subst hbb;exact absurd hf (hnf o)
  ·exact cW (setRow_other w b b' c' hbb)
 have hle:Le g w (g.setTok k b n' cap 0) (w.setRow b c'):=by
  refine⟨fun i b e=>e,?_,fun b' o hf=>⟨.inl hf,hcell b' o hf⟩,?_,?_,?_,by simp[World.setRow],rfl,rfl,rfl,fun b' c1 T1 e'=>iO hb hs b' c1 T1 e',Oth.row hb⟩
  ·intro i b' l c1 e';by_cases hi:i=k
   ·subst hi;rw[e] at e';simp only[sI,pI] at e';exact⟨b,n',cap,by simp[Gh.setTok],by omega,fun e''=>⟨by omega,by omega⟩⟩
   ·exact⟨b',l,c1,by simp[Gh.setTok,hi,e'],nL _,fun _=>⟨rfl,rfl⟩⟩
  ·rintro b' (e'|⟨i,l,c1,e'⟩) _
   ·exact .inl e'
   ·rcases htk i _ e' with⟨_,h2⟩|⟨_,h2⟩
    ·simp only[pI] at h2;exact .inr ⟨k,n,cap,by rw[e,h2.1]⟩
    ·exact .inr ⟨i,l,c1,h2⟩
  ·rintro b' o (hf|⟨rfl,_⟩) _
   ·exact .inl hf
   ·exact .inr (.inr ⟨k,n,cap,e⟩)
  ·intro b' _ hno;exact setRow_other w b b' c' (fun hbb=>hno (.inr ⟨k,n,cap,by rw[hbb];exact e⟩))
 refine⟨hle,?_,?_,?_,?_,?_,?_⟩
 ·intro i b' e';rcases H.obj _ _ e' with⟨cs1,c1,T1,h1,h2,h3,h4,h5⟩|t
  ·refine .inl ⟨cs1,c1,T1,by rw[sN (Ne.symm (hnk i b' e'))];exact h1,by rw[setRow_other w b b' c' (hne i b' e')];exact h2,h3,fun j hj hk=>⟨(h4 j hj hk).1.mono hle,(h4 j hj hk).2⟩,fun o hf=>?_⟩;rcases hf with hf|⟨e'',_⟩
   ·exact h5 o hf
   ·exact hne i b' e' e''
  ·exact .inr (t.go hle (sN (Ne.symm (hnk i b' e'))) (setRow_other w b b' c' (hne i b' e')) fun o hf=>hf.elim id fun ⟨e'',_⟩=>absurd e'' (hne i b' e'))
 ·intro i b' m cap' e';rcases htk i _ e' with⟨rfl,h2⟩|⟨hi,h2⟩
  ·simp only[pI] at h2;obtain⟨rfl,rfl,rfl⟩:=h2;refine⟨z0,c',T,.inr ⟨cs',sS (by exact hkl),hcs,fun j hj hk=>⟨(hrep j hj hk).1.mono hle,(hrep j hj hk).2⟩,fun o hf=>?_⟩,setRow_heap w _ _ c' _ _ hb,hn',by omega,fun o hf=>?_⟩
   ·rcases hf with hf|⟨_,hf⟩
    ·exact hnf o hf
    ·omega
   ·rcases hf with hf|⟨_,hf⟩
    ·exact absurd hf (hnf o)
    ·omega
  ·obtain⟨z',c1,T',h1,h3,h4,h5,h6⟩:=H.tok _ _ _ _ h2;have hbb:b'≠b:=fun hbb=>hi (H.tinj _ _ _ _ _ _ _ (hbb ▸ h2) e)
   refine⟨z',c1,T',h1.go hle (sN (Ne.symm hi)) (fun o hf=>hf.elim id fun ⟨e'',_⟩=>absurd e'' hbb),by rw[setRow_other w b b' c' hbb];exact h3,h4,h5,fun o hf=>?_⟩;rcases hf with hf|⟨e'',_⟩
   ·exact h6 o hf
   ·exact absurd e'' hbb
 ·exact H.inj
 ·intro i i' b' m c1 m' c2 e1 e2;rcases htk i _ e1 with⟨rfl,h1⟩|⟨hi,h1⟩<;>rcases htk i' _ e2 with⟨rfl,h2⟩|⟨hi',h2⟩
  ·rfl
  ·simp only[pI] at h1;rw[h1.1] at h2;exact H.tinj _ _ _ _ _ _ _ e h2
  ·simp only[pI] at h2;rw[h2.1] at h1;exact H.tinj _ _ _ _ _ _ _ h1 e
  ·exact H.tinj _ _ _ _ _ _ _ h1 h2
 ·intro i i' b' m c1 e1 e2;rcases htk i' _ e2 with⟨rfl,h2⟩|⟨hi',h2⟩
  ·simp only[pI] at h2;exact hne i b' e1 h2.1
  ·exact H.bt _ _ _ _ _ e1 h2
 ·refine H.ag.go hle ?_;rintro b' o (hf|⟨rfl,_⟩)
  ·have:=H.al b' o hf;simpa[World.setRow] using this
  ·have:=(H.tok_lt e).2;simpa[World.setRow] using this
theorem HOk.storeCells {g:Gh}{w:World}{h:List O}(H:HOk g w h){id b:Nat}(e:g.blk id=some b){cs cs':List V}(hid:h[id]?=some (.cells cs))
  {c:Array Value}{T:TypeId}(hb:w.heap[b]?=some (.cells c T (0,0))){c':Array Value}(hs:c'.size=c.size) (hl:cs'.length=cs.length)
  (hc:∀j (hj:j<cs'.length) (hk:j<c'.size),Rep g w c'[j] cs'[j]∧(c'[j]).oneCell'=true) :
  Le g w g (w.setRow b c')∧HOk g (w.setRow b c') (h.set id (.cells cs')):=by
 obtain⟨cs0,c0,T0,a1,a2,a3,a4,a5⟩:=H.cellsOf e hid;have hcs:cs0=cs:=by rw[hid] at a1;simp at a1;exact a1.symm
 subst hcs;have hcc:c0=c:=by rw[hb] at a2;simp at a2;exact a2.1.symm
 subst hcc;have hidl:=(H.blk_lt e).1;have hle:Le g w g (w.setRow b c'):=by
  refine⟨fun _ _ h=>h,fun k b l c h=>⟨b,l,c,h,nL _,fun _=>⟨rfl,rfl⟩⟩,fun b' o hf=>⟨hf,?_⟩,fun _ h _=>h,fun _ _ h _=>.inl h,?_,by simp[World.setRow],rfl,rfl,rfl,fun b' c1 T1 e'=>iO hb hs b' c1 T1 e',Oth.row hb⟩
  ·exact cW (setRow_other w b b' c' (fun hbb=>a5 o (hbb ▸ hf)))
  ·intro b' _ hno;exact setRow_other w b b' c' (fun hbb=>hno (.inl ⟨id,by rw[hbb];exact e⟩))
 refine⟨hle,?_,?_,H.inj,H.tinj,H.bt,?_⟩
 ·intro i b' e';by_cases hi:i=id
  ·subst hi;rw[e] at e';have hbb:b=b':=by simpa using e'
   subst hbb;exact .inl ⟨cs',c',T,by rw[sS hidl],setRow_heap w _ _ c' _ _ hb,by omega,fun j hj hk=>⟨(hc j hj hk).1.mono hle,(hc j hj hk).2⟩,a5⟩
  ·have hbb:b'≠b:=fun hbb=>hi (H.inj _ _ _ (hbb ▸ e') e)
   rcases H.obj _ _ e' with⟨cs1,c1,T1,h1,h2,h3,h4,h5⟩|t
   ·exact .inl ⟨cs1,c1,T1,by rw[sN (Ne.symm hi)];exact h1,by rw[setRow_other w b b' c' hbb];exact h2,h3,fun j hj hk=>⟨(h4 j hj hk).1.mono hle,(h4 j hj hk).2⟩,h5⟩
   ·exact .inr (t.go hle (sN (Ne.symm hi)) (setRow_other w b b' c' hbb) fun _ h=>h)
 ·intro i b' m cap' e';obtain⟨z',c1,T',h1,h3,h4⟩:=H.tok _ _ _ _ e';have hbb:b'≠b:=fun hbb=>H.bt _ _ _ _ _ e (hbb ▸ e')
  have hi:i≠id:=fun hi=>by rw[hi] at h1;exact h1.not_cells hid
  exact⟨z',c1,T',h1.go hle (sN (Ne.symm hi)) (fun _ h=>h),by rw[setRow_other w b b' c' hbb];exact h3,h4⟩
 ·refine H.ag.go hle fun b' o hf=>?_
  have:=H.al b' o hf;simpa[World.setRow] using this
theorem HOk.newOth {g:Gh}{w w':World}{h:List O}(H:HOk g w h){id:Nat}(hid:id<h.length) (hb:g.blk id=none) (ht:g.tok id=none){ob:Obj}{x:O}(hg:Grew w w' ob)
  (hx:∀(g':Gh) (h':List O),(∀o,¬g'.fz w.heap.size o)→h'[id]?=some x→OthAt g' w' h' id w.heap.size) :
  Le g w (g.setBlk id w.heap.size) w'∧HOk (g.setBlk id w.heap.size) w' (h.set id x):=by
 have hne:∀i b,g.blk i=some b→i≠id:=fun i b e e'=>by rw[e',hb] at e;cases e
 have hnt:∀i p,g.tok i=some p→i≠id:=fun i b e e'=>by rw[e',ht] at e;cases e
 have hblk:∀i b,(g.setBlk id w.heap.size).blk i=some b→(i=id∧b=w.heap.size)∨(i≠id∧g.blk i=some b):=by
  intro i b e;by_cases hi:i=id
  ·subst hi;simp[Gh.setBlk] at e;exact .inl ⟨rfl,e.symm⟩
  ·simp[Gh.setBlk,hi] at e;exact .inr ⟨hi,e⟩
 have hown:∀b,(g.setBlk id w.heap.size).owns b→b<w.heap.size→g.owns b:=by
  rintro b (⟨i,e⟩|e) hlt
  ·rcases hblk i b e with⟨_,rfl⟩|⟨_,e'⟩
   ·omega
   ·exact .inl ⟨i,e'⟩
  ·exact .inr e
 have hle:Le g w (g.setBlk id w.heap.size) w' :=
  Le.quiet (fun i b e=>by simp[Gh.setBlk,hne i b e,e]) (fun _ _ h=>h) (fun _ _ h=>h) H.al hown (fun _ _ h _=>.inl h) (fun b hb=>hg.old hb) (by rw[hg.size];omega) hg.tape hg.os hg.output
 refine⟨hle,?_,?_,?_,?_,?_,?_⟩
 ·intro i b e;rcases hblk i b e with⟨rfl,rfl⟩|⟨hi,e'⟩
  ·exact .inr (hx _ _ (fun o hf=>by have:=H.al _ _ hf;omega) (sS (by exact hid)))
  ·rcases H.obj _ _ e' with⟨cs',c',T',h1,h2,h3,h4,h5⟩|t
   ·exact .inl ⟨cs',c',T',by rw[sN (Ne.symm hi)];exact h1,by rw[hg.old (H.blk_lt e').2];exact h2,h3,fun j hj hk=>⟨(h4 j hj hk).1.mono hle,(h4 j hj hk).2⟩,h5⟩
   ·exact .inr (t.go hle (sN (Ne.symm hi)) (hg.old (H.blk_lt e').2) fun _ h=>h)
 ·intro i b n cap e;have hi:=hnt i _ e;obtain⟨z,c',T',h1,h2,h3⟩:=H.tok _ _ _ _ e;exact⟨z,c',T',h1.go hle (sN (Ne.symm hi)) (fun _ h=>h),by rw[hg.old (H.tok_lt e).2];exact h2,h3⟩
 ·intro i i' b e e';rcases hblk i b e with⟨rfl,rfl⟩|⟨hi,e1⟩<;>rcases hblk i' _ e' with⟨rfl,h2⟩|⟨hi',e2⟩
  ·rfl
  ·have:=(H.blk_lt e2).2;omega
  ·have:=(H.blk_lt e1).2;omega
  ·exact H.inj _ _ _ e1 e2
 ·exact H.tinj
 ·intro i i' b n c' e e';rcases hblk i b e with⟨rfl,rfl⟩|⟨hi,e1⟩
  ·have:=(H.tok_lt (id:=i') e').2;omega
  ·exact H.bt _ _ _ _ _ e1 e'
 ·refine H.ag.go hle fun b o hf=>?_
  have:=H.al b o hf;rw[hg.size];omega
theorem HOk.setOth {g:Gh}{w w':World}{h:List O}(H:HOk g w h){id b:Nat}(e:g.blk id=some b){ob ob':Obj}(h0:w.heap[b]?=some ob) (hc:jY ob=false) (hc':jY ob'=false) (hgo:Goes ob ob')
  (hw:w'.heap=w.heap.setIfInBounds b ob') (h1:w'.tape=w.tape) (h2:w'.os=w.os) (h3:w'.output=w.output){x:O}(hx:∀h':List O,h'[id]?=some x→w'.heap[b]?=some ob'→OthAt g w h id b→(∀{y:Value}{v:V},Rep g w y v→Rep g w' y v)→OthAt g w' h' id b) :
  Le g w g w'∧HOk g w' (h.set id x):=by
 have hlt:=(H.blk_lt e).2;have hidl:=(H.blk_lt e).1;have hT:OthAt g w h id b:=(H.obj _ _ e).resolve_left fun ⟨_,c,T,_,k,_⟩=>by rw[h0] at k;cases k;cases hc
 have hself:w'.heap[b]?=some ob':=by rw[hw];simp[hlt]
 have hoth:∀b',b'≠b→w'.heap[b']?=w.heap[b']?:=fun b' hne=>by rw[hw];simp[Ne.symm hne]
 have hle:Le g w g w':=by
  refine⟨fun _ _ h=>h,fun k b l c h=>⟨b,l,c,h,nL _,fun _=>⟨rfl,rfl⟩⟩,fun b' o hf=>⟨hf,?_⟩,fun _ h _=>h,fun _ _ h _=>.inl h,?_,by rw[hw];simp,h1,h2,h3,fun b' c1 T1 e'=>?_,fun b' o e' k=>?_⟩
  ·exact cW (hoth b' fun hbb=>hT.noFz o (hbb ▸ hf))
  ·intro b' _ hno;exact hoth b' fun hbb=>hno (.inl ⟨id,by rw[hbb];exact e⟩)
  ·refine⟨c1,(hoth b' fun hbb=>?_).trans e',rfl⟩;rw[hbb,h0] at e';cases e';cases hc
  ·by_cases hbb:b'=b
   ·subst hbb;rw[h0] at e';cases e';exact⟨ob',hself,hc',hgo,fun _ _ _ hf=>absurd hf (hT.noFz 0)⟩
   ·exact⟨o,(hoth b' hbb).trans e',k,Goes.refl o,fun _ _ _ _=>rfl⟩
 refine⟨hle,?_,?_,H.inj,H.tinj,H.bt,H.ag.go hle fun b' o hf=>by have:=H.al b' o hf;rw[hw];simpa using this⟩
 ·intro i b' e';by_cases hi:i=id
  ·subst hi;rw[e] at e';cases e';exact .inr (hx _ (sS hidl) hself hT fun r=>r.mono hle)
  ·have hbb:b'≠b:=fun hbb=>hi (H.inj _ _ _ (hbb ▸ e') e)
   rcases H.obj _ _ e' with⟨cs1,c1,T1,h1,h2,h3,h4,h5⟩|t
   ·exact .inl ⟨cs1,c1,T1,by rw[sN (Ne.symm hi)];exact h1,(hoth b' hbb).trans h2,h3,fun j hj hk=>⟨(h4 j hj hk).1.mono hle,(h4 j hj hk).2⟩,h5⟩
   ·exact .inr (t.go hle (sN (Ne.symm hi)) (hoth b' hbb) fun _ h=>h)
 ·intro i b' m cap' e';obtain⟨z',c1,T',h1,h3,h4⟩:=H.tok _ _ _ _ e';have hbb:b'≠b:=fun hbb=>H.bt _ _ _ _ _ e (hbb ▸ e')
  have hi:i≠id:=fun hi=>by
   subst hi;rcases h1 with h1|⟨cs,h1,_⟩
   ·exact hT.not_tok h1
   ·exact hT.not_tokc h1
  exact⟨z',c1,T',h1.go hle (sN (Ne.symm hi)) (fun _ h=>h),(hoth b' hbb).trans h3,h4⟩
section
variable (P:Program) (rw:Bool)
def m8 (t:TypeId):Option Bool :=
 match P.underlying t with
 | some (.struct _)=>some true
 | some (.array _ _)=>some true
 | some _=>some false
 | none=>none
def szT (t:TypeId):Option Nat:=(P.info? t).map (·.size)
def nT (t:TypeId):Option (Option Nat) :=
 match m8 P t,szT P t with
 | some true,some n=>some (some n)
 | some false,some _=>some none
 | _,_=>none
def g9:Value→Bool
 | .agg cs=>cs.toList.all Value.oneCell'
 | _=>true
def trA:Operand→Option A
 | .tmp t=>some (.t t)
 | .const v=>if g9 v then some (.k (toV v)) else none
 | .func f=>some (.k (.c (.func (.func f) #[] #[])))
 | .global n=>(gvs n).map .k
def kD:List Operand→Option (List A)
 | []=>some []
 | x::r=>match trA x,kD r with
  | some a,some l=>some (a::l)
  | _,_=>none
def jS:Option Operand→Option (Option A)
 | none=>some none
 | some x=>(trA x).map some
def gD (t:TypeId):Option (List V) :=
 match P.info? t with
 | some i=>match i.zero with
  | some z=>if z.cells.toList.all Value.oneCell'&&z.cells.size==i.size then some (z.cells.toList.map Fq) else none
  | none=>none
 | none=>none
def gO (fields:Array Go.Field):List (Nat × Operand)→Option (List (Nat × Nat × A))
 | []=>some []
 | (i,x)::r=>match fields[i]?,trA x,gO fields r with
  | some f,some a,some l=>match szT P f.type with
   | some n=>some ((f.offset,n,a)::l)
   | none=>none
  | _,_,_=>none
def qT (t:TypeId):Option Nat :=
 match P.underlying t with
 | some (.int _)=>some 0
 | some .string=>some 0
 | some .bool=>some 1
 | some (.slice _)=>some 2
 | some (.pointer _)=>some 3
 | _=>none
def oh (t:TypeId) (x:Operand):Option (XOp × List O) :=
 match P.underlying t,trA x with
 | some (.slice _),some x=>some (.len false x,[])
 | some .string,some x=>some (.len true x,[])
 | _,_=>none
def lh (al:Nat) (t u:TypeId) (x y:Operand):Option (XOp × List O) :=
 match P.underlying t,P.underlying u,trA x,trA y with
 | some (.slice e),some (.slice _),some x,some y=>match P.info? e,gD P e,nT P e with
  | some i,some _,some z=>if zc z=i.size then some (.append al z i.bytes rw x y,[if i.bytes=24 then .want else .dead]) else none
  | _,_,_=>none
 | _,_,_,_=>none
def ld (t:TypeId):Option Nat :=
 match P.underlying t with
 | some (.int _)=>some 0
 | some .string=>some 1
 | some .bool=>some 2
 | _=>none
def fN:List Go.Field→Nat→Option (List Nat)
 | [],_=>some []
 | f :: r, off => if f.name ≠ "_" ∧ f.offset = off ∧ nT P f.type = some none then match ld P f.type, fN r (off + 1) with
  | some k,some l=>some (k::l)
  | _,_=>none
  else none
def dz (t:TypeId):Option (List Nat) :=
 match P.underlying t with
 | some (.struct fs)=>if P.stoodInHeld t=false∧P.eqGuardType P.depth t=false then fN P fs.toList 0 else none
 | _=>none
def lS (t:TypeId):Option (Option (List Nat)) :=
 match P.underlying t with
 | some .string=>some none
 | some (.struct _)=>(dz P t).map some
 | _=>none
def jQ (t:TypeId) (m k v:Operand):Option (XOp × List O) :=
 match P.underlying t with
 | some (.map kt et)=>match lS P kt,trA m,trA k,trA v with
  | some kd,some m,some k,some v=>some (.mapUpd kd m k v,[])
  | _,_,_,_=>none
 | _=>none
def rE:Operand→Operand→Bool
 | .tmp t,.tmp t'=>t==t'
 | .const (.int k a),.const (.int k' b)=>k==k'&&a==b
 | _,_=>false
def iM (al:Nat) (t:TypeId) (l c:Operand):Option (XOp × List O) :=
 match P.underlying t with
 | some (.slice e)=>match P.info? e,gD P e,nT P e,trA l with
  | some i,some z,some zz,some x=>if rE l c=true∧zc zz=i.size∧i.bytes≤4096 then some (.mksl al zz z x,[.dead]) else none
  | _,_,_,_=>none
 | _=>none
def bj (al:Nat) (c:Call):Option (XOp × List O) :=
 match c.callee with
 | .value f=>match trA f,kD c.args.toList with
  | some f,some xas=>some (.call f xas,[])
  | _,_=>none
 | .builtin .len=>match c.args.toList,c.argTypes.toList with
  | [x],[t]=>oh P t x
  | _,_=>none
 | .builtin .append=>match c.args.toList,c.argTypes.toList with
  | [x,y],[t,u]=>lh P rw al t u x y
  | _,_=>none
 | .builtin .min=>(kD c.args.toList).map fun xs=>(.mm false xs,[])
 | .builtin .max=>(kD c.args.toList).map fun xs=>(.mm true xs,[])
 | _=>none
def bG (al:Nat):Op→Option (XOp × List O)
 | .move x=>(trA x).map fun x=>(.mv x,[])
 | .assign x=>(trA x).map fun x=>(.mv x,[])
 | .pick c a b=>match trA c,trA a,trA b with
  | some c,some a,some b=>some (.pick c a b,[])
  | _,_,_=>none
 | .alloc e=>(gD P e).map fun z=>(.alloc al z,[.cells z])
 | .box _ x=>(trA x).map fun x=>(.box al x,[.dead])
 | .build t parts=>match P.underlying t,gD P t with
  | some (.struct fields),some z=>if fields.toList.all (fun f=>(szT P f.type).isSome) then (gO P fields parts.toList).map fun l=>(.build z l,[]) else none
  | _,_=>none
 | .buildSlice t len parts=>match P.underlying t with
  | some (.slice e)=>match szT P e,gD P e,kD (parts.toList.map (·.2)) with
   | some z,some _,some xas=>if parts.toList.map (·.1)=List.range len∧len*z≤16777216 then some (.bslice al z xas,[.tok len z]) else none
   | _,_,_=>none
  | _=>none
 | .load t x=>match nT P t,trA x with
  | some n,some x=>some (.load n x,[])
  | _,_=>none
 | .store t a x=>match szT P t,trA a,trA x with
  | some n,some a,some x=>some (.store n a x,[])
  | _,_,_=>none
 | .binOp op t x y _=>match qT P t,trA x,trA y with
  | some q,some x,some y=>some (.bin op q x y,[])
  | none,some x,some y=>match dz P t,op with
   | some kd,.eql=>some (.eqs false kd x y,[])
   | some kd,.neq=>some (.eqs true kd x y,[])
   | _,_=>none
  | _,_,_=>none
 | .unOp op _ x=>(trA x).map fun x=>(.un op x,[])
 | .convert s d x=>match P.underlying s,P.underlying d,trA x with
  | some (.int _),some (.int k),some x=>some (.conv k x,[])
  | _,_,_=>none
 | .fieldAddr s x f=>match P.underlying s,trA x with
  | some (.struct fields),some x=>match fields[f]? with
   | some fd=>match szT P fd.type with
    | some (_+1)=>some (.fieldAddr fd.offset x,[])
    | _=>none
   | none=>none
  | _,_=>none
 | .field s x f=>match P.underlying s,trA x with
  | some (.struct fields),some x=>match fields[f]? with
   | some fd=>(nT P fd.type).map fun n=>(.field fd.offset n x,[])
   | none=>none
  | _,_=>none
 | .indexAddr t x i=>match P.underlying t,trA x,trA i with
  | some (.slice e),some x,some i=>(szT P e).map fun z=>(.indexAddr z x i,[])
  | _,_,_=>none
 | .index t x i=>match P.underlying t,trA x,trA i with
  | some .string,some x,some i=>some (.index x i,[])
  | _,_,_=>none
 | .slice t x lo hi mx=>match P.underlying t,trA x,jS lo,jS hi,jS mx with
  | some (.slice e),some x,some lo,some hi,some mx=>(szT P e).map fun z=>(.slice false z x lo hi mx,[])
  | some .string,some x,some lo,some hi,some none=>some (.slice true 0 x lo hi none,[])
  | _,_,_,_,_=>none
 | .extract x i=>(trA x).map fun x=>(.extract x i,[])
 | .call c=>bj P rw al c
 | .makeFunc (.func f) first caps=>if first.size=0 then (kD caps.toList).map fun cs=>(.clos f cs,[]) else match first.toList,caps.toList with
  | [x],[]=>(trA x).map fun x=>(.bndm f x,[])
  | _,_=>none
 | .nilCheck x=>(trA x).map fun x=>(.nilchk x,[])
 | .makeMap _ none=>some (.makeMap al,[.dead])
 | .lookup t x k ok=>match P.underlying t with
  | some (.map kt et)=>match lS P kt,(P.info? et).bind (·.zero),trA x,trA k with
   | some kd,some z,some x,some k=>if g9 z then some (.lookup kd (toV z) ok x k,[]) else none
   | _,_,_,_=>none
  | _=>none
 | .mapUpdate t m k v=>jQ P t m k v
 | .insert t m k v=>jQ P t m k v
 | .makeSlice t l c=>iM P al t l c
 | _=>none
end
structure Tm (g:Gh) (w:World) (a:Act) (tm:List V):Prop where
 sz:a.tmps.size=tm.length
 rp:∀i (hi:i<a.tmps.size) (hj:i<tm.length),Rep g w a.tmps[i] tm[i]
 gl:GP g w
theorem lJ (g:Gh) (w:World) (x:Value):Rep g w x (Fq x):=by
 unfold Fq;split
 ·exact .sl none 0 0 [] .nil 0 (fun _=>undef) rfl (nL _) (by simp) (by simp) (by simp[aG]) ⟨rfl,rfl⟩
 ·exact .c _
theorem pj (g:Gh) (w:World) (x:Value) (h:g9 x=true):Rep g w x (toV x):=by
 unfold toV;split
 ·rename_i cs;simp only[g9,List.all_eq_true] at h;refine .agg cs _ (by simp) (fun i hi=>h _ (by simp)) (fun i hi hj=>?_);simp only[List.getElem_map,Array.getElem_toList];exact lJ g w _
 ·exact lJ g w x
section
variable {P:Program}{g:Gh}{w:World}{a:Act}{tm:List V}
theorem aN (ht:Tm g w a tm){x:Operand}{ax:A}(h:trA x=some ax):Rep g w (a.eval x) (ev tm ax):=by
 cases x with
 | tmp t =>
  simp only[trA,sI] at h;subst h;simp only[Act.eval,ev];by_cases hi:t<tm.length
  ·have hi':t<a.tmps.size:=by rw[ht.1];exact hi
   have:=ht.2 t hi' hi;simpa[List.getD,Array.getD,hi,hi'] using this
  ·have hi':¬t<a.tmps.size:=by rw[ht.1];exact hi
   simp[List.getD,Array.getD,hi,hi'];exact .c _
 | const v =>
  simp only[trA] at h;split at h
  ·simp only[sI] at h;subst h;exact pj g w v ‹_›
  ·cases h
 | func f=>simp only[trA,sI] at h;subst h;exact .c _
 | global n =>
  simp only[trA,mS] at h;obtain⟨v,hv,rfl⟩:=h;exact ht.gl n v hv
theorem fO (ht:Tm g w a tm):∀{xs:List Operand}{xas:List A},kD xs=some xas→xs.length=xas.length∧∀i (hi:i<xs.length) (hj:i<xas.length),Rep g w (a.eval xs[i]) (ev tm xas[i])
 | [],xas,h=>by simp only[kD,sI] at h;subst h;exact⟨rfl,fun i hi=>absurd hi (by simp)⟩
 | x::r,xas,h=>by
  simp only[kD] at h;split at h
  ·rename_i ax l h1 h2;simp only[sI] at h;subst h;obtain⟨k1,k2⟩:=fO ht h2;refine⟨by simp[k1],fun i hi hj=>?_⟩;cases i with
   | zero=>exact aN ht h1
   | succ i=>exact k2 i (by simpa using hi) (by simpa using hj)
  ·cases h
theorem Rep.of_c {x:Value}{y:Value}(h:Rep g w x (.c y)):x=y:=by cases h;rfl
theorem Rep.of_ref {x:Value}{id o:Nat}(h:Rep g w x (.ref id o)):∃b,x=.pointer (some ⟨b,o,none⟩)∧g.blk id=some b:=by
 cases h with
 | ref id b o h=>exact⟨b,rfl,h⟩
theorem Rep.of_ptr {x:Value}{cs:List V}{off:Nat}(h:Rep g w x (.ptr cs off)):∃(b o:Nat) (cv:Nat→Value),x=.pointer (some ⟨b,o+off,none⟩) ∧
  (∀j,j<cs.length→g.fz b (o+j)∧w.cell? ⟨b,o+j,none⟩=some (cv j)∧(cv j).oneCell'=true)∧∀j (hj:j<cs.length),Rep g w (cv j) cs[j]:=by
 cases h with
 | ptr b o o' cs off cv ho hA h=>subst ho;exact⟨b,o,cv,rfl,hA,h⟩
theorem Rep.of_agg {x:Value}{cs:List V}(h:Rep g w x (.agg cs)):∃xs:Array Value,x=.agg xs∧xs.size=cs.length∧(∀i (hi:i<xs.size),(xs[i]).oneCell'=true)∧∀i (hi:i<xs.size) (hj:i<cs.length),Rep g w xs[i] cs[i]:=by
 cases h with
 | agg xs cs hn h1 h=>exact⟨xs,rfl,hn,h1,h⟩
theorem Rep.of_tup {x:Value}{cs:List V}(h:Rep g w x (.tup cs)):∃xs:Array Value,x=.tuple xs∧xs.size=cs.length∧∀i (hi:i<xs.size) (hj:i<cs.length),Rep g w xs[i] cs[i]:=by
 cases h with
 | tup xs cs hn h=>exact⟨xs,rfl,hn,h⟩
theorem Rep.of_bnd {x:Value}{f id o:Nat}(h:Rep g w x (.bnd f id o)):∃b,x=.func (.func f) #[.pointer (some ⟨b,o,none⟩)] #[]∧g.blk id=some b:=by
 cases h with
 | bnd f id b o h=>exact⟨b,rfl,h⟩
theorem Rep.of_clo {x:Value}{f:Nat}{cs:List V}(h:Rep g w x (.clo f cs)):∃xs:Array Value,x=.func (.func f) #[] xs∧xs.size=cs.length∧∀i (hi:i<xs.size) (hj:i<cs.length),Rep g w xs[i] cs[i]:=by
 cases h with
 | clo f xs cs hn h=>exact⟨xs,rfl,hn,h⟩
theorem Rep.of_sl {x:Value}{us:List V}{i:SI}(h:Rep g w x (.sl us i)):∃(A:Option Addr) (cap z:Nat) (cv:Nat→Value),x=.slice A us.length cap∧us.length≤cap∧(∀u∈us,u.cells.length=z) ∧
  (us≠[]→∃b o,A=some ⟨b,o,none⟩∧∀j,j<us.length*z→g.fz b (o+j)∧w.cell? ⟨b,o+j,none⟩=some (cv j)∧(cv j).oneCell'=true) ∧
  (∀j (hj:j<(aG us).length),Rep g w (cv j) (aG us)[j])∧SIok g A us.length cap i:=by
 cases h with
 | sl A n cap us i z cv hn hc hzz hA h hi=>subst hn;exact⟨A,cap,z,cv,rfl,hc,hzz,hA,h,hi⟩
theorem fC {x:Value}{v:V}{n:Int}(h:Rep g w x v) (hi:idx v=some n):∃k,x=.int k n:=by
 cases v with
 | c y =>
  rw[h.of_c];cases y<;>simp[idx] at hi
  subst hi;exact⟨_,rfl⟩
 | _=>simp[idx] at hi
theorem qp {z z':Nat}{us:List V}(h:hz z us=true) (hu:∀u∈us,u.cells.length=z') (hne:us≠[]):z'=z:=by
 cases us with
 | nil=>exact absurd rfl hne
 | cons u r=>simp only[hz,beq_iff_eq] at h;rw[← h];exact (hu u (by simp)).symm
theorem aO {z:Nat}:∀{us:List V},(∀u∈us,u.cells.length=z)→(aG us).length=us.length*z
 | [],_=>by simp[aG]
 | u::r,h=>by
  have:=aO (us:=r) fun v hv=>h v (by simp[hv])
  simp only[aG,List.flatMap_cons,lA,lC] at *;rw[this,h u (by simp),Nat.succ_mul,Nat.add_comm]
theorem ew (us ws:List V):aG (us++ws)=aG us++aG ws:=by simp[aG]
theorem kK {z:Nat}:∀{us:List V},(∀u∈us,u.cells.length=z)→∀i (hi:i<us.length) j (hj:j<(us[i]).cells.length),(aG us)[i*z+j]?=some ((us[i]).cells[j])
 | [],_,i,hi,_,_=>absurd hi (by simp)
 | u::r,h,i,hi,j,hj=>by
  have hu:=h u (by simp);cases i with
  | zero =>
   simp only[List.getElem_cons_zero] at hj ⊢;simp only[aG,List.flatMap_cons,Nat.zero_mul,Nat.zero_add];rw[aL hj,gE hj]
  | succ i =>
   have:=kK (us:=r) (fun v hv=>h v (by simp[hv])) i (by simpa using hi) j (by simpa using hj);simp only[List.getElem_cons_succ] at hj ⊢;simp only[aG,List.flatMap_cons] at this ⊢;rw[aR (by rw[hu,Nat.succ_mul];omega)];rw[show (i+1)*z+j-u.cells.length=i*z+j by rw[hu,Nat.succ_mul];omega];exact this
theorem j3 {z:Nat}:∀{us:List V}(k:Nat),(∀u∈us,u.cells.length=z)→aG (us.drop k)=(aG us).drop (k*z)
 | us,0,_=>by simp
 | [],k+1,_=>by simp[aG]
 | u::r,k+1,h=>by
  have hu:=h u (by simp);have:=j3 (us:=r) k fun v hv=>h v (by simp[hv])
  simp only[List.drop_succ_cons,this];simp only[aG,List.flatMap_cons];rw[Nat.succ_mul,Nat.add_comm,← List.drop_drop,← hu,List.drop_left]
theorem kl {z:Nat}:∀{us:List V}(k:Nat),(∀u∈us,u.cells.length=z)→aG (us.take k)=(aG us).take (k*z)
 | us,0,_=>by simp[aG]
 | [],k+1,_=>by simp[aG]
 | u::r,k+1,h=>by
  have hu:=h u (by simp);have:=kl (us:=r) k fun v hv=>h v (by simp[hv])
  simp only[List.take_succ_cons];simp only[aG,List.flatMap_cons] at this ⊢;rw[this,Nat.succ_mul,Nat.add_comm,List.take_append,hu];rw[List.take_of_length_le (l:=u.cells) (by omega),show z+k*z-z=k*z by omega]
theorem cD {t:TypeId}{d:TypeDesc}(h:P.underlying t=some d) (w:World):(underlying t).run P w=.ok d w:=run_underlying h w
theorem bN {t:TypeId}{n:Nat}(h:szT P t=some n) (w:World):(sizeOf t).run P w=.ok n w:=by
 simp only[szT,mS] at h;obtain⟨i,hi,rfl⟩:=h;simp[sizeOf,typeInfo,hi]
theorem i4 {t:TypeId}{b:Bool}(h:m8 P t=some b) (w:World):(isAgg t).run P w=.ok b w:=by
 simp only[m8] at h;split at h<;>simp_all [isAgg,underlying]
 all_goals (subst h;rename_i d h1 h2 h3;cases d<;>simp_all)
theorem xj {t:TypeId}{n:Nat}(h:nT P t=some (some n)):m8 P t=some true∧szT P t=some n:=by
 unfold nT at h;split at h<;>simp_all
theorem ol {t:TypeId}(h:nT P t=some none):m8 P t=some false:=by
 unfold nT at h;split at h<;>simp_all
theorem Ak {t:TypeId}{n:Option Nat}(h:nT P t=some n){xs:Array Value}{cs:List V}(hn:xs.size=cs.length) (h1:∀i (hi:i<xs.size),(xs[i]).oneCell'=true)
  (hr:∀i (hi:i<xs.size) (hj:i<cs.length),Rep g w xs[i] cs[i]){off:Nat}{v:V}(hv:rdV cs off n=some v):∃x,(part t xs off).run P w=.ok x w∧Rep g w x v:=by
 cases n with
 | some n =>
  obtain⟨k1,k2⟩:=xj h;simp only[rdV] at hv;split at hv
  ·rename_i hle;simp only[sI] at hv;subst hv;refine⟨.agg (xs.extract off (off+n)),by simp[part,i4 k1,bN k2],?_⟩;refine .agg _ _ (by simp;omega) (fun i hi=>?_) (fun i hi hj=>?_)
   ·simp only[Array.getElem_extract];exact h1 _ _
   ·simp only[Array.getElem_extract,List.getElem_take,List.getElem_drop];exact hr _ _ _
  ·cases hv
 | none =>
  have k1:=ol h;simp only[rdV] at hv;obtain⟨hlt,rfl⟩:=gS.1 hv;have hlt':off<xs.size:=by omega
  exact⟨xs[off],by simp[part,i4 k1,hlt'],hr _ hlt' hlt⟩
end
section
variable {P:Program}{w:World}
theorem vW (a b:ByteArray):(a.toList==b.toList)=decide (a=b):=by
 rw[← beq_toListBytes];by_cases h:a=b
 ·subst h;simp[(MapKept.bytes_beq a a).2 rfl]
 ·have:(a==b)=false:=by
   cases hc:(a==b) with
   | false=>rfl
   | true=>exact absurd ((MapKept.bytes_beq _ _).1 hc) h
  rw[this];simp[h]
theorem nc {t:TypeId}{k:Nat}(hk:ld P t=some k){x y:Value}{b:Bool}(h:ea k x y=some b) (d:Nat):(Op.equalIn (d+1) t x y).run P w=.ok b w:=by
 unfold ea at h;split at h
 ·split at h
  ·rename_i hk';subst hk';simp only[sI] at h;subst h;obtain⟨ki,hu⟩:∃ki,P.underlying t=some (.int ki):=by
    unfold ld at hk;split at hk<;>simp_all
   exact run_equalIn_int w d t _ ki _ _ hu
  ·cases h
 ·simp only[sI] at h;subst h;have hu:P.underlying t=some .string:=by
   unfold ld at hk;split at hk<;>simp_all
  rw[run_equalIn_string w d t _ _ hu,vW]
 ·simp only[sI] at h;subst h;have hu:P.underlying t=some .bool:=by
   unfold ld at hk;split at hk<;>simp_all
  exact run_equalIn_bool w d t _ _ hu
 ·cases h
theorem lq {t:TypeId}(h:nT P t=some none){xs:Array Value}{off:Nat}{x:Value}(hx:xs[off]?=some x):(part t xs off).run P w=.ok x w:=by
 have k1:=ol h;obtain⟨hlt,rfl⟩:=Array.getElem?_eq_some_iff.1 hx;simp[part,i4 k1,hlt]
theorem mb {xs:Array Value}{off:Nat}{x:Value}{r:List Value}(h:xs.toList.drop off=x::r):xs[off]?=some x∧xs.toList.drop (off+1)=r:=by
 have h1:(xs.toList.drop off)[0]?=some x:=by rw[h];rfl
 refine⟨by simpa using h1,?_⟩;have:xs.toList.drop (off+1)=(xs.toList.drop off).drop 1:=by rw[List.drop_drop]
 rw[this,h];rfl
theorem jt {f : Go.Field} {fs : List Go.Field} {off : Nat} {l : List Nat} (h : fN P (f :: fs) off = some l) : f.name ≠ "_" ∧ f.offset = off ∧ nT P f.type = some none ∧ ∃ k l', l = k :: l' ∧ ld P f.type = some k ∧ fN P fs (off + 1) = some l' := by
 simp only[fN] at h;split at h
 ·rename_i hc;split at h
  ·rename_i k l' h1 h2;simp only[sI] at h;exact⟨hc.1,hc.2.1,hc.2.2,k,l',h.symm,h1,h2⟩
  ·cases h
 ·cases h
theorem nO (d:Nat) (xs ys:Array Value):∀(fs:List Go.Field) (off:Nat) (l:List Nat) (b:Bool),fN P fs off=some l→bO l (xs.toList.drop off) (ys.toList.drop off)=some b→(Op.eqFields (d+1) xs ys fs).run P w=.ok b w
 | [],off,l,b,hf,h=>by
  simp only[fN,sI] at hf;subst hf;cases hx:xs.toList.drop off with
  | nil =>
   cases hy:ys.toList.drop off with
   | nil=>rw[hx,hy] at h;simp only[bO,sI] at h;subst h;simp[Op.eqFields]
   | cons y r=>rw[hx,hy] at h;simp[bO] at h
  | cons x r=>rw[hx] at h;simp[bO] at h
 | f::fs,off,l,b,hf,h=>by
  obtain⟨hn,ho,hnt,k,l',rfl,hk,hfs⟩:=jt hf;cases hx:xs.toList.drop off with
  | nil=>rw[hx] at h;simp[bO] at h
  | cons x r =>
   cases hy:ys.toList.drop off with
   | nil=>rw[hx,hy] at h;simp[bO] at h
   | cons y q =>
    rw[hx,hy] at h;simp only[bO] at h;obtain⟨h1,h2⟩:=mb hx;obtain⟨h3,h4⟩:=mb hy;have p1:=lq (w:=w) hnt h1;have p2:=lq (w:=w) hnt h3;subst ho;simp only[Op.eqFields,hn,ne_eq,not_false_eq_true,if_true,Sem.run_bind,p1,p2,Result.andThen_ok];split at h
    ·rename_i hs;rw[nc hk hs d];simp only[Result.andThen_ok,Bool.not_true,Bool.false_eq_true,if_false];exact nO d xs ys fs _ l' b hfs (by rw[h2,h4];exact h)
    ·rename_i hs;cases b with
     | true=>exact absurd h hs
     | false =>
      rw[nc hk h d];simp
theorem ff {t:TypeId}{l:List Nat}(h:dz P t=some l):∃fs,P.underlying t=some (.struct fs)∧P.stoodInHeld t=false∧P.eqGuardType P.depth t=false∧fN P fs.toList 0=some l:=by
 unfold dz at h;split at h
 ·rename_i fs hu;split at h
  ·rename_i hc;exact⟨fs,hu,hc.1,hc.2,h⟩
  ·cases h
 ·cases h
theorem mN {t:TypeId}{l:List Nat}(h:dz P t=some l){xs ys:Array Value}{b:Bool}(hs:bO l xs.toList ys.toList=some b) (d:Nat):(Op.equalIn (d+2) t (.agg xs) (.agg ys)).run P w=.ok b w:=by
 obtain⟨fs,hu,hp,_,hf⟩:=ff h;have hfs:P.fieldsOf t=fs:=by simp[Program.fieldsOf,hu]
 rw[run_equalIn_struct w (d+1) t xs ys (by rw[hfs];exact hu) hp,hfs];exact nO d xs ys fs.toList 0 l b hf (by simpa using hs)
theorem Dk {t:TypeId}{l:List Nat}(h:dz P t=some l){xs ys:Array Value}{b:Bool}(hs:bO l xs.toList ys.toList=some b) (X Y:Operand) :
  (do eqGuard .eql t X Y (.agg xs) (.agg ys);binOp .eql t (.agg xs) (.agg ys):Sem Value).run P w=.ok (.bool b) w∧(do eqGuard .neq t X Y (.agg xs) (.agg ys);binOp .neq t (.agg xs) (.agg ys):Sem Value).run P w=.ok (.bool !b) w:=by
 obtain⟨fs,hu,hp,hg,hf⟩:=ff h;have he:=mN (w:=w) h hs 9998;constructor
 ·simp only[Sem.run_bind,run_eqGuard_agg w .eql t X Y xs ys hg,Result.andThen_ok,run_eql_struct w t xs ys,he]
 ·simp only[Sem.run_bind,run_eqGuard_agg w .neq t X Y xs ys hg,Result.andThen_ok,run_neq_struct w t xs ys,he]
theorem qr {k:Nat}{x y:Value}(h:ea k x y=some true):x=y:=by
 unfold ea at h;split at h
 ·split at h
  ·rename_i hk;subst hk;simp only[sI,beq_iff_eq] at h;rw[h]
  ·cases h
 ·simp only[sI,dT] at h;rw[h]
 ·simp only[sI,beq_iff_eq] at h;rw[h]
 ·cases h
theorem rv:∀{l:List Nat}{xs ys:List Value},bO l xs ys=some true→xs=ys
 | [],[],[],_=>rfl
 | [],[],y::ys,h=>by simp[bO] at h
 | [],x::xs,ys,h=>by simp[bO] at h
 | k::l,[],ys,h=>by simp[bO] at h
 | k::l,x::xs,[],h=>by simp[bO] at h
 | k::l,x::xs,y::ys,h=>by
  simp only[bO] at h;split at h
  ·rename_i hs;rw[qr hs,rv h]
  ·rename_i hs;exact absurd h hs
theorem lE {kd:Option (List Nat)}{x y:Value}(h:cS kd x y=some true):x=y:=by
 cases kd with
 | none=>exact qr h
 | some l =>
  cases x<;>cases y<;>simp only[cS,reduceCtorEq] at h
  rename_i xs ys;have:=rv h;rw[Array.ext' this]
theorem kr {g:Gh}:∀{cs:List V}{l:List Value},dD cs=some l→∀{xs:List Value},xs.length=cs.length→(∀i (hi:i<xs.length) (hj:i<cs.length),Rep g w xs[i] cs[i])→xs=l
 | [],l,h,xs,hn,_=>by
  simp only[dD,sI] at h;subst h;cases xs with
  | nil=>rfl
  | cons x xs=>simp at hn
 | c::cs,l,h,xs,hn,hr=>by
  cases xs with
  | nil=>simp at hn
  | cons x xs =>
   cases c with
   | c y =>
    simp only[dD,mS] at h;obtain⟨l',h1,rfl⟩:=h;have h0:=hr 0 (by simp) (by simp);rw[show x=y from h0.of_c,kr h1 (xs:=xs) (by simpa using hn) fun i hi hj=>hr (i+1) (Nat.succ_lt_succ hi) (Nat.succ_lt_succ hj)]
   | _=>simp[dD] at h
theorem iN {g:Gh}{x:Value}{cs:List V}{l:List Value}(h:Rep g w x (.agg cs)) (hc:dD cs=some l):x=.agg l.toArray:=by
 obtain⟨xs,rfl,hn,_,hr⟩:=h.of_agg;have:=kr hc (xs:=xs.toList) (by simpa using hn) fun i hi hj=>by simpa using hr i (by simpa using hi) hj
 rw[← this]
theorem rI {g:Gh}{kd:Option (List Nat)}{x:Value}{v:V}{kv:Value}(h:Rep g w x v) (hk:l6 kd v=some kv):x=kv:=by
 unfold l6 at hk;split at hk
 ·simp only[sI] at hk;rw[← hk];exact h.of_c
 ·split at hk
  ·rename_i xs hc;split at hk
   ·simp only[sI] at hk;rw[← hk];exact iN h hc
   ·cases hk
  ·cases hk
 ·cases hk
theorem ny {kd:Option (List Nat)}{v:V}{kv:Value}(hk:l6 kd v=some kv):cS kd kv kv=some true:=by
 unfold l6 at hk;split at hk
 ·simp only[sI] at hk;subst hk;simp[cS,ea]
 ·split at hk
  ·rename_i xs hc;split at hk
   ·rename_i hs;simp only[sI] at hk;subst hk;simpa[cS] using hs
   ·cases hk
  ·cases hk
 ·cases hk
theorem qH {α:Type}{body:α→PUnit→Sem (ForInStep PUnit)}:∀(l:List α),(∀x∈l,(body x ⟨⟩).run P w=.ok (.yield ⟨⟩) w)→(forIn l PUnit.unit body:Sem PUnit).run P w=.ok ⟨⟩ w
 | [],_=>by simp
 | x::l,h=>by
  rw[List.forIn_cons,Sem.run_bind,h x (by simp)];simp only[Result.andThen_ok];exact qH l fun y hy=>h y (by simp[hy])
theorem sU {t:TypeId}{k:Nat}(hk:ld P t=some k) (e:Bool) (n:Nat){x:Value}:(Instr.checkKey e (n+1) t x).run P w=.ok () w:=by
 unfold Instr.checkKey;unfold ld at hk;split at hk
 ·rename_i hu;simp only[Sem.run_bind,run_underlying hu,Result.andThen];cases x<;>rfl
 ·rename_i hu;simp only[Sem.run_bind,run_underlying hu,Result.andThen];cases x<;>rfl
 ·rename_i hu;simp only[Sem.run_bind,run_underlying hu,Result.andThen];cases x<;>rfl
 ·cases hk
theorem ke {f:Go.Field}:∀{fs:List Go.Field}{off:Nat}{l:List Nat},fN P fs off=some l→f∈fs→∃j k,j<l.length∧f.offset=off+j∧nT P f.type=some none∧ld P f.type=some k
 | [],_,_,_,h=>by simp at h
 | f'::fs,off,l,hf,h=>by
  obtain⟨hn,ho,hnt,k,l',rfl,hk,hfs⟩:=jt hf;rcases List.mem_cons.1 h with rfl|h
  ·exact⟨0,k,by simp,by simpa using ho,hnt,hk⟩
  ·obtain⟨j,k',h1,h2,h3,h4⟩:=ke hfs h;exact⟨j+1,k',by simpa using h1,by omega,h3,h4⟩
theorem mA:∀{l:List Nat}{xs ys:List Value},bO l xs ys=some true→xs.length=l.length
 | [],[],[],_=>rfl
 | [],[],y::ys,h=>by simp[bO] at h
 | [],x::xs,ys,h=>by simp[bO] at h
 | k::l,[],ys,h=>by simp[bO] at h
 | k::l,x::xs,[],h=>by simp[bO] at h
 | k::l,x::xs,y::ys,h=>by
  simp only[bO] at h;split at h
  ·simp[mA h]
  ·rename_i hs;exact absurd h hs
theorem ii {kt:TypeId}{kd:Option (List Nat)}(hk:lS P kt=some kd){kv:Value}(hs:cS kd kv kv=some true) (e:Bool) (n:Nat):(Instr.checkKey e (n+2) kt kv).run P w=.ok () w:=by
 unfold lS at hk;split at hk
 ·rename_i hu;simp only[sI] at hk;subst hk;unfold Instr.checkKey;simp only[Sem.run_bind,run_underlying hu,Result.andThen];cases kv<;>rfl
 ·rename_i fs hu;simp only[mS] at hk;obtain⟨l,hl,rfl⟩:=hk;obtain⟨fs',hu',_,_,hf⟩:=ff hl;rw[hu] at hu';simp only[sI,TypeDesc.struct.injEq] at hu';subst hu';cases kv<;>simp only[cS,reduceCtorEq] at hs
  rename_i xs;have hlen:=mA hs;unfold Instr.checkKey;simp only[Sem.run_bind,run_underlying hu,Result.andThen_ok];rw[← Array.forIn_toList]
  have hfor := qH (w := w) (P := P) (body := fun (f : Go.Field) (__s : PUnit) => if f.name ≠ "_" then (do
       let __do_lift ← part f.type xs f.offset
       Instr.checkKey e (n+1) f.type __do_lift
       pure (ForInStep.yield PUnit.unit):Sem (ForInStep PUnit))
      else pure (ForInStep.yield PUnit.unit)) fs.toList fun f hfm=>?_
  ·rw[hfor];rfl
  obtain⟨j,k,h1,h2,h3,h4⟩:=ke hf hfm;have hj:j<xs.size:=by simp at hlen;omega
  have hp:=lq (w:=w) h3 (xs:=xs) (off:=f.offset) (x:=xs[j]) (by rw[h2,Nat.zero_add];exact Array.getElem?_eq_getElem hj);split
  ·simp only[Sem.run_bind,hp,Result.andThen_ok,sU h4 e n,Sem.run_pure]
  ·simp
 ·cases hk
inductive Fnd (kd:Option (List Nat)) (k:Value):List MapEntry→Nat→Option (Nat × Value)→Prop where
 | no (i:Nat):Fnd kd k [] i none
 | here (e:MapEntry) (es:List MapEntry) (i:Nat) (h:cS kd k e.key=some true):Fnd kd k (e::es) i (some (i,e.val))
 | there (e:MapEntry) (es:List MapEntry) (i:Nat) (r:Option (Nat × Value)) (h:cS kd k e.key=some false) (hr:Fnd kd k es (i+1) r):Fnd kd k (e::es) i r
theorem Fnd.now {k:Value}{es:List MapEntry}{i:Nat}{r:Option (Nat × Value)}(h:Fnd none k es i r):Instr.findNow .string k es i=some r:=by
 have step:∀(e:MapEntry) b,cS none k e.key=some b→Instr.sameNow .string k e.key=some b:=by
  intro e b hb;cases k<;>cases hke:e.key<;>rw[hke] at hb<;>simp only[cS,ea,reduceCtorEq] at hb
  rename_i a c;simp only[sI] at hb;subst hb;simp only[Instr.sameNow];by_cases h:a=c
  ·subst h;simp[(MapKept.bytes_beq a a).2 rfl]
  ·have:(a==c)=false:=by
    cases hc:(a==c) with
    | false=>rfl
    | true=>exact absurd ((MapKept.bytes_beq _ _).1 hc) h
   simp[this,h]
 induction h with
 | no i=>rfl
 | here e es i h=>simp[Instr.findNow,step e true h]
 | there e es i r h _ ih=>simp[Instr.findNow,step e false h,ih]
theorem Fnd.ask {kt:TypeId}{l:List Nat}(hk:dz P kt=some l){k:Value}{es:List MapEntry}{i:Nat}{r:Option (Nat × Value)}(h:Fnd (some l) k es i r):(Instr.findAsking kt k es i).run P w=.ok r w:=by
 have step:∀(e:MapEntry) b,cS (some l) k e.key=some b→(Op.equal kt k e.key).run P w=.ok b w:=by
  intro e b hb;cases k<;>cases hke:e.key<;>rw[hke] at hb<;>simp only[cS,reduceCtorEq] at hb
  rename_i xs ys;exact mN hk hb 9998
 induction h with
 | no i=>simp[Instr.findAsking]
 | here e es i h=>simp[Instr.findAsking,step e true h]
 | there e es i r h _ ih=>simp[Instr.findAsking,step e false h,ih]
theorem Fnd.run {kt:TypeId}{kd:Option (List Nat)}(hk:lS P kt=some kd){k:Value}{es:List MapEntry}{r:Option (Nat × Value)}(h:Fnd kd k es 0 r):(Instr.findKey kt k es).run P w=.ok r w:=by
 unfold lS at hk;split at hk
 ·rename_i hu;simp only[sI] at hk;subst hk;exact MapKept.run_findKey hu h.now
 ·rename_i fs hu;simp only[mS] at hk;obtain⟨l,hl,rfl⟩:=hk;rw[run_findKey_eq w (by rw[hu])];exact h.ask hl
 ·cases hk
theorem tf {kd:Option (List Nat)}{k:Value}(hs:cS kd k k=some true):(Instr.keyThatStays k k).run P w=.ok k w:=by
 have key:∀{l:List Nat}{xs:List Value},bO l xs xs=some true→((xs.zip xs).all fun p=>Instr.sameBits 9999 p.1 p.2)=true:=by
  intro l
  induction l with
  | nil=>intro xs h;cases xs with
   | nil=>rfl
   | cons x xs=>simp[bO] at h
  | cons k l ih=>intro xs h;cases xs with
   | nil=>rfl
   | cons x xs =>
    simp only[bO] at h;split at h
    ·rename_i hv;simp only[List.zip_cons_cons,List.all_cons,bT];refine⟨?_,ih h⟩;unfold ea at hv;split at hv
     ·simp[Instr.sameBits]
     ·rename_i a b;simp[Instr.sameBits,(MapKept.bytes_beq _ _).2 rfl]
     ·simp[Instr.sameBits]
     ·cases hv
    ·rename_i hv;exact absurd h hv
 have:Instr.sameBits 10000 k k=true:=by
  cases kd with
  | none =>
   cases k<;>simp only[cS,ea,reduceCtorEq] at hs
   simp[Instr.sameBits,(MapKept.bytes_beq _ _).2 rfl]
  | some l =>
   cases k<;>simp only[cS,reduceCtorEq] at hs
   rename_i xs;have:=key hs;simp only[Instr.sameBits,beq_self_eq_true,Bool.true_and];exact this
 simp[Instr.keyThatStays,this]
end
section
variable {P:Program}{g:Gh}{w:World}{a:Act}{tm:List V}
theorem tA {t:TypeId}(hu:P.underlying t=some .bool) (d:Nat) (a b:Bool) (w:World):(Op.equalIn (d+1) t (.bool a) (.bool b)).run P w=.ok (a==b) w:=by
 simp[Op.equalIn,run_underlying hu]
theorem iG {t e:TypeId}(hu:P.underlying t=some (.slice e)) (d:Nat) (A:Option Addr) (n c n' c':Nat) (w:World):(Op.equalIn (d+1) t (.slice A n c) (.slice none n' c')).run P w=.ok A.isNone w:=by
 cases A<;>simp[Op.equalIn,run_underlying hu]
theorem kb {t e:TypeId}(hu:P.underlying t=some (.pointer e)) (d:Nat) (A:Option Addr) (w:World):(Op.equalIn (d+1) t (.pointer A) (.pointer none)).run P w=.ok A.isNone w:=by
 cases A<;>simp[Op.equalIn,run_underlying hu]
theorem j6 {t:TypeId}{x y:Value}{r:Bool}(h:∀d,(Op.equalIn (d+1) t x y).run P w=.ok r w)
  (hb:binOp .eql t x y=do pure (.bool (← Op.equal t x y))):(binOp .eql t x y).run P w=.ok (.bool r) w:=by
 have:=h 9999;rw[hb];simp only[Sem.run_bind];rw[show Op.equal t x y=Op.equalIn (9999+1) t x y from rfl,this];rfl
theorem ka {t:TypeId}{x y:Value}{r:Bool}(h:∀d,(Op.equalIn (d+1) t x y).run P w=.ok r w)
  (hb:binOp .neq t x y=do pure (.bool (!(← Op.equal t x y)))):(binOp .neq t x y).run P w=.ok (.bool (!r)) w:=by
 have:=h 9999;rw[hb];simp only[Sem.run_bind];rw[show Op.equal t x y=Op.equalIn (9999+1) t x y from rfl,this];rfl
theorem DW {op:BinOp}{t:TypeId}{q:Nat}(hq:qT P t=some q){x y:Value}{vx vy v:V}(hx:Rep g w x vx) (hy:Rep g w y vy) (h:ec op q vx vy=some v) (X Y:Operand) :
  ∃r,(do eqGuard op t X Y x y;binOp op t x y:Sem Value).run P w=.ok r w∧Rep g w r v:=by
 unfold ec at h;split at h
 ·-- integers
  rename_i k a k' b;rw[hx.of_c,hy.of_c];split at h
  ·rename_i hk;subst hk;cases op<;>simp only[fW,reduceCtorEq] at h
   case quo =>
    split at h
    ·cases h
    ·rename_i hb;simp only[sI] at h;subst h;exact⟨_,by simp[go_sem,Op.intDiv,hb],.c _⟩
   case rem =>
    split at h
    ·cases h
    ·rename_i hb;simp only[sI] at h;subst h;exact⟨_,by simp[go_sem,Op.intDiv,hb],.c _⟩
   all_goals (simp only[sI] at h;subst h;exact⟨_,by simp[go_sem,Op.intArith],.c _⟩)
  ·cases h
 ·-- strings
  rename_i a b;rw[hx.of_c,hy.of_c];cases op<;>simp only[yD,reduceCtorEq] at h
  case add =>
   split at h
   ·rename_i hb;simp only[sI] at h;subst h;refine⟨_,?_,.c _⟩;have hb':¬(9223372036854775807<((a.size:Int)+(b.size:Int))):=by omega
    simp[eqGuard,binOp,Op.stringOp,hb']
   ·cases h
  all_goals (simp only[sI] at h;subst h;exact⟨_,by simp[eqGuard,binOp,Op.stringOp],.c _⟩)
 ·-- bools
  rename_i a b;rw[hx.of_c,hy.of_c];have hu:P.underlying t=some .bool:=by
   unfold qT at hq;split at hq<;>simp_all
  split at h
  ·simp only[sI] at h;subst h;exact⟨_,by simp only[eqGuard_at_bool,Sem.run_bind,Sem.run_pure,Result.andThen_ok];exact j6 (fun d=>tA hu d a b w) rfl,.c _⟩
  ·simp only[sI] at h;subst h;exact⟨_,by simp only[eqGuard_at_bool,Sem.run_bind,Sem.run_pure,Result.andThen_ok];exact ka (fun d=>tA hu d a b w) rfl,.c _⟩
  ·cases h
 ·-- slices
  rename_i us i;obtain⟨e,hu⟩:∃e,P.underlying t=some (.slice e):=by
   unfold qT at hq;split at hq<;>simp_all
  cases hx with
  | sl A n cap _ _ z cv hn hc hzz hA hr hi =>
  cases hy with
  | sl A' n' cap' _ _ z' cv' hn' hc' hzz' hA' hr' hi' =>
  obtain⟨rfl,rfl⟩:=hi';have hA2:∀b:Bool,(binOp .eql t (.slice A n cap) (.slice none n' 0)).run P w=.ok (.bool A.isNone) w∧(binOp .neq t (.slice A n cap) (.slice none n' 0)).run P w=.ok (.bool (!A.isNone)) w :=
   fun _=>⟨j6 (fun d=>iG hu d A n cap n' 0 w) rfl,ka (fun d=>iG hu d A n cap n' 0 w) rfl⟩
  have key:∀r,n0 i us=some r→A.isNone=r:=by
   intro r hr;have cons:∀u l,us=u::l→u.cells.length≠0→A.isNone=false:=by
    intro u l hus hne;obtain⟨b,o,e,_⟩:=hA (by rw[hus];simp);rw[e];rfl
   cases i with
   | nil=>simp only[n0,sI] at hr;rw[← hr,hi.1];rfl
   | isn=>simp only[n0,sI] at hr;rw[← hr,show A=none from hi];rfl
   | nz =>
    simp only[n0,sI] at hr;rw[← hr];cases A with
    | none=>exact absurd rfl hi
    | some x=>rfl
   | any =>
    cases us with
    | nil=>simp[n0] at hr
    | cons u l =>
     simp only[n0] at hr;split at hr
     ·cases hr
     ·rename_i hne;simp only[sI] at hr;rw[← hr];exact cons u l rfl hne
   | full =>
    cases us with
    | nil=>simp[n0] at hr
    | cons u l =>
     simp only[n0] at hr;split at hr
     ·cases hr
     ·rename_i hne;simp only[sI] at hr;rw[← hr];exact cons u l rfl hne
   | tok k =>
    cases us with
    | nil=>simp[n0] at hr
    | cons u l =>
     simp only[n0] at hr;split at hr
     ·cases hr
     ·rename_i hne;simp only[sI] at hr;rw[← hr];exact cons u l rfl hne
  split at h
  ·simp only[mS] at h;obtain⟨r,hr,rfl⟩:=h;refine⟨_,by simp only[eqGuard_at_slice,Sem.run_bind,Sem.run_pure,Result.andThen_ok];exact (hA2 true).1,?_⟩;rw[key r hr];exact .c _
  ·simp only[mS] at h;obtain⟨r,hr,rfl⟩:=h;refine⟨_,by simp only[eqGuard_at_slice,Sem.run_bind,Sem.run_pure,Result.andThen_ok];exact (hA2 true).2,?_⟩;rw[key r hr];exact .c _
  ·cases h
 ·-- a row
  obtain⟨e,hu⟩:∃e,P.underlying t=some (.slice e):=by
   unfold qT at hq;split at hq<;>simp_all
  cases hx with
  | row A n cap id off z hc hA =>
  cases hy with
  | sl A' n' cap' _ _ z' cv' hn' hc' hzz' hA' hr' hi' =>
  obtain⟨rfl,rfl⟩:=hi';obtain⟨b,rfl,hb⟩:=hA (by omega);split at h
  ·simp only[sI] at h;subst h;exact⟨_,by simp only[eqGuard_at_slice,Sem.run_bind,Sem.run_pure,Result.andThen_ok];exact j6 (fun d=>iG hu d _ _ cap n' 0 w) rfl,.c _⟩
  ·simp only[sI] at h;subst h;exact⟨_,by simp only[eqGuard_at_slice,Sem.run_bind,Sem.run_pure,Result.andThen_ok];exact ka (fun d=>iG hu d _ _ cap n' 0 w) rfl,.c _⟩
  ·cases h
 ·rw[hx.of_c,hy.of_c];obtain⟨e,hu⟩:∃e,P.underlying t=some (.pointer e):=by
   unfold qT at hq;split at hq<;>simp_all
  split at h
  ·simp only[sI] at h;subst h;exact⟨_,by simp only[eqGuard_at_pointer,Sem.run_bind,Sem.run_pure,Result.andThen_ok];exact j6 (fun d=>kb hu d _ w) rfl,.c _⟩
  ·simp only[sI] at h;subst h;exact⟨_,by simp only[eqGuard_at_pointer,Sem.run_bind,Sem.run_pure,Result.andThen_ok];exact ka (fun d=>kb hu d _ w) rfl,.c _⟩
  ·cases h
 ·rw[hy.of_c];obtain⟨e,hu⟩:∃e,P.underlying t=some (.pointer e):=by
   unfold qT at hq;split at hq<;>simp_all
  cases hx with
  | ref id b o hb =>
  split at h
  ·simp only[sI] at h;subst h;exact⟨_,by simp only[eqGuard_at_pointer,Sem.run_bind,Sem.run_pure,Result.andThen_ok];exact j6 (fun d=>kb hu d _ w) rfl,.c _⟩
  ·simp only[sI] at h;subst h;exact⟨_,by simp only[eqGuard_at_pointer,Sem.run_bind,Sem.run_pure,Result.andThen_ok];exact ka (fun d=>kb hu d _ w) rfl,.c _⟩
  ·cases h
 ·rw[hy.of_c];obtain⟨e,hu⟩:∃e,P.underlying t=some (.pointer e):=by
   unfold qT at hq;split at hq<;>simp_all
  cases hx with
  | ptr b o o' cs off cv ho hA hr =>
  split at h
  ·simp only[sI] at h;subst h;exact⟨_,by simp only[eqGuard_at_pointer,Sem.run_bind,Sem.run_pure,Result.andThen_ok];exact j6 (fun d=>kb hu d _ w) rfl,.c _⟩
  ·simp only[sI] at h;subst h;exact⟨_,by simp only[eqGuard_at_pointer,Sem.run_bind,Sem.run_pure,Result.andThen_ok];exact ka (fun d=>kb hu d _ w) rfl,.c _⟩
  ·cases h
 ·cases h
end
def CR (g:Gh) (w:World) (xs:Array Value) (cs:List V):Prop :=
 xs.size=cs.length∧∀j (hi:j<xs.size) (hj:j<cs.length),Rep g w xs[j] cs[j]∧(xs[j]).oneCell'=true
theorem nN (off:Nat):∀(l:List Value) (i:Nat) (cells:Array Value),off+i+l.length≤cells.size →
  ((l.zipIdx i).foldl (fun cs (x:Value × Nat)=>match x with|(c,j)=>cs.setIfInBounds (off+j) c) cells).toList=cells.toList.take (off+i)++(l++cells.toList.drop (off+i+l.length))
 | [],i,cells,h=>by simp
 | v::l,i,cells,h=>by
  simp only[lC] at h;have ih:=nN off l (i+1) (cells.setIfInBounds (off+i) v) (by simp;omega);simp only[List.zipIdx_cons,List.foldl_cons];rw[ih];apply List.ext_getElem?;intro k;simp only[Array.toList_setIfInBounds,List.getElem?_append,List.length_take,List.length_set,Array.length_toList,lC,List.getElem?_take,List.getElem?_drop,List.getElem?_set,List.getElem?_cons];have h1:min (off+(i+1)) cells.size=off+(i+1):=by omega
  have h2:min (off+i) cells.size=off+i:=by omega
  rw[h1,h2];by_cases c1:k<off+i
  ·have c2:k<off+(i+1):=by omega
   have c3:¬off+i=k:=by omega
   simp[c1,c2,c3]
  ·by_cases c2:k=off+i
   ·subst c2;have c3:off+i<off+(i+1):=by omega
    have c4:off+i<cells.size:=by omega
    simp[c3,c4]
   ·have c3:¬k<off+(i+1):=by omega
    have c4:k-(off+i)≠0:=by omega
    simp only[c1,c3,if_false,c4];have c5:k-(off+i)-1=k-(off+(i+1)):=by omega
    rw[c5];by_cases c6:k-(off+(i+1))<l.length
    ·have c7:k-(off+i)<l.length+1:=by omega
     simp[c6,c7]
    ·have c7:¬k-(off+i)<l.length+1:=by omega
     simp only[c6,c7,if_false];have c8:off+(i+1)+l.length+(k-(off+(i+1))-l.length)=off+i+(l.length+1)+(k-(off+i)-(l.length+1)):=by omega
     rw[c8];have c9:¬off+i=off+i+(l.length+1)+(k-(off+i)-(l.length+1)):=by omega
     simp[c9]
theorem j8 (off:Nat) (v cells:Array Value) (h:off+v.size≤cells.size) :
  (v.zipIdx.foldl (fun cs (x:Value × Nat)=>match x with|(c,j)=>cs.setIfInBounds (off+j) c) cells).toList=cells.toList.take off++(v.toList++cells.toList.drop (off+v.size)):=by
 rw[← Array.foldl_toList,Array.toList_zipIdx];have:=nN off v.toList 0 cells (by simpa using h);simpa using this
section
variable {P:Program}{g:Gh}{w:World}{a:Act}{tm:List V}
theorem CR.get? {xs:Array Value}{cs:List V}(h:CR g w xs cs){j:Nat}{x:Value}(hx:xs.toList[j]?=some x):∃v,cs[j]?=some v∧Rep g w x v∧x.oneCell'=true:=by
 obtain⟨hj,rfl⟩:=gS.1 hx;have hj':j<cs.length:=by rw[← h.1];simpa using hj
 have:=h.2 j (by simpa using hj) hj';exact⟨cs[j],gE hj',by simpa using this.1,by simpa using this.2⟩
theorem CR.of {xs:Array Value}{cs:List V}(hl:xs.size=cs.length) (h:∀(j:Nat) (x:Value) (v:V),xs.toList[j]?=some x→cs[j]?=some v→Rep g w x v∧x.oneCell'=true):CR g w xs cs :=
 ⟨hl,fun j hi hj=>h j _ _ (by simp[gE hi]) (gE hj)⟩
theorem CR.cells {x:Value}{v:V}(h:Rep g w x v) (ho:okc v=true):CR g w x.cells v.cells :=
 ⟨(h.cells ho).1,fun j hi hj=>(h.cells ho).2 j hj hi⟩
theorem CR.agg {xs:Array Value}{cs:List V}(h:CR g w xs cs):Rep g w (.agg xs) (.agg cs) :=
 .agg xs cs h.1 (fun i hi=>(h.2 i hi (by rw[← h.1];exact hi)).2) (fun i hi hj=>(h.2 i hi hj).1)
theorem CR.splice {xs:Array Value}{cs:List V}(h:CR g w xs cs){ys:Array Value}{vs:List V}(k:CR g w ys vs){off:Nat}(ho:off+vs.length≤cs.length){zs:Array Value}
  (hz:zs.toList=xs.toList.take off++(ys.toList++xs.toList.drop (off+ys.size))):CR g w zs (bF cs off vs):=by
 have hs:=congrArg List.length hz;simp only[Array.length_toList,lA,List.length_take,List.length_drop] at hs;have h1:=h.1;have k1:=k.1;refine CR.of (by simp only[Ab.bF,lA,List.length_take,List.length_drop];omega) fun j x v hx hv=>?_
 rw[hz] at hx;simp only[Ab.bF] at hv;rw[List.getElem?_append] at hx hv;have e1:(xs.toList.take off).length=off:=by simp;omega
 have e2:(cs.take off).length=off:=by simp;omega
 rw[e1] at hx;rw[e2] at hv;by_cases c1:j<off
 ·simp only[c1,if_true,List.getElem?_take] at hx hv;obtain⟨v',hv',r⟩:=h.get? hx;rw[hv] at hv';simp only[sI] at hv';subst hv';exact r
 ·simp only[c1,if_false] at hx hv;rw[List.getElem?_append] at hx hv;rw[Array.length_toList,k1] at hx;by_cases c2:j-off<vs.length
  ·simp only[c2,if_true] at hx hv;obtain⟨v',hv',r⟩:=k.get? hx;rw[hv] at hv';simp only[sI] at hv';subst hv';exact r
  ·simp only[c2,if_false,List.getElem?_drop] at hx hv;rw[← List.getElem?_drop,List.getElem?_drop] at hx;obtain⟨v',hv',r⟩:=h.get? hx;rw[hv] at hv';simp only[sI] at hv';subst hv';exact r
theorem vj {fields:Array Go.Field}{places:Array (Nat × Nat)}(hp:∀(i:Nat) (f:Go.Field),fields[i]?=some f→∀n,szT P f.type=some n→places[i]?=some (f.offset,n)) (ht:Tm g w a tm) :
  ∀{parts:List (Nat × Operand)}{l:List (Nat × Nat × A)},gO P fields parts=some l→∀{cells:Array Value}{zs cs:List V},CR g w cells zs→fQ zs tm l=some cs →
   ∃cells',Instr.fill (fun i=>places[i]?) cells (parts.map fun (x:Nat × Operand)=>match x with|(i,x)=>(i,a.eval x))=some cells'∧CR g w cells' cs
 | [],l,h,cells,zs,cs,hc,hf=>by
  simp only[gO,sI] at h;subst h;simp only[fQ,sI] at hf;subst hf;exact⟨cells,rfl,hc⟩
 | (i,x)::r,l,h,cells,zs,cs,hc,hf=>by
  simp only[gO] at h;split at h
  ·rename_i f ax l' h1 h2 h3;split at h
   ·rename_i n hn;simp only[sI] at h;subst h;simp only[fQ] at hf;split at hf
    ·rename_i hok;obtain⟨ho,hsz,hle⟩:=hok;have hr:=(aN ht h2).vwf;have hcr:=CR.cells hr ho;have hplace:=hp i f h1 n hn;have hsize:(a.eval x).cells.size=n:=by rw[hcr.1];exact hsz
     have hcs:=hc.1;have hle':f.offset+(a.eval x).cells.size≤cells.size:=by omega
     have hfo:=j8 f.offset (a.eval x).cells cells hle';have hcr2:=hc.splice hcr (off:=f.offset) (by rw[hsz];exact hle) hfo;obtain⟨cells',h4,h5⟩:=vj hp ht h3 hcr2 hf;refine⟨cells',?_,h5⟩;simp only[List.map_cons,Instr.fill,hplace];rw[if_neg (by simp[hsize];omega)];exact h4
    ·cases hf
   ·cases h
  ·cases h
theorem gp {α β:Type}(f:α→Sem β) (G:α→β):∀(l:List α),(∀x∈l,∀w,(f x).run P w=.ok (G x) w)→(l.mapM f).run P w=.ok (l.map G) w
 | [],_=>by simp
 | x::l,h=>by
  have h1:=h x (by simp) w;have h2:=gp f G l fun y hy=>h y (by simp[hy])
  simp[h1,h2]
theorem mX {α β:Type}(f:α→Sem β) (G:α→β) (xs:Array α) (h:∀x∈xs.toList,∀w,(f x).run P w=.ok (G x) w):(xs.mapM f).run P w=.ok (xs.map G) w:=by
 rw[Array.mapM_eq_mapM_toList];simp only[Sem.run_map,gp f G xs.toList h,Result.andThen_ok];congr 1;apply Array.ext';simp
theorem gQ {t:TypeId}{z:List V}(h:gD P t=some z):∃v i,P.info? t=some i∧i.zero=some v∧v.cells.size=i.size∧(zeroValue t).run P w=.ok v w∧CR g w v.cells z:=by
 unfold gD at h;split at h
 ·rename_i i hi;split at h
  ·rename_i v hv;split at h
   ·rename_i hok;simp only[bT,List.all_eq_true,beq_iff_eq] at hok;simp only[sI] at h;subst h;refine⟨v,i,hi,hv,hok.2,by simp[zeroValue,typeInfo,hi,hv],CR.of (by simp) fun j x u hx hu=>?_⟩;rw[List.getElem?_map,hx] at hu;simp only[Option.map_some,sI] at hu;subst hu;exact⟨lJ g w x,hok.1 x (List.mem_of_getElem? hx)⟩
   ·cases h
  ·cases h
 ·cases h
theorem yp {t:TypeId}{fields:Array Go.Field}(hu:P.underlying t=some (.struct fields)){z:List V}(hz:gD P t=some z) (hs:fields.toList.all (fun f=>(szT P f.type).isSome)=true)
  {parts:Array (Nat × Operand)}{l:List (Nat × Nat × A)}(hp:gO P fields parts.toList=some l) (ht:Tm g w a tm){cs:List V}(hf:fQ z tm l=some cs) :
  ∃xs,(Instr.build t (parts.map fun (x:Nat × Operand)=>match x with|(i,x)=>(i,a.eval x))).run P w=.ok (.agg xs) w∧CR g w xs cs:=by
 obtain⟨v,i,hi,hv,hsz,hrun,hcr⟩:=gQ (P:=P) (g:=g) (w:=w) hz
 let G:Go.Field→Nat × Nat:=fun f=>(f.offset,(szT P f.type).getD 0)
 have hm:(fields.mapM (fun f=>(do pure (f.offset,← Go.sizeOf f.type):Sem (Nat × Nat)))).run P w=.ok (fields.map G) w:=by
  refine mX _ G fields fun f hf w=>?_
  have:=List.all_eq_true.1 hs f hf;obtain⟨n,hn⟩:=Option.isSome_iff_exists.1 this;simp[bN hn,G,hn]
 obtain⟨cells',h1,h2⟩:=vj (P:=P) (fields:=fields) (places:=fields.map G) (fun i f hif n hn=>by simp[hif,G,hn]) ht hp hcr hf;refine⟨cells',?_,h2⟩;simp only[Instr.build,Sem.run_bind,hrun,Result.andThen_ok,cD hu,hm,Array.toList_map,h1];rfl
theorem Fi {t e ty:TypeId}(hu:P.underlying t=some (.slice e)){x:Value}{us:List V}{i:SI}(hx:Rep g w x (.sl us i)) :
  (Builtin.len_ #[t] ty #[x]).run P w=.ok (.int .i64 us.length) w:=by
 cases hx with
 | sl A n cap us i z cv hn hc hzz hA hr hi=>subst hn;simp[Builtin.len_,run_underlying hu,goInt]
theorem CP {t e ty:TypeId}(hu:P.underlying t=some (.slice e)){x:Value}{id off n:Nat}{z:Option Nat}(hx:Rep g w x (.row id off n z)) :
  (Builtin.len_ #[t] ty #[x]).run P w=.ok (.int .i64 n) w:=by
 cases hx with
 | row A n cap id off z hc h=>simp[Builtin.len_,run_underlying hu,goInt]
theorem C7 {t e ty:TypeId}(hu:P.underlying t=some (.slice e)){x:Value}{k n:Nat}{z:Option Nat}(hx:Rep g w x (.tsl k n z)) :
  (Builtin.len_ #[t] ty #[x]).run P w=.ok (.int .i64 n) w:=by
 cases hx with
 | tsl A n cap k z hc hA h=>simp[Builtin.len_,run_underlying hu,goInt]
theorem BJ {t ty:TypeId}(hu:P.underlying t=some .string){x:Value}{s:ByteArray}(hx:Rep g w x (.c (.string s))) :
  (Builtin.len_ #[t] ty #[x]).run P w=.ok (.int .i64 s.size) w:=by
 rw[hx.of_c];simp[Builtin.len_,run_underlying hu,goInt]
end
section
variable {P:Program}{g:Gh}{w:World}{a:Act}{tm:List V}
def E7:XOp→Bool
 | .alloc _ _=>true
 | .bslice _ _ _=>true
 | _=>false
theorem bo {x:Value}{n:Int}{k:IntKind}(hx:x=.int k n){y:Nat}(c:BoundsCode) (h:0≤n∧n≤y):(Instr.sliceBound x y c).run P w=.ok n.toNat w:=by
 subst hx;simp[Instr.sliceBound,asIntOf,h]
theorem bz {d:Int}{x:Option Operand}{ax:Option A}(ht:Tm g w a tm) (h:jS x=some ax){n:Int}(hi:bc tm d ax=some n) :
  (x=none∧n=d∧ax=none)∨∃y k,x=some y∧a.eval y=.int k n∧ax.isSome:=by
 cases x with
 | none =>
  simp only[jS,sI] at h;subst h;simp only[bc,sI] at hi;exact .inl ⟨rfl,hi.symm,rfl⟩
 | some y =>
  simp only[jS,mS] at h;obtain⟨ay,hy,rfl⟩:=h;simp only[bc] at hi;obtain⟨k,hk⟩:=fC (aN ht hy) hi;exact .inr ⟨y,k,rfl,hk,rfl⟩
theorem wG {isMax:Bool}:∀l:List V,l.foldl (im isMax) none=none
 | []=>rfl
 | z::l=>by simpa[im] using wG l
theorem EU {isMax:Bool}:∀{xs:List Value}{vs:List V}{acc:Value}{vacc:V},Rep g w acc vacc→xs.length=vs.length→(∀i (hi:i<xs.length) (hj:i<vs.length),Rep g w xs[i] vs[i]) →
  ∀{v:V},vs.foldl (im isMax) (some vacc)=some v→∃r,((xs.foldlM (if isMax then Builtin.max2 else Builtin.min2) acc:Sem Value)).run P w=.ok r w∧Rep g w r v
 | [],[],acc,vacc,ha,_,_,v,h=>by
  simp only[List.foldl_nil,sI] at h;subst h;exact⟨acc,by simp,ha⟩
 | x::xs,y::vs,acc,vacc,ha,hl,hr,v,h=>by
  simp only[List.foldl_cons] at h;have hx:=hr 0 (by simp) (by simp);simp only[List.getElem_cons_zero] at hx;have hrest:∀i (hi:i<xs.length) (hj:i<vs.length),Rep g w xs[i] vs[i]:=fun i hi hj=>hr (i+1) (by simpa using hi) (by simpa using hj)
  cases hs:im isMax (some vacc) y with
  | none=>rw[hs,wG] at h;cases h
  | some u =>
   rw[hs] at h;unfold im at hs;split at hs
   ·rename_i k p k' q hacc;simp only[sI] at hacc hs;subst hacc;subst hs;rw[ha.of_c,hx.of_c];obtain⟨r,h1,h2⟩:=EU (isMax:=isMax) (xs:=xs) (acc:=.int k (if isMax then (if q > p then q else p) else (if q<p then q else p))) (.c _) (by simpa using hl) hrest h;refine⟨r,?_,h2⟩;rw[List.foldlM_cons];cases isMax
    ·simpa[Builtin.min2] using h1
    ·simpa[Builtin.max2] using h1
   ·cases hs
 | [],_::_,_,_,_,hl,_,_,_=>by simp at hl
 | _::_,[],_,_,_,hl,_,_,_=>by simp at hl
theorem Ag {t e:TypeId}{z:Nat}(hu:P.underlying t=some (.slice e)) (hsz:szT P e=some z){x:Value}{us:List V}{si:SI}(hx:Rep g w x (.sl us si)) (ht:Tm g w a tm)
  {lo hi mx:Option Operand}{alo ahi amx:Option A}(h1:jS lo=some alo) (h2:jS hi=some ahi) (h3:jS mx=some amx){v:V}
  (hv:slV tm us z alo ahi amx=some v) :
  ∃r,(Instr.sliceAt t x (lo.map a.eval) (hi.map a.eval) (mx.map a.eval)).run P w=.ok r w∧Rep g w r v:=by
 cases hx with
 | sl A n cap _ _ z' cv hn hc hzz hA hr hsi =>
 subst hn;have fin:∀(l h:Int) (m:Nat) (si':SI),0≤l→l≤h→h≤us.length→h.toNat≤m→hz z us=true→(si'=.any∨(si'=.full∧m=h.toNat)) →
   Rep g w (.slice (if m=l.toNat then A else A.map (·.add (l.toNat*z))) (h.toNat-l.toNat) (m-l.toNat)) (.sl ((us.take h.toNat).drop l.toNat) si'):=by
  intro l h m si' hl hlh hh hm hzu hsi';have hlen:((us.take h.toNat).drop l.toNat).length=h.toNat-l.toNat:=by simp;omega
  refine .sl _ _ _ _ _ z' (fun j=>cv (l.toNat*z'+j)) hlen.symm (by omega) (fun u hu=>hzz u (List.mem_of_mem_take (List.mem_of_mem_drop hu))) (fun hne=>?_) (fun j hj=>?_) ?_
  ·have hne':us≠[]:=by intro e;subst e;simp at hne
   have hz':=qp hzu hzz hne';obtain⟨b,o,e,hcell⟩:=hA hne';have hlt:l.toNat<h.toNat:=by
    rcases Nat.lt_or_ge l.toNat h.toNat with c|c
    ·exact c
    ·exact absurd (List.eq_nil_of_length_eq_zero (by rw[hlen];omega)) hne
   refine⟨b,o+l.toNat*z',?_,fun j hj=>?_⟩
   ·rw[if_neg (by omega),e,← hz'];simp only[Option.map_some,Addr.add_lit]
   ·rw[hlen] at hj;have hb:l.toNat*z'+j<us.length*z':=by
     have:(h.toNat-l.toNat)*z'=h.toNat*z'-l.toNat*z':=Nat.sub_mul _ _ _;have:h.toNat*z'≤us.length*z':=Nat.mul_le_mul_right _ (by omega);have:l.toNat*z'≤h.toNat*z':=Nat.mul_le_mul_right _ (by omega);omega
    have:=hcell (l.toNat*z'+j) hb;rw[show o+l.toNat*z'+j=o+(l.toNat*z'+j) by omega];exact this
  ·have h5:((aG us).take (h.toNat*z')).drop (l.toNat*z')=aG ((us.take h.toNat).drop l.toNat):=by
    rw[j3 (z:=z') _ fun u hu=>hzz u (List.mem_of_mem_take hu),kl _ hzz]
   have hj2:l.toNat*z'+j<(aG us).length:=by
    rw[← h5] at hj;simp only[List.length_drop,List.length_take] at hj;omega
   have h6:(aG ((us.take h.toNat).drop l.toNat))[j]=(aG us)[l.toNat*z'+j]:=by
    have:(aG ((us.take h.toNat).drop l.toNat))[j]?=(aG us)[l.toNat*z'+j]?:=by
     rw[← h5,List.getElem?_drop,List.getElem?_take,if_pos];rw[← h5] at hj;simp only[List.length_drop,List.length_take] at hj;omega
    rw[gE hj,gE hj2] at this;exact Option.some.inj this
   rw[h6];exact hr _ hj2
  ·rcases hsi' with rfl|⟨rfl,e⟩
   ·trivial
   ·simp only[SIok];omega
 unfold slV at hv;cases hl:bc tm 0 alo with
 | none=>rw[hl] at hv;cases hv
 | some l =>
 cases hh:bc tm us.length ahi with
 | none=>rw[hl,hh] at hv;cases hv
 | some h =>
 rw[hl,hh] at hv;cases amx with
 | none =>
  simp only at hv;split at hv
  ·rename_i hc';obtain⟨c1,c2,c3,c4⟩:=hc';simp only[sI] at hv;subst hv;have hm0:mx=none:=by
    cases mx with
    | none=>rfl
    | some y=>simp only[jS,mS] at h3;obtain⟨_,_,h3⟩:=h3;cases h3
   subst hm0;have key:=fin l h cap .any c1 c2 c3 (by omega) c4 (.inl rfl);refine⟨_,?_,key⟩;rcases bz ht h2 hh with⟨rfl,hhe,_⟩|⟨y,k,rfl,hy,_⟩<;>rcases bz ht h1 hl with⟨rfl,hle,_⟩|⟨y',k',rfl,hy',_⟩
   ·subst hhe;subst hle;simp[Instr.sliceAt,cD hu,Instr.slice,Instr.sliceBounds,bN hsz]
   ·subst hhe;have b1:=bo (P:=P) (w:=w) hy' (y:=us.length) .sliceB (by omega);simp[Instr.sliceAt,cD hu,Instr.slice,Instr.sliceBounds,bN hsz,b1]
   ·subst hle;have b2:=bo (P:=P) (w:=w) hy (y:=cap) .sliceAcap (by omega);simp[Instr.sliceAt,cD hu,Instr.slice,Instr.sliceBounds,bN hsz,b2]
   ·have b2:=bo (P:=P) (w:=w) hy (y:=cap) .sliceAcap (by omega);have b1:=bo (P:=P) (w:=w) hy' (y:=h.toNat) .sliceB (by omega);simp[Instr.sliceAt,cD hu,Instr.slice,Instr.sliceBounds,bN hsz,b2,b1]
  ·cases hv
 | some am =>
  simp only at hv;split at hv
  ·rename_i m hm;split at hv
   ·rename_i hc';obtain⟨c0,c1,c2,c3,c4,c5⟩:=hc';simp only[sI] at hv;subst hv;subst c3;obtain⟨ym,kk,rfl,hym⟩:∃ym kk,mx=some ym∧a.eval ym=.int kk h:=by
     cases mx with
     | none=>simp[jS] at h3
     | some y =>
      simp only[jS,mS] at h3;obtain⟨ay,hay,h3⟩:=h3;simp only[sI] at h3;subst h3;obtain⟨kk,e⟩:=fC (aN ht hay) hm;exact⟨y,kk,rfl,e⟩
    have key:=fin l h h.toNat .full c1 c2 c4 (nL _) c5 (.inr ⟨rfl,rfl⟩);refine⟨_,?_,key⟩;have b3:=bo (P:=P) (w:=w) hym (y:=cap) .slice3Acap (by omega);rcases bz ht h2 hh with⟨rfl,hhe,e⟩|⟨y,k,rfl,hy,_⟩
    ·simp[e] at c0
    ·have b2:=bo (P:=P) (w:=w) hy (y:=h.toNat) .slice3B (by omega);rcases bz ht h1 hl with⟨rfl,hle,_⟩|⟨y',k',rfl,hy',_⟩
     ·subst hle;simp[Instr.sliceAt,cD hu,Instr.slice,Instr.sliceBounds,bN hsz,b3,b2]
     ·have b1:=bo (P:=P) (w:=w) hy' (y:=h.toNat) .slice3C (by omega);simp[Instr.sliceAt,cD hu,Instr.slice,Instr.sliceBounds,bN hsz,b3,b2,b1]
   ·cases hv
  ·cases hv
theorem vr {t e:TypeId}{z:Nat}(hu:P.underlying t=some (.slice e)) (hsz:szT P e=some z){x:Value}{id off n:Nat}{zz:Option Nat}(hx:Rep g w x (.row id off n zz)) (ht:Tm g w a tm)
  {lo hi mx:Option Operand}{alo ahi amx:Option A}(h1:jS lo=some alo) (h2:jS hi=some ahi) (h3:jS mx=some amx){v:V}
  (hv:xD tm id off n zz z alo ahi amx=some v) :
  ∃r,(Instr.sliceAt t x (lo.map a.eval) (hi.map a.eval) (mx.map a.eval)).run P w=.ok r w∧Rep g w r v:=by
 cases hx with
 | row A n cap _ _ _ hc hA =>
 unfold xD at hv;split at hv
 ·rename_i hzz;cases hl:bc tm 0 alo with
  | none=>rw[hl] at hv;cases hv
  | some l =>
  cases hh:bc tm n ahi with
  | none=>rw[hl,hh] at hv;cases hv
  | some h =>
  rw[hl,hh] at hv;cases amx with
  | none =>
   simp only at hv;split at hv
   ·rename_i hc';obtain⟨c1,c2,c3⟩:=hc';simp only[sI] at hv;subst hv;have hm0:mx=none:=by
     cases mx with
     | none=>rfl
     | some y=>simp only[jS,mS] at h3;obtain⟨_,_,h3⟩:=h3;cases h3
    subst hm0;have key:Rep g w (.slice (if cap=l.toNat then A else A.map (·.add (l.toNat*z))) (h.toNat-l.toNat) (cap-l.toNat)) (.row id (off+l.toNat*z) (h.toNat-l.toNat) zz):=by
     refine .row _ _ _ _ _ _ (by omega) fun hne=>?_
     obtain⟨b,e,hb⟩:=hA (by omega);refine⟨b,?_,hb⟩;rw[if_neg (by omega),e];simp only[Option.map_some,Addr.add_lit]
    refine⟨_,?_,key⟩;rcases bz ht h2 hh with⟨rfl,hhe,_⟩|⟨y,k,rfl,hy,_⟩<;>rcases bz ht h1 hl with⟨rfl,hle,_⟩|⟨y',k',rfl,hy',_⟩
    ·subst hhe;subst hle;simp[Instr.sliceAt,cD hu,Instr.slice,Instr.sliceBounds,bN hsz]
    ·subst hhe;have b1:=bo (P:=P) (w:=w) hy' (y:=n) .sliceB (by omega);simp[Instr.sliceAt,cD hu,Instr.slice,Instr.sliceBounds,bN hsz,b1]
    ·subst hle;have b2:=bo (P:=P) (w:=w) hy (y:=cap) .sliceAcap (by omega);simp[Instr.sliceAt,cD hu,Instr.slice,Instr.sliceBounds,bN hsz,b2]
    ·have b2:=bo (P:=P) (w:=w) hy (y:=cap) .sliceAcap (by omega);have b1:=bo (P:=P) (w:=w) hy' (y:=h.toNat) .sliceB (by omega);simp[Instr.sliceAt,cD hu,Instr.slice,Instr.sliceBounds,bN hsz,b2,b1]
   ·cases hv
  | some am =>
   simp only at hv;split at hv
   ·rename_i m hm;split at hv
    ·rename_i hc';obtain⟨c0,c1,c2,c3,c4⟩:=hc';simp only[sI] at hv;subst hv;subst c2;subst c3;obtain⟨ym,kk,rfl,hym⟩:∃ym kk,mx=some ym∧a.eval ym=.int kk l:=by
      cases mx with
      | none=>simp[jS] at h3
      | some y =>
       simp only[jS,mS] at h3;obtain⟨ay,hay,h3⟩:=h3;simp only[sI] at h3;subst h3;obtain⟨kk,e⟩:=fC (aN ht hay) hm;exact⟨y,kk,rfl,e⟩
     have key:Rep g w (.slice (if l.toNat=l.toNat then A else A.map (·.add (l.toNat*z))) (l.toNat-l.toNat) (l.toNat-l.toNat)) (.sl [] .full):=by
      refine .sl _ _ _ [] .full 0 (fun _=>undef) (by simp) (nL _) (by simp) (by simp) (by simp[aG]) ?_;simp only[SIok]
     refine⟨_,?_,key⟩;have b3:=bo (P:=P) (w:=w) hym (y:=cap) .slice3Acap (by omega);rcases bz ht h2 hh with⟨rfl,hhe,e⟩|⟨y,k,rfl,hy,_⟩
     ·simp[e] at c0
     ·have b2:=bo (P:=P) (w:=w) hy (y:=l.toNat) .slice3B (by omega);rcases bz ht h1 hl with⟨rfl,hle,_⟩|⟨y',k',rfl,hy',_⟩
      ·subst hle;simp only[Int.toNat_zero] at b2 b3;simp[Instr.sliceAt,cD hu,Instr.slice,Instr.sliceBounds,bN hsz,b3,b2]
      ·have b1:=bo (P:=P) (w:=w) hy' (y:=l.toNat) .slice3C (by omega);simp[Instr.sliceAt,cD hu,Instr.slice,Instr.sliceBounds,bN hsz,b3,b2,b1]
    ·cases hv
   ·cases hv
 ·cases hv
theorem ux {t:TypeId}(hu:P.underlying t=some .string){x:Value}{s:ByteArray}(hx:Rep g w x (.c (.string s))) (ht:Tm g w a tm)
  {lo hi:Option Operand}{alo ahi:Option A}(h1:jS lo=some alo) (h2:jS hi=some ahi){l h:Int}(hl:bc tm 0 alo=some l) (hh:bc tm s.size ahi=some h) (hc:0≤l∧l≤h∧h≤s.size) :
  (Instr.sliceAt t x (lo.map a.eval) (hi.map a.eval) none).run P w=.ok (.string (s.extract l.toNat h.toNat)) w:=by
 rw[hx.of_c];rcases bz ht h2 hh with⟨rfl,hhe,_⟩|⟨y,k,rfl,hy,_⟩<;>rcases bz ht h1 hl with⟨rfl,hle,_⟩|⟨y',k',rfl,hy',_⟩
 ·subst hhe;subst hle;simp[Instr.sliceAt,cD hu,Instr.slice,Instr.sliceBounds]
 ·subst hhe;have b1:=bo (P:=P) (w:=w) hy' (y:=s.size) .sliceB (by omega);simp[Instr.sliceAt,cD hu,Instr.slice,Instr.sliceBounds,b1]
 ·subst hle;have b2:=bo (P:=P) (w:=w) hy (y:=s.size) .sliceAlen (by omega);simp[Instr.sliceAt,cD hu,Instr.slice,Instr.sliceBounds,b2]
 ·have b2:=bo (P:=P) (w:=w) hy (y:=s.size) .sliceAlen (by omega);have b1:=bo (P:=P) (w:=w) hy' (y:=h.toNat) .sliceB (by omega);simp[Instr.sliceAt,cD hu,Instr.slice,Instr.sliceBounds,b2,b1]
end
section
variable {P:Program}{g:Gh}{w:World}{a:Act}{tm:List V}
def PureOk (P:Program) (g:Gh) (w:World) (a:Act) (o:Oper) (v:V):Prop:=∃r,(execOp a.eval o).run P w=.ok (.value r) w∧Rep g w r v
theorem nh {isMax:Bool}{args:Array Operand}{xas:List A}(has:kD args.toList=some xas) (ht:Tm g w a tm){v:V}(hv:mmV isMax (xas.map (ev tm))=some v) (ts:Array TypeId) (t:TypeId) :
  ∃r,((if isMax then Builtin.max_ ts t (args.map a.eval) else Builtin.min_ ts t (args.map a.eval)):Sem Value).run P w=.ok r w∧Rep g w r v:=by
 obtain⟨hl,hr⟩:=fO ht has;cases xas with
 | nil=>simp[mmV] at hv
 | cons y xas =>
  obtain⟨l⟩:=args;cases l with
  | nil=>simp at hl
  | cons X l =>
   simp only[List.map_cons,mmV] at hv;have h0:=hr 0 (by simp) (by simp);obtain⟨r,h1,h2⟩:=EU (P:=P) (isMax:=isMax) (xs:=l.map a.eval) (acc:=a.eval X) h0 (by simpa using hl) (fun i hi hj=>by have:=hr (i+1) (by simpa using hi) (by simpa using hj);simpa only[List.getElem_map,List.getElem_cons_succ] using this) hv;refine⟨r,?_,h2⟩;cases isMax
   ·simp only[Bool.false_eq_true,if_false,List.map_toArray,List.map_cons,Builtin.min_] at h1 ⊢;exact h1
   ·simp only[if_true,List.map_toArray,List.map_cons,Builtin.max_] at h1 ⊢;exact h1
theorem om {o:Oper}{c:Call}(ho:o.op=.call c){al:Nat}{x:XOp}{pre:List O}{rw:Bool}(htr:bj P rw al c=some (x,pre)) (ht:Tm g w a tm){rb:Nat}{v:V}(hv:aB tm rb x=some v) :
  PureOk P g w a o v:=by
 obtain⟨cal,args,tys⟩:=c;unfold PureOk;cases cal with
 | invoke r m=>simp[bj] at htr
 | value f =>
  simp only[bj] at htr;split at htr
  ·simp only[sI,pI] at htr;obtain⟨rfl,rfl⟩:=htr;simp[aB] at hv
  ·cases htr
 | builtin b =>
  cases b
  case len =>
   simp only[bj] at htr;split at htr
   ·rename_i X t h1 h2;have hX:args=#[X]:=Array.ext' h1;have hT:tys=#[t]:=Array.ext' h2;subst hX hT;simp only[oh] at htr;split at htr
    ·rename_i e x' hu hx';simp only[sI,pI] at htr;obtain⟨rfl,rfl⟩:=htr;have hx:=aN ht hx';simp only[aB] at hv;cases he:ev tm x' with
     | sl us i =>
      rw[he] at hx hv;simp only[sI] at hv;subst hv;refine⟨_,?_,.c _⟩;simp only[execOp,ho,resolve,invoke,builtin,Sem.run_bind,Sem.run_pure,Result.andThen_ok,List.map_toArray,List.map_cons,List.map_nil];rw[Fi hu hx];rfl
     | row id off n zz =>
      rw[he] at hx hv;simp only[sI] at hv;subst hv;refine⟨_,?_,.c _⟩;simp only[execOp,ho,resolve,invoke,builtin,Sem.run_bind,Sem.run_pure,Result.andThen_ok,List.map_toArray,List.map_cons,List.map_nil];rw[CP hu hx];rfl
     | tsl k n zz =>
      rw[he] at hx hv;simp only[sI] at hv;subst hv;refine⟨_,?_,.c _⟩;simp only[execOp,ho,resolve,invoke,builtin,Sem.run_bind,Sem.run_pure,Result.andThen_ok,List.map_toArray,List.map_cons,List.map_nil];rw[C7 hu hx];rfl
     | _=>rw[he] at hv;simp at hv
    ·rename_i x' hu hx';simp only[sI,pI] at htr;obtain⟨rfl,rfl⟩:=htr;have hx:=aN ht hx';simp only[aB] at hv;cases he:ev tm x' with
     | c y =>
      rw[he] at hx hv;cases y<;>simp only[reduceCtorEq,sI] at hv
      subst hv;refine⟨_,?_,.c _⟩;simp only[execOp,ho,resolve,invoke,builtin,Sem.run_bind,Sem.run_pure,Result.andThen_ok,List.map_toArray,List.map_cons,List.map_nil];rw[BJ hu hx];rfl
     | _=>rw[he] at hv;simp at hv
    ·cases htr
   ·cases htr
  case append =>
   simp only[bj] at htr;split at htr
   ·simp only[lh] at htr;split at htr
    ·split at htr
     ·split at htr
      ·simp only[sI,pI] at htr;obtain⟨rfl,rfl⟩:=htr;simp[aB] at hv
      ·cases htr
     ·cases htr
    ·cases htr
   ·cases htr
  case min =>
   simp only[bj,mS,pI] at htr;obtain⟨xas,has,rfl,rfl⟩:=htr;simp only[aB] at hv;obtain⟨r,h1,h2⟩:=nh (P:=P) has ht hv tys o.type;refine⟨r,?_,h2⟩;simp only[execOp,ho,resolve,invoke,builtin,Sem.run_bind,Sem.run_pure,Result.andThen_ok];simp only[Bool.false_eq_true,if_false] at h1;rw[h1];rfl
  case max =>
   simp only[bj,mS,pI] at htr;obtain⟨xas,has,rfl,rfl⟩:=htr;simp only[aB] at hv;obtain⟨r,h1,h2⟩:=nh (P:=P) has ht hv tys o.type;refine⟨r,?_,h2⟩;simp only[execOp,ho,resolve,invoke,builtin,Sem.run_bind,Sem.run_pure,Result.andThen_ok];simp only[if_true] at h1;rw[h1];rfl
  all_goals simp[bj] at htr
theorem xB {o:Oper}{al:Nat}{x:XOp}{pre:List O}{rw:Bool}(htr:bG P rw al o.op=some (x,pre)) (ht:Tm g w a tm){rb:Nat}{v:V}(hv:aB tm rb x=some v) (hna:E7 x=false):PureOk P g w a o v:=by
 cases hop:o.op with
 | move X =>
  rw[hop] at htr;simp only[bG,mS,pI] at htr;obtain⟨x',hx',rfl,rfl⟩:=htr;simp only[aB,sI] at hv;subst hv;exact⟨_,by simp only[execOp,hop];rfl,aN ht hx'⟩
 | assign X =>
  rw[hop] at htr;simp only[bG,mS,pI] at htr;obtain⟨x',hx',rfl,rfl⟩:=htr;simp only[aB,sI] at hv;subst hv;exact⟨_,by simp only[execOp,hop];rfl,aN ht hx'⟩
 | pick C X Y =>
  rw[hop] at htr;simp only[bG] at htr;split at htr
  ·rename_i c' x' y' h1 h2 h3;simp only[sI,pI] at htr;obtain⟨rfl,rfl⟩:=htr;simp only[aB] at hv;split at hv
   ·rename_i t hc;have hcr:=aN ht h1;rw[hc] at hcr;simp only[sI] at hv;subst hv;refine⟨if t then a.eval X else a.eval Y,by simp only[execOp,hop,hcr.of_c,asBool,Sem.run_bind,Sem.run_pure,Result.andThen_ok],?_⟩;cases t
    ·exact aN ht h3
    ·exact aN ht h2
   ·cases hv
  ·cases htr
 | alloc e =>
  rw[hop] at htr;simp only[bG,mS,pI] at htr;obtain⟨z,_,rfl,rfl⟩:=htr;simp[E7] at hna
 | box e X =>
  rw[hop] at htr;simp only[bG,mS,pI] at htr;obtain⟨x',_,rfl,rfl⟩:=htr;simp[aB] at hv
 | build t parts =>
  rw[hop] at htr;simp only[bG] at htr;split at htr
  ·rename_i fields z hu hz;split at htr
   ·rename_i hs;simp only[mS,pI] at htr;obtain⟨l,hl,rfl,rfl⟩:=htr;simp only[aB,mS] at hv;obtain⟨cs,hcs,rfl⟩:=hv;obtain⟨xs,h1,h2⟩:=yp hu hz hs hl ht hcs;refine⟨.agg xs,?_,h2.agg⟩;simp only[execOp,hop,Sem.run_bind];rw[h1];rfl
   ·cases htr
  ·cases htr
 | buildSlice t n parts =>
  rw[hop] at htr;simp only[bG] at htr;split at htr
  ·split at htr
   ·split at htr
    ·simp only[sI,pI] at htr;obtain⟨rfl,rfl⟩:=htr;simp[E7] at hna
    ·cases htr
   ·cases htr
  ·cases htr
 | load t X =>
  rw[hop] at htr;simp only[bG] at htr;split at htr
  ·simp only[sI,pI] at htr;obtain⟨rfl,rfl⟩:=htr;simp[aB] at hv
  ·cases htr
 | store t X Y =>
  rw[hop] at htr;simp only[bG] at htr;split at htr
  ·simp only[sI,pI] at htr;obtain⟨rfl,rfl⟩:=htr;simp[aB] at hv
  ·cases htr
 | binOp op t X Y ty =>
  rw[hop] at htr;simp only[bG] at htr;split at htr
  ·rename_i q x' y' hq h1 h2;simp only[sI,pI] at htr;obtain⟨rfl,rfl⟩:=htr;simp only[aB] at hv;obtain⟨r,h3,h4⟩:=DW hq (aN ht h1) (aN ht h2) hv X Y;refine⟨r,?_,h4⟩;simp only[execOp,hop];rw[Sem.run_bind,h3];rfl
  ·rename_i x' y' hq h1 h2;have eqs:∀(neg:Bool) (kd:List Nat),dz P t=some kd→aB tm rb (.eqs neg kd x' y')=some v→∃r,(do eqGuard (if neg then .neq else .eql) t X Y (a.eval X) (a.eval Y);Go.binOp (if neg then .neq else .eql) t (a.eval X) (a.eval Y):Sem Value).run P w=.ok r w∧Rep g w r v:=by
    intro neg kd hkd hv;have hx:=aN ht h1;have hy:=aN ht h2;simp only[aB] at hv;split at hv
    ·rename_i cs ds e1 e2;split at hv
     ·rename_i xs ys c1 c2;rw[e1] at hx;rw[e2] at hy;rw[iN hx c1,iN hy c2];simp only[mS] at hv;obtain⟨b,hb,rfl⟩:=hv;have:=Dk (w:=w) hkd (xs:=xs.toArray) (ys:=ys.toArray) (by simpa using hb) X Y;cases neg
      ·exact⟨_,this.1,.c _⟩
      ·exact⟨_,this.2,.c _⟩
     ·cases hv
    ·cases hv
   split at htr
   ·rename_i kd hkd;simp only[sI,pI] at htr;obtain⟨rfl,rfl⟩:=htr;obtain⟨r,h3,h4⟩:=eqs false _ hkd hv;refine⟨r,?_,h4⟩;simp only[execOp,hop];simp only[Bool.false_eq_true,if_false] at h3;rw[Sem.run_bind,h3];rfl
   ·rename_i kd hkd;simp only[sI,pI] at htr;obtain⟨rfl,rfl⟩:=htr;obtain⟨r,h3,h4⟩:=eqs true _ hkd hv;refine⟨r,?_,h4⟩;simp only[execOp,hop];simp only[if_true] at h3;rw[Sem.run_bind,h3];rfl
   ·cases htr
  ·cases htr
 | unOp op t X =>
  rw[hop] at htr;simp only[bG,mS,pI] at htr;obtain⟨x',hx',rfl,rfl⟩:=htr;simp only[aB] at hv;have hr:=aN ht hx';split at hv
  ·rename_i b he;rw[he] at hr;simp only[sI] at hv;subst hv;exact⟨_,by simp[execOp,hop,hr.of_c,Op.unary],.c _⟩
  ·rename_i k n he;rw[he] at hr;simp only[sI] at hv;subst hv;refine⟨.int k (k.wrap (0-n)),?_,.c _⟩;simp only[execOp,hop,hr.of_c,Op.unary,Op.intArith,Sem.run_bind,Sem.run_pure,Result.andThen_ok]
  ·cases hv
 | convert s d X =>
  rw[hop] at htr;simp only[bG] at htr;split at htr
  ·rename_i k1 k x' h1 h2 h3;simp only[sI,pI] at htr;obtain⟨rfl,rfl⟩:=htr;simp only[aB] at hv;have hr:=aN ht h3;split at hv
   ·rename_i k0 n he;rw[he] at hr;simp only[sI] at hv;subst hv;refine⟨_,?_,.c _⟩;simp[execOp,hop,hr.of_c,convert,run_underlying h1,run_underlying h2,Conv.intToInt]
   ·cases hv
  ·cases htr
 | fieldAddr s X f =>
  rw[hop] at htr;simp only[bG] at htr;split at htr
  ·rename_i fields x' hu hx';split at htr
   ·rename_i fd hfd;split at htr
    ·rename_i n hn;simp only[sI,pI] at htr;obtain⟨rfl,rfl⟩:=htr;simp only[aB] at hv;have hr:=aN ht hx';cases he:ev tm x' with
     | ref id o' =>
      rw[he] at hr hv;simp only[sI] at hv;subst hv;obtain⟨b,hx,hb⟩:=hr.of_ref;refine⟨.pointer (some ⟨b,o'+fd.offset,none⟩),?_,.ref id b _ hb⟩;simp[execOp,hop,Instr.fieldAt,fieldPlace,run_underlying hu,hfd,Instr.sureAddr,bN hn,Addr.add_lit,hx]
     | ptr cs o' =>
      rw[he] at hr hv;simp only[sI] at hv;subst hv;obtain⟨b,o0,cv,hx,h1,h2⟩:=hr.of_ptr;refine⟨.pointer (some ⟨b,o0+o'+fd.offset,none⟩),?_,.ptr b o0 _ cs _ cv (by omega) h1 h2⟩;simp[execOp,hop,Instr.fieldAt,fieldPlace,run_underlying hu,hfd,Instr.sureAddr,bN hn,Addr.add_lit,hx]
     | tref k m o' =>
      rw[he] at hr hv;simp only[sI] at hv;subst hv;obtain⟨A,hx,b,l,c,h1,h2,h3⟩:∃A,a.eval X=.pointer (some A)∧∃b l c,g.tok k=some (b,l,c)∧m≤l∧(m=l→A=⟨b,o',none⟩):=by
       generalize a.eval X=y at hr;cases hr with
       | tref A _ _ _ h=>exact⟨A,rfl,h⟩
      refine⟨.pointer (some (A.add fd.offset)),?_,.tref _ k m _ ⟨b,l,c,h1,h2,fun h=>by rw[h3 h,Addr.add_lit]⟩⟩;simp[execOp,hop,Instr.fieldAt,fieldPlace,run_underlying hu,hfd,Instr.sureAddr,bN hn,hx]
     | _=>rw[he] at hv;simp at hv
    ·cases htr
   ·cases htr
  ·cases htr
 | field s X f =>
  rw[hop] at htr;simp only[bG] at htr;split at htr
  ·rename_i fields x' hu hx';split at htr
   ·rename_i fd hfd;simp only[mS,pI] at htr;obtain⟨n,hn,rfl,rfl⟩:=htr;simp only[aB] at hv;have hr:=aN ht hx';cases he:ev tm x' with
    | agg cs =>
     rw[he] at hr hv;simp only at hv;obtain⟨xs,hx,h1,h2,h3⟩:=hr.of_agg;obtain⟨y,h4,h5⟩:=Ak (P:=P) hn h1 h2 h3 hv;refine⟨y,?_,h5⟩;simp[execOp,hop,Instr.field,run_underlying hu,hfd,asAgg,hx,h4]
    | _=>rw[he] at hv;simp at hv
   ·cases htr
  ·cases htr
 | indexAddr t X I =>
  rw[hop] at htr;simp only[bG] at htr;split at htr
  ·rename_i e x' i' hu hx' hi';simp only[mS,pI] at htr;obtain⟨z,hz,rfl,rfl⟩:=htr;simp only[aB] at hv;have hr:=aN ht hx';cases he:ev tm x' with
   | sl us i =>
    rw[he] at hr hv;cases hn:idx (ev tm i') with
    | none=>rw[hn] at hv;simp at hv
    | some n =>
     rw[hn] at hv;simp only at hv;obtain⟨k,hk⟩:=fC (aN ht hi') hn;split at hv
     ·rename_i hb;cases hu2:us[n.toNat]? with
      | none=>rw[hu2] at hv;simp at hv
      | some u =>
       rw[hu2] at hv;simp only at hv;split at hv
       ·rename_i hzu;simp only[sI] at hv;subst hv;obtain⟨hlt,hue⟩:=gS.1 hu2;obtain⟨A,cap,z',cv,hx,hcap,hzz,hA,hrr,hsi⟩:=hr.of_sl;have hne:us≠[]:=by intro e';subst e';simp at hlt
        obtain⟨b,o',hAe,hcell⟩:=hA hne;have hz':z'=z:=by rw[← hzu,← hue];exact (hzz _ (List.getElem_mem hlt)).symm
        subst hz';refine⟨.pointer (some ⟨b,o'+n.toNat*z',none⟩),?_,?_⟩
        ·have hb1:0≤n:=hb.1;have hb2:n<us.length:=hb.2;simp[execOp,hop,Instr.indexAt,hk,asIntOf,run_underlying hu,hx,hAe,hb1,hb2,bN hz,Addr.add_lit]
        ·have hul:∀j,j<u.cells.length→n.toNat*z'+j<us.length*z':=by
          intro j hj;have:(n.toNat+1)*z'≤us.length*z':=Nat.mul_le_mul_right _ hlt;rw[Nat.succ_mul] at this;omega
         refine .ptr b (o'+n.toNat*z') _ _ 0 (fun j=>cv (n.toNat*z'+j)) (by omega) (fun j hj=>?_) (fun j hj=>?_)
         ·have:=hcell _ (hul j hj);rw[show o'+n.toNat*z'+j=o'+(n.toNat*z'+j) by omega];exact this
         ·subst hue;have h7:=kK hzz n.toNat hlt j hj;obtain⟨h8,h9⟩:=gS.1 h7;rw[← h9];exact hrr _ h8
       ·cases hv
     ·cases hv
   | row id off m zz =>
    rw[he] at hr hv;cases hn:idx (ev tm i') with
    | none=>rw[hn] at hv;simp at hv
    | some n =>
     rw[hn] at hv;simp only at hv;obtain⟨k,hk⟩:=fC (aN ht hi') hn;split at hv
     ·rename_i hb;obtain⟨hb1,hb2,hzz⟩:=hb;simp only[sI] at hv;subst hv;have hr':=hr;generalize hX:a.eval X=xv at hr;cases hr with
      | row A _ cap _ _ _ hc hA =>
      obtain⟨b,rfl,hbk⟩:=hA (by omega);refine⟨.pointer (some ⟨b,off+n.toNat*z,none⟩),?_,.ref id b _ hbk⟩;simp[execOp,hop,Instr.indexAt,hk,asIntOf,run_underlying hu,hX,hb1,hb2,bN hz,Addr.add_lit]
     ·cases hv
   | tsl t m zz =>
    rw[he] at hr hv;cases hn:idx (ev tm i') with
    | none=>rw[hn] at hv;simp at hv
    | some n =>
     rw[hn] at hv;simp only at hv;obtain⟨k,hk⟩:=fC (aN ht hi') hn;split at hv
     ·rename_i hb;obtain⟨hb1,hb2,hzz⟩:=hb;simp only[sI] at hv;subst hv;generalize hX:a.eval X=xv at hr;cases hr with
      | tsl A _ cap _ _ hc hA hT =>
      obtain⟨b,rfl⟩:=hA (by omega);refine⟨.pointer (some ⟨b,0+n.toNat*z,none⟩),?_,.tref _ _ _ _ ?_⟩
      ·simp[execOp,hop,Instr.indexAt,hk,asIntOf,run_underlying hu,hX,hb1,hb2,bN hz,Addr.add_lit]
      ·obtain⟨b',l,c,h1,h2,h3⟩:=hT;refine⟨b',l,c,h1,h2,fun e=>?_⟩;have:=(h3 e).1;simp only[sI,Addr.mk.injEq,and_true] at this;rw[this,Nat.zero_add]
     ·cases hv
   | _=>rw[he] at hv;simp at hv
  ·cases htr
 | index t X I =>
  rw[hop] at htr;simp only[bG] at htr;split at htr
  ·rename_i x' i' hu hx' hi';simp only[sI,pI] at htr;obtain⟨rfl,rfl⟩:=htr;simp only[aB] at hv;have hr:=aN ht hx';cases he:ev tm x' with
   | c y =>
    rw[he] at hr hv;cases y<;>try (simp only[reduceCtorEq] at hv;done)
    rename_i s;cases hn:idx (ev tm i') with
    | none=>rw[hn] at hv;simp at hv
    | some n =>
     rw[hn] at hv;simp only at hv;obtain⟨k,hk⟩:=fC (aN ht hi') hn;split at hv
     ·rename_i hb;simp only[mS] at hv;obtain⟨bt,hbt,rfl⟩:=hv;refine⟨_,?_,.c _⟩;simp[execOp,hop,Instr.index,hk,asIntOf,run_underlying hu,hr.of_c,hb,hbt]
     ·cases hv
   | _=>rw[he] at hv;simp at hv
  ·cases htr
 | slice t X lo hi mx =>
  rw[hop] at htr;simp only[bG] at htr;split at htr
  ·rename_i e x' alo ahi amx hu hx' h1 h2 h3;simp only[mS,pI] at htr;obtain⟨z,hz,rfl,rfl⟩:=htr;simp only[aB] at hv;have hr:=aN ht hx';cases he:ev tm x' with
   | sl us i =>
    rw[he] at hr hv;obtain⟨r,h4,h5⟩:=Ag (P:=P) hu hz hr ht h1 h2 h3 hv;refine⟨r,?_,h5⟩;simp only[execOp,hop];rw[Sem.run_bind,h4];rfl
   | row id off m zz =>
    rw[he] at hr hv;obtain⟨r,h4,h5⟩:=vr (P:=P) hu hz hr ht h1 h2 h3 hv;refine⟨r,?_,h5⟩;simp only[execOp,hop];rw[Sem.run_bind,h4];rfl
   | _=>rw[he] at hv;simp at hv
  ·rename_i x' alo ahi hu hx' h1 h2 h3;simp only[sI,pI] at htr;obtain⟨rfl,rfl⟩:=htr;simp only[aB] at hv;have hr:=aN ht hx';have hmx:mx=none:=by
    cases mx with
    | none=>rfl
    | some y=>simp only[jS,mS] at h3;obtain⟨_,_,h3⟩:=h3;cases h3
   subst hmx;cases he:ev tm x' with
   | c y =>
    rw[he] at hr hv;cases y<;>simp only[reduceCtorEq] at hv
    rename_i s;simp only[stV] at hv;cases hl:bc tm 0 alo with
    | none=>rw[hl] at hv;cases hv
    | some l =>
    cases hh:bc tm s.size ahi with
    | none=>rw[hl,hh] at hv;cases hv
    | some h =>
    rw[hl,hh] at hv;simp only at hv;split at hv
    ·rename_i hc;simp only[sI] at hv;subst hv;refine⟨_,?_,.c _⟩;simp only[execOp,hop];rw[Sem.run_bind,Option.map_none,ux hu hr ht h1 h2 hl hh hc];rfl
    ·cases hv
   | _=>rw[he] at hv;simp at hv
  ·cases htr
 | extract X i =>
  rw[hop] at htr;simp only[bG,mS,pI] at htr;obtain⟨x',hx',rfl,rfl⟩:=htr;simp only[aB] at hv;have hr:=aN ht hx';cases he:ev tm x' with
  | tup vs =>
   rw[he] at hr hv;simp only at hv;obtain⟨xs,hx,h1,h2⟩:=hr.of_tup;obtain⟨hlt,rfl⟩:=gS.1 hv;have hlt':i<xs.size:=by omega
   refine⟨xs[i],?_,h2 i hlt' hlt⟩;simp[execOp,hop,Instr.extract,hx,hlt']
  | _=>rw[he] at hv;simp at hv
 | call c =>
  rw[hop] at htr;simp only[bG] at htr;exact om hop htr ht hv
 | makeFunc fn first caps =>
  rw[hop] at htr;cases fn with
  | func f =>
   simp only[bG] at htr;split at htr
   ·rename_i hf;simp only[mS,pI] at htr;obtain⟨cs,hcs,rfl,rfl⟩:=htr;simp only[aB,sI] at hv;subst hv;obtain⟨h1,h2⟩:=fO ht hcs;have hfe:first=#[]:=Array.eq_empty_of_size_eq_zero hf;subst hfe;refine⟨.func (.func f) #[] (caps.map a.eval),by simp[execOp,hop,Instr.makeFunc],?_⟩;refine .clo f _ _ (by simpa using h1) (fun i hi hj=>?_);simp only[Array.getElem_map,List.getElem_map];have:=h2 i (by simpa using hi) (by simpa using hj);simpa only[Array.getElem_toList] using this
   ·split at htr
    ·rename_i X h1 h2;simp only[mS,pI] at htr;obtain⟨x',hx',rfl,rfl⟩:=htr;have hfe:first=#[X]:=Array.ext' h1;have hce:caps=#[]:=Array.ext' h2;subst hfe hce;simp only[aB] at hv;have hr:=aN ht hx';cases he:ev tm x' with
     | ref id o' =>
      rw[he] at hr hv;simp only[sI] at hv;subst hv;obtain⟨b,hx,hb⟩:=hr.of_ref;exact⟨.func (.func f) #[.pointer (some ⟨b,o',none⟩)] #[],by simp[execOp,hop,Instr.makeFunc,hx],.bnd f id b o' hb⟩
     | _=>rw[he] at hv;simp at hv
    ·cases htr
  | _=>simp[bG] at htr
 | nilCheck X =>
  rw[hop] at htr;simp only[bG,mS,pI] at htr;obtain⟨x',hx',rfl,rfl⟩:=htr;simp only[aB] at hv;have hr:=aN ht hx';cases he:ev tm x' with
  | ref id o' =>
   rw[he] at hr hv;simp only[sI] at hv;subst hv;obtain⟨b,hx,hb⟩:=hr.of_ref;exact⟨_,by simp[execOp,hop,hx],.ref id b _ hb⟩
  | ptr cs o' =>
   rw[he] at hr hv;simp only[sI] at hv;subst hv;obtain⟨b,o0,cv,hx,h1,h2⟩:=hr.of_ptr;exact⟨.pointer (some ⟨b,o0+o',none⟩),by simp[execOp,hop,hx],.ptr b o0 _ cs _ cv rfl h1 h2⟩
  | clo f cs =>
   rw[he] at hr hv;simp only[sI] at hv;subst hv;obtain⟨xs,hx,h1,h2⟩:=hr.of_clo;exact⟨.func (.func f) #[] xs,by simp[execOp,hop,hx],.clo f xs cs h1 h2⟩
  | bnd f id o' =>
   rw[he] at hr hv;simp only[sI] at hv;subst hv;obtain⟨b,hx,hb⟩:=hr.of_bnd;exact⟨_,by simp[execOp,hop,hx],.bnd f id b _ hb⟩
  | c y =>
   rw[he] at hr hv;cases y<;>try (simp only[reduceCtorEq] at hv;done)
   rename_i fn p q;cases fn<;>simp only[reduceCtorEq,sI] at hv
   subst hv;exact⟨_,by simp only[execOp,hop,hr.of_c];rfl,.c _⟩
  | _=>rw[he] at hv;simp at hv
 | makeMap t r =>
  rw[hop] at htr;cases r with
  | none =>
   simp only[bG,sI,pI] at htr;obtain⟨rfl,rfl⟩:=htr;simp[aB] at hv
  | some r=>simp[bG] at htr
 | lookup t X k ok =>
  rw[hop] at htr;simp only[bG] at htr;split at htr
  ·split at htr
   ·split at htr
    ·simp only[sI,pI] at htr;obtain⟨rfl,rfl⟩:=htr;simp[aB] at hv
    ·cases htr
   ·cases htr
  ·cases htr
 | mapUpdate t m k u =>
  rw[hop] at htr;simp only[bG,jQ] at htr;split at htr
  ·split at htr
   ·simp only[sI,pI] at htr;obtain⟨rfl,rfl⟩:=htr;simp[aB] at hv
   ·cases htr
  ·cases htr
 | insert t m k u =>
  rw[hop] at htr;simp only[bG,jQ] at htr;split at htr
  ·split at htr
   ·simp only[sI,pI] at htr;obtain⟨rfl,rfl⟩:=htr;simp[aB] at hv
   ·cases htr
  ·cases htr
 | makeSlice t l c =>
  rw[hop] at htr;simp only[bG,iM] at htr;split at htr
  ·split at htr
   ·split at htr
    ·simp only[sI,pI] at htr;obtain⟨rfl,rfl⟩:=htr;simp[aB] at hv
    ·cases htr
   ·cases htr
  ·cases htr
 | _=>rw[hop] at htr;simp[bG] at htr
end
end Go.Proofs.YtjhffhmokcogkaaGreatDoor.Ab
