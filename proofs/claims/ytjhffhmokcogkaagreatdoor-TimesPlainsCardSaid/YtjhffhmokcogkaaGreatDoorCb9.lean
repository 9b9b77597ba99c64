/- A part. -/
import Derived.Test.YtjhffhmokcogkaaGreatDoorCb8
set_option linter.unusedVariables false
set_option linter.unusedSimpArgs false
set_option linter.defProp false
set_option maxRecDepth 20000
set_option maxHeartbeats 8000000
noncomputable section
namespace Go.Proofs.YtjhffhmokcogkaaGreatDoor.Ab
open Go
def aI (n:Nat) (k:Nat→R2):R2:=Nat.rec (motive:=fun _=>R2) (k 0) (fun m _=>k (Nat.succ m)) n
def Ci (i:Int) (k:Int→R2):R2:=Int.rec (motive:=fun _=>R2) (fun n=>aI n fun n=>k (.ofNat n)) (fun n=>aI n fun n=>k (.negSucc n)) i
def nfL {α:Type}(l:List α):(List α→R2)→R2:=List.rec (motive:=fun _=>(List α→R2)→R2) (fun k=>k []) (fun a _ ih k=>ih fun t=>k (a::t)) l
def wt {α:Type}(f:α→(α→R2)→R2) (l:List α):(List α→R2)→R2:=List.rec (motive:=fun _=>(List α→R2)→R2) (fun k=>k []) (fun a _ ih k=>f a fun a=>ih fun t=>k (a::t)) l
def C3 (s:ByteArray) (k:ByteArray→R2):R2:=ByteArray.rec (motive:=fun _=>R2) (fun a=>Array.rec (motive:=fun _=>R2) (fun l=>nfL l fun l=>k ⟨⟨l⟩⟩) a) s
def wA (x:Value) (k:Value→R2):R2:=match x with
 | .int kd i=>Ci i fun i=>k (.int kd i)
 | .bool b=>Bool.rec (motive:=fun _=>R2) (k (.bool false)) (k (.bool true)) b
 | .string s=>C3 s fun s=>k (.string s)
 | x=>k x
def kD (x:Value) (k:Value→R2):R2:=match x with
 | .int kd i=>Ci i fun i=>k (.int kd i)
 | .bool b=>Bool.rec (motive:=fun _=>R2) (k (.bool false)) (k (.bool true)) b
 | x=>k x
def yX (i:SI) (k:SI→R2):R2:=match i with
 | .tok t=>aI t fun t=>k (.tok t)
 | .any=>k .any
 | .nil=>k .nil
 | .full=>k .full
 | .isn=>k .isn
 | .nz=>k .nz
def Cw (v:V) (k:V→R2):R2:=match v with
 | .c x=>kD x fun x=>k (.c x)
 | .agg cs=>nfL cs fun cs=>k (.agg cs)
 | .sl us i=>yX i fun i=>k (.sl us i)
 | v=>k v
def nf0 (v:V) (k:V→R2):R2:=match v with
 | .c x=>k (.c x)
 | .agg cs=>k (.agg cs)
 | .tup cs=>k (.tup cs)
 | .sl us i=>k (.sl us i)
 | v=>k v
def nfV (v:V) (k:V→R2):R2:=match v with
 | .c x=>wA x fun x=>k (.c x)
 | .agg cs=>wt Cw cs fun cs=>k (.agg cs)
 | .sl us i=>nfL us fun us=>yX i fun i=>k (.sl us i)
 | .ptr cs o=>nfL cs fun cs=>aI o fun o=>k (.ptr cs o)
 | .ref id o=>aI id fun id=>aI o fun o=>k (.ref id o)
 | .row id off n z=>aI id fun id=>aI off fun off=>aI n fun n=>k (.row id off n z)
 | .clo f caps=>nfL caps fun caps=>k (.clo f caps)
 | .tsl t n z=>aI t fun t=>aI n fun n=>k (.tsl t n z)
 | .tref t n o=>aI t fun t=>aI n fun n=>aI o fun o=>k (.tref t n o)
 | .mref id=>aI id fun id=>k (.mref id)
 | .bnd f id o=>aI id fun id=>aI o fun o=>k (.bnd f id o)
 | v=>k v
def nfD (v:V):(V→R2)→R2 :=
 V.rec (motive_1:=fun _=>(V→R2)→R2) (motive_2:=fun _=>(List V→R2)→R2)
  (fun x k=>kD x fun x=>k (.c x)) (fun cs ih k=>ih fun cs=>k (.agg cs)) (fun vs ih k=>ih fun vs=>k (.tup vs)) (fun us i ih k=>ih fun us=>yX i fun i=>k (.sl us i))
  (fun cs o ih k=>ih fun cs=>aI o fun o=>k (.ptr cs o)) (fun id o k=>aI id fun id=>aI o fun o=>k (.ref id o)) (fun f caps ih k=>ih fun caps=>k (.clo f caps))
  (fun id off n z k=>aI id fun id=>aI off fun off=>aI n fun n=>k (.row id off n z)) (fun id n k=>aI id fun id=>aI n fun n=>k (.buf id n))
  (fun t n z k=>aI t fun t=>aI n fun n=>k (.tsl t n z)) (fun t n o k=>aI t fun t=>aI n fun n=>aI o fun o=>k (.tref t n o)) (fun k=>k .top)
  (fun ks vs ih k=>ih fun vs=>k (.fmp ks vs)) (fun id k=>aI id fun id=>k (.mref id)) (fun l y m caps ih k=>ih fun caps=>aI l fun l=>k (.yld l y m caps)) (fun f id o k=>aI id fun id=>aI o fun o=>k (.bnd f id o))
  (fun k=>k []) (fun v vs ihv ihvs k=>ihv fun v=>ihvs fun vs=>k (v::vs)) v
def nfO (o:O) (k:O→R2):R2:=match o with
 | .cells cs=>wt Cw cs fun cs=>k (.cells cs)
 | .tok n z=>aI n fun n=>k (.tok n z)
 | .tokc n z cs=>aI n fun n=>wt Cw cs fun cs=>k (.tokc n z cs)
 | .mapo ks vs=>nfL ks fun ks=>nfL vs fun vs=>k (.mapo ks vs)
 | .loop s=>aI s fun s=>k (.loop s)
 | .dead=>k .dead
 | .free=>k .free
 | .want=>k .want
def nfR (r:R2) (k:R2→R2):R2:=match r with
 | some (v,h)=>nfD v fun v=>wt nfO h fun h=>k (some (v,h))
 | none=>k none
theorem aZ (n:Nat) (k:Nat→R2):aI n k=k n:=by cases n<;>rfl
theorem pV (i:Int) (k:Int→R2):Ci i k=k i:=by
 cases i with
 | ofNat n=>exact aZ n fun n=>k (.ofNat n)
 | negSucc n=>exact aZ n fun n=>k (.negSucc n)
theorem dq {α:Type}:∀(l:List α) (k:List α→R2),nfL l k=k l
 | [],_=>rfl
 | a::l,k=>dq l fun t=>k (a::t)
theorem fp {α:Type}{f:α→(α→R2)→R2}(hf:∀a k,f a k=k a):∀(l:List α) (k:List α→R2),wt f l k=k l
 | [],_=>rfl
 | a::l,k=>by
  show f a (fun a=>wt f l fun t=>k (a::t))=_;rw[hf,fp hf l]
theorem x6 (s:ByteArray) (k:ByteArray→R2):C3 s k=k s:=by
 obtain⟨⟨l⟩⟩:=s;exact dq l fun l=>k ⟨⟨l⟩⟩
theorem yI (x:Value) (k:Value→R2):wA x k=k x:=by
 cases x<;>try rfl
 ·rename_i b;cases b<;>rfl
 ·simp only[wA,pV]
 ·simp only[wA,x6]
theorem nc (x:Value) (k:Value→R2):kD x k=k x:=by
 cases x<;>try rfl
 ·rename_i b;cases b<;>rfl
 ·simp only[kD,pV]
theorem oc (i:SI) (k:SI→R2):yX i k=k i:=by
 cases i<;>try rfl
 simp only[yX,aZ]
theorem o5 (v:V) (k:V→R2):Cw v k=k v:=by
 cases v<;>try rfl
 all_goals simp only[Cw,nc,dq,oc]
theorem zE (v:V) (k:V→R2):nf0 v k=k v:=by cases v<;>rfl
theorem qP (v:V) (k:V→R2):nfV v k=k v:=by
 cases v<;>try rfl
 all_goals simp only[nfV,yI,fp o5,dq,aZ,oc]
theorem Dv (v:V):∀k,nfD v k=k v:=by
 refine V.rec (motive_1:=fun v=>∀k,nfD v k=k v) (motive_2:=fun l=>∀k:List V→R2,
  V.rec_1 (motive_1:=fun _=>(V→R2)→R2) (motive_2:=fun _=>(List V→R2)→R2)
  (fun x k=>kD x fun x=>k (.c x)) (fun cs ih k=>ih fun cs=>k (.agg cs)) (fun vs ih k=>ih fun vs=>k (.tup vs)) (fun us i ih k=>ih fun us=>yX i fun i=>k (.sl us i))
  (fun cs o ih k=>ih fun cs=>aI o fun o=>k (.ptr cs o)) (fun id o k=>aI id fun id=>aI o fun o=>k (.ref id o)) (fun f caps ih k=>ih fun caps=>k (.clo f caps))
  (fun id off n z k=>aI id fun id=>aI off fun off=>aI n fun n=>k (.row id off n z)) (fun id n k=>aI id fun id=>aI n fun n=>k (.buf id n))
  (fun t n z k=>aI t fun t=>aI n fun n=>k (.tsl t n z)) (fun t n o k=>aI t fun t=>aI n fun n=>aI o fun o=>k (.tref t n o)) (fun k=>k .top)
  (fun ks vs ih k=>ih fun vs=>k (.fmp ks vs)) (fun id k=>aI id fun id=>k (.mref id)) (fun l y m caps ih k=>ih fun caps=>aI l fun l=>k (.yld l y m caps)) (fun f id o k=>aI id fun id=>aI o fun o=>k (.bnd f id o))
  (fun k=>k []) (fun v vs ihv ihvs k=>ihv fun v=>ihvs fun vs=>k (v::vs)) l k=k l)
  (fun x k=>nc x fun x=>k (.c x)) (fun cs ih k=>ih fun cs=>k (.agg cs)) (fun vs ih k=>ih fun vs=>k (.tup vs)) (fun us i ih k=>(ih fun us=>yX i fun i=>k (.sl us i)).trans (oc i fun i=>k (.sl us i)))
  (fun cs o ih k=>(ih fun cs=>aI o fun o=>k (.ptr cs o)).trans (aZ o fun o=>k (.ptr cs o))) (fun id o k=>(aZ id fun id=>aI o fun o=>k (.ref id o)).trans (aZ o fun o=>k (.ref id o))) (fun f caps ih k=>ih fun caps=>k (.clo f caps))
  (fun id off n z k=>by show aI id (fun id=>aI off fun off=>aI n fun n=>k (.row id off n z))=_;simp only[aZ]) (fun id n k=>by show aI id (fun id=>aI n fun n=>k (.buf id n))=_;simp only[aZ])
  (fun t n z k=>by show aI t (fun t=>aI n fun n=>k (.tsl t n z))=_;simp only[aZ]) (fun t n o k=>by show aI t (fun t=>aI n fun n=>aI o fun o=>k (.tref t n o))=_;simp only[aZ]) (fun k=>rfl)
  (fun ks vs ih k=>ih fun vs=>k (.fmp ks vs)) (fun id k=>aZ id fun id=>k (.mref id)) (fun l y m caps ih k=>(ih fun caps=>aI l fun l=>k (.yld l y m caps)).trans (aZ l fun l=>k (.yld l y m caps))) (fun f id o k=>(aZ id fun id=>aI o fun o=>k (.bnd f id o)).trans (aZ o fun o=>k (.bnd f id o))) (fun k=>rfl) (fun v vs ihv ihvs k=>(ihv fun v=>V.rec_1 (motive_1:=fun _=>(V→R2)→R2) (motive_2:=fun _=>(List V→R2)→R2)
  (fun x k=>kD x fun x=>k (.c x)) (fun cs ih k=>ih fun cs=>k (.agg cs)) (fun vs ih k=>ih fun vs=>k (.tup vs)) (fun us i ih k=>ih fun us=>yX i fun i=>k (.sl us i))
  (fun cs o ih k=>ih fun cs=>aI o fun o=>k (.ptr cs o)) (fun id o k=>aI id fun id=>aI o fun o=>k (.ref id o)) (fun f caps ih k=>ih fun caps=>k (.clo f caps))
  (fun id off n z k=>aI id fun id=>aI off fun off=>aI n fun n=>k (.row id off n z)) (fun id n k=>aI id fun id=>aI n fun n=>k (.buf id n))
  (fun t n z k=>aI t fun t=>aI n fun n=>k (.tsl t n z)) (fun t n o k=>aI t fun t=>aI n fun n=>aI o fun o=>k (.tref t n o)) (fun k=>k .top)
  (fun ks vs ih k=>ih fun vs=>k (.fmp ks vs)) (fun id k=>aI id fun id=>k (.mref id)) (fun l y m caps ih k=>ih fun caps=>aI l fun l=>k (.yld l y m caps)) (fun f id o k=>aI id fun id=>aI o fun o=>k (.bnd f id o))
  (fun k=>k []) (fun v vs ihv ihvs k=>ihv fun v=>ihvs fun vs=>k (v::vs)) vs fun vs=>k (v::vs)).trans (ihvs fun vs=>k (v::vs))) v
theorem zJ (o:O) (k:O→R2):nfO o k=k o:=by
 cases o<;>simp only[nfO,aZ,dq,fp o5]
theorem nI (r:R2) (k:R2→R2):nfR r k=k r:=by
 cases r with
 | none=>rfl
 | some p=>obtain⟨v,h⟩:=p;simp only[nfR,Dv,fp zJ]
def wo {α:Type}(l:List α):Nat→(α→R2)→R2→R2:=List.rec (motive:=fun _=>Nat→(α→R2)→R2→R2) (fun _ _ d=>d) (fun a _ ih i k d=>Nat.rec (motive:=fun _=>R2) (k a) (fun j _=>ih j k d) i) l
def y6 {α:Type}(l:List α):Nat→α→(List α→R2)→R2:=List.rec (motive:=fun _=>Nat→α→(List α→R2)→R2) (fun _ _ k=>k []) (fun a t ih i x k=>Nat.rec (motive:=fun _=>R2) (k (x::t)) (fun j _=>ih j x fun t=>k (a::t)) i) l
theorem ew {α:Type}:∀(l:List α) (i:Nat) (k:α→R2) (d:R2),wo l i k d=match l[i]? with
  | some a=>k a
  | none=>d
 | [],_,_,_=>rfl
 | a::l,0,k,d=>rfl
 | a::l,i+1,k,d=>by
  show wo l i k d=_;rw[ew l i k d];simp
theorem gR {α:Type}:∀(l:List α) (i:Nat) (x:α) (k:List α→R2),y6 l i x k=k (l.set i x)
 | [],_,_,_=>rfl
 | a::l,0,x,k=>rfl
 | a::l,i+1,x,k=>by
  show y6 l i x (fun t=>k (a::t))=_;rw[gR l i x];rfl
def xU {α:Type}(l m:List α) (k:List α→R2):R2:=List.rec (motive:=fun _=>R2) (k l) (fun _ _ _=>nfL (l++m) k) m
theorem lr {α:Type}(l m:List α) (k:List α→R2):xU l m k=k (l++m):=by
 cases m with
 | nil=>rw[List.append_nil];rfl
 | cons a m=>exact dq _ _
def evS (tm:List V) (x:A) (k:V→R2):R2:=A.rec (motive:=fun _=>R2) (fun i=>wo tm i k (k aE)) k x
theorem cn (tm:List V) (x:A) (k:V→R2):evS tm x k=k (ev tm x):=by
 cases x with
 | k v=>rfl
 | t i =>
  simp only[evS,ew,ev,List.getD_eq_getElem?_getD];cases tm[i]?<;>rfl
def Gl (tm:List V) (xs:List A):(List V→R2)→R2:=List.rec (motive:=fun _=>(List V→R2)→R2) (fun k=>k []) (fun x _ ih k=>evS tm x fun v=>ih fun t=>k (v::t)) xs
theorem uD (tm:List V):∀(xs:List A) (k:List V→R2),Gl tm xs k=k (xs.map (ev tm))
 | [],_=>rfl
 | x::xs,k=>by
  show evS tm x (fun v=>Gl tm xs fun t=>k (v::t))=_;rw[cn,uD tm xs];rfl
def out (r:R2) (k:V→List O→R2) (k0:R2):R2:=match r with
 | some (v,h)=>k v h
 | none=>k0
def EN (r:R2) (k:V→List O→R2) (k0:R2):R2:=match r with
 | some (v,h)=>nf0 v fun v=>k v h
 | none=>k0
def Gj (r:R2) (k:V→List O→R2) (k0:R2):R2:=match r with
 | some (v,h)=>Cw v fun v=>k v h
 | none=>k0
def zF (r:R2) (k:V→List O→R2) (k0:R2):R2:=match r with
 | some (v,h)=>nfV v fun v=>k v h
 | none=>k0
def mQ (r:R2) (k:V→List O→R2) (k0:R2):R2:=match r with
 | some (v,h)=>nfV v fun v=>wt nfO h fun h=>k v h
 | none=>k0
theorem pC (r:R2) (k:V→List O→R2) (k0:R2):EN r k k0=out r k k0:=by
 cases r with
 | none=>rfl
 | some p=>obtain⟨v,h⟩:=p;exact zE v fun v=>k v h
theorem tk (r:R2) (k:V→List O→R2) (k0:R2):Gj r k k0=out r k k0:=by
 cases r with
 | none=>rfl
 | some p=>obtain⟨v,h⟩:=p;exact o5 v fun v=>k v h
theorem eA (r:R2) (k:V→List O→R2) (k0:R2):zF r k k0=out r k k0:=by
 cases r with
 | none=>rfl
 | some p=>obtain⟨v,h⟩:=p;exact qP v fun v=>k v h
theorem cl (r:R2) (k:V→List O→R2) (k0:R2):mQ r k k0=out r k k0:=by
 cases r with
 | none=>rfl
 | some p=>obtain⟨v,h⟩:=p;simp only[mQ,qP,fp zJ];rfl
def ra (x:V) (n:Nat) (v:V) (h:List O) (k:V→List O→R2) (k0:R2):R2:=match x with
 | .ref id o=>wo h id (fun ob=>match ob with
  | .cells cs=>if okc v=true∧v.cells.length=n∧o+n≤cs.length then nfL (bg cs o v.cells) fun cs=>y6 h id (.cells cs) fun h=>k aE h else k0
  | _=>k0) k0
 | x=>mQ (mc x n v h) k k0
theorem ug (x:V) (n:Nat) (v:V) (h:List O) (k:V→List O→R2) (k0:R2):ra x n v h k k0=out (mc x n v h) k k0:=by
 by_cases hx:∃id o,x=.ref id o;rotate_left
 ·cases x<;>first|(simp only[ra,cl];done)|exact absurd ⟨_,_,rfl⟩ hx
 obtain⟨id,o,rfl⟩:=hx;simp only[ra,gQ,ew];cases h[id]? with
 | none=>rfl
 | some ob =>
  cases ob<;>try rfl
  simp only[ii,dq,gR];split<;>rfl
def Gz (i:Nat) (v:V) (h:List O) (k:V→List O→R2) (k0:R2):R2:=wo h i (fun ob=>match ob with
 | .dead=>Bool.rec (motive:=fun _=>R2) k0 (nfL v.cells fun cs=>y6 h i (.cells cs) fun h=>k (.ref i 0) h) (okc v)
 | _=>k0) k0
theorem z8 (i:Nat) (v:V) (h:List O) (k:V→List O→R2) (k0:R2):Gz i v h k k0=out (FM h[i]? (okc v) (.ref i 0,h.set i (.cells v.cells))) k k0:=by
 simp only[Gz,ew];cases h[i]? with
 | none=>cases okc v <;> rfl
 | some ob =>
  cases ob<;>cases okc v<;>try rfl
  simp only[dq,gR];rfl
abbrev be:=Nat→List V→List O→(R2→R2)→R2
def mj (cfK:be) (fv:V) (vs:List V) (h:List O) (k:R2→R2):R2:=match fv with
 | .yld l y m caps=>if rid≤y∧vs.length=m then nfL (vs++caps) fun vs=>cfK y (.c (.int .i64 l)::vs) h fun r=>k (longer h r) else k none
 | .bnd f id o=>if f<rid then cfK f (.ref id o::vs) h fun r=>k (longer h r) else k none
 | fv=>match bb fv with
  | some (f,caps)=>if f<rid then nfL (vs++caps) fun vs=>cfK f vs h fun r=>k (longer h r) else k none
  | none=>k none
theorem vZ {cfK:be}{cf:aw}(hcf:∀f args h k,cfK f args h k=k (cf f args h)) (fv:V) (vs:List V) (h:List O) (k:R2→R2):mj cfK fv vs h k=k (cW cf fv vs h):=by
 have key:∀fv':V,(match bb fv' with
  | some (f,caps)=>if f<rid then nfL (vs++caps) fun vs=>cfK f vs h fun r=>k (longer h r) else k none
  | none=>k none)=k (match bb fv' with
  | some (f,caps)=>if f<rid then longer h (cf f (vs++caps) h) else none
  | none=>none):=by
  intro fv';generalize bb fv'=o;cases o with
  | none=>rfl
  | some p =>
   obtain⟨f,caps⟩:=p;simp only[dq,hcf];split<;>rfl
 cases fv
 case yld l y m caps =>
  simp only[mj,cW,dq,hcf];split<;>rfl
 case bnd f id o =>
  simp only[mj,cW,hcf];split<;>rfl
 all_goals
  simp only[mj,cW,fS]
  first|exact key (.c _)|exact key (.agg _)|exact key (.tup _)|exact key (.sl _ _)|exact key (.ptr _ _)|exact key (.ref _ _)|exact key (.clo _ _)|exact key (.row _ _ _ _)|exact key (.buf _ _)|exact key (.tsl _ _ _)|exact key (.tref _ _ _)|exact key .top|exact key (.fmp _ _)|exact key (.mref _)
def G3 (op:BinOp) (m n:Nat):Option Bool:=match op with
 | .eql=>some (Nat.beq m n)
 | .neq=>some (!Nat.beq m n)
 | .lss=>some (Nat.blt m n)
 | .leq=>some (Nat.ble m n)
 | .gtr=>some (Nat.blt n m)
 | .geq=>some (Nat.ble n m)
 | _=>none
def zy:IntKind→IntKind→Bool
 | .i64,.i64=>true
 | .u8,.u8=>true
 | .u64,.u64=>true
 | _,_=>false
theorem tj {a b:IntKind}(h:zy a b=true):a=b:=by cases a<;>cases b<;>first|rfl|cases h
def A0 (op:BinOp) (kx ky:IntKind) (m n:Nat):Option V:=match op,kx,ky with
 | .add,.i64,.i64=>if Nat.blt (m+n) 4611686018427387904 then some (.c (.int .i64 (.ofNat (m+n)))) else none
 | .sub,.i64,.i64=>if (Nat.ble n m&&Nat.blt m 4611686018427387904) then some (.c (.int .i64 (.ofNat (m-n)))) else none
 | _,_,_=>none
def AT (op:BinOp) (kx ky:IntKind) (a b:Int):Option V:=match a,b with
 | .ofNat m,.ofNat n=>match G3 op m n with
  | some t=>if zy kx ky then some (.c (.bool t)) else none
  | none=>A0 op kx ky m n
 | _,_=>none
theorem qX (n:Nat) (h:n<4611686018427387904):IntKind.wrap .i64 (n:Int)=n:=by
 have:IntKind.wrap .i64 (n:Int)=(let m:=(n:Int) % 18446744073709551616
  if m≥9223372036854775808 then m-18446744073709551616 else m):=by simp[IntKind.wrap,IntKind.bits,IntKind.signed]
 rw[this];simp only;omega
theorem yH {op:BinOp}{kx ky:IntKind}{m n:Nat}{v:V}(h:A0 op kx ky m n=some v):dN op 0 (.c (.int kx m)) (.c (.int ky n))=some v:=by
 unfold A0 at h;split at h
 ·split at h
  ·rename_i hb;simp only[sI] at h;subst h;have hb:m+n<4611686018427387904:=by simpa[Nat.blt_eq] using hb
   have:=qX (m+n) hb;simp only[dN,if_true,fI];rw[show ((m:Int)+n)=((m+n:Nat):Int) by omega,this];rfl
  ·cases h
 ·split at h
  ·rename_i hb;simp only[sI] at h;subst h;simp only[bT,Nat.ble_eq,Nat.blt_eq] at hb;have:=qX (m-n) (by omega);simp only[dN,if_true,fI];rw[show ((m:Int)-n)=((m-n:Nat):Int) by omega,this];rfl
  ·cases h
 ·cases h
theorem xt {op:BinOp}{kx ky:IntKind}{a b:Int}{v:V}(h:AT op kx ky a b=some v):dN op 0 (.c (.int kx a)) (.c (.int ky b))=some v:=by
 unfold AT at h;split at h
 ·rename_i m n;split at h
  ·rename_i t ht;split at h
   ·rename_i hs;have:=tj hs;subst this;simp only[sI] at h;subst h;rw[qU];have e0:((Int.ofNat m)==(Int.ofNat n))=Nat.beq m n:=by
     rw[Bool.eq_iff_iff,beq_iff_eq,Nat.beq_eq];constructor
     ·intro h;exact Int.ofNat.inj h
     ·intro h;rw[h]
    unfold G3 at ht;split at ht<;>simp only[sI,reduceCtorEq] at ht<;>subst ht<;>simp only[fI,sI,V.c.injEq,Value.bool.injEq]
    ·exact e0
    ·exact congrArg (! ·) e0
    ·rw[Bool.eq_iff_iff];simp[Nat.blt_eq]
    ·rw[Bool.eq_iff_iff];simp[Nat.ble_eq]
    ·rw[Bool.eq_iff_iff];simp[Nat.blt_eq]
    ·rw[Bool.eq_iff_iff];simp[Nat.ble_eq]
   ·cases h
  ·exact yH h
 ·cases h
def EL (op:BinOp) (q:Nat) (x y:V) (h:List O) (k:V→List O→R2) (k0:R2):R2:=zF ((dN op q x y).map fun v=>(v,h)) k k0
def GW (op:BinOp) (q:Nat) (x y:V) (h:List O) (k:V→List O→R2) (k0:R2):R2:=match q,x,y with
 | 0,.c (.int kx a),.c (.int ky b)=>match AT op kx ky a b with
  | some v=>nfV v fun v=>k v h
  | none=>EL op 0 (.c (.int kx a)) (.c (.int ky b)) h k k0
 | q,x,y=>EL op q x y h k k0
theorem BF (op:BinOp) (q:Nat) (x y:V) (h:List O) (k:V→List O→R2) (k0:R2):GW op q x y h k k0=out ((dN op q x y).map fun v=>(v,h)) k k0:=by
 unfold GW;split
 ·split
  ·rename_i v hv;rw[xt hv,qP];rfl
  ·simp only[EL,eA]
 ·simp only[EL,eA]
def rN:aw:=fun _ _ _=>none
def Dj (s:Bool) (x:V) (h:List O):R2:=match s with
 | true=>Gv x h
 | false=>EM x h
def BA (x:A) (cfK:be) (tm:List V) (h:List O) (base rb:Nat) (k:V→List O→R2) (k0:R2):R2:=evS tm x fun v=>k v h
def pA (c a b:A) (cfK:be) (tm:List V) (h:List O) (base rb:Nat) (k:V→List O→R2) (k0:R2):R2:=evS tm c fun c=>evS tm a fun a=>evS tm b fun b=>EN (Cf c a b h) k k0
def lM (al:Nat) (z:List V) (cfK:be) (tm:List V) (h:List O) (base rb:Nat) (k:V→List O→R2) (k0:R2):R2:=aI (rb+al) fun i=>k (.ref i 0) h
def vM (al:Nat) (x:A) (cfK:be) (tm:List V) (h:List O) (base rb:Nat) (k:V→List O→R2) (k0:R2):R2:=evS tm x fun v=>aI (rb+al) fun i=>Gz i v h k k0
def lL (z:List V) (ps:List (Nat × Nat × A)) (cfK:be) (tm:List V) (h:List O) (base rb:Nat) (k:V→List O→R2) (k0:R2):R2:=mQ (bH rN ⟨toE tm,h,base,rb⟩ (.build z ps)) k k0
def jo (al z:Nat) (ps:List A) (cfK:be) (tm:List V) (h:List O) (base rb:Nat) (k:V→List O→R2) (k0:R2):R2:=mQ (bH rN ⟨toE tm,h,base,rb⟩ (.bslice al z ps)) k k0
def pF (n:Option Nat) (x:A) (cfK:be) (tm:List V) (h:List O) (base rb:Nat) (k:V→List O→R2) (k0:R2):R2:=evS tm x fun x=>Gj (yQ x n h) k k0
def lZ (n:Nat) (a x:A) (cfK:be) (tm:List V) (h:List O) (base rb:Nat) (k:V→List O→R2) (k0:R2):R2:=evS tm a fun a=>evS tm x fun x=>ra a n x h k k0
def uY (op:BinOp) (q:Nat) (x y:A) (cfK:be) (tm:List V) (h:List O) (base rb:Nat) (k:V→List O→R2) (k0:R2):R2:=evS tm x fun x=>evS tm y fun y=>GW op q x y h k k0
def Bj (op:UnOp) (x:A) (cfK:be) (tm:List V) (h:List O) (base rb:Nat) (k:V→List O→R2) (k0:R2):R2:=mQ (bH rN ⟨toE tm,h,base,rb⟩ (.un op x)) k k0
def ep (o:Nat) (x:A) (cfK:be) (tm:List V) (h:List O) (base rb:Nat) (k:V→List O→R2) (k0:R2):R2:=evS tm x fun x=>zF (faF o x h) k k0
def lc (o:Nat) (n:Option Nat) (x:A) (cfK:be) (tm:List V) (h:List O) (base rb:Nat) (k:V→List O→R2) (k0:R2):R2:=evS tm x fun x=>Gj (zl o n x h) k k0
def eE (z:Nat) (x i:A) (cfK:be) (tm:List V) (h:List O) (base rb:Nat) (k:V→List O→R2) (k0:R2):R2:=evS tm x fun x=>evS tm i fun i=>zF (iaF z x (idx i) h) k k0
def ld (x i:A) (cfK:be) (tm:List V) (h:List O) (base rb:Nat) (k:V→List O→R2) (k0:R2):R2:=evS tm x fun x=>evS tm i fun i=>zF (ixF x (idx i) h) k k0
def lw (s:Bool) (z:Nat) (x:A) (lo hi mx:Option A) (cfK:be) (tm:List V) (h:List O) (base rb:Nat) (k:V→List O→R2) (k0:R2):R2:=mQ (bH rN ⟨toE tm,h,base,rb⟩ (.slice s z x lo hi mx)) k k0
def gH (x:A) (i:Nat) (cfK:be) (tm:List V) (h:List O) (base rb:Nat) (k:V→List O→R2) (k0:R2):R2:=evS tm x fun x=>EN (Gu x i h) k k0
def tU (s:Bool) (x:A) (cfK:be) (tm:List V) (h:List O) (base rb:Nat) (k:V→List O→R2) (k0:R2):R2:=evS tm x fun x=>zF (Dj s x h) k k0
def iX (al:Nat) (z:Option Nat) (b:Nat) (rw:Bool) (x y:A) (cfK:be) (tm:List V) (h:List O) (base rb:Nat) (k:V→List O→R2) (k0:R2):R2:=evS tm x fun x=>evS tm y fun y=>mQ (Eo base (rb+al) b z rw h x (sf h y)) k k0
def Cj (m:Bool) (ps:List A) (cfK:be) (tm:List V) (h:List O) (base rb:Nat) (k:V→List O→R2) (k0:R2):R2:=mQ (bH rN ⟨toE tm,h,base,rb⟩ (.mm m ps)) k k0
def px (kd:IntKind) (x:A) (cfK:be) (tm:List V) (h:List O) (base rb:Nat) (k:V→List O→R2) (k0:R2):R2:=evS tm x fun x=>zF (DC kd x h) k k0
def o7 (f:A) (args:List A) (cfK:be) (tm:List V) (h:List O) (base rb:Nat) (k:V→List O→R2) (k0:R2):R2:=evS tm f fun f=>Gl tm args fun vs=>mj cfK f vs h fun r=>out r k k0
def pb (f:Nat) (ps:List A) (cfK:be) (tm:List V) (h:List O) (base rb:Nat) (k:V→List O→R2) (k0:R2):R2:=mQ (bH rN ⟨toE tm,h,base,rb⟩ (.clos f ps)) k k0
def jd (x:A) (cfK:be) (tm:List V) (h:List O) (base rb:Nat) (k:V→List O→R2) (k0:R2):R2:=evS tm x fun x=>EN (FS x h) k k0
def gW (al:Nat) (cfK:be) (tm:List V) (h:List O) (base rb:Nat) (k:V→List O→R2) (k0:R2):R2:=mQ (bH rN ⟨toE tm,h,base,rb⟩ (.makeMap al)) k k0
def jC (kd:Option (List Nat)) (z:V) (ok:Bool) (x y:A) (cfK:be) (tm:List V) (h:List O) (base rb:Nat) (k:V→List O→R2) (k0:R2):R2:=mQ (bH rN ⟨toE tm,h,base,rb⟩ (.lookup kd z ok x y)) k k0
def jm (kd:Option (List Nat)) (m a v:A) (cfK:be) (tm:List V) (h:List O) (base rb:Nat) (k:V→List O→R2) (k0:R2):R2:=mQ (bH rN ⟨toE tm,h,base,rb⟩ (.mapUpd kd m a v)) k k0
def ol (al:Nat) (z:Option Nat) (zero:List V) (n:A) (cfK:be) (tm:List V) (h:List O) (base rb:Nat) (k:V→List O→R2) (k0:R2):R2:=mQ (bH rN ⟨toE tm,h,base,rb⟩ (.mksl al z zero n)) k k0
def uh (neg:Bool) (kd:List Nat) (x y:A) (cfK:be) (tm:List V) (h:List O) (base rb:Nat) (k:V→List O→R2) (k0:R2):R2:=mQ (bH rN ⟨toE tm,h,base,rb⟩ (.eqs neg kd x y)) k k0
def o9 (f:Nat) (x:A) (cfK:be) (tm:List V) (h:List O) (base rb:Nat) (k:V→List O→R2) (k0:R2):R2:=evS tm x fun x=>zF (He f x h) k k0
def l5 (x:A) (cfK:be) (tm:List V) (h:List O) (base rb:Nat) (k:V→List O→R2) (k0:R2):R2:=mQ (bH rN ⟨toE tm,h,base,rb⟩ (.load1 x)) k k0
def lO (n:Option Nat) (x:A) (cfK:be) (tm:List V) (h:List O) (base rb:Nat) (k:V→List O→R2) (k0:R2):R2:=mQ (bH rN ⟨toE tm,h,base,rb⟩ (.load2 n x)) k k0
def E7 (op:XOp):be→List V→List O→Nat→Nat→(V→List O→R2)→R2→R2:=XOp.rec (motive:=fun _=>be→List V→List O→Nat→Nat→(V→List O→R2)→R2→R2) BA pA lM vM lL jo pF lZ uY Bj ep lc eE ld lw gH tU iX Cj px o7 pb jd gW jC jm ol uh o9 l5 lO op
theorem GF (cf:aw) (st:St) (op:XOp):act cf st op=bH cf ⟨toE st.tm,st.h,st.base,st.rb⟩ op:=act_sub.symm
theorem kf (tm:List V) (x:A):x.val (toE tm)=ev tm x:=by cases x<;>rfl
theorem uC {cfK:be}{cf:aw}(hcf:∀f args h k,cfK f args h k=k (cf f args h)) (tm:List V) (h:List O) (base rb:Nat) (op:XOp) (k:V→List O→R2) (k0:R2):E7 op cfK tm h base rb k k0=out (act cf ⟨tm,h,base,rb⟩ op) k k0:=by
 rw[GF];cases op
 case len s x=>show tU s x cfK tm h base rb k k0=_;cases s<;>simp only[tU,Dj,cn,eA,qY,me,kf]
 case mv x=>show BA x cfK tm h base rb k k0=_;simp only[BA,cn,uJ,kf];rfl
 case pick c a b=>show pA c a b cfK tm h base rb k k0=_;simp only[pA,cn,pC,mE,kf]
 case alloc al z=>show lM al z cfK tm h base rb k k0=_;simp only[lM,aZ,ku];rfl
 case box al x=>show vM al x cfK tm h base rb k k0=_;simp only[vM,cn,aZ,z8,q8,kf]
 case bin op q x y=>show uY op q x y cfK tm h base rb k k0=_;simp only[uY,cn,BF,rt,kf]
 case load n x=>show pF n x cfK tm h base rb k k0=_;simp only[pF,cn,tk,nf,kf]
 case store n a x=>show lZ n a x cfK tm h base rb k k0=_;simp only[lZ,cn,ug,kf];rw[kE,kf,kf]
 case fieldAddr o x=>show ep o x cfK tm h base rb k k0=_;simp only[ep,cn,eA,eZ,kf]
 case field o n x=>show lc o n x cfK tm h base rb k k0=_;simp only[lc,cn,tk,j0,kf]
 case indexAddr z x i=>show eE z x i cfK tm h base rb k k0=_;simp only[eE,cn,eA,eX,kf]
 case index x i=>show ld x i cfK tm h base rb k k0=_;simp only[ld,cn,eA,kN,kf]
 case extract x i=>show gH x i cfK tm h base rb k k0=_;simp only[gH,cn,pC,ik,kf]
 case conv kd x=>show px kd x cfK tm h base rb k k0=_;simp only[px,cn,eA,mT,kf]
 case nilchk x=>show jd x cfK tm h base rb k k0=_;simp only[jd,cn,pC,jy,kf]
 case append al z b rw x y=>show iX al z b rw x y cfK tm h base rb k k0=_;simp only[iX,cn,cl,jR,kf]
 case call f args =>
  have:args.map (A.val (toE tm))=args.map (ev tm):=List.map_congr_left fun x _=>kf tm x
  show o7 f args cfK tm h base rb k k0=_;simp only[o7,cn,uD,vZ hcf,nD,kf,this]
 case build z ps=>show lL z ps cfK tm h base rb k k0=_;simp only[lL,cl];rfl
 case bslice al z ps=>show jo al z ps cfK tm h base rb k k0=_;simp only[jo,cl];rfl
 case un op x=>show Bj op x cfK tm h base rb k k0=_;simp only[Bj,cl];rfl
 case slice s z x lo hi mx=>show lw s z x lo hi mx cfK tm h base rb k k0=_;simp only[lw,cl];rfl
 case mm m ps=>show Cj m ps cfK tm h base rb k k0=_;simp only[Cj,cl];rfl
 case clos f ps=>show pb f ps cfK tm h base rb k k0=_;simp only[pb,cl];rfl
 case makeMap al=>show gW al cfK tm h base rb k k0=_;simp only[gW,cl];rfl
 case lookup kd z ok x y=>show jC kd z ok x y cfK tm h base rb k k0=_;simp only[jC,cl];rfl
 case mapUpd kd m a v=>show jm kd m a v cfK tm h base rb k k0=_;simp only[jm,cl];rfl
 case mksl al z zero n=>show ol al z zero n cfK tm h base rb k k0=_;simp only[ol,cl];rfl
 case eqs neg kd x y=>show uh neg kd x y cfK tm h base rb k k0=_;simp only[uh,cl];rfl
 case bndm f x=>show o9 f x cfK tm h base rb k k0=_;simp only[o9,cn,eA,m7,kf]
 case load2 n x=>show lO n x cfK tm h base rb k k0=_;simp only[lO,cl];rfl
 case load1 x=>show l5 x cfK tm h base rb k k0=_;simp only[l5,cl];rfl
def Df (tm:List V) (d:Option Nat) (v:V) (k:List V→R2):R2:=Option.rec (motive:=fun _=>R2) (k tm) (fun d=>y6 tm d v k) d
theorem vt (tm:List V) (d:Option Nat) (v:V) (k:List V→R2):Df tm d v k=k (bM tm d v):=by
 cases d with
 | none=>rfl
 | some d=>exact gR _ _ _ _
def y5 (b:Bool) (gv:V) (go no:R2) (k0:R2):R2:=match gv with
 | .c (.bool x)=>Bool.rec (motive:=fun _=>R2) no go (x==b)
 | .top=>k0
 | _=>no
def lV (cfK:be) (base rb:Nat) (o:XOper) (tm:List V) (h:List O) (k:List V→List O→R2) (k0:R2):R2 :=
 XOper.rec (motive:=fun _=>R2) (fun d op g=>Option.rec (motive:=fun _=>R2) (E7 op cfK tm h base rb (fun v h=>Df tm d v fun tm=>k tm h) k0)
  (fun p=>Prod.rec (motive:=fun _=>R2) (fun t b=>wo tm t (fun gv=>y5 b gv (E7 op cfK tm h base rb (fun v h=>Df tm d v fun tm=>k tm h) k0) (Df tm d aE fun tm=>k tm h) k0) (Df tm d aE fun tm=>k tm h)) p) g) o
def Dl (r:Option St) (k:List V→List O→R2) (k0:R2):R2:=match r with
 | some st=>k st.tm st.h
 | none=>k0
theorem li {cfK:be}{cf:aw}(hcf:∀f args h k,cfK f args h k=k (cf f args h)) (base rb:Nat) (o:XOper) (tm:List V) (h:List O) (k:List V→List O→R2) (k0:R2) :
  lV cfK base rb o tm h k k0=Dl (aN cf o ⟨tm,h,base,rb⟩) k k0:=by
 have key:∀(op:XOp) (d:Option Nat),out (act cf ⟨tm,h,base,rb⟩ op) (fun v h=>k (bM tm d v) h) k0=Dl (match act cf ⟨tm,h,base,rb⟩ op with
   | some (v,h)=>some { tm:=bM tm d v,h:=h,base:=base,rb:=rb }
   | none=>none) k k0:=by
  intro op d;cases act cf ⟨tm,h,base,rb⟩ op with
  | none=>rfl
  | some p=>rfl
 obtain⟨d,op,g⟩:=o;unfold aN;cases g with
 | none =>
  simp only[lV,uC hcf,vt,bj,bh,if_true];exact key op d
 | some p =>
  obtain⟨t,b⟩:=p;obtain⟨gg,hg⟩:∃gg,tm[t]?=gg:=⟨_,rfl⟩
  simp only[lV,uC hcf,vt,ew,bj,bh,hg];cases gg with
  | none=>rfl
  | some gv =>
   cases gv with
   | c x =>
    cases x with
    | bool x =>
     simp only[y5,if_true];cases x<;>cases b<;>first|rfl|exact key op d
    | _=>rfl
   | _=>rfl
def EK (cfK:be) (base rb:Nat) (ops:List XOper):List V→List O→(List V→List O→R2)→R2→R2 :=
 List.rec (motive:=fun _=>List V→List O→(List V→List O→R2)→R2→R2) (fun tm h k _=>k tm h) (fun o _ ih tm h k k0=>lV cfK base rb o tm h (fun tm h=>ih tm h k k0) k0) ops
theorem cO {cf:aw}{o:XOper}{st st':St}(h:aN cf o st=some st'):st'.base=st.base∧st'.rb=st.rb:=by
 obtain⟨a,b⟩:=gT h;exact⟨b,a⟩
theorem wi {cfK:be}{cf:aw}(hcf:∀f args h k,cfK f args h k=k (cf f args h)) (base rb:Nat):∀(ops:List XOper) (tm:List V) (h:List O) (k:List V→List O→R2) (k0:R2),
  EK cfK base rb ops tm h k k0=Dl (aH cf ops ⟨tm,h,base,rb⟩) k k0
 | [],_,_,_,_=>rfl
 | o::ops,tm,h,k,k0=>by
  show lV cfK base rb o tm h (fun tm h=>EK cfK base rb ops tm h k k0) k0=_;rw[li hcf];unfold aH;cases hs:aN cf o ⟨tm,h,base,rb⟩ with
  | none=>rfl
  | some st =>
   obtain⟨e1,e2⟩:=cO hs;obtain⟨tm',h',b',r'⟩:=st;simp only at e1 e2;subst e1 e2;exact wi hcf _ _ ops _ _ k k0
def k8 (m:Nat) (cfK:be):be:=fun f args H k =>
 if f<rid∧m≤H.length∧V.lows m args=true∧(H.take m).all (O.low m)=true then
  nfL (H.take m) fun h=>cfK f args h fun r=>match r with
   | some (r,h1)=>if h1.length=m then nfL (h1++H.drop m) fun h=>k (some (r,h)) else k none
   | none=>k none
 else k none
theorem rH {cfK:be}{cf:aw}(hcf:∀f args h k,cfK f args h k=k (cf f args h)) (m:Nat) (f:Nat) (args:List V) (H:List O) (k:R2→R2):k8 m cfK f args H k=k (cE m cf f args H):=by
 simp only[k8,dq,hcf,cE];split
 ·cases cf f args (H.take m) with
  | none=>rfl
  | some p =>
   obtain⟨r,h1⟩:=p;simp only;split<;>rfl
 ·rfl
def qK (m:Nat) (cfK:be):be:=fun f args H k=>if V.lows m args=true then k8 m cfK f args H k else k8 m cfK f (args.map V.vw2) H k
theorem sL {cfK:be}{cf:aw}(hcf:∀f args h k,cfK f args h k=k (cf f args h)) (m:Nat) (f:Nat) (args:List V) (H:List O) (k:R2→R2):qK m cfK f args H k=k (aM m cf f args H):=by
 unfold qK aM;split<;>rw[rH hcf]
def sn (m:Nat) (lt:Bool) (cfK:be) (base rb:Nat) (ops:List XOper):List V→List O→(List V→List O→R2)→R2→R2 :=
 List.rec (motive:=fun _=>List V→List O→(List V→List O→R2)→R2→R2) (fun tm h k _=>k tm h) (fun o _ ih tm h k k0=>Bool.rec (motive:=fun _=>R2) k0 (lV (qK m cfK) base rb o tm h (fun tm h=>ih tm h k k0) k0) (eT lt o||ix m ⟨tm,h,base,rb⟩ o.op)) ops
theorem lQ {m:Nat}{lt:Bool}{cfK:be}{cf:aw}(hcf:∀f args h k,cfK f args h k=k (cf f args h)) (base rb:Nat):∀(ops:List XOper) (tm:List V) (h:List O) (k:List V→List O→R2) (k0:R2),
  sn m lt cfK base rb ops tm h k k0=Dl (ek m lt cf ops ⟨tm,h,base,rb⟩) k k0
 | [],_,_,_,_=>rfl
 | o::ops,tm,h,k,k0=>by
  show Bool.rec (motive:=fun _=>R2) k0 (lV (qK m cfK) base rb o tm h (fun tm h=>sn m lt cfK base rb ops tm h k k0) k0) (eT lt o||ix m ⟨tm,h,base,rb⟩ o.op)=_;rw[li (sL hcf m)];unfold ek ej;cases ho:eT lt o||ix m ⟨tm,h,base,rb⟩ o.op with
  | false=>rfl
  | true =>
   simp only[if_true];cases hs:aN (aM m cf) o ⟨tm,h,base,rb⟩ with
   | none=>rfl
   | some st =>
    obtain⟨e1,e2⟩:=cO hs;obtain⟨tm',h',b',r'⟩:=st;simp only at e1 e2;subst e1 e2;exact lQ hcf _ _ ops _ _ k k0
def roS (m:Nat) (cfK:be):be:=fun f args H k =>
 if f<rid∧m≤H.length∧V.lows m args=true∧(H.take m).all (O.low m)=true then
  nfL (H.take m) fun h=>cfK f args h fun r=>match r with
   | some (r,h1)=>if h1.length=m∧n7 (H.take m) h1=true then k (some (r,H)) else k none
   | none=>k none
 else k none
theorem Ef {cfK:be}{cf:aw}(hcf:∀f args h k,cfK f args h k=k (cf f args h)) (m:Nat) (f:Nat) (args:List V) (H:List O) (k:R2→R2):roS m cfK f args H k=k (eR m cf f args H):=by
 simp only[roS,dq,hcf,eR];split
 ·cases cf f args (H.take m) with
  | none=>rfl
  | some p =>
   obtain⟨r,h1⟩:=p;simp only;split<;>rfl
 ·rfl
def wI (m:Nat) (cfK:be) (base rb:Nat) (ops:List XOper):List V→List O→(List V→List O→R2)→R2→R2 :=
 List.rec (motive:=fun _=>List V→List O→(List V→List O→R2)→R2→R2) (fun tm h k _=>k tm h) (fun o _ ih tm h k k0=>Bool.rec (motive:=fun _=>R2) k0 (lV (roS m cfK) base rb o tm h (fun tm h=>ih tm h k k0) k0) (it m ⟨tm,h,base,rb⟩ o.op)) ops
theorem qm {m:Nat}{cfK:be}{cf:aw}(hcf:∀f args h k,cfK f args h k=k (cf f args h)) (base rb:Nat):∀(ops:List XOper) (tm:List V) (h:List O) (k:List V→List O→R2) (k0:R2),
  wI m cfK base rb ops tm h k k0=Dl (gD m cf ops ⟨tm,h,base,rb⟩) k k0
 | [],_,_,_,_=>rfl
 | o::ops,tm,h,k,k0=>by
  show Bool.rec (motive:=fun _=>R2) k0 (lV (roS m cfK) base rb o tm h (fun tm h=>wI m cfK base rb ops tm h k k0) k0) (it m ⟨tm,h,base,rb⟩ o.op)=_;rw[li (Ef hcf m)];unfold gD eB;cases ho:it m ⟨tm,h,base,rb⟩ o.op with
  | false=>rfl
  | true =>
   simp only[if_true];cases hs:aN (eR m cf) o ⟨tm,h,base,rb⟩ with
   | none=>rfl
   | some st =>
    obtain⟨e1,e2⟩:=cO hs;obtain⟨tm',h',b',r'⟩:=st;simp only at e1 e2;subst e1 e2;exact qm hcf _ _ ops _ _ k k0
def Bv (r:Option (Ex × St)) (k:Ex→St→R2) (k0:R2):R2:=match r with
 | some (e,st)=>k e st
 | none=>k0
def wW (f:St→(Ex→St→R2)→R2→R2) (n:Nat):St→(Ex→St→R2)→R2→R2 :=
 Nat.rec (motive:=fun _=>St→(Ex→St→R2)→R2→R2) (fun _ _ k0=>k0) (fun _ ih st k k0=>f st (fun e st=>match e with
  | .normal=>ih st k k0
  | e=>k e st) k0) n
def fL (cfK:be) (n:Nat) (xc:XC):St→(Ex→St→R2)→R2→R2 :=
 XC.rec (motive:=fun _=>St→(Ex→St→R2)→R2→R2)
  (fun st k _=>k .normal st)
  (fun ops pre _ st k k0=>St.rec (motive:=fun _=>R2) (fun tm h base rb=>xU h pre fun h'=>aI h.length fun rb'=>EK cfK base rb' ops tm h' (fun tm h=>k .normal ⟨tm,h,base,rb'⟩) k0) st)
  (fun ops pre st k k0=>St.rec (motive:=fun _=>R2) (fun tm h base rb=>xU h pre fun h'=>aI h.length fun rb'=>sn base false cfK base rb' ops tm h' (fun tm h=>k .normal ⟨tm,h,base,rb'⟩) k0) st)
  (fun ops pre st k k0=>St.rec (motive:=fun _=>R2) (fun tm h base rb=>aI (thr ⟨tm,h,base,rb⟩ ops) fun m=>xU h pre fun h'=>aI h.length fun rb'=>sn m true cfK base rb' ops tm h' (fun tm h=>k .normal ⟨tm,h,base,rb'⟩) k0) st)
  (fun ops pre st k k0=>St.rec (motive:=fun _=>R2) (fun tm h base rb=>aI (min base h.length) fun m=>xU h pre fun h'=>aI h.length fun rb'=>wI m cfK base rb' ops tm h' (fun tm h=>k .normal ⟨tm,h,base,rb'⟩) k0) st)
  (fun _ _ iha ihb st k k0=>iha st (fun e st=>match e with
   | .normal=>ihb st k k0
   | e=>k e st) k0)
  (fun c _ _ iha ihb st k k0=>evS st.tm c fun v=>match v with
   | .c (.bool t)=>Bool.rec (motive:=fun _=>R2) (ihb st k k0) (iha st k k0) t
   | _=>k0)
  (fun id _ ih st k k0=>ih st (fun e st=>match e with
   | .exit id'=>if id'=id then k .normal st else k (.exit id') st
   | e=>k e st) k0)
  (fun _ ih st k k0=>wW ih n st k k0)
  (fun id st k _=>k (.exit id) st)
  (fun st k _=>k .ret st)
  (fun f y m nt us st k k0=>St.rec (motive:=fun _=>R2) (fun tm h base rb=>evS tm f fun fv=>match bb fv with
   | some (g,lb)=>if g<rid∧rid≤y∧tm.length=nt then wt nf0 (lT nt us tm) fun caps=>aI h.length fun l=>nfL (h++[.loop 0]) fun h1=>cfK g (.yld l y m caps::lb) h1 fun r=>match r with
     | some (_,h')=>wo h' l (fun ob=>match ob with
      | .loop s=>match Ex.ofNum s with
       | some e=>y6 h' l (.loop 2) fun h=>k e ⟨tm,h,base,rb⟩
       | none=>k0
      | _=>k0) k0
     | none=>k0
    else k0
   | none=>k0) st) xc
theorem qs {f:St→(Ex→St→R2)→R2→R2}{g:St→Option (Ex × St)}(hf:∀st k k0,f st k k0=Bv (g st) k k0):∀(n:Nat) (st:St) (k:Ex→St→R2) (k0:R2),wW f n st k k0=Bv (io g n st) k k0
 | 0,_,_,_=>rfl
 | n+1,st,k,k0=>by
  show f st (fun e st=>match e with
   | .normal=>wW f n st k k0
   | e=>k e st) k0=_
  rw[hf];unfold io;cases g st with
  | none=>rfl
  | some p =>
   obtain⟨e,st'⟩:=p;cases e with
   | normal=>exact qs hf n st' k k0
   | exit id=>rfl
   | ret=>rfl
theorem l6 {cfK:be}{cf:aw}(hcf:∀f args h k,cfK f args h k=k (cf f args h)) (n:Nat):∀(xc:XC) (st:St) (k:Ex→St→R2) (k0:R2),fL cfK n xc st k k0=Bv (aP cf n xc st) k k0:=by
 intro xc
 induction xc with
 | skip=>intros;rfl
 | reg ops pre d =>
  intro st k k0;obtain⟨tm,h,base,rb⟩:=st;show (xU h pre fun h'=>aI h.length fun rb'=>EK cfK base rb' ops tm h' (fun tm h=>k .normal ⟨tm,h,base,rb'⟩) k0)=_;rw[lr,aZ,wi hcf];unfold aP;simp only;have hk:∀(ops:List XOper) (st st':St),aH cf ops st=some st'→st'.base=st.base∧st'.rb=st.rb:=by
   intro ops
   induction ops with
   | nil=>intro st st' e;simp only[aH,sI] at e;subst e;exact⟨rfl,rfl⟩
   | cons o ops ih =>
    intro st st' e;unfold aH at e;split at e
    ·rename_i s1 h1;obtain⟨a1,a2⟩:=cO h1;obtain⟨b1,b2⟩:=ih _ _ e;exact⟨b1.trans a1,b2.trans a2⟩
    ·cases e
  cases hr:aH cf ops ⟨tm,h++pre,base,h.length⟩ with
  | none=>rfl
  | some st' =>
   obtain⟨e1,e2⟩:=hk _ _ _ hr;obtain⟨tm',h',b',r'⟩:=st';simp only at e1 e2;subst e1 e2;rfl
 | regw ops pre =>
  intro st k k0;obtain⟨tm,h,base,rb⟩:=st;show (xU h pre fun h'=>aI h.length fun rb'=>sn base false cfK base rb' ops tm h' (fun tm h=>k .normal ⟨tm,h,base,rb'⟩) k0)=_;rw[lr,aZ,lQ hcf];unfold aP;simp only;have hk:∀(ops:List XOper) (st st':St),ek base false cf ops st=some st'→st'.base=st.base∧st'.rb=st.rb:=by
   intro ops
   induction ops with
   | nil=>intro st st' e;simp only[ek,sI] at e;subst e;exact⟨rfl,rfl⟩
   | cons o ops ih =>
    intro st st' e;unfold ek at e;split at e
    ·rename_i s1 h1;obtain⟨a1,a2⟩:=cO (dk h1);obtain⟨b1,b2⟩:=ih _ _ e;exact⟨b1.trans a1,b2.trans a2⟩
    ·cases e
  cases hr:ek base false cf ops ⟨tm,h++pre,base,h.length⟩ with
  | none=>rfl
  | some st' =>
   obtain⟨e1,e2⟩:=hk _ _ _ hr;obtain⟨tm',h',b',r'⟩:=st';simp only at e1 e2;subst e1 e2;rfl
 | regm ops pre =>
  intro st k k0;obtain⟨tm,h,base,rb⟩:=st;show (aI (thr ⟨tm,h,base,rb⟩ ops) fun m=>xU h pre fun h'=>aI h.length fun rb'=>sn m true cfK base rb' ops tm h' (fun tm h=>k .normal ⟨tm,h,base,rb'⟩) k0)=_;rw[aZ,lr,aZ,lQ hcf];unfold aP;simp only;have hk:∀(m:Nat) (ops:List XOper) (st st':St),ek m true cf ops st=some st'→st'.base=st.base∧st'.rb=st.rb:=by
   intro m ops
   induction ops with
   | nil=>intro st st' e;simp only[ek,sI] at e;subst e;exact⟨rfl,rfl⟩
   | cons o ops ih =>
    intro st st' e;unfold ek at e;split at e
    ·rename_i s1 h1;obtain⟨a1,a2⟩:=cO (dk h1);obtain⟨b1,b2⟩:=ih _ _ e;exact⟨b1.trans a1,b2.trans a2⟩
    ·cases e
  cases hr:ek (thr ⟨tm,h,base,rb⟩ ops) true cf ops ⟨tm,h++pre,base,h.length⟩ with
  | none=>rfl
  | some st' =>
   obtain⟨e1,e2⟩:=hk _ _ _ _ hr;obtain⟨tm',h',b',r'⟩:=st';simp only at e1 e2;subst e1 e2;rfl
 | regr ops pre =>
  intro st k k0;obtain⟨tm,h,base,rb⟩:=st;show (aI (min base h.length) fun m=>xU h pre fun h'=>aI h.length fun rb'=>wI m cfK base rb' ops tm h' (fun tm h=>k .normal ⟨tm,h,base,rb'⟩) k0)=_;rw[aZ,lr,aZ,qm hcf];unfold aP;simp only;have hk:∀(m:Nat) (ops:List XOper) (st st':St),gD m cf ops st=some st'→st'.base=st.base∧st'.rb=st.rb:=by
   intro m ops
   induction ops with
   | nil=>intro st st' e;simp only[gD,sI] at e;subst e;exact⟨rfl,rfl⟩
   | cons o ops ih =>
    intro st st' e;unfold gD at e;split at e
    ·rename_i s1 h1;obtain⟨a1,a2⟩:=cO (dv h1);obtain⟨b1,b2⟩:=ih _ _ e;exact⟨b1.trans a1,b2.trans a2⟩
    ·cases e
  cases hr:gD (min base h.length) cf ops ⟨tm,h++pre,base,h.length⟩ with
  | none=>rfl
  | some st' =>
   obtain⟨e1,e2⟩:=hk _ _ _ _ hr;obtain⟨tm',h',b',r'⟩:=st';simp only at e1 e2;subst e1 e2;rfl
 | seq a b iha ihb =>
  intro st k k0;show fL cfK n a st (fun e st=>match e with
   | .normal=>fL cfK n b st k k0
   | e=>k e st) k0=_
  rw[iha];simp only[aP];cases aP cf n a st with
  | none=>rfl
  | some p =>
   obtain⟨e,st'⟩:=p;cases e with
   | normal=>exact ihb st' k k0
   | exit id=>rfl
   | ret=>rfl
 | cond c a b iha ihb =>
  intro st k k0;show (evS st.tm c fun v=>match v with
   | .c (.bool t)=>Bool.rec (motive:=fun _=>R2) (fL cfK n b st k k0) (fL cfK n a st k k0) t
   | _=>k0)=_
  rw[cn];simp only[aP];cases ev st.tm c with
  | c x =>
   cases x with
   | bool t=>cases t with
    | false=>exact ihb st k k0
    | true=>exact iha st k k0
   | _=>rfl
  | _=>rfl
 | block id c ih =>
  intro st k k0;show fL cfK n c st (fun e st=>match e with
   | .exit id'=>if id'=id then k .normal st else k (.exit id') st
   | e=>k e st) k0=_
  rw[ih];simp only[aP];cases aP cf n c st with
  | none=>rfl
  | some p =>
   obtain⟨e,st'⟩:=p;cases e with
   | exit id' =>
    simp only[Bv];split<;>rfl
   | _=>rfl
 | loop c ih =>
  intro st k k0;show wW (fL cfK n c) n st k k0=_;exact qs ih n st k k0
 | exit id=>intros;rfl
 | ret=>intros;rfl
 | rangeF f y m nt us =>
  intro st k k0;obtain⟨tm,h,base,rb⟩:=st;show (evS tm f fun fv=>match bb fv with
   | some (g,lb)=>if g<rid∧rid≤y∧tm.length=nt then wt nf0 (lT nt us tm) fun caps=>aI h.length fun l=>nfL (h++[.loop 0]) fun h1=>cfK g (.yld l y m caps::lb) h1 fun r=>match r with
     | some (_,h')=>wo h' l (fun ob=>match ob with
      | .loop s=>match Ex.ofNum s with
       | some e=>y6 h' l (.loop 2) fun h=>k e ⟨tm,h,base,rb⟩
       | none=>k0
      | _=>k0) k0
     | none=>k0
    else k0
   | none=>k0)=_
  rw[cn];unfold aP;simp only;cases bb (ev tm f) with
  | none=>rfl
  | some p =>
   obtain⟨g,lb⟩:=p;simp only[fp zE,aZ,dq,hcf,ew,gR];split
   ·cases cf g (.yld h.length y m (lT nt us tm)::lb) (h++[.loop 0]) with
    | none=>rfl
    | some q =>
     obtain⟨v,h'⟩:=q;simp only;cases h'[h.length]? with
     | none=>rfl
     | some ob =>
      cases ob<;>try rfl
      rename_i s;simp only;cases Ex.ofNum s<;>rfl
   ·rfl
def Cr (esc:Bool) (n:Nat) (res:List XR) (k:R2→R2) (e:Ex) (st:St):R2:=nfR (fin esc n res (some (e,st))) k
theorem Bt (esc:Bool) (n:Nat) (res:List XR) (k:R2→R2) (r:Option (Ex × St)):Bv r (Cr esc n res k) (k none)=k (fin esc n res r):=by
 cases r with
 | none=>rfl
 | some p=>obtain⟨e,st⟩:=p;exact nI _ _
def j8 (xf:XF) (args:List V) (h:List O) (k:St→R2):R2:=wt nfV args fun args=>nfL (args++List.replicate (xf.ntm-args.length) aE) fun tm=>aI h.length fun b=>k ⟨tm,h,b,0⟩
theorem uj (xf:XF) (args:List V) (h:List O) (k:St→R2):j8 xf args h k=k (cU xf args h):=by
 simp only[j8,fp qP,dq,aZ];rfl
def wL (cfK:be) (n:Nat) (xf:XF) (args:List V) (h:List O) (k:R2→R2):R2 :=
 if xf.pure then
  if V.lows 0 (args.map V.vw2) then
   if xf.esc then j8 xf (args.map V.vw2) (zY xf) fun st=>fL cfK n xf.body st (Cr true n xf.res fun r=>nfR (r.map fun r=>(r.1.shift h.length,h++r.2.map (O.shift h.length))) k) (k none)
   else j8 xf (args.map V.vw2) [] fun st=>fL cfK n xf.body st (Cr false n xf.res fun r=>k (r.map fun r=>(r.1,h))) (k none)
  else if xf.esc then k none
  else match nW (jU 0 h n) (args.map V.vw2) with
   | some bs=>if V.lows 0 bs then j8 xf bs [] fun st=>fL cfK n xf.body st (Cr false n xf.res fun r=>match r with
     | some (r,_)=>if r.flat then k (some (r,h)) else k none
     | none=>k none) (k none)
    else k none
   | none=>k none
 else j8 xf (args.map (if xf.esc then V.vwt else V.vw2)) h fun st=>fL cfK n xf.body st (Cr xf.esc n xf.res k) (k none)
theorem xg {cfK:be}{cf:aw}(hcf:∀f args h k,cfK f args h k=k (cf f args h)) (n:Nat) (xf:XF) (args:List V) (h:List O) (k:R2→R2):wL cfK n xf args h k=k (ic cf n xf args h):=by
 have e1:∀(st:St) (esc:Bool) (kk:R2→R2),kk none=k none→fL cfK n xf.body st (Cr esc n xf.res kk) (k none)=kk (fin esc n xf.res (aP cf n xf.body st)):=by
  intro st esc kk h0;rw[l6 hcf,← h0,Bt]
 unfold wL ic;simp only[uj];split
 ·split
  ·split
   ·rw[e1 _ _ _ (by simp only[nI,Option.map_none])];rw[nI]
   ·rw[e1 _ _ _ (by simp only[Option.map_none])]
  ·split
   ·rfl
   ·cases nW (jU 0 h n) (args.map V.vw2) with
    | none=>rfl
    | some bs =>
     simp only;split
     ·rw[e1 _ _ (fun r=>match r with
       | some (r,_)=>if r.flat then k (some (r,h)) else k none
       | none=>k none) rfl]
      cases fin false n xf.res (aP cf n xf.body (cU xf bs [])) with
      | none=>rfl
      | some p =>
       obtain⟨r,h'⟩:=p;simp only;split<;>rfl
     ·rfl
 ·rw[e1 _ _ _ rfl]
def gz (cfK:be) (n:Nat) (ps:List Nat) (asg body:XC) (l:Nat) (vs caps:List V) (h:List O) (k:R2→R2):R2:=match fh ps vs caps with
 | some tm=>nfL tm fun tm=>aI h.length fun b=>fL cfK n asg ⟨tm,h,b,0⟩ (fun e st1=>match e with
  | .normal=>wo st1.h l (fun ob=>match ob with
   | .loop 0=>St.rec (motive:=fun _=>R2) (fun tm1 h1 b1 rb1=>y6 h1 l (.loop 1) fun h1=>fL cfK n body ⟨tm1,h1,b1,rb1⟩ (fun e st2=>wo st2.h l (fun ob=>match ob with
    | .loop 1=>nfR (let h3:=(st2.h.set l (.loop e.num)).take h.length
      if h3.all (O.low h.length) then some (.c (.bool (e.num==0)),h3) else none) k
    | _=>k none) (k none)) (k none)) st1
   | _=>k none) (k none)
  | _=>k none) (k none)
 | none=>k none
theorem nk {cfK:be}{cf:aw}(hcf:∀f args h k,cfK f args h k=k (cf f args h)) (n:Nat) (ps:List Nat) (asg body:XC) (l:Nat) (vs caps:List V) (h:List O) (k:R2→R2) :
  gz cfK n ps asg body l vs caps h k=k (cQ cf n ps asg body l vs caps h):=by
 unfold gz cQ;cases fh ps vs caps with
 | none=>rfl
 | some tm =>
  simp only[dq,aZ,l6 hcf];cases aP cf n asg ⟨tm,h,h.length,0⟩ with
  | none=>rfl
  | some p =>
   obtain⟨e,st1⟩:=p;cases e<;>try rfl
   simp only[Bv,ew];cases st1.h[l]? with
   | none=>rfl
   | some ob =>
    cases ob<;>try rfl
    rename_i s
    match s with
    | 0 =>
     obtain⟨tm1,h1,b1,rb1⟩:=st1;simp only[gR,l6 hcf];cases aP cf n body ⟨tm1,h1.set l (.loop 1),b1,rb1⟩ with
     | none=>rfl
     | some q =>
      obtain⟨e2,st2⟩:=q;simp only[Bv,ew];cases st2.h[l]? with
      | none=>rfl
      | some ob =>
       cases ob<;>try rfl
       rename_i s
       match s with
       | 0=>rfl
       | 1=>simp only[nI]
       | s+2=>rfl
    | s+1=>rfl
inductive KT where
 | leaf
 | node (key:Nat) (x:XF) (l r:KT)
def KT.find (t:KT) (f:Nat):Option XF:=KT.rec (motive:=fun _=>Option XF) none (fun key x _ _ a b=>Bool.rec (motive:=fun _=>Option XF) (Bool.rec (motive:=fun _=>Option XF) b a (Nat.blt f key)) (some x) (Nat.beq f key)) t
def KT.all (P:Nat→XF→Prop):KT→Prop
 | .leaf=>True
 | .node key x l r=>P key x∧KT.all P l∧KT.all P r
theorem KT.find_all {P:Nat→XF→Prop}{f:Nat}{xf:XF}:∀(t:KT),t.all P→t.find f=some xf→P f xf
 | .leaf,_,h=>by cases h
 | .node key x l r,ha,h=>by
  have h:Bool.rec (motive:=fun _=>Option XF) (Bool.rec (motive:=fun _=>Option XF) (r.find f) (l.find f) (Nat.blt f key)) (some x) (Nat.beq f key)=some xf:=h;cases h1:Nat.beq f key with
  | true =>
   rw[h1] at h;have:f=key:=Nat.eq_of_beq_eq_true h1;subst this;simp only[sI] at h;subst h;exact ha.1
  | false =>
   rw[h1] at h;cases h2:Nat.blt f key with
   | true=>rw[h2] at h;exact KT.find_all l ha.2.1 h
   | false=>rw[h2] at h;exact KT.find_all r ha.2.2 h
def wu (T:KT) (X:Nat→Option XF) (E:Ext) (n:Nat):be :=
 Nat.rec (motive:=fun _=>be) (fun _ _ _ k=>k none) (fun n cfn f args h k=>Option.rec (motive:=fun _=>R2) (nfR (call X E (n+1) f args h) k)
  (fun xf=>match xf.asg with
   | some (ps,asg)=>match args with
    | .c (.int _ l)::rs=>if l.toNat<h.length then aI l.toNat fun l'=>gz cfn n ps asg xf.body l' (rs.take ps.length) (rs.drop ps.length) h k else k none
    | _=>k none
   | none=>wL cfn n xf args h k) (T.find f)) n
theorem xB {T:KT}{X:Nat→Option XF}{E:Ext}(hT:T.all fun f xf=>E f=none∧X f=some xf):∀(n f:Nat) (args:List V) (h:List O) (k:R2→R2),wu T X E n f args h k=k (call X E n f args h):=by
 intro n
 induction n with
 | zero=>intros;rfl
 | succ n ih =>
  intro f args h k;show Option.rec (motive:=fun _=>R2) (nfR (call X E (n+1) f args h) k)
   (fun xf=>match xf.asg with
    | some (ps,asg)=>match args with
     | .c (.int _ l)::rs=>if l.toNat<h.length then aI l.toNat fun l'=>gz (wu T X E n) n ps asg xf.body l' (rs.take ps.length) (rs.drop ps.length) h k else k none
     | _=>k none
    | none=>wL (wu T X E n) n xf args h k) (T.find f)=_
  cases hf:T.find f with
  | none=>exact nI _ _
  | some xf =>
   obtain⟨hE,hX⟩:=KT.find_all T hT hf;rw[call];simp only[hE,hX];cases xf.asg with
   | none=>exact xg ih n xf args h k
   | some p =>
    obtain⟨ps,asg⟩:=p;simp only;split
    ·rename_i kd l rs;by_cases hl:l.toNat<h.length
     ·rw[if_pos hl,aZ,nk ih];simp only[if_pos hl]
     ·rw[if_neg hl];simp only[if_neg hl]
    ·rename_i hne;split
     ·exact absurd rfl (hne _ _ _)
     ·rfl
theorem dR {T:KT}{X:Nat→Option XF}{E:Ext}(hT:T.all fun f xf=>E f=none∧X f=some xf){n f:Nat}{args:List V}{h:List O}{r:R2}(e:wu T X E n f args h (fun r=>r)=r):call X E n f args h=r:=by
 rw[xB hT] at e;exact e
def ktab:KT:=(.node 104 x104 (.node 55 x55 (.node 36 x36 (.node 20 x20 (.node 13 x13 (.node 9 x9 (.node 8 x8 (.node 5 x5 .leaf .leaf) .leaf) (.node 10 x10 .leaf .leaf)) (.node 18 x18 (.node 16 x16 (.node 14 x14 .leaf .leaf) .leaf) (.node 19 x19 .leaf .leaf))) (.node 26 x26 (.node 23 x23 (.node 22 x22 (.node 21 x21 .leaf .leaf) .leaf) (.node 24 x24 .leaf .leaf)) (.node 34 x34 (.node 33 x33 (.node 32 x32 .leaf .leaf) .leaf) (.node 35 x35 .leaf .leaf)))) (.node 46 x46 (.node 41 x41 (.node 39 x39 (.node 38 x38 (.node 37 x37 .leaf .leaf) .leaf) (.node 40 x40 .leaf .leaf)) (.node 44 x44 (.node 43 x43 (.node 42 x42 .leaf .leaf) .leaf) (.node 45 x45 .leaf .leaf))) (.node 51 x51 (.node 49 x49 (.node 48 x48 (.node 47 x47 .leaf .leaf) .leaf) (.node 50 x50 .leaf .leaf)) (.node 53 x53 (.node 52 x52 .leaf .leaf) (.node 54 x54 .leaf .leaf))))) (.node 82 x82 (.node 65 x65 (.node 60 x60 (.node 58 x58 (.node 57 x57 (.node 56 x56 .leaf .leaf) .leaf) (.node 59 x59 .leaf .leaf)) (.node 63 x63 (.node 62 x62 (.node 61 x61 .leaf .leaf) .leaf) (.node 64 x64 .leaf .leaf))) (.node 70 x70 (.node 68 x68 (.node 67 x67 (.node 66 x66 .leaf .leaf) .leaf) (.node 69 x69 .leaf .leaf)) (.node 73 x73 (.node 72 x72 (.node 71 x71 .leaf .leaf) .leaf) (.node 74 x74 .leaf .leaf)))) (.node 95 x95 (.node 90 x90 (.node 88 x88 (.node 87 x87 (.node 86 x86 .leaf .leaf) .leaf) (.node 89 x89 .leaf .leaf)) (.node 93 x93 (.node 92 x92 (.node 91 x91 .leaf .leaf) .leaf) (.node 94 x94 .leaf .leaf))) (.node 100 x100 (.node 98 x98 (.node 97 x97 (.node 96 x96 .leaf .leaf) .leaf) (.node 99 x99 .leaf .leaf)) (.node 102 x102 (.node 101 x101 .leaf .leaf) (.node 103 x103 .leaf .leaf)))))) (.node 155 x155 (.node 125 x125 (.node 114 x114 (.node 109 x109 (.node 107 x107 (.node 106 x106 (.node 105 x105 .leaf .leaf) .leaf) (.node 108 x108 .leaf .leaf)) (.node 112 x112 (.node 111 x111 (.node 110 x110 .leaf .leaf) .leaf) (.node 113 x113 .leaf .leaf))) (.node 119 x119 (.node 117 x117 (.node 116 x116 (.node 115 x115 .leaf .leaf) .leaf) (.node 118 x118 .leaf .leaf)) (.node 123 x123 (.node 121 x121 (.node 120 x120 .leaf .leaf) .leaf) (.node 124 x124 .leaf .leaf)))) (.node 144 x144 (.node 139 x139 (.node 137 x137 (.node 127 x127 (.node 126 x126 .leaf .leaf) .leaf) (.node 138 x138 .leaf .leaf)) (.node 142 x142 (.node 141 x141 (.node 140 x140 .leaf .leaf) .leaf) (.node 143 x143 .leaf .leaf))) (.node 149 x149 (.node 147 x147 (.node 146 x146 (.node 145 x145 .leaf .leaf) .leaf) (.node 148 x148 .leaf .leaf)) (.node 152 x152 (.node 151 x151 .leaf .leaf) (.node 154 x154 .leaf .leaf))))) (.node 176 x176 (.node 165 x165 (.node 160 x160 (.node 158 x158 (.node 157 x157 (.node 156 x156 .leaf .leaf) .leaf) (.node 159 x159 .leaf .leaf)) (.node 163 x163 (.node 162 x162 (.node 161 x161 .leaf .leaf) .leaf) (.node 164 x164 .leaf .leaf))) (.node 172 x172 (.node 170 x170 (.node 169 x169 (.node 166 x166 .leaf .leaf) .leaf) (.node 171 x171 .leaf .leaf)) (.node 174 x174 (.node 173 x173 .leaf .leaf) (.node 175 x175 .leaf .leaf)))) (.node 190 x190 (.node 181 x181 (.node 179 x179 (.node 178 x178 (.node 177 x177 .leaf .leaf) .leaf) (.node 180 x180 .leaf .leaf)) (.node 188 x188 (.node 187 x187 (.node 182 x182 .leaf .leaf) .leaf) (.node 189 x189 .leaf .leaf))) (.node 195 x195 (.node 193 x193 (.node 192 x192 (.node 191 x191 .leaf .leaf) .leaf) (.node 194 x194 .leaf .leaf)) (.node 1011300 x1011300 (.node 202 x202 .leaf .leaf) (.node 1014000 x1014000 .leaf .leaf)))))))
theorem eM:ktab.all fun f xf=>E f=none∧X f=some xf:=⟨⟨rfl,rfl⟩,⟨⟨rfl,rfl⟩,⟨⟨rfl,rfl⟩,⟨⟨rfl,rfl⟩,⟨⟨rfl,rfl⟩,⟨⟨rfl,rfl⟩,⟨⟨rfl,rfl⟩,⟨⟨rfl,rfl⟩,trivial,trivial⟩,trivial⟩,⟨⟨rfl,rfl⟩,trivial,trivial⟩⟩,⟨⟨rfl,rfl⟩,⟨⟨rfl,rfl⟩,⟨⟨rfl,rfl⟩,trivial,trivial⟩,trivial⟩,⟨⟨rfl,rfl⟩,trivial,trivial⟩⟩⟩,⟨⟨rfl,rfl⟩,⟨⟨rfl,rfl⟩,⟨⟨rfl,rfl⟩,⟨⟨rfl,rfl⟩,trivial,trivial⟩,trivial⟩,⟨⟨rfl,rfl⟩,trivial,trivial⟩⟩,⟨⟨rfl,rfl⟩,⟨⟨rfl,rfl⟩,⟨⟨rfl,rfl⟩,trivial,trivial⟩,trivial⟩,⟨⟨rfl,rfl⟩,trivial,trivial⟩⟩⟩⟩,⟨⟨rfl,rfl⟩,⟨⟨rfl,rfl⟩,⟨⟨rfl,rfl⟩,⟨⟨rfl,rfl⟩,⟨⟨rfl,rfl⟩,trivial,trivial⟩,trivial⟩,⟨⟨rfl,rfl⟩,trivial,trivial⟩⟩,⟨⟨rfl,rfl⟩,⟨⟨rfl,rfl⟩,⟨⟨rfl,rfl⟩,trivial,trivial⟩,trivial⟩,⟨⟨rfl,rfl⟩,trivial,trivial⟩⟩⟩,⟨⟨rfl,rfl⟩,⟨⟨rfl,rfl⟩,⟨⟨rfl,rfl⟩,⟨⟨rfl,rfl⟩,trivial,trivial⟩,trivial⟩,⟨⟨rfl,rfl⟩,trivial,trivial⟩⟩,⟨⟨rfl,rfl⟩,⟨⟨rfl,rfl⟩,trivial,trivial⟩,⟨⟨rfl,rfl⟩,trivial,trivial⟩⟩⟩⟩⟩,⟨⟨rfl,rfl⟩,⟨⟨rfl,rfl⟩,⟨⟨rfl,rfl⟩,⟨⟨rfl,rfl⟩,⟨⟨rfl,rfl⟩,⟨⟨rfl,rfl⟩,trivial,trivial⟩,trivial⟩,⟨⟨rfl,rfl⟩,trivial,trivial⟩⟩,⟨⟨rfl,rfl⟩,⟨⟨rfl,rfl⟩,⟨⟨rfl,rfl⟩,trivial,trivial⟩,trivial⟩,⟨⟨rfl,rfl⟩,trivial,trivial⟩⟩⟩,⟨⟨rfl,rfl⟩,⟨⟨rfl,rfl⟩,⟨⟨rfl,rfl⟩,⟨⟨rfl,rfl⟩,trivial,trivial⟩,trivial⟩,⟨⟨rfl,rfl⟩,trivial,trivial⟩⟩,⟨⟨rfl,rfl⟩,⟨⟨rfl,rfl⟩,⟨⟨rfl,rfl⟩,trivial,trivial⟩,trivial⟩,⟨⟨rfl,rfl⟩,trivial,trivial⟩⟩⟩⟩,⟨⟨rfl,rfl⟩,⟨⟨rfl,rfl⟩,⟨⟨rfl,rfl⟩,⟨⟨rfl,rfl⟩,⟨⟨rfl,rfl⟩,trivial,trivial⟩,trivial⟩,⟨⟨rfl,rfl⟩,trivial,trivial⟩⟩,⟨⟨rfl,rfl⟩,⟨⟨rfl,rfl⟩,⟨⟨rfl,rfl⟩,trivial,trivial⟩,trivial⟩,⟨⟨rfl,rfl⟩,trivial,trivial⟩⟩⟩,⟨⟨rfl,rfl⟩,⟨⟨rfl,rfl⟩,⟨⟨rfl,rfl⟩,⟨⟨rfl,rfl⟩,trivial,trivial⟩,trivial⟩,⟨⟨rfl,rfl⟩,trivial,trivial⟩⟩,⟨⟨rfl,rfl⟩,⟨⟨rfl,rfl⟩,trivial,trivial⟩,⟨⟨rfl,rfl⟩,trivial,trivial⟩⟩⟩⟩⟩⟩,⟨⟨rfl,rfl⟩,⟨⟨rfl,rfl⟩,⟨⟨rfl,rfl⟩,⟨⟨rfl,rfl⟩,⟨⟨rfl,rfl⟩,⟨⟨rfl,rfl⟩,⟨⟨rfl,rfl⟩,trivial,trivial⟩,trivial⟩,⟨⟨rfl,rfl⟩,trivial,trivial⟩⟩,⟨⟨rfl,rfl⟩,⟨⟨rfl,rfl⟩,⟨⟨rfl,rfl⟩,trivial,trivial⟩,trivial⟩,⟨⟨rfl,rfl⟩,trivial,trivial⟩⟩⟩,⟨⟨rfl,rfl⟩,⟨⟨rfl,rfl⟩,⟨⟨rfl,rfl⟩,⟨⟨rfl,rfl⟩,trivial,trivial⟩,trivial⟩,⟨⟨rfl,rfl⟩,trivial,trivial⟩⟩,⟨⟨rfl,rfl⟩,⟨⟨rfl,rfl⟩,⟨⟨rfl,rfl⟩,trivial,trivial⟩,trivial⟩,⟨⟨rfl,rfl⟩,trivial,trivial⟩⟩⟩⟩,⟨⟨rfl,rfl⟩,⟨⟨rfl,rfl⟩,⟨⟨rfl,rfl⟩,⟨⟨rfl,rfl⟩,⟨⟨rfl,rfl⟩,trivial,trivial⟩,trivial⟩,⟨⟨rfl,rfl⟩,trivial,trivial⟩⟩,⟨⟨rfl,rfl⟩,⟨⟨rfl,rfl⟩,⟨⟨rfl,rfl⟩,trivial,trivial⟩,trivial⟩,⟨⟨rfl,rfl⟩,trivial,trivial⟩⟩⟩,⟨⟨rfl,rfl⟩,⟨⟨rfl,rfl⟩,⟨⟨rfl,rfl⟩,⟨⟨rfl,rfl⟩,trivial,trivial⟩,trivial⟩,⟨⟨rfl,rfl⟩,trivial,trivial⟩⟩,⟨⟨rfl,rfl⟩,⟨⟨rfl,rfl⟩,trivial,trivial⟩,⟨⟨rfl,rfl⟩,trivial,trivial⟩⟩⟩⟩⟩,⟨⟨rfl,rfl⟩,⟨⟨rfl,rfl⟩,⟨⟨rfl,rfl⟩,⟨⟨rfl,rfl⟩,⟨⟨rfl,rfl⟩,⟨⟨rfl,rfl⟩,trivial,trivial⟩,trivial⟩,⟨⟨rfl,rfl⟩,trivial,trivial⟩⟩,⟨⟨rfl,rfl⟩,⟨⟨rfl,rfl⟩,⟨⟨rfl,rfl⟩,trivial,trivial⟩,trivial⟩,⟨⟨rfl,rfl⟩,trivial,trivial⟩⟩⟩,⟨⟨rfl,rfl⟩,⟨⟨rfl,rfl⟩,⟨⟨rfl,rfl⟩,⟨⟨rfl,rfl⟩,trivial,trivial⟩,trivial⟩,⟨⟨rfl,rfl⟩,trivial,trivial⟩⟩,⟨⟨rfl,rfl⟩,⟨⟨rfl,rfl⟩,trivial,trivial⟩,⟨⟨rfl,rfl⟩,trivial,trivial⟩⟩⟩⟩,⟨⟨rfl,rfl⟩,⟨⟨rfl,rfl⟩,⟨⟨rfl,rfl⟩,⟨⟨rfl,rfl⟩,⟨⟨rfl,rfl⟩,trivial,trivial⟩,trivial⟩,⟨⟨rfl,rfl⟩,trivial,trivial⟩⟩,⟨⟨rfl,rfl⟩,⟨⟨rfl,rfl⟩,⟨⟨rfl,rfl⟩,trivial,trivial⟩,trivial⟩,⟨⟨rfl,rfl⟩,trivial,trivial⟩⟩⟩,⟨⟨rfl,rfl⟩,⟨⟨rfl,rfl⟩,⟨⟨rfl,rfl⟩,⟨⟨rfl,rfl⟩,trivial,trivial⟩,trivial⟩,⟨⟨rfl,rfl⟩,trivial,trivial⟩⟩,⟨⟨rfl,rfl⟩,⟨⟨rfl,rfl⟩,trivial,trivial⟩,⟨⟨rfl,rfl⟩,trivial,trivial⟩⟩⟩⟩⟩⟩⟩
end Go.Proofs.YtjhffhmokcogkaaGreatDoor.Ab
