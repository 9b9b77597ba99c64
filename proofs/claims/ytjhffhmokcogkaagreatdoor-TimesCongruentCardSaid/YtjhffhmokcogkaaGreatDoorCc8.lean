/- A part. -/
import Derived.Test.YtjhffhmokcogkaaGreatDoorCc7
set_option linter.unusedVariables false
set_option linter.unusedSimpArgs false
set_option linter.defProp false
set_option maxRecDepth 20000
set_option maxHeartbeats 8000000
noncomputable section
namespace Go.Proofs.YtjhffhmokcogkaaGreatDoor.Ab
open Go
def aD (n:Nat) (k:Nat→R2):R2:=Nat.rec (motive:=fun _=>R2) (k 0) (fun m _=>k (Nat.succ m)) n
def C9 (i:Int) (k:Int→R2):R2:=Int.rec (motive:=fun _=>R2) (fun n=>aD n fun n=>k (.ofNat n)) (fun n=>aD n fun n=>k (.negSucc n)) i
def nfL {α:Type}(l:List α):(List α→R2)→R2:=List.rec (motive:=fun _=>(List α→R2)→R2) (fun k=>k []) (fun a _ ih k=>ih fun t=>k (a::t)) l
def xE {α:Type}(f:α→(α→R2)→R2) (l:List α):(List α→R2)→R2:=List.rec (motive:=fun _=>(List α→R2)→R2) (fun k=>k []) (fun a _ ih k=>f a fun a=>ih fun t=>k (a::t)) l
def FC (s:ByteArray) (k:ByteArray→R2):R2:=ByteArray.rec (motive:=fun _=>R2) (fun a=>Array.rec (motive:=fun _=>R2) (fun l=>nfL l fun l=>k ⟨⟨l⟩⟩) a) s
def zm (x:Value) (k:Value→R2):R2:=match x with
 | .int kd i=>C9 i fun i=>k (.int kd i)
 | .bool b=>Bool.rec (motive:=fun _=>R2) (k (.bool false)) (k (.bool true)) b
 | .string s=>FC s fun s=>k (.string s)
 | x=>k x
def kC (x:Value) (k:Value→R2):R2:=match x with
 | .int kd i=>C9 i fun i=>k (.int kd i)
 | .bool b=>Bool.rec (motive:=fun _=>R2) (k (.bool false)) (k (.bool true)) b
 | x=>k x
def AJ (i:SI) (k:SI→R2):R2:=match i with
 | .tok t=>aD t fun t=>k (.tok t)
 | .any=>k .any
 | .nil=>k .nil
 | .full=>k .full
 | .isn=>k .isn
 | .nz=>k .nz
def Dv (v:V) (k:V→R2):R2:=match v with
 | .c x=>kC x fun x=>k (.c x)
 | .agg cs=>nfL cs fun cs=>k (.agg cs)
 | .sl us i=>AJ i fun i=>k (.sl us i)
 | v=>k v
def nf0 (v:V) (k:V→R2):R2:=match v with
 | .c x=>k (.c x)
 | .agg cs=>k (.agg cs)
 | .tup cs=>k (.tup cs)
 | .sl us i=>k (.sl us i)
 | v=>k v
def nfV (v:V) (k:V→R2):R2:=match v with
 | .c x=>zm x fun x=>k (.c x)
 | .agg cs=>xE Dv cs fun cs=>k (.agg cs)
 | .sl us i=>nfL us fun us=>AJ i fun i=>k (.sl us i)
 | .ptr cs o=>nfL cs fun cs=>aD o fun o=>k (.ptr cs o)
 | .ref id o=>aD id fun id=>aD o fun o=>k (.ref id o)
 | .row id off n z=>aD id fun id=>aD off fun off=>aD n fun n=>k (.row id off n z)
 | .clo f caps=>nfL caps fun caps=>k (.clo f caps)
 | .tsl t n z=>aD t fun t=>aD n fun n=>k (.tsl t n z)
 | .tref t n o=>aD t fun t=>aD n fun n=>aD o fun o=>k (.tref t n o)
 | .mref id=>aD id fun id=>k (.mref id)
 | .bnd f id o=>aD id fun id=>aD o fun o=>k (.bnd f id o)
 | v=>k v
def nfD (v:V):(V→R2)→R2 :=
 V.rec (motive_1:=fun _=>(V→R2)→R2) (motive_2:=fun _=>(List V→R2)→R2)
  (fun x k=>kC x fun x=>k (.c x)) (fun cs ih k=>ih fun cs=>k (.agg cs)) (fun vs ih k=>ih fun vs=>k (.tup vs)) (fun us i ih k=>ih fun us=>AJ i fun i=>k (.sl us i))
  (fun cs o ih k=>ih fun cs=>aD o fun o=>k (.ptr cs o)) (fun id o k=>aD id fun id=>aD o fun o=>k (.ref id o)) (fun f caps ih k=>ih fun caps=>k (.clo f caps))
  (fun id off n z k=>aD id fun id=>aD off fun off=>aD n fun n=>k (.row id off n z)) (fun id n k=>aD id fun id=>aD n fun n=>k (.buf id n))
  (fun t n z k=>aD t fun t=>aD n fun n=>k (.tsl t n z)) (fun t n o k=>aD t fun t=>aD n fun n=>aD o fun o=>k (.tref t n o)) (fun k=>k .top)
  (fun ks vs ih k=>ih fun vs=>k (.fmp ks vs)) (fun id k=>aD id fun id=>k (.mref id)) (fun l y m caps ih k=>ih fun caps=>aD l fun l=>k (.yld l y m caps)) (fun f id o k=>aD id fun id=>aD o fun o=>k (.bnd f id o))
  (fun k=>k []) (fun v vs ihv ihvs k=>ihv fun v=>ihvs fun vs=>k (v::vs)) v
def nfO (o:O) (k:O→R2):R2:=match o with
 | .cells cs=>xE Dv cs fun cs=>k (.cells cs)
 | .tok n z=>aD n fun n=>k (.tok n z)
 | .tokc n z cs=>aD n fun n=>xE Dv cs fun cs=>k (.tokc n z cs)
 | .mapo ks vs=>nfL ks fun ks=>nfL vs fun vs=>k (.mapo ks vs)
 | .loop s=>aD s fun s=>k (.loop s)
 | .dead=>k .dead
 | .free=>k .free
 | .want=>k .want
def nfR (r:R2) (k:R2→R2):R2:=match r with
 | some (v,h)=>nfD v fun v=>xE nfO h fun h=>k (some (v,h))
 | none=>k none
theorem aQ (n:Nat) (k:Nat→R2):aD n k=k n:=by cases n<;>rfl
theorem rn (i:Int) (k:Int→R2):C9 i k=k i:=by
 cases i with
 | ofNat n=>exact aQ n fun n=>k (.ofNat n)
 | negSucc n=>exact aQ n fun n=>k (.negSucc n)
theorem dq {α:Type}:∀(l:List α) (k:List α→R2),nfL l k=k l
 | [],_=>rfl
 | a::l,k=>dq l fun t=>k (a::t)
theorem fD {α:Type}{f:α→(α→R2)→R2}(hf:∀a k,f a k=k a):∀(l:List α) (k:List α→R2),xE f l k=k l
 | [],_=>rfl
 | a::l,k=>by
  show f a (fun a=>xE f l fun t=>k (a::t))=_;rw[hf,fD hf l]
theorem ya (s:ByteArray) (k:ByteArray→R2):FC s k=k s:=by
 obtain⟨⟨l⟩⟩:=s;exact dq l fun l=>k ⟨⟨l⟩⟩
theorem Ad (x:Value) (k:Value→R2):zm x k=k x:=by
 cases x<;>try rfl
 ·rename_i b;cases b<;>rfl
 ·simp only[zm,rn]
 ·simp only[zm,ya]
theorem np (x:Value) (k:Value→R2):kC x k=k x:=by
 cases x<;>try rfl
 ·rename_i b;cases b<;>rfl
 ·simp only[kC,rn]
theorem pb (i:SI) (k:SI→R2):AJ i k=k i:=by
 cases i<;>try rfl
 simp only[AJ,aQ]
theorem pp (v:V) (k:V→R2):Dv v k=k v:=by
 cases v<;>try rfl
 all_goals simp only[Dv,np,dq,pb]
theorem Au (v:V) (k:V→R2):nf0 v k=k v:=by cases v<;>rfl
theorem qx (v:V) (k:V→R2):nfV v k=k v:=by
 cases v<;>try rfl
 all_goals simp only[nfV,Ad,fD pp,dq,aQ,pb]
theorem Fp (v:V):∀k,nfD v k=k v:=by
 refine V.rec (motive_1:=fun v=>∀k,nfD v k=k v) (motive_2:=fun l=>∀k:List V→R2,
  V.rec_1 (motive_1:=fun _=>(V→R2)→R2) (motive_2:=fun _=>(List V→R2)→R2)
  (fun x k=>kC x fun x=>k (.c x)) (fun cs ih k=>ih fun cs=>k (.agg cs)) (fun vs ih k=>ih fun vs=>k (.tup vs)) (fun us i ih k=>ih fun us=>AJ i fun i=>k (.sl us i))
  (fun cs o ih k=>ih fun cs=>aD o fun o=>k (.ptr cs o)) (fun id o k=>aD id fun id=>aD o fun o=>k (.ref id o)) (fun f caps ih k=>ih fun caps=>k (.clo f caps))
  (fun id off n z k=>aD id fun id=>aD off fun off=>aD n fun n=>k (.row id off n z)) (fun id n k=>aD id fun id=>aD n fun n=>k (.buf id n))
  (fun t n z k=>aD t fun t=>aD n fun n=>k (.tsl t n z)) (fun t n o k=>aD t fun t=>aD n fun n=>aD o fun o=>k (.tref t n o)) (fun k=>k .top)
  (fun ks vs ih k=>ih fun vs=>k (.fmp ks vs)) (fun id k=>aD id fun id=>k (.mref id)) (fun l y m caps ih k=>ih fun caps=>aD l fun l=>k (.yld l y m caps)) (fun f id o k=>aD id fun id=>aD o fun o=>k (.bnd f id o))
  (fun k=>k []) (fun v vs ihv ihvs k=>ihv fun v=>ihvs fun vs=>k (v::vs)) l k=k l)
  (fun x k=>np x fun x=>k (.c x)) (fun cs ih k=>ih fun cs=>k (.agg cs)) (fun vs ih k=>ih fun vs=>k (.tup vs)) (fun us i ih k=>(ih fun us=>AJ i fun i=>k (.sl us i)).trans (pb i fun i=>k (.sl us i)))
  (fun cs o ih k=>(ih fun cs=>aD o fun o=>k (.ptr cs o)).trans (aQ o fun o=>k (.ptr cs o))) (fun id o k=>(aQ id fun id=>aD o fun o=>k (.ref id o)).trans (aQ o fun o=>k (.ref id o))) (fun f caps ih k=>ih fun caps=>k (.clo f caps))
  (fun id off n z k=>by show aD id (fun id=>aD off fun off=>aD n fun n=>k (.row id off n z))=_;simp only[aQ]) (fun id n k=>by show aD id (fun id=>aD n fun n=>k (.buf id n))=_;simp only[aQ])
  (fun t n z k=>by show aD t (fun t=>aD n fun n=>k (.tsl t n z))=_;simp only[aQ]) (fun t n o k=>by show aD t (fun t=>aD n fun n=>aD o fun o=>k (.tref t n o))=_;simp only[aQ]) (fun k=>rfl)
  (fun ks vs ih k=>ih fun vs=>k (.fmp ks vs)) (fun id k=>aQ id fun id=>k (.mref id)) (fun l y m caps ih k=>(ih fun caps=>aD l fun l=>k (.yld l y m caps)).trans (aQ l fun l=>k (.yld l y m caps))) (fun f id o k=>(aQ id fun id=>aD o fun o=>k (.bnd f id o)).trans (aQ o fun o=>k (.bnd f id o))) (fun k=>rfl) (fun v vs ihv ihvs k=>(ihv fun v=>V.rec_1 (motive_1:=fun _=>(V→R2)→R2) (motive_2:=fun _=>(List V→R2)→R2)
  (fun x k=>kC x fun x=>k (.c x)) (fun cs ih k=>ih fun cs=>k (.agg cs)) (fun vs ih k=>ih fun vs=>k (.tup vs)) (fun us i ih k=>ih fun us=>AJ i fun i=>k (.sl us i))
  (fun cs o ih k=>ih fun cs=>aD o fun o=>k (.ptr cs o)) (fun id o k=>aD id fun id=>aD o fun o=>k (.ref id o)) (fun f caps ih k=>ih fun caps=>k (.clo f caps))
  (fun id off n z k=>aD id fun id=>aD off fun off=>aD n fun n=>k (.row id off n z)) (fun id n k=>aD id fun id=>aD n fun n=>k (.buf id n))
  (fun t n z k=>aD t fun t=>aD n fun n=>k (.tsl t n z)) (fun t n o k=>aD t fun t=>aD n fun n=>aD o fun o=>k (.tref t n o)) (fun k=>k .top)
  (fun ks vs ih k=>ih fun vs=>k (.fmp ks vs)) (fun id k=>aD id fun id=>k (.mref id)) (fun l y m caps ih k=>ih fun caps=>aD l fun l=>k (.yld l y m caps)) (fun f id o k=>aD id fun id=>aD o fun o=>k (.bnd f id o))
  (fun k=>k []) (fun v vs ihv ihvs k=>ihv fun v=>ihvs fun vs=>k (v::vs)) vs fun vs=>k (v::vs)).trans (ihvs fun vs=>k (v::vs))) v
theorem AD (o:O) (k:O→R2):nfO o k=k o:=by
 cases o<;>simp only[nfO,aQ,dq,fD pp]
theorem mw (r:R2) (k:R2→R2):nfR r k=k r:=by
 cases r with
 | none=>rfl
 | some p=>obtain⟨v,h⟩:=p;simp only[nfR,Fp,fD AD]
def xG {α:Type}(l:List α):Nat→(α→R2)→R2→R2:=List.rec (motive:=fun _=>Nat→(α→R2)→R2→R2) (fun _ _ d=>d) (fun a _ ih i k d=>Nat.rec (motive:=fun _=>R2) (k a) (fun j _=>ih j k d) i) l
def A7 {α:Type}(l:List α):Nat→α→(List α→R2)→R2:=List.rec (motive:=fun _=>Nat→α→(List α→R2)→R2) (fun _ _ k=>k []) (fun a t ih i x k=>Nat.rec (motive:=fun _=>R2) (k (x::t)) (fun j _=>ih j x fun t=>k (a::t)) i) l
theorem eA {α:Type}:∀(l:List α) (i:Nat) (k:α→R2) (d:R2),xG l i k d=match l[i]? with
  | some a=>k a
  | none=>d
 | [],_,_,_=>rfl
 | a::l,0,k,d=>rfl
 | a::l,i+1,k,d=>by
  show xG l i k d=_;rw[eA l i k d];simp
theorem hO {α:Type}:∀(l:List α) (i:Nat) (x:α) (k:List α→R2),A7 l i x k=k (l.set i x)
 | [],_,_,_=>rfl
 | a::l,0,x,k=>rfl
 | a::l,i+1,x,k=>by
  show A7 l i x (fun t=>k (a::t))=_;rw[hO l i x];rfl
def zx {α:Type}(l m:List α) (k:List α→R2):R2:=List.rec (motive:=fun _=>R2) (k l) (fun _ _ _=>nfL (l++m) k) m
theorem lc {α:Type}(l m:List α) (k:List α→R2):zx l m k=k (l++m):=by
 cases m with
 | nil=>rw[List.append_nil];rfl
 | cons a m=>exact dq _ _
def evS (tm:List V) (x:A) (k:V→R2):R2:=A.rec (motive:=fun _=>R2) (fun i=>xG tm i k (k az)) k x
theorem cm (tm:List V) (x:A) (k:V→R2):evS tm x k=k (ev tm x):=by
 cases x with
 | k v=>rfl
 | t i =>
  simp only[evS,eA,ev,List.getD_eq_getElem?_getD];cases tm[i]?<;>rfl
def Gf (tm:List V) (xs:List A):(List V→R2)→R2:=List.rec (motive:=fun _=>(List V→R2)→R2) (fun k=>k []) (fun x _ ih k=>evS tm x fun v=>ih fun t=>k (v::t)) xs
theorem tp (tm:List V):∀(xs:List A) (k:List V→R2),Gf tm xs k=k (xs.map (ev tm))
 | [],_=>rfl
 | x::xs,k=>by
  show evS tm x (fun v=>Gf tm xs fun t=>k (v::t))=_;rw[cm,tp tm xs];rfl
def out (r:R2) (k:V→List O→R2) (k0:R2):R2:=match r with
 | some (v,h)=>k v h
 | none=>k0
def FM (r:R2) (k:V→List O→R2) (k0:R2):R2:=match r with
 | some (v,h)=>nf0 v fun v=>k v h
 | none=>k0
def Hj (r:R2) (k:V→List O→R2) (k0:R2):R2:=match r with
 | some (v,h)=>Dv v fun v=>k v h
 | none=>k0
def Al (r:R2) (k:V→List O→R2) (k0:R2):R2:=match r with
 | some (v,h)=>nfV v fun v=>k v h
 | none=>k0
def mg (r:R2) (k:V→List O→R2) (k0:R2):R2:=match r with
 | some (v,h)=>nfV v fun v=>xE nfO h fun h=>k v h
 | none=>k0
theorem pE (r:R2) (k:V→List O→R2) (k0:R2):FM r k k0=out r k k0:=by
 cases r with
 | none=>rfl
 | some p=>obtain⟨v,h⟩:=p;exact Au v fun v=>k v h
theorem vq (r:R2) (k:V→List O→R2) (k0:R2):Hj r k k0=out r k k0:=by
 cases r with
 | none=>rfl
 | some p=>obtain⟨v,h⟩:=p;exact pp v fun v=>k v h
theorem eg (r:R2) (k:V→List O→R2) (k0:R2):Al r k k0=out r k k0:=by
 cases r with
 | none=>rfl
 | some p=>obtain⟨v,h⟩:=p;exact qx v fun v=>k v h
theorem ce (r:R2) (k:V→List O→R2) (k0:R2):mg r k k0=out r k k0:=by
 cases r with
 | none=>rfl
 | some p=>obtain⟨v,h⟩:=p;simp only[mg,qx,fD AD];rfl
def qb (x:V) (n:Nat) (v:V) (h:List O) (k:V→List O→R2) (k0:R2):R2:=match x with
 | .ref id o=>xG h id (fun ob=>match ob with
  | .cells cs=>if okc v=true∧v.cells.length=n∧o+n≤cs.length then nfL (bF cs o v.cells) fun cs=>A7 h id (.cells cs) fun h=>k az h else k0
  | _=>k0) k0
 | x=>mg (nY x n v h) k k0
theorem wN (x:V) (n:Nat) (v:V) (h:List O) (k:V→List O→R2) (k0:R2):qb x n v h k k0=out (nY x n v h) k k0:=by
 by_cases hx:∃id o,x=.ref id o;rotate_left
 ·cases x<;>first|(simp only[qb,ce];done)|exact absurd ⟨_,_,rfl⟩ hx
 obtain⟨id,o,rfl⟩:=hx;simp only[qb,gB,eA];cases h[id]? with
 | none=>rfl
 | some ob =>
  cases ob<;>try rfl
  simp only[il,dq,hO];split<;>rfl
def F3 (i:Nat) (v:V) (h:List O) (k:V→List O→R2) (k0:R2):R2:=xG h i (fun ob=>match ob with
 | .dead=>Bool.rec (motive:=fun _=>R2) k0 (nfL v.cells fun cs=>A7 h i (.cells cs) fun h=>k (.ref i 0) h) (okc v)
 | _=>k0) k0
theorem Dd (i:Nat) (v:V) (h:List O) (k:V→List O→R2) (k0:R2):F3 i v h k k0=out (F0 h[i]? (okc v) (.ref i 0,h.set i (.cells v.cells))) k k0:=by
 simp only[F3,eA];cases h[i]? with
 | none=>cases okc v <;> rfl
 | some ob =>
  cases ob<;>cases okc v<;>try rfl
  simp only[dq,hO];rfl
abbrev aV:=Nat→List V→List O→(R2→R2)→R2
def ng (cfK:aV) (fv:V) (vs:List V) (h:List O) (k:R2→R2):R2:=match fv with
 | .yld l y m caps=>if rid≤y∧vs.length=m then nfL (vs++caps) fun vs=>cfK y (.c (.int .i64 l)::vs) h fun r=>k (longer h r) else k none
 | .bnd f id o=>if f<rid then cfK f (.ref id o::vs) h fun r=>k (longer h r) else k none
 | fv=>match aT fv with
  | some (f,caps)=>if f<rid then nfL (vs++caps) fun vs=>cfK f vs h fun r=>k (longer h r) else k none
  | none=>k none
theorem xn {cfK:aV}{cf:av}(hcf:∀f args h k,cfK f args h k=k (cf f args h)) (fv:V) (vs:List V) (h:List O) (k:R2→R2):ng cfK fv vs h k=k (eb cf fv vs h):=by
 have key:∀fv':V,(match aT fv' with
  | some (f,caps)=>if f<rid then nfL (vs++caps) fun vs=>cfK f vs h fun r=>k (longer h r) else k none
  | none=>k none)=k (match aT fv' with
  | some (f,caps)=>if f<rid then longer h (cf f (vs++caps) h) else none
  | none=>none):=by
  intro fv';generalize aT fv'=o;cases o with
  | none=>rfl
  | some p =>
   obtain⟨f,caps⟩:=p;simp only[dq,hcf];split<;>rfl
 cases fv
 case yld l y m caps =>
  simp only[ng,eb,dq,hcf];split<;>rfl
 case bnd f id o =>
  simp only[ng,eb,hcf];split<;>rfl
 all_goals
  simp only[ng,eb,fU]
  first|exact key (.c _)|exact key (.agg _)|exact key (.tup _)|exact key (.sl _ _)|exact key (.ptr _ _)|exact key (.ref _ _)|exact key (.clo _ _)|exact key (.row _ _ _ _)|exact key (.buf _ _)|exact key (.tsl _ _ _)|exact key (.tref _ _ _)|exact key .top|exact key (.fmp _ _)|exact key (.mref _)
def Ho (op:BinOp) (m n:Nat):Option Bool:=match op with
 | .eql=>some (Nat.beq m n)
 | .neq=>some (!Nat.beq m n)
 | .lss=>some (Nat.blt m n)
 | .leq=>some (Nat.ble m n)
 | .gtr=>some (Nat.blt n m)
 | .geq=>some (Nat.ble n m)
 | _=>none
def AQ:IntKind→IntKind→Bool
 | .i64,.i64=>true
 | .u8,.u8=>true
 | .u64,.u64=>true
 | _,_=>false
theorem sZ {a b:IntKind}(h:AQ a b=true):a=b:=by cases a<;>cases b<;>first|rfl|cases h
def Ct (op:BinOp) (kx ky:IntKind) (m n:Nat):Option V:=match op,kx,ky with
 | .add,.i64,.i64=>if Nat.blt (m+n) 4611686018427387904 then some (.c (.int .i64 (.ofNat (m+n)))) else none
 | .sub,.i64,.i64=>if (Nat.ble n m&&Nat.blt m 4611686018427387904) then some (.c (.int .i64 (.ofNat (m-n)))) else none
 | _,_,_=>none
def CB (op:BinOp) (kx ky:IntKind) (a b:Int):Option V:=match a,b with
 | .ofNat m,.ofNat n=>match Ho op m n with
  | some t=>if AQ kx ky then some (.c (.bool t)) else none
  | none=>Ct op kx ky m n
 | _,_=>none
theorem qn (n:Nat) (h:n<4611686018427387904):IntKind.wrap .i64 (n:Int)=n:=by
 have:IntKind.wrap .i64 (n:Int)=(let m:=(n:Int) % 18446744073709551616
  if m≥9223372036854775808 then m-18446744073709551616 else m):=by simp[IntKind.wrap,IntKind.bits,IntKind.signed]
 rw[this];simp only;omega
theorem yd {op:BinOp}{kx ky:IntKind}{m n:Nat}{v:V}(h:Ct op kx ky m n=some v):ec op 0 (.c (.int kx m)) (.c (.int ky n))=some v:=by
 unfold Ct at h;split at h
 ·split at h
  ·rename_i hb;simp only[sI] at h;subst h;have hb:m+n<4611686018427387904:=by simpa[Nat.blt_eq] using hb
   have:=qn (m+n) hb;simp only[ec,if_true,fW];rw[show ((m:Int)+n)=((m+n:Nat):Int) by omega,this];rfl
  ·cases h
 ·split at h
  ·rename_i hb;simp only[sI] at h;subst h;simp only[bT,Nat.ble_eq,Nat.blt_eq] at hb;have:=qn (m-n) (by omega);simp only[ec,if_true,fW];rw[show ((m:Int)-n)=((m-n:Nat):Int) by omega,this];rfl
  ·cases h
 ·cases h
theorem Af {op:BinOp}{kx ky:IntKind}{a b:Int}{v:V}(h:CB op kx ky a b=some v):ec op 0 (.c (.int kx a)) (.c (.int ky b))=some v:=by
 unfold CB at h;split at h
 ·rename_i m n;split at h
  ·rename_i t ht;split at h
   ·rename_i hs;have:=sZ hs;subst this;simp only[sI] at h;subst h;rw[p7];have e0:((Int.ofNat m)==(Int.ofNat n))=Nat.beq m n:=by
     rw[Bool.eq_iff_iff,beq_iff_eq,Nat.beq_eq];constructor
     ·intro h;exact Int.ofNat.inj h
     ·intro h;rw[h]
    unfold Ho at ht;split at ht<;>simp only[sI,reduceCtorEq] at ht<;>subst ht<;>simp only[fW,sI,V.c.injEq,Value.bool.injEq]
    ·exact e0
    ·exact congrArg (! ·) e0
    ·rw[Bool.eq_iff_iff];simp[Nat.blt_eq]
    ·rw[Bool.eq_iff_iff];simp[Nat.ble_eq]
    ·rw[Bool.eq_iff_iff];simp[Nat.blt_eq]
    ·rw[Bool.eq_iff_iff];simp[Nat.ble_eq]
   ·cases h
  ·exact yd h
 ·cases h
def FI (op:BinOp) (q:Nat) (x y:V) (h:List O) (k:V→List O→R2) (k0:R2):R2:=Al ((ec op q x y).map fun v=>(v,h)) k k0
def GO (op:BinOp) (q:Nat) (x y:V) (h:List O) (k:V→List O→R2) (k0:R2):R2:=match q,x,y with
 | 0,.c (.int kx a),.c (.int ky b)=>match CB op kx ky a b with
  | some v=>nfV v fun v=>k v h
  | none=>FI op 0 (.c (.int kx a)) (.c (.int ky b)) h k k0
 | q,x,y=>FI op q x y h k k0
theorem BS (op:BinOp) (q:Nat) (x y:V) (h:List O) (k:V→List O→R2) (k0:R2):GO op q x y h k k0=out ((ec op q x y).map fun v=>(v,h)) k k0:=by
 unfold GO;split
 ·split
  ·rename_i v hv;rw[Af hv,qx];rfl
  ·simp only[FI,eg]
 ·simp only[FI,eg]
def sd:av:=fun _ _ _=>none
def Fb (s:Bool) (x:V) (h:List O):R2:=match s with
 | true=>Hd x h
 | false=>Dz x h
def Da (x:A) (cfK:aV) (tm:List V) (h:List O) (base rb:Nat) (k:V→List O→R2) (k0:R2):R2:=evS tm x fun v=>k v h
def ov (c a b:A) (cfK:aV) (tm:List V) (h:List O) (base rb:Nat) (k:V→List O→R2) (k0:R2):R2:=evS tm c fun c=>evS tm a fun a=>evS tm b fun b=>FM (Cu c a b h) k k0
def lN (al:Nat) (z:List V) (cfK:aV) (tm:List V) (h:List O) (base rb:Nat) (k:V→List O→R2) (k0:R2):R2:=aD (rb+al) fun i=>k (.ref i 0) h
def xA (al:Nat) (x:A) (cfK:aV) (tm:List V) (h:List O) (base rb:Nat) (k:V→List O→R2) (k0:R2):R2:=evS tm x fun v=>aD (rb+al) fun i=>F3 i v h k k0
def lw (z:List V) (ps:List (Nat × Nat × A)) (cfK:aV) (tm:List V) (h:List O) (base rb:Nat) (k:V→List O→R2) (k0:R2):R2:=mg (bw sd ⟨toE tm,h,base,rb⟩ (.build z ps)) k k0
def jm (al z:Nat) (ps:List A) (cfK:aV) (tm:List V) (h:List O) (base rb:Nat) (k:V→List O→R2) (k0:R2):R2:=mg (bw sd ⟨toE tm,h,base,rb⟩ (.bslice al z ps)) k k0
def pm (n:Option Nat) (x:A) (cfK:aV) (tm:List V) (h:List O) (base rb:Nat) (k:V→List O→R2) (k0:R2):R2:=evS tm x fun x=>Hj (zY x n h) k k0
def lR (n:Nat) (a x:A) (cfK:aV) (tm:List V) (h:List O) (base rb:Nat) (k:V→List O→R2) (k0:R2):R2:=evS tm a fun a=>evS tm x fun x=>qb a n x h k k0
def td (op:BinOp) (q:Nat) (x y:A) (cfK:aV) (tm:List V) (h:List O) (base rb:Nat) (k:V→List O→R2) (k0:R2):R2:=evS tm x fun x=>evS tm y fun y=>GO op q x y h k k0
def BM (op:UnOp) (x:A) (cfK:aV) (tm:List V) (h:List O) (base rb:Nat) (k:V→List O→R2) (k0:R2):R2:=mg (bw sd ⟨toE tm,h,base,rb⟩ (.un op x)) k k0
def ei (o:Nat) (x:A) (cfK:aV) (tm:List V) (h:List O) (base rb:Nat) (k:V→List O→R2) (k0:R2):R2:=evS tm x fun x=>Al (faF o x h) k k0
def la (o:Nat) (n:Option Nat) (x:A) (cfK:aV) (tm:List V) (h:List O) (base rb:Nat) (k:V→List O→R2) (k0:R2):R2:=evS tm x fun x=>Hj (wM o n x h) k k0
def en (z:Nat) (x i:A) (cfK:aV) (tm:List V) (h:List O) (base rb:Nat) (k:V→List O→R2) (k0:R2):R2:=evS tm x fun x=>evS tm i fun i=>Al (iaF z x (idx i) h) k k0
def ln (x i:A) (cfK:aV) (tm:List V) (h:List O) (base rb:Nat) (k:V→List O→R2) (k0:R2):R2:=evS tm x fun x=>evS tm i fun i=>Al (ixF x (idx i) h) k k0
def kQ (s:Bool) (z:Nat) (x:A) (lo hi mx:Option A) (cfK:aV) (tm:List V) (h:List O) (base rb:Nat) (k:V→List O→R2) (k0:R2):R2:=mg (bw sd ⟨toE tm,h,base,rb⟩ (.slice s z x lo hi mx)) k k0
def hN (x:A) (i:Nat) (cfK:aV) (tm:List V) (h:List O) (base rb:Nat) (k:V→List O→R2) (k0:R2):R2:=evS tm x fun x=>FM (Gr x i h) k k0
def uE (s:Bool) (x:A) (cfK:aV) (tm:List V) (h:List O) (base rb:Nat) (k:V→List O→R2) (k0:R2):R2:=evS tm x fun x=>Al (Fb s x h) k k0
def jv (al:Nat) (z:Option Nat) (b:Nat) (rw:Bool) (x y:A) (cfK:aV) (tm:List V) (h:List O) (base rb:Nat) (k:V→List O→R2) (k0:R2):R2:=evS tm x fun x=>evS tm y fun y=>mg (FP base (rb+al) b z rw h x (sK h y)) k k0
def B2 (m:Bool) (ps:List A) (cfK:aV) (tm:List V) (h:List O) (base rb:Nat) (k:V→List O→R2) (k0:R2):R2:=mg (bw sd ⟨toE tm,h,base,rb⟩ (.mm m ps)) k k0
def pd (kd:IntKind) (x:A) (cfK:aV) (tm:List V) (h:List O) (base rb:Nat) (k:V→List O→R2) (k0:R2):R2:=evS tm x fun x=>Al (C3 kd x h) k k0
def pJ (f:A) (args:List A) (cfK:aV) (tm:List V) (h:List O) (base rb:Nat) (k:V→List O→R2) (k0:R2):R2:=evS tm f fun f=>Gf tm args fun vs=>ng cfK f vs h fun r=>out r k k0
def pz (f:Nat) (ps:List A) (cfK:aV) (tm:List V) (h:List O) (base rb:Nat) (k:V→List O→R2) (k0:R2):R2:=mg (bw sd ⟨toE tm,h,base,rb⟩ (.clos f ps)) k k0
def js (x:A) (cfK:aV) (tm:List V) (h:List O) (base rb:Nat) (k:V→List O→R2) (k0:R2):R2:=evS tm x fun x=>FM (GW x h) k k0
def ia (al:Nat) (cfK:aV) (tm:List V) (h:List O) (base rb:Nat) (k:V→List O→R2) (k0:R2):R2:=mg (bw sd ⟨toE tm,h,base,rb⟩ (.makeMap al)) k k0
def jx (kd:Option (List Nat)) (z:V) (ok:Bool) (x y:A) (cfK:aV) (tm:List V) (h:List O) (base rb:Nat) (k:V→List O→R2) (k0:R2):R2:=mg (bw sd ⟨toE tm,h,base,rb⟩ (.lookup kd z ok x y)) k k0
def je (kd:Option (List Nat)) (m a v:A) (cfK:aV) (tm:List V) (h:List O) (base rb:Nat) (k:V→List O→R2) (k0:R2):R2:=mg (bw sd ⟨toE tm,h,base,rb⟩ (.mapUpd kd m a v)) k k0
def n7 (al:Nat) (z:Option Nat) (zero:List V) (n:A) (cfK:aV) (tm:List V) (h:List O) (base rb:Nat) (k:V→List O→R2) (k0:R2):R2:=mg (bw sd ⟨toE tm,h,base,rb⟩ (.mksl al z zero n)) k k0
def wt (neg:Bool) (kd:List Nat) (x y:A) (cfK:aV) (tm:List V) (h:List O) (base rb:Nat) (k:V→List O→R2) (k0:R2):R2:=mg (bw sd ⟨toE tm,h,base,rb⟩ (.eqs neg kd x y)) k k0
def oo (f:Nat) (x:A) (cfK:aV) (tm:List V) (h:List O) (base rb:Nat) (k:V→List O→R2) (k0:R2):R2:=evS tm x fun x=>Al (Hy f x h) k k0
def kW (x:A) (cfK:aV) (tm:List V) (h:List O) (base rb:Nat) (k:V→List O→R2) (k0:R2):R2:=mg (bw sd ⟨toE tm,h,base,rb⟩ (.load1 x)) k k0
def lF (n:Option Nat) (x:A) (cfK:aV) (tm:List V) (h:List O) (base rb:Nat) (k:V→List O→R2) (k0:R2):R2:=mg (bw sd ⟨toE tm,h,base,rb⟩ (.load2 n x)) k k0
def FZ (op:XOp):aV→List V→List O→Nat→Nat→(V→List O→R2)→R2→R2:=XOp.rec (motive:=fun _=>aV→List V→List O→Nat→Nat→(V→List O→R2)→R2→R2) Da ov lN xA lw jm pm lR td BM ei la en ln kQ hN uE jv B2 pd pJ pz js ia jx je n7 wt oo kW lF op
theorem He (cf:av) (st:St) (op:XOp):act cf st op=bw cf ⟨toE st.tm,st.h,st.base,st.rb⟩ op:=act_sub.symm
theorem kH (tm:List V) (x:A):x.val (toE tm)=ev tm x:=by cases x<;>rfl
theorem tI {cfK:aV}{cf:av}(hcf:∀f args h k,cfK f args h k=k (cf f args h)) (tm:List V) (h:List O) (base rb:Nat) (op:XOp) (k:V→List O→R2) (k0:R2):FZ op cfK tm h base rb k k0=out (act cf ⟨tm,h,base,rb⟩ op) k k0:=by
 rw[He];cases op
 case len s x=>show uE s x cfK tm h base rb k k0=_;cases s<;>simp only[uE,Fb,cm,eg,qc,nB,kH]
 case mv x=>show Da x cfK tm h base rb k k0=_;simp only[Da,cm,wE,kH];rfl
 case pick c a b=>show ov c a b cfK tm h base rb k k0=_;simp only[ov,cm,pE,na,kH]
 case alloc al z=>show lN al z cfK tm h base rb k k0=_;simp only[lN,aQ,j1];rfl
 case box al x=>show xA al x cfK tm h base rb k k0=_;simp only[xA,cm,aQ,Dd,qD,kH]
 case bin op q x y=>show td op q x y cfK tm h base rb k k0=_;simp only[td,cm,BS,p9,kH]
 case load n x=>show pm n x cfK tm h base rb k k0=_;simp only[pm,cm,vq,md,kH]
 case store n a x=>show lR n a x cfK tm h base rb k k0=_;simp only[lR,cm,wN,kH];rw[ko,kH,kH]
 case fieldAddr o x=>show ei o x cfK tm h base rb k k0=_;simp only[ei,cm,eg,eX,kH]
 case field o n x=>show la o n x cfK tm h base rb k k0=_;simp only[la,cm,vq,kq,kH]
 case indexAddr z x i=>show en z x i cfK tm h base rb k k0=_;simp only[en,cm,eg,fb,kH]
 case index x i=>show ln x i cfK tm h base rb k k0=_;simp only[ln,cm,eg,ku,kH]
 case extract x i=>show hN x i cfK tm h base rb k k0=_;simp only[hN,cm,pE,ic,kH]
 case conv kd x=>show pd kd x cfK tm h base rb k k0=_;simp only[pd,cm,eg,nE,kH]
 case nilchk x=>show js x cfK tm h base rb k k0=_;simp only[js,cm,pE,jG,kH]
 case append al z b rw x y=>show jv al z b rw x y cfK tm h base rb k k0=_;simp only[jv,cm,ce,iQ,kH]
 case call f args =>
  have:args.map (A.val (toE tm))=args.map (ev tm):=List.map_congr_left fun x _=>kH tm x
  show pJ f args cfK tm h base rb k k0=_;simp only[pJ,cm,tp,xn hcf,mQ,kH,this]
 case build z ps=>show lw z ps cfK tm h base rb k k0=_;simp only[lw,ce];rfl
 case bslice al z ps=>show jm al z ps cfK tm h base rb k k0=_;simp only[jm,ce];rfl
 case un op x=>show BM op x cfK tm h base rb k k0=_;simp only[BM,ce];rfl
 case slice s z x lo hi mx=>show kQ s z x lo hi mx cfK tm h base rb k k0=_;simp only[kQ,ce];rfl
 case mm m ps=>show B2 m ps cfK tm h base rb k k0=_;simp only[B2,ce];rfl
 case clos f ps=>show pz f ps cfK tm h base rb k k0=_;simp only[pz,ce];rfl
 case makeMap al=>show ia al cfK tm h base rb k k0=_;simp only[ia,ce];rfl
 case lookup kd z ok x y=>show jx kd z ok x y cfK tm h base rb k k0=_;simp only[jx,ce];rfl
 case mapUpd kd m a v=>show je kd m a v cfK tm h base rb k k0=_;simp only[je,ce];rfl
 case mksl al z zero n=>show n7 al z zero n cfK tm h base rb k k0=_;simp only[n7,ce];rfl
 case eqs neg kd x y=>show wt neg kd x y cfK tm h base rb k k0=_;simp only[wt,ce];rfl
 case bndm f x=>show oo f x cfK tm h base rb k k0=_;simp only[oo,cm,eg,nZ,kH]
 case load2 n x=>show lF n x cfK tm h base rb k k0=_;simp only[lF,ce];rfl
 case load1 x=>show kW x cfK tm h base rb k k0=_;simp only[kW,ce];rfl
def DO (tm:List V) (d:Option Nat) (v:V) (k:List V→R2):R2:=Option.rec (motive:=fun _=>R2) (k tm) (fun d=>A7 tm d v k) d
theorem uK (tm:List V) (d:Option Nat) (v:V) (k:List V→R2):DO tm d v k=k (bH tm d v):=by
 cases d with
 | none=>rfl
 | some d=>exact hO _ _ _ _
def AM (b:Bool) (gv:V) (go no:R2) (k0:R2):R2:=match gv with
 | .c (.bool x)=>Bool.rec (motive:=fun _=>R2) no go (x==b)
 | .top=>k0
 | _=>no
def lT (cfK:aV) (base rb:Nat) (o:XOper) (tm:List V) (h:List O) (k:List V→List O→R2) (k0:R2):R2 :=
 XOper.rec (motive:=fun _=>R2) (fun d op g=>Option.rec (motive:=fun _=>R2) (FZ op cfK tm h base rb (fun v h=>DO tm d v fun tm=>k tm h) k0)
  (fun p=>Prod.rec (motive:=fun _=>R2) (fun t b=>xG tm t (fun gv=>AM b gv (FZ op cfK tm h base rb (fun v h=>DO tm d v fun tm=>k tm h) k0) (DO tm d az fun tm=>k tm h) k0) (DO tm d az fun tm=>k tm h)) p) g) o
def Ec (r:Option St) (k:List V→List O→R2) (k0:R2):R2:=match r with
 | some st=>k st.tm st.h
 | none=>k0
theorem kM {cfK:aV}{cf:av}(hcf:∀f args h k,cfK f args h k=k (cf f args h)) (base rb:Nat) (o:XOper) (tm:List V) (h:List O) (k:List V→List O→R2) (k0:R2) :
  lT cfK base rb o tm h k k0=Ec (aI cf o ⟨tm,h,base,rb⟩) k k0:=by
 have key:∀(op:XOp) (d:Option Nat),out (act cf ⟨tm,h,base,rb⟩ op) (fun v h=>k (bH tm d v) h) k0=Ec (match act cf ⟨tm,h,base,rb⟩ op with
   | some (v,h)=>some { tm:=bH tm d v,h:=h,base:=base,rb:=rb }
   | none=>none) k k0:=by
  intro op d;cases act cf ⟨tm,h,base,rb⟩ op with
  | none=>rfl
  | some p=>rfl
 obtain⟨d,op,g⟩:=o;unfold aI;cases g with
 | none =>
  simp only[lT,tI hcf,uK,aZ,aY,if_true];exact key op d
 | some p =>
  obtain⟨t,b⟩:=p;obtain⟨gg,hg⟩:∃gg,tm[t]?=gg:=⟨_,rfl⟩
  simp only[lT,tI hcf,uK,eA,aZ,aY,hg];cases gg with
  | none=>rfl
  | some gv =>
   cases gv with
   | c x =>
    cases x with
    | bool x =>
     simp only[AM,if_true];cases x<;>cases b<;>first|rfl|exact key op d
    | _=>rfl
   | _=>rfl
def FN (cfK:aV) (base rb:Nat) (ops:List XOper):List V→List O→(List V→List O→R2)→R2→R2 :=
 List.rec (motive:=fun _=>List V→List O→(List V→List O→R2)→R2→R2) (fun tm h k _=>k tm h) (fun o _ ih tm h k k0=>lT cfK base rb o tm h (fun tm h=>ih tm h k k0) k0) ops
theorem cG {cf:av}{o:XOper}{st st':St}(h:aI cf o st=some st'):st'.base=st.base∧st'.rb=st.rb:=by
 obtain⟨a,b⟩:=gY h;exact⟨b,a⟩
theorem uV {cfK:aV}{cf:av}(hcf:∀f args h k,cfK f args h k=k (cf f args h)) (base rb:Nat):∀(ops:List XOper) (tm:List V) (h:List O) (k:List V→List O→R2) (k0:R2),
  FN cfK base rb ops tm h k k0=Ec (aC cf ops ⟨tm,h,base,rb⟩) k k0
 | [],_,_,_,_=>rfl
 | o::ops,tm,h,k,k0=>by
  show lT cfK base rb o tm h (fun tm h=>FN cfK base rb ops tm h k k0) k0=_;rw[kM hcf];unfold aC;cases hs:aI cf o ⟨tm,h,base,rb⟩ with
  | none=>rfl
  | some st =>
   obtain⟨e1,e2⟩:=cG hs;obtain⟨tm',h',b',r'⟩:=st;simp only at e1 e2;subst e1 e2;exact uV hcf _ _ ops _ _ k k0
def lz (m:Nat) (cfK:aV):aV:=fun f args H k =>
 if f<rid∧m≤H.length∧V.lows m args=true∧(H.take m).all (O.low m)=true then
  nfL (H.take m) fun h=>cfK f args h fun r=>match r with
   | some (r,h1)=>if h1.length=m then nfL (h1++H.drop m) fun h=>k (some (r,h)) else k none
   | none=>k none
 else k none
theorem r9 {cfK:aV}{cf:av}(hcf:∀f args h k,cfK f args h k=k (cf f args h)) (m:Nat) (f:Nat) (args:List V) (H:List O) (k:R2→R2):lz m cfK f args H k=k (b9 m cf f args H):=by
 simp only[lz,dq,hcf,b9];split
 ·cases cf f args (H.take m) with
  | none=>rfl
  | some p =>
   obtain⟨r,h1⟩:=p;simp only;split<;>rfl
 ·rfl
def qQ (m:Nat) (cfK:aV):aV:=fun f args H k=>if V.lows m args=true then lz m cfK f args H k else lz m cfK f (args.map V.vw2) H k
theorem vt {cfK:aV}{cf:av}(hcf:∀f args h k,cfK f args h k=k (cf f args h)) (m:Nat) (f:Nat) (args:List V) (H:List O) (k:R2→R2):qQ m cfK f args H k=k (aF m cf f args H):=by
 unfold qQ aF;split<;>rw[r9 hcf]
def sx (m:Nat) (lt:Bool) (cfK:aV) (base rb:Nat) (ops:List XOper):List V→List O→(List V→List O→R2)→R2→R2 :=
 List.rec (motive:=fun _=>List V→List O→(List V→List O→R2)→R2→R2) (fun tm h k _=>k tm h) (fun o _ ih tm h k k0=>Bool.rec (motive:=fun _=>R2) k0 (lT (qQ m cfK) base rb o tm h (fun tm h=>ih tm h k k0) k0) (eU lt o||ir m ⟨tm,h,base,rb⟩ o.op)) ops
theorem kU {m:Nat}{lt:Bool}{cfK:aV}{cf:av}(hcf:∀f args h k,cfK f args h k=k (cf f args h)) (base rb:Nat):∀(ops:List XOper) (tm:List V) (h:List O) (k:List V→List O→R2) (k0:R2),
  sx m lt cfK base rb ops tm h k k0=Ec (ed m lt cf ops ⟨tm,h,base,rb⟩) k k0
 | [],_,_,_,_=>rfl
 | o::ops,tm,h,k,k0=>by
  show Bool.rec (motive:=fun _=>R2) k0 (lT (qQ m cfK) base rb o tm h (fun tm h=>sx m lt cfK base rb ops tm h k k0) k0) (eU lt o||ir m ⟨tm,h,base,rb⟩ o.op)=_;rw[kM (vt hcf m)];unfold ed d8;cases ho:eU lt o||ir m ⟨tm,h,base,rb⟩ o.op with
  | false=>rfl
  | true =>
   simp only[if_true];cases hs:aI (aF m cf) o ⟨tm,h,base,rb⟩ with
   | none=>rfl
   | some st =>
    obtain⟨e1,e2⟩:=cG hs;obtain⟨tm',h',b',r'⟩:=st;simp only at e1 e2;subst e1 e2;exact kU hcf _ _ ops _ _ k k0
def roS (m:Nat) (cfK:aV):aV:=fun f args H k =>
 if f<rid∧m≤H.length∧V.lows m args=true∧(H.take m).all (O.low m)=true then
  nfL (H.take m) fun h=>cfK f args h fun r=>match r with
   | some (r,h1)=>if h1.length=m∧oc (H.take m) h1=true then k (some (r,H)) else k none
   | none=>k none
 else k none
theorem DJ {cfK:aV}{cf:av}(hcf:∀f args h k,cfK f args h k=k (cf f args h)) (m:Nat) (f:Nat) (args:List V) (H:List O) (k:R2→R2):roS m cfK f args H k=k (eR m cf f args H):=by
 simp only[roS,dq,hcf,eR];split
 ·cases cf f args (H.take m) with
  | none=>rfl
  | some p =>
   obtain⟨r,h1⟩:=p;simp only;split<;>rfl
 ·rfl
def zg (m:Nat) (cfK:aV) (base rb:Nat) (ops:List XOper):List V→List O→(List V→List O→R2)→R2→R2 :=
 List.rec (motive:=fun _=>List V→List O→(List V→List O→R2)→R2→R2) (fun tm h k _=>k tm h) (fun o _ ih tm h k k0=>Bool.rec (motive:=fun _=>R2) k0 (lT (roS m cfK) base rb o tm h (fun tm h=>ih tm h k k0) k0) (ik m ⟨tm,h,base,rb⟩ o.op)) ops
theorem rA {m:Nat}{cfK:aV}{cf:av}(hcf:∀f args h k,cfK f args h k=k (cf f args h)) (base rb:Nat):∀(ops:List XOper) (tm:List V) (h:List O) (k:List V→List O→R2) (k0:R2),
  zg m cfK base rb ops tm h k k0=Ec (gt m cf ops ⟨tm,h,base,rb⟩) k k0
 | [],_,_,_,_=>rfl
 | o::ops,tm,h,k,k0=>by
  show Bool.rec (motive:=fun _=>R2) k0 (lT (roS m cfK) base rb o tm h (fun tm h=>zg m cfK base rb ops tm h k k0) k0) (ik m ⟨tm,h,base,rb⟩ o.op)=_;rw[kM (DJ hcf m)];unfold gt ee;cases ho:ik m ⟨tm,h,base,rb⟩ o.op with
  | false=>rfl
  | true =>
   simp only[if_true];cases hs:aI (eR m cf) o ⟨tm,h,base,rb⟩ with
   | none=>rfl
   | some st =>
    obtain⟨e1,e2⟩:=cG hs;obtain⟨tm',h',b',r'⟩:=st;simp only at e1 e2;subst e1 e2;exact rA hcf _ _ ops _ _ k k0
def CD (r:Option (Ex × St)) (k:Ex→St→R2) (k0:R2):R2:=match r with
 | some (e,st)=>k e st
 | none=>k0
def yi (f:St→(Ex→St→R2)→R2→R2) (n:Nat):St→(Ex→St→R2)→R2→R2 :=
 Nat.rec (motive:=fun _=>St→(Ex→St→R2)→R2→R2) (fun _ _ k0=>k0) (fun _ ih st k k0=>f st (fun e st=>match e with
  | .normal=>ih st k k0
  | e=>k e st) k0) n
def fJ (cfK:aV) (n:Nat) (xc:XC):St→(Ex→St→R2)→R2→R2 :=
 XC.rec (motive:=fun _=>St→(Ex→St→R2)→R2→R2)
  (fun st k _=>k .normal st)
  (fun ops pre _ st k k0=>St.rec (motive:=fun _=>R2) (fun tm h base rb=>zx h pre fun h'=>aD h.length fun rb'=>FN cfK base rb' ops tm h' (fun tm h=>k .normal ⟨tm,h,base,rb'⟩) k0) st)
  (fun ops pre st k k0=>St.rec (motive:=fun _=>R2) (fun tm h base rb=>zx h pre fun h'=>aD h.length fun rb'=>sx base false cfK base rb' ops tm h' (fun tm h=>k .normal ⟨tm,h,base,rb'⟩) k0) st)
  (fun ops pre st k k0=>St.rec (motive:=fun _=>R2) (fun tm h base rb=>aD (thr ⟨tm,h,base,rb⟩ ops) fun m=>zx h pre fun h'=>aD h.length fun rb'=>sx m true cfK base rb' ops tm h' (fun tm h=>k .normal ⟨tm,h,base,rb'⟩) k0) st)
  (fun ops pre st k k0=>St.rec (motive:=fun _=>R2) (fun tm h base rb=>aD (min base h.length) fun m=>zx h pre fun h'=>aD h.length fun rb'=>zg m cfK base rb' ops tm h' (fun tm h=>k .normal ⟨tm,h,base,rb'⟩) k0) st)
  (fun _ _ iha ihb st k k0=>iha st (fun e st=>match e with
   | .normal=>ihb st k k0
   | e=>k e st) k0)
  (fun c _ _ iha ihb st k k0=>evS st.tm c fun v=>match v with
   | .c (.bool t)=>Bool.rec (motive:=fun _=>R2) (ihb st k k0) (iha st k k0) t
   | _=>k0)
  (fun id _ ih st k k0=>ih st (fun e st=>match e with
   | .exit id'=>if id'=id then k .normal st else k (.exit id') st
   | e=>k e st) k0)
  (fun _ ih st k k0=>yi ih n st k k0)
  (fun id st k _=>k (.exit id) st)
  (fun st k _=>k .ret st)
  (fun f y m nt us st k k0=>St.rec (motive:=fun _=>R2) (fun tm h base rb=>evS tm f fun fv=>match aT fv with
   | some (g,lb)=>if g<rid∧rid≤y∧tm.length=nt then xE nf0 (lO nt us tm) fun caps=>aD h.length fun l=>nfL (h++[.loop 0]) fun h1=>cfK g (.yld l y m caps::lb) h1 fun r=>match r with
     | some (_,h')=>xG h' l (fun ob=>match ob with
      | .loop s=>match Ex.ofNum s with
       | some e=>A7 h' l (.loop 2) fun h=>k e ⟨tm,h,base,rb⟩
       | none=>k0
      | _=>k0) k0
     | none=>k0
    else k0
   | none=>k0) st) xc
theorem qU {f:St→(Ex→St→R2)→R2→R2}{g:St→Option (Ex × St)}(hf:∀st k k0,f st k k0=CD (g st) k k0):∀(n:Nat) (st:St) (k:Ex→St→R2) (k0:R2),yi f n st k k0=CD (iq g n st) k k0
 | 0,_,_,_=>rfl
 | n+1,st,k,k0=>by
  show f st (fun e st=>match e with
   | .normal=>yi f n st k k0
   | e=>k e st) k0=_
  rw[hf];unfold iq;cases g st with
  | none=>rfl
  | some p =>
   obtain⟨e,st'⟩:=p;cases e with
   | normal=>exact qU hf n st' k k0
   | exit id=>rfl
   | ret=>rfl
theorem lG {cfK:aV}{cf:av}(hcf:∀f args h k,cfK f args h k=k (cf f args h)) (n:Nat):∀(xc:XC) (st:St) (k:Ex→St→R2) (k0:R2),fJ cfK n xc st k k0=CD (aK cf n xc st) k k0:=by
 intro xc
 induction xc with
 | skip=>intros;rfl
 | reg ops pre d =>
  intro st k k0;obtain⟨tm,h,base,rb⟩:=st;show (zx h pre fun h'=>aD h.length fun rb'=>FN cfK base rb' ops tm h' (fun tm h=>k .normal ⟨tm,h,base,rb'⟩) k0)=_;rw[lc,aQ,uV hcf];unfold aK;simp only;have hk:∀(ops:List XOper) (st st':St),aC cf ops st=some st'→st'.base=st.base∧st'.rb=st.rb:=by
   intro ops
   induction ops with
   | nil=>intro st st' e;simp only[aC,sI] at e;subst e;exact⟨rfl,rfl⟩
   | cons o ops ih =>
    intro st st' e;unfold aC at e;split at e
    ·rename_i s1 h1;obtain⟨a1,a2⟩:=cG h1;obtain⟨b1,b2⟩:=ih _ _ e;exact⟨b1.trans a1,b2.trans a2⟩
    ·cases e
  cases hr:aC cf ops ⟨tm,h++pre,base,h.length⟩ with
  | none=>rfl
  | some st' =>
   obtain⟨e1,e2⟩:=hk _ _ _ hr;obtain⟨tm',h',b',r'⟩:=st';simp only at e1 e2;subst e1 e2;rfl
 | regw ops pre =>
  intro st k k0;obtain⟨tm,h,base,rb⟩:=st;show (zx h pre fun h'=>aD h.length fun rb'=>sx base false cfK base rb' ops tm h' (fun tm h=>k .normal ⟨tm,h,base,rb'⟩) k0)=_;rw[lc,aQ,kU hcf];unfold aK;simp only;have hk:∀(ops:List XOper) (st st':St),ed base false cf ops st=some st'→st'.base=st.base∧st'.rb=st.rb:=by
   intro ops
   induction ops with
   | nil=>intro st st' e;simp only[ed,sI] at e;subst e;exact⟨rfl,rfl⟩
   | cons o ops ih =>
    intro st st' e;unfold ed at e;split at e
    ·rename_i s1 h1;obtain⟨a1,a2⟩:=cG (dn h1);obtain⟨b1,b2⟩:=ih _ _ e;exact⟨b1.trans a1,b2.trans a2⟩
    ·cases e
  cases hr:ed base false cf ops ⟨tm,h++pre,base,h.length⟩ with
  | none=>rfl
  | some st' =>
   obtain⟨e1,e2⟩:=hk _ _ _ hr;obtain⟨tm',h',b',r'⟩:=st';simp only at e1 e2;subst e1 e2;rfl
 | regm ops pre =>
  intro st k k0;obtain⟨tm,h,base,rb⟩:=st;show (aD (thr ⟨tm,h,base,rb⟩ ops) fun m=>zx h pre fun h'=>aD h.length fun rb'=>sx m true cfK base rb' ops tm h' (fun tm h=>k .normal ⟨tm,h,base,rb'⟩) k0)=_;rw[aQ,lc,aQ,kU hcf];unfold aK;simp only;have hk:∀(m:Nat) (ops:List XOper) (st st':St),ed m true cf ops st=some st'→st'.base=st.base∧st'.rb=st.rb:=by
   intro m ops
   induction ops with
   | nil=>intro st st' e;simp only[ed,sI] at e;subst e;exact⟨rfl,rfl⟩
   | cons o ops ih =>
    intro st st' e;unfold ed at e;split at e
    ·rename_i s1 h1;obtain⟨a1,a2⟩:=cG (dn h1);obtain⟨b1,b2⟩:=ih _ _ e;exact⟨b1.trans a1,b2.trans a2⟩
    ·cases e
  cases hr:ed (thr ⟨tm,h,base,rb⟩ ops) true cf ops ⟨tm,h++pre,base,h.length⟩ with
  | none=>rfl
  | some st' =>
   obtain⟨e1,e2⟩:=hk _ _ _ _ hr;obtain⟨tm',h',b',r'⟩:=st';simp only at e1 e2;subst e1 e2;rfl
 | regr ops pre =>
  intro st k k0;obtain⟨tm,h,base,rb⟩:=st;show (aD (min base h.length) fun m=>zx h pre fun h'=>aD h.length fun rb'=>zg m cfK base rb' ops tm h' (fun tm h=>k .normal ⟨tm,h,base,rb'⟩) k0)=_;rw[aQ,lc,aQ,rA hcf];unfold aK;simp only;have hk:∀(m:Nat) (ops:List XOper) (st st':St),gt m cf ops st=some st'→st'.base=st.base∧st'.rb=st.rb:=by
   intro m ops
   induction ops with
   | nil=>intro st st' e;simp only[gt,sI] at e;subst e;exact⟨rfl,rfl⟩
   | cons o ops ih =>
    intro st st' e;unfold gt at e;split at e
    ·rename_i s1 h1;obtain⟨a1,a2⟩:=cG (dr h1);obtain⟨b1,b2⟩:=ih _ _ e;exact⟨b1.trans a1,b2.trans a2⟩
    ·cases e
  cases hr:gt (min base h.length) cf ops ⟨tm,h++pre,base,h.length⟩ with
  | none=>rfl
  | some st' =>
   obtain⟨e1,e2⟩:=hk _ _ _ _ hr;obtain⟨tm',h',b',r'⟩:=st';simp only at e1 e2;subst e1 e2;rfl
 | seq a b iha ihb =>
  intro st k k0;show fJ cfK n a st (fun e st=>match e with
   | .normal=>fJ cfK n b st k k0
   | e=>k e st) k0=_
  rw[iha];simp only[aK];cases aK cf n a st with
  | none=>rfl
  | some p =>
   obtain⟨e,st'⟩:=p;cases e with
   | normal=>exact ihb st' k k0
   | exit id=>rfl
   | ret=>rfl
 | cond c a b iha ihb =>
  intro st k k0;show (evS st.tm c fun v=>match v with
   | .c (.bool t)=>Bool.rec (motive:=fun _=>R2) (fJ cfK n b st k k0) (fJ cfK n a st k k0) t
   | _=>k0)=_
  rw[cm];simp only[aK];cases ev st.tm c with
  | c x =>
   cases x with
   | bool t=>cases t with
    | false=>exact ihb st k k0
    | true=>exact iha st k k0
   | _=>rfl
  | _=>rfl
 | block id c ih =>
  intro st k k0;show fJ cfK n c st (fun e st=>match e with
   | .exit id'=>if id'=id then k .normal st else k (.exit id') st
   | e=>k e st) k0=_
  rw[ih];simp only[aK];cases aK cf n c st with
  | none=>rfl
  | some p =>
   obtain⟨e,st'⟩:=p;cases e with
   | exit id' =>
    simp only[CD];split<;>rfl
   | _=>rfl
 | loop c ih =>
  intro st k k0;show yi (fJ cfK n c) n st k k0=_;exact qU ih n st k k0
 | exit id=>intros;rfl
 | ret=>intros;rfl
 | rangeF f y m nt us =>
  intro st k k0;obtain⟨tm,h,base,rb⟩:=st;show (evS tm f fun fv=>match aT fv with
   | some (g,lb)=>if g<rid∧rid≤y∧tm.length=nt then xE nf0 (lO nt us tm) fun caps=>aD h.length fun l=>nfL (h++[.loop 0]) fun h1=>cfK g (.yld l y m caps::lb) h1 fun r=>match r with
     | some (_,h')=>xG h' l (fun ob=>match ob with
      | .loop s=>match Ex.ofNum s with
       | some e=>A7 h' l (.loop 2) fun h=>k e ⟨tm,h,base,rb⟩
       | none=>k0
      | _=>k0) k0
     | none=>k0
    else k0
   | none=>k0)=_
  rw[cm];unfold aK;simp only;cases aT (ev tm f) with
  | none=>rfl
  | some p =>
   obtain⟨g,lb⟩:=p;simp only[fD Au,aQ,dq,hcf,eA,hO];split
   ·cases cf g (.yld h.length y m (lO nt us tm)::lb) (h++[.loop 0]) with
    | none=>rfl
    | some q =>
     obtain⟨v,h'⟩:=q;simp only;cases h'[h.length]? with
     | none=>rfl
     | some ob =>
      cases ob<;>try rfl
      rename_i s;simp only;cases Ex.ofNum s<;>rfl
   ·rfl
def Dy (esc:Bool) (n:Nat) (res:List XR) (k:R2→R2) (e:Ex) (st:St):R2:=nfR (fin esc n res (some (e,st))) k
theorem Bn (esc:Bool) (n:Nat) (res:List XR) (k:R2→R2) (r:Option (Ex × St)):CD r (Dy esc n res k) (k none)=k (fin esc n res r):=by
 cases r with
 | none=>rfl
 | some p=>obtain⟨e,st⟩:=p;exact mw _ _
def kh (xf:XF) (args:List V) (h:List O) (k:St→R2):R2:=xE nfV args fun args=>nfL (args++List.replicate (xf.ntm-args.length) az) fun tm=>aD h.length fun b=>k ⟨tm,h,b,0⟩
theorem uH (xf:XF) (args:List V) (h:List O) (k:St→R2):kh xf args h k=k (cB xf args h):=by
 simp only[kh,fD qx,dq,aQ];rfl
def yY (cfK:aV) (n:Nat) (xf:XF) (args:List V) (h:List O) (k:R2→R2):R2 :=
 if xf.pure then
  if V.lows 0 (args.map V.vw2) then
   if xf.esc then kh xf (args.map V.vw2) (Ce xf) fun st=>fJ cfK n xf.body st (Dy true n xf.res fun r=>nfR (r.map fun r=>(r.1.shift h.length,h++r.2.map (O.shift h.length))) k) (k none)
   else kh xf (args.map V.vw2) [] fun st=>fJ cfK n xf.body st (Dy false n xf.res fun r=>k (r.map fun r=>(r.1,h))) (k none)
  else if xf.esc then k none
  else match lk (fV 0 h n) (args.map V.vw2) with
   | some bs=>if V.lows 0 bs then kh xf bs [] fun st=>fJ cfK n xf.body st (Dy false n xf.res fun r=>match r with
     | some (r,_)=>if r.flat||(r.nb&&(args.map V.vw2).all (nbA h)) then k (some (r,h)) else k none
     | none=>k none) (k none)
    else k none
   | none=>k none
 else kh xf (args.map (if xf.esc then V.vwt else V.vw2)) h fun st=>fJ cfK n xf.body st (Dy xf.esc n xf.res k) (k none)
theorem yA {cfK:aV}{cf:av}(hcf:∀f args h k,cfK f args h k=k (cf f args h)) (n:Nat) (xf:XF) (args:List V) (h:List O) (k:R2→R2):yY cfK n xf args h k=k (fE cf n xf args h):=by
 have e1:∀(st:St) (esc:Bool) (kk:R2→R2),kk none=k none→fJ cfK n xf.body st (Dy esc n xf.res kk) (k none)=kk (fin esc n xf.res (aK cf n xf.body st)):=by
  intro st esc kk h0;rw[lG hcf,← h0,Bn]
 unfold yY fE;simp only[uH];split
 ·split
  ·split
   ·rw[e1 _ _ _ (by simp only[mw,Option.map_none])];rw[mw]
   ·rw[e1 _ _ _ (by simp only[Option.map_none])]
  ·split
   ·rfl
   ·cases lk (fV 0 h n) (args.map V.vw2) with
    | none=>rfl
    | some bs =>
     simp only;split
     ·rw[e1 _ _ (fun r=>match r with
       | some (r,_)=>if r.flat||(r.nb&&(args.map V.vw2).all (nbA h)) then k (some (r,h)) else k none
       | none=>k none) rfl]
      cases fin false n xf.res (aK cf n xf.body (cB xf bs [])) with
      | none=>rfl
      | some p =>
       obtain⟨r,h'⟩:=p;simp only;split<;>rfl
     ·rfl
 ·rw[e1 _ _ _ rfl]
def gi (cfK:aV) (n:Nat) (ps:List Nat) (asg body:XC) (l:Nat) (vs caps:List V) (h:List O) (k:R2→R2):R2:=match eZ ps vs caps with
 | some tm=>nfL tm fun tm=>aD h.length fun b=>fJ cfK n asg ⟨tm,h,b,0⟩ (fun e st1=>match e with
  | .normal=>xG st1.h l (fun ob=>match ob with
   | .loop 0=>St.rec (motive:=fun _=>R2) (fun tm1 h1 b1 rb1=>A7 h1 l (.loop 1) fun h1=>fJ cfK n body ⟨tm1,h1,b1,rb1⟩ (fun e st2=>xG st2.h l (fun ob=>match ob with
    | .loop 1=>nfR (let h3:=(st2.h.set l (.loop e.num)).take h.length
      if h3.all (O.low h.length) then some (.c (.bool (e.num==0)),h3) else none) k
    | _=>k none) (k none)) (k none)) st1
   | _=>k none) (k none)
  | _=>k none) (k none)
 | none=>k none
theorem nj {cfK:aV}{cf:av}(hcf:∀f args h k,cfK f args h k=k (cf f args h)) (n:Nat) (ps:List Nat) (asg body:XC) (l:Nat) (vs caps:List V) (h:List O) (k:R2→R2) :
  gi cfK n ps asg body l vs caps h k=k (cN cf n ps asg body l vs caps h):=by
 unfold gi cN;cases eZ ps vs caps with
 | none=>rfl
 | some tm =>
  simp only[dq,aQ,lG hcf];cases aK cf n asg ⟨tm,h,h.length,0⟩ with
  | none=>rfl
  | some p =>
   obtain⟨e,st1⟩:=p;cases e<;>try rfl
   simp only[CD,eA];cases st1.h[l]? with
   | none=>rfl
   | some ob =>
    cases ob<;>try rfl
    rename_i s
    match s with
    | 0 =>
     obtain⟨tm1,h1,b1,rb1⟩:=st1;simp only[hO,lG hcf];cases aK cf n body ⟨tm1,h1.set l (.loop 1),b1,rb1⟩ with
     | none=>rfl
     | some q =>
      obtain⟨e2,st2⟩:=q;simp only[CD,eA];cases st2.h[l]? with
      | none=>rfl
      | some ob =>
       cases ob<;>try rfl
       rename_i s
       match s with
       | 0=>rfl
       | 1=>simp only[mw]
       | s+2=>rfl
    | s+1=>rfl
inductive KT where
 | leaf
 | node (key:Nat) (x:XF) (l r:KT)
def KT.find (t:KT) (f:Nat):Option XF:=KT.rec (motive:=fun _=>Option XF) none (fun key x _ _ a b=>Bool.rec (motive:=fun _=>Option XF) (Bool.rec (motive:=fun _=>Option XF) b a (Nat.blt f key)) (some x) (Nat.beq f key)) t
def KT.all (P:Nat→XF→Prop):KT→Prop
 | .leaf=>True
 | .node key x l r=>P key x∧KT.all P l∧KT.all P r
theorem KT.find_all {P:Nat→XF→Prop}{f:Nat}{xf:XF}:∀(t:KT),t.all P→t.find f=some xf→P f xf
 | .leaf,_,h=>by cases h
 | .node key x l r,ha,h=>by
  have h:Bool.rec (motive:=fun _=>Option XF) (Bool.rec (motive:=fun _=>Option XF) (r.find f) (l.find f) (Nat.blt f key)) (some x) (Nat.beq f key)=some xf:=h;cases h1:Nat.beq f key with
  | true =>
   rw[h1] at h;have:f=key:=Nat.eq_of_beq_eq_true h1;subst this;simp only[sI] at h;subst h;exact ha.1
  | false =>
   rw[h1] at h;cases h2:Nat.blt f key with
   | true=>rw[h2] at h;exact KT.find_all l ha.2.1 h
   | false=>rw[h2] at h;exact KT.find_all r ha.2.2 h
def yg (T:KT) (X:Nat→Option XF) (E:Ext) (n:Nat):aV :=
 Nat.rec (motive:=fun _=>aV) (fun _ _ _ k=>k none) (fun n cfn f args h k=>Option.rec (motive:=fun _=>R2) (nfR (call X E (n+1) f args h) k)
  (fun xf=>match xf.asg with
   | some (ps,asg)=>match args with
    | .c (.int _ l)::rs=>if l.toNat<h.length then aD l.toNat fun l'=>gi cfn n ps asg xf.body l' (rs.take ps.length) (rs.drop ps.length) h k else k none
    | _=>k none
   | none=>yY cfn n xf args h k) (T.find f)) n
theorem yN {T:KT}{X:Nat→Option XF}{E:Ext}(hT:T.all fun f xf=>E f=none∧X f=some xf):∀(n f:Nat) (args:List V) (h:List O) (k:R2→R2),yg T X E n f args h k=k (call X E n f args h):=by
 intro n
 induction n with
 | zero=>intros;rfl
 | succ n ih =>
  intro f args h k;show Option.rec (motive:=fun _=>R2) (nfR (call X E (n+1) f args h) k)
   (fun xf=>match xf.asg with
    | some (ps,asg)=>match args with
     | .c (.int _ l)::rs=>if l.toNat<h.length then aD l.toNat fun l'=>gi (yg T X E n) n ps asg xf.body l' (rs.take ps.length) (rs.drop ps.length) h k else k none
     | _=>k none
    | none=>yY (yg T X E n) n xf args h k) (T.find f)=_
  cases hf:T.find f with
  | none=>exact mw _ _
  | some xf =>
   obtain⟨hE,hX⟩:=KT.find_all T hT hf;rw[call];simp only[hE,hX];cases xf.asg with
   | none=>exact yA ih n xf args h k
   | some p =>
    obtain⟨ps,asg⟩:=p;simp only;split
    ·rename_i kd l rs;by_cases hl:l.toNat<h.length
     ·rw[if_pos hl,aQ,nj ih];simp only[if_pos hl]
     ·rw[if_neg hl];simp only[if_neg hl]
    ·rename_i hne;split
     ·exact absurd rfl (hne _ _ _)
     ·rfl
theorem dM {T:KT}{X:Nat→Option XF}{E:Ext}(hT:T.all fun f xf=>E f=none∧X f=some xf){n f:Nat}{args:List V}{h:List O}{r:R2}(e:yg T X E n f args h (fun r=>r)=r):call X E n f args h=r:=by
 rw[yN hT] at e;exact e
def ktab:KT:=(.node 112 x112 (.node 59 x59 (.node 35 x35 (.node 16 x16 (.node 10 x10 (.node 8 x8 (.node 3 x3 .leaf .leaf) (.node 9 x9 .leaf .leaf)) (.node 12 x12 (.node 11 x11 .leaf .leaf) (.node 14 x14 .leaf .leaf))) (.node 32 x32 (.node 24 x24 (.node 23 x23 .leaf .leaf) (.node 26 x26 .leaf .leaf)) (.node 34 x34 (.node 33 x33 .leaf .leaf) .leaf))) (.node 49 x49 (.node 46 x46 (.node 44 x44 (.node 43 x43 .leaf .leaf) (.node 45 x45 .leaf .leaf)) (.node 48 x48 (.node 47 x47 .leaf .leaf) .leaf)) (.node 53 x53 (.node 51 x51 (.node 50 x50 .leaf .leaf) (.node 52 x52 .leaf .leaf)) (.node 58 x58 (.node 54 x54 .leaf .leaf) .leaf)))) (.node 93 x93 (.node 86 x86 (.node 71 x71 (.node 63 x63 (.node 61 x61 .leaf .leaf) (.node 70 x70 .leaf .leaf)) (.node 73 x73 (.node 72 x72 .leaf .leaf) (.node 74 x74 .leaf .leaf))) (.node 90 x90 (.node 88 x88 (.node 87 x87 .leaf .leaf) (.node 89 x89 .leaf .leaf)) (.node 92 x92 (.node 91 x91 .leaf .leaf) .leaf))) (.node 105 x105 (.node 102 x102 (.node 100 x100 (.node 99 x99 .leaf .leaf) (.node 101 x101 .leaf .leaf)) (.node 104 x104 (.node 103 x103 .leaf .leaf) .leaf)) (.node 109 x109 (.node 107 x107 (.node 106 x106 .leaf .leaf) (.node 108 x108 .leaf .leaf)) (.node 111 x111 (.node 110 x110 .leaf .leaf) .leaf))))) (.node 162 x162 (.node 141 x141 (.node 125 x125 (.node 116 x116 (.node 114 x114 (.node 113 x113 .leaf .leaf) (.node 115 x115 .leaf .leaf)) (.node 119 x119 (.node 117 x117 .leaf .leaf) (.node 123 x123 .leaf .leaf))) (.node 138 x138 (.node 127 x127 (.node 126 x126 .leaf .leaf) (.node 137 x137 .leaf .leaf)) (.node 140 x140 (.node 139 x139 .leaf .leaf) .leaf))) (.node 152 x152 (.node 145 x145 (.node 143 x143 (.node 142 x142 .leaf .leaf) (.node 144 x144 .leaf .leaf)) (.node 151 x151 (.node 146 x146 .leaf .leaf) .leaf)) (.node 157 x157 (.node 155 x155 (.node 154 x154 .leaf .leaf) (.node 156 x156 .leaf .leaf)) (.node 159 x159 (.node 158 x158 .leaf .leaf) .leaf)))) (.node 180 x180 (.node 172 x172 (.node 166 x166 (.node 164 x164 (.node 163 x163 .leaf .leaf) (.node 165 x165 .leaf .leaf)) (.node 170 x170 (.node 169 x169 .leaf .leaf) (.node 171 x171 .leaf .leaf))) (.node 176 x176 (.node 174 x174 (.node 173 x173 .leaf .leaf) (.node 175 x175 .leaf .leaf)) (.node 178 x178 (.node 177 x177 .leaf .leaf) .leaf))) (.node 191 x191 (.node 188 x188 (.node 182 x182 (.node 181 x181 .leaf .leaf) (.node 187 x187 .leaf .leaf)) (.node 190 x190 (.node 189 x189 .leaf .leaf) .leaf)) (.node 202 x202 (.node 193 x193 (.node 192 x192 .leaf .leaf) (.node 194 x194 .leaf .leaf)) (.node 1014000 x1014000 (.node 1011300 x1011300 .leaf .leaf) .leaf))))))
theorem eE:ktab.all fun f xf=>E f=none∧X f=some xf:=⟨⟨rfl,rfl⟩,⟨⟨rfl,rfl⟩,⟨⟨rfl,rfl⟩,⟨⟨rfl,rfl⟩,⟨⟨rfl,rfl⟩,⟨⟨rfl,rfl⟩,⟨⟨rfl,rfl⟩,trivial,trivial⟩,⟨⟨rfl,rfl⟩,trivial,trivial⟩⟩,⟨⟨rfl,rfl⟩,⟨⟨rfl,rfl⟩,trivial,trivial⟩,⟨⟨rfl,rfl⟩,trivial,trivial⟩⟩⟩,⟨⟨rfl,rfl⟩,⟨⟨rfl,rfl⟩,⟨⟨rfl,rfl⟩,trivial,trivial⟩,⟨⟨rfl,rfl⟩,trivial,trivial⟩⟩,⟨⟨rfl,rfl⟩,⟨⟨rfl,rfl⟩,trivial,trivial⟩,trivial⟩⟩⟩,⟨⟨rfl,rfl⟩,⟨⟨rfl,rfl⟩,⟨⟨rfl,rfl⟩,⟨⟨rfl,rfl⟩,trivial,trivial⟩,⟨⟨rfl,rfl⟩,trivial,trivial⟩⟩,⟨⟨rfl,rfl⟩,⟨⟨rfl,rfl⟩,trivial,trivial⟩,trivial⟩⟩,⟨⟨rfl,rfl⟩,⟨⟨rfl,rfl⟩,⟨⟨rfl,rfl⟩,trivial,trivial⟩,⟨⟨rfl,rfl⟩,trivial,trivial⟩⟩,⟨⟨rfl,rfl⟩,⟨⟨rfl,rfl⟩,trivial,trivial⟩,trivial⟩⟩⟩⟩,⟨⟨rfl,rfl⟩,⟨⟨rfl,rfl⟩,⟨⟨rfl,rfl⟩,⟨⟨rfl,rfl⟩,⟨⟨rfl,rfl⟩,trivial,trivial⟩,⟨⟨rfl,rfl⟩,trivial,trivial⟩⟩,⟨⟨rfl,rfl⟩,⟨⟨rfl,rfl⟩,trivial,trivial⟩,⟨⟨rfl,rfl⟩,trivial,trivial⟩⟩⟩,⟨⟨rfl,rfl⟩,⟨⟨rfl,rfl⟩,⟨⟨rfl,rfl⟩,trivial,trivial⟩,⟨⟨rfl,rfl⟩,trivial,trivial⟩⟩,⟨⟨rfl,rfl⟩,⟨⟨rfl,rfl⟩,trivial,trivial⟩,trivial⟩⟩⟩,⟨⟨rfl,rfl⟩,⟨⟨rfl,rfl⟩,⟨⟨rfl,rfl⟩,⟨⟨rfl,rfl⟩,trivial,trivial⟩,⟨⟨rfl,rfl⟩,trivial,trivial⟩⟩,⟨⟨rfl,rfl⟩,⟨⟨rfl,rfl⟩,trivial,trivial⟩,trivial⟩⟩,⟨⟨rfl,rfl⟩,⟨⟨rfl,rfl⟩,⟨⟨rfl,rfl⟩,trivial,trivial⟩,⟨⟨rfl,rfl⟩,trivial,trivial⟩⟩,⟨⟨rfl,rfl⟩,⟨⟨rfl,rfl⟩,trivial,trivial⟩,trivial⟩⟩⟩⟩⟩,⟨⟨rfl,rfl⟩,⟨⟨rfl,rfl⟩,⟨⟨rfl,rfl⟩,⟨⟨rfl,rfl⟩,⟨⟨rfl,rfl⟩,⟨⟨rfl,rfl⟩,trivial,trivial⟩,⟨⟨rfl,rfl⟩,trivial,trivial⟩⟩,⟨⟨rfl,rfl⟩,⟨⟨rfl,rfl⟩,trivial,trivial⟩,⟨⟨rfl,rfl⟩,trivial,trivial⟩⟩⟩,⟨⟨rfl,rfl⟩,⟨⟨rfl,rfl⟩,⟨⟨rfl,rfl⟩,trivial,trivial⟩,⟨⟨rfl,rfl⟩,trivial,trivial⟩⟩,⟨⟨rfl,rfl⟩,⟨⟨rfl,rfl⟩,trivial,trivial⟩,trivial⟩⟩⟩,⟨⟨rfl,rfl⟩,⟨⟨rfl,rfl⟩,⟨⟨rfl,rfl⟩,⟨⟨rfl,rfl⟩,trivial,trivial⟩,⟨⟨rfl,rfl⟩,trivial,trivial⟩⟩,⟨⟨rfl,rfl⟩,⟨⟨rfl,rfl⟩,trivial,trivial⟩,trivial⟩⟩,⟨⟨rfl,rfl⟩,⟨⟨rfl,rfl⟩,⟨⟨rfl,rfl⟩,trivial,trivial⟩,⟨⟨rfl,rfl⟩,trivial,trivial⟩⟩,⟨⟨rfl,rfl⟩,⟨⟨rfl,rfl⟩,trivial,trivial⟩,trivial⟩⟩⟩⟩,⟨⟨rfl,rfl⟩,⟨⟨rfl,rfl⟩,⟨⟨rfl,rfl⟩,⟨⟨rfl,rfl⟩,⟨⟨rfl,rfl⟩,trivial,trivial⟩,⟨⟨rfl,rfl⟩,trivial,trivial⟩⟩,⟨⟨rfl,rfl⟩,⟨⟨rfl,rfl⟩,trivial,trivial⟩,⟨⟨rfl,rfl⟩,trivial,trivial⟩⟩⟩,⟨⟨rfl,rfl⟩,⟨⟨rfl,rfl⟩,⟨⟨rfl,rfl⟩,trivial,trivial⟩,⟨⟨rfl,rfl⟩,trivial,trivial⟩⟩,⟨⟨rfl,rfl⟩,⟨⟨rfl,rfl⟩,trivial,trivial⟩,trivial⟩⟩⟩,⟨⟨rfl,rfl⟩,⟨⟨rfl,rfl⟩,⟨⟨rfl,rfl⟩,⟨⟨rfl,rfl⟩,trivial,trivial⟩,⟨⟨rfl,rfl⟩,trivial,trivial⟩⟩,⟨⟨rfl,rfl⟩,⟨⟨rfl,rfl⟩,trivial,trivial⟩,trivial⟩⟩,⟨⟨rfl,rfl⟩,⟨⟨rfl,rfl⟩,⟨⟨rfl,rfl⟩,trivial,trivial⟩,⟨⟨rfl,rfl⟩,trivial,trivial⟩⟩,⟨⟨rfl,rfl⟩,⟨⟨rfl,rfl⟩,trivial,trivial⟩,trivial⟩⟩⟩⟩⟩⟩
end Go.Proofs.YtjhffhmokcogkaaGreatDoor.Ab
