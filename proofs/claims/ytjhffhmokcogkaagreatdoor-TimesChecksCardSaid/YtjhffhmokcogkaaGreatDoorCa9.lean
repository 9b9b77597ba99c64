/- Part 10 of 19: the interpreter. -/
import Derived.Test.YtjhffhmokcogkaaGreatDoorCa8
set_option linter.unusedVariables false
set_option linter.unusedSimpArgs false
set_option linter.defProp false
namespace Go.Proofs.YtjhffhmokcogkaaGreatDoor.Ab
open Go
noncomputable section
def nfNat (n:Nat) (k:Nat→R2):R2:=Nat.rec (motive:=fun _=>R2) (k 0) (fun m _=>k (Nat.succ m)) n
def nfInt (i:Int) (k:Int→R2):R2:=Int.rec (motive:=fun _=>R2) (fun n=>nfNat n fun n=>k (.ofNat n)) (fun n=>nfNat n fun n=>k (.negSucc n)) i
def nfL {α:Type}(l:List α):(List α→R2)→R2:=List.rec (motive:=fun _=>(List α→R2)→R2) (fun k=>k []) (fun a _ ih k=>ih fun t=>k (a::t)) l
def nfLm {α:Type}(f:α→(α→R2)→R2) (l:List α):(List α→R2)→R2:=List.rec (motive:=fun _=>(List α→R2)→R2) (fun k=>k []) (fun a _ ih k=>f a fun a=>ih fun t=>k (a::t)) l
def nfStr (s:ByteArray) (k:ByteArray→R2):R2:=ByteArray.rec (motive:=fun _=>R2) (fun a=>Array.rec (motive:=fun _=>R2) (fun l=>nfL l fun l=>k ⟨⟨l⟩⟩) a) s
def nfVal (x:Value) (k:Value→R2):R2:=match x with
 | .int kd i=>nfInt i fun i=>k (.int kd i)
 | .bool b=>Bool.rec (motive:=fun _=>R2) (k (.bool false)) (k (.bool true)) b
 | .string s=>nfStr s fun s=>k (.string s)
 | x=>k x
def nfVal0 (x:Value) (k:Value→R2):R2:=match x with
 | .int kd i=>nfInt i fun i=>k (.int kd i)
 | .bool b=>Bool.rec (motive:=fun _=>R2) (k (.bool false)) (k (.bool true)) b
 | x=>k x
def nfSI (i:SI) (k:SI→R2):R2:=match i with
 | .tok t=>nfNat t fun t=>k (.tok t)
 | .any=>k .any
 | .nil=>k .nil
 | .full=>k .full
 | .isn=>k .isn
 | .nz=>k .nz
def nfV1 (v:V) (k:V→R2):R2:=match v with
 | .c x=>nfVal0 x fun x=>k (.c x)
 | .agg cs=>nfL cs fun cs=>k (.agg cs)
 | .sl us i=>nfSI i fun i=>k (.sl us i)
 | v=>k v
def nf0 (v:V) (k:V→R2):R2:=match v with
 | .c x=>k (.c x)
 | .agg cs=>k (.agg cs)
 | .tup cs=>k (.tup cs)
 | .sl us i=>k (.sl us i)
 | v=>k v
def nfV (v:V) (k:V→R2):R2:=match v with
 | .c x=>nfVal x fun x=>k (.c x)
 | .agg cs=>nfLm nfV1 cs fun cs=>k (.agg cs)
 | .sl us i=>nfL us fun us=>nfSI i fun i=>k (.sl us i)
 | .ptr cs o=>nfL cs fun cs=>nfNat o fun o=>k (.ptr cs o)
 | .ref id o=>nfNat id fun id=>nfNat o fun o=>k (.ref id o)
 | .row id off n z=>nfNat id fun id=>nfNat off fun off=>nfNat n fun n=>k (.row id off n z)
 | .clo f caps=>nfL caps fun caps=>k (.clo f caps)
 | .tsl t n z=>nfNat t fun t=>nfNat n fun n=>k (.tsl t n z)
 | .tref t n o=>nfNat t fun t=>nfNat n fun n=>nfNat o fun o=>k (.tref t n o)
 | .mref id=>nfNat id fun id=>k (.mref id)
 | .bnd f id o=>nfNat id fun id=>nfNat o fun o=>k (.bnd f id o)
 | v=>k v
def nfD (v:V):(V→R2)→R2 :=
 V.rec (motive_1:=fun _=>(V→R2)→R2) (motive_2:=fun _=>(List V→R2)→R2)
  (fun x k=>nfVal0 x fun x=>k (.c x)) (fun cs ih k=>ih fun cs=>k (.agg cs)) (fun vs ih k=>ih fun vs=>k (.tup vs)) (fun us i ih k=>ih fun us=>nfSI i fun i=>k (.sl us i))
  (fun cs o ih k=>ih fun cs=>nfNat o fun o=>k (.ptr cs o)) (fun id o k=>nfNat id fun id=>nfNat o fun o=>k (.ref id o)) (fun f caps ih k=>ih fun caps=>k (.clo f caps))
  (fun id off n z k=>nfNat id fun id=>nfNat off fun off=>nfNat n fun n=>k (.row id off n z)) (fun id n k=>nfNat id fun id=>nfNat n fun n=>k (.buf id n))
  (fun t n z k=>nfNat t fun t=>nfNat n fun n=>k (.tsl t n z)) (fun t n o k=>nfNat t fun t=>nfNat n fun n=>nfNat o fun o=>k (.tref t n o)) (fun k=>k .top)
  (fun ks vs ih k=>ih fun vs=>k (.fmp ks vs)) (fun id k=>nfNat id fun id=>k (.mref id)) (fun l y m caps ih k=>ih fun caps=>nfNat l fun l=>k (.yld l y m caps)) (fun f id o k=>nfNat id fun id=>nfNat o fun o=>k (.bnd f id o))
  (fun k=>k []) (fun v vs ihv ihvs k=>ihv fun v=>ihvs fun vs=>k (v::vs)) v
def nfO (o:O) (k:O→R2):R2:=match o with
 | .cells cs=>nfLm nfV1 cs fun cs=>k (.cells cs)
 | .tok n z=>nfNat n fun n=>k (.tok n z)
 | .tokc n z cs=>nfNat n fun n=>nfLm nfV1 cs fun cs=>k (.tokc n z cs)
 | .mapo ks vs=>nfL ks fun ks=>nfL vs fun vs=>k (.mapo ks vs)
 | .loop s=>nfNat s fun s=>k (.loop s)
 | .dead=>k .dead
 | .free=>k .free
 | .want=>k .want
def nfR (r:R2) (k:R2→R2):R2:=match r with
 | some (v,h)=>nfD v fun v=>nfLm nfO h fun h=>k (some (v,h))
 | none=>k none
theorem nfNat_eq (n:Nat) (k:Nat→R2):nfNat n k=k n:=by cases n<;>rfl
theorem nfInt_eq (i:Int) (k:Int→R2):nfInt i k=k i:=by
 cases i with
 | ofNat n=>exact nfNat_eq n fun n=>k (.ofNat n)
 | negSucc n=>exact nfNat_eq n fun n=>k (.negSucc n)
theorem nfL_eq {α:Type}:∀(l:List α) (k:List α→R2),nfL l k=k l
 | [],_=>rfl
 | a::l,k=>nfL_eq l fun t=>k (a::t)
theorem nfLm_eq {α:Type}{f:α→(α→R2)→R2}(hf:∀a k,f a k=k a):∀(l:List α) (k:List α→R2),nfLm f l k=k l
 | [],_=>rfl
 | a::l,k=>by
  show f a (fun a=>nfLm f l fun t=>k (a::t))=_
  rw [hf,nfLm_eq hf l]
theorem nfStr_eq (s:ByteArray) (k:ByteArray→R2):nfStr s k=k s:=by
 obtain⟨⟨l⟩⟩:=s
 exact nfL_eq l fun l=>k ⟨⟨l⟩⟩
theorem nfVal_eq (x:Value) (k:Value→R2):nfVal x k=k x:=by
 cases x<;>try rfl
 ·rename_i b;cases b<;>rfl
 ·simp only [nfVal,nfInt_eq]
 ·simp only [nfVal,nfStr_eq]
theorem nfVal0_eq (x:Value) (k:Value→R2):nfVal0 x k=k x:=by
 cases x<;>try rfl
 ·rename_i b;cases b<;>rfl
 ·simp only [nfVal0,nfInt_eq]
theorem nfSI_eq (i:SI) (k:SI→R2):nfSI i k=k i:=by
 cases i<;>try rfl
 simp only [nfSI,nfNat_eq]
theorem nfV1_eq (v:V) (k:V→R2):nfV1 v k=k v:=by
 cases v<;>try rfl
 all_goals simp only [nfV1,nfVal0_eq,nfL_eq,nfSI_eq]
theorem nf0_eq (v:V) (k:V→R2):nf0 v k=k v:=by cases v<;>rfl
theorem nfV_eq (v:V) (k:V→R2):nfV v k=k v:=by
 cases v<;>try rfl
 all_goals simp only [nfV,nfVal_eq,nfLm_eq nfV1_eq,nfL_eq,nfNat_eq,nfSI_eq]
theorem nfD_eq (v:V):∀k,nfD v k=k v:=by
 refine V.rec (motive_1:=fun v=>∀k,nfD v k=k v) (motive_2:=fun l=>∀k:List V→R2,
  V.rec_1 (motive_1:=fun _=>(V→R2)→R2) (motive_2:=fun _=>(List V→R2)→R2)
  (fun x k=>nfVal0 x fun x=>k (.c x)) (fun cs ih k=>ih fun cs=>k (.agg cs)) (fun vs ih k=>ih fun vs=>k (.tup vs)) (fun us i ih k=>ih fun us=>nfSI i fun i=>k (.sl us i))
  (fun cs o ih k=>ih fun cs=>nfNat o fun o=>k (.ptr cs o)) (fun id o k=>nfNat id fun id=>nfNat o fun o=>k (.ref id o)) (fun f caps ih k=>ih fun caps=>k (.clo f caps))
  (fun id off n z k=>nfNat id fun id=>nfNat off fun off=>nfNat n fun n=>k (.row id off n z)) (fun id n k=>nfNat id fun id=>nfNat n fun n=>k (.buf id n))
  (fun t n z k=>nfNat t fun t=>nfNat n fun n=>k (.tsl t n z)) (fun t n o k=>nfNat t fun t=>nfNat n fun n=>nfNat o fun o=>k (.tref t n o)) (fun k=>k .top)
  (fun ks vs ih k=>ih fun vs=>k (.fmp ks vs)) (fun id k=>nfNat id fun id=>k (.mref id)) (fun l y m caps ih k=>ih fun caps=>nfNat l fun l=>k (.yld l y m caps)) (fun f id o k=>nfNat id fun id=>nfNat o fun o=>k (.bnd f id o))
  (fun k=>k []) (fun v vs ihv ihvs k=>ihv fun v=>ihvs fun vs=>k (v::vs)) l k=k l)
  (fun x k=>nfVal0_eq x fun x=>k (.c x)) (fun cs ih k=>ih fun cs=>k (.agg cs)) (fun vs ih k=>ih fun vs=>k (.tup vs)) (fun us i ih k=>(ih fun us=>nfSI i fun i=>k (.sl us i)).trans (nfSI_eq i fun i=>k (.sl us i)))
  (fun cs o ih k=>(ih fun cs=>nfNat o fun o=>k (.ptr cs o)).trans (nfNat_eq o fun o=>k (.ptr cs o))) (fun id o k=>(nfNat_eq id fun id=>nfNat o fun o=>k (.ref id o)).trans (nfNat_eq o fun o=>k (.ref id o))) (fun f caps ih k=>ih fun caps=>k (.clo f caps))
  (fun id off n z k=>by show nfNat id (fun id=>nfNat off fun off=>nfNat n fun n=>k (.row id off n z))=_;simp only [nfNat_eq]) (fun id n k=>by show nfNat id (fun id=>nfNat n fun n=>k (.buf id n))=_;simp only [nfNat_eq])
  (fun t n z k=>by show nfNat t (fun t=>nfNat n fun n=>k (.tsl t n z))=_;simp only [nfNat_eq]) (fun t n o k=>by show nfNat t (fun t=>nfNat n fun n=>nfNat o fun o=>k (.tref t n o))=_;simp only [nfNat_eq]) (fun k=>rfl)
  (fun ks vs ih k=>ih fun vs=>k (.fmp ks vs)) (fun id k=>nfNat_eq id fun id=>k (.mref id)) (fun l y m caps ih k=>(ih fun caps=>nfNat l fun l=>k (.yld l y m caps)).trans (nfNat_eq l fun l=>k (.yld l y m caps))) (fun f id o k=>(nfNat_eq id fun id=>nfNat o fun o=>k (.bnd f id o)).trans (nfNat_eq o fun o=>k (.bnd f id o))) (fun k=>rfl) (fun v vs ihv ihvs k=>(ihv fun v=>V.rec_1 (motive_1:=fun _=>(V→R2)→R2) (motive_2:=fun _=>(List V→R2)→R2)
  (fun x k=>nfVal0 x fun x=>k (.c x)) (fun cs ih k=>ih fun cs=>k (.agg cs)) (fun vs ih k=>ih fun vs=>k (.tup vs)) (fun us i ih k=>ih fun us=>nfSI i fun i=>k (.sl us i))
  (fun cs o ih k=>ih fun cs=>nfNat o fun o=>k (.ptr cs o)) (fun id o k=>nfNat id fun id=>nfNat o fun o=>k (.ref id o)) (fun f caps ih k=>ih fun caps=>k (.clo f caps))
  (fun id off n z k=>nfNat id fun id=>nfNat off fun off=>nfNat n fun n=>k (.row id off n z)) (fun id n k=>nfNat id fun id=>nfNat n fun n=>k (.buf id n))
  (fun t n z k=>nfNat t fun t=>nfNat n fun n=>k (.tsl t n z)) (fun t n o k=>nfNat t fun t=>nfNat n fun n=>nfNat o fun o=>k (.tref t n o)) (fun k=>k .top)
  (fun ks vs ih k=>ih fun vs=>k (.fmp ks vs)) (fun id k=>nfNat id fun id=>k (.mref id)) (fun l y m caps ih k=>ih fun caps=>nfNat l fun l=>k (.yld l y m caps)) (fun f id o k=>nfNat id fun id=>nfNat o fun o=>k (.bnd f id o))
  (fun k=>k []) (fun v vs ihv ihvs k=>ihv fun v=>ihvs fun vs=>k (v::vs)) vs fun vs=>k (v::vs)).trans (ihvs fun vs=>k (v::vs))) v
theorem nfO_eq (o:O) (k:O→R2):nfO o k=k o:=by
 cases o<;>simp only [nfO,nfNat_eq,nfL_eq,nfLm_eq nfV1_eq]
theorem nfR_eq (r:R2) (k:R2→R2):nfR r k=k r:=by
 cases r with
 | none=>rfl
 | some p=>obtain⟨v,h⟩:=p;simp only [nfR,nfD_eq,nfLm_eq nfO_eq]
def getS {α:Type}(l:List α):Nat→(α→R2)→R2→R2:=List.rec (motive:=fun _=>Nat→(α→R2)→R2→R2) (fun _ _ d=>d) (fun a _ ih i k d=>Nat.rec (motive:=fun _=>R2) (k a) (fun j _=>ih j k d) i) l
def setS {α:Type}(l:List α):Nat→α→(List α→R2)→R2:=List.rec (motive:=fun _=>Nat→α→(List α→R2)→R2) (fun _ _ k=>k []) (fun a t ih i x k=>Nat.rec (motive:=fun _=>R2) (k (x::t)) (fun j _=>ih j x fun t=>k (a::t)) i) l
theorem getS_eq {α:Type}:∀(l:List α) (i:Nat) (k:α→R2) (d:R2),getS l i k d=match l[i]? with
  | some a=>k a
  | none=>d
 | [],_,_,_=>rfl
 | a::l,0,k,d=>rfl
 | a::l,i+1,k,d=>by
  show getS l i k d=_
  rw [getS_eq l i k d]
  simp
theorem setS_eq {α:Type}:∀(l:List α) (i:Nat) (x:α) (k:List α→R2),setS l i x k=k (l.set i x)
 | [],_,_,_=>rfl
 | a::l,0,x,k=>rfl
 | a::l,i+1,x,k=>by
  show setS l i x (fun t=>k (a::t))=_
  rw [setS_eq l i x]
  rfl
def appS {α:Type}(l m:List α) (k:List α→R2):R2:=List.rec (motive:=fun _=>R2) (k l) (fun _ _ _=>nfL (l++m) k) m
theorem appS_eq {α:Type}(l m:List α) (k:List α→R2):appS l m k=k (l++m):=by
 cases m with
 | nil=>rw [List.append_nil];rfl
 | cons a m=>exact nfL_eq _ _
def evS (tm:List V) (x:A) (k:V→R2):R2:=A.rec (motive:=fun _=>R2) (fun i=>getS tm i k (k undefV)) k x
theorem evS_eq (tm:List V) (x:A) (k:V→R2):evS tm x k=k (ev tm x):=by
 cases x with
 | k v=>rfl
 | t i =>
  simp only [evS,getS_eq,ev,List.getD_eq_getElem?_getD]
  cases tm[i]?<;>rfl
def evLS (tm:List V) (xs:List A):(List V→R2)→R2:=List.rec (motive:=fun _=>(List V→R2)→R2) (fun k=>k []) (fun x _ ih k=>evS tm x fun v=>ih fun t=>k (v::t)) xs
theorem evLS_eq (tm:List V):∀(xs:List A) (k:List V→R2),evLS tm xs k=k (xs.map (ev tm))
 | [],_=>rfl
 | x::xs,k=>by
  show evS tm x (fun v=>evLS tm xs fun t=>k (v::t))=_
  rw [evS_eq,evLS_eq tm xs]
  rfl
def out (r:R2) (k:V→List O→R2) (k0:R2):R2:=match r with
 | some (v,h)=>k v h
 | none=>k0
def out0 (r:R2) (k:V→List O→R2) (k0:R2):R2:=match r with
 | some (v,h)=>nf0 v fun v=>k v h
 | none=>k0
def out1 (r:R2) (k:V→List O→R2) (k0:R2):R2:=match r with
 | some (v,h)=>nfV1 v fun v=>k v h
 | none=>k0
def outV (r:R2) (k:V→List O→R2) (k0:R2):R2:=match r with
 | some (v,h)=>nfV v fun v=>k v h
 | none=>k0
def outH (r:R2) (k:V→List O→R2) (k0:R2):R2:=match r with
 | some (v,h)=>nfV v fun v=>nfLm nfO h fun h=>k v h
 | none=>k0
theorem out0_eq (r:R2) (k:V→List O→R2) (k0:R2):out0 r k k0=out r k k0:=by
 cases r with
 | none=>rfl
 | some p=>obtain⟨v,h⟩:=p;exact nf0_eq v fun v=>k v h
theorem out1_eq (r:R2) (k:V→List O→R2) (k0:R2):out1 r k k0=out r k k0:=by
 cases r with
 | none=>rfl
 | some p=>obtain⟨v,h⟩:=p;exact nfV1_eq v fun v=>k v h
theorem outV_eq (r:R2) (k:V→List O→R2) (k0:R2):outV r k k0=out r k k0:=by
 cases r with
 | none=>rfl
 | some p=>obtain⟨v,h⟩:=p;exact nfV_eq v fun v=>k v h
theorem outH_eq (r:R2) (k:V→List O→R2) (k0:R2):outH r k k0=out r k k0:=by
 cases r with
 | none=>rfl
 | some p=>obtain⟨v,h⟩:=p;simp only [outH,nfV_eq,nfLm_eq nfO_eq];rfl
def storeS (x:V) (n:Nat) (v:V) (h:List O) (k:V→List O→R2) (k0:R2):R2:=match x with
 | .ref id o=>getS h id (fun ob=>match ob with
  | .cells cs=>if okc v=true∧v.cells.length=n∧o+n≤cs.length then nfL (splice cs o v.cells) fun cs=>setS h id (.cells cs) fun h=>k undefV h else k0
  | _=>k0) k0
 | x=>outH (storeF x n v h) k k0
theorem storeS_eq (x:V) (n:Nat) (v:V) (h:List O) (k:V→List O→R2) (k0:R2):storeS x n v h k k0=out (storeF x n v h) k k0:=by
 by_cases hx:∃id o,x=.ref id o
 rotate_left
 ·cases x<;>first|(simp only [storeS,outH_eq];done)|exact absurd ⟨_,_,rfl⟩ hx
 obtain⟨id,o,rfl⟩:=hx
 simp only [storeS,storeF_ref,getS_eq]
 cases h[id]? with
 | none=>rfl
 | some ob =>
  cases ob<;>try rfl
  simp only [storeO_cells,nfL_eq,setS_eq]
  split<;>rfl
def boxS (i:Nat) (v:V) (h:List O) (k:V→List O→R2) (k0:R2):R2:=getS h i (fun ob=>match ob with
 | .dead=>Bool.rec (motive:=fun _=>R2) k0 (nfL v.cells fun cs=>setS h i (.cells cs) fun h=>k (.ref i 0) h) (okc v)
 | _=>k0) k0
theorem boxS_eq (i:Nat) (v:V) (h:List O) (k:V→List O→R2) (k0:R2):boxS i v h k k0=out (boxF h[i]? (okc v) (.ref i 0,h.set i (.cells v.cells))) k k0:=by
 simp only [boxS,getS_eq]
 cases h[i]? with
 | none=>cases okc v <;> rfl
 | some ob =>
  cases ob<;>cases okc v<;>try rfl
  simp only [nfL_eq,setS_eq]
  rfl
abbrev CallK:=Nat→List V→List O→(R2→R2)→R2
def callVS (cfK:CallK) (fv:V) (vs:List V) (h:List O) (k:R2→R2):R2:=match fv with
 | .yld l y m caps=>if rid≤y∧vs.length=m then nfL (vs++caps) fun vs=>cfK y (.c (.int .i64 l)::vs) h fun r=>k (longer h r) else k none
 | .bnd f id o=>if f<rid then cfK f (.ref id o::vs) h fun r=>k (longer h r) else k none
 | fv=>match callee fv with
  | some (f,caps)=>if f<rid then nfL (vs++caps) fun vs=>cfK f vs h fun r=>k (longer h r) else k none
  | none=>k none
theorem callVS_eq {cfK:CallK}{cf:CallF}(hcf:∀f args h k,cfK f args h k=k (cf f args h)) (fv:V) (vs:List V) (h:List O) (k:R2→R2):callVS cfK fv vs h k=k (callV cf fv vs h):=by
 have key:∀fv':V,(match callee fv' with
  | some (f,caps)=>if f<rid then nfL (vs++caps) fun vs=>cfK f vs h fun r=>k (longer h r) else k none
  | none=>k none)=k (match callee fv' with
  | some (f,caps)=>if f<rid then longer h (cf f (vs++caps) h) else none
  | none=>none):=by
  intro fv'
  generalize callee fv'=o
  cases o with
  | none=>rfl
  | some p =>
   obtain⟨f,caps⟩:=p
   simp only [nfL_eq,hcf]
   split<;>rfl
 cases fv
 case yld l y m caps =>
  simp only [callVS,callV,nfL_eq,hcf]
  split<;>rfl
 case bnd f id o =>
  simp only [callVS,callV,hcf]
  split<;>rfl
 all_goals
  simp only [callVS,callV,callFn]
  first|exact key (.c _)|exact key (.agg _)|exact key (.tup _)|exact key (.sl _ _)|exact key (.ptr _ _)|exact key (.ref _ _)|exact key (.clo _ _)|exact key (.row _ _ _ _)|exact key (.buf _ _)|exact key (.tsl _ _ _)|exact key (.tref _ _ _)|exact key .top|exact key (.fmp _ _)|exact key (.mref _)
def cmpN (op:BinOp) (m n:Nat):Option Bool:=match op with
 | .eql=>some (Nat.beq m n)
 | .neq=>some (!Nat.beq m n)
 | .lss=>some (Nat.blt m n)
 | .leq=>some (Nat.ble m n)
 | .gtr=>some (Nat.blt n m)
 | .geq=>some (Nat.ble n m)
 | _=>none
def sameKd:IntKind→IntKind→Bool
 | .i64,.i64=>true
 | .u8,.u8=>true
 | .u64,.u64=>true
 | _,_=>false
theorem sameKd_eq {a b:IntKind}(h:sameKd a b=true):a=b:=by cases a<;>cases b<;>first|rfl|cases h
def fastN (op:BinOp) (kx ky:IntKind) (m n:Nat):Option V:=match op,kx,ky with
 | .add,.i64,.i64=>if Nat.blt (m+n) 4611686018427387904 then some (.c (.int .i64 (.ofNat (m+n)))) else none
 | .sub,.i64,.i64=>if (Nat.ble n m&&Nat.blt m 4611686018427387904) then some (.c (.int .i64 (.ofNat (m-n)))) else none
 | _,_,_=>none
def fastI (op:BinOp) (kx ky:IntKind) (a b:Int):Option V:=match a,b with
 | .ofNat m,.ofNat n=>match cmpN op m n with
  | some t=>if sameKd kx ky then some (.c (.bool t)) else none
  | none=>fastN op kx ky m n
 | _,_=>none
theorem wrap_i64 (n:Nat) (h:n<4611686018427387904):IntKind.wrap .i64 (n:Int)=n:=by
 have:IntKind.wrap .i64 (n:Int)=(let m:=(n:Int) % 18446744073709551616
  if m≥9223372036854775808 then m-18446744073709551616 else m):=by simp [IntKind.wrap,IntKind.bits,IntKind.signed]
 rw [this]
 simp only
 omega
theorem fastN_eq {op:BinOp}{kx ky:IntKind}{m n:Nat}{v:V}(h:fastN op kx ky m n=some v):binV op 0 (.c (.int kx m)) (.c (.int ky n))=some v:=by
 unfold fastN at h
 split at h
 ·split at h
  ·rename_i hb
   simp only [sI] at h
   subst h
   have hb:m+n<4611686018427387904:=by simpa [Nat.blt_eq] using hb
   have:=wrap_i64 (m+n) hb
   simp only [binV,if_true,binI]
   rw [show ((m:Int)+n)=((m+n:Nat):Int) by omega,this]
   rfl
  ·cases h
 ·split at h
  ·rename_i hb
   simp only [sI] at h
   subst h
   simp only [bT,Nat.ble_eq,Nat.blt_eq] at hb
   have:=wrap_i64 (m-n) (by omega)
   simp only [binV,if_true,binI]
   rw [show ((m:Int)-n)=((m-n:Nat):Int) by omega,this]
   rfl
  ·cases h
 ·cases h
theorem fastI_eq {op:BinOp}{kx ky:IntKind}{a b:Int}{v:V}(h:fastI op kx ky a b=some v):binV op 0 (.c (.int kx a)) (.c (.int ky b))=some v:=by
 unfold fastI at h
 split at h
 ·rename_i m n
  split at h
  ·rename_i t ht
   split at h
   ·rename_i hs
    have:=sameKd_eq hs
    subst this
    simp only [sI] at h
    subst h
    rw [binV_int]
    have e0:((Int.ofNat m)==(Int.ofNat n))=Nat.beq m n:=by
     rw [Bool.eq_iff_iff,beq_iff_eq,Nat.beq_eq]
     constructor
     ·intro h;exact Int.ofNat.inj h
     ·intro h;rw [h]
    unfold cmpN at ht
    split at ht<;>simp only [sI,reduceCtorEq] at ht<;>subst ht<;>simp only [binI,sI,V.c.injEq,Value.bool.injEq]
    ·exact e0
    ·exact congrArg (! ·) e0
    ·rw [Bool.eq_iff_iff];simp [Nat.blt_eq]
    ·rw [Bool.eq_iff_iff];simp [Nat.ble_eq]
    ·rw [Bool.eq_iff_iff];simp [Nat.blt_eq]
    ·rw [Bool.eq_iff_iff];simp [Nat.ble_eq]
   ·cases h
  ·exact fastN_eq h
 ·cases h
def binW (op:BinOp) (q:Nat) (x y:V) (h:List O) (k:V→List O→R2) (k0:R2):R2:=outV ((binV op q x y).map fun v=>(v,h)) k k0
def binK (op:BinOp) (q:Nat) (x y:V) (h:List O) (k:V→List O→R2) (k0:R2):R2:=match q,x,y with
 | 0,.c (.int kx a),.c (.int ky b)=>match fastI op kx ky a b with
  | some v=>nfV v fun v=>k v h
  | none=>binW op 0 (.c (.int kx a)) (.c (.int ky b)) h k k0
 | q,x,y=>binW op q x y h k k0
theorem binK_eq (op:BinOp) (q:Nat) (x y:V) (h:List O) (k:V→List O→R2) (k0:R2):binK op q x y h k k0=out ((binV op q x y).map fun v=>(v,h)) k k0:=by
 unfold binK
 split
 ·split
  ·rename_i v hv
   rw [fastI_eq hv,nfV_eq]
   rfl
  ·simp only [binW,outV_eq]
 ·simp only [binW,outV_eq]
def noCf:CallF:=fun _ _ _=>none
def lenF2 (s:Bool) (x:V) (h:List O):R2:=match s with
 | true=>lenS x h
 | false=>lenF x h
def aK_mv (x:A) (cfK:CallK) (tm:List V) (h:List O) (base rb:Nat) (k:V→List O→R2) (k0:R2):R2:=evS tm x fun v=>k v h
def aK_pick (c a b:A) (cfK:CallK) (tm:List V) (h:List O) (base rb:Nat) (k:V→List O→R2) (k0:R2):R2:=evS tm c fun c=>evS tm a fun a=>evS tm b fun b=>out0 (pickF c a b h) k k0
def aK_alloc (al:Nat) (z:List V) (cfK:CallK) (tm:List V) (h:List O) (base rb:Nat) (k:V→List O→R2) (k0:R2):R2:=nfNat (rb+al) fun i=>k (.ref i 0) h
def aK_box (al:Nat) (x:A) (cfK:CallK) (tm:List V) (h:List O) (base rb:Nat) (k:V→List O→R2) (k0:R2):R2:=evS tm x fun v=>nfNat (rb+al) fun i=>boxS i v h k k0
def aK_build (z:List V) (ps:List (Nat × Nat × A)) (cfK:CallK) (tm:List V) (h:List O) (base rb:Nat) (k:V→List O→R2) (k0:R2):R2:=outH (actF noCf ⟨toE tm,h,base,rb⟩ (.build z ps)) k k0
def aK_bslice (al z:Nat) (ps:List A) (cfK:CallK) (tm:List V) (h:List O) (base rb:Nat) (k:V→List O→R2) (k0:R2):R2:=outH (actF noCf ⟨toE tm,h,base,rb⟩ (.bslice al z ps)) k k0
def aK_load (n:Option Nat) (x:A) (cfK:CallK) (tm:List V) (h:List O) (base rb:Nat) (k:V→List O→R2) (k0:R2):R2:=evS tm x fun x=>out1 (loadF x n h) k k0
def aK_store (n:Nat) (a x:A) (cfK:CallK) (tm:List V) (h:List O) (base rb:Nat) (k:V→List O→R2) (k0:R2):R2:=evS tm a fun a=>evS tm x fun x=>storeS a n x h k k0
def aK_bin (op:BinOp) (q:Nat) (x y:A) (cfK:CallK) (tm:List V) (h:List O) (base rb:Nat) (k:V→List O→R2) (k0:R2):R2:=evS tm x fun x=>evS tm y fun y=>binK op q x y h k k0
def aK_un (op:UnOp) (x:A) (cfK:CallK) (tm:List V) (h:List O) (base rb:Nat) (k:V→List O→R2) (k0:R2):R2:=outH (actF noCf ⟨toE tm,h,base,rb⟩ (.un op x)) k k0
def aK_fieldAddr (o:Nat) (x:A) (cfK:CallK) (tm:List V) (h:List O) (base rb:Nat) (k:V→List O→R2) (k0:R2):R2:=evS tm x fun x=>outV (faF o x h) k k0
def aK_field (o:Nat) (n:Option Nat) (x:A) (cfK:CallK) (tm:List V) (h:List O) (base rb:Nat) (k:V→List O→R2) (k0:R2):R2:=evS tm x fun x=>out1 (fieldF o n x h) k k0
def aK_indexAddr (z:Nat) (x i:A) (cfK:CallK) (tm:List V) (h:List O) (base rb:Nat) (k:V→List O→R2) (k0:R2):R2:=evS tm x fun x=>evS tm i fun i=>outV (iaF z x (idx i) h) k k0
def aK_index (x i:A) (cfK:CallK) (tm:List V) (h:List O) (base rb:Nat) (k:V→List O→R2) (k0:R2):R2:=evS tm x fun x=>evS tm i fun i=>outV (ixF x (idx i) h) k k0
def aK_slice (s:Bool) (z:Nat) (x:A) (lo hi mx:Option A) (cfK:CallK) (tm:List V) (h:List O) (base rb:Nat) (k:V→List O→R2) (k0:R2):R2:=outH (actF noCf ⟨toE tm,h,base,rb⟩ (.slice s z x lo hi mx)) k k0
def aK_extract (x:A) (i:Nat) (cfK:CallK) (tm:List V) (h:List O) (base rb:Nat) (k:V→List O→R2) (k0:R2):R2:=evS tm x fun x=>out0 (extF x i h) k k0
def aK_len (s:Bool) (x:A) (cfK:CallK) (tm:List V) (h:List O) (base rb:Nat) (k:V→List O→R2) (k0:R2):R2:=evS tm x fun x=>outV (lenF2 s x h) k k0
def aK_append (al:Nat) (z:Option Nat) (b:Nat) (rw:Bool) (x y:A) (cfK:CallK) (tm:List V) (h:List O) (base rb:Nat) (k:V→List O→R2) (k0:R2):R2:=evS tm x fun x=>evS tm y fun y=>outH (appF base (rb+al) b z rw h x (srcV h y)) k k0
def aK_mm (m:Bool) (ps:List A) (cfK:CallK) (tm:List V) (h:List O) (base rb:Nat) (k:V→List O→R2) (k0:R2):R2:=outH (actF noCf ⟨toE tm,h,base,rb⟩ (.mm m ps)) k k0
def aK_conv (kd:IntKind) (x:A) (cfK:CallK) (tm:List V) (h:List O) (base rb:Nat) (k:V→List O→R2) (k0:R2):R2:=evS tm x fun x=>outV (convF kd x h) k k0
def aK_call (f:A) (args:List A) (cfK:CallK) (tm:List V) (h:List O) (base rb:Nat) (k:V→List O→R2) (k0:R2):R2:=evS tm f fun f=>evLS tm args fun vs=>callVS cfK f vs h fun r=>out r k k0
def aK_clos (f:Nat) (ps:List A) (cfK:CallK) (tm:List V) (h:List O) (base rb:Nat) (k:V→List O→R2) (k0:R2):R2:=outH (actF noCf ⟨toE tm,h,base,rb⟩ (.clos f ps)) k k0
def aK_nilchk (x:A) (cfK:CallK) (tm:List V) (h:List O) (base rb:Nat) (k:V→List O→R2) (k0:R2):R2:=evS tm x fun x=>out0 (nckF x h) k k0
def aK_makeMap (al:Nat) (cfK:CallK) (tm:List V) (h:List O) (base rb:Nat) (k:V→List O→R2) (k0:R2):R2:=outH (actF noCf ⟨toE tm,h,base,rb⟩ (.makeMap al)) k k0
def aK_lookup (kd:Option (List Nat)) (z:V) (ok:Bool) (x y:A) (cfK:CallK) (tm:List V) (h:List O) (base rb:Nat) (k:V→List O→R2) (k0:R2):R2:=outH (actF noCf ⟨toE tm,h,base,rb⟩ (.lookup kd z ok x y)) k k0
def aK_mapUpd (kd:Option (List Nat)) (m a v:A) (cfK:CallK) (tm:List V) (h:List O) (base rb:Nat) (k:V→List O→R2) (k0:R2):R2:=outH (actF noCf ⟨toE tm,h,base,rb⟩ (.mapUpd kd m a v)) k k0
def aK_mksl (al:Nat) (z:Option Nat) (zero:List V) (n:A) (cfK:CallK) (tm:List V) (h:List O) (base rb:Nat) (k:V→List O→R2) (k0:R2):R2:=outH (actF noCf ⟨toE tm,h,base,rb⟩ (.mksl al z zero n)) k k0
def aK_eqs (neg:Bool) (kd:List Nat) (x y:A) (cfK:CallK) (tm:List V) (h:List O) (base rb:Nat) (k:V→List O→R2) (k0:R2):R2:=outH (actF noCf ⟨toE tm,h,base,rb⟩ (.eqs neg kd x y)) k k0
def aK_bndm (f:Nat) (x:A) (cfK:CallK) (tm:List V) (h:List O) (base rb:Nat) (k:V→List O→R2) (k0:R2):R2:=evS tm x fun x=>outV (bndF f x h) k k0
def aK_load1 (x:A) (cfK:CallK) (tm:List V) (h:List O) (base rb:Nat) (k:V→List O→R2) (k0:R2):R2:=outH (actF noCf ⟨toE tm,h,base,rb⟩ (.load1 x)) k k0
def aK_load2 (n:Option Nat) (x:A) (cfK:CallK) (tm:List V) (h:List O) (base rb:Nat) (k:V→List O→R2) (k0:R2):R2:=outH (actF noCf ⟨toE tm,h,base,rb⟩ (.load2 n x)) k k0
def actS (op:XOp):CallK→List V→List O→Nat→Nat→(V→List O→R2)→R2→R2:=XOp.rec (motive:=fun _=>CallK→List V→List O→Nat→Nat→(V→List O→R2)→R2→R2) aK_mv aK_pick aK_alloc aK_box aK_build aK_bslice aK_load aK_store aK_bin aK_un aK_fieldAddr aK_field aK_indexAddr aK_index aK_slice aK_extract aK_len aK_append aK_mm aK_conv aK_call aK_clos aK_nilchk aK_makeMap aK_lookup aK_mapUpd aK_mksl aK_eqs aK_bndm aK_load1 aK_load2 op
theorem act_F (cf:CallF) (st:St) (op:XOp):act cf st op=actF cf ⟨toE st.tm,st.h,st.base,st.rb⟩ op:=act_sub.symm
theorem ev_E (tm:List V) (x:A):x.val (toE tm)=ev tm x:=by cases x<;>rfl
theorem actS_eq {cfK:CallK}{cf:CallF}(hcf:∀f args h k,cfK f args h k=k (cf f args h)) (tm:List V) (h:List O) (base rb:Nat) (op:XOp) (k:V→List O→R2) (k0:R2):actS op cfK tm h base rb k k0=out (act cf ⟨tm,h,base,rb⟩ op) k k0:=by
 rw [act_F]
 cases op
 case len s x=>show aK_len s x cfK tm h base rb k k0=_;cases s<;>simp only [aK_len,lenF2,evS_eq,outV_eq,actF_len,actF_lenS,ev_E]
 case mv x=>show aK_mv x cfK tm h base rb k k0=_;simp only [aK_mv,evS_eq,actF_mv,ev_E];rfl
 case pick c a b=>show aK_pick c a b cfK tm h base rb k k0=_;simp only [aK_pick,evS_eq,out0_eq,actF_pick,ev_E]
 case alloc al z=>show aK_alloc al z cfK tm h base rb k k0=_;simp only [aK_alloc,nfNat_eq,actF_alloc];rfl
 case box al x=>show aK_box al x cfK tm h base rb k k0=_;simp only [aK_box,evS_eq,nfNat_eq,boxS_eq,actF_box,ev_E]
 case bin op q x y=>show aK_bin op q x y cfK tm h base rb k k0=_;simp only [aK_bin,evS_eq,binK_eq,actF_bin,ev_E]
 case load n x=>show aK_load n x cfK tm h base rb k k0=_;simp only [aK_load,evS_eq,out1_eq,actF_load,ev_E]
 case store n a x=>show aK_store n a x cfK tm h base rb k k0=_;simp only [aK_store,evS_eq,storeS_eq,ev_E];rw [actF_store,ev_E,ev_E]
 case fieldAddr o x=>show aK_fieldAddr o x cfK tm h base rb k k0=_;simp only [aK_fieldAddr,evS_eq,outV_eq,actF_fieldAddr,ev_E]
 case field o n x=>show aK_field o n x cfK tm h base rb k k0=_;simp only [aK_field,evS_eq,out1_eq,actF_field,ev_E]
 case indexAddr z x i=>show aK_indexAddr z x i cfK tm h base rb k k0=_;simp only [aK_indexAddr,evS_eq,outV_eq,actF_indexAddr,ev_E]
 case index x i=>show aK_index x i cfK tm h base rb k k0=_;simp only [aK_index,evS_eq,outV_eq,actF_index,ev_E]
 case extract x i=>show aK_extract x i cfK tm h base rb k k0=_;simp only [aK_extract,evS_eq,out0_eq,actF_extract,ev_E]
 case conv kd x=>show aK_conv kd x cfK tm h base rb k k0=_;simp only [aK_conv,evS_eq,outV_eq,actF_conv,ev_E]
 case nilchk x=>show aK_nilchk x cfK tm h base rb k k0=_;simp only [aK_nilchk,evS_eq,out0_eq,actF_nilchk,ev_E]
 case append al z b rw x y=>show aK_append al z b rw x y cfK tm h base rb k k0=_;simp only [aK_append,evS_eq,outH_eq,actF_append,ev_E]
 case call f args =>
  have:args.map (A.val (toE tm))=args.map (ev tm):=List.map_congr_left fun x _=>ev_E tm x
  show aK_call f args cfK tm h base rb k k0=_
  simp only [aK_call,evS_eq,evLS_eq,callVS_eq hcf,actF_call,ev_E,this]
 case build z ps=>show aK_build z ps cfK tm h base rb k k0=_;simp only [aK_build,outH_eq];rfl
 case bslice al z ps=>show aK_bslice al z ps cfK tm h base rb k k0=_;simp only [aK_bslice,outH_eq];rfl
 case un op x=>show aK_un op x cfK tm h base rb k k0=_;simp only [aK_un,outH_eq];rfl
 case slice s z x lo hi mx=>show aK_slice s z x lo hi mx cfK tm h base rb k k0=_;simp only [aK_slice,outH_eq];rfl
 case mm m ps=>show aK_mm m ps cfK tm h base rb k k0=_;simp only [aK_mm,outH_eq];rfl
 case clos f ps=>show aK_clos f ps cfK tm h base rb k k0=_;simp only [aK_clos,outH_eq];rfl
 case makeMap al=>show aK_makeMap al cfK tm h base rb k k0=_;simp only [aK_makeMap,outH_eq];rfl
 case lookup kd z ok x y=>show aK_lookup kd z ok x y cfK tm h base rb k k0=_;simp only [aK_lookup,outH_eq];rfl
 case mapUpd kd m a v=>show aK_mapUpd kd m a v cfK tm h base rb k k0=_;simp only [aK_mapUpd,outH_eq];rfl
 case mksl al z zero n=>show aK_mksl al z zero n cfK tm h base rb k k0=_;simp only [aK_mksl,outH_eq];rfl
 case eqs neg kd x y=>show aK_eqs neg kd x y cfK tm h base rb k k0=_;simp only [aK_eqs,outH_eq];rfl
 case bndm f x=>show aK_bndm f x cfK tm h base rb k k0=_;simp only [aK_bndm,evS_eq,outV_eq,actF_bndm,ev_E]
 case load2 n x=>show aK_load2 n x cfK tm h base rb k k0=_;simp only [aK_load2,outH_eq];rfl
 case load1 x=>show aK_load1 x cfK tm h base rb k k0=_;simp only [aK_load1,outH_eq];rfl
def putS (tm:List V) (d:Option Nat) (v:V) (k:List V→R2):R2:=Option.rec (motive:=fun _=>R2) (k tm) (fun d=>setS tm d v k) d
theorem putS_eq (tm:List V) (d:Option Nat) (v:V) (k:List V→R2):putS tm d v k=k (putV tm d v):=by
 cases d with
 | none=>rfl
 | some d=>exact setS_eq _ _ _ _
def guardS (b:Bool) (gv:V) (go no:R2) (k0:R2):R2:=match gv with
 | .c (.bool x)=>Bool.rec (motive:=fun _=>R2) no go (x==b)
 | .top=>k0
 | _=>no
def stepS (cfK:CallK) (base rb:Nat) (o:XOper) (tm:List V) (h:List O) (k:List V→List O→R2) (k0:R2):R2 :=
 XOper.rec (motive:=fun _=>R2) (fun d op g=>Option.rec (motive:=fun _=>R2) (actS op cfK tm h base rb (fun v h=>putS tm d v fun tm=>k tm h) k0)
  (fun p=>Prod.rec (motive:=fun _=>R2) (fun t b=>getS tm t (fun gv=>guardS b gv (actS op cfK tm h base rb (fun v h=>putS tm d v fun tm=>k tm h) k0) (putS tm d undefV fun tm=>k tm h) k0) (putS tm d undefV fun tm=>k tm h)) p) g) o
def outT (r:Option St) (k:List V→List O→R2) (k0:R2):R2:=match r with
 | some st=>k st.tm st.h
 | none=>k0
theorem stepS_eq {cfK:CallK}{cf:CallF}(hcf:∀f args h k,cfK f args h k=k (cf f args h)) (base rb:Nat) (o:XOper) (tm:List V) (h:List O) (k:List V→List O→R2) (k0:R2) :
  stepS cfK base rb o tm h k k0=outT (stepO cf o ⟨tm,h,base,rb⟩) k k0:=by
 have key:∀(op:XOp) (d:Option Nat),out (act cf ⟨tm,h,base,rb⟩ op) (fun v h=>k (putV tm d v) h) k0=outT (match act cf ⟨tm,h,base,rb⟩ op with
   | some (v,h)=>some { tm:=putV tm d v,h:=h,base:=base,rb:=rb }
   | none=>none) k k0:=by
  intro op d
  cases act cf ⟨tm,h,base,rb⟩ op with
  | none=>rfl
  | some p=>rfl
 obtain⟨d,op,g⟩:=o
 unfold stepO
 cases g with
 | none =>
  simp only [stepS,actS_eq hcf,putS_eq,known,wants,if_true]
  exact key op d
 | some p =>
  obtain⟨t,b⟩:=p
  obtain⟨gg,hg⟩:∃gg,tm[t]?=gg:=⟨_,rfl⟩
  simp only [stepS,actS_eq hcf,putS_eq,getS_eq,known,wants,hg]
  cases gg with
  | none=>rfl
  | some gv =>
   cases gv with
   | c x =>
    cases x with
    | bool x =>
     simp only [guardS,if_true]
     cases x<;>cases b<;>first|rfl|exact key op d
    | _=>rfl
   | _=>rfl
def runS (cfK:CallK) (base rb:Nat) (ops:List XOper):List V→List O→(List V→List O→R2)→R2→R2 :=
 List.rec (motive:=fun _=>List V→List O→(List V→List O→R2)→R2→R2) (fun tm h k _=>k tm h) (fun o _ ih tm h k k0=>stepS cfK base rb o tm h (fun tm h=>ih tm h k k0) k0) ops
theorem step_keeps {cf:CallF}{o:XOper}{st st':St}(h:stepO cf o st=some st'):st'.base=st.base∧st'.rb=st.rb:=by
 obtain⟨a,b⟩:=step_rb h
 exact⟨b,a⟩
theorem runS_eq {cfK:CallK}{cf:CallF}(hcf:∀f args h k,cfK f args h k=k (cf f args h)) (base rb:Nat):∀(ops:List XOper) (tm:List V) (h:List O) (k:List V→List O→R2) (k0:R2),
  runS cfK base rb ops tm h k k0=outT (runOps cf ops ⟨tm,h,base,rb⟩) k k0
 | [],_,_,_,_=>rfl
 | o::ops,tm,h,k,k0=>by
  show stepS cfK base rb o tm h (fun tm h=>runS cfK base rb ops tm h k k0) k0=_
  rw [stepS_eq hcf]
  unfold runOps
  cases hs:stepO cf o ⟨tm,h,base,rb⟩ with
  | none=>rfl
  | some st =>
   obtain⟨e1,e2⟩:=step_keeps hs
   obtain⟨tm',h',b',r'⟩:=st
   simp only at e1 e2
   subst e1 e2
   exact runS_eq hcf _ _ ops _ _ k k0
def frame0S (m:Nat) (cfK:CallK):CallK:=fun f args H k =>
 if f<rid∧m≤H.length∧V.lows m args=true∧(H.take m).all (O.low m)=true then
  nfL (H.take m) fun h=>cfK f args h fun r=>match r with
   | some (r,h1)=>if h1.length=m then nfL (h1++H.drop m) fun h=>k (some (r,h)) else k none
   | none=>k none
 else k none
theorem frame0S_eq {cfK:CallK}{cf:CallF}(hcf:∀f args h k,cfK f args h k=k (cf f args h)) (m:Nat) (f:Nat) (args:List V) (H:List O) (k:R2→R2):frame0S m cfK f args H k=k (frameC0 m cf f args H):=by
 simp only [frame0S,nfL_eq,hcf,frameC0]
 split
 ·cases cf f args (H.take m) with
  | none=>rfl
  | some p =>
   obtain⟨r,h1⟩:=p
   simp only
   split<;>rfl
 ·rfl
def frameS (m:Nat) (cfK:CallK):CallK:=fun f args H k=>if V.lows m args=true then frame0S m cfK f args H k else frame0S m cfK f (args.map V.vw2) H k
theorem frameS_eq {cfK:CallK}{cf:CallF}(hcf:∀f args h k,cfK f args h k=k (cf f args h)) (m:Nat) (f:Nat) (args:List V) (H:List O) (k:R2→R2):frameS m cfK f args H k=k (frameCf m cf f args H):=by
 unfold frameS frameCf
 split<;>rw [frame0S_eq hcf]
def runWS (m:Nat) (lt:Bool) (cfK:CallK) (base rb:Nat) (ops:List XOper):List V→List O→(List V→List O→R2)→R2→R2 :=
 List.rec (motive:=fun _=>List V→List O→(List V→List O→R2)→R2→R2) (fun tm h k _=>k tm h) (fun o _ ih tm h k k0=>Bool.rec (motive:=fun _=>R2) k0 (stepS (frameS m cfK) base rb o tm h (fun tm h=>ih tm h k k0) k0) (lateB lt o||ownB m ⟨tm,h,base,rb⟩ o.op)) ops
theorem runWS_eq {m:Nat}{lt:Bool}{cfK:CallK}{cf:CallF}(hcf:∀f args h k,cfK f args h k=k (cf f args h)) (base rb:Nat):∀(ops:List XOper) (tm:List V) (h:List O) (k:List V→List O→R2) (k0:R2),
  runWS m lt cfK base rb ops tm h k k0=outT (runW m lt cf ops ⟨tm,h,base,rb⟩) k k0
 | [],_,_,_,_=>rfl
 | o::ops,tm,h,k,k0=>by
  show Bool.rec (motive:=fun _=>R2) k0 (stepS (frameS m cfK) base rb o tm h (fun tm h=>runWS m lt cfK base rb ops tm h k k0) k0) (lateB lt o||ownB m ⟨tm,h,base,rb⟩ o.op)=_
  rw [stepS_eq (frameS_eq hcf m)]
  unfold runW stepW
  cases ho:lateB lt o||ownB m ⟨tm,h,base,rb⟩ o.op with
  | false=>rfl
  | true =>
   simp only [if_true]
   cases hs:stepO (frameCf m cf) o ⟨tm,h,base,rb⟩ with
   | none=>rfl
   | some st =>
    obtain⟨e1,e2⟩:=step_keeps hs
    obtain⟨tm',h',b',r'⟩:=st
    simp only at e1 e2
    subst e1 e2
    exact runWS_eq hcf _ _ ops _ _ k k0
def roS (m:Nat) (cfK:CallK):CallK:=fun f args H k =>
 if f<rid∧m≤H.length∧V.lows m args=true∧(H.take m).all (O.low m)=true then
  nfL (H.take m) fun h=>cfK f args h fun r=>match r with
   | some (r,h1)=>if h1.length=m∧sameH (H.take m) h1=true then k (some (r,H)) else k none
   | none=>k none
 else k none
theorem roS_eq {cfK:CallK}{cf:CallF}(hcf:∀f args h k,cfK f args h k=k (cf f args h)) (m:Nat) (f:Nat) (args:List V) (H:List O) (k:R2→R2):roS m cfK f args H k=k (roCf m cf f args H):=by
 simp only [roS,nfL_eq,hcf,roCf]
 split
 ·cases cf f args (H.take m) with
  | none=>rfl
  | some p =>
   obtain⟨r,h1⟩:=p
   simp only
   split<;>rfl
 ·rfl
def runRS (m:Nat) (cfK:CallK) (base rb:Nat) (ops:List XOper):List V→List O→(List V→List O→R2)→R2→R2 :=
 List.rec (motive:=fun _=>List V→List O→(List V→List O→R2)→R2→R2) (fun tm h k _=>k tm h) (fun o _ ih tm h k k0=>Bool.rec (motive:=fun _=>R2) k0 (stepS (roS m cfK) base rb o tm h (fun tm h=>ih tm h k k0) k0) (tokB m ⟨tm,h,base,rb⟩ o.op)) ops
theorem runRS_eq {m:Nat}{cfK:CallK}{cf:CallF}(hcf:∀f args h k,cfK f args h k=k (cf f args h)) (base rb:Nat):∀(ops:List XOper) (tm:List V) (h:List O) (k:List V→List O→R2) (k0:R2),
  runRS m cfK base rb ops tm h k k0=outT (runR m cf ops ⟨tm,h,base,rb⟩) k k0
 | [],_,_,_,_=>rfl
 | o::ops,tm,h,k,k0=>by
  show Bool.rec (motive:=fun _=>R2) k0 (stepS (roS m cfK) base rb o tm h (fun tm h=>runRS m cfK base rb ops tm h k k0) k0) (tokB m ⟨tm,h,base,rb⟩ o.op)=_
  rw [stepS_eq (roS_eq hcf m)]
  unfold runR stepR
  cases ho:tokB m ⟨tm,h,base,rb⟩ o.op with
  | false=>rfl
  | true =>
   simp only [if_true]
   cases hs:stepO (roCf m cf) o ⟨tm,h,base,rb⟩ with
   | none=>rfl
   | some st =>
    obtain⟨e1,e2⟩:=step_keeps hs
    obtain⟨tm',h',b',r'⟩:=st
    simp only at e1 e2
    subst e1 e2
    exact runRS_eq hcf _ _ ops _ _ k k0
end
noncomputable section
def outE (r:Option (Ex × St)) (k:Ex→St→R2) (k0:R2):R2:=match r with
 | some (e,st)=>k e st
 | none=>k0
def iterS (f:St→(Ex→St→R2)→R2→R2) (n:Nat):St→(Ex→St→R2)→R2→R2 :=
 Nat.rec (motive:=fun _=>St→(Ex→St→R2)→R2→R2) (fun _ _ k0=>k0) (fun _ ih st k k0=>f st (fun e st=>match e with
  | .normal=>ih st k k0
  | e=>k e st) k0) n
def execS (cfK:CallK) (n:Nat) (xc:XC):St→(Ex→St→R2)→R2→R2 :=
 XC.rec (motive:=fun _=>St→(Ex→St→R2)→R2→R2)
  (fun st k _=>k .normal st)
  (fun ops pre _ st k k0=>St.rec (motive:=fun _=>R2) (fun tm h base rb=>appS h pre fun h'=>nfNat h.length fun rb'=>runS cfK base rb' ops tm h' (fun tm h=>k .normal ⟨tm,h,base,rb'⟩) k0) st)
  (fun ops pre st k k0=>St.rec (motive:=fun _=>R2) (fun tm h base rb=>appS h pre fun h'=>nfNat h.length fun rb'=>runWS base false cfK base rb' ops tm h' (fun tm h=>k .normal ⟨tm,h,base,rb'⟩) k0) st)
  (fun ops pre st k k0=>St.rec (motive:=fun _=>R2) (fun tm h base rb=>nfNat (thr ⟨tm,h,base,rb⟩ ops) fun m=>appS h pre fun h'=>nfNat h.length fun rb'=>runWS m true cfK base rb' ops tm h' (fun tm h=>k .normal ⟨tm,h,base,rb'⟩) k0) st)
  (fun ops pre st k k0=>St.rec (motive:=fun _=>R2) (fun tm h base rb=>nfNat (min base h.length) fun m=>appS h pre fun h'=>nfNat h.length fun rb'=>runRS m cfK base rb' ops tm h' (fun tm h=>k .normal ⟨tm,h,base,rb'⟩) k0) st)
  (fun _ _ iha ihb st k k0=>iha st (fun e st=>match e with
   | .normal=>ihb st k k0
   | e=>k e st) k0)
  (fun c _ _ iha ihb st k k0=>evS st.tm c fun v=>match v with
   | .c (.bool t)=>Bool.rec (motive:=fun _=>R2) (ihb st k k0) (iha st k k0) t
   | _=>k0)
  (fun id _ ih st k k0=>ih st (fun e st=>match e with
   | .exit id'=>if id'=id then k .normal st else k (.exit id') st
   | e=>k e st) k0)
  (fun _ ih st k k0=>iterS ih n st k k0)
  (fun id st k _=>k (.exit id) st)
  (fun st k _=>k .ret st)
  (fun f y m nt us st k k0=>St.rec (motive:=fun _=>R2) (fun tm h base rb=>evS tm f fun fv=>match callee fv with
   | some (g,lb)=>if g<rid∧rid≤y∧tm.length=nt then nfLm nf0 (keepV nt us tm) fun caps=>nfNat h.length fun l=>nfL (h++[.loop 0]) fun h1=>cfK g (.yld l y m caps::lb) h1 fun r=>match r with
     | some (_,h')=>getS h' l (fun ob=>match ob with
      | .loop s=>match Ex.ofNum s with
       | some e=>setS h' l (.loop 2) fun h=>k e ⟨tm,h,base,rb⟩
       | none=>k0
      | _=>k0) k0
     | none=>k0
    else k0
   | none=>k0) st) xc
theorem iterS_eq {f:St→(Ex→St→R2)→R2→R2}{g:St→Option (Ex × St)}(hf:∀st k k0,f st k k0=outE (g st) k k0):∀(n:Nat) (st:St) (k:Ex→St→R2) (k0:R2),iterS f n st k k0=outE (iter g n st) k k0
 | 0,_,_,_=>rfl
 | n+1,st,k,k0=>by
  show f st (fun e st=>match e with
   | .normal=>iterS f n st k k0
   | e=>k e st) k0=_
  rw [hf]
  unfold iter
  cases g st with
  | none=>rfl
  | some p =>
   obtain⟨e,st'⟩:=p
   cases e with
   | normal=>exact iterS_eq hf n st' k k0
   | exit id=>rfl
   | ret=>rfl
theorem execS_eq {cfK:CallK}{cf:CallF}(hcf:∀f args h k,cfK f args h k=k (cf f args h)) (n:Nat):∀(xc:XC) (st:St) (k:Ex→St→R2) (k0:R2),execS cfK n xc st k k0=outE (exec cf n xc st) k k0:=by
 intro xc
 induction xc with
 | skip=>intros;rfl
 | reg ops pre d =>
  intro st k k0
  obtain⟨tm,h,base,rb⟩:=st
  show (appS h pre fun h'=>nfNat h.length fun rb'=>runS cfK base rb' ops tm h' (fun tm h=>k .normal ⟨tm,h,base,rb'⟩) k0)=_
  rw [appS_eq,nfNat_eq,runS_eq hcf]
  unfold exec
  simp only
  have hk:∀(ops:List XOper) (st st':St),runOps cf ops st=some st'→st'.base=st.base∧st'.rb=st.rb:=by
   intro ops
   induction ops with
   | nil=>intro st st' e;simp only [runOps,sI] at e;subst e;exact⟨rfl,rfl⟩
   | cons o ops ih =>
    intro st st' e
    unfold runOps at e
    split at e
    ·rename_i s1 h1
     obtain⟨a1,a2⟩:=step_keeps h1
     obtain⟨b1,b2⟩:=ih _ _ e
     exact⟨b1.trans a1,b2.trans a2⟩
    ·cases e
  cases hr:runOps cf ops ⟨tm,h++pre,base,h.length⟩ with
  | none=>rfl
  | some st' =>
   obtain⟨e1,e2⟩:=hk _ _ _ hr
   obtain⟨tm',h',b',r'⟩:=st'
   simp only at e1 e2
   subst e1 e2
   rfl
 | regw ops pre =>
  intro st k k0
  obtain⟨tm,h,base,rb⟩:=st
  show (appS h pre fun h'=>nfNat h.length fun rb'=>runWS base false cfK base rb' ops tm h' (fun tm h=>k .normal ⟨tm,h,base,rb'⟩) k0)=_
  rw [appS_eq,nfNat_eq,runWS_eq hcf]
  unfold exec
  simp only
  have hk:∀(ops:List XOper) (st st':St),runW base false cf ops st=some st'→st'.base=st.base∧st'.rb=st.rb:=by
   intro ops
   induction ops with
   | nil=>intro st st' e;simp only [runW,sI] at e;subst e;exact⟨rfl,rfl⟩
   | cons o ops ih =>
    intro st st' e
    unfold runW at e
    split at e
    ·rename_i s1 h1
     obtain⟨a1,a2⟩:=step_keeps (stepW_plain h1)
     obtain⟨b1,b2⟩:=ih _ _ e
     exact⟨b1.trans a1,b2.trans a2⟩
    ·cases e
  cases hr:runW base false cf ops ⟨tm,h++pre,base,h.length⟩ with
  | none=>rfl
  | some st' =>
   obtain⟨e1,e2⟩:=hk _ _ _ hr
   obtain⟨tm',h',b',r'⟩:=st'
   simp only at e1 e2
   subst e1 e2
   rfl
 | regm ops pre =>
  intro st k k0
  obtain⟨tm,h,base,rb⟩:=st
  show (nfNat (thr ⟨tm,h,base,rb⟩ ops) fun m=>appS h pre fun h'=>nfNat h.length fun rb'=>runWS m true cfK base rb' ops tm h' (fun tm h=>k .normal ⟨tm,h,base,rb'⟩) k0)=_
  rw [nfNat_eq,appS_eq,nfNat_eq,runWS_eq hcf]
  unfold exec
  simp only
  have hk:∀(m:Nat) (ops:List XOper) (st st':St),runW m true cf ops st=some st'→st'.base=st.base∧st'.rb=st.rb:=by
   intro m ops
   induction ops with
   | nil=>intro st st' e;simp only [runW,sI] at e;subst e;exact⟨rfl,rfl⟩
   | cons o ops ih =>
    intro st st' e
    unfold runW at e
    split at e
    ·rename_i s1 h1
     obtain⟨a1,a2⟩:=step_keeps (stepW_plain h1)
     obtain⟨b1,b2⟩:=ih _ _ e
     exact⟨b1.trans a1,b2.trans a2⟩
    ·cases e
  cases hr:runW (thr ⟨tm,h,base,rb⟩ ops) true cf ops ⟨tm,h++pre,base,h.length⟩ with
  | none=>rfl
  | some st' =>
   obtain⟨e1,e2⟩:=hk _ _ _ _ hr
   obtain⟨tm',h',b',r'⟩:=st'
   simp only at e1 e2
   subst e1 e2
   rfl
 | regr ops pre =>
  intro st k k0
  obtain⟨tm,h,base,rb⟩:=st
  show (nfNat (min base h.length) fun m=>appS h pre fun h'=>nfNat h.length fun rb'=>runRS m cfK base rb' ops tm h' (fun tm h=>k .normal ⟨tm,h,base,rb'⟩) k0)=_
  rw [nfNat_eq,appS_eq,nfNat_eq,runRS_eq hcf]
  unfold exec
  simp only
  have hk:∀(m:Nat) (ops:List XOper) (st st':St),runR m cf ops st=some st'→st'.base=st.base∧st'.rb=st.rb:=by
   intro m ops
   induction ops with
   | nil=>intro st st' e;simp only [runR,sI] at e;subst e;exact⟨rfl,rfl⟩
   | cons o ops ih =>
    intro st st' e
    unfold runR at e
    split at e
    ·rename_i s1 h1
     obtain⟨a1,a2⟩:=step_keeps (stepR_plain h1)
     obtain⟨b1,b2⟩:=ih _ _ e
     exact⟨b1.trans a1,b2.trans a2⟩
    ·cases e
  cases hr:runR (min base h.length) cf ops ⟨tm,h++pre,base,h.length⟩ with
  | none=>rfl
  | some st' =>
   obtain⟨e1,e2⟩:=hk _ _ _ _ hr
   obtain⟨tm',h',b',r'⟩:=st'
   simp only at e1 e2
   subst e1 e2
   rfl
 | seq a b iha ihb =>
  intro st k k0
  show execS cfK n a st (fun e st=>match e with
   | .normal=>execS cfK n b st k k0
   | e=>k e st) k0=_
  rw [iha]
  simp only [exec]
  cases exec cf n a st with
  | none=>rfl
  | some p =>
   obtain⟨e,st'⟩:=p
   cases e with
   | normal=>exact ihb st' k k0
   | exit id=>rfl
   | ret=>rfl
 | cond c a b iha ihb =>
  intro st k k0
  show (evS st.tm c fun v=>match v with
   | .c (.bool t)=>Bool.rec (motive:=fun _=>R2) (execS cfK n b st k k0) (execS cfK n a st k k0) t
   | _=>k0)=_
  rw [evS_eq]
  simp only [exec]
  cases ev st.tm c with
  | c x =>
   cases x with
   | bool t=>cases t with
    | false=>exact ihb st k k0
    | true=>exact iha st k k0
   | _=>rfl
  | _=>rfl
 | block id c ih =>
  intro st k k0
  show execS cfK n c st (fun e st=>match e with
   | .exit id'=>if id'=id then k .normal st else k (.exit id') st
   | e=>k e st) k0=_
  rw [ih]
  simp only [exec]
  cases exec cf n c st with
  | none=>rfl
  | some p =>
   obtain⟨e,st'⟩:=p
   cases e with
   | exit id' =>
    simp only [outE]
    split<;>rfl
   | _=>rfl
 | loop c ih =>
  intro st k k0
  show iterS (execS cfK n c) n st k k0=_
  exact iterS_eq ih n st k k0
 | exit id=>intros;rfl
 | ret=>intros;rfl
 | rangeF f y m nt us =>
  intro st k k0
  obtain⟨tm,h,base,rb⟩:=st
  show (evS tm f fun fv=>match callee fv with
   | some (g,lb)=>if g<rid∧rid≤y∧tm.length=nt then nfLm nf0 (keepV nt us tm) fun caps=>nfNat h.length fun l=>nfL (h++[.loop 0]) fun h1=>cfK g (.yld l y m caps::lb) h1 fun r=>match r with
     | some (_,h')=>getS h' l (fun ob=>match ob with
      | .loop s=>match Ex.ofNum s with
       | some e=>setS h' l (.loop 2) fun h=>k e ⟨tm,h,base,rb⟩
       | none=>k0
      | _=>k0) k0
     | none=>k0
    else k0
   | none=>k0)=_
  rw [evS_eq]
  unfold exec
  simp only
  cases callee (ev tm f) with
  | none=>rfl
  | some p =>
   obtain⟨g,lb⟩:=p
   simp only [nfLm_eq nf0_eq,nfNat_eq,nfL_eq,hcf,getS_eq,setS_eq]
   split
   ·cases cf g (.yld h.length y m (keepV nt us tm)::lb) (h++[.loop 0]) with
    | none=>rfl
    | some q =>
     obtain⟨v,h'⟩:=q
     simp only
     cases h'[h.length]? with
     | none=>rfl
     | some ob =>
      cases ob<;>try rfl
      rename_i s
      simp only
      cases Ex.ofNum s<;>rfl
   ·rfl
def finS (esc:Bool) (n:Nat) (res:List XR) (k:R2→R2) (e:Ex) (st:St):R2:=nfR (fin esc n res (some (e,st))) k
theorem finS_eq (esc:Bool) (n:Nat) (res:List XR) (k:R2→R2) (r:Option (Ex × St)):outE r (finS esc n res k) (k none)=k (fin esc n res r):=by
 cases r with
 | none=>rfl
 | some p=>obtain⟨e,st⟩:=p;exact nfR_eq _ _
def startS (xf:XF) (args:List V) (h:List O) (k:St→R2):R2:=nfLm nfV args fun args=>nfL (args++List.replicate (xf.ntm-args.length) undefV) fun tm=>nfNat h.length fun b=>k ⟨tm,h,b,0⟩
theorem startS_eq (xf:XF) (args:List V) (h:List O) (k:St→R2):startS xf args h k=k (start xf args h):=by
 simp only [startS,nfLm_eq nfV_eq,nfL_eq,nfNat_eq]
 rfl
def runFS (cfK:CallK) (n:Nat) (xf:XF) (args:List V) (h:List O) (k:R2→R2):R2 :=
 if xf.pure then
  if V.lows 0 (args.map V.vw2) then
   if xf.esc then startS xf (args.map V.vw2) (pre0 xf) fun st=>execS cfK n xf.body st (finS true n xf.res fun r=>nfR (r.map fun r=>(r.1.shift h.length,h++r.2.map (O.shift h.length))) k) (k none)
   else startS xf (args.map V.vw2) [] fun st=>execS cfK n xf.body st (finS false n xf.res fun r=>k (r.map fun r=>(r.1,h))) (k none)
  else if xf.esc then k none
  else match mapO (snap 0 h n) (args.map V.vw2) with
   | some bs=>if V.lows 0 bs then startS xf bs [] fun st=>execS cfK n xf.body st (finS false n xf.res fun r=>match r with
     | some (r,_)=>if r.flat then k (some (r,h)) else k none
     | none=>k none) (k none)
    else k none
   | none=>k none
 else startS xf (args.map (if xf.esc then V.vwt else V.vw2)) h fun st=>execS cfK n xf.body st (finS xf.esc n xf.res k) (k none)
theorem runFS_eq {cfK:CallK}{cf:CallF}(hcf:∀f args h k,cfK f args h k=k (cf f args h)) (n:Nat) (xf:XF) (args:List V) (h:List O) (k:R2→R2):runFS cfK n xf args h k=k (runF cf n xf args h):=by
 have e1:∀(st:St) (esc:Bool) (kk:R2→R2),kk none=k none→execS cfK n xf.body st (finS esc n xf.res kk) (k none)=kk (fin esc n xf.res (exec cf n xf.body st)):=by
  intro st esc kk h0
  rw [execS_eq hcf,← h0,finS_eq]
 unfold runFS runF
 simp only [startS_eq]
 split
 ·split
  ·split
   ·rw [e1 _ _ _ (by simp only [nfR_eq,Option.map_none])]
    rw [nfR_eq]
   ·rw [e1 _ _ _ (by simp only [Option.map_none])]
  ·split
   ·rfl
   ·cases mapO (snap 0 h n) (args.map V.vw2) with
    | none=>rfl
    | some bs =>
     simp only
     split
     ·rw [e1 _ _ (fun r=>match r with
       | some (r,_)=>if r.flat then k (some (r,h)) else k none
       | none=>k none) rfl]
      cases fin false n xf.res (exec cf n xf.body (start xf bs [])) with
      | none=>rfl
      | some p =>
       obtain⟨r,h'⟩:=p
       simp only
       split<;>rfl
     ·rfl
 ·rw [e1 _ _ _ rfl]
def runRoundS (cfK:CallK) (n:Nat) (ps:List Nat) (asg body:XC) (l:Nat) (vs caps:List V) (h:List O) (k:R2→R2):R2:=match putAll ps vs caps with
 | some tm=>nfL tm fun tm=>nfNat h.length fun b=>execS cfK n asg ⟨tm,h,b,0⟩ (fun e st1=>match e with
  | .normal=>getS st1.h l (fun ob=>match ob with
   | .loop 0=>St.rec (motive:=fun _=>R2) (fun tm1 h1 b1 rb1=>setS h1 l (.loop 1) fun h1=>execS cfK n body ⟨tm1,h1,b1,rb1⟩ (fun e st2=>getS st2.h l (fun ob=>match ob with
    | .loop 1=>nfR (let h3:=(st2.h.set l (.loop e.num)).take h.length
      if h3.all (O.low h.length) then some (.c (.bool (e.num==0)),h3) else none) k
    | _=>k none) (k none)) (k none)) st1
   | _=>k none) (k none)
  | _=>k none) (k none)
 | none=>k none
theorem runRoundS_eq {cfK:CallK}{cf:CallF}(hcf:∀f args h k,cfK f args h k=k (cf f args h)) (n:Nat) (ps:List Nat) (asg body:XC) (l:Nat) (vs caps:List V) (h:List O) (k:R2→R2) :
  runRoundS cfK n ps asg body l vs caps h k=k (runRound cf n ps asg body l vs caps h):=by
 unfold runRoundS runRound
 cases putAll ps vs caps with
 | none=>rfl
 | some tm =>
  simp only [nfL_eq,nfNat_eq,execS_eq hcf]
  cases exec cf n asg ⟨tm,h,h.length,0⟩ with
  | none=>rfl
  | some p =>
   obtain⟨e,st1⟩:=p
   cases e<;>try rfl
   simp only [outE,getS_eq]
   cases st1.h[l]? with
   | none=>rfl
   | some ob =>
    cases ob<;>try rfl
    rename_i s
    match s with
    | 0 =>
     obtain⟨tm1,h1,b1,rb1⟩:=st1
     simp only [setS_eq,execS_eq hcf]
     cases exec cf n body ⟨tm1,h1.set l (.loop 1),b1,rb1⟩ with
     | none=>rfl
     | some q =>
      obtain⟨e2,st2⟩:=q
      simp only [outE,getS_eq]
      cases st2.h[l]? with
      | none=>rfl
      | some ob =>
       cases ob<;>try rfl
       rename_i s
       match s with
       | 0=>rfl
       | 1=>simp only [nfR_eq]
       | s+2=>rfl
    | s+1=>rfl
inductive KT where
 | leaf
 | node (key:Nat) (x:XF) (l r:KT)
def KT.find (t:KT) (f:Nat):Option XF:=KT.rec (motive:=fun _=>Option XF) none (fun key x _ _ a b=>Bool.rec (motive:=fun _=>Option XF) (Bool.rec (motive:=fun _=>Option XF) b a (Nat.blt f key)) (some x) (Nat.beq f key)) t
def KT.all (P:Nat→XF→Prop):KT→Prop
 | .leaf=>True
 | .node key x l r=>P key x∧KT.all P l∧KT.all P r
theorem KT.find_all {P:Nat→XF→Prop}{f:Nat}{xf:XF}:∀(t:KT),t.all P→t.find f=some xf→P f xf
 | .leaf,_,h=>by cases h
 | .node key x l r,ha,h=>by
  have h:Bool.rec (motive:=fun _=>Option XF) (Bool.rec (motive:=fun _=>Option XF) (r.find f) (l.find f) (Nat.blt f key)) (some x) (Nat.beq f key)=some xf:=h
  cases h1:Nat.beq f key with
  | true =>
   rw [h1] at h
   have:f=key:=Nat.eq_of_beq_eq_true h1
   subst this
   simp only [sI] at h
   subst h
   exact ha.1
  | false =>
   rw [h1] at h
   cases h2:Nat.blt f key with
   | true=>rw [h2] at h;exact KT.find_all l ha.2.1 h
   | false=>rw [h2] at h;exact KT.find_all r ha.2.2 h
def callK (T:KT) (X:Nat→Option XF) (E:Ext) (n:Nat):CallK :=
 Nat.rec (motive:=fun _=>CallK) (fun _ _ _ k=>k none) (fun n cfn f args h k=>Option.rec (motive:=fun _=>R2) (nfR (call X E (n+1) f args h) k)
  (fun xf=>match xf.asg with
   | some (ps,asg)=>match args with
    | .c (.int _ l)::rs=>if l.toNat<h.length then nfNat l.toNat fun l'=>runRoundS cfn n ps asg xf.body l' (rs.take ps.length) (rs.drop ps.length) h k else k none
    | _=>k none
   | none=>runFS cfn n xf args h k) (T.find f)) n
theorem callK_eq {T:KT}{X:Nat→Option XF}{E:Ext}(hT:T.all fun f xf=>E f=none∧X f=some xf):∀(n f:Nat) (args:List V) (h:List O) (k:R2→R2),callK T X E n f args h k=k (call X E n f args h):=by
 intro n
 induction n with
 | zero=>intros;rfl
 | succ n ih =>
  intro f args h k
  show Option.rec (motive:=fun _=>R2) (nfR (call X E (n+1) f args h) k)
   (fun xf=>match xf.asg with
    | some (ps,asg)=>match args with
     | .c (.int _ l)::rs=>if l.toNat<h.length then nfNat l.toNat fun l'=>runRoundS (callK T X E n) n ps asg xf.body l' (rs.take ps.length) (rs.drop ps.length) h k else k none
     | _=>k none
    | none=>runFS (callK T X E n) n xf args h k) (T.find f)=_
  cases hf:T.find f with
  | none=>exact nfR_eq _ _
  | some xf =>
   obtain⟨hE,hX⟩:=KT.find_all T hT hf
   rw [call]
   simp only [hE,hX]
   cases xf.asg with
   | none=>exact runFS_eq ih n xf args h k
   | some p =>
    obtain⟨ps,asg⟩:=p
    simp only
    split
    ·rename_i kd l rs
     by_cases hl:l.toNat<h.length
     ·rw [if_pos hl,nfNat_eq,runRoundS_eq ih]
      simp only [if_pos hl]
     ·rw [if_neg hl]
      simp only [if_neg hl]
    ·rename_i hne
     split
     ·exact absurd rfl (hne _ _ _)
     ·rfl
theorem call_of_K {T:KT}{X:Nat→Option XF}{E:Ext}(hT:T.all fun f xf=>E f=none∧X f=some xf){n f:Nat}{args:List V}{h:List O}{r:R2}(e:callK T X E n f args h (fun r=>r)=r):call X E n f args h=r:=by
 rw [callK_eq hT] at e
 exact e
end
set_option maxRecDepth 20000
def ktab:KT:=(.node 107 x107 (.node 53 x53 (.node 36 x36 (.node 17 x17 (.node 13 x13 (.node 9 x9 (.node 8 x8 (.node 4 x4 .leaf .leaf) .leaf) (.node 10 x10 .leaf .leaf)) (.node 15 x15 (.node 14 x14 .leaf .leaf) (.node 16 x16 .leaf .leaf))) (.node 32 x32 (.node 24 x24 (.node 23 x23 (.node 18 x18 .leaf .leaf) .leaf) (.node 26 x26 .leaf .leaf)) (.node 34 x34 (.node 33 x33 .leaf .leaf) (.node 35 x35 .leaf .leaf)))) (.node 45 x45 (.node 41 x41 (.node 39 x39 (.node 38 x38 (.node 37 x37 .leaf .leaf) .leaf) (.node 40 x40 .leaf .leaf)) (.node 43 x43 (.node 42 x42 .leaf .leaf) (.node 44 x44 .leaf .leaf))) (.node 49 x49 (.node 47 x47 (.node 46 x46 .leaf .leaf) (.node 48 x48 .leaf .leaf)) (.node 51 x51 (.node 50 x50 .leaf .leaf) (.node 52 x52 .leaf .leaf))))) (.node 90 x90 (.node 71 x71 (.node 59 x59 (.node 56 x56 (.node 55 x55 (.node 54 x54 .leaf .leaf) .leaf) (.node 58 x58 .leaf .leaf)) (.node 63 x63 (.node 61 x61 .leaf .leaf) (.node 70 x70 .leaf .leaf))) (.node 86 x86 (.node 73 x73 (.node 72 x72 .leaf .leaf) (.node 74 x74 .leaf .leaf)) (.node 88 x88 (.node 87 x87 .leaf .leaf) (.node 89 x89 .leaf .leaf)))) (.node 99 x99 (.node 95 x95 (.node 93 x93 (.node 92 x92 (.node 91 x91 .leaf .leaf) .leaf) (.node 94 x94 .leaf .leaf)) (.node 97 x97 (.node 96 x96 .leaf .leaf) (.node 98 x98 .leaf .leaf))) (.node 103 x103 (.node 101 x101 (.node 100 x100 .leaf .leaf) (.node 102 x102 .leaf .leaf)) (.node 105 x105 (.node 104 x104 .leaf .leaf) (.node 106 x106 .leaf .leaf)))))) (.node 157 x157 (.node 138 x138 (.node 116 x116 (.node 112 x112 (.node 110 x110 (.node 109 x109 (.node 108 x108 .leaf .leaf) .leaf) (.node 111 x111 .leaf .leaf)) (.node 114 x114 (.node 113 x113 .leaf .leaf) (.node 115 x115 .leaf .leaf))) (.node 125 x125 (.node 119 x119 (.node 117 x117 .leaf .leaf) (.node 123 x123 .leaf .leaf)) (.node 127 x127 (.node 126 x126 .leaf .leaf) (.node 137 x137 .leaf .leaf)))) (.node 147 x147 (.node 143 x143 (.node 141 x141 (.node 140 x140 (.node 139 x139 .leaf .leaf) .leaf) (.node 142 x142 .leaf .leaf)) (.node 145 x145 (.node 144 x144 .leaf .leaf) (.node 146 x146 .leaf .leaf))) (.node 152 x152 (.node 149 x149 (.node 148 x148 .leaf .leaf) (.node 151 x151 .leaf .leaf)) (.node 155 x155 (.node 154 x154 .leaf .leaf) (.node 156 x156 .leaf .leaf))))) (.node 178 x178 (.node 170 x170 (.node 164 x164 (.node 162 x162 (.node 159 x159 (.node 158 x158 .leaf .leaf) .leaf) (.node 163 x163 .leaf .leaf)) (.node 166 x166 (.node 165 x165 .leaf .leaf) (.node 169 x169 .leaf .leaf))) (.node 174 x174 (.node 172 x172 (.node 171 x171 .leaf .leaf) (.node 173 x173 .leaf .leaf)) (.node 176 x176 (.node 175 x175 .leaf .leaf) (.node 177 x177 .leaf .leaf)))) (.node 191 x191 (.node 187 x187 (.node 181 x181 (.node 180 x180 (.node 179 x179 .leaf .leaf) .leaf) (.node 182 x182 .leaf .leaf)) (.node 189 x189 (.node 188 x188 .leaf .leaf) (.node 190 x190 .leaf .leaf))) (.node 195 x195 (.node 193 x193 (.node 192 x192 .leaf .leaf) (.node 194 x194 .leaf .leaf)) (.node 1011300 x1011300 (.node 202 x202 .leaf .leaf) (.node 1014000 x1014000 .leaf .leaf)))))))
theorem ktab_all:ktab.all fun f xf=>E f=none∧X f=some xf:=⟨⟨rfl,rfl⟩,⟨⟨rfl,rfl⟩,⟨⟨rfl,rfl⟩,⟨⟨rfl,rfl⟩,⟨⟨rfl,rfl⟩,⟨⟨rfl,rfl⟩,⟨⟨rfl,rfl⟩,⟨⟨rfl,rfl⟩,trivial,trivial⟩,trivial⟩,⟨⟨rfl,rfl⟩,trivial,trivial⟩⟩,⟨⟨rfl,rfl⟩,⟨⟨rfl,rfl⟩,trivial,trivial⟩,⟨⟨rfl,rfl⟩,trivial,trivial⟩⟩⟩,⟨⟨rfl,rfl⟩,⟨⟨rfl,rfl⟩,⟨⟨rfl,rfl⟩,⟨⟨rfl,rfl⟩,trivial,trivial⟩,trivial⟩,⟨⟨rfl,rfl⟩,trivial,trivial⟩⟩,⟨⟨rfl,rfl⟩,⟨⟨rfl,rfl⟩,trivial,trivial⟩,⟨⟨rfl,rfl⟩,trivial,trivial⟩⟩⟩⟩,⟨⟨rfl,rfl⟩,⟨⟨rfl,rfl⟩,⟨⟨rfl,rfl⟩,⟨⟨rfl,rfl⟩,⟨⟨rfl,rfl⟩,trivial,trivial⟩,trivial⟩,⟨⟨rfl,rfl⟩,trivial,trivial⟩⟩,⟨⟨rfl,rfl⟩,⟨⟨rfl,rfl⟩,trivial,trivial⟩,⟨⟨rfl,rfl⟩,trivial,trivial⟩⟩⟩,⟨⟨rfl,rfl⟩,⟨⟨rfl,rfl⟩,⟨⟨rfl,rfl⟩,trivial,trivial⟩,⟨⟨rfl,rfl⟩,trivial,trivial⟩⟩,⟨⟨rfl,rfl⟩,⟨⟨rfl,rfl⟩,trivial,trivial⟩,⟨⟨rfl,rfl⟩,trivial,trivial⟩⟩⟩⟩⟩,⟨⟨rfl,rfl⟩,⟨⟨rfl,rfl⟩,⟨⟨rfl,rfl⟩,⟨⟨rfl,rfl⟩,⟨⟨rfl,rfl⟩,⟨⟨rfl,rfl⟩,trivial,trivial⟩,trivial⟩,⟨⟨rfl,rfl⟩,trivial,trivial⟩⟩,⟨⟨rfl,rfl⟩,⟨⟨rfl,rfl⟩,trivial,trivial⟩,⟨⟨rfl,rfl⟩,trivial,trivial⟩⟩⟩,⟨⟨rfl,rfl⟩,⟨⟨rfl,rfl⟩,⟨⟨rfl,rfl⟩,trivial,trivial⟩,⟨⟨rfl,rfl⟩,trivial,trivial⟩⟩,⟨⟨rfl,rfl⟩,⟨⟨rfl,rfl⟩,trivial,trivial⟩,⟨⟨rfl,rfl⟩,trivial,trivial⟩⟩⟩⟩,⟨⟨rfl,rfl⟩,⟨⟨rfl,rfl⟩,⟨⟨rfl,rfl⟩,⟨⟨rfl,rfl⟩,⟨⟨rfl,rfl⟩,trivial,trivial⟩,trivial⟩,⟨⟨rfl,rfl⟩,trivial,trivial⟩⟩,⟨⟨rfl,rfl⟩,⟨⟨rfl,rfl⟩,trivial,trivial⟩,⟨⟨rfl,rfl⟩,trivial,trivial⟩⟩⟩,⟨⟨rfl,rfl⟩,⟨⟨rfl,rfl⟩,⟨⟨rfl,rfl⟩,trivial,trivial⟩,⟨⟨rfl,rfl⟩,trivial,trivial⟩⟩,⟨⟨rfl,rfl⟩,⟨⟨rfl,rfl⟩,trivial,trivial⟩,⟨⟨rfl,rfl⟩,trivial,trivial⟩⟩⟩⟩⟩⟩,⟨⟨rfl,rfl⟩,⟨⟨rfl,rfl⟩,⟨⟨rfl,rfl⟩,⟨⟨rfl,rfl⟩,⟨⟨rfl,rfl⟩,⟨⟨rfl,rfl⟩,⟨⟨rfl,rfl⟩,trivial,trivial⟩,trivial⟩,⟨⟨rfl,rfl⟩,trivial,trivial⟩⟩,⟨⟨rfl,rfl⟩,⟨⟨rfl,rfl⟩,trivial,trivial⟩,⟨⟨rfl,rfl⟩,trivial,trivial⟩⟩⟩,⟨⟨rfl,rfl⟩,⟨⟨rfl,rfl⟩,⟨⟨rfl,rfl⟩,trivial,trivial⟩,⟨⟨rfl,rfl⟩,trivial,trivial⟩⟩,⟨⟨rfl,rfl⟩,⟨⟨rfl,rfl⟩,trivial,trivial⟩,⟨⟨rfl,rfl⟩,trivial,trivial⟩⟩⟩⟩,⟨⟨rfl,rfl⟩,⟨⟨rfl,rfl⟩,⟨⟨rfl,rfl⟩,⟨⟨rfl,rfl⟩,⟨⟨rfl,rfl⟩,trivial,trivial⟩,trivial⟩,⟨⟨rfl,rfl⟩,trivial,trivial⟩⟩,⟨⟨rfl,rfl⟩,⟨⟨rfl,rfl⟩,trivial,trivial⟩,⟨⟨rfl,rfl⟩,trivial,trivial⟩⟩⟩,⟨⟨rfl,rfl⟩,⟨⟨rfl,rfl⟩,⟨⟨rfl,rfl⟩,trivial,trivial⟩,⟨⟨rfl,rfl⟩,trivial,trivial⟩⟩,⟨⟨rfl,rfl⟩,⟨⟨rfl,rfl⟩,trivial,trivial⟩,⟨⟨rfl,rfl⟩,trivial,trivial⟩⟩⟩⟩⟩,⟨⟨rfl,rfl⟩,⟨⟨rfl,rfl⟩,⟨⟨rfl,rfl⟩,⟨⟨rfl,rfl⟩,⟨⟨rfl,rfl⟩,⟨⟨rfl,rfl⟩,trivial,trivial⟩,trivial⟩,⟨⟨rfl,rfl⟩,trivial,trivial⟩⟩,⟨⟨rfl,rfl⟩,⟨⟨rfl,rfl⟩,trivial,trivial⟩,⟨⟨rfl,rfl⟩,trivial,trivial⟩⟩⟩,⟨⟨rfl,rfl⟩,⟨⟨rfl,rfl⟩,⟨⟨rfl,rfl⟩,trivial,trivial⟩,⟨⟨rfl,rfl⟩,trivial,trivial⟩⟩,⟨⟨rfl,rfl⟩,⟨⟨rfl,rfl⟩,trivial,trivial⟩,⟨⟨rfl,rfl⟩,trivial,trivial⟩⟩⟩⟩,⟨⟨rfl,rfl⟩,⟨⟨rfl,rfl⟩,⟨⟨rfl,rfl⟩,⟨⟨rfl,rfl⟩,⟨⟨rfl,rfl⟩,trivial,trivial⟩,trivial⟩,⟨⟨rfl,rfl⟩,trivial,trivial⟩⟩,⟨⟨rfl,rfl⟩,⟨⟨rfl,rfl⟩,trivial,trivial⟩,⟨⟨rfl,rfl⟩,trivial,trivial⟩⟩⟩,⟨⟨rfl,rfl⟩,⟨⟨rfl,rfl⟩,⟨⟨rfl,rfl⟩,trivial,trivial⟩,⟨⟨rfl,rfl⟩,trivial,trivial⟩⟩,⟨⟨rfl,rfl⟩,⟨⟨rfl,rfl⟩,trivial,trivial⟩,⟨⟨rfl,rfl⟩,trivial,trivial⟩⟩⟩⟩⟩⟩⟩
end Go.Proofs.YtjhffhmokcogkaaGreatDoor.Ab

