/- A part. -/
import Derived.Test.YtjhffhmokcogkaaGreatDoorCc5
import Derived.Test.YtjhffhmokcogkaaGreatDoorProg
import Derived.Shelf.Small.Strs
import Derived.Shelf.LaysM
import Derived.Shelf.Spec.SlicesGrow
import Derived.KernelRfl
set_option linter.unusedVariables false
set_option linter.unusedSimpArgs false
set_option linter.defProp false
set_option maxRecDepth 20000
set_option maxHeartbeats 8000000
namespace Go.Proofs.YtjhffhmokcogkaaGreatDoor
open Go
def EN:Go.Shelf.Ren:=⟨fun|137=>196|217=>203|266=>206|n=>n,fun|9=>9|5=>5|3=>3|n=>n,fun n=>n⟩
theorem C4:Go.Proofs.Lays.n137 Tryz.prog EN where
 mixed:=by kernel_rfl
 f137:=Tryz.func196.trans (congrArg some (by kernel_rfl))
 f217:=Tryz.func203.trans (congrArg some (by kernel_rfl))
 f266:=Tryz.func206.trans (congrArg some (by kernel_rfl))
 t3:=Tryz.underlying3
 a3:=Tryz.isAgg3
 z3:=Tryz.sizeOf3
 v3:=Tryz.zeroValue3
 t5:=Tryz.underlying5
 a5:=Tryz.isAgg5
 z5:=Tryz.sizeOf5
 v5:=Tryz.zeroValue5
 t9:=Tryz.underlying9
 a9:=Tryz.isAgg9
 z9:=Tryz.sizeOf9
 v9:=Tryz.zeroValue9
theorem nk (s:ByteArray) (c:Int) (w:World) :
  Calls Tryz.prog 196 #[.string s,.int .u8 c] w fun e w'=>e=.returned (.int .i64 (Lib.indexByte s.data.toList c.toNat.toUInt8))∧w'=w:=Any.strings_IndexByte C4 s c w
def By:Go.Shelf.Ren:=⟨fun|4=>122|n=>n,fun|25=>24|n=>n,fun n=>n⟩
theorem uv:Go.Proofs.Lays8.n4 Tryz.prog By where
 mixed:=by kernel_rfl
 f4 := ⟨"slices.Grow[[]pagoda/api.Datum,pagoda/api.Datum]", by decide, Tryz.func122.trans (congrArg some (by kernel_rfl))⟩
 t0:=Tryz.underlying0
 a0:=Tryz.isAgg0
 z0:=Tryz.sizeOf0
 v0:=Tryz.zeroValue0
 t3:=Tryz.underlying3
 a3:=Tryz.isAgg3
 z3:=Tryz.sizeOf3
 v3:=Tryz.zeroValue3
 t4:=Tryz.underlying4
 a4:=Tryz.isAgg4
 z4:=Tryz.sizeOf4
 v4:=Tryz.zeroValue4
 t9:=Tryz.underlying9
 a9:=Tryz.isAgg9
 z9:=Tryz.sizeOf9
 v9:=Tryz.zeroValue9
 t20:=Tryz.underlying20
 a20:=Tryz.isAgg20
 z20:=Tryz.sizeOf20
 v20:=Tryz.zeroValue20
 t22:=Tryz.underlying22
 a22:=Tryz.isAgg22
 z22:=Tryz.sizeOf22
 v22:=Tryz.zeroValue22
theorem nR (w:World):Calls Tryz.prog 122 #[.slice none 0 0,.int .i64 0] w fun e w'=>e=.returned (.slice none 0 0)∧w'=w :=
 Any8.slices_Grow_room uv none 0 0 0 w (by omega) (by omega) (by omega) (by omega)
def zD:Value:=.agg #[.int .i64 0,.int .i64 0,.string ⟨#[]⟩,.slice none 0 0]
theorem Ff:∃i0,Tryz.prog.info? 24=some i0∧i0.zero=some zD∧i0.size=4∧i0.bytes=56:=by
 have:(Tryz.prog.info? 24).map (fun i=>(i.zero,i.size,i.bytes))=some (some zD,4,56):=by kernel_rfl
 cases h:Tryz.prog.info? 24 with
 | none=>rw[h] at this;cases this
 | some i=>rw[h] at this;simp only[Option.map_some,Option.some.injEq,Prod.mk.injEq] at this;exact⟨i,rfl,this.1,this.2.1,this.2.2⟩
theorem tw (n:Nat) (hn:n≠0) (hb:n*56≤140737488355328) (w:World):Calls Tryz.prog 122 #[.slice none 0 0,.int .i64 n] w fun e w'=>∃(cap:Nat) (c:Array Value),e=.returned (.slice (some ⟨w.heap.size,0,none⟩) 0 cap)∧w'=w.drew.alloc (.cells c 24)∧cap*4≤c.size:=by
 obtain⟨i0,h0,h1,h2,h3⟩:=Ff;have h:=Any8.slices_Grow_grow uv i0 zD h0 h1 (by omega) none 0 0 n [] w (by omega) (by omega) (by rw[h3];omega) (by omega) (by simp) (fun _=>rfl) (fun _ e=>by cases e);refine Calls.mono h ?_;rintro e w' ⟨rfl,rfl⟩;refine⟨_,_,rfl,rfl,?_⟩;have hz:∀k,(Builtin.zeroCells zD.cells k).size=k*4:=fun k=>by rw[size_zeroCells];simp[zD,Value.cells]
 simp only[Array.size_append,hz,List.size_toArray,List.length_nil];omega
namespace Ab
def uf:List V→List O→Option (V × List O)
 | [.sl [] .nil,.c (.int .i64 n)],h=>if n=0 then some (.sl [] .nil,h) else if 0<n∧n*56≤140737488355328 then some (.sl [] (.tok h.length),h++[.tok 0 4]) else none
 | _,_=>none
theorem Cg {args:List V}{h:List O}{r:V}{h':List O}(e:uf args h=some (r,h')):mn Tryz.prog 122 args h r h':=by
 intro g w cargs H hl hr;unfold uf at e;split at e;rotate_left
 ·cases e
 rename_i n;obtain⟨l⟩:=cargs
 match l,hl with
 | [x,y],_ =>
 have h1:x=.slice none 0 0:=by
  have:=hr 0 (by simp) (by simp);simp only[List.getElem_toArray,List.getElem_cons_zero] at this;cases this with
  | sl A n cap us i z cv hn hc hzz hA h hi =>
   obtain⟨rfl,rfl⟩:=hi;have:n=0:=by simpa using hn
   rw[this]
 have h2:y=.int .i64 n:=(hr 1 (by simp) (by simp)).of_c;subst h1 h2;split at e
 ·rename_i hn;subst hn;simp only[Option.some.injEq,Prod.mk.injEq] at e;obtain⟨rfl,rfl⟩:=e;refine Calls.mono (nR w) ?_;rintro e w' ⟨rfl,rfl⟩;exact⟨_,g,rfl,Le.refl _ _,H,hr 0 (by simp) (by simp),Quiet.refl _ _ _⟩
 ·split at e
  ·rename_i hn0 hn;simp only[Option.some.injEq,Prod.mk.injEq] at e;obtain⟨rfl,rfl⟩:=e;obtain⟨k,rfl⟩:∃k:Nat,n=k:=⟨n.toNat,by omega⟩
   refine Calls.mono (tw k (by omega) (by omega) w) ?_;rintro e w' ⟨cap,c,rfl,rfl,hc⟩;have H1:=H.append [.dead];obtain⟨hle,hok⟩:=H1.newRow (k:=h.length) (n:=0) (cap:=cap) (z:=4) (c:=c) (T:=24) (by simp) (H.blk_none (Nat.le_refl _)) (fun b' n' c' e=>by rw[H.tok_none (Nat.le_refl _)] at e;cases e) (Grew.drewAlloc w _) (by omega) (by omega);rw[show (h++[O.dead]).set h.length (.tok 0 4)=h++[.tok 0 4] by simp] at hok;refine⟨_,_,rfl,hle,hok,.sl _ 0 cap [] _ 4 (fun _=>.int .i64 0) rfl (by omega) (by simp) (fun h=>absurd rfl h) (fun j hj=>by simp[aG] at hj) ⟨w.heap.size,0,cap,by simp[Gh.setTok],Nat.le_refl _,fun _=>⟨rfl,rfl⟩⟩,fun id hid=>?_⟩;have hne:id≠h.length:=fun e=>hid (.inl (by omega))
   have hlt:id<h.length:=by
    by_cases hq:id<h.length
    ·exact hq
    ·exact absurd (.inl (by omega)) hid
   exact⟨fun h=>h,fun h=>by simp[Gh.setTok,hne,h],fun _ _=>by rw[List.getElem?_append_left hlt]⟩
  ·cases e
end Ab
end Go.Proofs.YtjhffhmokcogkaaGreatDoor
