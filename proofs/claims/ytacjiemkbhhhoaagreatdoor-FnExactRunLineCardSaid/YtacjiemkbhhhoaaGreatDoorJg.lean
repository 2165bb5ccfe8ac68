/-
  Part 7 of the texts that the claim rests on: Ov, Wsw, Wxsw, Wxsp, Wxep, Wpat, Wnum, Ox, Wnck, Wlyn, PlO, Wrnm.
  No condition beyond the given program.
-/
import Derived.Test.YtacjiemkbhhhoaaGreatDoorJf
set_option linter.unusedVariables false
set_option linter.unusedSimpArgs false
namespace Go.Proofs.YtacjiemkbhhhoaaGreatDoor.Ow
open Go Go.RowKit
def PVS (w:World) (S:Nat->Prop) (e:Nat) (d:Bool) (xss:List (List Int)) (v:Value):Prop:=
 (xss=[]/\∃a cap,v=.slice a 0 cap/\(a=none->cap=0))\/
 ∃b cur E,v=.slice (some ⟨b,0,none⟩) (List.length xss) cur.size/\S b/\w.heap[b]? =some (.cells cur E (0,0))/\List.length xss<=cur.size/\Cells w (fun c=>S c/\c≠b) (.sw e d) xss cur
def PV (w:World) (S:Nat->Prop):(t:Ty)->t.T->Value->Prop
 |.sl (.sw e d),xss,v=>PVS w S e d xss v
 |t,x,v=>Rd w S t x v
theorem PVS.rd {w:World} {S:Nat->Prop} {e:Nat} {d:Bool} {xss:List (List Int)} {v:Value} (h:PVS w S e d xss v):Rd w S (.sl (.sw e d)) xss v:=by
 rcases h with ⟨rfl,a,cap,h1,h2⟩|⟨b,cur,E,h1,h2,h3,h4,h5⟩
 .exact ⟨a,cap,h1,Nat.zero_le _,h2,.inl rfl⟩
 .refine ⟨_,_,h1,h4,(fun hh=>by cases hh),.inr ⟨b,0,rfl,h2,fun j hj=>?_⟩⟩
  obtain ⟨cv,g1,g2⟩:=h5.c j hj
  exact ⟨cv,by rw [Nat.zero_add,cell_of_row w b j cur E (0,0) h3];exact g1,RdW.ext (fun b hb _=>⟨rfl,hb.1⟩) g2⟩
theorem PV.rd {w:World} {S:Nat->Prop} {t:Ty} {x:t.T} {v:Value} (h:PV w S t x v):Rd w S t x v:=by
 cases t with
 |sl t'=>cases t' with
  |sw e d=>exact PVS.rd h
  |_=>exact h
 |_=>exact h
theorem PVS.ext {w w':World} {S S':Nat->Prop} (hk:∀b,S b->b<w.heap.size->w'.heap[b]? =w.heap[b]?/\S' b) {e:Nat} {d:Bool} {xss:List (List Int)} {v:Value} (h:PVS w S e d xss v):PVS w' S' e d xss v:=by
 rcases h with h|⟨b,cur,E,h1,h2,h3,h4,h5⟩
 .exact .inl h
 .obtain ⟨g1,g2⟩:=hk b h2 (lt_of_heap h3)
  refine .inr ⟨b,cur,E,h1,g2,g1.trans h3,h4,fun j hj=>?_,h5.d⟩
  obtain ⟨cv,g3,g4⟩:=h5.c j hj
  exact ⟨cv,g3,RdW.ext (fun c hc hl=>⟨(hk c hc.1 hl).1,(hk c hc.1 hl).2,hc.2⟩) g4⟩
theorem PV.ext {w w':World} {S S':Nat->Prop} (hk:∀b,S b->b<w.heap.size->w'.heap[b]? =w.heap[b]?/\S' b) {t:Ty} {x:t.T} {v:Value} (h:PV w S t x v):PV w' S' t x v:=by
 cases t with
 |sl t'=>cases t' with
  |sw e d=>exact PVS.ext hk h
  |_=>exact Rd.ext hk _ _ _ h
 |_=>exact Rd.ext hk _ _ _ h
structure Pool where
 t:Ty
 x:t.T
inductive LV where
 |f (av:AV)
 |n
 |o (t:Ty) (x:t.T)
 |p (i:Nat)
 |pe (i j:Nat)
 |pi (i j:Nat)
 |two (x y:LV)
 |u
 |any
structure LSt where
 env:List (Nat × LV)
 pools:List Pool
def lookL (env:List (Nat × LV)) (t:Nat):LV:=
 match env with
 |[]=>.any
 |(u,v)::r=>match Nat.beq u t with|true=>v|false=>lookL r t
def wkA:(t:Ty)->t.T->AV
 |.sw _ _,xs=>.d false (.sl .int) xs
 |.sl (.sw _ _),xss=>.d false (.sl (.sl .int)) xss
 |t,x=>.d false t x
def cvL (pools:List Pool):LV->AV
 |.f av=>av
 |.n=>.nil
 |.o t x=>.d false t x
 |.p i=>match pools[i]? with|some ⟨t,x⟩=>wkA t x|none=>.any
 |.pi i j=>match pools[i]? with|some ⟨.sl (.sw _ _),xss⟩=>(match xss[j]? with|some xs=>.d false (.sl .int) xs|none=>.any)|_=>.any
 |.u=>.tup []
 |_=>.any
def cvE (pools:List Pool):List (Nat × LV)->List (Nat × AV)
 |[]=>[]
 |(t,x)::l=>(t,cvL pools x)::cvE pools l
theorem look_cvE (pools:List Pool):∀(env:List (Nat × LV)) (t:Nat),look (cvE pools env) t=cvL pools (lookL env t)
 |[],t=>rfl
 |(u,v)::l,t=>by
  unfold cvE look lookL
  cases Nat.beq u t with
  |true=>rfl
  |false=>exact look_cvE pools l t
def LVal (n0:Nat) (w:World) (vals:List Value) (pools:List Pool):LV->Value->Prop
 |.f av,v=>∃u,flatV av=some u/\v=u
 |.n,v=>v=.slice none 0 0
 |.o t x,v=>Rd w (fun b=>b<n0) t x v
 |.p i,v=>vals[i]? =some v
 |.pe i j,v=>∃(e:Nat) (d:Bool) (xss:List (List Int)) (pv:Value) (b cap:Nat),pools[i]? =some ⟨.sl (.sw e d),xss⟩/\vals[i]? =some pv/\j<xss.length/\pv=.slice (some ⟨b,0,none⟩) (List.length xss) cap/\v=.pointer (some ⟨b,j,none⟩)
 |.pi i j,v=>∃(e:Nat) (d:Bool) (xss:List (List Int)) (pv:Value) (b cap:Nat),pools[i]? =some ⟨.sl (.sw e d),xss⟩/\vals[i]? =some pv/\j<xss.length/\pv=.slice (some ⟨b,0,none⟩) (List.length xss) cap/\w.cell? ⟨b,j,none⟩=some v
 |.two x y,v=>∃a b,v=.tuple #[a,b]/\LVal n0 w vals pools x a/\LVal n0 w vals pools y b
 |.u,v=>v=undef
 |.any,_=>True
structure LSat (w0:World) (n0:Nat) (w:World) (ps:List (Nat->Prop)) (vals:List Value) (a:Act) (N:Nat) (st:LSt):Prop where
 n:n0<=w0.heap.size
 os:w.os=w0.os
 tape:w.tape=w0.tape
 output:w.output=w0.output
 sz:w0.heap.size<=w.heap.size
 fr:∀b,b<w0.heap.size->(∀S∈ps,¬S b)->w.heap[b]? =w0.heap[b]?
 l1:ps.length=st.pools.length
 l2:vals.length=st.pools.length
 lt:∀(i:Nat) (S:Nat->Prop),ps[i]? =some S->∀b,S b->n0<=b/\b<w.heap.size
 dis:∀(i j:Nat) (S T:Nat->Prop),ps[i]? =some S->ps[j]? =some T->i≠j->∀b,S b->¬T b
 pv:∀(i:Nat) (S:Nat->Prop) (p:Pool) (v:Value),ps[i]? =some S->st.pools[i]? =some p->vals[i]? =some v->PV w S p.t p.x v
 env:∀t,LVal n0 w vals st.pools (lookL st.env t) (a.tmps.getD t undef)
 size:a.tmps.size=N
 dfs:a.defers=[]
section
variable {P:Program} {τ:Nat->TI} {N n0:Nat} {w0 w:World} {ps:List (Nat->Prop)} {vals:List Value} {a:Act} {st:LSt}
theorem wkA_ok {w:World} {S:Nat->Prop} {t:Ty} {x:t.T} {v:Value} (h:Rd w S t x v):V w [] (fun _=>False) [] (wkA t x) v:=by
 have h':Rd w (fun b=>b∉([]:List Nat)) t x v:=Rd.ext (fun b _ _=>⟨rfl,by simp⟩) t x v h
 cases t with
 |sw e d=>exact RdW.rd h'
 |sl t'=>cases t' with
  |sw e d=>exact Rd.wk h'
  |_=>exact h'
 |_=>exact h'
theorem LVal.cv (h:LSat w0 n0 w ps vals a N st):∀{x:LV} {v:Value},LVal n0 w vals st.pools x v->V w [] (fun _=>False) [] (cvL st.pools x) v
 |.f av,v,hv=>by
  obtain ⟨u,h1,rfl⟩:=hv
  exact flatV_mk h1
 |.n,v,hv=>hv
 |.o t x,v,hv=>Rd.ext (fun b hb _=>⟨rfl,by simp [SS]⟩) t x v hv
 |.p i,v,hv=>by
  have hi:i<st.pools.length:=by rw [<-h.l2];exact (List.getElem?_eq_some_iff.1 hv).1
  have hp:st.pools[i]? =some st.pools[i]:=List.getElem?_eq_getElem hi
  have hS:ps[i]? =some (ps[i]'(by rw [h.l1];exact hi)):=List.getElem?_eq_getElem _
  have:=h.pv i _ _ _ hS hp hv
  have e:cvL st.pools (.p i)=wkA (st.pools[i]).t (st.pools[i]).x:=by simp only [cvL,hp]
  rw [e]
  exact wkA_ok this.rd
 |.pe i j,v,_=>trivial
 |.pi i j,v,hv=>by
  obtain ⟨e,d,xss,pv,b,cap,h1,h2,h3,h4,h5⟩:=hv
  have hS:ps[i]? =some (ps[i]'(by rw [h.l1];exact (List.getElem?_eq_some_iff.1 h1).1)):=List.getElem?_eq_getElem _
  have hp:=h.pv i _ _ _ hS h1 h2
  have e1:cvL st.pools (.pi i j)=.d false (.sl .int) xss[j]:=by simp only [cvL,h1,List.getElem?_eq_getElem h3]
  rw [e1]
  have hp:PVS w _ e d xss pv:=hp
  rcases hp with ⟨k,_⟩|⟨b',cur,E,k1,k2,k3,k4,k5⟩
  .rw [k] at h3;simp at h3
  .rw [h4] at k1
   simp only [Value.slice.injEq,Option.some.injEq,Addr.mk.injEq] at k1
   obtain ⟨⟨rfl,_⟩,_,_⟩:=k1
   rw [cell_of_row w b j cur E (0,0) k3] at h5
   obtain ⟨cv,g1,g2⟩:=k5.c j h3
   rw [h5] at g1;cases g1
   exact RdW.rd (RdW.ext (fun _ _ _=>⟨rfl,by simp [SS]⟩) g2)
 |.two x y,v,_=>trivial
 |.u,v,hv=>⟨[],hv,rfl⟩
 |.any,v,_=>trivial
theorem LSat.sat (h:LSat w0 n0 w ps vals a N st):Sat w [] (fun _=>False) a N ⟨cvE st.pools st.env,[]⟩:=
 ⟨rfl,nd0,fun b hb=>by simp at hb,fun b hb=>hb.elim,fun i b r hb=>by simp at hb,fun t=>by
  show V _ _ _ _ (look (cvE st.pools st.env) t) _
  rw [look_cvE]
  exact LVal.cv h (h.env t),h.size,h.dfs⟩
end
def fLV (k:LV->Prop):LV->Prop
 |.f av=>fAV (fun av'=>k (.f av')) av
 |.n=>k .n
 |.o t x=>k (.o t x)
 |.p i=>k (.p i)
 |.pe i j=>k (.pe i j)
 |.pi i j=>k (.pi i j)
 |.two x y=>fLV (fun x'=>fLV (fun y'=>k (.two x' y')) y) x
 |.u=>k .u
 |.any=>k .any
theorem fLV_eq:∀(x:LV) (k:LV->Prop),fLV k x=k x
 |.f av,k=>fAV_eq (fun av'=>k (.f av')) av
 |.n,k=>rfl
 |.o _ _,k=>rfl
 |.p _,k=>rfl
 |.pe _ _,k=>rfl
 |.pi _ _,k=>rfl
 |.two x y,k=>by rw [fLV,fLV_eq x,fLV_eq y]
 |.u,k=>rfl
 |.any,k=>rfl
def fPs:List Pool->(List Pool->Prop)->Prop
 |[],k=>k []
 |p::l,k=>match p with|⟨t,x⟩=>fPs l fun l'=>k (⟨t,x⟩::l')
theorem fPs_eq:∀(l:List Pool) (k:List Pool->Prop),fPs l k=k l
 |[],_=>rfl
 |⟨t,x⟩::l,k=>by rw [fPs,fPs_eq l]
def lput (N:Nat) (dst:Option Nat) (x:LV) (st:LSt) (K:LSt->Prop):Prop:=
 match st with
 |⟨env,pools⟩=>fLV (fun x'=>fPs pools fun pools'=>match dst with
  |none=>K ⟨env,pools'⟩
  |some d=>match Nat.blt d N with|true=>K ⟨(d,x')::env,pools'⟩|false=>False) x
def cstL (v:Value):LV:=
 match cst v with|.nil=>.n|.d s t x=>.f (.d s t x)|_=>.any
def evL (env:List (Nat × LV)):Operand->LV
 |.tmp t=>lookL env t
 |.const v=>cstL v
 |_=>.any
def splL (k:LV->Prop):LV->Prop
 |.f (.d s .bool b)=>(b=true->k (.f (.d s .bool true)))/\(b=false->k (.f (.d s .bool false)))
 |x=>k x
def newL (n:Nat) (rows':List Row):AV->Option (LV × List Pool)
 |.d true (.sl (.sw _ _)) _=>none
 |.d true (.sw e _) xs=>some (.p n,[⟨.sw e false,xs⟩])
 |.d true t x=>match t.flat with|true=>some (.f (.d true t x),[])|false=>some (.p n,[⟨t,x⟩])
 |.nil=>some (.n,[])
 |.ow 0=>match rows' with
  |[.sl e .int xs]=>some (.p n,[⟨.sw e false,xs⟩])
  |[.sl _ (.sw e d) xss]=>some (.p n,[⟨.sl (.sw e d),xss⟩])
  |[.sl _ (.sl t) xss]=>some (.p n,[⟨.sl (.sl t),xss⟩])
  |_=>none
 |_=>none
def lRes (N:Nat) (dst:Option Nat) (st:LSt) (rows':List Row) (K:LSt->Prop):List AV->Prop
 |[r]=>match newL st.pools.length rows' r with
  |some (x,q)=>splL (fun x=>lput N dst x ⟨st.env,st.pools++q⟩ K) x
  |none=>False
 |[r,.d true t y]=>t.flat=true/\(match newL st.pools.length rows' r with
  |some (x,q)=>lput N dst (.two x (.f (.d true t y))) ⟨st.env,st.pools++q⟩ K
  |none=>False)
 |_=>False
def MC (P:Program) (F:FuncId) (e:Nat) (xss:List (List Int)) (k:Int) (r:Int) (yss:List (List Int)):Prop:=
 Runs P F/\∀(w:World) (S:Nat->Prop) (v:Value),(∀b,S b->b<w.heap.size)->PVS w S e true xss v->Calls P F #[v,.int .i64 k] w fun ex w'=>
  ex=.returned (.int .i64 r)/\PVS w' S e true yss v/\w'.os=w.os/\w'.tape=w.tape/\w'.output=w.output/\w.heap.size<=w'.heap.size/\∀b,b<w.heap.size->¬S b->w'.heap[b]? =w.heap[b]?
def killL:LV->LV
 |.pe _ _=>.any
 |.pi _ _=>.any
 |.two _ _=>.any
 |x=>x
def killLE:List (Nat × LV)->List (Nat × LV)
 |[]=>[]
 |(t,x)::l=>(t,killL x)::killLE l
def lCall (P:Program) (N:Nat) (dst:Option Nat) (st:LSt) (F:FuncId) (args:List LV) (K:LSt->Prop):Prop:=
 ∃md:Nat,match md with
  |0=>∃(res:List AV) (rows':List Row),AC P F (args.map (cvL st.pools)) [] res rows'/\lRes N dst st rows' K res
  |1=>(match args with
   |[.p i,.f (.d _ .int k)]=>(match st.pools[i]? with
    |some ⟨.sl (.sw e true),xss⟩=>∃(r:Int) (yss:List (List Int)),MC P F e xss k r yss/\yss.length=xss.length/\lput N dst (.f (I r)) ⟨killLE st.env,st.pools.set i ⟨.sl (.sw e true),yss⟩⟩ K
    |_=>False)
   |_=>False)
  |2=>(match args with
   |[.p i,.f (.d _ .int k)]=>(match st.pools[i]? with
    |some ⟨.sw e d,xs⟩=>∃(r:Int) (ys:List Int),AC P F [.ow 0,I k] [.sl e .int xs] [I r] [.sl e .int ys]/\ys.length=xs.length/\xs≠[]/\lput N dst (.f (I r)) ⟨killLE st.env,st.pools.set i ⟨.sw e d,ys⟩⟩ K
    |_=>False)
   |_=>False)
  |_=>(match args with
   |[.pi i j,.f (.d _ .int k)]=>(match st.pools[i]? with
    |some ⟨.sl (.sw e true),xss⟩=>∃(r:Int) (ys:List Int),AC P F [.ow 0,I k] [.sl e .int (xss.getD j [])] [I r] [.sl e .int ys]/\ys.length=(xss.getD j []).length/\xss.getD j []≠[]/\lput N dst (.f (I r)) ⟨st.env,st.pools.set i ⟨.sl (.sw e true),xss.set j ys⟩⟩ K
    |_=>False)
   |_=>False)
def flK (av:AV) (X:Prop):Prop:=match av with
 |.d _ .int _=>X
 |.d _ .bool _=>X
 |.d _ .u8 _=>X
 |.d _ .str _=>X
 |_=>False
theorem flK_ok {av:AV} {X:Prop} (h:flK av X):(flatV av).isSome=true/\X:=by
 unfold flK at h
 split at h<;>first|exact ⟨rfl,h⟩|exact h.elim
def lOp (P:Program) (τ:Nat->TI) (N:Nat) (st:LSt) (o:Oper) (K:LSt->Prop):Prop:=
 match o.op with
 |.move x=>lput N o.dst (evL st.env x) st K
 |.assign x=>lput N o.dst (evL st.env x) st K
 |.extract x i=>(match evL st.env x,i with
  |.two y _,0=>splL (fun y=>lput N o.dst y st K) y
  |.two _ z,1=>splL (fun z=>lput N o.dst z st K) z
  |_,_=>False)
 |.indexAddr T x i=>(match τ T,evL st.env x,evL st.env i with
  |.one (.sl _) _,.p q,.f (.d _ .int n)=>(match st.pools[q]? with
   |some ⟨.sl (.sw _ _),xss⟩=>∃j:Nat,n=(j:Int)/\j<List.length xss/\lput N o.dst (.pe q j) st K
   |_=>False)
  |_,_,_=>False)
 |.load T x=>(match τ T,evL st.env x with
  |.one _ _,.pe q j=>lput N o.dst (.pi q j) st K
  |_,_=>False)
 |.call c=>(match c.callee with
  |.value (.func F)=>lCall P N o.dst st F (c.args.toList.map (evL st.env)) K
  |.value _=>False
  |_=>pOp τ ⟨cvE st.pools st.env,[]⟩ o.op fun av=>flK av (lput N o.dst (.f av) st K))
 |_=>pOp τ ⟨cvE st.pools st.env,[]⟩ o.op fun av=>flK av (lput N o.dst (.f av) st K)
def lOps (P:Program) (τ:Nat->TI) (N:Nat) (all:Array Oper):List Oper->LSt->(LSt->Prop)->Prop
 |[],st,K=>K st
 |o::r,st,K=>match o.guard with
  |none=>lOp P τ N st o (fun st'=>lOps P τ N all r st' K)
  |some (j,want)=>gsel (gv all (cvE st.pools st.env) j) want (lOp P τ N st o (fun st'=>lOps P τ N all r st' K)) (lput N o.dst .u st (fun st'=>lOps P τ N all r st' K))
def thenL (n:LSt->Prop) (Q:Exit->LSt->Prop):Exit->LSt->Prop
 |.normal,st=>n st
 |e,st=>Q e st
def blkL (id:Nat) (Q:Exit->LSt->Prop):Exit->LSt->Prop
 |.exit i,st=>match Nat.beq i id with|true=>Q .normal st|false=>Q (.exit i) st
 |e,st=>Q e st
def subL (env:List (Nat × LV)):List (Nat × LV)->Prop
 |[]=>True
 |(t,x)::l=>lookL env t=x/\subL env l
def lwC (P:Program) (τ:Nat->TI) (N:Nat):Code->LSt->(Exit->LSt->Prop)->Prop
 |.skip,st,Q=>Q .normal st
 |.region _ ops false,st,Q=>lOps P τ N ops ops.toList st (Q .normal)
 |.seq a b,st,Q=>lwC P τ N a st (thenL (fun st'=>lwC P τ N b st' Q) Q)
 |.cond c x y,st,Q=>match evL st.env c with
  |.f (.d _ .bool b)=>(match (b:Bool) with|true=>lwC P τ N x st Q|false=>lwC P τ N y st Q)
  |_=>False
 |.block id c,st,Q=>lwC P τ N c st (blkL id Q)
 |.loop c,st,Q=>∃(ι:Type) (J:ι->LSt) (Inv:ι->Prop) (μ:ι->Nat) (i0:ι),Inv i0/\(st.pools=(J i0).pools/\subL st.env (J i0).env)/\∀i,Inv i->lwC P τ N c (J i) (thenL (fun st'=>∃j,Inv j/\μ j<μ i/\st'.pools=(J j).pools/\subL st'.env (J j).env) Q)
 |.exit id,st,Q=>Q (.exit id) st
 |.ret,st,Q=>Q .ret st
 |_,_,_=>False
section
variable {P:Program} {τ:Nat->TI} {N n0:Nat} {w0 w w':World} {ps:List (Nat->Prop)} {vals:List Value} {a:Act} {st:LSt}
theorem LVal.step {vals vals':List Value} {pools pools':List Pool} (hold:∀b,b<n0->b<w.heap.size->w'.heap[b]? =w.heap[b]?) (hv:∀(q:Nat) (v:Value),vals[q]? =some v->vals'[q]? =some v)
 (hp:∀(q:Nat) (e:Nat) (d:Bool) (xss:List (List Int)),pools[q]? =some ⟨.sl (.sw e d),xss⟩->∃xss':List (List Int),pools'[q]? =some ⟨.sl (.sw e d),xss'⟩/\xss'.length=xss.length)
 (hc:∀(q:Nat) (e:Nat) (d:Bool) (xss:List (List Int)) (b cap j:Nat) (v:Value),pools[q]? =some ⟨.sl (.sw e d),xss⟩->vals[q]? =some (.slice (some ⟨b,0,none⟩) (List.length xss) cap)->j<xss.length->w.cell? ⟨b,j,none⟩=some v->w'.cell? ⟨b,j,none⟩=some v):
 ∀{x:LV} {v:Value},LVal n0 w vals pools x v->LVal n0 w' vals' pools' x v
 |.f _,_,h=>h
 |.n,_,h=>h
 |.o t x,v,h=>Rd.ext (fun b hb hl=>⟨hold b hb hl,hb⟩) t x v h
 |.p i,v,h=>hv i v h
 |.pe i j,v,h=>by
  obtain ⟨e,d,xss,pv,b,cap,h1,h2,h3,h4,h5⟩:=h
  obtain ⟨xss',g1,g2⟩:=hp _ _ _ _ h1
  exact ⟨e,d,xss',pv,b,cap,g1,hv _ _ h2,by omega,by rw [g2];exact h4,h5⟩
 |.pi i j,v,h=>by
  obtain ⟨e,d,xss,pv,b,cap,h1,h2,h3,h4,h5⟩:=h
  obtain ⟨xss',g1,g2⟩:=hp _ _ _ _ h1
  subst h4
  exact ⟨e,d,xss',_,b,cap,g1,hv _ _ h2,by omega,by rw [g2],hc _ _ _ _ _ _ _ _ h1 h2 h3 h5⟩
 |.two x y,v,h=>by
  obtain ⟨a,b,h1,h2,h3⟩:=h
  exact ⟨a,b,h1,LVal.step hold hv hp hc h2,LVal.step hold hv hp hc h3⟩
 |.u,_,h=>h
 |.any,_,h=>h
theorem lookL_cons (d:Nat) (x:LV) (env:List (Nat × LV)) (t:Nat):lookL ((d,x)::env) t=if d=t then x else lookL env t:=by
 show (match Nat.beq d t with|true=>x|false=>lookL env t)=_
 by_cases h:d=t
 .subst h;simp
 .have:Nat.beq d t=false:=by
   cases hb:Nat.beq d t
   .rfl
   .exact (h (Nat.eq_of_beq_eq_true hb)).elim
  rw [this,if_neg h]
theorem lput_ok {x:LV} {v:Value} {dst:Option Nat} {K:LSt->Prop} (hs:LSat w0 n0 w ps vals a N st) (hv:LVal n0 w vals st.pools x v) (h:lput N dst x st K):∃st',LSat w0 n0 w ps vals (a.put dst v) N st'/\K st':=by
 unfold lput at h
 simp only [fLV_eq,fPs_eq] at h
 split at h
 .exact ⟨st,hs,h⟩
 .rename_i d
  split at h
  .rename_i hd
   have hd':d<N:=by
    have:Nat.ble (d+1) N=true:=hd
    exact Nat.le_of_ble_eq_true this
   refine ⟨⟨(d,x)::st.env,st.pools⟩,{hs with env:=fun t=>?_,size:=by simp [Act.put,hs.size],dfs:=hs.dfs},h⟩
   show LVal n0 w vals st.pools (lookL ((d,x)::st.env) t) _
   rw [lookL_cons]
   have hsz:=hs.size
   by_cases e:d=t
   .subst e
    rw [if_pos rfl]
    have:(a.put (some d) v).tmps.getD d undef=v:=by simp [Act.put,Array.getD,hsz,hd']
    rw [this];exact hv
   .rw [if_neg e]
    have:(a.put (some d) v).tmps.getD t undef=a.tmps.getD t undef:=by
     simp only [Act.put,Array.getD_eq_getD_getElem?,Array.getElem?_setIfInBounds]
     rw [if_neg e]
    rw [this];exact hs.env t
  .exact h.elim
def Ext1 {α:Type} (l l':List α):Prop:=∃x,l'=l++x
theorem Ext1.refl {α:Type} (l:List α):Ext1 l l:=⟨[],by simp⟩
theorem Ext1.trans {α:Type} {l l' l'':List α} (h:Ext1 l l') (k:Ext1 l' l''):Ext1 l l'':=by
 obtain ⟨x,rfl⟩:=h
 obtain ⟨y,rfl⟩:=k
 exact ⟨x++y,by simp⟩
def NxL (w0:World) (n0 N:Nat) (ps:List (Nat->Prop)) (vals:List Value) (K:LSt->Prop) (Kc:Act->World->Prop):Prop:=
 ∀w' ps' vals' a' st',LSat w0 n0 w' ps' vals' a' N st'->Ext1 ps ps'->Ext1 vals vals'->K st'->Kc a' w'
theorem NxL.of {K:LSt->Prop} {Kc:Act->World->Prop} (hK:NxL w0 n0 N ps vals K Kc) {ps':List (Nat->Prop)} {vals':List Value} {x:LV} {v:Value} {dst:Option Nat} (hs:LSat w0 n0 w ps' vals' a N st) (h1:Ext1 ps ps') (h2:Ext1 vals vals') (hv:LVal n0 w vals' st.pools x v) (h:lput N dst x st K):Kc (a.put dst v) w:=by
 obtain ⟨st',g1,g2⟩:=lput_ok hs hv h
 exact hK _ _ _ _ _ g1 h1 h2 g2
theorem splL_ok {k:LV->Prop} {x:LV} {v:Value} {pools:List Pool} (hv:LVal n0 w vals pools x v) (h:splL k x):∃y,LVal n0 w vals pools y v/\k y:=by
 unfold splL at h
 split at h
 .rename_i s b
  cases b
  .exact ⟨_,hv,h.2 rfl⟩
  .exact ⟨_,hv,h.1 rfl⟩
 .exact ⟨_,hv,h⟩
theorem cstL_ok (v:Value) (pools:List Pool):LVal n0 w vals pools (cstL v) v:=by
 unfold cstL
 have h:=cst_ok w [] (fun _=>False) [] v
 split
 .rename_i e;rw [e] at h;exact h
 .rename_i s t x e
  rw [e] at h
  have hf:∃u,flatV (.d s t x)=some u:=by
   unfold cst at e
   split at e<;>cases e<;>exact ⟨_,rfl⟩
  obtain ⟨u,hu⟩:=hf
  exact ⟨u,hu,flatV_ok hu h⟩
 .trivial
theorem evL_ok (hs:LSat w0 n0 w ps vals a N st) (x:Operand):LVal n0 w vals st.pools (evL st.env x) (a.eval x):=by
 cases x with
 |tmp t=>exact hs.env t
 |const v=>exact cstL_ok v _
 |global g=>trivial
 |func f=>trivial
structure Grw (w w':World):Prop where
 os:w'.os=w.os
 tape:w'.tape=w.tape
 output:w'.output=w.output
 size:w.heap.size<=w'.heap.size
 old:∀k,k<w.heap.size->w'.heap[k]? =w.heap[k]?
theorem Grw.cell (h:Grw w w') {b o:Nat} {v:Value} (hc:w.cell? ⟨b,o,none⟩=some v):w'.cell? ⟨b,o,none⟩=some v:=(cell_of_block (h.old b (cell_lt hc))).trans hc
theorem LSat.grow (hs:LSat w0 n0 w ps vals a N st) (h:Grw w w'):LSat w0 n0 w' ps vals a N st where
 n:=hs.n
 os:=h.os.trans hs.os
 tape:=h.tape.trans hs.tape
 output:=h.output.trans hs.output
 sz:=Nat.le_trans hs.sz h.size
 fr:=fun b hb hS=>(h.old b (Nat.lt_of_lt_of_le hb hs.sz)).trans (hs.fr b hb hS)
 l1:=hs.l1
 l2:=hs.l2
 lt:=fun i S hS b hb=>⟨(hs.lt i S hS b hb).1,Nat.lt_of_lt_of_le (hs.lt i S hS b hb).2 h.size⟩
 dis:=hs.dis
 pv:=fun i S p v h1 h2 h3=>PV.ext (fun b hb _=>⟨h.old b (hs.lt i S h1 b hb).2,hb⟩) (hs.pv i S p v h1 h2 h3)
 env:=fun t=>LVal.step (fun b _ hl=>h.old b hl) (fun _ _ h=>h) (fun _ _ _ xss h=>⟨xss,h,rfl⟩) (fun _ _ _ _ _ _ _ _ _ _ _ hc=>h.cell hc) (hs.env t)
 size:=hs.size
 dfs:=hs.dfs
theorem LSat.push (hs:LSat w0 n0 w ps vals a N st) (h:Grw w w') {p:Pool} {v:Value} (hv:PV w' (fun b=>w.heap.size<=b/\b<w'.heap.size) p.t p.x v):
 LSat w0 n0 w' (ps++[fun b=>w.heap.size<=b/\b<w'.heap.size]) (vals++[v]) a N ⟨st.env,st.pools++[p]⟩:=by
 have hg:=hs.grow h
 have hl1:=hs.l1
 have hl2:=hs.l2
 have hlt:∀(i:Nat) (S:Nat->Prop),(ps++[fun b=>w.heap.size<=b/\b<w'.heap.size])[i]? =some S->(i<ps.length/\ps[i]? =some S)\/(i=ps.length/\S=fun b=>w.heap.size<=b/\b<w'.heap.size):=fun i S hS=>by
  by_cases hi:i<ps.length
  .rw [List.getElem?_append_left hi] at hS;exact .inl ⟨hi,hS⟩
  .have hi2:i=ps.length:=by have:=(List.getElem?_eq_some_iff.1 hS).1;simp at this;omega
   subst hi2
   rw [List.getElem?_append_right (Nat.le_refl _)] at hS
   simp at hS
   exact .inr ⟨rfl,hS.symm⟩
 refine {n:=hs.n,os:=hg.os,tape:=hg.tape,output:=hg.output,sz:=hg.sz,fr:=fun b hb hS=>hg.fr b hb fun S hm=>hS S (List.mem_append_left _ hm),l1:=by simp [hl1],l2:=by simp [hl2],lt:=?_,dis:=?_,pv:=?_,env:=?_,size:=hs.size,dfs:=hs.dfs}
 .intro i S hS b hb
  rcases hlt i S hS with ⟨_,h1⟩|⟨_,rfl⟩
  .exact hg.lt i S h1 b hb
  .exact ⟨Nat.le_trans (Nat.le_trans hs.n hs.sz) hb.1,hb.2⟩
 .intro i j S T hS hT hij b hb hb2
  rcases hlt i S hS with ⟨h0,h1⟩|⟨h0,rfl⟩
  .rcases hlt j T hT with ⟨k0,k1⟩|⟨k0,rfl⟩
   .exact hs.dis i j S T h1 k1 hij b hb hb2
   .have:=(hs.lt i S h1 b hb).2;have:=hb2.1;omega
  .rcases hlt j T hT with ⟨k0,k1⟩|⟨k0,rfl⟩
   .have:=(hs.lt j T k1 b hb2).2;have:=hb.1;omega
   .omega
 .intro i S q u hS hq hu
  rcases hlt i S hS with ⟨h0,h1⟩|⟨h0,rfl⟩
  .simp only [List.getElem?_append_left (show i<st.pools.length by omega)] at hq
   rw [List.getElem?_append_left (by omega)] at hu
   exact hg.pv i S q u h1 hq hu
  .subst h0
   simp only [List.getElem?_append_right (show st.pools.length<=ps.length by omega),show ps.length-st.pools.length=0 by omega] at hq
   rw [List.getElem?_append_right (by omega),show ps.length-vals.length=0 by omega] at hu
   simp at hq hu
   subst hq;subst hu
   exact hv
 .intro t
  refine LVal.step (fun _ _ _=>rfl) (fun q u hq=>?_) (fun q e d xss hq=>⟨xss,?_,rfl⟩) (fun _ _ _ _ _ _ _ _ _ _ _ hc=>hc) (hg.env t)
  .rw [List.getElem?_append_left (List.getElem?_eq_some_iff.1 hq).1];exact hq
  .show (st.pools++[p])[q]? =_
   rw [List.getElem?_append_left (List.getElem?_eq_some_iff.1 hq).1];exact hq
theorem lookL_kill (env:List (Nat × LV)) (t:Nat):lookL (killLE env) t=killL (lookL env t):=by
 induction env with
 |nil=>rfl
 |cons hd tl ih=>
  obtain ⟨u,v⟩:=hd
  rw [killLE,lookL_cons,lookL_cons]
  split
  .rfl
  .exact ih
theorem LVal.kill {vals:List Value} {pools pools':List Pool} (hold:∀b,b<n0->b<w.heap.size->w'.heap[b]? =w.heap[b]?) {x:LV} {v:Value} (h:LVal n0 w vals pools x v):LVal n0 w' vals pools' (killL x) v:=by
 cases x<;>first|exact h|trivial|exact Rd.ext (fun b hb hl=>⟨hold b hb hl,hb⟩) _ _ v h
theorem newL_ok (hs:LSat w0 n0 w ps vals a N st) {bs':List Nat} {A':Nat->Prop} {rows':List Row} (hg:Grw w w') (hrok:ROk w' bs' A' rows') (hbs:∀b∈bs',w.heap.size<=b) (hA:∀b,A' b->w.heap.size<=b)
 {r:AV} {v:Value} (hv:V w' bs' A' rows' r v) {x:LV} {q:List Pool} (h:newL st.pools.length rows' r=some (x,q)):
 ∃ps' vals',LSat w0 n0 w' ps' vals' a N ⟨st.env,st.pools++q⟩/\Ext1 ps ps'/\Ext1 vals vals'/\LVal n0 w' vals' (st.pools++q) x v:=by
 have hl2:=hs.l2
 have push:∀{p:Pool},PV w' (fun b=>w.heap.size<=b/\b<w'.heap.size) p.t p.x v->∃ps' vals',LSat w0 n0 w' ps' vals' a N ⟨st.env,st.pools++[p]⟩/\Ext1 ps ps'/\Ext1 vals vals'/\LVal n0 w' vals' (st.pools++[p]) (.p st.pools.length) v:=fun {p} hp=>
  ⟨_,_,hs.push hg hp,⟨_,rfl⟩,⟨_,rfl⟩,by
   show (vals++[v])[st.pools.length]? =some v
   rw [List.getElem?_append_right (by omega),hl2,Nat.sub_self];rfl⟩
 have stay:∀{x:LV},LVal n0 w' vals st.pools x v->∃ps' vals',LSat w0 n0 w' ps' vals' a N ⟨st.env,st.pools++[]⟩/\Ext1 ps ps'/\Ext1 vals vals'/\LVal n0 w' vals' (st.pools++[]) x v:=fun {x} hx=>by
  rw [List.append_nil]
  exact ⟨ps,vals,hs.grow hg,Ext1.refl _,Ext1.refl _,hx⟩
 have sub:∀b,A' b->b<w'.heap.size->w'.heap[b]? =w'.heap[b]?/\(w.heap.size<=b/\b<w'.heap.size):=fun b hb hl=>⟨rfl,hA b hb,hl⟩
 unfold newL at h
 split at h
 .cases h
 .rename_i e d xs
  cases h
  refine push ?_
  have hv:RdW w' A' e xs v:=hv
  have hv2:RdW w' (fun b=>w.heap.size<=b/\b<w'.heap.size) e xs v:=RdW.ext sub hv
  exact hv2
 .rename_i t y hnsw hnsw2
  split at h
  .rename_i hf
   cases h
   refine stay ?_
   have hv:Rd w' A' t y v:=hv
   cases t<;>first|exact ⟨_,rfl,hv⟩|(simp [Ty.flat] at hf)
  .cases h
   refine push ?_
   have hv:Rd w' A' t y v:=hv
   have hv2:=Rd.ext sub t y v hv
   cases t with
   |sl t'=>cases t' with
    |sw e d=>exact (hnsw e d y rfl HEq.rfl).elim
    |_=>exact hv2
   |_=>exact hv2
 .cases h
  exact stay hv
 .split at h
  .rename_i e xs
   cases h
   refine push ?_
   obtain ⟨b,e2,t2,xs2,cur,h1,h2,h3,h4⟩:=hv
   cases h2
   obtain ⟨hnA,cur2,c1,c2,c3,c4⟩:=hrok.row 0 b _ h1 rfl
   rw [h3] at c1;cases c1
   have hb:=List.mem_of_getElem? h1
   show RdW _ _ _ _ _
   by_cases hx:xs=[]
   .subst hx;exact .inl ⟨rfl,_,_,h4,fun hh=>by cases hh⟩
   .refine .inr ⟨hx,b,cur,h4,⟨hbs b hb,hrok.lt b hb⟩,h3,c2,c3,fun j hj=>?_⟩
    obtain ⟨cv,k1,k2⟩:=c4.c j hj
    rw [k1];exact congrArg some k2
  .rename_i E e d xss
   cases h
   refine push ?_
   obtain ⟨b,e2,t2,xs2,cur,h1,h2,h3,h4⟩:=hv
   cases h2
   obtain ⟨hnA,cur2,c1,c2,c3,c4⟩:=hrok.row 0 b _ h1 rfl
   rw [h3] at c1;cases c1
   have hb:=List.mem_of_getElem? h1
   refine .inr ⟨b,cur,E,h4,⟨hbs b hb,hrok.lt b hb⟩,h3,c2,fun j hj=>?_,c4.d⟩
   obtain ⟨cv,k1,k2⟩:=c4.c j hj
   exact ⟨cv,k1,RdW.ext (fun c hc hl=>⟨rfl,⟨hA c hc,hl⟩,fun e=>hnA (e ▸ hc)⟩) k2⟩
  .rename_i E t xss
   cases h
   refine push ?_
   obtain ⟨b,e2,t2,xs2,cur,h1,h2,h3,h4⟩:=hv
   cases h2
   obtain ⟨hnA,cur2,c1,c2,c3,c4⟩:=hrok.row 0 b _ h1 rfl
   rw [h3] at c1;cases c1
   have hb:=List.mem_of_getElem? h1
   have hfin:Rd w' (fun b=>w.heap.size<=b/\b<w'.heap.size) (.sl (.sl t)) xss v:=by
    refine ⟨some ⟨b,0,none⟩,cur.size,h4,c2,(fun hh=>by cases hh),.inr ⟨b,0,rfl,⟨hbs b hb,hrok.lt b hb⟩,fun j hj=>?_⟩⟩
    obtain ⟨cv,k1,k2⟩:=c4.c j hj
    exact ⟨cv,by rw [Nat.zero_add,cell_of_row w' b j cur E (0,0) h3];exact k1,Rd.ext sub (.sl t) _ _ k2⟩
   exact hfin
  .cases h
 .cases h
theorem args_ok (hs:LSat w0 n0 w ps vals a N st):∀l:List Operand,Vs w [] (fun _=>False) [] ((l.map (evL st.env)).map (cvL st.pools)) (l.map a.eval)
 |[]=>rfl
 |x::l=>⟨_,_,rfl,LVal.cv hs (evL_ok hs x),args_ok hs l⟩
theorem run_lcall {o:Oper} {c:Call} {F:FuncId} (ho:o.op=.call c) (hc:c.callee=.value (.func F)) (hr:Runs P F):(execOp a.eval o).run P w=.ok (.enter F (c.args.toList.map a.eval).toArray) w:=by
 have e:(List.map a.eval c.args.toList).toArray=c.args.map a.eval:=by rw [<-Array.toList_map,Array.toArray_toList]
 rw [e]
 have hfv:a.eval (.func F)=.func (.func F) #[] #[]:=rfl
 simp only [execOp,ho,resolve,hc,hfv,Deferred.ofValue,Sem.run_bind,Sem.run_pure,Result.andThen_ok,invoke]
 rw [show (#[]:Array Value)++c.args.map a.eval++ #[]=c.args.map a.eval by simp]
 exact run_callFunc_enter hr _ w
theorem rok0 (w:World):ROk w [] (fun _=>False) []:=⟨rfl,nd0,fun b hb=>by simp at hb,fun b hb=>hb.elim,fun i b r hb=>by simp at hb⟩
theorem mark_row {F:FuncId} {e:Nat} {xs ys:List Int} {k r:Int} (hA:AC P F [.ow 0,I k] [.sl e .int xs] [I r] [.sl e .int ys]) {b:Nat} {cur:Array Value} (hb:w.heap[b]? =some (.cells cur e (0,0))) (hle:xs.length<=cur.size) (hmx:cur.size<=maxLen) (hc:∀(j:Nat) (h:j<xs.length),cur[j]? =some (.int .i64 (xs[j]'h))) (hl:ys.length=xs.length):
 Calls P F #[.slice (some ⟨b,0,none⟩) xs.length cur.size,.int .i64 k] w fun ex w'=>ex=.returned (.int .i64 r)/\w'.os=w.os/\w'.tape=w.tape/\w'.output=w.output/\w.heap.size<=w'.heap.size/\(∀k,k<w.heap.size->k≠b->w'.heap[k]? =w.heap[k]?)/\
  ∃cur',w'.heap[b]? =some (.cells cur' e (0,0))/\cur'.size=cur.size/\∀(j:Nat) (h:j<ys.length),cur'[j]? =some (.int .i64 (ys[j]'h)):=by
 have hbl:=lt_of_heap hb
 refine (hA.2 w [b] (fun _=>False) [.slice (some ⟨b,0,none⟩) xs.length cur.size,.int .i64 k] ⟨rfl,by simp,fun c hc=>by simp at hc;omega,fun c hc=>hc.elim,fun i c q h1 h2=>?_⟩ ⟨_,_,rfl,⟨b,e,.int,xs,cur,rfl,rfl,hb,rfl⟩,_,_,rfl,rfl,rfl⟩).mono ?_
 .match i,h1,h2 with
  |0,h1,h2=>
   simp at h1 h2;subst h1;subst h2
   exact ⟨fun h=>h,cur,hb,hle,hmx,fun j hj=>⟨_,hc j hj,rfl⟩,trivial⟩
  |i+1,h1,_=>simp at h1
 .rintro ex w' ⟨rv,bs',A',rfl,hrok,hres,hstep,⟨new,rfl⟩,hstay,_⟩
  have hnew:new=[]:=List.eq_nil_of_length_eq_zero (by have h9:=hrok.len;rw [List.length_append] at h9;simp only [List.length_cons,List.length_nil] at h9;omega)
  subst hnew
  have hrv:rv=.int .i64 r:=hres
  subst hrv
  obtain ⟨cur',g1,g2⟩:=hstay b (by simp) cur e hb
  obtain ⟨_,cur2,c1,_,_,c4⟩:=hrok.row 0 b _ rfl rfl
  rw [g1] at c1;cases c1
  refine ⟨rfl,hstep.os,hstep.tape,hstep.output,hstep.size,fun k hk hn=>hstep.block k hk (by simpa using hn),cur',g1,g2,fun j hj=>?_⟩
  obtain ⟨cv,k1,k2⟩:=c4.c j hj
  rw [k1];exact congrArg some k2
theorem LSat.write (hs:LSat w0 n0 w ps vals a N st) {i:Nat} {S:Nat->Prop} {p q:Pool} {v:Value} (hS:ps[i]? =some S) (hp:st.pools[i]? =some p) (hv:vals[i]? =some v) (hq:PV w' S q.t q.x v)
 (h1:w'.os=w.os) (h2:w'.tape=w.tape) (h3:w'.output=w.output) (h4:w.heap.size<=w'.heap.size) (h5:∀b,b<w.heap.size->¬S b->w'.heap[b]? =w.heap[b]?) {env':List (Nat × LV)}
 (he:∀t,LVal n0 w' vals (st.pools.set i q) (lookL env' t) (a.tmps.getD t undef)):LSat w0 n0 w' ps vals a N ⟨env',st.pools.set i q⟩ where
 n:=hs.n
 os:=h1.trans hs.os
 tape:=h2.trans hs.tape
 output:=h3.trans hs.output
 sz:=Nat.le_trans hs.sz h4
 fr:=fun b hb hn=>(h5 b (Nat.lt_of_lt_of_le hb hs.sz) (hn S (List.mem_of_getElem? hS))).trans (hs.fr b hb hn)
 l1:=by simp [hs.l1]
 l2:=by simp [hs.l2]
 lt:=fun j T hT b hb=>⟨(hs.lt j T hT b hb).1,Nat.lt_of_lt_of_le (hs.lt j T hT b hb).2 h4⟩
 dis:=hs.dis
 pv:=fun j T u x hT hu hx=>by
  by_cases e:i=j
  .subst e
   rw [hS] at hT;cases hT
   rw [hv] at hx;cases hx
   have hil:=(List.getElem?_eq_some_iff.1 hp).1
   simp only [List.getElem?_set_self hil] at hu
   cases hu
   exact hq
  .simp only [List.getElem?_set_ne e] at hu
   exact PV.ext (fun b hb hl=>⟨h5 b hl (fun hSb=>hs.dis i j S T hS hT e b hSb hb),hb⟩) (hs.pv j T u x hT hu hx)
 env:=he
 size:=hs.size
 dfs:=hs.dfs
theorem lCall_ok (hs:LSat w0 n0 w ps vals a N st) {o:Oper} {K:LSt->Prop} {Kc:Act->World->Prop} {Q:Exit->Act->World->Prop} (hK:NxL w0 n0 N ps vals K Kc) {c:Call} {F:FuncId} (hop:o.op=.call c) (hc:c.callee=.value (.func F))
 (h:lCall P N o.dst st F (c.args.toList.map (evL st.env)) K):o.wp P a w Kc Q:=by
 have hvs:∀l:List Operand,∀(j:Nat) (x:LV),(l.map (evL st.env))[j]? =some x->∃v,(l.map a.eval)[j]? =some v/\LVal n0 w vals st.pools x v:=fun l j x hx=>by
  rw [List.getElem?_map] at hx ⊢
  cases hl:l[j]? with
  |none=>rw [hl] at hx;cases hx
  |some y=>
   rw [hl] at hx
   simp at hx
   exact ⟨a.eval y,rfl,hx ▸ evL_ok hs y⟩
 have ent:Runs P F->∀{R:Ending->World->Prop},Calls P F (c.args.toList.map a.eval).toArray w R->(∀e w',R e w'->∃rv,e=.returned rv/\Kc (a.put o.dst rv) w')->o.wp P a w Kc Q:=fun hr R hcalls hR=>by
  unfold Oper.wp
  rw [run_lcall hop hc hr,Oper.upon_enter]
  refine hcalls.mono fun e w' he=>?_
  obtain ⟨rv,rfl,hk⟩:=hR e w' he
  exact hk
 have two:∀{x y:LV},c.args.toList.map (evL st.env)=[x,y]->∃v1 v2,c.args.toList.map a.eval=[v1,v2]/\LVal n0 w vals st.pools x v1/\LVal n0 w vals st.pools y v2:=fun {x y} he=>by
  have h0:=hvs c.args.toList 0 x (by rw [he];rfl)
  have h1:=hvs c.args.toList 1 y (by rw [he];rfl)
  obtain ⟨v1,g1,g2⟩:=h0
  obtain ⟨v2,g3,g4⟩:=h1
  have hlen:(c.args.toList.map a.eval).length=2:=by rw [List.length_map,<-List.length_map (f:=evL st.env),he];rfl
  refine ⟨v1,v2,?_,g2,g4⟩
  match hl:c.args.toList.map a.eval,hlen with
  |[u1,u2],_=>
   rw [hl] at g1 g3
   simp at g1 g3
   rw [g1,g3]
 have hld:∀{i:Nat} {p:Pool},st.pools[i]? =some p->∃S,ps[i]? =some S:=fun {i p} hp=>⟨ps[i]'(by rw [hs.l1];exact (List.getElem?_eq_some_iff.1 hp).1),List.getElem?_eq_getElem _⟩
 have fint:∀{s:Bool} {k:Int} {v:Value},LVal n0 w vals st.pools (.f (.d s .int k)) v->v=.int .i64 k:=fun {s k v} hv=>by
  obtain ⟨u,h1,h2⟩:=hv
  cases h1;exact h2
 unfold lCall at h
 obtain ⟨md,h⟩:=h
 split at h
 .obtain ⟨res,rows',⟨hruns,hAC⟩,h⟩:=h
  have hargs:=args_ok hs c.args.toList
  refine ent hruns (hAC w [] (fun _=>False) _ (rok0 w) hargs) ?_
  rintro e w' ⟨rv,bs',A',rfl,hrok,hres,hstep,_,_,_⟩
  refine ⟨rv,rfl,?_⟩
  have hg:Grw w w':=⟨hstep.os,hstep.tape,hstep.output,hstep.size,fun k hk=>hstep.block k hk (by simp)⟩
  have hbs:∀b∈bs',w.heap.size<=b:=fun b hb=>by
   rcases hstep.sbs b hb with h1|h1
   .simp at h1
   .exact h1
  have hA:∀b,A' b->w.heap.size<=b:=fun b hb=>by
   rcases hstep.sA b hb with h1|h1|h1
   .exact h1.elim
   .exact h1
   .simp at h1
  unfold lRes at h
  split at h
  .rename_i r
   split at h
   .rename_i x q hnew
    obtain ⟨ps',vals',k1,k2,k3,k4⟩:=newL_ok hs hg hrok hbs hA (show V w' bs' A' rows' r rv from hres) hnew
    obtain ⟨y,k5,k6⟩:=splL_ok k4 h
    exact hK.of k1 k2 k3 k5 k6
   .exact h.elim
  .rename_i r t y
   obtain ⟨hf,h⟩:=h
   split at h
   .rename_i x q hnew
    obtain ⟨vs,rfl,v1,r1,rfl,hv1,v2,r2,rfl,hv2,rfl⟩:=(show ∃vs:List Value,rv=.tuple vs.toArray/\Vs w' bs' A' rows' [r,.d true t y] vs from hres)
    obtain ⟨ps',vals',k1,k2,k3,k4⟩:=newL_ok hs hg hrok hbs hA hv1 hnew
    refine hK.of k1 k2 k3 (x:=.two x (.f (.d true t y))) ⟨v1,v2,rfl,k4,?_⟩ h
    have hv2:Rd w' A' t y v2:=hv2
    cases t<;>first|exact ⟨_,rfl,hv2⟩|(simp [Ty.flat] at hf)
   .exact h.elim
  .exact h.elim
 .split at h
  .rename_i i s k he
   split at h
   .rename_i e xss hp
    obtain ⟨r,yss,⟨hruns,hmc⟩,hlen,h⟩:=h
    obtain ⟨v1,v2,hl,g1,g2⟩:=two he
    obtain ⟨S,hS⟩:=hld hp
    have g1:vals[i]? =some v1:=g1
    have hpv:PVS w S e true xss v1:=hs.pv i S _ v1 hS hp g1
    have hcalls:=hmc w S v1 (fun b hb=>(hs.lt i S hS b hb).2) hpv
    refine ent hruns (R:=fun ex w'=>ex=.returned (.int .i64 r)/\PVS w' S e true yss v1/\w'.os=w.os/\w'.tape=w.tape/\w'.output=w.output/\w.heap.size<=w'.heap.size/\∀b,b<w.heap.size->¬S b->w'.heap[b]? =w.heap[b]?) (by rw [hl,fint g2];exact hcalls) ?_
    rintro ex w' ⟨rfl,q1,q2,q3,q4,q5,q6⟩
    refine ⟨_,rfl,?_⟩
    refine hK.of (hs.write (q:=⟨.sl (.sw e true),yss⟩) (env':=killLE st.env) hS hp g1 q1 q2 q3 q4 q5 q6 fun t=>?_) (Ext1.refl _) (Ext1.refl _) (x:=.f (I r)) ⟨_,rfl,rfl⟩ h
    rw [lookL_kill]
    exact LVal.kill (fun b hb hl=>q6 b hl fun hSb=>by have:=(hs.lt i S hS b hSb).1;omega) (hs.env t)
   .exact h.elim
  .exact h.elim
 .split at h
  .rename_i i s k he
   split at h
   .rename_i e d xs hp
    obtain ⟨r,ys,hAC,hlen,hne,h⟩:=h
    obtain ⟨v1,v2,hl,g1,g2⟩:=two he
    obtain ⟨S,hS⟩:=hld hp
    have g1:vals[i]? =some v1:=g1
    have hpv:RdW w S e xs v1:=hs.pv i S _ v1 hS hp g1
    rcases hpv with ⟨hx,_⟩|⟨_,b,cur,rfl,hSb,hb,hle,hmx,hcc⟩
    .exact (hne hx).elim
    have hcalls:=mark_row hAC hb hle hmx hcc hlen
    refine ent hAC.1 (by rw [hl,fint g2];exact hcalls) ?_
    rintro ex w' ⟨rfl,q2,q3,q4,q5,q6,cur',q7,q8,q9⟩
    refine ⟨_,rfl,?_⟩
    refine hK.of (hs.write (q:=⟨.sw e d,ys⟩) (env':=killLE st.env) hS hp g1 ?_ q2 q3 q4 q5 (fun b2 hb2 hn=>q6 b2 hb2 (fun e=>hn (e ▸ hSb))) fun t=>?_) (Ext1.refl _) (Ext1.refl _) (x:=.f (I r)) ⟨_,rfl,rfl⟩ h
    .have hyn:ys≠[]:=fun hh=>hne (List.eq_nil_of_length_eq_zero (by rw [<-hlen,hh];rfl))
     have hfin:RdW w' S e ys (.slice (some ⟨b,0,none⟩) (List.length xs) cur.size):=.inr ⟨hyn,b,cur',by rw [hlen,q8],hSb,q7,by omega,by omega,q9⟩
     exact hfin
    .rw [lookL_kill]
     exact LVal.kill (fun b2 hb2 hl2=>q6 b2 hl2 fun e=>by have:=(hs.lt i S hS b hSb).1;omega) (hs.env t)
   .exact h.elim
  .exact h.elim
 .split at h
  .rename_i i j s k he
   split at h
   .rename_i e xss hp
    obtain ⟨r,ys,hAC,hlen,hne,h⟩:=h
    obtain ⟨v1,v2,hl,g1,g2⟩:=two he
    obtain ⟨S,hS⟩:=hld hp
    obtain ⟨e',d',xss',pv,b,cap,m1,m2,m3,m4,m5⟩:=g1
    rw [hp] at m1;cases m1
    have hpv:PVS w S e true xss pv:=hs.pv i S _ pv hS hp m2
    have hgd:xss.getD j []=xss[j]:=getD_get _ _ _ m3
    rw [hgd] at hAC hlen hne
    rcases hpv with ⟨hx,_⟩|⟨b',cur,E,k1,k2,k3,k4,k5⟩
    .rw [hx] at m3;simp at m3
    have k1':=k1
    rw [m4] at k1'
    simp only [Value.slice.injEq,Option.some.injEq,Addr.mk.injEq] at k1'
    obtain ⟨⟨rfl,_⟩,_,_⟩:=k1'
    obtain ⟨cv,q1,q2⟩:=k5.c j m3
    have hcell:=m5
    rw [cell_of_row w b j cur E (0,0) k3,q1] at hcell
    cases hcell
    rcases q2 with ⟨hx,_⟩|⟨_,cb,curc,rfl,hSc,hcb,hle,hmx,hcc⟩
    .exact (hne hx).elim
    have hcalls:=mark_row hAC hcb hle hmx hcc hlen
    refine ent hAC.1 (by rw [hl,fint g2];exact hcalls) ?_
    rintro ex w' ⟨rfl,t2,t3,t4,t5,t6,cur',t7,t8,t9⟩
    refine ⟨_,rfl,?_⟩
    have htop:w'.heap[b]? =some (.cells cur E (0,0)):=(t6 b (lt_of_heap k3) (fun e=>hSc.2 e.symm)).trans k3
    refine hK.of (hs.write (q:=⟨.sl (.sw e true),xss.set j ys⟩) (env':=st.env) hS hp m2 ?_ t2 t3 t4 t5 (fun b2 hb2 hn=>t6 b2 hb2 (fun e=>hn (e ▸ hSc.1))) fun t=>?_) (Ext1.refl _) (Ext1.refl _) (x:=.f (I r)) ⟨_,rfl,rfl⟩ h
    .have hsl:(xss.set j ys).length=xss.length:=List.length_set
     refine .inr ⟨b,cur,E,by rw [hsl];exact k1,k2,htop,by rw [hsl];exact k4,fun j2 hj2=>?_,by rw [hsl];exact k5.d⟩
     have hj2':j2<xss.length:=by have h9:=hj2;rw [hsl] at h9;exact h9
     by_cases ej:j=j2
     .subst ej
      refine ⟨_,q1,?_⟩
      have e2:(xss.set j ys)[j]'hj2=ys:=List.getElem_set_self (h:=hj2)
      rw [e2]
      exact .inr ⟨fun hh=>hne (List.eq_nil_of_length_eq_zero (by rw [<-hlen,hh];rfl)),cb,cur',by rw [hlen,t8],hSc,t7,by omega,by omega,t9⟩
     .obtain ⟨cv2,u1,u2⟩:=k5.c j2 hj2'
      refine ⟨cv2,u1,?_⟩
      rw [List.getElem_set_ne ej]
      rcases u2 with u2|⟨hn2,cb2,curc2,rfl,hS2,hcb2,u3⟩
      .exact .inl u2
      .have hne2:cb2≠cb:=by
        have hl1:(List.length xss[j])≠0:=fun hh=>hne (List.eq_nil_of_length_eq_zero hh)
        have hl2:(List.length xss[j2])≠0:=fun hh=>hn2 (List.eq_nil_of_length_eq_zero hh)
        have hd:DstV cur xss.length:=k5.d
        rcases Nat.lt_or_gt_of_ne ej with h12|h12
        .exact fun e=>hd j j2 h12 hj2' _ _ _ _ _ _ q1 u1 hl1 hl2 e.symm
        .exact fun e=>hd j2 j h12 m3 _ _ _ _ _ _ u1 q1 hl2 hl1 e
       exact .inr ⟨hn2,cb2,curc2,rfl,hS2,(t6 cb2 (lt_of_heap hcb2) hne2).trans hcb2,u3⟩
    .refine LVal.step (fun b2 hb2 hl2=>t6 b2 hl2 fun e=>by have:=(hs.lt i S hS cb hSc.1).1;omega) (fun _ _ h=>h) (fun q e' d xss' hq=>?_) (fun q e' d xss' b2 cap2 j2 u hq hvq hj2 hc=>?_) (hs.env t)
     .by_cases eq:i=q
      .subst eq
       rw [hp] at hq;cases hq
       exact ⟨xss.set j ys,List.getElem?_set_self (List.getElem?_eq_some_iff.1 hp).1,List.length_set⟩
      .exact ⟨xss',by rw [List.getElem?_set_ne eq];exact hq,rfl⟩
     .have hb2:=cell_lt hc
      refine (cell_of_block (t6 b2 hb2 ?_)).trans hc
      obtain ⟨T,hT⟩:=hld hq
      have hpq:PVS w T e' d xss' _:=hs.pv q T _ _ hT hq hvq
      rcases hpq with ⟨hx,_⟩|⟨b3,cur3,E3,v1,v2,v3,_⟩
      .rw [hx] at hj2;simp at hj2
      simp only [Value.slice.injEq,Option.some.injEq,Addr.mk.injEq] at v1
      obtain ⟨⟨rfl,_⟩,_,_⟩:=v1
      by_cases eq:i=q
      .subst eq
       rw [hp] at hq;cases hq
       rw [m2] at hvq
       simp only [Option.some.injEq,m4,Value.slice.injEq,Addr.mk.injEq] at hvq
       obtain ⟨⟨rfl,_⟩,_⟩:=hvq
       exact fun e=>hSc.2 e.symm
      .exact fun e=>hs.dis i q S T hS hT eq cb hSc.1 (e ▸ v2)
   .exact h.elim
  .exact h.elim
theorem lOp_ok (hτ:TyOk P τ) (hs:LSat w0 n0 w ps vals a N st) {o:Oper} {K:LSt->Prop} {Kc:Act->World->Prop} {Q:Exit->Act->World->Prop} (hK:NxL w0 n0 N ps vals K Kc) (h:lOp P τ N st o K):o.wp P a w Kc Q:=by
 have r1:=Ext1.refl ps
 have r2:=Ext1.refl vals
 have hsat:=hs.sat
 have pure:pOp τ ⟨cvE st.pools st.env,[]⟩ o.op (fun av=>flK av (lput N o.dst (.f av) st K))->o.wp P a w Kc Q:=fun h=>by
  obtain ⟨v,av,h1,h2,hflk⟩:=pOp_ok hτ hsat h
  obtain ⟨hfl,h3⟩:=flK_ok hflk
  refine wp_of_run (h1 w (Ext.refl w)) (hK.of hs r1 r2 (x:=.f av) ?_ h3)
  cases hx:flatV av with
  |none=>rw [hx] at hfl;simp at hfl
  |some u=>exact ⟨u,hx,flatV_ok hx h2⟩
 unfold lOp at h
 split at h
 .rename_i x hop
  exact wp_of_run (v:=a.eval x) (w':=w) (by simp only [execOp,hop];rfl) (hK.of hs r1 r2 (evL_ok hs x) h)
 .rename_i x hop
  exact wp_of_run (v:=a.eval x) (w':=w) (by simp only [execOp,hop];rfl) (hK.of hs r1 r2 (evL_ok hs x) h)
 .rename_i x i hop
  have hx:=evL_ok hs x
  have ex:∀{v u:Value} {i:Nat},a.eval x=v->(∃b c,v=.tuple #[b,c]/\#[b,c][i]? =some u)->o.op=.extract x i->(execOp a.eval o).run P w=.ok (.value u) w:=by
   rintro v u i he ⟨b,c,rfl,hu⟩ hop
   simp only [execOp,hop,he,Instr.extract]
   rw [hu]
   rfl
  split at h
  .rename_i y z he
   rw [he] at hx
   obtain ⟨b,c,hv,hy,hz⟩:=hx
   obtain ⟨y',k1,k2⟩:=splL_ok hy h
   exact wp_of_run (ex hv ⟨b,c,rfl,rfl⟩ hop) (hK.of hs r1 r2 k1 k2)
  .rename_i y z he
   rw [he] at hx
   obtain ⟨b,c,hv,hy,hz⟩:=hx
   obtain ⟨y',k1,k2⟩:=splL_ok hz h
   exact wp_of_run (ex hv ⟨b,c,rfl,rfl⟩ hop) (hK.of hs r1 r2 k1 k2)
  .exact h.elim
 .rename_i T x i hop
  have hx:=evL_ok hs x
  have hi:=evL_ok hs i
  split at h
  .rename_i t e q s n hT hxe hie
   rw [hxe] at hx
   rw [hie] at hi
   obtain ⟨u,hu,hiv⟩:=hi
   cases hu
   split at h
   .rename_i e0 d xss hp
    obtain ⟨j,rfl,hj,h⟩:=h
    have hx:vals[q]? =some (a.eval x):=hx
    have hS:ps[q]? =some (ps[q]'(by rw [hs.l1];exact (List.getElem?_eq_some_iff.1 hp).1)):=List.getElem?_eq_getElem _
    have hpv:PVS w _ e0 d xss (a.eval x):=hs.pv q _ _ _ hS hp hx
    rcases hpv with ⟨hx0,_⟩|⟨b,cur,E,k1,k2,k3,k4,k5⟩
    .rw [hx0] at hj;simp at hj
    .refine wp_of_run (v:=.pointer (some ⟨b,0+j,none⟩)) (w':=w) ?_ (hK.of hs r1 r2 (x:=.pe q j) ⟨e0,d,xss,_,b,cur.size,hp,hx,hj,k1,by rw [Nat.zero_add]⟩ h)
     simp only [execOp,hop,Sem.run_bind]
     rw [k1,hiv,run_idx_slice hτ hT b 0 _ _ j hj w]
     rfl
   .exact h.elim
  .exact h.elim
 .rename_i T x hop
  have hx:=evL_ok hs x
  split at h
  .rename_i t e q j hT hxe
   rw [hxe] at hx
   obtain ⟨e0,d,xss,pv,b,cap,h1,h2,h3,h4,h5⟩:=hx
   have hS:ps[q]? =some (ps[q]'(by rw [hs.l1];exact (List.getElem?_eq_some_iff.1 h1).1)):=List.getElem?_eq_getElem _
   have hpv:PVS w _ e0 d xss pv:=hs.pv q _ _ _ hS h1 h2
   rcases hpv with ⟨hx0,_⟩|⟨b',cur,E,k1,k2,k3,k4,k5⟩
   .rw [hx0] at h3;simp at h3
   .have k1':=k1
    rw [h4] at k1'
    simp only [Value.slice.injEq,Option.some.injEq,Addr.mk.injEq] at k1'
    obtain ⟨⟨rfl,_⟩,_,_⟩:=k1'
    obtain ⟨cv,g1,g2⟩:=k5.c j h3
    have hcell:w.cell? ⟨b,j,none⟩=some cv:=by rw [cell_of_row w b j cur E (0,0) k3];exact g1
    refine wp_of_run (v:=cv) (w':=w) ?_ (hK.of hs r1 r2 (x:=.pi q j) ⟨e0,d,xss,pv,b,cap,h1,h2,h3,h4,hcell⟩ h)
    simp only [execOp,hop,Sem.run_bind]
    rw [h5,run_loadOne hτ hT hcell]
    rfl
  .exact h.elim
 .rename_i c hop
  split at h
  .rename_i F hc
   exact lCall_ok hs hK hop hc h
  .exact h.elim
  .exact pure h
 .exact pure h
theorem lOps_ok (hτ:TyOk P τ) {all:Array Oper} {K:LSt->Prop} {Q:Exit->Act->World->Prop}:∀(l:List Oper) {w:World} {ps:List (Nat->Prop)} {vals:List Value} {a:Act} {st:LSt},LSat w0 n0 w ps vals a N st->
 NxL w0 n0 N ps vals K (Q .normal)->lOps P τ N all l st K->wpList P all Q l a w
 |[],w,ps,vals,a,st,hs,hK,h=>hK _ _ _ _ _ hs (Ext1.refl _) (Ext1.refl _) h
 |o::r,w,ps,vals,a,st,hs,hK,h=>by
  have rest:NxL w0 n0 N ps vals (fun st'=>lOps P τ N all r st' K) (wpList P all Q r):=fun w1 ps1 vals1 a1 st1 h1 h2 h3 h4=>lOps_ok hτ r h1 (fun w2 ps2 vals2 a2 st2 k1 k2 k3 k4=>hK _ _ _ _ _ k1 (h2.trans k2) (h3.trans k3) k4) h4
  have hsat:=hs.sat
  unfold lOps at h
  unfold wpList
  split at h
  .rename_i hg
   rw [if_pos (by simp [Region.wanted,hg])]
   exact .inl (lOp_ok hτ hs rest h)
  .rename_i j want hg
   obtain ⟨b,hb,⟨h1,h⟩|⟨h1,h⟩⟩:=gsel_ok h
   .rw [if_pos (by rw [wanted_ok hsat hg hb,h1])]
    exact .inl (lOp_ok hτ hs rest h)
   .rw [if_neg (by rw [wanted_ok hsat hg hb,h1];simp)]
    exact rest.of hs (Ext1.refl _) (Ext1.refl _) (x:=.u) rfl h
def NxLE (w0:World) (n0 N:Nat) (ps:List (Nat->Prop)) (vals:List Value) (Q:Exit->LSt->Prop) (R:Exit->Act->World->Prop):Prop:=
 ∀e w' ps' vals' a' st',LSat w0 n0 w' ps' vals' a' N st'->Ext1 ps ps'->Ext1 vals vals'->Q e st'->R e a' w'
theorem NxLE.trans {Q:Exit->LSt->Prop} {R:Exit->Act->World->Prop} (h:NxLE w0 n0 N ps vals Q R) {ps':List (Nat->Prop)} {vals':List Value} (h1:Ext1 ps ps') (h2:Ext1 vals vals'):NxLE w0 n0 N ps' vals' Q R:=
 fun e w2 ps2 vals2 a2 st2 k1 k2 k3 k4=>h e w2 ps2 vals2 a2 st2 k1 (h1.trans k2) (h2.trans k3) k4
theorem LSat.sub (hs:LSat w0 n0 w ps vals a N st) {st':LSt} (h1:st.pools=st'.pools) (h2:∀t,lookL st'.env t=.any\/lookL st'.env t=lookL st.env t):LSat w0 n0 w ps vals a N st':=by
 refine {hs with l1:=by rw [<-h1];exact hs.l1,l2:=by rw [<-h1];exact hs.l2,pv:=by rw [<-h1];exact hs.pv,env:=fun t=>?_,dfs:=hs.dfs}
 rw [<-h1]
 rcases h2 t with h|h
 .rw [h];trivial
 .rw [h];exact hs.env t
theorem subL_ok {env:List (Nat × LV)}:∀{l:List (Nat × LV)},subL env l->∀t,lookL l t=.any\/lookL l t=lookL env t
 |[],_,t=>.inl rfl
 |(u,x)::l,h,t=>by
  rw [lookL_cons]
  by_cases e:u=t
  .subst e
   rw [if_pos rfl]
   exact .inr h.1.symm
  .rw [if_neg e]
   exact subL_ok h.2 t
theorem lwC_ok (hτ:TyOk P τ):∀(c:Code) {Q:Exit->LSt->Prop} {R:Exit->Act->World->Prop} {w:World} {ps:List (Nat->Prop)} {vals:List Value} {a:Act} {st:LSt},LSat w0 n0 w ps vals a N st->NxLE w0 n0 N ps vals Q R->lwC P τ N c st Q->c.wp P R a w
 |.skip,Q,R,w,ps,vals,a,st,hs,hR,h=>wp_skip (hR _ _ _ _ _ _ hs (Ext1.refl _) (Ext1.refl _) h)
 |.region id ops false,Q,R,w,ps,vals,a,st,hs,hR,h=>
  wp_region_list (lOps_ok hτ ops.toList hs (fun w' ps' vals' a' st' h1 h2 h3 h4=>hR .normal w' ps' vals' a' st' h1 h2 h3 h4) h)
 |.region id ops true,Q,R,w,ps,vals,a,st,hs,hR,h=>h.elim
 |.seq x y,Q,R,w,ps,vals,a,st,hs,hR,h=>
  wp_seq (lwC_ok hτ x hs (fun e w' ps' vals' a' st' h1 h2 h3 h4=>by
   cases e with
   |normal=>exact lwC_ok hτ y h1 (hR.trans h2 h3) h4
   |exit i=>exact hR _ _ _ _ _ _ h1 h2 h3 h4
   |goto l=>exact hR _ _ _ _ _ _ h1 h2 h3 h4
   |ret=>exact hR _ _ _ _ _ _ h1 h2 h3 h4
   |panic c=>exact hR _ _ _ _ _ _ h1 h2 h3 h4
   |outgrown=>exact hR _ _ _ _ _ _ h1 h2 h3 h4) h)
 |.cond c x y,Q,R,w,ps,vals,a,st,hs,hR,h=>by
  have hc:=evL_ok hs c
  unfold lwC at h
  split at h
  .rename_i sh b he
   rw [he] at hc
   obtain ⟨u,hu,hv⟩:=hc
   cases hu
   cases b
   .exact wp_cond_false hv (lwC_ok hτ y hs hR h)
   .exact wp_cond_true hv (lwC_ok hτ x hs hR h)
  .exact h.elim
 |.block id c,Q,R,w,ps,vals,a,st,hs,hR,h=>
  wp_block (lwC_ok hτ c hs (fun e w' ps' vals' a' st' h1 h2 h3 h4=>by
   cases e with
   |normal=>exact hR _ _ _ _ _ _ h1 h2 h3 h4
   |exit i=>
    simp only [blkL] at h4
    simp only [Exit.inBlock]
    split at h4
    .rename_i hb
     rw [if_pos (Nat.eq_of_beq_eq_true hb)]
     exact hR _ _ _ _ _ _ h1 h2 h3 h4
    .rename_i hb
     rw [if_neg (fun e=>by subst e;simp at hb)]
     exact hR _ _ _ _ _ _ h1 h2 h3 h4
   |goto l=>exact hR _ _ _ _ _ _ h1 h2 h3 h4
   |ret=>exact hR _ _ _ _ _ _ h1 h2 h3 h4
   |panic c=>exact hR _ _ _ _ _ _ h1 h2 h3 h4
   |outgrown=>exact hR _ _ _ _ _ _ h1 h2 h3 h4) h)
 |.loop c,Q,R,w,ps,vals,a,st,hs,hR,h=>by
  obtain ⟨ι,J,Inv,μ,i0,hi0,⟨h0,h0'⟩,hround⟩:=h
  refine wp_loop_ghost (fun n a' w'=>∃i ps' vals',μ i=n/\Inv i/\LSat w0 n0 w' ps' vals' a' N (J i)/\Ext1 ps ps'/\Ext1 vals vals') (μ i0) ⟨i0,ps,vals,rfl,hi0,hs.sub h0 (subL_ok h0'),Ext1.refl _,Ext1.refl _⟩ ?_
  rintro n a' w' ⟨i,ps',vals',rfl,hi,k1,k2,k3⟩
  refine lwC_ok hτ c k1 (fun e w2 ps2 vals2 a2 st2 h1 h2 h3 h4=>?_) (hround i hi)
  cases e with
  |normal=>
   obtain ⟨j,hij,hj,hp,hsub⟩:=h4
   exact ⟨μ j,hj,j,ps2,vals2,rfl,hij,h1.sub hp (subL_ok hsub),k2.trans h2,k3.trans h3⟩
  |exit i=>exact hR _ _ _ _ _ _ h1 (k2.trans h2) (k3.trans h3) h4
  |goto l=>exact hR _ _ _ _ _ _ h1 (k2.trans h2) (k3.trans h3) h4
  |ret=>exact hR _ _ _ _ _ _ h1 (k2.trans h2) (k3.trans h3) h4
  |panic c=>exact hR _ _ _ _ _ _ h1 (k2.trans h2) (k3.trans h3) h4
  |outgrown=>exact hR _ _ _ _ _ _ h1 (k2.trans h2) (k3.trans h3) h4
 |.exit id,Q,R,w,ps,vals,a,st,hs,hR,h=>wp_exit (hR _ _ _ _ _ _ hs (Ext1.refl _) (Ext1.refl _) h)
 |.ret,Q,R,w,ps,vals,a,st,hs,hR,h=>wp_ret (hR _ _ _ _ _ _ hs (Ext1.refl _) (Ext1.refl _) h)
 |.rangeFunc _ _ _ _,Q,R,w,ps,vals,a,st,hs,hR,h=>h.elim
 |.scope _,Q,R,w,ps,vals,a,st,hs,hR,h=>h.elim
 |.label _,Q,R,w,ps,vals,a,st,hs,hR,h=>h.elim
 |.goto _,Q,R,w,ps,vals,a,st,hs,hR,h=>h.elim
 |.refuse _,Q,R,w,ps,vals,a,st,hs,hR,h=>h.elim
end
def envL:Nat->List LV->List (Nat × LV)
 |_,[]=>[]
 |i,x::l=>(i,x)::envL (i+1) l
theorem look_envL:∀(l:List LV) (i t:Nat),lookL (envL i l) t=if i<=t then (l[t-i]?).getD .any else .any
 |[],i,t=>by simp [envL,lookL]
 |x::l,i,t=>by
  rw [envL,lookL_cons,look_envL l (i+1) t]
  by_cases e:i=t
  .subst e;simp
  .rw [if_neg e]
   by_cases h:i+1<=t
   .rw [if_pos h,if_pos (by omega)]
    have:t-i=(t-(i+1))+1:=by omega
    rw [this];simp
   .rw [if_neg h,if_neg (by omega)]
def LVals (n0:Nat) (w:World) (vals:List Value) (pools:List Pool):List LV->List Value->Prop
 |[],vs=>vs=[]
 |x::l,vs=>∃v r,vs=v::r/\LVal n0 w vals pools x v/\LVals n0 w vals pools l r
theorem LVals.get {n0:Nat} {w:World} {vals:List Value} {pools:List Pool}:∀{l:List LV} {vs:List Value} {i:Nat} {x:LV},LVals n0 w vals pools l vs->l[i]? =some x->∃v,vs[i]? =some v/\LVal n0 w vals pools x v
 |[],_,i,x,_,h=>by simp at h
 |y::l,_,0,x,hv,h=>by
  obtain ⟨v,r,rfl,h1,_⟩:=hv
  simp at h;subst h
  exact ⟨v,rfl,h1⟩
 |y::l,_,i+1,x,hv,h=>by
  obtain ⟨v,r,rfl,_,h2⟩:=hv
  obtain ⟨u,h3,h4⟩:=LVals.get h2 (by simpa using h)
  exact ⟨u,by simpa using h3,h4⟩
theorem LVals.len {n0:Nat} {w:World} {vals:List Value} {pools:List Pool}:∀{l:List LV} {vs:List Value},LVals n0 w vals pools l vs->vs.length=l.length
 |[],_,h=>by cases h;rfl
 |_::_,_,h=>by obtain ⟨v,r,rfl,_,h2⟩:=h;simp [LVals.len h2]
def LRet (r:Nat) (x:LV) (pools:LSt->Prop):Exit->LSt->Prop
 |.normal,st=>lookL st.env r=x/\pools st
 |.ret,st=>lookL st.env r=x/\pools st
 |_,_=>False
theorem LC_of {P:Program} {τ:Nat→TI} (hτ:TyOk P τ) {f:FuncId} {fn:Func} {c:Code} (N r n0:Nat) (hf:P.funcs[f]? =some fn) (hb:fn.body=some c) (hn:(fn.name== "runtime.NumGoroutine")=false) (hN:fn.ntmps=N) {args:List LV} {pools:List Pool} {x:LV} {q:LSt→Prop}
 (hargs:Nat.ble args.length N=true) (hres:fn.results= #[ResultVar.tmp r]) (h:lwC P τ N c ⟨envL 0 args,pools⟩ (LRet r x q)) {w:World} {ps:List (Nat->Prop)} {vals vs:List Value}
 (hle:n0<=w.heap.size) (hps:ps.length=pools.length) (hvl:vals.length=pools.length) (hlt:∀(i:Nat) (S:Nat->Prop),ps[i]? =some S->∀b,S b->n0<=b/\b<w.heap.size)
 (hdis:∀(i j:Nat) (S T:Nat->Prop),ps[i]? =some S->ps[j]? =some T->i≠j->∀b,S b->¬T b) (hpv:∀(i:Nat) (S:Nat->Prop) (p:Pool) (v:Value),ps[i]? =some S->pools[i]? =some p->vals[i]? =some v->PV w S p.t p.x v) (hvs:LVals n0 w vals pools args vs):
 Calls P f vs.toArray w fun e w'=>∃v ps' vals' a' st',e=.returned v/\LSat w n0 w' ps' vals' a' N st'/\Ext1 ps ps'/\Ext1 vals vals'/\LVal n0 w' vals' st'.pools x v/\q st':=by
 have hargs':=Nat.le_of_ble_eq_true hargs
 have hlen:=hvs.len
 refine calls_of_wp hf hb ?_
 have hs:LSat w n0 w ps vals {tmps:=vs.toArray++Array.replicate (fn.ntmps-vs.toArray.size) undef,defers:=[]} N ⟨envL 0 args,pools⟩:=by
  refine {n:=hle,os:=rfl,tape:=rfl,output:=rfl,sz:=Nat.le_refl _,fr:=fun _ _ _=>rfl,l1:=hps,l2:=hvl,lt:=hlt,dis:=hdis,pv:=hpv,env:=fun t=>?_,size:=by simp;omega,dfs:=rfl}
  show LVal n0 w vals pools (lookL (envL 0 args) t) _
  rw [look_envL]
  simp only [Nat.zero_le,if_true,Nat.sub_zero]
  cases ht:args[t]? with
  |none=>trivial
  |some av=>
   obtain ⟨v,hv,hr⟩:=hvs.get ht
   have:(vs.toArray++Array.replicate (fn.ntmps-vs.toArray.size) undef).getD t undef=v:=by
    have htl:=(List.getElem?_eq_some_iff.1 hv).1
    rw [Array.getD_eq_getD_getElem?,Array.getElem?_append_left (by simpa using htl)]
    simp [hv]
   simp only [this]
   exact hr
 refine lwC_ok hτ c hs (fun e w' ps' vals' a' st' h1 h2 h3 h4=>?_) h
 have key:(lookL st'.env r=x/\q st')->a'.defers=[]/\∃v,(results fn a'.tmps).run P w'=.ok v w'/\(fun (e:Ending) w'=>∃v ps' vals' a' st',e=.returned v/\LSat w n0 w' ps' vals' a' N st'/\Ext1 ps ps'/\Ext1 vals vals'/\LVal n0 w' vals' st'.pools x v/\q st') (.returned v) w':=by
  rintro ⟨g1,g2⟩
  refine ⟨h1.dfs,_,run_results fn [r] (by rw [hres];rfl) (by simp) a'.tmps w',_,ps',vals',a',st',rfl,h1,h2,h3,?_,g2⟩
  have:=h1.env r
  rw [g1] at this
  exact this
 cases e with
 |normal=>exact key h4
 |ret=>exact key h4
 |exit i=>exact h4.elim
 |goto l=>exact h4.elim
 |panic c=>exact h4.elim
 |outgrown=>exact h4.elim
def toLV:AV->LV
 |.d false (.sl t) x=>.o (.sl t) x
 |.d s .int x=>.f (.d s .int x)
 |.d s .bool x=>.f (.d s .bool x)
 |.d s .str x=>.f (.d s .str x)
 |_=>.any
theorem toLV_ok {w:World} {av:AV} {v:Value} {pools:List Pool} {vals:List Value} (h:V w [] (fun _=>False) [] av v):LVal w.heap.size w vals pools (toLV av) v:=by
 unfold toLV
 split
 .rename_i t x
  exact Rd.ext (fun b hb hl=>⟨rfl,hl⟩) (.sl t) x v h
 .exact ⟨_,rfl,h⟩
 .exact ⟨_,rfl,h⟩
 .exact ⟨_,rfl,h⟩
 .trivial
theorem toLVs_ok {w:World} {pools:List Pool} {vals:List Value}:∀{args:List AV} {vs:List Value},Vs w [] (fun _=>False) [] args vs->LVals w.heap.size w vals pools (args.map toLV) vs
 |[],_,h=>h
 |x::l,_,h=>by
  obtain ⟨v,r,rfl,h1,h2⟩:=h
  exact ⟨v,_,rfl,toLV_ok h1,toLVs_ok h2⟩
def LawC (P:Program) (f:FuncId) (args:List AV):Prop:=
 ∀(w:World) (vs:List Value),Vs w [] (fun _=>False) [] args vs->Calls P f vs.toArray w fun e w'=>e=.returned (.bool true)/\Below w.heap.size w w'
theorem LawC.law {P:Program} {f:FuncId} {args:List AV} (h:LawC P f args) {w:World} {vs:List Value} (hv:Vs w [] (fun _=>False) [] args vs):
 Calls P f vs.toArray w fun e w'=>e=.returned (.bool true)/\Below w.heap.size w w':=h w vs hv
theorem LawC_of {P:Program} {τ:Nat→TI} (hτ:TyOk P τ) {f:FuncId} {fn:Func} {c:Code} (N r:Nat) (hf:P.funcs[f]? =some fn) (hb:fn.body=some c) (hn:(fn.name== "runtime.NumGoroutine")=false) (hN:fn.ntmps=N) {args:List AV}
 (hargs:Nat.ble (args.map toLV).length N=true) (hres:fn.results= #[ResultVar.tmp r]) (h:lwC P τ N c ⟨envL 0 (args.map toLV),[]⟩ (LRet r (.f (.d true .bool true)) fun _=>True)):LawC P f args:=fun w vs hv=>by
 refine (LC_of hτ N r w.heap.size hf hb hn hN hargs hres h (ps:=[]) (vals:=[]) (Nat.le_refl _) rfl rfl (fun i S hS=>by simp at hS) (fun i j S T hS=>by simp at hS) (fun i S p v hS=>by simp at hS) (toLVs_ok hv)).mono ?_
 rintro e w' ⟨v,ps',vals',a',st',rfl,hs,_,_,⟨u,hu,rfl⟩,_⟩
 cases hu
 refine ⟨rfl,hs.os,hs.tape,hs.output,hs.sz,fun k hk=>hs.fr k hk fun S hS hSk=>?_⟩
 obtain ⟨i,hi,rfl⟩:=List.getElem_of_mem hS
 have:=(hs.lt i _ (List.getElem?_eq_getElem hi) k hSk).1
 omega
theorem MC_of {P:Program} {τ:Nat→TI} (hτ:TyOk P τ) {f:FuncId} {fn:Func} {c:Code} (N r:Nat) (hf:P.funcs[f]? =some fn) (hb:fn.body=some c) (hn:(fn.name== "runtime.NumGoroutine")=false) (hN:fn.ntmps=N) {e:Nat} {xss yss:List (List Int)} {k x:Int}
 (hargs:Nat.ble 2 N=true) (hres:fn.results= #[ResultVar.tmp r]) (h:lwC P τ N c ⟨[(0,.p 0),(1,.f (I k))],[⟨.sl (.sw e true),xss⟩]⟩ (LRet r (.f (I x)) fun st=>st.pools=[⟨.sl (.sw e true),yss⟩])):MC P f e xss k x yss:=by
 refine ⟨⟨fn,c,hf,hb,hn⟩,fun w S v hS hv=>?_⟩
 refine (LC_of hτ N r 0 hf hb hn hN (args:=[.p 0,.f (I k)]) hargs hres h (ps:=[S]) (vals:=[v]) (Nat.zero_le _) rfl rfl (fun i T hT b hb=>?_) (fun i j T U hT hU hij=>?_) (fun i T p u hT hp hu=>?_) ⟨v,_,rfl,rfl,_,_,rfl,⟨_,rfl,rfl⟩,rfl⟩).mono ?_
 .match i,hT with
  |0,hT=>simp at hT;subst hT;exact ⟨Nat.zero_le _,hS b hb⟩
  |i+1,hT=>simp at hT
 .have h1:=(List.getElem?_eq_some_iff.1 hT).1
  have h2:=(List.getElem?_eq_some_iff.1 hU).1
  simp at h1 h2;omega
 .match i,hT,hp,hu with
  |0,hT,hp,hu=>simp at hT hp hu;subst hT;subst hp;subst hu;exact hv
  |i+1,hT,_,_=>simp at hT
 .rintro ex w' ⟨u,ps',vals',a',st',rfl,hs,⟨p1,rfl⟩,⟨v1,rfl⟩,⟨u2,hu2,rfl⟩,hq⟩
  cases hu2
  have hl1:=hs.l1
  rw [hq] at hl1
  have hp1:p1=[]:=List.eq_nil_of_length_eq_zero (by rw [List.length_append] at hl1;simp only [List.length_cons,List.length_nil] at hl1;omega)
  subst hp1
  have hpv:PVS w' S e true yss v:=hs.pv 0 S ⟨.sl (.sw e true),yss⟩ v rfl (by rw [hq];rfl) rfl
  exact ⟨rfl,hpv,hs.os,hs.tape,hs.output,hs.sz,fun b hb hn=>hs.fr b hb fun T hT=>by
   simp at hT;subst hT;exact hn⟩
end Go.Proofs.YtacjiemkbhhhoaaGreatDoor.Ow
namespace Go.Proofs.YtacjiemkbhhhoaaGreatDoor
open Go Go.Proofs.YtacjiemkbhhhoaaGreatDoor.Ow
theorem laws_toIntSS_w (sh:Bool) (xss:List (List Int)) (hs:Short xss):AC Tryz.prog 18 [.d sh (.sl (.sl .int)) xss] [] [.ow 0] [.sl 29 (.sw 3 true) xss]:=by
 have hl:=hs.1
 refine AC_of (tauSOk true) 23 0 [2] Tryz.func18 rfl (by kernel_rfl) rfl rfl rfl rfl rfl ?_
 refine ⟨xss.length,xss.length,rfl,rfl,Nat.le_refl _,by omega,?_⟩
 refine ⟨Nat × List (List Int),fun i=>⟨[(0,.d sh (.sl (.sl .int)) xss),(3,.ow 0),(4,I (i.1:Nat))],[.sl 29 (.sw 3 true) i.2]⟩,fun i=>i.1<=xss.length/\i.2.length=xss.length/\∀j,j<i.1->i.2.getD j []=xss.getD j [],fun i=>xss.length-i.1,(0,_),?inv,
  ⟨⟨rfl,rfl⟩,⟨rfl,rfl,rfl,trivial⟩,rfl,trivial⟩,?round⟩
 case inv=>exact ⟨by omega,List.length_replicate ..,fun j hj=>by omega⟩
 rintro ⟨k,ys⟩ ⟨hk,hyl,hy⟩
 dsimp only at hk hyl hy
 refine ⟨fun h1=>?_,fun h1=>?_⟩
 .dsimp only at h1
  have hk2:k<xss.length:=by omega
  refine ⟨k,rfl,hk2,[],false,_,_,laws_toIntS sh (xss.getD k []) (hs.2 k hk2),nd0,rfl,rfl,trivial,k,rfl,by dsimp only;omega,?_⟩
  refine ⟨rfl,rfl,rfl,?_⟩
  refine ⟨_,w64_in _ (by dsimp only;omega) (by dsimp only;omega),?_⟩
  refine ⟨(k+1,_),?inv,by dsimp only;omega,⟨rfl,rfl⟩,⟨rfl,rfl,rfl,trivial⟩,rfl,trivial⟩
  refine ⟨by dsimp only;omega,(List.length_set ..).trans hyl,fun j hj=>?_⟩
  dsimp only at hj ⊢
  by_cases e:k=j
  .subst e;exact L_set_self _ _ _ _ (by omega)
  .exact (L_set_ne _ _ _ _ _ e).trans (hy j (by omega))
 .dsimp only at h1
  exact ⟨some 0,⟨⟨rfl,rfl⟩,trivial⟩,⟨rfl,rowsE (ext2 hyl (fun j hj=>hy j (by dsimp only at hj;omega)))⟩,rfl⟩
def mkSS (xss:List (List Int)) (k:Int):List (List Int):=(List.range xss.length).map fun j=>marks (k+(tot xss j:Nat)) (xss.getD j []).length
theorem mkSS_len (xss:List (List Int)) (k:Int):(mkSS xss k).length=xss.length:=by simp [mkSS]
theorem mkSS_at (xss:List (List Int)) (k:Int) {j:Nat} (hj:j<xss.length):(mkSS xss k).getD j []=marks (k+(tot xss j:Nat)) (xss.getD j []).length:=by
 rw [getD_get _ _ _ (by rw [mkSS_len];exact hj)];simp [mkSS]
theorem laws_markIntS_e (sh:Bool) (z:Int) (h0:0<=z) (h1:z<=1099511627776):AC Tryz.prog 49 [.d sh (.sl .int) [],I z] [] [I z] []:=by
 refine AC_of tauOk 19 0 [4] Tryz.func49 rfl (by kernel_rfl) rfl rfl rfl rfl rfl ?_
 refine ⟨Unit,fun _=>⟨[(0,.d sh (.sl .int) []),(1,I z),(5,I 0)],[]⟩,fun _=>True,fun _=>0,(),trivial,
  ⟨⟨rfl,rfl⟩,⟨rfl,rfl,rfl,trivial⟩,trivial⟩,fun _ _=>?_⟩
 refine ⟨fun h2=>absurd h2 (by decide),fun _=>?_⟩
 exact ⟨none,⟨rfl,trivial⟩,rfl,rfl⟩
theorem laws_markIntSS (xss:List (List Int)) (k:Int) (hs:Short xss) (ht:tot xss xss.length<=1048576) (h0:0<=k) (h1:k<=1048577):MC Tryz.prog 20 3 xss k (k+(tot xss xss.length:Nat)) (mkSS xss k):=by
 have hl:=hs.1
 refine MC_of tauOk 19 4 Tryz.func20 rfl (by kernel_rfl) rfl rfl rfl ?_
 refine ⟨Nat × List (List Int),fun i=>⟨[(0,.p 0),(1,.f (I (k+(tot xss i.1:Nat)))),(5,.f (I (i.1:Nat)))],[⟨.sl (.sw 3 true),i.2⟩]⟩,fun i=>i.1<=xss.length/\i.2.length=xss.length/\(∀j,j<i.1->i.2.getD j []=(mkSS xss k).getD j [])/\∀j,i.1<=j->i.2.getD j []=xss.getD j [],fun i=>xss.length-i.1,(0,xss),⟨Nat.zero_le _,rfl,fun j hj=>by omega,fun j _=>rfl⟩,
  ⟨rfl,rfl,by rw [show k+((tot xss 0:Nat):Int)=k from by simp [tot]];exact ⟨rfl,rfl,trivial⟩⟩,?_⟩
 rintro ⟨i,ys⟩ ⟨hi,hyl,hy1,hy2⟩
 dsimp only at hi hyl hy1 hy2
 refine ⟨fun h2=>?_,fun h2=>?_⟩
 .dsimp only at h2
  have hi2:i<xss.length:=by omega
  have htl:=tot_le xss (i+1) xss.length hi2
  have hts:tot xss (i+1)=tot xss i+(xss.getD i []).length:=rfl
  have hyi:=hy2 i (Nat.le_refl _)
  have hsh:=hs.2 i hi2
  refine ⟨i,rfl,by dsimp only;omega,?_⟩
  have hz:((i+1:Nat):Int)=w64 ((i:Int)+1):=w64_eq (by omega) (by omega) (by omega)
  have hkt:k+(tot xss (i+1):Nat)=k+(tot xss i:Nat)+(xss.getD i []).length:=by omega
  by_cases he:ys.getD i []=[]
  .have e2:ys[i]? =some []:=by
    rw [List.getElem?_eq_getElem (by omega)]
    rw [getD_get _ _ _ (by omega)] at he
    rw [he]
   have e3:cvL [⟨.sl (.sw 3 true),ys⟩] (.pi 0 i)=.d false (.sl .int) []:=by simp only [cvL,List.getElem?_cons_zero,e2]
   have hM:=laws_markIntS_e false (k+(tot xss i:Nat)) (by omega) (by omega)
   rw [<-e3] at hM
   have hx0:xss.getD i []=[]:=by rw [<-hyi];exact he
   have hkt2:k+(tot xss (i+1):Nat)=k+(tot xss i:Nat):=by rw [hkt,hx0];simp
   refine ⟨0,_,_,hM,((i+1:Nat):Int),hz,(i+1,ys),⟨by dsimp only;omega,hyl,fun j hj=>?_,fun j hj=>hy2 j (by dsimp only at hj;omega)⟩,by dsimp only;omega,rfl,rfl,by dsimp only;rw [hkt2];rfl,rfl,trivial⟩
   by_cases ej:j=i
   .subst ej;rw [mkSS_at xss k hi2,hx0];exact he
   .exact hy1 j (by dsimp only at hj;omega)
  .have hM:=laws_markIntS (ys.getD i []) (k+(tot xss i:Nat)) (by rw [hyi];exact hsh) (by omega) (by omega)
   have hml:=marks_len (k+(tot xss i:Nat)) (ys.getD i []).length
   refine ⟨3,k+(tot xss i:Nat)+(ys.getD i []).length,marks (k+(tot xss i:Nat)) (ys.getD i []).length,hM,hml,he,((i+1:Nat):Int),hz,(i+1,ys.set i (marks (k+(tot xss i:Nat)) (ys.getD i []).length)),⟨by dsimp only;omega,by dsimp only;rw [List.length_set];exact hyl,fun j hj=>?_,fun j hj=>?_⟩,by dsimp only;omega,rfl,rfl,by dsimp only;rw [hkt,hyi];rfl,rfl,trivial⟩
   .dsimp only at hj ⊢
    by_cases ej:j=i
    .subst ej
     rw [L_set_self _ _ _ _ (by omega),mkSS_at xss k hi2,hyi]
    .rw [L_set_ne _ _ _ _ _ (fun e=>ej e.symm)];exact hy1 j (by omega)
   .dsimp only at hj ⊢
    rw [L_set_ne _ _ _ _ _ (by omega)];exact hy2 j (by omega)
 .dsimp only at h2
  obtain rfl:i=xss.length:=by omega
  have e:ys=mkSS xss k:=ext2 (by rw [mkSS_len];exact hyl) fun j hj=>hy1 j (by omega)
  exact ⟨rfl,by dsimp only;rw [e]⟩
theorem laws_heldIntSS (sh:Bool) (xss:List (List Int)) (k:Int) (hs:Short xss) (ht:tot xss xss.length<=1048576) (h0:0<=k) (h1:k<=1048577):AC Tryz.prog 21 [.d sh (.sl (.sl .int)) (mkSS xss k),I k] [] [I (k+(tot xss xss.length:Nat))] []:=by
 have hl:=hs.1
 have hml:=mkSS_len xss k
 refine AC_of tauOk 21 0 [4] Tryz.func21 rfl (by kernel_rfl) rfl rfl rfl rfl rfl ?_
 refine ⟨Nat,fun i=>⟨[(0,.d sh (.sl (.sl .int)) (mkSS xss k)),(1,I (k+(tot xss i:Nat))),(5,I (i:Nat))],[]⟩,fun i=>i<=xss.length,fun i=>xss.length-i,0,Nat.zero_le _,
  ⟨⟨rfl,rfl⟩,⟨rfl,retI (by simp [tot]),rfl,trivial⟩,trivial⟩,fun i hi=>?_⟩
 dsimp only at hi
 refine ⟨fun h2=>?_,fun h2=>?_⟩
 .have hi2:i<xss.length:=by omega
  have htl:=tot_le xss (i+1) xss.length hi2
  have hts:tot xss (i+1)=tot xss i+(xss.getD i []).length:=rfl
  have hH:=laws_heldIntS sh (xss.getD i []).length (k+(tot xss i:Nat)) (hs.2 i hi2) (by omega) (by omega)
  rw [<-mkSS_at xss k hi2] at hH
  refine ⟨i,rfl,by omega,[],false,_,_,hH,nd0,rfl,rfl,trivial,fun h3=>absurd h3 (by omega),fun _=>?_⟩
  exact ⟨((i+1:Nat):Int),w64_eq (by omega) (by omega) (by omega),i+1,by dsimp only;omega,by dsimp only;omega,⟨rfl,rfl⟩,⟨rfl,retI (by rw [hts];omega),rfl,trivial⟩,trivial⟩
 .obtain rfl:i=xss.length:=by omega
  exact ⟨none,⟨rfl,trivial⟩,rfl,rfl⟩
theorem impl_ExchangePatterns_no (sh:Bool) (g:List (List Int)) (k:Int) (hl:g.length<=1048576) (hx:∀i,i<g.length->(g.getD i []).length<=1048576) (hE:(gokB g && smallB (g.getD 0 []).length k)=false):
 AC Tryz.prog 83 [.d sh (.sl (.sl .int)) g,I k] [] [.nil,.d true .bool false] []:=by
 refine AC_of tauOk 44 0 [4,5] Tryz.func83 rfl (by kernel_rfl) rfl rfl rfl rfl rfl ?_
 refine ⟨[],false,_,_,impl_GroupOk sh g hl hx,nd0,rfl,rfl,trivial,fun h1=>?_,fun h1=>?_⟩
 .have hG:=(gokB_iff g).1 h1
  have hg0:0<g.length:=by have:=hG.l1;omega
  have hp0:=(gok1_p (hG.o1 0 hg0)).1.1
  have hSm:=impl_isSmall (g.getD 0 []).length k hp0.2
  rw [h1,Bool.true_and] at hE
  rw [hE] at hSm
  refine ⟨0,rfl,hg0,[],false,_,_,hSm,nd0,rfl,rfl,trivial,nofun,fun _=>?_⟩
  exact ⟨none,⟨rfl,rfl,trivial⟩,rfl,rfl⟩
 .exact ⟨none,⟨rfl,rfl,trivial⟩,rfl,rfl⟩
theorem spec_l04Act (s1 s2:Bool) (p xs:List Int) (hP:PermP p) (hl:p.length=xs.length):AC Tryz.prog 288 [.d s1 (.sl .int) p,.d s2 (.sl .int) xs] [] [.ow 0] [.sl 3 .int (actL p xs)]:=by
 have h10:=hP.1
 refine AC_of tauOk 27 0 [4] Tryz.func288 rfl (by kernel_rfl) rfl rfl rfl rfl rfl ?_
 refine ⟨_,_,rfl,rfl,Nat.le_refl _,by omega,?_⟩
 refine ⟨Nat,fun k=>⟨[(0,.d s1 (.sl .int) p),(5,.ow 0),(11,.d s2 (.sl .int) xs),(12,I xs.length),(13,I (k:Nat))],[.sl 3 .int (actS p xs k)]⟩,fun k=>k<=xs.length,fun k=>xs.length-k,0,Nat.zero_le _,
  ⟨⟨rfl,rfl⟩,⟨rfl,rfl,rfl,rfl,rfl,trivial⟩,rfl,trivial⟩,fun k hk=>?_⟩
 dsimp only at hk
 refine ⟨fun h1=>?_,fun h1=>?_⟩
 .have hk2:k<xs.length:=by omega
  have hb:=(hP.2 k (by omega)).1
  refine ⟨k,rfl,hk2,k,rfl,by omega,(p.getD k 0).toNat,(show p.getD k 0=(((p.getD k 0).toNat:Nat):Int) by omega),(show (p.getD k 0).toNat<(actS p xs k).length by rw [actS_len];omega),?_⟩
  exact ⟨((k+1:Nat):Int),w64_eq (by omega) (by omega) (by omega),k+1,by dsimp only;omega,by dsimp only;omega,⟨rfl,rfl⟩,⟨rfl,rfl,rfl,rfl,rfl,trivial⟩,rowE rfl,trivial⟩
 .obtain rfl:k=xs.length:=by omega
  exact ⟨some 0,⟨⟨rfl,rfl⟩,trivial⟩,⟨rfl,rfl⟩,rfl⟩
theorem spec_l06Canon (sh s2:Bool) (g:List (List Int)) (xs:List Int) (hg:∀i,i<g.length->PermP (g.getD i [])/\(g.getD i []).length=xs.length) (hgl:g.length<=1048576) (hc:ColP xs):
 AC Tryz.prog 212 [.d sh (.sl (.sl .int)) g,.d s2 (.sl .int) xs] [] [.ow 0] [.sl 3 .int (canL g xs)]:=by
 have hcl:=hc.2
 have hbl:∀k,k<=g.length->(bstF (fun p=>actL p xs) xs g k).length=xs.length:=fun k hk=>by
  rcases bst_mem (fun p=>actL p xs) xs g k with h|⟨i,hi,h⟩
  .rw [h]
  .rw [h,actL_len]
 refine AC_of tauOk 27 0 [4] Tryz.func212 rfl (by kernel_rfl) rfl rfl rfl rfl rfl ?_
 refine ⟨Bool × Nat,fun z=>⟨[(1,.d s2 (.sl .int) xs),(5,.d z.1 (.sl .int) (bstF (fun p=>actL p xs) xs g z.2)),(10,.d sh (.sl (.sl .int)) g),(11,I g.length),(12,I (z.2:Nat))],[]⟩,fun z=>z.2<=g.length,fun z=>g.length-z.2,(s2,0),Nat.zero_le _,
  ⟨⟨rfl,rfl⟩,⟨rfl,rfl,rfl,rfl,rfl,trivial⟩,trivial⟩,fun z hk=>?_⟩
 obtain ⟨b,k⟩:=z
 dsimp only at hk ⊢
 refine ⟨fun h1=>?_,fun h1=>?_⟩
 .have hk2:k<g.length:=by omega
  obtain ⟨hP,hl⟩:=hg k hk2
  have hbk:=hbl k hk
  have hx1:=actL_len (g.getD k []) xs
  refine ⟨k,rfl,hk2,[],true,_,_,spec_l04Act sh s2 (g.getD k []) xs hP hl,nd0,rfl,rfl,trivial,?_⟩
  refine ⟨[],false,_,_,spec_l03Less true b (actL (g.getD k []) xs) (bstF (fun p=>actL p xs) xs g k) (by omega) (by omega),nd0,rfl,rfl,trivial,fun h2=>?_,fun h2=>?_⟩
  .have h2:=of_decide_eq_true h2
   have e:bstF (fun p=>actL p xs) xs g (k+1)=actL (g.getD k []) xs:=by rw [bstF,if_pos h2]
   exact ⟨((k+1:Nat):Int),w64_eq (by omega) (by omega) (by omega),(true,k+1),by dsimp only;omega,by dsimp only;omega,⟨rfl,rfl⟩,⟨rfl,retDc e.symm,rfl,rfl,rfl,trivial⟩,trivial⟩
  .have h2:=of_decide_eq_false h2
   have e:bstF (fun p=>actL p xs) xs g (k+1)=bstF (fun p=>actL p xs) xs g k:=by rw [bstF,if_neg h2]
   exact ⟨((k+1:Nat):Int),w64_eq (by omega) (by omega) (by omega),(b,k+1),by dsimp only;omega,by dsimp only;omega,⟨rfl,rfl⟩,⟨rfl,by rw [e];rfl,rfl,rfl,rfl,trivial⟩,trivial⟩
 .obtain rfl:k=g.length:=by omega
  have hbk:=hbl g.length hk
  refine ⟨rfl,by decide,true,?_⟩
  cases b
  .refine ⟨rfl,Nat.zero_le _,rfl,by simp only [List.length_nil];omega,rfl,?_⟩
   exact ⟨some 0,⟨⟨rfl,rfl⟩,trivial⟩,⟨rfl,rowsE (List.nil_append _)⟩,rfl⟩
  .refine ⟨rfl,Nat.zero_le _,rfl,by simp only [List.length_nil];omega,rfl,?_⟩
   exact ⟨some 0,⟨⟨rfl,rfl⟩,trivial⟩,⟨rfl,rowsE (List.nil_append _)⟩,rfl⟩
theorem spec_l06Fits (s1 s2:Bool) (g:List (List Int)) (xs:List Int) (hl:g.length<=1048576) (hx:∀i,i<g.length->(g.getD i []).length<=1048576) (hl2:xs.length<=1048576):
 AC Tryz.prog 211 [.d s1 (.sl (.sl .int)) g,.d s2 (.sl .int) xs] [] [.d true .bool (fitB g xs)] []:=by
 refine AC_of tauOk 20 0 [4] Tryz.func211 rfl (by kernel_rfl) rfl rfl rfl rfl rfl ?_
 refine ⟨[],false,_,_,spec_GroupOk s1 g hl hx,nd0,rfl,rfl,trivial,fun h1=>?_,fun h1=>?_⟩
 .have hg0:0<g.length:=by have:=((gokB_iff g).1 h1).l1;omega
  refine ⟨[],false,_,_,spec_ColoringOk s2 xs hl2,nd0,rfl,rfl,trivial,fun h2=>?_,fun h2=>?_⟩
  .refine ⟨0,rfl,hg0,fun h3=>?_,fun h3=>?_⟩
   .exact ⟨none,⟨retB (by rw [fitB,h1,h2,decide_eq_true (by omega)];rfl),trivial⟩,rfl,rfl⟩
   .exact ⟨none,⟨retB (by rw [fitB,h1,h2,decide_eq_false (by omega)];rfl),trivial⟩,rfl,rfl⟩
  .exact ⟨none,⟨retB (by rw [fitB,h2];simp),trivial⟩,rfl,rfl⟩
 .exact ⟨none,⟨retB (by rw [fitB,h1];simp),trivial⟩,rfl,rfl⟩
theorem cexS_len {g S:List (List Int)} {xs:List Int}:∀k,(bstF (fun h=>canL g (exL xs h)) xs S k).length=xs.length:=fun k=>by
 have hcan:∀ys:List Int,(canL g ys).length=ys.length:=fun ys=>by
  rcases bst_mem (fun p=>actL p ys) ys g g.length with h|⟨i,_,h⟩
  .rw [canL,h]
  .rw [canL,h,actL_len]
 rcases bst_mem (fun h=>canL g (exL xs h)) xs S k with h|⟨i,_,h⟩
 .rw [h]
 .rw [h,hcan,exL_len]
theorem spec_l13Canon (s1 s2 s3:Bool) (g S:List (List Int)) (xs:List Int) (hg:∀i,i<g.length->PermP (g.getD i [])/\(g.getD i []).length=xs.length) (hgl:g.length<=1048576) (hc:ColP xs) (hSl:S.length<=1048576)
 (hS:∀i,i<S.length->PermP (S.getD i [])/\(S.getD i []).length<=4/\∀j,j<xs.length->xs.getD j 0<((S.getD i []).length:Int)):
 AC Tryz.prog 296 [.d s1 (.sl (.sl .int)) g,.d s2 (.sl (.sl .int)) S,.d s3 (.sl .int) xs] [] [.d true (.sl .int) (cexS g S xs)] []:=by
 have hcl:=hc.2
 have hbl:=cexS_len (g:=g) (S:=S) (xs:=xs)
 refine AC_of tauOk 31 0 [6] Tryz.func296 rfl (by kernel_rfl) rfl rfl rfl rfl rfl ?_
 refine ⟨rfl,by decide,true,?_⟩
 have hex:∀k,k<S.length->ColP (exL xs (S.getD k []))/\(∀i,i<g.length->PermP (g.getD i [])/\(g.getD i []).length=(exL xs (S.getD k [])).length):=fun k hk=>by
  obtain ⟨h1,h2,h3⟩:=hS k hk
  refine ⟨⟨fun i hi=>?_,by rw [exL_len];exact hcl.1,by rw [exL_len];exact hcl.2⟩,fun i hi=>by rw [exL_len];exact hg i hi⟩
  rw [exL_len] at hi
  have h4:=hc.1 i hi
  have h5:=h3 i hi
  have h6:=(h1.2 (xs.getD i 0).toNat (by omega)).1
  rw [exL_at _ _ _ hi];omega
 cases s3<;>(
 refine ⟨rfl,Nat.zero_le _,rfl,by simp only [List.length_nil];omega,rfl,?_⟩
 refine ⟨Nat,fun k=>⟨[(0,.d s1 (.sl (.sl .int)) g),(2,.d _ (.sl .int) xs),(7,.d true (.sl .int) (bstF (fun h=>canL g (exL xs h)) xs S k)),(14,.d s2 (.sl (.sl .int)) S),(15,I S.length),(16,I (k:Nat))],[]⟩,fun k=>k<=S.length,fun k=>S.length-k,0,Nat.zero_le _,
  ⟨⟨rfl,rfl⟩,⟨rfl,rfl,⟨rfl,rfl,List.nil_append _⟩,rfl,rfl,rfl,trivial⟩,trivial⟩,fun k hk=>?_⟩
 dsimp only at hk
 have hbk:=hbl k
 refine ⟨fun h1=>?_,fun h1=>?_⟩
 .have hk2:k<S.length:=by omega
  obtain ⟨h3,h4,h5⟩:=hS k hk2
  obtain ⟨h6,h7⟩:=hex k hk2
  have hcan:(canL g (exL xs (S.getD k []))).length=xs.length:=by
   rcases bst_mem (fun p=>actL p (exL xs (S.getD k []))) (exL xs (S.getD k [])) g g.length with h|⟨i,_,h⟩
   .rw [canL,h,exL_len]
   .rw [canL,h,actL_len,exL_len]
  refine ⟨k,rfl,hk2,?_⟩
  refine ⟨[],true,_,_,spec_l13Exchange _ s2 xs (S.getD k []) (by omega) (fun i hi=>⟨(hc.1 i hi).1,h5 i hi⟩),nd0,rfl,rfl,trivial,?_⟩
  refine ⟨[],true,_,_,spec_l06Canon s1 true g (exL xs (S.getD k [])) h7 hgl h6,nd0,rfl,rfl,trivial,?_⟩
  refine ⟨[],false,_,_,spec_l03Less true true (canL g (exL xs (S.getD k []))) (bstF (fun h=>canL g (exL xs h)) xs S k) (by omega) (by omega),nd0,rfl,rfl,trivial,fun h2=>?_,fun h2=>?_⟩
  .have h2:=of_decide_eq_true h2
   have e:bstF (fun h=>canL g (exL xs h)) xs S (k+1)=canL g (exL xs (S.getD k [])):=by rw [bstF,if_pos h2]
   exact ⟨((k+1:Nat):Int),w64_eq (by omega) (by omega) (by omega),k+1,by dsimp only;omega,by dsimp only;omega,⟨rfl,rfl⟩,⟨rfl,rfl,retDc e.symm,rfl,rfl,rfl,trivial⟩,trivial⟩
  .have h2:=of_decide_eq_false h2
   have e:bstF (fun h=>canL g (exL xs h)) xs S (k+1)=bstF (fun h=>canL g (exL xs h)) xs S k:=by rw [bstF,if_neg h2]
   exact ⟨((k+1:Nat):Int),w64_eq (by omega) (by omega) (by omega),k+1,by dsimp only;omega,by dsimp only;omega,⟨rfl,rfl⟩,⟨rfl,rfl,retDc e.symm,rfl,rfl,rfl,trivial⟩,trivial⟩
 .obtain rfl:k=S.length:=by omega
  exact ⟨none,⟨rfl,trivial⟩,rfl,rfl⟩)
theorem nxtF_len (k:Int):∀(n:Nat) (l:List Int),(nxtF k l n).1.length=l.length
 |0,l=>rfl
 |n+1,l=>by
  rw [nxtF]
  split
  .simp
  .rw [nxtF_len k n];simp
theorem spec_l06Next (xs:List Int) (k:Int) (h1:1<=k) (h4:k<=4) (hl:xs.length<=10) (hx:∀i,i<xs.length->0<=xs.getD i 0/\xs.getD i 0<=4):
 AC Tryz.prog 299 [.ow 0,I k] [.sl 3 .int xs] [.d true .bool (nxtF k xs xs.length).2] [.sl 3 .int (nxtF k xs xs.length).1]:=by
 refine AC_of tauOk 29 1 [4] Tryz.func299 rfl (by kernel_rfl) rfl rfl rfl rfl rfl ?_
 refine ⟨((xs.length:Nat):Int)-1,w64_eq rfl (by omega) (by omega),?_⟩
 refine ⟨Nat × List Int,fun i=>⟨[(0,.ow 0),(1,I k),(5,I ((i.1:Nat)-1:Int))],[.sl 3 .int i.2]⟩,fun i=>i.1<=xs.length/\i.2.length=xs.length/\(∀j,j<xs.length->0<=i.2.getD j 0/\i.2.getD j 0<=4)/\nxtF k i.2 i.1=nxtF k xs xs.length,fun i=>i.1,(xs.length,xs),⟨Nat.le_refl _,rfl,hx,rfl⟩,
  ⟨⟨rfl,rfl⟩,⟨rfl,rfl,rfl,trivial⟩,rfl,trivial⟩,?_⟩
 rintro ⟨i,ys⟩ ⟨hi,hyl,hyb,hye⟩
 dsimp only at hi hyl hyb hye
 refine ⟨fun h2=>?_,fun h2=>?_⟩
 .dsimp only at h2
  obtain ⟨j,rfl⟩:∃j,i=j+1:=⟨i-1,by omega⟩
  have hb:=hyb j (by omega)
  have ej:(((j+1:Nat):Int)-1)=(j:Int):=by omega
  refine ⟨j,ej,by dsimp only;omega,k-1,w64_eq rfl (by omega) (by omega),fun h3=>?_,fun h3=>?_⟩
  .have e:nxtF k ys (j+1)=(ys.set j (ys.getD j 0+1),true):=by rw [nxtF,if_pos h3]
   refine ⟨j,ej,by dsimp only;omega,ys.getD j 0+1,w64_eq rfl (by omega) (by omega),j,ej,by dsimp only;omega,?_⟩
   exact ⟨none,⟨retB (by rw [<-hye,e]),trivial⟩,rowsE (by rw [<-hye,e]),rfl⟩
  .have e:nxtF k ys (j+1)=nxtF k (ys.set j 0) j:=by rw [nxtF,if_neg h3]
   refine ⟨j,ej,by dsimp only;omega,?_⟩
   refine ⟨((j:Nat):Int)-1,w64_eq (by dsimp only;omega) (by omega) (by omega),(j,ys.set j 0),⟨by dsimp only;omega,by dsimp only;rw [List.length_set];exact hyl,fun q hq=>?_,by rw [<-e];exact hye⟩,by dsimp only;omega,⟨rfl,rfl⟩,⟨rfl,rfl,rfl,trivial⟩,rfl,trivial⟩
   dsimp only
   by_cases eq:j=q
   .subst eq;rw [L_set_self _ _ _ _ (by omega)];decide
   .rw [L_set_ne _ _ _ _ _ eq];exact hyb q hq
 .dsimp only at h2
  obtain rfl:i=0:=by omega
  exact ⟨none,⟨retB (by rw [<-hye];rfl),trivial⟩,rowsE (by rw [<-hye];rfl),rfl⟩
def patL (g:List (List Int)) (k n:Nat):List (List Int):=kptL (fun w=>decide (canL g w=w)) k n (k ^ n)
theorem patL_eq (g:List (List Int)) (k n:Nat):patL g k n=(wordsL k n).filter fun w=>decide (canL g w=w):=by
 unfold patL kptL;rw [wordsL_eq]
theorem spec_l06Patterns (sh:Bool) (g:List (List Int)) (K:Nat) (hl:g.length<=1048576) (hB:gokB g=true) (hK1:1<=K) (hK4:K<=4):
 AC Tryz.prog 295 [.d sh (.sl (.sl .int)) g,I (K:Nat)] [] [.ow 0] [.sl 29 (.sl .int) (patL g K (g.getD 0 []).length)]:=by
 have hG:=(gokB_iff g).1 hB
 have hg0:0<g.length:=by have:=hG.l1;omega
 have hp0:=(gok1_p (hG.o1 0 hg0)).1.1
 have hgp:∀i,i<g.length->PermP (g.getD i [])/\(g.getD i []).length=(g.getD 0 []).length:=fun i hi=>⟨(gok1_p (hG.o1 i hi)).1,(gok1_p (hG.o1 i hi)).2.1⟩
 have hpw:K ^ (g.getD 0 []).length<=1048576:=pow_le hK4 hp0.2 (Nat.le_refl 10)
 have hpp:0<K ^ (g.getD 0 []).length:=Nat.pow_pos (by omega)
 have hwl:=wrdN_len K (g.getD 0 []).length
 have hwg:=wrdN_get K (by omega) (g.getD 0 []).length
 have hw0:=wrdN_zero K (g.getD 0 []).length
 have hnx:=nxt_wrd K (by omega) (g.getD 0 []).length
 have hky:=kpt_yes (fun w=>decide (canL g w=w)) K (g.getD 0 []).length
 have hkn:=kpt_no (fun w=>decide (canL g w=w)) K (g.getD 0 []).length
 have hkl:=kpt_len (fun w=>decide (canL g w=w)) K (g.getD 0 []).length
 have hcanl:∀ys:List Int,(canL g ys).length=ys.length:=fun ys=>by
  rcases bst_mem (fun p=>actL p ys) ys g g.length with h|⟨i,_,h⟩
  .rw [canL,h]
  .rw [canL,h,actL_len]
 refine AC_of tauOk 29 0 [4] Tryz.func295 rfl (by kernel_rfl) rfl rfl rfl rfl rfl ?_
 refine ⟨rfl,by decide,true,0,rfl,hg0,_,_,rfl,rfl,Nat.le_refl _,by omega,?_⟩
 refine ⟨Nat,fun i=>⟨[(0,.d sh (.sl (.sl .int)) g),(1,I (K:Nat)),(5,.ow 0),(6,.ow 1)],[.sl 29 (.sl .int) (kptL (fun w=>decide (canL g w=w)) K (g.getD 0 []).length i),.sl 3 .int (wrdN K (g.getD 0 []).length i)]⟩,fun i=>i<K ^ (g.getD 0 []).length,fun i=>K ^ (g.getD 0 []).length-i,0,hpp,
  ⟨⟨rfl,rfl⟩,⟨rfl,rfl,rfl,rfl,trivial⟩,rowE rfl,rowE hw0.symm,trivial⟩,fun i hi=>?_⟩
 dsimp only at hi
 have hli:=hwl i
 have hgi:=hwg i
 have hcol:ColP (wrdN K (g.getD 0 []).length i):=⟨fun j hj=>by have:=hgi j (by omega);omega,by omega,by omega⟩
 have hgv:∀a,a<g.length->PermP (g.getD a [])/\(g.getD a []).length=(wrdN K (g.getD 0 []).length i).length:=fun a ha=>by rw [hli];exact hgp a ha
 have hcl:=hcanl (wrdN K (g.getD 0 []).length i)
 have hnxi:=hnx i hi
 have hkli:=hkl i
 have hfl:=nxtF_len (K:Int) (g.getD 0 []).length (wrdN K (g.getD 0 []).length i)
 have hNx:=spec_l06Next (wrdN K (g.getD 0 []).length i) K (by omega) (by omega) (by omega) (fun j hj=>by have:=hgi j (by omega);omega)
 rw [hli] at hNx
 have hkey:∀(h:decide (i+1<K ^ (g.getD 0 []).length)=true),i+1<K ^ (g.getD 0 []).length:=fun h=>of_decide_eq_true h
 rw [hnxi.1] at hNx
 refine ⟨[],true,_,_,spec_l06Canon sh false g (wrdN K (g.getD 0 []).length i) hgv hl hcol,nd0,rfl,rfl,trivial,?_⟩
 refine ⟨[],false,_,_,spec_l03Same true false (canL g (wrdN K (g.getD 0 []).length i)) (wrdN K (g.getD 0 []).length i) (by omega) (by omega),nd0,rfl,rfl,trivial,fun h3=>?_,fun h3=>?_⟩
 .have hy:=hky i (by rw [decide_eq_true_eq];exact of_decide_eq_true h3)
  refine ⟨rfl,by decide,true,rfl,Nat.zero_le _,rfl,by simp only [List.length_nil];omega,rfl,?_⟩
  refine ⟨rfl,rfl,by decide,false,rfl,Nat.zero_le _,rfl,by simp only [List.length_cons,List.length_nil];omega,rfl,?_⟩
  refine ⟨[1],false,_,_,hNx,by decide,rfl,rfl,⟨⟨hfl,rfl,rfl⟩,trivial⟩,fun h4=>?_,fun h4=>?_⟩
  .have h5:=hkey h4
   exact ⟨i+1,h5,by dsimp only;omega,⟨rfl,rfl⟩,⟨rfl,rfl,rfl,rfl,trivial⟩,rowE hy.symm,rowE (hnxi.2 h5),trivial⟩
  .have h5:i+1=K ^ (g.getD 0 []).length:=by have:=of_decide_eq_false h4;omega
   exact ⟨some 0,⟨⟨rfl,rfl⟩,trivial⟩,⟨rfl,rowsE (by rw [patL,<-h5];exact hy.symm)⟩,rfl⟩
 .have hn:=hkn i (by rw [decide_eq_true_eq];exact of_decide_eq_false h3)
  refine ⟨[1],false,_,_,hNx,by decide,rfl,rfl,⟨⟨hfl,rfl,rfl⟩,trivial⟩,fun h4=>?_,fun h4=>?_⟩
  .have h5:=hkey h4
   exact ⟨i+1,h5,by dsimp only;omega,⟨rfl,rfl⟩,⟨rfl,rfl,rfl,rfl,trivial⟩,rowE hn.symm,rowE (hnxi.2 h5),trivial⟩
  .have h5:i+1=K ^ (g.getD 0 []).length:=by have:=of_decide_eq_false h4;omega
   exact ⟨some 0,⟨⟨rfl,rfl⟩,trivial⟩,⟨rfl,rowsE (by rw [patL,<-h5];exact hn.symm)⟩,rfl⟩
def epB (g:List (List Int)) (k:Int):Bool:=gokB g && smallB (g.getD 0 []).length k
theorem spec_PatternsOf_both (sh:Bool) (g:List (List Int)) (k:Int) (hl:g.length<=1048576) (hx:∀i,i<g.length->(g.getD i []).length<=1048576) (r:List AV) (rr:List Row)
 (hno:epB g k=false->r=[.nil,.d true .bool false]/\rr=[]) (hyes:epB g k=true->r=[.ow 0,.d true .bool true]/\rr=[.sl 29 (.sl .int) (patL g k.toNat (g.getD 0 []).length)]):
 AC Tryz.prog 227 [.d sh (.sl (.sl .int)) g,I k] [] r rr:=by
 refine AC_of tauOk 26 0 [4,5] Tryz.func227 rfl (by kernel_rfl) rfl rfl rfl rfl rfl ?_
 refine ⟨[],false,_,_,spec_GroupOk sh g hl hx,nd0,rfl,rfl,trivial,fun h1=>?_,fun h1=>?_⟩
 .have hG:=(gokB_iff g).1 h1
  have hg0:0<g.length:=by have:=hG.l1;omega
  have hp0:=(gok1_p (hG.o1 0 hg0)).1.1
  refine ⟨[],false,_,_,spec_l01In _ _ _,nd0,rfl,rfl,trivial,fun h2=>?_,fun h2=>?_⟩
  .simp only [Bool.and_eq_true,decide_eq_true_eq] at h2
   obtain ⟨K,rfl⟩:∃K:Nat,k=(K:Int):=⟨k.toNat,by omega⟩
   refine ⟨0,rfl,hg0,[],false,_,_,spec_l05Power K (g.getD 0 []).length (by omega) hp0.2,nd0,rfl,rfl,trivial,fun h3=>?_,fun h3=>?_⟩
   .obtain ⟨rfl,rfl⟩:=hno (by rw [epB,h1,smallB,Int.toNat_natCast,decide_eq_false (show ¬K ^ (g.getD 0 []).length<=1024 by omega)];simp)
    exact ⟨none,⟨rfl,rfl,trivial⟩,rfl,rfl⟩
   .obtain ⟨rfl,rfl⟩:=hyes (by rw [epB,h1,smallB,Int.toNat_natCast,decide_eq_true (show K ^ (g.getD 0 []).length<=1024 by omega),decide_eq_true (by omega),decide_eq_true (by omega)];rfl)
    refine ⟨[],false,_,_,spec_l06Patterns sh g K hl h1 (by omega) (by omega),nd0,rfl,rfl,trivial,?_⟩
    exact ⟨some 0,⟨⟨rfl,rfl⟩,rfl,trivial⟩,⟨rfl,rfl⟩,rfl⟩
  .obtain ⟨rfl,rfl⟩:=hno (by rw [epB,smallB,h2];simp)
   exact ⟨none,⟨rfl,rfl,trivial⟩,rfl,rfl⟩
 .obtain ⟨rfl,rfl⟩:=hno (by rw [epB,h1];rfl)
  exact ⟨none,⟨rfl,rfl,trivial⟩,rfl,rfl⟩
def exqS (g l:List (List Int)) (i:Nat):List (List Int):=(l.take i).filter fun w=>decide (cexL g w=w)
theorem exqS_y {g l:List (List Int)} {i:Nat} (hi:i<l.length) (h:cexL g (l.getD i [])=l.getD i []):exqS g l (i+1)=exqS g l i++[l.getD i []]:=by
 rw [exqS,L_succ _ i [] hi,List.filter_append,List.filter_cons_of_pos (by rw [decide_eq_true_eq];exact h)];rfl
theorem exqS_n {g l:List (List Int)} {i:Nat} (hi:i<l.length) (h:¬cexL g (l.getD i [])=l.getD i []):exqS g l (i+1)=exqS g l i:=by
 rw [exqS,L_succ _ i [] hi,List.filter_append,List.filter_cons_of_neg (by rw [decide_eq_true_eq];exact h)];simp [exqS]
theorem exqS_le (g l:List (List Int)) (i:Nat):(exqS g l i).length<=i:=Nat.le_trans (List.length_filter_le _ _) (by rw [List.length_take];omega)
theorem spec_ExchangePatterns_both (sh:Bool) (g:List (List Int)) (k:Int) (hl:g.length<=1048576) (hx:∀i,i<g.length->(g.getD i []).length<=1048576) (r:List AV) (rr:List Row)
 (hno:epB g k=false->r=[.nil,.d true .bool false]/\rr=[]) (hyes:epB g k=true->r=[.ow 0,.d true .bool true]/\rr=[.sl 29 (.sl .int) (expL g k.toNat (g.getD 0 []).length)]):
 AC Tryz.prog 228 [.d sh (.sl (.sl .int)) g,I k] [] r rr:=by
 cases hE:epB g k
 .obtain ⟨rfl,rfl⟩:=hno hE
  refine AC_of tauOk 45 0 [4,5] Tryz.func228 rfl (by kernel_rfl) rfl rfl rfl rfl rfl ?_
  refine ⟨[],true,_,_,spec_PatternsOf_both sh g k hl hx _ _ (fun _=>⟨rfl,rfl⟩) (fun h=>by rw [hE] at h;cases h),nd0,rfl,rfl,trivial,nofun,fun _=>?_⟩
  exact ⟨none,⟨rfl,rfl,trivial⟩,rfl,rfl⟩
 .obtain ⟨rfl,rfl⟩:=hyes hE
  have hE2:=hE
  unfold epB smallB at hE2
  simp only [Bool.and_eq_true,decide_eq_true_eq] at hE2
  obtain ⟨hB,⟨hk1,hk4⟩,hpw⟩:=hE2
  obtain ⟨K,rfl⟩:∃K:Nat,k=(K:Int):=⟨k.toNat,by omega⟩
  simp only [Int.toNat_natCast] at hpw ⊢
  have hG:=(gokB_iff g).1 hB
  have hg0:0<g.length:=by have:=hG.l1;omega
  have hp0:=(gok1_p (hG.o1 0 hg0)).1.1
  have hgp:∀i,i<g.length->PermP (g.getD i [])/\(g.getD i []).length=(g.getD 0 []).length:=fun i hi=>⟨(gok1_p (hG.o1 i hi)).1,(gok1_p (hG.o1 i hi)).2.1⟩
  have hS:=sym_ok K (by omega) (by omega)
  have hS2:=hS.l2
  have hpl:∀i,i<(patL g K (g.getD 0 []).length).length->(patL g K (g.getD 0 []).length).getD i []∈wordsL K (g.getD 0 []).length:=fun i hi=>by
   have hm:(patL g K (g.getD 0 []).length).getD i []∈patL g K (g.getD 0 []).length:=by rw [getD_get _ _ _ hi];exact List.getElem_mem hi
   have hm2:(patL g K (g.getD 0 []).length).getD i []∈(wordsL K (g.getD 0 []).length).filter fun w=>decide (canL g w=w):=by rw [<-patL_eq];exact hm
   exact (List.mem_filter.1 hm2).1
  have hpll:(patL g K (g.getD 0 []).length).length<=1024:=Nat.le_trans (kpt_len _ _ _ _) hpw
  have hcan:∀w∈wordsL K (g.getD 0 []).length,cexL g w=w->canL g w=w:=fun w hw hc=>by
   obtain ⟨h1,h2⟩:=words_b hw
   exact cex_canon (k:=K) ⟨fun i hi=>by rw [h1];exact hgp i hi,⟨fun i hi=>by have:=h2 i hi;omega,by omega,by omega⟩,by omega,by omega,fun i hi=>(h2 i hi).2⟩ hc
  have hend:exqS g (patL g K (g.getD 0 []).length) (patL g K (g.getD 0 []).length).length=expL g K (g.getD 0 []).length:=by
   rw [exqS,List.take_length,patL_eq,List.filter_filter,expL]
   refine List.filter_congr fun w hw=>?_
   by_cases h:cexL g w=w
   .rw [decide_eq_true h,decide_eq_true (hcan w hw h)];rfl
   .rw [decide_eq_false h];rfl
  have hPat:=spec_PatternsOf_both sh g K hl hx [.ow 0,.d true .bool true] [.sl 29 (.sl .int) (patL g K (g.getD 0 []).length)] (fun h=>by rw [hE] at h;cases h) (fun _=>⟨rfl,by rw [Int.toNat_natCast]⟩)
  generalize patL g K (g.getD 0 []).length=l at*
  refine AC_of tauOk 45 0 [4,5] Tryz.func228 rfl (by kernel_rfl) rfl rfl rfl rfl rfl ?_
  refine ⟨[],true,_,_,hPat,nd0,rfl,rfl,trivial,fun _=>?_,nofun⟩
  refine ⟨[],false,_,_,spec_SymmetricGroup K (by omega) (by omega),nd0,rfl,rfl,trivial,fun _=>?_,nofun⟩
  refine ⟨rfl,by decide,true,?_⟩
  refine ⟨Nat,fun i=>⟨[(0,.d sh (.sl (.sl .int)) g),(8,.d true (.sl (.sl .int)) (symL K)),(10,.ow 0),(27,.d true (.sl (.sl .int)) l),(28,I l.length),(29,I (i:Nat))],[.sl 29 (.sl .int) (exqS g l i)]⟩,fun i=>i<=l.length,fun i=>l.length-i,0,Nat.zero_le _,
   ⟨⟨rfl,rfl⟩,⟨rfl,rfl,rfl,rfl,rfl,rfl,trivial⟩,rowE (by simp [exqS]),trivial⟩,fun i hi=>?_⟩
  dsimp only at hi
  have hle:=exqS_le g l i
  refine ⟨fun h2=>?_,fun h2=>?_⟩
  .have hi2:i<l.length:=by omega
   obtain ⟨hw1,hw2⟩:=words_b (hpl i hi2)
   have hcol:ColP (l.getD i []):=⟨fun j hj=>by have:=hw2 j hj;omega,by omega,by omega⟩
   have hC:CxP g K (l.getD i []):=⟨fun a ha=>by rw [hw1];exact hgp a ha,hcol,by omega,by omega,fun j hj=>(hw2 j hj).2⟩
   have hsame:=cex_same hC
   have hcl:(cexS g (symL K) (l.getD i [])).length=(l.getD i []).length:=cexS_len _
   refine ⟨i,rfl,hi2,?_⟩
   refine ⟨[],false,_,_,spec_l13Canon sh true true g (symL K) (l.getD i []) hC.g hl hcol (by omega) fun j hj=>?_,nd0,rfl,rfl,trivial,?_⟩
   .obtain ⟨q1,q2⟩:=sym_get (k:=K) (by omega) (by omega) hj
    exact ⟨q1,by omega,fun q hq=>by rw [q2];exact (hw2 q hq).2⟩
   refine ⟨[],false,_,_,spec_l03Same true true (cexS g (symL K) (l.getD i [])) (l.getD i []) (by omega) (by omega),nd0,rfl,rfl,trivial,fun h3=>?_,fun h3=>?_⟩
   .have h3:=of_decide_eq_true h3
    rw [hsame] at h3
    refine ⟨rfl,by decide,false,rfl,Nat.zero_le _,rfl,by simp only [List.length_cons,List.length_nil];omega,rfl,?_⟩
    exact ⟨((i+1:Nat):Int),w64_eq (by omega) (by omega) (by omega),i+1,by dsimp only;omega,by dsimp only;omega,⟨rfl,rfl⟩,⟨rfl,rfl,rfl,rfl,rfl,rfl,trivial⟩,rowE (exqS_y hi2 h3).symm,trivial⟩
   .have h3:=of_decide_eq_false h3
    rw [hsame] at h3
    exact ⟨((i+1:Nat):Int),w64_eq (by omega) (by omega) (by omega),i+1,by dsimp only;omega,by dsimp only;omega,⟨rfl,rfl⟩,⟨rfl,rfl,rfl,rfl,rfl,rfl,trivial⟩,rowE (exqS_n hi2 h3).symm,trivial⟩
  .obtain rfl:i=l.length:=by omega
   exact ⟨some 0,⟨⟨rfl,rfl⟩,rfl,trivial⟩,⟨rfl,rowsE hend⟩,rfl⟩
theorem canL_len {g:List (List Int)} {xs:List Int} (hg:∀i,i<g.length->PermP (g.getD i [])/\(g.getD i []).length=xs.length):(canL g xs).length=xs.length:=by
 rcases bst_mem (fun p=>actL p xs) xs g g.length with h|⟨i,hi,h⟩
 .rw [canL,h]
 .rw [canL,h,actL_len]
def ptnS (g:List (List Int)) (k n i:Nat):List (List Int):=((wordsL k n).take i).filter fun w=>decide (canL g w=w)
theorem ptnS_y (g:List (List Int)) (k n i:Nat) (hi:i<(wordsL k n).length) (h:canL g ((wordsL k n).getD i [])=(wordsL k n).getD i []):ptnS g k n (i+1)=ptnS g k n i++[(wordsL k n).getD i []]:=by
 rw [ptnS,L_succ _ i [] hi,List.filter_append,List.filter_cons_of_pos (by rw [decide_eq_true_eq];exact h)];rfl
theorem ptnS_n (g:List (List Int)) (k n i:Nat) (hi:i<(wordsL k n).length) (h:¬canL g ((wordsL k n).getD i [])=(wordsL k n).getD i []):ptnS g k n (i+1)=ptnS g k n i:=by
 rw [ptnS,L_succ _ i [] hi,List.filter_append,List.filter_cons_of_neg (by rw [decide_eq_true_eq];exact h)];simp [ptnS]
theorem ptnS_le (g:List (List Int)) (k n i:Nat):(ptnS g k n i).length<=i:=Nat.le_trans (List.length_filter_le _ _) (by rw [List.length_take];omega)
theorem impl_PatternsOf_d (sh:Bool) (g:List (List Int)) (K:Nat) (hl:g.length<=1048576) (hx:∀i,i<g.length->(g.getD i []).length<=1048576) (hB:gokB g=true) (hS:smallB (g.getD 0 []).length (K:Nat)=true):
 AC Tryz.prog 82 [.d sh (.sl (.sl .int)) g,I (K:Nat)] [] [.ow 0,.d true .bool true] [.sl 29 (.sl .int) (patL g K (g.getD 0 []).length)]:=by
 have hG:=(gokB_iff g).1 hB
 have hg0:0<g.length:=by have:=hG.l1;omega
 have hp0:=(gok1_p (hG.o1 0 hg0)).1.1
 have hgp:∀i,i<g.length->PermP (g.getD i [])/\(g.getD i []).length=(g.getD 0 []).length:=fun i hi=>⟨(gok1_p (hG.o1 i hi)).1,(gok1_p (hG.o1 i hi)).2.1⟩
 have hK:K<=4:=by
  unfold smallB at hS
  simp only [Bool.and_eq_true,decide_eq_true_eq] at hS
  omega
 have hSm:=impl_isSmall (g.getD 0 []).length (K:Nat) hp0.2
 rw [hS] at hSm
 have hwl:=wordsL_len K (g.getD 0 []).length
 have hpw:K ^ (g.getD 0 []).length<=1048576:=pow_le hK hp0.2 (Nat.le_refl 10)
 have hwc:∀i,i<(wordsL K (g.getD 0 []).length).length->ColP ((wordsL K (g.getD 0 []).length).getD i [])/\((wordsL K (g.getD 0 []).length).getD i []).length=(g.getD 0 []).length:=fun i hi=>by
  refine ⟨wrd_col hp0.1 hp0.2 hK hi,?_⟩
  rw [hwl] at hi
  rw [wordsL_get _ _ _ hi,wrdN_len]
 have hye:=ptnS_y g K (g.getD 0 []).length
 have hno:=ptnS_n g K (g.getD 0 []).length
 have hle:=ptnS_le g K (g.getD 0 []).length
 have h00:ptnS g K (g.getD 0 []).length 0=[]:=by simp [ptnS]
 have hend:ptnS g K (g.getD 0 []).length (wordsL K (g.getD 0 []).length).length=patL g K (g.getD 0 []).length:=by rw [ptnS,List.take_length,patL_eq]
 refine AC_of tauOk 44 0 [4,5] Tryz.func82 rfl (by kernel_rfl) rfl rfl rfl rfl rfl ?_
 refine ⟨[],false,_,_,impl_GroupOk sh g hl hx,nd0,rfl,rfl,trivial,fun _=>?_,fun h=>by rw [hB] at h;cases h⟩
 refine ⟨0,rfl,hg0,[],false,_,_,hSm,nd0,rfl,rfl,trivial,fun _=>?_,nofun⟩
 refine ⟨rfl,by decide,true,?_⟩
 refine ⟨0,rfl,hg0,[],false,_,_,impl_wordsOf (g.getD 0 []).length K hp0.2 hK,nd0,rfl,rfl,trivial,?_⟩
 generalize wordsL K (g.getD 0 []).length=W at*
 refine ⟨Nat,fun i=>⟨[(0,.d sh (.sl (.sl .int)) g),(6,.ow 0),(27,.d true (.sl (.sl .int)) W),(28,I W.length),(29,I (i:Nat))],[.sl 29 (.sl .int) (ptnS g K (g.getD 0 []).length i)]⟩,fun i=>i<=W.length,fun i=>W.length-i,0,Nat.zero_le _,
  ⟨⟨rfl,rfl⟩,⟨rfl,rfl,rfl,rfl,rfl,trivial⟩,rowE h00.symm,trivial⟩,fun i hi=>?_⟩
 dsimp only at hi
 have hlei:=hle i
 refine ⟨fun h2=>?_,fun h2=>?_⟩
 .have hi2:i<W.length:=by omega
  obtain ⟨hc,hcl⟩:=hwc i hi2
  have hy:=hye i hi2
  have hn:=hno i hi2
  have hl10:=hc.2
  refine ⟨i,rfl,hi2,?_⟩
  have hgv:∀a,a<g.length->PermP (g.getD a [])/\(g.getD a []).length=(W.getD i []).length:=fun a ha=>by rw [hcl];exact hgp a ha
  have hce:=canL_len hgv
  refine ⟨[],true,_,_,impl_canon sh true g (W.getD i []) hgv hl hc,nd0,rfl,rfl,trivial,?_⟩
  refine ⟨[],false,_,_,slices_Equal_int true true (canL g (W.getD i [])) (W.getD i []) (by omega) (by omega),nd0,rfl,rfl,trivial,fun h3=>?_,fun h3=>?_⟩
  .have h3:=of_decide_eq_true h3
   refine ⟨rfl,by decide,false,?_⟩
   refine ⟨rfl,Nat.zero_le _,rfl,?_,rfl,?_⟩
   .simp only [List.length_cons,List.length_nil];omega
   .exact ⟨((i+1:Nat):Int),w64_eq (by omega) (by omega) (by omega),i+1,by dsimp only;omega,by dsimp only;omega,⟨rfl,rfl⟩,⟨rfl,rfl,rfl,rfl,rfl,trivial⟩,rowE (hy h3).symm,trivial⟩
  .have h3:=of_decide_eq_false h3
   exact ⟨((i+1:Nat):Int),w64_eq (by omega) (by omega) (by omega),i+1,by dsimp only;omega,by dsimp only;omega,⟨rfl,rfl⟩,⟨rfl,rfl,rfl,rfl,rfl,trivial⟩,rowE (hn h3).symm,trivial⟩
 .obtain rfl:i=W.length:=by omega
  exact ⟨some 0,⟨⟨rfl,rfl⟩,rfl,trivial⟩,⟨rfl,rowsE hend⟩,rfl⟩
theorem impl_PatternsOf_no (sh:Bool) (g:List (List Int)) (k:Int) (hl:g.length<=1048576) (hx:∀i,i<g.length->(g.getD i []).length<=1048576) (hE:epB g k=false):
 AC Tryz.prog 82 [.d sh (.sl (.sl .int)) g,I k] [] [.nil,.d true .bool false] []:=by
 refine AC_of tauOk 44 0 [4,5] Tryz.func82 rfl (by kernel_rfl) rfl rfl rfl rfl rfl ?_
 refine ⟨[],false,_,_,impl_GroupOk sh g hl hx,nd0,rfl,rfl,trivial,fun hB=>?_,fun hB=>?_⟩
 .have hG:=(gokB_iff g).1 hB
  have hg0:0<g.length:=by have:=hG.l1;omega
  have hp0:=(gok1_p (hG.o1 0 hg0)).1.1
  have hS:=impl_isSmall (g.getD 0 []).length k hp0.2
  rw [epB,hB,Bool.true_and] at hE
  rw [hE] at hS
  refine ⟨0,rfl,hg0,[],false,_,_,hS,nd0,rfl,rfl,trivial,nofun,fun _=>?_⟩
  exact ⟨none,⟨rfl,rfl,trivial⟩,rfl,rfl⟩
 .exact ⟨none,⟨rfl,rfl,trivial⟩,rfl,rfl⟩
theorem gcd_mod (x y:Nat):Nat.gcd y (x % y)=Nat.gcd x y:=by
 rw [Nat.gcd_comm y,<-Nat.gcd_rec,Nat.gcd_comm]
theorem impl_common (a b:Nat) (ha:a<=1048576) (hb:b<=1048576):AC Tryz.prog 274 [I (a:Nat),I (b:Nat)] [] [I (Nat.gcd a b:Nat)] []:=by
 refine AC_of tauOk 12 0 [4] Tryz.func274 rfl (by kernel_rfl) rfl rfl rfl rfl rfl ?_
 refine ⟨Nat × Nat,fun i=>⟨[(0,I (i.1:Nat)),(1,I (i.2:Nat))],[]⟩,fun i=>i.1<=1048576/\i.2<=1048576/\Nat.gcd i.1 i.2=Nat.gcd a b,fun i=>i.2,(a,b),⟨ha,hb,rfl⟩,
  ⟨⟨rfl,rfl⟩,⟨rfl,rfl,trivial⟩,trivial⟩,?_⟩
 rintro ⟨x,y⟩ ⟨hx,hy,hg⟩
 dsimp only at hx hy hg
 refine ⟨fun h1=>?_,fun h1=>?_⟩
 .dsimp only at h1
  have hm:=Nat.mod_lt x (show y>0 by omega)
  refine ⟨none,by kernel_rfl,by dsimp only;omega,((x % y:Nat):Int),Int.ofNat_tmod x y,?_⟩
  exact ⟨(y,x % y),⟨hy,by dsimp only;omega,by dsimp only;rw [gcd_mod,hg]⟩,by dsimp only;omega,⟨rfl,rfl⟩,⟨rfl,rfl,trivial⟩,trivial⟩
 .dsimp only at h1
  obtain rfl:y=0:=by omega
  rw [Nat.gcd_zero_right] at hg
  exact ⟨none,⟨retI (by rw [<-hg]),trivial⟩,rfl,rfl⟩
def totS (n:Nat):Nat->Nat
 |0=>0
 |k+1=>totS n k+if Nat.gcd (k+1) n=1 then 1 else 0
theorem totS_le (n:Nat):∀k,totS n k<=k
 |0=>Nat.le_refl _
 |k+1=>by have:=totS_le n k;rw [totS];split<;>omega
theorem impl_Totient (n:Nat) (h1:1<=n) (h2:n<=1000):AC Tryz.prog 181 [I (n:Nat)] [] [I (totS n n:Nat)] []:=by
 have hle:=totS_le n
 refine AC_of tauOk 23 0 [2] Tryz.func181 rfl (by kernel_rfl) rfl rfl rfl rfl rfl ?_
 refine ⟨fun h=>by omega,fun _=>?_⟩
 refine ⟨fun h=>by omega,fun _=>?_⟩
 refine ⟨Nat,fun k=>⟨[(0,I (n:Nat)),(3,I (totS n k:Nat)),(4,I ((k+1:Nat):Int))],[]⟩,fun k=>k<=n,fun k=>n-k,0,Nat.zero_le _,
  ⟨⟨rfl,rfl⟩,⟨rfl,rfl,rfl,trivial⟩,trivial⟩,fun k hk=>?_⟩
 dsimp only at hk
 have hlk:=hle k
 refine ⟨fun h3=>?_,fun h3=>?_⟩
 .have hk2:k<n:=by omega
  refine ⟨[],false,_,_,impl_common (k+1) n (by omega) (by omega),nd0,rfl,rfl,trivial,fun h4=>?_,fun h4=>?_⟩
  .have e:totS n (k+1)=totS n k+1:=by rw [totS,if_pos (by omega)]
   refine ⟨((totS n (k+1):Nat):Int),w64_eq (by omega) (by omega) (by omega),?_⟩
   exact ⟨((k+1+1:Nat):Int),w64_eq (by omega) (by omega) (by omega),k+1,by dsimp only;omega,by dsimp only;omega,⟨rfl,rfl⟩,⟨rfl,rfl,rfl,trivial⟩,trivial⟩
  .have e:totS n (k+1)=totS n k:=by rw [totS,if_neg (by omega)];rfl
   exact ⟨((k+1+1:Nat):Int),w64_eq (by omega) (by omega) (by omega),k+1,by dsimp only;omega,by dsimp only;omega,⟨rfl,rfl⟩,⟨rfl,retI (by rw [e]),rfl,trivial⟩,trivial⟩
 .obtain rfl:k=n:=by omega
  exact ⟨none,⟨rfl,trivial⟩,rfl,rfl⟩
def mobF:Nat->Nat->Int->Nat->Int
 |0,_,out,_=>out
 |f+1,n,out,d=>if n<=1 then out else if n % d≠0 then mobF f n out (d+1) else if (n / d) % d=0 then 0 else mobF f (n / d) (-out) (d+1)
def mobN (n:Nat):Int:=mobF (2*n) n 1 2
theorem mobF_b:∀(f n:Nat) (out:Int) (d:Nat),-1<=out->out<=1->-1<=mobF f n out d/\mobF f n out d<=1
 |0,n,out,d,h1,h2=>by rw [mobF];exact ⟨h1,h2⟩
 |f+1,n,out,d,h1,h2=>by
  rw [mobF]
  split
  .exact ⟨h1,h2⟩
  .split
   .exact mobF_b f _ _ _ h1 h2
   .split
    .omega
    .exact mobF_b f _ _ _ (by omega) (by omega)
theorem impl_Mobius (n0:Nat) (h1:1<=n0) (h2:n0<=1000):AC Tryz.prog 183 [I (n0:Nat)] [] [I (mobN n0)] []:=by
 refine AC_of tauOk 29 0 [2] Tryz.func183 rfl (by kernel_rfl) rfl rfl rfl rfl rfl ?_
 refine ⟨fun h=>by omega,fun _=>?_⟩
 refine ⟨fun h=>by omega,fun _=>?_⟩
 refine ⟨Nat × Nat × Int × Nat,fun i=>⟨[(0,I (i.2.1:Nat)),(3,I i.2.2.1),(4,I (i.2.2.2:Nat))],[]⟩,
  fun i=>mobF i.1 i.2.1 i.2.2.1 i.2.2.2=mobN n0/\1<=i.2.1/\i.2.1<=1000/\2<=i.2.2.2/\i.2.2.2<=1001/\(-1<=i.2.2.1/\i.2.2.1<=1)/\(∀e,2<=e->i.2.1 % e=0->i.2.2.2<=e)/\(1<i.2.1->2*i.2.1<i.1+i.2.2.2),fun i=>i.1,(2*n0,n0,1,2),
  ⟨rfl,h1,h2,Nat.le_refl 2,(by decide:2<=1001),(by decide:(-1:Int)<=1/\(1:Int)<=1),fun e he _=>he,fun _=>by dsimp only;omega⟩,
  ⟨⟨rfl,rfl⟩,⟨rfl,rfl,rfl,trivial⟩,trivial⟩,?_⟩
 rintro ⟨f,n,out,d⟩ ⟨hF,hn1,hn2,hd1,hd2,ho,he,hf⟩
 dsimp only at hF hn1 hn2 hd1 hd2 ho he hf
 refine ⟨fun h3=>?_,fun h3=>?_⟩
 .dsimp only at h3
  have hn3:1<n:=by omega
  have hdn:d<=n:=he n (by omega) (Nat.mod_self n)
  have hf1:=hf hn3
  obtain ⟨f',rfl⟩:∃f',f=f'+1:=⟨f-1,by omega⟩
  rw [mobF,if_neg (by omega)] at hF
  refine ⟨by dsimp only;omega,((n % d:Nat):Int),Int.ofNat_tmod n d,?_⟩
  refine ⟨fun h4=>?_,fun h4=>?_⟩
  .rw [if_pos (by omega)] at hF
   have hdn2:d≠n:=fun e=>by rw [e,Nat.mod_self] at h4;exact h4 rfl
   refine ⟨((d+1:Nat):Int),w64_eq (by dsimp only;omega) (by omega) (by omega),(f',n,out,d+1),⟨hF,hn1,hn2,by dsimp only;omega,by dsimp only;omega,ho,fun e h5 h6=>?_,fun _=>by dsimp only;omega⟩,by dsimp only;omega,⟨rfl,rfl⟩,⟨rfl,rfl,rfl,trivial⟩,trivial⟩
   dsimp only at h6
   have h7:=he e h5 h6
   have:e≠d:=fun e'=>by rw [e'] at h6;omega
   show d+1<=e
   omega
  .rw [if_neg (by omega)] at hF
   have hnd:n / d<=n / 2:=Nat.div_le_div_left hd1 (by decide)
   have hdm:=Nat.div_add_mod n d
   have hpos:1<=n / d:=by
    have:=Nat.div_le_div_right (c:=d) hdn
    rw [Nat.div_self (by omega)] at this
    exact this
   refine ⟨by dsimp only;omega,((n / d:Nat):Int),w64_eq (Int.ofNat_tdiv n d) (by omega) (by omega),?_⟩
   refine ⟨by dsimp only;omega,((n / d % d:Nat):Int),Int.ofNat_tmod (n / d) d,?_⟩
   refine ⟨fun h5=>?_,fun h5=>?_⟩
   .rw [if_pos (by omega)] at hF
    exact ⟨none,⟨retI hF.symm,trivial⟩,rfl,rfl⟩
   .rw [if_neg (by omega)] at hF
    refine ⟨-out,by rw [<-w64_in _ (by dsimp only;omega) (by dsimp only;omega)]<;>dsimp only<;>omega,?_⟩
    refine ⟨((d+1:Nat):Int),w64_eq (by dsimp only;omega) (by omega) (by omega),(f',n / d,-out,d+1),⟨hF,hpos,by dsimp only;omega,by dsimp only;omega,by dsimp only;omega,⟨by dsimp only;omega,by dsimp only;omega⟩,fun e h6 h7=>?_,fun _=>by dsimp only;omega⟩,by dsimp only;omega,⟨rfl,rfl⟩,⟨rfl,rfl,rfl,trivial⟩,trivial⟩
    dsimp only at h7
    have h8:n % e=0:=by
     have h9:d ∣ n:=Nat.dvd_of_mod_eq_zero (by omega)
     have h10:n / d ∣ n:=Nat.div_dvd_of_dvd h9
     exact Nat.mod_eq_zero_of_dvd (Nat.dvd_trans (Nat.dvd_of_mod_eq_zero h7) h10)
    have h9:=he e h6 h8
    have:e≠d:=fun e'=>by rw [e'] at h7;omega
    show d+1<=e
    omega
 .dsimp only at h3
  have e:mobF f n out d=out:=by
   cases f with
   |zero=>rfl
   |succ f=>rw [mobF,if_pos (by omega)]
  exact ⟨none,⟨retI (by rw [<-hF,e]),trivial⟩,rfl,rfl⟩
def divS (F:Nat->Int) (n K:Nat):Nat->Int
 |0=>0
 |j+1=>divS F n K j+if n % (j+1)=0 then F (j+1)*((K ^ (n / (j+1)):Nat):Int) else 0
def divI (F:Nat->Int) (n K:Nat):Int:=(divS F n K n).tdiv n
theorem mulb {x y:Int} (hx: -1000<=x/\x<=1000) (hy:0<=y/\y<=1048576): -1048576000<=x*y/\x*y<=1048576000:=by
 obtain ⟨h1,h2⟩:=hx
 obtain ⟨h3,h4⟩:=hy
 have a1:x*y<=1000*y:=Int.mul_le_mul_of_nonneg_right h2 h3
 have a2: -1000*y<=x*y:=Int.mul_le_mul_of_nonneg_right h1 h3
 omega
theorem divS_b {F:Nat->Int} {n K:Nat} (hF:∀d,1<=d->d<=n->-1000<=F d/\F d<=1000) (hn:n<=10) (hK:K<=4):∀j,j<=n->-(j:Int)*1048576000<=divS F n K j/\divS F n K j<=(j:Int)*1048576000
 |0,_=>by rw [divS];omega
 |j+1,hj=>by
  have ih:=divS_b hF hn hK j (by omega)
  have hp:K ^ (n / (j+1))<=1048576:=pow_le hK (show n / (j+1)<=10 from Nat.le_trans (Nat.div_le_self _ _) hn) (Nat.le_refl 10)
  have:=mulb (hF (j+1) (by omega) hj) (y:=((K ^ (n / (j+1)):Nat):Int)) ⟨Int.natCast_nonneg _,by omega⟩
  rw [divS]
  split<;>omega
theorem impl_divided (F:Nat->Int) (fn n K:Nat) (h1:1<=n) (hn:n<=10) (hK:K<=4) (hF:∀d,1<=d->d<=n->(-1000<=F d/\F d<=1000)/\AC Tryz.prog fn [I (d:Nat)] [] [I (F d)] []):
 AC Tryz.prog 180 [I (n:Nat),I (K:Nat),.fn fn []] [] [I (divI F n K)] []:=by
 have hb:=divS_b (fun d a b=>(hF d a b).1) hn hK
 refine AC_of tauOk 32 0 [6] Tryz.func180 rfl (by kernel_rfl) rfl rfl rfl rfl rfl ?_
 refine ⟨Nat,fun k=>⟨[(0,I (n:Nat)),(1,I (K:Nat)),(2,.fn fn []),(7,I (divS F n K k)),(8,I ((k+1:Nat):Int))],[]⟩,fun k=>k<=n,fun k=>n-k,0,Nat.zero_le _,
  ⟨⟨rfl,rfl⟩,⟨rfl,rfl,rfl,rfl,rfl,trivial⟩,trivial⟩,fun k hk=>?_⟩
 dsimp only at hk
 have hbk:=hb k hk
 refine ⟨fun h3=>?_,fun h3=>?_⟩
 .have hk2:k<n:=by omega
  obtain ⟨hv,hA⟩:=hF (k+1) (by omega) hk2
  have hb1:=hb (k+1) (by omega)
  have hq:n / (k+1)<=10:=Nat.le_trans (Nat.div_le_self _ _) hn
  have hp:K ^ (n / (k+1))<=1048576:=pow_le hK hq (Nat.le_refl 10)
  have hm:=mulb hv (y:=((K ^ (n / (k+1)):Nat):Int)) ⟨Int.natCast_nonneg _,by omega⟩
  refine ⟨by omega,((n % (k+1):Nat):Int),Int.ofNat_tmod n (k+1),?_⟩
  refine ⟨fun h4=>?_,fun h4=>?_⟩
  .have e:divS F n K (k+1)=divS F n K k+F (k+1)*((K ^ (n / (k+1)):Nat):Int):=by rw [divS,if_pos (by omega)]
   refine ⟨none,by kernel_rfl,_,_,hA,rfl,by omega,((n / (k+1):Nat):Int),w64_eq (Int.ofNat_tdiv n (k+1)) (Int.le_trans (by decide) (Int.natCast_nonneg _)) (Int.le_trans (Int.ofNat_le.2 hq) (by decide)),_,_,impl_power K (n / (k+1)) hK hq,rfl,?_⟩
   refine ⟨F (k+1)*((K ^ (n / (k+1)):Nat):Int),w64_eq rfl (by omega) (by omega),?_⟩
   refine ⟨divS F n K (k+1),w64_eq e (by omega) (by omega),?_⟩
   exact ⟨((k+1+1:Nat):Int),w64_eq (by omega) (by omega) (by omega),k+1,by dsimp only;omega,by dsimp only;omega,⟨rfl,rfl⟩,⟨rfl,rfl,rfl,rfl,rfl,trivial⟩,trivial⟩
  .have e:divS F n K (k+1)=divS F n K k:=by rw [divS,if_neg (by omega),Int.add_zero]
   exact ⟨((k+1+1:Nat):Int),w64_eq (by omega) (by omega) (by omega),k+1,by dsimp only;omega,by dsimp only;omega,⟨rfl,rfl⟩,⟨rfl,rfl,rfl,retI (by rw [e]),rfl,trivial⟩,trivial⟩
 .obtain rfl:k=n:=by omega
  have hd: -10485760000<=divI F k K/\divI F k K<=10485760000:=by
   unfold divI
   have h5:(divS F k K k).tdiv k=(divS F k K k).tdiv k:=rfl
   have h6:=Int.natAbs_tdiv_le_natAbs (divS F k K k) k
   omega
  refine ⟨by omega,divI F k K,w64_eq rfl (by omega) (by omega),?_⟩
  exact ⟨none,⟨rfl,trivial⟩,rfl,rfl⟩
def lenB (n k:Int):Bool:=(decide (1<=n) && decide (n<=10)) && (decide (1<=k) && decide (k<=4))
theorem impl_isLength (n:Int):AC Tryz.prog 179 [I n] [] [.d true .bool (decide (1<=n) && decide (n<=10))] []:=by
 refine AC_of tauOk 9 0 [2] Tryz.func179 rfl (by kernel_rfl) rfl rfl rfl rfl rfl ?_
 refine ⟨fun h=>?_,fun h=>?_⟩
 .refine ⟨fun h2=>?_,fun h2=>?_⟩
  .exact ⟨none,⟨retB (by rw [decide_eq_true (show 1<=n by omega),decide_eq_true h2];rfl),trivial⟩,rfl,rfl⟩
  .exact ⟨none,⟨retB (by rw [decide_eq_false h2,Bool.and_false]),trivial⟩,rfl,rfl⟩
 .exact ⟨none,⟨retB (by rw [decide_eq_false (show ¬1<=n by omega)];rfl),trivial⟩,rfl,rfl⟩
theorem lenB_of {n k:Int} (h:lenB n k=true):∃N K:Nat,n=(N:Int)/\k=(K:Int)/\1<=N/\N<=10/\1<=K/\K<=4:=by
 unfold lenB at h
 simp only [Bool.and_eq_true,decide_eq_true_eq] at h
 exact ⟨n.toNat,k.toNat,by omega,by omega,by omega,by omega,by omega,by omega⟩
def neckI (n k:Int):Int:=if lenB n k then divI (fun d=>(totS d d:Nat)) n.toNat k.toNat else-1
def lynI (n k:Int):Int:=if lenB n k then divI mobN n.toNat k.toNat else-1
def mirI (n k:Int):Int:=if lenB n k then (if n.toNat % 2=1 then ((k.toNat ^ ((n.toNat+1) / 2):Nat):Int) else (((k.toNat ^ (n.toNat / 2)+k.toNat ^ (n.toNat / 2+1)) / 2:Nat):Int)) else-1
def bracI (n k:Int):Int:=if lenB n k then (neckI n k+mirI n k).tdiv 2 else-1
theorem divI_b {F:Nat->Int} {n K:Nat} (hF:∀d,1<=d->d<=n->-1000<=F d/\F d<=1000) (hn:n<=10) (hK:K<=4): -10485760000<=divI F n K/\divI F n K<=10485760000:=by
 have hb:=divS_b hF hn hK n (Nat.le_refl _)
 unfold divI
 have h6:=Int.natAbs_tdiv_le_natAbs (divS F n K n) n
 omega
theorem tot_b (n:Nat) (hn:n<=10):∀d,1<=d->d<=n->-1000<=((totS d d:Nat):Int)/\((totS d d:Nat):Int)<=1000:=fun d _ h=>by
 have:=totS_le d d;omega
theorem mob_b (n:Nat):∀d,1<=d->d<=n->-1000<=mobN d/\mobN d<=1000:=fun d _ h=>by
 have:=mobF_b (2*d) d 1 2 (by decide) (by decide);unfold mobN;omega
theorem neck_b (n k:Int): -10485760000<=neckI n k/\neckI n k<=10485760000:=by
 unfold neckI
 split
 .rename_i h
  obtain ⟨N,K,rfl,rfl,a1,a2,a3,a4⟩:=lenB_of h
  exact divI_b (tot_b _ (by simpa using a2)) (by simpa using a2) (by simpa using a4)
 .omega
theorem lyn_b (n k:Int): -10485760000<=lynI n k/\lynI n k<=10485760000:=by
 unfold lynI
 split
 .rename_i h
  obtain ⟨N,K,rfl,rfl,a1,a2,a3,a4⟩:=lenB_of h
  exact divI_b (mob_b _) (by simpa using a2) (by simpa using a4)
 .omega
theorem mir_b (n k:Int): -10485760000<=mirI n k/\mirI n k<=10485760000:=by
 unfold mirI
 split
 .rename_i h
  obtain ⟨N,K,rfl,rfl,a1,a2,a3,a4⟩:=lenB_of h
  simp only [Int.toNat_natCast]
  have p1:K ^ ((N+1) / 2)<=1048576:=pow_le a4 (show (N+1) / 2<=10 by omega) (Nat.le_refl 10)
  have p2:K ^ (N / 2)<=1048576:=pow_le a4 (show N / 2<=10 by omega) (Nat.le_refl 10)
  have p3:K ^ (N / 2+1)<=1048576:=pow_le a4 (show N / 2+1<=10 by omega) (Nat.le_refl 10)
  split<;>omega
 .omega
theorem impl_CountNecklaces (n k:Int):AC Tryz.prog 84 [I n,I k] [] [I (neckI n k)] []:=by
 refine AC_of tauOk 16 0 [4] Tryz.func84 rfl (by kernel_rfl) rfl rfl rfl rfl rfl ?_
 refine ⟨[],false,_,_,impl_isLength n,nd0,rfl,rfl,trivial,fun h1=>?_,fun h1=>?_⟩
 .refine ⟨[],false,_,_,impl_isColors k,nd0,rfl,rfl,trivial,fun h2=>?_,fun h2=>?_⟩
  .have hL:lenB n k=true:=by rw [lenB,h1,h2];rfl
   have e:neckI n k=divI (fun d=>(totS d d:Nat)) n.toNat k.toNat:=by rw [neckI,if_pos hL]
   obtain ⟨N,K,rfl,rfl,a1,a2,a3,a4⟩:=lenB_of hL
   rw [Int.toNat_natCast,Int.toNat_natCast] at e
   refine ⟨[],false,_,_,impl_divided (fun d=>(totS d d:Nat)) 181 N K a1 a2 a4 fun d b1 b2=>⟨tot_b N a2 d b1 b2,impl_Totient d b1 (by omega)⟩,nd0,rfl,rfl,trivial,?_⟩
   exact ⟨none,⟨retI e,trivial⟩,rfl,rfl⟩
  .exact ⟨none,⟨retI (by rw [neckI,lenB,h2,Bool.and_false];rfl),trivial⟩,rfl,rfl⟩
 .exact ⟨none,⟨retI (by rw [neckI,lenB,h1];rfl),trivial⟩,rfl,rfl⟩
theorem impl_CountLyndon (n k:Int):AC Tryz.prog 86 [I n,I k] [] [I (lynI n k)] []:=by
 refine AC_of tauOk 16 0 [4] Tryz.func86 rfl (by kernel_rfl) rfl rfl rfl rfl rfl ?_
 refine ⟨[],false,_,_,impl_isLength n,nd0,rfl,rfl,trivial,fun h1=>?_,fun h1=>?_⟩
 .refine ⟨[],false,_,_,impl_isColors k,nd0,rfl,rfl,trivial,fun h2=>?_,fun h2=>?_⟩
  .have hL:lenB n k=true:=by rw [lenB,h1,h2];rfl
   have e:lynI n k=divI mobN n.toNat k.toNat:=by rw [lynI,if_pos hL]
   obtain ⟨N,K,rfl,rfl,a1,a2,a3,a4⟩:=lenB_of hL
   rw [Int.toNat_natCast,Int.toNat_natCast] at e
   refine ⟨[],false,_,_,impl_divided mobN 183 N K a1 a2 a4 fun d b1 b2=>⟨mob_b N d b1 b2,impl_Mobius d b1 (by omega)⟩,nd0,rfl,rfl,trivial,?_⟩
   exact ⟨none,⟨retI e,trivial⟩,rfl,rfl⟩
  .exact ⟨none,⟨retI (by rw [lynI,lenB,h2,Bool.and_false];rfl),trivial⟩,rfl,rfl⟩
 .exact ⟨none,⟨retI (by rw [lynI,lenB,h1];rfl),trivial⟩,rfl,rfl⟩
theorem impl_CountMirrored (n k:Int):AC Tryz.prog 182 [I n,I k] [] [I (mirI n k)] []:=by
 have hmb:=mir_b n k
 refine AC_of tauOk 32 0 [4] Tryz.func182 rfl (by kernel_rfl) rfl rfl rfl rfl rfl ?_
 refine ⟨[],false,_,_,impl_isLength n,nd0,rfl,rfl,trivial,fun h1=>?_,fun h1=>?_⟩
 .refine ⟨[],false,_,_,impl_isColors k,nd0,rfl,rfl,trivial,fun h2=>?_,fun h2=>?_⟩
  .have hL:lenB n k=true:=by rw [lenB,h1,h2];rfl
   have e:=mirI
   obtain ⟨N,K,rfl,rfl,a1,a2,a3,a4⟩:=lenB_of hL
   have p2:K ^ (N / 2)<=1048576:=pow_le a4 (show N / 2<=10 by omega) (Nat.le_refl 10)
   have p3:K ^ (N / 2+1)<=1048576:=pow_le a4 (show N / 2+1<=10 by omega) (Nat.le_refl 10)
   refine ⟨by decide,((N % 2:Nat):Int),Int.ofNat_tmod N 2,?_⟩
   refine ⟨fun h3=>?_,fun h3=>?_⟩
   .have e:mirI (N:Int) (K:Int)=((K ^ ((N+1) / 2):Nat):Int):=by rw [mirI,if_pos hL,Int.toNat_natCast,Int.toNat_natCast,if_pos (by omega)]
    refine ⟨((N+1:Nat):Int),w64_eq (by omega) (by omega) (by omega),?_⟩
    refine ⟨by decide,(((N+1) / 2:Nat):Int),w64_eq (Int.ofNat_tdiv (N+1) 2) (by omega) (by omega),?_⟩
    refine ⟨[],false,_,_,impl_power K ((N+1) / 2) a4 (by omega),nd0,rfl,rfl,trivial,?_⟩
    exact ⟨none,⟨retI e,trivial⟩,rfl,rfl⟩
   .have e:mirI (N:Int) (K:Int)=(((K ^ (N / 2)+K ^ (N / 2+1)) / 2:Nat):Int):=by rw [mirI,if_pos hL,Int.toNat_natCast,Int.toNat_natCast,if_neg (by omega)]
    refine ⟨by decide,((N / 2:Nat):Int),w64_eq (Int.ofNat_tdiv N 2) (by omega) (by omega),?_⟩
    refine ⟨[],false,_,_,impl_power K (N / 2) a4 (by omega),nd0,rfl,rfl,trivial,?_⟩
    refine ⟨by decide,((N / 2:Nat):Int),w64_eq (Int.ofNat_tdiv N 2) (by omega) (by omega),?_⟩
    refine ⟨((N / 2+1:Nat):Int),w64_eq (by omega) (by omega) (by omega),?_⟩
    refine ⟨[],false,_,_,impl_power K (N / 2+1) a4 (by omega),nd0,rfl,rfl,trivial,?_⟩
    refine ⟨((K ^ (N / 2)+K ^ (N / 2+1):Nat):Int),w64_eq (by omega) (by omega) (by omega),?_⟩
    refine ⟨by decide,(((K ^ (N / 2)+K ^ (N / 2+1)) / 2:Nat):Int),w64_eq (Int.ofNat_tdiv _ 2) (by omega) (by omega),?_⟩
    exact ⟨none,⟨retI e,trivial⟩,rfl,rfl⟩
  .exact ⟨none,⟨retI (by rw [mirI,lenB,h2,Bool.and_false];rfl),trivial⟩,rfl,rfl⟩
 .exact ⟨none,⟨retI (by rw [mirI,lenB,h1];rfl),trivial⟩,rfl,rfl⟩
theorem brac_b (n k:Int): -20971520000<=bracI n k/\bracI n k<=20971520000:=by
 have h1:=neck_b n k
 have h2:=mir_b n k
 have h3:=Int.natAbs_tdiv_le_natAbs (neckI n k+mirI n k) 2
 have h4: -20971520000<=neckI n k+mirI n k/\neckI n k+mirI n k<=20971520000:=by omega
 unfold bracI
 split<;>omega
theorem impl_CountBracelets (n k:Int):AC Tryz.prog 85 [I n,I k] [] [I (bracI n k)] []:=by
 have b1:=neck_b n k
 have b2:=mir_b n k
 have b3:=Int.natAbs_tdiv_le_natAbs (neckI n k+mirI n k) 2
 refine AC_of tauOk 21 0 [4] Tryz.func85 rfl (by kernel_rfl) rfl rfl rfl rfl rfl ?_
 refine ⟨[],false,_,_,impl_isLength n,nd0,rfl,rfl,trivial,fun h1=>?_,fun h1=>?_⟩
 .refine ⟨[],false,_,_,impl_isColors k,nd0,rfl,rfl,trivial,fun h2=>?_,fun h2=>?_⟩
  .have hL:lenB n k=true:=by rw [lenB,h1,h2];rfl
   refine ⟨[],false,_,_,impl_CountNecklaces n k,nd0,rfl,rfl,trivial,[],false,_,_,impl_CountMirrored n k,nd0,rfl,rfl,trivial,?_⟩
   refine ⟨neckI n k+mirI n k,w64_eq rfl (by omega) (by omega),?_⟩
   refine ⟨by decide,(neckI n k+mirI n k).tdiv 2,w64_eq rfl (by omega) (by omega),?_⟩
   exact ⟨none,⟨retI (by rw [bracI,if_pos hL]),trivial⟩,rfl,rfl⟩
  .exact ⟨none,⟨retI (by rw [bracI,lenB,h2,Bool.and_false];rfl),trivial⟩,rfl,rfl⟩
 .exact ⟨none,⟨retI (by rw [bracI,lenB,h1];rfl),trivial⟩,rfl,rfl⟩
end Go.Proofs.YtacjiemkbhhhoaaGreatDoor
namespace Go.Proofs.YtacjiemkbhhhoaaGreatDoor.Ow
open Go
def BC (P:Program) (m:Nat) (f:FuncId) (args:List AV) (rows:List Row) (res:AV) (rows':List Row):Prop:=
 Runs P f/\∀(w:World) (bs:List Nat) (A:Nat->Prop) (vs:List Value),ROk w bs A rows->Vs w bs A rows args vs->
  Calls P f vs.toArray w fun e w'=>∃rv bs' A',e=.returned rv/\ROk w' bs' A' rows'/\V w' bs' A' rows' res rv/\Step w bs A w' bs' A'/\
   bs'.take m=bs.take m/\Stay w (bs.take m) w'/\(∀b,A b->A' b)
def RetB (t:Nat) (res:AV) (rows':List Row):Exit->St->Prop:=
 fun e st=>match e with
 |.goto _=>False
 |.exit _=>False
 |.panic _=>False
 |.outgrown=>False
 |_=>look st.env t=res/\st.rows=rows'
theorem BC_of {P:Program} {τ:Nat→TI} (hτ:TyOk P τ) {f:FuncId} {fn:Func} {c:Code} {args:List AV} {res:AV} {rows rows':List Row} (N m t:Nat) (hf:P.funcs[f]? =some fn) (hb:fn.body=some c) (hn:(fn.name== "runtime.NumGoroutine")=false) (hN:fn.ntmps=N)
 (hargs:Nat.ble args.length N=true) (hm:Nat.ble m rows.length=true) (hres:fn.results=([t].map ResultVar.tmp).toArray)
 (h:wpC P τ N m c ⟨envOf 0 args,rows⟩ (RetB t res rows')):BC P m f args rows res rows':=by
 refine ⟨⟨fn,c,hf,hb,hn⟩,fun w bs A vs hrok hvs=>?_⟩
 have hargs':=Nat.le_of_ble_eq_true hargs
 have hm':=Nat.le_of_ble_eq_true hm
 have hvl:=Vs_len hvs
 refine calls_of_wp hf hb ?_
 have hs:Sat w bs A {tmps:=vs.toArray++Array.replicate (fn.ntmps-vs.toArray.size) undef,defers:=[]} N ⟨envOf 0 args,rows⟩:=by
  refine ⟨hrok.len,hrok.nodup,hrok.lt,hrok.old,hrok.row,fun t=>?_,by simp;omega,rfl⟩
  show V w bs A rows (look (envOf 0 args) t) _
  rw [look_envOf]
  simp only [Nat.zero_le,if_true,Nat.sub_zero]
  cases ht:args[t]? with
  |none=>trivial
  |some av=>
   obtain ⟨v,hv,hr⟩:=Vs_get hvs ht
   have:(vs.toArray++Array.replicate (fn.ntmps-vs.toArray.size) undef).getD t undef=v:=by
    have htl:=(List.getElem?_eq_some_iff.1 hv).1
    rw [Array.getD_eq_getD_getElem?,Array.getElem?_append_left (by simpa using htl)]
    simp [hv]
   simp only [this]
   exact hr
 refine wpC_ok hτ c hs (by rw [hrok.len];exact hm') (fun e w' bs' A' a' st' h1 h2 h3=>?_) h
 have key:(look st'.env t=res/\st'.rows=rows')->
  a'.defers=[]/\∃v,(results fn a'.tmps).run P w'=.ok v w'/\(fun (e:Ending) w'=>∃rv bs' A',e=.returned rv/\ROk w' bs' A' rows'/\V w' bs' A' rows' res rv/\Step w bs A w' bs' A'/\
  bs'.take m=bs.take m/\Stay w (bs.take m) w'/\(∀b,A b->A' b)) (.returned v) w':=by
  rintro ⟨rfl,rfl⟩
  refine ⟨h1.dfs,_,run_results fn [t] hres (show 1<=4 by decide) a'.tmps w',?_⟩
  exact ⟨_,bs',A',rfl,h1.rok,h1.env t,h2.toStep,h2.tk,h2.st,h2.up⟩
 cases e with
 |normal=>exact key h3
 |ret=>exact key h3
 |exit i=>exact h3.elim
 |goto l=>exact h3.elim
 |panic c=>exact h3.elim
 |outgrown=>exact h3.elim
theorem XC_of3 {P:Program} {N:Nat} {F:FuncId} {args:List AV} {res:AV} {env:List (Nat × AV)} {ea eb eb' ec ec':TypeId} {ta tc tc':Ty} {xs xs':List ta.T} {vb vb':AV} {ys:List tc.T} {ys':List tc'.T} (hl:xs'.length=xs.length)
 (h:BC P 2 F args [.sl ea ta xs,.box eb vb,.sl ec tc ys] res [.sl ea ta xs',.box eb' vb',.sl ec' tc' ys']):
 XC P 2 N F args ⟨env,[.sl ea ta xs,.box eb vb,.sl ec tc ys]⟩ ⟨killE 2 env,[.sl ea ta xs',.box eb' vb',.sl ec' tc' ys']⟩ res:=by
 refine ⟨h.1,fun w bs A a vs hs hm hvs=>(h.2 w bs A vs hs.rok hvs).mono ?_⟩
 rintro e w' ⟨rv,bs',A',rfl,hrok,hv,hstep,htk,hstay,hup⟩
 have hl3:bs.length=3:=hs.len
 have hl3':bs'.length=3:=hrok.len
 have hnA:∀b∈bs,¬A b:=fun b hb=>by
  obtain ⟨i,hi,rfl⟩:=List.getElem_of_mem hb
  have h1:bs[i]? =some bs[i]:=List.getElem?_eq_getElem hi
  match i,hi,h1 with
  |0,_,h1=>exact (hs.row 0 _ _ h1 rfl).nA (by simp)
  |1,_,h1=>exact (hs.row 1 _ _ h1 rfl).nA (by simp)
  |2,_,h1=>exact (hs.row 2 _ _ h1 rfl).nA (by simp)
  |i+3,hi,_=>omega
 have hix:∀i,i<2->bs'[i]? =bs[i]? :=fun i hi=>by
  have h1:(bs'.take 2)[i]? =(bs.take 2)[i]? :=by rw [htk]
  rwa [List.getElem?_take,List.getElem?_take,if_pos hi,if_pos hi] at h1
 have k:Kp w bs A [.sl ea ta xs,.box eb vb,.sl ec tc ys] w' bs' A' [.sl ea ta xs',.box eb' vb',.sl ec' tc' ys'] (fun i=>i<2):=
  {a:=fun b hb hlt=>⟨hstep.block b hlt (fun hm=>hnA b hm hb),hup b hb⟩
   n:=fun b hb hlt=>⟨hstep.block b hlt hb,fun hm=>by
    rcases hstep.sbs b hm with h1|h1
    .exact hb h1
    .omega⟩
   h:=fun i hi=>by
    refine ⟨hix i hi,fun r hr=>?_,fun b cur e hb hc=>?_⟩
    .match i,hi,hr with
     |0,_,hr=>cases hr;exact ⟨_,rfl,hl,(fun e t ys h=>by cases h;exact ⟨xs',rfl⟩),(fun e ys h=>by cases h)⟩
     |1,_,hr=>cases hr;exact ⟨_,rfl,rfl,(fun e t ys h=>by cases h),(fun e ys h=>by cases h)⟩
     |i+2,hi,_=>omega
    .exact hstay b (List.mem_of_getElem? (i:=i) (by rw [List.getElem?_take,if_pos hi];exact hb)) cur e hc}
 refine ⟨rv,bs',A',rfl,hs.change k hrok (fun t=>?_),hv,hstep,htk,hstay,hup⟩
 rcases look_killE 2 env t with h|⟨h,h2⟩
 .exact .inl h
 .exact .inr ⟨h,fun j hj hlt=>by
   have:j≠2:=fun e=>h2 (e ▸ hj)
   show j<2
   omega⟩
theorem XC_of3r {P:Program} {N:Nat} {F G:FuncId} {a1 a2 a3:Int} {b1:Bool} {v:Bool} {env:List (Nat × AV)} {u:Nat} {ea eb ec:TypeId} {ta tc:Ty} {xs xs':List ta.T} {ys ys':List tc.T} (hu:look env u=.ptr 1 0)
 (h:BC P 2 F [.ow 0,I a1,I a2,I a3,.nil,.d true .bool b1,.fn G [.ptr 1 0]] [.sl ea ta xs,.box eb (.ow 2),.sl ec tc ys] (.d true .bool v) [.sl ea ta xs',.box eb (.ow 2),.sl ec tc ys']):
 XC P 0 N F [.ow 2,I a1,I a2,I a3,.nil,.d true .bool b1,.fn G [.ptr 1 0]] ⟨env,[.sl ec tc ys,.box eb (.ow 0),.sl ea ta xs]⟩ ⟨[(u,.ptr 1 0)],[.sl ec tc ys',.box eb (.ow 0),.sl ea ta xs']⟩ (.d true .bool v):=by
 refine ⟨h.1,fun w bs A a vs hs hm hvs=>?_⟩
 obtain ⟨c0,c1,c2,rfl⟩:∃c0 c1 c2,bs=[c0,c1,c2]:=by
  have hl3:bs.length=3:=hs.len
  match bs,hl3 with
  |[c0,c1,c2],_=>exact ⟨c0,c1,c2,rfl⟩
 have hnd:=hs.nodup
 have hrok:ROk w [c2,c1,c0] A [.sl ea ta xs,.box eb (.ow 2),.sl ec tc ys]:=by
  refine ⟨rfl,by simp at hnd ⊢;omega,fun b hb=>hs.lt b (by simp at hb ⊢;omega),hs.old,fun i b r hb hr=>?_⟩
  match i,hb,hr with
  |0,hb,hr=>cases hb;cases hr;exact hs.row 2 c2 _ rfl rfl
  |1,hb,hr=>
   cases hb;cases hr
   obtain ⟨hA,cv,hc,b,e,t,zs,cur,k1,k2,k3,k4⟩:=hs.row 1 c1 _ rfl rfl
   exact ⟨hA,cv,hc,b,e,t,zs,cur,k1,k2,k3,k4⟩
  |2,hb,hr=>cases hb;cases hr;exact hs.row 0 c0 _ rfl rfl
  |i+3,hb,_=>cases hb
 have hvs2:Vs w [c2,c1,c0] A [.sl ea ta xs,.box eb (.ow 2),.sl ec tc ys] [.ow 0,I a1,I a2,I a3,.nil,.d true .bool b1,.fn G [.ptr 1 0]] vs:=by
  obtain ⟨v1,r1,rfl,⟨b,e,t,zs,cur,k1,k2,k3,k4⟩,v2,r2,rfl,h2,v3,r3,rfl,h3,v4,r4,rfl,h4,v5,r5,rfl,h5,v6,r6,rfl,h6,v7,r7,rfl,⟨cs,hf,v8,r8,h8,⟨b',r',q1,q2,q3,q4⟩,h9⟩,h7⟩:=hvs
  exact ⟨v1,_,rfl,⟨b,e,t,zs,cur,k1,k2,k3,k4⟩,v2,_,rfl,h2,v3,_,rfl,h3,v4,_,rfl,h4,v5,_,rfl,h5,v6,_,rfl,h6,v7,_,rfl,⟨cs,hf,v8,r8,h8,⟨b',.box eb (.ow 2),q1,rfl,(by cases q2;exact q3),q4⟩,h9⟩,h7⟩
 refine (h.2 w _ A vs hrok hvs2).mono ?_
 rintro e w' ⟨rv,bs',A',rfl,hrok',hv,hstep,htk,hstay,hup⟩
 obtain ⟨d,rfl⟩:∃d,bs'=[c2,c1,d]:=by
  have hl3:bs'.length=3:=hrok'.len
  match bs',hl3,htk with
  |[x,y,z],_,htk=>simp at htk;exact ⟨z,by rw [htk.1,htk.2]⟩
 have hnd':=hrok'.nodup
 refine ⟨rv,[d,c1,c2],A',rfl,⟨rfl,by simp at hnd' ⊢;omega,fun b hb=>hrok'.lt b (by simp at hb ⊢;omega),hrok'.old,fun i b r hb hr=>?_,fun t=>?_,hs.size,hs.dfs⟩,hv,⟨hstep.os,hstep.tape,hstep.output,hstep.size,fun k hk hn=>hstep.block k hk (by simp at hn ⊢;omega),fun b hb=>?_,fun b hb=>?_⟩,rfl,fun b hb=>by simp at hb,hup⟩
 .match i,hb,hr with
  |0,hb,hr=>cases hb;cases hr;exact hrok'.row 2 d _ rfl rfl
  |1,hb,hr=>
   cases hb;cases hr
   obtain ⟨hA,cv,hc,b,e,t,zs,cur,k1,k2,k3,k4⟩:=hrok'.row 1 c1 _ rfl rfl
   exact ⟨hA,cv,hc,b,e,t,zs,cur,k1,k2,k3,k4⟩
  |2,hb,hr=>cases hb;cases hr;exact hrok'.row 0 c2 _ rfl rfl
  |i+3,hb,_=>cases hb
 .show V _ _ _ _ (look [(u,.ptr 1 0)] t) _
  rw [look_cons]
  by_cases e:u=t
  .subst e
   rw [if_pos rfl]
   have h1:=hs.env u
   rw [hu] at h1
   obtain ⟨b,r,q1,q2,q3,q4⟩:=h1
   cases q1
   exact ⟨c1,_,rfl,rfl,Nat.one_pos,q4⟩
  .rw [if_neg e];trivial
 .have:=hstep.sbs b (by simp at hb ⊢;omega)
  rcases this with h1|h1
  .left;simp at h1 ⊢;omega
  .exact .inr h1
 .rcases hstep.sA b hb with h1|h1|h1
  .exact .inl h1
  .exact .inr (.inl h1)
  .right;right;simp at h1 ⊢;omega
end Go.Proofs.YtacjiemkbhhhoaaGreatDoor.Ow
namespace Go.Proofs.YtacjiemkbhhhoaaGreatDoor
open Go Go.Proofs.YtacjiemkbhhhoaaGreatDoor.Ow
abbrev WL:=List Int × List (List Int)
def itJ (st:Nat->WL->WL) (s:WL):Nat->WL
 |0=>s
 |j+1=>st j (itJ st s j)
def stpG (g:List Int->Nat->Nat->List (List Int)->WL) (a p l:Nat) (j:Nat) (s:WL):WL:=
 g (s.1.set a ((l+j:Nat):Int)) (a+1) (if a=0 then 1 else if j=0 then p else a+1) s.2
def lstN (w:List Int) (a p:Nat):Nat:=if a=0 then 0 else (w.getD (a-p) 0).toNat
def growL (k:Nat):Nat->List Int->Nat->Nat->List (List Int)->WL
 |0,w,a,p,out=>(w,if w.length % p=0 then out++[w] else out)
 |f+1,w,a,p,out=>itJ (stpG (growL k f) a p (lstN w a p)) (w,out) (k-lstN w a p)
structure GI (k f:Nat) (w:List Int) (a p:Nat):Prop where
 len:a+f=w.length
 el:∀i,i<w.length->0<=w.getD i 0/\w.getD i 0<k
 p1:1<=p
 pa:a=0\/p<=a
theorem lstN_lt {k f a p:Nat} {w:List Int} (hk:1<=k) (h:GI k (f+1) w a p):lstN w a p<k:=by
 have h1:=h.len
 unfold lstN
 split
 .omega
 .have:=h.el (a-p) (by omega);omega
theorem nx_ok {a p j:Nat} (h1:1<=p) (h2:a=0\/p<=a):1<=(if a=0 then 1 else if j=0 then p else a+1)/\(if a=0 then 1 else if j=0 then p else a+1)<=a+1:=by
 split
 .omega
 .split<;>omega
theorem GI.step {k f a p:Nat} {w w2:List Int} {x:Nat} (h:GI k (f+1) w a p) (hl:w2.length=w.length) (he:∀i,i<w2.length->0<=w2.getD i 0/\w2.getD i 0<k) (hx:x<k) (j:Nat):
 GI k f (w2.set a (x:Int)) (a+1) (if a=0 then 1 else if j=0 then p else a+1):=by
 have h1:=h.len
 have h2:=nx_ok (j:=j) h.p1 h.pa
 refine ⟨by rw [List.length_set];omega,fun i hi=>?_,h2.1,.inr h2.2⟩
 rw [List.length_set] at hi
 by_cases e:a=i
 .subst e;rw [L_set_self _ _ _ _ hi];omega
 .rw [L_set_ne _ _ _ _ _ e];exact he i hi
theorem growL_ok {k:Nat} (hk:1<=k):∀(f:Nat) (w:List Int) (a p:Nat) (out:List (List Int)),GI k f w a p->
 ((growL k f w a p out).1.length=w.length/\∀i,i<w.length->0<=(growL k f w a p out).1.getD i 0/\(growL k f w a p out).1.getD i 0<k)/\(growL k f w a p out).2.length<=out.length+k ^ f
 |0,w,a,p,out,h=>by
  rw [growL]
  refine ⟨⟨rfl,h.el⟩,?_⟩
  dsimp only
  split<;>simp
 |f+1,w,a,p,out,h=>by
  have ih:=growL_ok hk f
  have hl:=lstN_lt hk h
  have key:∀j,j<=k-lstN w a p->((itJ (stpG (growL k f) a p (lstN w a p)) (w,out) j).1.length=w.length/\∀i,i<w.length->0<=(itJ (stpG (growL k f) a p (lstN w a p)) (w,out) j).1.getD i 0/\(itJ (stpG (growL k f) a p (lstN w a p)) (w,out) j).1.getD i 0<k)/\
   (itJ (stpG (growL k f) a p (lstN w a p)) (w,out) j).2.length<=out.length+j*k ^ f:=fun j=>by
   induction j with
   |zero=>intro _;exact ⟨⟨rfl,h.el⟩,by simp [itJ]⟩
   |succ j ihj=>
    intro hj
    obtain ⟨⟨a1,a2⟩,a3⟩:=ihj (by omega)
    rw [itJ]
    generalize itJ (stpG (growL k f) a p (lstN w a p)) (w,out) j=s at*
    have hG:=h.step a1 (fun i hi=>a2 i (by omega)) (show lstN w a p+j<k by omega) j
    obtain ⟨⟨b1,b2⟩,b3⟩:=ih _ _ _ s.2 hG
    rw [List.length_set] at b1 b2
    refine ⟨⟨by rw [stpG,b1,a1],fun i hi=>b2 i (by omega)⟩,?_⟩
    rw [stpG,Nat.succ_mul]
    omega
  obtain ⟨h1,h2⟩:=key (k-lstN w a p) (Nat.le_refl _)
  rw [growL]
  refine ⟨h1,Nat.le_trans h2 (Nat.add_le_add_left ?_ _)⟩
  rw [Nat.pow_succ,Nat.mul_comm]
  exact Nat.mul_le_mul_left _ (by omega)
theorem impl_necklaces_1 (e0 eb:TypeId) (w:List Int) (out:List (List Int)) (hw:w≠[]) (hl:w.length<=10) (ho:out.length<=1048576):
 BC Tryz.prog 2 276 [.ow 0,.ptr 1 0] [.sl e0 .int w,.box eb (.ow 2),.sl 29 (.sl .int) out] (.d true .bool true) [.sl e0 .int w,.box eb (.ow 2),.sl 29 (.sl .int) (out++[w])]:=by
 refine BC_of tauOk 9 2 3 Tryz.func276 rfl (by kernel_rfl) rfl rfl rfl rfl ?_
 refine ⟨some 3000,.take 1 (.two 0 (.one 2 (.one 3 (.one 4 (.one 5 .done)))) 2 (.two 0 (.one 3 (.one 4 (.one 5 .done))) 3 (.one 0 (.one 4 (.one 5 .done))))),by kernel_rfl,?_⟩
 have hn:out.length+[w].length<=1099511627776:=by simp only [List.length_cons,List.length_nil];omega
 exact ⟨⟨rfl,[],true,_,_,slices_Clone_int false w (by omega) hw,nd0,rfl,rfl,trivial,rfl,by decide,false,rfl,Nat.le_refl _,rfl,hn,rfl,rfl⟩,
  ⟨[],true,_,_,slices_Clone_int false w (by omega) hw,nd0,rfl,rfl,trivial,⟨rfl,rfl,by decide,false,rfl,Nat.le_refl _,rfl,hn,rfl,rfl⟩,⟨rfl,by decide,false,rfl,rfl,Nat.le_refl _,rfl,hn,rfl,rfl⟩⟩⟩
theorem impl_grow_all (e0 eb:TypeId) (k:Nat) (hk:1<=k) (hk4:k<=4):∀(f:Nat) (w:List Int) (a p:Nat) (out:List (List Int)),GI k f w a p->w≠[]->w.length<=10->out.length+k ^ f<=1048576->
 BC Tryz.prog 2 275 [.ow 0,I (a:Nat),I (p:Nat),I (k:Nat),.nil,.d true .bool true,.fn 276 [.ptr 1 0]] [.sl e0 .int w,.box eb (.ow 2),.sl 29 (.sl .int) out] (.d true .bool true)
  [.sl e0 .int (growL k f w a p out).1,.box eb (.ow 2),.sl 29 (.sl .int) (growL k f w a p out).2]
 |0,w,a,p,out,hG,hw,hl,ho=>by
  have h1:=hG.len
  have h2:=hG.p1
  refine BC_of tauOk 91 2 14 Tryz.func275 rfl (by kernel_rfl) rfl rfl rfl rfl ?_
  refine ⟨fun _=>?_,fun h=>by omega⟩
  refine ⟨by omega,((w.length % p:Nat):Int),Int.ofNat_tmod w.length p,?_⟩
  refine ⟨fun h3=>?_,fun h3=>?_⟩
  .have e:growL k 0 w a p out=(w,out):=by rw [growL,if_neg (by omega)]
   rw [e]
   exact ⟨rfl,rfl⟩
  .have e:growL k 0 w a p out=(w,out++[w]):=by rw [growL,if_pos (by omega)]
   rw [e]
   refine ⟨[1000000],false,[],[],_,_,XC_of3 rfl (impl_necklaces_1 e0 eb w out hw hl (by omega)),?_⟩
   exact ⟨rfl,rfl⟩
 |f+1,w,a,p,out,hG,hw,hl,ho=>by
  have ih:=impl_grow_all e0 eb k hk hk4 f
  have h1:=hG.len
  have h2:=hG.p1
  have h3:=hG.pa
  have hL:=lstN_lt hk hG
  have hp0:1<=k ^ f:=Nat.pos_of_ne_zero (by intro e;rw [Nat.pow_eq_zero] at e;omega)
  have hB:∀j,j<=k-lstN w a p->((itJ (stpG (growL k f) a p (lstN w a p)) (w,out) j).1.length=w.length/\∀i,i<w.length->0<=(itJ (stpG (growL k f) a p (lstN w a p)) (w,out) j).1.getD i 0/\(itJ (stpG (growL k f) a p (lstN w a p)) (w,out) j).1.getD i 0<k)/\
   (itJ (stpG (growL k f) a p (lstN w a p)) (w,out) j).2.length<=out.length+j*k ^ f:=fun j=>by
   induction j with
   |zero=>intro _;exact ⟨⟨rfl,hG.el⟩,by simp [itJ]⟩
   |succ j ihj=>
    intro hj
    obtain ⟨⟨a1,a2⟩,a3⟩:=ihj (by omega)
    rw [itJ]
    generalize itJ (stpG (growL k f) a p (lstN w a p)) (w,out) j=s at*
    have hG:=hG.step a1 (fun i hi=>a2 i (by omega)) (show lstN w a p+j<k by omega) j
    obtain ⟨⟨b1,b2⟩,b3⟩:=growL_ok hk f _ _ _ s.2 hG
    rw [List.length_set] at b1 b2
    refine ⟨⟨by rw [stpG,b1,a1],fun i hi=>b2 i (by omega)⟩,?_⟩
    rw [stpG,Nat.succ_mul]
    omega
  have hend:growL k (f+1) w a p out=itJ (stpG (growL k f) a p (lstN w a p)) (w,out) (k-lstN w a p):=rfl
  have hstep:∀j,itJ (stpG (growL k f) a p (lstN w a p)) (w,out) (j+1)=stpG (growL k f) a p (lstN w a p) j (itJ (stpG (growL k f) a p (lstN w a p)) (w,out) j):=fun j=>rfl
  have h0:itJ (stpG (growL k f) a p (lstN w a p)) (w,out) 0=(w,out):=rfl
  have hLv1:a≠0->w.getD (a-p) 0=((lstN w a p:Nat):Int):=fun h=>by
   have:=hG.el (a-p) (by omega)
   rw [lstN,if_neg h];omega
  have hLv0:a=0->(0:Int)=((lstN w a p:Nat):Int):=fun h=>by rw [lstN,if_pos h];rfl
  have hpow:(k-lstN w a p)*k ^ f<=k ^ (f+1):=by
   rw [Nat.pow_succ,Nat.mul_comm];exact Nat.mul_le_mul_left _ (by omega)
  generalize lstN w a p=L at*
  rw [hend]
  generalize itJ (stpG (growL k f) a p L) (w,out)=S at*
  refine BC_of tauOk 91 2 14 Tryz.func275 rfl (by kernel_rfl) rfl rfl rfl rfl ?_
  refine ⟨fun h=>by omega,fun _=>?_⟩
  refine ⟨fun h4=>?_,fun h4=>?_⟩
  .refine ⟨((a-p:Nat):Int),w64_eq (by omega) (by omega) (by omega),a-p,rfl,by omega,?_⟩
   have hLv:=hLv1 (by omega)
   refine ⟨Nat,fun j=>⟨[(0,.ow 0),(1,I (a:Nat)),(2,I (p:Nat)),(3,I (k:Nat)),(4,.nil),(5,.d true .bool true),(6,.fn 276 [.ptr 1 0]),(16,I (L:Nat)),(17,I ((L+j:Nat):Int))],[.sl e0 .int (S j).1,.box eb (.ow 2),.sl 29 (.sl .int) (S j).2]⟩,fun j=>j<=k-L,fun j=>k-L-j,0,Nat.zero_le _,
    ⟨⟨rfl,rfl⟩,⟨rfl,rfl,rfl,rfl,rfl,rfl,rfl,retI hLv,retI hLv,trivial⟩,rowE (by rw [h0]),rfl,rowE (by rw [h0]),trivial⟩,fun j hj=>?_⟩
   dsimp only at hj
   obtain ⟨⟨s1,s2⟩,s3⟩:=hB j hj
   refine ⟨fun h5=>?_,fun h5=>?_⟩
   .have hj2:j<k-L:=by omega
    have hG2:=hG.step s1 (fun i hi=>s2 i (by omega)) (show L+j<k by omega) j
    have hm:(j+1)*k ^ f<=(k-L)*k ^ f:=Nat.mul_le_mul_right _ (by omega)
    rw [Nat.succ_mul] at hm
    have hne:(S j).1.set a ((L+j:Nat):Int)≠[]:=by
     intro e;have:=congrArg List.length e;rw [List.length_set,s1] at this;exact hw (List.length_eq_zero_iff.1 this)
    have hl2:((S j).1.set a ((L+j:Nat):Int)).length<=10:=by rw [List.length_set];omega
    have hst:=hstep j
    have hlen:=(growL_ok hk f _ _ _ (S j).2 hG2).1.1
    have hc:=ih _ _ _ (S j).2 hG2 hne hl2 (by omega)
    rw [stpG] at hst
    refine ⟨a,rfl,by omega,?_⟩
    refine ⟨fun h6=>?_,fun h6=>?_⟩
    .rw [if_pos (by omega)] at hc hst hlen
     refine ⟨((a+1:Nat):Int),w64_eq (by omega) (by omega) (by omega),?_⟩
     refine ⟨[1000000],false,[],[],_,_,XC_of3 hlen hc,?_⟩
     exact ⟨((L+(j+1):Nat):Int),w64_eq (by omega) (by omega) (by omega),j+1,by dsimp only;omega,by dsimp only;omega,⟨rfl,rfl⟩,⟨rfl,rfl,rfl,rfl,rfl,rfl,rfl,rfl,rfl,trivial⟩,rowE (by rw [hst]),rfl,rowE (by rw [hst]),trivial⟩
    .rw [if_neg (by omega)] at hc hst hlen
     refine ⟨fun h7=>?_,fun h7=>?_⟩
     .rw [if_neg (by omega)] at hc hst hlen
      refine ⟨((a+1:Nat):Int),w64_eq (by omega) (by omega) (by omega),?_⟩
      refine ⟨((a+1:Nat):Int),w64_eq (by omega) (by omega) (by omega),?_⟩
      refine ⟨[1000000],false,[],[],_,_,XC_of3 hlen hc,?_⟩
      exact ⟨((L+(j+1):Nat):Int),w64_eq (by omega) (by omega) (by omega),j+1,by dsimp only;omega,by dsimp only;omega,⟨rfl,rfl⟩,⟨rfl,rfl,rfl,rfl,rfl,rfl,rfl,rfl,rfl,trivial⟩,rowE (by rw [hst]),rfl,rowE (by rw [hst]),trivial⟩
     .rw [if_pos (by omega)] at hc hst hlen
      refine ⟨((a+1:Nat):Int),w64_eq (by omega) (by omega) (by omega),?_⟩
      refine ⟨[1000000],false,[],[],_,_,XC_of3 hlen hc,?_⟩
      exact ⟨((L+(j+1):Nat):Int),w64_eq (by omega) (by omega) (by omega),j+1,by dsimp only;omega,by dsimp only;omega,⟨rfl,rfl⟩,⟨rfl,rfl,rfl,rfl,rfl,rfl,rfl,rfl,rfl,trivial⟩,rowE (by rw [hst]),rfl,rowE (by rw [hst]),trivial⟩
   .obtain rfl:j=k-L:=by omega
    exact ⟨rfl,rfl⟩
  .have hLv:=hLv0 (by omega)
   refine ⟨Nat,fun j=>⟨[(0,.ow 0),(1,I (a:Nat)),(2,I (p:Nat)),(3,I (k:Nat)),(4,.nil),(5,.d true .bool true),(6,.fn 276 [.ptr 1 0]),(16,I (L:Nat)),(17,I ((L+j:Nat):Int))],[.sl e0 .int (S j).1,.box eb (.ow 2),.sl 29 (.sl .int) (S j).2]⟩,fun j=>j<=k-L,fun j=>k-L-j,0,Nat.zero_le _,
    ⟨⟨rfl,rfl⟩,⟨rfl,rfl,rfl,rfl,rfl,rfl,rfl,retI hLv,retI hLv,trivial⟩,rowE (by rw [h0]),rfl,rowE (by rw [h0]),trivial⟩,fun j hj=>?_⟩
   dsimp only at hj
   obtain ⟨⟨s1,s2⟩,s3⟩:=hB j hj
   refine ⟨fun h5=>?_,fun h5=>?_⟩
   .have hj2:j<k-L:=by omega
    have hG2:=hG.step s1 (fun i hi=>s2 i (by omega)) (show L+j<k by omega) j
    have hm:(j+1)*k ^ f<=(k-L)*k ^ f:=Nat.mul_le_mul_right _ (by omega)
    rw [Nat.succ_mul] at hm
    have hne:(S j).1.set a ((L+j:Nat):Int)≠[]:=by
     intro e;have:=congrArg List.length e;rw [List.length_set,s1] at this;exact hw (List.length_eq_zero_iff.1 this)
    have hl2:((S j).1.set a ((L+j:Nat):Int)).length<=10:=by rw [List.length_set];omega
    have hst:=hstep j
    have hlen:=(growL_ok hk f _ _ _ (S j).2 hG2).1.1
    have hc:=ih _ _ _ (S j).2 hG2 hne hl2 (by omega)
    rw [stpG] at hst
    refine ⟨a,rfl,by omega,?_⟩
    refine ⟨fun h6=>?_,fun h6=>?_⟩
    .rw [if_pos (by omega)] at hc hst hlen
     refine ⟨((a+1:Nat):Int),w64_eq (by omega) (by omega) (by omega),?_⟩
     refine ⟨[1000000],false,[],[],_,_,XC_of3 hlen hc,?_⟩
     exact ⟨((L+(j+1):Nat):Int),w64_eq (by omega) (by omega) (by omega),j+1,by dsimp only;omega,by dsimp only;omega,⟨rfl,rfl⟩,⟨rfl,rfl,rfl,rfl,rfl,rfl,rfl,rfl,rfl,trivial⟩,rowE (by rw [hst]),rfl,rowE (by rw [hst]),trivial⟩
    .rw [if_neg (by omega)] at hc hst hlen
     refine ⟨fun h7=>?_,fun h7=>?_⟩
     .rw [if_neg (by omega)] at hc hst hlen
      refine ⟨((a+1:Nat):Int),w64_eq (by omega) (by omega) (by omega),?_⟩
      refine ⟨((a+1:Nat):Int),w64_eq (by omega) (by omega) (by omega),?_⟩
      refine ⟨[1000000],false,[],[],_,_,XC_of3 hlen hc,?_⟩
      exact ⟨((L+(j+1):Nat):Int),w64_eq (by omega) (by omega) (by omega),j+1,by dsimp only;omega,by dsimp only;omega,⟨rfl,rfl⟩,⟨rfl,rfl,rfl,rfl,rfl,rfl,rfl,rfl,rfl,trivial⟩,rowE (by rw [hst]),rfl,rowE (by rw [hst]),trivial⟩
     .rw [if_pos (by omega)] at hc hst hlen
      refine ⟨((a+1:Nat):Int),w64_eq (by omega) (by omega) (by omega),?_⟩
      refine ⟨[1000000],false,[],[],_,_,XC_of3 hlen hc,?_⟩
      exact ⟨((L+(j+1):Nat):Int),w64_eq (by omega) (by omega) (by omega),j+1,by dsimp only;omega,by dsimp only;omega,⟨rfl,rfl⟩,⟨rfl,rfl,rfl,rfl,rfl,rfl,rfl,rfl,rfl,trivial⟩,rowE (by rw [hst]),rfl,rowE (by rw [hst]),trivial⟩
   .obtain rfl:j=k-L:=by omega
    exact ⟨rfl,rfl⟩
def neckL (n k:Nat):List (List Int):=(growL k n (List.replicate n 0) 0 1 []).2
theorem GI0 (n k:Nat) (hk:1<=k):GI k n (List.replicate n 0) 0 1:=
 ⟨by simp,fun i hi=>by rw [List.length_replicate] at hi;rw [getD_get _ _ _ (by simpa using hi),List.getElem_replicate];omega,Nat.le_refl _,.inl rfl⟩
theorem neckL_len (n k:Nat) (hk:1<=k):(neckL n k).length<=k ^ n:=by
 have:=(growL_ok hk n _ _ _ [] (GI0 n k hk)).2
 simpa [neckL] using this
theorem impl_necklaces (n k:Nat) (hk:1<=k) (hk4:k<=4) (h1:1<=n) (hn:n<=10):AC Tryz.prog 184 [I (n:Nat),I (k:Nat)] [] [.ow 0] [.sl 29 (.sl .int) (neckL n k)]:=by
 have hp:k ^ n<=1048576:=pow_le hk4 hn (Nat.le_refl 10)
 have hg:=impl_grow_all 3 32 k hk hk4 n (List.replicate n 0) 0 1 [] (GI0 n k hk) (by intro e;have:=congrArg List.length e;simp at this;omega) (by simp;omega) (by simp;omega)
 refine AC_of tauOk 13 0 [4] Tryz.func184 rfl (by kernel_rfl) rfl rfl rfl rfl rfl ?_
 refine ⟨rfl,by decide,true,?_⟩
 refine ⟨n,n,rfl,rfl,Nat.le_refl _,by omega,?_⟩
 refine ⟨rfl,[1000000],false,[],[],_,_,XC_of3r (u:=5) rfl hg,?_⟩
 refine ⟨rfl,?_⟩
 exact ⟨some 0,⟨⟨rfl,rfl⟩,trivial⟩,⟨rfl,rfl⟩,rfl⟩
def lenN (n:Int):Bool:=decide (1<=n) && decide (n<=10)
def nckB (n k i:Int):Bool:=lenN n && (smallB n.toNat k && (decide (0<=i) && decide (i<((neckL n.toNat k.toNat).length:Int))))
theorem impl_NecklaceAt (n k i:Int) (r:List AV) (hno:nckB n k i=false->r=[.nil,.d true .bool false])
 (hyes:nckB n k i=true->r=[.d true (.sl .int) ((neckL n.toNat k.toNat).getD i.toNat []),.d true .bool true]):AC Tryz.prog 87 [I n,I k,I i] [] r []:=by
 refine AC_of tauOk 33 0 [6,7] Tryz.func87 rfl (by kernel_rfl) rfl rfl rfl rfl rfl ?_
 refine ⟨[],false,_,_,impl_isLength n,nd0,rfl,rfl,trivial,fun h1=>?_,fun h1=>?_⟩
 .have h1':=h1
  simp only [Bool.and_eq_true,decide_eq_true_eq] at h1'
  obtain ⟨N,rfl⟩:∃N:Nat,n=(N:Int):=⟨n.toNat,by omega⟩
  refine ⟨[],false,_,_,impl_isSmall N k (by omega),nd0,rfl,rfl,trivial,fun h2=>?_,fun h2=>?_⟩
  .have h2':=h2
   unfold smallB at h2'
   simp only [Bool.and_eq_true,decide_eq_true_eq] at h2'
   obtain ⟨K,rfl⟩:∃K:Nat,k=(K:Int):=⟨k.toNat,by omega⟩
   have hlen:=neckL_len N K (by omega)
   rw [Int.toNat_natCast] at h2'
   refine ⟨[],true,_,_,impl_necklaces N K (by omega) (by omega) (by omega) (by omega),nd0,rfl,rfl,trivial,?_⟩
   have hB:nckB (N:Int) (K:Int) i=(decide (0<=i) && decide (i<((neckL N K).length:Int))):=by
    rw [nckB,lenN,h1,Int.toNat_natCast,Int.toNat_natCast,h2];rfl
   refine ⟨fun h3=>?_,fun h3=>?_⟩
   .obtain rfl:=hno (by rw [hB,decide_eq_false (by omega)];rfl)
    exact ⟨none,⟨rfl,rfl,trivial⟩,rfl,rfl⟩
   .refine ⟨fun h4=>?_,fun h4=>?_⟩
    .obtain rfl:=hno (by rw [hB,decide_eq_false (show ¬i<((neckL N K).length:Int) by omega),Bool.and_false])
     exact ⟨none,⟨rfl,rfl,trivial⟩,rfl,rfl⟩
    .obtain rfl:=hyes (by rw [hB,decide_eq_true (show 0<=i by omega),decide_eq_true (show i<((neckL N K).length:Int) by omega)];rfl)
     have hi1:0<=i:=by omega
     have hi2:i<((neckL N K).length:Int):=by omega
     refine ⟨i.toNat,(Int.toNat_of_nonneg hi1).symm,(by omega:i.toNat<(neckL N K).length),?_⟩
     exact ⟨none,⟨by rw [Int.toNat_natCast,Int.toNat_natCast];rfl,rfl,trivial⟩,rfl,rfl⟩
  .obtain rfl:=hno (by rw [nckB,Int.toNat_natCast,h2];simp)
   exact ⟨none,⟨rfl,rfl,trivial⟩,rfl,rfl⟩
 .obtain rfl:=hno (by rw [nckB,lenN,h1];rfl)
  exact ⟨none,⟨rfl,rfl,trivial⟩,rfl,rfl⟩
def lynB (w:List Int):Bool:=decide (least w=w/\perW w=w.length)
def subW (w:List Int) (a j:Nat):List Int:=List.drop a (List.take (a+j) w)
def lyfE (w:List Int) (a:Nat):Nat->Nat
 |0=>0
 |j+1=>if lynB (subW w a (j+1))=true then j+1 else lyfE w a j
def lyfF (w:List Int):Nat->Nat->List (List Int)->List (List Int)
 |0,_,out=>out
 |f+1,a,out=>if a<w.length then lyfF w f (a+lyfE w a (w.length-a)) (out++[subW w a (lyfE w a (w.length-a))]) else out
def lyfL (w:List Int):List (List Int):=lyfF w w.length 0 []
theorem lyn_one:∀x:Nat,x<4->lynB [(x:Int)]=true:=by decide+kernel
theorem subW_len (w:List Int) (a j:Nat) (h:a+j<=w.length):(subW w a j).length=j:=by
 simp [subW];omega
theorem subW_get (w:List Int) (a j i:Nat) (h:a+j<=w.length) (hi:i<j):(subW w a j).getD i 0=w.getD (a+i) 0:=by
 rw [getD_get _ _ _ (by rw [subW_len w a j h];exact hi),getD_get _ _ _ (by omega)]
 simp [subW]
theorem subW_col {w:List Int} (hw:ColP w) (a j:Nat) (h:a+j<=w.length) (h1:1<=j):ColP (subW w a j):=by
 have hl:=subW_len w a j h
 have h2:=hw.2
 have h3:=hw.1
 refine ⟨fun i hi=>?_,by omega⟩
 rw [subW_get w a j i h (by omega)]
 exact h3 (a+i) (by omega)
theorem lyfE_ok {w:List Int} (hw:ColP w) (a:Nat):∀j,a+j<=w.length->1<=j->1<=lyfE w a j/\lyfE w a j<=j
 |0,_,h=>by omega
 |j+1,hj,_=>by
  rw [lyfE]
  split
  .omega
  .rename_i hn
   by_cases h0:j=0
   .subst h0
    have h3:=hw.1 a (by omega)
    have e:subW w a (0+1)=[((w.getD a 0).toNat:Int)]:=by
     have hl:=subW_len w a (0+1) hj
     have hg:=subW_get w a (0+1) 0 hj (by omega)
     match hs:subW w a (0+1),hl with
     |[x],_=>rw [hs] at hg;simp at hg;rw [hg];congr 1;simp at h3 ⊢;omega
    rw [e] at hn
    exact (hn (lyn_one _ (by omega))).elim
   .have:=lyfE_ok hw a j (by omega) (by omega);omega
theorem impl_LyndonFactors (sh:Bool) (w:List Int) (hw:ColP w):AC Tryz.prog 78 [.d sh (.sl .int) w] [] [.ow 0,.d true .bool true] [.sl 29 (.sl .int) (lyfL w)]:=by
 have hl:=hw.2
 have hC:=impl_ColoringOk sh w (by omega)
 rw [(colB_iff w).2 hw] at hC
 refine AC_of tauOk 35 0 [2,3] Tryz.func78 rfl (by kernel_rfl) rfl rfl rfl rfl rfl ?_
 refine ⟨[],false,_,_,hC,nd0,rfl,rfl,trivial,fun _=>?_,nofun⟩
 refine ⟨rfl,by decide,true,?_⟩
 refine ⟨Nat × Nat × List (List Int),fun i=>⟨[(0,.d sh (.sl .int) w),(4,.ow 0),(5,I (i.2.1:Nat))],[.sl 29 (.sl .int) i.2.2]⟩,fun i=>lyfF w i.1 i.2.1 i.2.2=lyfL w/\w.length<=i.2.1+i.1/\i.2.1<=w.length/\i.2.2.length<=i.2.1,fun i=>i.1,(w.length,0,[]),⟨rfl,by dsimp only;omega,Nat.zero_le _,Nat.le_refl _⟩,
  ⟨⟨rfl,rfl⟩,⟨rfl,rfl,rfl,trivial⟩,rfl,trivial⟩,?_⟩
 rintro ⟨f,a,out⟩ ⟨hF,hfl,ha,ho⟩
 dsimp only at hF hfl ha ho
 refine ⟨fun h1=>?_,fun h1=>?_⟩
 .dsimp only at h1
  have ha2:a<w.length:=by omega
  obtain ⟨f',rfl⟩:∃f',f=f'+1:=⟨f-1,by omega⟩
  rw [lyfF,if_pos ha2] at hF
  obtain ⟨he1,he2⟩:=lyfE_ok hw a (w.length-a) (by omega) (by omega)
  refine ⟨Nat,fun j=>⟨[(0,.d sh (.sl .int) w),(4,.ow 0),(5,I (a:Nat)),(6,I ((a+j:Nat):Int))],[.sl 29 (.sl .int) out]⟩,fun j=>lyfE w a j=lyfE w a (w.length-a)/\1<=j/\a+j<=w.length,fun j=>j,w.length-a,⟨rfl,by omega,by omega⟩,
   ⟨⟨rfl,rfl⟩,⟨rfl,rfl,rfl,retI (by omega),trivial⟩,rfl,trivial⟩,?_⟩
  rintro j ⟨hj,hj1,hj2⟩
  obtain ⟨j',rfl⟩:∃j',j=j'+1:=⟨j-1,by omega⟩
  have hsl:=subW_len w a (j'+1) hj2
  rw [lyfE] at hj
  refine ⟨a,rfl,a+(j'+1),rfl,by omega,hj2,?_⟩
  refine ⟨[],false,_,_,impl_IsLyndon sh (subW w a (j'+1)) (subW_col hw a (j'+1) hj2 (by omega)),nd0,rfl,rfl,trivial,fun h2=>?_,fun h2=>?_⟩
  .rw [if_pos (show lynB (subW w a (j'+1))=true from h2)] at hj
   rw [<-hj] at hF
   have hne:subW w a (j'+1)≠[]:=by intro e;rw [e] at hsl;simp at hsl
   refine ⟨a,rfl,a+(j'+1),rfl,by omega,hj2,?_⟩
   refine ⟨[],false,_,_,slices_Clone_int sh (subW w a (j'+1)) (by omega) hne,nd0,rfl,rfl,trivial,?_⟩
   refine ⟨rfl,rfl,by decide,false,?_⟩
   refine ⟨rfl,Nat.zero_le _,rfl,by simp only [List.length_cons,List.length_nil];omega,rfl,?_⟩
   exact ⟨(f',a+(j'+1),out++[subW w a (j'+1)]),⟨hF,by dsimp only;omega,by dsimp only;omega,by simp;omega⟩,by dsimp only;omega,⟨rfl,rfl⟩,⟨rfl,rfl,rfl,trivial⟩,rfl,trivial⟩
  .rw [if_neg (show ¬lynB (subW w a (j'+1))=true by unfold lynB;rw [h2];decide)] at hj
   have hj0:1<=j':=by
    by_cases h0:j'=0
    .subst h0;rw [lyfE] at hj;omega
    .omega
   exact ⟨((a+j':Nat):Int),w64_eq (by omega) (by omega) (by omega),j',⟨hj,hj0,by omega⟩,by dsimp only;omega,⟨rfl,rfl⟩,⟨rfl,rfl,rfl,rfl,trivial⟩,rfl,trivial⟩
 .dsimp only at h1
  have e:lyfF w f a out=out:=by
   cases f with
   |zero=>rfl
   |succ f=>rw [lyfF,if_neg (by omega)]
  exact ⟨some 0,⟨⟨rfl,rfl⟩,rfl,trivial⟩,⟨rfl,rowsE (by rw [<-hF,e])⟩,rfl⟩
def delS (p:List Int->Bool) (xss:List (List Int)) (i0:Nat):Nat->List (List Int) × Nat
 |0=>(xss,i0)
 |k+1=>if p ((delS p xss i0 k).1.getD (i0+1+k) [])=true then delS p xss i0 k else ((delS p xss i0 k).1.set (delS p xss i0 k).2 ((delS p xss i0 k).1.getD (i0+1+k) []),(delS p xss i0 k).2+1)
theorem delS_len (p:List Int->Bool) (xss:List (List Int)) (i0:Nat):∀k,(delS p xss i0 k).1.length=xss.length/\(delS p xss i0 k).2<=i0+k
 |0=>⟨rfl,Nat.le_refl _⟩
 |k+1=>by
  have:=delS_len p xss i0 k
  rw [delS]
  split
  .exact ⟨this.1,by omega⟩
  .exact ⟨by rw [List.length_set];exact this.1,by dsimp only;omega⟩
theorem delS_rest (p:List Int->Bool) (xss:List (List Int)) (i0:Nat):∀k t,i0+1+k<=t->(delS p xss i0 k).1.getD t []=xss.getD t []
 |0,t,_=>rfl
 |k+1,t,h=>by
  have h1:=(delS_len p xss i0 k).2
  rw [delS]
  split
  .exact delS_rest p xss i0 k t (by omega)
  .dsimp only
   rw [L_set_ne _ _ _ _ _ (by omega)]
   exact delS_rest p xss i0 k t (by omega)
def delR (p:List Int->Bool) (xss:List (List Int)) (i0:Nat):List (List Int):=
 let s:=delS p xss i0 (xss.length-(i0+1))
 List.take s.2 s.1++List.replicate (s.1.length-s.2) []++List.drop s.1.length s.1
theorem delR_len (p:List Int->Bool) (xss:List (List Int)) (i0:Nat) (h:i0<xss.length):(delR p xss i0).length=xss.length:=by
 have:=delS_len p xss i0 (xss.length-(i0+1))
 unfold delR
 simp;omega
theorem idxL_cases (p:List Int->Bool) (xss:List (List Int)):(idxL p xss= -1/\∀j,j<xss.length->p (xss.getD j [])=false)\/∃i:Nat,idxL p xss=(i:Int)/\i<xss.length/\p (xss.getD i [])=true/\∀j,j<i->p (xss.getD j [])=false:=by
 unfold idxL
 cases h:xss.findIdx? p with
 |none=>
  rw [List.findIdx?_eq_none_iff] at h
  exact .inl ⟨rfl,fun j hj=>by rw [getD_get _ _ _ hj];exact h _ (List.getElem_mem hj)⟩
 |some i=>
  rw [List.findIdx?_eq_some_iff_getElem] at h
  obtain ⟨hi,hp,h3⟩:=h
  exact .inr ⟨i,rfl,hi,by rw [getD_get _ _ _ hi];exact hp,fun j hj=>by have:=h3 j hj;rw [getD_get _ _ _ (by omega)];simpa using this⟩
end Go.Proofs.YtacjiemkbhhhoaaGreatDoor
