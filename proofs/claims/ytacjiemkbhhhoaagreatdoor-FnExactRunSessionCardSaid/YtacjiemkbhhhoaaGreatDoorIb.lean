/-
  Part 2 of the texts that the claim rests on: Ow.
  No condition beyond the given program.
-/
import Derived.Test.YtacjiemkbhhhoaaGreatDoorIa
set_option linter.unusedVariables false
set_option linter.unusedSimpArgs false
namespace Go.Proofs.YtacjiemkbhhhoaaGreatDoor.Ow
open Go Go.RowKit
theorem exList {α:Type} (n:Nat) (p:Nat->α->Prop) (h:∀j,j<n->∃x,p j x):∃l:List α,l.length=n/\∀j (hj:j<l.length),p j l[j]:=by
 induction n with
 |zero=>exact ⟨[],rfl,fun j hj=>by simp at hj⟩
 |succ n ih=>
  obtain ⟨l,hl,hp⟩:=ih (fun j hj=>h j (by omega))
  obtain ⟨x,hx⟩:=h n (by omega)
  refine ⟨l++[x],by simp [hl],fun j hj=>?_⟩
  by_cases e:j<l.length
  .rw [List.getElem_append_left e];exact hp j e
  .have:j=n:=by simp at hj;omega
   subst this
   rw [List.getElem_append_right (by omega)]
   simpa [hl] using hx
theorem Rd.flat {w w':World} {S S':Nat->Prop}:∀{t:Ty} {x:t.T} {v:Value},t.flat=true->Rd w S t x v->Rd w' S' t x v
 |.int,_,_,_,h=>h
 |.u8,_,_,_,h=>h
 |.i32,_,_,_,h=>h
 |.u64,_,_,_,h=>h
 |.bool,_,_,_,h=>h
 |.str,_,_,_,h=>h
 |.sl _,_,_,h,_=>by simp [Ty.flat] at h
 |.mix,_,_,h,_=>by simp [Ty.flat] at h
 |.sw _ _,_,_,h,_=>by simp [Ty.flat] at h
section
variable {P:Program} {τ:Nat->TI} {m N:Nat} {w:World} {bs:List Nat} {A:Nat->Prop} {a:Act} {st:St}
theorem elems_ok (hs:Sat w bs A a N st) {t:Ty} {y:AV} {vy:Value} {ys:List t.T} (hy:V w bs A st.rows y vy) (h:elems t st.rows y=some ys):
 ∃news,Src w vy news/\news.length=ys.length/\∀j (hj:j<ys.length),∃cv,news[j]? =some cv/\Rd w A t ys[j] cv:=by
 unfold elems at h
 split at h
 .cases h
  exact ⟨[],.inr ⟨hy,rfl⟩,rfl,fun j hj=>by simp at hj⟩
 .cases h
  obtain ⟨ad,rfl⟩:=hy
  refine ⟨[],?_,rfl,fun j hj=>by simp at hj⟩
  cases ad with
  |none=>right;exact ⟨rfl,rfl⟩
  |some ad=>left;exact ⟨ad,0,rfl,fun j v hv=>by simp at hv⟩
 .rename_i i lo hi
  split at h
  .rename_i e t' zs hr
   split at h
   .rename_i ht
    subst ht
    cases h
    obtain ⟨b,e3,t3,xs3,cur,o,hb,hr3,hcur,h1,h2,rfl,ho⟩:=hy
    rw [hr] at hr3
    cases hr3
    obtain ⟨_,cur2,hcur2,hle,_,hcells⟩:=hs.row i b _ hb hr
    rw [hcur] at hcur2
    cases hcur2
    have hlen:(List.drop lo (List.take hi zs)).length=hi-lo:=by simp;omega
    refine ⟨(cur.toList.take hi).drop lo,.inl ⟨⟨b,o,none⟩,cur.size-lo,by congr 1;simp;omega,fun j v hv=>?_⟩,by rw [hlen];simp;omega,fun j hj=>?_⟩
    .have hj:j<hi-lo:=by
      have:=(List.getElem?_eq_some_iff.1 hv).1
      simp at this;omega
     have ho2:o=lo:=by rcases ho with ho|ho<;>omega
     subst ho2
     rw [addr_add,cell_of_row w b (o+j) cur e (0,0) hcur]
     rw [List.getElem?_drop,List.getElem?_take,if_pos (by omega)] at hv
     simpa using hv
    .change j<(List.drop lo (List.take hi zs)).length at hj
     obtain ⟨cv,h1,h2⟩:=hcells (lo+j) (by omega)
     refine ⟨cv,by rw [List.getElem?_drop,List.getElem?_take,if_pos (by omega)];simpa using h1,?_⟩
     show Rd w A t' ((List.drop lo (List.take hi zs))[j]'hj) cv
     have e1:(List.drop lo (List.take hi zs))[j]'hj=zs[lo+j]'(by omega):=by simp
     rw [e1];exact h2
   .cases h
  .cases h
 .rename_i sh t' zs
  split at h
  .rename_i hfl
   split at h
   .rename_i ht
    subst ht
    cases h
    obtain ⟨ad,cap,rfl,hcap,hnn,hx⟩:=hy
    rcases hx with rfl|⟨b,o,rfl,hS,hc⟩
    .refine ⟨[],?_,rfl,fun j hj=>by simp at hj⟩
     cases ad with
     |none=>right;rw [hnn rfl];exact ⟨rfl,rfl⟩
     |some ad=>left;exact ⟨ad,cap,rfl,fun j v hv=>by simp at hv⟩
    .obtain ⟨l,hl,hp⟩:=exList (List.length zs) (fun j cv=>w.cell? ⟨b,o+j,none⟩=some cv/\∃h:j<List.length zs,Rd w (SS bs A sh) t' zs[j] cv) (fun j hj=>by
      obtain ⟨cv,h1,h2⟩:=hc j hj;exact ⟨cv,h1,hj,h2⟩)
     refine ⟨l,.inl ⟨⟨b,o,none⟩,cap,by rw [hl],fun j v hv=>?_⟩,hl,fun j hj=>?_⟩
     .obtain ⟨h1,h2⟩:=List.getElem?_eq_some_iff.1 hv
      rw [addr_add,(hp j h1).1,h2]
     .obtain ⟨h1,h2,h3⟩:=hp j (by rw [hl];exact hj)
      refine ⟨l[j]'(by rw [hl];exact hj),by simp,?_⟩
      cases sh
      .exact Rd.flat (by simpa using hfl) h3
      .exact h3
   .cases h
  .cases h
 .rename_i i
  split at h
  .rename_i e t' zs hr
   split at h
   .rename_i ht
    subst ht
    cases h
    obtain ⟨b,e3,t3,xs3,cur,hb,hr3,hcur,rfl⟩:=hy
    rw [hr] at hr3
    cases hr3
    obtain ⟨_,cur2,hcur2,hle,_,hcells⟩:=hs.row i b _ hb hr
    rw [hcur] at hcur2
    cases hcur2
    refine ⟨cur.toList.take zs.length,.inl ⟨⟨b,0,none⟩,cur.size,by simp;omega,fun j v hv=>?_⟩,by simp;omega,fun j hj=>?_⟩
    .rw [addr_add,Nat.zero_add,cell_of_row w b j cur e (0,0) hcur]
     rw [List.getElem?_take] at hv
     split at hv
     .simpa using hv
     .cases hv
    .obtain ⟨cv,h1,h2⟩:=hcells j hj
     exact ⟨cv,by rw [List.getElem?_take,if_pos hj];simpa using h1,h2⟩
   .cases h
  .cases h
 .cases h
theorem asT_ok {t:Ty} {x:AV} {v:Value} {y:t.T} (hx:V w bs A st.rows x v) (h:asT t x=some y):Rd w A t y v:=by
 unfold asT at h
 split at h<;>first|(cases h;done)|(cases h;exact hx)|skip
 .cases h
  rename_i t'
  exact ⟨none,0,hx,Nat.le_refl _,fun _=>rfl,.inl rfl⟩
 .cases h
  obtain ⟨ad,hx⟩:=hx
  exact ⟨ad,0,hx,Nat.le_refl _,fun _=>rfl,.inl rfl⟩
 .split at h
  .rename_i ht
   subst ht
   cases h
   exact hx
  .cases h
 .cases h
  exact .inl ⟨rfl,none,0,hx,fun _=>rfl⟩
 .cases h
  obtain ⟨ad,hx⟩:=hx
  exact .inl ⟨rfl,ad,0,hx,fun _=>rfl⟩
 .split at h
  .rename_i he
   cases Nat.eq_of_beq_eq_true he
   cases h
   exact hx
  .cases h
theorem wp_of_run {o:Oper} {v:Value} {w':World} {Kc:Act->World->Prop} {Q:Exit->Act->World->Prop} (hr:(execOp a.eval o).run P w=.ok (.value v) w') (h:Kc (a.put o.dst v) w'):o.wp P a w Kc Q:=by
 unfold Oper.wp;rw [hr];exact h
theorem wp_of_skip {o:Oper} {w':World} {Kc:Act->World->Prop} {Q:Exit->Act->World->Prop} (hr:(execOp a.eval o).run P w=.ok .skip w') (h:Kc (a.put o.dst undef) w'):o.wp P a w Kc Q:=by
 unfold Oper.wp;rw [hr];exact h
def Nxt (m N:Nat) (w:World) (bs:List Nat) (A:Nat->Prop) (K:St->Prop) (Kc:Act->World->Prop):Prop:=
 ∀w' bs' A' a' st',Sat w' bs' A' a' N st'->Stp m w bs A w' bs' A'->K st'->Kc a' w'
theorem Nxt.of {K:St->Prop} {Kc:Act->World->Prop} (hK:Nxt m N w bs A K Kc) {w':World} {bs':List Nat} {A':Nat->Prop} {st':St} {av:AV} {v:Value} {dst:Option Nat} {a':Act}
 (hs:Sat w' bs' A' a' N st') (hp:Stp m w bs A w' bs' A') (hv:V w' bs' A' st'.rows av v) (h:putK N dst av st' K):Kc (a'.put dst v) w':=by
 obtain ⟨st2,h1,h2⟩:=putK_ok hs hv h
 exact hK _ _ _ _ _ h1 hp h2
theorem wp_pure (hτ:TyOk P τ) (hs:Sat w bs A a N st) {o:Oper} {K:St->Prop} {Kc:Act->World->Prop} {Q:Exit->Act->World->Prop} (hK:Nxt m N w bs A K Kc)
 (h:pOp τ st o.op fun av=>putK N o.dst av st K):o.wp P a w Kc Q:=by
 obtain ⟨v,av,h1,h2,h3⟩:=pOp_ok hτ hs h
 exact wp_of_run (h1 w (Ext.refl w)) (hK.of hs (Stp.refl m w bs A) h2 h3)
theorem run_storeOne {b j:Nat} {cur:Array Value} {e:TypeId} {v:Value} (hc:w.heap[b]? =some (.cells cur e (0,0))) (hj:j<cur.size) (hv:v.oneCell'=true) {T:TypeId} {i:TypeInfo}
 (hi:P.info? T=some i) (h1:i.size=1):(Instr.storeAt T (.pointer (some ⟨b,j,none⟩)) v).run P w=.ok () (w.setCell ⟨b,j,none⟩ v):=by
 have hcells:v.cells= #[v]:=by cases v<;>simp_all [Value.cells,Value.oneCell']
 have hcell:∃u,w.cell? ⟨b,j,none⟩=some u:=⟨cur[j],by rw [cell_of_row w b j cur e (0,0) hc];simp [hj]⟩
 obtain ⟨u,hu⟩:=hcell
 have hst:=run_store (m:=.plain) P w ⟨b,j,none⟩ v hv
 rw [hu] at hst
 simp only [frozen_of_row w b j cur e hc] at hst
 simp only [Instr.storeAt,Instr.sureAddr,storeVar,Sem.run_bind,Sem.run_pure,Result.andThen_ok,run_sizeOf1 hi h1,hcells]
 simp [storeCells,addr_add,hst]
end
section
variable {P:Program} {τ:Nat->TI} {m N:Nat} {w:World} {bs:List Nat} {A:Nat->Prop} {a:Act} {st:St}
theorem Sat.bs_of (hs:Sat w bs A a N st) {i:Nat} {r:Row} (hr:st.rows[i]? =some r):∃b,bs[i]? =some b:=by
 have:=(List.getElem?_eq_some_iff.1 hr).1
 exact ⟨bs[i]'(by rw [hs.len];exact this),by simp⟩
theorem Upd.setRow (w:World) (b:Nat) (cs:Array Value) (hsz:∀(cur:Array Value) (e:TypeId),w.heap[b]? =some (.cells cur e (0,0))->cs.size=cur.size):Upd w b (w.setRow b cs):=
 ⟨rfl,rfl,rfl,by simp,fun k hk=>setRow_other w b k cs hk,fun cur e hc=>⟨cs,setRow_heap w b cur cs e _ hc,hsz cur e hc⟩⟩
theorem wp_store (hτ:TyOk P τ) (hs:Sat w bs A a N st) {o:Oper} {K:St->Prop} {Kc:Act->World->Prop} {Q:Exit->Act->World->Prop} (hK:Nxt m N w bs A K Kc) {T:TypeId} {x v:Operand} (ho:o.op=.store T x v)
 (h:storeP st.rows (evl st.env v) (fun rows=>putK N o.dst .any ⟨st.env,rows⟩ K) (τ T) (evl st.env x)):o.wp P a w Kc Q:=by
 unfold storeP at h
 have hx:=evl_ok hs x
 have hv:=evl_ok hs v
 split at h
 .rename_i i j hxe
  rw [hxe] at hx
  obtain ⟨b,r,hb,hr,hj,hxv⟩:=hx
  have hrow:=hs.row i b r hb hr
  have hil:i<st.rows.length:=(List.getElem?_eq_some_iff.1 hr).1
  split at h
  .rename_i tT eT e t xs hT hr2
   rw [hr] at hr2;cases hr2
   obtain ⟨_,ii,hi,h1,_⟩:=hτ.one _ _ _ hT
   split at h
   .rename_i y hy
    have hrd:=asT_ok hv hy
    obtain ⟨hdw,h⟩:=gsw_ok h
    obtain ⟨hA,cur,hcur,hle,hmx,hcells⟩:=hrow
    have hj':j<xs.length:=hj
    have hrun:=run_storeOne (P:=P) hcur (show j<cur.size by omega) hrd.one hi h1
    have hst:=hs.store (m:=m) (i:=i) (b:=b) (r:=.sl e t xs) (r':=.sl e t (xs.set j y)) hb hr (by simp) (by simp [Row.len]) ⟨fun e' t' xs' h=>(by cases h;exact ⟨_,rfl⟩),fun e' xs' h=>nomatch h⟩ (Upd.setCell w b j (a.eval v)) ?_
    .refine wp_of_skip (w':=w.setCell ⟨b,j,none⟩ (a.eval v)) ?_ (hK.of hst.1 hst.2 (av:=.any) trivial h)
     simp only [execOp,ho,Sem.run_bind,hxv,hrun,Result.andThen_ok,Sem.run_pure]
    .have hk:∀b',A b'->b'<w.heap.size->(w.setCell ⟨b,j,none⟩ (a.eval v)).heap[b']? =w.heap[b']?/\A b':=fun b' hb' _=>⟨heap_setCell_other w ⟨b,j,none⟩ b' _ (fun (e:b'=b)=>hA (e ▸ hb')),hb'⟩
     refine ⟨hA,cur.setIfInBounds j (a.eval v),heap_setCell_same w b j cur e _ hcur,by simpa using hle,by simpa using hmx,fun j2 hj2=>?_,Dst.of hdw⟩
     have hj2':j2<xs.length:=by have h9:=hj2;rw [List.length_set] at h9;exact h9
     by_cases e1:j=j2
     .subst e1
      refine ⟨a.eval v,by rw [Array.getElem?_setIfInBounds,if_pos rfl,if_pos (by omega)],?_⟩
      have e2:(xs.set j y)[j]'hj2=y:=List.getElem_set_self (h:=hj2)
      rw [e2]
      exact Rd.ext hk t _ _ hrd
     .obtain ⟨cv,g1,g2⟩:=hcells j2 hj2'
      refine ⟨cv,by rw [Array.getElem?_setIfInBounds,if_neg e1];exact g1,?_⟩
      rw [List.getElem_set_ne e1]
      exact Rd.ext hk t _ _ g2
   .exact h.elim
  .rename_i tT eT e av hT hr2
   rw [hr] at hr2;cases hr2
   obtain ⟨_,ii,hi,h1,_⟩:=hτ.one _ _ _ hT
   obtain ⟨hA,cv0,hcur,hcv⟩:=hrow
   have key:∀nv:AV,nv.hs=[]->V w bs A st.rows nv (a.eval v)->(a.eval v).oneCell'=true->(∀(w':World) rows',(∀b',A b'->b'<w.heap.size->w'.heap[b']? =w.heap[b']?/\A b')->V w' bs A rows' nv (a.eval v))->j=0->
    putK N o.dst .any ⟨st.env,st.rows.set i (.box e nv)⟩ K->o.wp P a w Kc Q:=by
    intro nv _ hnv hone hkeep hj0 h'
    subst hj0
    have hrun:=run_storeOne (P:=P) hcur (show 0<(#[cv0]:Array Value).size by simp) hone hi h1
    have hst:=hs.store (m:=m) (i:=i) (b:=b) (r:=.box e av) (r':=.box e nv) hb hr (by simp) rfl ⟨(fun e' t' xs' h=>by cases h),fun e' xs' h=>by cases h⟩ (Upd.setCell w b 0 (a.eval v)) ?_
    .refine wp_of_skip (w':=w.setCell ⟨b,0,none⟩ (a.eval v)) ?_ (hK.of hst.1 hst.2 (av:=.any) trivial h')
     simp only [execOp,ho,Sem.run_bind,hxv,hrun,Result.andThen_ok,Sem.run_pure]
    .refine ⟨hA,a.eval v,by rw [heap_setCell_same w b 0 _ e _ hcur];rfl,hkeep _ _ ?_⟩
     exact fun b' hb' _=>⟨heap_setCell_other w ⟨b,0,none⟩ b' _ (fun (e:b'=b)=>hA (e ▸ hb')),hb'⟩
   split at h
   .rename_i t x2 hev
    rw [hev] at hv
    exact key (.d true t x2) rfl hv hv.one (fun w' rows' hk=>Rd.ext hk t _ _ hv) h.1 h.2
   .rename_i hev
    rw [hev] at hv
    exact key .nil rfl hv (by rw [hv];rfl) (fun w' rows' hk=>hv) h.1 h.2
   .exact h.elim
  .rename_i tT n eT e t xs hT hr2
   rw [hr] at hr2;cases hr2
   split at h
   .rename_i t' ys hev
    obtain ⟨ht,rfl,hyn,hxn,h⟩:=h
    obtain ⟨hdw,h⟩:=gsw_ok h
    subst ht
    rw [hev] at hv
    obtain ⟨cs,hcs,hcsz,hcse⟩:=hv
    obtain ⟨_,_,ii,hi,h1,_⟩:=hτ.arr _ _ _ _ hT
    obtain ⟨hA,cur,hcur,hle,hmx,hcells⟩:=hrow
    have hone:∀u∈cs.toList,u.oneCell'=true:=by
     intro u hu
     obtain ⟨k,hk,hku⟩:=List.getElem_of_mem hu
     have hk':k<List.length ys:=by rw [<-hcsz];simpa using hk
     obtain ⟨cv,g1,g2⟩:=hcse k hk'
     have:cs[k]? =some u:=by rw [<-hku];simp
     rw [this] at g1;cases g1
     exact g2.one
    have hsc:=run_storeCells_at (P:=P) b 0 e cs.toList 0 cur w hcur (by simp;omega) hone
    have hrun:(Instr.storeAt T (.pointer (some ⟨b,0,none⟩)) (a.eval v)).run P w=.ok () (w.setRow b (cur.toList.take 0++cs.toList++cur.toList.drop (0+0+cs.toList.length)).toArray):=by
     simp only [Instr.storeAt,Instr.sureAddr,storeVar,Sem.run_bind,Sem.run_pure,Result.andThen_ok,hcs,Value.cells]
     have hsz:(sizeOf T).run P w=.ok n w:=by simp [sizeOf,run_info hi,h1]
     simp only [hsz,Result.andThen_ok]
     rw [if_neg (by rw [hcsz,hyn];simp)]
     simpa using hsc
    have hst:=hs.store (m:=m) (i:=i) (b:=b) (r:=.sl e t' xs) (r':=.sl e t' ys) hb hr (by simp) (by show List.length ys=List.length xs;rw [hyn,hxn]) ⟨fun e' t' xs' h=>(by cases h;exact ⟨_,rfl⟩),fun e' xs' h=>nomatch h⟩
     (Upd.setRow w b (cur.toList.take 0++cs.toList++cur.toList.drop (0+0+cs.toList.length)).toArray (fun cur2 e2 hc2=>by rw [hcur] at hc2;cases hc2;simp;omega)) ?_
    .refine wp_of_skip (w':=w.setRow b _) ?_ (hK.of hst.1 hst.2 (av:=.any) trivial h)
     simp only [execOp,ho,Sem.run_bind,hxv,hrun,Result.andThen_ok,Sem.run_pure]
    .have hk:∀b',A b'->b'<w.heap.size->(w.setRow b (cur.toList.take 0++cs.toList++cur.toList.drop (0+0+cs.toList.length)).toArray).heap[b']? =w.heap[b']?/\A b':=fun b' hb' _=>⟨setRow_other w b b' _ (fun (e:b'=b)=>hA (e ▸ hb')),hb'⟩
     refine ⟨hA,_,setRow_heap w b cur _ e _ hcur,?_,?_,fun j2 hj2=>?_,Dst.of hdw⟩
     .simp;omega
     .simp;omega
     .obtain ⟨cv,g1,g2⟩:=hcse j2 hj2
      refine ⟨cv,?_,Rd.ext hk t' _ _ g2⟩
      have hj3:j2<cs.toList.length:=by simp;omega
      simp only [List.take_zero,List.nil_append,List.getElem?_toArray]
      rw [List.getElem?_append_left hj3]
      simpa using g1
   .exact h.elim
  .rename_i tT zs e t xs hT hr2
   rw [hr] at hr2;cases hr2
   split at h
   .rename_i t' ys hev
    obtain ⟨ht,rfl,hyn,hxn,h⟩:=h
    obtain ⟨hdw,h⟩:=gsw_ok h
    subst ht
    rw [hev] at hv
    obtain ⟨cs,hcs,hcsz,hcse⟩:=hv
    obtain ⟨fields,_,_,ii,hi,h1,_⟩:=hτ.rc _ _ hT
    obtain ⟨hA,cur,hcur,hle,hmx,hcells⟩:=hrow
    have hone:∀u∈cs.toList,u.oneCell'=true:=by
     intro u hu
     obtain ⟨k,hk,hku⟩:=List.getElem_of_mem hu
     have hk':k<List.length ys:=by rw [<-hcsz];simpa using hk
     obtain ⟨cv,g1,g2⟩:=hcse k hk'
     have:cs[k]? =some u:=by rw [<-hku];simp
     rw [this] at g1;cases g1
     exact g2.one
    have hsc:=run_storeCells_at (P:=P) b 0 e cs.toList 0 cur w hcur (by simp;omega) hone
    have hrun:(Instr.storeAt T (.pointer (some ⟨b,0,none⟩)) (a.eval v)).run P w=.ok () (w.setRow b (cur.toList.take 0++cs.toList++cur.toList.drop (0+0+cs.toList.length)).toArray):=by
     simp only [Instr.storeAt,Instr.sureAddr,storeVar,Sem.run_bind,Sem.run_pure,Result.andThen_ok,hcs,Value.cells]
     have hsz:(sizeOf T).run P w=.ok zs.length w:=by simp [sizeOf,run_info hi,h1]
     simp only [hsz,Result.andThen_ok]
     rw [if_neg (by rw [hcsz,hyn];simp)]
     simpa using hsc
    have hst:=hs.store (m:=m) (i:=i) (b:=b) (r:=.sl e t' xs) (r':=.sl e t' ys) hb hr (by simp) (by show List.length ys=List.length xs;rw [hyn,hxn]) ⟨fun e' t' xs' h=>(by cases h;exact ⟨_,rfl⟩),fun e' xs' h=>nomatch h⟩
     (Upd.setRow w b (cur.toList.take 0++cs.toList++cur.toList.drop (0+0+cs.toList.length)).toArray (fun cur2 e2 hc2=>by rw [hcur] at hc2;cases hc2;simp;omega)) ?_
    .refine wp_of_skip (w':=w.setRow b _) ?_ (hK.of hst.1 hst.2 (av:=.any) trivial h)
     simp only [execOp,ho,Sem.run_bind,hxv,hrun,Result.andThen_ok,Sem.run_pure]
    .have hk:∀b',A b'->b'<w.heap.size->(w.setRow b (cur.toList.take 0++cs.toList++cur.toList.drop (0+0+cs.toList.length)).toArray).heap[b']? =w.heap[b']?/\A b':=fun b' hb' _=>⟨setRow_other w b b' _ (fun (e:b'=b)=>hA (e ▸ hb')),hb'⟩
     refine ⟨hA,_,setRow_heap w b cur _ e _ hcur,?_,?_,fun j2 hj2=>?_,Dst.of hdw⟩
     .simp;omega
     .simp;omega
     .obtain ⟨cv,g1,g2⟩:=hcse j2 hj2
      refine ⟨cv,?_,Rd.ext hk t' _ _ g2⟩
      have hj3:j2<cs.toList.length:=by simp;omega
      simp only [List.take_zero,List.nil_append,List.getElem?_toArray]
      rw [List.getElem?_append_left hj3]
      simpa using g1
   .exact h.elim
  .exact h.elim
 .rename_i i j hxe
  rw [hxe] at hx
  split at h
  .rename_i tT eT e xs z0 z hT hr2 hev
   obtain ⟨b,e2,xs2,hb,hr,hj,hf,hxv⟩:=hx
   rw [hr] at hr2;cases hr2
   rw [hev] at hv
   have hv:a.eval v=.int .i64 z:=hv
   obtain ⟨hA,cur,hcur,hle,hpar,hcells⟩:=hs.row i b _ hb hr
   obtain ⟨_,ii,hi,h1,_⟩:=hτ.one _ _ _ hT
   have hrun:=run_storeOne (P:=P) hcur (show 2*j+1<cur.size by omega) (v:=a.eval v) (by rw [hv];rfl) hi h1
   rw [getD_get _ _ _ hj] at h
   have hst:=hs.store (m:=m) (i:=i) (b:=b) (r:=.tz e xs) (r':=.tz e (xs.set j ((xs[j]).1,z))) hb hr (by simp) (by simp [Row.len]) ⟨(fun e' t' xs' h=>by cases h),fun e' xs' h=>by cases h;exact ⟨_,rfl⟩⟩ (Upd.setCell w b (2*j+1) (a.eval v)) ?_
   .refine wp_of_skip (w':=w.setCell ⟨b,2*j+1,none⟩ (a.eval v)) ?_ (hK.of hst.1 hst.2 (av:=.any) trivial h)
    simp only [execOp,ho,Sem.run_bind,hxv,hrun,Result.andThen_ok,Sem.run_pure]
   .have hk:∀b',A b'->b'<w.heap.size->(w.setCell ⟨b,2*j+1,none⟩ (a.eval v)).heap[b']? =w.heap[b']?/\A b':=fun b' hb' _=>⟨heap_setCell_other w ⟨b,2*j+1,none⟩ b' _ (fun (e:b'=b)=>hA (e ▸ hb')),hb'⟩
    have hnew:=heap_setCell_same w b (2*j+1) cur e (a.eval v) hcur
    refine ⟨hA,cur.setIfInBounds (2*j+1) (a.eval v),hnew,by simpa using hle,by simpa using hpar,fun j2 hj2=>?_⟩
    have hj2':j2<xs.length:=by have h9:=hj2;rw [List.length_set] at h9;exact h9
    obtain ⟨c1,c2,g1,g2,g3⟩:=hcells j2 hj2'
    rw [cell_of_row w b _ cur e (0,0) hcur] at g1 g2
    rw [cell_of_row _ b _ _ e (0,0) hnew,cell_of_row _ b _ _ e (0,0) hnew]
    by_cases e1:j=j2
    .subst e1
     refine ⟨c1,a.eval v,?_,?_,?_⟩
     .rw [Array.getElem?_setIfInBounds,if_neg (by omega)];exact g1
     .rw [Array.getElem?_setIfInBounds,if_pos (by omega),if_pos (by omega)]
     .have e2:(xs.set j ((xs[j]).1,z))[j]'hj2=((xs[j]).1,z):=List.getElem_set_self (h:=hj2)
      rw [e2]
      exact ⟨(g3.ext hk).1,hv⟩
    .refine ⟨c1,c2,?_,?_,?_⟩
     .rw [Array.getElem?_setIfInBounds,if_neg (by omega)];exact g1
     .rw [Array.getElem?_setIfInBounds,if_neg (by omega)];exact g2
     .rw [List.getElem_set_ne e1]
      exact g3.ext hk
  .exact h.elim
 .exact h.elim
end
theorem zv_rd (w:World) (A:Nat->Prop):∀t:Ty,Rd w A t t.dflt t.zv
 |.int=>rfl
 |.u8=>rfl
 |.i32=>rfl
 |.u64=>rfl
 |.bool=>rfl
 |.str=>rfl
 |.sl _=>⟨none,0,rfl,Nat.le_refl _,fun _=>rfl,.inl rfl⟩
 |.mix=>rfl
 |.sw _ _=>.inl ⟨rfl,none,0,rfl,fun _=>rfl⟩
theorem Dst_zv {t:Ty} {cur:Array Value} {n:Nat} (h:∀j,j<n->cur[j]? =some t.zv):Dst t cur n:=by
 unfold Dst
 split
 .intro i j hij hj p q l c l' c' h1 h2 _ _ _
  rw [h i (by omega)] at h1
  cases h1
 .trivial
theorem Dst.mono {t:Ty} {cur:Array Value} {n k:Nat} (h:Dst t cur n) (hk:k<=n):Dst t cur k:=by
 unfold Dst at h ⊢
 split at h
 .exact fun i j hij hj=>h i j hij (by omega)
 .trivial
theorem RdW.rd {w:World} {S:Nat->Prop} {e:Nat} {xs:List Int} {v:Value} (h:RdW w S e xs v):Rd w S (.sl .int) xs v:=by
 rcases h with ⟨rfl,a,cap,rfl,hn⟩|⟨hn,b,cur,rfl,hS,h1,h2,_,h3⟩
 .exact ⟨a,cap,rfl,Nat.zero_le _,hn,.inl rfl⟩
 .refine ⟨_,_,rfl,h2,(fun hh=>by cases hh),.inr ⟨b,0,rfl,hS,fun j hj=>⟨_,?_,rfl⟩⟩⟩
  rw [Nat.zero_add,cell_of_row w b j cur e (0,0) h1];exact h3 j hj
theorem Rd.wk {w:World} {S:Nat->Prop} {e:Nat} {d:Bool} {xs:List (List Int)} {v:Value} (h:Rd w S (.sl (.sw e d)) xs v):Rd w S (.sl (.sl .int)) xs v:=by
 obtain ⟨a,cap,h1,h2,h3,h4⟩:=h
 refine ⟨a,cap,h1,h2,h3,?_⟩
 rcases h4 with h4|⟨b,o,h4,hS,hc⟩
 .exact .inl h4
 .refine .inr ⟨b,o,h4,hS,fun j hj=>?_⟩
  obtain ⟨cv,k1,k2⟩:=hc j hj
  exact ⟨cv,k1,RdW.rd k2⟩
theorem Dst_one (t:Ty) (cur:Array Value) {n:Nat} (h:n<=1):Dst t cur n:=by
 unfold Dst
 split
 .intro i j hij hj;omega
 .trivial
theorem RdW.apart {w:World} {A:Nat->Prop} {e:Nat} {x y:List Int} {p q:Addr} {l c l' c':Nat} (hx:RdW w A e x (.slice (some p) l c)) (hy:RdW w A e y (.slice (some q) l' c')) (h1:l≠0) (h2:l'≠0) (hl:x.length=y.length) (hn:x≠y):p.block≠q.block:=by
 rcases hx with ⟨_,a,cap,h,_⟩|⟨_,b,cur,h,_,g1,g2,_,g3⟩
 .cases h;exact (h1 rfl).elim
 .rcases hy with ⟨_,a',cap',h',_⟩|⟨_,b',cur',h',_,k1,k2,_,k3⟩
  .cases h';exact (h2 rfl).elim
  .cases h;cases h'
   intro (e1:b=b')
   subst e1
   rw [g1] at k1;cases k1
   apply hn
   refine List.ext_getElem hl fun j hj hj'=>?_
   have:=(g3 j hj).symm.trans (k3 j hj')
   simp only [Option.some.injEq,Value.int.injEq,true_and] at this
   exact this
theorem Dst_app {w:World} {A:Nat->Prop} {e:Nat} {xs ys:List (List Int)} {cur cur':Array Value} {news:List Value} (hc:Cells w A (.sw e true) xs cur) (hn:∀j (hj:j<ys.length),∃cv,news[j]? =some cv/\RdW w A e ys[j] cv) (hnl:news.length=ys.length)
 (htake:cur'.toList.take (xs.length+news.length)=cur.toList.take xs.length++news) (hle:xs.length<=cur.size) (hap:ApW xs ys):DstV cur' (xs.length+ys.length):=by
 have hcj:∀j,j<xs.length+news.length->cur'[j]? =(cur.toList.take xs.length++news)[j]? :=fun j hj=>by
  rw [<-htake,List.getElem?_take,if_pos hj];simp
 have hl2:(cur.toList.take xs.length).length=xs.length:=by simp;omega
 intro i j hij hj p q l c l' c' h1 h2 hl0 hl1
 by_cases h3:j<xs.length
 .rw [hcj i (by omega),List.getElem?_append_left (by omega),List.getElem?_take,if_pos (by omega)] at h1
  rw [hcj j (by omega),List.getElem?_append_left (by omega),List.getElem?_take,if_pos (by omega)] at h2
  exact hc.d i j hij h3 p q l c l' c' (by simpa using h1) (by simpa using h2) hl0 hl1
 .have hy1:=hap.1
  have hi:i<xs.length:=by omega
  rw [hcj i (by omega),List.getElem?_append_left (by omega),List.getElem?_take,if_pos (by omega)] at h1
  rw [hcj j (by omega),List.getElem?_append_right (by omega),hl2] at h2
  obtain ⟨cv,k1,k2⟩:=hc.c i hi
  obtain ⟨cv',k3,k4⟩:=hn (j-xs.length) (by omega)
  rw [show cur.toList[i]? =cur[i]? by simp] at h1
  rw [h1] at k1;cases k1
  rw [h2] at k3;cases k3
  rcases hap.2 _ (List.getElem_mem hi) _ (List.getElem_mem (show j-xs.length<ys.length by omega)) with e0|⟨e1,e2⟩
  .rcases k4 with ⟨_,a,cap,k5,_⟩|⟨k5,_⟩
   .cases k5;exact (hl1 rfl).elim
   .exact (k5 e0).elim
  .exact RdW.apart k2 k4 hl0 hl1 e1 e2
theorem zv_cells (t:Ty):t.zv.cells= #[t.zv]:=by cases t<;>rfl
section
variable {P:Program} {τ:Nat->TI} {m N:Nat} {w:World} {bs:List Nat} {A:Nat->Prop} {a:Act} {st:St}
theorem Sat.pushSl (hs:Sat w bs A a N st) {w':World} {t:Ty} {xs:List t.T} {cur:Array Value} {e:TypeId} (hm:m<=bs.length) (hp:Plus w w' (.cells cur e (0,0))) (hle:xs.length<=cur.size) (hmx:cur.size<=maxLen)
 (hc:∀j (h:j<xs.length),∃cv,cur[j]? =some cv/\Rd w A t xs[j] cv) (hd:Dst t cur xs.length):
 Sat w' (bs++[w.heap.size]) A a N ⟨st.env,st.rows++[.sl e t xs]⟩/\Stp m w bs A w' (bs++[w.heap.size]) A:=by
 refine hs.push hm hp ⟨fun hA=>by have:=hs.old _ hA;omega,cur,hp.new,hle,Nat.le_trans hmx (Ty.le_mx t),fun j hj=>?_,hd⟩
 obtain ⟨cv,h1,h2⟩:=hc j hj
 exact ⟨cv,h1,Rd.ext (fun b hb hlt=>⟨hp.old b hlt,hb⟩) t _ _ h2⟩
theorem V_ow_new (hs:Sat w bs A a N st) {w':World} {t:Ty} {xs:List t.T} {cur:Array Value} {e:TypeId} (hp:Plus w w' (.cells cur e (0,0))):
 V w' (bs++[w.heap.size]) A (st.rows++[.sl e t xs]) (.ow st.rows.length) (.slice (some ⟨w.heap.size,0,none⟩) xs.length cur.size):=
 ⟨w.heap.size,e,t,xs,cur,by rw [<-hs.len];simp,by simp,hp.new,rfl⟩
theorem wp_alloc (hτ:TyOk P τ) (hs:Sat w bs A a N st) (hm:m<=bs.length) {o:Oper} {K:St->Prop} {Kc:Act->World->Prop} {Q:Exit->Act->World->Prop} (hK:Nxt m N w bs A K Kc) {T:TypeId} (ho:o.op=.alloc T)
 (h:match τ T with
 |.arr t n _=>0<n/\n<=1000/\putK N o.dst (.ptr (cnt st.rows) 0) ⟨st.env,st.rows++[.sl T t (List.replicate n t.dflt)]⟩ K
 |.one t _=>putK N o.dst (.ptr (cnt st.rows) 0) ⟨st.env,st.rows++[.box T (zav t)]⟩ K
 |.rc zs=>0<zs.length/\zs.length<=1000/\putK N o.dst (.ptr (cnt st.rows) 0) ⟨st.env,st.rows++[.sl T .mix (zs.map Mix.z0)]⟩ K
 |_=>False):o.wp P a w Kc Q:=by
 rw [cnt_eq] at h
 split at h
 .rename_i t n e hT
  obtain ⟨hn,hn2,h⟩:=h
  obtain ⟨hu,_,i,hi,h1,hz⟩:=hτ.arr _ _ _ _ hT
  have hp:=Plus.alloc w (.cells (Array.replicate n t.zv) T)
  have hst:=hs.pushSl (m:=m) (t:=t) (xs:=List.replicate n t.dflt) hm hp (by simp) (by simp [maxLen];omega) (fun j hj=>⟨t.zv,by
   have hj2:j<n:=by simpa using hj
   rw [Array.getElem?_replicate,if_pos hj2],by
   have e:(List.replicate n t.dflt)[j]'hj=t.dflt:=List.getElem_replicate hj
   rw [e];exact zv_rd w A t⟩) (Dst_zv fun j hj=>by rw [Array.getElem?_replicate,if_pos (by simpa using hj)])
  refine wp_of_run (v:=.pointer (some ⟨w.heap.size,0,none⟩)) (w':=w.alloc (.cells (Array.replicate n t.zv) T)) ?_ (hK.of hst.1 hst.2 (av:=.ptr st.rows.length 0) ?_ h)
  .simp only [execOp,ho,Instr.alloc,Sem.run_bind,Sem.run_pure,Result.andThen_ok,zeroValue,run_info hi,hz,newVar,newRow,Value.cells]
   rfl
  .exact ⟨w.heap.size,.sl T t (List.replicate n t.dflt),by rw [<-hs.len];simp,by simp,by simp [Row.len];exact hn,rfl⟩
 .rename_i t e hT
  obtain ⟨_,i,hi,h1,hz,_⟩:=hτ.one _ _ _ hT
  have hp:=Plus.alloc w (.cells #[t.zv] T)
  have hst:=hs.push (m:=m) (r:=.box T (zav t)) hm hp ⟨fun hA=>by have:=hs.old _ hA;omega,t.zv,hp.new,by cases t<;>rfl⟩
  refine wp_of_run (v:=.pointer (some ⟨w.heap.size,0,none⟩)) (w':=w.alloc (.cells #[t.zv] T)) ?_ (hK.of hst.1 hst.2 (av:=.ptr st.rows.length 0) ?_ h)
  .simp only [execOp,ho,Instr.alloc,Sem.run_bind,Sem.run_pure,Result.andThen_ok,zeroValue,run_info hi,hz,newVar,newRow,zv_cells]
   rfl
  .exact ⟨w.heap.size,.box T (zav t),by rw [<-hs.len];simp,by simp,by simp [Row.len],rfl⟩
 .rename_i zs hT
  obtain ⟨hn,hn2,h⟩:=h
  obtain ⟨fields,hu,_,i,hi,h1,hz⟩:=hτ.rc _ _ hT
  have hp:=Plus.alloc w (.cells (zs.map Mix.zv).toArray T)
  have hst:=hs.pushSl (m:=m) (t:=.mix) (xs:=zs.map Mix.z0) hm hp (by simp) (by simp [maxLen];omega) (fun j hj=>by
   have hj2:j<zs.length:=by have h9:=hj;rw [List.length_map] at h9;exact h9
   refine ⟨(zs[j]).zv,by simp [hj2],?_⟩
   have e:(zs.map Mix.z0)[j]'hj=(zs[j]).z0:=List.getElem_map _
   rw [e];exact Mix.z0_rd w A _) trivial
  refine wp_of_run (v:=.pointer (some ⟨w.heap.size,0,none⟩)) (w':=w.alloc (.cells (zs.map Mix.zv).toArray T)) ?_ (hK.of hst.1 hst.2 (av:=.ptr st.rows.length 0) ?_ h)
  .simp only [execOp,ho,Instr.alloc,Sem.run_bind,Sem.run_pure,Result.andThen_ok,zeroValue,run_info hi,hz,newVar,newRow,Value.cells]
   rfl
  .exact ⟨w.heap.size,.sl T .mix (zs.map Mix.z0),by rw [<-hs.len];simp,by simp,by simp [Row.len];exact hn,rfl⟩
 .exact h.elim
theorem cells_of_one {v:Value} (h:v.oneCell'=true):v.cells= #[v]:=by cases v<;>simp_all [Value.cells,Value.oneCell']
theorem wp_box (hs:Sat w bs A a N st) (hm:m<=bs.length) {o:Oper} {K:St->Prop} {Kc:Act->World->Prop} {Q:Exit->Act->World->Prop} (hK:Nxt m N w bs A K Kc) {T:TypeId} {x:Operand} (ho:o.op=.box T x)
 (h:match evl st.env x with
 |.d true t y=>putK N o.dst (.ptr (cnt st.rows) 0) ⟨st.env,st.rows++[.box T (.d true t y)]⟩ K
 |.nil=>putK N o.dst (.ptr (cnt st.rows) 0) ⟨st.env,st.rows++[.box T .nil]⟩ K
 |.arr t ys=>0<ys.length/\ys.length<=1000/\gsw t (putK N o.dst (.ptr (cnt st.rows) 0) ⟨st.env,st.rows++[.sl T t ys]⟩ K)
 |_=>False):o.wp P a w Kc Q:=by
 rw [cnt_eq] at h
 have hx:=evl_ok hs x
 have key:∀av,V w bs A st.rows av (a.eval x)->(a.eval x).cells= #[a.eval x]->RowR (w.alloc (.cells #[a.eval x] T)) (bs++[w.heap.size]) A (st.rows++[.box T av]) w.heap.size (.box T av)->
  putK N o.dst (.ptr st.rows.length 0) ⟨st.env,st.rows++[.box T av]⟩ K->o.wp P a w Kc Q:=by
  intro av hv hc hrow h
  have hp:=Plus.alloc w (.cells #[a.eval x] T)
  have hst:=hs.push (m:=m) (r:=.box T av) hm hp hrow
  refine wp_of_run (v:=.pointer (some ⟨w.heap.size,0,none⟩)) (w':=w.alloc (.cells #[a.eval x] T)) ?_ (hK.of hst.1 hst.2 (av:=.ptr st.rows.length 0) ?_ h)
  .simp only [execOp,ho,Instr.box,Sem.run_bind,Sem.run_pure,newVar,newRow,hc]
   rfl
  .exact ⟨w.heap.size,.box T av,by rw [<-hs.len];simp,by simp,by simp [Row.len],rfl⟩
 have hp:=Plus.alloc w (.cells #[a.eval x] T)
 split at h
 .rename_i t y he
  rw [he] at hx
  refine key _ hx (cells_of_one (Rd.one hx)) ⟨fun hA=>by have:=hs.old _ hA;omega,a.eval x,hp.new,?_⟩ h
  exact Rd.ext (fun b hb hlt=>⟨hp.old b hlt,hb⟩) t y _ hx
 .rename_i he
  rw [he] at hx
  refine key _ hx (by rw [show a.eval x=.slice none 0 0 from hx];rfl) ⟨fun hA=>by have:=hs.old _ hA;omega,a.eval x,hp.new,hx⟩ h
 .rename_i t ys he
  rw [he] at hx
  obtain ⟨cs,hv,hsz,hcs⟩:=hx
  obtain ⟨h0,h1,h⟩:=h
  obtain ⟨hdw,h⟩:=gsw_ok h
  have hp2:=Plus.alloc w (.cells cs T)
  have hst:=hs.pushSl (m:=m) (t:=t) (xs:=ys) hm hp2 (by omega) (by simp [maxLen];omega) (fun j hj=>hcs j hj) (Dst.of hdw)
  refine wp_of_run (v:=.pointer (some ⟨w.heap.size,0,none⟩)) (w':=w.alloc (.cells cs T)) ?_ (hK.of hst.1 hst.2 (av:=.ptr st.rows.length 0) ?_ h)
  .simp only [execOp,ho,Instr.box,Sem.run_bind,Sem.run_pure,newVar,newRow,hv,Value.cells]
   rfl
  .exact ⟨w.heap.size,.sl T t ys,by rw [<-hs.len];simp,by simp,by simp [Row.len];exact h0,rfl⟩
 .exact h.elim
theorem coll_ok (hs:Sat w bs A a N st) {t:Ty}:∀{l:List (Nat × Operand)} {i:Nat} {xs:List t.T},coll t st.env i l=some xs->
 xs.length=l.length/\(∀j (h:j<l.length),(l[j]).1=i+j)/\∀j (h:j<xs.length) (h2:j<l.length),Rd w A t xs[j] (a.eval (l[j]).2)
 |[],i,xs,h=>by cases h;exact ⟨rfl,fun j h=>by simp at h,fun j h=>by simp at h⟩
 |(k,x)::l,i,xs,h=>by
  unfold coll at h
  split at h
  .rename_i y r hb hy hr
   cases h
   obtain ⟨h1,h2,h3⟩:=coll_ok hs hr
   have hk:i=k:=Nat.eq_of_beq_eq_true hb
   refine ⟨by simp [h1],fun j hj=>?_,fun j hj hj2=>?_⟩
   .cases j with
    |zero=>simp [hk]
    |succ j=>have:=h2 j (by simpa using hj);simp [this];omega
   .cases j with
    |zero=>exact asT_ok (evl_ok hs x) hy
    |succ j=>exact h3 j (by simpa using hj) (by simpa using hj2)
  .cases h
theorem fill_ok:∀(l:List (Nat × Value)) (i:Nat) (cells:Array Value),(∀j (h:j<l.length),(l[j]).1=i+j)->(∀p∈l,p.2.cells= #[p.2])->i+l.length<=cells.size->
 ∃c',Instr.fill (fun i=>some (i*1,1)) cells l=some c'/\c'.size=cells.size/\(∀j (h:j<l.length),c'[i+j]? =some (l[j]).2)/\(∀j,j<i->c'[j]? =cells[j]?)
 |[],i,cells,_,_,_=>⟨cells,rfl,rfl,fun j h=>by simp at h,fun _ _=>rfl⟩
 |(k,v)::l,i,cells,h1,h2,h3=>by
  have hk:k=i:=h1 0 (by simp)
  subst hk
  have hv:v.cells= #[v]:=h2 (k,v) (by simp)
  have hsz:k<cells.size:=by simp at h3;omega
  obtain ⟨c',g1,g2,g3,g4⟩:=fill_ok l (k+1) (cells.setIfInBounds k v) (fun j hj=>by have:=h1 (j+1) (by simpa using hj);simp at this;omega) (fun p hp=>h2 p (by simp [hp])) (by simp at h3 ⊢;omega)
  refine ⟨c',?_,by simpa using g2,fun j hj=>?_,fun j hj=>?_⟩
  .unfold Instr.fill
   simp only [hv]
   rw [if_neg (by simp;omega)]
   simpa using g1
  .cases j with
   |zero=>
    have:=g4 k (by omega)
    rw [Nat.add_zero,this]
    simp [hsz]
   |succ j=>
    have:=g3 j (by simpa using hj)
    rw [show k+(j+1)=k+1+j by omega,this]
    simp
  .rw [g4 j (by omega),Array.getElem?_setIfInBounds,if_neg (by omega)]
theorem run_buildSlice' (hτ:TyOk P τ) {T:TypeId} {e n:Nat} {t:Ty} (hT:τ T=.one (.sl t) e) (hn:n<=1000) (parts:Array (Nat × Value)) (hlen:parts.size=n) (h1:∀j (h:j<parts.toList.length),(parts.toList[j]).1=j)
 (hone:∀p∈parts.toList,p.2.oneCell'=true):
 ∃cur,(Instr.buildSlice T n parts).run P w=.ok (.slice (some ⟨w.heap.size,0,none⟩) n n) (w.alloc (.cells cur e))/\cur.size=n/\∀j (h:j<parts.toList.length),cur[j]? =some (parts.toList[j]).2:=by
 obtain ⟨⟨hu,e',he⟩,_⟩:=hτ.one _ _ _ hT
 obtain ⟨_,i,hi,hs1,hz,hby⟩:=hτ.one _ _ _ he
 rw [Ty.base_zv] at hz
 obtain ⟨c',g1,g2,g3,_⟩:=fill_ok parts.toList 0 ((Array.range (n*1)).map fun k=>(if n*1=0 then #[] else t.zv.cells)[k % (if n*1=0 then #[] else t.zv.cells).size]!) (fun j hj=>by rw [h1 j hj];simp)
  (fun p hp=>cells_of_one (hone p hp)) (by simp;omega)
 refine ⟨c',?_,by rw [g2];simp,fun j hj=>by have:=g3 j hj;simpa using this⟩
 simp only [Instr.buildSlice,Sem.run_bind,run_underlying hu,Result.andThen_ok,run_sizeOf1 hi hs1]
 rw [if_neg (by omega)]
 by_cases h0:n=0
 .subst h0
  simp only [Nat.zero_mul,if_true] at g1 ⊢
  simp only [Sem.run_pure,Sem.run_bind,Result.andThen_ok]
  simp at g1
  simp [g1,newRow]
 .have h00:¬(n*1=0):=by omega
  simp only [h00,if_false] at g1 ⊢
  simp only [Sem.run_pure,Sem.run_bind,Result.andThen_ok,zeroValue,run_info hi,hz]
  simp only [g1]
  simp [newRow]
end
section
variable {P:Program} {τ:Nat->TI} {m N:Nat} {w:World} {bs:List Nat} {A:Nat->Prop} {a:Act} {st:St}
theorem wp_buildSlice (hτ:TyOk P τ) (hs:Sat w bs A a N st) (hm:m<=bs.length) {o:Oper} {K:St->Prop} {Kc:Act->World->Prop} {Q:Exit->Act->World->Prop} (hK:Nxt m N w bs A K Kc) {T:TypeId} {n:Nat} {parts:Array (Nat × Operand)} (ho:o.op=.buildSlice T n parts)
 {t:Ty} {e:Nat} (hT:τ T=.one (.sl t) e) (h:buildS N o.dst t e n parts.toList K st):o.wp P a w Kc Q:=by
 unfold buildS at h
 rw [cnt_eq] at h
 .split at h
  .rename_i xs hc
   obtain ⟨hn,hn2,own,h⟩:=h
   obtain ⟨c1,c2,c3⟩:=coll_ok hs hc
   have hsz:(parts.map fun p=>(p.1,a.eval p.2)).size=n:=by simp;rw [<-hn,c1];simp
   obtain ⟨cur,g1,g2,g3⟩:=run_buildSlice' (w:=w) hτ hT hn2 (parts.map fun p=>(p.1,a.eval p.2)) hsz (fun j hj=>by
    have:=c2 j (by simpa using hj)
    simpa using this) (fun p hp=>by
    simp only [Array.toList_map,List.mem_map] at hp
    obtain ⟨q,hq,rfl⟩:=hp
    obtain ⟨j,hj,hjq⟩:=List.getElem_of_mem hq
    have:=c3 j (by rw [c1];exact hj) hj
    rw [hjq] at this
    exact this.one)
   have hrun:(execOp a.eval o).run P w=.ok (.value (.slice (some ⟨w.heap.size,0,none⟩) n n)) (w.alloc (.cells cur e)):=by
    simp only [execOp,ho,Sem.run_bind,g1,Result.andThen_ok,Sem.run_pure]
   have hp:=Plus.alloc w (.cells cur e)
   have hcur:∀j (hj:j<xs.length),∃cv,cur[j]? =some cv/\Rd w A t xs[j] cv:=by
    intro j hj
    have hj2:j<parts.toList.length:=by rw [<-c1];exact hj
    refine ⟨a.eval (parts.toList[j]).2,?_,c3 j hj hj2⟩
    have:=g3 j (by simpa using hj2)
    simpa using this
   rcases own with ⟨_|_⟩|_
   .have hst:=hs.pushA (m:=m) hp
    refine wp_of_run hrun (hK.of hst.1 hst.2 (av:=.d true (.sl t) xs) ?_ h)
    refine ⟨some ⟨w.heap.size,0,none⟩,n,by rw [<-hn],by rw [<-hn];exact Nat.le_refl _,(fun hh=>by simp at hh),Or.inr ⟨w.heap.size,0,rfl,Or.inr rfl,fun j hj=>?_⟩⟩
    obtain ⟨cv,k1,k2⟩:=hcur j hj
    refine ⟨cv,?_,Rd.ext (fun b hb hlt=>⟨hp.old b hlt,.inl hb⟩) t _ _ k2⟩
    rw [Nat.zero_add,cell_of_row _ w.heap.size j cur e (0,0) hp.new]
    exact k1
   .obtain ⟨hdg,h⟩:=dsg_ok h
    have hst:=hs.pushSl (m:=m) (t:=t) (xs:=xs) hm hp (by rw [g2,hn];exact Nat.le_refl _) (by rw [g2];simp [maxLen];omega) hcur (by rcases hdg with hdg|hdg;exact Dst.of hdg;exact Dst_one _ _ (by omega))
    refine wp_of_run hrun (hK.of hst.1 hst.2 (av:=.ow st.rows.length) ?_ h)
    have:=V_ow_new hs (t:=t) (xs:=xs) hp
    rw [g2,hn] at this
    exact this
   .obtain ⟨h0,h⟩:=h
    have hst:=hs.pushA (m:=m) hp
    refine wp_of_run hrun (hK.of hst.1 hst.2 (av:=.x .emp) ⟨some ⟨w.heap.size,0,none⟩,by rw [h0]⟩ h)
  .exact h.elim
theorem fillM_ok (hs:Sat w bs A a N st) {place:Nat->Option (Nat × Nat)}:∀(l:List (Nat × Operand)) (zs fs:List Mix) (cells:Array Value),cells.size=zs.length->(∀j,j<zs.length->place j=some (j,1))->
 (∀(j:Nat) (h:j<zs.length),∃cv,cells[j]? =some cv/\RdM w A zs[j] cv)->fillM st.env zs l=some fs->
 ∃c':Array Value,Instr.fill place cells (l.map fun p=>(p.1,a.eval p.2))=some c'/\c'.size=fs.length/\∀(j:Nat) (h:j<fs.length),∃cv,c'[j]? =some cv/\RdM w A fs[j] cv
 |[],zs,fs,cells,h1,_,h3,h=>by
  cases h
  exact ⟨cells,rfl,h1,h3⟩
 |(k,x)::l,zs,fs,cells,h1,h2,h3,h=>by
  unfold fillM at h
  split at h
  .rename_i m hb hm
   have hk:k<zs.length:=by simpa using hb
   have hrd:RdM w A m (a.eval x):=asT_ok (t:=.mix) (evl_ok hs x) hm
   have hc:=cells_of_one (RdM.one hrd)
   obtain ⟨c',g1,g2,g3⟩:=fillM_ok hs (place:=place) l (zs.set k m) fs (cells.setIfInBounds k (a.eval x)) (by simpa using h1) (fun j hj=>h2 j (by simpa using hj)) (fun j hj=>by
    have hj2:j<zs.length:=by simpa using hj
    by_cases e:k=j
    .subst e
     refine ⟨a.eval x,by simp [h1,hk],?_⟩
     rw [List.getElem_set_self];exact hrd
    .obtain ⟨cv,k1,k2⟩:=h3 j hj2
     refine ⟨cv,by rw [Array.getElem?_setIfInBounds_ne e];exact k1,?_⟩
     rw [List.getElem_set_ne e];exact k2) h
   refine ⟨c',?_,g2,g3⟩
   rw [List.map_cons]
   unfold Instr.fill
   rw [h2 k hk]
   simp only [hc]
   rw [if_neg (by simp;omega)]
   simpa using g1
  .cases h
theorem wp_build (hτ:TyOk P τ) (hs:Sat w bs A a N st) {o:Oper} {K:St->Prop} {Kc:Act->World->Prop} {Q:Exit->Act->World->Prop} (hK:Nxt m N w bs A K Kc) {T:TypeId} {parts:Array (Nat × Operand)} (ho:o.op=.build T parts)
 (h:match τ T,parts.toList with
 |.arr t n _,[]=>putK N o.dst (.arr t (List.replicate n t.dflt)) st K
 |.arr .int n _,p::ps=>(match coll .int st.env 0 (p::ps) with
  |some fs=>List.length fs=n/\putK N o.dst (.arr .int fs) st K
  |none=>False)
 |.rc zs,ps=>match fillM st.env (zs.map Mix.z0) ps with
  |some fs=>putK N o.dst (.arr .mix fs) st K
  |none=>False
 |_,_=>False):o.wp P a w Kc Q:=by
 split at h
 .rename_i t n e hT hp
  obtain ⟨hu,⟨e',he⟩,i,hi,h1,hz⟩:=hτ.arr _ _ _ _ hT
  obtain ⟨_,i2,hi2,hs1,_⟩:=hτ.one _ _ _ he
  have hpe:parts= #[]:=by rw [<-Array.toArray_toList (xs:=parts),hp]
  refine wp_of_run (v:=.agg (Array.replicate n t.zv)) (w':=w) ?_ (hK.of hs (Stp.refl m w bs A) (av:=.arr t (List.replicate n t.dflt)) ?_ h)
  .simp only [execOp,ho,hpe,Instr.build,Sem.run_bind,zeroValue,run_info hi,hz,Result.andThen_ok,Sem.run_pure,run_underlying hu,run_sizeOf1 hi2 hs1,Value.cells]
   simp [Instr.fill]
  .refine ⟨_,rfl,by simp,fun j hj=>⟨t.zv,?_,?_⟩⟩
   .have hj2:j<n:=by simpa using hj
    rw [Array.getElem?_replicate,if_pos hj2]
   .have e:(List.replicate n t.dflt)[j]'hj=t.dflt:=List.getElem_replicate hj
    rw [e];exact zv_rd w A t
 .rename_i n e p ps hT hp
  split at h
  .rename_i fs hfs
   obtain ⟨hn,h⟩:=h
   rw [<-hp] at hfs
   obtain ⟨hu,⟨e',he⟩,i,hi,h1,hz⟩:=hτ.arr _ _ _ _ hT
   obtain ⟨_,i2,hi2,hs1,_⟩:=hτ.one _ _ _ he
   obtain ⟨c1,c2,c3⟩:=coll_ok hs hfs
   have c1:List.length fs=parts.toList.length:=c1
   obtain ⟨c',g1,g2,g3,_⟩:=fill_ok (parts.toList.map fun p=>(p.1,a.eval p.2)) 0 (Array.replicate n (Value.int .i64 0)) (fun j hj=>by
    have:=c2 j (by simpa using hj)
    simpa using this) (fun p hp=>by
    simp only [List.mem_map] at hp
    obtain ⟨q,hq,rfl⟩:=hp
    obtain ⟨j,hj,hjq⟩:=List.getElem_of_mem hq
    have:=c3 j (by rw [c1];exact hj) hj
    rw [hjq] at this
    exact cells_of_one this.one) (by simp only [List.length_map,Array.size_replicate];omega)
   refine wp_of_run (v:=.agg c') (w':=w) ?_ (hK.of hs (Stp.refl m w bs A) (av:=.arr .int fs) ?_ h)
   .simp only [execOp,ho,Sem.run_bind]
    rw [run_build w T _ c' (by
     unfold Program.built
     simp only [hi,hu,hz,hi2,hs1]
     simpa [Value.cells,Ty.zv] using g1)]
    rfl
   .refine ⟨c',rfl,by rw [g2];simp only [Array.size_replicate];exact hn.symm,fun j hj=>?_⟩
    have hj:j<List.length fs:=hj
    have k:=g3 j (by rw [List.length_map,<-c1];exact hj)
    rw [Nat.zero_add] at k
    exact ⟨_,k,by rw [List.getElem_map];exact c3 j hj (by rw [<-c1];exact hj)⟩
  .exact h.elim
 .rename_i ps0 zs hT
  split at h
  .rename_i fs hfs
   obtain ⟨fields,hu,hpl,i,hi,h1,hz⟩:=hτ.rc _ _ hT
   obtain ⟨c',g1,g2,g3⟩:=fillM_ok hs (place:=fun k=>(((List.range zs.length).map fun j=>(j,1)).toArray[k]? :Option (Nat × Nat))) parts.toList (zs.map Mix.z0) fs (zs.map Mix.zv).toArray (by simp) (fun j hj=>by
    have hj2:j<zs.length:=by simpa using hj
    simp [hj2]) (fun j hj=>by
    have hj2:j<zs.length:=by simpa using hj
    refine ⟨(zs[j]).zv,by simp [hj2],?_⟩
    rw [List.getElem_map];exact Mix.z0_rd w A _) hfs
   refine wp_of_run (v:=.agg c') (w':=w) ?_ (hK.of hs (Stp.refl m w bs A) (av:=.arr .mix fs) ?_ h)
   .simp only [execOp,ho,Sem.run_bind]
    rw [run_build w T _ c' (by
     unfold Program.built
     simp only [hi,hu,hz,hpl]
     simpa [Value.cells] using g1)]
    rfl
   .exact ⟨c',rfl,g2,fun j hj=>g3 j hj⟩
  .exact h.elim
 .exact h.elim
theorem madeCells_get (z:Value) (n j:Nat) (h:j<n):(madeCells #[z] n)[j]? =some z:=by
 unfold madeCells
 simp [h,Nat.mod_one]
theorem wp_makeSlice (hτ:TyOk P τ) (hs:Sat w bs A a N st) (hm:m<=bs.length) {o:Oper} {K:St->Prop} {Kc:Act->World->Prop} {Q:Exit->Act->World->Prop} (hK:Nxt m N w bs A K Kc) {T:TypeId} {l c:Operand} (ho:o.op=.makeSlice T l c)
 (h:match τ T,evl st.env l,evl st.env c with
 |.one (.sl t) e,.d _ .int x,.d _ .int y=>∃l n:Nat,x=(l:Int)/\y=(n:Int)/\l<=n/\n<=1099511627776/\putK N o.dst (.ow (cnt st.rows)) ⟨st.env,st.rows++[.sl e t (List.replicate l t.dflt)]⟩ K
 |_,_,_=>False):o.wp P a w Kc Q:=by
 rw [cnt_eq] at h
 have hl:=evl_ok hs l
 have hc:=evl_ok hs c
 split at h
 .rename_i t e _ x _ y hT hle hce
  rw [hle] at hl
  rw [hce] at hc
  obtain ⟨l',n,rfl,rfl,hln,hn,h⟩:=h
  obtain ⟨⟨hu,e',he⟩,_⟩:=hτ.one _ _ _ hT
  obtain ⟨_,i,hi,hs1,hz,hby⟩:=hτ.one _ _ _ he
  rw [Ty.base_zv] at hz
  rw [Ty.base_by] at hby
  have hby2:=t.by_le
  have hl':a.eval l=.int .i64 (l':Int):=hl
  have hc':a.eval c=.int .i64 (n:Int):=hc
  have hmul:t.by*n<=24*n:=Nat.mul_le_mul_right _ hby2
  have hb3:(i.bytes:Int)*(n:Int)<=281474976710656:=by
   rw [hby,<-Int.natCast_mul]
   omega
  have hr:=run_make (P:=P) (w:=w) T e i t.zv hu hi hz .i64 .i64 (l':Int) (n:Int) (by omega) (by omega) hb3 (by omega)
  rw [hs1,zv_cells] at hr
  simp only [Int.toNat_natCast,Nat.mul_one] at hr
  have hp:=Plus.alloc w (.cells (madeCells #[t.zv] n) e)
  have hst:=hs.pushSl (m:=m) (t:=t) (xs:=List.replicate l' t.dflt) hm hp (by simp [size_madeCells];omega) (by rw [size_madeCells];simp [maxLen];omega) (fun j hj=>⟨t.zv,by
   have hj2:j<l':=by simpa using hj
   exact madeCells_get _ _ _ (by omega),by
   have e:(List.replicate l' t.dflt)[j]'hj=t.dflt:=List.getElem_replicate hj
   rw [e];exact zv_rd w A t⟩) (Dst_zv fun j hj=>madeCells_get _ _ _ (by
    have:j<l':=by simpa using hj
    omega))
  refine wp_of_run (v:=.slice (some ⟨w.heap.size,0,none⟩) l' n) (w':=w.alloc (.cells (madeCells #[t.zv] n) e)) ?_ (hK.of hst.1 hst.2 (av:=.ow st.rows.length) ?_ h)
  .simp only [execOp,ho,hl',hc',Sem.run_bind,hr,Result.andThen_ok,Sem.run_pure]
  .have:=V_ow_new hs (t:=t) (xs:=List.replicate l' t.dflt) hp
   rw [size_madeCells] at this
   simpa using this
 .exact h.elim
end
theorem nodup_ix {bs:List Nat} (hn:bs.Nodup) {i j b:Nat} (hi:bs[i]? =some b) (hj:bs[j]? =some b):i=j:=by
 have h1:=List.getElem?_eq_some_iff.1 hi
 have h2:=List.getElem?_eq_some_iff.1 hj
 exact (List.getElem_inj (h₀:=h1.1) (h₁:=h2.1) hn).1 (by rw [h1.2,h2.2])
theorem nodup_set {bs:List Nat} (hn:bs.Nodup) {i b b':Nat} (hi:bs[i]? =some b) (hb:b'=b\/b'∉bs):(bs.set i b').Nodup:=by
 rcases hb with rfl|hb
 .have h1:=List.getElem?_eq_some_iff.1 hi
  have:bs.set i b'=bs:=by
   apply List.ext_getElem
   .simp
   .intro k h2 h3
    rw [List.getElem_set]
    split
    .rename_i e;subst e;exact h1.2.symm
    .rfl
  rw [this];exact hn
 .rw [List.nodup_iff_pairwise_ne,List.pairwise_iff_getElem]
  intro x y hx hy hxy
  simp only [List.getElem_set]
  have hx':x<bs.length:=by simpa using hx
  have hy':y<bs.length:=by simpa using hy
  split
  .split
   .omega
   .intro e
    exact hb (e ▸ List.getElem_mem hy')
  .split
   .intro e
    exact hb (e ▸ List.getElem_mem hx')
   .intro e
    have:=(List.getElem_inj (h₀:=hx') (h₁:=hy') hn).1 e
    omega
theorem boxFree_ok {i:Nat}:∀{l:List Row},boxFree i l=true->∀(j:Nat) (e:TypeId) (av:AV),l[j]? =some (.box e av)->i∉av.hs
 |[],_,j,e,av,h=>by simp at h
 |.box e' v::l,hb,0,e,av,h=>by
  simp at h
  obtain ⟨rfl,rfl⟩:=h
  simp [boxFree] at hb
  exact hb.1
 |.box e' v::l,hb,j+1,e,av,h=>by
  simp [boxFree] at hb
  exact boxFree_ok hb.2 j e av (by simpa using h)
 |.sl _ _ _::l,hb,0,e,av,h=>by simp at h
 |.sl _ _ _::l,hb,j+1,e,av,h=>boxFree_ok (by simpa [boxFree] using hb) j e av (by simpa using h)
 |.tz _ _::l,hb,0,e,av,h=>by simp at h
 |.tz _ _::l,hb,j+1,e,av,h=>boxFree_ok (by simpa [boxFree] using hb) j e av (by simpa using h)
 |.dead::l,hb,0,e,av,h=>by simp at h
 |.dead::l,hb,j+1,e,av,h=>boxFree_ok (by simpa [boxFree] using hb) j e av (by simpa using h)
theorem look_killE (i:Nat):∀(env:List (Nat × AV)) (t:Nat),look (killE i env) t=.any\/(look (killE i env) t=look env t/\i∉(look env t).hs)
 |[],t=>.inl rfl
 |(u,v)::env,t=>by
  rw [killE,look_cons,look_cons]
  by_cases h:u=t
  .rw [if_pos h,if_pos h]
   unfold killH
   split
   .exact .inl rfl
   .rename_i hc
    exact .inr ⟨rfl,by simpa using hc⟩
  .rw [if_neg h,if_neg h]
   exact look_killE i env t
section
variable {P:Program} {τ:Nat->TI} {m N:Nat} {w w':World} {bs:List Nat} {A:Nat->Prop} {a:Act} {st:St}
theorem Sat.append (hs:Sat w bs A a N st) {i b b' e:Nat} {t:Ty} {xs ys:List t.T} {cur cur':Array Value} {news:List Value} (hb:bs[i]? =some b) (hr:st.rows[i]? =some (.sl e t xs)) (hmi:m<=i) (hbox:boxFree i st.rows=true)
 (hle:xs.length<=cur.size) (hcells:∀j (h:j<xs.length),∃cv,cur[j]? =some cv/\Rd w A t xs[j] cv)
 (hnl:news.length=ys.length) (hnews:∀j (hj:j<ys.length),∃cv,news[j]? =some cv/\Rd w A t ys[j] cv) {M:Nat} (ha:Apd M w b xs.length cur e news w' b' cur') (hM:M<=t.mx) (hd:Dst t cur' (xs.length+ys.length)):
 Sat w' (bs.set i b') A a N ⟨killE i st.env,st.rows.set i (.sl e t (xs++ys))⟩/\Stp m w bs A w' (bs.set i b') A/\
 V w' (bs.set i b') A (st.rows.set i (.sl e t (xs++ys))) (.ow i) (.slice (some ⟨b',0,none⟩) (xs++ys).length cur'.size):=by
 have hA:¬A b:=(hs.row i b _ hb hr).1
 have hil:i<bs.length:=(List.getElem?_eq_some_iff.1 hb).1
 have hil2:i<st.rows.length:=(List.getElem?_eq_some_iff.1 hr).1
 have hbl:b<w.heap.size:=hs.lt b (List.mem_of_getElem? hb)
 have hA':¬A b':=by
  rcases ha.which with h|h
  .rw [h];exact hA
  .intro hh;have:=hs.old _ hh;omega
 have hb'n:b'=b\/b'∉bs:=by
  rcases ha.which with h|h
  .exact .inl h
  .right;intro hh;have:=hs.lt _ hh;omega
 have k:Kp w bs A st.rows w' (bs.set i b') A (st.rows.set i (.sl e t (xs++ys))) (fun j=>j≠i/\j<bs.length):=
  {a:=fun b2 h2 hlt=>⟨ha.old b2 hlt (fun e=>hA (e ▸ h2)),h2⟩
   n:=fun b2 h2 hlt=>⟨ha.old b2 hlt (fun e=>h2 (e ▸ List.mem_of_getElem? hb)),fun hm=>by
    rcases List.mem_or_eq_of_mem_set hm with h3|h3
    .exact h2 h3
    .rcases ha.which with h4|h4
     .exact h2 (by rw [h3,h4];exact List.mem_of_getElem? hb)
     .omega⟩
   h:=fun j hj=>⟨by rw [List.getElem?_set_ne (fun e=>hj.1 e.symm)],fun r' hr'=>⟨r',by rw [List.getElem?_set_ne (fun e=>hj.1 e.symm)];exact hr',rfl,(fun e t xs hx=>⟨xs,hx⟩),fun e xs hx=>⟨xs,hx⟩⟩,
    fun b2 cur2 e2 hb2 hc2=>⟨cur2,by
     rw [ha.old b2 (hs.lt b2 (List.mem_of_getElem? hb2)) (fun e=>hj.1 (nodup_ix hs.nodup (e ▸ hb2) hb))]
     exact hc2,rfl⟩⟩}
 have hrowN:RowR w' (bs.set i b') A (st.rows.set i (.sl e t (xs++ys))) b' (.sl e t (xs++ys)):=by
  refine ⟨hA',cur',ha.new,by have:=ha.len;simp;omega,Nat.le_trans ha.max hM,fun j hj=>?_,by rw [List.length_append];exact hd⟩
  have hj':j<xs.length+ys.length:=by simpa using hj
  have hcj:cur'[j]? =(cur.toList.take xs.length++news)[j]? :=by
   rw [<-ha.take,List.getElem?_take,if_pos (by omega)]
   simp
  have hext:=Rd.ext (w:=w) (w':=w') (S:=A) (S':=A) (fun b2 h2 hlt=>⟨ha.old b2 hlt (fun e=>hA (e ▸ h2)),h2⟩) t
  by_cases h1:j<xs.length
  .obtain ⟨cv,g1,g2⟩:=hcells j h1
   refine ⟨cv,?_,?_⟩
   .rw [hcj,List.getElem?_append_left (by simp;omega),List.getElem?_take,if_pos h1]
    simpa using g1
   .have e1:(xs++ys)[j]'hj=xs[j]:=List.getElem_append_left h1
    rw [e1];exact hext _ _ g2
  .obtain ⟨cv,g1,g2⟩:=hnews (j-xs.length) (by omega)
   refine ⟨cv,?_,?_⟩
   .have hl2:(cur.toList.take xs.length).length=xs.length:=by simp;omega
    rw [hcj,List.getElem?_append_right (by omega),hl2]
    exact g1
   .have e1:(xs++ys)[j]'hj=ys[j-xs.length]'(by omega):=List.getElem_append_right (by omega)
    rw [e1];exact hext _ _ g2
 refine ⟨?_,?_,?_⟩
 .refine hs.change k ⟨by simp [hs.len],nodup_set hs.nodup hb hb'n,?_,fun b2 h2=>by have:=hs.old b2 h2;have:=ha.size;omega,?_⟩ (fun t=>?_)
  .intro b2 h2
   have:=ha.size
   rcases List.mem_or_eq_of_mem_set h2 with h3|h3
   .have:=hs.lt b2 h3;omega
   .rw [h3];exact ha.lt
  .intro j b2 r2 hb2 hr2
   by_cases e1:i=j
   .subst e1
    rw [List.getElem?_set_self (by exact hil)] at hb2
    rw [List.getElem?_set_self (by exact hil2)] at hr2
    cases hb2;cases hr2
    exact hrowN
   .rw [List.getElem?_set_ne e1] at hb2
    rw [List.getElem?_set_ne e1] at hr2
    refine RowR.keep k (ha.old b2 (hs.lt b2 (List.mem_of_getElem? hb2)) (fun e=>e1 (nodup_ix hs.nodup hb (e ▸ hb2)))) (fun h=>h) (fun e2 av e3 j2 hj2=>?_) (hs.row j b2 r2 hb2 hr2)
    subst e3
    exact ⟨fun e4=>boxFree_ok hbox j e2 av hr2 (e4 ▸ hj2),hs.boxlt hb2 hr2 e2 av rfl j2 hj2⟩
  .rcases look_killE i st.env t with h|⟨h,h2⟩
   .exact .inl h
   .exact .inr ⟨h,fun j hj hlt=>⟨fun e=>h2 (e ▸ hj),hlt⟩⟩
 .exact {
   os:=ha.os,tape:=ha.tape,output:=ha.output,size:=ha.size,block:=fun k hk hn=>ha.old k hk (fun e=>hn (e ▸ List.mem_of_getElem? hb)),
   sbs:=fun b2 h2=>by
    rcases List.mem_or_eq_of_mem_set h2 with h3|h3
    .exact .inl h3
    .rcases ha.which with h4|h4
     .left;rw [h3,h4];exact List.mem_of_getElem? hb
     .right;omega
   sA:=fun b hb=>.inl hb,tk:=by rw [List.take_set_of_le hmi],
   st:=fun b2 h2 cur2 e2 hc2=>⟨cur2,by
    obtain ⟨j,hj,hj2⟩:=List.getElem_of_mem h2
    have hj3:j<m:=by simp at hj;omega
    have hbj:bs[j]? =some b2:=by
     rw [List.getElem_take] at hj2
     rw [<-hj2];simp
    rw [ha.old b2 (hs.lt b2 (List.mem_of_mem_take h2)) (fun e=>by have:=nodup_ix hs.nodup (e ▸ hbj) hb;omega)]
    exact hc2,rfl⟩
   up:=fun _ h=>h}
 .exact ⟨b',e,t,xs++ys,cur',List.getElem?_set_self (by exact hil),List.getElem?_set_self (by exact hil2),ha.new,rfl⟩
theorem elemsT_ok (hs:Sat w bs A a N st) {y:AV} {vy:Value} {ys:List Tm} (hy:V w bs A st.rows y vy) (h:elemsT st.rows y=some ys):
 ∃news,Src2 w A vy ys news/\news.length=2*ys.length/\∀j (hj:j<ys.length),∃c1 c2,news[2*j]? =some c1/\news[2*j+1]? =some c2/\RdP w A ys[j] c1 c2:=by
 have key:∀(b o c:Nat) (zs:List Tm),CellsP w A b o zs->vy=.slice (some ⟨b,o,none⟩) zs.length c->
  ∃news,Src2 w A vy zs news/\news.length=2*zs.length/\∀j (hj:j<zs.length),∃c1 c2,news[2*j]? =some c1/\news[2*j+1]? =some c2/\RdP w A zs[j] c1 c2:=by
  intro b o c zs hc hv
  obtain ⟨l,hl,hp⟩:=exList (2*zs.length) (fun j cv=>w.cell? ⟨b,o+j,none⟩=some cv) (fun j hj=>by
   obtain ⟨c1,c2,h1,h2,_⟩:=hc (j / 2) (by omega)
   have hm:j=2*(j / 2)\/j=2*(j / 2)+1:=by omega
   rcases hm with e1|e1
   .exact ⟨c1,by rw [e1];exact h1⟩
   .exact ⟨c2,by rw [e1];exact h2⟩)
  refine ⟨l,⟨.inl ⟨⟨b,o,none⟩,c,hv,fun j v hv=>?_⟩⟩,hl,fun j hj=>?_⟩
  .obtain ⟨h1,h2⟩:=List.getElem?_eq_some_iff.1 hv
   rw [addr_add,hp j h1,h2]
  .obtain ⟨c1,c2,h1,h2,h3⟩:=hc j hj
   have l1:2*j<l.length:=by omega
   have l2:2*j+1<l.length:=by omega
   have k1:=hp (2*j) l1
   have k2:=hp (2*j+1) l2
   rw [h1] at k1;cases k1
   rw [show o+(2*j+1)=o+2*j+1 by omega,h2] at k2;cases k2
   exact ⟨l[2*j],l[2*j+1],by simp [l1],by simp [l2],h3⟩
 unfold elemsT at h
 split at h
 .cases h
  obtain ⟨ad,cap,h1,h2,h3,h4⟩:=hy
  rcases h4 with h4|⟨b,o,rfl,hS,hc⟩
  .subst h4
   refine ⟨[],⟨?_⟩,rfl,fun j hj=>by simp at hj⟩
   cases ad with
   |none=>right;exact ⟨by rw [h1,h3 rfl];rfl,rfl⟩
   |some ad=>left;exact ⟨ad,cap,h1,fun j v hv=>by simp at hv⟩
  .exact key b o cap _ hc h1
 .rename_i i
  split at h
  .rename_i e zs hr
   cases h
   obtain ⟨b,e3,xs3,cur,hb,hr3,hcur,hv⟩:=hy
   rw [hr] at hr3;cases hr3
   obtain ⟨_,cur2,_,_,_,hc⟩:=hs.row i b _ hb hr
   exact key b 0 _ _ hc hv
  .cases h
 .rename_i i lo hi
  split at h
  .rename_i e zs hr
   cases h
   obtain ⟨b,e3,xs3,cur,o,hb,hr3,hcur,h1,h2,hv,ho⟩:=hy
   rw [hr] at hr3;cases hr3
   obtain ⟨_,cur2,_,_,_,hc⟩:=hs.row i b _ hb hr
   have hlen:(List.drop lo (List.take hi zs)).length=hi-lo:=by simp;omega
   refine key b o (cur.size / 2-lo) _ (fun j hj=>?_) (by rw [hlen];exact hv)
   rw [hlen] at hj
   have ho2:o=2*lo:=by rcases ho with ho|ho<;>omega
   obtain ⟨c1,c2,g1,g2,g3⟩:=hc (lo+j) (by omega)
   have e1:(List.drop lo (List.take hi zs))[j]'(by omega)=zs[lo+j]'(by omega):=by simp
   have e2:o+2*j=0+2*(lo+j):=by omega
   exact ⟨c1,c2,by rw [e2];exact g1,by rw [e2];exact g2,by rw [e1];exact g3⟩
  .cases h
 .cases h
theorem Sat.append2 (hs:Sat w bs A a N st) {i b b' e:Nat} {xs ys:List Tm} {cur cur':Array Value} {news:List Value} (hb:bs[i]? =some b) (hr:st.rows[i]? =some (.tz e xs)) (hmi:m<=i) (hbox:boxFree i st.rows=true)
 (hle:2*xs.length<=cur.size) (hcells:CellsP w A b 0 xs) (hcurw:w.heap[b]? =some (.cells cur e (0,0))) (hpar':cur'.size % 2=0)
 (hnl:news.length=2*ys.length) (hnews:∀j (hj:j<ys.length),∃c1 c2,news[2*j]? =some c1/\news[2*j+1]? =some c2/\RdP w A ys[j] c1 c2)
 (ha:w'.os=w.os/\w'.tape=w.tape/\w'.output=w.output/\w.heap.size<=w'.heap.size/\b'<w'.heap.size/\(∀k,k<w.heap.size->k≠b->w'.heap[k]? =w.heap[k]?)/\w'.heap[b']? =some (.cells cur' e (0,0))/\(b'=b\/b'=w.heap.size)/\
  2*xs.length+news.length<=cur'.size/\cur'.toList.take (2*xs.length+news.length)=cur.toList.take (2*xs.length)++news):
 Sat w' (bs.set i b') A a N ⟨killE i st.env,st.rows.set i (.tz e (xs++ys))⟩/\Stp m w bs A w' (bs.set i b') A/\
 V w' (bs.set i b') A (st.rows.set i (.tz e (xs++ys))) (.x (.oz i)) (.slice (some ⟨b',0,none⟩) (xs++ys).length (cur'.size / 2)):=by
 obtain ⟨aos,atape,aout,asize,alt,aold,anew,awhich,alen,atake⟩:=ha
 have hA:¬A b:=(hs.row i b _ hb hr).1
 have hil:i<bs.length:=(List.getElem?_eq_some_iff.1 hb).1
 have hil2:i<st.rows.length:=(List.getElem?_eq_some_iff.1 hr).1
 have hbl:b<w.heap.size:=hs.lt b (List.mem_of_getElem? hb)
 have hA':¬A b':=by
  rcases awhich with h|h
  .rw [h];exact hA
  .intro hh;have:=hs.old _ hh;omega
 have hb'n:b'=b\/b'∉bs:=by
  rcases awhich with h|h
  .exact .inl h
  .right;intro hh;have:=hs.lt _ hh;omega
 have k:Kp w bs A st.rows w' (bs.set i b') A (st.rows.set i (.tz e (xs++ys))) (fun j=>j≠i/\j<bs.length):=
  {a:=fun b2 h2 hlt=>⟨aold b2 hlt (fun e=>hA (e ▸ h2)),h2⟩
   n:=fun b2 h2 hlt=>⟨aold b2 hlt (fun e=>h2 (e ▸ List.mem_of_getElem? hb)),fun hm=>by
    rcases List.mem_or_eq_of_mem_set hm with h3|h3
    .exact h2 h3
    .rcases awhich with h4|h4
     .exact h2 (by rw [h3,h4];exact List.mem_of_getElem? hb)
     .omega⟩
   h:=fun j hj=>⟨by rw [List.getElem?_set_ne (fun e=>hj.1 e.symm)],fun r' hr'=>⟨r',by rw [List.getElem?_set_ne (fun e=>hj.1 e.symm)];exact hr',rfl,(fun e t xs hx=>⟨xs,hx⟩),fun e xs hx=>⟨xs,hx⟩⟩,
    fun b2 cur2 e2 hb2 hc2=>⟨cur2,by
     rw [aold b2 (hs.lt b2 (List.mem_of_getElem? hb2)) (fun e=>hj.1 (nodup_ix hs.nodup (e ▸ hb2) hb))]
     exact hc2,rfl⟩⟩}
 have hrowN:RowR w' (bs.set i b') A (st.rows.set i (.tz e (xs++ys))) b' (.tz e (xs++ys)):=by
  refine ⟨hA',cur',anew,by simp;omega,hpar',fun j hj=>?_⟩
  have hj':j<xs.length+ys.length:=by simpa using hj
  have hext:∀b2,A b2->b2<w.heap.size->w'.heap[b2]? =w.heap[b2]?/\A b2:=fun b2 h2 hlt=>⟨aold b2 hlt (fun e=>hA (e ▸ h2)),h2⟩
  have hcj:∀q,q<2*xs.length+news.length->w'.cell? ⟨b',q,none⟩=(cur.toList.take (2*xs.length)++news)[q]? :=by
   intro q hq
   rw [cell_of_row w' b' q cur' e (0,0) anew,<-atake,List.getElem?_take,if_pos hq]
   simp
  have hl2:(cur.toList.take (2*xs.length)).length=2*xs.length:=by simp;omega
  by_cases h1:j<xs.length
  .obtain ⟨c1,c2,g1,g2,g3⟩:=hcells j h1
   rw [cell_of_row w b _ cur e (0,0) hcurw] at g1 g2
   have e1:(xs++ys)[j]'hj=xs[j]:=List.getElem_append_left h1
   refine ⟨c1,c2,?_,?_,by rw [e1];exact g3.ext hext⟩
   .rw [hcj _ (by omega),List.getElem?_append_left (by omega),List.getElem?_take,if_pos (by omega)]
    simpa using g1
   .rw [hcj _ (by omega),List.getElem?_append_left (by omega),List.getElem?_take,if_pos (by omega)]
    simpa using g2
  .obtain ⟨c1,c2,g1,g2,g3⟩:=hnews (j-xs.length) (by omega)
   have e1:(xs++ys)[j]'hj=ys[j-xs.length]'(by omega):=List.getElem_append_right (by omega)
   refine ⟨c1,c2,?_,?_,by rw [e1];exact g3.ext hext⟩
   .rw [hcj _ (by omega),List.getElem?_append_right (by omega),hl2,show 0+2*j-2*xs.length=2*(j-xs.length) by omega]
    exact g1
   .rw [hcj _ (by omega),List.getElem?_append_right (by omega),hl2,show 0+2*j+1-2*xs.length=2*(j-xs.length)+1 by omega]
    exact g2
 refine ⟨?_,?_,?_⟩
 .refine hs.change k ⟨by simp [hs.len],nodup_set hs.nodup hb hb'n,?_,fun b2 h2=>by have:=hs.old b2 h2;omega,?_⟩ (fun t=>?_)
  .intro b2 h2
   rcases List.mem_or_eq_of_mem_set h2 with h3|h3
   .have:=hs.lt b2 h3;omega
   .rw [h3];exact alt
  .intro j b2 r2 hb2 hr2
   by_cases e1:i=j
   .subst e1
    rw [List.getElem?_set_self (by exact hil)] at hb2
    rw [List.getElem?_set_self (by exact hil2)] at hr2
    cases hb2;cases hr2
    exact hrowN
   .rw [List.getElem?_set_ne e1] at hb2
    rw [List.getElem?_set_ne e1] at hr2
    refine RowR.keep k (aold b2 (hs.lt b2 (List.mem_of_getElem? hb2)) (fun e=>e1 (nodup_ix hs.nodup hb (e ▸ hb2)))) (fun h=>h) (fun e2 av e3 j2 hj2=>?_) (hs.row j b2 r2 hb2 hr2)
    subst e3
    exact ⟨fun e4=>boxFree_ok hbox j e2 av hr2 (e4 ▸ hj2),hs.boxlt hb2 hr2 e2 av rfl j2 hj2⟩
  .rcases look_killE i st.env t with h|⟨h,h2⟩
   .exact .inl h
   .exact .inr ⟨h,fun j hj hlt=>⟨fun e=>h2 (e ▸ hj),hlt⟩⟩
 .exact {
   os:=aos,tape:=atape,output:=aout,size:=asize,block:=fun k hk hn=>aold k hk (fun e=>hn (e ▸ List.mem_of_getElem? hb)),
   sbs:=fun b2 h2=>by
    rcases List.mem_or_eq_of_mem_set h2 with h3|h3
    .exact .inl h3
    .rcases awhich with h4|h4
     .left;rw [h3,h4];exact List.mem_of_getElem? hb
     .right;omega
   sA:=fun b hb=>.inl hb,tk:=by rw [List.take_set_of_le hmi],
   st:=fun b2 h2 cur2 e2 hc2=>⟨cur2,by
    obtain ⟨j,hj,hj2⟩:=List.getElem_of_mem h2
    have hj3:j<m:=by simp at hj;omega
    have hbj:bs[j]? =some b2:=by
     rw [List.getElem_take] at hj2
     rw [<-hj2];simp
    rw [aold b2 (hs.lt b2 (List.mem_of_mem_take h2)) (fun e=>by have:=nodup_ix hs.nodup (e ▸ hbj) hb;omega)]
    exact hc2,rfl⟩
   up:=fun _ h=>h}
 .exact ⟨b',e,xs++ys,cur',List.getElem?_set_self (by exact hil),List.getElem?_set_self (by exact hil2),anew,rfl⟩
theorem wp_buildT (hτ:TyOk P τ) (hs:Sat w bs A a N st) (hm:m<=bs.length) {o:Oper} {K:St->Prop} {Kc:Act->World->Prop} {Q:Exit->Act->World->Prop} (hK:Nxt m N w bs A K Kc) {T:TypeId} {n:Nat} {parts:Array (Nat × Operand)} (ho:o.op=.buildSlice T n parts)
 {e:Nat} (hT:τ T=.tz e) (h:buildT N o.dst e n parts.toList K st):o.wp P a w Kc Q:=by
 unfold buildT at h
 rw [cnt_eq] at h
 obtain ⟨hu,hte,i,hi,h1,hz,_⟩:=hτ.tz _ _ hT
 split at h
 .rename_i hp
  obtain ⟨rfl,h⟩:=h
  have hpe:parts= #[]:=by rw [<-Array.toArray_toList (xs:=parts),hp]
  have hpl:=Plus.alloc w (.cells #[] e)
  have hst:=hs.push (m:=m) (r:=.tz e []) hm hpl ⟨fun hA=>by have:=hs.old _ hA;omega,#[],hpl.new,by simp,rfl,fun j hj=>by simp at hj⟩
  refine wp_of_run (v:=.slice (some ⟨w.heap.size,0,none⟩) 0 0) (w':=w.alloc (.cells #[] e)) ?_ (hK.of hst.1 hst.2 (av:=.x (.oz st.rows.length)) ?_ h)
  .simp only [execOp,ho,hpe,Instr.buildSlice,Sem.run_bind,run_underlying hu,Result.andThen_ok,sizeOf,run_info hi,h1,Sem.run_pure]
   simp [newRow,Instr.fill]
   rw [show Array.range 0= #[] from Array.toList_inj.1 (by rw [Array.toList_range];rfl),Array.map_empty]
  .exact ⟨w.heap.size,e,[],#[],by rw [<-hs.len];simp,by simp,hpl.new,rfl⟩
 .rename_i x hp
  obtain ⟨rfl,h⟩:=h
  have hx:=evl_ok hs x
  split at h
  .rename_i l c he
   rw [he] at hx
   obtain ⟨cs,hv,hsz,hcs⟩:=hx
   obtain ⟨c1,k1,k2⟩:=hcs 0 (by simp)
   obtain ⟨c2,k3,k4⟩:=hcs 1 (by simp)
   have hcs2:cs= #[c1,c2]:=by
    apply Array.ext_getElem?
    intro j
    match j with
    |0=>rw [k1];rfl
    |1=>rw [k3];rfl
    |j+2=>rw [Array.getElem?_eq_none (by rw [hsz];simp)];rfl
   have hpe:parts= #[(0,x)]:=by rw [<-Array.toArray_toList (xs:=parts),hp]
   have hpl:=Plus.alloc w (.cells #[c1,c2] e)
   have hst:=hs.pushA (m:=m) hpl
   refine wp_of_run (v:=.slice (some ⟨w.heap.size,0,none⟩) 1 1) (w':=w.alloc (.cells #[c1,c2] e)) ?_ (hK.of hst.1 hst.2 (av:=.x (.dz true [(l,c)])) ?_ h)
   .simp only [execOp,ho,hpe,Instr.buildSlice,Sem.run_bind,run_underlying hu,Result.andThen_ok,sizeOf,run_info hi,h1,Sem.run_pure,zeroValue]
    simp [newRow,Instr.fill,hv,hcs2,Value.cells,run_info hi,hz]
    rw [show Array.range 2= #[0,1] from Array.toList_inj.1 (by rw [Array.toList_range];rfl)]
    simp
   .refine ⟨some ⟨w.heap.size,0,none⟩,1,rfl,Nat.le_refl _,(fun hh=>by simp at hh),.inr ⟨w.heap.size,0,rfl,.inr rfl,fun j hj=>?_⟩⟩
    obtain rfl:j=0:=by simpa using hj
    have hext:∀b,A b->b<w.heap.size->(w.alloc (.cells #[c1,c2] e)).heap[b]? =w.heap[b]?/\(A b\/b=w.heap.size):=fun b hb hlt=>⟨hpl.old b hlt,.inl hb⟩
    refine ⟨c1,c2,?_,?_,RdI.ext hext k2,k4⟩
    .rw [cell_of_row _ w.heap.size _ _ e (0,0) hpl.new];rfl
    .rw [cell_of_row _ w.heap.size _ _ e (0,0) hpl.new];rfl
  .exact h.elim
 .exact h.elim
def XT.val:(t:XT)->t.T->Value
 |.tr,x=>.agg #[.int .i64 x.1,.int .i64 x.2.1,.int .i64 x.2.2]
 |.fn,f=>.func (.func f) #[] #[]
def mkP (t:XT):Nat->List t.T->List (Nat × Value)
 |_,[]=>[]
 |i,x::l=>(i,t.val x)::mkP t (i+1) l
theorem collX_ok (hs:Sat w bs A a N st):∀(t:XT) (l:List (Nat × Operand)) (i:Nat) (xs:List t.T),collX st.env t i l=some xs->l.map (fun p=>(p.1,a.eval p.2))=mkP t i xs
 |.tr,[],i,xs,h=>by rw [collX] at h;cases h;rfl
 |.fn,[],i,xs,h=>by rw [collX] at h;cases h;rfl
 |.tr,(j,x)::l,i,xs,h=>by
  rw [collX] at h
  have hx:=evl_ok hs x
  split at h
  .rename_i x0 x1 x2 r hb he hr
   cases h
   rw [he] at hx
   obtain ⟨cs,hv,hsz,hcs⟩:=hx
   obtain ⟨v0,k0,e0⟩:=hcs 0 (by simp)
   obtain ⟨v1,k1,e1⟩:=hcs 1 (by simp)
   obtain ⟨v2,k2,e2⟩:=hcs 2 (by simp)
   have hij:i=j:=Nat.eq_of_beq_eq_true hb
   rw [List.map_cons,collX_ok hs .tr l (i+1) r hr,mkP,hij]
   have h3:=agg3 (by simpa using hsz) k0 k1 k2
   rw [show a.eval x=XT.val .tr (x0,x1,x2) from by rw [hv,h3];cases e0;cases e1;cases e2;rfl]
  .cases h
 |.fn,(j,x)::l,i,xs,h=>by
  rw [collX] at h
  have hx:=evl_ok hs x
  split at h
  .rename_i f r hb he hr
   cases h
   rw [he] at hx
   obtain ⟨vs,hv,hvs⟩:=hx
   have hvs:vs=[]:=hvs
   subst hvs
   have hij:i=j:=Nat.eq_of_beq_eq_true hb
   rw [List.map_cons,collX_ok hs .fn l (i+1) r hr,mkP,hij]
   rw [show a.eval x=XT.val .fn f from hv]
  .cases h
theorem fillX_ok (t:XT):∀(xs:List t.T) (i:Nat) (cells:Array Value),t.n*(i+xs.length)<=cells.size->
 ∃c',Instr.fill (fun i=>some (i*t.n,t.n)) cells (mkP t i xs)=some c'/\c'.size=cells.size/\(∀j (h:j<xs.length) q,q<t.n->c'[t.n*(i+j)+q]? =some (t.cell (xs[j]'h) q))/\∀k,k<t.n*i->c'[k]? =cells[k]?
 |[],i,cells,_=>⟨cells,rfl,rfl,fun j h=>by simp at h,fun _ _=>rfl⟩
 |x::xs,i,cells,hsz=>by
  have step:∃c1:Array Value,((t.val x).cells.zipIdx.foldl (fun cs (p:Value × Nat)=>cs.setIfInBounds (i*t.n+p.2) p.1) cells)=c1/\c1.size=cells.size/\(∀q,q<t.n->c1[t.n*i+q]? =some (t.cell x q))/\∀k,k<t.n*i->c1[k]? =cells[k]? :=by
   cases t with
   |tr=>
    have hsz:3*(i+(xs.length+1))<=cells.size:=hsz
    refine ⟨((cells.setIfInBounds (i*3+0) (.int .i64 x.1)).setIfInBounds (i*3+1) (.int .i64 x.2.1)).setIfInBounds (i*3+2) (.int .i64 x.2.2),rfl,by simp,fun q hq=>?_,fun k hk=>?_⟩
    .show (((cells.setIfInBounds (i*3+0) (.int .i64 x.1)).setIfInBounds (i*3+1) (.int .i64 x.2.1)).setIfInBounds (i*3+2) (.int .i64 x.2.2))[3*i+q]? =_
     match q,hq with
     |0,_=>rw [Array.getElem?_setIfInBounds_ne (by omega),Array.getElem?_setIfInBounds_ne (by omega),show 3*i+0=i*3+0 by omega,Array.getElem?_setIfInBounds_self_of_lt (by omega)];rfl
     |1,_=>rw [Array.getElem?_setIfInBounds_ne (by omega),show 3*i+1=i*3+1 by omega,Array.getElem?_setIfInBounds_self_of_lt (by rw [Array.size_setIfInBounds];omega)];rfl
     |2,_=>rw [show 3*i+2=i*3+2 by omega,Array.getElem?_setIfInBounds_self_of_lt (by rw [Array.size_setIfInBounds,Array.size_setIfInBounds];omega)];rfl
    .have hk:k<3*i:=hk
     rw [Array.getElem?_setIfInBounds_ne (by omega),Array.getElem?_setIfInBounds_ne (by omega),Array.getElem?_setIfInBounds_ne (by omega)]
   |fn=>
    have hsz:1*(i+(xs.length+1))<=cells.size:=hsz
    refine ⟨cells.setIfInBounds (i*1+0) (.func (.func x) #[] #[]),rfl,by simp,fun q hq=>?_,fun k hk=>?_⟩
    .have hq0:q=0:=by have hq:q<1:=hq;omega
     subst hq0
     show (cells.setIfInBounds (i*1+0) (.func (.func x) #[] #[]))[1*i+0]? =_
     rw [show 1*i+0=i*1+0 by omega,Array.getElem?_setIfInBounds_self_of_lt (by omega)];rfl
    .have hk:k<1*i:=hk
     rw [Array.getElem?_setIfInBounds_ne (by omega)]
  obtain ⟨c1,e1,s1,p1,p2⟩:=step
  have hsz2:t.n*(i+1+xs.length)<=c1.size:=by rw [s1];rw [List.length_cons] at hsz;rw [show i+1+xs.length=i+(xs.length+1) by omega];exact hsz
  obtain ⟨c',g1,g2,g3,g4⟩:=fillX_ok t xs (i+1) c1 hsz2
  have hmul:t.n*(i+1)=t.n*i+t.n:=by rw [Nat.mul_add,Nat.mul_one]
  have hcs:(t.val x).cells.size=t.n:=by cases t<;>rfl
  refine ⟨c',?_,by rw [g2,s1],fun j hj q hq=>?_,fun k hk=>?_⟩
  .rw [mkP]
   unfold Instr.fill
   simp only
   rw [if_neg (by
    have hle:t.n*(i+1)<=t.n*(i+(x::xs).length):=Nat.mul_le_mul_left _ (by simp)
    have:=Nat.mul_comm i t.n
    simp [hcs];omega)]
   rw [e1]
   exact g1
  .cases j with
   |zero=>
    rw [Nat.add_zero,g4 _ (by omega),p1 q hq]
    rfl
   |succ j=>
    have:=g3 j (by simpa using hj) q hq
    rw [show i+(j+1)=i+1+j by omega,this]
    rfl
  .rw [g4 k (by omega),p2 k hk]
theorem wp_buildX (hτ:TyOk P τ) (hs:Sat w bs A a N st) (hm:m<=bs.length) {o:Oper} {K:St->Prop} {Kc:Act->World->Prop} {Q:Exit->Act->World->Prop} (hK:Nxt m N w bs A K Kc) {T:TypeId} {n:Nat} {parts:Array (Nat × Operand)} (ho:o.op=.buildSlice T n parts)
 {t:XT} {e:Nat} (hT:τ T=.xs t e) (h:buildX N o.dst t e n parts.toList K st):o.wp P a w Kc Q:=by
 unfold buildX at h
 rw [cnt_eq] at h
 obtain ⟨hu,i,z,hi,h1,hz,hzn,_⟩:=hτ.xs _ _ _ hT
 split at h
 .rename_i hp
  cases t with
  |fn=>exact h.elim
  |tr=>
  obtain ⟨rfl,h⟩:=h
  have hpe:parts= #[]:=by rw [<-Array.toArray_toList (xs:=parts),hp]
  have hpl:=Plus.alloc w (.cells #[] e)
  have hst:=hs.push (m:=m) (r:=.sl e .mix []) hm hpl ⟨fun hA=>by have:=hs.old _ hA;omega,#[],hpl.new,by simp,by simp [Ty.mx],⟨fun j hj=>by simp at hj,trivial⟩⟩
  refine wp_of_run (v:=.slice (some ⟨w.heap.size,0,none⟩) 0 0) (w':=w.alloc (.cells #[] e)) ?_ (hK.of hst.1 hst.2 (av:=.x (.oa st.rows.length)) ?_ h)
  .simp only [execOp,ho,hpe,Instr.buildSlice,Sem.run_bind,run_underlying hu,Result.andThen_ok,sizeOf,run_info hi,h1,Sem.run_pure]
   simp [newRow,Instr.fill]
   rw [show Array.range 0= #[] from Array.toList_inj.1 (by rw [Array.toList_range];rfl),Array.map_empty]
  .exact ⟨w.heap.size,e,[],#[],by rw [<-hs.len];simp,by simp,hpl.new,rfl,rfl,rfl⟩
 .rename_i p ps hp
  split at h
  .rename_i xs hc
   obtain ⟨hn,hn2,h⟩:=h
   rw [<-hp] at hc
   have hpm:=collX_ok hs t _ 0 xs hc
   have hne:xs≠[]:=fun e=>by
    subst e
    rw [hp] at hpm
    simp [mkP] at hpm
   have hpos:0<xs.length:=List.length_pos_iff.2 hne
   have hn0:0<t.n:=by cases t<;>decide
   have hn3:t.n<=3:=by cases t<;>decide
   have hnz:¬(n*t.n=0):=by
    have:=Nat.mul_pos (show 0<n by omega) hn0
    omega
   obtain ⟨c',g1,g2,g3,_⟩:=fillX_ok t xs 0 ((Array.range (n*t.n)).map fun k=>z.cells[k % z.cells.size]!) (by simp [hn,Nat.mul_comm])
   have hpl:=Plus.alloc w (.cells c' e)
   have hst:=hs.pushA (m:=m) hpl
   refine wp_of_run (v:=.slice (some ⟨w.heap.size,0,none⟩) n n) (w':=w.alloc (.cells c' e)) ?_ (hK.of hst.1 hst.2 (av:=.x (.xd t xs)) ?_ h)
   .simp only [execOp,ho,Instr.buildSlice,Sem.run_bind,run_underlying hu,Result.andThen_ok,sizeOf,run_info hi,h1,Sem.run_pure,zeroValue,hz]
    rw [if_neg (by
     have:n*t.n<=1000*3:=Nat.mul_le_mul hn2 hn3
     omega),if_neg hnz]
    simp only [Sem.run_bind,run_info hi,hz,Result.andThen_ok,Sem.run_pure,Array.toList_map,hpm,g1]
    simp [newRow]
   .refine ⟨some ⟨w.heap.size,0,none⟩,n,by rw [hn],by omega,.inr ⟨w.heap.size,0,rfl,.inr rfl,lt_of_heap hpl.new,fun j hj q hq=>?_⟩⟩
    rw [cell_of_row _ w.heap.size _ _ e (0,0) hpl.new]
    have:=g3 j hj q hq
    rw [Nat.zero_add] at this ⊢
    exact this
  .exact h.elim
theorem flat3_len:∀l:List (Int × Int × Int),(flat3 l).length=3*l.length
 |[]=>rfl
 |x::l=>by simp [flat3,flat3_len l];omega
theorem flat3_get:∀(l:List (Int × Int × Int)) (j:Nat) (h:j<l.length) (q:Nat),q<3->∃z:Int,(flat3 l)[3*j+q]? =some (.int z)/\XT.cell .tr l[j] q=.int .i64 z
 |x::l,0,h,q,hq=>by
  match q,hq with
  |0,_=>exact ⟨x.1,rfl,rfl⟩
  |1,_=>exact ⟨x.2.1,rfl,rfl⟩
  |2,_=>exact ⟨x.2.2,rfl,rfl⟩
 |x::l,j+1,h,q,hq=>by
  obtain ⟨z,h1,h2⟩:=flat3_get l j (by simpa using h) q hq
  refine ⟨z,?_,h2⟩
  rw [show 3*(j+1)+q=3*j+q+1+1+1 by omega]
  simpa [flat3] using h1
theorem wp_appX (hτ:TyOk P τ) (hs:Sat w bs A a N st) (hm:m<=bs.length) {o:Oper} {K:St->Prop} {Kc:Act->World->Prop} {Q:Exit->Act->World->Prop} (hK:Nxt m N w bs A K Kc) {T:TypeId} {e:Nat} (hT:τ T=.xs .tr e) {x y:Operand}
 (hexec:∀{v w'},(Builtin.append_ #[T,T] o.type #[a.eval x,a.eval y]).run P w=.ok v w'->(execOp a.eval o).run P w=.ok (.value v) w')
 (h:appX N m st o.dst e K (evl st.env y) (evl st.env x)):o.wp P a w Kc Q:=by
 have hx:=evl_ok hs x
 have hy:=evl_ok hs y
 unfold appX at h
 split at h
 .rename_i ys i hye hxe
  rw [hxe] at hx
  rw [hye] at hy
  split at h
  .rename_i e' xs hr
   obtain ⟨hmi,hee,hpos,hle,hbox,h⟩:=h
   rw [fEnv_eq] at h
   subst hee
   obtain ⟨b,e3,xs3,cur,hb,hr3,hcur,hxv,hx3,hc3⟩:=hx
   rw [hr] at hr3
   cases hr3
   obtain ⟨hA,cur2,hcur2,hlc,hmx,hcells⟩:=hs.row i b _ hb hr
   rw [hcur] at hcur2
   cases hcur2
   obtain ⟨ad,cap,hyv,hcap,hyc⟩:=hy
   have hyv:a.eval y=.slice ad (List.length ys) cap:=hyv
   obtain ⟨hu,inf,z,hi,h1,hz,hzn,hby⟩:=hτ.xs _ _ _ hT
   have h1:inf.size=3:=h1
   have hzn:z.cells.size=3:=hzn
   have hfl:=flat3_len ys
   have hlc:List.length xs<=cur.size:=hlc
   rcases hyc with rfl|⟨b2,o2,rfl,hS,hlt,hcl⟩
   .simp at hpos
   .obtain ⟨news,hnl,hnews⟩:=exList (3*List.length ys) (fun j (cv:Value)=>w.cell? ⟨b2,o2+j,none⟩=some cv/\∃zz,(flat3 ys)[j]? =some (.int zz)/\cv=.int .i64 zz) (fun j hj=>by
     have hq:j % 3<3:=Nat.mod_lt _ (by decide)
     have hj3:j / 3<List.length ys:=by omega
     have g:=hcl (j / 3) hj3 (j % 3) hq
     obtain ⟨zz,k1,k2⟩:=flat3_get ys (j / 3) hj3 (j % 3) hq
     have g:w.cell? ⟨b2,o2+3*(j / 3)+j % 3,none⟩=some (XT.cell .tr ys[j / 3] (j % 3)):=g
     rw [show o2+3*(j / 3)+j % 3=o2+j by omega,k2] at g
     rw [show 3*(j / 3)+j % 3=j by omega] at k1
     exact ⟨_,g,zz,k1,rfl⟩)
    have hone:∀u∈news,u.oneCell'=true:=by
     intro u hu
     obtain ⟨j,hj,rfl⟩:=List.getElem_of_mem hu
     obtain ⟨_,zz,_,k2⟩:=hnews j hj
     rw [k2];rfl
    have hnc:∀j v,news[j]? =some v->w.cell? ((⟨b2,o2,none⟩:Addr).add j)=some v:=by
     intro j v hv
     obtain ⟨g1,g2⟩:=List.getElem?_eq_some_iff.1 hv
     rw [addr_add,(hnews j g1).1,g2]
    have fin:∀(w':World) (b':Nat) (cur':Array Value),cur'.size % 3=0->Apd (3*maxLen) w b (List.length xs) cur e' news w' b' cur'->(Builtin.append_ #[T,T] o.type #[a.eval x,a.eval y]).run P w=.ok (.slice (some ⟨b',0,none⟩) (List.length xs / 3+List.length ys) (cur'.size / 3)) w'->o.wp P a w Kc Q:=by
     intro w' b' cur' hc3' hap hrun
     obtain ⟨s1,s2,s3⟩:=hs.append (m:=m) (t:=.mix) (ys:=flat3 ys) hb hr hmi hbox hlc hcells.c (by rw [hnl,hfl]) (fun j hj=>by
      obtain ⟨_,zz,k1,k2⟩:=hnews j (by omega)
      refine ⟨news[j]'(by omega),by simp,?_⟩
      obtain ⟨q1,q2⟩:=List.getElem?_eq_some_iff.1 k1
      have e9:(flat3 ys)[j]=.int zz:=q2
      show RdM w A (flat3 ys)[j] _
      rw [e9,k2];rfl) hap (Nat.le_refl _) trivial
     refine wp_of_run (hexec hrun) (hK.of s1 s2 (av:=.x (.oa i)) ?_ h)
     obtain ⟨b9,e9,t9,xs9,cur9,q1,q2,q3,q4⟩:=s3
     have hil:i<bs.length:=(List.getElem?_eq_some_iff.1 hb).1
     have hil2:i<st.rows.length:=(List.getElem?_eq_some_iff.1 hr).1
     have hal:List.length (List.append xs (flat3 ys))=List.length xs+3*List.length ys:=by
      have:List.length (xs++flat3 ys)=_:=List.length_append
      rw [hfl] at this
      exact this
     refine ⟨b',e',List.append xs (flat3 ys),cur',List.getElem?_set_self hil,List.getElem?_set_self hil2,hap.new,?_,by rw [hal];omega,hc3'⟩
     rw [hal,show (List.length xs+3*List.length ys) / 3=List.length xs / 3+List.length ys by omega]
    have hbl:b<w.heap.size:=hs.lt b (List.mem_of_getElem? hb)
    by_cases hroom:List.length xs / 3+List.length ys<=cur.size / 3
    .have hr:=run_append_room (P:=P) w T o.type e' inf hu hi b (List.length xs / 3) (cur.size / 3) cur hcur ⟨b2,o2,none⟩ (List.length ys) cap news (by rw [h1];omega) hnc hone hroom (by rw [h1];omega)
     rw [h1,show List.length xs / 3*3=List.length xs by omega] at hr
     have hsz:(cur.toList.take (List.length xs)++news++cur.toList.drop (List.length xs+news.length)).toArray.size=cur.size:=by simp;omega
     refine fin (w.setRow b (cur.toList.take (List.length xs)++news++cur.toList.drop (List.length xs+news.length)).toArray) b (cur.toList.take (List.length xs)++news++cur.toList.drop (List.length xs+news.length)).toArray (by rw [hsz];exact hc3) ?_ ?_
     .exact {
       os:=rfl,tape:=rfl,output:=rfl,size:=by simp,lt:=by simpa using hbl,old:=fun k _ hk=>setRow_other w b k _ hk,new:=setRow_heap w b cur _ e' _ hcur,which:=.inl rfl,
       len:=by rw [hsz];omega,max:=by rw [hsz];exact (show cur.size<=3*maxLen from hmx),take:=by simp [List.take_append,hlc,List.take_take,Nat.min_eq_right (Nat.le_add_right (List.length xs) news.length)]}
     .rw [hxv,hyv,hr,hsz]
    .have holds:∀j v,(cur.toList.take (List.length xs))[j]? =some v->w.cell? ((⟨b,0,none⟩:Addr).add j)=some v:=by
      intro j v hv
      rw [addr_add,cell_of_row w b _ cur e' (0,0) hcur]
      rw [List.getElem?_take] at hv
      split at hv
      .simpa using hv
      .cases hv
     have hr:=run_append_grow (P:=P) w T o.type e' inf _ hu hi hz ⟨b,0,none⟩ (List.length xs / 3) (cur.size / 3) (cur.toList.take (List.length xs)) (by rw [h1];simp;omega) holds ⟨b2,o2,none⟩ (List.length ys) cap news (by rw [h1];omega) hnc (by omega) (by omega) (growslice_fits (by omega) (by
      calc (List.length xs / 3+List.length ys)*inf.bytes<=(List.length xs / 3+List.length ys)*24:=Nat.mul_le_mul_left _ hby
       _<=140737488355328:=by omega))
     have hge:=grownCap_ge w (List.length xs / 3+List.length ys) (cur.size / 3) e'
     have hsz:((cur.toList.take (List.length xs)).toArray++news.toArray++Builtin.zeroCells z.cells (grownCap w (List.length xs / 3+List.length ys) (cur.size / 3) e'-(List.length xs / 3+List.length ys))).size=3*grownCap w (List.length xs / 3+List.length ys) (cur.size / 3) e':=by
      simp only [Array.size_append,List.size_toArray,size_zeroCells,hzn,List.length_take,Array.length_toList]
      omega
     have hmax:3*grownCap w (List.length xs / 3+List.length ys) (cur.size / 3) e'<=3*maxLen:=Nat.mul_le_mul_left _ (grownCap_le_maxLen w _ _ e' (by simp only [maxLen];omega))
     refine fin (w.drew.alloc (.cells ((cur.toList.take (List.length xs)).toArray++news.toArray++Builtin.zeroCells z.cells (grownCap w (List.length xs / 3+List.length ys) (cur.size / 3) e'-(List.length xs / 3+List.length ys))) e')) w.heap.size _ (by rw [hsz];omega) ?_ ?_
     .exact {
       os:=rfl,tape:=rfl,output:=rfl,size:=by simp,lt:=by simp,old:=fun k hk _=>Below.heap_alloc w.drew _ k hk,new:=heap_alloc_new w.drew _,which:=.inr rfl,
       len:=by rw [hsz];omega,max:=by rw [hsz];exact hmax,take:=by
        simp only [Array.toList_append,List.append_assoc]
        rw [<-List.append_assoc]
        apply List.take_left'
        simp;omega}
     .rw [hxv,hyv,hr,hsz,Nat.mul_div_cancel_left _ (by decide)]
  .exact h.elim
 .exact h.elim
theorem wp_clear (hτ:TyOk P τ) (hs:Sat w bs A a N st) {o:Oper} {K:St->Prop} {Kc:Act->World->Prop} {Q:Exit->Act->World->Prop} (hK:Nxt m N w bs A K Kc) {c:Call} (ho:o.op=.call c) (hc:c.callee=.builtin .clear)
 (h:match c.args.toList,c.argTypes.toList with
  |[x],[T]=>match τ T,evl st.env x with
   |.one (.sl t) e,.x (.sb r lo hi)=>(match st.rows[r]? with
    |some (.sl e' t' xs)=>e'=e/\t'=t/\gsw t' (putK N o.dst (.tup []) ⟨st.env,st.rows.set r (.sl e' t' (List.take lo xs++List.replicate (hi-lo) t'.dflt++List.drop hi xs))⟩ K)
    |_=>False)
   |_,_=>False
  |_,_=>False):o.wp P a w Kc Q:=by
 split at h
 .rename_i x T hargs htys
  have ha:c.args= #[x]:=by rw [<-Array.toArray_toList (xs:=c.args),hargs]
  have ht:c.argTypes= #[T]:=by rw [<-Array.toArray_toList (xs:=c.argTypes),htys]
  have hx:=evl_ok hs x
  have hexec:∀{v w'},(Builtin.clear_ #[T] o.type #[a.eval x]).run P w=.ok v w'->(execOp a.eval o).run P w=.ok (.value v) w':=by
   intro v w' hr
   simp only [execOp,ho,resolve,hc,invoke,builtin,ha,ht]
   simp [hr]
  split at h
  .rename_i t e r lo hi hT hxe
   rw [hxe] at hx
   split at h
   .rename_i e' t' xs hr
    obtain ⟨rfl,rfl,h⟩:=h
    obtain ⟨hdw,h⟩:=gsw_ok h
    obtain ⟨b,e3,t3,xs3,cur,o',hb,hr3,hcur,h1,h2,hv,hoo⟩:=hx
    rw [hr] at hr3;cases hr3
    obtain ⟨hA,cur2,hcur2,hlc,hmx,hcells⟩:=hs.row r b _ hb hr
    rw [hcur] at hcur2;cases hcur2
    obtain ⟨⟨hu,e9,he⟩,_⟩:=hτ.one _ _ _ hT
    obtain ⟨_,i,hi',hs1,hz,_⟩:=hτ.one _ _ _ he
    rw [Ty.base_zv] at hz
    by_cases hn:hi=lo
    .subst hn
     have e0:List.take hi xs++List.replicate (hi-hi) t'.dflt++List.drop hi xs=xs:=by simp
     rw [e0] at h
     have e1:st.rows.set r (.sl e' t' xs)=st.rows:=by
      apply List.ext_getElem?
      intro k
      by_cases ek:r=k
      .subst ek;rw [List.getElem?_set_self (List.getElem?_eq_some_iff.1 hr).1,hr]
      .rw [List.getElem?_set_ne ek]
     rw [e1] at h
     refine wp_of_run (v:=.tuple #[]) (w':=w) (hexec ?_) (hK.of hs (Stp.refl m w bs A) (av:=.tup []) ⟨[],rfl,rfl⟩ h)
     rw [hv,Nat.sub_self]
     simp [Builtin.clear_,run_underlying hu]
    .have ho2:o'=lo:=by rcases hoo with h9|h9;exact (hn h9.1).elim;exact h9
     subst ho2
     have hzc:∀n,(Builtin.zeroCells t'.zv.cells n).toList=List.replicate n t'.zv:=by
      intro n
      rw [zv_cells]
      apply List.ext_getElem?
      intro k
      by_cases hk:k<n
      .simp [Builtin.zeroCells,hk]
       rw [show k % 1=0 by omega];rfl
      .simp [Builtin.zeroCells,hk]
     have hsc:=run_storeCells_at (P:=P) b o' e' (List.replicate (hi-o') t'.zv) 0 cur w hcur (by simp;omega) (fun u hu=>by
      rw [List.eq_of_mem_replicate hu];cases t'<;>rfl)
     have hlz:(List.replicate (hi-o') t'.zv).length=hi-o':=by simp
     rw [hlz] at hsc
     simp only [Nat.add_zero] at hsc
     have hw1:o'+(hi-o')=hi:=by omega
     rw [hw1] at hsc
     have hrun:(Builtin.clear_ #[T] o.type #[a.eval x]).run P w=.ok (.tuple #[]) (w.setRow b (cur.toList.take o'++List.replicate (hi-o') t'.zv++cur.toList.drop hi).toArray):=by
      rw [hv]
      have hn0:hi-o'≠0:=by omega
      obtain ⟨q,hq⟩:∃q,hi-o'=q+1:=⟨hi-o'-1,by omega⟩
      simp only [Builtin.clear_]
      rw [hq] at hsc ⊢
      simp only [zeroValue]
      simp [hzc,hsc,run_underlying hu,run_info hi',hz]
     have hcl:(cur.toList.take o'++List.replicate (hi-o') t'.zv++cur.toList.drop hi).length=cur.size:=by simp;omega
     have hst:=hs.store (m:=m) (i:=r) (b:=b) (r:=.sl e' t' xs) (r':=.sl e' t' (List.take o' xs++List.replicate (hi-o') t'.dflt++List.drop hi xs)) hb hr (by simp) (by simp [Row.len];omega) ⟨fun e' t' xs' h=>(by cases h;exact ⟨_,rfl⟩),fun e' xs' h=>nomatch h⟩
      (Upd.setRow w b (cur.toList.take o'++List.replicate (hi-o') t'.zv++cur.toList.drop hi).toArray (fun cur2 e2 hc2=>by rw [hcur] at hc2;cases hc2;simpa using hcl)) ?_
     .exact wp_of_run (hexec hrun) (hK.of hst.1 hst.2 (av:=.tup []) ⟨[],rfl,rfl⟩ h)
     .have hk:∀b',A b'->b'<w.heap.size->(w.setRow b (cur.toList.take o'++List.replicate (hi-o') t'.zv++cur.toList.drop hi).toArray).heap[b']? =w.heap[b']?/\A b':=fun b' hb' _=>⟨setRow_other w b b' _ (fun (e:b'=b)=>hA (e ▸ hb')),hb'⟩
      have hxl:(List.take o' xs++List.replicate (hi-o') t'.dflt++List.drop hi xs).length=xs.length:=by simp;omega
      refine ⟨hA,_,setRow_heap w b cur _ e' _ hcur,by rw [hxl];simp;omega,by simp;omega,fun j hj=>?_,Dst.of hdw⟩
      rw [hxl] at hj
      have k1:(cur.toList.take o').length=o':=by simp;omega
      have k2:(List.take o' xs).length=o':=by simp;omega
      have tri:∀{α:Type} (l1 l2 l3:List α) (z:α),l1.length=o'->l2=List.replicate (hi-o') z->(l1++l2++l3)[j]? =if j<o' then l1[j]? else if j<hi then some z else l3[j-hi]? :=by
       intro α l1 l2 l3 z e1 e2
       subst e2
       split
       .rw [List.append_assoc,List.getElem?_append_left (by omega)]
       .split
        .rw [List.append_assoc,List.getElem?_append_right (by omega),e1,List.getElem?_append_left (by simp;omega),List.getElem?_replicate,if_pos (by omega)]
        .rw [List.append_assoc,List.getElem?_append_right (by omega),e1,List.getElem?_append_right (by simp;omega)]
         simp only [List.length_replicate]
         congr 1;omega
      have t1:=tri (cur.toList.take o') (List.replicate (hi-o') t'.zv) (cur.toList.drop hi) t'.zv k1 rfl
      have t2:=tri (List.take o' xs) (List.replicate (hi-o') t'.dflt) (List.drop hi xs) t'.dflt k2 rfl
      rw [List.getElem?_eq_getElem (by rw [hxl];exact hj)] at t2
      simp only [List.getElem?_toArray]
      rw [t1]
      by_cases c1:j<o'
      .rw [if_pos c1,List.getElem?_take,if_pos c1,List.getElem?_eq_getElem hj] at t2
       rw [if_pos c1,List.getElem?_take,if_pos c1]
       obtain ⟨cv,g1,g2⟩:=hcells j hj
       refine ⟨cv,by simpa using g1,?_⟩
       rw [Option.some.inj t2];exact Rd.ext hk t' _ _ g2
      .rw [if_neg c1] at t2
       rw [if_neg c1]
       by_cases c2:j<hi
       .rw [if_pos c2] at t2
        rw [if_pos c2]
        refine ⟨_,rfl,?_⟩
        rw [Option.some.inj t2];exact zv_rd _ A t'
       .rw [if_neg c2,List.getElem?_drop,show hi+(j-hi)=j by omega,List.getElem?_eq_getElem hj] at t2
        rw [if_neg c2,List.getElem?_drop,show hi+(j-hi)=j by omega]
        obtain ⟨cv,g1,g2⟩:=hcells j hj
        refine ⟨cv,by simpa using g1,?_⟩
        rw [Option.some.inj t2];exact Rd.ext hk t' _ _ g2
   .exact h.elim
  .exact h.elim
 .exact h.elim
theorem cpyL_len {α:Type} (xs:List α) (lo:Nat) (ys:List α) (h:lo+ys.length<=xs.length):(cpyL xs lo ys).length=xs.length:=by
 simp [cpyL];omega
theorem cpyL_get {α:Type} (xs:List α) (lo:Nat) (ys:List α) (h:lo+ys.length<=xs.length) (j:Nat):(cpyL xs lo ys)[j]? =if j<lo then xs[j]? else if j<lo+ys.length then ys[j-lo]? else xs[j]? :=by
 have k1:(List.take lo xs).length=lo:=by simp;omega
 unfold cpyL
 split
 .rw [List.append_assoc,List.getElem?_append_left (by omega),List.getElem?_take,if_pos (by assumption)]
 .split
  .rw [List.append_assoc,List.getElem?_append_right (by omega),k1,List.getElem?_append_left (by omega)]
  .rw [List.append_assoc,List.getElem?_append_right (by omega),k1,List.getElem?_append_right (by omega),List.getElem?_drop]
   congr 1;omega
theorem wp_copy (hτ:TyOk P τ) (hs:Sat w bs A a N st) {o:Oper} {K:St->Prop} {Kc:Act->World->Prop} {Q:Exit->Act->World->Prop} (hK:Nxt m N w bs A K Kc) {c:Call} (ho:o.op=.call c) (hc:c.callee=.builtin .copy)
 (h:match c.args.toList,c.argTypes.toList with
  |[x,y],[T,_]=>match τ T with
   |.one (.sl t) e=>match elems t st.rows (evl st.env y),evl st.env x with
    |some ys,.ow r=>(match st.rows[r]? with
     |some (.sl e' t' xs)=>∃h:t'=t,e'=e/\gsw t (putK N o.dst (.d true .int ((min ys.length xs.length:Nat):Int)) ⟨st.env,st.rows.set r (.sl e' t' (cpyL xs 0 ((h ▸ ys).take (min ys.length xs.length))))⟩ K)
     |_=>False)
    |some ys,.x (.sb r lo hi)=>(match st.rows[r]? with
     |some (.sl e' t' xs)=>∃h:t'=t,e'=e/\lo<hi/\gsw t (putK N o.dst (.d true .int ((min ys.length (hi-lo):Nat):Int)) ⟨st.env,st.rows.set r (.sl e' t' (cpyL xs lo ((h ▸ ys).take (min ys.length (hi-lo)))))⟩ K)
     |_=>False)
    |_,_=>False
   |_=>False
  |_,_=>False):o.wp P a w Kc Q:=by
 split at h
 .rename_i x y T T2 hargs htys
  have ha:c.args= #[x,y]:=by rw [<-Array.toArray_toList (xs:=c.args),hargs]
  have ht:c.argTypes= #[T,T2]:=by rw [<-Array.toArray_toList (xs:=c.argTypes),htys]
  have hx:=evl_ok hs x
  have hy:=evl_ok hs y
  have hexec:∀{v w'},(Builtin.copy_ #[T,T2] o.type #[a.eval x,a.eval y]).run P w=.ok v w'->(execOp a.eval o).run P w=.ok (.value v) w':=by
   intro v w' hr
   simp only [execOp,ho,resolve,hc,invoke,builtin,ha,ht]
   simp [hr]
  split at h
  .rename_i t e hT
   obtain ⟨⟨hu,e9,he⟩,_⟩:=hτ.one _ _ _ hT
   obtain ⟨_,i,hi',hs1,hz,_⟩:=hτ.one _ _ _ he
   have main:∀(ys:List t.T) (r lo dl cap b:Nat) (e':TypeId) (xs:List t.T) (cur:Array Value),elems t st.rows (evl st.env y)=some ys->bs[r]? =some b->st.rows[r]? =some (.sl e' t xs)->w.heap[b]? =some (.cells cur e' (0,0))->
    lo+dl<=xs.length->a.eval x=.slice (some ⟨b,lo,none⟩) dl cap->t.dsw=false->putK N o.dst (.d true .int ((min ys.length dl:Nat):Int)) ⟨st.env,st.rows.set r (.sl e' t (cpyL xs lo (ys.take (min ys.length dl))))⟩ K->o.wp P a w Kc Q:=by
    intro ys r lo dl cap b e' xs cur hye hb hr hcur hlo hxv hdw h
    obtain ⟨hA,cur2,hcur2,hlc,hmx,hcells⟩:=hs.row r b _ hb hr
    rw [hcur] at hcur2;cases hcur2
    obtain ⟨news,hsrc,hnl,hnews⟩:=elems_ok hs hy hye
    generalize hn:min ys.length dl=n at h
    have hny:n<=ys.length:=by omega
    have hnd:n<=dl:=by omega
    have hone:∀u∈news.take n,u.oneCell'=true:=by
     intro u hu
     obtain ⟨j,hj,hju⟩:=List.getElem_of_mem (List.mem_of_mem_take hu)
     obtain ⟨cv,k1,k2⟩:=hnews j (by omega)
     have:news[j]? =some u:=by rw [<-hju];simp
     rw [this] at k1;cases k1
     exact k2.one
    have hsc:=run_storeCells_at (P:=P) b lo e' (news.take n) 0 cur w hcur (by simp;omega) hone
    have hlz:(news.take n).length=n:=by simp;omega
    rw [hlz] at hsc
    simp only [Nat.add_zero] at hsc
    have hrun:(Builtin.copy_ #[T,T2] o.type #[a.eval x,a.eval y]).run P w=.ok (.int .i64 (n:Int)) (w.setRow b (cur.toList.take lo++news.take n++cur.toList.drop (lo+n)).toArray):=by
     rw [hxv]
     rcases hsrc with ⟨ad,c0,hyv,hcs⟩|⟨hyv,hn0⟩
     .rw [hyv]
      have hf:=run_firstCells_some (P:=P) w i.size n ad news.length c0 (news.take n) (by rw [hs1];simp;omega) (fun j v hv=>hcs j v (by
       rw [List.getElem?_take] at hv
       split at hv
       .exact hv
       .cases hv))
      have hmin:Nat.min news.length dl=n:=by rw [hnl];exact hn
      simp only [Builtin.copy_]
      simp [run_underlying hu,Builtin.lenOf,hmin,sizeOf,run_info hi',hf,hsc,goInt]
     .subst hn0
      have hn00:n=0:=by simp at hnl;omega
      subst hn00
      rw [hyv]
      simp only [Builtin.copy_]
      simp at hsc
      simp [run_underlying hu,Builtin.lenOf,sizeOf,run_info hi',Builtin.firstCells,hsc,goInt]
    have hcl:(cur.toList.take lo++news.take n++cur.toList.drop (lo+n)).length=cur.size:=by simp;omega
    have htl:(ys.take n).length=n:=by simp;omega
    have hst:=hs.store (m:=m) (i:=r) (b:=b) (r:=.sl e' t xs) (r':=.sl e' t (cpyL xs lo (ys.take n))) hb hr (by simp) (by simp only [Row.len];exact cpyL_len _ _ _ (by omega)) ⟨fun e' t' xs' h=>(by cases h;exact ⟨_,rfl⟩),fun e' xs' h=>nomatch h⟩
     (Upd.setRow w b (cur.toList.take lo++news.take n++cur.toList.drop (lo+n)).toArray (fun cur2 e2 hc2=>by rw [hcur] at hc2;cases hc2;simpa using hcl)) ?_
    .exact wp_of_run (hexec hrun) (hK.of hst.1 hst.2 (av:=.d true .int (n:Int)) rfl h)
    .have hk:∀b',A b'->b'<w.heap.size->(w.setRow b (cur.toList.take lo++news.take n++cur.toList.drop (lo+n)).toArray).heap[b']? =w.heap[b']?/\A b':=fun b' hb' _=>⟨setRow_other w b b' _ (fun (e:b'=b)=>hA (e ▸ hb')),hb'⟩
     have hxl:=cpyL_len xs lo (ys.take n) (by omega)
     refine ⟨hA,_,setRow_heap w b cur _ e' _ hcur,by rw [hxl];simp;omega,by simp;omega,fun j hj=>?_,Dst.of hdw⟩
     have t2:=cpyL_get xs lo (ys.take n) (by omega) j
     have t1:=cpyL_get cur.toList lo (news.take n) (by simp;omega) j
     rw [List.getElem?_eq_getElem hj] at t2
     have hj9:j<xs.length:=by rw [hxl] at hj;exact hj
     simp only [List.getElem?_toArray]
     have t3:(cur.toList.take lo++news.take n++cur.toList.drop (lo+n))[j]? =(cpyL cur.toList lo (news.take n))[j]? :=by rw [cpyL,hlz]
     rw [t3,t1]
     rw [hlz]
     rw [htl] at t2
     by_cases c1:j<lo
     .rw [if_pos c1,List.getElem?_eq_getElem hj9] at t2
      rw [if_pos c1]
      obtain ⟨cv,g1,g2⟩:=hcells j hj9
      refine ⟨cv,by simpa using g1,?_⟩
      rw [Option.some.inj t2];exact Rd.ext hk t _ _ g2
     .rw [if_neg c1] at t2
      rw [if_neg c1]
      by_cases c2:j<lo+n
      .rw [if_pos c2,List.getElem?_take,if_pos (by omega),List.getElem?_eq_getElem (by omega)] at t2
       rw [if_pos c2,List.getElem?_take,if_pos (by omega)]
       obtain ⟨cv,g1,g2⟩:=hnews (j-lo) (by omega)
       refine ⟨cv,g1,?_⟩
       rw [Option.some.inj t2];exact Rd.ext hk t _ _ g2
      .rw [if_neg c2,List.getElem?_eq_getElem hj9] at t2
       rw [if_neg c2]
       obtain ⟨cv,g1,g2⟩:=hcells j hj9
       refine ⟨cv,by simpa using g1,?_⟩
       rw [Option.some.inj t2];exact Rd.ext hk t _ _ g2
   split at h
   .rename_i ys r hye hxe
    rw [hxe] at hx
    split at h
    .rename_i e' t' xs hr
     obtain ⟨htt,hee,h⟩:=h
     subst htt;subst hee
     obtain ⟨hdw,h⟩:=gsw_ok h
     obtain ⟨b,e3,t3,xs3,cur,hb,hr3,hcur,hxv⟩:=hx
     rw [hr] at hr3;cases hr3
     exact main ys r 0 xs.length cur.size b _ xs cur hye hb hr hcur (by omega) hxv hdw h
    .exact h.elim
   .rename_i ys r lo hi hye hxe
    rw [hxe] at hx
    split at h
    .rename_i e' t' xs hr
     obtain ⟨htt,hee,hlh,h⟩:=h
     subst htt;subst hee
     obtain ⟨hdw,h⟩:=gsw_ok h
     obtain ⟨b,e3,t3,xs3,cur,o',hb,hr3,hcur,h1,h2,hv,hoo⟩:=hx
     rw [hr] at hr3;cases hr3
     have ho2:o'=lo:=by rcases hoo with h9|h9<;>omega
     subst ho2
     exact main ys r o' (hi-o') _ b _ xs cur hye hb hr hcur (by omega) hv hdw h
    .exact h.elim
   .exact h.elim
  .exact h.elim
 .exact h.elim
theorem apW_ok {t:Ty} {xs ys:List t.T} {X:Prop} (h:apW t xs ys X):(t.dsw=false\/∃(e:Nat) (xs' ys':List (List Int)),∃_:t=.sw e true,HEq xs xs'/\HEq ys ys'/\ApW xs' ys')/\X:=by
 cases t with
 |sw e d=>cases d with
  |true=>exact ⟨.inr ⟨_,_,_,rfl,HEq.rfl,HEq.rfl,h.1⟩,h.2⟩
  |false=>exact ⟨.inl rfl,h⟩
 |_=>exact ⟨.inl rfl,h⟩
def killR (i:Nat):Row->Row
 |.box e v=>.box e (killH i v)
 |r=>r
theorem killB_get (i:Nat):∀(l:List Row) (j:Nat),(killB i l)[j]? =(l[j]?).map (killR i)
 |[],j=>by simp [killB]
 |.box e v::l,0=>rfl
 |.sl e t xs::l,0=>rfl
 |.tz e xs::l,0=>rfl
 |.dead::l,0=>rfl
 |.box e v::l,j+1=>by simpa [killB] using killB_get i l j
 |.sl e t xs::l,j+1=>by simpa [killB] using killB_get i l j
 |.tz e xs::l,j+1=>by simpa [killB] using killB_get i l j
 |.dead::l,j+1=>by simpa [killB] using killB_get i l j
theorem killB_len (i:Nat):∀(l:List Row),(killB i l).length=l.length
 |[]=>rfl
 |.box e v::l=>by simp [killB,killB_len i l]
 |.sl e t xs::l=>by simp [killB,killB_len i l]
 |.tz e xs::l=>by simp [killB,killB_len i l]
 |.dead::l=>by simp [killB,killB_len i l]
theorem killB_sl {i j:Nat} {l:List Row} {e:TypeId} {t:Ty} {xs:List t.T} (h:l[j]? =some (.sl e t xs)):(killB i l)[j]? =some (.sl e t xs):=by
 rw [killB_get,h];rfl
theorem killB_free (i:Nat):∀(l:List Row),boxFree i (killB i l)=true
 |[]=>rfl
 |.box e v::l=>by
  have h:(!(killH i v).hs.contains i)=true:=by
   unfold killH
   split
   .rfl
   .rename_i hc;rw [hc];rfl
  rw [killB,boxFree,h,killB_free i l];rfl
 |.sl e t xs::l=>by rw [killB,boxFree]<;>first|exact killB_free i l|simp
 |.tz e xs::l=>by rw [killB,boxFree]<;>first|exact killB_free i l|simp
 |.dead::l=>by rw [killB,boxFree]<;>first|exact killB_free i l|simp
theorem Sat.kilB (hs:Sat w bs A a N st) (i:Nat):Sat w bs A a N ⟨st.env,killB i st.rows⟩:=by
 have k:Kp w bs A st.rows w bs A (killB i st.rows) (fun _=>True):=
  {a:=fun b h _=>⟨rfl,h⟩
   n:=fun b h _=>⟨rfl,h⟩
   h:=fun j _=>⟨rfl,fun r hr=>⟨killR i r,by rw [killB_get,hr];rfl,by cases r<;>rfl,fun e t xs hx=>⟨xs,by rw [hx];rfl⟩,fun e xs hx=>⟨xs,by rw [hx];rfl⟩⟩,fun b cur e _ hc=>⟨cur,hc,rfl⟩⟩}
 refine hs.change k ⟨by rw [killB_len];exact hs.len,hs.nodup,hs.lt,hs.old,fun j b r hb hr=>?_⟩ (fun t=>.inr ⟨rfl,fun _ _ _=>trivial⟩)
 rw [killB_get] at hr
 cases hr0:st.rows[j]? with
 |none=>rw [hr0] at hr;cases hr
 |some r0=>
  rw [hr0] at hr
  cases hr
  have h0:=RowR.keep k rfl (fun h=>h) (fun _ _ _ _ _=>trivial) (hs.row j b r0 hb hr0)
  cases r0 with
  |box e v=>
   obtain ⟨g1,cv,g2,g3⟩:=h0
   refine ⟨g1,cv,g2,?_⟩
   unfold killH
   split
   .trivial
   .exact g3
  |sl e t xs=>exact h0
  |tz e xs=>exact h0
  |dead=>exact h0
theorem wp_append (hτ:TyOk P τ) (hs:Sat w bs A a N st) (hm:m<=bs.length) {o:Oper} {K:St->Prop} {Kc:Act->World->Prop} {Q:Exit->Act->World->Prop} (hK:Nxt m N w bs A K Kc) {c:Call} (ho:o.op=.call c) (hc:c.callee=.builtin .append)
 (h:match c.args.toList,c.argTypes.toList with
  |[x,y],[T,T2]=>match Nat.beq T T2,τ T with
   |true,.one (.sl t) e=>match elems t st.rows (evl st.env y),evl st.env x with
    |some ys,.nil=>0<ys.length/\ys.length<=1099511627776/\gsw t (putK N o.dst (.ow (cnt st.rows)) ⟨st.env,st.rows++[.sl e t ys]⟩ K)
    |some ys,.x .emp=>(match ys with
     |[]=>putK N o.dst (.x .emp) st K
     |y::ys'=>(y::ys').length<=1099511627776/\gsw t (putK N o.dst (.ow (cnt st.rows)) ⟨st.env,st.rows++[.sl e t (y::ys')]⟩ K))
    |some ys,.ow i=>match st.rows[i]? with
     |some (.sl e' t' xs)=>appR N m st o.dst i e e' t t' xs ys K
     |_=>False
    |_,_=>False
   |false,.one (.sl t) e=>match τ T2,evl st.env x,evl st.env y with
    |.one .int _,.nil,.d _ .int z=>∃n:Nat,z=(n:Int)/\0<n/\n<=1099511627776/\gsw t (putK N o.dst (.ow (cnt st.rows)) ⟨st.env,st.rows++[.sl e t (List.replicate n t.dflt)]⟩ K)
    |_,_,_=>False
   |true,.xs .tr e=>appX N m st o.dst e K (evl st.env y) (evl st.env x)
   |true,.tz e=>match elemsT st.rows (evl st.env y),evl st.env x with
    |some ys,.x (.oz i)=>match st.rows[i]? with
     |some (.tz e' xs)=>m<=i/\e'=e/\xs.length+ys.length<=1099511627776/\boxFree i st.rows=true/\fEnv (killE i st.env) fun env'=>putK N o.dst (.x (.oz i)) ⟨env',st.rows.set i (.tz e' (xs++ys))⟩ K
     |_=>False
    |_,_=>False
   |_,_=>False
  |_,_=>False):o.wp P a w Kc Q:=by
 rw [cnt_eq] at h
 split at h
 .rename_i x y T T2 hargs htys
  split at h
  .rename_i t e hTT hT
   have hTe:T=T2:=Nat.eq_of_beq_eq_true hTT
   subst hTe
   have ha:c.args= #[x,y]:=by rw [<-Array.toArray_toList (xs:=c.args),hargs]
   have ht:c.argTypes= #[T,T]:=by rw [<-Array.toArray_toList (xs:=c.argTypes),htys]
   have hx:=evl_ok hs x
   have hy:=evl_ok hs y
   have hexec:∀{v w'},(Builtin.append_ #[T,T] o.type #[a.eval x,a.eval y]).run P w=.ok v w'->(execOp a.eval o).run P w=.ok (.value v) w':=by
    intro v w' hr
    simp only [execOp,ho,resolve,hc,invoke,builtin,ha,ht]
    simp [hr]
   split at h
   .rename_i ys he hxe
    rw [hxe] at hx
    obtain ⟨hpos,hle,h⟩:=h
    obtain ⟨hdw,h⟩:=gsw_ok h
    obtain ⟨news,hsrc,hnl,hnews⟩:=elems_ok hs hy he
    have hx':a.eval x=.slice none 0 0:=hx
    obtain ⟨w',cur',hr,hp,g1,g2,g3⟩:=run_app_nil (P:=P) (ty:=o.type) hτ hT hsrc (by omega) (by omega)
    rw [<-hx'] at hr
    have hst:=hs.pushSl (m:=m) (t:=t) (xs:=ys) hm hp (by omega) g2 (fun j hj=>by
     obtain ⟨cv,k1,k2⟩:=hnews j hj
     refine ⟨cv,?_,k2⟩
     have:(cur'.toList.take news.length)[j]? =some cv:=by rw [g3];exact k1
     rw [List.getElem?_take,if_pos (by omega)] at this
     simpa using this) (Dst.of hdw)
    refine wp_of_run (hexec hr) (hK.of hst.1 hst.2 (av:=.ow st.rows.length) ?_ h)
    have:=V_ow_new hs (t:=t) (xs:=ys) hp
    rw [hnl];exact this
   .rename_i ys he hxe
    rw [hxe] at hx
    obtain ⟨ad,hx'⟩:=hx
    obtain ⟨news,hsrc,hnl,hnews⟩:=elems_ok hs hy he
    split at h
    .have hn0:news=[]:=List.length_eq_zero_iff.1 hnl
     subst hn0
     have hr:=run_app_emp (P:=P) (w:=w) (ty:=o.type) hτ hT ad hsrc
     rw [<-hx'] at hr
     exact wp_of_run (hexec hr) (hK.of hs (Stp.refl m w bs A) (av:=.x .emp) ⟨ad,hx'⟩ h)
    .rename_i y ys'
     obtain ⟨hle,h⟩:=h
     obtain ⟨hdw,h⟩:=gsw_ok h
     obtain ⟨w',cur',hr,hp,g1,g2,g3⟩:=run_app_emp2 (P:=P) (ty:=o.type) hτ hT ad hsrc (by rw [hnl];simp) (by rw [hnl];omega)
     rw [<-hx'] at hr
     have hst:=hs.pushSl (m:=m) (t:=t) (xs:=y::ys') hm hp (by rw [<-hnl];exact g1) g2 (fun j hj=>by
      obtain ⟨cv,k1,k2⟩:=hnews j hj
      refine ⟨cv,?_,k2⟩
      have:(cur'.toList.take news.length)[j]? =some cv:=by rw [g3];exact k1
      rw [List.getElem?_take,if_pos (by omega)] at this
      simpa using this) (Dst.of hdw)
     refine wp_of_run (hexec hr) (hK.of hst.1 hst.2 (av:=.ow st.rows.length) ?_ h)
     have:=V_ow_new hs (t:=t) (xs:=y::ys') hp
     rw [hnl];exact this
   .rename_i ys i he hxe
    rw [hxe] at hx
    split at h
    .rename_i e' t' xs hr0
     have main:∀st2:St,Sat w bs A a N st2->st2.env=st.env->st2.rows[i]? =some (.sl e' t' xs)->(∃h:t'=t,m<=i/\e'=e/\xs.length+ys.length<=1099511627776/\boxFree i st2.rows=true/\apW t' xs (h ▸ ys) (putK N o.dst (.ow i) ⟨killE i st.env,st2.rows.set i (.sl e' t' (xs++(h ▸ ys)))⟩ K))->o.wp P a w Kc Q:=by
      intro st2 hs2 henv hr h9
      obtain ⟨htt,hmi,hee,hle,hbox,h9⟩:=h9
      subst htt;subst hee
      obtain ⟨hapw,h9⟩:=apW_ok h9
      obtain ⟨news,hsrc,hnl,hnews⟩:=elems_ok hs hy he
      obtain ⟨b,e3,t3,xs3,cur,hb,hr3,hcur,hxv⟩:=hx
      rw [hr0] at hr3
      cases hr3
      obtain ⟨hA,cur2,hcur2,hlc,hmx,hcells⟩:=hs2.row i b _ hb hr
      rw [hcur] at hcur2
      cases hcur2
      have hone:∀u∈news,u.oneCell'=true:=by
       intro u hu
       obtain ⟨j,hj,hju⟩:=List.getElem_of_mem hu
       obtain ⟨cv,k1,k2⟩:=hnews j (by omega)
       have:news[j]? =some u:=by rw [<-hju];simp
       rw [this] at k1;cases k1
       exact k2.one
      obtain ⟨w',b',cur',hrun,hap⟩:=run_app (P:=P) (ty:=o.type) hτ hT hcur hlc (by rw [<-mx_of hτ hT];exact hmx) hsrc hone (by omega)
      rw [<-hxv] at hrun
      have hdd:Dst t' cur' (xs.length+ys.length):=by
       rcases hapw with hdw|⟨e0,xs0,ys0,rfl,hx0,hy0,hapw⟩
       .exact Dst.of hdw
       .cases hx0;cases hy0
        exact Dst_app hcells hnews hnl hap.take hlc hapw
      obtain ⟨h1,h2,h3⟩:=hs2.append (m:=m) (ys:=ys) hb hr hmi hbox hlc hcells.c hnl hnews hap (Ty.le_mx _) hdd
      rw [henv] at h1
      refine wp_of_run (hexec hrun) (hK.of h1 h2 (av:=.ow i) ?_ h9)
      have e9:xs.length+news.length=(xs++ys).length:=by simp [hnl]
      rw [e9];exact h3
     unfold appR at h
     split at h
     .obtain ⟨htt,hmi,hee,hle,hbox,h⟩:=h
      exact main st hs rfl hr0 ⟨htt,hmi,hee,hle,hbox,by simpa only [fEnv_eq] using h⟩
     .obtain ⟨htt,hmi,hee,hle,h⟩:=h
      exact main ⟨st.env,killB i st.rows⟩ (hs.kilB i) rfl (killB_sl hr0) ⟨htt,hmi,hee,hle,killB_free i st.rows,by simpa only [fEnv_eq,fRows_eq] using h⟩
    .exact h.elim
   .exact h.elim
  .rename_i t e hTT hT
   have ha:c.args= #[x,y]:=by rw [<-Array.toArray_toList (xs:=c.args),hargs]
   have ht:c.argTypes= #[T,T2]:=by rw [<-Array.toArray_toList (xs:=c.argTypes),htys]
   have hx:=evl_ok hs x
   have hy:=evl_ok hs y
   have hexec:∀{v w'},(Builtin.append_ #[T,T2] o.type #[a.eval x,a.eval y]).run P w=.ok v w'->(execOp a.eval o).run P w=.ok (.value v) w':=by
    intro v w' hr
    simp only [execOp,ho,resolve,hc,invoke,builtin,ha,ht]
    simp [hr]
   split at h
   .rename_i e2 sh z hT2 hxe hye
    rw [hxe] at hx
    rw [hye] at hy
    obtain ⟨n,rfl,hpos,hle,h⟩:=h
    obtain ⟨hdw,h⟩:=gsw_ok h
    have hx':a.eval x=.slice none 0 0:=hx
    have hy':a.eval y=.int .i64 (n:Int):=hy
    obtain ⟨w',cur',hr,hp,g1,g2,g3⟩:=run_app_zero (P:=P) (w:=w) (ty:=o.type) hτ hT hT2 n hpos hle
    rw [<-hx',<-hy'] at hr
    have hst:=hs.pushSl (m:=m) (t:=t) (xs:=List.replicate n t.dflt) hm hp (by simpa using g1) g2 (fun j hj=>by
     have hj2:j<n:=by simpa using hj
     refine ⟨t.zv,g3 j hj2,?_⟩
     rw [List.getElem_replicate];exact zv_rd w A t) (Dst.of hdw)
    refine wp_of_run (hexec hr) (hK.of hst.1 hst.2 (av:=.ow st.rows.length) ?_ h)
    have:=V_ow_new hs (t:=t) (xs:=List.replicate n t.dflt) hp
    simpa using this
   .exact h.elim
  .rename_i e hTT hT
   have hTe:T=T2:=Nat.eq_of_beq_eq_true hTT
   subst hTe
   have ha:c.args= #[x,y]:=by rw [<-Array.toArray_toList (xs:=c.args),hargs]
   have ht:c.argTypes= #[T,T]:=by rw [<-Array.toArray_toList (xs:=c.argTypes),htys]
   exact wp_appX hτ hs hm hK hT (fun {v w'} hr=>by
    simp only [execOp,ho,resolve,hc,invoke,builtin,ha,ht]
    simp [hr]) h
  .rename_i e hTT hT
   have hTe:T=T2:=Nat.eq_of_beq_eq_true hTT
   subst hTe
   have ha:c.args= #[x,y]:=by rw [<-Array.toArray_toList (xs:=c.args),hargs]
   have ht:c.argTypes= #[T,T]:=by rw [<-Array.toArray_toList (xs:=c.argTypes),htys]
   have hx:=evl_ok hs x
   have hy:=evl_ok hs y
   have hexec:∀{v w'},(Builtin.append_ #[T,T] o.type #[a.eval x,a.eval y]).run P w=.ok v w'->(execOp a.eval o).run P w=.ok (.value v) w':=by
    intro v w' hr
    simp only [execOp,ho,resolve,hc,invoke,builtin,ha,ht]
    simp [hr]
   split at h
   .rename_i ys i he hxe
    rw [hxe] at hx
    split at h
    .rename_i e' xs hr
     obtain ⟨hmi,hee,hle,hbox,h⟩:=h
     rw [fEnv_eq] at h
     subst hee
     obtain ⟨news,hsrc,hnl,hnews⟩:=elemsT_ok hs hy he
     obtain ⟨b,e3,xs3,cur,hb,hr3,hcur,hxv⟩:=hx
     rw [hr] at hr3
     cases hr3
     obtain ⟨hA,cur2,hcur2,hlc,hpar,hcells⟩:=hs.row i b _ hb hr
     rw [hcur] at hcur2
     cases hcur2
     obtain ⟨w',b',cur',hrun,hpar',hap⟩:=run_app2 (P:=P) (ty:=o.type) hτ hT hcur hlc hpar hsrc hnl hnews (by omega)
     rw [<-hxv] at hrun
     obtain ⟨h1,h2,h3⟩:=hs.append2 (m:=m) (ys:=ys) hb hr hmi hbox hlc hcells hcur hpar' hnl hnews hap
     refine wp_of_run (hexec hrun) (hK.of h1 h2 (av:=.x (.oz i)) ?_ h)
     have e9:xs.length+ys.length=(xs++ys).length:=by simp
     rw [e9];exact h3
    .exact h.elim
   .exact h.elim
  .exact h.elim
 .exact h.elim
end
theorem rowsLike_ok:∀{l l':List Row},rowsLike l l'->l.length<=l'.length/\∀(j:Nat) (r:Row),l[j]? =some r->∃r',l'[j]? =some r'/\r'.len=r.len/\(∀e t xs,r=.sl e t xs->∃xs',r'=.sl e t xs')/\∀e xs,r=.tz e xs->∃xs',r'=.tz e xs'
 |[],l',_=>⟨by simp,fun j r h=>by simp at h⟩
 |x::l,[],h=>h.elim
 |x::l,x'::l',h=>by
  obtain ⟨⟨h1,h2⟩,h3⟩:=h
  obtain ⟨g1,g2⟩:=rowsLike_ok h3
  refine ⟨by simp;omega,fun j r hr=>?_⟩
  cases j with
  |zero=>
   simp at hr;subst hr
   refine ⟨x',rfl,h1,fun e t xs he=>?_,fun e xs he=>?_⟩
   .subst he
    cases x' with
    |sl e' t' xs'=>obtain ⟨rfl,rfl⟩:=h2;exact ⟨xs',rfl⟩
    |box _ _=>exact h2.elim
    |tz _ _=>exact h2.elim
    |dead=>exact h2.elim
   .subst he
    cases x' with
    |sl e' t' xs'=>exact h2.elim
    |box _ _=>exact h2.elim
    |tz e' xs'=>cases (show e'=e from h2);exact ⟨xs',rfl⟩
    |dead=>exact h2.elim
  |succ j=>exact g2 j r (by simpa using hr)
theorem setRows_len:∀(is:List Nat) (rs rows:List Row),(setRows rows is rs).length=rows.length
 |[],_,_=>by simp [setRows]
 |_::_,[],_=>rfl
 |i::is,r::rs,rows=>by rw [setRows,setRows_len is rs];simp
theorem setRows_out:∀(is:List Nat) (rs rows:List Row) (i:Nat),i∉is->(setRows rows is rs)[i]? =rows[i]?
 |[],_,_,_,_=>by simp [setRows]
 |_::_,[],_,_,_=>rfl
 |k::is,r::rs,rows,i,h=>by
  rw [setRows,setRows_out is rs _ i (fun h2=>h (by simp [h2]))]
  rw [List.getElem?_set_ne (fun e=>h (by simp [e]))]
theorem setRows_in:∀(is:List Nat) (rs rows:List Row) (j i:Nat) (r:Row),is.Nodup->is[j]? =some i->rs[j]? =some r->i<rows.length->(setRows rows is rs)[i]? =some r
 |[],_,_,j,_,_,_,h,_,_=>by simp at h
 |_::_,[],_,j,_,_,_,_,h,_=>by simp at h
 |k::is,x::rs,rows,0,i,r,hn,h1,h2,h3=>by
  simp at h1 h2
  subst h1;subst h2
  rw [setRows,setRows_out is rs _ k (by simp at hn;exact hn.1)]
  exact List.getElem?_set_self h3
 |k::is,x::rs,rows,j+1,i,r,hn,h1,h2,h3=>by
  rw [setRows]
  exact setRows_in is rs _ j i r (by simp at hn;exact hn.2) (by simpa using h1) (by simpa using h2) (by simpa using h3)
theorem idxOf_some {is:List Nat} {i j:Nat} (h:is.idxOf? i=some j):is[j]? =some i:=by
 rw [List.idxOf?_eq_some_iff] at h
 obtain ⟨h1,h2,_⟩:=h
 rw [List.getElem?_eq_getElem h1]
 simpa using h2
theorem idxOf_none {is:List Nat} {i:Nat} (h:is.idxOf? i=none):i∉is:=by
 simpa [List.idxOf?_eq_none_iff] using h
theorem rowPlain_keep {w w':World} {bs bs':List Nat} {A A':Nat->Prop} {rows rows':List Row} {b:Nat} {r:Row} (hp:rowPlain r=true) (hb:w'.heap[b]? =w.heap[b]?) (hA:¬A' b)
 (hk:∀b,A b->b<w.heap.size->w'.heap[b]? =w.heap[b]?/\A' b) (h:RowR w bs A rows b r):RowR w' bs' A' rows' b r:=by
 cases r with
 |dead=>trivial
 |sl e t xs=>
  obtain ⟨_,cur,h1,h2,h3,h4⟩:=h
  refine ⟨hA,cur,hb.trans h1,h2,h3,fun j hj=>?_,h4.d⟩
  obtain ⟨cv,h5,h6⟩:=h4 j hj
  exact ⟨cv,h5,Rd.ext hk t _ _ h6⟩
 |box e av=>
  obtain ⟨_,cv,h1,h2⟩:=h
  refine ⟨hA,cv,hb.trans h1,?_⟩
  cases av with
  |d sh t x=>cases sh<;>simp [rowPlain] at hp;exact Rd.ext hk t _ _ h2
  |nil=>exact h2
  |_=>simp [rowPlain] at hp
 |tz e xs=>
  obtain ⟨_,cur,h1,h2,h3,h4⟩:=h
  exact ⟨hA,cur,hb.trans h1,h2,h3,h4.ext hk hb⟩
theorem rowPlain_nd {r:Row} (h:rowPlain r=true):r≠.dead:=fun e=>by subst e;simp [rowPlain] at h
section
variable {P:Program} {τ:Nat->TI} {m N:Nat} {w w':World} {bs:List Nat} {A:Nat->Prop} {a:Act} {st:St}
def subB (bs:List Nat) (is:List Nat):List Nat:=is.map fun i=>(bs[i]?).getD 0
def subR (rows:List Row) (is:List Nat):List Row:=is.map fun i=>(rows[i]?).getD .dead
structure Picked (bs:List Nat) (rows:List Row) (is:List Nat):Prop where
 nd:is.Nodup
 ok:∀i∈is,∃r,rows[i]? =some r/\rowPlain r=true
 len:bs.length=rows.length
theorem Picked.get {bs:List Nat} {rows:List Row} {is:List Nat} (h:Picked bs rows is) {j i:Nat} (hj:is[j]? =some i):∃b r,bs[i]? =some b/\rows[i]? =some r/\rowPlain r=true/\(subB bs is)[j]? =some b/\(subR rows is)[j]? =some r:=by
 obtain ⟨r,hr,hp⟩:=h.ok i (List.mem_of_getElem? hj)
 have hi:i<bs.length:=by rw [h.len];exact (List.getElem?_eq_some_iff.1 hr).1
 exact ⟨bs[i],r,by simp [hi],hr,hp,by simp [subB,hj,hi],by simp [subR,hj,hr]⟩
theorem Picked.mem {bs:List Nat} {rows:List Row} {is:List Nat} (h:Picked bs rows is) {b:Nat} (hb:b∈subB bs is):∃(j i:Nat),is[j]? =some i/\bs[i]? =some b:=by
 obtain ⟨j,hj,hj2⟩:=List.getElem_of_mem hb
 have hj3:j<is.length:=by simpa [subB] using hj
 obtain ⟨b',r,h1,h2,h3,h4,h5⟩:=h.get (j:=j) (i:=is[j]) (by simp)
 refine ⟨j,is[j],by simp,?_⟩
 rw [List.getElem?_eq_getElem hj,hj2] at h4
 cases h4
 exact h1
theorem rok_sub (hs:Sat w bs A a N st) {is:List Nat} (hp:Picked bs st.rows is):ROk w (subB bs is) A (subR st.rows is):=by
 refine ⟨by simp [subB,subR],?_,?_,hs.old,?_⟩
 .rw [List.nodup_iff_pairwise_ne,List.pairwise_iff_getElem]
  intro x y hx hy hxy e
  have hx3:x<is.length:=by simpa [subB] using hx
  have hy3:y<is.length:=by simpa [subB] using hy
  obtain ⟨b1,r1,h1,_,_,h4,_⟩:=hp.get (j:=x) (i:=is[x]) (by simp)
  obtain ⟨b2,r2,g1,_,_,g4,_⟩:=hp.get (j:=y) (i:=is[y]) (by simp)
  rw [List.getElem?_eq_getElem hx] at h4
  rw [List.getElem?_eq_getElem hy] at g4
  cases h4;cases g4
  rw [e] at h1
  have:=nodup_ix hs.nodup h1 g1
  have:=(List.getElem_inj (h₀:=hx3) (h₁:=hy3) hp.nd).1 this
  omega
 .intro b hb
  obtain ⟨j,i,_,h⟩:=hp.mem hb
  exact hs.lt b (List.mem_of_getElem? h)
 .intro j b r hb hr
  have hj3:j<is.length:=by have:=(List.getElem?_eq_some_iff.1 hb).1;simpa [subB] using this
  obtain ⟨b1,r1,h1,h2,h3,h4,h5⟩:=hp.get (j:=j) (i:=is[j]) (by simp)
  rw [h4] at hb;rw [h5] at hr
  cases hb;cases hr
  have:=hs.row _ _ _ h1 h2
  exact rowPlain_keep h3 rfl (this.nA (rowPlain_nd h3)) (fun b hb _=>⟨rfl,hb⟩) this
theorem Picked.notA (hs:Sat w bs A a N st) {is:List Nat} (hp:Picked bs st.rows is) {b:Nat} (hb:b∈subB bs is):¬A b:=by
 obtain ⟨j,i,h1,h2⟩:=hp.mem hb
 obtain ⟨b1,r,g1,g2,g3,_⟩:=hp.get h1
 rw [h2] at g1;cases g1
 exact (hs.row _ _ _ h2 g2).nA (rowPlain_nd g3)
theorem cvtX_ok (hs:Sat w bs A a N st) {is:List Nat} (hp:Picked bs st.rows is):∀(y:XV) (v:Value),XVal w bs A st.rows y v->V w (subB bs is) A (subR st.rows is) (cvtX st.rows is y) v:=by
 have notin:∀{i b:Nat},bs[i]? =some b->is.idxOf? i=none->b∉subB bs is:=by
  intro i b h1 hx hb
  obtain ⟨j,i2,k1,k2⟩:=hp.mem hb
  have:=nodup_ix hs.nodup h1 k2
  subst this
  exact idxOf_none hx (List.mem_of_getElem? k1)
 have sub:∀b,A b->b∉subB bs is:=fun b hb hm=>hp.notA hs hm hb
 intro y v h
 match y,h with
 |.emp,h=>exact h
 |.sb i lo hi,h=>
  simp only [cvtX]
  obtain ⟨b,e,t,xs,cur,o,h1,h2,h3,h4,h5,h6,h7⟩:=h
  cases hx:is.idxOf? i with
  |some j=>
   simp only
   obtain ⟨b1,r,g1,g2,g3,g4,g5⟩:=hp.get (idxOf_some hx)
   rw [h1] at g1;rw [h2] at g2;cases g1;cases g2
   exact ⟨b,e,t,xs,cur,o,g4,g5,h3,h4,h5,h6,h7⟩
  |none=>
   simp only [h2]
   obtain ⟨hA,cur2,c1,c2,c3,c4⟩:=hs.row i b _ h1 h2
   rw [h3] at c1;cases c1
   have hlen:(List.drop lo (List.take hi xs)).length=hi-lo:=by simp;omega
   refine ⟨some ⟨b,o,none⟩,cur.size-lo,by rw [hlen];exact h6,by rw [hlen];omega,(fun hh=>by simp at hh),?_⟩
   by_cases he:hi=lo
   .left;exact List.eq_nil_of_length_eq_zero (by omega)
   .right
    have ho:o=lo:=by rcases h7 with h7|h7<;>omega
    subst ho
    refine ⟨b,o,rfl,notin h1 hx,fun j hj=>?_⟩
    rw [hlen] at hj
    obtain ⟨cv,k1,k2⟩:=c4 (o+j) (by omega)
    have e1:(List.drop o (List.take hi xs))[j]'(by omega)=xs[o+j]'(by omega):=by simp
    refine ⟨cv,by rw [cell_of_row w b (o+j) cur e (0,0) h3];exact k1,?_⟩
    rw [e1]
    exact Rd.ext (fun b2 hb2 _=>⟨rfl,sub b2 hb2⟩) t _ _ k2
 |.oz i,h=>
  simp only [cvtX]
  obtain ⟨b,e,xs,cur,h1,h2,h3,h4⟩:=h
  cases hx:is.idxOf? i with
  |some j=>
   simp only
   obtain ⟨b1,r,g1,g2,g3,g4,g5⟩:=hp.get (idxOf_some hx)
   rw [h1] at g1;rw [h2] at g2;cases g1;cases g2
   exact ⟨b,e,xs,cur,g4,g5,h3,h4⟩
  |none=>
   simp only [h2]
   obtain ⟨hA,cur2,c1,c2,c3,c4⟩:=hs.row i b _ h1 h2
   rw [h3] at c1;cases c1
   exact ⟨some ⟨b,0,none⟩,cur.size / 2,h4,by omega,(fun hh=>by simp at hh),.inr ⟨b,0,rfl,notin h1 hx,c4.ext (fun b2 hb2 _=>⟨rfl,sub b2 hb2⟩) rfl⟩⟩
 |.sz i lo hi,h=>
  simp only [cvtX]
  obtain ⟨b,e,xs,cur,o,h1,h2,h3,h4,h5,h6,h7⟩:=h
  cases hx:is.idxOf? i with
  |some j=>
   simp only
   obtain ⟨b1,r,g1,g2,g3,g4,g5⟩:=hp.get (idxOf_some hx)
   rw [h1] at g1;rw [h2] at g2;cases g1;cases g2
   exact ⟨b,e,xs,cur,o,g4,g5,h3,h4,h5,h6,h7⟩
  |none=>
   simp only [h2]
   obtain ⟨hA,cur2,c1,c2,c3,c4⟩:=hs.row i b _ h1 h2
   rw [h3] at c1;cases c1
   have hlen:(List.drop lo (List.take hi xs)).length=hi-lo:=by simp;omega
   refine ⟨some ⟨b,o,none⟩,cur.size / 2-lo,by rw [hlen];exact h6,by rw [hlen];omega,(fun hh=>by simp at hh),?_⟩
   by_cases he:hi=lo
   .left;exact List.eq_nil_of_length_eq_zero (by omega)
   .right
    have ho:o=2*lo:=by rcases h7 with h7|h7;exact (he h7).elim;exact h7
    subst ho
    refine ⟨b,2*lo,rfl,notin h1 hx,fun j hj=>?_⟩
    rw [hlen] at hj
    obtain ⟨k1,k2,k3,k4,k5⟩:=c4 (lo+j) (by omega)
    have e1:(List.drop lo (List.take hi xs))[j]'(by omega)=xs[lo+j]'(by omega):=by simp
    have e2:2*lo+2*j=0+2*(lo+j):=by omega
    exact ⟨k1,k2,by rw [e2];exact k3,by rw [e2];exact k4,by rw [e1];exact k5.ext (fun b2 hb2 _=>⟨rfl,sub b2 hb2⟩)⟩
 |.dz sh xs,h=>
  obtain ⟨ad,cap,h1,h2,h3,h4⟩:=h
  have hsub:∀b,SS bs A sh b->SS (subB bs is) A sh b:=by
   intro b hb
   cases sh
   .intro hm
    obtain ⟨j,i,_,h2⟩:=hp.mem hm
    exact hb (List.mem_of_getElem? h2)
   .exact hb
  refine ⟨ad,cap,h1,h2,h3,?_⟩
  rcases h4 with h4|⟨b,o,h4,hS,hc⟩
  .exact .inl h4
  .exact .inr ⟨b,o,h4,hsub b hS,hc.ext (fun b2 hb2 _=>⟨rfl,hsub b2 hb2⟩) rfl⟩
 |.pf _ _ _,_=>trivial
 |.ef _ _ _ _,_=>trivial
 |.xd _ _,h=>exact h
 |.xe _ _ _,_=>trivial
 |.oa _,_=>trivial
 |.lo _,_=>trivial
mutual
theorem cvt_ok (hs:Sat w bs A a N st) {is:List Nat} (hp:Picked bs st.rows is):∀(av:AV) (v:Value),V w bs A st.rows av v->V w (subB bs is) A (subR st.rows is) (cvt st.rows is av) v
 |.ow i,v,h=>by
  unfold cvt
  obtain ⟨b,e,t,xs,cur,h1,h2,h3,h4⟩:=h
  cases hx:is.idxOf? i with
  |some j=>
   obtain ⟨b1,r,g1,g2,g3,g4,g5⟩:=hp.get (idxOf_some hx)
   rw [h1] at g1;rw [h2] at g2;cases g1;cases g2
   exact ⟨b,e,t,xs,cur,g4,g5,h3,h4⟩
  |none=>
   simp only [h2]
   obtain ⟨hA,cur2,c1,c2,c3,c4⟩:=hs.row i b _ h1 h2
   rw [h3] at c1;cases c1
   have base:Rd w (SS (subB bs is) A false) (.sl t) xs v:=by
    refine ⟨some ⟨b,0,none⟩,cur.size,h4,c2,(fun hh=>by simp at hh),?_⟩
    right
    refine ⟨b,0,rfl,fun hb=>?_,fun j hj=>?_⟩
    .obtain ⟨j,i2,k1,k2⟩:=hp.mem hb
     have:=nodup_ix hs.nodup h1 k2
     subst this
     exact idxOf_none hx (List.mem_of_getElem? k1)
    .obtain ⟨cv,k1,k2⟩:=c4 j hj
     refine ⟨cv,by rw [Nat.zero_add,cell_of_row w b j cur e (0,0) h3];exact k1,Rd.ext (fun b2 hb2 _=>⟨rfl,fun hm=>hp.notA hs hm hb2⟩) t _ _ k2⟩
   cases t with
   |sw e0 d=>exact Rd.wk base
   |_=>exact base
 |.ptr i n,v,h=>by
  unfold cvt
  cases hx:is.idxOf? i with
  |some j=>
   obtain ⟨b,r,h1,h2,h3,h4⟩:=h
   obtain ⟨b1,r1,g1,g2,g3,g4,g5⟩:=hp.get (idxOf_some hx)
   rw [h1] at g1;rw [h2] at g2;cases g1;cases g2
   exact ⟨b,r,g4,g5,h3,h4⟩
  |none=>trivial
 |.d sh t x,v,h=>by
  have base:Rd w (SS (subB bs is) A sh) t x v:=by
   refine Rd.ext (fun b hb _=>⟨rfl,?_⟩) t x v h
   cases sh
   .intro hm
    obtain ⟨j,i,_,h2⟩:=hp.mem hm
    exact hb (List.mem_of_getElem? h2)
   .exact hb
  cases t with
  |sw e d=>exact RdW.rd base
  |sl t'=>cases t' with
   |sw e d=>exact Rd.wk base
   |_=>exact base
  |_=>exact base
 |.el sh t xs j,v,h=>by
  obtain ⟨hj,b,o,hv,hS,hc⟩:=h
  have hsub:∀b,SS bs A sh b->SS (subB bs is) A sh b:=by
   intro b hb
   cases sh
   .intro hm
    obtain ⟨j,i,_,h2⟩:=hp.mem hm
    exact hb (List.mem_of_getElem? h2)
   .exact hb
  refine ⟨hj,b,o,hv,hsub b hS,fun i hi=>?_⟩
  obtain ⟨cv,h1,h2⟩:=hc i hi
  exact ⟨cv,h1,Rd.ext (fun b hb _=>⟨rfl,hsub b hb⟩) t _ _ h2⟩
 |.nil,v,h=>h
 |.arr t xs,v,h=>h
 |.fn f caps,v,h=>by
  obtain ⟨vs,h1,h2⟩:=h
  exact ⟨vs,h1,cvts_ok hs hp caps vs h2⟩
 |.tup l,v,h=>trivial
 |.x y,v,h=>cvtX_ok hs hp y v h
 |.any,v,h=>trivial
theorem cvts_ok (hs:Sat w bs A a N st) {is:List Nat} (hp:Picked bs st.rows is):∀(l:List AV) (vs:List Value),Vs w bs A st.rows l vs->Vs w (subB bs is) A (subR st.rows is) (cvt.cl st.rows is l) vs
 |[],_,h=>h
 |x::l,_,h=>by
  obtain ⟨v,r,rfl,h1,h2⟩:=h
  exact ⟨v,r,rfl,cvt_ok hs hp x v h1,cvts_ok hs hp l r h2⟩
end
end
theorem run_callFunc_enter {P:Program} {f:FuncId} (h:Runs P f) (args:Array Value) (w:World):(callFunc f args).run P w=.ok (.enter f args) w:=by
 obtain ⟨fn,c,h1,h2,h3⟩:=h
 simp only [callFunc,Sem.run_bind,run_program,Result.andThen_ok,h1]
 rw [if_neg (by rw [h3];simp),if_neg (by rw [h2];simp)]
 rfl
theorem Vs_append {w:World} {bs:List Nat} {A:Nat->Prop} {rows:List Row}:∀{l l2:List AV} {vs vs2:List Value},Vs w bs A rows l vs->Vs w bs A rows l2 vs2->Vs w bs A rows (l++l2) (vs++vs2)
 |[],_,_,_,h,h2=>by cases h;exact h2
 |x::l,_,_,_,h,h2=>by
  obtain ⟨v,r,rfl,h1,h3⟩:=h
  exact ⟨v,r++_,rfl,h1,Vs_append h3 h2⟩
theorem Vs_map {w w':World} {bs bs':List Nat} {A A':Nat->Prop} {rows rows':List Row} {f:AV->AV} (hf:∀av v,V w bs A rows av v->V w' bs' A' rows' (f av) v):∀{l:List AV} {vs:List Value},Vs w bs A rows l vs->Vs w' bs' A' rows' (l.map f) vs
 |[],_,h=>h
 |x::l,_,h=>by
  obtain ⟨v,r,rfl,h1,h3⟩:=h
  exact ⟨v,r,rfl,hf x v h1,Vs_map hf h3⟩
theorem VRes_map {w w':World} {bs bs':List Nat} {A A':Nat->Prop} {rows rows':List Row} {f:AV->AV} (hf:∀av v,V w bs A rows av v->V w' bs' A' rows' (f av) v) {res:List AV} {rv:Value} (h:VRes w bs A rows res rv):
 V w' bs' A' rows' (one1 (res.map f)) rv:=by
 match res,h with
 |[],h=>obtain ⟨vs,h1,h2⟩:=h;exact ⟨vs,h1,Vs_map (l:=[]) hf h2⟩
 |[r],h=>exact hf r rv h
 |r::r2::l,h=>obtain ⟨vs,h1,h2⟩:=h;exact ⟨vs,h1,Vs_map (l:=r::r2::l) hf h2⟩
section
variable {P:Program} {τ:Nat->TI} {m N:Nat} {w w':World} {bs:List Nat} {A:Nat->Prop} {a:Act} {st:St}
structure Back (w:World) (bs:List Nat) (A:Nat->Prop) (st:St) (is:List Nat) (rows':List Row) (w':World) (new:List Nat) (A':Nat->Prop):Prop where
 rok:ROk w' (subB bs is++new) A' rows'
 step:Step w (subB bs is) A w' (subB bs is++new) A'
 stay:Stay w (subB bs is) w'
 up:∀b,A b->A' b
 pk:Picked bs st.rows is
 like:rowsLike (subR st.rows is) rows'
 plain:rows'.all rowPlain=true
theorem Back.newlt {is:List Nat} {rows':List Row} {new:List Nat} {A':Nat->Prop} (h:Back w bs A st is rows' w' new A') {b:Nat} (hb:b∈new):w.heap.size<=b/\b<w'.heap.size:=by
 refine ⟨?_,h.rok.lt b (by simp [hb])⟩
 rcases h.step.sbs b (by simp [hb]) with h1|h1
 .have:=h.rok.nodup
  rw [List.nodup_append] at this
  exact (this.2.2 b h1 b hb rfl).elim
 .exact h1
theorem Back.newA {is:List Nat} {rows':List Row} {new:List Nat} {A':Nat->Prop} (h:Back w bs A st is rows' w' new A') {b:Nat} (hb:b∈subB bs is++new):¬A' b:=by
 obtain ⟨j,hj,hj2⟩:=List.getElem_of_mem hb
 have hlen:=h.rok.len
 have hr:=h.rok.row j b (rows'[j]'(by omega)) (by rw [<-hj2];simp) (by simp)
 have hp:rowPlain (rows'[j]'(by omega))=true:=by
  have:=h.plain
  rw [List.all_eq_true] at this
  exact this _ (List.getElem_mem _)
 exact hr.nA (rowPlain_nd hp)
theorem Back.block (hs:Sat w bs A a N st) {is:List Nat} {rows':List Row} {new:List Nat} {A':Nat->Prop} (h:Back w bs A st is rows' w' new A') {i b:Nat} (hi:bs[i]? =some b) (hn:i∉is):w'.heap[b]? =w.heap[b]?/\¬A' b\/st.rows[i]? =some .dead/\w'.heap[b]? =w.heap[b]? :=by
 have hnm:b∉subB bs is:=by
  intro hm
  obtain ⟨j,i2,k1,k2⟩:=h.pk.mem hm
  have:=nodup_ix hs.nodup hi k2
  subst this
  exact hn (List.mem_of_getElem? k1)
 have hlt:=hs.lt b (List.mem_of_getElem? hi)
 have hb:=h.step.block b hlt hnm
 have hil:i<st.rows.length:=by rw [<-hs.len];exact (List.getElem?_eq_some_iff.1 hi).1
 have hrow:=hs.row i b (st.rows[i]) hi (by simp [hil])
 have hAn:¬A b->¬A' b:=by
  intro hA hA'
  rcases h.step.sA b hA' with h1|h1|h1
  .exact hA h1
  .omega
  .exact hnm h1
 have he:st.rows[i]? =some st.rows[i]:=by simp [hil]
 revert hrow he
 cases st.rows[i] with
 |dead=>intro _ he;exact .inr ⟨he,hb⟩
 |sl e t xs=>intro hr _;exact .inl ⟨hb,hAn hr.1⟩
 |box e av=>intro hr _;exact .inl ⟨hb,hAn hr.1⟩
 |tz e xs=>intro hr _;exact .inl ⟨hb,hAn hr.1⟩
theorem Back.rowsC {is:List Nat} {rows':List Row} {new:List Nat} {A':Nat->Prop} (h:Back w bs A st is rows' w' new A') {j i:Nat} (hj:is[j]? =some i) {r:Row} (hr:rows'[j]? =some r):
 (setRows st.rows is (rows'.take is.length))[i]? =some r:=by
 obtain ⟨b,r0,g1,g2,_⟩:=h.pk.get hj
 have hjl:j<is.length:=(List.getElem?_eq_some_iff.1 hj).1
 exact setRows_in is _ _ j i r h.pk.nd hj (by rw [List.getElem?_take,if_pos hjl];exact hr) (by exact (List.getElem?_eq_some_iff.1 g2).1)
theorem Back.kp (hs:Sat w bs A a N st) {is:List Nat} {rows':List Row} {new:List Nat} {A' A'':Nat->Prop} (h:Back w bs A st is rows' w' new A') (hA'':∀b,A' b->A'' b) {bsX:List Nat} {rowsX:List Row} (hX:∀b∈bsX,w.heap.size<=b):
 Kp w bs A st.rows w' (bs++bsX) A'' (setRows st.rows is (rows'.take is.length)++rowsX) (fun i=>i<bs.length) where
 a:=fun b hb hlt=>⟨h.step.block b hlt (fun hm=>h.pk.notA hs hm hb),hA'' b (h.up b hb)⟩
 n:=fun b hb hlt=>⟨h.step.block b hlt (fun hm=>by
  obtain ⟨j,i2,k1,k2⟩:=h.pk.mem hm
  exact hb (List.mem_of_getElem? k2)),by
  intro hm
  simp only [List.mem_append] at hm
  rcases hm with hm|hm
  .exact hb hm
  .have:=hX b hm;omega⟩
 h:=fun i hi=>by
  have hil:i<st.rows.length:=by rw [<-hs.len];exact hi
  refine ⟨by rw [List.getElem?_append_left hi],fun r hr=>?_,fun b cur e hb hc=>?_⟩
  .rw [List.getElem?_append_left (by rw [setRows_len];exact hil)]
   by_cases hm:i∈is
   .obtain ⟨j,hj,hj2⟩:=List.getElem_of_mem hm
    have hjs:is[j]? =some i:=by rw [<-hj2];simp
    obtain ⟨b0,r0,g1,g2,g3,g4,g5⟩:=h.pk.get hjs
    rw [hr] at g2;cases g2
    obtain ⟨r',k1,k2,k3⟩:=(rowsLike_ok h.like).2 j r g5
    exact ⟨r',h.rowsC hjs k1,k2,k3⟩
   .exact ⟨r,by rw [setRows_out is _ _ i hm];exact hr,rfl,(fun e t xs hx=>⟨xs,hx⟩),fun e xs hx=>⟨xs,hx⟩⟩
  .by_cases hm:i∈is
   .obtain ⟨j,hj,hj2⟩:=List.getElem_of_mem hm
    have hjs:is[j]? =some i:=by rw [<-hj2];simp
    obtain ⟨b0,r0,g1,g2,g3,g4,g5⟩:=h.pk.get hjs
    rw [hb] at g1;cases g1
    exact h.stay b (List.mem_of_getElem? g4) cur e hc
   .rcases h.block hs hb hm with ⟨k1,_⟩|⟨_,k1⟩<;>exact ⟨cur,by rw [k1];exact hc,rfl⟩
theorem Back.passed (hs:Sat w bs A a N st) {is:List Nat} {rows':List Row} {new:List Nat} {A' A'':Nat->Prop} (h:Back w bs A st is rows' w' new A') (hA'':∀b,A' b->A'' b) (hnew:∀b,A'' b->A' b\/b∈new) {bsX:List Nat} {rowsX:List Row} (hX:∀b∈bsX,w.heap.size<=b)
 {i b:Nat} {r:Row} (hb:bs[i]? =some b) (hr:(setRows st.rows is (rows'.take is.length))[i]? =some r):RowR w' (bs++bsX) A'' (setRows st.rows is (rows'.take is.length)++rowsX) b r:=by
 have hi:i<bs.length:=(List.getElem?_eq_some_iff.1 hb).1
 by_cases hm:i∈is
 .obtain ⟨j,hj,hj2⟩:=List.getElem_of_mem hm
  have hjs:is[j]? =some i:=by rw [<-hj2];simp
  obtain ⟨b0,r0,g1,g2,g3,g4,g5⟩:=h.pk.get hjs
  rw [hb] at g1;cases g1
  obtain ⟨r',k1,k2,k3⟩:=(rowsLike_ok h.like).2 j r0 g5
  rw [h.rowsC hjs k1] at hr
  cases hr
  have hlj:j<(subB bs is).length:=(List.getElem?_eq_some_iff.1 g4).1
  have hbb:(subB bs is++new)[j]? =some b:=by rw [List.getElem?_append_left hlj];exact g4
  have hrr:=h.rok.row j b r hbb k1
  have hpl:rowPlain r=true:=by
   have:=h.plain
   rw [List.all_eq_true] at this
   exact this r (List.mem_of_getElem? k1)
  refine rowPlain_keep hpl rfl (fun hA=>?_) (fun b hb _=>⟨rfl,hA'' b hb⟩) hrr
  rcases hnew b hA with h1|h1
  .exact h.newA (List.mem_of_getElem? hbb) h1
  .have:=(h.newlt h1).1
   have:=hs.lt b (List.mem_of_getElem? hb)
   omega
 .rw [setRows_out is _ _ i hm] at hr
  rcases h.block hs hb hm with ⟨k1,k2⟩|⟨k0,_⟩
  .refine RowR.keep (h.kp hs hA'' (bsX:=bsX) (rowsX:=rowsX) hX) k1 (fun _ hA=>?_) (fun e av e1 j hj=>hs.boxlt hb hr e av e1 j hj) (hs.row i b r hb hr)
   rcases hnew b hA with h1|h1
   .exact k2 h1
   .have:=(h.newlt h1).1
    have:=hs.lt b (List.mem_of_getElem? hb)
    omega
  .rw [k0] at hr;cases hr;trivial
theorem Back.stp (hs:Sat w bs A a N st) (hm:m<=bs.length) {is:List Nat} {rows':List Row} {new:List Nat} {A' A'':Nat->Prop} (h:Back w bs A st is rows' w' new A') (hA'':∀b,A' b->A'' b) (hnew:∀b,A'' b->A' b\/b∈new) {bsX:List Nat} (hX:∀b∈bsX,w.heap.size<=b):
 Stp m w bs A w' (bs++bsX) A'' where
 os:=h.step.os
 tape:=h.step.tape
 output:=h.step.output
 size:=h.step.size
 block:=fun k hk hn=>h.step.block k hk (fun hm=>by
  obtain ⟨j,i2,_,k2⟩:=h.pk.mem hm
  exact hn (List.mem_of_getElem? k2))
 sbs:=fun b hb=>by
  simp only [List.mem_append] at hb
  rcases hb with hb|hb
  .exact .inl hb
  .exact .inr (hX b hb)
 sA:=fun b hb=>by
  rcases hnew b hb with h1|h1
  .rcases h.step.sA b h1 with h2|h2|h2
   .exact .inl h2
   .exact .inr (.inl h2)
   .obtain ⟨j,i2,_,k2⟩:=h.pk.mem h2
    exact .inr (.inr (List.mem_of_getElem? k2))
  .exact .inr (.inl (h.newlt h1).1)
 tk:=by rw [List.take_append_of_le_length hm]
 st:=fun b hb cur e hc=>by
  obtain ⟨i,hi,hi2⟩:=List.getElem_of_mem (List.mem_of_mem_take hb)
  exact ((h.kp hs hA'' (bsX:=bsX) (rowsX:=[]) hX).h i hi).2.2 b cur e (by rw [<-hi2];simp) hc
 up:=fun b hb=>hA'' b (h.up b hb)
end
section
variable {P:Program} {τ:Nat->TI} {m N:Nat} {w w':World} {bs:List Nat} {A:Nat->Prop} {a:Act} {st:St}
theorem Back.sat (hs:Sat w bs A a N st) {is:List Nat} {rows':List Row} {new:List Nat} {A':Nat->Prop} (h:Back w bs A st is rows' w' new A'):
 Sat w' (bs++new) A' a N ⟨st.env,setRows st.rows is (rows'.take is.length)++rows'.drop is.length⟩:=by
 have hX:∀b∈new,w.heap.size<=b:=fun b hb=>(h.newlt hb).1
 have hlen:=h.rok.len
 have hil:is.length<=rows'.length:=by
  have:=(rowsLike_ok h.like).1
  simpa [subR] using this
 refine hs.change (h.kp hs (A'':=A') (fun _ h=>h) (bsX:=new) (rowsX:=rows'.drop is.length) hX) ⟨?_,?_,?_,h.rok.old,?_⟩ (fun t=>.inr ⟨rfl,fun i _ hi=>hi⟩)
 .simp only [List.length_append,setRows_len,List.length_drop,subB,List.length_map] at hlen ⊢
  rw [hs.len];omega
 .have hn:=h.rok.nodup
  rw [List.nodup_append] at hn ⊢
  refine ⟨hs.nodup,hn.2.1,fun x hx y hy=>?_⟩
  have:=hs.lt x hx
  have:=hX y hy
  omega
 .intro b hb
  simp only [List.mem_append] at hb
  rcases hb with hb|hb
  .have:=hs.lt b hb;have:=h.step.size;omega
  .exact (h.newlt hb).2
 .intro i b r hb hr
  by_cases hi:i<bs.length
  .rw [List.getElem?_append_left hi] at hb
   rw [List.getElem?_append_left (by rw [setRows_len,<-hs.len];exact hi)] at hr
   exact h.passed hs (fun _ h=>h) (fun b h=>.inl h) hX hb hr
  .rw [List.getElem?_append_right (by omega)] at hb
   rw [List.getElem?_append_right (by rw [setRows_len,<-hs.len];omega),setRows_len,<-hs.len,List.getElem?_drop] at hr
   have hsl:(subB bs is).length=is.length:=by simp [subB]
   have hbb:(subB bs is++new)[is.length+(i-bs.length)]? =some b:=by
    rw [List.getElem?_append_right (by omega),hsl]
    rw [show is.length+(i-bs.length)-is.length=i-bs.length by omega]
    exact hb
   have hrr:=h.rok.row _ _ _ hbb hr
   have hpl:rowPlain r=true:=by
    have:=h.plain
    rw [List.all_eq_true] at this
    exact this r (List.mem_of_getElem? hr)
   exact rowPlain_keep hpl rfl (h.newA (List.mem_of_getElem? hbb)) (fun b hb _=>⟨rfl,hb⟩) hrr
theorem Back.ren (hs:Sat w bs A a N st) {is:List Nat} {rows':List Row} {new:List Nat} {A':Nat->Prop} (h:Back w bs A st is rows' w' new A'):
 ∀(av:AV) (v:Value),V w' (subB bs is++new) A' rows' av v->V w' (bs++new) A' (setRows st.rows is (rows'.take is.length)++rows'.drop is.length) (Ow.ren (cnt st.rows) is av) v:=by
 intro av v hv
 have hsl:(subB bs is).length=is.length:=by simp [subB]
 have old:∀{i j b:Nat} {r:Row},is[j]? =some i->(subB bs is++new)[j]? =some b->rows'[j]? =some r->(bs++new)[i]? =some b/\(setRows st.rows is (rows'.take is.length)++rows'.drop is.length)[i]? =some r:=by
  intro i j b r hj h1 h2
  obtain ⟨b0,r0,g1,g2,g3,g4,g5⟩:=h.pk.get hj
  have hil:i<bs.length:=(List.getElem?_eq_some_iff.1 g1).1
  have hjl:j<is.length:=(List.getElem?_eq_some_iff.1 hj).1
  rw [List.getElem?_append_left (by omega),g4] at h1
  cases h1
  exact ⟨by rw [List.getElem?_append_left hil];exact g1,by rw [List.getElem?_append_left (by rw [setRows_len,<-hs.len];exact hil)];exact h.rowsC hj h2⟩
 have fresh:∀{j b:Nat} {r:Row},is[j]? =none->(subB bs is++new)[j]? =some b->rows'[j]? =some r->(bs++new)[st.rows.length+(j-is.length)]? =some b/\(setRows st.rows is (rows'.take is.length)++rows'.drop is.length)[st.rows.length+(j-is.length)]? =some r:=by
  intro j b r hj h1 h2
  have hjl:is.length<=j:=by simpa using hj
  refine ⟨?_,?_⟩
  .rw [List.getElem?_append_right (by omega),hsl] at h1
   rw [List.getElem?_append_right (by rw [hs.len];omega),hs.len]
   rw [show st.rows.length+(j-is.length)-st.rows.length=j-is.length by omega]
   exact h1
  .rw [List.getElem?_append_right (by rw [setRows_len];omega),setRows_len,List.getElem?_drop]
   rw [show is.length+(st.rows.length+(j-is.length)-st.rows.length)=j by omega]
   exact h2
 unfold Ow.ren
 split
 .exact hv
 .exact hv
 .exact hv
 .rename_i j
  obtain ⟨b,e,xs,cur,h1,h2,h3,h4⟩:=hv
  split
  .rename_i i hj
   obtain ⟨g1,g2⟩:=old hj h1 h2
   exact ⟨b,e,xs,cur,g1,g2,h3,h4⟩
  .rename_i hj
   rw [cnt_eq]
   obtain ⟨g1,g2⟩:=fresh hj h1 h2
   exact ⟨b,e,xs,cur,g1,g2,h3,h4⟩
 .rename_i j lo hi
  obtain ⟨b,e,t,xs,cur,o,h1,h2,h3⟩:=hv
  split
  .rename_i i hj
   obtain ⟨g1,g2⟩:=old hj h1 h2
   exact ⟨b,e,t,xs,cur,o,g1,g2,h3⟩
  .rename_i hj
   rw [cnt_eq]
   obtain ⟨g1,g2⟩:=fresh hj h1 h2
   exact ⟨b,e,t,xs,cur,o,g1,g2,h3⟩
 .rename_i j
  obtain ⟨b,e,t,xs,cur,h1,h2,h3,h4⟩:=hv
  split
  .rename_i i hj
   obtain ⟨b0,r0,g1,g2,g3,g4,g5⟩:=h.pk.get hj
   have hil:i<bs.length:=(List.getElem?_eq_some_iff.1 g1).1
   have hjl:j<is.length:=(List.getElem?_eq_some_iff.1 hj).1
   rw [List.getElem?_append_left (by omega),g4] at h1
   cases h1
   refine ⟨b,e,t,xs,cur,by rw [List.getElem?_append_left hil];exact g1,?_,h3,h4⟩
   rw [List.getElem?_append_left (by rw [setRows_len,<-hs.len];exact hil)]
   exact h.rowsC hj h2
  .rename_i hj
   have hjl:is.length<=j:=by simpa using hj
   rw [cnt_eq]
   refine ⟨b,e,t,xs,cur,?_,?_,h3,h4⟩
   .rw [List.getElem?_append_right (by omega),hsl] at h1
    rw [List.getElem?_append_right (by rw [hs.len];omega),hs.len]
    rw [show st.rows.length+(j-is.length)-st.rows.length=j-is.length by omega]
    exact h1
   .rw [List.getElem?_append_right (by rw [setRows_len];omega),setRows_len,List.getElem?_drop]
    rw [show is.length+(st.rows.length+(j-is.length)-st.rows.length)=j by omega]
    exact h2
 .rename_i j n
  obtain ⟨b,rr,h1,h2,h3,h4⟩:=hv
  split
  .rename_i i hj
   obtain ⟨b0,r0,g1,g2,g3,g4,g5⟩:=h.pk.get hj
   have hil:i<bs.length:=(List.getElem?_eq_some_iff.1 g1).1
   have hjl:j<is.length:=(List.getElem?_eq_some_iff.1 hj).1
   rw [List.getElem?_append_left (by omega),g4] at h1
   cases h1
   refine ⟨b,rr,by rw [List.getElem?_append_left hil];exact g1,?_,h3,h4⟩
   rw [List.getElem?_append_left (by rw [setRows_len,<-hs.len];exact hil)]
   exact h.rowsC hj h2
  .rename_i hj
   have hjl:is.length<=j:=by simpa using hj
   rw [cnt_eq]
   refine ⟨b,rr,?_,?_,h3,h4⟩
   .rw [List.getElem?_append_right (by omega),hsl] at h1
    rw [List.getElem?_append_right (by rw [hs.len];omega),hs.len]
    rw [show st.rows.length+(j-is.length)-st.rows.length=j-is.length by omega]
    exact h1
   .rw [List.getElem?_append_right (by rw [setRows_len];omega),setRows_len,List.getElem?_drop]
    rw [show is.length+(st.rows.length+(j-is.length)-st.rows.length)=j by omega]
    exact h2
 .exact hv
 .exact hv
 .exact hv
 .trivial
theorem Back.satF (hs:Sat w bs A a N st) {is:List Nat} {rows':List Row} {new:List Nat} {A':Nat->Prop} (h:Back w bs A st is rows' w' new A'):
 Sat w' bs (fun b=>A' b\/b∈new) a N ⟨st.env,setRows st.rows is (rows'.take is.length)⟩:=by
 have hX:∀b∈([]:List Nat),w.heap.size<=b:=fun b hb=>by simp at hb
 have k:=h.kp hs (A'':=fun b=>A' b\/b∈new) (fun _ h=>.inl h) (bsX:=[]) (rowsX:=[]) hX
 simp only [List.append_nil] at k
 refine hs.change k ⟨by simp only [setRows_len];exact hs.len,hs.nodup,?_,?_,?_⟩ (fun t=>.inr ⟨rfl,fun i _ hi=>hi⟩)
 .intro b hb
  have:=hs.lt b hb;have:=h.step.size;omega
 .intro b hb
  rcases hb with hb|hb
  .exact h.rok.old b hb
  .exact (h.newlt hb).2
 .intro i b r hb hr
  have:=h.passed hs (A'':=fun b=>A' b\/b∈new) (fun _ h=>.inl h) (fun b h=>h) hX (rowsX:=[]) hb hr
  simpa using this
theorem Back.renF {is:List Nat} {rows':List Row} {new:List Nat} {A':Nat->Prop} (h:Back w bs A st is rows' w' new A'):
 ∀(av:AV) (v:Value),V w' (subB bs is++new) A' rows' av v->V w' bs (fun b=>A' b\/b∈new) (setRows st.rows is (rows'.take is.length)) (Ow.renF rows' is av) v:=by
 intro av v hv
 have hsl:(subB bs is).length=is.length:=by simp [subB]
 have old:∀{i j b:Nat} {r:Row},is[j]? =some i->(subB bs is++new)[j]? =some b->rows'[j]? =some r->bs[i]? =some b/\(setRows st.rows is (rows'.take is.length))[i]? =some r:=by
  intro i j b r hj h1 h2
  obtain ⟨b0,r0,g1,g2,g3,g4,g5⟩:=h.pk.get hj
  have hjl:j<is.length:=(List.getElem?_eq_some_iff.1 hj).1
  rw [List.getElem?_append_left (by omega),g4] at h1
  cases h1
  exact ⟨g1,h.rowsC hj h2⟩
 have sub:∀b,A' b->b<w'.heap.size->w'.heap[b]? =w'.heap[b]?/\(A' b\/b∈new):=fun b hb _=>⟨rfl,.inl hb⟩
 unfold Ow.renF
 split
 .exact hv
 .obtain ⟨ad,cap,h1,h2,h3,h4⟩:=hv
  refine ⟨ad,cap,h1,h2,h3,?_⟩
  rcases h4 with h4|⟨b,o,h4,hS,hc⟩
  .exact .inl h4
  .exact .inr ⟨b,o,h4,.inl hS,hc.ext sub rfl⟩
 .obtain ⟨ad,cap,h1,h2,h3⟩:=hv
  refine ⟨ad,cap,h1,h2,?_⟩
  rcases h3 with h3|⟨b,o,h4,hS,hlt,hc⟩
  .exact .inl h3
  .exact .inr ⟨b,o,h4,.inl hS,hlt,hc⟩
 .rename_i j
  obtain ⟨b,e,xs,cur,h1,h2,h3,h4⟩:=hv
  split
  .rename_i i hj
   obtain ⟨g1,g2⟩:=old hj h1 h2
   exact ⟨b,e,xs,cur,g1,g2,h3,h4⟩
  .rename_i hj
   have hjl:is.length<=j:=by simpa using hj
   rw [h2]
   obtain ⟨hA,cur2,c1,c2,c3,c4⟩:=h.rok.row j b _ h1 h2
   rw [h3] at c1;cases c1
   rw [List.getElem?_append_right (by omega),hsl] at h1
   exact ⟨some ⟨b,0,none⟩,cur.size / 2,h4,by omega,(fun hh=>by simp at hh),.inr ⟨b,0,rfl,.inr (List.mem_of_getElem? h1),c4.ext sub rfl⟩⟩
 .rename_i j lo hi
  obtain ⟨b,e,t,xs,cur,o,h1,h2,h3⟩:=hv
  split
  .rename_i i hj
   obtain ⟨g1,g2⟩:=old hj h1 h2
   exact ⟨b,e,t,xs,cur,o,g1,g2,h3⟩
  .trivial
 .rename_i j
  obtain ⟨b,e,t,xs,cur,h1,h2,h3,h4⟩:=hv
  split
  .rename_i i hj
   obtain ⟨b0,r0,g1,g2,g3,g4,g5⟩:=h.pk.get hj
   have hjl:j<is.length:=(List.getElem?_eq_some_iff.1 hj).1
   rw [List.getElem?_append_left (by omega),g4] at h1
   cases h1
   exact ⟨b,e,t,xs,cur,g1,h.rowsC hj h2,h3,h4⟩
  .rename_i hj
   have hjl:is.length<=j:=by simpa using hj
   rw [h2]
   obtain ⟨hA,cur2,c1,c2,c3,c4⟩:=h.rok.row j b _ h1 h2
   rw [h3] at c1;cases c1
   rw [List.getElem?_append_right (by omega),hsl] at h1
   refine ⟨some ⟨b,0,none⟩,cur.size,h4,c2,(fun hh=>by simp at hh),.inr ⟨b,0,rfl,.inr (List.mem_of_getElem? h1),fun i hi=>?_⟩⟩
   obtain ⟨cv,k1,k2⟩:=c4 i hi
   exact ⟨cv,by rw [Nat.zero_add,cell_of_row w' b i cur e (0,0) h3];exact k1,Rd.ext (fun b hb _=>⟨rfl,.inl hb⟩) t _ _ k2⟩
 .rename_i t x
  exact Rd.ext (fun b hb _=>⟨rfl,.inl hb⟩) t x v hv
 .exact hv
 .rename_i t xs
  obtain ⟨cs,h1,h2,h3⟩:=hv
  refine ⟨cs,h1,h2,fun i hi=>?_⟩
  obtain ⟨cv,h4,h5⟩:=h3 i hi
  exact ⟨cv,h4,Rd.ext (fun b hb _=>⟨rfl,.inl hb⟩) t _ _ h5⟩
 .trivial
theorem wp_call (hs:Sat w bs A a N st) (hm:m<=bs.length) {o:Oper} {K:St->Prop} {Kc:Act->World->Prop} {Q:Exit->Act->World->Prop} (hK:Nxt m N w bs A K Kc) {c:Call} {f:Operand} (ho:o.op=.call c) (hc:c.callee=.value f)
 (h:callK P N m o.dst st (evl st.env f) (c.args.toList.map (evl st.env)) K):o.wp P a w Kc Q:=by
 unfold callK at h
 have hf:=evl_ok hs f
 split at h
 .rename_i F caps hfe
  rw [hfe] at hf
  obtain ⟨cv,hfv,hcv⟩:=hf
  have main:∀(is:List Nat) (fz:Bool) (res:List AV) (rows':List Row),callA P N o.dst st F (c.args.toList.map (evl st.env)) caps K is fz res rows'->o.wp P a w Kc Q:=by
   rintro is fz res rows' ⟨⟨hruns,hAC⟩,hnd,hall,hplain,hlike,h⟩
   have hp:Picked bs st.rows is:=⟨hnd,fun i hi=>by
    rw [List.all_eq_true] at hall
    have:=hall i hi
    cases hr:st.rows[i]? with
    |none=>rw [hr] at this;simp at this
    |some r=>rw [hr] at this;exact ⟨r,rfl,this⟩,hs.len⟩
   have hargs:=cvts_ok hs hp _ _ (Vs_append (evls_ok hs c.args.toList) hcv)
   have hcalls:=hAC w (subB bs is) A _ (rok_sub hs hp) hargs
   have hrun:(execOp a.eval o).run P w=.ok (.enter F (List.map a.eval c.args.toList++cv).toArray) w:=by
    have e:(List.map a.eval c.args.toList++cv).toArray=c.args.map a.eval++cv.toArray:=by
     rw [<-List.append_toArray]
     congr 1
     rw [<-Array.toList_map,Array.toArray_toList]
    rw [e]
    simp only [execOp,ho,resolve,hc,hfv,Deferred.ofValue,Sem.run_bind,Sem.run_pure,Result.andThen_ok,invoke]
    rw [show (#[]:Array Value)++c.args.map a.eval=c.args.map a.eval by simp]
    exact run_callFunc_enter hruns _ w
   unfold Oper.wp
   rw [hrun,Oper.upon_enter]
   refine hcalls.mono ?_
   rintro e w' ⟨rv,bs',A',rfl,hrok,hres,hstep,⟨new,rfl⟩,hstay,hup⟩
   have hback:Back w bs A st is rows' w' new A':=⟨hrok,hstep,hstay,hup,hp,hlike,hplain⟩
   show Kc (a.put o.dst rv) w'
   cases fz
   .have hst:=hback.stp (m:=m) hs hm (A'':=A') (fun _ h=>h) (fun b h=>.inl h) (bsX:=new) (fun b hb=>(hback.newlt hb).1)
    obtain ⟨y,hy,h⟩:=splB_ok (VRes_map (hback.ren hs) hres) h
    exact hK.of (hback.sat hs) hst hy h
   .have hst:=hback.stp (m:=m) hs hm (A'':=fun b=>A' b\/b∈new) (fun _ h=>.inl h) (fun b h=>h) (bsX:=[]) (fun b hb=>by simp at hb)
    rw [List.append_nil] at hst
    obtain ⟨y,hy,h⟩:=splB_ok (VRes_map (hback.renF) hres) h
    exact hK.of (hback.satF hs) hst hy h
  obtain ⟨is,fz,res,rows',h⟩:=h
  split at h
  .exact main _ _ _ _ h
  .split at h
   .obtain ⟨st',r,⟨hruns,hX⟩,h⟩:=h
    have hargs:=Vs_append (evls_ok hs c.args.toList) hcv
    have hcalls:=hX w bs A a _ hs hm hargs
    have hrun:(execOp a.eval o).run P w=.ok (.enter F (List.map a.eval c.args.toList++cv).toArray) w:=by
     have e:(List.map a.eval c.args.toList++cv).toArray=c.args.map a.eval++cv.toArray:=by
      rw [<-List.append_toArray]
      congr 1
      rw [<-Array.toList_map,Array.toArray_toList]
     rw [e]
     simp only [execOp,ho,resolve,hc,hfv,Deferred.ofValue,Sem.run_bind,Sem.run_pure,Result.andThen_ok,invoke]
     rw [show (#[]:Array Value)++c.args.map a.eval=c.args.map a.eval by simp]
     exact run_callFunc_enter hruns _ w
    unfold Oper.wp
    rw [hrun,Oper.upon_enter]
    refine hcalls.mono ?_
    rintro e w' ⟨rv,bs',A',rfl,hst,hv,hstep,htk,hstay,hup⟩
    show Kc (a.put o.dst rv) w'
    exact hK.of hst {hstep with tk:=htk,st:=hstay,up:=hup} hv h
   .exact main _ _ _ _ h
 .exact h.elim
theorem Nxt.trans {K:St->Prop} {Kc:Act->World->Prop} (hK:Nxt m N w bs A K Kc) {w1:World} {bs1:List Nat} {A1:Nat->Prop} (h:Stp m w bs A w1 bs1 A1):Nxt m N w1 bs1 A1 K Kc:=
 fun w' bs' A' a' st' h1 h2 h3=>hK w' bs' A' a' st' h1 (h.trans h2) h3
theorem look_frzE {i:Nat} {t:Ty} {xs:List t.T}:∀(env:List (Nat × AV)) (u:Nat),look (frzE i t xs env) u=.any\/(look (frzE i t xs env) u=look env u/\i∉(look env u).hs)\/(look env u=.ow i/\look (frzE i t xs env) u=.d true (.sl t) xs)
 |[],u=>.inl rfl
 |(d,v)::l,u=>by
  rw [frzE,look_cons,look_cons]
  by_cases e:d=u
  .subst e
   rw [if_pos rfl,if_pos rfl]
   have hk:∀v:AV,killH i v=.any\/(killH i v=v/\i∉v.hs):=by
    intro v
    unfold killH
    split
    .exact .inl rfl
    .rename_i hc
     exact .inr ⟨rfl,fun hm=>by rw [List.contains_iff_mem.2 hm] at hc;cases hc⟩
   cases v with
   |ow j=>
    simp only [frzV]
    cases hb:Nat.beq i j with
    |true=>rw [Nat.eq_of_beq_eq_true hb];exact .inr (.inr ⟨rfl,rfl⟩)
    |false=>exact .inr (.inl ⟨rfl,by simp [AV.hs];intro e;subst e;simp at hb⟩)
   |d sh t' x=>exact (hk (.d sh t' x)).elim .inl fun h=>.inr (.inl h)
   |el sh t' ys j=>exact (hk (.el sh t' ys j)).elim .inl fun h=>.inr (.inl h)
   |ptr j l=>exact (hk (.ptr j l)).elim .inl fun h=>.inr (.inl h)
   |nil=>exact (hk .nil).elim .inl fun h=>.inr (.inl h)
   |arr t' ys=>exact (hk (.arr t' ys)).elim .inl fun h=>.inr (.inl h)
   |fn f c=>exact (hk (.fn f c)).elim .inl fun h=>.inr (.inl h)
   |tup l=>exact (hk (.tup l)).elim .inl fun h=>.inr (.inl h)
   |any=>exact (hk .any).elim .inl fun h=>.inr (.inl h)
   |x y=>exact (hk (.x y)).elim .inl fun h=>.inr (.inl h)
  .rw [if_neg e,if_neg e];exact look_frzE l u
theorem Sat.frz (hs:Sat w bs A a N st) {i e:Nat} {t:Ty} {xs:List t.T} (hr:st.rows[i]? =some (.sl e t xs)) (hbox:boxFree i st.rows=true):
 ∃A',Sat w bs A' a N ⟨frzE i t xs st.env,st.rows.set i .dead⟩/\Stp m w bs A w bs A':=by
 obtain ⟨b,hb⟩:=hs.bs_of hr
 have hil:i<bs.length:=(List.getElem?_eq_some_iff.1 hb).1
 have hil2:i<st.rows.length:=(List.getElem?_eq_some_iff.1 hr).1
 obtain ⟨hA,cur,c1,c2,c3,c4⟩:=hs.row i b _ hb hr
 have k:Kp w bs A st.rows w bs (fun x=>A x\/x=b) (st.rows.set i .dead) (fun j=>j≠i/\j<bs.length):=
  {a:=fun b2 h2 _=>⟨rfl,.inl h2⟩
   n:=fun b2 h2 _=>⟨rfl,h2⟩
   h:=fun j hj=>⟨rfl,fun r' hr'=>⟨r',by rw [List.getElem?_set_ne (fun e=>hj.1 e.symm)];exact hr',rfl,(fun e t xs hx=>⟨xs,hx⟩),fun e xs hx=>⟨xs,hx⟩⟩,fun b2 cur2 e2 hb2 hc2=>⟨cur2,hc2,rfl⟩⟩}
 refine ⟨fun x=>A x\/x=b,⟨by simp [hs.len],hs.nodup,hs.lt,fun b2 h2=>?_,?_,fun u=>?_,hs.size,hs.dfs⟩,?_⟩
 .rcases h2 with h2|h2
  .exact hs.old b2 h2
  .rw [h2];exact hs.lt b (List.mem_of_getElem? hb)
 .intro j b2 r2 hb2 hr2
  by_cases e1:i=j
  .subst e1
   simp only [List.getElem?_set_self hil2] at hr2
   cases hr2
   trivial
  .simp only [List.getElem?_set_ne e1] at hr2
   refine RowR.keep k rfl (fun h h'=>?_) (fun e2 av e3 j2 hj2=>?_) (hs.row j b2 r2 hb2 hr2)
   .rcases h' with h'|h'
    .exact h h'
    .subst h';exact e1 (nodup_ix hs.nodup hb hb2)
   .subst e3
    exact ⟨fun e4=>boxFree_ok hbox j e2 av hr2 (e4 ▸ hj2),hs.boxlt hb2 hr2 e2 av rfl j2 hj2⟩
 .show V _ _ _ _ (look (frzE i t xs st.env) u) _
  have hv:=hs.env u
  rcases look_frzE (i:=i) (t:=t) (xs:=xs) st.env u with h|⟨h,h2⟩|⟨h,h2⟩
  .rw [h];trivial
  .rw [h]
   exact V.keep k _ _ (fun j hj=>⟨fun e=>h2 (e ▸ hj),V.hs_lt _ _ hv j hj⟩) hv
  .rw [h2]
   rw [h] at hv
   obtain ⟨b',e5,t5,xs5,cur5,g1,g2,g3,g4⟩:=hv
   rw [hr] at g2;cases g2
   rw [hb] at g1;cases g1
   rw [g3] at c1;cases c1
   refine ⟨some ⟨b,0,none⟩,cur.size,g4,c2,(fun hh=>by simp at hh),.inr ⟨b,0,rfl,.inr rfl,fun j hj=>?_⟩⟩
   obtain ⟨cv,k1,k2⟩:=c4 j hj
   exact ⟨cv,by rw [Nat.zero_add,cell_of_row w b j cur _ (0,0) g3];exact k1,Rd.ext (fun b hb _=>⟨rfl,.inl hb⟩) t _ _ k2⟩
 .exact {
   os:=rfl,tape:=rfl,output:=rfl,size:=Nat.le_refl _,block:=fun _ _ _=>rfl,sbs:=fun b hb=>.inl hb,sA:=fun b2 h2=>by rcases h2 with h2|h2;exact .inl h2;exact .inr (.inr (h2 ▸ List.mem_of_getElem? hb)),
   tk:=rfl,st:=fun b hb cur e hc=>⟨cur,hc,rfl⟩,up:=fun _ h=>.inl h}
theorem frzP_ok {K:St->Prop}:∀(l:List (Nat × Operand)) {A:Nat->Prop} {st:St},Sat w bs A a N st->frzP st l K->∃A' st',Sat w bs A' a N st'/\Stp m w bs A w bs A'/\K st'
 |[],A,st,hs,h=>⟨A,st,hs,Stp.refl m w bs A,h⟩
 |(_,x)::l,A,st,hs,h=>by
  unfold frzP at h
  split at h
  .split at h
   .rename_i i he e t xs hr
    obtain ⟨hbox,h⟩:=h
    rw [fEnv_eq] at h
    obtain ⟨A1,g1,g2⟩:=hs.frz (m:=m) hr hbox
    obtain ⟨A2,st2,k1,k2,k3⟩:=frzP_ok l g1 h
    exact ⟨A2,st2,k1,g2.trans k2,k3⟩
   .exact h.elim
  .exact frzP_ok l hs h
theorem look_frzF {i e:Nat} {d:Bool} {xs:List Int}:∀(env:List (Nat × AV)) (u:Nat),look (frzF i e d xs env) u=.any\/(look (frzF i e d xs env) u=look env u/\i∉(look env u).hs)\/(look env u=.ow i/\look (frzF i e d xs env) u=.d true (.sw e d) xs)
 |[],u=>.inl rfl
 |(d',v)::l,u=>by
  rw [frzF,look_cons,look_cons]
  by_cases e:d'=u
  .subst e
   rw [if_pos rfl,if_pos rfl]
   have hk:∀v:AV,killH i v=.any\/(killH i v=v/\i∉v.hs):=by
    intro v
    unfold killH
    split
    .exact .inl rfl
    .rename_i hc
     exact .inr ⟨rfl,fun hm=>by rw [List.contains_iff_mem.2 hm] at hc;cases hc⟩
   cases v with
   |ow j=>
    simp only [frzU]
    cases hb:Nat.beq i j with
    |true=>rw [Nat.eq_of_beq_eq_true hb];exact .inr (.inr ⟨rfl,rfl⟩)
    |false=>exact .inr (.inl ⟨rfl,by simp [AV.hs];intro e;subst e;simp at hb⟩)
   |d sh t' x=>exact (hk (.d sh t' x)).elim .inl fun h=>.inr (.inl h)
   |el sh t' ys j=>exact (hk (.el sh t' ys j)).elim .inl fun h=>.inr (.inl h)
   |ptr j l=>exact (hk (.ptr j l)).elim .inl fun h=>.inr (.inl h)
   |nil=>exact (hk .nil).elim .inl fun h=>.inr (.inl h)
   |arr t' ys=>exact (hk (.arr t' ys)).elim .inl fun h=>.inr (.inl h)
   |fn f c=>exact (hk (.fn f c)).elim .inl fun h=>.inr (.inl h)
   |tup l=>exact (hk (.tup l)).elim .inl fun h=>.inr (.inl h)
   |any=>exact (hk .any).elim .inl fun h=>.inr (.inl h)
   |x y=>exact (hk (.x y)).elim .inl fun h=>.inr (.inl h)
  .rw [if_neg e,if_neg e];exact look_frzF l u
theorem Sat.frzwb (hs:Sat w bs A a N st) {i e b:Nat} {d:Bool} {xs:List Int} (hr:st.rows[i]? =some (.sl e .int xs)) (hbox:boxFree i st.rows=true) (hb:bs[i]? =some b):
 Sat w bs (fun x=>A x\/x=b) a N ⟨frzF i e d xs st.env,st.rows.set i .dead⟩/\Stp m w bs A w bs (fun x=>A x\/x=b):=by
 obtain ⟨hA,cur,c1,c2,c3,c4⟩:=hs.row i b _ hb hr
 have hil:i<bs.length:=(List.getElem?_eq_some_iff.1 hb).1
 have hil2:i<st.rows.length:=(List.getElem?_eq_some_iff.1 hr).1
 have k:Kp w bs A st.rows w bs (fun x=>A x\/x=b) (st.rows.set i .dead) (fun j=>j≠i/\j<bs.length):=
  {a:=fun b2 h2 _=>⟨rfl,.inl h2⟩
   n:=fun b2 h2 _=>⟨rfl,h2⟩
   h:=fun j hj=>⟨rfl,fun r' hr'=>⟨r',by rw [List.getElem?_set_ne (fun e=>hj.1 e.symm)];exact hr',rfl,(fun e t xs hx=>⟨xs,hx⟩),fun e xs hx=>⟨xs,hx⟩⟩,fun b2 cur2 e2 hb2 hc2=>⟨cur2,hc2,rfl⟩⟩}
 refine ⟨⟨by simp [hs.len],hs.nodup,hs.lt,fun b2 h2=>?_,?_,fun u=>?_,hs.size,hs.dfs⟩,?_⟩
 .rcases h2 with h2|h2
  .exact hs.old b2 h2
  .rw [h2];exact hs.lt b (List.mem_of_getElem? hb)
 .intro j b2 r2 hb2 hr2
  by_cases e1:i=j
  .subst e1
   simp only [List.getElem?_set_self hil2] at hr2
   cases hr2
   trivial
  .simp only [List.getElem?_set_ne e1] at hr2
   refine RowR.keep k rfl (fun h h'=>?_) (fun e2 av e3 j2 hj2=>?_) (hs.row j b2 r2 hb2 hr2)
   .rcases h' with h'|h'
    .exact h h'
    .subst h';exact e1 (nodup_ix hs.nodup hb hb2)
   .subst e3
    exact ⟨fun e4=>boxFree_ok hbox j e2 av hr2 (e4 ▸ hj2),hs.boxlt hb2 hr2 e2 av rfl j2 hj2⟩
 .show V _ _ _ _ (look (frzF i e d xs st.env) u) _
  have hv:=hs.env u
  rcases look_frzF (i:=i) (e:=e) (d:=d) (xs:=xs) st.env u with h|⟨h,h2⟩|⟨h,h2⟩
  .rw [h];trivial
  .rw [h]
   exact V.keep k _ _ (fun j hj=>⟨fun e=>h2 (e ▸ hj),V.hs_lt _ _ hv j hj⟩) hv
  .rw [h2]
   rw [h] at hv
   obtain ⟨b',e5,t5,xs5,cur5,g1,g2,g3,g4⟩:=hv
   rw [hr] at g2;cases g2
   rw [hb] at g1;cases g1
   rw [g3] at c1;cases c1
   by_cases hx:xs=[]
   .subst hx
    exact .inl ⟨rfl,_,_,g4,fun hh=>by cases hh⟩
   .refine .inr ⟨hx,b,cur,g4,.inr rfl,g3,c2,c3,fun j hj=>?_⟩
    obtain ⟨cv,k1,k2⟩:=c4 j hj
    rw [k1];exact congrArg some k2
 .exact {
   os:=rfl,tape:=rfl,output:=rfl,size:=Nat.le_refl _,block:=fun _ _ _=>rfl,sbs:=fun b hb=>.inl hb,sA:=fun b2 h2=>by rcases h2 with h2|h2;exact .inl h2;exact .inr (.inr (h2 ▸ List.mem_of_getElem? hb)),
   tk:=rfl,st:=fun b hb cur e hc=>⟨cur,hc,rfl⟩,up:=fun _ h=>.inl h}
theorem Sat.frzw (hs:Sat w bs A a N st) {i e:Nat} {d:Bool} {xs:List Int} (hr:st.rows[i]? =some (.sl e .int xs)) (hbox:boxFree i st.rows=true):
 ∃A',Sat w bs A' a N ⟨frzF i e d xs st.env,st.rows.set i .dead⟩/\Stp m w bs A w bs A':=by
 obtain ⟨b,hb⟩:=hs.bs_of hr
 exact ⟨_,hs.frzwb hr hbox hb⟩
theorem frzW_ok {e:Nat} {d:Bool} {K:St->Prop}:∀(l:List (Nat × Operand)) {A:Nat->Prop} {st:St},Sat w bs A a N st->frzW e d st l K->∃A' st',Sat w bs A' a N st'/\Stp m w bs A w bs A'/\K st'
 |[],A,st,hs,h=>⟨A,st,hs,Stp.refl m w bs A,h⟩
 |(_,x)::l,A,st,hs,h=>by
  unfold frzW at h
  split at h
  .split at h
   .rename_i i he e' xs hr
    obtain ⟨hee,hbox,h⟩:=h
    cases Nat.eq_of_beq_eq_true hee
    rw [fEnv_eq] at h
    obtain ⟨A1,g1,g2⟩:=hs.frzw (m:=m) (d:=d) hr hbox
    obtain ⟨A2,st2,k1,k2,k3⟩:=frzW_ok l g1 h
    exact ⟨A2,st2,k1,g2.trans k2,k3⟩
   .exact h.elim
  .exact frzW_ok l hs h
theorem wp_storeF (hτ:TyOk P τ) (hs:Sat w bs A a N st) {o:Oper} {K:St->Prop} {Kc:Act->World->Prop} {Q:Exit->Act->World->Prop} (hK:Nxt m N w bs A K Kc) {T:TypeId} {x v:Operand} (ho:o.op=.store T x v) {t0:Ty} {e0:Nat} (hT:τ T=.one t0 e0)
 (h:storeF N o.dst st v (evl st.env x) K):o.wp P a w Kc Q:=by
 unfold storeF at h
 have hx:=evl_ok hs x
 have hv:=evl_ok hs v
 split at h
 .rename_i r j i hxe hve
  rw [hxe] at hx
  rw [hve] at hv
  split at h
  .rename_i E e xss e' ys hr hri
   obtain ⟨hee,hne,hbox,h⟩:=h
   cases Nat.eq_of_beq_eq_true hee
   rw [fEnv_eq,fRows_eq] at h
   have hri':i≠r:=fun e=>by subst e;simp at hne
   obtain ⟨b,r',hb,hr',hj,hxv⟩:=hx
   rw [hr] at hr';cases hr'
   obtain ⟨c,e3,t3,ys3,curc,hc1,hc2,hc3,hc4⟩:=hv
   rw [hri] at hc2;cases hc2
   obtain ⟨hA,cur,hcur,hle,hmx,hcells⟩:=hs.row r b _ hb hr
   obtain ⟨hAc,curc2,hcc,hlec,hmxc,hcellsc⟩:=hs.row i c _ hc1 hri
   rw [hc3] at hcc;cases hcc
   have hbc:b≠c:=fun e=>hri' (nodup_ix hs.nodup hc1 (e ▸ hb))
   obtain ⟨A1,g1,g2⟩:∃A1,Sat w bs A1 a N ⟨frzF i e true ys st.env,st.rows.set i .dead⟩/\Stp m w bs A w bs A1:=hs.frzw hri hbox
   have hA1:A1=fun z=>A1 z:=rfl
   have hj':j<xss.length:=hj
   obtain ⟨_,ii,hi,h1,_⟩:=hτ.one _ _ _ hT
   have hrun:=run_storeOne (P:=P) hcur (show j<cur.size by omega) (v:=a.eval v) (by rw [hc4];rfl) hi h1
   have hr1:(st.rows.set i .dead)[r]? =some (.sl E (.sw e true) xss):=by rw [List.getElem?_set_ne hri'];exact hr
   obtain ⟨hA1b,_⟩:=g1.row r b _ hb hr1
   have hcA1:ys≠[]->A1 c:=by
    intro hyn
    obtain ⟨u,hu⟩:∃u,look (frzF i e true ys st.env) u=.d true (.sw e true) ys/\a.tmps.getD u undef=a.eval v:=by
     cases v with
     |tmp u=>
      refine ⟨u,?_,rfl⟩
      have hve':look st.env u=.ow i:=hve
      rcases look_frzF (i:=i) (e:=e) (d:=true) (xs:=ys) st.env u with k|⟨k,k2⟩|⟨_,k⟩
      .exfalso
       have:∀env:List (Nat × AV),look env u=.ow i->look (frzF i e true ys env) u≠.any:=by
        intro env
        induction env with
        |nil=>intro hh;cases hh
        |cons hd tl ih=>
         obtain ⟨d',v'⟩:=hd
         intro hh hh2
         rw [frzF,look_cons] at hh2
         rw [look_cons] at hh
         by_cases e1:d'=u
         .rw [if_pos e1] at hh hh2
          rw [hh] at hh2
          simp [frzU] at hh2
         .rw [if_neg e1] at hh hh2
          exact ih hh hh2
       exact this _ hve' k
      .exact (k2 (by rw [hve'];simp [AV.hs])).elim
      .exact k
     |const v'=>
      exfalso
      have hve':cst v'=.ow i:=hve
      unfold cst at hve'
      split at hve'<;>cases hve'
     |func f=>cases hve
     |global g=>cases hve
    have hv1:=g1.env u
    have hlk:look (St.mk (frzF i e true ys st.env) (st.rows.set i .dead)).env u=.d true (.sw e true) ys:=hu.1
    rw [hlk,hu.2] at hv1
    have hv1:RdW w (SS bs A1 true) e ys (a.eval v):=hv1
    rcases hv1 with ⟨k,_⟩|⟨_,b2,cur2,k1,k2,_⟩
    .exact (hyn k).elim
    .rw [hc4] at k1
     simp only [Value.slice.injEq,Option.some.injEq,Addr.mk.injEq] at k1
     rw [k1.1.1];exact k2
   have hup:=g2.up
   have hst:=g1.store (m:=m) (i:=r) (b:=b) (r:=.sl E (.sw e true) xss) (r':=.sl E (.sw e true) (xss.set j ys)) hb hr1 (by simp) (by simp [Row.len]) ⟨fun e' t' xs' h=>(by cases h;exact ⟨_,rfl⟩),fun e' xs' h=>nomatch h⟩ (Upd.setCell w b j (a.eval v)) ?_
   .refine wp_of_skip (w':=w.setCell ⟨b,j,none⟩ (a.eval v)) ?_ (hK.of hst.1 (g2.trans hst.2) (av:=.any) trivial h)
    simp only [execOp,ho,Sem.run_bind,hxv,hrun,Result.andThen_ok,Sem.run_pure]
   .have hk:∀b',A1 b'->b'<w.heap.size->(w.setCell ⟨b,j,none⟩ (a.eval v)).heap[b']? =w.heap[b']?/\A1 b':=fun b' hb' _=>⟨heap_setCell_other w ⟨b,j,none⟩ b' _ (fun (e:b'=b)=>hA1b (e ▸ hb')),hb'⟩
    have hk0:∀b',A b'->b'<w.heap.size->(w.setCell ⟨b,j,none⟩ (a.eval v)).heap[b']? =w.heap[b']?/\A1 b':=fun b' hb' hl=>hk b' (hup b' hb') hl
    have hblk:∀k,k<xss.length->∀(p:Addr) (l cc:Nat),cur[k]? =some (.slice (some p) l cc)->l≠0->A p.block:=by
     intro k hk2 p l cc hcv hl
     obtain ⟨cv,q1,q2⟩:=hcells.c k hk2
     rw [hcv] at q1;cases q1
     rcases q2 with ⟨_,a',cap',q3,_⟩|⟨_,b2,cur2,q3,q4,_⟩
     .cases q3;exact (hl rfl).elim
     .cases q3;exact q4
    refine ⟨hA1b,cur.setIfInBounds j (a.eval v),heap_setCell_same w b j cur E _ hcur,by simpa using hle,by simpa using hmx,fun j2 hj2=>?_,?_⟩
    .have hj2':j2<xss.length:=by have h9:=hj2;rw [List.length_set] at h9;exact h9
     by_cases e1:j=j2
     .subst e1
      refine ⟨a.eval v,by rw [Array.getElem?_setIfInBounds,if_pos rfl,if_pos (by omega)],?_⟩
      have e2:(xss.set j ys)[j]'hj2=ys:=List.getElem_set_self (h:=hj2)
      rw [e2]
      by_cases hyn:ys=[]
      .subst hyn
       exact .inl ⟨rfl,_,_,hc4,fun hh=>by cases hh⟩
      .refine .inr ⟨hyn,c,curc,hc4,hcA1 hyn,?_,hlec,hmxc,fun q hq=>?_⟩
       .rw [heap_setCell_other w ⟨b,j,none⟩ c _ (fun (e:c=b)=>hbc e.symm)];exact hc3
       .obtain ⟨cv,q1,q2⟩:=hcellsc.c q hq
        rw [q1];exact congrArg some q2
     .obtain ⟨cv,q1,q2⟩:=hcells.c j2 hj2'
      refine ⟨cv,by rw [Array.getElem?_setIfInBounds,if_neg e1];exact q1,?_⟩
      rw [List.getElem_set_ne e1]
      exact Rd.ext hk0 (.sw e true) _ _ q2
    .show DstV _ _
     rw [List.length_set]
     intro i1 i2 h12 hi2 p q l c1 l' c2 f1 f2 hl hl'
     by_cases e1:i1=j
     .rw [Array.getElem?_setIfInBounds,if_pos e1.symm,if_pos (by omega)] at f1
      rw [Array.getElem?_setIfInBounds,if_neg (by omega)] at f2
      rw [hc4] at f1;cases f1
      have:=hblk i2 hi2 q l' c2 f2 hl'
      exact fun e=>hAc (by rw [show c=q.block from e];exact this)
     .rw [Array.getElem?_setIfInBounds,if_neg (fun e=>e1 e.symm)] at f1
      by_cases e2:i2=j
      .rw [Array.getElem?_setIfInBounds,if_pos e2.symm,if_pos (by omega)] at f2
       rw [hc4] at f2;cases f2
       have:=hblk i1 (by omega) p l c1 f1 hl
       exact fun e=>hAc (by rw [show c=p.block from e.symm];exact this)
      .rw [Array.getElem?_setIfInBounds,if_neg (fun e=>e2 e.symm)] at f2
       exact hcells.d i1 i2 h12 hi2 p q l c1 l' c2 f1 f2 hl hl'
  .exact h.elim
 .exact h.elim
theorem look_swE {i j:Nat}:∀(env:List (Nat × AV)) (u:Nat),look (swE i j env) u=swV i j (look env u)\/look (swE i j env) u=.any
 |[],u=>.inr rfl
 |(d,v)::l,u=>by
  rw [swE,look_cons,look_cons]
  by_cases e:d=u
  .rw [if_pos e,if_pos e];exact .inl rfl
  .rw [if_neg e,if_neg e];exact look_swE l u
theorem Sat.swap (hs:Sat w bs A a N st) {i j:Nat} {x y:Row} (hi:st.rows[i]? =some x) (hj:st.rows[j]? =some y) (hij:i≠j) (hmi:m<=i) (hmj:m<=j) (hbi:boxFree i st.rows=true) (hbj:boxFree j st.rows=true):
 ∃bs',Sat w bs' A a N ⟨swE i j st.env,swR i j st.rows⟩/\Stp m w bs A w bs' A/\∀v,V w bs A st.rows (.x (.oz i)) v->V w bs' A (swR i j st.rows) (.x (.oz j)) v:=by
 obtain ⟨p,hp⟩:=hs.bs_of hi
 obtain ⟨q,hq⟩:=hs.bs_of hj
 have li:i<bs.length:=(List.getElem?_eq_some_iff.1 hp).1
 have lj:j<bs.length:=(List.getElem?_eq_some_iff.1 hq).1
 have lri:i<st.rows.length:=by rw [<-hs.len];exact li
 have lrj:j<st.rows.length:=by rw [<-hs.len];exact lj
 have hR:swR i j st.rows=(st.rows.set i y).set j x:=by unfold swR;rw [hi,hj]
 have sg:∀{α:Type} (l:List α) (u v:α) (k:Nat),i<l.length->j<l.length->((l.set i u).set j v)[k]? =if k=j then some v else if k=i then some u else l[k]? :=by
  intro α l u v k h1 h2
  by_cases e1:k=j
  .subst e1;rw [if_pos rfl,List.getElem?_set_self (by simpa using h2)]
  .rw [if_neg e1,List.getElem?_set_ne (fun e=>e1 e.symm)]
   by_cases e2:k=i
   .subst e2;rw [if_pos rfl,List.getElem?_set_self h1]
   .rw [if_neg e2,List.getElem?_set_ne (fun e=>e2 e.symm)]
 have gb:=fun k=>sg bs q p k li lj
 have gr:=fun k=>sg st.rows y x k lri lrj
 have hmem:∀b,b∈(bs.set i q).set j p ↔ b∈bs:=by
  intro b
  constructor
  .intro h
   obtain ⟨k,hk,e⟩:=List.getElem_of_mem h
   have h2:((bs.set i q).set j p)[k]? =some b:=by rw [List.getElem?_eq_getElem hk,e]
   rw [gb k] at h2
   split at h2
   .cases h2;exact List.mem_of_getElem? hp
   .split at h2
    .cases h2;exact List.mem_of_getElem? hq
    .exact List.mem_of_getElem? h2
  .intro h
   obtain ⟨k,hk,e⟩:=List.getElem_of_mem h
   have h2:bs[k]? =some b:=by rw [List.getElem?_eq_getElem hk,e]
   by_cases e1:k=i
   .subst e1
    rw [hp] at h2;cases h2
    exact List.mem_of_getElem? (i:=j) (by rw [gb j,if_pos rfl])
   .by_cases e2:k=j
    .subst e2
     rw [hq] at h2;cases h2
     exact List.mem_of_getElem? (i:=i) (by rw [gb i,if_neg hij,if_pos rfl])
    .exact List.mem_of_getElem? (i:=k) (by rw [gb k,if_neg e2,if_neg e1];exact h2)
 have k:Kp w bs A st.rows w ((bs.set i q).set j p) A ((st.rows.set i y).set j x) (fun u=>u≠i/\u≠j):=
  {a:=fun b hb _=>⟨rfl,hb⟩
   n:=fun b hb _=>⟨rfl,fun h=>hb ((hmem b).1 h)⟩
   h:=fun u hu=>⟨by rw [gb u,if_neg hu.2,if_neg hu.1],fun r hr=>⟨r,by rw [gr u,if_neg hu.2,if_neg hu.1];exact hr,rfl,(fun e t xs hx=>⟨xs,hx⟩),fun e xs hx=>⟨xs,hx⟩⟩,fun b cur e _ hc=>⟨cur,hc,rfl⟩⟩}
 have oz:∀(k k':Nat) (v:Value),((bs.set i q).set j p)[k']? =bs[k]?->((st.rows.set i y).set j x)[k']? =st.rows[k]?->V w bs A st.rows (.x (.oz k)) v->V w ((bs.set i q).set j p) A ((st.rows.set i y).set j x) (.x (.oz k')) v:=by
  intro k k' v e1 e2 h
  obtain ⟨b,e,xs,cur,h1,h2,h3,h4⟩:=h
  exact ⟨b,e,xs,cur,e1.trans h1,e2.trans h2,h3,h4⟩
 have ei:((bs.set i q).set j p)[j]? =bs[i]?/\((st.rows.set i y).set j x)[j]? =st.rows[i]? :=⟨by rw [gb j,if_pos rfl,hp],by rw [gr j,if_pos rfl,hi]⟩
 have ej:((bs.set i q).set j p)[i]? =bs[j]?/\((st.rows.set i y).set j x)[i]? =st.rows[j]? :=⟨by rw [gb i,if_neg hij,if_pos rfl,hq],by rw [gr i,if_neg hij,if_pos rfl,hj]⟩
 have hnd:((bs.set i q).set j p).Nodup:=by
  have gs:∀k:Nat,((bs.set i q).set j p)[k]? =bs[((if k=j then i else if k=i then j else k):Nat)]? :=by
   intro k
   rw [gb k]
   split
   .exact hp.symm
   .split
    .exact hq.symm
    .rfl
  rw [List.nodup_iff_pairwise_ne,List.pairwise_iff_getElem]
  intro u v hu hv huv e
  have h1:((bs.set i q).set j p)[u]? =some (((bs.set i q).set j p)[u]):=List.getElem?_eq_getElem hu
  have h2:((bs.set i q).set j p)[v]? =some (((bs.set i q).set j p)[u]):=by rw [e];exact List.getElem?_eq_getElem hv
  rw [gs u] at h1
  rw [gs v] at h2
  have this:=nodup_ix hs.nodup h1 h2
  split at this<;>split at this<;>(try split at this)<;>(try split at this)<;>omega
 rw [hR]
 refine ⟨(bs.set i q).set j p,⟨by simp [hs.len],hnd,fun b hb=>hs.lt b ((hmem b).1 hb),hs.old,?_,?_,hs.size,hs.dfs⟩,?_,fun v h=>oz i j v ei.1 ei.2 h⟩
 .intro u b r hb hr
  rw [gb u] at hb
  simp only at hr
  rw [gr u] at hr
  have box:∀{u b:Nat} {r:Row},bs[u]? =some b->st.rows[u]? =some r->RowR w ((bs.set i q).set j p) A ((st.rows.set i y).set j x) b r:=by
   intro u b r hb hr
   refine RowR.keep k rfl (fun h=>h) (fun e av e1 l hl=>?_) (hs.row u b r hb hr)
   subst e1
   exact ⟨fun e4=>boxFree_ok hbi u e av hr (e4 ▸ hl),fun e4=>boxFree_ok hbj u e av hr (e4 ▸ hl)⟩
  by_cases e1:u=j
  .rw [if_pos e1] at hb hr
   cases hb;cases hr
   exact box hp hi
  .rw [if_neg e1] at hb hr
   by_cases e2:u=i
   .rw [if_pos e2] at hb hr
    cases hb;cases hr
    exact box hq hj
   .rw [if_neg e2] at hb hr
    exact box hb hr
 .intro u
  show V _ _ _ _ (look (swE i j st.env) u) _
  have hv:=hs.env u
  rcases look_swE (i:=i) (j:=j) st.env u with h|h
  .rw [h]
   unfold swV
   split
   .rename_i k' hk
    rw [hk] at hv
    cases hb1:Nat.beq k' i with
    |true=>
     have e1:=Nat.eq_of_beq_eq_true hb1
     subst e1
     exact oz k' j _ ei.1 ei.2 hv
    |false=>
     have n1:k'≠i:=fun e=>by subst e;simp at hb1
     cases hb2:Nat.beq k' j with
     |true=>
      have e2:=Nat.eq_of_beq_eq_true hb2
      subst e2
      exact oz k' i _ ej.1 ej.2 hv
     |false=>
      have n2:k'≠j:=fun e=>by subst e;simp at hb2
      exact oz k' k' _ (by rw [gb k',if_neg n2,if_neg n1]) (by rw [gr k',if_neg n2,if_neg n1]) hv
   .have hkl:∀(i:Nat) (v:AV),killH i v=.any\/(killH i v=v/\i∉v.hs):=by
     intro i v
     unfold killH
     split
     .exact .inl rfl
     .rename_i hc
      exact .inr ⟨rfl,fun hm=>by rw [List.contains_iff_mem.2 hm] at hc;cases hc⟩
    rcases hkl j (look st.env u) with e1|⟨e1,n1⟩
    .rw [e1]
     rcases hkl i .any with e2|⟨e2,_⟩<;>rw [e2]<;>trivial
    .rw [e1]
     rcases hkl i (look st.env u) with e2|⟨e2,n2⟩
     .rw [e2];trivial
     .rw [e2]
      exact V.keep k _ _ (fun l hl=>⟨fun e=>n2 (e ▸ hl),fun e=>n1 (e ▸ hl)⟩) hv
  .rw [h];trivial
 .exact {
   os:=rfl,tape:=rfl,output:=rfl,size:=Nat.le_refl _,block:=fun _ _ _=>rfl,sbs:=fun b hb=>.inl ((hmem b).1 hb),sA:=fun b hb=>.inl hb,
   tk:=by rw [List.take_set_of_le hmj,List.take_set_of_le hmi],st:=fun b hb cur e hc=>⟨cur,hc,rfl⟩,up:=fun _ h=>h}
theorem wp_storeK (hτ:TyOk P τ) (hs:Sat w bs A a N st) {o:Oper} {K:St->Prop} {Kc:Act->World->Prop} {Q:Exit->Act->World->Prop} (hK:Nxt m N w bs A K Kc) {T:TypeId} {x v:Operand} (ho:o.op=.store T x v) {t0:Ty} {e0:Nat} (hT:τ T=.one t0 e0)
 {k r j:Nat} {e:TypeId} {av:AV} (hv0:evl st.env v=.ow k) (hx0:evl st.env x=.ptr r j) (hr:st.rows[r]? =some (.box e av))
 (h:putK N o.dst .any ⟨st.env,st.rows.set r (.box e (.ow k))⟩ K):o.wp P a w Kc Q:=by
 have hx:=evl_ok hs x
 have hv:=evl_ok hs v
 rw [hx0] at hx
 rw [hv0] at hv
 obtain ⟨b,r0,hb,hr0,hj,hxv⟩:=hx
 rw [hr] at hr0;cases hr0
 have hj0:j=0:=by have:j<1:=hj;omega
 subst hj0
 obtain ⟨hA,cv0,hcur,hcv⟩:=hs.row r b _ hb hr
 obtain ⟨_,ii,hi,h1,_⟩:=hτ.one _ _ _ hT
 obtain ⟨b2,e2,t2,xs2,cur2,q1,q2,q3,q4⟩:=hv
 have hone:(a.eval v).oneCell'=true:=by rw [q4];rfl
 have hrk:r≠k:=fun e=>by subst e;rw [hr] at q2;cases q2
 have hbb:b2≠b:=fun e=>hrk (nodup_ix hs.nodup (e ▸ hb) q1)
 have hrun:=run_storeOne (P:=P) hcur (show 0<(#[cv0]:Array Value).size by simp) hone hi h1
 have hst:=hs.store (m:=m) (i:=r) (b:=b) (r:=.box e av) (r':=.box e (.ow k)) hb hr (by simp) rfl ⟨(fun e' t' xs' h=>by cases h),fun e' xs' h=>by cases h⟩ (Upd.setCell w b 0 (a.eval v)) ?_
 .refine wp_of_skip (w':=w.setCell ⟨b,0,none⟩ (a.eval v)) ?_ (hK.of hst.1 hst.2 (av:=.any) trivial h)
  simp only [execOp,ho,Sem.run_bind,hxv,hrun,Result.andThen_ok,Sem.run_pure]
 .refine ⟨hA,a.eval v,by rw [heap_setCell_same w b 0 _ e _ hcur];rfl,b2,e2,t2,xs2,cur2,q1,by rw [List.getElem?_set_ne hrk];exact q2,?_,q4⟩
  rw [heap_setCell_other w ⟨b,0,none⟩ b2 _ hbb];exact q3
theorem boxFree_set {i:Nat}:∀{l:List Row},boxFree i l=true->∀k,boxFree i (l.set k .dead)=true
 |[],_,k=>rfl
 |.box e v::l,h,0=>by
  rw [boxFree,Bool.and_eq_true] at h
  exact h.2
 |.box e v::l,h,k+1=>by
  rw [boxFree,Bool.and_eq_true] at h
  rw [List.set_cons_succ,boxFree,h.1,boxFree_set h.2 k];rfl
 |.sl e t xs::l,h,0=>h
 |.sl e t xs::l,h,k+1=>boxFree_set (l:=l) h k
 |.tz e xs::l,h,0=>h
 |.tz e xs::l,h,k+1=>boxFree_set (l:=l) h k
 |.dead::l,h,0=>h
 |.dead::l,h,k+1=>boxFree_set (l:=l) h k
theorem wp_litS (hτ:TyOk P τ) (hs:Sat w bs A a N st) (hm:m<=bs.length) {o:Oper} {K:St->Prop} {Kc:Act->World->Prop} {Q:Exit->Act->World->Prop} (hK:Nxt m N w bs A K Kc) {T:TypeId} {n:Nat} {parts:Array (Nat × Operand)} (ho:o.op=.buildSlice T n parts)
 {e0 e:Nat} (hT:τ T=.one (.sl (.sw e0 true)) e) (h:litS N o.dst st e0 e n K parts.toList):o.wp P a w Kc Q:=by
 have old:frzW e0 true st parts.toList (buildS N o.dst (.sw e0 true) e n parts.toList K)->o.wp P a w Kc Q:=fun h=>by
  obtain ⟨A1,st1,g1,g2,g3⟩:=frzW_ok (m:=m) _ hs h
  exact wp_buildSlice hτ g1 hm (hK.trans g2) ho hT g3
 unfold litS at h
 split at h
 .rename_i x hpl
  split at h
  .rename_i k hxe
   split at h
   .rename_i e' ys hr
    obtain ⟨_,hn,h⟩:=h
    subst hn
    have hx:=evl_ok hs x
    rw [hxe] at hx
    have hx2:=hx
    obtain ⟨b,e3,t3,xs3,cur3,g1,g2,g3,g4⟩:=hx2
    have hpa:parts= #[(0,x)]:=by rw [<-Array.toArray_toList (xs:=parts),hpl]
    subst hpa
    obtain ⟨cur,k1,k2,k3⟩:=run_buildSlice' (w:=w) hτ hT (show 1<=1000 by decide) #[(0,a.eval x)] rfl (fun j hj=>by
     have:j=0:=by simp at hj;exact hj
     subst this;rfl) (fun p hp=>by
     have:p=(0,a.eval x):=by simpa using hp
     rw [this];show (a.eval x).oneCell'=true;rw [g4];rfl)
    have hrun:(execOp a.eval o).run P w=.ok (.value (.slice (some ⟨w.heap.size,0,none⟩) 1 1)) (w.alloc (.cells cur e)):=by
     simp only [execOp,ho,Sem.run_bind,Sem.run_pure]
     have:((#[(0,x)]:Array (Nat × Operand)).map fun p=>(p.1,a.eval p.2))= #[(0,a.eval x)]:=by simp
     rw [this,k1];rfl
    have hp:=Plus.alloc w (.cells cur e)
    have hst:=hs.pushA (m:=m) hp
    refine wp_of_run hrun (hK.of hst.1 hst.2 (av:=.x (.lo k)) ?_ h)
    have hbl:b<w.heap.size:=hs.lt b (List.mem_of_getElem? g1)
    exact ⟨w.heap.size,cur,e,1,a.eval x,rfl,.inr rfl,hp.new,k3 0 (by simp),b,e3,t3,xs3,cur3,g1,g2,(hp.old b hbl).trans g3,g4⟩
   .exact h.elim
  .exact old (by rw [hpl];exact h)
 .exact old h
theorem Dst_appL {w:World} {A:Nat->Prop} {e bk n c:Nat} {xs:List (List Int)} {cur cur':Array Value} (hA:¬A bk) (hc:Cells w A (.sw e true) xs cur)
 (htake:cur'.toList.take (xs.length+1)=cur.toList.take xs.length++[.slice (some ⟨bk,0,none⟩) n c]) (hle:xs.length<=cur.size):DstV cur' (xs.length+1):=by
 have hcj:∀j,j<xs.length+1->cur'[j]? =(cur.toList.take xs.length++[.slice (some ⟨bk,0,none⟩) n c])[j]? :=fun j hj=>by
  rw [<-htake,List.getElem?_take,if_pos hj];simp
 have hl2:(cur.toList.take xs.length).length=xs.length:=by simp;omega
 intro i j hij hj p q l c1 l' c' h1 h2 hl0 hl1
 have hi:i<xs.length:=by omega
 rw [hcj i (by omega),List.getElem?_append_left (by omega),List.getElem?_take,if_pos (by omega)] at h1
 have h1:cur[i]? =some (.slice (some p) l c1):=by simpa using h1
 by_cases h3:j<xs.length
 .rw [hcj j (by omega),List.getElem?_append_left (by omega),List.getElem?_take,if_pos (by omega)] at h2
  exact hc.d i j hij h3 p q l c1 l' c' h1 (by simpa using h2) hl0 hl1
 .have hj2:j=xs.length:=by omega
  subst hj2
  rw [hcj xs.length (by omega),List.getElem?_append_right (by omega),hl2,Nat.sub_self] at h2
  obtain ⟨cv,k1,k2⟩:=hc.c i hi
  rw [h1] at k1;cases k1
  have h2:Value.slice (some ⟨bk,0,none⟩) n c=.slice (some q) l' c':=Option.some.inj h2
  cases h2
  rcases k2 with ⟨_,a,cap,k3,_⟩|⟨_,b,cur2,k3,k4,_⟩
  .cases k3;exact (hl0 rfl).elim
  .cases k3
   intro (e1:b=bk)
   exact hA (e1 ▸ k4)
theorem wp_appL (hτ:TyOk P τ) (hs:Sat w bs A a N st) {o:Oper} {K:St->Prop} {Kc:Act->World->Prop} {Q:Exit->Act->World->Prop} (hK:Nxt m N w bs A K Kc) {c:Call} (ho:o.op=.call c) (hc:c.callee=.builtin .append)
 {x y:Operand} {T T2:Nat} {k:Nat} (hargs:c.args.toList=[x,y]) (htys:c.argTypes.toList=[T,T2]) (hye:evl st.env y=.x (.lo k)) (h:appL N m st o.dst T T2 k K (τ T) (evl st.env x)):o.wp P a w Kc Q:=by
 unfold appL at h
 split at h
 .rename_i e0 e i hT hxe
  split at h
  .rename_i e' e1 xs e2 ys hri hrk
   obtain ⟨hTT,hmi,h1,h2,hik,hbi,hbk,hle,h⟩:=h
   subst h1;subst h2
   rw [fEnv_eq,fRows_eq] at h
   have hTe:T=T2:=Nat.eq_of_beq_eq_true hTT
   subst hTe
   have ha:c.args= #[x,y]:=by rw [<-Array.toArray_toList (xs:=c.args),hargs]
   have ht:c.argTypes= #[T,T]:=by rw [<-Array.toArray_toList (xs:=c.argTypes),htys]
   have hik':k≠i:=fun e=>by subst e;simp at hik
   have hx:=evl_ok hs x
   have hy:=evl_ok hs y
   rw [hxe] at hx
   rw [hye] at hy
   obtain ⟨b0,cur0,E0,c0,cv,hyv,hA0,hb0,hc0,bk,e3,t3,xs3,curk,k1,k2,k3,k4⟩:=hy
   rw [hrk] at k2;cases k2
   obtain ⟨b,e4,t4,xs4,cur,hb,hr3,hcur,hxv⟩:=hx
   rw [hri] at hr3;cases hr3
   obtain ⟨hA,cur2,hcur2,hlc,hmx,hcells⟩:=hs.row i b _ hb hri
   rw [hcur] at hcur2;cases hcur2
   obtain ⟨hAk,curk2,hck,hlek,hmxk,hcellsk⟩:=hs.row k bk _ k1 hrk
   rw [k3] at hck;cases hck
   obtain ⟨g1,g2⟩:=hs.frzwb (m:=m) (d:=true) hrk hbk k1
   have hri1:(st.rows.set k .dead)[i]? =some (.sl e' (.sw e2 true) xs):=by rw [List.getElem?_set_ne hik'];exact hri
   have hbi1:boxFree i (st.rows.set k .dead)=true:=boxFree_set hbi k
   obtain ⟨hA1,cur3,hcur3,hlc1,hmx1,hcells1⟩:=g1.row i b _ hb hri1
   rw [hcur] at hcur3;cases hcur3
   have hrd:RdW w (fun x=>A x\/x=bk) e2 ys cv:=by
    by_cases hyn:ys=[]
    .subst hyn
     exact .inl ⟨rfl,_,_,k4,fun hh=>by cases hh⟩
    .refine .inr ⟨hyn,bk,curk,k4,.inr rfl,k3,hlek,hmxk,fun j hj=>?_⟩
     obtain ⟨v,q1,q2⟩:=hcellsk j hj
     rw [q1];exact congrArg some q2
   have hsrc:Src w (a.eval y) [cv]:=.inl ⟨⟨b0,0,none⟩,c0,hyv,fun j v hv=>by
    have hj:j=0:=by
     have:=(List.getElem?_eq_some_iff.1 hv).1
     simp at this;exact this
    subst hj
    cases hv
    rw [addr_add,Nat.add_zero,cell_of_row w b0 0 cur0 E0 (0,0) hb0]
    exact hc0⟩
   obtain ⟨w',b',cur',hrun,hap⟩:=run_app (P:=P) (ty:=o.type) hτ hT hcur hlc (by rw [<-mx_of hτ hT];exact hmx) hsrc (fun u hu=>by
    rw [List.mem_singleton.1 hu,k4];rfl) (by simp only [List.length_cons,List.length_nil];omega)
   rw [<-hxv] at hrun
   have hdd:DstV cur' (xs.length+1):=Dst_appL hAk hcells (by have:=hap.take;rw [k4] at this;exact this) hlc
   obtain ⟨h1,h2,h3⟩:=g1.append (m:=m) (ys:=[ys]) hb hri1 hmi hbi1 hlc1 hcells1.c rfl (fun j hj=>by
    have hj:j=0:=by simp at hj;exact hj
    subst hj
    exact ⟨cv,rfl,hrd⟩) hap (Ty.le_mx _) hdd
   have hexec:(execOp a.eval o).run P w=.ok (.value (.slice (some ⟨b',0,none⟩) (xs.length+1) cur'.size)) w':=by
    simp only [execOp,ho,resolve,hc,invoke,builtin,ha,ht]
    have:(Builtin.append_ #[T,T] o.type #[a.eval x,a.eval y]).run P w=.ok (.slice (some ⟨b',0,none⟩) (xs.length+1) cur'.size) w':=hrun
    simp [this]
   refine wp_of_run hexec (hK.of h1 (g2.trans h2) (av:=.ow i) ?_ h)
   have e9:xs.length+1=(xs++[ys]).length:=by simp
   rw [e9];exact h3
  .exact h.elim
 .exact h.elim
theorem wpOp_ok (hτ:TyOk P τ) (hs:Sat w bs A a N st) (hm:m<=bs.length) {o:Oper} {K:St->Prop} {Kc:Act->World->Prop} {Q:Exit->Act->World->Prop} (hK:Nxt m N w bs A K Kc) (h:wpOp P τ N m st o K):o.wp P a w Kc Q:=by
 unfold wpOp at h
 split at h
 .rename_i T x v ho
  split at h
  .split at h
   .split at h
    .exact wp_storeK hτ hs hK ho (by assumption) (by assumption) (by assumption) (by assumption) h
    .obtain ⟨A1,st1,g1,g2,g3⟩:=frzP_ok (m:=m) _ hs h
     exact wp_store hτ g1 (hK.trans g2) ho g3
   .obtain ⟨A1,st1,g1,g2,g3⟩:=frzP_ok (m:=m) _ hs h
    exact wp_store hτ g1 (hK.trans g2) ho g3
  .split at h
   .split at h
    .exact wp_storeF hτ hs hK ho (by assumption) (by simpa [*] using h)
    .obtain ⟨A1,st1,g1,g2,g3⟩:=frzW_ok (m:=m) _ hs h
     exact wp_store hτ g1 (hK.trans g2) ho g3
    .obtain ⟨A1,st1,g1,g2,g3⟩:=frzP_ok (m:=m) _ hs h
     exact wp_store hτ g1 (hK.trans g2) ho g3
   .obtain ⟨A1,st1,g1,g2,g3⟩:=frzP_ok (m:=m) _ hs h
    exact wp_store hτ g1 (hK.trans g2) ho g3
  .obtain ⟨A1,st1,g1,g2,g3⟩:=frzP_ok (m:=m) _ hs h
   exact wp_store hτ g1 (hK.trans g2) ho g3
  .exact wp_store hτ hs hK ho h
 .rename_i T x ho;exact wp_box hs hm hK ho h
 .rename_i T ho;exact wp_alloc hτ hs hm hK ho h
 .rename_i T parts ho;exact wp_build hτ hs hK ho h
 .rename_i T n parts ho
  split at h
  .rename_i e0 e hT
   exact wp_litS hτ hs hm hK ho hT h
  .rename_i e0 d e _ hT
   obtain ⟨A1,st1,g1,g2,g3⟩:=frzW_ok (m:=m) _ hs h
   exact wp_buildSlice hτ g1 hm (hK.trans g2) ho hT g3
  .rename_i t e hT
   obtain ⟨A1,st1,g1,g2,g3⟩:=frzP_ok (m:=m) _ hs h
   exact wp_buildSlice hτ g1 hm (hK.trans g2) ho hT g3
  .rename_i t e _ _ hT
   exact wp_buildSlice hτ hs hm hK ho hT h
  .rename_i e hT
   exact wp_buildT hτ hs hm hK ho hT h
  .rename_i t e hT
   exact wp_buildX hτ hs hm hK ho hT h
  .exact h.elim
 .rename_i T l c ho;exact wp_makeSlice hτ hs hm hK ho h
 .rename_i c ho
  split at h
  .rename_i f hc;exact wp_call hs hm hK ho hc h
  .rename_i hc
   split at h
   .rename_i x y T T2 hargs htys
    split at h
    .rename_i k hye;exact wp_appL hτ hs hK ho hc hargs htys hye h
    .exact wp_append hτ hs hm hK ho hc (by rw [hargs,htys];exact h)
   .exact h.elim
  .rename_i hc;exact wp_copy hτ hs hK ho hc h
  .rename_i hc;exact wp_clear hτ hs hK ho hc h
  .exact wp_pure hτ hs hK h
 .rename_i x ho
  have plain:∀av,evl st.env x=av->putK N o.dst av st K->o.wp P a w Kc Q:=by
   intro av he h
   subst he
   exact wp_of_run (v:=a.eval x) (w':=w) (by simp only [execOp,ho];rfl) (hK.of hs (Stp.refl m w bs A) (evl_ok hs x) h)
  split at h
  .rename_i i j he hd
   split at h
   .exact plain _ he h
   .rename_i hij
    obtain ⟨h1,h2,h3,h4,h⟩:=h
    rw [fEnv_eq,fRows_eq] at h
    have hx:=evl_ok hs x
    rw [he] at hx
    have hn:i≠j:=fun e=>by subst e;simp at hij
    have hx2:=hx
    obtain ⟨b,e,xs,cur,_,g2,_⟩:=hx2
    obtain ⟨d,hdd,hl⟩:∃d,o.dst=some d/\look st.env d=.x (.oz j):=by
     cases hdo:o.dst with
     |none=>rw [hdo] at hd;cases hd
     |some d=>rw [hdo] at hd;exact ⟨d,rfl,by simpa using hd⟩
    have hy:=hs.env d
    rw [hl] at hy
    obtain ⟨b',e',xs',cur',_,g4,_⟩:=hy
    obtain ⟨bs',k1,k2,k3⟩:=hs.swap (m:=m) g2 g4 hn h1 h2 h3 h4
    exact wp_of_run (v:=a.eval x) (w':=w) (by simp only [execOp,ho];rfl) (hK.of k1 k2 (k3 _ hx) h)
  .exact plain _ rfl h
 .exact wp_pure hτ hs hK h
end
def gv (all:Array Oper) (env:List (Nat × AV)) (j:Nat):Option (Option Bool):=
 match (all[j]?).bind (·.dst) with
 |some d=>match look env d with|.d _ .bool b=>some (some b)|.tup []=>some none|_=>none
 |none=>none
def gsel (g:Option (Option Bool)) (want:Bool) (X Y:Prop):Prop:=
 match g,want with
 |some (some true),true=>X
 |some (some false),false=>X
 |some (some true),false=>Y
 |some (some false),true=>Y
 |some none,_=>Y
 |none,_=>False
theorem gsel_ok {g:Option (Option Bool)} {want:Bool} {X Y:Prop} (h:gsel g want X Y):∃b,g=some b/\((b==some want)=true/\X\/(b==some want)=false/\Y):=by
 cases g with
 |none=>cases want<;>exact h.elim
 |some b=>
  cases b with
  |none=>cases want<;>exact ⟨_,rfl,.inr ⟨rfl,h⟩⟩
  |some b=>cases b<;>cases want<;>first|exact ⟨_,rfl,.inl ⟨rfl,h⟩⟩|exact ⟨_,rfl,.inr ⟨rfl,h⟩⟩
def wpO (P:Program) (τ:Nat->TI) (N m:Nat) (all:Array Oper):List Oper->St->(St->Prop)->Prop
 |[],st,K=>K st
 |o::r,st,K=>match o.guard with
  |none=>wpOp P τ N m st o (fun st'=>wpO P τ N m all r st' K)
  |some (j,want)=>gsel (gv all st.env j) want (wpOp P τ N m st o (fun st'=>wpO P τ N m all r st' K)) (putK N o.dst (.tup []) st (fun st'=>wpO P τ N m all r st' K))
def flatV:AV->Option Value
 |.d _ .int x=>some (.int .i64 x)
 |.d _ .u8 x=>some (.int .u8 x)
 |.d _ .i32 x=>some (.int .i32 x)
 |.d _ .u64 x=>some (.int .u64 x)
 |.d _ .bool x=>some (.bool x)
 |.d _ .str x=>some (.string ⟨List.toArray x⟩)
 |_=>none
def callQ (P:Program) (N:Nat) (dst:Option Nat) (st:St) (f:AV) (args:List AV) (K:St->Prop):Prop:=
 match f with
 |.fn F caps=>∃(res:AV) (rows':List Row),AC P F (cvt.cl st.rows [] (args++caps)) [] [res] rows'/\(flatV res).isSome=true/\splB (fun av=>putK N dst av st K) res
 |_=>False
def qOpW (P:Program) (τ:Nat->TI) (N:Nat) (st:St) (o:Oper) (K:St->Prop):Prop:=
 match o.op with
 |.call c=>match c.callee with
  |.value f=>callQ P N o.dst st (evl st.env f) (c.args.toList.map (evl st.env)) K
  |_=>pOp τ st o.op fun av=>putK N o.dst av st K
 |_=>pOp τ st o.op fun av=>putK N o.dst av st K
def wpQ (P:Program) (τ:Nat->TI) (N:Nat) (all:Array Oper):List Oper->St->(St->Prop)->Prop
 |[],st,K=>K st
 |o::r,st,K=>match o.guard with
  |none=>qOpW P τ N st o (fun st'=>wpQ P τ N all r st' K)
  |some (j,want)=>gsel (gv all st.env j) want (qOpW P τ N st o (fun st'=>wpQ P τ N all r st' K)) (putK N o.dst (.tup []) st (fun st'=>wpQ P τ N all r st' K))
def wpS (τ:Nat->TI) (N:Nat) (all:Array Oper):List Oper->St->(St->Prop)->Prop
 |[],st,K=>K st
 |o::r,st,K=>match o.guard with
  |none=>pOp τ st o.op fun av=>putK N o.dst av st fun st'=>wpS τ N all r st' K
  |some (j,want)=>gsel (gv all st.env j) want (pOp τ st o.op fun av=>putK N o.dst av st fun st'=>wpS τ N all r st' K) (putK N o.dst (.tup []) st (fun st'=>wpS τ N all r st' K))
section
variable {P:Program} {τ:Nat->TI} {m N:Nat} {w w':World} {bs:List Nat} {A:Nat->Prop} {a:Act} {st:St}
theorem gv_ok (hs:Sat w bs A a N st) {all:Array Oper} {j:Nat} {b:Option Bool} (h:gv all st.env j=some b):yielded all a.tmps j=b:=by
 unfold gv at h
 split at h
 .rename_i d hd
  have hv:=hs.env d
  unfold yielded
  rw [hd]
  split at h
  .rename_i sh x hl
   cases h
   rw [hl] at hv
   have hv':a.tmps.getD d undef=.bool x:=hv
   have hg:a.tmps[d]? =some (.bool x):=by
    rw [Array.getD_eq_getD_getElem?] at hv'
    cases hx:a.tmps[d]? with
    |none=>rw [hx] at hv';cases hv'
    |some y=>rw [hx] at hv';simp at hv';rw [hv']
   simp [hg]
  .rename_i hl
   cases h
   rw [hl] at hv
   obtain ⟨vs,hv',hvs⟩:=hv
   cases hvs
   rw [Array.getD_eq_getD_getElem?] at hv'
   cases hx:a.tmps[d]? with
   |none=>simp [hx]
   |some y=>rw [hx] at hv';simp at hv';simp [hx,hv']
  .cases h
 .cases h
theorem wanted_ok (hs:Sat w bs A a N st) {all:Array Oper} {o:Oper} {j:Nat} {want:Bool} {b:Option Bool} (hg:o.guard=some (j,want)) (h:gv all st.env j=some b):Region.wanted o (yielded all a.tmps)=(b==some want):=by
 unfold Region.wanted
 rw [hg]
 simp only [gv_ok hs h]
theorem Stp.len {w1:World} {bs1:List Nat} {A1:Nat->Prop} (h:Stp m w bs A w1 bs1 A1) (hm:m<=bs.length):m<=bs1.length:=by
 have:=congrArg List.length h.tk
 simp only [List.length_take] at this
 omega
theorem wpO_ok (hτ:TyOk P τ) {all:Array Oper} {K:St->Prop} {Q:Exit->Act->World->Prop}:∀(l:List Oper) {w:World} {bs:List Nat} {A:Nat->Prop} {a:Act} {st:St},Sat w bs A a N st->m<=bs.length->
 Nxt m N w bs A K (Q .normal)->wpO P τ N m all l st K->wpList P all Q l a w
 |[],w,bs,A,a,st,hs,hm,hK,h=>hK w bs A a st hs (Stp.refl m w bs A) h
 |o::r,w,bs,A,a,st,hs,hm,hK,h=>by
  have rest:Nxt m N w bs A (fun st'=>wpO P τ N m all r st' K) (wpList P all Q r):=fun w1 bs1 A1 a1 st1 h1 h2 h3=>wpO_ok hτ r h1 (h2.len hm) (hK.trans h2) h3
  unfold wpO at h
  unfold wpList
  split at h
  .rename_i hg
   rw [if_pos (by simp [Region.wanted,hg])]
   exact .inl (wpOp_ok hτ hs hm rest h)
  .rename_i j want hg
   obtain ⟨b,hb,⟨h1,h⟩|⟨h1,h⟩⟩:=gsel_ok h
   .rw [if_pos (by rw [wanted_ok hs hg hb,h1])]
    exact .inl (wpOp_ok hτ hs hm rest h)
   .rw [if_neg (by rw [wanted_ok hs hg hb,h1];simp)]
    exact rest.of hs (Stp.refl m w bs A) (av:=.tup []) ⟨[],rfl,rfl⟩ h
structure Gr (w w':World):Prop where
 os:w'.os=w.os
 tape:w'.tape=w.tape
 output:w'.output=w.output
 ext:Ext w w'
theorem Gr.refl (w:World):Gr w w:=⟨rfl,rfl,rfl,Ext.refl w⟩
theorem Gr.trans {w1 w2:World} (h:Gr w w1) (k:Gr w1 w2):Gr w w2:=
 ⟨k.os.trans h.os,k.tape.trans h.tape,k.output.trans h.output,Nat.le_trans h.ext.1 k.ext.1,fun i hi=>(k.ext.2 i (Nat.lt_of_lt_of_le hi h.ext.1)).trans (h.ext.2 i hi)⟩
theorem Kp.gr {rows:List Row} (hlt:∀b∈bs,b<w.heap.size) (h:Gr w w'):Kp w bs A rows w' bs A rows (fun i=>i<bs.length) where
 a:=fun b hb hl=>⟨h.ext.2 b hl,hb⟩
 n:=fun b hb hl=>⟨h.ext.2 b hl,hb⟩
 h:=fun i hi=>⟨rfl,fun r' hr=>⟨r',hr,rfl,(fun e t xs hx=>⟨xs,hx⟩),fun e xs hx=>⟨xs,hx⟩⟩,fun b cur e hb hc=>⟨cur,by rw [h.ext.2 b (hlt b (List.mem_of_getElem? hb))];exact hc,rfl⟩⟩
theorem Sat.gr (hs:Sat w bs A a N st) (h:Gr w w'):Sat w' bs A a N st/\Stp m w bs A w' bs A:=by
 have k:=Kp.gr (A:=A) (rows:=st.rows) hs.lt h
 have hsz:=h.ext.1
 constructor
 .refine hs.change k ⟨hs.len,hs.nodup,fun b hb=>by have:=hs.lt b hb;omega,fun b hb=>by have:=hs.old b hb;omega,?_⟩ (fun t=>.inr ⟨rfl,fun i _ hi=>hi⟩)
  intro i b r hb hr
  exact RowR.keep k (h.ext.2 b (hs.lt b (List.mem_of_getElem? hb))) (fun h=>h) (fun e av e1 j hj=>hs.boxlt hb hr e av e1 j hj) (hs.row i b r hb hr)
 .exact {
   os:=h.os,tape:=h.tape,output:=h.output,size:=hsz,block:=fun k hk _=>h.ext.2 k hk,sbs:=fun b hb=>.inl hb,sA:=fun b hb=>.inl hb,tk:=rfl,
   st:=fun b hb cur e hc=>⟨cur,by rw [h.ext.2 b (hs.lt b (List.mem_of_mem_take hb))];exact hc,rfl⟩,up:=fun _ h=>h}
theorem flatV_ok {av:AV} {v x:Value} {rows:List Row} (h:flatV av=some x) (hv:V w bs A rows av v):v=x:=by
 unfold flatV at h
 split at h<;>first|(cases h;exact hv)|(cases h;done)
theorem flatV_mk {av:AV} {x:Value} {rows:List Row} (h:flatV av=some x):V w bs A rows av x:=by
 unfold flatV at h
 split at h<;>first|(cases h;rfl)|(cases h;done)
theorem Picked.nil (bs:List Nat) (rows:List Row) (h:bs.length=rows.length):Picked bs rows []:=⟨by simp,fun i hi=>by simp at hi,h⟩
theorem qOp_ok (hτ:TyOk P τ) (hs:Sat w bs A a N st) {o:Oper} {K:St->Prop} {next:Act->Prop} (hK:∀a' st',Sat w bs A a' N st'->K st'->next a') (h:qOpW P τ N st o K):o.quiet P a (Gr w) next:=by
 have hpure:pOp τ st o.op (fun av=>putK N o.dst av st K)->o.quiet P a (Gr w) next:=by
  intro h
  obtain ⟨v,av,h1,h2,h3⟩:=pOp_ok hτ hs h
  refine ⟨v,fun w' hw'=>?_,?_⟩
  .unfold Oper.quietAt
   rw [h1 w' hw'.ext]
   exact ⟨rfl,rfl⟩
  .obtain ⟨st',g1,g2⟩:=putK_ok hs h2 h3
   exact hK _ st' g1 g2
 unfold qOpW at h
 split at h
 .rename_i c ho
  split at h
  .rename_i f hc
   unfold callQ at h
   have hf:=evl_ok hs f
   split at h
   .rename_i F caps hfe
    rw [hfe] at hf
    obtain ⟨res,rows',⟨hruns,hAC⟩,hflat,h⟩:=h
    cases hx:flatV res with
    |none=>rw [hx] at hflat;simp at hflat
    |some x=>
     refine ⟨x,fun w' hw'=>?_,?_⟩
     .have hs':=(hs.gr (m:=0) hw').1
      have hf':=evl_ok hs' f
      rw [hfe] at hf'
      obtain ⟨cv,hfv,hcv⟩:=hf'
      have hp:=Picked.nil bs st.rows hs.len
      have hargs:=cvts_ok hs' hp _ _ (Vs_append (evls_ok hs' c.args.toList) hcv)
      have hcalls:=hAC w' (subB bs []) A _ (rok_sub hs' hp) hargs
      have hrun:(execOp a.eval o).run P w'=.ok (.enter F (List.map a.eval c.args.toList++cv).toArray) w':=by
       have e:(List.map a.eval c.args.toList++cv).toArray=c.args.map a.eval++cv.toArray:=by
        rw [<-List.append_toArray]
        congr 1
        rw [<-Array.toList_map,Array.toArray_toList]
       rw [e]
       simp only [execOp,ho,resolve,hc,hfv,Deferred.ofValue,Sem.run_bind,Sem.run_pure,Result.andThen_ok,invoke]
       rw [show (#[]:Array Value)++c.args.map a.eval=c.args.map a.eval by simp]
       exact run_callFunc_enter hruns _ w'
      unfold Oper.quietAt
      rw [hrun]
      refine ⟨rfl,hcalls.mono ?_⟩
      rintro e w'' ⟨rv,bs',A',rfl,hrok,hres,hstep,_,_,_⟩
      have hres':V w'' bs' A' rows' res rv:=hres
      rw [flatV_ok hx hres']
      exact ⟨rfl,hw'.trans ⟨hstep.os,hstep.tape,hstep.output,hstep.size,fun k hk=>hstep.block k hk (by simp [subB])⟩⟩
     .obtain ⟨y,hy,h⟩:=splB_ok (flatV_mk (w:=w) (bs:=bs) (A:=A) (rows:=st.rows) hx) h
      obtain ⟨st',g1,g2⟩:=putK_ok hs hy h
      exact hK _ st' g1 g2
   .exact h.elim
  .exact hpure h
 .exact hpure h
theorem wpQ_ok (hτ:TyOk P τ) {all:Array Oper} {K:St->Prop} {R:Act->Prop} (hK:∀a' st',Sat w bs A a' N st'->K st'->R a'):∀(l:List Oper) {a:Act} {st:St},Sat w bs A a N st->wpQ P τ N all l st K->wpQuiet P all (Gr w) R l a
 |[],a,st,hs,h=>hK a st hs h
 |o::r,a,st,hs,h=>by
  have rest:∀a' st',Sat w bs A a' N st'->wpQ P τ N all r st' K->wpQuiet P all (Gr w) R r a':=fun a' st' h1 h2=>wpQ_ok hτ hK r h1 h2
  unfold wpQ at h
  unfold wpQuiet
  split at h
  .rename_i hg
   rw [if_pos (by simp [Region.wanted,hg])]
   exact qOp_ok hτ hs rest h
  .rename_i j want hg
   obtain ⟨b,hb,⟨h1,h⟩|⟨h1,h⟩⟩:=gsel_ok h
   .rw [if_pos (by rw [wanted_ok hs hg hb,h1])]
    exact qOp_ok hτ hs rest h
   .rw [if_neg (by rw [wanted_ok hs hg hb,h1];simp)]
    obtain ⟨st',g1,g2⟩:=putK_ok (v:=undef) hs (av:=.tup []) ⟨[],rfl,rfl⟩ h
    exact rest _ st' g1 g2
theorem wpS_ok (hτ:TyOk P τ) {all:Array Oper} {K:St->Prop} {R:Act->Prop} (hK:∀a' st',Sat w bs A a' N st'->K st'->R a'):∀(l:List Oper) {a:Act} {st:St},Sat w bs A a N st->wpS τ N all l st K->wpStill P all w R l a
 |[],a,st,hs,h=>hK a st hs h
 |o::r,a,st,hs,h=>by
  have rest:∀a' st',Sat w bs A a' N st'->wpS τ N all r st' K->wpStill P all w R r a':=fun a' st' h1 h2=>wpS_ok hτ hK r h1 h2
  have hpure:pOp τ st o.op (fun av=>putK N o.dst av st fun st'=>wpS τ N all r st' K)->o.still P a w (wpStill P all w R r):=by
   intro h
   obtain ⟨v,av,h1,h2,h3⟩:=pOp_ok hτ hs h
   unfold Oper.still
   rw [h1 w (Ext.refl w)]
   obtain ⟨st',g1,g2⟩:=putK_ok hs h2 h3
   exact ⟨rfl,rest _ st' g1 g2⟩
  unfold wpS at h
  unfold wpStill
  split at h
  .rename_i hg
   rw [if_pos (by simp [Region.wanted,hg])]
   exact hpure h
  .rename_i j want hg
   obtain ⟨b,hb,⟨h1,h⟩|⟨h1,h⟩⟩:=gsel_ok h
   .rw [if_pos (by rw [wanted_ok hs hg hb,h1])]
    exact hpure h
   .rw [if_neg (by rw [wanted_ok hs hg hb,h1];simp)]
    obtain ⟨st',g1,g2⟩:=putK_ok (v:=undef) hs (av:=.tup []) ⟨[],rfl,rfl⟩ h
    exact rest _ st' g1 g2
end
def slotS (n:Nat) (rows:List Row):AV->AV->Prop
 |.ow i,.d true (.sl t) xs=>match rows[i]? with
  |some (.sl _ t' ys)=>Nat.ble n i=true/\∃h:t'=t,h ▸ ys=xs
  |_=>False
 |.ow i,.d true (.sw e _) xs=>match rows[i]? with
  |some (.sl e' .int ys)=>Nat.ble n i=true/\Nat.beq e e'=true/\ys=xs
  |_=>False
 |v,v'=>v=v'
theorem slotS_ok {n:Nat} {rows:List Row} {v v':AV} (h:slotS n rows v v'):v'=v\/(∃i e t xs,v=.ow i/\rows[i]? =some (.sl e t xs)/\n<=i/\v'=.d true (.sl t) xs)\/∃i e d xs,v=.ow i/\rows[i]? =some (.sl e .int xs)/\n<=i/\v'=.d true (.sw e d) xs:=by
 unfold slotS at h
 split at h
 .rename_i i t xs
  split at h
  .rename_i e t' ys hr
   obtain ⟨hn,rfl,rfl⟩:=h
   exact .inr (.inl ⟨i,e,_,_,rfl,hr,Nat.le_of_ble_eq_true hn,rfl⟩)
  .exact h.elim
 .rename_i i e d xs
  split at h
  .rename_i e' ys hr
   obtain ⟨hn,he,rfl⟩:=h
   cases Nat.eq_of_beq_eq_true he
   exact .inr (.inr ⟨i,e,d,_,rfl,hr,Nat.le_of_ble_eq_true hn,rfl⟩)
  .exact h.elim
 .exact .inl h.symm
def subE (n:Nat) (rows:List Row) (env:List (Nat × AV)):List (Nat × AV)->Prop
 |[]=>True
 |(t,v)::l=>slotS n rows (look env t) v/\subE n rows env l
def rowsS:List Row->List Row->Prop
 |_,[]=>True
 |r::l,r'::l'=>r=r'/\rowsS l l'
 |[],_::_=>False
def hsB (n:Nat):List Nat->Bool
 |[]=>true
 |i::l=>Nat.blt i n && hsB n l
def envB (n:Nat):List (Nat × AV)->Bool
 |[]=>true
 |(_,v)::l=>hsB n v.hs && envB n l
def rowB (n:Nat):List Row->Bool
 |[]=>true
 |.box _ v::l=>hsB n v.hs && rowB n l
 |_::l=>rowB n l
def Sub (m:Nat) (st st':St):Prop:=
 (Nat.ble m (cnt st'.rows)=true/\(envB (cnt st'.rows) st'.env && rowB (cnt st'.rows) st'.rows)=true)/\subE (cnt st'.rows) st.rows st.env st'.env/\rowsS st.rows st'.rows
def thenK (n:St->Prop) (Q:Exit->St->Prop):Exit->St->Prop
 |.normal,st=>n st
 |e,st=>Q e st
def blkK (id:Nat) (Q:Exit->St->Prop):Exit->St->Prop
 |.exit i,st=>match Nat.beq i id with|true=>Q .normal st|false=>Q (.exit i) st
 |e,st=>Q e st
def vOp (τ:Nat->TI) (st:St) (o:Op) (k:AV->Prop):Prop:=
 match o with
 |.move x=>k (evl st.env x)
 |.assign x=>k (evl st.env x)
 |.slice T x lo hi none=>sliceK (τ T) (lo.map (evl st.env)) (hi.map (evl st.env)) k (evl st.env x)
 |_=>False
def wpPs (τ:Nat->TI) (N:Nat) (all:Array Oper):List Nat->St->(St->Prop)->Prop
 |[],st,K=>K st
 |i::l,st,K=>match all[i]? with
  |some o=>match o.guard with
   |none=>vOp τ st o.op fun av=>putK N o.dst av st fun st'=>wpPs τ N all l st' K
   |some _=>False
  |none=>False
def hOp (τ:Nat->TI) (st:St) (o:Op) (k:AV->Prop):Prop:=
 match o with
 |.indexAddr T x i=>match evl st.env x with
  |.d sh t xs=>idxK (τ T) st.rows (evl st.env i) k (.d sh t xs)
  |_=>False
 |.load T x=>match τ T with
  |.one _ _=>match evl st.env x with
   |.el sh t xs j=>kd sh k t xs j
   |_=>False
  |_=>False
 |o=>vOp τ st o k
def noDead:List Row->Bool
 |[]=>true
 |.dead::_=>false
 |_::l=>noDead l
def wpHs (τ:Nat->TI) (N:Nat) (all:Array Oper):List Nat->St->(St->Prop)->Prop
 |[],st,K=>K st
 |i::l,st,K=>match all[i]? with
  |some o=>match o.guard with
   |none=>hOp τ st o.op fun av=>putK N o.dst av st fun st'=>wpHs τ N all l st' K
   |some _=>False
  |none=>False
def wpEs (P:Program) (τ:Nat->TI) (N m:Nat) (all:Array Oper):List Nat->St->(St->Prop)->Prop
 |[],st,K=>K st
 |i::l,st,K=>match all[i]? with
  |some o=>match o.guard with
   |none=>wpOp P τ N m st o fun st'=>wpEs P τ N m all l st' K
   |some _=>False
  |none=>False
def seqL (md:Region.Mode) (ops:Array Oper):List Nat->Array Bool->Bool
 |[],listed=>(Region.ready md ops listed).isEmpty
 |k::l,listed=>decide (Region.ready md ops listed=[k]) && seqL md ops l (listed.setIfInBounds k true)
def takeL (md:Region.Mode) (ops:Array Oper) (es:List Nat):List Nat->Array Bool->Bool
 |[],listed=>seqL md ops es listed
 |k::l,listed=>(Region.ready md ops listed).contains k && Region.free md ops listed k && takeL md ops es l (listed.setIfInBounds k true)
def mixB (ops:Array Oper) (ps es:List Nat):Bool:=
 Region.noSelect ops && (decide (ops.size=ps.length+es.length) && takeL .any ops es ps (Array.replicate ops.size false))
inductive Plan where
 |done
 |take (i:Nat) (p:Plan)
 |one (i:Nat) (p:Plan)
 |two (i:Nat) (p:Plan) (j:Nat) (q:Plan)
def plB (ops:Array Oper):Plan->Nat->Array Bool->Bool
 |.done,_,L=>(Region.ready .any ops L).isEmpty
 |.take i p,f+1,L=>((Region.ready .any ops L).contains i && Region.free .any ops L i) && plB ops p f (L.setIfInBounds i true)
 |.one i p,f+1,L=>decide (Region.ready .any ops L=[i]) && plB ops p f (L.setIfInBounds i true)
 |.two i p j q,f+1,L=>decide (Region.ready .any ops L=[i,j]) && (plB ops p f (L.setIfInBounds i true) && plB ops q f (L.setIfInBounds j true))
 |_,0,_=>false
def planB (ops:Array Oper) (p:Plan):Bool:=Region.noSelect ops && plB ops p ops.size (Array.replicate ops.size false)
def plH (ops:Array Oper):Plan->Nat->Array Bool->Bool
 |.done,0,L=>(Region.ready .any ops L).isEmpty
 |.one i p,f+1,L=>decide (Region.ready .any ops L=[i]) && plH ops p f (L.setIfInBounds i true)
 |.two i p j q,f+1,L=>decide (Region.ready .any ops L=[i,j]) && (plH ops p f (L.setIfInBounds i true) && plH ops q f (L.setIfInBounds j true))
 |_,_,_=>false
def takeP (ops:Array Oper) (p:Plan):List Nat->Nat->Array Bool->Bool
 |[],f,L=>plH ops p f L
 |k::l,f+1,L=>((Region.ready .any ops L).contains k && Region.free .any ops L k) && takeP ops p l f (L.setIfInBounds k true)
 |_::_,0,_=>false
def hplB (ops:Array Oper) (ps:List Nat) (p:Plan):Bool:=Region.noSelect ops && takeP ops p ps ops.size (Array.replicate ops.size false)
def gOp (P:Program) (τ:Nat->TI) (N m:Nat) (all:Array Oper) (i:Nat) (st:St) (K:St->Prop):Prop:=
 match all[i]? with
 |some o=>match o.guard with
  |none=>wpOp P τ N m st o K
  |some (j,want)=>gsel (gv all st.env j) want (wpOp P τ N m st o K) (putK N o.dst (.tup []) st K)
 |none=>False
def wpPl (P:Program) (τ:Nat->TI) (N m:Nat) (all:Array Oper):Plan->St->(St->Prop)->Prop
 |.done,st,K=>K st
 |.take i p,st,K=>match all[i]? with
  |some o=>match o.guard with
   |none=>vOp τ st o.op fun av=>putK N o.dst av st fun st'=>wpPl P τ N m all p st' K
   |some (j,want)=>gsel (gv all st.env j) want (vOp τ st o.op fun av=>putK N o.dst av st fun st'=>wpPl P τ N m all p st' K) (putK N o.dst (.tup []) st fun st'=>wpPl P τ N m all p st' K)
  |none=>False
 |.one i p,st,K=>gOp P τ N m all i st fun st'=>wpPl P τ N m all p st' K
 |.two i p j q,st,K=>(gOp P τ N m all i st fun st'=>wpPl P τ N m all p st' K)/\gOp P τ N m all j st fun st'=>wpPl P τ N m all q st' K
def wpC (P:Program) (τ:Nat->TI) (N m:Nat):Code->St->(Exit->St->Prop)->Prop
 |.skip,st,Q=>Q .normal st
 |.region _ ops false,st,Q=>wpO P τ N m ops ops.toList st (Q .normal)
 |.region _ ops true,st,Q=>∃tl:Option Nat,match tl with
  |none=>Region.lexB .any ops=true/\wpQ P τ N ops ops.toList st (Q .normal)
  |some n=>match Nat.ble 2000 n with
   |true=>match Nat.ble 3000 n with
    |true=>match Nat.ble 4000 n with
     |true=>match Nat.ble 5000 n with
      |true=>∃(p:Plan) (st2:St),planB ops p=true/\wpPl P τ N m ops p st (fun st'=>Sub m st' st2)/\Q .normal st2
      |false=>∃(ps:List Nat) (p:Plan),hplB ops ps p=true/\noDead st.rows=true/\wpHs τ N ops ps st (fun st'=>wpPl P τ N m ops p st' (Q .normal))
     |false=>∃p:Plan,planB ops p=true/\wpPl P τ N m ops p st (Q .normal)
    |false=>∃ps es:List Nat,mixB ops ps es=true/\noDead st.rows=true/\wpHs τ N ops ps st (fun st'=>wpEs P τ N m ops es st' (Q .normal))
   |false=>match Nat.ble 1000 n with
   |true=>∃ps es:List Nat,mixB ops ps es=true/\wpPs τ N ops ps st (fun st'=>wpEs P τ N m ops es st' (Q .normal))
   |false=>Region.lexTailB .any ops n=true/\wpS τ N ops (ops.toList.take n) st (fun st'=>wpO P τ N m ops (ops.toList.drop n) st' (Q .normal))
 |.seq a b,st,Q=>wpC P τ N m a st (thenK (fun st'=>wpC P τ N m b st' Q) Q)
 |.cond c x y,st,Q=>match evl st.env c with
  |.d _ .bool b=>(match (b:Bool) with|true=>wpC P τ N m x st Q|false=>wpC P τ N m y st Q)
  |_=>False
 |.block id c,st,Q=>wpC P τ N m c st (blkK id Q)
 |.loop c,st,Q=>∃(ι:Type) (J:ι->St) (Inv:ι->Prop) (μ:ι->Nat) (i0:ι),Inv i0/\Sub m st (J i0)/\∀i,Inv i->wpC P τ N m c (J i) (thenK (fun st'=>∃j,Inv j/\μ j<μ i/\Sub m st' (J j)) Q)
 |.exit id,st,Q=>Q (.exit id) st
 |.ret,st,Q=>Q .ret st
 |_,_,_=>False
theorem hsB_ok {n:Nat}:∀{l:List Nat},hsB n l=true->∀i∈l,i<n
 |[],_,i,hi=>by simp at hi
 |j::l,h,i,hi=>by
  simp only [hsB,Bool.and_eq_true] at h
  simp only [List.mem_cons] at hi
  rcases hi with rfl|hi
  .exact Nat.le_of_ble_eq_true (show Nat.ble (i+1) n=true from h.1)
  .exact hsB_ok h.2 i hi
theorem envB_ok {n:Nat}:∀{env:List (Nat × AV)},envB n env=true->∀t,∀i∈(look env t).hs,i<n
 |[],_,t,i,hi=>by simp [look,AV.hs] at hi
 |(u,v)::l,h,t,i,hi=>by
  simp only [envB,Bool.and_eq_true] at h
  rw [look_cons] at hi
  split at hi
  .exact hsB_ok h.1 i hi
  .exact envB_ok h.2 t i hi
theorem rowB_ok {n:Nat}:∀{l:List Row},rowB n l=true->∀(j:Nat) (e:TypeId) (av:AV),l[j]? =some (.box e av)->∀i∈av.hs,i<n
 |[],_,j,e,av,h,i,hi=>by simp at h
 |.box e' v::l,hb,0,e,av,h,i,hi=>by
  simp at h
  obtain ⟨rfl,rfl⟩:=h
  simp only [rowB,Bool.and_eq_true] at hb
  exact hsB_ok hb.1 i hi
 |.box e' v::l,hb,j+1,e,av,h,i,hi=>by
  simp only [rowB,Bool.and_eq_true] at hb
  exact rowB_ok hb.2 j e av (by simpa using h) i hi
 |.sl _ _ _::l,hb,0,e,av,h,i,hi=>by simp at h
 |.sl _ _ _::l,hb,j+1,e,av,h,i,hi=>rowB_ok (by simpa [rowB] using hb) j e av (by simpa using h) i hi
 |.dead::l,hb,0,e,av,h,i,hi=>by simp at h
 |.dead::l,hb,j+1,e,av,h,i,hi=>rowB_ok (by simpa [rowB] using hb) j e av (by simpa using h) i hi
 |.tz _ _::l,hb,0,e,av,h,i,hi=>by simp at h
 |.tz _ _::l,hb,j+1,e,av,h,i,hi=>rowB_ok (by simpa [rowB] using hb) j e av (by simpa using h) i hi
theorem subE_ok {n:Nat} {rows:List Row} {env:List (Nat × AV)}:∀{l:List (Nat × AV)},subE n rows env l->∀t,look l t=.any\/look l t=look env t\/(∃i e t' xs,look env t=.ow i/\rows[i]? =some (.sl e t' xs)/\n<=i/\look l t=.d true (.sl t') xs)\/∃i e d xs,look env t=.ow i/\rows[i]? =some (.sl e .int xs)/\n<=i/\look l t=.d true (.sw e d) xs
 |[],_,t=>.inl rfl
 |(u,v)::l,h,t=>by
  rw [look_cons]
  by_cases e:u=t
  .subst e;rw [if_pos rfl];exact .inr (slotS_ok h.1)
  .rw [if_neg e];exact subE_ok h.2 t
theorem rowsS_ok:∀{l l':List Row},rowsS l l'->l'=l.take l'.length
 |_,[],_=>by simp
 |r::l,r'::l',h=>by
  obtain ⟨rfl,h⟩:=h
  have:=rowsS_ok h
  simp only [List.length_cons,List.take_succ_cons]
  rw [<-this]
 |[],_::_,h=>h.elim
section
variable {P:Program} {τ:Nat->TI} {m N:Nat} {w w':World} {bs:List Nat} {A:Nat->Prop} {a:Act} {st:St}
theorem Sat.sub (hs:Sat w bs A a N st) {st':St} (h:Sub m st st'):∃bs' A',Sat w bs' A' a N st'/\Stp m w bs A w bs' A':=by
 obtain ⟨⟨h1,h2⟩,h3,h4⟩:=h
 rw [cnt_eq] at h1 h2 h3
 have hm:=Nat.le_of_ble_eq_true h1
 rw [Bool.and_eq_true] at h2
 have hr:=rowsS_ok h4
 have hle:st'.rows.length<=bs.length:=by
  have:=congrArg List.length hr
  simp only [List.length_take] at this
  rw [hs.len];omega
 have hrow:∀i,i<st'.rows.length->st'.rows[i]? =st.rows[i]? :=fun i hi=>by
  rw [hr,List.getElem?_take,if_pos hi]
 have hdisj:∀b,b∈bs.take st'.rows.length->b∉bs.drop st'.rows.length:=by
  intro b hb hb2
  have hn:=hs.nodup
  rw [<-List.take_append_drop st'.rows.length bs,List.nodup_append] at hn
  exact hn.2.2 b hb b hb2 rfl
 have k:Kp w bs A st.rows w (bs.take st'.rows.length) (fun b=>A b\/b∈bs.drop st'.rows.length) st'.rows (fun i=>i<st'.rows.length):=
  {a:=fun b hb _=>⟨rfl,.inl hb⟩
   n:=fun b hb _=>⟨rfl,fun hm=>hb (List.mem_of_mem_take hm)⟩
   h:=fun i hi=>⟨by rw [List.getElem?_take,if_pos hi],fun r hr=>⟨r,by rw [hrow i hi];exact hr,rfl,(fun e t xs hx=>⟨xs,hx⟩),fun e xs hx=>⟨xs,hx⟩⟩,fun b cur e _ hc=>⟨cur,hc,rfl⟩⟩}
 refine ⟨bs.take st'.rows.length,(fun b=>A b\/b∈bs.drop st'.rows.length),⟨by simp;omega,hs.nodup.sublist (List.take_sublist _ _),fun b hb=>hs.lt b (List.mem_of_mem_take hb),fun b hb=>?_,?_,?_,hs.size,hs.dfs⟩,?_⟩
 .rcases hb with hb|hb
  .exact hs.old b hb
  .exact hs.lt b (List.mem_of_mem_drop hb)
 .intro i b r hb hr'
  have hb0:=List.mem_of_getElem? hb
  rw [List.getElem?_take] at hb
  split at hb
  .rename_i hi
   have hr2:st.rows[i]? =some r:=by rw [<-hrow i hi];exact hr'
   refine RowR.keep k rfl (fun h h'=>?_) (fun e av e1 j hj=>by subst e1;exact rowB_ok h2.2 i e av hr' j hj) (hs.row i b r hb hr2)
   rcases h' with h'|h'
   .exact h h'
   .exact hdisj b hb0 h'
  .cases hb
 .intro t
  have hv:=hs.env t
  rcases subE_ok h3 t with e|e|⟨i,e0,t',xs,e1,e2,e3,e4⟩|⟨i,e0,d,xs,e1,e2,e3,e4⟩
  .rw [e];trivial
  .rw [e]
   exact V.keep k _ _ (fun i hi=>envB_ok h2.1 t i (by rw [e];exact hi)) hv
  .rw [e4]
   rw [e1] at hv
   obtain ⟨b,e5,t5,xs5,cur,g1,g2,g3,g4⟩:=hv
   rw [e2] at g2;cases g2
   obtain ⟨hA,cur2,c1,c2,c3,c4⟩:=hs.row i b _ g1 e2
   rw [g3] at c1;cases c1
   refine ⟨some ⟨b,0,none⟩,cur.size,g4,c2,(fun hh=>by simp at hh),.inr ⟨b,0,rfl,.inr ?_,fun j hj=>?_⟩⟩
   .refine List.mem_of_getElem? (i:=i-st'.rows.length) ?_
    rw [List.getElem?_drop,Nat.add_sub_cancel' e3];exact g1
   .obtain ⟨cv,k1,k2⟩:=c4 j hj
    exact ⟨cv,by rw [Nat.zero_add,cell_of_row w b j cur _ (0,0) g3];exact k1,Rd.ext (fun b hb _=>⟨rfl,.inl hb⟩) t' _ _ k2⟩
  .rw [e4]
   rw [e1] at hv
   obtain ⟨b,e5,t5,xs5,cur,g1,g2,g3,g4⟩:=hv
   rw [e2] at g2;cases g2
   obtain ⟨hA,cur2,c1,c2,c3,c4⟩:=hs.row i b _ g1 e2
   rw [g3] at c1;cases c1
   by_cases hx:xs=[]
   .subst hx
    exact .inl ⟨rfl,_,_,g4,fun hh=>by cases hh⟩
   .refine .inr ⟨hx,b,cur,g4,.inr ?_,g3,c2,c3,fun j hj=>?_⟩
    .refine List.mem_of_getElem? (i:=i-st'.rows.length) ?_
     rw [List.getElem?_drop,Nat.add_sub_cancel' e3];exact g1
    .obtain ⟨cv,k1,k2⟩:=c4.c j hj
     rw [k1];exact congrArg some k2
 .exact {
   os:=rfl,tape:=rfl,output:=rfl,size:=Nat.le_refl _,block:=fun _ _ _=>rfl,sbs:=fun b hb=>.inl (List.mem_of_mem_take hb),sA:=fun b hb=>by rcases hb with hb|hb;exact .inl hb;exact .inr (.inr (List.mem_of_mem_drop hb)),
   tk:=by rw [List.take_take,Nat.min_eq_left hm],st:=fun b hb cur e hc=>⟨cur,hc,rfl⟩,up:=fun _ h=>.inl h}
def onlyN (K:Act->World->Prop):Exit->Act->World->Prop
 |.normal,a,w=>K a w
 |_,_,_=>False
theorem vOp_ok (hτ:TyOk P τ) (hs:Sat w bs A a N st) {o:Oper} {k:AV->Prop} (h:vOp τ st o.op k):∃v av,(∀w',(execOp a.eval o).run P w'=.ok (.value v) w')/\V w bs A st.rows av v/\k av:=by
 unfold vOp at h
 split at h
 .rename_i x ho
  exact ⟨_,_,fun w'=>by simp only [execOp,ho];rfl,evl_ok hs x,h⟩
 .rename_i x ho
  exact ⟨_,_,fun w'=>by simp only [execOp,ho];rfl,evl_ok hs x,h⟩
 .rename_i T x lo hi ho
  obtain ⟨v,av,h1,h2,h3⟩:=slice_ok2 (P:=P) (vl:=lo.map a.eval) (vh:=hi.map a.eval) hτ (evl_ok hs x) (fun av hav=>by
   cases lo with
   |none=>simp at hav
   |some y=>simp at hav;subst hav;exact ⟨_,rfl,evl_ok hs y⟩) (fun hn=>by cases lo with|none=>rfl|some y=>simp at hn) (fun av hav=>by
   cases hi with
   |none=>simp at hav
   |some y=>simp at hav;subst hav;exact ⟨_,rfl,evl_ok hs y⟩) (fun hn=>by cases hi with|none=>rfl|some y=>simp at hn) h
  refine ⟨v,av,fun w'=>?_,h2,h3⟩
  have:=h1 w'
  simp only [execOp,ho,Sem.run_bind]
  rw [show (none:Option Operand).map a.eval=none from rfl,this]
  rfl
 .exact h.elim
theorem wpEs_ok (hτ:TyOk P τ) {all:Array Oper} {K:St->Prop} {Q:Exit->Act->World->Prop}:∀(l:List Nat) {w:World} {bs:List Nat} {A:Nat->Prop} {a:Act} {st:St},Sat w bs A a N st->m<=bs.length->
 Nxt m N w bs A K (Q .normal)->wpEs P τ N m all l st K->wpOps P all Q l a w
 |[],w,bs,A,a,st,hs,hm,hK,h=>hK w bs A a st hs (Stp.refl m w bs A) h
 |i::r,w,bs,A,a,st,hs,hm,hK,h=>by
  have rest:Nxt m N w bs A (fun st'=>wpEs P τ N m all r st' K) (wpOps P all Q r):=fun w1 bs1 A1 a1 st1 h1 h2 h3=>wpEs_ok hτ r h1 (h2.len hm) (hK.trans h2) h3
  unfold wpEs at h
  rw [wpOps_cons]
  unfold Go.wpOp
  split at h
  .rename_i o ho
   split at h
   .rename_i hg
    simp only [ho]
    rw [if_pos (by simp [Region.wanted,hg])]
    exact .inl (wpOp_ok hτ hs hm rest h)
   .exact h.elim
  .exact h.elim
theorem wpAny_seqL {md:Region.Mode} {ops:Array Oper} {Q:Exit->Act->World->Prop}:∀(l:List Nat) (listed:Array Bool) (a:Act) (w:World),seqL md ops l listed=true->wpOps P ops Q l a w->wpAny P md ops Q l.length listed a w
 |[],listed,a,w,hB,h=>⟨by simpa [seqL] using hB,h⟩
 |k::l,listed,a,w,hB,h=>by
  simp only [seqL,Bool.and_eq_true,decide_eq_true_eq] at hB
  refine ⟨fun h1=>(by rw [hB.1] at h1;cases h1),fun i hi=>?_⟩
  rw [hB.1] at hi
  have hik:i=k:=by simpa using hi
  subst hik
  rw [wpOps_cons] at h
  exact wpOp_mono (fun a' w' h'=>wpAny_seqL l _ a' w' hB.2 h') h
theorem wpPs_ok (hτ:TyOk P τ) {all:Array Oper} {es:List Nat} {K:St->Prop} {Q:Exit->Act->World->Prop} (hn:Region.noSelect all=true) (hQ:∀c a w,Q (.panic c) a w->False)
 (hend:∀a' st',Sat w bs A a' N st'->K st'->wpOps P all Q es a' w):∀(l:List Nat) (listed:Array Bool) {a:Act} {st:St},Sat w bs A a N st->takeL .any all es l listed=true->wpPs τ N all l st K->wpAny P .any all Q (l.length+es.length) listed a w
 |[],listed,a,st,hs,hB,h=>by
  have:=wpAny_seqL (P:=P) (Q:=Q) es listed a w hB (hend a st hs h)
  simpa using this
 |i::l,listed,a,st,hs,hB,h=>by
  simp only [takeL,Bool.and_eq_true] at hB
  unfold wpPs at h
  split at h
  .rename_i o ho
   split at h
   .rename_i hg
    obtain ⟨v,av,h1,h2,h3⟩:=vOp_ok hτ hs h
    obtain ⟨st',k1,k2⟩:=putK_ok hs h2 h3
    rw [List.length_cons,Nat.add_right_comm]
    exact wpAny_take ho hn hB.1.2 hB.1.1 (fun c a w hh=>(hQ _ _ _ hh).elim) (.inl ⟨by simp [Region.wanted,hg],h1⟩) (wpPs_ok hτ hn hQ hend l _ k1 hB.2 k2)
   .exact h.elim
  .exact h.elim
theorem noDead_ok:∀{l:List Row},noDead l=true->∀(i:Nat),l[i]?≠some .dead
 |[],_,i,h=>by simp at h
 |.dead::_,h,_,_=>by cases h
 |.sl _ _ _::l,h,0,h2=>by simp at h2
 |.sl _ _ _::l,h,i+1,h2=>noDead_ok (l:=l) h i (by simpa using h2)
 |.box _ _::l,h,0,h2=>by simp at h2
 |.box _ _::l,h,i+1,h2=>noDead_ok (l:=l) h i (by simpa using h2)
 |.tz _ _::l,h,0,h2=>by simp at h2
 |.tz _ _::l,h,i+1,h2=>noDead_ok (l:=l) h i (by simpa using h2)
theorem Sat.apart (hs:Sat w bs A a N st) (h:noDead st.rows=true) {b:Nat} (hA:A b):b∉bs:=by
 intro hb
 obtain ⟨i,hi,rfl⟩:=List.getElem_of_mem hb
 have hb2:bs[i]? =some bs[i]:=List.getElem?_eq_getElem hi
 have hr2:st.rows[i]? =some (st.rows[i]'(by rw [<-hs.len];exact hi)):=List.getElem?_eq_getElem _
 have hrow:=hs.row i _ _ hb2 hr2
 have hd:=noDead_ok h i
 generalize (st.rows[i]'(by rw [<-hs.len];exact hi))=r at*
 exact hrow.nA (fun e=>hd (e ▸ hr2)) hA
def Held (w:World) (bs:List Nat) (w':World):Prop:=∀k,k<w.heap.size->k∉bs->w'.heap[k]? =w.heap[k]?
theorem kd_val (P:Program) {rows:List Row} {k:AV->Prop} {v:Value} {sh:Bool} (t:Ty) (xs:List t.T) (j:Nat) (hj:j<xs.length) (hv:Rd w (SS bs A sh) t xs[j] v) (h:kd sh k t xs j):∃av,V w bs A rows av v/\k av:=by
 obtain ⟨v',av,h1,h2,h3⟩:=kd_ok (P:=P) (rows:=rows) (s:=(pure v:Sem Value)) t xs j hj (fun w' _=>rfl) hv h
 have e:=h1 w (Ext.refl w)
 have:v=v':=by simpa using e
 subst this
 exact ⟨av,h2,h3⟩
theorem hOp_ok (hτ:TyOk P τ) (hs:Sat w bs A a N st) (hno:∀b,A b->b∉bs) {o:Oper} {k:AV->Prop} (h:hOp τ st o.op k):∃v av,(∀w',Held w bs w'->(execOp a.eval o).run P w'=.ok (.value v) w')/\V w bs A st.rows av v/\k av:=by
 unfold hOp at h
 split at h
 .rename_i T x i ho
  split at h
  .rename_i sh t xs he
   have hx:=evl_ok hs x
   rw [he] at hx
   simp only [execOp,ho,Sem.run_bind]
   have hi:=evl_ok hs i
   unfold idxK at h
   split at h
   .rename_i sh2 t2 xs2 heq
    cases heq
    split at h
    .rename_i t' e n hT heq2
     rw [heq2] at hi
     obtain ⟨j,rfl,hj,h⟩:=h
     have hi':a.eval i=.int .i64 (j:Int):=hi
     obtain ⟨ad,cap,hv,hcap,hnn,hx⟩:=hx
     rcases hx with rfl|⟨b,o',rfl,hS,hc⟩
     .simp at hj
     .refine ⟨.pointer (some ⟨b,o'+j,none⟩),.el sh t2 xs2 j,fun w' _=>?_,⟨hj,b,o',rfl,hS,hc⟩,h⟩
      rw [hi',hv,run_idx_slice hτ hT b o' _ cap j hj w']
      rfl
    .exact h.elim
   .rename_i heq;cases heq
   .rename_i heq;cases heq
   .rename_i heq;cases heq
   .rename_i heq;cases heq
   .rename_i heq;cases heq
   .rename_i heq;cases heq
   .exact h.elim
  .exact h.elim
 .rename_i T x ho
  split at h
  .rename_i t0 e0 hT
   split at h
   .rename_i sh t xs j he
    have hx:=evl_ok hs x
    rw [he] at hx
    obtain ⟨hj,b,o',hv,hS,hc⟩:=hx
    obtain ⟨cv,h1,h2⟩:=hc j hj
    obtain ⟨av,g1,g2⟩:=kd_val P (rows:=st.rows) t xs j hj h2 h
    refine ⟨cv,av,fun w' hw=>?_,g1,g2⟩
    have hb:b∉bs:=by
     cases sh
     .exact hS
     .exact hno b hS
    have hcell:w'.cell? ⟨b,o'+j,none⟩=some cv:=(cell_of_block (hw b (cell_lt h1) hb)).trans h1
    simp only [execOp,ho,Sem.run_bind]
    rw [hv,run_loadOne hτ hT hcell]
    rfl
   .exact h.elim
  .exact h.elim
 .obtain ⟨v,av,h1,h2,h3⟩:=vOp_ok hτ hs h
  exact ⟨v,av,fun w' _=>h1 w',h2,h3⟩
theorem wpEsH_ok (hτ:TyOk P τ) {all:Array Oper} {K:St->Prop} {Q:Exit->Act->World->Prop} {w0:World} {bs0:List Nat} {A0:Nat->Prop} (hend:Nxt m N w0 bs0 A0 K (Q .normal)):∀(l:List Nat) (listed:Array Bool) {w:World} {bs:List Nat} {A:Nat->Prop} {a:Act} {st:St},
 Sat w bs A a N st->Stp m w0 bs0 A0 w bs A->m<=bs.length->seqL .any all l listed=true->wpEs P τ N m all l st K->wpAnyH P .any all Q (Held w0 bs0) l.length listed a w
 |[],listed,w,bs,A,a,st,hs,hp,hm,hB,h=>⟨by simpa [seqL] using hB,hend w bs A a st hs hp h⟩
 |k::l,listed,w,bs,A,a,st,hs,hp,hm,hB,h=>by
  simp only [seqL,Bool.and_eq_true,decide_eq_true_eq] at hB
  refine ⟨fun h1=>(by rw [hB.1] at h1;cases h1),fun i hi=>?_⟩
  rw [hB.1] at hi
  have hik:i=k:=by simpa using hi
  subst hik
  unfold wpEs at h
  unfold Go.wpOp
  split at h
  .rename_i o ho
   split at h
   .rename_i hg
    simp only [ho]
    rw [if_pos (by simp [Region.wanted,hg])]
    refine .inl (wpOp_ok hτ hs hm (fun w1 bs1 A1 a1 st1 h1 h2 h3=>⟨fun k hk hn=>(hp.trans h2).block k hk hn,wpEsH_ok hτ hend l _ h1 (hp.trans h2) (h2.len hm) hB.2 h3⟩) h)
   .exact h.elim
  .exact h.elim
theorem wpHs_ok (hτ:TyOk P τ) {all:Array Oper} {es:List Nat} {K:St->Prop} {Q:Exit->Act->World->Prop} (hn:Region.noSelect all=true) (hQ:∀c a w,Q (.panic c) a w->False) (hno:∀b,A b->b∉bs)
 (hend:∀a' st' listed,Sat w bs A a' N st'->K st'->seqL .any all es listed=true->wpAnyH P .any all Q (Held w bs) es.length listed a' w):∀(l:List Nat) (listed:Array Bool) {a:Act} {st:St},Sat w bs A a N st->takeL .any all es l listed=true->wpHs τ N all l st K->wpAnyH P .any all Q (Held w bs) (l.length+es.length) listed a w
 |[],listed,a,st,hs,hB,h=>by
  have:=hend a st listed hs h hB
  simpa using this
 |i::l,listed,a,st,hs,hB,h=>by
  simp only [takeL,Bool.and_eq_true] at hB
  unfold wpHs at h
  split at h
  .rename_i o ho
   split at h
   .rename_i hg
    obtain ⟨v,av,h1,h2,h3⟩:=hOp_ok hτ hs hno h
    obtain ⟨st',k1,k2⟩:=putK_ok hs h2 h3
    rw [List.length_cons,Nat.add_right_comm]
    exact wpAnyH_take ho hn hB.1.2 hB.1.1 (fun c a w hh=>(hQ _ _ _ hh).elim) (.inl ⟨by simp [Region.wanted,hg],h1⟩) (fun _ _ _=>rfl) (wpHs_ok hτ hn hQ hno hend l _ k1 hB.2 k2)
   .exact h.elim
  .exact h.elim
theorem gOp_ok (hτ:TyOk P τ) (hs:Sat w bs A a N st) (hm:m<=bs.length) {all:Array Oper} {i:Nat} {K:St->Prop} {Kc:Act->World->Prop} {Q:Exit->Act->World->Prop} (hK:Nxt m N w bs A K Kc) (h:gOp P τ N m all i st K):Go.wpOp P all Q i Kc a w:=by
 unfold gOp at h
 unfold Go.wpOp
 split at h
 .rename_i o ho
  simp only [ho]
  split at h
  .rename_i hg
   rw [if_pos (by simp [Region.wanted,hg])]
   exact .inl (wpOp_ok hτ hs hm hK h)
  .rename_i j want hg
   obtain ⟨b,hb,⟨h1,h⟩|⟨h1,h⟩⟩:=gsel_ok h
   .rw [if_pos (by rw [wanted_ok hs hg hb,h1])]
    exact .inl (wpOp_ok hτ hs hm hK h)
   .rw [if_neg (by rw [wanted_ok hs hg hb,h1];simp)]
    exact hK.of hs (Stp.refl m w bs A) (av:=.tup []) ⟨[],rfl,rfl⟩ h
 .exact h.elim
theorem wpPl_ok (hτ:TyOk P τ) {all:Array Oper} {K:St->Prop} {Q:Exit->Act->World->Prop} (hn:Region.noSelect all=true) (hQ:∀c a w,Q (.panic c) a w->False):
 ∀(p:Plan) (f:Nat) (L:Array Bool) {w:World} {bs:List Nat} {A:Nat->Prop} {a:Act} {st:St},Sat w bs A a N st->m<=bs.length->Nxt m N w bs A K (Q .normal)->plB all p f L=true->wpPl P τ N m all p st K->wpAny P .any all Q f L a w
 |.done,f,L,w,bs,A,a,st,hs,hm,hK,hB,h=>by
  have hB:(Region.ready .any all L).isEmpty=true:=by cases f<;>exact hB
  exact wpAny_done (by simpa using hB) (hK w bs A a st hs (Stp.refl m w bs A) h) f
 |.take i p,0,L,w,bs,A,a,st,hs,hm,hK,hB,h=>by cases hB
 |.take i p,f+1,L,w,bs,A,a,st,hs,hm,hK,hB,h=>by
  simp only [plB,Bool.and_eq_true] at hB
  unfold wpPl at h
  split at h
  .rename_i o ho
   have go:(vOp τ st o.op fun av=>putK N o.dst av st fun st'=>wpPl P τ N m all p st' K)->Region.wanted o (yielded all a.tmps)=true->wpAny P .any all Q (f+1) L a w:=fun h hw=>by
    obtain ⟨v,av,h1,h2,h3⟩:=vOp_ok hτ hs h
    obtain ⟨st',k1,k2⟩:=putK_ok hs h2 h3
    exact wpAny_take ho hn hB.1.2 hB.1.1 (fun c a w hh=>(hQ _ _ _ hh).elim) (.inl ⟨hw,h1⟩) (wpPl_ok hτ hn hQ p f _ k1 hm hK hB.2 k2)
   split at h
   .rename_i hg
    exact go h (by simp [Region.wanted,hg])
   .rename_i j want hg
    obtain ⟨b,hb,⟨h1,h⟩|⟨h1,h⟩⟩:=gsel_ok h
    .exact go h (by rw [wanted_ok hs hg hb,h1])
    .obtain ⟨st',k1,k2⟩:=putK_ok (v:=undef) hs (av:=.tup []) ⟨[],rfl,rfl⟩ h
     exact wpAny_take ho hn hB.1.2 hB.1.1 (fun c a w hh=>(hQ _ _ _ hh).elim) (.inr ⟨by rw [wanted_ok hs hg hb,h1],rfl⟩) (wpPl_ok hτ hn hQ p f _ k1 hm hK hB.2 k2)
  .exact h.elim
 |.one i p,0,L,w,bs,A,a,st,hs,hm,hK,hB,h=>by cases hB
 |.one i p,f+1,L,w,bs,A,a,st,hs,hm,hK,hB,h=>by
  simp only [plB,Bool.and_eq_true,decide_eq_true_eq] at hB
  refine wpAny_all hB.1 (by simp) fun k hk=>?_
  obtain rfl:k=i:=by simpa using hk
  exact gOp_ok hτ hs hm (fun w1 bs1 A1 a1 st1 h1 h2 h3=>wpPl_ok hτ hn hQ p f _ h1 (h2.len hm) (hK.trans h2) hB.2 h3) h
 |.two i p j q,0,L,w,bs,A,a,st,hs,hm,hK,hB,h=>by cases hB
 |.two i p j q,f+1,L,w,bs,A,a,st,hs,hm,hK,hB,h=>by
  simp only [plB,Bool.and_eq_true,decide_eq_true_eq] at hB
  refine wpAny_all hB.1 (by simp) fun k hk=>?_
  rcases List.mem_cons.1 hk with rfl|hk
  .exact gOp_ok hτ hs hm (fun w1 bs1 A1 a1 st1 h1 h2 h3=>wpPl_ok hτ hn hQ p f _ h1 (h2.len hm) (hK.trans h2) hB.2.1 h3) h.1
  .obtain rfl:k=j:=by simpa using hk
   exact gOp_ok hτ hs hm (fun w1 bs1 A1 a1 st1 h1 h2 h3=>wpPl_ok hτ hn hQ q f _ h1 (h2.len hm) (hK.trans h2) hB.2.2 h3) h.2
theorem wpPlH_ok (hτ:TyOk P τ) {all:Array Oper} {K:St->Prop} {Q:Exit->Act->World->Prop} {w0:World} {bs0:List Nat} {A0:Nat->Prop} (hend:Nxt m N w0 bs0 A0 K (Q .normal)):∀(p:Plan) (f:Nat) (L:Array Bool) {w:World} {bs:List Nat} {A:Nat->Prop} {a:Act} {st:St},
 Sat w bs A a N st->Stp m w0 bs0 A0 w bs A->m<=bs.length->plH all p f L=true->wpPl P τ N m all p st K->wpAnyH P .any all Q (Held w0 bs0) f L a w
 |.done,0,L,w,bs,A,a,st,hs,hp,hm,hB,h=>⟨by simpa [plH] using hB,hend w bs A a st hs hp h⟩
 |.done,f+1,L,w,bs,A,a,st,hs,hp,hm,hB,h=>by simp [plH] at hB
 |.take i p,f,L,w,bs,A,a,st,hs,hp,hm,hB,h=>by cases f<;>simp [plH] at hB
 |.one i p,0,L,w,bs,A,a,st,hs,hp,hm,hB,h=>by simp [plH] at hB
 |.two i p j q,0,L,w,bs,A,a,st,hs,hp,hm,hB,h=>by simp [plH] at hB
 |.one i p,f+1,L,w,bs,A,a,st,hs,hp,hm,hB,h=>by
  simp only [plH,Bool.and_eq_true,decide_eq_true_eq] at hB
  refine ⟨fun h1=>(by rw [hB.1] at h1;cases h1),fun k hk=>?_⟩
  rw [hB.1] at hk
  obtain rfl:k=i:=by simpa using hk
  exact gOp_ok hτ hs hm (fun w1 bs1 A1 a1 st1 h1 h2 h3=>⟨fun k hk hn=>(hp.trans h2).block k hk hn,wpPlH_ok hτ hend p f _ h1 (hp.trans h2) (h2.len hm) hB.2 h3⟩) h
 |.two i p j q,f+1,L,w,bs,A,a,st,hs,hp,hm,hB,h=>by
  simp only [plH,Bool.and_eq_true,decide_eq_true_eq] at hB
  refine ⟨fun h1=>(by rw [hB.1] at h1;cases h1),fun k hk=>?_⟩
  rw [hB.1] at hk
  rcases List.mem_cons.1 hk with rfl|hk
  .exact gOp_ok hτ hs hm (fun w1 bs1 A1 a1 st1 h1 h2 h3=>⟨fun k hk hn=>(hp.trans h2).block k hk hn,wpPlH_ok hτ hend p f _ h1 (hp.trans h2) (h2.len hm) hB.2.1 h3⟩) h.1
  .obtain rfl:k=j:=by simpa using hk
   exact gOp_ok hτ hs hm (fun w1 bs1 A1 a1 st1 h1 h2 h3=>⟨fun k hk hn=>(hp.trans h2).block k hk hn,wpPlH_ok hτ hend q f _ h1 (hp.trans h2) (h2.len hm) hB.2.2 h3⟩) h.2
theorem wpHsP_ok (hτ:TyOk P τ) {all:Array Oper} {p:Plan} {K:St->Prop} {Q:Exit->Act->World->Prop} (hn:Region.noSelect all=true) (hQ:∀c a w,Q (.panic c) a w->False) (hno:∀b,A b->b∉bs)
 (hend:∀a' st' f listed,Sat w bs A a' N st'->K st'->plH all p f listed=true->wpAnyH P .any all Q (Held w bs) f listed a' w):∀(l:List Nat) (f:Nat) (listed:Array Bool) {a:Act} {st:St},Sat w bs A a N st->takeP all p l f listed=true->wpHs τ N all l st K->wpAnyH P .any all Q (Held w bs) f listed a w
 |[],f,listed,a,st,hs,hB,h=>hend a st f listed hs h (by cases f<;>exact hB)
 |i::l,0,listed,a,st,hs,hB,h=>by cases hB
 |i::l,f+1,listed,a,st,hs,hB,h=>by
  simp only [takeP,Bool.and_eq_true] at hB
  unfold wpHs at h
  split at h
  .rename_i o ho
   split at h
   .rename_i hg
    obtain ⟨v,av,h1,h2,h3⟩:=hOp_ok hτ hs hno h
    obtain ⟨st',k1,k2⟩:=putK_ok hs h2 h3
    exact wpAnyH_take ho hn hB.1.2 hB.1.1 (fun c a w hh=>(hQ _ _ _ hh).elim) (.inl ⟨by simp [Region.wanted,hg],h1⟩) (fun _ _ _=>rfl) (wpHsP_ok hτ hn hQ hno hend l f _ k1 hB.2 k2)
   .exact h.elim
  .exact h.elim
def NxE (m N:Nat) (w:World) (bs:List Nat) (A:Nat->Prop) (Q:Exit->St->Prop) (R:Exit->Act->World->Prop):Prop:=
 ∀e w' bs' A' a' st',Sat w' bs' A' a' N st'->Stp m w bs A w' bs' A'->Q e st'->R e a' w'
theorem NxE.trans {Q:Exit->St->Prop} {R:Exit->Act->World->Prop} (hK:NxE m N w bs A Q R) {w1:World} {bs1:List Nat} {A1:Nat->Prop} (h:Stp m w bs A w1 bs1 A1):NxE m N w1 bs1 A1 Q R:=
 fun e w' bs' A' a' st' h1 h2 h3=>hK e w' bs' A' a' st' h1 (h.trans h2) h3
theorem wpC_ok (hτ:TyOk P τ):∀(c:Code) {Q:Exit->St->Prop} {R:Exit->Act->World->Prop} {w:World} {bs:List Nat} {A:Nat->Prop} {a:Act} {st:St},Sat w bs A a N st->m<=bs.length->NxE m N w bs A Q R->wpC P τ N m c st Q->c.wp P R a w
 |.skip,Q,R,w,bs,A,a,st,hs,hm,hR,h=>wp_skip (hR _ _ _ _ _ _ hs (Stp.refl m w bs A) h)
 |.region id ops false,Q,R,w,bs,A,a,st,hs,hm,hR,h=>
  wp_region_list (wpO_ok hτ ops.toList hs hm (fun w' bs' A' a' st' h1 h2 h3=>hR .normal w' bs' A' a' st' h1 h2 h3) h)
 |.region id ops true,Q,R,w,bs,A,a,st,hs,hm,hR,h=>by
  obtain ⟨tl,h⟩:=h
  have hg:Gr w {w with drawn:=w.drawn+1}:=⟨rfl,rfl,rfl,Nat.le_refl _,fun _ _=>rfl⟩
  cases tl with
  |none=>
   obtain ⟨hB,h⟩:=h
   refine wp_region_quiet (C:=Gr w) hτ.mixed hB hg ?_
   refine wpQ_ok hτ (K:=Q .normal) (fun a' st' h1 h2 w' hw'=>?_) ops.toList hs h
   obtain ⟨g1,g2⟩:=h1.gr (m:=m) hw'
   exact hR _ _ _ _ _ _ g1 g2 h2
  |some n=>
   simp only at h
   split at h
   .split at h
    .split at h
     .split at h
      .obtain ⟨p,st2,hB,h,hQ2⟩:=h
       obtain ⟨g1,g2⟩:=hs.gr (m:=m) hg
       unfold planB at hB
       rw [Bool.and_eq_true] at hB
       refine Go.wp_mono (Q:=onlyN (R .normal)) (wp_region_any hτ.mixed ?_) (fun e a w h=>by cases e<;>first|exact h|exact h.elim)
       exact wpPl_ok (K:=fun st'=>Sub m st' st2) (Q:=onlyN (R .normal)) hτ hB.1 (fun c a w h=>h) p _ _ g1 hm (fun w' bs' A' a' st' h1 h2 h3=>by
        obtain ⟨bs2,A2,k1,k2⟩:=h1.sub h3
        exact hR .normal w' bs2 A2 a' st2 k1 (g2.trans (h2.trans k2)) hQ2) hB.2 h
      obtain ⟨ps,p,hB,hdd,h⟩:=h
      obtain ⟨g1,g2⟩:=hs.gr (m:=m) hg
      unfold hplB at hB
      rw [Bool.and_eq_true] at hB
      refine Go.wp_mono (Q:=onlyN (R .normal)) (wp_region_held (S:=Held {w with drawn:=w.drawn+1} bs) hτ.mixed ?_) (fun e a w h=>by cases e<;>first|exact h|exact h.elim)
      exact wpHsP_ok (Q:=onlyN (R .normal)) hτ (K:=fun st'=>wpPl P τ N m ops p st' (Q .normal)) hB.1 (fun c a w h=>h) (fun b hA=>g1.apart hdd hA) (fun a' st' f listed k1 k2 k3=>
       wpPlH_ok hτ (Q:=onlyN (R .normal)) (fun w' bs' A' a' st' h1 h2 h3=>hR .normal w' bs' A' a' st' h1 (g2.trans h2) h3) p f listed k1 (Stp.refl m _ bs A) hm k3 k2) ps _ _ g1 hB.2 h
     obtain ⟨p,hB,h⟩:=h
     obtain ⟨g1,g2⟩:=hs.gr (m:=m) hg
     unfold planB at hB
     rw [Bool.and_eq_true] at hB
     refine Go.wp_mono (Q:=onlyN (R .normal)) (wp_region_any hτ.mixed ?_) (fun e a w h=>by cases e<;>first|exact h|exact h.elim)
     exact wpPl_ok (Q:=onlyN (R .normal)) hτ hB.1 (fun c a w h=>h) p _ _ g1 hm (fun w' bs' A' a' st' h1 h2 h3=>hR .normal w' bs' A' a' st' h1 (g2.trans h2) h3) hB.2 h
    obtain ⟨ps,es,hB,hdd,h⟩:=h
    obtain ⟨g1,g2⟩:=hs.gr (m:=m) hg
    simp only [mixB,Bool.and_eq_true,decide_eq_true_eq] at hB
    obtain ⟨hn,hsz,hB⟩:=hB
    refine Go.wp_mono (Q:=onlyN (R .normal)) (wp_region_held (S:=Held {w with drawn:=w.drawn+1} bs) hτ.mixed ?_) (fun e a w h=>by cases e<;>first|exact h|exact h.elim)
    have key:=wpHs_ok (Q:=onlyN (R .normal)) hτ (K:=fun st'=>wpEs P τ N m ops es st' (Q .normal)) hn (fun c a w h=>h) (fun b hA=>g1.apart hdd hA) (fun a' st' listed k1 k2 k3=>?_) ps _ g1 hB h
    .rw [<-hsz] at key
     exact key
    exact wpEsH_ok hτ (Q:=onlyN (R .normal)) (fun w' bs' A' a' st' h1 h2 h3=>hR .normal w' bs' A' a' st' h1 (g2.trans h2) h3) es listed k1 (Stp.refl m _ bs A) hm k3 k2
   split at h
   .obtain ⟨ps,es,hB,h⟩:=h
    obtain ⟨g1,g2⟩:=hs.gr (m:=m) hg
    simp only [mixB,Bool.and_eq_true,decide_eq_true_eq] at hB
    obtain ⟨hn,hsz,hB⟩:=hB
    refine Go.wp_mono (Q:=onlyN (R .normal)) (wp_region_any hτ.mixed ?_) (fun e a w h=>by cases e<;>first|exact h|exact h.elim)
    have key:=wpPs_ok (Q:=onlyN (R .normal)) hτ (K:=fun st'=>wpEs P τ N m ops es st' (Q .normal)) hn (fun c a w h=>h) (fun a' st' k1 k2=>?_) ps _ g1 hB h
    .rw [<-hsz] at key
     exact key
    exact wpEs_ok hτ (Q:=onlyN (R .normal)) es k1 hm (fun w' bs' A' a' st' h1 h2 h3=>hR .normal w' bs' A' a' st' h1 (g2.trans h2) h3) k2
   obtain ⟨hB,h⟩:=h
   obtain ⟨g1,g2⟩:=hs.gr (m:=m) hg
   have key:=wp_region_still_tail (P:=P) (id:=id) (Q:=R) (a:=a) (w:=w) (l:=ops.toList) n hτ.mixed (by simpa using hB)
    (wpS_ok hτ (K:=fun st'=>wpO P τ N m ops (ops.toList.drop n) st' (Q .normal)) (fun a' st' k1 k2=>by
     have:=wpO_ok hτ (Q:=R) (ops.toList.drop n) k1 hm (fun w' bs' A' a' st' h1 h2 h3=>hR .normal w' bs' A' a' st' h1 (g2.trans h2) h3) k2
     simpa using this) (ops.toList.take n) g1 (by simpa using h))
   simpa using key
 |.seq x y,Q,R,w,bs,A,a,st,hs,hm,hR,h=>
  wp_seq (wpC_ok hτ x hs hm (fun e w' bs' A' a' st' h1 h2 h3=>by
   cases e with
   |normal=>exact wpC_ok hτ y h1 (h2.len hm) (hR.trans h2) h3
   |exit i=>exact hR _ _ _ _ _ _ h1 h2 h3
   |goto l=>exact hR _ _ _ _ _ _ h1 h2 h3
   |ret=>exact hR _ _ _ _ _ _ h1 h2 h3
   |panic c=>exact hR _ _ _ _ _ _ h1 h2 h3
   |outgrown=>exact hR _ _ _ _ _ _ h1 h2 h3) h)
 |.cond c x y,Q,R,w,bs,A,a,st,hs,hm,hR,h=>by
  have hc:=evl_ok hs c
  unfold wpC at h
  split at h
  .rename_i sh b he
   rw [he] at hc
   cases b
   .exact wp_cond_false hc (wpC_ok hτ y hs hm hR h)
   .exact wp_cond_true hc (wpC_ok hτ x hs hm hR h)
  .exact h.elim
 |.block id c,Q,R,w,bs,A,a,st,hs,hm,hR,h=>
  wp_block (wpC_ok hτ c hs hm (fun e w' bs' A' a' st' h1 h2 h3=>by
   cases e with
   |normal=>exact hR _ _ _ _ _ _ h1 h2 h3
   |exit i=>
    simp only [blkK] at h3
    simp only [Exit.inBlock]
    split at h3
    .rename_i hb
     rw [if_pos (Nat.eq_of_beq_eq_true hb)]
     exact hR _ _ _ _ _ _ h1 h2 h3
    .rename_i hb
     rw [if_neg (fun e=>by subst e;simp at hb)]
     exact hR _ _ _ _ _ _ h1 h2 h3
   |goto l=>exact hR _ _ _ _ _ _ h1 h2 h3
   |ret=>exact hR _ _ _ _ _ _ h1 h2 h3
   |panic c=>exact hR _ _ _ _ _ _ h1 h2 h3
   |outgrown=>exact hR _ _ _ _ _ _ h1 h2 h3) h)
 |.loop c,Q,R,w,bs,A,a,st,hs,hm,hR,h=>by
  obtain ⟨ι,J,Inv,μ,i0,hi0,h0,hround⟩:=h
  obtain ⟨bs0,A0,g1,g2⟩:=hs.sub h0
  refine wp_loop_ghost (fun n a' w'=>∃i bs' A',μ i=n/\Inv i/\Sat w' bs' A' a' N (J i)/\Stp m w bs A w' bs' A') (μ i0) ⟨i0,bs0,A0,rfl,hi0,g1,g2⟩ ?_
  rintro n a' w' ⟨i,bs',A',rfl,hi,k1,k2⟩
  refine wpC_ok hτ c k1 (k2.len hm) (fun e w2 bs2 A2 a2 st2 h1 h2 h3=>?_) (hround i hi)
  cases e with
  |normal=>
   obtain ⟨j,hij,hj,hsub⟩:=h3
   obtain ⟨bs3,A3,p1,p2⟩:=h1.sub hsub
   exact ⟨μ j,hj,j,bs3,A3,rfl,hij,p1,(k2.trans h2).trans p2⟩
  |exit i=>exact hR _ _ _ _ _ _ h1 (k2.trans h2) h3
  |goto l=>exact hR _ _ _ _ _ _ h1 (k2.trans h2) h3
  |ret=>exact hR _ _ _ _ _ _ h1 (k2.trans h2) h3
  |panic c=>exact hR _ _ _ _ _ _ h1 (k2.trans h2) h3
  |outgrown=>exact hR _ _ _ _ _ _ h1 (k2.trans h2) h3
 |.exit id,Q,R,w,bs,A,a,st,hs,hm,hR,h=>wp_exit (hR _ _ _ _ _ _ hs (Stp.refl m w bs A) h)
 |.ret,Q,R,w,bs,A,a,st,hs,hm,hR,h=>wp_ret (hR _ _ _ _ _ _ hs (Stp.refl m w bs A) h)
 |.rangeFunc _ _ _ _,Q,R,w,bs,A,a,st,hs,hm,hR,h=>h.elim
 |.scope _,Q,R,w,bs,A,a,st,hs,hm,hR,h=>h.elim
 |.label _,Q,R,w,bs,A,a,st,hs,hm,hR,h=>h.elim
 |.goto _,Q,R,w,bs,A,a,st,hs,hm,hR,h=>h.elim
 |.refuse _,Q,R,w,bs,A,a,st,hs,hm,hR,h=>h.elim
end
def envOf:Nat->List AV->List (Nat × AV)
 |_,[]=>[]
 |i,x::l=>(i,x)::envOf (i+1) l
def resA (m:Nat) (ix:Option Nat):AV->AV->Prop
 |.x (.oz i),r=>match Nat.blt i m,ix with
  |true,_=>r=.x (.oz i)
  |false,some k=>k=i/\r=.x (.oz m)
  |false,none=>False
 |.x (.sb i lo hi),r=>match Nat.blt i m,ix with
  |true,_=>r=.x (.sb i lo hi)
  |false,some k=>k=i/\r=.x (.sb m lo hi)
  |false,none=>False
 |.x (.dz true xs),r=>r=.x (.dz true xs)
 |.x (.xd t xs),r=>r=.x (.xd t xs)
 |.x (.oa i),r=>match Nat.blt i m,ix with
  |true,_=>r=.x (.oa i)
  |false,some k=>k=i/\r=.x (.oa m)
  |false,none=>False
 |.x .emp,.d true (.sl _) xs=>xs=[]
 |.x .emp,r=>r=.x .emp
 |.nil,.x .emp=>True
 |.ow i,r=>match Nat.blt i m,ix with
  |true,_=>r=.ow i
  |false,some k=>k=i/\r=.ow m
  |false,none=>False
 |.ptr i j,r=>match Nat.blt i m,ix with
  |true,_=>r=.ptr i j
  |false,some k=>k=i/\r=.ptr m j
  |false,none=>False
 |.nil,.d true (.sl _) xs=>xs=[]
 |.nil,r=>r=.nil
 |.d true t x,r=>r=.d true t x
 |.d false t x,r=>t.flat=true/\r=.d true t x
 |.arr t xs,r=>r=.arr t xs
 |_,_=>False
def resL (m:Nat) (ix:Option Nat) (env:List (Nat × AV)):List Nat->List AV->Prop
 |[],[]=>True
 |t::l,r::l'=>resA m ix (look env t) r/\resL m ix env l l'
 |_,_=>False
def RetOK (m:Nat) (rs:List Nat) (res:List AV) (rows':List Row):Exit->St->Prop:=
 fun e st=>match e with
 |.goto _=>False
 |.exit _=>False
 |.panic _=>False
 |.outgrown=>False
 |_=>∃ix:Option Nat,resL m ix st.env rs res/\(match ix with
  |none=>st.rows.take m=rows'
  |some i=>Nat.ble m i=true/\st.rows.take m++[(st.rows[i]?).getD .dead]=rows')/\rows'.all rowPlain=true
theorem info_of {P:Program} {T:TypeId} {sz b:Nat} {z:Value} (h:(P.info? T).map (fun i=>(i.size,i.zero,i.bytes))=some (sz,some z,b)):∃i,P.info? T=some i/\i.size=sz/\i.zero=some z/\i.bytes=b:=by
 cases hi:P.info? T with
 |none=>rw [hi] at h;cases h
 |some i=>rw [hi] at h;simp at h;exact ⟨i,rfl,h.1,h.2.1,h.2.2⟩
theorem info2_of {P:Program} {T:TypeId} {sz:Nat} {z:Value} (h:(P.info? T).map (fun i=>(i.size,i.zero))=some (sz,some z)):∃i,P.info? T=some i/\i.size=sz/\i.zero=some z:=by
 cases hi:P.info? T with
 |none=>rw [hi] at h;cases h
 |some i=>rw [hi] at h;simp at h;exact ⟨i,rfl,h.1,h.2⟩
section
variable {P:Program} {τ:Nat->TI} {m N:Nat} {w w':World} {bs:List Nat} {A:Nat->Prop} {a:Act} {st:St}
theorem resA_ok {bs':List Nat} {rows':List Row} {ix:Option Nat} {x r:AV} {v:Value} (hx:V w bs A st.rows x v) (h:resA m ix x r) (h1:∀i,i<m->bs'[i]? =bs[i]?/\rows'[i]? =st.rows[i]?)
 (h2:∀i,ix=some i->bs'[m]? =bs[i]?/\rows'[m]? =st.rows[i]?):V w bs' A rows' r v:=by
 unfold resA at h
 split at h
 .rename_i i
  obtain ⟨b,e,xs,cur,g1,g2,g3,g4⟩:=hx
  split at h
  .rename_i hlt
   subst h
   have hlt':i<m:=Nat.le_of_ble_eq_true (show Nat.ble (i+1) m=true from hlt)
   obtain ⟨k1,k2⟩:=h1 i hlt'
   exact ⟨b,e,xs,cur,k1.trans g1,k2.trans g2,g3,g4⟩
  .obtain ⟨rfl,rfl⟩:=h
   obtain ⟨k1,k2⟩:=h2 _ rfl
   exact ⟨b,e,xs,cur,k1.trans g1,k2.trans g2,g3,g4⟩
  .exact h.elim
 .rename_i i lo hi
  obtain ⟨b,e,t,xs,cur,o,g1,g2,g3⟩:=hx
  split at h
  .rename_i hlt
   subst h
   have hlt':i<m:=Nat.le_of_ble_eq_true (show Nat.ble (i+1) m=true from hlt)
   obtain ⟨k1,k2⟩:=h1 i hlt'
   exact ⟨b,e,t,xs,cur,o,k1.trans g1,k2.trans g2,g3⟩
  .obtain ⟨rfl,rfl⟩:=h
   obtain ⟨k1,k2⟩:=h2 _ rfl
   exact ⟨b,e,t,xs,cur,o,k1.trans g1,k2.trans g2,g3⟩
  .exact h.elim
 .subst h;exact hx
 .subst h;exact hx
 .rename_i i
  obtain ⟨b,e,xs,cur,g1,g2,g3⟩:=hx
  split at h
  .rename_i hlt
   subst h
   have hlt':i<m:=Nat.le_of_ble_eq_true (show Nat.ble (i+1) m=true from hlt)
   obtain ⟨k1,k2⟩:=h1 i hlt'
   exact ⟨b,e,xs,cur,k1.trans g1,k2.trans g2,g3⟩
  .obtain ⟨rfl,rfl⟩:=h
   obtain ⟨k1,k2⟩:=h2 _ rfl
   exact ⟨b,e,xs,cur,k1.trans g1,k2.trans g2,g3⟩
  .exact h.elim
 .rename_i t xs
  subst h
  obtain ⟨ad,hx⟩:=hx
  exact ⟨ad,0,hx,Nat.le_refl _,fun _=>rfl,.inl rfl⟩
 .subst h;exact hx
 .exact ⟨none,hx⟩
 .rename_i i
  obtain ⟨b,e,t,xs,cur,g1,g2,g3,g4⟩:=hx
  split at h
  .rename_i hlt
   subst h
   have hlt':i<m:=Nat.le_of_ble_eq_true (show Nat.ble (i+1) m=true from hlt)
   obtain ⟨k1,k2⟩:=h1 i hlt'
   exact ⟨b,e,t,xs,cur,k1.trans g1,k2.trans g2,g3,g4⟩
  .obtain ⟨rfl,rfl⟩:=h
   obtain ⟨k1,k2⟩:=h2 _ rfl
   exact ⟨b,e,t,xs,cur,k1.trans g1,k2.trans g2,g3,g4⟩
  .exact h.elim
 .rename_i i j
  obtain ⟨b,r',g1,g2,g3,g4⟩:=hx
  split at h
  .rename_i hlt
   subst h
   have hlt':i<m:=Nat.le_of_ble_eq_true (show Nat.ble (i+1) m=true from hlt)
   obtain ⟨k1,k2⟩:=h1 i hlt'
   exact ⟨b,r',k1.trans g1,k2.trans g2,g3,g4⟩
  .obtain ⟨rfl,rfl⟩:=h
   obtain ⟨k1,k2⟩:=h2 _ rfl
   exact ⟨b,r',k1.trans g1,k2.trans g2,g3,g4⟩
  .exact h.elim
 .rename_i t xs
  subst h
  exact ⟨none,0,hx,Nat.le_refl _,fun _=>rfl,.inl rfl⟩
 .subst h;exact hx
 .subst h;exact hx
 .obtain ⟨hf,rfl⟩:=h;exact Rd.flat hf hx
 .subst h;exact hx
 .exact h.elim
theorem resL_ok {bs':List Nat} {rows':List Row} {ix:Option Nat} (hs:Sat w bs A a N st) (h1:∀i,i<m->bs'[i]? =bs[i]?/\rows'[i]? =st.rows[i]?)
 (h2:∀i,ix=some i->bs'[m]? =bs[i]?/\rows'[m]? =st.rows[i]?):∀{rs:List Nat} {res:List AV},resL m ix st.env rs res->Vs w bs' A rows' res (rs.map fun t=>a.tmps.getD t undef)
 |[],[],_=>rfl
 |t::_,_::_,h=>⟨_,_,rfl,resA_ok (hs.env t) h.1 h1 h2,resL_ok hs h1 h2 h.2⟩
 |[],_::_,h=>h.elim
 |_::_,[],h=>h.elim
def retV (tmps:Array Value):List Nat->Value
 |[t]=>tmps.getD t undef
 |l=>.tuple (l.map fun t=>tmps.getD t undef).toArray
theorem run_results (fn:Func) (rs:List Nat) (hr:fn.results=(rs.map ResultVar.tmp).toArray) (hl:rs.length<=4) (tmps:Array Value) (w:World):
 (results fn tmps).run P w=.ok (retV tmps rs) w:=by
 match rs,hr,hl with
 |[],hr,_=>simp [results,hr,retV]
 |[t],hr,_=>simp [results,hr,retV]
 |[t,u],hr,_=>simp [results,hr,retV]
 |[t,u,v],hr,_=>simp [results,hr,retV]
 |[t,u,v,x],hr,_=>simp [results,hr,retV]
 |_::_::_::_::_::_,_,hl=>simp at hl
theorem look_envOf:∀(l:List AV) (i t:Nat),look (envOf i l) t=if i<=t then (l[t-i]?).getD .any else .any
 |[],i,t=>by simp [envOf,look]
 |x::l,i,t=>by
  rw [envOf,look_cons]
  by_cases h:i=t
  .subst h;simp
  .rw [if_neg h,look_envOf l (i+1) t]
   by_cases h2:i<=t
   .rw [if_pos h2,if_pos (by omega)]
    rw [show t-i=(t-(i+1))+1 by omega]
    simp
   .rw [if_neg h2,if_neg (by omega)]
theorem Vs_len {rows:List Row}:∀{l:List AV} {vs:List Value},Vs w bs A rows l vs->vs.length=l.length
 |[],_,h=>by cases h;rfl
 |_::_,_,h=>by obtain ⟨v,r,rfl,_,h2⟩:=h;simp [Vs_len h2]
theorem AC_of (hτ:TyOk P τ) {f:FuncId} {fn:Func} {c:Code} {args res:List AV} {rows rows':List Row} (N m:Nat) (rs:List Nat) (hf:P.funcs[f]? =some fn) (hb:fn.body=some c) (hn:(fn.name== "runtime.NumGoroutine")=false) (hN:fn.ntmps=N)
 (hargs:Nat.ble args.length N=true) (hm:rows.length=m) (hres:fn.results=(rs.map ResultVar.tmp).toArray) (hl:Nat.ble rs.length 4=true)
 (h:wpC P τ N m c ⟨envOf 0 args,rows⟩ (RetOK m rs res rows')):AC P f args rows res rows':=by
 refine ⟨⟨fn,c,hf,hb,hn⟩,fun w bs A vs hrok hvs=>?_⟩
 have hargs':=Nat.le_of_ble_eq_true hargs
 have hvl:=Vs_len hvs
 refine calls_of_wp hf hb ?_
 have hs:Sat w bs A {tmps:=vs.toArray++Array.replicate (fn.ntmps-vs.toArray.size) undef,defers:=[]} N ⟨envOf 0 args,rows⟩:=by
  refine ⟨hrok.len,hrok.nodup,hrok.lt,hrok.old,hrok.row,fun t=>?_,by simp;omega,rfl⟩
  show V w bs A rows (look (envOf 0 args) t) _
  rw [look_envOf]
  simp only [Nat.zero_le,if_true,Nat.sub_zero]
  cases ht:args[t]? with
  |none=>trivial
  |some av=>
   obtain ⟨v,hv,hr⟩:=Vs_get hvs ht
   have:(vs.toArray++Array.replicate (fn.ntmps-vs.toArray.size) undef).getD t undef=v:=by
    have htl:=(List.getElem?_eq_some_iff.1 hv).1
    rw [Array.getD_eq_getD_getElem?,Array.getElem?_append_left (by simpa using htl)]
    simp [hv]
   simp only [this]
   exact hr
 refine wpC_ok hτ c hs (by rw [hrok.len,hm];exact Nat.le_refl _) (fun e w' bs' A' a' st' h1 h2 h3=>?_) h
 have key:(∃ix:Option Nat,resL m ix st'.env rs res/\(match ix with
  |none=>st'.rows.take m=rows'
  |some i=>Nat.ble m i=true/\st'.rows.take m++[(st'.rows[i]?).getD .dead]=rows')/\rows'.all rowPlain=true)->
   a'.defers=[]/\∃v,(results fn a'.tmps).run P w'=.ok v w'/\(fun (e:Ending) w'=>∃rv bs' A',e=.returned rv/\ROk w' bs' A' rows'/\VRes w' bs' A' rows' res rv/\Step w bs A w' bs' A'/\(∃new,bs'=bs++new)/\Stay w bs w'/\(∀b,A b->A' b)) (.returned v) w':=by
  rintro ⟨ix,g1,g2,g3⟩
  refine ⟨h1.dfs,_,run_results fn rs hres (Nat.le_of_ble_eq_true hl) a'.tmps w',?_⟩
  have hbl:bs.length=m:=by rw [hrok.len,hm]
  have htk:bs'.take m=bs:=by rw [h2.tk,<-hbl,List.take_length]
  have hml:m<=bs'.length:=h2.len (by omega)
  have hst:Stay w bs w':=by have:=h2.st;rwa [<-hbl,List.take_length] at this
  rw [List.all_eq_true] at g3
  have fin:∀(new:List Nat),(bs++new).length=rows'.length->(bs++new).Nodup->(∀b∈new,b∈bs'/\w.heap.size<=b)->(∀(i b:Nat) (r:Row),(bs++new)[i]? =some b->rows'[i]? =some r->∃j:Nat,bs'[j]? =some b/\st'.rows[j]? =some r)->
   (∀i:Nat,i<m->(bs++new)[i]? =bs'[i]?/\rows'[i]? =st'.rows[i]?)->(∀i:Nat,ix=some i->(bs++new)[m]? =bs'[i]?/\rows'[m]? =st'.rows[i]?)->
   ∃rv bs' A',Ending.returned (retV a'.tmps rs)=.returned rv/\ROk w' bs' A' rows'/\VRes w' bs' A' rows' res rv/\Step w bs A w' bs' A'/\(∃new,bs'=bs++new)/\Stay w bs w'/\(∀b,A b->A' b):=by
   intro new f1 f2 f3 f4 f5 f6
   refine ⟨_,bs++new,A',rfl,⟨f1,f2,fun b hb=>?_,h1.old,fun i b r hb hr=>?_⟩,?_,⟨h2.os,h2.tape,h2.output,h2.size,h2.block,fun b hb=>?_,h2.sA⟩,⟨new,rfl⟩,hst,h2.up⟩
   .simp only [List.mem_append] at hb
    rcases hb with hb|hb
    .have:=hrok.lt b hb;have:=h2.size;omega
    .exact h1.lt b (f3 b hb).1
   .obtain ⟨j,hj1,hj2⟩:=f4 i b r hb hr
    have hrow:=h1.row j b r hj1 hj2
    have hpl:=g3 r (List.mem_of_getElem? hr)
    exact rowPlain_keep hpl rfl (hrow.nA (rowPlain_nd hpl)) (fun b hb _=>⟨rfl,hb⟩) hrow
   .have hvs:=resL_ok h1 f5 f6 g1
    match rs,res,g1,hvs with
    |[],[],_,hvs=>exact ⟨_,rfl,hvs⟩
    |[t],[r],_,hvs=>obtain ⟨v,l,hv,h5,_⟩:=hvs;simp only [List.map_cons,List.map_nil] at hv;cases hv;exact h5
    |t::u::l,r::r2::l',_,hvs=>exact ⟨_,rfl,hvs⟩
    |[],_::_,g1,_=>exact g1.elim
    |_::_,[],g1,_=>exact g1.elim
    |[t],_::_::_,g1,_=>exact g1.2.elim
    |_::_::_,[_],g1,_=>exact g1.2.elim
   .simp only [List.mem_append] at hb
    rcases hb with hb|hb
    .exact .inl hb
    .exact .inr (f3 b hb).2
  have hrl:=h1.len
  cases ix with
  |none=>
   simp only at g2
   refine fin [] ?_ ?_ (fun b hb=>by simp at hb) ?_ ?_ (fun i hi=>by cases hi)
   .rw [<-g2];simp;omega
   .rw [List.append_nil];exact hrok.nodup
   .intro i b r hb hr
    rw [List.append_nil] at hb
    have hi:i<m:=by rw [<-hbl];exact (List.getElem?_eq_some_iff.1 hb).1
    refine ⟨i,?_,?_⟩
    .rw [<-htk,List.getElem?_take,if_pos hi] at hb;exact hb
    .rw [<-g2,List.getElem?_take,if_pos hi] at hr;exact hr
   .intro i hi
    rw [List.append_nil]
    exact ⟨by rw [<-htk,List.getElem?_take,if_pos hi],by rw [<-g2,List.getElem?_take,if_pos hi]⟩
  |some k=>
   simp only at g2
   obtain ⟨hmk,g2⟩:=g2
   have hmk':=Nat.le_of_ble_eq_true hmk
   have hk:k<st'.rows.length:=by
    apply Classical.byContradiction
    intro hn
    have:st'.rows[k]? =none:=by simp;omega
    rw [this] at g2
    have:=g3 .dead (by rw [<-g2];simp)
    simp [rowPlain] at this
   have hk2:k<bs'.length:=by omega
   have hdead:(st'.rows[k]?).getD .dead=st'.rows[k]:=by simp [hk]
   have hnb:bs'[k]∉bs:=by
    intro hm2
    rw [<-htk] at hm2
    obtain ⟨j,hj,hj2⟩:=List.getElem_of_mem hm2
    rw [List.getElem_take] at hj2
    have hj3:j<m:=by simp at hj;omega
    have:=(List.getElem_inj (h₀:=by omega) (h₁:=hk2) h1.nodup).1 hj2
    omega
   have hfresh:w.heap.size<=bs'[k]:=by
    rcases h2.sbs _ (List.getElem_mem hk2) with h5|h5
    .exact (hnb h5).elim
    .exact h5
   refine fin [bs'[k]] ?_ ?_ (fun b hb=>?_) ?_ ?_ (fun i hi=>?_)
   .rw [<-g2];simp;omega
   .rw [List.nodup_append]
    refine ⟨hrok.nodup,by simp,fun x hx y hy e=>?_⟩
    simp only [List.mem_singleton] at hy
    exact hnb (by rw [<-hy,<-e];exact hx)
   .simp only [List.mem_singleton] at hb
    subst hb
    exact ⟨List.getElem_mem hk2,hfresh⟩
   .intro i b r hb hr
    by_cases hi:i<m
    .refine ⟨i,?_,?_⟩
     .rw [List.getElem?_append_left (by omega),<-htk,List.getElem?_take,if_pos hi] at hb;exact hb
     .rw [<-g2,List.getElem?_append_left (by simp;omega),List.getElem?_take,if_pos hi] at hr;exact hr
    .have him:i=m:=by have:=(List.getElem?_eq_some_iff.1 hb).1;simp at this;omega
     subst him
     refine ⟨k,?_,?_⟩
     .rw [List.getElem?_append_right (by omega),hbl] at hb
      simp at hb
      rw [<-hb];simp
     .rw [<-g2,List.getElem?_append_right (by simp;omega)] at hr
      have hz:i-(List.take i st'.rows).length=0:=by simp;omega
      rw [hz,hdead] at hr
      simp at hr
      rw [<-hr];simp [hk]
   .intro i hi
    exact ⟨by rw [List.getElem?_append_left (by omega),<-htk,List.getElem?_take,if_pos hi],by rw [<-g2,List.getElem?_append_left (by simp;omega),List.getElem?_take,if_pos hi]⟩
   .cases hi
    refine ⟨?_,?_⟩
    .rw [List.getElem?_append_right (by omega),hbl];simp [hk2]
    .rw [<-g2,List.getElem?_append_right (by simp;omega)]
     have hz:m-(List.take m st'.rows).length=0:=by simp;omega
     rw [hz,hdead];simp [hk]
 cases e with
 |normal=>exact key h3
 |ret=>exact key h3
 |exit i=>exact h3.elim
 |goto l=>exact h3.elim
 |panic c=>exact h3.elim
 |outgrown=>exact h3.elim
def RetC (n t:Nat) (xs:List Int):Exit->St->Prop:=
 fun e st=>match e with
 |.goto _=>False
 |.exit _=>False
 |.panic _=>False
 |.outgrown=>False
 |_=>match look st.env t with
  |.ptr i 0=>(match st.rows[i]? with
   |some (.sl _ .int ys)=>List.length ys=n/\ys=xs
   |_=>False)
  |_=>False
theorem AC_ofC (hτ:TyOk P τ) {f:FuncId} {fn:Func} {c:Code} {args:List AV} {xs:List Int} {n e:Nat} (N t:Nat) (T:TypeId) (hT:τ T=.arr .int n e) (hf:P.funcs[f]? =some fn) (hb:fn.body=some c) (hn:(fn.name== "runtime.NumGoroutine")=false) (hN:fn.ntmps=N)
 (hargs:Nat.ble args.length N=true) (hres:fn.results= #[.cell t T])
 (h:wpC P τ N 0 c ⟨envOf 0 args,[]⟩ (RetC n t xs)):AC P f args [] [.arr .int xs] []:=by
 refine ⟨⟨fn,c,hf,hb,hn⟩,fun w bs A vs hrok hvs=>?_⟩
 have hbs:bs=[]:=List.eq_nil_of_length_eq_zero (by rw [hrok.len];rfl)
 subst hbs
 have hargs':=Nat.le_of_ble_eq_true hargs
 have hvl:=Vs_len hvs
 refine calls_of_wp hf hb ?_
 have hs:Sat w [] A {tmps:=vs.toArray++Array.replicate (fn.ntmps-vs.toArray.size) undef,defers:=[]} N ⟨envOf 0 args,[]⟩:=by
  refine ⟨hrok.len,hrok.nodup,hrok.lt,hrok.old,hrok.row,fun t=>?_,by simp;omega,rfl⟩
  show V w [] A [] (look (envOf 0 args) t) _
  rw [look_envOf]
  simp only [Nat.zero_le,if_true,Nat.sub_zero]
  cases ht:args[t]? with
  |none=>trivial
  |some av=>
   obtain ⟨v,hv,hr⟩:=Vs_get hvs ht
   have:(vs.toArray++Array.replicate (fn.ntmps-vs.toArray.size) undef).getD t undef=v:=by
    have htl:=(List.getElem?_eq_some_iff.1 hv).1
    rw [Array.getD_eq_getD_getElem?,Array.getElem?_append_left (by simpa using htl)]
    simp [hv]
   simp only [this]
   exact hr
 refine wpC_ok hτ c hs (Nat.zero_le _) (fun e w' bs' A' a' st' h1 h2 h3=>?_) h
 have key:(match look st'.env t with
  |.ptr i 0=>(match st'.rows[i]? with
   |some (.sl _ .int ys)=>List.length ys=n/\ys=xs
   |_=>False)
  |_=>False)->
   a'.defers=[]/\∃v,(results fn a'.tmps).run P w'=.ok v w'/\(fun (e:Ending) w'=>∃rv bs' A',e=.returned rv/\ROk w' bs' A' []/\VRes w' bs' A' [] [.arr .int xs] rv/\Step w [] A w' bs' A'/\(∃new,bs'=[]++new)/\Stay w [] w'/\(∀b,A b->A' b)) (.returned v) w':=by
  intro h4
  have hv:=h1.env t
  split at h4
  .rename_i i he
   rw [he] at hv
   split at h4
   .rename_i e' ys hr
    obtain ⟨hl,rfl⟩:=h4
    obtain ⟨v,av,g1,g2,g3⟩:=loadA_ok (k:=fun av=>av=.arr .int ys) hτ h1 hT hv (by simp only [loadA,hr];exact ⟨hl,trivial⟩)
    subst g3
    obtain ⟨b,r,q1,q2,q3,q4⟩:=hv
    refine ⟨h1.dfs,v,?_,v,[],A',rfl,⟨rfl,nd0,fun b hb=>by simp at hb,h1.old,fun i b r hb=>by simp at hb⟩,g2,⟨h2.os,h2.tape,h2.output,h2.size,h2.block,fun b hb=>by simp at hb,h2.sA⟩,⟨[],rfl⟩,fun b hb=>by simp at hb,h2.up⟩
    have g4:=g1 w' (Ext.refl w')
    rw [q4] at g4
    simp only [Instr.loadAt,Instr.sureAddr,Sem.run_bind,Sem.run_pure,Result.andThen_ok] at g4
    rw [Array.getD_eq_getD_getElem?] at q4
    simp [results,hres,q4,asAddr,g4]
   .exact h4.elim
  .exact h4.elim
 cases e with
 |normal=>exact key h3
 |ret=>exact key h3
 |exit i=>exact h3.elim
 |goto l=>exact h3.elim
 |panic c=>exact h3.elim
 |outgrown=>exact h3.elim
end
theorem w64_in (x:Int) (h1: -9223372036854775808<=x) (h2:x<=9223372036854775807):x=w64 x:=(IntWalk.i64_in x ⟨h1,h2⟩).symm
theorem w64_eq {x y:Int} (h:x=y) (h1: -9223372036854775808<=x) (h2:x<=9223372036854775807):x=w64 y:=by rw [<-h];exact w64_in x h1 h2
theorem retB {b c:Bool} (h:b=c):(AV.d true .bool b)=.d true .bool c:=by rw [h]
theorem retI {b c:Int} (h:b=c):(AV.d true .int b)=.d true .int c:=by rw [h]
theorem retS {b c:List UInt8} (h:b=c):(AV.d true .str b)=.d true .str c:=by rw [h]
theorem rowE {e:Nat} {t:Ty} {xs ys:List t.T} (h:xs=ys):Row.sl e t xs=.sl e t ys:=by rw [h]
theorem rowsE {e:Nat} {t:Ty} {xs ys:List t.T} (h:xs=ys):[Row.sl e t xs]=[.sl e t ys]:=by rw [h]
theorem all_of_getD {α:Type} {xs:List α} {p:α->Bool} {d:α} (h:∀j,j<xs.length->p (xs.getD j d)=true):xs.all p=true:=by
 rw [List.all_eq_true]
 intro x hx
 obtain ⟨j,hj,rfl⟩:=List.getElem_of_mem hx
 have:=h j hj
 rwa [getD_get _ _ _ hj] at this
theorem L_set_self {α:Type} (l:List α) (j:Nat) (x d:α) (h:j<l.length):(l.set j x).getD j d=x:=by simp [List.getD,h]
theorem L_set_ne {α:Type} (l:List α) (i j:Nat) (x d:α) (h:i≠j):(l.set i x).getD j d=l.getD j d:=by simp [List.getD,h]
theorem L_app_l {α:Type} (l r:List α) (j:Nat) (d:α) (h:j<l.length):(l++r).getD j d=l.getD j d:=by simp [List.getD,List.getElem?_append_left h]
theorem L_app_r {α:Type} (l r:List α) (j:Nat) (d:α) (h:l.length<=j):(l++r).getD j d=r.getD (j-l.length) d:=by simp [List.getD,List.getElem?_append_right h]
theorem L_drop {α:Type} (l:List α) (i j:Nat) (d:α):(l.drop i).getD j d=l.getD (i+j) d:=by simp [List.getD]
theorem L_take {α:Type} (l:List α) (i j:Nat) (d:α) (h:j<i):(l.take i).getD j d=l.getD j d:=by simp [List.getD,h]
theorem L_succ {α:Type} (l:List α) (k:Nat) (d:α) (h:k<l.length):l.take (k+1)=l.take k++[l.getD k d]:=by
 rw [List.take_add_one,List.getElem?_eq_getElem h,getD_get _ _ _ h];rfl
theorem ext_getD {α:Type} {l r:List α} (d:α) (hl:l.length=r.length) (h:∀j,j<l.length->l.getD j d=r.getD j d):l=r:=by
 apply List.ext_getElem hl
 intro j h1 h2
 have:=h j h1
 rwa [getD_get _ _ _ h1,getD_get _ _ _ h2] at this
theorem AC.law {P:Program} {f:FuncId} {args:List AV} (h:AC P f args [] [.d true .bool true] []) {w:World} {vs:List Value} (hv:Vs w [] (fun _=>False) [] args vs):
 Calls P f vs.toArray w fun e w'=>e=.returned (.bool true)/\Below w.heap.size w w':=by
 refine (h.2 w [] (fun _=>False) vs ⟨rfl,by simp,fun b hb=>by simp at hb,fun b hb=>hb.elim,fun i b r hb=>by simp at hb⟩ hv).mono ?_
 rintro e w' ⟨rv,bs',A',rfl,_,hres,hstep,_,_,_⟩
 have hr:rv=.bool true:=hres
 subst hr
 exact ⟨rfl,hstep.os,hstep.tape,hstep.output,hstep.size,fun k hk=>hstep.block k hk (by simp)⟩
theorem AC.flat {P:Program} {f:FuncId} {args:List AV} {r:AV} {v:Value} (hv:∀(w:World) (A:Nat->Prop),V w [] A [] r v) (hr:Runs P f)
 (h:∀(w:World) (A:Nat->Prop) (vs:List Value),(∀b,A b->b<w.heap.size)->Vs w [] A [] args vs->Calls P f vs.toArray w fun e w'=>e=.returned v/\Below w.heap.size w w'):AC P f args [] [r] []:=by
 refine ⟨hr,fun w bs A vs hok hvs=>?_⟩
 have hbs:bs=[]:=List.eq_nil_of_length_eq_zero (by rw [hok.len];rfl)
 subst hbs
 refine (h w A vs hok.old hvs).mono ?_
 rintro e w' ⟨rfl,hb⟩
 refine ⟨v,[],A,rfl,⟨rfl,nd0,fun b hb=>by simp at hb,fun b hA=>Nat.lt_of_lt_of_le (hok.old b hA) hb.size,fun i b r hi=>by simp at hi⟩,hv w' A,
  ⟨hb.os,hb.tape,hb.output,hb.size,fun k hk _=>hb.block k hk,fun b hb=>by simp at hb,fun b hA=>.inl hA⟩,⟨[],rfl⟩,fun b hb=>by simp at hb,fun b hA=>hA⟩
theorem AC.frzA {P:Program} {f:FuncId} {args:List AV} {e:TypeId} (xs:List (Int × Int × Int)) (h:AC P f args [] [.x (.oa 0)] [.sl e .mix (flat3 xs)]):AC P f args [] [.x (.xd .tr xs)] []:=by
 refine ⟨h.1,fun w bs A vs hr hv=>(h.2 w bs A vs hr hv).mono ?_⟩
 rintro ex w' ⟨rv,bs',A',rfl,hrok,hres,hstep,⟨new,rfl⟩,hstay,hup⟩
 have hbs:bs=[]:=List.eq_nil_of_length_eq_zero (by rw [hr.len];rfl)
 subst hbs
 obtain ⟨b,e2,xs2,cur,h1,h2,h3,h4,h5,h6⟩:=hres
 cases h2
 obtain ⟨hA,cur2,c1,c2,c3,c4⟩:=hrok.row 0 b _ h1 rfl
 rw [h3] at c1;cases c1
 have hb:=List.mem_of_getElem? h1
 have hnew:w.heap.size<=b:=by
  rcases hstep.sbs b hb with h|h
  .simp at h
  .exact h
 have hfl:=flat3_len xs
 refine ⟨rv,[],fun x=>A' x\/x=b,rfl,⟨rfl,nd0,fun b hb=>by simp at hb,fun x hx=>?_,fun i b r hb=>by simp at hb⟩,?_,⟨hstep.os,hstep.tape,hstep.output,hstep.size,fun k hk _=>hstep.block k hk (by simp),fun b hb=>by simp at hb,fun x hx=>?_⟩,⟨[],rfl⟩,fun b hb=>by simp at hb,fun x hx=>.inl (hup x hx)⟩
 .rcases hx with hx|hx
  .exact hrok.old x hx
  .rw [hx];exact hrok.lt b hb
 .refine ⟨some ⟨b,0,none⟩,cur.size / 3,by rw [h4,hfl,Nat.mul_div_cancel_left _ (by decide)],?_,.inr ⟨b,0,rfl,.inr rfl,hrok.lt b hb,fun j hj q hq=>?_⟩⟩
  .have c2:(flat3 xs).length<=cur.size:=c2
   show List.length xs<=cur.size / 3
   omega
  .have hj:j<List.length xs:=hj
   have hq:q<3:=hq
   obtain ⟨z,k1,k2⟩:=flat3_get xs j hj q hq
   obtain ⟨l1,l2⟩:=List.getElem?_eq_some_iff.1 k1
   obtain ⟨cv,k3,k4⟩:=c4 (3*j+q) l1
   show w'.cell? ⟨b,0+3*j+q,none⟩=some (XT.cell .tr xs[j] q)
   rw [k2,show 0+3*j+q=3*j+q by omega,cell_of_row w' b (3*j+q) cur _ (0,0) h3,k3]
   have k4:RdM w' A' (flat3 xs)[3*j+q] cv:=k4
   rw [l2] at k4
   rw [show cv=.int .i64 z from k4]
 .rcases hx with hx|hx
  .rcases hstep.sA x hx with h|h|h
   .exact .inl h
   .exact .inr (.inl h)
   .simp at h
  .exact .inr (.inl (by rw [hx];exact hnew))
theorem AC.frz1 {P:Program} {f:FuncId} {args:List AV} {e:TypeId} {t:Ty} {xs:List t.T} (h:AC P f args [] [.ow 0] [.sl e t xs]):AC P f args [] [.d true (.sl t) xs] []:=by
 refine ⟨h.1,fun w bs A vs hr hv=>(h.2 w bs A vs hr hv).mono ?_⟩
 rintro ex w' ⟨rv,bs',A',rfl,hrok,hres,hstep,⟨new,rfl⟩,hstay,hup⟩
 have hbs:bs=[]:=List.eq_nil_of_length_eq_zero (by rw [hr.len];rfl)
 subst hbs
 obtain ⟨b,e2,t2,xs2,cur,h1,h2,h3,h4⟩:=hres
 cases h2
 obtain ⟨hA,cur2,c1,c2,c3,c4⟩:=hrok.row 0 b _ h1 rfl
 rw [h3] at c1;cases c1
 have hb:=List.mem_of_getElem? h1
 have hnew:w.heap.size<=b:=by
  rcases hstep.sbs b hb with h|h
  .simp at h
  .exact h
 refine ⟨rv,[],fun x=>A' x\/x=b,rfl,⟨rfl,nd0,fun b hb=>by simp at hb,fun x hx=>?_,fun i b r hb=>by simp at hb⟩,?_,⟨hstep.os,hstep.tape,hstep.output,hstep.size,fun k hk _=>hstep.block k hk (by simp),fun b hb=>by simp at hb,fun x hx=>?_⟩,⟨[],rfl⟩,fun b hb=>by simp at hb,fun x hx=>.inl (hup x hx)⟩
 .rcases hx with hx|hx
  .exact hrok.old x hx
  .rw [hx];exact hrok.lt b hb
 .refine ⟨some ⟨b,0,none⟩,cur.size,h4,c2,(fun hh=>by simp at hh),.inr ⟨b,0,rfl,.inr rfl,fun j hj=>?_⟩⟩
  obtain ⟨cv,k1,k2⟩:=c4 j hj
  exact ⟨cv,by rw [Nat.zero_add,cell_of_row w' b j cur _ (0,0) h3];exact k1,Rd.ext (fun b hb _=>⟨rfl,.inl hb⟩) t _ _ k2⟩
 .rcases hx with hx|hx
  .rcases hstep.sA x hx with h|h|h
   .exact .inl h
   .exact .inr (.inl h)
   .simp at h
  .exact .inr (.inl (by rw [hx];exact hnew))
theorem AC.cut0 {P:Program} {f:FuncId} {args:List AV} {e:TypeId} {t:Ty} {xs:List t.T} {n:Nat} (h:AC P f args [] [.x (.sb 0 0 n)] [.sl e t xs]):AC P f args [] [.ow 0] [.sl e t (xs.take n)]:=by
 refine ⟨h.1,fun w bs A vs hr hv=>(h.2 w bs A vs hr hv).mono ?_⟩
 rintro ex w' ⟨rv,bs',A',rfl,hrok,hres,hstep,hnew,hstay,hup⟩
 obtain ⟨b,e2,t2',xs2,cur,o,h1,h2,h3,h4,h5,h6,h7⟩:=hres
 cases h2
 obtain ⟨hA,cur2,c1,c2,c3,c4⟩:=hrok.row 0 b _ h1 rfl
 rw [h3] at c1;cases c1
 have hl:(List.take n xs).length=n:=by rw [List.length_take];exact Nat.min_eq_left h5
 have ho:o=0:=by rcases h7 with h7|h7<;>omega
 subst ho
 refine ⟨rv,bs',A',rfl,⟨hrok.len,hrok.nodup,hrok.lt,hrok.old,fun i b' r hb hr'=>?_⟩,⟨b,_,_,_,cur,h1,rfl,h3,by rw [hl];exact h6⟩,hstep,hnew,hstay,hup⟩
 match i,hr' with
 |0,hr'=>
  simp at hr';subst hr'
  rw [h1] at hb;cases hb
  refine ⟨hA,cur,h3,by rw [hl];omega,c3,fun j hj=>?_,by rw [hl];exact c4.d.mono h5⟩
  rw [hl] at hj
  obtain ⟨cv,k1,k2⟩:=c4 j (by omega)
  refine ⟨cv,k1,?_⟩
  rw [List.getElem_take];exact k2
 |i+1,hr'=>simp at hr'
theorem AC.flat2 {P:Program} {f:FuncId} {args:List AV} {z1 z2:Int} (hr:Runs P f)
 (h:∀(w:World) (A:Nat->Prop) (vs:List Value),Vs w [] A [] args vs->Calls P f vs.toArray w fun e w'=>e=.returned (.tuple #[.int .u64 z1,.int .u64 z2])/\w'=w):AC P f args [] [.d true .u64 z1,.d true .u64 z2] []:=by
 refine ⟨hr,fun w bs A vs hok hvs=>?_⟩
 have hbs:bs=[]:=List.eq_nil_of_length_eq_zero (by rw [hok.len];rfl)
 subst hbs
 refine (h w A vs hvs).mono ?_
 rintro e w' ⟨rfl,rfl⟩
 exact ⟨_,[],A,rfl,hok,⟨[.int .u64 z1,.int .u64 z2],rfl,.int .u64 z1,_,rfl,rfl,.int .u64 z2,_,rfl,rfl,rfl⟩,Step.refl _ _ _,⟨[],rfl⟩,fun b hb=>by simp at hb,fun b hA=>hA⟩
theorem AC.weak {P:Program} {f:FuncId} {args args':List AV} {rows:List Row} {res:List AV} {rows':List Row} (h:AC P f args' rows res rows')
 (hw:∀(w:World) (bs:List Nat) (A:Nat->Prop) (vs:List Value),Vs w bs A rows args vs->Vs w bs A rows args' vs):AC P f args rows res rows':=
 ⟨h.1,fun w bs A vs hr hv=>h.2 w bs A vs hr (hw w bs A vs hv)⟩
theorem V_nil {w:World} {bs:List Nat} {A:Nat->Prop} {rows:List Row} {sh:Bool} {t:Ty} {v:Value} (h:V w bs A rows .nil v):V w bs A rows (.d sh (.sl t) []) v:=
 ⟨none,0,h,Nat.le_refl _,fun _=>rfl,.inl rfl⟩
end Go.Proofs.YtacjiemkbhhhoaaGreatDoor.Ow
