/-
  Part 5 of the texts that the claim rests on: PlR, PlQ, PlY, PlZ, Wgok, Wcex, Wmat, Wcl, Wxch, Worb, Wdrw, Wcls, ShelfK, Wst, Wftm.
  No condition beyond the given program.
-/
import Derived.Test.YtacjiemkbhhhoaaGreatDoorId
set_option linter.unusedVariables false
set_option linter.unusedSimpArgs false
namespace Go.Proofs.YtacjiemkbhhhoaaGreatDoor
open Go Go.Proofs.YtacjiemkbhhhoaaGreatDoor.Ow
def AscL (xss:List (List Int)):Prop:=xss.Pairwise fun x y=>cmpI x y<0
theorem asc_get {xss:List (List Int)} (h:AscL xss) {i j:Nat} (hij:i<j) (hj:j<xss.length):cmpI (xss.getD i []) (xss.getD j [])<0:=by
 rw [getD_get _ _ _ (by omega),getD_get _ _ _ hj]
 exact List.pairwise_iff_getElem.1 h i j (by omega) hj hij
theorem bsI_ok (xss:List (List Int)) (p:List Int) (h:AscL xss):∀f i j,i<=j->j<=xss.length->j-i<=f->(∀k,k<i->cmpI (xss.getD k []) p<0)->(∀k,j<=k->k<xss.length->¬cmpI (xss.getD k []) p<0)->
 (∀k,k<bsI xss p f i j->cmpI (xss.getD k []) p<0)/\(∀k,bsI xss p f i j<=k->k<xss.length->¬cmpI (xss.getD k []) p<0)
 |0,i,j,h1,h2,h3,h4,h5=>by
  obtain rfl:i=j:=by omega
  exact ⟨h4,h5⟩
 |f+1,i,j,h1,h2,h3,h4,h5=>by
  rw [bsI]
  split
  next hlt=>
   split
   next hc=>
    refine bsI_ok xss p h f _ _ (by omega) h2 (by omega) (fun k hk=>?_) h5
    rcases Nat.lt_or_eq_of_le (show k<=(i+j) / 2 by omega) with h6|h6
    .exact cmpI_trans _ _ _ (asc_get h h6 (by omega)) hc
    .rw [h6];exact hc
   next hc=>
    refine bsI_ok xss p h f _ _ (by omega) (by omega) (by omega) h4 fun k hk hl hc2=>?_
    rcases Nat.lt_or_eq_of_le hk with h6|h6
    .exact hc (cmpI_trans _ _ _ (asc_get h h6 hl) hc2)
    .rw [<-h6] at hc2;exact hc hc2
  next hlt=>
   obtain rfl:i=j:=by omega
   exact ⟨h4,h5⟩
theorem findI_mem {xss:List (List Int)} (h:AscL xss) (p:List Int):0<=findI xss p ↔ p∈xss:=by
 obtain ⟨h1,h2⟩:=bsI_ok xss p h xss.length 0 xss.length (Nat.zero_le _) (Nat.le_refl _) (by omega) (fun k hk=>by omega) (fun k hk hl=>by omega)
 change (∀k,k<bsN xss p->_) at h1
 change (∀k,bsN xss p<=k->_) at h2
 unfold findI
 constructor
 .intro h3
  split at h3
  next h4=>rw [<-h4.2,getD_get _ _ _ h4.1];exact List.getElem_mem _
  next=>omega
 .intro hm
  obtain ⟨k,hk,rfl⟩:=List.getElem_of_mem hm
  have hb:bsN xss xss[k]=k:=by
   rcases Nat.lt_trichotomy (bsN xss xss[k]) k with h3|h3|h3
   .have h4:=h2 (bsN xss xss[k]) (Nat.le_refl _) (by omega)
    have h5:=asc_get h h3 hk
    rw [getD_get _ _ _ hk] at h5
    exact (h4 h5).elim
   .exact h3
   .have h4:=h1 k h3
    rw [getD_get _ _ _ hk,cmpI_refl] at h4
    omega
  rw [if_pos ⟨by rw [hb];exact hk,by rw [hb,getD_get _ _ _ hk]⟩]
  omega
theorem putN_ok (xss:List (List Int)) (p:List Int):∀f k,k<=xss.length->xss.length<k+f->(∀i,i<k->cmpI (xss.getD i []) p<0)->
 putN xss p f k<=xss.length/\(∀i,i<putN xss p f k->cmpI (xss.getD i []) p<0)/\(putN xss p f k<xss.length->¬cmpI (xss.getD (putN xss p f k) []) p<0)
 |0,k,h1,h2,h3=>by omega
 |f+1,k,h1,h2,h3=>by
  rw [putN]
  split
  next h4=>
   refine putN_ok xss p f (k+1) (by omega) (by omega) fun i hi=>?_
   rcases Nat.lt_or_eq_of_le (show i<=k by omega) with h5|h5
   .exact h3 i h5
   .rw [h5];exact h4.2
  next h4=>exact ⟨h1,h3,fun h5 h6=>h4 ⟨h5,h6⟩⟩
theorem putS_asc {xss:List (List Int)} (h:AscL xss) (hl:xss.length<200) {p:List Int} (hp:p∉xss):AscL (putS xss p):=by
 obtain ⟨h1,h2,h3⟩:=putN_ok xss p 200 0 (Nat.zero_le _) (by omega) (fun i hi=>by omega)
 have hlt:∀x∈xss.take (putN xss p 200 0),cmpI x p<0:=fun x hx=>by
  obtain ⟨i,hi,rfl⟩:=List.getElem_of_mem hx
  have hi2:i<putN xss p 200 0:=by rw [List.length_take] at hi;omega
  have:=h2 i hi2
  rw [getD_get _ _ _ (by omega)] at this
  rwa [List.getElem_take]
 have hge:∀x∈xss.drop (putN xss p 200 0),cmpI p x<0:=fun x hx=>by
  obtain ⟨i,hi,rfl⟩:=List.getElem_of_mem hx
  have hi2:putN xss p 200 0+i<xss.length:=by rw [List.length_drop] at hi;omega
  rw [List.getElem_drop]
  have h4:=h3 (by omega)
  rw [getD_get _ _ _ (by omega)] at h4
  have h5:xss[putN xss p 200 0]'(by omega)≠p:=fun e=>hp (by rw [<-e];exact List.getElem_mem _)
  have h6:=cmpI_neg (xss[putN xss p 200 0]'(by omega)) p
  have h7:cmpI p (xss[putN xss p 200 0]'(by omega))<0:=by
   have:cmpI (xss[putN xss p 200 0]'(by omega)) p≠0:=fun e=>h5 (cmpI_eq _ _ e)
   omega
  rcases Nat.eq_zero_or_pos i with rfl|hi0
  .exact h7
  .exact cmpI_trans _ _ _ h7 (List.pairwise_iff_getElem.1 h _ _ (by omega) hi2 (by omega))
 unfold AscL putS
 rw [List.append_assoc,List.pairwise_append,List.singleton_append,List.pairwise_cons]
 refine ⟨h.sublist (List.take_sublist _ _),⟨fun x hx=>hge x hx,h.sublist (List.drop_sublist _ _)⟩,fun a ha b hb=>?_⟩
 rcases List.mem_cons.1 hb with rfl|hb
 .exact hlt a ha
 .exact cmpI_trans _ _ _ (hlt a ha) (hge b hb)
theorem putS_perm (xss:List (List Int)) (p:List Int):(putS xss p).Perm (p::xss):=by
 unfold putS
 rw [List.append_assoc,List.singleton_append]
 refine List.perm_middle.trans ?_
 rw [List.take_append_drop]
def PnP (n:Nat) (x:List Int):Prop:=PermP x/\x.length=n
theorem perm_ex {n:Nat} {x y:List Int} (hx:PnP n x) (hy:PnP n y):PnP n (exL x y):=by
 obtain ⟨hx1,hx2⟩:=hx
 obtain ⟨hy1,hy2⟩:=hy
 have hl:=exL_len x y
 refine ⟨⟨by rw [hl];exact hx1.1,fun i hi=>?_⟩,by rw [hl];exact hx2⟩
 rw [hl] at hi
 have h1:=(hx1.2 i hi)
 rw [exL_at _ _ _ hi]
 have h2:=(hy1.2 (x.getD i 0).toNat (by omega)).1
 refine ⟨by omega,fun j hj e=>?_⟩
 rw [exL_at _ _ _ (by omega)] at e
 have h3:=(hx1.2 j (by omega)).1
 have h4:=perm_inj hy1 (i:=(x.getD j 0).toNat) (j:=(x.getD i 0).toNat) (by omega) (by omega) (by rw [e])
 exact h1.2 j hj (by omega)
theorem ex_assoc {n:Nat} {x y z:List Int} (hx:PnP n x) (hy:PnP n y):exL x (exL y z)=exL (exL x y) z:=by
 refine ext_getD 0 (by rw [exL_len,exL_len,exL_len]) fun i hi=>?_
 rw [exL_len] at hi
 have h1:=(hx.1.2 i hi).1
 rw [exL_at _ _ _ hi,exL_at y z _ (by have:=hx.2;have:=hy.2;omega),exL_at (exL x y) z _ (by rw [exL_len];exact hi),exL_at x y _ hi]
theorem id_perm {n:Nat} (h1:1<=n) (h2:n<=10):PnP n (idL n):=by
 have hl:(idL n).length=n:=by simp [idL]
 refine ⟨⟨by omega,fun i hi=>?_⟩,hl⟩
 rw [idL_at n i (by omega)]
 refine ⟨by omega,fun j hj=>?_⟩
 rw [idL_at n j (by omega)]
 omega
theorem ex_id {n:Nat} {x:List Int} (hx:PnP n x):exL x (idL n)=x:=by
 refine ext_getD 0 (exL_len _ _) fun i hi=>?_
 rw [exL_len] at hi
 have h1:=(hx.1.2 i hi).1
 rw [exL_at _ _ _ hi,idL_at _ _ (by have:=hx.2;omega)]
 omega
inductive Wd (n:Nat) (gens:List (List Int)):List Int->Prop
 |one:Wd n gens (idL n)
 |mul {x s:List Int}:Wd n gens x->s∈gens->Wd n gens (exL x s)
def GenQ (n:Nat) (gens:List (List Int)):Prop:=∀s∈gens,PnP n s
theorem wd_perm {n:Nat} {gens:List (List Int)} (h1:1<=n) (h2:n<=10) (hg:GenQ n gens) {x:List Int} (h:Wd n gens x):PnP n x:=by
 induction h with
 |one=>exact id_perm h1 h2
 |mul _ hs ih=>exact perm_ex ih (hg _ hs)
structure BfP (n:Nat) (gens out q:List (List Int)):Prop where
 l:out.length<=120
 p:out.Perm q
 a:AscL out
 w:∀x∈q,Wd n gens x
 id:idL n∈q
theorem bf_len {n:Nat} {gens out q:List (List Int)} (h:BfP n gens out q):q.length=out.length:=h.p.length_eq.symm
theorem okP_of {n:Nat} {x:List Int} (h:PnP n x):okP n x=true:=by
 unfold okP
 simp only [Bool.and_eq_true,decide_eq_true_eq,List.all_eq_true]
 refine ⟨h.2,fun a ha=>?_⟩
 obtain ⟨i,hi,rfl⟩:=List.getElem_of_mem ha
 have:=(h.1.2 i hi).1
 rw [getD_get _ _ _ hi] at this
 have:=h.2
 omega
theorem innS_step {n a:Nat} {gens out q gs:List (List Int)} {s:List Int} (h1:1<=n) (h2:n<=10) (hg:GenQ n gens) (h:BfP n gens out q) (ha:a<q.length):
 innS n a (s::gs) out q=if exL (q.getD a []) s∈q then innS n a gs out q else if out.length=120 then none else innS n a gs (putS out (exL (q.getD a []) s)) (q++[exL (q.getD a []) s]):=by
 have hl:=bf_len h
 have hq:Wd n gens (q.getD a []):=by rw [getD_get _ _ _ ha];exact h.w _ (List.getElem_mem ha)
 rw [innS,if_pos]
 .by_cases hm:exL (q.getD a []) s∈q
  .rw [if_pos hm,if_pos ((findI_mem h.a _).2 (h.p.mem_iff.2 hm))]
  .rw [if_neg hm,if_neg (fun h3=>hm (h.p.mem_iff.1 ((findI_mem h.a _).1 h3)))]
 .refine ⟨⟨h.l,by have:=h.l;omega,ha⟩,okP_of (wd_perm h1 h2 hg hq),?_⟩
  rw [List.all_eq_true]
  intro x hx
  exact decide_eq_true (wd_perm h1 h2 hg (h.w x (h.p.mem_iff.1 hx))).2
theorem bf_add {n a:Nat} {gens out q:List (List Int)} {s:List Int} (h:BfP n gens out q) (ha:a<q.length) (hs:s∈gens) (hm:exL (q.getD a []) s∉q) (h120:out.length≠120):
 BfP n gens (putS out (exL (q.getD a []) s)) (q++[exL (q.getD a []) s]):=by
 have hq:Wd n gens (q.getD a []):=by rw [getD_get _ _ _ ha];exact h.w _ (List.getElem_mem ha)
 have hl:=h.l
 refine ⟨?_,?_,?_,fun x hx=>?_,List.mem_append_left _ h.id⟩
 .rw [(putS_perm _ _).length_eq,List.length_cons];omega
 .refine (putS_perm _ _).trans (List.Perm.trans ?_ (List.perm_append_comm (l₁:=[exL (q.getD a []) s]) (l₂:=q)))
  exact (h.p.cons _)
 .exact putS_asc h.a (by omega) (fun h3=>hm (h.p.mem_iff.1 h3))
 .rcases List.mem_append.1 hx with hx|hx
  .exact h.w x hx
  .rw [List.mem_singleton.1 hx];exact .mul hq hs
theorem innS_ok {n a:Nat} {gens:List (List Int)} (h1:1<=n) (h2:n<=10) (hg:GenQ n gens):∀(gs out q:List (List Int)) (o),(∀s∈gs,s∈gens)->BfP n gens out q->a<q.length->innS n a gs out q=some o->
 BfP n gens o.1 o.2/\(∃r,o.2=q++r)/\∀s∈gs,exL (q.getD a []) s∈o.2
 |[],out,q,o,_,h,ha,ho=>by
  rw [innS] at ho
  cases ho
  exact ⟨h,⟨[],by simp⟩,fun s hs=>by simp at hs⟩
 |s::gs,out,q,o,hgs,h,ha,ho=>by
  rw [innS_step h1 h2 hg h ha] at ho
  have hs:=hgs s (List.mem_cons_self ..)
  split at ho
  next hm=>
   obtain ⟨g1,⟨r,g2⟩,g3⟩:=innS_ok h1 h2 hg gs out q o (fun x hx=>hgs x (List.mem_cons_of_mem _ hx)) h ha ho
   refine ⟨g1,⟨r,g2⟩,fun x hx=>?_⟩
   rcases List.mem_cons.1 hx with rfl|hx
   .rw [g2];exact List.mem_append_left _ hm
   .exact g3 x hx
  next hm=>
   split at ho
   .cases ho
   next h120=>
    have hb:=bf_add h ha hs hm h120
    have e:(q++[exL (q.getD a []) s]).getD a []=q.getD a []:=by
     rw [List.getD_eq_getElem?_getD,List.getElem?_append_left ha,List.getD_eq_getElem?_getD]
    obtain ⟨g1,⟨r,g2⟩,g3⟩:=innS_ok h1 h2 hg gs _ _ o (fun x hx=>hgs x (List.mem_cons_of_mem _ hx)) hb (by rw [List.length_append];omega) ho
    rw [e] at g3
    refine ⟨g1,⟨_,by rw [g2,List.append_assoc]⟩,fun x hx=>?_⟩
    rcases List.mem_cons.1 hx with rfl|hx
    .rw [g2];exact List.mem_append_left _ (List.mem_append_right _ (List.mem_singleton.2 rfl))
    .exact g3 x hx
theorem bfsS_ok {n:Nat} {gens:List (List Int)} (h1:1<=n) (h2:n<=10) (hg:GenQ n gens):∀(f a:Nat) (out q R:List (List Int)),BfP n gens out q->(∀i,i<a->i<q.length->∀s∈gens,exL (q.getD i []) s∈q)->bfsS n gens f a out q=some R->
 ∃q',BfP n gens R q'/\∀i,i<q'.length->∀s∈gens,exL (q'.getD i []) s∈q'
 |0,a,out,q,R,h,hc,hR=>by cases hR
 |f+1,a,out,q,R,h,hc,hR=>by
  rw [bfsS] at hR
  split at hR
  next ha=>
   cases ho:innS n a gens out q with
   |none=>rw [ho] at hR;cases hR
   |some o=>
    rw [ho] at hR
    obtain ⟨g1,⟨r,g2⟩,g3⟩:=innS_ok h1 h2 hg gens out q o (fun _ hx=>hx) h ha ho
    refine bfsS_ok h1 h2 hg f (a+1) o.1 o.2 R g1 (fun i hi hl s hs=>?_) hR
    have e:∀i,i<q.length->o.2.getD i []=q.getD i []:=fun i hi=>by
     rw [g2,List.getD_eq_getElem?_getD,List.getElem?_append_left hi,List.getD_eq_getElem?_getD]
    rcases Nat.lt_or_eq_of_le (show i<=a by omega) with h3|h3
    .rw [e i (by omega),g2];exact List.mem_append_left _ (hc i h3 (by omega) s hs)
    .rw [h3,e a ha];exact g3 s hs
  next ha=>
   cases hR
   exact ⟨q,h,fun i hi s hs=>hc i (by omega) hi s hs⟩
theorem bf_start {n:Nat} (gens:List (List Int)):BfP n gens [idL n] [idL n]:=
 ⟨(by decide:1<=120),List.Perm.refl _,List.pairwise_singleton _ _,fun x hx=>by rw [List.mem_singleton.1 hx];exact .one,List.mem_singleton.2 rfl⟩
theorem bfs_closed {n:Nat} {gens R:List (List Int)} (h1:1<=n) (h2:n<=10) (hg:GenQ n gens) (hR:bfsS n gens 200 0 [idL n] [idL n]=some R):
 AscL R/\R.length<=120/\idL n∈R/\(∀x∈R,PnP n x)/\∀x∈R,∀y∈R,exL x y∈R:=by
 obtain ⟨q,h,hc⟩:=bfsS_ok h1 h2 hg 200 0 _ _ R (bf_start gens) (fun i hi=>by omega) hR
 have hm:∀x,x∈R ↔ x∈q:=fun x=>h.p.mem_iff
 refine ⟨h.a,h.l,(hm _).2 h.id,fun x hx=>wd_perm h1 h2 hg (h.w x ((hm x).1 hx)),fun x hx y hy=>?_⟩
 have hstep:∀x∈q,∀s∈gens,exL x s∈q:=fun x hx s hs=>by
  obtain ⟨i,hi,rfl⟩:=List.getElem_of_mem hx
  have:=hc i hi s hs
  rwa [getD_get _ _ _ hi] at this
 have hxq:=(hm x).1 hx
 have hpx:=wd_perm h1 h2 hg (h.w x hxq)
 have key:∀y,Wd n gens y->exL x y∈q:=fun y hw=>by
  induction hw with
  |one=>rw [ex_id hpx];exact hxq
  |mul hw hs ih=>rw [ex_assoc hpx (wd_perm h1 h2 hg hw)];exact hstep _ ih _ hs
 exact (hm _).2 (key y (h.w y ((hm y).1 hy)))
theorem asc_nodup {xss:List (List Int)} (h:AscL xss):xss.Nodup:=by
 rw [List.nodup_iff_pairwise_ne]
 refine h.imp fun {a b} h e=>?_
 rw [e,cmpI_refl] at h
 omega
def incT (out c:List Int):List Int:=out.set (c.length-1) (out.getD (c.length-1) 0+1)
def typS (p:List Int):Nat->List Int
 |0=>List.replicate p.length 0
 |k+1=>incT (typS p k) ((cycL p).getD k [])
def typL (p:List Int):List Int:=typS p (cycL p).length
theorem typS_len (p:List Int):∀k,(typS p k).length=p.length
 |0=>by simp [typS]
 |k+1=>by rw [typS,incT,List.length_set,typS_len p k]
theorem typL_len (p:List Int):(typL p).length=p.length:=typS_len p _
theorem typS_b (p:List Int):∀k i,0<=(typS p k).getD i 0/\(typS p k).getD i 0<=(k:Int)
 |0,i=>by
  rw [typS,List.getD_eq_getElem?_getD,List.getElem?_replicate]
  split<;>simp
 |k+1,i=>by
  have h:=typS_b p k
  have h1:=h i
  have h2:=h (((cycL p).getD k []).length-1)
  rw [typS,incT,List.getD_eq_getElem?_getD,List.getElem?_set]
  split
  .split
   .simp only [Option.getD_some];omega
   .simp only [Option.getD_none];omega
  .rw [<-List.getD_eq_getElem?_getD];omega
def posT (l:List Tm) (t:List Int):Nat:=l.findIdx fun x=>decide (x.1=t)
def incA (l:List Tm) (i:Nat):List Tm:=l.set i ((l.getD i ([],0)).1,(l.getD i ([],0)).2+1)
def addU (l:List Tm) (t:List Int):List Tm:=if posT l t<l.length then incA l (posT l t) else l++[(t,1)]
def uS (g:List (List Int)):Nat->List Tm
 |0=>[]
 |k+1=>addU (uS g k) (typL (g.getD k []))
def lowT (l:List Tm) (t:List Int):Nat:=l.findIdx fun x=> !decide (cmpI x.1 t<0)
def addS (l:List Tm) (t:List Int):List Tm:=if lowT l t<l.length/\(l.getD (lowT l t) ([],0)).1=t then incA l (lowT l t) else l.take (lowT l t)++[(t,1)]++l.drop (lowT l t)
def sS (g:List (List Int)):Nat->List Tm
 |0=>[]
 |k+1=>addS (sS g k) (typL (g.getD k []))
def cixL (g:List (List Int)):List Tm:=sS g g.length
def bump (t:List Int) (l:List Tm):List Tm:=l.map fun x=>if x.1=t then (x.1,x.2+1) else x
def UpT (l:List Tm):Prop:=l.Pairwise fun x y=>cmpI x.1 y.1<0
def NoD (l:List Tm):Prop:=(l.map fun x=>x.1).Nodup
theorem up_nod {l:List Tm} (h:UpT l):NoD l:=by
 unfold NoD
 rw [List.nodup_iff_pairwise_ne,List.pairwise_map]
 refine h.imp fun {a b} h e=>?_
 rw [e,cmpI_refl] at h
 omega
theorem incA_bump {l:List Tm} {t:List Int} {i:Nat} (hn:NoD l) (hi:i<l.length) (ht:(l.getD i ([],0)).1=t):incA l i=bump t l:=by
 unfold incA bump
 rw [getD_get _ _ _ hi] at ht ⊢
 apply List.ext_getElem
 .simp
 intro j h1 h2
 have hj:j<l.length:=by simpa using h2
 rw [List.getElem_set,List.getElem_map]
 by_cases e:i=j
 .subst e
  rw [if_pos rfl,if_pos ht]
 .rw [if_neg e,if_neg]
  intro h
  have h3:(l.map fun x=>x.1)[i]'(by simpa using hi)=(l.map fun x=>x.1)[j]'(by simpa using hj):=by simp only [List.getElem_map];rw [ht,h]
  unfold NoD at hn
  rw [List.nodup_iff_pairwise_ne,List.pairwise_iff_getElem] at hn
  rcases Nat.lt_or_gt_of_ne e with h4|h4
  .exact hn i j _ _ h4 h3
  .exact hn j i _ _ h4 h3.symm
theorem bump_types (t:List Int) (l:List Tm):(bump t l).map (fun x=>x.1)=l.map fun x=>x.1:=by
 unfold bump
 rw [List.map_map]
 refine List.map_congr_left fun x _=>?_
 show (if x.1=t then (x.1,x.2+1) else x).1=x.1
 split<;>rfl
theorem posT_no {l:List Tm} {t:List Int}:¬posT l t<l.length ↔ ∀x∈l,x.1≠t:=by
 unfold posT
 rw [List.findIdx_lt_length]
 constructor
 .intro h x hx e
  exact h ⟨x,hx,decide_eq_true e⟩
 .rintro h ⟨x,hx,e⟩
  exact h x hx (of_decide_eq_true e)
theorem posT_at {l:List Tm} {t:List Int} (h:posT l t<l.length):(l.getD (posT l t) ([],0)).1=t:=by
 rw [getD_get _ _ _ h]
 have:=List.findIdx_getElem (xs:=l) (p:=fun x:Tm=>decide (x.1=t)) (w:=h)
 exact of_decide_eq_true this
theorem lowT_ge {l:List Tm} {t:List Int} (h:lowT l t<l.length):¬cmpI (l.getD (lowT l t) ([],0)).1 t<0:=by
 rw [getD_get _ _ _ h]
 have:=List.findIdx_getElem (xs:=l) (p:=fun x:Tm=> !decide (cmpI x.1 t<0)) (w:=h)
 intro h2
 rw [decide_eq_true (show cmpI (l[List.findIdx (fun x:Tm=> !decide (cmpI x.1 t<0)) l]'h).1 t<0 from h2)] at this
 cases this
theorem lowT_lt {l:List Tm} {t:List Int} {i:Nat} (h:i<lowT l t):cmpI (l.getD i ([],0)).1 t<0:=by
 have hl:i<l.length:=Nat.lt_of_lt_of_le h List.findIdx_le_length
 rw [getD_get _ _ _ hl]
 have:=List.not_of_lt_findIdx (xs:=l) (p:=fun x:Tm=> !decide (cmpI x.1 t<0)) h
 simpa using this
theorem lowT_le (l:List Tm) (t:List Int):lowT l t<=l.length:=List.findIdx_le_length
theorem low_pos {l:List Tm} {t:List Int} (hu:UpT l):(lowT l t<l.length/\(l.getD (lowT l t) ([],0)).1=t) ↔ posT l t<l.length:=by
 constructor
 .intro ⟨h1,h2⟩
  refine Decidable.byContradiction fun h3=>?_
  rw [getD_get _ _ _ h1] at h2
  exact posT_no.1 h3 _ (List.getElem_mem h1) h2
 .intro h
  have h1:=posT_at h
  have hk:¬posT l t<lowT l t:=fun h2=>by
   have:=lowT_lt h2
   rw [h1,cmpI_refl] at this
   omega
  have h3:lowT l t<l.length:=by omega
  refine ⟨h3,?_⟩
  have h4:=lowT_ge h3
  rcases Nat.lt_or_eq_of_le (Nat.not_lt.1 hk) with h5|h5
  .have h6:=List.pairwise_iff_getElem.1 hu (lowT l t) (posT l t) h3 h h5
   rw [getD_get _ _ _ h3] at h4
   rw [getD_get _ _ _ h] at h1
   rw [h1] at h6
   exact (h4 h6).elim
  .rw [h5];exact h1
theorem bump_up {l:List Tm} (t:List Int) (hu:UpT l):UpT (bump t l):=by
 have h:((bump t l).map fun x=>x.1).Pairwise fun x y=>cmpI x y<0:=by
  rw [bump_types,List.pairwise_map];exact hu
 rw [List.pairwise_map] at h
 exact h
theorem addS_up {l:List Tm} (t:List Int) (hu:UpT l):UpT (addS l t):=by
 unfold addS
 split
 next h=>rw [incA_bump (up_nod hu) h.1 h.2];exact bump_up t hu
 next h=>
  have hlt:∀x∈l.take (lowT l t),cmpI x.1 t<0:=fun x hx=>by
   obtain ⟨i,hi,rfl⟩:=List.getElem_of_mem hx
   have hi2:i<lowT l t:=by rw [List.length_take] at hi;omega
   have:=lowT_lt hi2
   rw [getD_get _ _ _ (by have:=lowT_le l t;omega)] at this
   rwa [List.getElem_take]
  have hge:∀x∈l.drop (lowT l t),cmpI t x.1<0:=fun x hx=>by
   obtain ⟨i,hi,rfl⟩:=List.getElem_of_mem hx
   have hi2:lowT l t+i<l.length:=by rw [List.length_drop] at hi;omega
   rw [List.getElem_drop]
   have h3:lowT l t<l.length:=by omega
   have h4:=lowT_ge h3
   have h5:(l.getD (lowT l t) ([],0)).1≠t:=fun e=>h ⟨h3,e⟩
   have h6:=cmpI_neg (l.getD (lowT l t) ([],0)).1 t
   have h7:cmpI t (l.getD (lowT l t) ([],0)).1<0:=by
    have:cmpI (l.getD (lowT l t) ([],0)).1 t≠0:=fun e=>h5 (cmpI_eq _ _ e)
    omega
   rw [getD_get _ _ _ h3] at h7
   rcases Nat.eq_zero_or_pos i with rfl|hp
   .exact h7
   .exact cmpI_trans _ _ _ h7 (List.pairwise_iff_getElem.1 hu _ _ h3 hi2 (by omega))
  unfold UpT
  rw [List.append_assoc,List.pairwise_append,List.singleton_append,List.pairwise_cons]
  refine ⟨hu.sublist (List.take_sublist _ _),⟨fun x hx=>hge x hx,hu.sublist (List.drop_sublist _ _)⟩,fun a ha b hb=>?_⟩
  rcases List.mem_cons.1 hb with rfl|hb
  .exact hlt a ha
  .exact cmpI_trans _ _ _ (hlt a ha) (hge b hb)
theorem sS_up (g:List (List Int)):∀k,UpT (sS g k)
 |0=>List.Pairwise.nil
 |k+1=>addS_up _ (sS_up g k)
theorem add_perm {u s:List Tm} (t:List Int) (hu:UpT s) (hp:s.Perm u):(addS s t).Perm (addU u t):=by
 have hnu:NoD u:=(hp.map fun x:Tm=>x.1).nodup_iff.1 (up_nod hu)
 have hiff:posT s t<s.length ↔ posT u t<u.length:=by
  rw [<-Decidable.not_iff_not,posT_no,posT_no]
  exact ⟨fun h x hx=>h x (hp.mem_iff.2 hx),fun h x hx=>h x (hp.mem_iff.1 hx)⟩
 unfold addS addU
 by_cases h:posT u t<u.length
 .have h1:=(low_pos hu).2 (hiff.2 h)
  rw [if_pos h1,if_pos h,incA_bump (up_nod hu) h1.1 h1.2,incA_bump hnu h (posT_at h)]
  exact hp.map _
 .rw [if_neg (fun h1=>h (hiff.1 ((low_pos hu).1 h1))),if_neg h]
  have e:s.Perm (s.take (lowT s t)++s.drop (lowT s t)):=by rw [List.take_append_drop]
  refine List.Perm.trans ?_ ((List.perm_append_comm (l₁:=[(t,1)]) (l₂:=u)))
  rw [List.append_assoc,List.singleton_append]
  refine List.perm_middle.trans ?_
  exact (e.symm.trans hp).cons _
theorem s_perm (g:List (List Int)):∀k,(sS g k).Perm (uS g k)
 |0=>.nil
 |k+1=>add_perm _ (sS_up g k) (s_perm g k)
structure TmsP (n k:Nat) (l:List Tm):Prop where
 n1:l.length<=k
 t:∀x:Tm,x∈l->x.1.length=n/\∀i,0<=x.1.getD i 0/\x.1.getD i 0<=10
 c:∀x:Tm,x∈l->0<=x.2/\x.2<=(k:Int)
theorem tms_set {n k:Nat} {l:List Tm} (h:TmsP n k l) (i:Nat) (hi:i<l.length):TmsP n (k+1) (incA l i):=by
 unfold incA
 rw [getD_get _ _ _ hi]
 refine ⟨by rw [List.length_set];have:=h.n1;omega,fun x hx=>?_,fun x hx=>?_⟩
 .rcases List.mem_or_eq_of_mem_set hx with hx|rfl
  .exact h.t x hx
  .exact h.t l[i] (List.getElem_mem hi)
 .rcases List.mem_or_eq_of_mem_set hx with hx|rfl
  .have:=h.c x hx;omega
  .have:=h.c l[i] (List.getElem_mem hi)
   dsimp only;omega
theorem tms_ins {n k:Nat} {l l':List Tm} {t:List Int} (h:TmsP n k l) (ht:t.length=n/\∀i,0<=t.getD i 0/\t.getD i 0<=10) (hp:l'.Perm (l++[(t,1)])):TmsP n (k+1) l':=by
 refine ⟨by rw [hp.length_eq,List.length_append,List.length_singleton];have:=h.n1;omega,fun x hx=>?_,fun x hx=>?_⟩
 .rcases List.mem_append.1 (hp.mem_iff.1 hx) with hx|hx
  .exact h.t x hx
  .obtain rfl:=List.mem_singleton.1 hx;exact ht
 .rcases List.mem_append.1 (hp.mem_iff.1 hx) with hx|hx
  .have:=h.c x hx;omega
  .obtain rfl:=List.mem_singleton.1 hx
   dsimp only;omega
theorem tms_u {n:Nat} (g:List (List Int)) (hg:∀i,i<g.length->(typL (g.getD i [])).length=n/\∀j,0<=(typL (g.getD i [])).getD j 0/\(typL (g.getD i [])).getD j 0<=10):∀k,k<=g.length->TmsP n k (uS g k)
 |0,_=>⟨Nat.le_refl _,fun x hx=>by simp [uS] at hx,fun x hx=>by simp [uS] at hx⟩
 |k+1,hk=>by
  have h:=tms_u g hg k (by omega)
  rw [uS,addU]
  split
  next h1=>exact tms_set h _ h1
  next h1=>exact tms_ins h (hg k (by omega)) (List.Perm.refl _)
theorem tms_perm {n k:Nat} {l l':List Tm} (h:TmsP n k l) (hp:l'.Perm l):TmsP n k l':=
 ⟨by rw [hp.length_eq];exact h.n1,fun x hx=>h.t x (hp.mem_iff.1 hx),fun x hx=>h.c x (hp.mem_iff.1 hx)⟩
theorem jn_app (xs:List (List UInt8)) (y sep:List UInt8):∀k,k<=xs.length->jn (xs++[y]) sep k=jn xs sep k
 |0,_=>rfl
 |1,h=>by
  match xs,h with
  |x::r,_=>rfl
 |k+2,h=>by
  rw [jn_s _ _ (k+1) (by omega),jn_s xs _ (k+1) (by omega),jn_app xs y sep (k+1) (by omega)]
  congr 1
  rw [List.getD_eq_getElem?_getD,List.getD_eq_getElem?_getD,List.getElem?_append_left (by omega)]
theorem join_snoc (xs:List (List UInt8)) (y sep:List UInt8) (h:xs≠[]):Lib.join (xs++[y]) sep=Lib.join xs sep++sep++y:=by
 have h0:=List.length_pos_iff.2 h
 rw [<-jn_join,List.length_append,List.length_singleton,jn_s _ _ _ h0,jn_app _ _ _ _ (Nat.le_refl _),jn_join]
 congr 1
 rw [List.getD_eq_getElem?_getD,List.getElem?_append_right (Nat.le_refl _)]
 simp
theorem join_one (y sep:List UInt8):Lib.join [y] sep=y:=by
 rw [<-jn_join];rfl
def partT (i:Nat) (n:Int):List UInt8:=115::fmtI ((i:Int)+1)++(if n=1 then [] else 94::fmtI n)
def parT (t:List Int):Nat->List (List UInt8)
 |0=>[]
 |k+1=>if t.getD k 0=0 then parT t k else parT t k++[partT k (t.getD k 0)]
def jnT (c:List UInt8) (ps:List (List UInt8)):List UInt8:=if ps=[] then c else c++[42]++Lib.join ps [32]
def fmtT (x:Tm):List UInt8:=jnT (fmtI x.2) (parT x.1 x.1.length)
theorem jnT_snoc (c p:List UInt8) (ps:List (List UInt8)):jnT c (ps++[p])=if jnT c ps=c then c++[42]++p else jnT c ps++[32]++p:=by
 unfold jnT
 rw [if_neg (by simp)]
 by_cases h:ps=[]
 .subst h
  rw [if_pos rfl,if_pos rfl,List.nil_append,join_one]
 .rw [if_neg h,if_neg (by intro e;have:=congrArg List.length e;simp at this),join_snoc _ _ _ h]
  simp
structure TmOk (x:Tm):Prop where
 n1:x.1.length<=10
 t:∀i,0<=x.1.getD i 0/\x.1.getD i 0<=10
 c:0<=x.2/\x.2<=120
theorem parT_le (t:List Int):∀k,(parT t k).length<=k
 |0=>Nat.le_refl _
 |k+1=>by
  have:=parT_le t k
  rw [parT];split
  .omega
  .rw [List.length_append,List.length_singleton];omega
structure GrL (n:Nat) (g:List (List Int)):Prop where
 n1:1<=n
 n2:n<=10
 a:AscL g
 id:idL n∈g
 el:∀x∈g,PnP n x
 cl:∀x∈g,∀y∈g,exL x y∈g
theorem perm_of_inj {α:Type} [DecidableEq α] {l:List α} (h:l.Nodup) (f:α->α) (hf:∀x∈l,f x∈l) (hi:∀x∈l,∀y∈l,f x=f y->x=y):(l.map f).Perm l:=by
 have hn:=nd_map f l h hi
 refine (List.perm_ext_iff_of_nodup hn h).2 fun y=>⟨fun hy=>?_,fun hy=>?_⟩
 .obtain ⟨x,hx,rfl⟩:=List.mem_map.1 hy;exact hf x hx
 .refine Decidable.byContradiction fun hno=>?_
  have h1:=nd_le (l.map f) (l.erase y) hn fun z hz=>by
   obtain ⟨x,hx,rfl⟩:=List.mem_map.1 hz
   exact (List.mem_erase_of_ne (fun e=>hno (by rw [<-e];exact List.mem_map_of_mem hx))).2 (hf x hx)
  rw [List.length_map,List.length_erase_of_mem hy] at h1
  have:=List.length_pos_of_mem hy
  omega
theorem ex_left_inj {n:Nat} {p x y:List Int} (hp:PnP n p) (hx:PnP n x) (hy:PnP n y) (e:exL p x=exL p y):x=y:=by
 refine ext_getD 0 (by rw [hx.2,hy.2]) fun j hj=>?_
 rw [hx.2] at hj
 obtain ⟨i,hi,e1⟩:=perm_surj hp.1 (j:=j) (by rw [hp.2];exact hj)
 have h1:=exL_at p x i hi
 have h2:=exL_at p y i hi
 rw [e1] at h1 h2
 rw [<-h1,<-h2,e]
theorem idLlen (k:Nat):(idL k).length=k:=by simp [idL]
theorem col_of {n k:Nat} {w:List Int} (h1:1<=n) (h2:n<=10) (h4:k<=4) (hw:w∈wordsL k n):ColP w:=by
 obtain ⟨h3,h5⟩:=words_b hw
 exact ⟨fun i hi=>by have:=h5 i hi;omega,by omega,by omega⟩
section
variable {n k:Nat} {g:List (List Int)}
def expL (g:List (List Int)) (k n:Nat):List (List Int):=(wordsL k n).filter fun w=>decide (cexL g w=w)
end
def gok1 (g:List (List Int)) (i:Nat):Bool:=permB (g.getD i []) && (decide ((g.getD i []).length=(g.getD 0 []).length) && (decide (i=0)||decide (cmpI (g.getD (i-1) []) (g.getD i [])<0)))
def gok2 (g:List (List Int)) (i j:Nat):Bool:=decide (0<=findI g (exL (g.getD i []) (g.getD j [])))
def gokB (g:List (List Int)):Bool:=(decide (1<=g.length) && decide (g.length<=120)) && ((List.range g.length).all (gok1 g) && (List.range g.length).all fun i=>(List.range g.length).all (gok2 g i))
structure GrpP (g:List (List Int)):Prop where
 l1:1<=g.length
 l2:g.length<=120
 o1:∀i,i<g.length->gok1 g i=true
 o2:∀i,i<g.length->∀j,j<g.length->gok2 g i j=true
theorem gokB_iff (g:List (List Int)):gokB g=true ↔ GrpP g:=by
 unfold gokB
 simp only [Bool.and_eq_true,decide_eq_true_eq,List.all_eq_true,List.mem_range]
 exact ⟨fun ⟨⟨a,b⟩,c,d⟩=>⟨a,b,c,d⟩,fun ⟨a,b,c,d⟩=>⟨⟨a,b⟩,c,d⟩⟩
theorem gokB_no {g:List (List Int)} (h:¬GrpP g):gokB g=false:=by
 cases hb:gokB g
 .rfl
 .exact (h ((gokB_iff g).1 hb)).elim
theorem gok1_p {g:List (List Int)} {i:Nat} (h:gok1 g i=true):PermP (g.getD i [])/\(g.getD i []).length=(g.getD 0 []).length/\(i=0\/cmpI (g.getD (i-1) []) (g.getD i [])<0):=by
 unfold gok1 at h
 simp only [Bool.and_eq_true,Bool.or_eq_true,decide_eq_true_eq] at h
 exact ⟨(permB_iff _).1 h.1,h.2.1,h.2.2⟩
theorem gok1_of {g:List (List Int)} {i:Nat} (h1:permB (g.getD i [])=true) (h2:(g.getD i []).length=(g.getD 0 []).length) (h3:i=0\/cmpI (g.getD (i-1) []) (g.getD i [])<0):gok1 g i=true:=by
 unfold gok1
 simp only [Bool.and_eq_true,Bool.or_eq_true,decide_eq_true_eq]
 exact ⟨h1,h2,h3⟩
theorem gok_ext {g:List (List Int)} {k:Nat} (h:∀j,j<k->gok1 g j=true) (h2:gok1 g k=true):∀j,j<k+1->gok1 g j=true:=fun j hj=>by
 by_cases e:j=k
 .subst e;exact h2
 .exact h j (by omega)
theorem ext1 {p:Nat->Prop} {k:Nat} (h:∀j,j<k->p j) (h2:p k):∀j,j<k+1->p j:=fun j hj=>by
 by_cases e:j=k
 .subst e;exact h2
 .exact h j (by omega)
theorem gok_mul {g:List (List Int)} (h:∀i,i<g.length->gok1 g i=true) {a b:Nat} (ha:a<g.length) (hb:b<g.length):
 (g.getD a []).length<=10/\(∀i,i<(g.getD a []).length->0<=(g.getD a []).getD i 0/\(g.getD a []).getD i 0<((g.getD b []).length:Int))/\
 ∀i,i<g.length->(g.getD i []).length=(exL (g.getD a []) (g.getD b [])).length:=by
 have h1:=gok1_p (h a ha)
 have h2:=gok1_p (h b hb)
 refine ⟨h1.1.1.2,fun i hi=>?_,fun i hi=>?_⟩
 .have:=(h1.1.2 i hi).1
  omega
 .have h3:=gok1_p (h i hi)
  rw [exL_len];omega
theorem spec_GroupOk (sh:Bool) (g:List (List Int)) (hl:g.length<=1048576) (hx:∀i,i<g.length->(g.getD i []).length<=1048576):AC Tryz.prog 198 [.d sh (.sl (.sl .int)) g] [] [.d true .bool (gokB g)] []:=by
 refine AC_of tauOk 67 0 [2] Tryz.func198 rfl (by kernel_rfl) rfl rfl rfl rfl rfl ?_
 refine ⟨[],false,_,_,spec_l01In _ _ _,nd0,rfl,rfl,trivial,fun h1=>?_,fun h1=>?_⟩
 .simp only [Bool.and_eq_true,decide_eq_true_eq] at h1
  refine ⟨Nat,fun k=>⟨[(0,.d sh (.sl (.sl .int)) g),(13,.d sh (.sl (.sl .int)) g),(14,I g.length),(15,I (k:Nat))],[]⟩,fun k=>k<=g.length/\∀j,j<k->gok1 g j=true,fun k=>g.length-k,0,⟨Nat.zero_le _,fun j hj=>by omega⟩,
   ⟨⟨rfl,rfl⟩,⟨rfl,rfl,rfl,rfl,trivial⟩,trivial⟩,fun k ⟨hk,hy⟩=>?_⟩
  refine ⟨fun h2=>?_,fun h2=>?_⟩
  .have hk2:k<g.length:=by omega
   refine ⟨k,rfl,hk2,[],false,_,_,spec_PermOk sh (g.getD k []) (hx k hk2),nd0,rfl,rfl,trivial,fun h3=>?_,fun h3=>?_⟩
   .refine ⟨0,rfl,by omega,fun h4=>?_,fun h4=>?_⟩
    .exact ⟨none,⟨retB (gokB_no fun h=>h4 (by have:=(gok1_p (h.o1 k hk2)).2.1;omega)),trivial⟩,rfl,rfl⟩
    .have h4:(g.getD k []).length=(g.getD 0 []).length:=by omega
     refine ⟨fun h5=>?_,fun h5=>?_⟩
     .have hk1:k-1<g.length:=by omega
      have hlt:(g.getD (k-1) []).length=(g.getD 0 []).length:=(gok1_p (hy (k-1) (by omega))).2.1
      refine ⟨((k-1:Nat):Int),w64_eq (by omega) (by omega) (by omega),k-1,rfl,hk1,[],false,_,_,spec_l03Less sh sh (g.getD (k-1) []) (g.getD k []) (hx _ hk1) (by omega),nd0,rfl,rfl,trivial,fun h6=>?_,fun h6=>?_⟩
      .exact ⟨((k+1:Nat):Int),w64_eq (by omega) (by omega) (by omega),k+1,⟨by omega,gok_ext hy (gok1_of h3 h4 (.inr (of_decide_eq_true h6)))⟩,by dsimp only;omega,⟨rfl,rfl⟩,⟨rfl,rfl,rfl,rfl,trivial⟩,trivial⟩
      .exact ⟨none,⟨retB (gokB_no fun h=>by
        rcases (gok1_p (h.o1 k hk2)).2.2 with e|e
        .omega
        .exact of_decide_eq_false h6 e),trivial⟩,rfl,rfl⟩
     .exact ⟨((k+1:Nat):Int),w64_eq (by omega) (by omega) (by omega),k+1,⟨by omega,gok_ext hy (gok1_of h3 h4 (.inl (by omega)))⟩,by dsimp only;omega,⟨rfl,rfl⟩,⟨rfl,rfl,rfl,rfl,trivial⟩,trivial⟩
   .exact ⟨none,⟨retB (gokB_no fun h=>by have:=(gok1_p (h.o1 k hk2)).1;rw [(permB_iff _).2 this] at h3;cases h3),trivial⟩,rfl,rfl⟩
  .obtain rfl:k=g.length:=by omega
   clear h2
   refine ⟨Nat,fun a=>⟨[(0,.d sh (.sl (.sl .int)) g),(47,.d sh (.sl (.sl .int)) g),(48,I g.length),(49,I (a:Nat))],[]⟩,fun a=>a<=g.length/\∀i,i<a->∀j,j<g.length->gok2 g i j=true,fun a=>g.length-a,0,⟨Nat.zero_le _,fun j hj=>by omega⟩,
    ⟨⟨rfl,rfl⟩,⟨rfl,rfl,rfl,rfl,trivial⟩,trivial⟩,fun a ⟨ha,hz⟩=>?_⟩
   refine ⟨fun h2=>?_,fun h2=>?_⟩
   .have ha2:a<g.length:=by omega
    refine ⟨a,rfl,ha2,?_⟩
    refine ⟨Nat,fun b=>⟨[(0,.d sh (.sl (.sl .int)) g),(47,.d sh (.sl (.sl .int)) g),(48,I g.length),(49,I (a:Nat)),(6,.d sh (.sl .int) (g.getD a [])),(53,.d sh (.sl (.sl .int)) g),(54,I g.length),(55,I (b:Nat))],[]⟩,fun b=>b<=g.length/\∀j,j<b->gok2 g a j=true,fun b=>g.length-b,0,⟨Nat.zero_le _,fun j hj=>by omega⟩,
     ⟨⟨rfl,rfl⟩,⟨rfl,rfl,rfl,rfl,rfl,rfl,rfl,rfl,trivial⟩,trivial⟩,fun b ⟨hb,hw⟩=>?_⟩
    refine ⟨fun h3=>?_,fun h3=>?_⟩
    .have hb2:b<g.length:=by omega
     have hm:=gok_mul hy ha2 hb2
     have hel:=exL_len (g.getD a []) (g.getD b [])
     refine ⟨b,rfl,hb2,?_⟩
     refine ⟨[],true,_,_,spec_l02Compose sh sh (g.getD a []) (g.getD b []) (by omega) hm.2.1,nd0,rfl,rfl,trivial,?_⟩
     refine ⟨[],false,_,_,spec_l03Find sh true g (exL (g.getD a []) (g.getD b [])) hl (by omega) hm.2.2,nd0,rfl,rfl,trivial,fun h4=>?_,fun h4=>?_⟩
     .exact ⟨none,⟨retB (gokB_no fun h=>by have:=of_decide_eq_true (h.o2 a ha2 b hb2);omega),trivial⟩,rfl,rfl⟩
     .exact ⟨((b+1:Nat):Int),w64_eq (by omega) (by omega) (by omega),b+1,⟨by omega,ext1 hw (decide_eq_true (by omega))⟩,by dsimp only;omega,⟨rfl,rfl⟩,⟨rfl,rfl,rfl,rfl,rfl,rfl,rfl,rfl,trivial⟩,trivial⟩
    .obtain rfl:b=g.length:=by omega
     exact ⟨((a+1:Nat):Int),w64_eq (by omega) (by omega) (by omega),a+1,⟨by omega,ext1 hz hw⟩,by dsimp only;omega,⟨rfl,rfl⟩,⟨rfl,rfl,rfl,rfl,trivial⟩,trivial⟩
   .obtain rfl:a=g.length:=by omega
    exact ⟨none,⟨retB ((gokB_iff g).2 ⟨by omega,by omega,hy,hz⟩),trivial⟩,rfl,rfl⟩
 .simp only [Bool.and_eq_false_iff,decide_eq_false_iff_not] at h1
  exact ⟨none,⟨retB (gokB_no fun h=>by have:=h.l1;have:=h.l2;omega),trivial⟩,rfl,rfl⟩
theorem impl_GroupOk (sh:Bool) (g:List (List Int)) (hl:g.length<=1048576) (hx:∀i,i<g.length->(g.getD i []).length<=1048576):AC Tryz.prog 152 [.d sh (.sl (.sl .int)) g] [] [.d true .bool (gokB g)] []:=by
 refine AC_of tauOk 71 0 [2] Tryz.func152 rfl (by kernel_rfl) rfl rfl rfl rfl rfl ?_
 refine ⟨fun h1=>?_,fun h1=>?_⟩
 .exact ⟨none,⟨retB (gokB_no fun h=>by have:=h.l1;omega),trivial⟩,rfl,rfl⟩
 refine ⟨fun h0=>?_,fun h0=>?_⟩
 .exact ⟨none,⟨retB (gokB_no fun h=>by have:=h.l2;omega),trivial⟩,rfl,rfl⟩
 refine ⟨Nat,fun k=>⟨[(0,.d sh (.sl (.sl .int)) g),(17,.d sh (.sl (.sl .int)) g),(18,I g.length),(19,I (k:Nat))],[]⟩,fun k=>k<=g.length/\∀j,j<k->gok1 g j=true,fun k=>g.length-k,0,⟨Nat.zero_le _,fun j hj=>by omega⟩,
  ⟨⟨rfl,rfl⟩,⟨rfl,rfl,rfl,rfl,trivial⟩,trivial⟩,fun k ⟨hk,hy⟩=>?_⟩
 refine ⟨fun h2=>?_,fun h2=>?_⟩
 .have hk2:k<g.length:=by omega
  refine ⟨k,rfl,hk2,[],false,_,_,impl_PermOk sh (g.getD k []) (hx k hk2),nd0,rfl,rfl,trivial,fun h3=>?_,fun h3=>?_⟩
  .refine ⟨0,rfl,by omega,fun h4=>?_,fun h4=>?_⟩
   .exact ⟨none,⟨retB (gokB_no fun h=>h4 (by have:=(gok1_p (h.o1 k hk2)).2.1;omega)),trivial⟩,rfl,rfl⟩
   .have h4:(g.getD k []).length=(g.getD 0 []).length:=by omega
    refine ⟨fun h5=>?_,fun h5=>?_⟩
    .have hk1:k-1<g.length:=by omega
     refine ⟨((k-1:Nat):Int),w64_eq (by omega) (by omega) (by omega),k-1,rfl,hk1,[],false,_,_,slices_Compare_int sh sh (g.getD (k-1) []) (g.getD k []) (hx _ hk1) (hx _ hk2),nd0,rfl,rfl,trivial,fun h6=>?_,fun h6=>?_⟩
     .exact ⟨none,⟨retB (gokB_no fun h=>by
       rcases (gok1_p (h.o1 k hk2)).2.2 with e|e
       .omega
       .omega),trivial⟩,rfl,rfl⟩
     .exact ⟨((k+1:Nat):Int),w64_eq (by omega) (by omega) (by omega),k+1,⟨by omega,gok_ext hy (gok1_of h3 h4 (.inr (by omega)))⟩,by dsimp only;omega,⟨rfl,rfl⟩,⟨rfl,rfl,rfl,rfl,trivial⟩,trivial⟩
    .exact ⟨((k+1:Nat):Int),w64_eq (by omega) (by omega) (by omega),k+1,⟨by omega,gok_ext hy (gok1_of h3 h4 (.inl (by omega)))⟩,by dsimp only;omega,⟨rfl,rfl⟩,⟨rfl,rfl,rfl,rfl,trivial⟩,trivial⟩
  .exact ⟨none,⟨retB (gokB_no fun h=>by have:=(gok1_p (h.o1 k hk2)).1;rw [(permB_iff _).2 this] at h3;cases h3),trivial⟩,rfl,rfl⟩
 .obtain rfl:k=g.length:=by omega
  clear h2
  refine ⟨Nat,fun a=>⟨[(0,.d sh (.sl (.sl .int)) g),(51,.d sh (.sl (.sl .int)) g),(52,I g.length),(53,I (a:Nat))],[]⟩,fun a=>a<=g.length/\∀i,i<a->∀j,j<g.length->gok2 g i j=true,fun a=>g.length-a,0,⟨Nat.zero_le _,fun j hj=>by omega⟩,
   ⟨⟨rfl,rfl⟩,⟨rfl,rfl,rfl,rfl,trivial⟩,trivial⟩,fun a ⟨ha,hz⟩=>?_⟩
  refine ⟨fun h2=>?_,fun h2=>?_⟩
  .have ha2:a<g.length:=by omega
   refine ⟨a,rfl,ha2,?_⟩
   refine ⟨Nat,fun b=>⟨[(0,.d sh (.sl (.sl .int)) g),(51,.d sh (.sl (.sl .int)) g),(52,I g.length),(53,I (a:Nat)),(6,.d sh (.sl .int) (g.getD a [])),(57,.d sh (.sl (.sl .int)) g),(58,I g.length),(59,I (b:Nat))],[]⟩,fun b=>b<=g.length/\∀j,j<b->gok2 g a j=true,fun b=>g.length-b,0,⟨Nat.zero_le _,fun j hj=>by omega⟩,
    ⟨⟨rfl,rfl⟩,⟨rfl,rfl,rfl,rfl,rfl,rfl,rfl,rfl,trivial⟩,trivial⟩,fun b ⟨hb,hw⟩=>?_⟩
   refine ⟨fun h3=>?_,fun h3=>?_⟩
   .have hb2:b<g.length:=by omega
    have hm:=gok_mul hy ha2 hb2
    have hel:=exL_len (g.getD a []) (g.getD b [])
    refine ⟨b,rfl,hb2,?_⟩
    refine ⟨[],true,_,_,impl_compose sh sh (g.getD a []) (g.getD b []) (by omega) hm.2.1,nd0,rfl,rfl,trivial,?_⟩
    refine ⟨[],false,_,_,impl_indexOf sh true g (exL (g.getD a []) (g.getD b [])) hl hx (by omega),nd0,rfl,rfl,trivial,fun h4=>?_,fun h4=>?_⟩
    .exact ⟨none,⟨retB (gokB_no fun h=>by have:=of_decide_eq_true (h.o2 a ha2 b hb2);omega),trivial⟩,rfl,rfl⟩
    .exact ⟨((b+1:Nat):Int),w64_eq (by omega) (by omega) (by omega),b+1,⟨by omega,ext1 hw (decide_eq_true (by omega))⟩,by dsimp only;omega,⟨rfl,rfl⟩,⟨rfl,rfl,rfl,rfl,rfl,rfl,rfl,rfl,trivial⟩,trivial⟩
   .obtain rfl:b=g.length:=by omega
    exact ⟨((a+1:Nat):Int),w64_eq (by omega) (by omega) (by omega),a+1,⟨by omega,ext1 hz hw⟩,by dsimp only;omega,⟨rfl,rfl⟩,⟨rfl,rfl,rfl,rfl,trivial⟩,trivial⟩
  .obtain rfl:a=g.length:=by omega
   exact ⟨none,⟨retB ((gokB_iff g).2 ⟨by omega,by omega,hy,hz⟩),trivial⟩,rfl,rfl⟩
theorem spec_PowerPerm (sh:Bool) (h:List Int) (c:Nat) (hP:PermP h) (hc:c<=1000):AC Tryz.prog 337 [.d sh (.sl .int) h,I (c:Nat)] [] [.d true (.sl .int) (powL h c),.d true .bool true] []:=by
 have hok:=powL_ok h (permR hP)
 have hl:=hP.1
 refine AC_of tauOk 28 0 [4,5] Tryz.func337 rfl (by kernel_rfl) rfl rfl rfl rfl rfl ?_
 refine ⟨[],false,_,_,spec_PermOk sh h (by omega),nd0,rfl,rfl,trivial,fun _=>?_,fun e=>by rw [(permB_iff h).2 hP] at e;cases e⟩
 refine ⟨[],false,_,_,spec_l01In _ _ _,nd0,rfl,rfl,trivial,fun _=>?_,fun e=>by simp only [Bool.and_eq_false_iff,decide_eq_false_iff_not] at e;omega⟩
 refine ⟨[],true,_,_,spec_IdentityPerm h.length (by omega) (by omega),nd0,rfl,rfl,trivial,?_⟩
 refine ⟨Nat,fun k=>⟨[(0,.d sh (.sl .int) h),(1,I (c:Nat)),(6,.d true (.sl .int) (powL h k)),(7,I (k:Nat))],[]⟩,fun k=>k<=c,fun k=>c-k,0,Nat.zero_le _,
  ⟨⟨rfl,rfl⟩,⟨rfl,rfl,rfl,rfl,trivial⟩,trivial⟩,fun k hk=>?_⟩
 dsimp only at hk
 refine ⟨fun h2=>?_,fun h2=>?_⟩
 .have hk1:=hok k
  refine ⟨[],true,_,_,spec_l02Compose true sh (powL h k) h (by omega) hk1.2,nd0,rfl,rfl,trivial,?_⟩
  exact ⟨((k+1:Nat):Int),w64_eq (by omega) (by omega) (by omega),k+1,by dsimp only;omega,by dsimp only;omega,⟨rfl,rfl⟩,⟨rfl,rfl,rfl,rfl,trivial⟩,trivial⟩
 .obtain rfl:k=c:=by omega
  exact ⟨none,⟨rfl,rfl,trivial⟩,rfl,rfl⟩
theorem impl_PowerPerm (sh:Bool) (h:List Int) (c:Nat) (hP:PermP h) (hc:c<=1000):AC Tryz.prog 271 [.d sh (.sl .int) h,I (c:Nat)] [] [.d true (.sl .int) (powL h c),.d true .bool true] []:=by
 have hok:=powL_ok h (permR hP)
 have hl:=hP.1
 refine AC_of tauOk 29 0 [4,5] Tryz.func271 rfl (by kernel_rfl) rfl rfl rfl rfl rfl ?_
 refine ⟨[],false,_,_,impl_PermOk sh h (by omega),nd0,rfl,rfl,trivial,fun _=>?_,fun e=>by rw [(permB_iff h).2 hP] at e;cases e⟩
 refine ⟨fun e=>by omega,fun _=>?_⟩
 refine ⟨fun e=>by omega,fun _=>?_⟩
 refine ⟨[],true,_,_,impl_IdentityPerm h.length (by omega) (by omega),nd0,rfl,rfl,trivial,?_⟩
 refine ⟨Nat,fun k=>⟨[(0,.d sh (.sl .int) h),(21,I (c:Nat)),(6,.d true (.sl .int) (powL h k)),(22,I (k:Nat))],[]⟩,fun k=>k<=c,fun k=>c-k,0,Nat.zero_le _,
  ⟨⟨rfl,rfl⟩,⟨rfl,rfl,rfl,rfl,trivial⟩,trivial⟩,fun k hk=>?_⟩
 dsimp only at hk
 refine ⟨fun h2=>?_,fun h2=>?_⟩
 .have hk1:=hok k
  refine ⟨[],true,_,_,impl_compose true sh (powL h k) h (by omega) hk1.2,nd0,rfl,rfl,trivial,?_⟩
  exact ⟨((k+1:Nat):Int),w64_eq (by omega) (by omega) (by omega),k+1,by dsimp only;omega,by dsimp only;omega,⟨rfl,rfl⟩,⟨rfl,rfl,rfl,rfl,trivial⟩,trivial⟩
 .obtain rfl:k=c:=by omega
  exact ⟨none,⟨rfl,rfl,trivial⟩,rfl,rfl⟩
theorem impl_movedPoints (sh:Bool) (x:List Int) (hl:x.length<=1048576):AC Tryz.prog 272 [.d sh (.sl .int) x] [] [I (x.length-fixN x x.length:Nat)] []:=by
 refine AC_of tauOk 20 0 [2] Tryz.func272 rfl (by kernel_rfl) rfl rfl rfl rfl rfl ?_
 refine ⟨Nat,fun k=>⟨[(3,I (k-fixN x k:Nat)),(6,.d sh (.sl .int) x),(7,I x.length),(8,I (k:Nat))],[]⟩,fun k=>k<=x.length,fun k=>x.length-k,0,Nat.zero_le _,
  ⟨⟨rfl,rfl⟩,⟨rfl,rfl,rfl,rfl,trivial⟩,trivial⟩,fun k hk=>?_⟩
 dsimp only at hk
 have hf:=fixN_le x k
 refine ⟨fun h2=>?_,fun h2=>?_⟩
 .have hk2:k<x.length:=by omega
  refine ⟨k,rfl,hk2,fun h3=>?_,fun h3=>?_⟩
  .have e:fixN x (k+1)=fixN x k:=by rw [fixN,if_neg (fun e=>h3 (by omega))]
   refine ⟨((k+1-fixN x (k+1):Nat):Int),w64_eq (by omega) (by omega) (by omega),?_⟩
   exact ⟨((k+1:Nat):Int),w64_eq (by omega) (by omega) (by omega),k+1,by dsimp only;omega,by dsimp only;omega,⟨rfl,rfl⟩,⟨rfl,rfl,rfl,rfl,trivial⟩,trivial⟩
  .have e:fixN x (k+1)=fixN x k+1:=by rw [fixN,if_pos (by omega)]
   exact ⟨((k+1:Nat):Int),w64_eq (by omega) (by omega) (by omega),k+1,by dsimp only;omega,by dsimp only;omega,⟨rfl,rfl⟩,⟨retI (by omega),rfl,rfl,rfl,trivial⟩,trivial⟩
 .obtain rfl:k=x.length:=by omega
  exact ⟨none,⟨rfl,trivial⟩,rfl,rfl⟩
theorem spec_l13Kept (sh:Bool) (h:List Int) (c:Nat) (hP:PermP h) (hc:c<=1000):AC Tryz.prog 294 [.d sh (.sl .int) h,I (c:Nat)] [] [I (kepN h c:Nat)] []:=by
 have hok:=powL_ok h (permR hP) c
 have hl:=hP.1
 refine AC_of tauOk 30 0 [4] Tryz.func294 rfl (by kernel_rfl) rfl rfl rfl rfl rfl ?_
 refine ⟨[],false,_,_,spec_PowerPerm sh h c hP hc,nd0,rfl,rfl,trivial,fun _=>?_,nofun⟩
 unfold kepN
 rw [<-hok.1]
 generalize powL h c=x at*
 refine ⟨Nat,fun k=>⟨[(7,I (fixN x k:Nat)),(16,.d true (.sl .int) x),(17,I x.length),(18,I (k:Nat))],[]⟩,fun k=>k<=x.length,fun k=>x.length-k,0,Nat.zero_le _,
  ⟨⟨rfl,rfl⟩,⟨rfl,rfl,rfl,rfl,trivial⟩,trivial⟩,fun k hk=>?_⟩
 dsimp only at hk
 have hf:=fixN_le x k
 refine ⟨fun h2=>?_,fun h2=>?_⟩
 .have hk2:k<x.length:=by omega
  refine ⟨k,rfl,hk2,fun h3=>?_,fun h3=>?_⟩
  .have e:fixN x (k+1)=fixN x k+1:=by rw [fixN,if_pos (by omega)]
   refine ⟨((fixN x (k+1):Nat):Int),w64_eq (by omega) (by omega) (by omega),?_⟩
   exact ⟨((k+1:Nat):Int),w64_eq (by omega) (by omega) (by omega),k+1,by dsimp only;omega,by dsimp only;omega,⟨rfl,rfl⟩,⟨rfl,rfl,rfl,rfl,trivial⟩,trivial⟩
  .have e:fixN x (k+1)=fixN x k:=by rw [fixN,if_neg (fun e=>h3 (by omega))]
   exact ⟨((k+1:Nat):Int),w64_eq (by omega) (by omega) (by omega),k+1,by dsimp only;omega,by dsimp only;omega,⟨rfl,rfl⟩,⟨retI (by rw [e]),rfl,rfl,rfl,trivial⟩,trivial⟩
 .obtain rfl:k=x.length:=by omega
  exact ⟨none,⟨rfl,trivial⟩,rfl,rfl⟩
def cexI (g:List (List Int)) (k:Int):Int:=if gokB g=true/\1<=k/\k<=4 then ((sumG g (symL k.toNat) g.length / (g.length*(symL k.toNat).length):Nat):Int) else-1
structure CexOk (g:List (List Int)) (k:Nat):Prop where
 gr:GrpP g
 sy:SymOk k
 p:∀a,a<g.length->PermP (g.getD a [])
 c1:∀a,a<g.length->(cycL (g.getD a [])).length<=10
 c2:∀a,a<g.length->∀j,j<(cycL (g.getD a [])).length->((cycL (g.getD a [])).getD j []).length<=10
 s:∀b,b<(symL k).length->PermP ((symL k).getD b [])/\((symL k).getD b []).length=k
theorem cex_ok {g:List (List Int)} {k:Nat} (hg:gokB g=true) (h1:1<=k) (h4:k<=4):CexOk g k:=by
 have hG:=(gokB_iff g).1 hg
 have hS:=sym_ok k (by omega) h1
 have hp:∀a,a<g.length->PermP (g.getD a []):=fun a ha=>(gok1_p (hG.o1 a ha)).1
 have hc:∀a,a<g.length->(cycL (g.getD a [])).length<=10/\∀c∈cycL (g.getD a []),c.length<=10:=fun a ha=>by
  have hP:=hp a ha
  have h:=cyc_ok (g.getD a []) (permR hP) (g.getD a []).length (Nat.le_refl _)
  have hl:=hP.1
  exact ⟨Nat.le_trans h.2.1 hl.2,fun c hc=>by have:=(h.2.2 c hc).2.1;omega⟩
 exact ⟨hG,hS,hp,fun a ha=>(hc a ha).1,fun a ha j hj=>by rw [getD_get _ _ _ hj];exact (hc a ha).2 _ (List.getElem_mem hj),fun b hb=>symL_get hS b hb⟩
theorem spec_CountExchange (sh:Bool) (g:List (List Int)) (k:Int) (hl:g.length<=1048576) (hx:∀i,i<g.length->(g.getD i []).length<=1048576):AC Tryz.prog 225 [.d sh (.sl (.sl .int)) g,I k] [] [I (cexI g k)] []:=by
 refine AC_of tauOk 68 0 [4] Tryz.func225 rfl (by kernel_rfl) rfl rfl rfl rfl rfl ?_
 refine ⟨[],false,_,_,spec_GroupOk sh g hl hx,nd0,rfl,rfl,trivial,fun hg=>?_,fun hg=>?_⟩
 .refine ⟨[],false,_,_,spec_l01In _ _ _,nd0,rfl,rfl,trivial,fun hk=>?_,fun hk=>?_⟩
  .simp only [Bool.and_eq_true,decide_eq_true_eq] at hk
   obtain ⟨K,rfl⟩:∃K:Nat,k=(K:Int):=⟨k.toNat,by omega⟩
   have C:=cex_ok hg (k:=K) (by omega) (by omega)
   have hs2:=C.sy.l2
   have hs1:=C.sy.l1
   have hg1:=C.gr.l1
   have hg2:=C.gr.l2
   have hB:=sumG_le g (symL K) (fun b hb=>by have:=(C.s b hb).2;omega) hs2 C.c1
   have eI:cexI g (K:Int)=((sumG g (symL K) g.length / (g.length*(symL K).length):Nat):Int):=by
    rw [cexI,if_pos ⟨hg,hk⟩,Int.toNat_natCast]
   rw [eI]
   refine ⟨[],true,_,_,spec_SymmetricGroup K (by omega) (by omega),nd0,rfl,rfl,trivial,fun _=>?_,nofun⟩
   have hsp:=C.s
   generalize symL K=S at*
   refine ⟨Nat,fun a=>⟨[(0,.d sh (.sl (.sl .int)) g),(5,.d true (.sl (.sl .int)) S),(7,I (sumG g S a:Nat)),(29,.d sh (.sl (.sl .int)) g),(30,I g.length),(31,I (a:Nat))],[]⟩,fun a=>a<=g.length,fun a=>g.length-a,0,Nat.zero_le _,
    ⟨⟨rfl,rfl⟩,⟨rfl,rfl,rfl,rfl,rfl,rfl,trivial⟩,trivial⟩,fun a ha=>?_⟩
   dsimp only at ha
   have hBa:=hB a ha
   refine ⟨fun h2=>?_,fun h2=>?_⟩
   .have ha2:a<g.length:=by omega
    have hca:=C.c1 a ha2
    have hcj:=C.c2 a ha2
    have hH:=sumH_le (g.getD a []) S (fun b hb=>by have:=(hsp b hb).2;omega) hca
    refine ⟨a,rfl,ha2,[],true,_,_,spec_CyclesOf sh (g.getD a []) (C.p a ha2),nd0,rfl,rfl,trivial,?_⟩
    refine ⟨Nat,fun b=>⟨[(0,.d sh (.sl (.sl .int)) g),(5,.d true (.sl (.sl .int)) S),(7,I (sumG g S a+sumH (g.getD a []) S b:Nat)),(29,.d sh (.sl (.sl .int)) g),(30,I g.length),(31,I (a:Nat)),(10,.d true (.sl (.sl .int)) (cycL (g.getD a []))),(37,.d true (.sl (.sl .int)) S),(38,I S.length),(39,I (b:Nat))],[]⟩,fun b=>b<=S.length,fun b=>S.length-b,0,Nat.zero_le _,
     ⟨⟨rfl,rfl⟩,⟨rfl,rfl,rfl,rfl,rfl,rfl,rfl,rfl,rfl,rfl,trivial⟩,trivial⟩,fun b hb=>?_⟩
    dsimp only at hb
    have hHb:=hH b hb
    refine ⟨fun h3=>?_,fun h3=>?_⟩
    .have hb2:b<S.length:=by omega
     have hq:=hsp b hb2
     have hpr:=prdN_le2 (S.getD b []) (cycL (g.getD a [])) (by omega) hca
     refine ⟨b,rfl,hb2,?_⟩
     refine ⟨Nat,fun j=>⟨[(0,.d sh (.sl (.sl .int)) g),(5,.d true (.sl (.sl .int)) S),(7,I (sumG g S a+sumH (g.getD a []) S b:Nat)),(29,.d sh (.sl (.sl .int)) g),(30,I g.length),(31,I (a:Nat)),(10,.d true (.sl (.sl .int)) (cycL (g.getD a []))),(37,.d true (.sl (.sl .int)) S),(38,I S.length),(39,I (b:Nat)),
      (12,.d true (.sl .int) (S.getD b [])),(13,I (prdN (S.getD b []) (cycL (g.getD a [])) j:Nat)),(43,.d true (.sl (.sl .int)) (cycL (g.getD a []))),(44,I (cycL (g.getD a [])).length),(45,I (j:Nat))],[]⟩,fun j=>j<=(cycL (g.getD a [])).length,fun j=>(cycL (g.getD a [])).length-j,0,Nat.zero_le _,
      ⟨⟨rfl,rfl⟩,⟨rfl,rfl,rfl,rfl,rfl,rfl,rfl,rfl,rfl,rfl,rfl,rfl,rfl,rfl,rfl,trivial⟩,trivial⟩,fun j hj=>?_⟩
     dsimp only at hj
     refine ⟨fun h4=>?_,fun h4=>?_⟩
     .have hj2:j<(cycL (g.getD a [])).length:=by omega
      have hcl:=hcj j hj2
      have hpj:=hpr (j+1) hj2
      refine ⟨j,rfl,hj2,[],false,_,_,spec_l13Kept true (S.getD b []) ((cycL (g.getD a [])).getD j []).length hq.1 (by omega),nd0,rfl,rfl,trivial,?_⟩
      refine ⟨((prdN (S.getD b []) (cycL (g.getD a [])) (j+1):Nat):Int),w64_eq (by rw [prdN,Int.natCast_mul]) (by omega) (by omega),?_⟩
      exact ⟨((j+1:Nat):Int),w64_eq (by omega) (by omega) (by omega),j+1,by dsimp only;omega,by dsimp only;omega,⟨rfl,rfl⟩,⟨rfl,rfl,rfl,rfl,rfl,rfl,rfl,rfl,rfl,rfl,rfl,rfl,rfl,rfl,rfl,trivial⟩,trivial⟩
     .obtain rfl:j=(cycL (g.getD a [])).length:=by omega
      have hpj:=hpr _ (Nat.le_refl _)
      refine ⟨((sumG g S a+sumH (g.getD a []) S (b+1):Nat):Int),w64_eq (by rw [sumH];omega) (by omega) (by rw [sumH];omega),?_⟩
      exact ⟨((b+1:Nat):Int),w64_eq (by omega) (by omega) (by omega),b+1,by dsimp only;omega,by dsimp only;omega,⟨rfl,rfl⟩,⟨rfl,rfl,rfl,rfl,rfl,rfl,rfl,rfl,rfl,rfl,trivial⟩,trivial⟩
    .obtain rfl:b=S.length:=by omega
     exact ⟨((a+1:Nat):Int),w64_eq (by omega) (by omega) (by omega),a+1,by dsimp only;omega,by dsimp only;omega,⟨rfl,rfl⟩,⟨rfl,rfl,rfl,rfl,rfl,rfl,trivial⟩,trivial⟩
   .obtain rfl:a=g.length:=by omega
    have hd1:sumG g S g.length / g.length<=sumG g S g.length:=Nat.div_le_self _ _
    have hd2:sumG g S g.length / g.length / S.length<=sumG g S g.length / g.length:=Nat.div_le_self _ _
    refine ⟨by omega,((sumG g S g.length / g.length:Nat):Int),w64_eq (Int.ofNat_tdiv _ _) (Int.le_trans (by decide) (Int.natCast_nonneg _)) (by omega),by omega,((sumG g S g.length / g.length / S.length:Nat):Int),w64_eq (Int.ofNat_tdiv _ _) (Int.le_trans (by decide) (Int.natCast_nonneg _)) (by omega),?_⟩
    exact ⟨none,⟨retI (by rw [Nat.div_div_eq_div_mul]),trivial⟩,rfl,rfl⟩
  .simp only [Bool.and_eq_false_iff,decide_eq_false_iff_not] at hk
   exact ⟨none,⟨retI (by rw [cexI,if_neg (fun e=>by omega)]),trivial⟩,rfl,rfl⟩
 .exact ⟨none,⟨retI (by rw [cexI,if_neg (fun e=>by rw [hg] at e;cases e.1)]),trivial⟩,rfl,rfl⟩
theorem impl_isColors (n:Int):AC Tryz.prog 173 [I n] [] [.d true .bool (decide (1<=n) && decide (n<=4))] []:=by
 refine AC_of tauOk 9 0 [2] Tryz.func173 rfl (by kernel_rfl) rfl rfl rfl rfl rfl ?_
 refine ⟨fun h=>?_,fun h=>?_⟩
 .refine ⟨fun h2=>?_,fun h2=>?_⟩
  .exact ⟨none,⟨retB (by rw [decide_eq_true (show 1<=n by omega),decide_eq_true h2];rfl),trivial⟩,rfl,rfl⟩
  .exact ⟨none,⟨retB (by rw [decide_eq_false h2,Bool.and_false]),trivial⟩,rfl,rfl⟩
 .exact ⟨none,⟨retB (by rw [decide_eq_false (show ¬1<=n by omega)];rfl),trivial⟩,rfl,rfl⟩
theorem impl_CountExchange (sh:Bool) (g:List (List Int)) (k:Int) (hl:g.length<=1048576) (hx:∀i,i<g.length->(g.getD i []).length<=1048576):AC Tryz.prog 175 [.d sh (.sl (.sl .int)) g,I k] [] [I (cexI g k)] []:=by
 refine AC_of tauOk 71 0 [4] Tryz.func175 rfl (by kernel_rfl) rfl rfl rfl rfl rfl ?_
 refine ⟨[],false,_,_,impl_GroupOk sh g hl hx,nd0,rfl,rfl,trivial,fun hg=>?_,fun hg=>?_⟩
 .refine ⟨[],false,_,_,impl_isColors _,nd0,rfl,rfl,trivial,fun hk=>?_,fun hk=>?_⟩
  .simp only [Bool.and_eq_true,decide_eq_true_eq] at hk
   obtain ⟨K,rfl⟩:∃K:Nat,k=(K:Int):=⟨k.toNat,by omega⟩
   have C:=cex_ok hg (k:=K) (by omega) (by omega)
   have hs2:=C.sy.l2
   have hs1:=C.sy.l1
   have hg1:=C.gr.l1
   have hg2:=C.gr.l2
   have hB:=sumG_le g (symL K) (fun b hb=>by have:=(C.s b hb).2;omega) hs2 C.c1
   have eI:cexI g (K:Int)=((sumG g (symL K) g.length / (g.length*(symL K).length):Nat):Int):=by
    rw [cexI,if_pos ⟨hg,hk⟩,Int.toNat_natCast]
   rw [eI]
   refine ⟨[],true,_,_,impl_renamings K (by omega) (by omega),nd0,rfl,rfl,trivial,?_⟩
   have hsp:=C.s
   generalize symL K=S at*
   refine ⟨Nat,fun a=>⟨[(0,.d sh (.sl (.sl .int)) g),(1,I (K:Nat)),(5,I (sumG g S a:Nat)),(6,.d true (.sl (.sl .int)) S),(26,.d sh (.sl (.sl .int)) g),(27,I g.length),(28,I (a:Nat))],[]⟩,fun a=>a<=g.length,fun a=>g.length-a,0,Nat.zero_le _,
    ⟨⟨rfl,rfl⟩,⟨rfl,rfl,rfl,rfl,rfl,rfl,rfl,trivial⟩,trivial⟩,fun a ha=>?_⟩
   dsimp only at ha
   have hBa:=hB a ha
   refine ⟨fun h2=>?_,fun h2=>?_⟩
   .have ha2:a<g.length:=by omega
    have hca:=C.c1 a ha2
    have hcj:=C.c2 a ha2
    have hH:=sumH_le (g.getD a []) S (fun b hb=>by have:=(hsp b hb).2;omega) hca
    refine ⟨a,rfl,ha2,?_⟩
    refine ⟨Nat,fun b=>⟨[(0,.d sh (.sl (.sl .int)) g),(1,I (K:Nat)),(5,I (sumG g S a+sumH (g.getD a []) S b:Nat)),(6,.d true (.sl (.sl .int)) S),(26,.d sh (.sl (.sl .int)) g),(27,I g.length),(28,I (a:Nat)),(8,.d sh (.sl .int) (g.getD a [])),(32,.d true (.sl (.sl .int)) S),(33,I S.length),(34,I (b:Nat))],[]⟩,fun b=>b<=S.length,fun b=>S.length-b,0,Nat.zero_le _,
     ⟨⟨rfl,rfl⟩,⟨rfl,rfl,rfl,rfl,rfl,rfl,rfl,rfl,rfl,rfl,rfl,trivial⟩,trivial⟩,fun b hb=>?_⟩
    dsimp only at hb
    have hHb:=hH b hb
    refine ⟨fun h3=>?_,fun h3=>?_⟩
    .have hb2:b<S.length:=by omega
     have hq:=hsp b hb2
     have hpr:=prdN_le2 (S.getD b []) (cycL (g.getD a [])) (by omega) hca
     refine ⟨b,rfl,hb2,[],true,_,_,impl_CyclesOf sh (g.getD a []) (C.p a ha2),nd0,rfl,rfl,trivial,?_⟩
     refine ⟨Nat,fun j=>⟨[(0,.d sh (.sl (.sl .int)) g),(1,I (K:Nat)),(5,I (sumG g S a+sumH (g.getD a []) S b:Nat)),(6,.d true (.sl (.sl .int)) S),(26,.d sh (.sl (.sl .int)) g),(27,I g.length),(28,I (a:Nat)),(8,.d sh (.sl .int) (g.getD a [])),(32,.d true (.sl (.sl .int)) S),(33,I S.length),(34,I (b:Nat)),
      (10,.d true (.sl .int) (S.getD b [])),(11,I (prdN (S.getD b []) (cycL (g.getD a [])) j:Nat)),(39,.d true (.sl (.sl .int)) (cycL (g.getD a []))),(40,I (cycL (g.getD a [])).length),(41,I (j:Nat))],[]⟩,fun j=>j<=(cycL (g.getD a [])).length,fun j=>(cycL (g.getD a [])).length-j,0,Nat.zero_le _,
      ⟨⟨rfl,rfl⟩,⟨rfl,rfl,rfl,rfl,rfl,rfl,rfl,rfl,rfl,rfl,rfl,rfl,rfl,rfl,rfl,rfl,trivial⟩,trivial⟩,fun j hj=>?_⟩
     dsimp only at hj
     refine ⟨fun h4=>?_,fun h4=>?_⟩
     .have hj2:j<(cycL (g.getD a [])).length:=by omega
      have hcl:=hcj j hj2
      have hpj:=hpr (j+1) hj2
      have hpo:=powL_ok (S.getD b []) (permR hq.1) ((cycL (g.getD a [])).getD j []).length
      have hfx:=fixN_le (powL (S.getD b []) ((cycL (g.getD a [])).getD j []).length) (powL (S.getD b []) ((cycL (g.getD a [])).getD j []).length).length
      refine ⟨j,rfl,hj2,[],false,_,_,impl_PowerPerm true (S.getD b []) ((cycL (g.getD a [])).getD j []).length hq.1 (by omega),nd0,rfl,rfl,trivial,fun _=>?_,nofun⟩
      refine ⟨[],false,_,_,impl_movedPoints true (powL (S.getD b []) ((cycL (g.getD a [])).getD j []).length) (by omega),nd0,rfl,rfl,trivial,?_⟩
      refine ⟨((kepN (S.getD b []) ((cycL (g.getD a [])).getD j []).length:Nat):Int),w64_eq (by rw [kepN,<-hpo.1];omega) (by omega) (by rw [kepN,<-hpo.1];omega),?_⟩
      refine ⟨((prdN (S.getD b []) (cycL (g.getD a [])) (j+1):Nat):Int),w64_eq (by rw [prdN,Int.natCast_mul]) (by omega) (by omega),?_⟩
      exact ⟨((j+1:Nat):Int),w64_eq (by omega) (by omega) (by omega),j+1,by dsimp only;omega,by dsimp only;omega,⟨rfl,rfl⟩,⟨rfl,rfl,rfl,rfl,rfl,rfl,rfl,rfl,rfl,rfl,rfl,rfl,rfl,rfl,rfl,rfl,trivial⟩,trivial⟩
     .obtain rfl:j=(cycL (g.getD a [])).length:=by omega
      have hpj:=hpr _ (Nat.le_refl _)
      refine ⟨((sumG g S a+sumH (g.getD a []) S (b+1):Nat):Int),w64_eq (by rw [sumH];omega) (by omega) (by rw [sumH];omega),?_⟩
      exact ⟨((b+1:Nat):Int),w64_eq (by omega) (by omega) (by omega),b+1,by dsimp only;omega,by dsimp only;omega,⟨rfl,rfl⟩,⟨rfl,rfl,rfl,rfl,rfl,rfl,rfl,rfl,rfl,rfl,rfl,trivial⟩,trivial⟩
    .obtain rfl:b=S.length:=by omega
     exact ⟨((a+1:Nat):Int),w64_eq (by omega) (by omega) (by omega),a+1,by dsimp only;omega,by dsimp only;omega,⟨rfl,rfl⟩,⟨rfl,rfl,rfl,rfl,rfl,rfl,rfl,trivial⟩,trivial⟩
   .obtain rfl:a=g.length:=by omega
    have hd1:sumG g S g.length / (g.length*S.length)<=sumG g S g.length:=Nat.div_le_self _ _
    have hm:g.length*S.length<=120*120:=Nat.mul_le_mul hg2 hs2
    have hm0:0<g.length*S.length:=Nat.mul_pos (by omega) (by omega)
    refine ⟨((g.length*S.length:Nat):Int),w64_eq (Int.natCast_mul _ _) (by omega) (by omega),by omega,((sumG g S g.length / (g.length*S.length):Nat):Int),w64_eq (Int.ofNat_tdiv _ _) (Int.le_trans (by decide) (Int.natCast_nonneg _)) (by omega),?_⟩
    exact ⟨none,⟨rfl,trivial⟩,rfl,rfl⟩
  .simp only [Bool.and_eq_false_iff,decide_eq_false_iff_not] at hk
   exact ⟨none,⟨retI (by rw [cexI,if_neg (fun e=>by omega)]),trivial⟩,rfl,rfl⟩
 .exact ⟨none,⟨retI (by rw [cexI,if_neg (fun e=>by rw [hg] at e;cases e.1)]),trivial⟩,rfl,rfl⟩
def Short (xss:List (List Int)):Prop:=xss.length<=1048576/\∀i,i<xss.length->(xss.getD i []).length<=1048576
theorem pow_le {k c d:Nat} (hk:k<=4) (hc:c<=d) (hd:d<=10):k ^ c<=1048576:=by
 refine Nat.le_trans (Nat.pow_le_pow_left hk c) (Nat.le_trans (Nat.pow_le_pow_right (by decide) (show c<=10 by omega)) (by decide))
theorem spec_l05Power (k c:Nat) (hk:k<=4) (hc:c<=10):AC Tryz.prog 230 [I (k:Nat),I (c:Nat)] [] [I (k ^ c:Nat)] []:=by
 refine AC_of tauOk 16 0 [4] Tryz.func230 rfl (by kernel_rfl) rfl rfl rfl rfl rfl ?_
 refine ⟨Nat,fun j=>⟨[(0,I (k:Nat)),(1,I (c:Nat)),(5,I (k ^ j:Nat)),(6,I (j:Nat))],[]⟩,fun j=>j<=c,fun j=>c-j,0,Nat.zero_le _,
  ⟨⟨rfl,rfl⟩,⟨rfl,rfl,rfl,rfl,trivial⟩,trivial⟩,fun j hj=>?_⟩
 dsimp only at hj
 refine ⟨fun h2=>?_,fun h2=>?_⟩
 .have:=pow_le hk (show j+1<=c by omega) hc
  refine ⟨((k ^ (j+1):Nat):Int),w64_eq (by rw [Nat.pow_succ,Int.natCast_mul]) (Int.le_trans (by decide) (Int.natCast_nonneg _)) (by omega),?_⟩
  exact ⟨((j+1:Nat):Int),w64_eq (by omega) (by omega) (by omega),j+1,by dsimp only;omega,by dsimp only;omega,⟨rfl,rfl⟩,⟨rfl,rfl,rfl,rfl,trivial⟩,trivial⟩
 .obtain rfl:j=c:=by omega
  exact ⟨none,⟨rfl,trivial⟩,rfl,rfl⟩
theorem impl_power (k c:Nat) (hk:k<=4) (hc:c<=10):AC Tryz.prog 269 [I (k:Nat),I (c:Nat)] [] [I (k ^ c:Nat)] []:=by
 refine AC_of tauOk 14 0 [4] Tryz.func269 rfl (by kernel_rfl) rfl rfl rfl rfl rfl ?_
 refine ⟨Nat,fun j=>⟨[(0,I (k:Nat)),(5,I (k ^ j:Nat)),(6,I (c:Nat)),(7,I (j:Nat))],[]⟩,fun j=>j<=c,fun j=>c-j,0,Nat.zero_le _,
  ⟨⟨rfl,rfl⟩,⟨rfl,rfl,rfl,rfl,trivial⟩,trivial⟩,fun j hj=>?_⟩
 dsimp only at hj
 refine ⟨fun h2=>?_,fun h2=>?_⟩
 .have:=pow_le hk (show j+1<=c by omega) hc
  refine ⟨((k ^ (j+1):Nat):Int),w64_eq (by rw [Nat.pow_succ,Int.natCast_mul]) (Int.le_trans (by decide) (Int.natCast_nonneg _)) (by omega),?_⟩
  exact ⟨((j+1:Nat):Int),w64_eq (by omega) (by omega) (by omega),j+1,by dsimp only;omega,by dsimp only;omega,⟨rfl,rfl⟩,⟨rfl,rfl,rfl,rfl,trivial⟩,trivial⟩
 .obtain rfl:j=c:=by omega
  exact ⟨none,⟨rfl,trivial⟩,rfl,rfl⟩
theorem impl_CountCycles (s:Bool) (q:List Int) (hq:PermP q):AC Tryz.prog 270 [.d s (.sl .int) q] [] [I (cycL q).length] []:=by
 refine AC_of tauOk 6 0 [2] Tryz.func270 rfl (by kernel_rfl) rfl rfl rfl rfl rfl ?_
 refine ⟨[],true,_,_,impl_CyclesOf s q hq,nd0,rfl,rfl,trivial,?_⟩
 exact ⟨none,⟨rfl,trivial⟩,rfl,rfl⟩
def sumC (g:List (List Int)) (k:Nat):Nat->Nat
 |0=>0
 |a+1=>sumC g k a+k ^ (cycL (g.getD a [])).length
theorem sumC_le (g:List (List Int)) (k:Nat) (hk:k<=4) (hc:∀a,a<g.length->(cycL (g.getD a [])).length<=10):∀a,a<=g.length->sumC g k a<=a*1048576
 |0,_=>by simp [sumC]
 |a+1,ha=>by
  have h1:=sumC_le g k hk hc a (by omega)
  have h2:=pow_le hk (Nat.le_refl (cycL (g.getD a [])).length) (hc a (by omega))
  rw [sumC];omega
def colI (g:List (List Int)) (k:Int):Int:=if gokB g=true/\0<=k/\k<=4 then ((sumC g k.toNat g.length / g.length:Nat):Int) else-1
structure ColOk (g:List (List Int)):Prop where
 gr:GrpP g
 p:∀a,a<g.length->PermP (g.getD a [])
 c1:∀a,a<g.length->(cycL (g.getD a [])).length<=10
theorem col_ok {g:List (List Int)} (hg:gokB g=true):ColOk g:=by
 have hG:=(gokB_iff g).1 hg
 have hp:∀a,a<g.length->PermP (g.getD a []):=fun a ha=>(gok1_p (hG.o1 a ha)).1
 exact ⟨hG,hp,fun a ha=>(cyc_small (hp a ha)).1⟩
theorem spec_CountColorings (sh:Bool) (g:List (List Int)) (k:Int) (hl:g.length<=1048576) (hx:∀i,i<g.length->(g.getD i []).length<=1048576):AC Tryz.prog 224 [.d sh (.sl (.sl .int)) g,I k] [] [I (colI g k)] []:=by
 refine AC_of tauOk 33 0 [4] Tryz.func224 rfl (by kernel_rfl) rfl rfl rfl rfl rfl ?_
 refine ⟨[],false,_,_,spec_GroupOk sh g hl hx,nd0,rfl,rfl,trivial,fun hg=>?_,fun hg=>?_⟩
 .refine ⟨[],false,_,_,spec_l01In _ _ _,nd0,rfl,rfl,trivial,fun hk=>?_,fun hk=>?_⟩
  .simp only [Bool.and_eq_true,decide_eq_true_eq] at hk
   obtain ⟨K,rfl⟩:∃K:Nat,k=(K:Int):=⟨k.toNat,by omega⟩
   have C:=col_ok hg
   have hg1:=C.gr.l1
   have hg2:=C.gr.l2
   have hB:=sumC_le g K (by omega) C.c1
   have eI:colI g (K:Int)=((sumC g K g.length / g.length:Nat):Int):=by rw [colI,if_pos ⟨hg,hk⟩,Int.toNat_natCast]
   rw [eI]
   refine ⟨Nat,fun a=>⟨[(0,.d sh (.sl (.sl .int)) g),(1,I (K:Nat)),(5,I (sumC g K a:Nat)),(16,.d sh (.sl (.sl .int)) g),(17,I g.length),(18,I (a:Nat))],[]⟩,fun a=>a<=g.length,fun a=>g.length-a,0,Nat.zero_le _,
    ⟨⟨rfl,rfl⟩,⟨rfl,rfl,rfl,rfl,rfl,rfl,trivial⟩,trivial⟩,fun a ha=>?_⟩
   dsimp only at ha
   refine ⟨fun h2=>?_,fun h2=>?_⟩
   .have ha2:a<g.length:=by omega
    have hP:=C.p a ha2
    have hcc:ccN (g.getD a [])=(cycL (g.getD a [])).length:=by rw [ccN,if_pos ((permB_iff _).2 hP)]
    have hCC:=spec_CountCycles sh (g.getD a []) (hx a ha2)
    rw [hcc] at hCC
    have hB1:=hB (a+1) (by omega)
    refine ⟨a,rfl,ha2,[],false,_,_,hCC,nd0,rfl,rfl,trivial,[],false,_,_,spec_l05Power K (cycL (g.getD a [])).length (by omega) (C.c1 a ha2),nd0,rfl,rfl,trivial,?_⟩
    refine ⟨((sumC g K (a+1):Nat):Int),w64_eq (by rw [sumC];omega) (by omega) (by omega),?_⟩
    exact ⟨((a+1:Nat):Int),w64_eq (by omega) (by omega) (by omega),a+1,by dsimp only;omega,by dsimp only;omega,⟨rfl,rfl⟩,⟨rfl,rfl,rfl,rfl,rfl,rfl,trivial⟩,trivial⟩
   .obtain rfl:a=g.length:=by omega
    have hBg:=hB _ (Nat.le_refl _)
    have hd:sumC g K g.length / g.length<=sumC g K g.length:=Nat.div_le_self _ _
    refine ⟨by omega,((sumC g K g.length / g.length:Nat):Int),w64_eq (Int.ofNat_tdiv _ _) (Int.le_trans (by decide) (Int.natCast_nonneg _)) (by omega),?_⟩
    exact ⟨none,⟨rfl,trivial⟩,rfl,rfl⟩
  .simp only [Bool.and_eq_false_iff,decide_eq_false_iff_not] at hk
   exact ⟨none,⟨retI (by rw [colI,if_neg (fun e=>by omega)]),trivial⟩,rfl,rfl⟩
 .exact ⟨none,⟨retI (by rw [colI,if_neg (fun e=>by rw [hg] at e;cases e.1)]),trivial⟩,rfl,rfl⟩
theorem impl_CountColorings (sh:Bool) (g:List (List Int)) (k:Int) (hl:g.length<=1048576) (hx:∀i,i<g.length->(g.getD i []).length<=1048576):AC Tryz.prog 174 [.d sh (.sl (.sl .int)) g,I k] [] [I (colI g k)] []:=by
 refine AC_of tauOk 36 0 [4] Tryz.func174 rfl (by kernel_rfl) rfl rfl rfl rfl rfl ?_
 refine ⟨[],false,_,_,impl_GroupOk sh g hl hx,nd0,rfl,rfl,trivial,fun hg=>?_,fun hg=>?_⟩
 .refine ⟨fun hk=>?_,fun hk=>?_⟩
  .exact ⟨none,⟨retI (by rw [colI,if_neg (fun e=>by omega)]),trivial⟩,rfl,rfl⟩
  refine ⟨fun hk4=>?_,fun hk4=>?_⟩
  .exact ⟨none,⟨retI (by rw [colI,if_neg (fun e=>by omega)]),trivial⟩,rfl,rfl⟩
  have hk:0<=k/\k<=4:=by omega
  obtain ⟨K,rfl⟩:∃K:Nat,k=(K:Int):=⟨k.toNat,by omega⟩
  have C:=col_ok hg
  have hg1:=C.gr.l1
  have hg2:=C.gr.l2
  have hB:=sumC_le g K (by omega) C.c1
  have eI:colI g (K:Int)=((sumC g K g.length / g.length:Nat):Int):=by rw [colI,if_pos ⟨hg,hk⟩,Int.toNat_natCast]
  rw [eI]
  refine ⟨Nat,fun a=>⟨[(0,.d sh (.sl (.sl .int)) g),(1,I (K:Nat)),(5,I (sumC g K a:Nat)),(19,.d sh (.sl (.sl .int)) g),(20,I g.length),(21,I (a:Nat))],[]⟩,fun a=>a<=g.length,fun a=>g.length-a,0,Nat.zero_le _,
   ⟨⟨rfl,rfl⟩,⟨rfl,rfl,rfl,rfl,rfl,rfl,trivial⟩,trivial⟩,fun a ha=>?_⟩
  dsimp only at ha
  refine ⟨fun h2=>?_,fun h2=>?_⟩
  .have ha2:a<g.length:=by omega
   have hB1:=hB (a+1) (by omega)
   refine ⟨a,rfl,ha2,[],false,_,_,impl_CountCycles sh (g.getD a []) (C.p a ha2),nd0,rfl,rfl,trivial,[],false,_,_,impl_power K (cycL (g.getD a [])).length (by omega) (C.c1 a ha2),nd0,rfl,rfl,trivial,?_⟩
   refine ⟨((sumC g K (a+1):Nat):Int),w64_eq (by rw [sumC];omega) (by omega) (by omega),?_⟩
   exact ⟨((a+1:Nat):Int),w64_eq (by omega) (by omega) (by omega),a+1,by dsimp only;omega,by dsimp only;omega,⟨rfl,rfl⟩,⟨rfl,rfl,rfl,rfl,rfl,rfl,trivial⟩,trivial⟩
  .obtain rfl:a=g.length:=by omega
   have hBg:=hB _ (Nat.le_refl _)
   have hd:sumC g K g.length / g.length<=sumC g K g.length:=Nat.div_le_self _ _
   refine ⟨by omega,((sumC g K g.length / g.length:Nat):Int),w64_eq (Int.ofNat_tdiv _ _) (Int.le_trans (by decide) (Int.natCast_nonneg _)) (by omega),?_⟩
   exact ⟨none,⟨rfl,trivial⟩,rfl,rfl⟩
 .exact ⟨none,⟨retI (by rw [colI,if_neg (fun e=>by rw [hg] at e;cases e.1)]),trivial⟩,rfl,rfl⟩
theorem div_lt64 (x y B:Nat) (h:x<=B) (hB:B<=9223372036854775807): -9223372036854775808<=((x / y:Nat):Int)/\((x / y:Nat):Int)<=9223372036854775807:=by
 have:x / y<=x:=Nat.div_le_self _ _
 exact ⟨Int.le_trans (by decide) (Int.natCast_nonneg _),by omega⟩
theorem colI_b (g:List (List Int)) (k:Int): -9223372036854775808<=colI g k/\colI g k<=9223372036854775807:=by
 unfold colI
 split
 .rename_i h
  have C:=col_ok h.1
  have hB:=sumC_le g k.toNat (by omega) C.c1 g.length (Nat.le_refl _)
  exact div_lt64 _ _ 125829120 (by have:=C.gr.l2;omega) (by omega)
 .omega
theorem cexI_b (g:List (List Int)) (k:Int): -9223372036854775808<=cexI g k/\cexI g k<=9223372036854775807:=by
 unfold cexI
 split
 .rename_i h
  have C:=cex_ok h.1 (k:=k.toNat) (by omega) (by omega)
  have hB:=sumG_le g (symL k.toNat) (fun b hb=>by have:=(C.s b hb).2;omega) C.sy.l2 C.c1 g.length (Nat.le_refl _)
  exact div_lt64 _ _ 15099494400 (by have:=C.gr.l2;omega) (by omega)
 .omega
def clnS (g:List (List Int)) (k:Int):List UInt8:=if gokB g=true/\1<=k/\k<=4 then
 ((((([111,114,100,101,114,32]++fmtI (g.length:Int))++[32,99,111,108,111,114,105,110,103,115,32])++fmtI (colI g k))++[32,101,120,99,104,97,110,103,101,100,32])++fmtI (cexI g k)) else [110,111,110,101]
theorem fI_len (n:Int) (h: -9223372036854775808<=n/\n<=9223372036854775807):(fmtI n).length<=30:=Nat.le_trans (fmtI_len n h.1 h.2) (by decide)
theorem spec_CountLine (sh:Bool) (g:List (List Int)) (k:Int) (hl:g.length<=1048576) (hx:∀i,i<g.length->(g.getD i []).length<=1048576):AC Tryz.prog 122 [.d sh (.sl (.sl .int)) g,I k] [] [.d true .str (clnS g k)] []:=by
 have b1:=colI_b g k
 have b2:=cexI_b g k
 have l0:=fI_len (g.length:Int) (by omega)
 have l1:=fI_len (colI g k) b1
 have l2:=fI_len (cexI g k) b2
 refine AC_of tauOk 29 0 [4] Tryz.func122 rfl (by kernel_rfl) rfl rfl rfl rfl rfl ?_
 refine ⟨[],false,_,_,spec_GroupOk sh g hl hx,nd0,rfl,rfl,trivial,fun hg=>?_,fun hg=>?_⟩
 .refine ⟨[],false,_,_,spec_l01In _ _ _,nd0,rfl,rfl,trivial,fun hk=>?_,fun hk=>?_⟩
  .simp only [Bool.and_eq_true,decide_eq_true_eq] at hk
   refine ⟨[],false,_,_,spec_FormatInt (g.length:Int) (by omega) (by omega),nd0,rfl,rfl,trivial,by simp only [List.length_append,List.length_cons,List.length_nil];omega,by simp only [List.length_append,List.length_cons,List.length_nil];omega,?_⟩
   refine ⟨[],false,_,_,spec_CountColorings sh g k hl hx,nd0,rfl,rfl,trivial,[],false,_,_,spec_FormatInt (colI g k) b1.1 b1.2,nd0,rfl,rfl,trivial,by simp only [List.length_append,List.length_cons,List.length_nil];omega,by simp only [List.length_append,List.length_cons,List.length_nil];omega,?_⟩
   refine ⟨[],false,_,_,spec_CountExchange sh g k hl hx,nd0,rfl,rfl,trivial,[],false,_,_,spec_FormatInt (cexI g k) b2.1 b2.2,nd0,rfl,rfl,trivial,by simp only [List.length_append,List.length_cons,List.length_nil];omega,?_⟩
   exact ⟨none,⟨retS (by rw [clnS,if_pos ⟨hg,hk⟩]),trivial⟩,rfl,rfl⟩
  .simp only [Bool.and_eq_false_iff,decide_eq_false_iff_not] at hk
   exact ⟨none,⟨retS (by rw [clnS,if_neg (fun e=>by omega)]),trivial⟩,rfl,rfl⟩
 .exact ⟨none,⟨retS (by rw [clnS,if_neg (fun e=>by rw [hg] at e;cases e.1)]),trivial⟩,rfl,rfl⟩
theorem impl_CountLine (sh:Bool) (g:List (List Int)) (k:Int) (hl:g.length<=1048576) (hx:∀i,i<g.length->(g.getD i []).length<=1048576):AC Tryz.prog 81 [.d sh (.sl (.sl .int)) g,I k] [] [.d true .str (clnS g k)] []:=by
 have b1:=colI_b g k
 have b2:=cexI_b g k
 have l0:=fI_len (g.length:Int) (by omega)
 have l1:=fI_len (colI g k) b1
 have l2:=fI_len (cexI g k) b2
 refine AC_of tauOk 29 0 [4] Tryz.func81 rfl (by kernel_rfl) rfl rfl rfl rfl rfl ?_
 refine ⟨[],false,_,_,impl_GroupOk sh g hl hx,nd0,rfl,rfl,trivial,fun hg=>?_,fun hg=>?_⟩
 .refine ⟨[],false,_,_,impl_isColors _,nd0,rfl,rfl,trivial,fun hk=>?_,fun hk=>?_⟩
  .simp only [Bool.and_eq_true,decide_eq_true_eq] at hk
   refine ⟨[],false,_,_,impl_FormatInt (g.length:Int) (by omega) (by omega),nd0,rfl,rfl,trivial,by simp only [List.length_append,List.length_cons,List.length_nil];omega,by simp only [List.length_append,List.length_cons,List.length_nil];omega,?_⟩
   refine ⟨[],false,_,_,impl_CountColorings sh g k hl hx,nd0,rfl,rfl,trivial,[],false,_,_,impl_FormatInt (colI g k) b1.1 b1.2,nd0,rfl,rfl,trivial,by simp only [List.length_append,List.length_cons,List.length_nil];omega,by simp only [List.length_append,List.length_cons,List.length_nil];omega,?_⟩
   refine ⟨[],false,_,_,impl_CountExchange sh g k hl hx,nd0,rfl,rfl,trivial,[],false,_,_,impl_FormatInt (cexI g k) b2.1 b2.2,nd0,rfl,rfl,trivial,by simp only [List.length_append,List.length_cons,List.length_nil];omega,?_⟩
   exact ⟨none,⟨retS (by rw [clnS,if_pos ⟨hg,hk⟩]),trivial⟩,rfl,rfl⟩
  .simp only [Bool.and_eq_false_iff,decide_eq_false_iff_not] at hk
   exact ⟨none,⟨retS (by rw [clnS,if_neg (fun e=>by omega)]),trivial⟩,rfl,rfl⟩
 .exact ⟨none,⟨retS (by rw [clnS,if_neg (fun e=>by rw [hg] at e;cases e.1)]),trivial⟩,rfl,rfl⟩
theorem impl_act (s1 s2:Bool) (p xs:List Int) (hP:PermP p) (hl:p.length=xs.length):AC Tryz.prog 264 [.d s1 (.sl .int) p,.d s2 (.sl .int) xs] [] [.ow 0] [.sl 3 .int (actL p xs)]:=by
 have h10:=hP.1
 refine AC_of tauOk 27 0 [4] Tryz.func264 rfl (by kernel_rfl) rfl rfl rfl rfl rfl ?_
 refine ⟨_,_,rfl,rfl,Nat.le_refl _,by omega,?_⟩
 refine ⟨Nat,fun k=>⟨[(0,.d s1 (.sl .int) p),(5,.ow 0),(11,.d s2 (.sl .int) xs),(12,I xs.length),(13,I (k:Nat))],[.sl 3 .int (actS p xs k)]⟩,fun k=>k<=xs.length,fun k=>xs.length-k,0,Nat.zero_le _,
  ⟨⟨rfl,rfl⟩,⟨rfl,rfl,rfl,rfl,rfl,trivial⟩,rfl,trivial⟩,fun k hk=>?_⟩
 dsimp only at hk
 refine ⟨fun h1=>?_,fun h1=>?_⟩
 .have hk2:k<xs.length:=by omega
  have hb:=(hP.2 k (by omega)).1
  refine ⟨k,rfl,hk2,k,rfl,by omega,(p.getD k 0).toNat,(show p.getD k 0=(((p.getD k 0).toNat:Nat):Int) by omega),(show (p.getD k 0).toNat<(actS p xs k).length by rw [actS_len];omega),?_⟩
  exact ⟨((k+1:Nat):Int),w64_eq (by omega) (by omega) (by omega),k+1,by dsimp only;omega,by dsimp only;omega,⟨rfl,rfl⟩,⟨rfl,rfl,rfl,rfl,rfl,trivial⟩,rowE rfl,trivial⟩
 .obtain rfl:k=xs.length:=by omega
  exact ⟨some 0,⟨⟨rfl,rfl⟩,trivial⟩,⟨rfl,rfl⟩,rfl⟩
theorem retDc {b c:List Int} (h:b=c):(AV.d true (.sl .int) b)=.d true (.sl .int) c:=by rw [h]
theorem cexK_len {g:List (List Int)} {xs:List Int} (hg:∀i,i<g.length->PermP (g.getD i [])/\(g.getD i []).length=xs.length) (hc:ColP xs):∀k,k<=g.length->(bstF (fun p=>firstL (actL p xs)) (firstL xs) g k).length=xs.length:=fun k hk=>by
 rcases bst_mem (fun p=>firstL (actL p xs)) (firstL xs) g k with h|⟨i,hi,h⟩
 .rw [h,firstL_len _ hc]
 .obtain ⟨h1,h2⟩:=hg i (by omega)
  rw [h,firstL_len _ (act_col h1 h2 hc),actL_len]
theorem impl_canonExchange_d (sh s2:Bool) (g:List (List Int)) (xs:List Int) (hg:∀i,i<g.length->PermP (g.getD i [])/\(g.getD i []).length=xs.length) (hgl:g.length<=1048576) (hc:ColP xs):
 AC Tryz.prog 178 [.d sh (.sl (.sl .int)) g,.d s2 (.sl .int) xs] [] [.d true (.sl .int) (cexL g xs)] []:=by
 have hcl:=hc.2
 have hbl:=cexK_len hg hc
 refine AC_of tauOk 28 0 [4] Tryz.func178 rfl (by kernel_rfl) rfl rfl rfl rfl rfl ?_
 refine ⟨[],true,_,_,impl_leastExchange s2 xs hc,nd0,rfl,rfl,trivial,?_⟩
 refine ⟨Nat,fun k=>⟨[(1,.d s2 (.sl .int) xs),(5,.d true (.sl .int) (bstF (fun p=>firstL (actL p xs)) (firstL xs) g k)),(11,.d sh (.sl (.sl .int)) g),(12,I g.length),(13,I (k:Nat))],[]⟩,fun k=>k<=g.length,fun k=>g.length-k,0,Nat.zero_le _,
  ⟨⟨rfl,rfl⟩,⟨rfl,rfl,rfl,rfl,rfl,trivial⟩,trivial⟩,fun k hk=>?_⟩
 dsimp only at hk
 refine ⟨fun h1=>?_,fun h1=>?_⟩
 .have hk2:k<g.length:=by omega
  obtain ⟨hP,hl⟩:=hg k hk2
  have hbk:=hbl k hk
  have hx1:=firstL_len _ (act_col hP hl hc)
  rw [actL_len] at hx1
  refine ⟨k,rfl,hk2,[],true,_,_,impl_act sh s2 (g.getD k []) xs hP hl,nd0,rfl,rfl,trivial,[],true,_,_,impl_leastExchange true (actL (g.getD k []) xs) (act_col hP hl hc),nd0,rfl,rfl,trivial,?_⟩
  refine ⟨[],false,_,_,slices_Compare_int true true (firstL (actL (g.getD k []) xs)) (bstF (fun p=>firstL (actL p xs)) (firstL xs) g k) (by omega) (by omega),nd0,rfl,rfl,trivial,fun h2=>?_,fun h2=>?_⟩
  .have e:bstF (fun p=>firstL (actL p xs)) (firstL xs) g (k+1)=firstL (actL (g.getD k []) xs):=by rw [bstF,if_pos h2]
   exact ⟨((k+1:Nat):Int),w64_eq (by omega) (by omega) (by omega),k+1,by dsimp only;omega,by dsimp only;omega,⟨rfl,rfl⟩,⟨rfl,retDc e.symm,rfl,rfl,rfl,trivial⟩,trivial⟩
  .have e:bstF (fun p=>firstL (actL p xs)) (firstL xs) g (k+1)=bstF (fun p=>firstL (actL p xs)) (firstL xs) g k:=by rw [bstF,if_neg h2]
   exact ⟨((k+1:Nat):Int),w64_eq (by omega) (by omega) (by omega),k+1,by dsimp only;omega,by dsimp only;omega,⟨rfl,rfl⟩,⟨rfl,retDc e.symm,rfl,rfl,rfl,trivial⟩,trivial⟩
 .obtain rfl:k=g.length:=by omega
  exact ⟨none,⟨rfl,trivial⟩,rfl,rfl⟩
def smallB (n:Nat) (k:Int):Bool:=(decide (1<=k) && decide (k<=4)) && decide (k.toNat ^ n<=1024)
theorem impl_isSmall (n:Nat) (k:Int) (hn:n<=10):AC Tryz.prog 176 [I (n:Nat),I k] [] [.d true .bool (smallB n k)] []:=by
 refine AC_of tauOk 17 0 [4] Tryz.func176 rfl (by kernel_rfl) rfl rfl rfl rfl rfl ?_
 refine ⟨fun h1=>?_,fun h1=>?_⟩
 .refine ⟨fun h2=>?_,fun h2=>?_⟩
  .obtain ⟨K,rfl⟩:∃K:Nat,k=(K:Int):=⟨k.toNat,by omega⟩
   refine ⟨[],false,_,_,impl_power K n (by omega) hn,nd0,rfl,rfl,trivial,fun h3=>?_,fun h3=>?_⟩
   .exact ⟨none,⟨retB (by rw [smallB,decide_eq_true h1,decide_eq_true h2,Int.toNat_natCast,decide_eq_true (by omega)];rfl),trivial⟩,rfl,rfl⟩
   .exact ⟨none,⟨retB (by rw [smallB,decide_eq_true h1,decide_eq_true h2,Int.toNat_natCast,decide_eq_false (by omega)];rfl),trivial⟩,rfl,rfl⟩
  .exact ⟨none,⟨retB (by rw [smallB,decide_eq_true h1,decide_eq_false h2];rfl),trivial⟩,rfl,rfl⟩
 .exact ⟨none,⟨retB (by rw [smallB,decide_eq_false h1];rfl),trivial⟩,rfl,rfl⟩
theorem slices_Clone_no (sh:Bool):AC Tryz.prog 57 [.d sh (.sl .int) []] [] [.x .emp] []:=by
 cases sh<;>(
 refine AC_of tauOk 8 0 [2] Tryz.func57 rfl (by kernel_rfl) rfl rfl rfl rfl rfl ?_
 refine ⟨fun h=>?_,fun _=>?_⟩
 .exact ⟨none,⟨trivial,trivial⟩,rfl,rfl⟩
 .refine ⟨rfl,by decide,.e,rfl,?_⟩
  exact ⟨none,⟨rfl,trivial⟩,rfl,rfl⟩)
def extW (k:Nat) (l:List (List Int)):List (List Int):=l.flatMap fun w=>(List.range k).map fun (x:Nat)=>w++[(x:Int)]
theorem extW_len (k:Nat) (l:List (List Int)):(extW k l).length=l.length*k:=by
 induction l with
 |nil=>simp [extW]
 |cons w l ih=>rw [extW,List.flatMap_cons,List.length_append,List.length_map,List.length_range,<-extW,ih,List.length_cons,Nat.succ_mul];omega
theorem extW_s (k:Nat) (l:List (List Int)) (i:Nat) (hi:i<l.length):extW k (l.take (i+1))=extW k (l.take i)++(List.range k).map fun (x:Nat)=>l.getD i []++[(x:Int)]:=by
 rw [L_succ l i [] hi,extW,List.flatMap_append];simp [extW]
theorem rng_s (w:List Int) (x:Nat):((List.range (x+1)).map fun (x:Nat)=>w++[(x:Int)])=((List.range x).map fun (x:Nat)=>w++[(x:Int)])++[w++[(x:Int)]]:=by
 rw [List.range_succ,List.map_append];rfl
theorem impl_wordsOf (n k:Nat) (hn:n<=10) (hk:k<=4):AC Tryz.prog 177 [I (n:Nat),I (k:Nat)] [] [.d true (.sl (.sl .int)) (wordsL k n)] []:=by
 have hp:∀j,j<=n->k ^ j<=1048576:=fun j hj=>pow_le hk (show j<=10 by omega) (Nat.le_refl 10)
 refine AC_of tauOk 39 0 [4] Tryz.func177 rfl (by kernel_rfl) rfl rfl rfl rfl rfl ?_
 refine ⟨rfl,by decide,false,rfl,by decide,false,?_⟩
 refine ⟨Nat,fun j=>⟨[(1,I (k:Nat)),(5,.d true (.sl (.sl .int)) (wordsL k j)),(12,I (n:Nat)),(13,I (j:Nat))],[]⟩,fun j=>j<=n,fun j=>n-j,0,Nat.zero_le _,
  ⟨⟨rfl,rfl⟩,⟨rfl,rfl,rfl,rfl,trivial⟩,trivial⟩,fun j hj=>?_⟩
 dsimp only at hj
 have hwl:=wordsL_len k j
 have hpj:=hp j hj
 have hwg:∀i,i<(wordsL k j).length->((wordsL k j).getD i []).length=j:=fun i hi=>by
  rw [hwl] at hi;rw [wordsL_get k j i hi,wrdN_len]
 have hws:wordsL k (j+1)=extW k (wordsL k j):=rfl
 refine ⟨fun h1=>?_,fun h1=>?_⟩
 .refine ⟨rfl,by decide,true,?_⟩
  refine ⟨Nat,fun i=>⟨[(1,I (k:Nat)),(6,.ow 0),(12,I (n:Nat)),(13,I (j:Nat)),(16,.d true (.sl (.sl .int)) (wordsL k j)),(17,I (wordsL k j).length),(18,I (i:Nat))],[.sl 29 (.sl .int) (extW k ((wordsL k j).take i))]⟩,fun i=>i<=(wordsL k j).length,fun i=>(wordsL k j).length-i,0,Nat.zero_le _,
   ⟨⟨rfl,rfl⟩,⟨rfl,rfl,rfl,rfl,rfl,rfl,rfl,trivial⟩,rfl,trivial⟩,fun i hi=>?_⟩
  dsimp only at hi
  have hel:=extW_len k ((wordsL k j).take i)
  have hik:((wordsL k j).take i).length*k<=1048576*4:=Nat.mul_le_mul (by rw [List.length_take];omega) hk
  refine ⟨fun h2=>?_,fun h2=>?_⟩
  .have hi2:i<(wordsL k j).length:=by omega
   refine ⟨i,rfl,hi2,?_⟩
   have hwi:=hwg i hi2
   have hes:=extW_s k (wordsL k j) i hi2
   refine ⟨Nat,fun x=>⟨[(1,I (k:Nat)),(6,.ow 0),(8,.d true (.sl .int) ((wordsL k j).getD i [])),(12,I (n:Nat)),(13,I (j:Nat)),(16,.d true (.sl (.sl .int)) (wordsL k j)),(17,I (wordsL k j).length),(18,I (i:Nat)),(22,I (k:Nat)),(23,I (x:Nat))],[.sl 29 (.sl .int) (extW k ((wordsL k j).take i)++(List.range x).map fun (x:Nat)=>((wordsL k j).getD i [])++[(x:Int)])]⟩,fun x=>x<=k,fun x=>k-x,0,Nat.zero_le _,
    ⟨⟨rfl,rfl⟩,⟨rfl,rfl,rfl,rfl,rfl,rfl,rfl,rfl,rfl,rfl,trivial⟩,rowE (by simp),trivial⟩,fun x hx=>?_⟩
   dsimp only at hx
   refine ⟨fun h3=>?_,fun h3=>?_⟩
   .by_cases h0:(wordsL k j).getD i []=[]
    .have hcn:=slices_Clone_no true
     rw [<-h0] at hcn
     refine ⟨[],false,_,_,hcn,nd0,rfl,rfl,trivial,?_⟩
     refine ⟨rfl,by decide,false,?_⟩
     refine ⟨(by decide:1<=1099511627776),?_⟩
     refine ⟨rfl,rfl,by decide,false,?_⟩
     refine ⟨rfl,Nat.zero_le _,rfl,?_,rfl,?_⟩
     .simp only [List.length_append,List.length_map,List.length_range,List.length_cons,List.length_nil];omega
     .exact ⟨((x+1:Nat):Int),w64_eq (by omega) (by omega) (by omega),x+1,by dsimp only;omega,by dsimp only;omega,⟨rfl,rfl⟩,⟨rfl,rfl,rfl,rfl,rfl,rfl,rfl,rfl,rfl,rfl,trivial⟩,rowE (by rw [rng_s,List.append_assoc,h0];rfl),trivial⟩
    .refine ⟨[],false,_,_,slices_Clone_int true ((wordsL k j).getD i []) (by omega) h0,nd0,rfl,rfl,trivial,?_⟩
     refine ⟨rfl,by decide,false,?_⟩
     refine ⟨rfl,Nat.zero_le _,rfl,?_,rfl,?_⟩
     .simp only [List.length_cons,List.length_nil];omega
     refine ⟨rfl,rfl,by decide,false,?_⟩
     refine ⟨rfl,Nat.zero_le _,rfl,?_,rfl,?_⟩
     .simp only [List.length_append,List.length_map,List.length_range,List.length_cons,List.length_nil];omega
     .exact ⟨((x+1:Nat):Int),w64_eq (by omega) (by omega) (by omega),x+1,by dsimp only;omega,by dsimp only;omega,⟨rfl,rfl⟩,⟨rfl,rfl,rfl,rfl,rfl,rfl,rfl,rfl,rfl,rfl,trivial⟩,rowE (by rw [rng_s,List.append_assoc]),trivial⟩
   .obtain rfl:x=k:=by omega
    exact ⟨((i+1:Nat):Int),w64_eq (by omega) (by omega) (by omega),i+1,by dsimp only;omega,by dsimp only;omega,⟨rfl,rfl⟩,⟨rfl,rfl,rfl,rfl,rfl,rfl,rfl,trivial⟩,rowE hes.symm,trivial⟩
  .obtain rfl:i=(wordsL k j).length:=by omega
   exact ⟨((j+1:Nat):Int),w64_eq (by omega) (by omega) (by omega),j+1,by dsimp only;omega,by dsimp only;omega,⟨rfl,rfl⟩,⟨rfl,⟨rfl,rfl,by rw [hws,List.take_length]⟩,rfl,rfl,trivial⟩,trivial⟩
 .obtain rfl:j=n:=by omega
  exact ⟨none,⟨rfl,trivial⟩,rfl,rfl⟩
def expS (g:List (List Int)) (k n i:Nat):List (List Int):=((wordsL k n).take i).filter fun w=>decide (cexL g w=w)
theorem expS_y (g:List (List Int)) (k n i:Nat) (hi:i<(wordsL k n).length) (h:cexL g ((wordsL k n).getD i [])=(wordsL k n).getD i []):expS g k n (i+1)=expS g k n i++[(wordsL k n).getD i []]:=by
 rw [expS,L_succ _ i [] hi,List.filter_append,List.filter_cons_of_pos (by rw [decide_eq_true_eq];exact h)];rfl
theorem expS_n (g:List (List Int)) (k n i:Nat) (hi:i<(wordsL k n).length) (h:¬cexL g ((wordsL k n).getD i [])=(wordsL k n).getD i []):expS g k n (i+1)=expS g k n i:=by
 rw [expS,L_succ _ i [] hi,List.filter_append,List.filter_cons_of_neg (by rw [decide_eq_true_eq];exact h)];simp [expS]
theorem expS_le (g:List (List Int)) (k n i:Nat):(expS g k n i).length<=i:=Nat.le_trans (List.length_filter_le _ _) (by rw [List.length_take];omega)
theorem wrd_col {k n i:Nat} (h1:1<=n) (h2:n<=10) (h4:k<=4) (hi:i<(wordsL k n).length):ColP ((wordsL k n).getD i []):=by
 rw [getD_get _ _ _ hi]
 exact col_of h1 h2 h4 (List.getElem_mem hi)
theorem impl_ExchangePatterns_d (sh:Bool) (g:List (List Int)) (K:Nat) (hl:g.length<=1048576) (hx:∀i,i<g.length->(g.getD i []).length<=1048576) (hB:gokB g=true) (hS:smallB (g.getD 0 []).length (K:Nat)=true):
 AC Tryz.prog 83 [.d sh (.sl (.sl .int)) g,I (K:Nat)] [] [.ow 0,.d true .bool true] [.sl 29 (.sl .int) (expL g K (g.getD 0 []).length)]:=by
 have hG:=(gokB_iff g).1 hB
 have hg0:0<g.length:=by have:=hG.l1;omega
 have hp0:=(gok1_p (hG.o1 0 hg0)).1.1
 have hgp:∀i,i<g.length->PermP (g.getD i [])/\(g.getD i []).length=(g.getD 0 []).length:=fun i hi=>⟨(gok1_p (hG.o1 i hi)).1,(gok1_p (hG.o1 i hi)).2.1⟩
 have hK:K<=4:=by
  unfold smallB at hS
  simp only [Bool.and_eq_true,decide_eq_true_eq] at hS
  omega
 have hSm:=impl_isSmall (g.getD 0 []).length (K:Nat) hp0.2
 rw [hS] at hSm
 have hwl:=wordsL_len K (g.getD 0 []).length
 have hpw:K ^ (g.getD 0 []).length<=1048576:=pow_le hK hp0.2 (Nat.le_refl 10)
 have hwc:∀i,i<(wordsL K (g.getD 0 []).length).length->ColP ((wordsL K (g.getD 0 []).length).getD i [])/\((wordsL K (g.getD 0 []).length).getD i []).length=(g.getD 0 []).length:=fun i hi=>by
  refine ⟨wrd_col hp0.1 hp0.2 hK hi,?_⟩
  rw [hwl] at hi
  rw [wordsL_get _ _ _ hi,wrdN_len]
 have hye:=expS_y g K (g.getD 0 []).length
 have hno:=expS_n g K (g.getD 0 []).length
 have hle:=expS_le g K (g.getD 0 []).length
 have h00:expS g K (g.getD 0 []).length 0=[]:=by simp [expS]
 have hend:expS g K (g.getD 0 []).length (wordsL K (g.getD 0 []).length).length=expL g K (g.getD 0 []).length:=by rw [expS,List.take_length];rfl
 refine AC_of tauOk 44 0 [4,5] Tryz.func83 rfl (by kernel_rfl) rfl rfl rfl rfl rfl ?_
 refine ⟨[],false,_,_,impl_GroupOk sh g hl hx,nd0,rfl,rfl,trivial,fun _=>?_,fun h=>by rw [hB] at h;cases h⟩
 refine ⟨0,rfl,hg0,[],false,_,_,hSm,nd0,rfl,rfl,trivial,fun _=>?_,nofun⟩
 refine ⟨rfl,by decide,true,?_⟩
 refine ⟨0,rfl,hg0,[],false,_,_,impl_wordsOf (g.getD 0 []).length K hp0.2 hK,nd0,rfl,rfl,trivial,?_⟩
 generalize wordsL K (g.getD 0 []).length=W at*
 refine ⟨Nat,fun i=>⟨[(0,.d sh (.sl (.sl .int)) g),(6,.ow 0),(27,.d true (.sl (.sl .int)) W),(28,I W.length),(29,I (i:Nat))],[.sl 29 (.sl .int) (expS g K (g.getD 0 []).length i)]⟩,fun i=>i<=W.length,fun i=>W.length-i,0,Nat.zero_le _,
  ⟨⟨rfl,rfl⟩,⟨rfl,rfl,rfl,rfl,rfl,trivial⟩,rowE h00.symm,trivial⟩,fun i hi=>?_⟩
 dsimp only at hi
 have hlei:=hle i
 refine ⟨fun h2=>?_,fun h2=>?_⟩
 .have hi2:i<W.length:=by omega
  obtain ⟨hc,hcl⟩:=hwc i hi2
  have hy:=hye i hi2
  have hn:=hno i hi2
  have hl10:=hc.2
  refine ⟨i,rfl,hi2,?_⟩
  have hgv:∀a,a<g.length->PermP (g.getD a [])/\(g.getD a []).length=(W.getD i []).length:=fun a ha=>by rw [hcl];exact hgp a ha
  have hce:=cexK_len hgv hc g.length (Nat.le_refl _)
  have hce:(cexL g (W.getD i [])).length=(W.getD i []).length:=hce
  refine ⟨[],false,_,_,impl_canonExchange_d sh true g (W.getD i []) hgv hl hc,nd0,rfl,rfl,trivial,?_⟩
  refine ⟨[],false,_,_,slices_Equal_int true true (cexL g (W.getD i [])) (W.getD i []) (by omega) (by omega),nd0,rfl,rfl,trivial,fun h3=>?_,fun h3=>?_⟩
  .have h3:=of_decide_eq_true h3
   refine ⟨rfl,by decide,false,?_⟩
   refine ⟨rfl,Nat.zero_le _,rfl,?_,rfl,?_⟩
   .simp only [List.length_cons,List.length_nil];omega
   .exact ⟨((i+1:Nat):Int),w64_eq (by omega) (by omega) (by omega),i+1,by dsimp only;omega,by dsimp only;omega,⟨rfl,rfl⟩,⟨rfl,rfl,rfl,rfl,rfl,trivial⟩,rowE (hy h3).symm,trivial⟩
  .have h3:=of_decide_eq_false h3
   exact ⟨((i+1:Nat):Int),w64_eq (by omega) (by omega) (by omega),i+1,by dsimp only;omega,by dsimp only;omega,⟨rfl,rfl⟩,⟨rfl,rfl,rfl,rfl,rfl,trivial⟩,rowE (hn h3).symm,trivial⟩
 .obtain rfl:i=W.length:=by omega
  exact ⟨some 0,⟨⟨rfl,rfl⟩,rfl,trivial⟩,⟨rfl,rowsE hend⟩,rfl⟩
theorem impl_canon (sh s2:Bool) (g:List (List Int)) (xs:List Int) (hg:∀i,i<g.length->PermP (g.getD i [])/\(g.getD i []).length=xs.length) (hgl:g.length<=1048576) (hc:ColP xs):
 AC Tryz.prog 166 [.d sh (.sl (.sl .int)) g,.d s2 (.sl .int) xs] [] [.ow 0] [.sl 3 .int (canL g xs)]:=by
 have hcl:=hc.2
 have hbl:∀k,k<=g.length->(bstF (fun p=>actL p xs) xs g k).length=xs.length:=fun k hk=>by
  rcases bst_mem (fun p=>actL p xs) xs g k with h|⟨i,hi,h⟩
  .rw [h]
  .rw [h,actL_len]
 refine AC_of tauOk 27 0 [4] Tryz.func166 rfl (by kernel_rfl) rfl rfl rfl rfl rfl ?_
 refine ⟨Bool × Nat,fun z=>⟨[(1,.d s2 (.sl .int) xs),(5,.d z.1 (.sl .int) (bstF (fun p=>actL p xs) xs g z.2)),(10,.d sh (.sl (.sl .int)) g),(11,I g.length),(12,I (z.2:Nat))],[]⟩,fun z=>z.2<=g.length,fun z=>g.length-z.2,(s2,0),Nat.zero_le _,
  ⟨⟨rfl,rfl⟩,⟨rfl,rfl,rfl,rfl,rfl,trivial⟩,trivial⟩,fun z hk=>?_⟩
 obtain ⟨b,k⟩:=z
 dsimp only at hk ⊢
 refine ⟨fun h1=>?_,fun h1=>?_⟩
 .have hk2:k<g.length:=by omega
  obtain ⟨hP,hl⟩:=hg k hk2
  have hbk:=hbl k hk
  have hx1:=actL_len (g.getD k []) xs
  refine ⟨k,rfl,hk2,[],true,_,_,impl_act sh s2 (g.getD k []) xs hP hl,nd0,rfl,rfl,trivial,?_⟩
  refine ⟨[],false,_,_,slices_Compare_int true b (actL (g.getD k []) xs) (bstF (fun p=>actL p xs) xs g k) (by omega) (by omega),nd0,rfl,rfl,trivial,fun h2=>?_,fun h2=>?_⟩
  .have e:bstF (fun p=>actL p xs) xs g (k+1)=actL (g.getD k []) xs:=by rw [bstF,if_pos h2]
   exact ⟨((k+1:Nat):Int),w64_eq (by omega) (by omega) (by omega),(true,k+1),by dsimp only;omega,by dsimp only;omega,⟨rfl,rfl⟩,⟨rfl,retDc e.symm,rfl,rfl,rfl,trivial⟩,trivial⟩
  .have e:bstF (fun p=>actL p xs) xs g (k+1)=bstF (fun p=>actL p xs) xs g k:=by rw [bstF,if_neg h2]
   exact ⟨((k+1:Nat):Int),w64_eq (by omega) (by omega) (by omega),(b,k+1),by dsimp only;omega,by dsimp only;omega,⟨rfl,rfl⟩,⟨rfl,by rw [e];rfl,rfl,rfl,rfl,trivial⟩,trivial⟩
 .obtain rfl:k=g.length:=by omega
  have hbk:=hbl g.length hk
  refine ⟨[],false,_,_,slices_Clone_int b (bstF (fun p=>actL p xs) xs g g.length) (by omega) (fun e=>by rw [e] at hbk;simp at hbk;omega),nd0,rfl,rfl,trivial,?_⟩
  exact ⟨some 0,⟨⟨rfl,rfl⟩,trivial⟩,⟨rfl,rfl⟩,rfl⟩
def fitB (g:List (List Int)) (xs:List Int):Bool:=gokB g && (colB xs && decide ((g.getD 0 []).length=xs.length))
structure FitP (g:List (List Int)) (xs:List Int):Prop where
 gs:∀i,i<g.length->PermP (g.getD i [])/\(g.getD i []).length=xs.length
 x:ColP xs
 b:gokB g=true
 n:(g.getD 0 []).length=xs.length
theorem fit_of {g:List (List Int)} {xs:List Int} (h:fitB g xs=true):FitP g xs:=by
 unfold fitB at h
 simp only [Bool.and_eq_true,decide_eq_true_eq] at h
 obtain ⟨h1,h2,h3⟩:=h
 have hG:=(gokB_iff g).1 h1
 exact ⟨fun i hi=>⟨(gok1_p (hG.o1 i hi)).1,by rw [(gok1_p (hG.o1 i hi)).2.1,h3]⟩,(colB_iff xs).1 h2,h1,h3⟩
theorem impl_CanonOf_both (s1 s2:Bool) (g:List (List Int)) (xs:List Int) (hl:g.length<=1048576) (hx:∀i,i<g.length->(g.getD i []).length<=1048576) (hl2:xs.length<=1048576) (r:List AV) (rr:List Row)
 (hno:fitB g xs=false->r=[.nil,.d true .bool false]/\rr=[]) (hyes:fitB g xs=true->r=[.ow 0,.d true .bool true]/\rr=[.sl 3 .int (canL g xs)]):
 AC Tryz.prog 74 [.d s1 (.sl (.sl .int)) g,.d s2 (.sl .int) xs] [] r rr:=by
 refine AC_of tauOk 26 0 [4,5] Tryz.func74 rfl (by kernel_rfl) rfl rfl rfl rfl rfl ?_
 refine ⟨[],false,_,_,impl_GroupOk s1 g hl hx,nd0,rfl,rfl,trivial,fun h1=>?_,fun h1=>?_⟩
 .have hg0:0<g.length:=by have:=((gokB_iff g).1 h1).l1;omega
  refine ⟨[],false,_,_,impl_ColoringOk s2 xs hl2,nd0,rfl,rfl,trivial,fun h2=>?_,fun h2=>?_⟩
  .refine ⟨0,rfl,hg0,fun h3=>?_,fun h3=>?_⟩
   .obtain ⟨rfl,rfl⟩:=hno (by rw [fitB,h1,h2,decide_eq_false (by omega)];rfl)
    exact ⟨none,⟨rfl,rfl,trivial⟩,rfl,rfl⟩
   .have he:fitB g xs=true:=by rw [fitB,h1,h2,decide_eq_true (by omega)];rfl
    have hF:=fit_of he
    obtain ⟨rfl,rfl⟩:=hyes he
    refine ⟨[],false,_,_,impl_canon s1 s2 g xs hF.gs hl hF.x,nd0,rfl,rfl,trivial,?_⟩
    exact ⟨some 0,⟨⟨rfl,rfl⟩,rfl,trivial⟩,⟨rfl,rfl⟩,rfl⟩
  .obtain ⟨rfl,rfl⟩:=hno (by rw [fitB,h2];simp)
   exact ⟨none,⟨rfl,rfl,trivial⟩,rfl,rfl⟩
 .obtain ⟨rfl,rfl⟩:=hno (by rw [fitB,h1];simp)
  exact ⟨none,⟨rfl,rfl,trivial⟩,rfl,rfl⟩
theorem impl_CanonOf (s1 s2:Bool) (g:List (List Int)) (xs:List Int) (hl:g.length<=1048576) (hx:∀i,i<g.length->(g.getD i []).length<=1048576) (hl2:xs.length<=1048576) (hc:fitB g xs=true):
 AC Tryz.prog 74 [.d s1 (.sl (.sl .int)) g,.d s2 (.sl .int) xs] [] [.ow 0,.d true .bool true] [.sl 3 .int (canL g xs)]:=
 impl_CanonOf_both s1 s2 g xs hl hx hl2 _ _ (fun h=>by rw [hc] at h;cases h) (fun _=>⟨rfl,rfl⟩)
theorem impl_CanonOf_no (s1 s2:Bool) (g:List (List Int)) (xs:List Int) (hl:g.length<=1048576) (hx:∀i,i<g.length->(g.getD i []).length<=1048576) (hl2:xs.length<=1048576) (hc:fitB g xs=false):
 AC Tryz.prog 74 [.d s1 (.sl (.sl .int)) g,.d s2 (.sl .int) xs] [] [.nil,.d true .bool false] []:=
 impl_CanonOf_both s1 s2 g xs hl hx hl2 _ _ (fun _=>⟨rfl,rfl⟩) (fun h=>by rw [hc] at h;cases h)
theorem perm_bd {g:List (List Int)} (hB:gokB g=true):(1<=g.length/\g.length<=120)/\∀i,i<g.length->PermP (g.getD i [])/\(g.getD i []).length=(g.getD 0 []).length:=by
 have hG:=(gokB_iff g).1 hB
 have h1:=hG.l1
 have h2:=hG.l2
 exact ⟨⟨by omega,by omega⟩,fun i hi=>⟨(gok1_p (hG.o1 i hi)).1,(gok1_p (hG.o1 i hi)).2.1⟩⟩
theorem impl_inverse (s1:Bool) (p:List Int) (hP:PermP p):AC Tryz.prog 159 [.d s1 (.sl .int) p] [] [.ow 0] [.sl 3 .int (actL p (idL p.length))]:=by
 have h10:=hP.1
 have hil:=idLlen p.length
 have hlen:=actS_len p (idL p.length)
 have h0:actS p (idL p.length) 0=List.replicate p.length 0:=by rw [actS,hil]
 have hend:actS p (idL p.length) p.length=actL p (idL p.length):=by rw [actL,hil]
 have hs:∀k,k<p.length->actS p (idL p.length) (k+1)=(actS p (idL p.length) k).set (p.getD k 0).toNat (k:Int):=fun k hk=>by
  rw [actS,idL_at _ _ hk]
 refine AC_of tauOk 22 0 [2] Tryz.func159 rfl (by kernel_rfl) rfl rfl rfl rfl rfl ?_
 refine ⟨_,_,rfl,rfl,Nat.le_refl _,by omega,?_⟩
 refine ⟨Nat,fun k=>⟨[(3,.ow 0),(9,.d s1 (.sl .int) p),(10,I p.length),(11,I (k:Nat))],[.sl 3 .int (actS p (idL p.length) k)]⟩,fun k=>k<=p.length,fun k=>p.length-k,0,Nat.zero_le _,
  ⟨⟨rfl,rfl⟩,⟨rfl,rfl,rfl,rfl,trivial⟩,rowE h0.symm,trivial⟩,fun k hk=>?_⟩
 dsimp only at hk
 refine ⟨fun h1=>?_,fun h1=>?_⟩
 .have hk2:k<p.length:=by omega
  have hb:=(hP.2 k (by omega)).1
  have hlk:=hlen k
  refine ⟨k,rfl,hk2,(p.getD k 0).toNat,(show p.getD k 0=(((p.getD k 0).toNat:Nat):Int) by omega),(by omega),?_⟩
  exact ⟨((k+1:Nat):Int),w64_eq (by omega) (by omega) (by omega),k+1,by first|omega|(dsimp only;omega),by first|omega|(dsimp only;omega),⟨rfl,rfl⟩,⟨rfl,rfl,rfl,rfl,trivial⟩,rowE (hs k hk2).symm,trivial⟩
 .obtain rfl:k=p.length:=by omega
  exact ⟨some 0,⟨⟨rfl,rfl⟩,trivial⟩,⟨rfl,rowsE hend⟩,rfl⟩
def ctsS (g:List (List Int)) (c:List Int):Nat->Nat:=sumTo fun a=>waysN (cycL (g.getD a [])) c
def ctsN (g:List (List Int)) (c:List Int):Nat:=ctsS g c g.length / g.length
theorem ways_b {q c:List Int} (hq:PermP q) (hc:c.length=2):waysN (cycL q) c<=1024:=by
 have h1:=waysN_le 2 (cycL q) c hc
 have h2:=(cyc_small hq).1
 exact Nat.le_trans h1 (Nat.le_trans (Nat.pow_le_pow_right (by decide) h2) (by decide))
theorem impl_CountContents (sh s2:Bool) (g:List (List Int)) (c:List Int) (hB:gokB g=true) (hc:ConP c (g.getD 0 []).length):AC Tryz.prog 160 [.d sh (.sl (.sl .int)) g,.d s2 (.sl .int) c] [] [I (ctsN g c:Nat)] []:=by
 obtain ⟨⟨hg1,hg2⟩,hgp⟩:=perm_bd hB
 have hx:∀i,i<g.length->(g.getD i []).length<=1048576:=fun i hi=>by have:=(hgp i hi).1.1;omega
 have hG:=impl_GroupOk sh g (by omega) hx
 rw [hB] at hG
 have hb:∀j,j<=g.length->ctsS g c j<=j*1024:=fun j hj=>sumTo_le _ _ _ fun i hi=>ways_b (hgp i (by omega)).1 hc.l2
 refine AC_of tauOk 27 0 [4] Tryz.func160 rfl (by kernel_rfl) rfl rfl rfl rfl rfl ?_
 refine ⟨[],false,_,_,hG,nd0,rfl,rfl,trivial,fun _=>?_,nofun⟩
 refine ⟨Nat,fun k=>⟨[(0,.d sh (.sl (.sl .int)) g),(1,.d s2 (.sl .int) c),(5,I (ctsS g c k:Nat)),(11,.d sh (.sl (.sl .int)) g),(12,I g.length),(13,I (k:Nat))],[]⟩,fun k=>k<=g.length,fun k=>g.length-k,0,Nat.zero_le _,
  ⟨⟨rfl,rfl⟩,⟨rfl,rfl,rfl,rfl,rfl,rfl,trivial⟩,trivial⟩,fun k hk=>?_⟩
 dsimp only at hk
 have hbk:=hb k hk
 refine ⟨fun h1=>?_,fun h1=>?_⟩
 .have hk2:k<g.length:=by omega
  obtain ⟨hP,hl⟩:=hgp k hk2
  have hb1:=hb (k+1) hk2
  refine ⟨k,rfl,hk2,[],false,_,_,impl_CountFixed sh s2 (g.getD k []) c hP (by rw [hl];exact hc),nd0,rfl,rfl,trivial,?_⟩
  refine ⟨((ctsS g c (k+1):Nat):Int),w64_eq (by rw [show ctsS g c (k+1)=ctsS g c k+waysN (cycL (g.getD k [])) c from rfl];omega) (by omega) (by omega),?_⟩
  exact ⟨((k+1:Nat):Int),w64_eq (by omega) (by omega) (by omega),k+1,by first|omega|(dsimp only;omega),by first|omega|(dsimp only;omega),⟨rfl,rfl⟩,⟨rfl,rfl,rfl,rfl,rfl,rfl,trivial⟩,trivial⟩
 .obtain rfl:k=g.length:=by omega
  have hd:ctsN g c<=ctsS g c g.length:=Nat.div_le_self _ _
  refine ⟨by omega,((ctsN g c:Nat):Int),w64_eq (Int.ofNat_tdiv _ _) (by omega) (by omega),?_⟩
  exact ⟨none,⟨rfl,trivial⟩,rfl,rfl⟩
def twoS (g:List (List Int)) (k:Nat):List Int:=(List.range k).map fun e=>(ctsN g [(((g.getD 0 []).length-e:Nat):Int),(e:Int)]:Int)
def twoL (g:List (List Int)):List Int:=if gokB g then twoS g ((g.getD 0 []).length+1) else []
theorem twoS_s (g:List (List Int)) (k:Nat):twoS g (k+1)=twoS g k++[(ctsN g [(((g.getD 0 []).length-k:Nat):Int),(k:Int)]:Int)]:=by
 rw [twoS,List.range_succ,List.map_append];rfl
theorem impl_TwoColors (sh:Bool) (g:List (List Int)) (hgl:g.length<=1048576) (hx:∀i,i<g.length->(g.getD i []).length<=1048576):AC Tryz.prog 67 [.d sh (.sl (.sl .int)) g] [] [.ow 0] [.sl 3 .int (twoL g)]:=by
 refine AC_of tauOk 33 0 [2] Tryz.func67 rfl (by kernel_rfl) rfl rfl rfl rfl rfl ?_
 refine ⟨rfl,by decide,true,?_⟩
 refine ⟨[],false,_,_,impl_GroupOk sh g hgl hx,nd0,rfl,rfl,trivial,fun hB=>?_,fun hB=>?_⟩
 .obtain ⟨⟨hg1,hg2⟩,hgp⟩:=perm_bd hB
  have hn:=(hgp 0 (by omega)).1.1
  have e:twoL g=twoS g ((g.getD 0 []).length+1):=by rw [twoL,if_pos hB]
  rw [e]
  refine ⟨0,rfl,by omega,(((g.getD 0 []).length+1:Nat):Int),w64_eq (by omega) (by omega) (by omega),?_⟩
  refine ⟨Nat,fun k=>⟨[(0,.d sh (.sl (.sl .int)) g),(3,.ow 0),(14,I (((g.getD 0 []).length+1:Nat):Int)),(15,I (k:Nat))],[.sl 3 .int (twoS g k)]⟩,fun k=>k<=(g.getD 0 []).length+1,fun k=>(g.getD 0 []).length+1-k,0,Nat.zero_le _,
   ⟨⟨rfl,rfl⟩,⟨rfl,rfl,rfl,rfl,trivial⟩,rfl,trivial⟩,fun k hk=>?_⟩
  dsimp only at hk
  have htl:(twoS g k).length=k:=by simp [twoS]
  refine ⟨fun h1=>?_,fun h1=>?_⟩
  .have hk2:k<=(g.getD 0 []).length:=by omega
   have hts:=twoS_s g k
   have hC:=con_of (g.getD 0 []).length k (by omega) hk2
   refine ⟨0,rfl,by omega,(((g.getD 0 []).length-k:Nat):Int),w64_eq (by omega) (by omega) (by omega),?_⟩
   refine ⟨rfl,by decide,false,?_⟩
   refine ⟨[],false,_,_,impl_CountContents sh true g [(((g.getD 0 []).length-k:Nat):Int),(k:Int)] hB hC,nd0,rfl,rfl,trivial,?_⟩
   refine ⟨rfl,by decide,false,?_⟩
   refine ⟨rfl,Nat.zero_le _,rfl,by simp only [List.length_cons,List.length_nil];omega,rfl,?_⟩
   exact ⟨((k+1:Nat):Int),w64_eq (by omega) (by omega) (by omega),k+1,by first|omega|(dsimp only;omega),by first|omega|(dsimp only;omega),⟨rfl,rfl⟩,⟨rfl,rfl,rfl,rfl,trivial⟩,rowE hts.symm,trivial⟩
  .obtain rfl:k=(g.getD 0 []).length+1:=by omega
   exact ⟨some 0,⟨⟨rfl,rfl⟩,trivial⟩,⟨rfl,rfl⟩,rfl⟩
 .have e:twoL g=[]:=by rw [twoL,if_neg (by rw [hB];decide)]
  rw [e]
  exact ⟨some 0,⟨⟨rfl,rfl⟩,trivial⟩,⟨rfl,rfl⟩,rfl⟩
def srtI (l:List Int):List Int:=l.mergeSort fun x y=>decide (x<=y)
theorem srtI_p (l:List Int):(srtI l).Perm l:=List.mergeSort_perm l _
theorem srtI_s (l:List Int):(srtI l).Pairwise fun x y=>x<=y:=by
 have h:=List.pairwise_mergeSort (le:=fun x y:Int=>decide (x<=y)) (fun a b c h1 h2=>by simp at*;omega) (fun a b=>by simp;omega) l
 exact h.imp fun h=>by simpa using h
def orbI (g:List (List Int)) (i:Nat) (met:List Bool):Nat->List Bool × List Int
 |0=>(met,[])
 |k+1=>if (orbI g i met k).1.getD ((g.getD k []).getD i 0).toNat false=true then orbI g i met k else ((orbI g i met k).1.set ((g.getD k []).getD i 0).toNat true,(orbI g i met k).2++[(g.getD k []).getD i 0])
def orbS (g:List (List Int)) (n:Nat):Nat->List Bool × List (List Int)
 |0=>(List.replicate n false,[])
 |i+1=>if (orbS g n i).1.getD i false=true then orbS g n i else ((orbI g i (orbS g n i).1 g.length).1,(orbS g n i).2++[srtI (orbI g i (orbS g n i).1 g.length).2])
def orbL (g:List (List Int)):List (List Int):=(orbS g (g.getD 0 []).length (g.getD 0 []).length).2
theorem orbI_ok (g:List (List Int)) (i:Nat) (met:List Bool):∀k,(orbI g i met k).1.length=met.length/\(orbI g i met k).2.length<=k
 |0=>⟨rfl,Nat.le_refl _⟩
 |k+1=>by
  have ih:=orbI_ok g i met k
  rw [orbI]
  split
  .exact ⟨ih.1,by omega⟩
  .exact ⟨by rw [List.length_set];exact ih.1,by simp;omega⟩
theorem orbS_ok (g:List (List Int)) (n:Nat):∀i,(orbS g n i).1.length=n/\(orbS g n i).2.length<=i
 |0=>⟨by simp [orbS],Nat.le_refl _⟩
 |i+1=>by
  have ih:=orbS_ok g n i
  rw [orbS]
  split
  .exact ⟨ih.1,by omega⟩
  .exact ⟨by rw [(orbI_ok g i _ _).1];exact ih.1,by simp;omega⟩
theorem impl_OrbitsOf (sh:Bool) (g:List (List Int)) (hB:gokB g=true):AC Tryz.prog 64 [.d sh (.sl (.sl .int)) g] [] [.ow 0] [.sl 29 (.sl .int) (orbL g)]:=by
 obtain ⟨⟨hg1,hg2⟩,hgp⟩:=perm_bd hB
 have hx:∀i,i<g.length->(g.getD i []).length<=1048576:=fun i hi=>by have:=(hgp i hi).1.1;omega
 have hG:=impl_GroupOk sh g (by omega) hx
 rw [hB] at hG
 have hn:=(hgp 0 (by omega)).1.1
 unfold orbL
 generalize hnn:(g.getD 0 []).length=n at*
 refine AC_of tauOk 64 0 [2] Tryz.func64 rfl (by kernel_rfl) rfl rfl rfl rfl rfl ?_
 refine ⟨[],false,_,_,hG,nd0,rfl,rfl,trivial,fun _=>?_,nofun⟩
 refine ⟨rfl,by decide,true,?_⟩
 refine ⟨0,rfl,by omega,(g.getD 0 []).length,(g.getD 0 []).length,rfl,rfl,Nat.le_refl _,by omega,?_⟩
 rw [hnn]
 refine ⟨Nat,fun k=>⟨[(0,.d sh (.sl (.sl .int)) g),(3,.ow 0),(4,.ow 1),(19,I (n:Nat)),(20,I (k:Nat))],[.sl 29 (.sl .int) (orbS g n k).2,.sl 4 .bool (orbS g n k).1]⟩,fun k=>k<=n,fun k=>n-k,0,Nat.zero_le _,
  ⟨⟨rfl,rfl⟩,⟨rfl,rfl,rfl,retI (by simp),rfl,trivial⟩,rfl,rfl,trivial⟩,fun k hk=>?_⟩
 dsimp only at hk
 obtain ⟨o1,o2⟩:=orbS_ok g n k
 refine ⟨fun h2=>?_,fun h2=>?_⟩
 .have hk2:k<n:=by omega
  refine ⟨k,rfl,by omega,fun h3=>?_,fun h3=>?_⟩
  .have e:orbS g n (k+1)=orbS g n k:=by rw [orbS,if_pos h3]
   exact ⟨((k+1:Nat):Int),w64_eq (by omega) (by omega) (by omega),k+1,by first|omega|(dsimp only;omega),by first|omega|(dsimp only;omega),⟨rfl,rfl⟩,⟨rfl,rfl,rfl,rfl,rfl,trivial⟩,rowE (by rw [e]),rowE (by rw [e]),trivial⟩
  .have e:orbS g n (k+1)=((orbI g k (orbS g n k).1 g.length).1,(orbS g n k).2++[srtI (orbI g k (orbS g n k).1 g.length).2]):=by rw [orbS,if_neg (by rw [h3];decide)]
   have hI:=orbI_ok g k (orbS g n k).1
   rw [o1] at hI
   refine ⟨rfl,by decide,true,?_⟩
   refine ⟨Nat,fun i=>⟨[(0,.d sh (.sl (.sl .int)) g),(3,.ow 0),(4,.ow 1),(5,I (k:Nat)),(6,.ow 2),(19,I (n:Nat)),(20,I (k:Nat)),(28,.d sh (.sl (.sl .int)) g),(29,I g.length),(30,I (i:Nat))],[.sl 29 (.sl .int) (orbS g n k).2,.sl 4 .bool (orbI g k (orbS g n k).1 i).1,.sl 3 .int (orbI g k (orbS g n k).1 i).2]⟩,
    fun i=>i<=g.length,fun i=>g.length-i,0,Nat.zero_le _,
    ⟨⟨rfl,rfl⟩,⟨rfl,rfl,rfl,rfl,rfl,rfl,rfl,rfl,rfl,rfl,trivial⟩,rfl,rfl,rfl,trivial⟩,fun i hi=>?_⟩
   dsimp only at hi
   obtain ⟨i1,i2⟩:=hI i
   refine ⟨fun h4=>?_,fun h4=>?_⟩
   .have hi2:i<g.length:=by omega
    obtain ⟨hP,hl⟩:=hgp i hi2
    have hb:=(hP.2 k (by omega)).1
    have hv:(g.getD i []).getD k 0=((((g.getD i []).getD k 0).toNat:Nat):Int):=by omega
    refine ⟨i,rfl,hi2,k,rfl,by omega,((g.getD i []).getD k 0).toNat,hv,by omega,fun h5=>?_,fun h5=>?_⟩
    .have e2:orbI g k (orbS g n k).1 (i+1)=orbI g k (orbS g n k).1 i:=by rw [orbI,if_pos h5]
     exact ⟨((i+1:Nat):Int),w64_eq (by omega) (by omega) (by omega),i+1,by first|omega|(dsimp only;omega),by first|omega|(dsimp only;omega),⟨rfl,rfl⟩,⟨rfl,rfl,rfl,rfl,rfl,rfl,rfl,rfl,rfl,rfl,trivial⟩,rfl,rowE (by rw [e2]),rowE (by rw [e2]),trivial⟩
    .have e2:orbI g k (orbS g n k).1 (i+1)=((orbI g k (orbS g n k).1 i).1.set ((g.getD i []).getD k 0).toNat true,(orbI g k (orbS g n k).1 i).2++[(g.getD i []).getD k 0]):=by rw [orbI,if_neg (by rw [h5];decide)]
     refine ⟨k,rfl,by omega,((g.getD i []).getD k 0).toNat,hv,by omega,?_⟩
     refine ⟨k,rfl,by omega,?_⟩
     refine ⟨rfl,by decide,false,?_⟩
     refine ⟨rfl,Nat.zero_le _,rfl,by simp only [List.length_cons,List.length_nil];omega,rfl,?_⟩
     exact ⟨((i+1:Nat):Int),w64_eq (by omega) (by omega) (by omega),i+1,by first|omega|(dsimp only;omega),by first|omega|(dsimp only;omega),⟨rfl,rfl⟩,⟨rfl,rfl,rfl,rfl,rfl,rfl,rfl,rfl,rfl,rfl,trivial⟩,rfl,rowE (by rw [e2]),rowE (by rw [e2]),trivial⟩
   .obtain rfl:i=g.length:=by omega
    dsimp only
    refine ⟨[2],false,_,_,slices_Sort_ints 3 _ _ (by omega) (srtI_p _) (srtI_s _),by decide,rfl,rfl,⟨⟨(srtI_p _).length_eq,rfl,rfl⟩,trivial⟩,?_⟩
    refine ⟨rfl,rfl,by decide,false,?_⟩
    refine ⟨rfl,Nat.zero_le _,rfl,by simp only [List.length_cons,List.length_nil];omega,rfl,?_⟩
    exact ⟨((k+1:Nat):Int),w64_eq (by omega) (by omega) (by omega),k+1,by first|omega|(dsimp only;omega),by first|omega|(dsimp only;omega),⟨rfl,rfl⟩,⟨rfl,rfl,rfl,rfl,rfl,trivial⟩,rowE (by rw [e]),rowE (by rw [e]),trivial⟩
 .obtain rfl:k=n:=by omega
  exact ⟨some 0,⟨⟨rfl,rfl⟩,trivial⟩,⟨rfl,rfl⟩,rfl⟩
theorem impl_OrbitsOf_no (sh:Bool) (g:List (List Int)) (hgl:g.length<=1048576) (hx:∀i,i<g.length->(g.getD i []).length<=1048576) (hB:gokB g=false):AC Tryz.prog 64 [.d sh (.sl (.sl .int)) g] [] [.nil] []:=by
 have hG:=impl_GroupOk sh g hgl hx
 rw [hB] at hG
 refine AC_of tauOk 64 0 [2] Tryz.func64 rfl (by kernel_rfl) rfl rfl rfl rfl rfl ?_
 refine ⟨[],false,_,_,hG,nd0,rfl,rfl,trivial,nofun,fun _=>?_⟩
 exact ⟨none,⟨rfl,trivial⟩,rfl,rfl⟩
theorem impl_copyLists_d (sh:Bool) (g:List (List Int)) (hgl:g.length<=1048576) (hx:∀i,i<g.length->(g.getD i []).length<=1048576):AC Tryz.prog 28 [.d sh (.sl (.sl .int)) g] [] [.ow 0] [.sl 29 (.sl .int) g]:=by
 refine AC_of tauOk 20 0 [2] Tryz.func28 rfl (by kernel_rfl) rfl rfl rfl rfl rfl ?_
 refine ⟨rfl,by decide,true,?_⟩
 refine ⟨Nat,fun k=>⟨[(3,.ow 0),(7,.d sh (.sl (.sl .int)) g),(8,I g.length),(9,I (k:Nat))],[.sl 29 (.sl .int) (g.take k)]⟩,fun k=>k<=g.length,fun k=>g.length-k,0,Nat.zero_le _,
  ⟨⟨rfl,rfl⟩,⟨rfl,rfl,rfl,rfl,trivial⟩,rfl,trivial⟩,fun k hk=>?_⟩
 dsimp only at hk
 refine ⟨fun h1=>?_,fun h1=>?_⟩
 .have hk2:k<g.length:=by omega
  have hs:=L_succ g k [] hk2
  have htl:(g.take k).length=k:=by rw [List.length_take];omega
  refine ⟨k,rfl,hk2,?_⟩
  by_cases h0:g.getD k []=[]
  .have hcn:=slices_Clone_no sh
   rw [<-h0] at hcn
   refine ⟨[],false,_,_,hcn,nd0,rfl,rfl,trivial,?_⟩
   refine ⟨rfl,by decide,false,?_⟩
   refine ⟨rfl,Nat.zero_le _,rfl,by simp only [List.length_cons,List.length_nil];omega,rfl,?_⟩
   exact ⟨((k+1:Nat):Int),w64_eq (by omega) (by omega) (by omega),k+1,by first|omega|(dsimp only;omega),by first|omega|(dsimp only;omega),⟨rfl,rfl⟩,⟨rfl,rfl,rfl,rfl,trivial⟩,rowE (by rw [hs,h0]),trivial⟩
  .refine ⟨[],false,_,_,slices_Clone_int sh (g.getD k []) (hx k hk2) h0,nd0,rfl,rfl,trivial,?_⟩
   refine ⟨rfl,rfl,by decide,false,?_⟩
   refine ⟨rfl,Nat.zero_le _,rfl,by simp only [List.length_cons,List.length_nil];omega,rfl,?_⟩
   exact ⟨((k+1:Nat):Int),w64_eq (by omega) (by omega) (by omega),k+1,by first|omega|(dsimp only;omega),by first|omega|(dsimp only;omega),⟨rfl,rfl⟩,⟨rfl,rfl,rfl,rfl,trivial⟩,rowE (by rw [hs]),trivial⟩
 .obtain rfl:k=g.length:=by omega
  exact ⟨some 0,⟨⟨rfl,rfl⟩,trivial⟩,⟨rfl,rowsE (List.take_length ..)⟩,rfl⟩
theorem impl_ints_both (sh:Bool) (ws:List (List UInt8)) (hl:ws.length<=1048576) (hw:∀i,i<ws.length->(ws.getD i []).length<=1048576) (r:List AV) (rr:List Row)
 (hno:ws.all prsB=false->r=[.nil,.d true .bool false]/\rr=[]) (hyes:ws.all prsB=true->r=[.ow 0,.d true .bool true]/\rr=[.sl 3 .int (ws.map prsV)]):AC Tryz.prog 33 [.d sh (.sl .str) ws] [] r rr:=by
 refine AC_of tauOk 29 0 [2,3] Tryz.func33 rfl (by kernel_rfl) rfl rfl rfl rfl rfl ?_
 refine ⟨rfl,by decide,true,?_⟩
 refine ⟨Nat,fun k=>⟨[(4,.ow 0),(10,.d sh (.sl .str) ws),(11,I ws.length),(12,I (k:Nat))],[.sl 3 .int ((ws.take k).map prsV)]⟩,fun k=>k<=ws.length/\(ws.take k).all prsB=true,fun k=>ws.length-k,0,⟨Nat.zero_le _,rfl⟩,
  ⟨⟨rfl,rfl⟩,⟨rfl,rfl,rfl,rfl,trivial⟩,rfl,trivial⟩,?_⟩
 rintro k ⟨hk,hall⟩
 refine ⟨fun h1=>?_,fun h1=>?_⟩
 .have hk2:k<ws.length:=by omega
  have hs:=L_succ ws k [] hk2
  have htl:(ws.take k).length=k:=by rw [List.length_take];omega
  have hI:=impl_ParseInt (ws.getD k []) (hw k hk2)
  refine ⟨k,rfl,hk2,?_⟩
  cases hp:prsB (ws.getD k [])
  .rw [prsR_no hp] at hI
   refine ⟨[],false,_,_,hI,nd0,rfl,rfl,trivial,nofun,fun _=>?_⟩
   obtain ⟨rfl,rfl⟩:=hno (by
    rw [Bool.eq_false_iff]
    intro h
    rw [List.all_eq_true] at h
    have:=h (ws.getD k []) (by rw [getD_get _ _ _ hk2];exact List.getElem_mem _)
    rw [hp] at this;cases this)
   exact ⟨none,⟨rfl,rfl,trivial⟩,rfl,rfl⟩
  .rw [prsR_yes hp] at hI
   refine ⟨[],false,_,_,hI,nd0,rfl,rfl,trivial,fun _=>?_,nofun⟩
   refine ⟨rfl,by decide,false,?_⟩
   refine ⟨rfl,Nat.zero_le _,rfl,by simp only [List.length_cons,List.length_nil,List.length_map];omega,rfl,?_⟩
   exact ⟨((k+1:Nat):Int),w64_eq (by omega) (by omega) (by omega),k+1,⟨by omega,by rw [hs,List.all_append,hall,List.all_cons,hp];rfl⟩,by first|omega|(dsimp only;omega),⟨rfl,rfl⟩,⟨rfl,rfl,rfl,rfl,trivial⟩,rowE (by rw [hs,List.map_append];rfl),trivial⟩
 .obtain rfl:k=ws.length:=by omega
  rw [List.take_length] at hall
  obtain ⟨rfl,rfl⟩:=hyes hall
  dsimp only
  exact ⟨some 0,⟨⟨rfl,rfl⟩,rfl,trivial⟩,⟨rfl,rowsE (by rw [List.take_length])⟩,rfl⟩
theorem impl_orNone (s:List UInt8) (ok:Bool):AC Tryz.prog 75 [.d true .str s,.d true .bool ok] [] [.d true .str (if ok then s else [110,111,110,101])] []:=by
 cases ok
 .refine AC_of tauOk 8 0 [4] Tryz.func75 rfl (by kernel_rfl) rfl rfl rfl rfl rfl ?_
  exact ⟨none,⟨rfl,trivial⟩,rfl,rfl⟩
 .refine AC_of tauOk 8 0 [4] Tryz.func75 rfl (by kernel_rfl) rfl rfl rfl rfl rfl ?_
  exact ⟨none,⟨rfl,trivial⟩,rfl,rfl⟩
def lnsL (t:List UInt8):List (List UInt8):=if (wrdG (byB [10]) t).getD ((wrdG (byB [10]) t).length-1) []=[] then (wrdG (byB [10]) t).take ((wrdG (byB [10]) t).length-1) else wrdG (byB [10]) t
theorem wrdG_pos (p:UInt8->Bool) (t:List UInt8):1<=(wrdG p t).length/\(wrdG p t).length<=t.length+1:=by
 have:=(spG_b p t t.length).1
 rw [wrdG,List.length_append];simp;omega
theorem impl_SplitLines (t:List UInt8) (hl:t.length<=1048576):AC Tryz.prog 10 [.d true .str t] [] [.d true (.sl .str) (lnsL t)] []:=by
 obtain ⟨h1,h2⟩:=wrdG_pos (byB [10]) t
 have hS:=impl_SplitBy t [10] hl
 have hL:lnsL t=if (wrdG (byB [10]) t).getD ((wrdG (byB [10]) t).length-1) []=[] then (wrdG (byB [10]) t).take ((wrdG (byB [10]) t).length-1) else wrdG (byB [10]) t:=rfl
 generalize wrdG (byB [10]) t=W at*
 rw [hL]
 refine AC_of tauOk 19 0 [2] Tryz.func10 rfl (by kernel_rfl) rfl rfl rfl rfl rfl ?_
 refine ⟨[],true,_,_,hS,nd0,rfl,rfl,trivial,?_⟩
 refine ⟨((W.length-1:Nat):Int),w64_eq (by omega) (by omega) (by omega),W.length-1,rfl,by omega,fun h3=>?_,fun h3=>?_⟩
 .refine ⟨((W.length-1:Nat):Int),w64_eq (by omega) (by omega) (by omega),?_⟩
  rw [if_pos h3]
  refine ⟨_,rfl,Nat.zero_le _,by omega,?_⟩
  exact ⟨none,⟨rfl,trivial⟩,rfl,rfl⟩
 .rw [if_neg h3]
  exact ⟨none,⟨rfl,trivial⟩,rfl,rfl⟩
def grpR:Option (List (List Int))->List AV
 |some R=>[.d true (.sl (.sl .int)) R,.d true .bool true]
 |none=>[.nil,.d true .bool false]
theorem genQ_of {n:Nat} {gens:List (List Int)} (h:GenP n gens):GenQ n gens:=fun s hs=>by
 obtain ⟨i,hi,rfl⟩:=List.getElem_of_mem hs
 have:=h.2 i hi
 rw [getD_get _ _ _ hi] at this
 exact ⟨(permB_iff _).1 this.1,this.2⟩
def bfsJ (n:Nat) (gens:List (List Int)) (a:Nat) (gs out q:List (List Int)):Option (List (List Int)):=
 match innS n a gs out q with|none=>none|some o=>bfsS n gens (199-a) (a+1) o.1 o.2
theorem spec_GroupOf_any (sh:Bool) (n:Nat) (gens:List (List Int)) (r:Option (List (List Int))) (h1:1<=n) (hn:n<11) (hg:GenP n gens) (hr:bfsS n gens 200 0 [idL n] [idL n]=r):
 AC Tryz.prog 116 [I (n:Nat),.d sh (.sl (.sl .int)) gens] [] (grpR r) []:=by
 have hgl:=hg.1
 have hgq:=genQ_of hg
 cases r with
 |some R=>exact spec_GroupOf sh n gens R h1 hn hg hr
 |none=>
 refine AC_of tauOk 73 0 [4,5] Tryz.func116 rfl (by kernel_rfl) rfl rfl rfl rfl rfl ?_
 refine ⟨[],false,_,_,spec_l01In _ _ _,nd0,rfl,rfl,trivial,fun _=>?_,fun h=>by simp only [Bool.and_eq_false_iff,decide_eq_false_iff_not] at h;omega⟩
 refine ⟨Nat,fun k=>⟨[(0,I (n:Nat)),(1,.d sh (.sl (.sl .int)) gens),(17,.d sh (.sl (.sl .int)) gens),(18,I gens.length),(19,I (k:Nat))],[]⟩,fun k=>k<=gens.length,fun k=>gens.length-k,0,Nat.zero_le _,
  ⟨⟨rfl,rfl⟩,⟨rfl,rfl,rfl,rfl,rfl,trivial⟩,trivial⟩,fun k hk=>?_⟩
 dsimp only at hk
 refine ⟨fun h2=>?_,fun h2=>?_⟩
 .have hk2:k<gens.length:=by omega
  have hp:=hg.2 k hk2
  refine ⟨k,rfl,hk2,[],false,_,_,spec_PermOk sh (gens.getD k []) (by omega),nd0,rfl,rfl,trivial,fun h3=>?_,fun h3=>by rw [hp.1] at h3;cases h3⟩
  refine ⟨fun h4=>(h4 (by omega)).elim,fun _=>?_⟩
  exact ⟨((k+1:Nat):Int),w64_eq (by omega) (by omega) (by omega),k+1,by dsimp only;omega,by dsimp only;omega,⟨rfl,rfl⟩,⟨rfl,rfl,rfl,rfl,rfl,trivial⟩,trivial⟩
 .clear h2
  refine ⟨[],true,_,_,spec_IdentityPerm n h1 (by omega),nd0,rfl,rfl,trivial,?_⟩
  refine ⟨rfl,by decide,false,?_⟩
  refine ⟨[],true,_,_,spec_IdentityPerm n h1 (by omega),nd0,rfl,rfl,trivial,?_⟩
  refine ⟨rfl,by decide,true,?_⟩
  refine ⟨Nat × List (List Int) × List (List Int),fun i=>⟨[(0,I (n:Nat)),(1,.d sh (.sl (.sl .int)) gens),(8,.d true (.sl (.sl .int)) i.2.1),(9,.ow 0),(10,I (i.1:Nat))],[.sl 29 (.sl .int) i.2.2]⟩,
   fun i=>i.1<=i.2.2.length/\BfP n gens i.2.1 i.2.2/\bfsS n gens (200-i.1) i.1 i.2.1 i.2.2=none,fun i=>200-i.1,(0,[idL n],[idL n]),⟨Nat.zero_le _,bf_start gens,hr⟩,
   ⟨⟨rfl,rfl⟩,⟨rfl,rfl,rfl,rfl,rfl,trivial⟩,rfl,trivial⟩,?_⟩
  rintro ⟨a,g,q⟩ ⟨ha,hB,hb⟩
  dsimp only at ha hb hB
  have hql:=bf_len hB
  have hl120:=hB.l
  have hstart:a<q.length->bfsJ n gens a (gens.drop 0) g q=none:=fun haq=>by
   rw [show 200-a=(199-a)+1 by omega,bfsS,if_pos haq] at hb
   exact hb
  refine ⟨fun h3=>?_,fun h3=>?_⟩
  .dsimp only at h3
   have haq:a<q.length:=by omega
   refine ⟨Nat × List (List Int) × List (List Int),fun i=>⟨[(0,I (n:Nat)),(1,.d sh (.sl (.sl .int)) gens),(8,.d true (.sl (.sl .int)) i.2.1),(9,.ow 0),(10,I (a:Nat)),(45,.d sh (.sl (.sl .int)) gens),(46,I gens.length),(47,I (i.1:Nat))],[.sl 29 (.sl .int) i.2.2]⟩,
    fun i=>i.1<=gens.length/\a<i.2.2.length/\BfP n gens i.2.1 i.2.2/\bfsJ n gens a (gens.drop i.1) i.2.1 i.2.2=none,fun i=>gens.length-i.1,(0,g,q),⟨Nat.zero_le _,haq,hB,hstart haq⟩,
    ⟨⟨rfl,rfl⟩,⟨rfl,rfl,rfl,rfl,rfl,rfl,rfl,rfl,trivial⟩,rfl,trivial⟩,?_⟩
   rintro ⟨j,g',q'⟩ ⟨hj,haq',hB',hin⟩
   dsimp only at hj hin haq' hB'
   have hql':=bf_len hB'
   have hl':=hB'.l
   refine ⟨fun h4=>?_,fun h4=>?_⟩
   .dsimp only at h4
    have hj2:j<gens.length:=by omega
    have hp:=hg.2 j hj2
    have hs:gens.getD j []∈gens:=by rw [getD_get _ _ _ hj2];exact List.getElem_mem _
    have hw:Wd n gens (q'.getD a []):=by rw [getD_get _ _ _ haq'];exact hB'.w _ (List.getElem_mem haq')
    have hpw:=wd_perm h1 (by omega) hgq hw
    rw [drop_c gens j [] hj2,bfsJ,innS_step h1 (by omega) hgq hB' haq'] at hin
    have hel:=exL_len (q'.getD a []) (gens.getD j [])
    refine ⟨j,rfl,hj2,a,rfl,haq',?_⟩
    refine ⟨[],true,_,_,spec_l02Compose true sh (q'.getD a []) (gens.getD j []) (by have:=hpw.2;omega) (fun i hi=>by rw [hp.2];have:=(hpw.1.2 i hi).1;have:=hpw.2;omega),nd0,rfl,rfl,trivial,?_⟩
    have hel2:∀i,i<g'.length->(g'.getD i []).length=(exL (q'.getD a []) (gens.getD j [])).length:=fun i hi=>by
     have hm:g'.getD i []∈g':=by rw [getD_get _ _ _ hi];exact List.getElem_mem _
     have:=(wd_perm h1 (by omega) hgq (hB'.w _ (hB'.p.mem_iff.1 hm))).2
     have:=hpw.2
     omega
    have hpl:=hpw.2
    refine ⟨[],false,_,_,spec_l03Find true true g' (exL (q'.getD a []) (gens.getD j [])) (by omega) (by omega) hel2,nd0,rfl,rfl,trivial,fun h5=>?_,fun h5=>?_⟩
    .have hm:=hB'.p.mem_iff.1 ((findI_mem hB'.a _).1 h5)
     rw [if_pos hm] at hin
     exact ⟨((j+1:Nat):Int),w64_eq (by omega) (by omega) (by omega),(j+1,g',q'),⟨by dsimp only;omega,haq',hB',hin⟩,by dsimp only;omega,⟨rfl,rfl⟩,⟨rfl,rfl,rfl,rfl,rfl,rfl,rfl,rfl,trivial⟩,rfl,trivial⟩
    .have hm:exL (q'.getD a []) (gens.getD j [])∉q':=fun hm=>h5 ((findI_mem hB'.a _).2 (hB'.p.mem_iff.2 hm))
     rw [if_neg hm] at hin
     refine ⟨fun h6=>?_,fun h6=>?_⟩
     .exact ⟨none,⟨rfl,rfl,trivial⟩,rfl,rfl⟩
     .dsimp only at h6
      have h120:g'.length≠120:=by omega
      rw [if_neg h120] at hin
      have hB2:=bf_add hB' haq' hs hm h120
      refine ⟨[],true,_,_,spec_l03Put g' (exL (q'.getD a []) (gens.getD j [])) hl' (by omega) hel2,nd0,rfl,rfl,trivial,?_⟩
      refine ⟨rfl,by decide,false,?_⟩
      refine ⟨rfl,Nat.zero_le _,rfl,by simp only [List.length_cons,List.length_nil];omega,rfl,?_⟩
      exact ⟨((j+1:Nat):Int),w64_eq (by omega) (by omega) (by omega),(j+1,putS g' (exL (q'.getD a []) (gens.getD j [])),q'++[exL (q'.getD a []) (gens.getD j [])]),⟨by dsimp only;omega,by dsimp only;rw [List.length_append];omega,hB2,hin⟩,by dsimp only;omega,⟨rfl,rfl⟩,⟨rfl,rfl,rfl,rfl,rfl,rfl,rfl,rfl,trivial⟩,rfl,trivial⟩
   .dsimp only at h4
    obtain rfl:j=gens.length:=by omega
    rw [List.drop_length,bfsJ,innS] at hin
    exact ⟨((a+1:Nat):Int),w64_eq (by omega) (by omega) (by omega),(a+1,g',q'),⟨by dsimp only;omega,hB',by dsimp only;rw [show 200-(a+1)=199-a from by omega];exact hin⟩,by dsimp only;omega,⟨rfl,rfl⟩,⟨rfl,rfl,rfl,rfl,rfl,trivial⟩,rfl,trivial⟩
  .dsimp only at h3
   rw [show 200-a=(199-a)+1 by omega,bfsS,if_neg (by omega)] at hb
   cases hb
def mirL (n:Nat):List Int:=(List.range n).map fun (x:Nat)=>((n-1-x:Nat):Int)
def miF (n k:Nat):List Int:=(List.range k).map fun (x:Nat)=>((n-1-x:Nat):Int)
theorem miF_s (n k:Nat):miF n (k+1)=miF n k++[((n-1-k:Nat):Int)]:=by simp [miF,List.range_succ]
theorem miF_len (n k:Nat):(miF n k).length=k:=by simp [miF]
def fndG (n:Nat) (gens:List (List Int)):Option (List (List Int)):=bfsS n gens 200 0 [idL n] [idL n]
theorem spec_l03Mirror (n:Nat) (h1:1<=n) (hn:n<11):AC Tryz.prog 221 [I (n:Nat)] [] [.ow 0] [.sl 3 .int (mirL n)]:=by
 refine AC_of tauOk 19 0 [2] Tryz.func221 rfl (by kernel_rfl) rfl rfl rfl rfl rfl ?_
 refine ⟨rfl,by decide,true,?_⟩
 refine ⟨Nat,fun k=>⟨[(0,I (n:Nat)),(3,.ow 0),(4,I (k:Nat))],[.sl 3 .int (miF n k)]⟩,fun k=>k<=n,fun k=>n-k,0,Nat.zero_le _,
  ⟨⟨rfl,rfl⟩,⟨rfl,rfl,rfl,trivial⟩,rfl,trivial⟩,fun k hk=>?_⟩
 dsimp only at hk
 have hil:=miF_len n k
 refine ⟨fun h2=>?_,fun h2=>?_⟩
 .refine ⟨((n-1:Nat):Int),w64_eq (by omega) (by omega) (by omega),((n-1-k:Nat):Int),w64_eq (by omega) (by omega) (by omega),?_⟩
  refine ⟨rfl,by decide,false,?_⟩
  refine ⟨rfl,Nat.zero_le _,rfl,by simp only [List.length_cons,List.length_nil];omega,rfl,?_⟩
  exact ⟨((k+1:Nat):Int),w64_eq (by omega) (by omega) (by omega),k+1,by dsimp only;omega,by dsimp only;omega,⟨rfl,rfl⟩,⟨rfl,rfl,rfl,trivial⟩,rowE (miF_s n k).symm,trivial⟩
 .obtain rfl:k=n:=by omega
  exact ⟨some 0,⟨⟨rfl,rfl⟩,trivial⟩,⟨rfl,rfl⟩,rfl⟩
def GrQ (n:Nat) (R:List (List Int)):Prop:=AscL R/\R.length<=120/\idL n∈R/\(∀x∈R,PnP n x)/\∀x∈R,∀y∈R,exL x y∈R
theorem grq_gok {n:Nat} {R:List (List Int)} (h:GrQ n R):gokB R=true:=by
 obtain ⟨h1,h2,h3,h4,h5⟩:=h
 have hl:1<=R.length:=List.length_pos_of_mem h3
 have hm:∀i,i<R.length->R.getD i []∈R:=fun i hi=>by rw [getD_get _ _ _ hi];exact List.getElem_mem _
 refine (gokB_iff R).2 ⟨hl,h2,fun i hi=>gok1_of ((permB_iff _).2 (h4 _ (hm i hi)).1) (by rw [(h4 _ (hm i hi)).2,(h4 _ (hm 0 (by omega))).2]) ?_,fun i hi j hj=>?_⟩
 .rcases Nat.eq_zero_or_pos i with h|h
  .exact .inl h
  .exact .inr (asc_get h1 (by omega) hi)
 .exact decide_eq_true ((findI_mem h1 _).2 (h5 _ (hm i hi) _ (hm j hj)))
end Go.Proofs.YtacjiemkbhhhoaaGreatDoor
namespace Go.Proofs.YtacjiemkbhhhoaaGreatDoor
open Go Go.RowKit Go.Lib Go.Proofs.YtacjiemkbhhhoaaGreatDoor.Ow
theorem gok_asc {g:List (List Int)} (hB:gokB g=true):AscL g:=by
 have hG:=(gokB_iff g).1 hB
 have h1:∀i,i+1<g.length->cmpI (g.getD i []) (g.getD (i+1) [])<0:=fun i hi=>by
  have:=(gok1_p (hG.o1 (i+1) hi)).2.2
  rcases this with h|h
  .omega
  .simpa using h
 have h2:∀d i,i+d+1<g.length->cmpI (g.getD i []) (g.getD (i+d+1) [])<0:=fun d=>by
  induction d with
  |zero=>intro i hi;exact h1 i hi
  |succ d ih=>
   intro i hi
   exact cmpI_trans _ _ _ (ih i (by omega)) (h1 (i+d+1) hi)
 refine List.pairwise_iff_getElem.2 fun i j hi hj hij=>?_
 have:=h2 (j-i-1) i (by omega)
 rw [show i+(j-i-1)+1=j by omega,getD_get _ _ _ hi,getD_get _ _ _ hj] at this
 exact this
theorem gok_cl {g:List (List Int)} (hB:gokB g=true):∀x∈g,∀y∈g,exL x y∈g:=fun x hx y hy=>by
 have hG:=(gokB_iff g).1 hB
 obtain ⟨i,hi,rfl⟩:=List.getElem_of_mem hx
 obtain ⟨j,hj,rfl⟩:=List.getElem_of_mem hy
 have:=of_decide_eq_true (hG.o2 i hi j hj)
 rw [getD_get _ _ _ hi,getD_get _ _ _ hj] at this
 exact (findI_mem (gok_asc hB) _).1 this
theorem gok_el {g:List (List Int)} (hB:gokB g=true):∀x∈g,PnP (g.getD 0 []).length x:=fun x hx=>by
 obtain ⟨i,hi,rfl⟩:=List.getElem_of_mem hx
 have:=(perm_bd hB).2 i hi
 rw [getD_get _ _ _ hi] at this
 exact this
theorem gok_grl {g:List (List Int)} (hB:gokB g=true):GrL (g.getD 0 []).length g:=by
 obtain ⟨⟨hg1,hg2⟩,hgp⟩:=perm_bd hB
 have h0:=hgp 0 (by omega)
 have hm:g.getD 0 []∈g:=by rw [getD_get _ _ _ (by omega)];exact List.getElem_mem _
 have hel:=gok_el hB
 have hp:=perm_of_inj (asc_nodup (gok_asc hB)) (exL (g.getD 0 [])) (fun x hx=>gok_cl hB _ hm x hx) fun x hx y hy e=>ex_left_inj (hel _ hm) (hel x hx) (hel y hy) e
 obtain ⟨e,he,hxe⟩:=List.mem_map.1 (hp.symm.subset hm)
 have hid:e=idL (g.getD 0 []).length:=ex_left_inj (hel _ hm) (hel e he) (id_perm h0.1.1.1 h0.1.1.2) (by rw [hxe,ex_id (hel _ hm)])
 exact ⟨h0.1.1.1,h0.1.1.2,gok_asc hB,hid ▸ he,hel,gok_cl hB⟩
theorem gok_inv {g:List (List Int)} (hB:gokB g=true) {x:List Int} (hx:x∈g):actL x (idL x.length)∈g:=by
 have hGr:=gok_grl hB
 have hel:=hGr.el
 have hp:=perm_of_inj (asc_nodup hGr.a) (exL x) (fun y hy=>hGr.cl x hx y hy) fun y hy z hz e=>ex_left_inj (hel _ hx) (hel y hy) (hel z hz) e
 obtain ⟨y,hy,hxy⟩:=List.mem_map.1 (hp.symm.subset hGr.id)
 have hxP:=hel x hx
 have hyP:=hel y hy
 have:y=actL x (idL x.length):=by
  refine act_ext hxP.1 (by rw [hyP.2,hxP.2]) (by rw [actL_len,idLlen]) fun i hi=>?_
  rw [actL_get hxP.1 (idLlen _).symm i (by rw [idLlen];exact hi),idL_at _ _ hi,<-exL_at x y i hi,hxy,idL_at _ _ (by rw [<-hxP.2];exact hi)]
 exact this ▸ hy
theorem bits_Mul (x y:Nat) (hx:x<18446744073709551616) (hy:y<18446744073709551616):AC Tryz.prog 260 [.d true .u64 (x:Int),.d true .u64 (y:Int)] [] [.d true .u64 ((x*y / 18446744073709551616:Nat):Int),.d true .u64 ((x*y % 18446744073709551616:Nat):Int)] []:=by
 refine AC.flat2 ⟨_,_,Tryz.func260,rfl,by kernel_rfl⟩ fun w A vs hvs=>?_
 obtain ⟨v,r,rfl,h1,v2,r2,rfl,h2,h3⟩:=hvs
 cases h1;cases h2;cases h3
 exact Tryz.bits_Mul x y hx hy w
def rpL (c:Int) (n k:Nat):List Int:=List.replicate k c++List.replicate (n-k) 0
theorem rpL_len (c:Int) (n k:Nat) (h:k<=n):(rpL c n k).length=n:=by simp [rpL];omega
theorem rp_step (c:Int) (n k:Nat) (hk:k<=n) (m:Nat) (hm:m<=k) (hm2:m<=n-k):cpyL (rpL c n k) k ((List.drop 0 (List.take k (rpL c n k))).take m)=rpL c n (k+m):=by
 have h1:List.take k (rpL c n k)=List.replicate k c:=by
  rw [rpL,List.take_append_of_le_length (by simp)];simp
 have h2:((List.drop 0 (List.take k (rpL c n k))).take m)=List.replicate m c:=by
  rw [h1,List.drop_zero,List.take_replicate,Nat.min_eq_left hm]
 have h3:List.drop (k+m) (rpL c n k)=List.replicate (n-(k+m)) 0:=by
  rw [rpL,List.drop_append,List.drop_replicate,List.drop_replicate]
  simp;omega
 rw [cpyL,h2,h1,List.length_replicate,h3,rpL,List.replicate_append_replicate]
theorem rp_0 (c:Int) (n:Nat) (h:1<=n):cpyL (List.replicate n (0:Int)) 0 ([c].take 1)=rpL c n 1:=by
 simp [cpyL,rpL]
theorem slices_Repeat_one (c:Int) (n:Nat) (h1:1<=n) (hn:n<=1048576):AC Tryz.prog 157 [.d true (.sl .int) [c],I (n:Nat)] [] [.ow 0] [.sl 3 .int (List.replicate n c)]:=by
 have hM:=bits_Mul 1 n (by decide) (by omega)
 rw [Nat.one_mul,show n / 18446744073709551616=0 by omega,show n % 18446744073709551616=n by omega] at hM
 refine AC_of tauOk 48 0 [4] Tryz.func157 rfl (by kernel_rfl) rfl rfl rfl rfl rfl ?_
 refine ⟨fun h=>by omega,fun _=>?_⟩
 refine ⟨((1:Nat):Int),u64w _ (by omega) (by omega),((n:Nat):Int),u64w _ (by omega) (by omega),[],false,_,_,hM,nd0,rfl,rfl,trivial,?_⟩
 refine ⟨fun h=>by omega,fun _=>?_⟩
 refine ⟨fun h=>by omega,fun _=>?_⟩
 refine ⟨((n:Nat):Int),w64_in _ (by omega) (by omega),n,n,rfl,rfl,Nat.le_refl _,by omega,?_⟩
 refine ⟨rfl,rfl,?_⟩
 have h00:cpyL (List.replicate n (0:Int)) 0 ([c].take 1)=rpL c n 1:=rp_0 c n h1
 have hmin:min [c].length (List.replicate n (0:Int)).length=1:=by simp;omega
 refine ⟨Nat,fun k=>⟨[(7,.ow 0),(8,I (k:Nat))],[.sl 3 .int (rpL c n k)]⟩,fun k=>1<=k/\k<=n,fun k=>n-k,1,⟨Nat.le_refl _,h1⟩,
  ⟨⟨rfl,rfl⟩,⟨rfl,retI (by rw [<-hmin];rfl),trivial⟩,rowE (by rw [<-h00,<-hmin];rfl),trivial⟩,?_⟩
 rintro k ⟨hk1,hk⟩
 have hrl:=rpL_len c n k hk
 refine ⟨fun h2=>?_,fun h2=>?_⟩
 .have hk2:k<n:=by omega
  have hst:=rp_step c n k hk (min k (n-k)) (by omega) (by omega)
  have hml:min (List.drop 0 (List.take k (rpL c n k))).length ((rpL c n k).length-k)=min k (n-k):=by
   rw [hrl];simp only [List.length_drop,List.length_take,hrl];omega
  refine ⟨some 3000,.take 0 (.take 1 (.take 2 (.take 4 (.take 5 (.two 3 (.one 6 (.one 7 (.one 8 (.one 9 .done)))) 6 (.one 3 (.one 7 (.one 8 (.one 9 .done))))))))),by kernel_rfl,?_,?_⟩
  .exact ⟨k,rfl,by omega,Nat.le_refl _,k,rfl,Nat.zero_le _,by omega,rfl,rfl,by omega,((k+min k (n-k):Nat):Int),w64_eq (by rw [hml];omega) (by omega) (by omega),k+min k (n-k),⟨by omega,by omega⟩,by dsimp only;omega,⟨rfl,rfl⟩,⟨rfl,rfl,trivial⟩,rowE (by rw [<-hst,<-hml]),trivial⟩
  .exact ⟨k,rfl,Nat.zero_le _,by omega,k,rfl,by omega,Nat.le_refl _,rfl,rfl,by omega,((k+min k (n-k):Nat):Int),w64_eq (by rw [hml];omega) (by omega) (by omega),k+min k (n-k),⟨by omega,by omega⟩,by dsimp only;omega,⟨rfl,rfl⟩,⟨rfl,rfl,trivial⟩,rowE (by rw [<-hst,<-hml]),trivial⟩
 .obtain rfl:k=n:=by omega
  exact ⟨some 0,⟨⟨rfl,rfl⟩,trivial⟩,⟨rfl,rowsE (by simp [rpL])⟩,rfl⟩
def clsI (g:List (List Int)) (p:List Int) (z:Int) (out:List Int):Nat->List Int
 |0=>out
 |k+1=>(clsI g p z out k).set (findI g (exL (exL (g.getD k []) p) (actL (g.getD k []) (idL (g.getD k []).length)))).toNat z
def clsS (g:List (List Int)):Nat->List Int × Nat
 |0=>(List.replicate g.length (-1),0)
 |i+1=>if 0<=(clsS g i).1.getD i 0 then clsS g i else (clsI g (g.getD i []) ((clsS g i).2:Nat) (clsS g i).1 g.length,(clsS g i).2+1)
def clsL (g:List (List Int)):List Int:=(clsS g g.length).1
theorem clsI_len (g:List (List Int)) (p:List Int) (z:Int) (out:List Int):∀k,(clsI g p z out k).length=out.length
 |0=>rfl
 |k+1=>by rw [clsI,List.length_set,clsI_len g p z out k]
theorem clsS_ok (g:List (List Int)):∀i,(clsS g i).1.length=g.length/\(clsS g i).2<=i
 |0=>⟨by simp [clsS],Nat.le_refl _⟩
 |i+1=>by
  have ih:=clsS_ok g i
  rw [clsS]
  split
  .exact ⟨ih.1,by omega⟩
  .exact ⟨by rw [clsI_len];exact ih.1,by dsimp only;omega⟩
theorem impl_ClassesOf (sh:Bool) (g:List (List Int)) (hB:gokB g=true):AC Tryz.prog 66 [.d sh (.sl (.sl .int)) g] [] [.ow 0] [.sl 3 .int (clsL g)]:=by
 obtain ⟨⟨hg1,hg2⟩,hgp⟩:=perm_bd hB
 have hx:∀i,i<g.length->(g.getD i []).length<=1048576:=fun i hi=>by have:=(hgp i hi).1.1;omega
 have hG:=impl_GroupOk sh g (by omega) hx
 rw [hB] at hG
 have hok:=clsS_ok g
 have hgm:∀i,i<g.length->g.getD i []∈g:=fun i hi=>by rw [getD_get _ _ _ hi];exact List.getElem_mem hi
 have hGr:=gok_grl hB
 have hfi:∀i,i<g.length->∀k,k<g.length->∃j:Nat,j<g.length/\findI g (exL (exL (g.getD k []) (g.getD i [])) (actL (g.getD k []) (idL (g.getD k []).length)))=(j:Int):=fun i hi k hk=>by
  have h1:=hGr.cl _ (hGr.cl _ (hgm k hk) _ (hgm i hi)) _ (gok_inv hB (hgm k hk))
  have h2:=(findI_mem hGr.a _).2 h1
  rcases find_b g (exL (exL (g.getD k []) (g.getD i [])) (actL (g.getD k []) (idL (g.getD k []).length))) with h3|⟨j,h3,h4⟩
  .omega
  .exact ⟨j,h3,h4⟩
 refine AC_of tauOk 50 0 [2] Tryz.func66 rfl (by kernel_rfl) rfl rfl rfl rfl rfl ?_
 refine ⟨[],false,_,_,hG,nd0,rfl,rfl,trivial,fun _=>?_,nofun⟩
 refine ⟨rfl,by decide,false,?_⟩
 refine ⟨[],false,_,_,slices_Repeat_one (-1) g.length hg1 (by omega),nd0,rfl,rfl,trivial,?_⟩
 refine ⟨Nat,fun i=>⟨[(0,.d sh (.sl (.sl .int)) g),(3,.ow 0),(4,I ((clsS g i).2:Nat)),(16,.d sh (.sl (.sl .int)) g),(17,I g.length),(18,I (i:Nat))],[.sl 3 .int (clsS g i).1]⟩,fun i=>i<=g.length,fun i=>g.length-i,0,Nat.zero_le _,
  ⟨⟨rfl,rfl⟩,⟨rfl,rfl,rfl,rfl,rfl,rfl,trivial⟩,rfl,trivial⟩,fun i hi=>?_⟩
 dsimp only at hi
 obtain ⟨o1,o2⟩:=hok i
 refine ⟨fun h1=>?_,fun h1=>?_⟩
 .have hi2:i<g.length:=by omega
  obtain ⟨hPi,hli⟩:=hgp i hi2
  refine ⟨i,rfl,hi2,i,rfl,by omega,fun h2=>?_,fun h2=>?_⟩
  .have e:clsS g (i+1)=clsS g i:=by rw [clsS,if_pos h2]
   exact ⟨((i+1:Nat):Int),w64_eq (by omega) (by omega) (by omega),i+1,by dsimp only;omega,by dsimp only;omega,⟨rfl,rfl⟩,⟨rfl,rfl,retI (by rw [e]),rfl,rfl,rfl,trivial⟩,rowE (by rw [e]),trivial⟩
  .have e:clsS g (i+1)=(clsI g (g.getD i []) ((clsS g i).2:Nat) (clsS g i).1 g.length,(clsS g i).2+1):=by rw [clsS,if_neg h2]
   have hcl:=clsI_len g (g.getD i []) ((clsS g i).2:Nat) (clsS g i).1
   rw [o1] at hcl
   refine ⟨Nat,fun k=>⟨[(0,.d sh (.sl (.sl .int)) g),(3,.ow 0),(4,I ((clsS g i).2:Nat)),(6,.d sh (.sl .int) (g.getD i [])),(16,.d sh (.sl (.sl .int)) g),(17,I g.length),(18,I (i:Nat)),(28,.d sh (.sl (.sl .int)) g),(29,I g.length),(30,I (k:Nat))],[.sl 3 .int (clsI g (g.getD i []) ((clsS g i).2:Nat) (clsS g i).1 k)]⟩,
    fun k=>k<=g.length,fun k=>g.length-k,0,Nat.zero_le _,
    ⟨⟨rfl,rfl⟩,⟨rfl,rfl,rfl,rfl,rfl,rfl,rfl,rfl,rfl,rfl,trivial⟩,rfl,trivial⟩,fun k hk=>?_⟩
   dsimp only at hk
   have hlk:=hcl k
   refine ⟨fun h3=>?_,fun h3=>?_⟩
   .have hk2:k<g.length:=by omega
    obtain ⟨hPk,hlk2⟩:=hgp k hk2
    have hvk:=hPk.1
    have hvi:=hPi.1
    have hel1:=exL_len (g.getD k []) (g.getD i [])
    have hil:(actL (g.getD k []) (idL (g.getD k []).length)).length=(g.getD k []).length:=by rw [actL_len,idLlen]
    have hE:=hGr.el _ (hGr.cl _ (hgm k hk2) _ (hgm i hi2))
    obtain ⟨j,hj,hfj⟩:=hfi i hi2 k hk2
    refine ⟨k,rfl,hk2,?_⟩
    refine ⟨[],true,_,_,impl_compose sh sh (g.getD k []) (g.getD i []) (by omega) (fun a ha=>by have:=(hPk.2 a ha).1;omega),nd0,rfl,rfl,trivial,?_⟩
    refine ⟨[],true,_,_,impl_inverse sh (g.getD k []) hPk,nd0,rfl,rfl,trivial,?_⟩
    refine ⟨[],true,_,_,impl_compose true true (exL (g.getD k []) (g.getD i [])) (actL (g.getD k []) (idL (g.getD k []).length)) (by omega) (fun a ha=>by have:=(hE.1.2 a ha).1;omega),nd0,rfl,rfl,trivial,?_⟩
    refine ⟨[],false,_,_,impl_indexOf sh true g (exL (exL (g.getD k []) (g.getD i [])) (actL (g.getD k []) (idL (g.getD k []).length))) (by omega) hx (by rw [exL_len];omega),nd0,rfl,rfl,trivial,?_⟩
    refine ⟨j,hfj,by omega,?_⟩
    have es:clsI g (g.getD i []) ((clsS g i).2:Nat) (clsS g i).1 (k+1)=(clsI g (g.getD i []) ((clsS g i).2:Nat) (clsS g i).1 k).set j ((clsS g i).2:Nat):=by rw [clsI,hfj,Int.toNat_natCast]
    exact ⟨((k+1:Nat):Int),w64_eq (by omega) (by omega) (by omega),k+1,by dsimp only;omega,by dsimp only;omega,⟨rfl,rfl⟩,⟨rfl,rfl,rfl,rfl,rfl,rfl,rfl,rfl,rfl,rfl,trivial⟩,rowE es.symm,trivial⟩
   .obtain rfl:k=g.length:=by omega
    refine ⟨(((clsS g i).2+1:Nat):Int),w64_eq (by omega) (by omega) (by omega),?_⟩
    exact ⟨((i+1:Nat):Int),w64_eq (by omega) (by omega) (by omega),i+1,by dsimp only;omega,by dsimp only;omega,⟨rfl,rfl⟩,⟨rfl,rfl,retI (by rw [e]),rfl,rfl,rfl,trivial⟩,rowE (by rw [e]),trivial⟩
 .obtain rfl:i=g.length:=by omega
  exact ⟨some 0,⟨⟨rfl,rfl⟩,trivial⟩,⟨rfl,rfl⟩,rfl⟩
theorem impl_ClassesOf_no (sh:Bool) (g:List (List Int)) (hgl:g.length<=1048576) (hx:∀i,i<g.length->(g.getD i []).length<=1048576) (hB:gokB g=false):AC Tryz.prog 66 [.d sh (.sl (.sl .int)) g] [] [.nil] []:=by
 have hG:=impl_GroupOk sh g hgl hx
 rw [hB] at hG
 refine AC_of tauOk 50 0 [2] Tryz.func66 rfl (by kernel_rfl) rfl rfl rfl rfl rfl ?_
 refine ⟨[],false,_,_,hG,nd0,rfl,rfl,trivial,nofun,fun _=>?_⟩
 exact ⟨none,⟨rfl,trivial⟩,rfl,rfl⟩
end Go.Proofs.YtacjiemkbhhhoaaGreatDoor
namespace Go.Proofs
open Go.Shelf
def Tryz.laysTm_ren:Go.Shelf.Ren:=⟨fun|6=>257|15=>243|14=>321|28=>313|29=>314|20=>345|21=>346|22=>347|23=>348|24=>349|25=>350|26=>351|27=>352|46=>368|47=>340|48=>341|49=>369|50=>370|57=>376|n=>n,fun|22=>124|24=>127|25=>164|3=>3|39=>71|0=>0|53=>188|55=>190|4=>4|46=>182|45=>181|50=>62|5=>5|9=>9|66=>205|70=>209|76=>229|77=>230|n=>n,fun|n=>n⟩
theorem Tryz.laysTm:Go.Proofs.SlLaysF0.n6 Tryz.prog Tryz.laysTm_ren:={
 mixed:=by kernel_rfl
 f6:=⟨Tryz.f257.name,by decide,Tryz.func257.trans (congrArg some (by kernel_rfl))⟩
 f14:=⟨Tryz.f321.name,by decide,Tryz.func321.trans (congrArg some (by kernel_rfl))⟩
 f15:=Tryz.func243.trans (congrArg some (by kernel_rfl))
 f20:=⟨Tryz.f345.name,by decide,Tryz.func345.trans (congrArg some (by kernel_rfl))⟩
 f21:=⟨Tryz.f346.name,by decide,Tryz.func346.trans (congrArg some (by kernel_rfl))⟩
 f22:=⟨Tryz.f347.name,by decide,Tryz.func347.trans (congrArg some (by kernel_rfl))⟩
 f23:=⟨Tryz.f348.name,by decide,Tryz.func348.trans (congrArg some (by kernel_rfl))⟩
 f24:=⟨Tryz.f349.name,by decide,Tryz.func349.trans (congrArg some (by kernel_rfl))⟩
 f25:=⟨Tryz.f350.name,by decide,Tryz.func350.trans (congrArg some (by kernel_rfl))⟩
 f26:=⟨Tryz.f351.name,by decide,Tryz.func351.trans (congrArg some (by kernel_rfl))⟩
 f27:=⟨Tryz.f352.name,by decide,Tryz.func352.trans (congrArg some (by kernel_rfl))⟩
 f28:=Tryz.func313.trans (congrArg some (by kernel_rfl))
 f29:=Tryz.func314.trans (congrArg some (by kernel_rfl))
 f46:=⟨Tryz.f368.name,by decide,Tryz.func368.trans (congrArg some (by kernel_rfl))⟩
 f47:=Tryz.func340.trans (congrArg some (by kernel_rfl))
 f48:=Tryz.func341.trans (congrArg some (by kernel_rfl))
 f49:=⟨Tryz.f369.name,by decide,Tryz.func369.trans (congrArg some (by kernel_rfl))⟩
 f50:=⟨Tryz.f370.name,by decide,Tryz.func370.trans (congrArg some (by kernel_rfl))⟩
 f57:=⟨Tryz.f376.name,by decide,Tryz.func376.trans (congrArg some (by kernel_rfl))⟩
 t0:=Tryz.underlying0
 a0:=Tryz.isAgg0
 z0:=Tryz.sizeOf0
 v0:=Tryz.zeroValue0
 t3:=Tryz.underlying3
 a3:=Tryz.isAgg3
 z3:=Tryz.sizeOf3
 v3:=Tryz.zeroValue3
 t4:=Tryz.underlying4
 a4:=Tryz.isAgg4
 z4:=Tryz.sizeOf4
 v4:=Tryz.zeroValue4
 t5:=Tryz.underlying5
 a5:=Tryz.isAgg5
 z5:=Tryz.sizeOf5
 v5:=Tryz.zeroValue5
 t9:=Tryz.underlying9
 a9:=Tryz.isAgg9
 z9:=Tryz.sizeOf9
 v9:=Tryz.zeroValue9
 t22:=Tryz.underlying124
 a22:=Tryz.isAgg124
 z22:=Tryz.sizeOf124
 v22:=Tryz.zeroValue124
 t25:=Tryz.underlying164
 a25:=Tryz.isAgg164
 z25:=Tryz.sizeOf164
 v25:=Tryz.zeroValue164
 t39:=Tryz.underlying71
 a39:=Tryz.isAgg71
 z39:=Tryz.sizeOf71
 v39:=Tryz.zeroValue71
 t45:=Tryz.underlying181
 a45:=Tryz.isAgg181
 z45:=Tryz.sizeOf181
 v45:=Tryz.zeroValue181
 t46:=Tryz.underlying182
 a46:=Tryz.isAgg182
 z46:=Tryz.sizeOf182
 v46:=Tryz.zeroValue182
 t50:=Tryz.underlying62
 a50:=Tryz.isAgg62
 z50:=Tryz.sizeOf62
 v50:=Tryz.zeroValue62
 t53:=Tryz.underlying188
 a53:=Tryz.isAgg188
 z53:=Tryz.sizeOf188
 v53:=Tryz.zeroValue188
 t55:=Tryz.underlying190
 a55:=Tryz.isAgg190
 z55:=Tryz.sizeOf190
 v55:=Tryz.zeroValue190
 t66:=Tryz.underlying205
 a66:=Tryz.isAgg205
 z66:=Tryz.sizeOf205
 v66:=Tryz.zeroValue205
 t70:=Tryz.underlying209
 a70:=Tryz.isAgg209
 z70:=Tryz.sizeOf209
 v70:=Tryz.zeroValue209
 t76:=Tryz.underlying229
 a76:=Tryz.isAgg229
 z76:=Tryz.sizeOf229
 v76:=Tryz.zeroValue229
 t77:=Tryz.underlying230
 a77:=Tryz.isAgg230
 z77:=Tryz.sizeOf230
 v77:=Tryz.zeroValue230}
end Go.Proofs
namespace Go.Proofs.YtacjiemkbhhhoaaGreatDoor
open Go Go.RowKit Go.Sort Go.Lib Go.Proofs.YtacjiemkbhhhoaaGreatDoor.Ow
set_option maxHeartbeats 2000000 in
set_option maxRecDepth 100000 in
theorem cix2_go (b1 o1 n c b2 o2 m d:Nat) (z1 z2:Int) (r:Int) (W:World) (h1:b1<W.heap.size) (h2:b2<W.heap.size)
 (hcon:∀W':World,(∀k,k<W.heap.size->W'.heap[k]? =W.heap[k]?)->Calls Tryz.prog 141 #[.slice (some ⟨b1,o1,none⟩) n c,.slice (some ⟨b2,o2,none⟩) m d] W' fun e w'=>e=.returned (.int .i64 r)/\w'=W'):
 Calls Tryz.prog 258 #[.agg #[.slice (some ⟨b1,o1,none⟩) n c,.int .i64 z1],.agg #[.slice (some ⟨b2,o2,none⟩) m d,.int .i64 z2]] W fun e w'=>e=.returned (.int .i64 r)/\∃q os',w'=grow (W.drewN q) os':=by
 go_enter Tryz.func258,Tryz.ntmps258
 go_wp2_with (go_at_call 141;go_loud (refine (hcon _ (by intro k hk;rw [alloc_eq_grow,alloc_eq_grow,grow_grow,heap_grow_old _ _ hk])).mono ?_);rintro e w' ⟨rfl,rfl⟩)
 go_ret
 exact ⟨rfl,0,_,by rw [alloc_eq_grow,alloc_eq_grow,grow_grow];rfl⟩
def Et (w:World) (A:Nat->Prop):Type:={p:Value × Tm // (p.2.1≠[]/\p.2.1.length<=1048576)/\RdI w A .i64 p.2.1 p.1}
def enT {w:World} {A:Nat->Prop} (x:Et w A):List Value:=[x.1.1,.int .i64 x.1.2.2]
def cfT {w:World} {A:Nat->Prop} (x y:Et w A):Int:=cmpI x.1.2.1 y.1.2.1
theorem et_cells {w:World} {A:Nat->Prop} (x:Et w A):∃b o cap,x.1.1=.slice (some ⟨b,o,none⟩) x.1.2.1.length cap/\A b/\b<w.heap.size/\∀j,j<x.1.2.1.length->w.cell? ⟨b,o+j,none⟩=some (.int .i64 (x.1.2.1.getD j 0)):=by
 obtain ⟨a,cap,hv,hcap,hnn,hc⟩:=x.2.2
 rcases hc with h|⟨b,o,rfl,hS,hc⟩
 .exact (x.2.1.1 h).elim
 .have h0:0<x.1.2.1.length:=List.length_pos_iff.2 x.2.1.1
  obtain ⟨cv,h1,_⟩:=hc 0 h0
  refine ⟨b,o,cap,hv,hS,cell_lt h1,fun j hj=>?_⟩
  obtain ⟨cv,h1,h2⟩:=hc j hj
  rw [h1,getD_get _ _ _ hj]
  exact congrArg some h2
theorem enT_one {w:World} {A:Nat->Prop} (x:Et w A):∀v∈enT x,v.oneCell'=true:=fun v hv=>by
 obtain ⟨a,cap,hv1,_⟩:=x.2.2
 unfold enT at hv
 rw [hv1] at hv
 simp at hv
 rcases hv with rfl|rfl<;>rfl
theorem swoT2 {w:World} {A:Nat->Prop}:SWO (ltOf (cfT (w:=w) (A:=A))) where
 irrefl:=fun x=>decide_eq_false (by show ¬cmpI x.1.2.1 x.1.2.1<0;rw [cmpI_refl];decide)
 trans:=fun x y z h1 h2=>decide_eq_true (cmpI_trans x.1.2.1 y.1.2.1 z.1.2.1 (of_decide_eq_true h1) (of_decide_eq_true h2))
 ntrans:=fun x y z h1 h2=>by
  have h1:¬cmpI x.1.2.1 y.1.2.1<0:=of_decide_eq_false h1
  have h2:¬cmpI y.1.2.1 z.1.2.1<0:=of_decide_eq_false h2
  refine decide_eq_false fun h3=>?_
  have h3:cmpI x.1.2.1 z.1.2.1<0:=h3
  have e1:=cmpI_neg x.1.2.1 y.1.2.1
  by_cases h4:cmpI y.1.2.1 x.1.2.1<0
  .exact h2 (cmpI_trans _ _ _ h4 h3)
  .have e:x.1.2.1=y.1.2.1:=cmpI_eq _ _ (by omega)
   rw [e] at h3
   exact h2 h3
theorem swK_heap {α:Type} [Inhabited α] (enc:α->List Value) (w:World) (b m k:Nat) (dk:Array α) (os:Array Obj) (hk:k<w.heap.size) (hb:k≠b):(sortWorldK enc 2 w b 0 m dk os).heap[k]? =w.heap[k]? :=by
 unfold sortWorldK putRowK
 rw [heap_grow_old _ _ (by simpa using hk),putRow_other _ _ _ _ _ hb]
 rfl
theorem swK_size {α:Type} [Inhabited α] (enc:α->List Value) (w:World) (b m:Nat) (dk:Array α) (os:Array Obj):w.heap.size<=(sortWorldK enc 2 w b 0 m dk os).heap.size:=by
 simp [sortWorldK,putRowK]
theorem cmpLaysT2 {w:World} {A:Nat->Prop} [Inhabited (Et w A)] (b n:Nat) (hA:¬A b):CmpLays Tryz.prog 258 #[] (enT (w:=w) (A:=A)) 2 cfT b 0 n w:=by
 intro m os dk hdk x y
 obtain ⟨b1,o1,c1,e1,hS1,hl1,hc1⟩:=et_cells x
 obtain ⟨b2,o2,c2,e2,hS2,hl2,hc2⟩:=et_cells y
 have n1:b1≠b:=fun e=>hA (e ▸ hS1)
 have n2:b2≠b:=fun e=>hA (e ▸ hS2)
 have hsz:=swK_size enT w b m dk os
 have key:=cix2_go b1 o1 x.1.2.1.length c1 b2 o2 y.1.2.1.length c2 x.1.2.2 y.1.2.2 (cfT x y) (sortWorldK enT 2 w b 0 m dk os) (by omega) (by omega) fun W' hW=>
  compare_go b1 o1 x.1.2.1.length c1 b2 o2 y.1.2.1.length c2 x.1.2.1 y.1.2.1 W' rfl rfl x.2.1.2 y.2.1.2
   (fun j hj=>(cell_of_block ((hW b1 (by omega)).trans (swK_heap enT w b m b1 dk os hl1 n1))).trans (hc1 j hj))
   (fun j hj=>(cell_of_block ((hW b2 (by omega)).trans (swK_heap enT w b m b2 dk os hl2 n2))).trans (hc2 j hj))
 rw [<-e1,<-e2] at key
 exact key
theorem run_cix2 (args:Array Value) (w:World):(callFunc 258 args).run Tryz.prog w=.ok (.enter 258 args) w:=
 run_callFunc_enter ⟨_,_,Tryz.func258,rfl,by kernel_rfl⟩ args w
theorem slices_SortFunc_tm (e:Nat) (xss yss:List Tm) (hl:xss.length<=1048576) (h0:xss≠[]) (hne:∀x∈xss,x.1≠[]/\x.1.length<=1048576) (hp:yss.Perm xss) (hs:yss.Pairwise fun x y=>cmpI x.1 y.1<0):
 AC Tryz.prog 257 [.x (.oz 0),.fn 258 []] [.tz e xss] [] [.tz e yss]:=by
 refine ⟨⟨_,_,Tryz.func257,rfl,by kernel_rfl⟩,fun w bs A vs hok hvs=>?_⟩
 obtain ⟨v,r,rfl,⟨b,e',xs',cur,hb,hx,hc,rfl⟩,⟨v2,r2,rfl,⟨vs2,rfl,hvs2⟩,h3⟩⟩:=hvs
 cases h3
 cases hvs2
 cases hx
 have hrow:=hok.row 0 b _ hb rfl
 obtain ⟨hA,cur2,c1,c2,c3,c4⟩:=hrow
 rw [hc] at c1;cases c1
 have hbl:=hok.lt b (List.mem_of_getElem? hb)
 have hbs:bs=[b]:=by
  have hlen:=hok.len
  match bs,hb,hlen with
  |[x],hb,_=>simp at hb;rw [hb]
 subst hbs
 obtain ⟨l,hll,hlp⟩:=exList (α:=Et w A) xss.length (fun j x=>cur[2*j]? =some x.1.1/\cur[2*j+1]? =some (.int .i64 x.1.2.2)/\xss[j]? =some x.1.2) (fun j hj=>by
  obtain ⟨cv,cv2,g1,g2,g3,rfl⟩:=c4 j hj
  rw [Nat.zero_add,cell_of_row w b _ cur e (0,0) hc] at g1
  rw [Nat.zero_add,cell_of_row w b _ cur e (0,0) hc] at g2
  exact ⟨⟨(cv,xss[j]),hne _ (List.getElem_mem hj),g3⟩,g1,g2,List.getElem?_eq_getElem hj⟩)
 have hl0:0<l.length:=by rw [hll];exact List.length_pos_iff.2 h0
 haveI:Inhabited (Et w A):=⟨l[0]⟩
 have hmap:l.map (fun x=>x.1.2)=xss:=by
  apply List.ext_getElem?
  intro j
  rw [List.getElem?_map]
  by_cases hj:j<l.length
  .rw [List.getElem?_eq_getElem hj,(hlp j hj).2.2];rfl
  .rw [List.getElem?_eq_none (by omega),List.getElem?_eq_none (by omega)];rfl
 have flat:∀(d:Array (Et w A)) (j:Nat) (hj:j<d.size),(flatK enT 2 d)[2*j]! =d[j].1.1/\(flatK enT 2 d)[2*j+1]! =.int .i64 d[j].1.2.2:=fun d j hj=>by
  refine ⟨?_,?_⟩
  .rw [get_flatK _ _ _ _ (by omega),show 2*j / 2=j by omega,show 2*j % 2=0 by omega,getElem!_pos d j hj];rfl
  .rw [get_flatK _ _ _ _ (by omega),show (2*j+1) / 2=j by omega,show (2*j+1) % 2=1 by omega,getElem!_pos d j hj];rfl
 have hH:HoldsK enT 2 w b 0 l.toArray:=by
  intro t ht
  have ht':t<l.length*2:=by simpa using ht
  refine ⟨?_,frozen_row w b _ cur e hc⟩
  rw [Nat.zero_add,cell_of_row w b t cur e (0,0) hc]
  have hj:t / 2<l.length:=by omega
  have hf:=flat l.toArray (t / 2) (by simpa using hj)
  have hg:=hlp (t / 2) hj
  rcases (by omega:t=2*(t / 2)\/t=2*(t / 2)+1) with ht2|ht2
  .rw [ht2,hf.1,hg.1];simp
  .rw [ht2,hf.2,hg.2.1];simp
 have key:=AnyQ.slices_SortFunc Tryz.laysTm 2 Tryz.isAgg127 Tryz.sizeOf127 enT (fun _=>rfl) enT_one cfT swoT2 258 #[] b 0 (cur.size / 2) l.toArray w run_cix2 (cmpLaysT2 b _ hA) hH hbl (by simp;omega)
 change Calls Tryz.prog 257 _ _ _ at key
 rw [List.size_toArray,hll] at key
 refine key.mono ?_
 rintro ex w' ⟨rfl,d',n,os,hperm,hsort,rfl⟩
 have hsz':d'.size=xss.length:=by have:=hperm.1;simpa [hll] using this
 have hys:d'.toList.map (fun x=>x.1.2)=yss:=by
  have hpp:d'.toList.Perm l:=by
   have h1:=hperm.2.2
   have e1:d'.extract 0 xss.length=d':=by rw [<-hsz'];exact Array.extract_size
   have e2:l.toArray.extract 0 xss.length=l.toArray:=by rw [<-hll,<-List.size_toArray];exact Array.extract_size
   rw [e1,e2] at h1
   simpa using h1
  have hpm:(d'.toList.map (fun x:Et w A=>x.1.2)).Perm yss:=by
   have h1:=hpp.map (fun x:Et w A=>x.1.2)
   rw [hmap] at h1
   exact h1.trans hp.symm
  refine List.Perm.eq_of_pairwise (le:=fun x y=>¬cmpI y.1 x.1<0) (fun a b ha hb h1 h2=>?_) ?_ (hs.imp fun {a b} h=>by have:=cmpI_neg a.1 b.1;omega) hpm
  .have h3:=cmpI_neg a.1 b.1
   have h4:cmpI a.1 b.1=0:=by omega
   obtain ⟨i,hi,rfl⟩:=List.getElem_of_mem (hpm.subset ha)
   obtain ⟨j,hj,rfl⟩:=List.getElem_of_mem hb
   rcases Nat.lt_trichotomy i j with h|h|h
   .have:=List.pairwise_iff_getElem.1 hs i j hi hj h;omega
   .subst h;rfl
   .have:=List.pairwise_iff_getElem.1 hs j i hj hi h;omega
  .rw [List.pairwise_map,List.pairwise_iff_getElem]
   intro i j hi hj hij
   have hi':i<d'.size:=by simpa using hi
   have hj':j<d'.size:=by simpa using hj
   have:=hsort i j (Nat.zero_le _) hij (by omega)
   rw [getElem!_pos d' j hj',getElem!_pos d' i hi'] at this
   have this:¬cmpI d'[j].1.2.1 d'[i].1.2.1<0:=of_decide_eq_false this
   simpa using this
 have hyl:yss.length=xss.length:=hp.length_eq
 have hold:∀k,k<w.heap.size->k≠b->(sortWorldK enT 2 w b 0 n d' os).heap[k]? =w.heap[k]? :=fun k hk hkb=>swK_heap enT w b n k d' os hk hkb
 have hnew:(sortWorldK enT 2 w b 0 n d' os).heap[b]? =some (.cells (putCells id 0 (flatK enT 2 d') cur) e (0,0)):=by
  unfold sortWorldK putRowK
  rw [heap_grow_old _ _ (by simpa using hbl)]
  exact putRow_block id (Go.Sort.ahead w n) b _ cur e hc
 have hsz:(putCells id 0 (flatK enT 2 d') cur).size=cur.size:=by simp [putCells]
 have hws:=swK_size enT w b n d' os
 refine ⟨.tuple #[],[b],A,rfl,⟨rfl,hok.nodup,fun x hx=>?_,fun x hx=>?_,?_⟩,⟨[],rfl,rfl⟩,⟨rfl,rfl,rfl,hws,?_,fun x hx=>.inl hx,fun x hx=>.inl hx⟩,⟨[],rfl⟩,?_,fun x hx=>hx⟩
 .have:=hok.lt x hx;omega
 .have:=hok.old x hx;omega
 .intro i b2 r hb2 hr2
  match i,hb2,hr2 with
  |0,hb2,hr2=>
   simp at hb2 hr2
   subst hb2;subst hr2
   refine ⟨hA,_,hnew,by rw [hsz,hyl];exact c2,by rw [hsz];exact c3,fun j hj=>?_⟩
   have hj':j<d'.size:=by omega
   have hf:=flat d' j hj'
   refine ⟨d'[j].1.1,.int .i64 d'[j].1.2.2,?_,?_,?_⟩
   .rw [Nat.zero_add,cell_of_row _ _ _ _ e (0,0) hnew,putCells_get _ _ _ _ (by simp;omega) (by simp;omega),hf.1];rfl
   .rw [Nat.zero_add,cell_of_row _ _ _ _ e (0,0) hnew,putCells_get _ _ _ _ (by simp;omega) (by simp;omega),hf.2];rfl
   .have e3:yss[j]=d'[j].1.2:=by simp [<-hys]
    rw [e3]
    exact ⟨RdI.ext (fun k hk hlt=>⟨hold k hlt (fun e=>hA (e ▸ hk)),hk⟩) d'[j].2.2,rfl⟩
  |i+1,hb2,_=>simp at hb2
 .intro k hk hkb
  exact hold k hk (by simpa using hkb)
 .intro x hx cur2 e2 hc2
  simp at hx;subst hx
  rw [hc] at hc2;cases hc2
  exact ⟨_,hnew,hsz⟩
end Go.Proofs.YtacjiemkbhhhoaaGreatDoor
namespace Go.Proofs.YtacjiemkbhhhoaaGreatDoor
open Go Go.Proofs.YtacjiemkbhhhoaaGreatDoor.Ow
theorem partT_len (i:Nat) (n:Int) (hi:i<=10) (h0:0<=n) (h1:n<=10):(partT i n).length<=50:=by
 have h2:=fmtI_len ((i:Int)+1) (by omega) (by omega)
 have h3:=fmtI_len n (by omega) (by omega)
 unfold partT
 split
 .simp only [List.length_cons,List.length_append,List.length_nil];omega
 .simp only [List.length_cons,List.length_append];omega
theorem parT_mem (t:List Int) (hl:t.length<=10) (ht:∀i,0<=t.getD i 0/\t.getD i 0<=10):∀k,k<=t.length->∀s∈parT t k,s.length<=50
 |0,_,s,hs=>by simp [parT] at hs
 |k+1,hk,s,hs=>by
  rw [parT] at hs
  split at hs
  .exact parT_mem t hl ht k (by omega) s hs
  .rcases List.mem_append.1 hs with hs|hs
   .exact parT_mem t hl ht k (by omega) s hs
   .obtain rfl:=List.mem_singleton.1 hs
    exact partT_len k _ (by omega) (ht k).1 (ht k).2
theorem join_len (xs:List (List UInt8)) (sep:List UInt8) (m:Nat) (h:∀s∈xs,s.length<=m):(Lib.join xs sep).length<=xs.length*(sep.length+m):=by
 have:=jn_len xs sep m (fun i hi=>by rw [getD_get _ _ _ hi];exact h _ (List.getElem_mem hi)) xs.length (Nat.le_refl _)
 rwa [jn_join] at this
theorem parT_join (t:List Int) (hl:t.length<=10) (ht:∀i,0<=t.getD i 0/\t.getD i 0<=10) (k:Nat) (hk:k<=t.length):(Lib.join (parT t k) [32]).length<=510:=by
 have h1:=join_len (parT t k) [32] 50 (parT_mem t hl ht k hk)
 have h2:=parT_le t k
 have h3:(parT t k).length*([32].length+50)<=10*51:=Nat.mul_le_mul (by omega) (Nat.le_refl _)
 omega
theorem fmtT_len {x:Tm} (h:TmOk x):(fmtT x).length<=600:=by
 have h1:=parT_join x.1 h.n1 h.t x.1.length (Nat.le_refl _)
 have hc:=h.c
 have h2:=fmtI_len x.2 (by omega) (by omega)
 unfold fmtT jnT
 split
 .omega
 .simp only [List.length_append,List.length_cons,List.length_nil];omega
theorem impl_FormatTerm (x:Tm) (hx:TmOk x):AC Tryz.prog 154 [.arr .mix [.ints x.1,.int x.2]] [] [.d true .str (fmtT x)] []:=by
 have hn:=hx.n1
 have hc:=hx.c
 refine AC_of tauOk 47 0 [2] Tryz.func154 rfl (by kernel_rfl) rfl rfl rfl rfl rfl ?_
 refine ⟨(by decide:0<2),(by decide:2<=1000),rfl,(by decide:0<=1000),true,?_⟩
 refine ⟨(by decide:0<2),(by decide:0<2),?_⟩
 refine ⟨Nat,fun k=>⟨[(1,.ptr 0 0),(3,.ow 1),(9,.d true (.sl .int) x.1),(10,I x.1.length),(11,I (k:Nat))],[.sl 127 .mix [.ints x.1,.int x.2],.sl 9 .str (parT x.1 k)]⟩,fun k=>k<=x.1.length,fun k=>x.1.length-k,0,Nat.zero_le _,
  ⟨⟨rfl,rfl⟩,⟨rfl,rfl,rfl,rfl,rfl,trivial⟩,rfl,rfl,trivial⟩,fun k hk=>?_⟩
 dsimp only at hk
 have hpl:=parT_le x.1 k
 refine ⟨fun h1=>?_,fun h1=>?_⟩
 .have hk2:k<x.1.length:=by omega
  have hb:=hx.t k
  refine ⟨k,rfl,hk2,fun h2=>?_,fun h2=>?_⟩
  .exact ⟨((k+1:Nat):Int),w64_eq (by omega) (by omega) (by omega),k+1,by dsimp only;omega,by dsimp only;omega,⟨rfl,rfl⟩,⟨rfl,rfl,rfl,rfl,rfl,trivial⟩,rfl,rowE (by rw [parT,if_pos h2]),trivial⟩
  .refine ⟨((k:Int)+1),w64_eq (by omega) (by omega) (by omega),[],false,_,_,impl_FormatInt ((k:Int)+1) (by omega) (by omega),nd0,rfl,rfl,trivial,?_⟩
   have hf1:=fmtI_len ((k:Int)+1) (by omega) (by omega)
   have hf2:=fmtI_len (x.1.getD k 0) (by omega) (by omega)
   refine ⟨by simp only [List.length_append,List.length_cons,List.length_nil];omega,fun h3=>?_,fun h3=>?_⟩
   .refine ⟨[],false,_,_,impl_FormatInt (x.1.getD k 0) (by omega) (by omega),nd0,rfl,rfl,trivial,?_⟩
    refine ⟨by simp only [List.length_append,List.length_cons,List.length_nil];omega,by simp only [List.length_append,List.length_cons,List.length_nil];omega,?_⟩
    refine ⟨rfl,by decide,false,?_⟩
    refine ⟨rfl,Nat.zero_le _,rfl,by simp only [List.length_cons,List.length_nil];omega,rfl,?_⟩
    exact ⟨((k+1:Nat):Int),w64_eq (by omega) (by omega) (by omega),k+1,by dsimp only;omega,by dsimp only;omega,⟨rfl,rfl⟩,⟨rfl,rfl,rfl,rfl,rfl,trivial⟩,rfl,rowE (by rw [parT,if_neg h2,partT,if_neg h3];rfl),trivial⟩
   .refine ⟨rfl,by decide,false,?_⟩
    refine ⟨rfl,Nat.zero_le _,rfl,by simp only [List.length_cons,List.length_nil];omega,rfl,?_⟩
    exact ⟨((k+1:Nat):Int),w64_eq (by omega) (by omega) (by omega),k+1,by dsimp only;omega,by dsimp only;omega,⟨rfl,rfl⟩,⟨rfl,rfl,rfl,rfl,rfl,trivial⟩,rfl,rowE (by rw [parT,if_neg h2,partT,if_pos (Decidable.not_not.1 h3)];simp),trivial⟩
 .obtain rfl:k=x.1.length:=by omega
  have hj:=parT_join x.1 hn hx.t x.1.length (Nat.le_refl _)
  have hf:=fmtI_len x.2 (by omega) (by omega)
  refine ⟨fun h2=>?_,fun h2=>?_⟩
  .have e:parT x.1 x.1.length=[]:=List.eq_nil_of_length_eq_zero (by omega)
   refine ⟨(by decide:1<2),(by decide:1<2),[],false,_,_,impl_FormatInt x.2 (by omega) (by omega),nd0,rfl,rfl,trivial,?_⟩
   exact ⟨none,⟨retS (by rw [fmtT,jnT,if_pos e]),trivial⟩,rfl,rfl⟩
  .have e:parT x.1 x.1.length≠[]:=fun e=>h2 (by rw [e];rfl)
   refine ⟨(by decide:1<2),(by decide:1<2),[],false,_,_,impl_FormatInt x.2 (by omega) (by omega),nd0,rfl,rfl,trivial,?_⟩
   refine ⟨by simp only [List.length_append,List.length_cons,List.length_nil];omega,?_⟩
   refine ⟨[],false,_,_,impl_Join false (parT x.1 x.1.length) [32] (by omega) (by omega),nd0,rfl,rfl,trivial,?_⟩
   refine ⟨by simp only [List.length_append,List.length_cons,List.length_nil];omega,?_⟩
   exact ⟨none,⟨retS (by rw [fmtT,jnT,if_neg e]),trivial⟩,rfl,rfl⟩
theorem spec_FormatTerm (x:Tm) (hx:TmOk x):AC Tryz.prog 197 [.arr .mix [.ints x.1,.int x.2]] [] [.d true .str (fmtT x)] []:=by
 have hn:=hx.n1
 have hc:=hx.c
 have hf:=fmtI_len x.2 (by omega) (by omega)
 have hjl:∀k,k<=x.1.length->(jnT (fmtI x.2) (parT x.1 k)).length<=600:=fun k hk=>by
  have h1:=parT_join x.1 hn hx.t k hk
  unfold jnT
  split
  .omega
  .simp only [List.length_append,List.length_cons,List.length_nil];omega
 refine AC_of tauOk 43 0 [2] Tryz.func197 rfl (by kernel_rfl) rfl rfl rfl rfl rfl ?_
 refine ⟨(by decide:0<2),(by decide:2<=1000),(by decide:1<2),(by decide:1<2),[],false,_,_,spec_FormatInt x.2 (by omega) (by omega),nd0,rfl,rfl,trivial,?_⟩
 refine ⟨(by decide:0<2),(by decide:0<2),?_⟩
 refine ⟨Nat,fun k=>⟨[(1,.ptr 0 0),(3,.d true .str (jnT (fmtI x.2) (parT x.1 k))),(10,.d true (.sl .int) x.1),(11,I x.1.length),(12,I (k:Nat))],[.sl 127 .mix [.ints x.1,.int x.2]]⟩,fun k=>k<=x.1.length,fun k=>x.1.length-k,0,Nat.zero_le _,
  ⟨⟨rfl,rfl⟩,⟨rfl,rfl,rfl,rfl,rfl,trivial⟩,rfl,trivial⟩,fun k hk=>?_⟩
 dsimp only at hk
 have hpl:=hjl k hk
 refine ⟨fun h1=>?_,fun h1=>?_⟩
 .have hk2:k<x.1.length:=by omega
  have hb:=hx.t k
  refine ⟨k,rfl,hk2,fun h2=>?_,fun h2=>?_⟩
  .exact ⟨((k+1:Nat):Int),w64_eq (by omega) (by omega) (by omega),k+1,by dsimp only;omega,by dsimp only;omega,⟨rfl,rfl⟩,⟨rfl,retS (by rw [parT,if_pos h2]),rfl,rfl,rfl,trivial⟩,rfl,trivial⟩
  .have hf1:=fmtI_len ((k:Int)+1) (by omega) (by omega)
   have hf2:=fmtI_len (x.1.getD k 0) (by omega) (by omega)
   refine ⟨(by decide:1<2),(by decide:1<2),[],false,_,_,spec_FormatInt x.2 (by omega) (by omega),nd0,rfl,rfl,trivial,fun h3=>?_,fun h3=>?_⟩
   .refine ⟨by simp only [List.length_append,List.length_cons,List.length_nil];omega,by simp only [List.length_append,List.length_cons,List.length_nil];omega,?_⟩
    refine ⟨((k:Int)+1),w64_eq (by omega) (by omega) (by omega),[],false,_,_,spec_FormatInt ((k:Int)+1) (by omega) (by omega),nd0,rfl,rfl,trivial,?_⟩
    refine ⟨by simp only [List.length_append,List.length_cons,List.length_nil];omega,fun h4=>?_,fun h4=>?_⟩
    .refine ⟨by simp only [List.length_append,List.length_cons,List.length_nil];omega,[],false,_,_,spec_FormatInt (x.1.getD k 0) (by omega) (by omega),nd0,rfl,rfl,trivial,?_⟩
     refine ⟨by simp only [List.length_append,List.length_cons,List.length_nil];omega,?_⟩
     exact ⟨((k+1:Nat):Int),w64_eq (by omega) (by omega) (by omega),k+1,by dsimp only;omega,by dsimp only;omega,⟨rfl,rfl⟩,⟨rfl,retS (by rw [parT,if_neg h2,jnT_snoc,if_pos h3,partT,if_neg h4,h3];simp),rfl,rfl,rfl,trivial⟩,rfl,trivial⟩
    .exact ⟨((k+1:Nat):Int),w64_eq (by omega) (by omega) (by omega),k+1,by dsimp only;omega,by dsimp only;omega,⟨rfl,rfl⟩,⟨rfl,retS (by rw [parT,if_neg h2,jnT_snoc,if_pos h3,partT,if_pos (Decidable.not_not.1 h4),h3];simp),rfl,rfl,rfl,trivial⟩,rfl,trivial⟩
   .refine ⟨by simp only [List.length_append,List.length_cons,List.length_nil];omega,by simp only [List.length_append,List.length_cons,List.length_nil];omega,?_⟩
    refine ⟨((k:Int)+1),w64_eq (by omega) (by omega) (by omega),[],false,_,_,spec_FormatInt ((k:Int)+1) (by omega) (by omega),nd0,rfl,rfl,trivial,?_⟩
    refine ⟨by simp only [List.length_append,List.length_cons,List.length_nil];omega,fun h4=>?_,fun h4=>?_⟩
    .refine ⟨by simp only [List.length_append,List.length_cons,List.length_nil];omega,[],false,_,_,spec_FormatInt (x.1.getD k 0) (by omega) (by omega),nd0,rfl,rfl,trivial,?_⟩
     refine ⟨by simp only [List.length_append,List.length_cons,List.length_nil];omega,?_⟩
     exact ⟨((k+1:Nat):Int),w64_eq (by omega) (by omega) (by omega),k+1,by dsimp only;omega,by dsimp only;omega,⟨rfl,rfl⟩,⟨rfl,retS (by rw [parT,if_neg h2,jnT_snoc,if_neg h3,partT,if_neg h4];simp),rfl,rfl,rfl,trivial⟩,rfl,trivial⟩
    .exact ⟨((k+1:Nat):Int),w64_eq (by omega) (by omega) (by omega),k+1,by dsimp only;omega,by dsimp only;omega,⟨rfl,rfl⟩,⟨rfl,retS (by rw [parT,if_neg h2,jnT_snoc,if_neg h3,partT,if_pos (Decidable.not_not.1 h4)];simp),rfl,rfl,rfl,trivial⟩,rfl,trivial⟩
 .obtain rfl:k=x.1.length:=by omega
  exact ⟨none,⟨rfl,trivial⟩,rfl,rfl⟩
end Go.Proofs.YtacjiemkbhhhoaaGreatDoor
