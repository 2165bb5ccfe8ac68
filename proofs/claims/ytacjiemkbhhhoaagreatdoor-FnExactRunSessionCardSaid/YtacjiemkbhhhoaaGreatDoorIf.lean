/-
  Part 6 of the texts that the claim rests on: Wcix, Wpln, Wfw, Wfws, Wnil, PlS0, Wtree, Wcode, Wread, Wrot, Pl2, Wroot, Wheight, Ov, Wxsw, Wxsp, Wxep, Wpat.
  No condition beyond the given program.
-/
import Derived.Test.YtacjiemkbhhhoaaGreatDoorIe
set_option linter.unusedVariables false
set_option linter.unusedSimpArgs false
namespace Go.Proofs.YtacjiemkbhhhoaaGreatDoor
open Go Go.Proofs.YtacjiemkbhhhoaaGreatDoor.Ow
theorem tzE {e:Nat} {xs ys:List Tm} (h:xs=ys):Row.tz e xs=.tz e ys:=by rw [h]
theorem cyc_lens {p:List Int} (hP:PermP p):(cycL p).length<=10/\∀k,k<(cycL p).length->1<=((cycL p).getD k []).length/\((cycL p).getD k []).length<=p.length:=by
 obtain ⟨h1,h2,h3⟩:=cyc_ok p (permR hP) p.length (Nat.le_refl _)
 have hn:=hP.1.2
 refine ⟨by show (cycS p p.length).2.length<=10;omega,fun k hk=>?_⟩
 have hm:(cycL p).getD k []∈(cycS p p.length).2:=by rw [getD_get _ _ _ hk];exact List.getElem_mem _
 obtain ⟨g1,g2,g3⟩:=h3 _ hm
 exact ⟨g1,g2⟩
theorem typL_ok {p:List Int} (hP:PermP p):(typL p).length=p.length/\∀j,0<=(typL p).getD j 0/\(typL p).getD j 0<=10:=by
 have h1:=(cyc_lens hP).1
 refine ⟨typL_len p,fun j=>?_⟩
 have:=typS_b p (cycL p).length j
 show 0<=(typS p (cycL p).length).getD j 0/\(typS p (cycL p).length).getD j 0<=10
 omega
theorem impl_CycleType (sh:Bool) (p:List Int) (hP:PermP p):AC Tryz.prog 254 [.d sh (.sl .int) p] [] [.ow 0] [.sl 3 .int (typL p)]:=by
 have hlen:=hP.1
 have hc:=cyc_lens hP
 refine AC_of tauOk 29 0 [2] Tryz.func254 rfl (by kernel_rfl) rfl rfl rfl rfl rfl ?_
 refine ⟨[],false,_,_,impl_PermOk sh p (by omega),nd0,rfl,rfl,trivial,fun _=>?_,fun h=>by rw [(permB_iff p).2 hP] at h;cases h⟩
 refine ⟨_,_,rfl,rfl,Nat.le_refl _,by omega,?_⟩
 refine ⟨[],true,_,_,impl_CyclesOf sh p hP,nd0,rfl,rfl,trivial,?_⟩
 refine ⟨Nat,fun k=>⟨[(3,.ow 0),(13,.d true (.sl (.sl .int)) (cycL p)),(14,I (cycL p).length),(15,I (k:Nat))],[.sl 3 .int (typS p k)]⟩,fun k=>k<=(cycL p).length,fun k=>(cycL p).length-k,0,Nat.zero_le _,
  ⟨⟨rfl,rfl⟩,⟨rfl,rfl,rfl,rfl,trivial⟩,rfl,trivial⟩,fun k hk=>?_⟩
 dsimp only at hk
 refine ⟨fun h1=>?_,fun h1=>?_⟩
 .have hk2:k<(cycL p).length:=by omega
  obtain ⟨g1,g2⟩:=hc.2 k hk2
  have hb:=typS_b p k (((cycL p).getD k []).length-1)
  have hl:=typS_len p k
  refine ⟨k,rfl,hk2,?_⟩
  refine ⟨((((cycL p).getD k []).length-1:Nat):Int),w64_eq (by omega) (by omega) (by omega),((cycL p).getD k []).length-1,rfl,by rw [hl];omega,?_⟩
  refine ⟨_,w64_in _ (by omega) (by omega),((cycL p).getD k []).length-1,rfl,by rw [hl];omega,?_⟩
  exact ⟨((k+1:Nat):Int),w64_eq (by omega) (by omega) (by omega),k+1,by dsimp only;omega,by dsimp only;omega,⟨rfl,rfl⟩,⟨rfl,rfl,rfl,rfl,trivial⟩,rowE rfl,trivial⟩
 .obtain rfl:k=(cycL p).length:=by omega
  exact ⟨some 0,⟨⟨rfl,rfl⟩,trivial⟩,⟨rfl,rfl⟩,rfl⟩
theorem spec_CycleType (sh:Bool) (p:List Int) (hP:PermP p):AC Tryz.prog 284 [.d sh (.sl .int) p] [] [.ow 0] [.sl 3 .int (typL p)]:=by
 have hlen:=hP.1
 have hc:=cyc_lens hP
 refine AC_of tauOk 29 0 [2] Tryz.func284 rfl (by kernel_rfl) rfl rfl rfl rfl rfl ?_
 refine ⟨[],false,_,_,spec_PermOk sh p (by omega),nd0,rfl,rfl,trivial,fun _=>?_,fun h=>by rw [(permB_iff p).2 hP] at h;cases h⟩
 refine ⟨_,_,rfl,rfl,Nat.le_refl _,by omega,?_⟩
 refine ⟨[],true,_,_,spec_CyclesOf sh p hP,nd0,rfl,rfl,trivial,?_⟩
 refine ⟨Nat,fun k=>⟨[(3,.ow 0),(13,.d true (.sl (.sl .int)) (cycL p)),(14,I (cycL p).length),(15,I (k:Nat))],[.sl 3 .int (typS p k)]⟩,fun k=>k<=(cycL p).length,fun k=>(cycL p).length-k,0,Nat.zero_le _,
  ⟨⟨rfl,rfl⟩,⟨rfl,rfl,rfl,rfl,trivial⟩,rfl,trivial⟩,fun k hk=>?_⟩
 dsimp only at hk
 refine ⟨fun h1=>?_,fun h1=>?_⟩
 .have hk2:k<(cycL p).length:=by omega
  obtain ⟨g1,g2⟩:=hc.2 k hk2
  have hb:=typS_b p k (((cycL p).getD k []).length-1)
  have hl:=typS_len p k
  refine ⟨k,rfl,hk2,?_⟩
  refine ⟨((((cycL p).getD k []).length-1:Nat):Int),w64_eq (by omega) (by omega) (by omega),((cycL p).getD k []).length-1,rfl,by rw [hl];omega,?_⟩
  refine ⟨_,w64_in _ (by omega) (by omega),((cycL p).getD k []).length-1,rfl,by rw [hl];omega,?_⟩
  exact ⟨((k+1:Nat):Int),w64_eq (by omega) (by omega) (by omega),k+1,by dsimp only;omega,by dsimp only;omega,⟨rfl,rfl⟩,⟨rfl,rfl,rfl,rfl,trivial⟩,rowE rfl,trivial⟩
 .obtain rfl:k=(cycL p).length:=by omega
  exact ⟨some 0,⟨⟨rfl,rfl⟩,trivial⟩,⟨rfl,rfl⟩,rfl⟩
theorem impl_CycleIndex_1 (e:TypeId) (x:Tm) (t:List Int) (h1:x.1.length<=1048576) (h2:t.length<=1048576):AC Tryz.prog 256 [.arr .mix [.ints x.1,.int x.2],.ptr 0 0] [.box e (.d true (.sl .int) t)] [.d true .bool (decide (x.1=t))] [.box e (.d true (.sl .int) t)]:=by
 refine AC_of tauOk 8 1 [3] Tryz.func256 rfl (by kernel_rfl) rfl rfl rfl rfl rfl ?_
 refine ⟨(by decide:0<2),(by decide:2<=1000),(by decide:0<2),(by decide:0<2),rfl,[],false,_,_,slices_Equal_int true true x.1 t h1 h2,nd0,rfl,rfl,trivial,fun h=>?_,fun h=>?_⟩
 .exact ⟨none,⟨retB h,trivial⟩,rfl,rfl⟩
 .exact ⟨none,⟨retB h,trivial⟩,rfl,rfl⟩
def posZ (l:List Tm) (t:List Int):Int:=if posT l t<l.length then (posT l t:Nat) else-1
theorem posT_is {l:List Tm} {t:List Int} {k:Nat} (hk:k<l.length) (h:(l.getD k ([],0)).1=t) (hy:∀j,j<k->(l.getD j ([],0)).1≠t):posT l t=k:=by
 unfold posT
 rw [List.findIdx_eq hk]
 rw [getD_get _ _ _ hk] at h
 refine ⟨decide_eq_true h,fun j hj=>decide_eq_false ?_⟩
 have:=hy j hj
 rwa [getD_get _ _ _ (by omega)] at this
theorem posT_none {l:List Tm} {t:List Int} (hy:∀j,j<l.length->(l.getD j ([],0)).1≠t):¬posT l t<l.length:=posT_no.2 fun x hx=>by
 obtain ⟨j,hj,rfl⟩:=List.getElem_of_mem hx
 have:=hy j hj
 rwa [getD_get _ _ _ hj] at this
theorem slices_IndexFunc_tm (e e2:TypeId) (l:List Tm) (t:List Int) (hl:l.length<=1048576) (h1:∀x∈l,x.1.length<=1048576) (h2:t.length<=1048576):
 AC Tryz.prog 255 [.x (.oz 0),.fn 256 [.ptr 1 0]] [.tz e l,.box e2 (.d true (.sl .int) t)] [I (posZ l t)] [.tz e l,.box e2 (.d true (.sl .int) t)]:=by
 refine AC_of tauOk 19 2 [4] Tryz.func255 rfl (by kernel_rfl) rfl rfl rfl rfl rfl ?_
 refine ⟨Nat,fun k=>⟨[(0,.x (.oz 0)),(1,.fn 256 [.ptr 1 0]),(7,I l.length),(8,I (k:Nat))],[.tz e l,.box e2 (.d true (.sl .int) t)]⟩,fun k=>k<=l.length/\∀j,j<k->(l.getD j ([],0)).1≠t,fun k=>l.length-k,0,⟨by omega,fun j hj=>by omega⟩,
  ⟨⟨rfl,rfl⟩,⟨rfl,rfl,rfl,rfl,trivial⟩,rfl,rfl,trivial⟩,fun k ⟨hk,hy⟩=>?_⟩
 refine ⟨fun h3=>?_,fun h3=>?_⟩
 .have hk2:k<l.length:=by omega
  refine ⟨k,rfl,hk2,[1],false,_,_,impl_CycleIndex_1 e2 (l.getD k ([],0)) t (by rw [getD_get _ _ _ hk2];exact h1 _ (List.getElem_mem hk2)) h2,by decide,rfl,rfl,⟨⟨rfl,trivial⟩,trivial⟩,fun h4=>?_,fun h4=>?_⟩
  .have hp:=posT_is hk2 (of_decide_eq_true h4) hy
   exact ⟨none,⟨retI (by rw [posZ,hp,if_pos hk2]),trivial⟩,rfl,rfl⟩
  .refine ⟨_,w64_in _ (by omega) (by omega),k+1,⟨by omega,fun i hi=>?_⟩,by dsimp only;omega,⟨rfl,rfl⟩,⟨rfl,rfl,rfl,rfl,trivial⟩,rfl,rfl,trivial⟩
   by_cases e:i=k
   .subst e;exact of_decide_eq_false h4
   .exact hy i (by omega)
 .exact ⟨none,⟨retI (by rw [posZ,if_neg (posT_none fun j hj=>hy j (by omega))]),trivial⟩,rfl,rfl⟩
theorem tms_ok {g:List (List Int)} (hG:GrpP g):∀k,k<=g.length->TmsP (g.getD 0 []).length k (uS g k)/\TmsP (g.getD 0 []).length k (sS g k):=fun k hk=>by
 have h:=tms_u (n:=(g.getD 0 []).length) g (fun i hi=>by
  obtain ⟨h1,h2,_⟩:=gok1_p (hG.o1 i hi)
  have h3:=typL_ok h1
  exact ⟨h3.1.trans h2,h3.2⟩) k hk
 exact ⟨h,tms_perm h (s_perm g k)⟩
theorem cix_ne {g:List (List Int)} (h:1<=g.length):cixL g≠[]:=by
 have h1:=(s_perm g g.length).length_eq
 have h2:1<=(uS g g.length).length:=by
  obtain ⟨k,hk⟩:∃k,g.length=k+1:=⟨g.length-1,by omega⟩
  rw [hk,uS,addU]
  split
  next h=>rw [incA,List.length_set];omega
  next h=>simp
 intro e
 rw [cixL] at e
 rw [e] at h1
 simp at h1
 omega
theorem impl_CycleIndex (sh:Bool) (g:List (List Int)) (hB:gokB g=true) (hl:g.length<=1048576) (hx:∀i,i<g.length->(g.getD i []).length<=1048576):AC Tryz.prog 153 [.d sh (.sl (.sl .int)) g] [] [.x (.oz 0)] [.tz 127 (cixL g)]:=by
 have hG:=(gokB_iff g).1 hB
 have hl2:=hG.l2
 have hT:=tms_ok hG
 refine AC_of tauOk 43 0 [2] Tryz.func153 rfl (by kernel_rfl) rfl rfl rfl rfl rfl ?_
 refine ⟨rfl,[],false,_,_,impl_GroupOk sh g hl hx,nd0,rfl,rfl,trivial,fun _=>?_,fun h=>by rw [hB] at h;cases h⟩
 refine ⟨Nat,fun k=>⟨[(3,.x (.oz 0)),(13,.d sh (.sl (.sl .int)) g),(14,I g.length),(15,I (k:Nat))],[.tz 127 (uS g k)]⟩,fun k=>k<=g.length,fun k=>g.length-k,0,Nat.zero_le _,
  ⟨⟨rfl,rfl⟩,⟨rfl,rfl,rfl,rfl,trivial⟩,rfl,trivial⟩,fun k hk=>?_⟩
 dsimp only at hk
 refine ⟨fun h1=>?_,fun h1=>?_⟩
 .have hk2:k<g.length:=by omega
  obtain ⟨hP,he,_⟩:=gok1_p (hG.o1 k hk2)
  have ht:=typL_ok hP
  have hU:=(hT k hk).1
  have hpl:=hP.1
  refine ⟨k,rfl,hk2,[],true,_,_,impl_CycleType sh (g.getD k []) hP,nd0,rfl,rfl,trivial,?_⟩
  refine ⟨rfl,rfl,[0,1],false,_,_,slices_IndexFunc_tm 127 29 (uS g k) (typL (g.getD k [])) (by have:=hU.n1;omega) (fun x hx=>by have:=hU.t x hx;omega) (by omega),by decide,rfl,rfl,⟨⟨rfl,rfl⟩,⟨rfl,trivial⟩,trivial⟩,?_⟩
  by_cases hpos:posT (uS g k) (typL (g.getD k []))<(uS g k).length
  .rw [show posZ (uS g k) (typL (g.getD k []))=(posT (uS g k) (typL (g.getD k [])):Nat) from if_pos hpos]
   refine ⟨fun h2=>by omega,fun h2=>?_⟩
   have hc:=hU.c _ (List.getElem_mem hpos)
   rw [<-getD_get _ _ ([],0) hpos] at hc
   refine ⟨_,rfl,hpos,rfl,(by decide:1<2),?_⟩
   refine ⟨_,w64_in _ (by omega) (by omega),_,rfl,hpos,rfl,(by decide:1<2),?_⟩
   exact ⟨((k+1:Nat):Int),w64_eq (by omega) (by omega) (by omega),k+1,by dsimp only;omega,by dsimp only;omega,⟨rfl,rfl⟩,⟨rfl,rfl,rfl,rfl,trivial⟩,tzE (by rw [uS,addU,if_pos hpos];rfl),trivial⟩
  .rw [show posZ (uS g k) (typL (g.getD k []))= -1 from if_neg hpos]
   refine ⟨fun h2=>?_,fun h2=>by omega⟩
   refine ⟨rfl,rfl,Nat.zero_le _,rfl,by have:=hU.n1;simp only [List.length_cons,List.length_nil];omega,rfl,?_⟩
   exact ⟨((k+1:Nat):Int),w64_eq (by omega) (by omega) (by omega),k+1,by dsimp only;omega,by dsimp only;omega,⟨rfl,rfl⟩,⟨rfl,rfl,rfl,rfl,trivial⟩,tzE (by rw [uS,addU,if_neg hpos]),trivial⟩
 .obtain rfl:k=g.length:=by omega
  have hU:=(hT g.length (Nat.le_refl _)).1
  have hl1:=hG.l1
  have hne:uS g g.length≠[]:=fun e=>cix_ne hl1 (by have:=s_perm g g.length;rw [e] at this;exact this.eq_nil)
  refine ⟨[0],false,_,_,slices_SortFunc_tm 127 (uS g g.length) (cixL g) (by have:=hU.n1;omega) hne (fun x hx=>by
   have h:=hU.t x hx
   have h2:=(gok1_p (hG.o1 0 (by omega))).1.1
   exact ⟨fun e=>by have h3:=h.1;have h4:=congrArg List.length e;rw [List.length_nil] at h4;omega,by omega⟩) (s_perm g g.length) (sS_up g g.length),by decide,rfl,rfl,⟨⟨(s_perm g g.length).length_eq,rfl⟩,trivial⟩,?_⟩
  exact ⟨some 0,⟨⟨rfl,rfl⟩,trivial⟩,⟨rfl,rfl⟩,rfl⟩
theorem spec_CycleIndex_no (sh:Bool) (g:List (List Int)) (hB:gokB g=false) (hl:g.length<=1048576) (hx:∀i,i<g.length->(g.getD i []).length<=1048576):AC Tryz.prog 196 [.d sh (.sl (.sl .int)) g] [] [.nil] []:=by
 refine AC_of tauOk 74 0 [2] Tryz.func196 rfl (by kernel_rfl) rfl rfl rfl rfl rfl ?_
 refine ⟨[],false,_,_,spec_GroupOk sh g hl hx,nd0,rfl,rfl,trivial,fun h=>(nomatch hB.symm.trans h),fun _=>?_⟩
 exact ⟨none,⟨rfl,trivial⟩,rfl,rfl⟩
theorem lowT_is {l:List Tm} {t:List Int} {k:Nat} (hk:k<=l.length) (hy:∀j,j<k->cmpI (l.getD j ([],0)).1 t<0) (h:k=l.length\/¬cmpI (l.getD k ([],0)).1 t<0):lowT l t=k:=by
 rcases Nat.lt_trichotomy (lowT l t) k with h1|h1|h1
 .have:=hy _ h1
  exact (lowT_ge (by omega) this).elim
 .exact h1
 .have h2:=lowT_lt h1
  have h3:=lowT_le l t
  rcases h with h|h
  .omega
  .exact (h h2).elim
theorem spec_CycleIndex (sh:Bool) (g:List (List Int)) (hB:gokB g=true) (hl:g.length<=1048576) (hx:∀i,i<g.length->(g.getD i []).length<=1048576):AC Tryz.prog 196 [.d sh (.sl (.sl .int)) g] [] [.x (.oz 0)] [.tz 127 (cixL g)]:=by
 have hG:=(gokB_iff g).1 hB
 have hl2:=hG.l2
 have hT:=tms_ok hG
 refine AC_of tauOk 74 0 [2] Tryz.func196 rfl (by kernel_rfl) rfl rfl rfl rfl rfl ?_
 refine ⟨[],false,_,_,spec_GroupOk sh g hl hx,nd0,rfl,rfl,trivial,fun _=>?_,fun h=>by rw [hB] at h;cases h⟩
 refine ⟨rfl,?_⟩
 refine ⟨Nat,fun k=>⟨[(3,.x (.oz 0)),(13,.d sh (.sl (.sl .int)) g),(14,I g.length),(15,I (k:Nat))],[.tz 127 (sS g k)]⟩,fun k=>k<=g.length,fun k=>g.length-k,0,Nat.zero_le _,
  ⟨⟨rfl,rfl⟩,⟨rfl,rfl,rfl,rfl,trivial⟩,rfl,trivial⟩,fun k hk=>?_⟩
 dsimp only at hk
 refine ⟨fun h1=>?_,fun h1=>?_⟩
 .have hk2:k<g.length:=by omega
  obtain ⟨hP,he,_⟩:=gok1_p (hG.o1 k hk2)
  have ht:=typL_ok hP
  have hU:=(hT k hk).2
  have hpl:=hP.1
  refine ⟨k,rfl,hk2,[],true,_,_,spec_CycleType sh (g.getD k []) hP,nd0,rfl,rfl,trivial,?_⟩
  refine ⟨Nat,fun j=>⟨[(3,.x (.oz 0)),(6,.d true (.sl .int) (typL (g.getD k []))),(7,I (j:Nat)),(13,.d sh (.sl (.sl .int)) g),(14,I g.length),(15,I (k:Nat))],[.tz 127 (sS g k)]⟩,fun j=>j<=(sS g k).length/\∀i,i<j->cmpI ((sS g k).getD i ([],0)).1 (typL (g.getD k []))<0,fun j=>(sS g k).length-j,0,⟨Nat.zero_le _,fun i hi=>by omega⟩,
   ⟨⟨rfl,rfl⟩,⟨rfl,rfl,rfl,rfl,rfl,rfl,trivial⟩,rfl,trivial⟩,fun j ⟨hj,hy⟩=>?_⟩
  have hU1:=hU.n1
  have hin:∀i,i<(sS g k).length->((sS g k).getD i ([],0)).1.length=(g.getD 0 []).length/\0<=((sS g k).getD i ([],0)).2/\((sS g k).getD i ([],0)).2<=(k:Int):=fun i hi=>by
   rw [getD_get _ _ _ hi]
   have a1:=hU.t _ (List.getElem_mem hi)
   have a2:=hU.c _ (List.getElem_mem hi)
   exact ⟨a1.1,a2⟩
  have fin:(j=(sS g k).length\/¬cmpI ((sS g k).getD j ([],0)).1 (typL (g.getD k []))<0)->lowT (sS g k) (typL (g.getD k []))=j:=fun h=>lowT_is hj hy h
  refine ⟨fun h2=>?_,fun h2=>?_⟩
  .have hj2:j<(sS g k).length:=by omega
   have hj3:=hin j hj2
   refine ⟨j,rfl,hj2,rfl,(by decide:0<2),[],false,_,_,spec_l03Less true true ((sS g k).getD j ([],0)).1 (typL (g.getD k [])) (by omega) (by omega),nd0,rfl,rfl,trivial,fun h3=>?_,fun h3=>?_⟩
   .refine ⟨_,w64_in _ (by omega) (by omega),j+1,⟨by omega,fun i hi=>?_⟩,by dsimp only;omega,⟨rfl,rfl⟩,⟨rfl,rfl,rfl,rfl,rfl,rfl,trivial⟩,rfl,trivial⟩
    by_cases e:i=j
    .subst e;exact of_decide_eq_true h3
    .exact hy i (by omega)
   .have hlow:=fin (.inr (of_decide_eq_false h3))
    refine ⟨fun _=>?_,fun h=>(h (by omega)).elim⟩
    refine ⟨j,rfl,hj2,rfl,(by decide:0<2),[],false,_,_,spec_l03Same true true ((sS g k).getD j ([],0)).1 (typL (g.getD k [])) (by omega) (by omega),nd0,rfl,rfl,trivial,fun h4=>?_,fun h4=>?_⟩
    .have e4:=of_decide_eq_true h4
     refine ⟨j,rfl,hj2,rfl,(by decide:1<2),?_⟩
     refine ⟨_,w64_in _ (by omega) (by omega),j,rfl,hj2,rfl,(by decide:1<2),?_⟩
     exact ⟨((k+1:Nat):Int),w64_eq (by omega) (by omega) (by omega),k+1,by dsimp only;omega,by dsimp only;omega,⟨rfl,rfl⟩,⟨rfl,rfl,rfl,rfl,trivial⟩,tzE (by rw [sS,addS,hlow,if_pos ⟨hj2,e4⟩];rfl),trivial⟩
    .have e4:=of_decide_eq_false h4
     refine ⟨rfl,j,rfl,Nat.zero_le _,hj,?_⟩
     refine ⟨Nat.zero_le _,rfl,by simp only [List.length_nil,List.length_drop,List.length_take];omega,rfl,?_⟩
     refine ⟨rfl,Nat.zero_le _,rfl,by simp only [List.length_append,List.length_nil,List.length_drop,List.length_take,List.length_cons];omega,rfl,?_⟩
     refine ⟨j,rfl,hj,Nat.le_refl _,?_⟩
     refine ⟨Nat.zero_le _,rfl,by simp only [List.length_append,List.length_nil,List.length_drop,List.length_take,List.length_cons];omega,rfl,?_⟩
     refine ⟨Nat.zero_le _,Nat.zero_le _,rfl,rfl,?_⟩
     exact ⟨((k+1:Nat):Int),w64_eq (by omega) (by omega) (by omega),k+1,by dsimp only;omega,by dsimp only;omega,⟨rfl,rfl⟩,⟨rfl,rfl,rfl,rfl,trivial⟩,tzE (by rw [sS,addS,hlow,if_neg (fun h=>e4 h.2)];simp),trivial⟩
  .obtain rfl:j=(sS g k).length:=by omega
   have hlow:=fin (.inl rfl)
   refine ⟨fun h=>by omega,fun _=>?_⟩
   refine ⟨rfl,(sS g k).length,rfl,Nat.zero_le _,Nat.le_refl _,?_⟩
   refine ⟨Nat.zero_le _,rfl,by simp only [List.length_nil,List.length_drop,List.length_take];omega,rfl,?_⟩
   refine ⟨rfl,Nat.zero_le _,rfl,by simp only [List.length_append,List.length_nil,List.length_drop,List.length_take,List.length_cons];omega,rfl,?_⟩
   refine ⟨(sS g k).length,rfl,Nat.le_refl _,Nat.le_refl _,?_⟩
   refine ⟨Nat.zero_le _,rfl,by simp only [List.length_append,List.length_nil,List.length_drop,List.length_take,List.length_cons];omega,rfl,?_⟩
   refine ⟨Nat.zero_le _,Nat.zero_le _,rfl,rfl,?_⟩
   exact ⟨((k+1:Nat):Int),w64_eq (by omega) (by omega) (by omega),k+1,by dsimp only;omega,by dsimp only;omega,⟨rfl,rfl⟩,⟨rfl,rfl,rfl,rfl,trivial⟩,tzE (by rw [sS,addS,hlow,if_neg (fun h=>absurd h.1 (by omega))];simp),trivial⟩
 .obtain rfl:k=g.length:=by omega
  exact ⟨some 0,⟨⟨rfl,rfl⟩,trivial⟩,⟨rfl,rfl⟩,rfl⟩
def ixlS (g:List (List Int)):List UInt8:=if gokB g=true then Lib.join ((cixL g).map fmtT).reverse [32,43,32] else [110,111,110,101]
theorem cix_tm {g:List (List Int)} (hB:gokB g=true):(cixL g).length<=120/\∀i,i<(cixL g).length->TmOk ((cixL g).getD i ([],0)):=by
 have hG:=(gokB_iff g).1 hB
 have h1:=hG.l1
 have h2:=hG.l2
 have hT:=(tms_ok hG g.length (Nat.le_refl _)).2
 have hP:=(gok1_p (hG.o1 0 (by omega))).1.1
 refine ⟨Nat.le_trans hT.n1 h2,fun i hi=>?_⟩
 rw [getD_get _ _ _ hi]
 have a1:=hT.t _ (List.getElem_mem hi)
 have a2:=hT.c _ (List.getElem_mem hi)
 exact ⟨by have:=a1.1;omega,a1.2,a2.1,by omega⟩
theorem ixl_len {g:List (List Int)} (hB:gokB g=true):(Lib.join ((cixL g).map fmtT).reverse [32,43,32]).length<=100000:=by
 obtain ⟨h1,h2⟩:=cix_tm hB
 have h3:=join_len ((cixL g).map fmtT).reverse [32,43,32] 600 (fun s hs=>by
  obtain ⟨x,hx,rfl⟩:=List.mem_map.1 (List.mem_reverse.1 hs)
  obtain ⟨i,hi,rfl⟩:=List.getElem_of_mem hx
  have:=h2 i hi
  rw [getD_get _ _ _ hi] at this
  exact fmtT_len this)
 have h4:((cixL g).map fmtT).reverse.length*([32,43,32].length+600)<=120*603:=Nat.mul_le_mul (by simp;omega) (Nat.le_refl _)
 omega
theorem impl_IndexLine (sh:Bool) (g:List (List Int)) (hl:g.length<=1048576) (hx:∀i,i<g.length->(g.getD i []).length<=1048576):AC Tryz.prog 63 [.d sh (.sl (.sl .int)) g] [] [.d true .str (ixlS g)] []:=by
 cases hB:gokB g
 .have hGO:=impl_GroupOk sh g hl hx
  rw [hB] at hGO
  refine AC_of tauOk 27 0 [2] Tryz.func63 rfl (by kernel_rfl) rfl rfl rfl rfl rfl ?_
  refine ⟨[],false,_,_,hGO,nd0,rfl,rfl,trivial,nofun,fun _=>?_⟩
  exact ⟨none,⟨retS (by rw [ixlS,if_neg (by rw [hB];decide)]),trivial⟩,rfl,rfl⟩
 .have hGO:=impl_GroupOk sh g hl hx
  rw [hB] at hGO
  obtain ⟨h1,h2⟩:=cix_tm hB
  have hj:=ixl_len hB
  refine AC_of tauOk 27 0 [2] Tryz.func63 rfl (by kernel_rfl) rfl rfl rfl rfl rfl ?_
  refine ⟨[],false,_,_,hGO,nd0,rfl,rfl,trivial,fun _=>?_,nofun⟩
  refine ⟨rfl,(by decide:0<=1000),true,?_⟩
  refine ⟨[],true,_,_,impl_CycleIndex sh g hB hl hx,nd0,rfl,rfl,trivial,?_⟩
  refine ⟨Nat,fun k=>⟨[(3,.ow 0),(11,.x (.dz true (cixL g))),(12,I (cixL g).length),(13,I (k:Nat))],[.sl 9 .str (((cixL g).take k).map fmtT)]⟩,fun k=>k<=(cixL g).length,fun k=>(cixL g).length-k,0,Nat.zero_le _,
   ⟨⟨rfl,rfl⟩,⟨rfl,rfl,rfl,rfl,trivial⟩,rfl,trivial⟩,fun k hk=>?_⟩
  dsimp only at hk
  refine ⟨fun h3=>?_,fun h3=>?_⟩
  .have hk2:k<(cixL g).length:=by omega
   refine ⟨k,rfl,hk2,(by decide:0<2),(by decide:2<=1000),rfl,rfl,rfl,rfl,?_⟩
   refine ⟨rfl,[],false,_,_,impl_FormatTerm ((cixL g).getD k ([],0)) (h2 k hk2),nd0,rfl,rfl,trivial,?_⟩
   refine ⟨rfl,by decide,false,?_⟩
   refine ⟨rfl,Nat.zero_le _,rfl,by simp only [List.length_cons,List.length_nil,List.length_map,List.length_take];omega,rfl,?_⟩
   exact ⟨((k+1:Nat):Int),w64_eq (by omega) (by omega) (by omega),k+1,by dsimp only;omega,by dsimp only;omega,⟨rfl,rfl⟩,⟨rfl,rfl,rfl,rfl,trivial⟩,rowE (by rw [L_succ (cixL g) k ([],0) hk2,List.map_append];rfl),trivial⟩
  .obtain rfl:k=(cixL g).length:=by omega
   dsimp only
   rw [List.take_length]
   refine ⟨[0],false,_,_,slices_Reverse_str 9 ((cixL g).map fmtT) (by simp;omega),by decide,rfl,rfl,⟨⟨List.length_reverse,rfl,rfl⟩,trivial⟩,?_⟩
   refine ⟨[],false,_,_,impl_Join false ((cixL g).map fmtT).reverse [32,43,32] (by simp;omega) (by omega),nd0,rfl,rfl,trivial,?_⟩
   exact ⟨none,⟨retS (by rw [ixlS,if_pos hB]),trivial⟩,rfl,rfl⟩
theorem spec_IndexLine (sh:Bool) (g:List (List Int)) (hl:g.length<=1048576) (hx:∀i,i<g.length->(g.getD i []).length<=1048576):AC Tryz.prog 97 [.d sh (.sl (.sl .int)) g] [] [.d true .str (ixlS g)] []:=by
 cases hB:gokB g
 .refine AC_of tauOk 29 0 [2] Tryz.func97 rfl (by kernel_rfl) rfl rfl rfl rfl rfl ?_
  refine ⟨[],true,_,_,spec_CycleIndex_no sh g hB hl hx,nd0,rfl,rfl,trivial,?_⟩
  refine ⟨rfl,(by decide:0<=1000),true,?_⟩
  refine ⟨-1,w64_eq (by decide) (by decide) (by decide),?_⟩
  refine ⟨Nat,fun _=>⟨[(3,.nil),(4,.ow 0),(5,I (-1))],[.sl 9 .str []]⟩,fun _=>True,fun _=>0,0,trivial,
   ⟨⟨rfl,rfl⟩,⟨rfl,rfl,rfl,trivial⟩,rfl,trivial⟩,fun k _=>?_⟩
  refine ⟨fun h=>absurd h (by decide),fun _=>?_⟩
  refine ⟨fun _=>?_,fun h=>(h rfl).elim⟩
  exact ⟨none,⟨retS (by rw [ixlS,if_neg (by rw [hB];decide)]),trivial⟩,rfl,rfl⟩
 .have hG:=(gokB_iff g).1 hB
  obtain ⟨h1,h2⟩:=cix_tm hB
  have hj:=ixl_len hB
  have hne:=cix_ne hG.l1
  have h0:=List.length_pos_iff.2 hne
  refine AC_of tauOk 29 0 [2] Tryz.func97 rfl (by kernel_rfl) rfl rfl rfl rfl rfl ?_
  refine ⟨[],true,_,_,spec_CycleIndex sh g hB hl hx,nd0,rfl,rfl,trivial,?_⟩
  refine ⟨rfl,(by decide:0<=1000),true,?_⟩
  refine ⟨((cixL g).length-1:Int),w64_eq (by omega) (by omega) (by omega),?_⟩
  refine ⟨Nat,fun k=>⟨[(3,.x (.dz true (cixL g))),(4,.ow 0),(5,I (((cixL g).length:Int)-1-(k:Nat)))],[.sl 9 .str (((cixL g).map fmtT).reverse.take k)]⟩,fun k=>k<=(cixL g).length,fun k=>(cixL g).length-k,0,Nat.zero_le _,
   ⟨⟨rfl,rfl⟩,⟨rfl,rfl,retI (by omega),trivial⟩,rfl,trivial⟩,fun k hk=>?_⟩
  dsimp only at hk
  refine ⟨fun h3=>?_,fun h3=>?_⟩
  .have hk2:k<(cixL g).length:=by omega
   refine ⟨(cixL g).length-1-k,(by show (((cixL g).length:Int)-1-(k:Nat))=(((cixL g).length-1-k:Nat):Int);omega),by omega,?_⟩
   refine ⟨[],false,_,_,spec_FormatTerm ((cixL g).getD ((cixL g).length-1-k) ([],0)) (h2 _ (by omega)),nd0,rfl,rfl,trivial,?_⟩
   refine ⟨rfl,by decide,false,?_⟩
   refine ⟨rfl,Nat.zero_le _,rfl,by simp only [List.length_cons,List.length_nil,List.length_map,List.length_take,List.length_reverse];omega,rfl,?_⟩
   refine ⟨(((cixL g).length:Int)-1-((k+1:Nat))),w64_eq (by omega) (by omega) (by omega),k+1,by dsimp only;omega,by dsimp only;omega,⟨rfl,rfl⟩,⟨rfl,rfl,rfl,trivial⟩,rowE ?_,trivial⟩
   have hk3:k<(((cixL g).map fmtT).reverse).length:=by simpa using hk2
   rw [L_succ (((cixL g).map fmtT).reverse) k [] hk3,getD_get _ _ _ hk3,List.getElem_reverse,List.getElem_map,getD_get _ _ _ (by omega)]
   simp
  .obtain rfl:k=(cixL g).length:=by omega
   have hl2:(((cixL g).map fmtT).reverse).length=(cixL g).length:=by simp
   dsimp only
   rw [<-hl2,List.take_length,hl2]
   refine ⟨fun h=>?_,fun _=>?_⟩
   .simp at h;exact absurd h hne
   refine ⟨[],false,_,_,spec_Join false ((cixL g).map fmtT).reverse [32,43,32] (by simp;omega) (by omega),nd0,rfl,rfl,trivial,?_⟩
   exact ⟨none,⟨retS (by rw [ixlS,if_pos hB]),trivial⟩,rfl,rfl⟩
theorem orbI_el {g:List (List Int)} (hB:gokB g=true) {i:Nat} (hi:i<(g.getD 0 []).length) (met:List Bool):∀k,k<=g.length->∀x∈(orbI g i met k).2,0<=x/\x<10
 |0,_,x,hx=>by simp [orbI] at hx
 |k+1,hk,x,hx=>by
  have ih:=orbI_el hB hi met k (by omega)
  rw [orbI] at hx
  split at hx
  .exact ih x hx
  .rcases List.mem_append.1 hx with hx|hx
   .exact ih x hx
   .obtain ⟨hP,hl⟩:=(perm_bd hB).2 k (by omega)
    have h1:=(hP.2 i (by omega)).1
    have h2:=hP.1
    rw [List.mem_singleton.1 hx];omega
theorem orbS_el {g:List (List Int)} (hB:gokB g=true):∀i,i<=(g.getD 0 []).length->∀l∈(orbS g (g.getD 0 []).length i).2,l.length<=120/\∀x∈l,0<=x/\x<10
 |0,_,l,hl=>by simp [orbS] at hl
 |i+1,hi,l,hl=>by
  have ih:=orbS_el hB i (by omega)
  rw [orbS] at hl
  split at hl
  .exact ih l hl
  .rcases List.mem_append.1 hl with hl|hl
   .exact ih l hl
   .rw [List.mem_singleton.1 hl]
    have hp:=srtI_p (orbI g i (orbS g (g.getD 0 []).length i).1 g.length).2
    have h1:=(orbI_ok g i (orbS g (g.getD 0 []).length i).1 g.length).2
    have h2:=(perm_bd hB).1
    exact ⟨by rw [hp.length_eq];omega,fun x hx=>orbI_el hB (by omega) _ _ (Nat.le_refl _) x (hp.subset hx)⟩
theorem in64_of {l:List Int} {B:Int} (hB:B<=9223372036854775807) (h:∀x∈l,-1<=x/\x<=B):In64 l:=fun i hi=>by
 rw [getD_get _ _ _ hi]
 have:=h _ (List.getElem_mem hi)
 omega
theorem fmtL_len {xs:List Int} (hx:In64 xs):(fmtL xs).length<=xs.length*21+1:=by
 unfold fmtL
 split
 .simp
 .rw [<-jn_join]
  have h:=jn_len (xs.map fmtI) [44] 20 (fun i hi=>by
   have hi2:i<xs.length:=by simpa using hi
   rw [getD_get _ _ _ hi,List.getElem_map]
   have:=hx i hi2
   rw [getD_get _ _ _ hi2] at this
   exact fmtI_len _ this.1 this.2) (xs.map fmtI).length (Nat.le_refl _)
  rw [List.length_map] at h ⊢
  simp at h
  omega
theorem clsI_el {g:List (List Int)} {p:List Int} {z:Int} {out:List Int} {B:Int} (hz: -1<=z/\z<=B) (ho:∀x∈out,-1<=x/\x<=B):∀k,∀x∈clsI g p z out k,-1<=x/\x<=B
 |0,x,hx=>ho x hx
 |k+1,x,hx=>by
  rw [clsI] at hx
  rcases List.mem_or_eq_of_mem_set hx with h|h
  .exact clsI_el hz ho k x h
  .rw [h];exact hz
theorem clsS_el (g:List (List Int)):∀i,i<=g.length->∀x∈(clsS g i).1,-1<=x/\x<=(g.length:Int)
 |0,_,x,hx=>by
  rw [clsS] at hx
  have:=List.eq_of_mem_replicate hx
  omega
 |i+1,hi,x,hx=>by
  have ih:=clsS_el g i (by omega)
  have h2:=(clsS_ok g i).2
  rw [clsS] at hx
  split at hx
  .exact ih x hx
  .exact clsI_el (by omega) ih _ x hx
theorem two_el {g:List (List Int)} (hB:gokB g=true):(twoL g).length<=11/\∀x∈twoL g,-1<=x/\x<=1000000:=by
 obtain ⟨⟨hg1,hg2⟩,hgp⟩:=perm_bd hB
 have hn:=(hgp 0 (by omega)).1.1
 rw [twoL,if_pos hB,twoS]
 refine ⟨by rw [List.length_map,List.length_range];omega,fun x hx=>?_⟩
 obtain ⟨e,he,rfl⟩:=List.mem_map.1 hx
 have h1:ctsS g [(((g.getD 0 []).length-e:Nat):Int),(e:Int)] g.length<=g.length*1024:=sumTo_le _ _ _ fun i hi=>ways_b (hgp i hi).1 rfl
 have h2:ctsN g [(((g.getD 0 []).length-e:Nat):Int),(e:Int)]<=ctsS g [(((g.getD 0 []).length-e:Nat):Int),(e:Int)] g.length:=Nat.div_le_self _ _
 omega
def unkS:List UInt8:=[117,110,107,110,111,119,110,32,99,111,109,109,97,110,100]
theorem join_bd (xs:List (List UInt8)) (m:Nat) (h:∀x∈xs,x.length<=m):(Lib.join xs [32]).length<=xs.length*(1+m):=by
 rw [<-jn_join]
 exact jn_len xs [32] m (fun i hi=>by rw [getD_get _ _ _ hi];exact h _ (List.getElem_mem hi)) xs.length (Nat.le_refl _)
theorem join_nil:∀l:List (List UInt8),Lib.join l []=l.flatten:=by
 intro l
 cases l with
 |nil=>rfl
 |cons x r=>
  rw [Lib.join_cons,List.flatten_cons]
  congr 1
  induction r with
  |nil=>rfl
  |cons y r ih=>simp [Lib.joinTail] at ih ⊢ <;>exact ih
theorem word_join (xs:List Int) (h:ColP xs):Lib.join (xs.map fmtI) []=wordS xs:=by
 rw [join_nil]
 have h1:∀x∈xs,fmtI x=[dg x.toNat]:=by
  intro x hx
  obtain ⟨i,hi,rfl⟩:=List.getElem_of_mem hx
  have h2:=h.1 i hi
  rw [getD_get _ _ _ hi] at h2
  have h3:¬xs[i]<0:=by omega
  have e:xs[i].natAbs=xs[i].toNat:=by omega
  rw [fmtI,if_neg h3,e,fmtN_lt _ (by omega)]
 rw [List.map_congr_left h1]
 clear h1 h
 induction xs with
 |nil=>rfl
 |cons x r ih=>simp [wordS] at ih ⊢;exact ih
theorem impl_FormatWord (sh:Bool) (xs:List Int) (hx:In64 xs) (hl:xs.length<=1048576):AC Tryz.prog 76 [.d sh (.sl .int) xs] [] [.d true .str (formatW xs)] []:=by
 refine AC_of tauOk 8 0 [2] Tryz.func76 rfl (by kernel_rfl) rfl rfl rfl rfl rfl ?_
 refine ⟨[],false,_,_,impl_ColoringOk sh xs hl,nd0,rfl,rfl,trivial,fun h1=>?_,fun h1=>?_⟩
 .refine ⟨[],false,_,_,impl_commas sh xs [] hx hl (by decide),nd0,rfl,rfl,trivial,?_⟩
  exact ⟨none,⟨retS (by rw [formatW,if_pos h1,word_join xs ((colB_iff xs).1 h1)]),trivial⟩,rfl,rfl⟩
 .exact ⟨none,⟨retS (by rw [formatW,if_neg (by rw [h1];decide)]),trivial⟩,rfl,rfl⟩
theorem formatW_len (xs:List Int):(formatW xs).length<=10:=by
 unfold formatW
 split
 .rename_i h
  have:=((colB_iff xs).1 h).2
  simp [wordS];omega
 .simp
theorem mapS_succ (xss:List (List Int)) (f:List Int->List UInt8) (k:Nat) (h:k<xss.length):(xss.take (k+1)).map f=(xss.take k).map f++[f (xss.getD k [])]:=by
 rw [L_succ xss k [] h,List.map_append];rfl
theorem fws_len (xss:List (List Int)) (hs:xss.length<=1048576):(Lib.join (xss.map formatW) [32]).length<=140737488355328:=by
 have h:=jn_len (xss.map formatW) [32] 10 (fun i hi=>by
  have hi':i<xss.length:=by simpa using hi
  rw [getD_get _ _ _ hi,List.getElem_map]
  exact formatW_len _) (xss.map formatW).length (Nat.le_refl _)
 rw [jn_join] at h
 simp only [List.length_map,List.length_cons,List.length_nil] at h
 omega
def fmtWs (xss:List (List Int)):List UInt8:=if xss.length=0 then [45] else Lib.join (xss.map formatW) [32]
theorem spec_FormatWords (sh:Bool) (xss:List (List Int)) (hs:Short xss):AC Tryz.prog 114 [.d sh (.sl (.sl .int)) xss] [] [.d true .str (fmtWs xss)] []:=by
 have hl:=hs.1
 refine AC_of tauOk 24 0 [2] Tryz.func114 rfl (by kernel_rfl) rfl rfl rfl rfl rfl ?_
 refine ⟨rfl,by decide,true,?_⟩
 refine ⟨Nat,fun k=>⟨[(3,.ow 0),(7,.d sh (.sl (.sl .int)) xss),(8,I xss.length),(9,I (k:Nat))],[.sl 9 .str ((xss.take k).map formatW)]⟩,fun k=>k<=xss.length,fun k=>xss.length-k,0,Nat.zero_le _,
  ⟨⟨rfl,rfl⟩,⟨rfl,rfl,rfl,rfl,trivial⟩,rfl,trivial⟩,fun k hk=>?_⟩
 dsimp only at hk
 refine ⟨fun h1=>?_,fun h1=>?_⟩
 .have hk2:k<xss.length:=by omega
  have hle:((xss.take k).map formatW).length<=1048576:=by simp;omega
  refine ⟨k,rfl,hk2,[],false,_,_,spec_FormatWord sh (xss.getD k []) (hs.2 k hk2),nd0,rfl,rfl,trivial,?_⟩
  refine ⟨rfl,by decide,false,?_⟩
  refine ⟨rfl,Nat.zero_le _,rfl,by simp only [List.length_cons,List.length_nil];omega,rfl,?_⟩
  exact ⟨((k+1:Nat):Int),w64_eq (by omega) (by omega) (by omega),k+1,by dsimp only;omega,by dsimp only;omega,⟨rfl,rfl⟩,⟨rfl,rfl,rfl,rfl,trivial⟩,rowE (mapS_succ xss formatW k hk2).symm,trivial⟩
 .obtain rfl:k=xss.length:=by omega
  dsimp only;rw [List.take_length]
  have hlm:(xss.map formatW).length=xss.length:=List.length_map ..
  refine ⟨fun h2=>?_,fun h2=>?_⟩
  .exact ⟨none,⟨retS (by rw [fmtWs,if_pos (by omega)]),trivial⟩,rfl,rfl⟩
  .refine ⟨[],false,_,_,spec_Join false (xss.map formatW) [32] (by omega) (fws_len xss hl),nd0,rfl,rfl,trivial,?_⟩
   exact ⟨none,⟨retS (by rw [fmtWs,if_neg (by omega)]),trivial⟩,rfl,rfl⟩
theorem impl_FormatWords (sh:Bool) (xss:List (List Int)) (hx:∀i,i<xss.length->In64 (xss.getD i [])) (hs:Short xss):AC Tryz.prog 79 [.d sh (.sl (.sl .int)) xss] [] [.d true .str (fmtWs xss)] []:=by
 have hl:=hs.1
 refine AC_of tauOk 24 0 [2] Tryz.func79 rfl (by kernel_rfl) rfl rfl rfl rfl rfl ?_
 refine ⟨rfl,by decide,true,?_⟩
 refine ⟨Nat,fun k=>⟨[(3,.ow 0),(7,.d sh (.sl (.sl .int)) xss),(8,I xss.length),(9,I (k:Nat))],[.sl 9 .str ((xss.take k).map formatW)]⟩,fun k=>k<=xss.length,fun k=>xss.length-k,0,Nat.zero_le _,
  ⟨⟨rfl,rfl⟩,⟨rfl,rfl,rfl,rfl,trivial⟩,rfl,trivial⟩,fun k hk=>?_⟩
 dsimp only at hk
 refine ⟨fun h1=>?_,fun h1=>?_⟩
 .have hk2:k<xss.length:=by omega
  have hle:((xss.take k).map formatW).length<=1048576:=by simp;omega
  refine ⟨k,rfl,hk2,[],false,_,_,impl_FormatWord sh (xss.getD k []) (hx k hk2) (hs.2 k hk2),nd0,rfl,rfl,trivial,?_⟩
  refine ⟨rfl,by decide,false,?_⟩
  refine ⟨rfl,Nat.zero_le _,rfl,by simp only [List.length_cons,List.length_nil];omega,rfl,?_⟩
  exact ⟨((k+1:Nat):Int),w64_eq (by omega) (by omega) (by omega),k+1,by dsimp only;omega,by dsimp only;omega,⟨rfl,rfl⟩,⟨rfl,rfl,rfl,rfl,trivial⟩,rowE (mapS_succ xss formatW k hk2).symm,trivial⟩
 .obtain rfl:k=xss.length:=by omega
  dsimp only;rw [List.take_length]
  have hlm:(xss.map formatW).length=xss.length:=List.length_map ..
  refine ⟨fun h2=>?_,fun h2=>?_⟩
  .exact ⟨none,⟨retS (by rw [fmtWs,if_pos (by omega)]),trivial⟩,rfl,rfl⟩
  .refine ⟨[],false,_,_,impl_Join false (xss.map formatW) [32] (by omega) (fws_len xss hl),nd0,rfl,rfl,trivial,?_⟩
   exact ⟨none,⟨retS (by rw [fmtWs,if_neg (by omega)]),trivial⟩,rfl,rfl⟩
theorem impl_FormatWord_nil:AC Tryz.prog 76 [.nil] [] [.d true .str (formatW [])] []:=
 (impl_FormatWord true [] (fun i hi=>by simp at hi) (by decide)).weak fun w bs A vs=>by
  rintro ⟨v,r,rfl,h1,h2⟩
  exact ⟨v,_,rfl,V_nil h1,h2⟩
theorem impl_FormatInts_nil:AC Tryz.prog 65 [.nil] [] [.d true .str (fmtL [])] []:=
 (impl_FormatInts true [] (fun i hi=>by simp at hi) (by decide)).weak fun w bs A vs=>by
  rintro ⟨v,r,rfl,h1,h2⟩
  exact ⟨v,_,rfl,V_nil h1,h2⟩
theorem impl_FormatWords_nil:AC Tryz.prog 79 [.nil] [] [.d true .str (fmtWs [])] []:=
 (impl_FormatWords true [] (fun i hi=>by simp at hi) ⟨by decide,fun i hi=>by simp at hi⟩).weak fun w bs A vs=>by
  rintro ⟨v,r,rfl,h1,h2⟩
  exact ⟨v,_,rfl,V_nil h1,h2⟩
def treeCode (xs:List Int):List UInt8:=if treeB xs=true then codeF xs 12 0 else []
def lastS (l:List (List UInt8)):Nat->List UInt8
 |0=>[]
 |j+1=>l.getD j []
def rz (l:List (List UInt8)):Nat->Nat
 |0=>0
 |k+1=>if l.getD k []=lastS l k then rz l k+1 else 1
theorem rz_s (l:List (List UInt8)) (k:Nat):rz l (k+1)=if l.getD k []=lastS l k then rz l k+1 else 1:=rfl
theorem rz_le (l:List (List UInt8)):∀k,rz l k<=k
 |0=>Nat.le_refl _
 |k+1=>by
  have:=rz_le l k
  rw [rz_s]
  split<;>omega
def pz (l:List (List UInt8)) (n:Int):Nat->Int
 |0=>n
 |k+1=>w64 (pz l n k*(rz l (k+1):Nat))
theorem pz_s (l:List (List UInt8)) (n:Int) (k:Nat):pz l n (k+1)=w64 (pz l n k*(rz l (k+1):Nat)):=rfl
def tz (xs:List Int):Nat->Int
 |0=>1
 |v+1=>pz (kidsF xs 11 v) (tz xs v) (kidsF xs 11 v).length
def treeRen (xs:List Int):Int:=if treeB xs=true then tz xs xs.length else 0
def rdStep (s:List Int × Int) (c:UInt8):List Int × Int:=if ((c.toNat:Nat):Int)=40 then (s.1++[s.2],((s.1.length:Nat):Int)) else if 0<=s.2 then (s.1,s.1.getD s.2.toNat 0) else s
def rdT (code:List UInt8):List Int × Int:=code.foldl rdStep ([],-1)
def readB (code:List UInt8):Bool:=decide (code.length<=24) && (treeB (rdT code).1 && decide (treeCode (rdT code).1=code))
theorem spec_TreeOk (sh:Bool) (xs:List Int) (hl:xs.length<=1048576):AC Tryz.prog 206 [.d sh (.sl .int) xs] [] [.d true .bool (treeB xs)] []:=by
 refine AC_of tauOk 32 0 [2] Tryz.func206 rfl (by kernel_rfl) rfl rfl rfl rfl rfl ?_
 refine ⟨[],false,_,_,spec_l01In _ _ _,nd0,rfl,rfl,trivial,fun h1=>?_,fun h1=>?_⟩
 .simp at h1
  refine ⟨0,rfl,by omega,fun h2=>?_,fun h2=>?_⟩
  .exact ⟨none,⟨retB (treeB_false fun h=>h2 h.2.1),trivial⟩,rfl,rfl⟩
  .refine ⟨Nat,fun k=>⟨[(0,.d sh (.sl .int) xs),(15,.d sh (.sl .int) xs),(16,I xs.length),(17,I (k:Nat))],[]⟩,fun k=>k<=xs.length/\∀i,1<=i->i<k->0<=xs.getD i 0/\xs.getD i 0<(i:Int),fun k=>xs.length-k,0,⟨by omega,fun j hj=>by omega⟩,
    ⟨⟨rfl,rfl⟩,⟨rfl,rfl,rfl,rfl,trivial⟩,trivial⟩,fun k ⟨hk,hy⟩=>?_⟩
   refine ⟨fun h3=>?_,fun h3=>?_⟩
   .refine ⟨k,rfl,by omega,fun h4=>?_,fun h4=>?_⟩
    .refine ⟨_,w64_in _ (by omega) (by omega),[],false,_,_,spec_l01In _ _ _,nd0,rfl,rfl,trivial,fun h5=>?_,fun h5=>?_⟩
     .simp only [Bool.and_eq_true,decide_eq_true_eq] at h5
      refine ⟨_,w64_in _ (by omega) (by omega),k+1,⟨by omega,fun i hi1 hi2=>?_⟩,by dsimp only;omega,⟨rfl,rfl⟩,⟨rfl,rfl,rfl,rfl,trivial⟩,trivial⟩
      by_cases e:i=k
      .subst e;omega
      .exact hy i hi1 (by omega)
     .refine ⟨none,⟨retB (treeB_false fun h=>?_),trivial⟩,rfl,rfl⟩
      have:=h.2.2 k (by omega) (by omega)
      simp only [Bool.and_eq_false_iff,decide_eq_false_iff_not] at h5
      omega
    .refine ⟨_,w64_in _ (by omega) (by omega),k+1,⟨by omega,fun i hi1 hi2=>?_⟩,by dsimp only;omega,⟨rfl,rfl⟩,⟨rfl,rfl,rfl,rfl,trivial⟩,trivial⟩
     exact hy i hi1 (by omega)
   .exact ⟨none,⟨retB ((treeB_iff xs).2 ⟨by omega,by omega,fun i hi1 hi2=>hy i hi1 (by omega)⟩),trivial⟩,rfl,rfl⟩
 .refine ⟨none,⟨retB (treeB_false fun h=>?_),trivial⟩,rfl,rfl⟩
  have:=h.1
  simp at h1
  omega
theorem impl_TreeOk (sh:Bool) (xs:List Int) (hl:xs.length<=1048576):AC Tryz.prog 163 [.d sh (.sl .int) xs] [] [.d true .bool (treeB xs)] []:=by
 refine AC_of tauOk 35 0 [2] Tryz.func163 rfl (by kernel_rfl) rfl rfl rfl rfl rfl ?_
 refine ⟨fun h1=>?_,fun h1=>?_⟩
 .exact ⟨none,⟨retB (treeB_false fun h=>by have:=h.1;omega),trivial⟩,rfl,rfl⟩
 refine ⟨fun h2=>?_,fun h2=>?_⟩
 .exact ⟨none,⟨retB (treeB_false fun h=>by have:=h.1;omega),trivial⟩,rfl,rfl⟩
 refine ⟨0,rfl,by omega,fun h3=>?_,fun h3=>?_⟩
 .exact ⟨none,⟨retB (treeB_false fun h=>h3 h.2.1),trivial⟩,rfl,rfl⟩
 refine ⟨1,rfl,by omega,Nat.le_refl _,?_⟩
 have hlen:(List.drop 1 (List.take xs.length xs)).length=xs.length-1:=by simp
 have hget:∀j,(List.drop 1 (List.take xs.length xs)).getD j 0=xs.getD (j+1) 0:=fun j=>by rw [L_drop,List.take_length,Nat.add_comm]
 generalize List.drop 1 (List.take xs.length xs)=ys at*
 refine ⟨Nat,fun k=>⟨[(20,.d sh (.sl .int) ys),(21,I ys.length),(22,I (k:Nat))],[]⟩,fun k=>k<=ys.length/\∀i,1<=i->i<k+1->0<=xs.getD i 0/\xs.getD i 0<(i:Int),fun k=>ys.length-k,0,⟨by omega,fun j hj=>by omega⟩,
  ⟨⟨rfl,rfl⟩,⟨rfl,rfl,rfl,trivial⟩,trivial⟩,fun k ⟨hk,hy⟩=>?_⟩
 refine ⟨fun h4=>?_,fun h4=>?_⟩
 .refine ⟨k,rfl,by omega,fun h5=>?_,fun h5=>?_⟩
  .refine ⟨none,⟨retB (treeB_false fun h=>?_),trivial⟩,rfl,rfl⟩
   have:=h.2.2 (k+1) (by omega) (by omega)
   rw [hget] at h5
   omega
  .refine ⟨fun h6=>?_,fun h6=>?_⟩
   .refine ⟨none,⟨retB (treeB_false fun h=>?_),trivial⟩,rfl,rfl⟩
    have:=h.2.2 (k+1) (by omega) (by omega)
    rw [hget] at h6
    omega
   .refine ⟨_,w64_in _ (by omega) (by omega),k+1,⟨by omega,fun i hi1 hi2=>?_⟩,by dsimp only;omega,⟨rfl,rfl⟩,⟨rfl,rfl,rfl,trivial⟩,trivial⟩
    rw [hget] at h5 h6
    by_cases e:i=k+1
    .subst e;omega
    .exact hy i hi1 (by omega)
 .exact ⟨none,⟨retB ((treeB_iff xs).2 ⟨by omega,by omega,fun i hi1 hi2=>hy i hi1 (by omega)⟩),trivial⟩,rfl,rfl⟩
theorem retD {sh:Bool} {t:Ty} {b c:List t.T} (h:b=c):(AV.d sh (.sl t) b)=.d sh (.sl t) c:=by rw [h]
theorem kid_lt {xs:List Int} (hT:TreeP xs) {i at_:Nat} (hi:i<xs.length) (e:xs.getD i 0=(at_:Int)):at_<i:=by
 by_cases h0:i=0
 .subst h0
  have:=hT.2.1;omega
 .have:=hT.2.2 i (by omega) hi;omega
theorem impl_children (sh:Bool) (xs:List Int) (hl:xs.length<=12) (b at_:Nat)
 (ih:∀i,i<xs.length->xs.getD i 0=(at_:Int)->AC Tryz.prog 262 [.d sh (.sl .int) xs,I (i:Nat)] [] [.d true .str (codeF xs b i)] []):
 AC Tryz.prog 164 [.d sh (.sl .int) xs,I (at_:Nat)] [] [.ow 0] [.sl 9 .str (kidsF xs b at_)]:=by
 refine AC_of tauOk 31 0 [4] Tryz.func164 rfl (by kernel_rfl) rfl rfl rfl rfl rfl ?_
 refine ⟨rfl,by decide,true,?_⟩
 refine ⟨Nat,fun k=>⟨[(0,.d sh (.sl .int) xs),(1,I (at_:Nat)),(5,.ow 0),(9,.d sh (.sl .int) xs),(10,I xs.length),(11,I (k:Nat))],[.sl 9 .str (kidsP xs b at_ k)]⟩,fun k=>k<=xs.length,fun k=>xs.length-k,0,Nat.zero_le _,
  ⟨⟨rfl,rfl⟩,⟨rfl,rfl,rfl,rfl,rfl,rfl,trivial⟩,rfl,trivial⟩,fun k hk=>?_⟩
 dsimp only at hk
 have hkl:=kidsP_len xs b at_ k
 refine ⟨fun h1=>?_,fun h1=>?_⟩
 .have hk2:k<xs.length:=by omega
  refine ⟨k,rfl,hk2,fun h2=>?_,fun h2=>?_⟩
  .refine ⟨[],false,_,_,ih k hk2 h2,nd0,rfl,rfl,trivial,?_⟩
   refine ⟨rfl,by decide,false,?_⟩
   refine ⟨rfl,Nat.zero_le _,rfl,by simp only [List.length_cons,List.length_nil];omega,rfl,?_⟩
   exact ⟨((k+1:Nat):Int),w64_eq (by omega) (by omega) (by omega),k+1,by dsimp only;omega,by dsimp only;omega,⟨rfl,rfl⟩,⟨rfl,rfl,rfl,rfl,rfl,rfl,trivial⟩,rowE (kidsP_yes xs b at_ k h2).symm,trivial⟩
  .exact ⟨((k+1:Nat):Int),w64_eq (by omega) (by omega) (by omega),k+1,by dsimp only;omega,by dsimp only;omega,⟨rfl,rfl⟩,⟨rfl,rfl,rfl,rfl,rfl,rfl,trivial⟩,rowE (kidsP_no xs b at_ k h2).symm,trivial⟩
 .obtain rfl:k=xs.length:=by omega
  refine ⟨[0],false,_,_,slices_Sort_str 9 (kidsP xs b at_ xs.length) (by omega),by decide,rfl,rfl,⟨⟨List.length_mergeSort _,rfl,rfl⟩,trivial⟩,?_⟩
  refine ⟨[0],false,_,_,slices_Reverse_str 9 ((kidsP xs b at_ xs.length).mergeSort fun x y=>decide (x<=y)) (by rw [List.length_mergeSort];omega),by decide,rfl,rfl,⟨⟨List.length_reverse,rfl,rfl⟩,trivial⟩,?_⟩
  exact ⟨some 0,⟨⟨rfl,rfl⟩,trivial⟩,⟨rfl,rowsE (sortD_merge _)⟩,rfl⟩
theorem impl_codeOf (sh:Bool) (xs:List Int) (hT:TreeP xs):∀(b at_:Nat),at_<xs.length->xs.length-at_<=b->b<=12->AC Tryz.prog 262 [.d sh (.sl .int) xs,I (at_:Nat)] [] [.d true .str (codeF xs b at_)] []
 |0,at_,h1,h2,_=>by omega
 |b+1,at_,h1,h2,h3=>by
  have hl:xs.length<=12:=hT.1.2
  have ih:=impl_codeOf sh xs hT b
  have hj:=kidsF_join xs hl b at_ (by omega)
  refine AC_of tauOk 11 0 [4] Tryz.func262 rfl (by kernel_rfl) rfl rfl rfl rfl rfl ?_
  refine ⟨[],false,_,_,impl_children sh xs hl b at_ (fun i hi e=>ih i hi (by have:=kid_lt hT hi e;omega) (by omega)),nd0,rfl,rfl,trivial,?_⟩
  refine ⟨[],false,_,_,impl_Join false (kidsF xs b at_) [] (by omega) (by omega),nd0,rfl,rfl,trivial,?_⟩
  refine ⟨by simp only [List.length_cons,List.length_nil];omega,by simp only [List.length_append,List.length_cons,List.length_nil];omega,?_⟩
  exact ⟨none,⟨retS (by rw [codeF_s];rfl),trivial⟩,rfl,rfl⟩
theorem drop_take_self {α:Type} (l:List α) (k:Nat):List.drop k (List.take l.length l)=l.drop k:=by rw [List.take_length]
theorem spec_l12Children (sh:Bool) (xs:List Int) (hl:xs.length<=12) (b at_:Nat) (h0:xs.getD 0 0= -1)
 (ih:∀i,i<xs.length->xs.getD i 0=(at_:Int)->AC Tryz.prog 287 [.d sh (.sl .int) xs,I (i:Nat)] [] [.d true .str (codeF xs b i)] []):
 AC Tryz.prog 208 [.d sh (.sl .int) xs,I (at_:Nat)] [] [.d true (.sl .str) (kidsF xs b at_)] []:=by
 refine AC_of tauOk 59 0 [4] Tryz.func208 rfl (by kernel_rfl) rfl rfl rfl rfl rfl ?_
 refine ⟨rfl,by decide,false,?_⟩
 refine ⟨Nat,fun k=>⟨[(0,.d sh (.sl .int) xs),(1,I (at_:Nat)),(5,.d true (.sl .str) (sortD (kidsP xs b at_ k))),(12,.d sh (.sl .int) xs),(13,I xs.length),(14,I (k:Nat))],[]⟩,fun k=>k<=xs.length,fun k=>xs.length-k,0,Nat.zero_le _,
  ⟨⟨rfl,rfl⟩,⟨rfl,rfl,rfl,rfl,rfl,rfl,trivial⟩,trivial⟩,fun k hk=>?_⟩
 dsimp only at hk
 have hkl:=kidsP_len xs b at_ k
 have hsl:=sortD_len (kidsP xs b at_ k)
 refine ⟨fun h1=>?_,fun h1=>?_⟩
 .have hk2:k<xs.length:=by omega
  refine ⟨k,rfl,hk2,fun h2=>?_,fun h2=>?_⟩
  .exact ⟨((k+1:Nat):Int),w64_eq (by omega) (by omega) (by omega),k+1,by dsimp only;omega,by dsimp only;omega,⟨rfl,rfl⟩,⟨rfl,rfl,retD (by rw [kidsP_no xs b at_ k h2]),rfl,rfl,rfl,trivial⟩,trivial⟩
  .have h2':xs.getD k 0=(at_:Int):=by omega
   refine ⟨fun h3=>?_,fun h3=>?_⟩
   .have:k=0:=by omega
    subst this;omega
   refine ⟨[],false,_,_,ih k hk2 h2',nd0,rfl,rfl,trivial,?_⟩
   refine ⟨Nat,fun j=>⟨[(0,.d sh (.sl .int) xs),(1,I (at_:Nat)),(5,.d true (.sl .str) (sortD (kidsP xs b at_ k))),(12,.d sh (.sl .int) xs),(13,I xs.length),(14,I (k:Nat)),(8,.d true .str (codeF xs b k)),(9,I (j:Nat))],[]⟩,
    fun j=>j<=(sortD (kidsP xs b at_ k)).length/\∀i,i<j->codeF xs b k<=(sortD (kidsP xs b at_ k)).getD i [],fun j=>(sortD (kidsP xs b at_ k)).length-j,0,⟨Nat.zero_le _,fun i hi=>by omega⟩,
    ⟨⟨rfl,rfl⟩,⟨rfl,rfl,rfl,rfl,rfl,rfl,rfl,rfl,trivial⟩,trivial⟩,fun j ⟨hj,hall⟩=>?_⟩
   have fin:(j<(sortD (kidsP xs b at_ k)).length->¬codeF xs b k<=(sortD (kidsP xs b at_ k)).getD j [])->sortD (kidsP xs b at_ (k+1))=(sortD (kidsP xs b at_ k)).take j++[codeF xs b k]++(sortD (kidsP xs b at_ k)).drop j:=by
    intro h
    rw [kidsP_yes xs b at_ k h2',sortD_snoc]
    exact insD_eq _ _ j hj hall h
   refine ⟨fun h4=>?_,fun h4=>?_⟩
   .have hj2:j<(sortD (kidsP xs b at_ k)).length:=by omega
    refine ⟨j,rfl,hj2,fun h5=>?_,fun h5=>?_⟩
    .rw [Go.Proofs.bytesLess_eq] at h5
     refine ⟨((j+1:Nat):Int),w64_eq (by omega) (by omega) (by omega),?_⟩
     refine ⟨j+1,⟨by omega,fun i hi=>?_⟩,by dsimp only;omega,⟨rfl,rfl⟩,⟨rfl,rfl,rfl,rfl,rfl,rfl,rfl,rfl,trivial⟩,trivial⟩
     by_cases e:i=j
     .subst e;exact List.not_lt.1 (of_decide_eq_false h5)
     .exact hall i (by omega)
    .have h6:j<(sortD (kidsP xs b at_ k)).length->¬codeF xs b k<=(sortD (kidsP xs b at_ k)).getD j []:=fun _ hle=>h5 (by
      rw [Go.Proofs.bytesLess_eq];exact decide_eq_false (List.not_lt.2 hle))
     have hX:=fin h6
     refine ⟨rfl,by decide,true,?_⟩
     refine ⟨j,rfl,Nat.zero_le _,hj,?_⟩
     have hL:((sortD (kidsP xs b at_ k)).take j).length<=1048576:=by rw [List.length_take];omega
     refine ⟨rfl,Nat.zero_le _,rfl,by simp only [List.length_nil,List.drop_zero];omega,rfl,?_⟩
     refine ⟨rfl,by decide,false,?_⟩
     refine ⟨rfl,Nat.zero_le _,rfl,by simp only [List.nil_append,List.length_cons,List.length_nil,List.drop_zero];omega,rfl,?_⟩
     refine ⟨j,rfl,hj,Nat.le_refl _,?_⟩
     refine ⟨rfl,Nat.zero_le _,rfl,by rw [drop_take_self];simp only [List.nil_append,List.length_append,List.length_cons,List.length_nil,List.drop_zero,List.length_drop];omega,rfl,?_⟩
     exact ⟨((k+1:Nat):Int),w64_eq (by omega) (by omega) (by omega),k+1,by dsimp only;omega,by dsimp only;omega,⟨rfl,rfl⟩,⟨rfl,rfl,⟨rfl,rfl,by rw [hX,drop_take_self];simp⟩,rfl,rfl,rfl,trivial⟩,trivial⟩
   .have h6:j<(sortD (kidsP xs b at_ k)).length->¬codeF xs b k<=(sortD (kidsP xs b at_ k)).getD j []:=fun h _=>by omega
    have hX:=fin h6
    refine ⟨rfl,by decide,true,?_⟩
    refine ⟨j,rfl,Nat.zero_le _,hj,?_⟩
    have hL:((sortD (kidsP xs b at_ k)).take j).length<=1048576:=by rw [List.length_take];omega
    refine ⟨rfl,Nat.zero_le _,rfl,by simp only [List.length_nil,List.drop_zero];omega,rfl,?_⟩
    refine ⟨rfl,by decide,false,?_⟩
    refine ⟨rfl,Nat.zero_le _,rfl,by simp only [List.nil_append,List.length_cons,List.length_nil,List.drop_zero];omega,rfl,?_⟩
    refine ⟨j,rfl,hj,Nat.le_refl _,?_⟩
    refine ⟨rfl,Nat.zero_le _,rfl,by rw [drop_take_self];simp only [List.nil_append,List.length_append,List.length_cons,List.length_nil,List.drop_zero,List.length_drop];omega,rfl,?_⟩
    exact ⟨((k+1:Nat):Int),w64_eq (by omega) (by omega) (by omega),k+1,by dsimp only;omega,by dsimp only;omega,⟨rfl,rfl⟩,⟨rfl,rfl,⟨rfl,rfl,by rw [hX,drop_take_self];simp⟩,rfl,rfl,rfl,trivial⟩,trivial⟩
 .obtain rfl:k=xs.length:=by omega
  exact ⟨none,⟨rfl,trivial⟩,rfl,rfl⟩
theorem spec_l12Code (sh:Bool) (xs:List Int) (hT:TreeP xs):∀(b at_:Nat),at_<xs.length->xs.length-at_<=b->b<=12->AC Tryz.prog 287 [.d sh (.sl .int) xs,I (at_:Nat)] [] [.d true .str (codeF xs b at_)] []
 |0,at_,h1,h2,_=>by omega
 |b+1,at_,h1,h2,h3=>by
  have hl:xs.length<=12:=hT.1.2
  have ih:=spec_l12Code sh xs hT b
  have hj:=kidsF_join xs hl b at_ (by omega)
  refine AC_of tauOk 11 0 [4] Tryz.func287 rfl (by kernel_rfl) rfl rfl rfl rfl rfl ?_
  refine ⟨[],false,_,_,spec_l12Children sh xs hl b at_ hT.2.1 (fun i hi e=>ih i hi (by have:=kid_lt hT hi e;omega) (by omega)),nd0,rfl,rfl,trivial,?_⟩
  refine ⟨[],false,_,_,spec_Join true (kidsF xs b at_) [] (by omega) (by omega),nd0,rfl,rfl,trivial,?_⟩
  refine ⟨by simp only [List.length_cons,List.length_nil];omega,by simp only [List.length_append,List.length_cons,List.length_nil];omega,?_⟩
  exact ⟨none,⟨retS (by rw [codeF_s];rfl),trivial⟩,rfl,rfl⟩
theorem impl_TreeCode (sh:Bool) (xs:List Int) (hl:xs.length<=1048576):AC Tryz.prog 162 [.d sh (.sl .int) xs] [] [.d true .str (treeCode xs)] []:=by
 refine AC_of tauOk 8 0 [2] Tryz.func162 rfl (by kernel_rfl) rfl rfl rfl rfl rfl ?_
 refine ⟨[],false,_,_,impl_TreeOk sh xs hl,nd0,rfl,rfl,trivial,fun h1=>?_,fun h1=>?_⟩
 .have hT:=(treeB_iff xs).1 h1
  refine ⟨[],false,_,_,impl_codeOf sh xs hT 12 0 hT.1.1 (by have:=hT.1.2;omega) (by decide),nd0,rfl,rfl,trivial,?_⟩
  exact ⟨none,⟨retS (by rw [treeCode,if_pos h1]),trivial⟩,rfl,rfl⟩
 .exact ⟨none,⟨retS (by rw [treeCode,if_neg (by rw [h1];decide)]),trivial⟩,rfl,rfl⟩
theorem spec_TreeCode (sh:Bool) (xs:List Int) (hl:xs.length<=1048576):AC Tryz.prog 207 [.d sh (.sl .int) xs] [] [.d true .str (treeCode xs)] []:=by
 refine AC_of tauOk 8 0 [2] Tryz.func207 rfl (by kernel_rfl) rfl rfl rfl rfl rfl ?_
 refine ⟨[],false,_,_,spec_TreeOk sh xs hl,nd0,rfl,rfl,trivial,fun h1=>?_,fun h1=>?_⟩
 .have hT:=(treeB_iff xs).1 h1
  refine ⟨[],false,_,_,spec_l12Code sh xs hT 12 0 hT.1.1 (by have:=hT.1.2;omega) (by decide),nd0,rfl,rfl,trivial,?_⟩
  exact ⟨none,⟨retS (by rw [treeCode,if_pos h1]),trivial⟩,rfl,rfl⟩
 .exact ⟨none,⟨retS (by rw [treeCode,if_neg (by rw [h1];decide)]),trivial⟩,rfl,rfl⟩
theorem impl_TreeRenamings (sh:Bool) (xs:List Int) (hl:xs.length<=1048576):AC Tryz.prog 71 [.d sh (.sl .int) xs] [] [I (treeRen xs)] []:=by
 refine AC_of tauOk 46 0 [2] Tryz.func71 rfl (by kernel_rfl) rfl rfl rfl rfl rfl ?_
 refine ⟨[],false,_,_,impl_TreeOk sh xs hl,nd0,rfl,rfl,trivial,fun h1=>?_,fun h1=>?_⟩
 .have hT:=(treeB_iff xs).1 h1
  have hl12:xs.length<=12:=hT.1.2
  refine ⟨Nat,fun v=>⟨[(0,.d sh (.sl .int) xs),(3,I (tz xs v)),(13,I xs.length),(14,I (v:Nat))],[]⟩,fun v=>v<=xs.length,fun v=>xs.length-v,0,Nat.zero_le _,
   ⟨⟨rfl,rfl⟩,⟨rfl,rfl,rfl,rfl,trivial⟩,trivial⟩,fun v hv=>?_⟩
  dsimp only at hv
  refine ⟨fun h2=>?_,fun h2=>?_⟩
  .have hv2:v<xs.length:=by omega
   have hj:=kidsF_join xs hl12 11 v (by decide)
   refine ⟨[],false,_,_,impl_children sh xs hl12 11 v (fun i hi e=>impl_codeOf sh xs hT 11 i hi (by have:=kid_lt hT hi e;omega) (by omega)),nd0,rfl,rfl,trivial,?_⟩
   refine ⟨Nat,fun k=>⟨[(0,.d sh (.sl .int) xs),(3,I (pz (kidsF xs 11 v) (tz xs v) k)),(13,I xs.length),(14,I (v:Nat)),(5,I (rz (kidsF xs 11 v) k:Nat)),(6,.ow 0),(20,.ow 0),(21,I (kidsF xs 11 v).length),(22,I (k:Nat))],[.sl 9 .str (kidsF xs 11 v)]⟩,
    fun k=>k<=(kidsF xs 11 v).length,fun k=>(kidsF xs 11 v).length-k,0,Nat.zero_le _,
    ⟨⟨rfl,rfl⟩,⟨rfl,rfl,rfl,rfl,rfl,rfl,rfl,rfl,rfl,trivial⟩,rfl,trivial⟩,fun k hk=>?_⟩
   dsimp only at hk
   have hrz:=rz_le (kidsF xs 11 v) k
   refine ⟨fun h3=>?_,fun h3=>?_⟩
   .have hk2:k<(kidsF xs 11 v).length:=by omega
    refine ⟨k,rfl,hk2,?_⟩
    refine ⟨((rz (kidsF xs 11 v) k+1:Nat):Int),w64_eq (by omega) (by omega) (by omega),?_⟩
    refine ⟨fun h4=>?_,fun h4=>?_⟩
    .obtain ⟨j,rfl⟩:∃j,k=j+1:=⟨k-1,by omega⟩
     refine ⟨((j:Nat):Int),w64_eq (by omega) (by omega) (by omega),?_⟩
     refine ⟨j,rfl,by omega,fun h5=>?_,fun h5=>?_⟩
     .have e:rz (kidsF xs 11 v) (j+1+1)=1:=by rw [rz_s];exact if_neg h5
      refine ⟨_,rfl,?_⟩
      exact ⟨((j+1+1:Nat):Int),w64_eq (by omega) (by omega) (by omega),j+1+1,by dsimp only;omega,by dsimp only;omega,⟨rfl,rfl⟩,⟨rfl,retI (by rw [pz_s _ _ (j+1),e];rfl),rfl,rfl,retI (by rw [e];rfl),rfl,rfl,rfl,rfl,trivial⟩,rfl,trivial⟩
     .have h5':=Classical.not_not.1 h5
      have e:rz (kidsF xs 11 v) (j+1+1)=rz (kidsF xs 11 v) (j+1)+1:=by rw [rz_s];exact if_pos h5'
      refine ⟨_,rfl,?_⟩
      exact ⟨((j+1+1:Nat):Int),w64_eq (by omega) (by omega) (by omega),j+1+1,by dsimp only;omega,by dsimp only;omega,⟨rfl,rfl⟩,⟨rfl,retI (by rw [pz_s _ _ (j+1),e]),rfl,rfl,retI (by rw [e]),rfl,rfl,rfl,rfl,trivial⟩,rfl,trivial⟩
    .obtain rfl:k=0:=by omega
     have e:rz (kidsF xs 11 v) (0+1)=rz (kidsF xs 11 v) 0+1:=by rw [rz_s];split<;>rfl
     refine ⟨_,rfl,?_⟩
     exact ⟨((0+1:Nat):Int),w64_eq (by omega) (by omega) (by omega),0+1,by dsimp only;omega,by dsimp only;omega,⟨rfl,rfl⟩,⟨rfl,retI (by rw [pz_s,e]),rfl,rfl,retI (by rw [e]),rfl,rfl,rfl,rfl,trivial⟩,rfl,trivial⟩
   .obtain rfl:k=(kidsF xs 11 v).length:=by omega
    exact ⟨((v+1:Nat):Int),w64_eq (by omega) (by omega) (by omega),v+1,by dsimp only;omega,by dsimp only;omega,⟨rfl,rfl⟩,⟨rfl,rfl,rfl,rfl,trivial⟩,trivial⟩
  .obtain rfl:v=xs.length:=by omega
   exact ⟨none,⟨retI (by rw [treeRen,if_pos h1]),trivial⟩,rfl,rfl⟩
 .exact ⟨none,⟨retI (by rw [treeRen,if_neg (by rw [h1];decide)]),trivial⟩,rfl,rfl⟩
theorem spec_TreeRenamings (sh:Bool) (xs:List Int) (hl:xs.length<=1048576):AC Tryz.prog 107 [.d sh (.sl .int) xs] [] [I (treeRen xs)] []:=by
 refine AC_of tauOk 37 0 [2] Tryz.func107 rfl (by kernel_rfl) rfl rfl rfl rfl rfl ?_
 refine ⟨[],false,_,_,spec_TreeOk sh xs hl,nd0,rfl,rfl,trivial,fun h1=>?_,fun h1=>?_⟩
 .have hT:=(treeB_iff xs).1 h1
  have hl12:xs.length<=12:=hT.1.2
  refine ⟨Nat,fun v=>⟨[(0,.d sh (.sl .int) xs),(3,I (tz xs v)),(13,I xs.length),(14,I (v:Nat))],[]⟩,fun v=>v<=xs.length,fun v=>xs.length-v,0,Nat.zero_le _,
   ⟨⟨rfl,rfl⟩,⟨rfl,rfl,rfl,rfl,trivial⟩,trivial⟩,fun v hv=>?_⟩
  dsimp only at hv
  refine ⟨fun h2=>?_,fun h2=>?_⟩
  .have hv2:v<xs.length:=by omega
   have hj:=kidsF_join xs hl12 11 v (by decide)
   refine ⟨[],false,_,_,spec_l12Children sh xs hl12 11 v hT.2.1 (fun i hi e=>spec_l12Code sh xs hT 11 i hi (by have:=kid_lt hT hi e;omega) (by omega)),nd0,rfl,rfl,trivial,?_⟩
   refine ⟨Nat,fun k=>⟨[(0,.d sh (.sl .int) xs),(3,I (pz (kidsF xs 11 v) (tz xs v) k)),(13,I xs.length),(14,I (v:Nat)),(5,I (rz (kidsF xs 11 v) k:Nat)),(6,.d true .str (lastS (kidsF xs 11 v) k)),(19,.d true (.sl .str) (kidsF xs 11 v)),(20,I (kidsF xs 11 v).length),(21,I (k:Nat))],[]⟩,
    fun k=>k<=(kidsF xs 11 v).length,fun k=>(kidsF xs 11 v).length-k,0,Nat.zero_le _,
    ⟨⟨rfl,rfl⟩,⟨rfl,rfl,rfl,rfl,rfl,rfl,rfl,rfl,rfl,trivial⟩,trivial⟩,fun k hk=>?_⟩
   dsimp only at hk
   have hrz:=rz_le (kidsF xs 11 v) k
   refine ⟨fun h3=>?_,fun h3=>?_⟩
   .have hk2:k<(kidsF xs 11 v).length:=by omega
    refine ⟨k,rfl,hk2,fun h5=>?_,fun h5=>?_⟩
    .have e:rz (kidsF xs 11 v) (k+1)=rz (kidsF xs 11 v) k+1:=by rw [rz_s];exact if_pos h5
     refine ⟨((rz (kidsF xs 11 v) k+1:Nat):Int),w64_eq (by omega) (by omega) (by omega),?_⟩
     refine ⟨_,rfl,?_⟩
     exact ⟨((k+1:Nat):Int),w64_eq (by omega) (by omega) (by omega),k+1,by dsimp only;omega,by dsimp only;omega,⟨rfl,rfl⟩,⟨rfl,retI (by rw [pz_s,e]),rfl,rfl,retI (by rw [e]),rfl,rfl,rfl,rfl,trivial⟩,trivial⟩
    .have e:rz (kidsF xs 11 v) (k+1)=1:=by rw [rz_s];exact if_neg h5
     refine ⟨_,rfl,?_⟩
     exact ⟨((k+1:Nat):Int),w64_eq (by omega) (by omega) (by omega),k+1,by dsimp only;omega,by dsimp only;omega,⟨rfl,rfl⟩,⟨rfl,retI (by rw [pz_s,e];rfl),rfl,rfl,retI (by rw [e];rfl),rfl,rfl,rfl,rfl,trivial⟩,trivial⟩
   .obtain rfl:k=(kidsF xs 11 v).length:=by omega
    exact ⟨((v+1:Nat):Int),w64_eq (by omega) (by omega) (by omega),v+1,by dsimp only;omega,by dsimp only;omega,⟨rfl,rfl⟩,⟨rfl,rfl,rfl,rfl,trivial⟩,trivial⟩
  .obtain rfl:v=xs.length:=by omega
   exact ⟨none,⟨retI (by rw [treeRen,if_pos h1]),trivial⟩,rfl,rfl⟩
 .exact ⟨none,⟨retI (by rw [treeRen,if_neg (by rw [h1];decide)]),trivial⟩,rfl,rfl⟩
theorem rdT_s (code:List UInt8) (k:Nat) (h:k<code.length):rdT (code.take (k+1))=rdStep (rdT (code.take k)) (code.getD k 0):=by
 unfold rdT
 rw [L_succ code k 0 h,List.foldl_append];rfl
structure RdI2 (s:List Int × Int) (k:Nat):Prop where
 l:s.1.length<=k
 a: -1<=s.2/\s.2<(s.1.length:Int)
 e:∀i,i<s.1.length->-1<=s.1.getD i 0/\s.1.getD i 0<(s.1.length:Int)
theorem rdT_ok (code:List UInt8):∀k,k<=code.length->RdI2 (rdT (code.take k)) k
 |0,_=>⟨Nat.le_refl _,(by decide:(-1:Int)<=-1/\(-1:Int)<((0:Nat):Int)),fun i hi=>by simp [rdT] at hi⟩
 |k+1,hk=>by
  have ih:=rdT_ok code k (by omega)
  rw [rdT_s code k (by omega)]
  generalize rdT (code.take k)=s at*
  unfold rdStep
  split
  .refine ⟨by have:=ih.l;simp;omega,by have:=ih.a;simp;omega,fun i hi=>?_⟩
   dsimp only at hi ⊢
   rw [List.length_append,List.length_cons,List.length_nil] at hi ⊢
   by_cases h:i<s.1.length
   .rw [L_app_l _ _ _ _ h]
    have:=ih.e i h;omega
   .rw [L_app_r _ _ _ _ (by omega),show i-s.1.length=0 by omega]
    have:=ih.a
    show-1<=s.2/\s.2<_
    omega
  .split
   .rename_i h
    have ha:=ih.a
    have:=ih.e s.2.toNat (by omega)
    exact ⟨by have:=ih.l;dsimp only;omega,this,ih.e⟩
   .exact ⟨by have:=ih.l;omega,ih.a,ih.e⟩
theorem readB_alt (code:List UInt8):readB code=(decide (code.length<=24) && (decide (code≠[]) && decide (treeCode (rdT code).1=code))):=by
 unfold readB
 congr 1
 cases hT:treeB (rdT code).1 with
 |true=>
  rw [Bool.true_and]
  by_cases h:treeCode (rdT code).1=code
  .have hne:code≠[]:=by
    rw [<-h,treeCode,if_pos hT,codeF_s]
    simp [cdS]
   rw [decide_eq_true h,decide_eq_true hne];rfl
  .rw [decide_eq_false h,Bool.and_false]
 |false=>
  rw [Bool.false_and]
  have hc:treeCode (rdT code).1=[]:=by rw [treeCode,if_neg (by rw [hT];decide)]
  rw [hc]
  by_cases h:code=[]
  .rw [decide_eq_false (p:=code≠[]) (fun e=>e h)];rfl
  .rw [decide_eq_false (p:=([]:List UInt8)=code) (fun e=>h e.symm),Bool.and_false]
theorem impl_ReadTree_loop (code:List UInt8) (r:List AV) (rr:List Row)
 (hno:readB code=false->r=[.nil,.d true .bool false]/\rr=[]) (hyes:readB code=true->r=[.ow 0,.d true .bool true]/\rr=[.sl 3 .int (rdT code).1]):
 AC Tryz.prog 69 [.d true .str code] [] r rr:=by
 refine AC_of tauOk 43 0 [2,3] Tryz.func69 rfl (by kernel_rfl) rfl rfl rfl rfl rfl ?_
 refine ⟨fun h1=>?_,fun h1=>?_⟩
 .obtain ⟨rfl,rfl⟩:=hno (by rw [readB,decide_eq_false (by omega),Bool.false_and])
  exact ⟨none,⟨rfl,rfl,trivial⟩,rfl,rfl⟩
 have hl:code.length<=24:=by omega
 refine ⟨rfl,by decide,true,?_⟩
 refine ⟨Nat,fun k=>⟨[(0,.d true .str code),(4,.ow 0),(5,I (rdT (code.take k)).2),(12,I code.length),(13,I (k:Nat))],[.sl 3 .int (rdT (code.take k)).1]⟩,fun k=>k<=code.length,fun k=>code.length-k,0,Nat.zero_le _,
  ⟨⟨rfl,rfl⟩,⟨rfl,rfl,rfl,rfl,rfl,trivial⟩,rfl,trivial⟩,fun k hk=>?_⟩
 dsimp only at hk
 have hi:=rdT_ok code k hk
 refine ⟨fun h2=>?_,fun h2=>?_⟩
 .have hk2:k<code.length:=by omega
  have hs:=rdT_s code k hk2
  have hil:=hi.l
  have hia:=hi.a
  refine ⟨k,rfl,hk2,fun h3=>?_,fun h3=>?_⟩
  .have e:rdStep (rdT (code.take k)) (code.getD k 0)=((rdT (code.take k)).1++[(rdT (code.take k)).2],(((rdT (code.take k)).1.length:Nat):Int)):=by rw [rdStep,if_pos h3]
   refine ⟨rfl,by decide,false,?_⟩
   refine ⟨rfl,Nat.zero_le _,rfl,by simp only [List.length_cons,List.length_nil];omega,rfl,?_⟩
   refine ⟨(((rdT (code.take k)).1.length:Nat):Int),w64_eq (by dsimp only;rw [List.length_append];simp) (by omega) (by omega),?_⟩
   exact ⟨((k+1:Nat):Int),w64_eq (by omega) (by omega) (by omega),k+1,by dsimp only;omega,by dsimp only;omega,⟨rfl,rfl⟩,⟨rfl,rfl,retI (by rw [hs,e]),rfl,rfl,trivial⟩,rowE (by rw [hs,e]),trivial⟩
  .refine ⟨fun h4=>?_,fun h4=>?_⟩
   .have e:rdStep (rdT (code.take k)) (code.getD k 0)=((rdT (code.take k)).1,(rdT (code.take k)).1.getD (rdT (code.take k)).2.toNat 0):=by rw [rdStep,if_neg h3,if_pos h4]
    refine ⟨(rdT (code.take k)).2.toNat,(Int.toNat_of_nonneg h4).symm,by omega,?_⟩
    exact ⟨((k+1:Nat):Int),w64_eq (by omega) (by omega) (by omega),k+1,by dsimp only;omega,by dsimp only;omega,⟨rfl,rfl⟩,⟨rfl,rfl,retI (by rw [hs,e]),rfl,rfl,trivial⟩,rowE (by rw [hs,e]),trivial⟩
   .have e:rdStep (rdT (code.take k)) (code.getD k 0)=rdT (code.take k):=by rw [rdStep,if_neg h3,if_neg h4]
    exact ⟨((k+1:Nat):Int),w64_eq (by omega) (by omega) (by omega),k+1,by dsimp only;omega,by dsimp only;omega,⟨rfl,rfl⟩,⟨rfl,rfl,retI (by rw [hs,e]),rfl,rfl,trivial⟩,rowE (by rw [hs,e]),trivial⟩
 .obtain rfl:k=code.length:=by omega
  have hil:=hi.l
  dsimp only at hil ⊢
  rw [List.take_length] at hil ⊢
  refine ⟨fun h2=>?_,fun h2=>?_⟩
  .obtain ⟨rfl,rfl⟩:=hno (by rw [readB_alt,decide_eq_false (p:=code≠[]) (fun e=>e h2),Bool.false_and,Bool.and_false])
   exact ⟨none,⟨rfl,rfl,trivial⟩,rfl,rfl⟩
  .refine ⟨[],false,_,_,impl_TreeCode false (rdT code).1 (by omega),nd0,rfl,rfl,trivial,fun h3=>?_,fun h3=>?_⟩
   .obtain ⟨rfl,rfl⟩:=hno (by rw [readB_alt,decide_eq_false (p:=treeCode (rdT code).1=code) h3,Bool.and_false,Bool.and_false])
    exact ⟨none,⟨rfl,rfl,trivial⟩,rfl,rfl⟩
   .obtain ⟨rfl,rfl⟩:=hyes (by rw [readB_alt,decide_eq_true hl,decide_eq_true (p:=code≠[]) h2,decide_eq_true (Classical.not_not.1 h3)];rfl)
    exact ⟨some 0,⟨⟨rfl,rfl⟩,rfl,trivial⟩,⟨rfl,rfl⟩,rfl⟩
theorem impl_ReadTree (code:List UInt8) (h:readB code=true):AC Tryz.prog 69 [.d true .str code] [] [.ow 0,.d true .bool true] [.sl 3 .int (rdT code).1]:=
 impl_ReadTree_loop code _ _ (fun e=>by rw [h] at e;cases e) (fun _=>⟨rfl,rfl⟩)
theorem impl_ReadTree_no (code:List UInt8) (h:readB code=false):AC Tryz.prog 69 [.d true .str code] [] [.nil,.d true .bool false] []:=
 impl_ReadTree_loop code _ _ (fun _=>⟨rfl,rfl⟩) (fun e=>by rw [h] at e;cases e)
theorem spec_ReadTree_loop (code:List UInt8) (r:List AV) (rr:List Row)
 (hno:readB code=false->r=[.nil,.d true .bool false]/\rr=[]) (hyes:readB code=true->r=[.ow 0,.d true .bool true]/\rr=[.sl 3 .int (rdT code).1]):
 AC Tryz.prog 105 [.d true .str code] [] r rr:=by
 refine AC_of tauOk 44 0 [2,3] Tryz.func105 rfl (by kernel_rfl) rfl rfl rfl rfl rfl ?_
 refine ⟨fun h1=>?_,fun h1=>?_⟩
 .obtain ⟨rfl,rfl⟩:=hno (by rw [readB,decide_eq_false (by omega),Bool.false_and])
  exact ⟨none,⟨rfl,rfl,trivial⟩,rfl,rfl⟩
 have hl:code.length<=24:=by omega
 refine ⟨rfl,by decide,true,?_⟩
 refine ⟨Nat,fun k=>⟨[(0,.d true .str code),(4,.ow 0),(5,I (rdT (code.take k)).2),(6,I (k:Nat))],[.sl 3 .int (rdT (code.take k)).1]⟩,fun k=>k<=code.length,fun k=>code.length-k,0,Nat.zero_le _,
  ⟨⟨rfl,rfl⟩,⟨rfl,rfl,rfl,rfl,trivial⟩,rfl,trivial⟩,fun k hk=>?_⟩
 dsimp only at hk
 have hi:=rdT_ok code k hk
 refine ⟨fun h2=>?_,fun h2=>?_⟩
 .have hk2:k<code.length:=by omega
  have hs:=rdT_s code k hk2
  have hil:=hi.l
  have hia:=hi.a
  refine ⟨k,rfl,hk2,fun h3=>?_,fun h3=>?_⟩
  .have e:rdStep (rdT (code.take k)) (code.getD k 0)=((rdT (code.take k)).1++[(rdT (code.take k)).2],(((rdT (code.take k)).1.length:Nat):Int)):=by rw [rdStep,if_pos h3]
   refine ⟨rfl,by decide,false,?_⟩
   refine ⟨rfl,Nat.zero_le _,rfl,by simp only [List.length_cons,List.length_nil];omega,rfl,?_⟩
   refine ⟨(((rdT (code.take k)).1.length:Nat):Int),w64_eq (by dsimp only;rw [List.length_append];simp) (by omega) (by omega),?_⟩
   exact ⟨((k+1:Nat):Int),w64_eq (by omega) (by omega) (by omega),k+1,by dsimp only;omega,by dsimp only;omega,⟨rfl,rfl⟩,⟨rfl,rfl,retI (by rw [hs,e]),rfl,trivial⟩,rowE (by rw [hs,e]),trivial⟩
  .refine ⟨fun h4=>?_,fun h4=>?_⟩
   .have e:rdStep (rdT (code.take k)) (code.getD k 0)=((rdT (code.take k)).1,(rdT (code.take k)).1.getD (rdT (code.take k)).2.toNat 0):=by rw [rdStep,if_neg h3,if_pos h4]
    refine ⟨(rdT (code.take k)).2.toNat,(Int.toNat_of_nonneg h4).symm,by omega,?_⟩
    exact ⟨((k+1:Nat):Int),w64_eq (by omega) (by omega) (by omega),k+1,by dsimp only;omega,by dsimp only;omega,⟨rfl,rfl⟩,⟨rfl,rfl,retI (by rw [hs,e]),rfl,trivial⟩,rowE (by rw [hs,e]),trivial⟩
   .have e:rdStep (rdT (code.take k)) (code.getD k 0)=rdT (code.take k):=by rw [rdStep,if_neg h3,if_neg h4]
    exact ⟨((k+1:Nat):Int),w64_eq (by omega) (by omega) (by omega),k+1,by dsimp only;omega,by dsimp only;omega,⟨rfl,rfl⟩,⟨rfl,rfl,retI (by rw [hs,e]),rfl,trivial⟩,rowE (by rw [hs,e]),trivial⟩
 .obtain rfl:k=code.length:=by omega
  have hil:=hi.l
  dsimp only at hil ⊢
  rw [List.take_length] at hil ⊢
  refine ⟨[],false,_,_,spec_TreeOk false (rdT code).1 (by omega),nd0,rfl,rfl,trivial,fun h2=>?_,fun h2=>?_⟩
  .refine ⟨[],false,_,_,spec_TreeCode false (rdT code).1 (by omega),nd0,rfl,rfl,trivial,fun h3=>?_,fun h3=>?_⟩
   .obtain ⟨rfl,rfl⟩:=hno (by rw [readB,decide_eq_false (p:=treeCode (rdT code).1=code) h3,Bool.and_false,Bool.and_false])
    exact ⟨none,⟨rfl,rfl,trivial⟩,rfl,rfl⟩
   .obtain ⟨rfl,rfl⟩:=hyes (by rw [readB,decide_eq_true hl,h2,decide_eq_true (Classical.not_not.1 h3)];rfl)
    exact ⟨some 0,⟨⟨rfl,rfl⟩,rfl,trivial⟩,⟨rfl,rfl⟩,rfl⟩
  .obtain ⟨rfl,rfl⟩:=hno (by rw [readB,h2,Bool.false_and,Bool.and_false])
   exact ⟨none,⟨rfl,rfl,trivial⟩,rfl,rfl⟩
theorem spec_ReadTree (code:List UInt8) (h:readB code=true):AC Tryz.prog 105 [.d true .str code] [] [.ow 0,.d true .bool true] [.sl 3 .int (rdT code).1]:=
 spec_ReadTree_loop code _ _ (fun e=>by rw [h] at e;cases e) (fun _=>⟨rfl,rfl⟩)
theorem spec_ReadTree_no (code:List UInt8) (h:readB code=false):AC Tryz.prog 105 [.d true .str code] [] [.nil,.d true .bool false] []:=
 spec_ReadTree_loop code _ _ (fun _=>⟨rfl,rfl⟩) (fun e=>by rw [h] at e;cases e)
theorem impl_rotated (sh:Bool) (xs:List Int) (k:Nat) (hl:xs.length<=1048576) (hk:k<xs.length):AC Tryz.prog 265 [.d sh (.sl .int) xs,I (k:Nat)] [] [.ow 0] [.sl 3 .int (rot xs k)]:=by
 have hd:List.drop k (List.take xs.length xs)=xs.drop k:=by rw [List.take_length]
 have h1:(List.drop k (List.take xs.length xs)).length=xs.length-k:=by rw [hd,List.length_drop]
 have h2:(List.drop 0 (List.take k xs)).length<=k:=by rw [List.drop_zero,List.length_take];omega
 cases sh<;>(
 refine AC_of tauOk 13 0 [4] Tryz.func265 rfl (by kernel_rfl) rfl rfl rfl rfl rfl ?_
 refine ⟨some 1000,[0,1,2,4,5,6],[3,7,8],by kernel_rfl,?_⟩
 refine ⟨k,rfl,Nat.le_of_lt hk,Nat.le_refl _,?_⟩
 refine ⟨k,rfl,Nat.zero_le _,Nat.le_of_lt hk,?_⟩
 refine ⟨[],false,_,_,slices_Clone_int _ (List.drop k (List.take xs.length xs)) (by omega) (by intro e;rw [e] at h1;simp only [List.length_nil] at h1;omega),nd0,rfl,rfl,trivial,?_⟩
 refine ⟨rfl,Nat.zero_le _,rfl,by dsimp only;omega,rfl,?_⟩
 exact ⟨some 0,⟨⟨rfl,rfl⟩,trivial⟩,⟨rfl,rowsE (by rw [hd];rfl)⟩,rfl⟩)
theorem impl_LeastRotation (sh:Bool) (xs:List Int) (hP:ColP xs):AC Tryz.prog 167 [.d sh (.sl .int) xs] [] [.ow 0,I (bestR xs xs.length:Nat),.d true .bool true] [.sl 3 .int (least xs)]:=by
 have hn:=hP.2
 have hl:xs.length<=1048576:=by omega
 refine AC_of tauOk 29 0 [2,3,4] Tryz.func167 rfl (by kernel_rfl) rfl rfl rfl rfl rfl ?_
 refine ⟨[],false,_,_,impl_ColoringOk sh xs hl,nd0,rfl,rfl,trivial,fun h1=>?_,fun h1=>by rw [(colB_iff xs).2 hP] at h1;cases h1⟩
 refine ⟨Nat,fun k=>⟨[(0,.d sh (.sl .int) xs),(5,I (bestR xs k:Nat)),(11,I xs.length),(12,I (k:Nat))],[]⟩,fun k=>k<=xs.length,fun k=>xs.length-k,0,Nat.zero_le _,
  ⟨⟨rfl,rfl⟩,⟨rfl,rfl,rfl,rfl,trivial⟩,trivial⟩,fun k hk=>?_⟩
 dsimp only at hk
 have hb:k=0\/bestR xs k<k:=by
  by_cases h:k=0
  .exact .inl h
  .exact .inr (bestR_lt xs k (by omega))
 have hb0:bestR xs 0=0:=rfl
 refine ⟨fun h2=>?_,fun h2=>?_⟩
 .have hk2:k<xs.length:=by omega
  have hbk:bestR xs k<xs.length:=by
   rcases hb with h|h
   .rw [h,hb0];omega
   .omega
  have hr1:=rot_len xs k (by omega)
  have hr2:=rot_len xs (bestR xs k) (by omega)
  refine ⟨[],true,_,_,impl_rotated sh xs k hl hk2,nd0,rfl,rfl,trivial,[],true,_,_,impl_rotated sh xs (bestR xs k) hl (by omega),nd0,rfl,rfl,trivial,?_⟩
  refine ⟨[],false,_,_,slices_Compare_int true true (rot xs k) (rot xs (bestR xs k)) (by omega) (by omega),nd0,rfl,rfl,trivial,fun h2=>?_,fun h2=>?_⟩
  .have e:bestR xs (k+1)=k:=by rw [bestR,if_pos (h2)]
   exact ⟨((k+1:Nat):Int),w64_eq (by omega) (by omega) (by omega),k+1,by dsimp only;omega,by dsimp only;omega,⟨rfl,rfl⟩,⟨rfl,retI (by rw [e]),rfl,rfl,trivial⟩,trivial⟩
  .have e:bestR xs (k+1)=bestR xs k:=by rw [bestR,if_neg (h2)]
   exact ⟨((k+1:Nat):Int),w64_eq (by omega) (by omega) (by omega),k+1,by dsimp only;omega,by dsimp only;omega,⟨rfl,rfl⟩,⟨rfl,retI (by rw [e]),rfl,rfl,trivial⟩,trivial⟩
 .obtain rfl:k=xs.length:=by omega
  refine ⟨[],false,_,_,impl_rotated sh xs (bestR xs xs.length) hl (bestR_lt xs _ (by omega)),nd0,rfl,rfl,trivial,?_⟩
  exact ⟨some 0,⟨⟨rfl,rfl⟩,rfl,rfl,trivial⟩,⟨rfl,rfl⟩,rfl⟩
theorem impl_LeastRotation_no (sh:Bool) (xs:List Int) (hl:xs.length<=1048576) (hP:colB xs=false):AC Tryz.prog 167 [.d sh (.sl .int) xs] [] [.nil,I 0,.d true .bool false] []:=by
 refine AC_of tauOk 29 0 [2,3,4] Tryz.func167 rfl (by kernel_rfl) rfl rfl rfl rfl rfl ?_
 refine ⟨[],false,_,_,impl_ColoringOk sh xs hl,nd0,rfl,rfl,trivial,fun h1=>(by rw [hP] at h1;cases h1),fun h1=>?_⟩
 exact ⟨none,⟨rfl,rfl,rfl,trivial⟩,rfl,rfl⟩
theorem impl_IsNecklace (sh:Bool) (xs:List Int) (hP:ColP xs):AC Tryz.prog 267 [.d sh (.sl .int) xs] [] [.d true .bool (decide (least xs=xs))] []:=by
 have hn:=hP.2
 have hle:=least_len xs (by omega)
 refine AC_of tauOk 18 0 [2] Tryz.func267 rfl (by kernel_rfl) rfl rfl rfl rfl rfl ?_
 refine ⟨[],true,_,_,impl_LeastRotation sh xs hP,nd0,rfl,rfl,trivial,fun _=>?_,nofun⟩
 refine ⟨[],false,_,_,slices_Equal_int true sh (least xs) xs (by omega) (by omega),nd0,rfl,rfl,trivial,fun h=>?_,fun h=>?_⟩
 .exact ⟨none,⟨retB h,trivial⟩,rfl,rfl⟩
 .exact ⟨none,⟨retB h,trivial⟩,rfl,rfl⟩
theorem impl_PeriodOf (sh:Bool) (xs:List Int) (hP:ColP xs):AC Tryz.prog 170 [.d sh (.sl .int) xs] [] [I (perW xs:Nat)] []:=by
 have hn:=hP.2
 have hl:xs.length<=1048576:=by omega
 refine AC_of tauOk 28 0 [2] Tryz.func170 rfl (by kernel_rfl) rfl rfl rfl rfl rfl ?_
 refine ⟨[],false,_,_,impl_ColoringOk sh xs hl,nd0,rfl,rfl,trivial,fun h1=>?_,fun h1=>by rw [(colB_iff xs).2 hP] at h1;cases h1⟩
 refine ⟨Nat,fun k=>⟨[(0,.d sh (.sl .int) xs),(3,I (k:Nat))],[]⟩,fun k=>1<=k/\k<=xs.length/\perF xs k (xs.length-k)=perW xs,fun k=>xs.length-k,1,⟨Nat.le_refl _,by omega,rfl⟩,
  ⟨⟨rfl,rfl⟩,⟨rfl,rfl,trivial⟩,trivial⟩,fun k ⟨hk1,hk,hp⟩=>?_⟩
 refine ⟨fun h2=>?_,fun h2=>?_⟩
 .have hk2:k<xs.length:=by omega
  have hr:=rot_len xs k (by omega)
  obtain ⟨f,hf⟩:∃f,xs.length-k=f+1:=⟨xs.length-k-1,by omega⟩
  have hf2:xs.length-(k+1)=f:=by omega
  rw [hf,perF] at hp
  have hm:((xs.length:Nat):Int).tmod (k:Nat)=((xs.length % k:Nat):Int):=Int.ofNat_tmod _ _
  have next:¬(xs.length % k=0/\rot xs k=xs)->perF xs (k+1) (xs.length-(k+1))=perW xs:=fun h=>by rw [if_neg h] at hp;rw [hf2];exact hp
  refine ⟨by omega,_,rfl,fun h3=>?_,fun h3=>?_⟩
  .rw [hm] at h3
   refine ⟨[],true,_,_,impl_rotated sh xs k hl hk2,nd0,rfl,rfl,trivial,[],false,_,_,slices_Equal_int true sh (rot xs k) xs (by omega) hl,nd0,rfl,rfl,trivial,fun h4=>?_,fun h4=>?_⟩
   .exact ⟨none,⟨retI (by rw [<-hp,if_pos ⟨by omega,of_decide_eq_true h4⟩]),trivial⟩,rfl,rfl⟩
   .exact ⟨((k+1:Nat):Int),w64_eq (by omega) (by omega) (by omega),k+1,⟨by omega,by omega,next fun e=>of_decide_eq_false h4 e.2⟩,by dsimp only;omega,⟨rfl,rfl⟩,⟨rfl,rfl,trivial⟩,trivial⟩
  .rw [hm] at h3
   exact ⟨((k+1:Nat):Int),w64_eq (by omega) (by omega) (by omega),k+1,⟨by omega,by omega,next fun e=>h3 (by omega)⟩,by dsimp only;omega,⟨rfl,rfl⟩,⟨rfl,rfl,trivial⟩,trivial⟩
 .obtain rfl:k=xs.length:=by omega
  rw [Nat.sub_self] at hp
  exact ⟨none,⟨retI (by rw [<-hp];rfl),trivial⟩,rfl,rfl⟩
theorem impl_mirror (sh:Bool) (xs:List Int) (hl:xs.length<=1048576) (h0:xs≠[]):AC Tryz.prog 266 [.d sh (.sl .int) xs] [] [.ow 0] [.sl 3 .int xs.reverse]:=by
 refine AC_of tauOk 9 0 [2] Tryz.func266 rfl (by kernel_rfl) rfl rfl rfl rfl rfl ?_
 refine ⟨[],false,_,_,slices_Clone_int sh xs hl h0,nd0,rfl,rfl,trivial,?_⟩
 refine ⟨[0],false,_,_,slices_Reverse_int 3 xs hl,by decide,rfl,rfl,⟨⟨List.length_reverse,rfl,rfl⟩,trivial⟩,?_⟩
 exact ⟨some 0,⟨⟨rfl,rfl⟩,trivial⟩,⟨rfl,rfl⟩,rfl⟩
theorem impl_IsMirrored (sh:Bool) (xs:List Int) (hP:ColP xs):AC Tryz.prog 168 [.d sh (.sl .int) xs] [] [.d true .bool (decide (least xs=least xs.reverse))] []:=by
 have hn:=hP.2
 have hP2:=colP_rev hP
 have hle:=least_len xs (by omega)
 have hle2:=least_len xs.reverse (by rw [List.length_reverse];omega)
 rw [List.length_reverse] at hle2
 refine AC_of tauOk 27 0 [2] Tryz.func168 rfl (by kernel_rfl) rfl rfl rfl rfl rfl ?_
 refine ⟨[],true,_,_,impl_LeastRotation sh xs hP,nd0,rfl,rfl,trivial,fun _=>?_,nofun⟩
 refine ⟨[],true,_,_,impl_mirror sh xs (by omega) (by intro e;rw [e] at hn;simp at hn),nd0,rfl,rfl,trivial,?_⟩
 refine ⟨[],true,_,_,impl_LeastRotation true xs.reverse hP2,nd0,rfl,rfl,trivial,fun _=>?_,nofun⟩
 refine ⟨[],false,_,_,slices_Equal_int true true (least xs) (least xs.reverse) (by omega) (by omega),nd0,rfl,rfl,trivial,fun h=>?_,fun h=>?_⟩
 .exact ⟨none,⟨retB h,trivial⟩,rfl,rfl⟩
 .exact ⟨none,⟨retB h,trivial⟩,rfl,rfl⟩
theorem impl_IsLyndon (sh:Bool) (xs:List Int) (hP:ColP xs):AC Tryz.prog 169 [.d sh (.sl .int) xs] [] [.d true .bool (decide (least xs=xs/\perW xs=xs.length))] []:=by
 refine AC_of tauOk 12 0 [2] Tryz.func169 rfl (by kernel_rfl) rfl rfl rfl rfl rfl ?_
 refine ⟨[],false,_,_,impl_IsNecklace sh xs hP,nd0,rfl,rfl,trivial,fun h=>?_,fun h=>?_⟩
 .refine ⟨[],false,_,_,impl_PeriodOf sh xs hP,nd0,rfl,rfl,trivial,fun h2=>?_,fun h2=>?_⟩
  .exact ⟨none,⟨retB (decide_eq_true ⟨of_decide_eq_true h,by omega⟩),trivial⟩,rfl,rfl⟩
  .exact ⟨none,⟨retB (decide_eq_false (fun e=>h2 (by rw [e.2]))),trivial⟩,rfl,rfl⟩
 .exact ⟨none,⟨retB (decide_eq_false (fun e=>of_decide_eq_false h e.1)),trivial⟩,rfl,rfl⟩
theorem impl_WordLine (sh:Bool) (xs:List Int) (hl:xs.length<=1048576):AC Tryz.prog 77 [.d sh (.sl .int) xs] [] [.d true .str (wordLine xs)] []:=by
 cases hc:colB xs
 .refine AC_of tauOk 29 0 [2] Tryz.func77 rfl (by kernel_rfl) rfl rfl rfl rfl rfl ?_
  refine ⟨[],true,_,_,impl_LeastRotation_no sh xs hl hc,nd0,rfl,rfl,trivial,nofun,fun _=>?_⟩
  exact ⟨none,⟨retS (by rw [wordLine,if_neg (by rw [hc];decide)]),trivial⟩,rfl,rfl⟩
 .have hP:=(colB_iff xs).1 hc
  have hn:=hP.2
  have hP2:ColP (least xs):=colP_rot hP _ (Nat.le_of_lt (bestR_lt xs _ (by omega)))
  have hle:=least_len xs (by omega)
  have hper:=perW_le xs (by omega)
  have hfw:=fmtN_len64 (perW xs) (by omega)
  have hfo:=formatW_len (least xs)
  have hw:wordLine xs=formatW (least xs)++[32,112,101,114,105,111,100,32]++fmtN (perW xs)++[32]++kindW xs:=by rw [wordLine,if_pos hc]
  refine AC_of tauOk 29 0 [2] Tryz.func77 rfl (by kernel_rfl) rfl rfl rfl rfl rfl ?_
  refine ⟨[],true,_,_,impl_LeastRotation sh xs hP,nd0,rfl,rfl,trivial,fun _=>?_,nofun⟩
  refine ⟨[],false,_,_,impl_IsMirrored sh xs hP,nd0,rfl,rfl,trivial,fun h1=>?_,fun h1=>?_⟩
  .have e:kindW xs=[109,105,114,114,111,114,101,100]:=by rw [kindW,if_pos (of_decide_eq_true h1)]
   refine ⟨[],false,_,_,impl_FormatWord true (least xs) (colP_in hP2) (by omega),nd0,rfl,rfl,trivial,?_⟩
   refine ⟨by simp only [List.length_cons,List.length_nil];omega,?_⟩
   refine ⟨[],false,_,_,impl_PeriodOf sh xs hP,nd0,rfl,rfl,trivial,?_⟩
   refine ⟨[],false,_,_,impl_FormatInt_nat (perW xs+1) (perW xs) (by omega) (by omega),nd0,rfl,rfl,trivial,?_⟩
   refine ⟨by simp only [List.length_append,List.length_cons,List.length_nil];omega,by simp only [List.length_append,List.length_cons,List.length_nil];omega,by simp only [List.length_append,List.length_cons,List.length_nil];omega,?_⟩
   exact ⟨none,⟨retS (by rw [hw,e]),trivial⟩,rfl,rfl⟩
  .have h1':=of_decide_eq_false h1
   refine ⟨[],false,_,_,impl_IsLyndon true (least xs) hP2,nd0,rfl,rfl,trivial,fun h2=>?_,fun h2=>?_⟩
   .have e:kindW xs=[108,121,110,100,111,110]:=by rw [kindW,if_neg h1',if_pos (of_decide_eq_true h2)]
    refine ⟨[],false,_,_,impl_FormatWord true (least xs) (colP_in hP2) (by omega),nd0,rfl,rfl,trivial,?_⟩
    refine ⟨by simp only [List.length_cons,List.length_nil];omega,?_⟩
    refine ⟨[],false,_,_,impl_PeriodOf sh xs hP,nd0,rfl,rfl,trivial,?_⟩
    refine ⟨[],false,_,_,impl_FormatInt_nat (perW xs+1) (perW xs) (by omega) (by omega),nd0,rfl,rfl,trivial,?_⟩
    refine ⟨by simp only [List.length_append,List.length_cons,List.length_nil];omega,by simp only [List.length_append,List.length_cons,List.length_nil];omega,by simp only [List.length_append,List.length_cons,List.length_nil];omega,?_⟩
    exact ⟨none,⟨retS (by rw [hw,e]),trivial⟩,rfl,rfl⟩
   .have e:kindW xs=[112,108,97,105,110]:=by rw [kindW,if_neg h1',if_neg (of_decide_eq_false h2)]
    refine ⟨[],false,_,_,impl_FormatWord true (least xs) (colP_in hP2) (by omega),nd0,rfl,rfl,trivial,?_⟩
    refine ⟨by simp only [List.length_cons,List.length_nil];omega,?_⟩
    refine ⟨[],false,_,_,impl_PeriodOf sh xs hP,nd0,rfl,rfl,trivial,?_⟩
    refine ⟨[],false,_,_,impl_FormatInt_nat (perW xs+1) (perW xs) (by omega) (by omega),nd0,rfl,rfl,trivial,?_⟩
    refine ⟨by simp only [List.length_append,List.length_cons,List.length_nil];omega,by simp only [List.length_append,List.length_cons,List.length_nil];omega,by simp only [List.length_append,List.length_cons,List.length_nil];omega,?_⟩
    exact ⟨none,⟨retS (by rw [hw,e]),trivial⟩,rfl,rfl⟩
theorem spec_l07Rotate (sh:Bool) (xs:List Int) (k:Nat) (hl:xs.length<=1048576) (hk:k<xs.length):AC Tryz.prog 289 [.d sh (.sl .int) xs,I (k:Nat)] [] [.ow 0] [.sl 3 .int (rot xs k)]:=by
 have hd:List.drop k (List.take xs.length xs)=xs.drop k:=by rw [List.take_length]
 have h1:(List.drop k (List.take xs.length xs)).length=xs.length-k:=by rw [hd,List.length_drop]
 have h2:(List.drop 0 (List.take k xs)).length<=k:=by rw [List.drop_zero,List.length_take];omega
 cases sh<;>(
 refine AC_of tauOk 14 0 [4] Tryz.func289 rfl (by kernel_rfl) rfl rfl rfl rfl rfl ?_
 refine ⟨some 1000,[1,2,3,5,6,7],[0,4,8,9],by kernel_rfl,?_⟩
 refine ⟨k,rfl,Nat.le_of_lt hk,Nat.le_refl _,?_⟩
 refine ⟨k,rfl,Nat.zero_le _,Nat.le_of_lt hk,?_⟩
 refine ⟨rfl,by decide,true,?_⟩
 refine ⟨rfl,Nat.zero_le _,rfl,by simp only [List.length_nil];omega,rfl,?_⟩
 refine ⟨rfl,Nat.zero_le _,rfl,by simp only [List.nil_append];omega,rfl,?_⟩
 exact ⟨some 0,⟨⟨rfl,rfl⟩,trivial⟩,⟨rfl,rowsE (by rw [hd];rfl)⟩,rfl⟩)
theorem spec_LeastRotation (sh:Bool) (xs:List Int) (hP:ColP xs):AC Tryz.prog 213 [.d sh (.sl .int) xs] [] [.ow 0,I (bestR xs xs.length:Nat),.d true .bool true] [.sl 3 .int (least xs)]:=by
 have hn:=hP.2
 have hl:xs.length<=1048576:=by omega
 refine AC_of tauOk 28 0 [2,3,4] Tryz.func213 rfl (by kernel_rfl) rfl rfl rfl rfl rfl ?_
 refine ⟨[],false,_,_,spec_ColoringOk sh xs hl,nd0,rfl,rfl,trivial,fun h1=>?_,fun h1=>by rw [(colB_iff xs).2 hP] at h1;cases h1⟩
 refine ⟨Nat,fun k=>⟨[(0,.d sh (.sl .int) xs),(5,I (bestR xs k:Nat)),(11,I xs.length),(12,I (k:Nat))],[]⟩,fun k=>k<=xs.length,fun k=>xs.length-k,0,Nat.zero_le _,
  ⟨⟨rfl,rfl⟩,⟨rfl,rfl,rfl,rfl,trivial⟩,trivial⟩,fun k hk=>?_⟩
 dsimp only at hk
 have hb:k=0\/bestR xs k<k:=by
  by_cases h:k=0
  .exact .inl h
  .exact .inr (bestR_lt xs k (by omega))
 have hb0:bestR xs 0=0:=rfl
 refine ⟨fun h2=>?_,fun h2=>?_⟩
 .have hk2:k<xs.length:=by omega
  have hbk:bestR xs k<xs.length:=by
   rcases hb with h|h
   .rw [h,hb0];omega
   .omega
  have hr1:=rot_len xs k (by omega)
  have hr2:=rot_len xs (bestR xs k) (by omega)
  refine ⟨[],true,_,_,spec_l07Rotate sh xs k hl hk2,nd0,rfl,rfl,trivial,[],true,_,_,spec_l07Rotate sh xs (bestR xs k) hl (by omega),nd0,rfl,rfl,trivial,?_⟩
  refine ⟨[],false,_,_,spec_l03Less true true (rot xs k) (rot xs (bestR xs k)) (by omega) (by omega),nd0,rfl,rfl,trivial,fun h2=>?_,fun h2=>?_⟩
  .have e:bestR xs (k+1)=k:=by rw [bestR,if_pos (of_decide_eq_true h2)]
   exact ⟨((k+1:Nat):Int),w64_eq (by omega) (by omega) (by omega),k+1,by dsimp only;omega,by dsimp only;omega,⟨rfl,rfl⟩,⟨rfl,retI (by rw [e]),rfl,rfl,trivial⟩,trivial⟩
  .have e:bestR xs (k+1)=bestR xs k:=by rw [bestR,if_neg (of_decide_eq_false h2)]
   exact ⟨((k+1:Nat):Int),w64_eq (by omega) (by omega) (by omega),k+1,by dsimp only;omega,by dsimp only;omega,⟨rfl,rfl⟩,⟨rfl,retI (by rw [e]),rfl,rfl,trivial⟩,trivial⟩
 .obtain rfl:k=xs.length:=by omega
  refine ⟨[],false,_,_,spec_l07Rotate sh xs (bestR xs xs.length) hl (bestR_lt xs _ (by omega)),nd0,rfl,rfl,trivial,?_⟩
  exact ⟨some 0,⟨⟨rfl,rfl⟩,rfl,rfl,trivial⟩,⟨rfl,rfl⟩,rfl⟩
theorem spec_LeastRotation_no (sh:Bool) (xs:List Int) (hl:xs.length<=1048576) (hP:colB xs=false):AC Tryz.prog 213 [.d sh (.sl .int) xs] [] [.nil,I 0,.d true .bool false] []:=by
 refine AC_of tauOk 28 0 [2,3,4] Tryz.func213 rfl (by kernel_rfl) rfl rfl rfl rfl rfl ?_
 refine ⟨[],false,_,_,spec_ColoringOk sh xs hl,nd0,rfl,rfl,trivial,fun h1=>(by rw [hP] at h1;cases h1),fun h1=>?_⟩
 exact ⟨none,⟨rfl,rfl,rfl,trivial⟩,rfl,rfl⟩
theorem spec_IsNecklace (sh:Bool) (xs:List Int) (hP:ColP xs):AC Tryz.prog 291 [.d sh (.sl .int) xs] [] [.d true .bool (decide (least xs=xs))] []:=by
 refine AC_of tauOk 17 0 [2] Tryz.func291 rfl (by kernel_rfl) rfl rfl rfl rfl rfl ?_
 refine ⟨[],true,_,_,spec_LeastRotation sh xs hP,nd0,rfl,rfl,trivial,fun _=>?_,nofun⟩
 refine ⟨fun h=>?_,fun h=>?_⟩
 .exact ⟨none,⟨retB (decide_eq_true ((least_iff xs).2 (by omega))),trivial⟩,rfl,rfl⟩
 .exact ⟨none,⟨retB (decide_eq_false (fun e=>h (by have:=(least_iff xs).1 e;omega))),trivial⟩,rfl,rfl⟩
theorem spec_PeriodOf (sh:Bool) (xs:List Int) (hP:ColP xs):AC Tryz.prog 216 [.d sh (.sl .int) xs] [] [I (perW xs:Nat)] []:=by
 have hn:=hP.2
 have hl:xs.length<=1048576:=by omega
 refine AC_of tauOk 28 0 [2] Tryz.func216 rfl (by kernel_rfl) rfl rfl rfl rfl rfl ?_
 refine ⟨[],false,_,_,spec_ColoringOk sh xs hl,nd0,rfl,rfl,trivial,fun h1=>?_,fun h1=>by rw [(colB_iff xs).2 hP] at h1;cases h1⟩
 refine ⟨Nat,fun k=>⟨[(0,.d sh (.sl .int) xs),(3,I (k:Nat))],[]⟩,fun k=>1<=k/\k<=xs.length/\perF xs k (xs.length-k)=perW xs,fun k=>xs.length-k,1,⟨Nat.le_refl _,by omega,rfl⟩,
  ⟨⟨rfl,rfl⟩,⟨rfl,rfl,trivial⟩,trivial⟩,fun k ⟨hk1,hk,hp⟩=>?_⟩
 refine ⟨fun h2=>?_,fun h2=>?_⟩
 .have hk2:k<xs.length:=by omega
  have hr:=rot_len xs k (by omega)
  obtain ⟨f,hf⟩:∃f,xs.length-k=f+1:=⟨xs.length-k-1,by omega⟩
  have hf2:xs.length-(k+1)=f:=by omega
  rw [hf,perF] at hp
  have hm:((xs.length:Nat):Int).tmod (k:Nat)=((xs.length % k:Nat):Int):=Int.ofNat_tmod _ _
  have next:¬(xs.length % k=0/\rot xs k=xs)->perF xs (k+1) (xs.length-(k+1))=perW xs:=fun h=>by rw [if_neg h] at hp;rw [hf2];exact hp
  refine ⟨by omega,_,rfl,fun h3=>?_,fun h3=>?_⟩
  .rw [hm] at h3
   refine ⟨[],true,_,_,spec_l07Rotate sh xs k hl hk2,nd0,rfl,rfl,trivial,[],false,_,_,spec_l03Same true sh (rot xs k) xs (by omega) hl,nd0,rfl,rfl,trivial,fun h4=>?_,fun h4=>?_⟩
   .exact ⟨none,⟨retI (by rw [<-hp,if_pos ⟨by omega,of_decide_eq_true h4⟩]),trivial⟩,rfl,rfl⟩
   .exact ⟨((k+1:Nat):Int),w64_eq (by omega) (by omega) (by omega),k+1,⟨by omega,by omega,next fun e=>of_decide_eq_false h4 e.2⟩,by dsimp only;omega,⟨rfl,rfl⟩,⟨rfl,rfl,trivial⟩,trivial⟩
  .rw [hm] at h3
   exact ⟨((k+1:Nat):Int),w64_eq (by omega) (by omega) (by omega),k+1,⟨by omega,by omega,next fun e=>h3 (by omega)⟩,by dsimp only;omega,⟨rfl,rfl⟩,⟨rfl,rfl,trivial⟩,trivial⟩
 .obtain rfl:k=xs.length:=by omega
  rw [Nat.sub_self] at hp
  exact ⟨none,⟨retI (by rw [<-hp];rfl),trivial⟩,rfl,rfl⟩
theorem rev_step (xs:List Int) (k:Nat) (h:k<xs.length):(xs.drop (k+1)).reverse++[xs.getD k 0]=(xs.drop k).reverse:=by
 rw [List.drop_eq_getElem_cons h,List.reverse_cons,getD_get _ _ _ h]
theorem spec_l09Mirror (sh:Bool) (xs:List Int) (hl:xs.length<=1048576):AC Tryz.prog 290 [.d sh (.sl .int) xs] [] [.ow 0] [.sl 3 .int xs.reverse]:=by
 refine AC_of tauOk 21 0 [2] Tryz.func290 rfl (by kernel_rfl) rfl rfl rfl rfl rfl ?_
 refine ⟨rfl,by decide,true,?_⟩
 refine ⟨((xs.length:Nat):Int)-1,w64_eq rfl (by omega) (by omega),?_⟩
 refine ⟨Nat,fun k=>⟨[(0,.d sh (.sl .int) xs),(3,.ow 0),(4,I ((k:Nat)-1))],[.sl 3 .int (xs.drop k).reverse]⟩,fun k=>k<=xs.length,fun k=>k,xs.length,Nat.le_refl _,
  ⟨⟨rfl,rfl⟩,⟨rfl,rfl,rfl,trivial⟩,rowE (by rw [List.drop_length];rfl),trivial⟩,fun k hk=>?_⟩
 dsimp only at hk
 refine ⟨fun h1=>?_,fun h1=>?_⟩
 .obtain ⟨j,rfl⟩:∃j,k=j+1:=⟨k-1,by omega⟩
  have hj:j<xs.length:=by omega
  have hle:(xs.drop (j+1)).reverse.length<=1048576:=by rw [List.length_reverse,List.length_drop];omega
  refine ⟨j,(show (((j+1:Nat):Int)-1)=(j:Int) by omega),hj,?_⟩
  refine ⟨rfl,by decide,false,?_⟩
  refine ⟨rfl,Nat.zero_le _,rfl,by simp only [List.length_cons,List.length_nil];omega,rfl,?_⟩
  exact ⟨((j:Nat):Int)-1,w64_eq (by omega) (by omega) (by omega),j,by dsimp only;omega,by dsimp only;omega,⟨rfl,rfl⟩,⟨rfl,rfl,rfl,trivial⟩,rowE (rev_step xs j hj),trivial⟩
 .obtain rfl:k=0:=by omega
  exact ⟨some 0,⟨⟨rfl,rfl⟩,trivial⟩,⟨rfl,rfl⟩,rfl⟩
theorem spec_IsMirrored (sh:Bool) (xs:List Int) (hP:ColP xs):AC Tryz.prog 214 [.d sh (.sl .int) xs] [] [.d true .bool (decide (least xs=least xs.reverse))] []:=by
 have hn:=hP.2
 have hP2:=colP_rev hP
 have hle:=least_len xs (by omega)
 have hle2:=least_len xs.reverse (by rw [List.length_reverse];omega)
 rw [List.length_reverse] at hle2
 refine AC_of tauOk 28 0 [2] Tryz.func214 rfl (by kernel_rfl) rfl rfl rfl rfl rfl ?_
 refine ⟨[],true,_,_,spec_LeastRotation sh xs hP,nd0,rfl,rfl,trivial,fun _=>?_,nofun⟩
 refine ⟨[],true,_,_,spec_l09Mirror sh xs (by omega),nd0,rfl,rfl,trivial,?_⟩
 refine ⟨[],true,_,_,spec_LeastRotation true xs.reverse hP2,nd0,rfl,rfl,trivial,fun _=>?_,nofun⟩
 refine ⟨[],false,_,_,spec_l03Same true true (least xs) (least xs.reverse) (by omega) (by omega),nd0,rfl,rfl,trivial,fun h=>?_,fun h=>?_⟩
 .exact ⟨none,⟨retB h,trivial⟩,rfl,rfl⟩
 .exact ⟨none,⟨retB h,trivial⟩,rfl,rfl⟩
theorem spec_IsLyndon (sh:Bool) (xs:List Int) (hP:ColP xs):AC Tryz.prog 215 [.d sh (.sl .int) xs] [] [.d true .bool (decide (least xs=xs/\perW xs=xs.length))] []:=by
 refine AC_of tauOk 12 0 [2] Tryz.func215 rfl (by kernel_rfl) rfl rfl rfl rfl rfl ?_
 refine ⟨[],false,_,_,spec_IsNecklace sh xs hP,nd0,rfl,rfl,trivial,fun h=>?_,fun h=>?_⟩
 .refine ⟨[],false,_,_,spec_PeriodOf sh xs hP,nd0,rfl,rfl,trivial,fun h2=>?_,fun h2=>?_⟩
  .exact ⟨none,⟨retB (decide_eq_true ⟨of_decide_eq_true h,by omega⟩),trivial⟩,rfl,rfl⟩
  .exact ⟨none,⟨retB (decide_eq_false (fun e=>h2 (by rw [e.2]))),trivial⟩,rfl,rfl⟩
 .exact ⟨none,⟨retB (decide_eq_false (fun e=>of_decide_eq_false h e.1)),trivial⟩,rfl,rfl⟩
theorem spec_WordLine (sh:Bool) (xs:List Int) (hl:xs.length<=1048576):AC Tryz.prog 112 [.d sh (.sl .int) xs] [] [.d true .str (wordLine xs)] []:=by
 cases hc:colB xs
 .refine AC_of tauOk 29 0 [2] Tryz.func112 rfl (by kernel_rfl) rfl rfl rfl rfl rfl ?_
  refine ⟨[],true,_,_,spec_LeastRotation_no sh xs hl hc,nd0,rfl,rfl,trivial,nofun,fun _=>?_⟩
  exact ⟨none,⟨retS (by rw [wordLine,if_neg (by rw [hc];decide)]),trivial⟩,rfl,rfl⟩
 .have hP:=(colB_iff xs).1 hc
  have hn:=hP.2
  have hP2:ColP (least xs):=colP_rot hP _ (Nat.le_of_lt (bestR_lt xs _ (by omega)))
  have hle:=least_len xs (by omega)
  have hper:=perW_le xs (by omega)
  have hfw:=fmtN_len64 (perW xs) (by omega)
  have hfo:=formatW_len (least xs)
  have hw:wordLine xs=formatW (least xs)++[32,112,101,114,105,111,100,32]++fmtN (perW xs)++[32]++kindW xs:=by rw [wordLine,if_pos hc]
  refine AC_of tauOk 29 0 [2] Tryz.func112 rfl (by kernel_rfl) rfl rfl rfl rfl rfl ?_
  refine ⟨[],true,_,_,spec_LeastRotation sh xs hP,nd0,rfl,rfl,trivial,fun _=>?_,nofun⟩
  refine ⟨[],false,_,_,spec_IsMirrored sh xs hP,nd0,rfl,rfl,trivial,fun h1=>?_,fun h1=>?_⟩
  .have e:kindW xs=[109,105,114,114,111,114,101,100]:=by rw [kindW,if_pos (of_decide_eq_true h1)]
   refine ⟨[],false,_,_,spec_FormatWord true (least xs) (by omega),nd0,rfl,rfl,trivial,?_⟩
   refine ⟨by simp only [List.length_cons,List.length_nil];omega,?_⟩
   refine ⟨[],false,_,_,spec_PeriodOf sh xs hP,nd0,rfl,rfl,trivial,?_⟩
   refine ⟨[],false,_,_,spec_FormatInt_nat (perW xs) (by omega),nd0,rfl,rfl,trivial,?_⟩
   refine ⟨by simp only [List.length_append,List.length_cons,List.length_nil];omega,by simp only [List.length_append,List.length_cons,List.length_nil];omega,by simp only [List.length_append,List.length_cons,List.length_nil];omega,?_⟩
   exact ⟨none,⟨retS (by rw [hw,e]),trivial⟩,rfl,rfl⟩
  .have h1':=of_decide_eq_false h1
   refine ⟨[],false,_,_,spec_IsLyndon true (least xs) hP2,nd0,rfl,rfl,trivial,fun h2=>?_,fun h2=>?_⟩
   .have e:kindW xs=[108,121,110,100,111,110]:=by rw [kindW,if_neg h1',if_pos (of_decide_eq_true h2)]
    refine ⟨[],false,_,_,spec_FormatWord true (least xs) (by omega),nd0,rfl,rfl,trivial,?_⟩
    refine ⟨by simp only [List.length_cons,List.length_nil];omega,?_⟩
    refine ⟨[],false,_,_,spec_PeriodOf sh xs hP,nd0,rfl,rfl,trivial,?_⟩
    refine ⟨[],false,_,_,spec_FormatInt_nat (perW xs) (by omega),nd0,rfl,rfl,trivial,?_⟩
    refine ⟨by simp only [List.length_append,List.length_cons,List.length_nil];omega,by simp only [List.length_append,List.length_cons,List.length_nil];omega,by simp only [List.length_append,List.length_cons,List.length_nil];omega,?_⟩
    exact ⟨none,⟨retS (by rw [hw,e]),trivial⟩,rfl,rfl⟩
   .have e:kindW xs=[112,108,97,105,110]:=by rw [kindW,if_neg h1',if_neg (of_decide_eq_false h2)]
    refine ⟨[],false,_,_,spec_FormatWord true (least xs) (by omega),nd0,rfl,rfl,trivial,?_⟩
    refine ⟨by simp only [List.length_cons,List.length_nil];omega,?_⟩
    refine ⟨[],false,_,_,spec_PeriodOf sh xs hP,nd0,rfl,rfl,trivial,?_⟩
    refine ⟨[],false,_,_,spec_FormatInt_nat (perW xs) (by omega),nd0,rfl,rfl,trivial,?_⟩
    refine ⟨by simp only [List.length_append,List.length_cons,List.length_nil];omega,by simp only [List.length_append,List.length_cons,List.length_nil];omega,by simp only [List.length_append,List.length_cons,List.length_nil];omega,?_⟩
    exact ⟨none,⟨retS (by rw [hw,e]),trivial⟩,rfl,rfl⟩
def rootR:List Int:=[0,1,1,2,4,9,20,48,115,286,719,1842,4766]
def rg (k:Nat):Int:=rootR.getD k 0
def sP (j:Nat):Nat->Int
 |0=>0
 |k+1=>if (j:Int).tmod ((k+1:Nat):Int)=0 then sP j k+((k+1:Nat):Int)*rg (k+1) else sP j k
def tP (m:Nat):Nat->Int
 |0=>0
 |k+1=>tP m k+sP (k+1) (k+1)*rg (m-k)
def uP (n:Nat):Nat->Int
 |0=>0
 |k+1=>uP n k+rg (k+1)*rg (n-(k+1))
def uE (n:Nat):Int:=if (n:Int).tmod 2=0 then uP n (n-1)-rg (n / 2) else uP n (n-1)
def rootN (x:Int):Int:=if 1<=x/\x<=12 then rg x.toNat else-1
def freeN (x:Int):Int:=if 1<=x/\x<=12 then rg x.toNat-(uE x.toNat).tdiv 2 else-1
theorem rg_b:∀k,k<13->0<=rg k/\rg k<=4766:=by decide
theorem rg_m:∀k,k<13->0<=((k:Nat):Int)*rg k/\((k:Nat):Int)*rg k<=100000:=by decide
theorem sP_b:∀j,j<12->∀k,k<j+1->0<=sP j k/\sP j k<=1000000:=by decide
theorem sr_b:∀m,m<12->∀j,j<m->0<=sP (j+1) (j+1)*rg (m-j)/\sP (j+1) (j+1)*rg (m-j)<=100000000:=by decide
theorem tP_b:∀m,m<12->∀k,k<m+1->0<=tP m k/\tP m k<=100000000:=by decide
theorem rr_b:∀n,n<13->∀k,k<n->0<=rg k*rg (n-k)/\rg k*rg (n-k)<=100000000:=by decide
theorem uP_b:∀n,n<13->∀k,k<n->0<=uP n k/\uP n k<=100000000:=by decide
theorem uE_b:∀n,n<13->1<=n->-100000000<=uE n/\uE n<=100000000/\-100000000<=(uE n).tdiv 2/\(uE n).tdiv 2<=100000000:=by decide
theorem root_step:∀m,m<12->1<=m->rootR.take (m+1)++[(tP m m).tdiv (m:Int)]=rootR.take (m+2)/\0<=(tP m m).tdiv (m:Int)/\(tP m m).tdiv (m:Int)<=100000000:=by decide
theorem root_len:∀m,m<13->(rootR.take (m+1)).length=m+1:=by decide
theorem root_get (m k:Nat) (h:k<m+1):(rootR.take (m+1)).getD k 0=rg k:=L_take _ _ _ _ h
theorem free_b:∀n,n<13->1<=n->0<=rg n-(uE n).tdiv 2/\rg n-(uE n).tdiv 2<=rg n:=by decide
theorem spec_l12Rooted (n:Nat) (hn1:1<=n) (hn:n<=12):AC Tryz.prog 239 [I (n:Nat)] [] [.ow 0] [.sl 3 .int (rootR.take (n+1))]:=by
 refine AC_of tauOk 55 0 [2] Tryz.func239 rfl (by kernel_rfl) rfl rfl rfl rfl rfl ?_
 refine ⟨rfl,by decide,true,?_⟩
 refine ⟨Nat,fun m=>⟨[(0,I (n:Nat)),(3,.ow 0),(4,I (m:Nat))],[.sl 3 .int (rootR.take (m+1))]⟩,fun m=>1<=m/\m<=n,fun m=>n-m,1,⟨by omega,by omega⟩,
  ⟨⟨rfl,rfl⟩,⟨rfl,rfl,rfl,trivial⟩,rfl,trivial⟩,fun m ⟨hm1,hm⟩=>?_⟩
 refine ⟨fun h1=>?_,fun h1=>?_⟩
 .have hm2:m<n:=by omega
  clear h1
  refine ⟨Nat,fun k=>⟨[(0,I (n:Nat)),(3,.ow 0),(4,I (m:Nat)),(5,I (tP m k)),(6,I ((k+1:Nat)))],[.sl 3 .int (rootR.take (m+1))]⟩,fun k=>k<=m,fun k=>m-k,0,Nat.zero_le _,
   ⟨⟨rfl,rfl⟩,⟨rfl,rfl,rfl,rfl,rfl,trivial⟩,rfl,trivial⟩,fun k hk=>?_⟩
  dsimp only at hk
  refine ⟨fun h2=>?_,fun h2=>?_⟩
  .have hk2:k<m:=by omega
   clear h2
   refine ⟨Nat,fun d=>⟨[(0,I (n:Nat)),(3,.ow 0),(4,I (m:Nat)),(5,I (tP m k)),(6,I ((k+1:Nat))),(7,I (sP (k+1) d)),(8,I ((d+1:Nat)))],[.sl 3 .int (rootR.take (m+1))]⟩,fun d=>d<=k+1,fun d=>k+1-d,0,Nat.zero_le _,
    ⟨⟨rfl,rfl⟩,⟨rfl,rfl,rfl,rfl,rfl,rfl,rfl,trivial⟩,rfl,trivial⟩,fun d hd=>?_⟩
   dsimp only at hd
   refine ⟨fun h3=>?_,fun h3=>?_⟩
   .have hd2:d<k+1:=by omega
    clear h3
    refine ⟨by omega,_,rfl,fun h4=>?_,fun h4=>?_⟩
    .refine ⟨d+1,rfl,by rw [root_len _ (by omega)];omega,?_⟩
     have hb:=rg_m (d+1) (by omega)
     have hc:=sP_b (k+1) (by omega) (d+1) (by omega)
     refine ⟨((d+1:Nat):Int)*rg (d+1),w64_eq (by rw [root_get _ _ (by omega)]) (by omega) (by omega),?_⟩
     refine ⟨sP (k+1) (d+1),w64_eq (by rw [sP,if_pos h4]) (by omega) (by omega),?_⟩
     exact ⟨((d+1+1:Nat):Int),w64_eq (by omega) (by omega) (by omega),d+1,by dsimp only;omega,by dsimp only;omega,⟨rfl,rfl⟩,⟨rfl,rfl,rfl,rfl,rfl,rfl,rfl,trivial⟩,rfl,trivial⟩
    .have e:sP (k+1) (d+1)=sP (k+1) d:=by rw [sP,if_neg h4]
     exact ⟨((d+1+1:Nat):Int),w64_eq (by omega) (by omega) (by omega),d+1,by dsimp only;omega,by dsimp only;omega,⟨rfl,rfl⟩,⟨rfl,rfl,rfl,rfl,rfl,retI e.symm,rfl,trivial⟩,rfl,trivial⟩
   .have hd2:d=k+1:=by omega
    clear h3
    subst hd2
    have hb:=sr_b m (by omega) k hk2
    have hc:=tP_b m (by omega) (k+1) (by omega)
    refine ⟨((m+1:Nat):Int),w64_eq (by omega) (by omega) (by omega),?_⟩
    refine ⟨((m-k:Nat):Int),w64_eq (by omega) (by omega) (by omega),?_⟩
    refine ⟨m-k,rfl,by rw [root_len _ (by omega)];omega,?_⟩
    refine ⟨sP (k+1) (k+1)*rg (m-k),w64_eq (by rw [root_get _ _ (by omega)]) (by omega) (by omega),?_⟩
    refine ⟨tP m (k+1),w64_eq (by rw [tP]) (by omega) (by omega),?_⟩
    exact ⟨((k+1+1:Nat):Int),w64_eq (by omega) (by omega) (by omega),k+1,by dsimp only;omega,by dsimp only;omega,⟨rfl,rfl⟩,⟨rfl,rfl,rfl,rfl,rfl,trivial⟩,rfl,trivial⟩
  .have hk2:k=m:=by omega
   clear h2
   subst hk2
   obtain ⟨e,hb,hc⟩:=root_step k (by omega) hm1
   refine ⟨by omega,(tP k k).tdiv (k:Int),w64_eq rfl (by omega) (by omega),?_⟩
   refine ⟨rfl,by decide,false,?_⟩
   refine ⟨rfl,Nat.zero_le _,rfl,by rw [root_len _ (by omega)];simp;omega,rfl,?_⟩
   exact ⟨((k+1:Nat):Int),w64_eq (by omega) (by omega) (by omega),k+1,by dsimp only;omega,by dsimp only;omega,⟨rfl,rfl⟩,⟨rfl,rfl,rfl,trivial⟩,rowE e,trivial⟩
 .have hm2:m=n:=by omega
  subst hm2
  exact ⟨some 0,⟨⟨rfl,rfl⟩,trivial⟩,⟨rfl,rfl⟩,rfl⟩
theorem impl_rooted:AC Tryz.prog 191 [] [] [.ow 0] [.sl 3 .int (rootR.take 13)]:=by
 refine AC_of tauOk 52 0 [0] Tryz.func191 rfl (by kernel_rfl) rfl rfl rfl rfl rfl ?_
 refine ⟨rfl,by decide,true,?_⟩
 refine ⟨Nat,fun m=>⟨[(1,.ow 0),(2,I (m:Nat))],[.sl 3 .int (rootR.take (m+1))]⟩,fun m=>1<=m/\m<=12,fun m=>12-m,1,⟨by omega,by omega⟩,
  ⟨⟨rfl,rfl⟩,⟨rfl,rfl,trivial⟩,rfl,trivial⟩,fun m ⟨hm1,hm⟩=>?_⟩
 refine ⟨fun h1=>?_,fun h1=>?_⟩
 .have hm2:m<12:=by omega
  clear h1
  refine ⟨Nat,fun k=>⟨[(1,.ow 0),(2,I (m:Nat)),(3,I (tP m k)),(4,I ((k+1:Nat)))],[.sl 3 .int (rootR.take (m+1))]⟩,fun k=>k<=m,fun k=>m-k,0,Nat.zero_le _,
   ⟨⟨rfl,rfl⟩,⟨rfl,rfl,rfl,rfl,trivial⟩,rfl,trivial⟩,fun k hk=>?_⟩
  dsimp only at hk
  refine ⟨fun h2=>?_,fun h2=>?_⟩
  .have hk2:k<m:=by omega
   clear h2
   refine ⟨Nat,fun d=>⟨[(1,.ow 0),(2,I (m:Nat)),(3,I (tP m k)),(4,I ((k+1:Nat))),(5,I (sP (k+1) d)),(6,I ((d+1:Nat)))],[.sl 3 .int (rootR.take (m+1))]⟩,fun d=>d<=k+1,fun d=>k+1-d,0,Nat.zero_le _,
    ⟨⟨rfl,rfl⟩,⟨rfl,rfl,rfl,rfl,rfl,rfl,trivial⟩,rfl,trivial⟩,fun d hd=>?_⟩
   dsimp only at hd
   refine ⟨fun h3=>?_,fun h3=>?_⟩
   .have hd2:d<k+1:=by omega
    clear h3
    refine ⟨by omega,_,rfl,fun h4=>?_,fun h4=>?_⟩
    .refine ⟨d+1,rfl,by rw [root_len _ (by omega)];omega,?_⟩
     have hb:=rg_m (d+1) (by omega)
     have hc:=sP_b (k+1) (by omega) (d+1) (by omega)
     refine ⟨((d+1:Nat):Int)*rg (d+1),w64_eq (by rw [root_get _ _ (by omega)]) (by omega) (by omega),?_⟩
     refine ⟨sP (k+1) (d+1),w64_eq (by rw [sP,if_pos h4]) (by omega) (by omega),?_⟩
     exact ⟨((d+1+1:Nat):Int),w64_eq (by omega) (by omega) (by omega),d+1,by dsimp only;omega,by dsimp only;omega,⟨rfl,rfl⟩,⟨rfl,rfl,rfl,rfl,rfl,rfl,trivial⟩,rfl,trivial⟩
    .have e:sP (k+1) (d+1)=sP (k+1) d:=by rw [sP,if_neg h4]
     exact ⟨((d+1+1:Nat):Int),w64_eq (by omega) (by omega) (by omega),d+1,by dsimp only;omega,by dsimp only;omega,⟨rfl,rfl⟩,⟨rfl,rfl,rfl,rfl,retI e.symm,rfl,trivial⟩,rfl,trivial⟩
   .have hd2:d=k+1:=by omega
    clear h3
    subst hd2
    have hb:=sr_b m (by omega) k hk2
    have hc:=tP_b m (by omega) (k+1) (by omega)
    refine ⟨((m+1:Nat):Int),w64_eq (by omega) (by omega) (by omega),?_⟩
    refine ⟨((m-k:Nat):Int),w64_eq (by omega) (by omega) (by omega),?_⟩
    refine ⟨m-k,rfl,by rw [root_len _ (by omega)];omega,?_⟩
    refine ⟨sP (k+1) (k+1)*rg (m-k),w64_eq (by rw [root_get _ _ (by omega)]) (by omega) (by omega),?_⟩
    refine ⟨tP m (k+1),w64_eq (by rw [tP]) (by omega) (by omega),?_⟩
    exact ⟨((k+1+1:Nat):Int),w64_eq (by omega) (by omega) (by omega),k+1,by dsimp only;omega,by dsimp only;omega,⟨rfl,rfl⟩,⟨rfl,rfl,rfl,rfl,trivial⟩,rfl,trivial⟩
  .have hk2:k=m:=by omega
   clear h2
   subst hk2
   obtain ⟨e,hb,hc⟩:=root_step k (by omega) hm1
   refine ⟨by omega,(tP k k).tdiv (k:Int),w64_eq rfl (by omega) (by omega),?_⟩
   refine ⟨rfl,by decide,false,?_⟩
   refine ⟨rfl,Nat.zero_le _,rfl,by rw [root_len _ (by omega)];simp;omega,rfl,?_⟩
   exact ⟨((k+1:Nat):Int),w64_eq (by omega) (by omega) (by omega),k+1,by dsimp only;omega,by dsimp only;omega,⟨rfl,rfl⟩,⟨rfl,rfl,trivial⟩,rowE e,trivial⟩
 .have hm2:m=12:=by omega
  subst hm2
  exact ⟨some 0,⟨⟨rfl,rfl⟩,trivial⟩,⟨rfl,rfl⟩,rfl⟩
theorem spec_CountRooted (x:Int):AC Tryz.prog 131 [I x] [] [I (rootN x)] []:=by
 refine AC_of tauOk 11 0 [2] Tryz.func131 rfl (by kernel_rfl) rfl rfl rfl rfl rfl ?_
 refine ⟨[],false,_,_,spec_l01In _ _ _,nd0,rfl,rfl,trivial,fun h1=>?_,fun h1=>?_⟩
 .simp only [Bool.and_eq_true,decide_eq_true_eq] at h1
  obtain ⟨n,rfl⟩:∃n:Nat,x=n:=⟨x.toNat,by omega⟩
  refine ⟨[],true,_,_,spec_l12Rooted n (by omega) (by omega),nd0,rfl,rfl,trivial,n,rfl,by rw [root_len _ (by omega)];omega,?_⟩
  exact ⟨none,⟨retI (by rw [root_get _ _ (by omega),rootN,if_pos (by omega)];rfl),trivial⟩,rfl,rfl⟩
 .simp only [Bool.and_eq_false_iff,decide_eq_false_iff_not] at h1
  exact ⟨none,⟨retI (by rw [rootN,if_neg (by omega)]),trivial⟩,rfl,rfl⟩
theorem impl_CountRooted (x:Int):AC Tryz.prog 91 [I x] [] [I (rootN x)] []:=by
 refine AC_of tauOk 13 0 [2] Tryz.func91 rfl (by kernel_rfl) rfl rfl rfl rfl rfl ?_
 refine ⟨fun h1=>?_,fun h1=>?_⟩
 .exact ⟨none,⟨retI (by rw [rootN,if_neg (by omega)]),trivial⟩,rfl,rfl⟩
 refine ⟨fun h2=>?_,fun h2=>?_⟩
 .exact ⟨none,⟨retI (by rw [rootN,if_neg (by omega)]),trivial⟩,rfl,rfl⟩
 obtain ⟨n,rfl⟩:∃n:Nat,x=n:=⟨x.toNat,by omega⟩
 refine ⟨[],true,_,_,impl_rooted,nd0,rfl,rfl,trivial,n,rfl,by rw [root_len 12 (by omega)];omega,?_⟩
 exact ⟨none,⟨retI (by rw [root_get 12 _ (by omega),rootN,if_pos (by omega)];rfl),trivial⟩,rfl,rfl⟩
theorem spec_CountFree (x:Int):AC Tryz.prog 132 [I x] [] [I (freeN x)] []:=by
 refine AC_of tauOk 46 0 [2] Tryz.func132 rfl (by kernel_rfl) rfl rfl rfl rfl rfl ?_
 refine ⟨[],false,_,_,spec_l01In _ _ _,nd0,rfl,rfl,trivial,fun h1=>?_,fun h1=>?_⟩
 .simp only [Bool.and_eq_true,decide_eq_true_eq] at h1
  obtain ⟨n,rfl⟩:∃n:Nat,x=n:=⟨x.toNat,by omega⟩
  refine ⟨[],true,_,_,spec_l12Rooted n (by omega) (by omega),nd0,rfl,rfl,trivial,?_⟩
  refine ⟨Nat,fun k=>⟨[(0,I (n:Nat)),(3,.d true (.sl .int) (rootR.take (n+1))),(4,I (uP n k)),(5,I ((k+1:Nat)))],[]⟩,fun k=>k+1<=n,fun k=>n-k,0,by dsimp only;omega,
   ⟨⟨rfl,rfl⟩,⟨rfl,rfl,rfl,rfl,trivial⟩,trivial⟩,fun k hk=>?_⟩
  dsimp only at hk
  refine ⟨fun h2=>?_,fun h2=>?_⟩
  .have hk2:k+1<n:=by omega
   have hb:=rr_b n (by omega) (k+1) hk2
   have hc:=uP_b n (by omega) (k+1) hk2
   refine ⟨none,by kernel_rfl,k+1,rfl,by rw [root_len _ (by omega)];omega,?_⟩
   refine ⟨((n-(k+1):Nat):Int),w64_eq (by omega) (by omega) (by omega),?_⟩
   refine ⟨n-(k+1),rfl,by rw [root_len _ (by omega)];omega,?_⟩
   refine ⟨rg (k+1)*rg (n-(k+1)),w64_eq (by rw [root_get _ _ (by omega),root_get _ _ (by omega)]) (by omega) (by omega),?_⟩
   refine ⟨uP n (k+1),w64_eq (by rw [uP]) (by omega) (by omega),?_⟩
   exact ⟨((k+1+1:Nat):Int),w64_eq (by omega) (by omega) (by omega),k+1,by dsimp only;omega,by dsimp only;omega,⟨rfl,rfl⟩,⟨rfl,rfl,rfl,rfl,trivial⟩,trivial⟩
  .obtain rfl:n=k+1:=by omega
   have hd:=uP_b (k+1) (by omega) k (by omega)
   have he:=uE_b (k+1) (by omega) (by omega)
   have hf:=rg_b (k+1) (by omega)
   have hg:=free_b (k+1) (by omega) (by omega)
   refine ⟨by decide,_,rfl,fun h3=>?_,fun h3=>?_⟩
   .have hh:=rg_b ((k+1) / 2) (by omega)
    have hu:uE (k+1)=uP (k+1) k-rg ((k+1) / 2):=by rw [uE,if_pos h3];rfl
    refine ⟨by decide,(((k+1) / 2:Nat):Int),w64_eq (Int.ofNat_tdiv _ _) (by omega) (by omega),?_⟩
    refine ⟨(k+1) / 2,rfl,by rw [root_len _ (by omega)];omega,?_⟩
    refine ⟨uE (k+1),w64_eq (by rw [root_get _ _ (by omega),hu]) (by omega) (by omega),?_⟩
    refine ⟨k+1,rfl,by rw [root_len _ (by omega)];omega,?_⟩
    refine ⟨by decide,(uE (k+1)).tdiv 2,w64_eq rfl (by omega) (by omega),?_⟩
    refine ⟨rg (k+1)-(uE (k+1)).tdiv 2,w64_eq (by rw [root_get _ _ (by omega)]) (by omega) (by omega),?_⟩
    exact ⟨none,⟨retI (by rw [freeN,if_pos (by omega)];rfl),trivial⟩,rfl,rfl⟩
   .have hu:uE (k+1)=uP (k+1) k:=by rw [uE,if_neg h3];rfl
    refine ⟨k+1,rfl,by rw [root_len _ (by omega)];omega,?_⟩
    refine ⟨by decide,(uE (k+1)).tdiv 2,w64_eq (by rw [hu]) (by omega) (by omega),?_⟩
    refine ⟨rg (k+1)-(uE (k+1)).tdiv 2,w64_eq (by rw [root_get _ _ (by omega)]) (by omega) (by omega),?_⟩
    exact ⟨none,⟨retI (by rw [freeN,if_pos (by omega)];rfl),trivial⟩,rfl,rfl⟩
 .simp only [Bool.and_eq_false_iff,decide_eq_false_iff_not] at h1
  exact ⟨none,⟨retI (by rw [freeN,if_neg (by omega)]),trivial⟩,rfl,rfl⟩
theorem impl_CountFree (x:Int):AC Tryz.prog 92 [I x] [] [I (freeN x)] []:=by
 refine AC_of tauOk 48 0 [2] Tryz.func92 rfl (by kernel_rfl) rfl rfl rfl rfl rfl ?_
 refine ⟨fun h1=>?_,fun h1=>?_⟩
 .exact ⟨none,⟨retI (by rw [freeN,if_neg (by omega)]),trivial⟩,rfl,rfl⟩
 refine ⟨fun h2=>?_,fun h2=>?_⟩
 .exact ⟨none,⟨retI (by rw [freeN,if_neg (by omega)]),trivial⟩,rfl,rfl⟩
 obtain ⟨n,rfl⟩:∃n:Nat,x=n:=⟨x.toNat,by omega⟩
 have hn1:1<=n:=by omega
 have hn:n<=12:=by omega
 refine ⟨[],true,_,_,impl_rooted,nd0,rfl,rfl,trivial,?_⟩
 refine ⟨Nat,fun k=>⟨[(0,I (n:Nat)),(3,.d true (.sl .int) (rootR.take 13)),(4,I (uP n k)),(5,I ((k+1:Nat)))],[]⟩,fun k=>k+1<=n,fun k=>n-k,0,by dsimp only;omega,
  ⟨⟨rfl,rfl⟩,⟨rfl,rfl,rfl,rfl,trivial⟩,trivial⟩,fun k hk=>?_⟩
 dsimp only at hk
 refine ⟨fun h2=>?_,fun h2=>?_⟩
 .have hk2:k+1<n:=by omega
  have hb:=rr_b n (by omega) (k+1) hk2
  have hc:=uP_b n (by omega) (k+1) hk2
  refine ⟨none,by kernel_rfl,k+1,rfl,by rw [root_len 12 (by omega)];omega,?_⟩
  refine ⟨((n-(k+1):Nat):Int),w64_eq (by omega) (by omega) (by omega),?_⟩
  refine ⟨n-(k+1),rfl,by rw [root_len 12 (by omega)];omega,?_⟩
  refine ⟨rg (k+1)*rg (n-(k+1)),w64_eq (by rw [root_get 12 _ (by omega),root_get 12 _ (by omega)]) (by omega) (by omega),?_⟩
  refine ⟨uP n (k+1),w64_eq (by rw [uP]) (by omega) (by omega),?_⟩
  exact ⟨((k+1+1:Nat):Int),w64_eq (by omega) (by omega) (by omega),k+1,by dsimp only;omega,by dsimp only;omega,⟨rfl,rfl⟩,⟨rfl,rfl,rfl,rfl,trivial⟩,trivial⟩
 .obtain rfl:n=k+1:=by omega
  have hd:=uP_b (k+1) (by omega) k (by omega)
  have he:=uE_b (k+1) (by omega) (by omega)
  have hf:=rg_b (k+1) (by omega)
  have hg:=free_b (k+1) (by omega) (by omega)
  refine ⟨by decide,_,rfl,fun h3=>?_,fun h3=>?_⟩
  .have hh:=rg_b ((k+1) / 2) (by omega)
   have hu:uE (k+1)=uP (k+1) k-rg ((k+1) / 2):=by rw [uE,if_pos h3];rfl
   refine ⟨by decide,(((k+1) / 2:Nat):Int),w64_eq (Int.ofNat_tdiv _ _) (by omega) (by omega),?_⟩
   refine ⟨(k+1) / 2,rfl,by rw [root_len 12 (by omega)];omega,?_⟩
   refine ⟨uE (k+1),w64_eq (by rw [root_get 12 _ (by omega),hu]) (by omega) (by omega),?_⟩
   refine ⟨k+1,rfl,by rw [root_len 12 (by omega)];omega,?_⟩
   refine ⟨by decide,(uE (k+1)).tdiv 2,w64_eq rfl (by omega) (by omega),?_⟩
   refine ⟨rg (k+1)-(uE (k+1)).tdiv 2,w64_eq (by rw [root_get 12 _ (by omega)]) (by omega) (by omega),?_⟩
   exact ⟨none,⟨retI (by rw [freeN,if_pos (by omega)];rfl),trivial⟩,rfl,rfl⟩
  .have hu:uE (k+1)=uP (k+1) k:=by rw [uE,if_neg h3];rfl
   refine ⟨k+1,rfl,by rw [root_len 12 (by omega)];omega,?_⟩
   refine ⟨by decide,(uE (k+1)).tdiv 2,w64_eq (by rw [hu]) (by omega) (by omega),?_⟩
   refine ⟨rg (k+1)-(uE (k+1)).tdiv 2,w64_eq (by rw [root_get 12 _ (by omega)]) (by omega) (by omega),?_⟩
   exact ⟨none,⟨retI (by rw [freeN,if_pos (by omega)];rfl),trivial⟩,rfl,rfl⟩
theorem spec_HeightOf (sh:Bool) (xs:List Int) (hl:xs.length<=1048576):AC Tryz.prog 108 [.d sh (.sl .int) xs] [] [I (heightV xs)] []:=by
 refine AC_of tauOk 38 0 [2] Tryz.func108 rfl (by kernel_rfl) rfl rfl rfl rfl rfl ?_
 refine ⟨[],false,_,_,spec_TreeOk sh xs hl,nd0,rfl,rfl,trivial,fun h1=>?_,fun h1=>?_⟩
 .have ht:=(treeB_iff xs).1 h1
  refine ⟨xs.length,xs.length,rfl,rfl,Nat.le_refl _,by omega,?_⟩
  refine ⟨Nat,fun k=>⟨[(0,.d sh (.sl .int) xs),(3,I (htS xs k).2),(4,.ow 0),(13,.d sh (.sl .int) xs),(14,I xs.length),(15,I (k:Nat))],[.sl 3 .int (htS xs k).1]⟩,fun k=>k<=xs.length,fun k=>xs.length-k,0,Nat.zero_le _,
   ⟨⟨rfl,rfl⟩,⟨rfl,rfl,rfl,rfl,rfl,rfl,trivial⟩,rfl,trivial⟩,fun k hk=>?_⟩
  dsimp only at hk
  refine ⟨fun h2=>?_,fun h2=>?_⟩
  .have hk2:k<xs.length:=by omega
   clear h2
   refine ⟨k,rfl,by omega,fun h3=>?_,fun h3=>?_⟩
   .have hk3:0<k:=by omega
    have hx:=ht.2.2 k (by omega) hk2
    have hb:=htS_b xs k (xs.getD k 0).toNat
    have hn:=htS_len xs k
    have hl2:((htS xs k).1.set k ((htS xs k).1.getD (xs.getD k 0).toNat 0+1)).length=xs.length:=by rw [List.length_set,hn]
    refine ⟨(xs.getD k 0).toNat,(Int.toNat_of_nonneg hx.1).symm,by rw [hn];omega,?_⟩
    refine ⟨_,w64_in _ (by omega) (by omega),k,rfl,by omega,?_⟩
    refine ⟨k,rfl,by omega,?_⟩
    exact ⟨_,w64_in _ (by omega) (by omega),k+1,by dsimp only;omega,by dsimp only;omega,⟨rfl,rfl⟩,⟨rfl,retI (by rw [htS_s _ _ hk3,L_set_self _ _ _ _ (by rw [hn];exact hk2)];rfl),rfl,rfl,rfl,rfl,trivial⟩,rowE (by rw [htS_s _ _ hk3]),trivial⟩
   .obtain rfl:k=0:=by omega
    exact ⟨_,w64_in _ (by omega) (by omega),1,by dsimp only;omega,by dsimp only;omega,⟨rfl,rfl⟩,⟨rfl,rfl,rfl,rfl,rfl,rfl,trivial⟩,rfl,trivial⟩
  .obtain rfl:k=xs.length:=by omega
   exact ⟨none,⟨retI (by rw [heightV,if_pos h1]),trivial⟩,rfl,rfl⟩
 .exact ⟨none,⟨retI (by rw [heightV,if_neg (by rw [h1];decide)]),trivial⟩,rfl,rfl⟩
theorem impl_HeightOf (sh:Bool) (xs:List Int) (hl:xs.length<=1048576):AC Tryz.prog 72 [.d sh (.sl .int) xs] [] [I (heightV xs)] []:=by
 refine AC_of tauOk 38 0 [2] Tryz.func72 rfl (by kernel_rfl) rfl rfl rfl rfl rfl ?_
 refine ⟨[],false,_,_,impl_TreeOk sh xs hl,nd0,rfl,rfl,trivial,fun h1=>?_,fun h1=>?_⟩
 .have ht:=(treeB_iff xs).1 h1
  refine ⟨xs.length,xs.length,rfl,rfl,Nat.le_refl _,by omega,?_⟩
  refine ⟨Nat,fun k=>⟨[(0,.d sh (.sl .int) xs),(3,I (htS xs k).2),(4,.ow 0),(13,.d sh (.sl .int) xs),(14,I xs.length),(15,I (k:Nat))],[.sl 3 .int (htS xs k).1]⟩,fun k=>k<=xs.length,fun k=>xs.length-k,0,Nat.zero_le _,
   ⟨⟨rfl,rfl⟩,⟨rfl,rfl,rfl,rfl,rfl,rfl,trivial⟩,rfl,trivial⟩,fun k hk=>?_⟩
  dsimp only at hk
  refine ⟨fun h2=>?_,fun h2=>?_⟩
  .have hk2:k<xs.length:=by omega
   clear h2
   refine ⟨k,rfl,by omega,fun h3=>?_,fun h3=>?_⟩
   .have hk3:0<k:=by omega
    have hx:=ht.2.2 k (by omega) hk2
    have hb:=htS_b xs k (xs.getD k 0).toNat
    have hn:=htS_len xs k
    have hl2:((htS xs k).1.set k ((htS xs k).1.getD (xs.getD k 0).toNat 0+1)).length=xs.length:=by rw [List.length_set,hn]
    refine ⟨(xs.getD k 0).toNat,(Int.toNat_of_nonneg hx.1).symm,by rw [hn];omega,?_⟩
    refine ⟨_,w64_in _ (by omega) (by omega),k,rfl,by omega,?_⟩
    refine ⟨k,rfl,by omega,?_⟩
    exact ⟨_,w64_in _ (by omega) (by omega),k+1,by dsimp only;omega,by dsimp only;omega,⟨rfl,rfl⟩,⟨rfl,retI (by rw [htS_s _ _ hk3,L_set_self _ _ _ _ (by rw [hn];exact hk2)];rfl),rfl,rfl,rfl,rfl,trivial⟩,rowE (by rw [htS_s _ _ hk3]),trivial⟩
   .obtain rfl:k=0:=by omega
    refine ⟨0,rfl,by rw [htS_len];omega,?_⟩
    exact ⟨_,w64_in _ (by omega) (by omega),1,by dsimp only;omega,by dsimp only;omega,⟨rfl,rfl⟩,⟨rfl,retI (by rw [htS_0,htS,rep_getD];rfl),rfl,rfl,rfl,rfl,trivial⟩,rfl,trivial⟩
  .obtain rfl:k=xs.length:=by omega
   exact ⟨none,⟨retI (by rw [heightV,if_pos h1]),trivial⟩,rfl,rfl⟩
 .exact ⟨none,⟨retI (by rw [heightV,if_neg (by rw [h1];decide)]),trivial⟩,rfl,rfl⟩
end Go.Proofs.YtacjiemkbhhhoaaGreatDoor
namespace Go.Proofs.YtacjiemkbhhhoaaGreatDoor.Ow
open Go Go.RowKit
def PVS (w:World) (S:Nat->Prop) (e:Nat) (d:Bool) (xss:List (List Int)) (v:Value):Prop:=
 (xss=[]/\∃a cap,v=.slice a 0 cap/\(a=none->cap=0))\/
 ∃b cur E,v=.slice (some ⟨b,0,none⟩) (List.length xss) cur.size/\S b/\w.heap[b]? =some (.cells cur E (0,0))/\List.length xss<=cur.size/\Cells w (fun c=>S c/\c≠b) (.sw e d) xss cur
def PV (w:World) (S:Nat->Prop):(t:Ty)->t.T->Value->Prop
 |.sl (.sw e d),xss,v=>PVS w S e d xss v
 |t,x,v=>Rd w S t x v
theorem PVS.rd {w:World} {S:Nat->Prop} {e:Nat} {d:Bool} {xss:List (List Int)} {v:Value} (h:PVS w S e d xss v):Rd w S (.sl (.sw e d)) xss v:=by
 rcases h with ⟨rfl,a,cap,h1,h2⟩|⟨b,cur,E,h1,h2,h3,h4,h5⟩
 .exact ⟨a,cap,h1,Nat.zero_le _,h2,.inl rfl⟩
 .refine ⟨_,_,h1,h4,(fun hh=>by cases hh),.inr ⟨b,0,rfl,h2,fun j hj=>?_⟩⟩
  obtain ⟨cv,g1,g2⟩:=h5.c j hj
  exact ⟨cv,by rw [Nat.zero_add,cell_of_row w b j cur E (0,0) h3];exact g1,RdW.ext (fun b hb _=>⟨rfl,hb.1⟩) g2⟩
theorem PV.rd {w:World} {S:Nat->Prop} {t:Ty} {x:t.T} {v:Value} (h:PV w S t x v):Rd w S t x v:=by
 cases t with
 |sl t'=>cases t' with
  |sw e d=>exact PVS.rd h
  |_=>exact h
 |_=>exact h
theorem PVS.ext {w w':World} {S S':Nat->Prop} (hk:∀b,S b->b<w.heap.size->w'.heap[b]? =w.heap[b]?/\S' b) {e:Nat} {d:Bool} {xss:List (List Int)} {v:Value} (h:PVS w S e d xss v):PVS w' S' e d xss v:=by
 rcases h with h|⟨b,cur,E,h1,h2,h3,h4,h5⟩
 .exact .inl h
 .obtain ⟨g1,g2⟩:=hk b h2 (lt_of_heap h3)
  refine .inr ⟨b,cur,E,h1,g2,g1.trans h3,h4,fun j hj=>?_,h5.d⟩
  obtain ⟨cv,g3,g4⟩:=h5.c j hj
  exact ⟨cv,g3,RdW.ext (fun c hc hl=>⟨(hk c hc.1 hl).1,(hk c hc.1 hl).2,hc.2⟩) g4⟩
theorem PV.ext {w w':World} {S S':Nat->Prop} (hk:∀b,S b->b<w.heap.size->w'.heap[b]? =w.heap[b]?/\S' b) {t:Ty} {x:t.T} {v:Value} (h:PV w S t x v):PV w' S' t x v:=by
 cases t with
 |sl t'=>cases t' with
  |sw e d=>exact PVS.ext hk h
  |_=>exact Rd.ext hk _ _ _ h
 |_=>exact Rd.ext hk _ _ _ h
structure Pool where
 t:Ty
 x:t.T
inductive LV where
 |f (av:AV)
 |n
 |o (t:Ty) (x:t.T)
 |p (i:Nat)
 |pe (i j:Nat)
 |pi (i j:Nat)
 |two (x y:LV)
 |u
 |any
structure LSt where
 env:List (Nat × LV)
 pools:List Pool
def lookL (env:List (Nat × LV)) (t:Nat):LV:=
 match env with
 |[]=>.any
 |(u,v)::r=>match Nat.beq u t with|true=>v|false=>lookL r t
def wkA:(t:Ty)->t.T->AV
 |.sw _ _,xs=>.d false (.sl .int) xs
 |.sl (.sw _ _),xss=>.d false (.sl (.sl .int)) xss
 |t,x=>.d false t x
def cvL (pools:List Pool):LV->AV
 |.f av=>av
 |.n=>.nil
 |.o t x=>.d false t x
 |.p i=>match pools[i]? with|some ⟨t,x⟩=>wkA t x|none=>.any
 |.pi i j=>match pools[i]? with|some ⟨.sl (.sw _ _),xss⟩=>(match xss[j]? with|some xs=>.d false (.sl .int) xs|none=>.any)|_=>.any
 |.u=>.tup []
 |_=>.any
def LVal (n0:Nat) (w:World) (vals:List Value) (pools:List Pool):LV->Value->Prop
 |.f av,v=>∃u,flatV av=some u/\v=u
 |.n,v=>v=.slice none 0 0
 |.o t x,v=>Rd w (fun b=>b<n0) t x v
 |.p i,v=>vals[i]? =some v
 |.pe i j,v=>∃(e:Nat) (d:Bool) (xss:List (List Int)) (pv:Value) (b cap:Nat),pools[i]? =some ⟨.sl (.sw e d),xss⟩/\vals[i]? =some pv/\j<xss.length/\pv=.slice (some ⟨b,0,none⟩) (List.length xss) cap/\v=.pointer (some ⟨b,j,none⟩)
 |.pi i j,v=>∃(e:Nat) (d:Bool) (xss:List (List Int)) (pv:Value) (b cap:Nat),pools[i]? =some ⟨.sl (.sw e d),xss⟩/\vals[i]? =some pv/\j<xss.length/\pv=.slice (some ⟨b,0,none⟩) (List.length xss) cap/\w.cell? ⟨b,j,none⟩=some v
 |.two x y,v=>∃a b,v=.tuple #[a,b]/\LVal n0 w vals pools x a/\LVal n0 w vals pools y b
 |.u,v=>v=undef
 |.any,_=>True
structure LSat (w0:World) (n0:Nat) (w:World) (ps:List (Nat->Prop)) (vals:List Value) (a:Act) (N:Nat) (st:LSt):Prop where
 n:n0<=w0.heap.size
 os:w.os=w0.os
 tape:w.tape=w0.tape
 output:w.output=w0.output
 sz:w0.heap.size<=w.heap.size
 fr:∀b,b<w0.heap.size->(∀S∈ps,¬S b)->w.heap[b]? =w0.heap[b]?
 l1:ps.length=st.pools.length
 l2:vals.length=st.pools.length
 lt:∀(i:Nat) (S:Nat->Prop),ps[i]? =some S->∀b,S b->n0<=b/\b<w.heap.size
 dis:∀(i j:Nat) (S T:Nat->Prop),ps[i]? =some S->ps[j]? =some T->i≠j->∀b,S b->¬T b
 pv:∀(i:Nat) (S:Nat->Prop) (p:Pool) (v:Value),ps[i]? =some S->st.pools[i]? =some p->vals[i]? =some v->PV w S p.t p.x v
 env:∀t,LVal n0 w vals st.pools (lookL st.env t) (a.tmps.getD t undef)
 size:a.tmps.size=N
 dfs:a.defers=[]
section
variable {P:Program} {τ:Nat->TI} {N n0:Nat} {w0 w:World} {ps:List (Nat->Prop)} {vals:List Value} {a:Act} {st:LSt}
theorem wkA_ok {w:World} {S:Nat->Prop} {t:Ty} {x:t.T} {v:Value} (h:Rd w S t x v):V w [] (fun _=>False) [] (wkA t x) v:=by
 have h':Rd w (fun b=>b∉([]:List Nat)) t x v:=Rd.ext (fun b _ _=>⟨rfl,by simp⟩) t x v h
 cases t with
 |sw e d=>exact RdW.rd h'
 |sl t'=>cases t' with
  |sw e d=>exact Rd.wk h'
  |_=>exact h'
 |_=>exact h'
theorem LVal.cv (h:LSat w0 n0 w ps vals a N st):∀{x:LV} {v:Value},LVal n0 w vals st.pools x v->V w [] (fun _=>False) [] (cvL st.pools x) v
 |.f av,v,hv=>by
  obtain ⟨u,h1,rfl⟩:=hv
  exact flatV_mk h1
 |.n,v,hv=>hv
 |.o t x,v,hv=>Rd.ext (fun b hb _=>⟨rfl,by simp [SS]⟩) t x v hv
 |.p i,v,hv=>by
  have hi:i<st.pools.length:=by rw [<-h.l2];exact (List.getElem?_eq_some_iff.1 hv).1
  have hp:st.pools[i]? =some st.pools[i]:=List.getElem?_eq_getElem hi
  have hS:ps[i]? =some (ps[i]'(by rw [h.l1];exact hi)):=List.getElem?_eq_getElem _
  have:=h.pv i _ _ _ hS hp hv
  have e:cvL st.pools (.p i)=wkA (st.pools[i]).t (st.pools[i]).x:=by simp only [cvL,hp]
  rw [e]
  exact wkA_ok this.rd
 |.pe i j,v,_=>trivial
 |.pi i j,v,hv=>by
  obtain ⟨e,d,xss,pv,b,cap,h1,h2,h3,h4,h5⟩:=hv
  have hS:ps[i]? =some (ps[i]'(by rw [h.l1];exact (List.getElem?_eq_some_iff.1 h1).1)):=List.getElem?_eq_getElem _
  have hp:=h.pv i _ _ _ hS h1 h2
  have e1:cvL st.pools (.pi i j)=.d false (.sl .int) xss[j]:=by simp only [cvL,h1,List.getElem?_eq_getElem h3]
  rw [e1]
  have hp:PVS w _ e d xss pv:=hp
  rcases hp with ⟨k,_⟩|⟨b',cur,E,k1,k2,k3,k4,k5⟩
  .rw [k] at h3;simp at h3
  .rw [h4] at k1
   simp only [Value.slice.injEq,Option.some.injEq,Addr.mk.injEq] at k1
   obtain ⟨⟨rfl,_⟩,_,_⟩:=k1
   rw [cell_of_row w b j cur E (0,0) k3] at h5
   obtain ⟨cv,g1,g2⟩:=k5.c j h3
   rw [h5] at g1;cases g1
   exact RdW.rd (RdW.ext (fun _ _ _=>⟨rfl,by simp [SS]⟩) g2)
 |.two x y,v,_=>trivial
 |.u,v,hv=>⟨[],hv,rfl⟩
 |.any,v,_=>trivial
end
def subL (env:List (Nat × LV)):List (Nat × LV)->Prop
 |[]=>True
 |(t,x)::l=>lookL env t=x/\subL env l
section
variable {P:Program} {τ:Nat->TI} {N n0:Nat} {w0 w w':World} {ps:List (Nat->Prop)} {vals:List Value} {a:Act} {st:LSt}
def Ext1 {α:Type} (l l':List α):Prop:=∃x,l'=l++x
theorem Ext1.refl {α:Type} (l:List α):Ext1 l l:=⟨[],by simp⟩
structure Grw (w w':World):Prop where
 os:w'.os=w.os
 tape:w'.tape=w.tape
 output:w'.output=w.output
 size:w.heap.size<=w'.heap.size
 old:∀k,k<w.heap.size->w'.heap[k]? =w.heap[k]?
theorem Grw.cell (h:Grw w w') {b o:Nat} {v:Value} (hc:w.cell? ⟨b,o,none⟩=some v):w'.cell? ⟨b,o,none⟩=some v:=(cell_of_block (h.old b (cell_lt hc))).trans hc
end
def LVals (n0:Nat) (w:World) (vals:List Value) (pools:List Pool):List LV->List Value->Prop
 |[],vs=>vs=[]
 |x::l,vs=>∃v r,vs=v::r/\LVal n0 w vals pools x v/\LVals n0 w vals pools l r
theorem LVals.get {n0:Nat} {w:World} {vals:List Value} {pools:List Pool}:∀{l:List LV} {vs:List Value} {i:Nat} {x:LV},LVals n0 w vals pools l vs->l[i]? =some x->∃v,vs[i]? =some v/\LVal n0 w vals pools x v
 |[],_,i,x,_,h=>by simp at h
 |y::l,_,0,x,hv,h=>by
  obtain ⟨v,r,rfl,h1,_⟩:=hv
  simp at h;subst h
  exact ⟨v,rfl,h1⟩
 |y::l,_,i+1,x,hv,h=>by
  obtain ⟨v,r,rfl,_,h2⟩:=hv
  obtain ⟨u,h3,h4⟩:=LVals.get h2 (by simpa using h)
  exact ⟨u,by simpa using h3,h4⟩
theorem LVals.len {n0:Nat} {w:World} {vals:List Value} {pools:List Pool}:∀{l:List LV} {vs:List Value},LVals n0 w vals pools l vs->vs.length=l.length
 |[],_,h=>by cases h;rfl
 |_::_,_,h=>by obtain ⟨v,r,rfl,_,h2⟩:=h;simp [LVals.len h2]
end Go.Proofs.YtacjiemkbhhhoaaGreatDoor.Ow
namespace Go.Proofs.YtacjiemkbhhhoaaGreatDoor
open Go Go.Proofs.YtacjiemkbhhhoaaGreatDoor.Ow
theorem impl_ExchangePatterns_no (sh:Bool) (g:List (List Int)) (k:Int) (hl:g.length<=1048576) (hx:∀i,i<g.length->(g.getD i []).length<=1048576) (hE:(gokB g && smallB (g.getD 0 []).length k)=false):
 AC Tryz.prog 83 [.d sh (.sl (.sl .int)) g,I k] [] [.nil,.d true .bool false] []:=by
 refine AC_of tauOk 44 0 [4,5] Tryz.func83 rfl (by kernel_rfl) rfl rfl rfl rfl rfl ?_
 refine ⟨[],false,_,_,impl_GroupOk sh g hl hx,nd0,rfl,rfl,trivial,fun h1=>?_,fun h1=>?_⟩
 .have hG:=(gokB_iff g).1 h1
  have hg0:0<g.length:=by have:=hG.l1;omega
  have hp0:=(gok1_p (hG.o1 0 hg0)).1.1
  have hSm:=impl_isSmall (g.getD 0 []).length k hp0.2
  rw [h1,Bool.true_and] at hE
  rw [hE] at hSm
  refine ⟨0,rfl,hg0,[],false,_,_,hSm,nd0,rfl,rfl,trivial,nofun,fun _=>?_⟩
  exact ⟨none,⟨rfl,rfl,trivial⟩,rfl,rfl⟩
 .exact ⟨none,⟨rfl,rfl,trivial⟩,rfl,rfl⟩
theorem spec_l04Act (s1 s2:Bool) (p xs:List Int) (hP:PermP p) (hl:p.length=xs.length):AC Tryz.prog 288 [.d s1 (.sl .int) p,.d s2 (.sl .int) xs] [] [.ow 0] [.sl 3 .int (actL p xs)]:=by
 have h10:=hP.1
 refine AC_of tauOk 27 0 [4] Tryz.func288 rfl (by kernel_rfl) rfl rfl rfl rfl rfl ?_
 refine ⟨_,_,rfl,rfl,Nat.le_refl _,by omega,?_⟩
 refine ⟨Nat,fun k=>⟨[(0,.d s1 (.sl .int) p),(5,.ow 0),(11,.d s2 (.sl .int) xs),(12,I xs.length),(13,I (k:Nat))],[.sl 3 .int (actS p xs k)]⟩,fun k=>k<=xs.length,fun k=>xs.length-k,0,Nat.zero_le _,
  ⟨⟨rfl,rfl⟩,⟨rfl,rfl,rfl,rfl,rfl,trivial⟩,rfl,trivial⟩,fun k hk=>?_⟩
 dsimp only at hk
 refine ⟨fun h1=>?_,fun h1=>?_⟩
 .have hk2:k<xs.length:=by omega
  have hb:=(hP.2 k (by omega)).1
  refine ⟨k,rfl,hk2,k,rfl,by omega,(p.getD k 0).toNat,(show p.getD k 0=(((p.getD k 0).toNat:Nat):Int) by omega),(show (p.getD k 0).toNat<(actS p xs k).length by rw [actS_len];omega),?_⟩
  exact ⟨((k+1:Nat):Int),w64_eq (by omega) (by omega) (by omega),k+1,by dsimp only;omega,by dsimp only;omega,⟨rfl,rfl⟩,⟨rfl,rfl,rfl,rfl,rfl,trivial⟩,rowE rfl,trivial⟩
 .obtain rfl:k=xs.length:=by omega
  exact ⟨some 0,⟨⟨rfl,rfl⟩,trivial⟩,⟨rfl,rfl⟩,rfl⟩
theorem spec_l06Canon (sh s2:Bool) (g:List (List Int)) (xs:List Int) (hg:∀i,i<g.length->PermP (g.getD i [])/\(g.getD i []).length=xs.length) (hgl:g.length<=1048576) (hc:ColP xs):
 AC Tryz.prog 212 [.d sh (.sl (.sl .int)) g,.d s2 (.sl .int) xs] [] [.ow 0] [.sl 3 .int (canL g xs)]:=by
 have hcl:=hc.2
 have hbl:∀k,k<=g.length->(bstF (fun p=>actL p xs) xs g k).length=xs.length:=fun k hk=>by
  rcases bst_mem (fun p=>actL p xs) xs g k with h|⟨i,hi,h⟩
  .rw [h]
  .rw [h,actL_len]
 refine AC_of tauOk 27 0 [4] Tryz.func212 rfl (by kernel_rfl) rfl rfl rfl rfl rfl ?_
 refine ⟨Bool × Nat,fun z=>⟨[(1,.d s2 (.sl .int) xs),(5,.d z.1 (.sl .int) (bstF (fun p=>actL p xs) xs g z.2)),(10,.d sh (.sl (.sl .int)) g),(11,I g.length),(12,I (z.2:Nat))],[]⟩,fun z=>z.2<=g.length,fun z=>g.length-z.2,(s2,0),Nat.zero_le _,
  ⟨⟨rfl,rfl⟩,⟨rfl,rfl,rfl,rfl,rfl,trivial⟩,trivial⟩,fun z hk=>?_⟩
 obtain ⟨b,k⟩:=z
 dsimp only at hk ⊢
 refine ⟨fun h1=>?_,fun h1=>?_⟩
 .have hk2:k<g.length:=by omega
  obtain ⟨hP,hl⟩:=hg k hk2
  have hbk:=hbl k hk
  have hx1:=actL_len (g.getD k []) xs
  refine ⟨k,rfl,hk2,[],true,_,_,spec_l04Act sh s2 (g.getD k []) xs hP hl,nd0,rfl,rfl,trivial,?_⟩
  refine ⟨[],false,_,_,spec_l03Less true b (actL (g.getD k []) xs) (bstF (fun p=>actL p xs) xs g k) (by omega) (by omega),nd0,rfl,rfl,trivial,fun h2=>?_,fun h2=>?_⟩
  .have h2:=of_decide_eq_true h2
   have e:bstF (fun p=>actL p xs) xs g (k+1)=actL (g.getD k []) xs:=by rw [bstF,if_pos h2]
   exact ⟨((k+1:Nat):Int),w64_eq (by omega) (by omega) (by omega),(true,k+1),by dsimp only;omega,by dsimp only;omega,⟨rfl,rfl⟩,⟨rfl,retDc e.symm,rfl,rfl,rfl,trivial⟩,trivial⟩
  .have h2:=of_decide_eq_false h2
   have e:bstF (fun p=>actL p xs) xs g (k+1)=bstF (fun p=>actL p xs) xs g k:=by rw [bstF,if_neg h2]
   exact ⟨((k+1:Nat):Int),w64_eq (by omega) (by omega) (by omega),(b,k+1),by dsimp only;omega,by dsimp only;omega,⟨rfl,rfl⟩,⟨rfl,by rw [e];rfl,rfl,rfl,rfl,trivial⟩,trivial⟩
 .obtain rfl:k=g.length:=by omega
  have hbk:=hbl g.length hk
  refine ⟨rfl,by decide,true,?_⟩
  cases b
  .refine ⟨rfl,Nat.zero_le _,rfl,by simp only [List.length_nil];omega,rfl,?_⟩
   exact ⟨some 0,⟨⟨rfl,rfl⟩,trivial⟩,⟨rfl,rowsE (List.nil_append _)⟩,rfl⟩
  .refine ⟨rfl,Nat.zero_le _,rfl,by simp only [List.length_nil];omega,rfl,?_⟩
   exact ⟨some 0,⟨⟨rfl,rfl⟩,trivial⟩,⟨rfl,rowsE (List.nil_append _)⟩,rfl⟩
theorem spec_l06Fits (s1 s2:Bool) (g:List (List Int)) (xs:List Int) (hl:g.length<=1048576) (hx:∀i,i<g.length->(g.getD i []).length<=1048576) (hl2:xs.length<=1048576):
 AC Tryz.prog 211 [.d s1 (.sl (.sl .int)) g,.d s2 (.sl .int) xs] [] [.d true .bool (fitB g xs)] []:=by
 refine AC_of tauOk 20 0 [4] Tryz.func211 rfl (by kernel_rfl) rfl rfl rfl rfl rfl ?_
 refine ⟨[],false,_,_,spec_GroupOk s1 g hl hx,nd0,rfl,rfl,trivial,fun h1=>?_,fun h1=>?_⟩
 .have hg0:0<g.length:=by have:=((gokB_iff g).1 h1).l1;omega
  refine ⟨[],false,_,_,spec_ColoringOk s2 xs hl2,nd0,rfl,rfl,trivial,fun h2=>?_,fun h2=>?_⟩
  .refine ⟨0,rfl,hg0,fun h3=>?_,fun h3=>?_⟩
   .exact ⟨none,⟨retB (by rw [fitB,h1,h2,decide_eq_true (by omega)];rfl),trivial⟩,rfl,rfl⟩
   .exact ⟨none,⟨retB (by rw [fitB,h1,h2,decide_eq_false (by omega)];rfl),trivial⟩,rfl,rfl⟩
  .exact ⟨none,⟨retB (by rw [fitB,h2];simp),trivial⟩,rfl,rfl⟩
 .exact ⟨none,⟨retB (by rw [fitB,h1];simp),trivial⟩,rfl,rfl⟩
theorem cexS_len {g S:List (List Int)} {xs:List Int}:∀k,(bstF (fun h=>canL g (exL xs h)) xs S k).length=xs.length:=fun k=>by
 have hcan:∀ys:List Int,(canL g ys).length=ys.length:=fun ys=>by
  rcases bst_mem (fun p=>actL p ys) ys g g.length with h|⟨i,_,h⟩
  .rw [canL,h]
  .rw [canL,h,actL_len]
 rcases bst_mem (fun h=>canL g (exL xs h)) xs S k with h|⟨i,_,h⟩
 .rw [h]
 .rw [h,hcan,exL_len]
theorem spec_l13Canon (s1 s2 s3:Bool) (g S:List (List Int)) (xs:List Int) (hg:∀i,i<g.length->PermP (g.getD i [])/\(g.getD i []).length=xs.length) (hgl:g.length<=1048576) (hc:ColP xs) (hSl:S.length<=1048576)
 (hS:∀i,i<S.length->PermP (S.getD i [])/\(S.getD i []).length<=4/\∀j,j<xs.length->xs.getD j 0<((S.getD i []).length:Int)):
 AC Tryz.prog 296 [.d s1 (.sl (.sl .int)) g,.d s2 (.sl (.sl .int)) S,.d s3 (.sl .int) xs] [] [.d true (.sl .int) (cexS g S xs)] []:=by
 have hcl:=hc.2
 have hbl:=cexS_len (g:=g) (S:=S) (xs:=xs)
 refine AC_of tauOk 31 0 [6] Tryz.func296 rfl (by kernel_rfl) rfl rfl rfl rfl rfl ?_
 refine ⟨rfl,by decide,true,?_⟩
 have hex:∀k,k<S.length->ColP (exL xs (S.getD k []))/\(∀i,i<g.length->PermP (g.getD i [])/\(g.getD i []).length=(exL xs (S.getD k [])).length):=fun k hk=>by
  obtain ⟨h1,h2,h3⟩:=hS k hk
  refine ⟨⟨fun i hi=>?_,by rw [exL_len];exact hcl.1,by rw [exL_len];exact hcl.2⟩,fun i hi=>by rw [exL_len];exact hg i hi⟩
  rw [exL_len] at hi
  have h4:=hc.1 i hi
  have h5:=h3 i hi
  have h6:=(h1.2 (xs.getD i 0).toNat (by omega)).1
  rw [exL_at _ _ _ hi];omega
 cases s3<;>(
 refine ⟨rfl,Nat.zero_le _,rfl,by simp only [List.length_nil];omega,rfl,?_⟩
 refine ⟨Nat,fun k=>⟨[(0,.d s1 (.sl (.sl .int)) g),(2,.d _ (.sl .int) xs),(7,.d true (.sl .int) (bstF (fun h=>canL g (exL xs h)) xs S k)),(14,.d s2 (.sl (.sl .int)) S),(15,I S.length),(16,I (k:Nat))],[]⟩,fun k=>k<=S.length,fun k=>S.length-k,0,Nat.zero_le _,
  ⟨⟨rfl,rfl⟩,⟨rfl,rfl,⟨rfl,rfl,List.nil_append _⟩,rfl,rfl,rfl,trivial⟩,trivial⟩,fun k hk=>?_⟩
 dsimp only at hk
 have hbk:=hbl k
 refine ⟨fun h1=>?_,fun h1=>?_⟩
 .have hk2:k<S.length:=by omega
  obtain ⟨h3,h4,h5⟩:=hS k hk2
  obtain ⟨h6,h7⟩:=hex k hk2
  have hcan:(canL g (exL xs (S.getD k []))).length=xs.length:=by
   rcases bst_mem (fun p=>actL p (exL xs (S.getD k []))) (exL xs (S.getD k [])) g g.length with h|⟨i,_,h⟩
   .rw [canL,h,exL_len]
   .rw [canL,h,actL_len,exL_len]
  refine ⟨k,rfl,hk2,?_⟩
  refine ⟨[],true,_,_,spec_l13Exchange _ s2 xs (S.getD k []) (by omega) (fun i hi=>⟨(hc.1 i hi).1,h5 i hi⟩),nd0,rfl,rfl,trivial,?_⟩
  refine ⟨[],true,_,_,spec_l06Canon s1 true g (exL xs (S.getD k [])) h7 hgl h6,nd0,rfl,rfl,trivial,?_⟩
  refine ⟨[],false,_,_,spec_l03Less true true (canL g (exL xs (S.getD k []))) (bstF (fun h=>canL g (exL xs h)) xs S k) (by omega) (by omega),nd0,rfl,rfl,trivial,fun h2=>?_,fun h2=>?_⟩
  .have h2:=of_decide_eq_true h2
   have e:bstF (fun h=>canL g (exL xs h)) xs S (k+1)=canL g (exL xs (S.getD k [])):=by rw [bstF,if_pos h2]
   exact ⟨((k+1:Nat):Int),w64_eq (by omega) (by omega) (by omega),k+1,by dsimp only;omega,by dsimp only;omega,⟨rfl,rfl⟩,⟨rfl,rfl,retDc e.symm,rfl,rfl,rfl,trivial⟩,trivial⟩
  .have h2:=of_decide_eq_false h2
   have e:bstF (fun h=>canL g (exL xs h)) xs S (k+1)=bstF (fun h=>canL g (exL xs h)) xs S k:=by rw [bstF,if_neg h2]
   exact ⟨((k+1:Nat):Int),w64_eq (by omega) (by omega) (by omega),k+1,by dsimp only;omega,by dsimp only;omega,⟨rfl,rfl⟩,⟨rfl,rfl,retDc e.symm,rfl,rfl,rfl,trivial⟩,trivial⟩
 .obtain rfl:k=S.length:=by omega
  exact ⟨none,⟨rfl,trivial⟩,rfl,rfl⟩)
theorem nxtF_len (k:Int):∀(n:Nat) (l:List Int),(nxtF k l n).1.length=l.length
 |0,l=>rfl
 |n+1,l=>by
  rw [nxtF]
  split
  .simp
  .rw [nxtF_len k n];simp
theorem spec_l06Next (xs:List Int) (k:Int) (h1:1<=k) (h4:k<=4) (hl:xs.length<=10) (hx:∀i,i<xs.length->0<=xs.getD i 0/\xs.getD i 0<=4):
 AC Tryz.prog 299 [.ow 0,I k] [.sl 3 .int xs] [.d true .bool (nxtF k xs xs.length).2] [.sl 3 .int (nxtF k xs xs.length).1]:=by
 refine AC_of tauOk 29 1 [4] Tryz.func299 rfl (by kernel_rfl) rfl rfl rfl rfl rfl ?_
 refine ⟨((xs.length:Nat):Int)-1,w64_eq rfl (by omega) (by omega),?_⟩
 refine ⟨Nat × List Int,fun i=>⟨[(0,.ow 0),(1,I k),(5,I ((i.1:Nat)-1:Int))],[.sl 3 .int i.2]⟩,fun i=>i.1<=xs.length/\i.2.length=xs.length/\(∀j,j<xs.length->0<=i.2.getD j 0/\i.2.getD j 0<=4)/\nxtF k i.2 i.1=nxtF k xs xs.length,fun i=>i.1,(xs.length,xs),⟨Nat.le_refl _,rfl,hx,rfl⟩,
  ⟨⟨rfl,rfl⟩,⟨rfl,rfl,rfl,trivial⟩,rfl,trivial⟩,?_⟩
 rintro ⟨i,ys⟩ ⟨hi,hyl,hyb,hye⟩
 dsimp only at hi hyl hyb hye
 refine ⟨fun h2=>?_,fun h2=>?_⟩
 .dsimp only at h2
  obtain ⟨j,rfl⟩:∃j,i=j+1:=⟨i-1,by omega⟩
  have hb:=hyb j (by omega)
  have ej:(((j+1:Nat):Int)-1)=(j:Int):=by omega
  refine ⟨j,ej,by dsimp only;omega,k-1,w64_eq rfl (by omega) (by omega),fun h3=>?_,fun h3=>?_⟩
  .have e:nxtF k ys (j+1)=(ys.set j (ys.getD j 0+1),true):=by rw [nxtF,if_pos h3]
   refine ⟨j,ej,by dsimp only;omega,ys.getD j 0+1,w64_eq rfl (by omega) (by omega),j,ej,by dsimp only;omega,?_⟩
   exact ⟨none,⟨retB (by rw [<-hye,e]),trivial⟩,rowsE (by rw [<-hye,e]),rfl⟩
  .have e:nxtF k ys (j+1)=nxtF k (ys.set j 0) j:=by rw [nxtF,if_neg h3]
   refine ⟨j,ej,by dsimp only;omega,?_⟩
   refine ⟨((j:Nat):Int)-1,w64_eq (by dsimp only;omega) (by omega) (by omega),(j,ys.set j 0),⟨by dsimp only;omega,by dsimp only;rw [List.length_set];exact hyl,fun q hq=>?_,by rw [<-e];exact hye⟩,by dsimp only;omega,⟨rfl,rfl⟩,⟨rfl,rfl,rfl,trivial⟩,rfl,trivial⟩
   dsimp only
   by_cases eq:j=q
   .subst eq;rw [L_set_self _ _ _ _ (by omega)];decide
   .rw [L_set_ne _ _ _ _ _ eq];exact hyb q hq
 .dsimp only at h2
  obtain rfl:i=0:=by omega
  exact ⟨none,⟨retB (by rw [<-hye];rfl),trivial⟩,rowsE (by rw [<-hye];rfl),rfl⟩
def patL (g:List (List Int)) (k n:Nat):List (List Int):=kptL (fun w=>decide (canL g w=w)) k n (k ^ n)
theorem patL_eq (g:List (List Int)) (k n:Nat):patL g k n=(wordsL k n).filter fun w=>decide (canL g w=w):=by
 unfold patL kptL;rw [wordsL_eq]
theorem spec_l06Patterns (sh:Bool) (g:List (List Int)) (K:Nat) (hl:g.length<=1048576) (hB:gokB g=true) (hK1:1<=K) (hK4:K<=4):
 AC Tryz.prog 295 [.d sh (.sl (.sl .int)) g,I (K:Nat)] [] [.ow 0] [.sl 29 (.sl .int) (patL g K (g.getD 0 []).length)]:=by
 have hG:=(gokB_iff g).1 hB
 have hg0:0<g.length:=by have:=hG.l1;omega
 have hp0:=(gok1_p (hG.o1 0 hg0)).1.1
 have hgp:∀i,i<g.length->PermP (g.getD i [])/\(g.getD i []).length=(g.getD 0 []).length:=fun i hi=>⟨(gok1_p (hG.o1 i hi)).1,(gok1_p (hG.o1 i hi)).2.1⟩
 have hpw:K ^ (g.getD 0 []).length<=1048576:=pow_le hK4 hp0.2 (Nat.le_refl 10)
 have hpp:0<K ^ (g.getD 0 []).length:=Nat.pow_pos (by omega)
 have hwl:=wrdN_len K (g.getD 0 []).length
 have hwg:=wrdN_get K (by omega) (g.getD 0 []).length
 have hw0:=wrdN_zero K (g.getD 0 []).length
 have hnx:=nxt_wrd K (by omega) (g.getD 0 []).length
 have hky:=kpt_yes (fun w=>decide (canL g w=w)) K (g.getD 0 []).length
 have hkn:=kpt_no (fun w=>decide (canL g w=w)) K (g.getD 0 []).length
 have hkl:=kpt_len (fun w=>decide (canL g w=w)) K (g.getD 0 []).length
 have hcanl:∀ys:List Int,(canL g ys).length=ys.length:=fun ys=>by
  rcases bst_mem (fun p=>actL p ys) ys g g.length with h|⟨i,_,h⟩
  .rw [canL,h]
  .rw [canL,h,actL_len]
 refine AC_of tauOk 29 0 [4] Tryz.func295 rfl (by kernel_rfl) rfl rfl rfl rfl rfl ?_
 refine ⟨rfl,by decide,true,0,rfl,hg0,_,_,rfl,rfl,Nat.le_refl _,by omega,?_⟩
 refine ⟨Nat,fun i=>⟨[(0,.d sh (.sl (.sl .int)) g),(1,I (K:Nat)),(5,.ow 0),(6,.ow 1)],[.sl 29 (.sl .int) (kptL (fun w=>decide (canL g w=w)) K (g.getD 0 []).length i),.sl 3 .int (wrdN K (g.getD 0 []).length i)]⟩,fun i=>i<K ^ (g.getD 0 []).length,fun i=>K ^ (g.getD 0 []).length-i,0,hpp,
  ⟨⟨rfl,rfl⟩,⟨rfl,rfl,rfl,rfl,trivial⟩,rowE rfl,rowE hw0.symm,trivial⟩,fun i hi=>?_⟩
 dsimp only at hi
 have hli:=hwl i
 have hgi:=hwg i
 have hcol:ColP (wrdN K (g.getD 0 []).length i):=⟨fun j hj=>by have:=hgi j (by omega);omega,by omega,by omega⟩
 have hgv:∀a,a<g.length->PermP (g.getD a [])/\(g.getD a []).length=(wrdN K (g.getD 0 []).length i).length:=fun a ha=>by rw [hli];exact hgp a ha
 have hcl:=hcanl (wrdN K (g.getD 0 []).length i)
 have hnxi:=hnx i hi
 have hkli:=hkl i
 have hfl:=nxtF_len (K:Int) (g.getD 0 []).length (wrdN K (g.getD 0 []).length i)
 have hNx:=spec_l06Next (wrdN K (g.getD 0 []).length i) K (by omega) (by omega) (by omega) (fun j hj=>by have:=hgi j (by omega);omega)
 rw [hli] at hNx
 have hkey:∀(h:decide (i+1<K ^ (g.getD 0 []).length)=true),i+1<K ^ (g.getD 0 []).length:=fun h=>of_decide_eq_true h
 rw [hnxi.1] at hNx
 refine ⟨[],true,_,_,spec_l06Canon sh false g (wrdN K (g.getD 0 []).length i) hgv hl hcol,nd0,rfl,rfl,trivial,?_⟩
 refine ⟨[],false,_,_,spec_l03Same true false (canL g (wrdN K (g.getD 0 []).length i)) (wrdN K (g.getD 0 []).length i) (by omega) (by omega),nd0,rfl,rfl,trivial,fun h3=>?_,fun h3=>?_⟩
 .have hy:=hky i (by rw [decide_eq_true_eq];exact of_decide_eq_true h3)
  refine ⟨rfl,by decide,true,rfl,Nat.zero_le _,rfl,by simp only [List.length_nil];omega,rfl,?_⟩
  refine ⟨rfl,rfl,by decide,false,rfl,Nat.zero_le _,rfl,by simp only [List.length_cons,List.length_nil];omega,rfl,?_⟩
  refine ⟨[1],false,_,_,hNx,by decide,rfl,rfl,⟨⟨hfl,rfl,rfl⟩,trivial⟩,fun h4=>?_,fun h4=>?_⟩
  .have h5:=hkey h4
   exact ⟨i+1,h5,by dsimp only;omega,⟨rfl,rfl⟩,⟨rfl,rfl,rfl,rfl,trivial⟩,rowE hy.symm,rowE (hnxi.2 h5),trivial⟩
  .have h5:i+1=K ^ (g.getD 0 []).length:=by have:=of_decide_eq_false h4;omega
   exact ⟨some 0,⟨⟨rfl,rfl⟩,trivial⟩,⟨rfl,rowsE (by rw [patL,<-h5];exact hy.symm)⟩,rfl⟩
 .have hn:=hkn i (by rw [decide_eq_true_eq];exact of_decide_eq_false h3)
  refine ⟨[1],false,_,_,hNx,by decide,rfl,rfl,⟨⟨hfl,rfl,rfl⟩,trivial⟩,fun h4=>?_,fun h4=>?_⟩
  .have h5:=hkey h4
   exact ⟨i+1,h5,by dsimp only;omega,⟨rfl,rfl⟩,⟨rfl,rfl,rfl,rfl,trivial⟩,rowE hn.symm,rowE (hnxi.2 h5),trivial⟩
  .have h5:i+1=K ^ (g.getD 0 []).length:=by have:=of_decide_eq_false h4;omega
   exact ⟨some 0,⟨⟨rfl,rfl⟩,trivial⟩,⟨rfl,rowsE (by rw [patL,<-h5];exact hn.symm)⟩,rfl⟩
def epB (g:List (List Int)) (k:Int):Bool:=gokB g && smallB (g.getD 0 []).length k
theorem spec_PatternsOf_both (sh:Bool) (g:List (List Int)) (k:Int) (hl:g.length<=1048576) (hx:∀i,i<g.length->(g.getD i []).length<=1048576) (r:List AV) (rr:List Row)
 (hno:epB g k=false->r=[.nil,.d true .bool false]/\rr=[]) (hyes:epB g k=true->r=[.ow 0,.d true .bool true]/\rr=[.sl 29 (.sl .int) (patL g k.toNat (g.getD 0 []).length)]):
 AC Tryz.prog 227 [.d sh (.sl (.sl .int)) g,I k] [] r rr:=by
 refine AC_of tauOk 26 0 [4,5] Tryz.func227 rfl (by kernel_rfl) rfl rfl rfl rfl rfl ?_
 refine ⟨[],false,_,_,spec_GroupOk sh g hl hx,nd0,rfl,rfl,trivial,fun h1=>?_,fun h1=>?_⟩
 .have hG:=(gokB_iff g).1 h1
  have hg0:0<g.length:=by have:=hG.l1;omega
  have hp0:=(gok1_p (hG.o1 0 hg0)).1.1
  refine ⟨[],false,_,_,spec_l01In _ _ _,nd0,rfl,rfl,trivial,fun h2=>?_,fun h2=>?_⟩
  .simp only [Bool.and_eq_true,decide_eq_true_eq] at h2
   obtain ⟨K,rfl⟩:∃K:Nat,k=(K:Int):=⟨k.toNat,by omega⟩
   refine ⟨0,rfl,hg0,[],false,_,_,spec_l05Power K (g.getD 0 []).length (by omega) hp0.2,nd0,rfl,rfl,trivial,fun h3=>?_,fun h3=>?_⟩
   .obtain ⟨rfl,rfl⟩:=hno (by rw [epB,h1,smallB,Int.toNat_natCast,decide_eq_false (show ¬K ^ (g.getD 0 []).length<=1024 by omega)];simp)
    exact ⟨none,⟨rfl,rfl,trivial⟩,rfl,rfl⟩
   .obtain ⟨rfl,rfl⟩:=hyes (by rw [epB,h1,smallB,Int.toNat_natCast,decide_eq_true (show K ^ (g.getD 0 []).length<=1024 by omega),decide_eq_true (by omega),decide_eq_true (by omega)];rfl)
    refine ⟨[],false,_,_,spec_l06Patterns sh g K hl h1 (by omega) (by omega),nd0,rfl,rfl,trivial,?_⟩
    exact ⟨some 0,⟨⟨rfl,rfl⟩,rfl,trivial⟩,⟨rfl,rfl⟩,rfl⟩
  .obtain ⟨rfl,rfl⟩:=hno (by rw [epB,smallB,h2];simp)
   exact ⟨none,⟨rfl,rfl,trivial⟩,rfl,rfl⟩
 .obtain ⟨rfl,rfl⟩:=hno (by rw [epB,h1];rfl)
  exact ⟨none,⟨rfl,rfl,trivial⟩,rfl,rfl⟩
def exqS (g l:List (List Int)) (i:Nat):List (List Int):=(l.take i).filter fun w=>decide (cexL g w=w)
theorem exqS_y {g l:List (List Int)} {i:Nat} (hi:i<l.length) (h:cexL g (l.getD i [])=l.getD i []):exqS g l (i+1)=exqS g l i++[l.getD i []]:=by
 rw [exqS,L_succ _ i [] hi,List.filter_append,List.filter_cons_of_pos (by rw [decide_eq_true_eq];exact h)];rfl
theorem exqS_n {g l:List (List Int)} {i:Nat} (hi:i<l.length) (h:¬cexL g (l.getD i [])=l.getD i []):exqS g l (i+1)=exqS g l i:=by
 rw [exqS,L_succ _ i [] hi,List.filter_append,List.filter_cons_of_neg (by rw [decide_eq_true_eq];exact h)];simp [exqS]
theorem exqS_le (g l:List (List Int)) (i:Nat):(exqS g l i).length<=i:=Nat.le_trans (List.length_filter_le _ _) (by rw [List.length_take];omega)
theorem spec_ExchangePatterns_both (sh:Bool) (g:List (List Int)) (k:Int) (hl:g.length<=1048576) (hx:∀i,i<g.length->(g.getD i []).length<=1048576) (r:List AV) (rr:List Row)
 (hno:epB g k=false->r=[.nil,.d true .bool false]/\rr=[]) (hyes:epB g k=true->r=[.ow 0,.d true .bool true]/\rr=[.sl 29 (.sl .int) (expL g k.toNat (g.getD 0 []).length)]):
 AC Tryz.prog 228 [.d sh (.sl (.sl .int)) g,I k] [] r rr:=by
 cases hE:epB g k
 .obtain ⟨rfl,rfl⟩:=hno hE
  refine AC_of tauOk 45 0 [4,5] Tryz.func228 rfl (by kernel_rfl) rfl rfl rfl rfl rfl ?_
  refine ⟨[],true,_,_,spec_PatternsOf_both sh g k hl hx _ _ (fun _=>⟨rfl,rfl⟩) (fun h=>by rw [hE] at h;cases h),nd0,rfl,rfl,trivial,nofun,fun _=>?_⟩
  exact ⟨none,⟨rfl,rfl,trivial⟩,rfl,rfl⟩
 .obtain ⟨rfl,rfl⟩:=hyes hE
  have hE2:=hE
  unfold epB smallB at hE2
  simp only [Bool.and_eq_true,decide_eq_true_eq] at hE2
  obtain ⟨hB,⟨hk1,hk4⟩,hpw⟩:=hE2
  obtain ⟨K,rfl⟩:∃K:Nat,k=(K:Int):=⟨k.toNat,by omega⟩
  simp only [Int.toNat_natCast] at hpw ⊢
  have hG:=(gokB_iff g).1 hB
  have hg0:0<g.length:=by have:=hG.l1;omega
  have hp0:=(gok1_p (hG.o1 0 hg0)).1.1
  have hgp:∀i,i<g.length->PermP (g.getD i [])/\(g.getD i []).length=(g.getD 0 []).length:=fun i hi=>⟨(gok1_p (hG.o1 i hi)).1,(gok1_p (hG.o1 i hi)).2.1⟩
  have hS:=sym_ok K (by omega) (by omega)
  have hS2:=hS.l2
  have hpl:∀i,i<(patL g K (g.getD 0 []).length).length->(patL g K (g.getD 0 []).length).getD i []∈wordsL K (g.getD 0 []).length:=fun i hi=>by
   have hm:(patL g K (g.getD 0 []).length).getD i []∈patL g K (g.getD 0 []).length:=by rw [getD_get _ _ _ hi];exact List.getElem_mem hi
   have hm2:(patL g K (g.getD 0 []).length).getD i []∈(wordsL K (g.getD 0 []).length).filter fun w=>decide (canL g w=w):=by rw [<-patL_eq];exact hm
   exact (List.mem_filter.1 hm2).1
  have hpll:(patL g K (g.getD 0 []).length).length<=1024:=Nat.le_trans (kpt_len _ _ _ _) hpw
  have hcan:∀w∈wordsL K (g.getD 0 []).length,cexL g w=w->canL g w=w:=fun w hw hc=>by
   obtain ⟨h1,h2⟩:=words_b hw
   exact cex_canon (k:=K) ⟨fun i hi=>by rw [h1];exact hgp i hi,⟨fun i hi=>by have:=h2 i hi;omega,by omega,by omega⟩,by omega,by omega,fun i hi=>(h2 i hi).2⟩ hc
  have hend:exqS g (patL g K (g.getD 0 []).length) (patL g K (g.getD 0 []).length).length=expL g K (g.getD 0 []).length:=by
   rw [exqS,List.take_length,patL_eq,List.filter_filter,expL]
   refine List.filter_congr fun w hw=>?_
   by_cases h:cexL g w=w
   .rw [decide_eq_true h,decide_eq_true (hcan w hw h)];rfl
   .rw [decide_eq_false h];rfl
  have hPat:=spec_PatternsOf_both sh g K hl hx [.ow 0,.d true .bool true] [.sl 29 (.sl .int) (patL g K (g.getD 0 []).length)] (fun h=>by rw [hE] at h;cases h) (fun _=>⟨rfl,by rw [Int.toNat_natCast]⟩)
  generalize patL g K (g.getD 0 []).length=l at*
  refine AC_of tauOk 45 0 [4,5] Tryz.func228 rfl (by kernel_rfl) rfl rfl rfl rfl rfl ?_
  refine ⟨[],true,_,_,hPat,nd0,rfl,rfl,trivial,fun _=>?_,nofun⟩
  refine ⟨[],false,_,_,spec_SymmetricGroup K (by omega) (by omega),nd0,rfl,rfl,trivial,fun _=>?_,nofun⟩
  refine ⟨rfl,by decide,true,?_⟩
  refine ⟨Nat,fun i=>⟨[(0,.d sh (.sl (.sl .int)) g),(8,.d true (.sl (.sl .int)) (symL K)),(10,.ow 0),(27,.d true (.sl (.sl .int)) l),(28,I l.length),(29,I (i:Nat))],[.sl 29 (.sl .int) (exqS g l i)]⟩,fun i=>i<=l.length,fun i=>l.length-i,0,Nat.zero_le _,
   ⟨⟨rfl,rfl⟩,⟨rfl,rfl,rfl,rfl,rfl,rfl,trivial⟩,rowE (by simp [exqS]),trivial⟩,fun i hi=>?_⟩
  dsimp only at hi
  have hle:=exqS_le g l i
  refine ⟨fun h2=>?_,fun h2=>?_⟩
  .have hi2:i<l.length:=by omega
   obtain ⟨hw1,hw2⟩:=words_b (hpl i hi2)
   have hcol:ColP (l.getD i []):=⟨fun j hj=>by have:=hw2 j hj;omega,by omega,by omega⟩
   have hC:CxP g K (l.getD i []):=⟨fun a ha=>by rw [hw1];exact hgp a ha,hcol,by omega,by omega,fun j hj=>(hw2 j hj).2⟩
   have hsame:=cex_same hC
   have hcl:(cexS g (symL K) (l.getD i [])).length=(l.getD i []).length:=cexS_len _
   refine ⟨i,rfl,hi2,?_⟩
   refine ⟨[],false,_,_,spec_l13Canon sh true true g (symL K) (l.getD i []) hC.g hl hcol (by omega) fun j hj=>?_,nd0,rfl,rfl,trivial,?_⟩
   .obtain ⟨q1,q2⟩:=sym_get (k:=K) (by omega) (by omega) hj
    exact ⟨q1,by omega,fun q hq=>by rw [q2];exact (hw2 q hq).2⟩
   refine ⟨[],false,_,_,spec_l03Same true true (cexS g (symL K) (l.getD i [])) (l.getD i []) (by omega) (by omega),nd0,rfl,rfl,trivial,fun h3=>?_,fun h3=>?_⟩
   .have h3:=of_decide_eq_true h3
    rw [hsame] at h3
    refine ⟨rfl,by decide,false,rfl,Nat.zero_le _,rfl,by simp only [List.length_cons,List.length_nil];omega,rfl,?_⟩
    exact ⟨((i+1:Nat):Int),w64_eq (by omega) (by omega) (by omega),i+1,by dsimp only;omega,by dsimp only;omega,⟨rfl,rfl⟩,⟨rfl,rfl,rfl,rfl,rfl,rfl,trivial⟩,rowE (exqS_y hi2 h3).symm,trivial⟩
   .have h3:=of_decide_eq_false h3
    rw [hsame] at h3
    exact ⟨((i+1:Nat):Int),w64_eq (by omega) (by omega) (by omega),i+1,by dsimp only;omega,by dsimp only;omega,⟨rfl,rfl⟩,⟨rfl,rfl,rfl,rfl,rfl,rfl,trivial⟩,rowE (exqS_n hi2 h3).symm,trivial⟩
  .obtain rfl:i=l.length:=by omega
   exact ⟨some 0,⟨⟨rfl,rfl⟩,rfl,trivial⟩,⟨rfl,rowsE hend⟩,rfl⟩
theorem canL_len {g:List (List Int)} {xs:List Int} (hg:∀i,i<g.length->PermP (g.getD i [])/\(g.getD i []).length=xs.length):(canL g xs).length=xs.length:=by
 rcases bst_mem (fun p=>actL p xs) xs g g.length with h|⟨i,hi,h⟩
 .rw [canL,h]
 .rw [canL,h,actL_len]
def ptnS (g:List (List Int)) (k n i:Nat):List (List Int):=((wordsL k n).take i).filter fun w=>decide (canL g w=w)
theorem ptnS_y (g:List (List Int)) (k n i:Nat) (hi:i<(wordsL k n).length) (h:canL g ((wordsL k n).getD i [])=(wordsL k n).getD i []):ptnS g k n (i+1)=ptnS g k n i++[(wordsL k n).getD i []]:=by
 rw [ptnS,L_succ _ i [] hi,List.filter_append,List.filter_cons_of_pos (by rw [decide_eq_true_eq];exact h)];rfl
theorem ptnS_n (g:List (List Int)) (k n i:Nat) (hi:i<(wordsL k n).length) (h:¬canL g ((wordsL k n).getD i [])=(wordsL k n).getD i []):ptnS g k n (i+1)=ptnS g k n i:=by
 rw [ptnS,L_succ _ i [] hi,List.filter_append,List.filter_cons_of_neg (by rw [decide_eq_true_eq];exact h)];simp [ptnS]
theorem ptnS_le (g:List (List Int)) (k n i:Nat):(ptnS g k n i).length<=i:=Nat.le_trans (List.length_filter_le _ _) (by rw [List.length_take];omega)
theorem impl_PatternsOf_d (sh:Bool) (g:List (List Int)) (K:Nat) (hl:g.length<=1048576) (hx:∀i,i<g.length->(g.getD i []).length<=1048576) (hB:gokB g=true) (hS:smallB (g.getD 0 []).length (K:Nat)=true):
 AC Tryz.prog 82 [.d sh (.sl (.sl .int)) g,I (K:Nat)] [] [.ow 0,.d true .bool true] [.sl 29 (.sl .int) (patL g K (g.getD 0 []).length)]:=by
 have hG:=(gokB_iff g).1 hB
 have hg0:0<g.length:=by have:=hG.l1;omega
 have hp0:=(gok1_p (hG.o1 0 hg0)).1.1
 have hgp:∀i,i<g.length->PermP (g.getD i [])/\(g.getD i []).length=(g.getD 0 []).length:=fun i hi=>⟨(gok1_p (hG.o1 i hi)).1,(gok1_p (hG.o1 i hi)).2.1⟩
 have hK:K<=4:=by
  unfold smallB at hS
  simp only [Bool.and_eq_true,decide_eq_true_eq] at hS
  omega
 have hSm:=impl_isSmall (g.getD 0 []).length (K:Nat) hp0.2
 rw [hS] at hSm
 have hwl:=wordsL_len K (g.getD 0 []).length
 have hpw:K ^ (g.getD 0 []).length<=1048576:=pow_le hK hp0.2 (Nat.le_refl 10)
 have hwc:∀i,i<(wordsL K (g.getD 0 []).length).length->ColP ((wordsL K (g.getD 0 []).length).getD i [])/\((wordsL K (g.getD 0 []).length).getD i []).length=(g.getD 0 []).length:=fun i hi=>by
  refine ⟨wrd_col hp0.1 hp0.2 hK hi,?_⟩
  rw [hwl] at hi
  rw [wordsL_get _ _ _ hi,wrdN_len]
 have hye:=ptnS_y g K (g.getD 0 []).length
 have hno:=ptnS_n g K (g.getD 0 []).length
 have hle:=ptnS_le g K (g.getD 0 []).length
 have h00:ptnS g K (g.getD 0 []).length 0=[]:=by simp [ptnS]
 have hend:ptnS g K (g.getD 0 []).length (wordsL K (g.getD 0 []).length).length=patL g K (g.getD 0 []).length:=by rw [ptnS,List.take_length,patL_eq]
 refine AC_of tauOk 44 0 [4,5] Tryz.func82 rfl (by kernel_rfl) rfl rfl rfl rfl rfl ?_
 refine ⟨[],false,_,_,impl_GroupOk sh g hl hx,nd0,rfl,rfl,trivial,fun _=>?_,fun h=>by rw [hB] at h;cases h⟩
 refine ⟨0,rfl,hg0,[],false,_,_,hSm,nd0,rfl,rfl,trivial,fun _=>?_,nofun⟩
 refine ⟨rfl,by decide,true,?_⟩
 refine ⟨0,rfl,hg0,[],false,_,_,impl_wordsOf (g.getD 0 []).length K hp0.2 hK,nd0,rfl,rfl,trivial,?_⟩
 generalize wordsL K (g.getD 0 []).length=W at*
 refine ⟨Nat,fun i=>⟨[(0,.d sh (.sl (.sl .int)) g),(6,.ow 0),(27,.d true (.sl (.sl .int)) W),(28,I W.length),(29,I (i:Nat))],[.sl 29 (.sl .int) (ptnS g K (g.getD 0 []).length i)]⟩,fun i=>i<=W.length,fun i=>W.length-i,0,Nat.zero_le _,
  ⟨⟨rfl,rfl⟩,⟨rfl,rfl,rfl,rfl,rfl,trivial⟩,rowE h00.symm,trivial⟩,fun i hi=>?_⟩
 dsimp only at hi
 have hlei:=hle i
 refine ⟨fun h2=>?_,fun h2=>?_⟩
 .have hi2:i<W.length:=by omega
  obtain ⟨hc,hcl⟩:=hwc i hi2
  have hy:=hye i hi2
  have hn:=hno i hi2
  have hl10:=hc.2
  refine ⟨i,rfl,hi2,?_⟩
  have hgv:∀a,a<g.length->PermP (g.getD a [])/\(g.getD a []).length=(W.getD i []).length:=fun a ha=>by rw [hcl];exact hgp a ha
  have hce:=canL_len hgv
  refine ⟨[],true,_,_,impl_canon sh true g (W.getD i []) hgv hl hc,nd0,rfl,rfl,trivial,?_⟩
  refine ⟨[],false,_,_,slices_Equal_int true true (canL g (W.getD i [])) (W.getD i []) (by omega) (by omega),nd0,rfl,rfl,trivial,fun h3=>?_,fun h3=>?_⟩
  .have h3:=of_decide_eq_true h3
   refine ⟨rfl,by decide,false,?_⟩
   refine ⟨rfl,Nat.zero_le _,rfl,?_,rfl,?_⟩
   .simp only [List.length_cons,List.length_nil];omega
   .exact ⟨((i+1:Nat):Int),w64_eq (by omega) (by omega) (by omega),i+1,by dsimp only;omega,by dsimp only;omega,⟨rfl,rfl⟩,⟨rfl,rfl,rfl,rfl,rfl,trivial⟩,rowE (hy h3).symm,trivial⟩
  .have h3:=of_decide_eq_false h3
   exact ⟨((i+1:Nat):Int),w64_eq (by omega) (by omega) (by omega),i+1,by dsimp only;omega,by dsimp only;omega,⟨rfl,rfl⟩,⟨rfl,rfl,rfl,rfl,rfl,trivial⟩,rowE (hn h3).symm,trivial⟩
 .obtain rfl:i=W.length:=by omega
  exact ⟨some 0,⟨⟨rfl,rfl⟩,rfl,trivial⟩,⟨rfl,rowsE hend⟩,rfl⟩
theorem impl_PatternsOf_no (sh:Bool) (g:List (List Int)) (k:Int) (hl:g.length<=1048576) (hx:∀i,i<g.length->(g.getD i []).length<=1048576) (hE:epB g k=false):
 AC Tryz.prog 82 [.d sh (.sl (.sl .int)) g,I k] [] [.nil,.d true .bool false] []:=by
 refine AC_of tauOk 44 0 [4,5] Tryz.func82 rfl (by kernel_rfl) rfl rfl rfl rfl rfl ?_
 refine ⟨[],false,_,_,impl_GroupOk sh g hl hx,nd0,rfl,rfl,trivial,fun hB=>?_,fun hB=>?_⟩
 .have hG:=(gokB_iff g).1 hB
  have hg0:0<g.length:=by have:=hG.l1;omega
  have hp0:=(gok1_p (hG.o1 0 hg0)).1.1
  have hS:=impl_isSmall (g.getD 0 []).length k hp0.2
  rw [epB,hB,Bool.true_and] at hE
  rw [hE] at hS
  refine ⟨0,rfl,hg0,[],false,_,_,hS,nd0,rfl,rfl,trivial,nofun,fun _=>?_⟩
  exact ⟨none,⟨rfl,rfl,trivial⟩,rfl,rfl⟩
 .exact ⟨none,⟨rfl,rfl,trivial⟩,rfl,rfl⟩
end Go.Proofs.YtacjiemkbhhhoaaGreatDoor
