/-
  Part 7 of the texts that the claim rests on: Wxep, Wpat, Wnum, Ox, Wnck, Wlyn, PlO, Wrnm, Wwoa, PlS, Wlin, Wlen, Wgpw, Wgrn.
  No condition beyond the given program.
-/
import Derived.Test.YtacjiemkbhhhoaaGreatDoorIf
set_option linter.unusedVariables false
set_option linter.unusedSimpArgs false
set_option linter.unusedVariables false
namespace Go.Proofs.YtacjiemkbhhhoaaGreatDoor
open Go Go.Proofs.YtacjiemkbhhhoaaGreatDoor.Ow
theorem nxtF_len (k:Int):∀(n:Nat) (l:List Int),(nxtF k l n).1.length=l.length
 |0,l=>rfl
 |n+1,l=>by
  rw [nxtF]
  split
  .simp
  .rw [nxtF_len k n];simp
theorem spec_l06Next (xs:List Int) (k:Int) (h1:1<=k) (h4:k<=4) (hl:xs.length<=10) (hx:∀i,i<xs.length->0<=xs.getD i 0/\xs.getD i 0<=4):
 AC Tryz.prog 299 [.ow 0,I k] [.sl 3 .int xs] [.d true .bool (nxtF k xs xs.length).2] [.sl 3 .int (nxtF k xs xs.length).1]:=by
 refine AC_of tauOk 29 1 [4] Tryz.func299 rfl (by kernel_rfl) rfl rfl rfl rfl rfl ?_
 refine ⟨((xs.length:Nat):Int)-1,w64_eq rfl (by omega) (by omega),?_⟩
 refine ⟨Nat × List Int,fun i=>⟨[(0,.ow 0),(1,I k),(5,I ((i.1:Nat)-1:Int))],[.sl 3 .int i.2]⟩,fun i=>i.1<=xs.length/\i.2.length=xs.length/\(∀j,j<xs.length->0<=i.2.getD j 0/\i.2.getD j 0<=4)/\nxtF k i.2 i.1=nxtF k xs xs.length,fun i=>i.1,(xs.length,xs),⟨Nat.le_refl _,rfl,hx,rfl⟩,
  ⟨⟨rfl,rfl⟩,⟨rfl,rfl,rfl,trivial⟩,rfl,trivial⟩,?_⟩
 rintro ⟨i,ys⟩ ⟨hi,hyl,hyb,hye⟩
 dsimp only at hi hyl hyb hye
 refine ⟨fun h2=>?_,fun h2=>?_⟩
 .dsimp only at h2
  obtain ⟨j,rfl⟩:∃j,i=j+1:=⟨i-1,by omega⟩
  have hb:=hyb j (by omega)
  have ej:(((j+1:Nat):Int)-1)=(j:Int):=by omega
  refine ⟨j,ej,by dsimp only;omega,k-1,w64_eq rfl (by omega) (by omega),fun h3=>?_,fun h3=>?_⟩
  .have e:nxtF k ys (j+1)=(ys.set j (ys.getD j 0+1),true):=by rw [nxtF,if_pos h3]
   refine ⟨j,ej,by dsimp only;omega,ys.getD j 0+1,w64_eq rfl (by omega) (by omega),j,ej,by dsimp only;omega,?_⟩
   exact ⟨none,⟨retB (by rw [<-hye,e]),trivial⟩,rowsE (by rw [<-hye,e]),rfl⟩
  .have e:nxtF k ys (j+1)=nxtF k (ys.set j 0) j:=by rw [nxtF,if_neg h3]
   refine ⟨j,ej,by dsimp only;omega,?_⟩
   refine ⟨((j:Nat):Int)-1,w64_eq (by dsimp only;omega) (by omega) (by omega),(j,ys.set j 0),⟨by dsimp only;omega,by dsimp only;rw [List.length_set];exact hyl,fun q hq=>?_,by rw [<-e];exact hye⟩,by dsimp only;omega,⟨rfl,rfl⟩,⟨rfl,rfl,rfl,trivial⟩,rfl,trivial⟩
   dsimp only
   by_cases eq:j=q
   .subst eq;rw [L_set_self _ _ _ _ (by omega)];decide
   .rw [L_set_ne _ _ _ _ _ eq];exact hyb q hq
 .dsimp only at h2
  obtain rfl:i=0:=by omega
  exact ⟨none,⟨retB (by rw [<-hye];rfl),trivial⟩,rowsE (by rw [<-hye];rfl),rfl⟩
def patL (g:List (List Int)) (k n:Nat):List (List Int):=kptL (fun w=>decide (canL g w=w)) k n (k ^ n)
theorem patL_eq (g:List (List Int)) (k n:Nat):patL g k n=(wordsL k n).filter fun w=>decide (canL g w=w):=by
 unfold patL kptL;rw [wordsL_eq]
theorem spec_l06Patterns (sh:Bool) (g:List (List Int)) (K:Nat) (hl:g.length<=1048576) (hB:gokB g=true) (hK1:1<=K) (hK4:K<=4):
 AC Tryz.prog 295 [.d sh (.sl (.sl .int)) g,I (K:Nat)] [] [.ow 0] [.sl 29 (.sl .int) (patL g K (g.getD 0 []).length)]:=by
 have hG:=(gokB_iff g).1 hB
 have hg0:0<g.length:=by have:=hG.l1;omega
 have hp0:=(gok1_p (hG.o1 0 hg0)).1.1
 have hgp:∀i,i<g.length->PermP (g.getD i [])/\(g.getD i []).length=(g.getD 0 []).length:=fun i hi=>⟨(gok1_p (hG.o1 i hi)).1,(gok1_p (hG.o1 i hi)).2.1⟩
 have hpw:K ^ (g.getD 0 []).length<=1048576:=pow_le hK4 hp0.2 (Nat.le_refl 10)
 have hpp:0<K ^ (g.getD 0 []).length:=Nat.pow_pos (by omega)
 have hwl:=wrdN_len K (g.getD 0 []).length
 have hwg:=wrdN_get K (by omega) (g.getD 0 []).length
 have hw0:=wrdN_zero K (g.getD 0 []).length
 have hnx:=nxt_wrd K (by omega) (g.getD 0 []).length
 have hky:=kpt_yes (fun w=>decide (canL g w=w)) K (g.getD 0 []).length
 have hkn:=kpt_no (fun w=>decide (canL g w=w)) K (g.getD 0 []).length
 have hkl:=kpt_len (fun w=>decide (canL g w=w)) K (g.getD 0 []).length
 have hcanl:∀ys:List Int,(canL g ys).length=ys.length:=fun ys=>by
  rcases bst_mem (fun p=>actL p ys) ys g g.length with h|⟨i,_,h⟩
  .rw [canL,h]
  .rw [canL,h,actL_len]
 refine AC_of tauOk 29 0 [4] Tryz.func295 rfl (by kernel_rfl) rfl rfl rfl rfl rfl ?_
 refine ⟨rfl,by decide,true,0,rfl,hg0,_,_,rfl,rfl,Nat.le_refl _,by omega,?_⟩
 refine ⟨Nat,fun i=>⟨[(0,.d sh (.sl (.sl .int)) g),(1,I (K:Nat)),(5,.ow 0),(6,.ow 1)],[.sl 29 (.sl .int) (kptL (fun w=>decide (canL g w=w)) K (g.getD 0 []).length i),.sl 3 .int (wrdN K (g.getD 0 []).length i)]⟩,fun i=>i<K ^ (g.getD 0 []).length,fun i=>K ^ (g.getD 0 []).length-i,0,hpp,
  ⟨⟨rfl,rfl⟩,⟨rfl,rfl,rfl,rfl,trivial⟩,rowE rfl,rowE hw0.symm,trivial⟩,fun i hi=>?_⟩
 dsimp only at hi
 have hli:=hwl i
 have hgi:=hwg i
 have hcol:ColP (wrdN K (g.getD 0 []).length i):=⟨fun j hj=>by have:=hgi j (by omega);omega,by omega,by omega⟩
 have hgv:∀a,a<g.length->PermP (g.getD a [])/\(g.getD a []).length=(wrdN K (g.getD 0 []).length i).length:=fun a ha=>by rw [hli];exact hgp a ha
 have hcl:=hcanl (wrdN K (g.getD 0 []).length i)
 have hnxi:=hnx i hi
 have hkli:=hkl i
 have hfl:=nxtF_len (K:Int) (g.getD 0 []).length (wrdN K (g.getD 0 []).length i)
 have hNx:=spec_l06Next (wrdN K (g.getD 0 []).length i) K (by omega) (by omega) (by omega) (fun j hj=>by have:=hgi j (by omega);omega)
 rw [hli] at hNx
 have hkey:∀(h:decide (i+1<K ^ (g.getD 0 []).length)=true),i+1<K ^ (g.getD 0 []).length:=fun h=>of_decide_eq_true h
 rw [hnxi.1] at hNx
 refine ⟨[],true,_,_,spec_l06Canon sh false g (wrdN K (g.getD 0 []).length i) hgv hl hcol,List.nodup_nil,rfl,rfl,trivial,?_⟩
 refine ⟨[],false,_,_,spec_l03Same true false (canL g (wrdN K (g.getD 0 []).length i)) (wrdN K (g.getD 0 []).length i) (by omega) (by omega),List.nodup_nil,rfl,rfl,trivial,fun h3=>?_,fun h3=>?_⟩
 .have hy:=hky i (by rw [decide_eq_true_eq];exact of_decide_eq_true h3)
  refine ⟨rfl,by decide,true,rfl,Nat.zero_le _,rfl,by simp only [List.length_nil];omega,rfl,?_⟩
  refine ⟨rfl,rfl,by decide,false,rfl,Nat.zero_le _,rfl,by simp only [List.length_cons,List.length_nil];omega,rfl,?_⟩
  refine ⟨[1],false,_,_,hNx,by decide,rfl,rfl,⟨⟨hfl,rfl,rfl⟩,trivial⟩,fun h4=>?_,fun h4=>?_⟩
  .have h5:=hkey h4
   exact ⟨i+1,h5,by dsimp only;omega,⟨rfl,rfl⟩,⟨rfl,rfl,rfl,rfl,trivial⟩,rowE hy.symm,rowE (hnxi.2 h5),trivial⟩
  .have h5:i+1=K ^ (g.getD 0 []).length:=by have:=of_decide_eq_false h4;omega
   exact ⟨some 0,⟨⟨rfl,rfl⟩,trivial⟩,⟨rfl,rowsE (by rw [patL,<-h5];exact hy.symm)⟩,rfl⟩
 .have hn:=hkn i (by rw [decide_eq_true_eq];exact of_decide_eq_false h3)
  refine ⟨[1],false,_,_,hNx,by decide,rfl,rfl,⟨⟨hfl,rfl,rfl⟩,trivial⟩,fun h4=>?_,fun h4=>?_⟩
  .have h5:=hkey h4
   exact ⟨i+1,h5,by dsimp only;omega,⟨rfl,rfl⟩,⟨rfl,rfl,rfl,rfl,trivial⟩,rowE hn.symm,rowE (hnxi.2 h5),trivial⟩
  .have h5:i+1=K ^ (g.getD 0 []).length:=by have:=of_decide_eq_false h4;omega
   exact ⟨some 0,⟨⟨rfl,rfl⟩,trivial⟩,⟨rfl,rowsE (by rw [patL,<-h5];exact hn.symm)⟩,rfl⟩
def epB (g:List (List Int)) (k:Int):Bool:=gokB g && smallB (g.getD 0 []).length k
theorem spec_PatternsOf_both (sh:Bool) (g:List (List Int)) (k:Int) (hl:g.length<=1048576) (hx:∀i,i<g.length->(g.getD i []).length<=1048576) (r:List AV) (rr:List Row)
 (hno:epB g k=false->r=[.nil,.d true .bool false]/\rr=[]) (hyes:epB g k=true->r=[.ow 0,.d true .bool true]/\rr=[.sl 29 (.sl .int) (patL g k.toNat (g.getD 0 []).length)]):
 AC Tryz.prog 227 [.d sh (.sl (.sl .int)) g,I k] [] r rr:=by
 refine AC_of tauOk 26 0 [4,5] Tryz.func227 rfl (by kernel_rfl) rfl rfl rfl rfl rfl ?_
 refine ⟨[],false,_,_,spec_GroupOk sh g hl hx,List.nodup_nil,rfl,rfl,trivial,fun h1=>?_,fun h1=>?_⟩
 .have hG:=(gokB_iff g).1 h1
  have hg0:0<g.length:=by have:=hG.l1;omega
  have hp0:=(gok1_p (hG.o1 0 hg0)).1.1
  refine ⟨[],false,_,_,spec_l01In _ _ _,List.nodup_nil,rfl,rfl,trivial,fun h2=>?_,fun h2=>?_⟩
  .simp only [Bool.and_eq_true,decide_eq_true_eq] at h2
   obtain ⟨K,rfl⟩:∃K:Nat,k=(K:Int):=⟨k.toNat,by omega⟩
   refine ⟨0,rfl,hg0,[],false,_,_,spec_l05Power K (g.getD 0 []).length (by omega) hp0.2,List.nodup_nil,rfl,rfl,trivial,fun h3=>?_,fun h3=>?_⟩
   .obtain ⟨rfl,rfl⟩:=hno (by rw [epB,h1,smallB,Int.toNat_natCast,decide_eq_false (show ¬K ^ (g.getD 0 []).length<=1024 by omega)];simp)
    exact ⟨none,⟨rfl,rfl,trivial⟩,rfl,rfl⟩
   .obtain ⟨rfl,rfl⟩:=hyes (by rw [epB,h1,smallB,Int.toNat_natCast,decide_eq_true (show K ^ (g.getD 0 []).length<=1024 by omega),decide_eq_true (by omega),decide_eq_true (by omega)];rfl)
    refine ⟨[],false,_,_,spec_l06Patterns sh g K hl h1 (by omega) (by omega),List.nodup_nil,rfl,rfl,trivial,?_⟩
    exact ⟨some 0,⟨⟨rfl,rfl⟩,rfl,trivial⟩,⟨rfl,rfl⟩,rfl⟩
  .obtain ⟨rfl,rfl⟩:=hno (by rw [epB,smallB,h2];simp)
   exact ⟨none,⟨rfl,rfl,trivial⟩,rfl,rfl⟩
 .obtain ⟨rfl,rfl⟩:=hno (by rw [epB,h1];rfl)
  exact ⟨none,⟨rfl,rfl,trivial⟩,rfl,rfl⟩
def exqS (g l:List (List Int)) (i:Nat):List (List Int):=(l.take i).filter fun w=>decide (cexL g w=w)
theorem exqS_y {g l:List (List Int)} {i:Nat} (hi:i<l.length) (h:cexL g (l.getD i [])=l.getD i []):exqS g l (i+1)=exqS g l i++[l.getD i []]:=by
 rw [exqS,L_succ _ i [] hi,List.filter_append,List.filter_cons_of_pos (by rw [decide_eq_true_eq];exact h)];rfl
theorem exqS_n {g l:List (List Int)} {i:Nat} (hi:i<l.length) (h:¬cexL g (l.getD i [])=l.getD i []):exqS g l (i+1)=exqS g l i:=by
 rw [exqS,L_succ _ i [] hi,List.filter_append,List.filter_cons_of_neg (by rw [decide_eq_true_eq];exact h)];simp [exqS]
theorem exqS_le (g l:List (List Int)) (i:Nat):(exqS g l i).length<=i:=Nat.le_trans (List.length_filter_le _ _) (by rw [List.length_take];omega)
theorem spec_ExchangePatterns_both (sh:Bool) (g:List (List Int)) (k:Int) (hl:g.length<=1048576) (hx:∀i,i<g.length->(g.getD i []).length<=1048576) (r:List AV) (rr:List Row)
 (hno:epB g k=false->r=[.nil,.d true .bool false]/\rr=[]) (hyes:epB g k=true->r=[.ow 0,.d true .bool true]/\rr=[.sl 29 (.sl .int) (expL g k.toNat (g.getD 0 []).length)]):
 AC Tryz.prog 228 [.d sh (.sl (.sl .int)) g,I k] [] r rr:=by
 cases hE:epB g k
 .obtain ⟨rfl,rfl⟩:=hno hE
  refine AC_of tauOk 45 0 [4,5] Tryz.func228 rfl (by kernel_rfl) rfl rfl rfl rfl rfl ?_
  refine ⟨[],true,_,_,spec_PatternsOf_both sh g k hl hx _ _ (fun _=>⟨rfl,rfl⟩) (fun h=>by rw [hE] at h;cases h),List.nodup_nil,rfl,rfl,trivial,nofun,fun _=>?_⟩
  exact ⟨none,⟨rfl,rfl,trivial⟩,rfl,rfl⟩
 .obtain ⟨rfl,rfl⟩:=hyes hE
  have hE2:=hE
  unfold epB smallB at hE2
  simp only [Bool.and_eq_true,decide_eq_true_eq] at hE2
  obtain ⟨hB,⟨hk1,hk4⟩,hpw⟩:=hE2
  obtain ⟨K,rfl⟩:∃K:Nat,k=(K:Int):=⟨k.toNat,by omega⟩
  simp only [Int.toNat_natCast] at hpw ⊢
  have hG:=(gokB_iff g).1 hB
  have hg0:0<g.length:=by have:=hG.l1;omega
  have hp0:=(gok1_p (hG.o1 0 hg0)).1.1
  have hgp:∀i,i<g.length->PermP (g.getD i [])/\(g.getD i []).length=(g.getD 0 []).length:=fun i hi=>⟨(gok1_p (hG.o1 i hi)).1,(gok1_p (hG.o1 i hi)).2.1⟩
  have hS:=sym_ok K (by omega) (by omega)
  have hS2:=hS.l2
  have hpl:∀i,i<(patL g K (g.getD 0 []).length).length->(patL g K (g.getD 0 []).length).getD i []∈wordsL K (g.getD 0 []).length:=fun i hi=>by
   have hm:(patL g K (g.getD 0 []).length).getD i []∈patL g K (g.getD 0 []).length:=by rw [getD_get _ _ _ hi];exact List.getElem_mem hi
   have hm2:(patL g K (g.getD 0 []).length).getD i []∈(wordsL K (g.getD 0 []).length).filter fun w=>decide (canL g w=w):=by rw [<-patL_eq];exact hm
   exact (List.mem_filter.1 hm2).1
  have hpll:(patL g K (g.getD 0 []).length).length<=1024:=Nat.le_trans (kpt_len _ _ _ _) hpw
  have hcan:∀w∈wordsL K (g.getD 0 []).length,cexL g w=w->canL g w=w:=fun w hw hc=>by
   obtain ⟨h1,h2⟩:=words_b hw
   exact cex_canon (k:=K) ⟨fun i hi=>by rw [h1];exact hgp i hi,⟨fun i hi=>by have:=h2 i hi;omega,by omega,by omega⟩,by omega,by omega,fun i hi=>(h2 i hi).2⟩ hc
  have hend:exqS g (patL g K (g.getD 0 []).length) (patL g K (g.getD 0 []).length).length=expL g K (g.getD 0 []).length:=by
   rw [exqS,List.take_length,patL_eq,List.filter_filter,expL]
   refine List.filter_congr fun w hw=>?_
   by_cases h:cexL g w=w
   .rw [decide_eq_true h,decide_eq_true (hcan w hw h)];rfl
   .rw [decide_eq_false h];rfl
  have hPat:=spec_PatternsOf_both sh g K hl hx [.ow 0,.d true .bool true] [.sl 29 (.sl .int) (patL g K (g.getD 0 []).length)] (fun h=>by rw [hE] at h;cases h) (fun _=>⟨rfl,by rw [Int.toNat_natCast]⟩)
  generalize patL g K (g.getD 0 []).length=l at*
  refine AC_of tauOk 45 0 [4,5] Tryz.func228 rfl (by kernel_rfl) rfl rfl rfl rfl rfl ?_
  refine ⟨[],true,_,_,hPat,List.nodup_nil,rfl,rfl,trivial,fun _=>?_,nofun⟩
  refine ⟨[],false,_,_,spec_SymmetricGroup K (by omega) (by omega),List.nodup_nil,rfl,rfl,trivial,fun _=>?_,nofun⟩
  refine ⟨rfl,by decide,true,?_⟩
  refine ⟨Nat,fun i=>⟨[(0,.d sh (.sl (.sl .int)) g),(8,.d true (.sl (.sl .int)) (symL K)),(10,.ow 0),(27,.d true (.sl (.sl .int)) l),(28,I l.length),(29,I (i:Nat))],[.sl 29 (.sl .int) (exqS g l i)]⟩,fun i=>i<=l.length,fun i=>l.length-i,0,Nat.zero_le _,
   ⟨⟨rfl,rfl⟩,⟨rfl,rfl,rfl,rfl,rfl,rfl,trivial⟩,rowE (by simp [exqS]),trivial⟩,fun i hi=>?_⟩
  dsimp only at hi
  have hle:=exqS_le g l i
  refine ⟨fun h2=>?_,fun h2=>?_⟩
  .have hi2:i<l.length:=by omega
   obtain ⟨hw1,hw2⟩:=words_b (hpl i hi2)
   have hcol:ColP (l.getD i []):=⟨fun j hj=>by have:=hw2 j hj;omega,by omega,by omega⟩
   have hC:CxP g K (l.getD i []):=⟨fun a ha=>by rw [hw1];exact hgp a ha,hcol,by omega,by omega,fun j hj=>(hw2 j hj).2⟩
   have hsame:=cex_same hC
   have hcl:(cexS g (symL K) (l.getD i [])).length=(l.getD i []).length:=cexS_len _
   refine ⟨i,rfl,hi2,?_⟩
   refine ⟨[],false,_,_,spec_l13Canon sh true true g (symL K) (l.getD i []) hC.g hl hcol (by omega) fun j hj=>?_,List.nodup_nil,rfl,rfl,trivial,?_⟩
   .obtain ⟨q1,q2⟩:=sym_get (k:=K) (by omega) (by omega) hj
    exact ⟨q1,by omega,fun q hq=>by rw [q2];exact (hw2 q hq).2⟩
   refine ⟨[],false,_,_,spec_l03Same true true (cexS g (symL K) (l.getD i [])) (l.getD i []) (by omega) (by omega),List.nodup_nil,rfl,rfl,trivial,fun h3=>?_,fun h3=>?_⟩
   .have h3:=of_decide_eq_true h3
    rw [hsame] at h3
    refine ⟨rfl,by decide,false,rfl,Nat.zero_le _,rfl,by simp only [List.length_cons,List.length_nil];omega,rfl,?_⟩
    exact ⟨((i+1:Nat):Int),w64_eq (by omega) (by omega) (by omega),i+1,by dsimp only;omega,by dsimp only;omega,⟨rfl,rfl⟩,⟨rfl,rfl,rfl,rfl,rfl,rfl,trivial⟩,rowE (exqS_y hi2 h3).symm,trivial⟩
   .have h3:=of_decide_eq_false h3
    rw [hsame] at h3
    exact ⟨((i+1:Nat):Int),w64_eq (by omega) (by omega) (by omega),i+1,by dsimp only;omega,by dsimp only;omega,⟨rfl,rfl⟩,⟨rfl,rfl,rfl,rfl,rfl,rfl,trivial⟩,rowE (exqS_n hi2 h3).symm,trivial⟩
  .obtain rfl:i=l.length:=by omega
   exact ⟨some 0,⟨⟨rfl,rfl⟩,rfl,trivial⟩,⟨rfl,rowsE hend⟩,rfl⟩
end Go.Proofs.YtacjiemkbhhhoaaGreatDoor
set_option linter.unusedVariables false
namespace Go.Proofs.YtacjiemkbhhhoaaGreatDoor
open Go Go.Proofs.YtacjiemkbhhhoaaGreatDoor.Ow
theorem canL_len {g:List (List Int)} {xs:List Int} (hg:∀i,i<g.length->PermP (g.getD i [])/\(g.getD i []).length=xs.length):(canL g xs).length=xs.length:=by
 rcases bst_mem (fun p=>actL p xs) xs g g.length with h|⟨i,hi,h⟩
 .rw [canL,h]
 .rw [canL,h,actL_len]
def ptnS (g:List (List Int)) (k n i:Nat):List (List Int):=((wordsL k n).take i).filter fun w=>decide (canL g w=w)
theorem ptnS_y (g:List (List Int)) (k n i:Nat) (hi:i<(wordsL k n).length) (h:canL g ((wordsL k n).getD i [])=(wordsL k n).getD i []):ptnS g k n (i+1)=ptnS g k n i++[(wordsL k n).getD i []]:=by
 rw [ptnS,L_succ _ i [] hi,List.filter_append,List.filter_cons_of_pos (by rw [decide_eq_true_eq];exact h)];rfl
theorem ptnS_n (g:List (List Int)) (k n i:Nat) (hi:i<(wordsL k n).length) (h:¬canL g ((wordsL k n).getD i [])=(wordsL k n).getD i []):ptnS g k n (i+1)=ptnS g k n i:=by
 rw [ptnS,L_succ _ i [] hi,List.filter_append,List.filter_cons_of_neg (by rw [decide_eq_true_eq];exact h)];simp [ptnS]
theorem ptnS_le (g:List (List Int)) (k n i:Nat):(ptnS g k n i).length<=i:=Nat.le_trans (List.length_filter_le _ _) (by rw [List.length_take];omega)
theorem impl_PatternsOf_d (sh:Bool) (g:List (List Int)) (K:Nat) (hl:g.length<=1048576) (hx:∀i,i<g.length->(g.getD i []).length<=1048576) (hB:gokB g=true) (hS:smallB (g.getD 0 []).length (K:Nat)=true):
 AC Tryz.prog 82 [.d sh (.sl (.sl .int)) g,I (K:Nat)] [] [.ow 0,.d true .bool true] [.sl 29 (.sl .int) (patL g K (g.getD 0 []).length)]:=by
 have hG:=(gokB_iff g).1 hB
 have hg0:0<g.length:=by have:=hG.l1;omega
 have hp0:=(gok1_p (hG.o1 0 hg0)).1.1
 have hgp:∀i,i<g.length->PermP (g.getD i [])/\(g.getD i []).length=(g.getD 0 []).length:=fun i hi=>⟨(gok1_p (hG.o1 i hi)).1,(gok1_p (hG.o1 i hi)).2.1⟩
 have hK:K<=4:=by
  unfold smallB at hS
  simp only [Bool.and_eq_true,decide_eq_true_eq] at hS
  omega
 have hSm:=impl_isSmall (g.getD 0 []).length (K:Nat) hp0.2
 rw [hS] at hSm
 have hwl:=wordsL_len K (g.getD 0 []).length
 have hpw:K ^ (g.getD 0 []).length<=1048576:=pow_le hK hp0.2 (Nat.le_refl 10)
 have hwc:∀i,i<(wordsL K (g.getD 0 []).length).length->ColP ((wordsL K (g.getD 0 []).length).getD i [])/\((wordsL K (g.getD 0 []).length).getD i []).length=(g.getD 0 []).length:=fun i hi=>by
  refine ⟨wrd_col hp0.1 hp0.2 hK hi,?_⟩
  rw [hwl] at hi
  rw [wordsL_get _ _ _ hi,wrdN_len]
 have hye:=ptnS_y g K (g.getD 0 []).length
 have hno:=ptnS_n g K (g.getD 0 []).length
 have hle:=ptnS_le g K (g.getD 0 []).length
 have h00:ptnS g K (g.getD 0 []).length 0=[]:=by simp [ptnS]
 have hend:ptnS g K (g.getD 0 []).length (wordsL K (g.getD 0 []).length).length=patL g K (g.getD 0 []).length:=by rw [ptnS,List.take_length,patL_eq]
 refine AC_of tauOk 44 0 [4,5] Tryz.func82 rfl (by kernel_rfl) rfl rfl rfl rfl rfl ?_
 refine ⟨[],false,_,_,impl_GroupOk sh g hl hx,List.nodup_nil,rfl,rfl,trivial,fun _=>?_,fun h=>by rw [hB] at h;cases h⟩
 refine ⟨0,rfl,hg0,[],false,_,_,hSm,List.nodup_nil,rfl,rfl,trivial,fun _=>?_,nofun⟩
 refine ⟨rfl,by decide,true,?_⟩
 refine ⟨0,rfl,hg0,[],false,_,_,impl_wordsOf (g.getD 0 []).length K hp0.2 hK,List.nodup_nil,rfl,rfl,trivial,?_⟩
 generalize wordsL K (g.getD 0 []).length=W at*
 refine ⟨Nat,fun i=>⟨[(0,.d sh (.sl (.sl .int)) g),(6,.ow 0),(27,.d true (.sl (.sl .int)) W),(28,I W.length),(29,I (i:Nat))],[.sl 29 (.sl .int) (ptnS g K (g.getD 0 []).length i)]⟩,fun i=>i<=W.length,fun i=>W.length-i,0,Nat.zero_le _,
  ⟨⟨rfl,rfl⟩,⟨rfl,rfl,rfl,rfl,rfl,trivial⟩,rowE h00.symm,trivial⟩,fun i hi=>?_⟩
 dsimp only at hi
 have hlei:=hle i
 refine ⟨fun h2=>?_,fun h2=>?_⟩
 .have hi2:i<W.length:=by omega
  obtain ⟨hc,hcl⟩:=hwc i hi2
  have hy:=hye i hi2
  have hn:=hno i hi2
  have hl10:=hc.2
  refine ⟨i,rfl,hi2,?_⟩
  have hgv:∀a,a<g.length->PermP (g.getD a [])/\(g.getD a []).length=(W.getD i []).length:=fun a ha=>by rw [hcl];exact hgp a ha
  have hce:=canL_len hgv
  refine ⟨[],true,_,_,impl_canon sh true g (W.getD i []) hgv hl hc,List.nodup_nil,rfl,rfl,trivial,?_⟩
  refine ⟨[],false,_,_,slices_Equal_int true true (canL g (W.getD i [])) (W.getD i []) (by omega) (by omega),List.nodup_nil,rfl,rfl,trivial,fun h3=>?_,fun h3=>?_⟩
  .have h3:=of_decide_eq_true h3
   refine ⟨rfl,by decide,false,?_⟩
   refine ⟨rfl,Nat.zero_le _,rfl,?_,rfl,?_⟩
   .simp only [List.length_cons,List.length_nil];omega
   .exact ⟨((i+1:Nat):Int),w64_eq (by omega) (by omega) (by omega),i+1,by dsimp only;omega,by dsimp only;omega,⟨rfl,rfl⟩,⟨rfl,rfl,rfl,rfl,rfl,trivial⟩,rowE (hy h3).symm,trivial⟩
  .have h3:=of_decide_eq_false h3
   exact ⟨((i+1:Nat):Int),w64_eq (by omega) (by omega) (by omega),i+1,by dsimp only;omega,by dsimp only;omega,⟨rfl,rfl⟩,⟨rfl,rfl,rfl,rfl,rfl,trivial⟩,rowE (hn h3).symm,trivial⟩
 .obtain rfl:i=W.length:=by omega
  exact ⟨some 0,⟨⟨rfl,rfl⟩,rfl,trivial⟩,⟨rfl,rowsE hend⟩,rfl⟩
theorem impl_PatternsOf_no (sh:Bool) (g:List (List Int)) (k:Int) (hl:g.length<=1048576) (hx:∀i,i<g.length->(g.getD i []).length<=1048576) (hE:epB g k=false):
 AC Tryz.prog 82 [.d sh (.sl (.sl .int)) g,I k] [] [.nil,.d true .bool false] []:=by
 refine AC_of tauOk 44 0 [4,5] Tryz.func82 rfl (by kernel_rfl) rfl rfl rfl rfl rfl ?_
 refine ⟨[],false,_,_,impl_GroupOk sh g hl hx,List.nodup_nil,rfl,rfl,trivial,fun hB=>?_,fun hB=>?_⟩
 .have hG:=(gokB_iff g).1 hB
  have hg0:0<g.length:=by have:=hG.l1;omega
  have hp0:=(gok1_p (hG.o1 0 hg0)).1.1
  have hS:=impl_isSmall (g.getD 0 []).length k hp0.2
  rw [epB,hB,Bool.true_and] at hE
  rw [hE] at hS
  refine ⟨0,rfl,hg0,[],false,_,_,hS,List.nodup_nil,rfl,rfl,trivial,nofun,fun _=>?_⟩
  exact ⟨none,⟨rfl,rfl,trivial⟩,rfl,rfl⟩
 .exact ⟨none,⟨rfl,rfl,trivial⟩,rfl,rfl⟩
end Go.Proofs.YtacjiemkbhhhoaaGreatDoor
set_option linter.unusedVariables false
namespace Go.Proofs.YtacjiemkbhhhoaaGreatDoor
open Go Go.Proofs.YtacjiemkbhhhoaaGreatDoor.Ow
theorem gcd_mod (x y:Nat):Nat.gcd y (x % y)=Nat.gcd x y:=by
 rw [Nat.gcd_comm y,<-Nat.gcd_rec,Nat.gcd_comm]
theorem impl_common (a b:Nat) (ha:a<=1048576) (hb:b<=1048576):AC Tryz.prog 274 [I (a:Nat),I (b:Nat)] [] [I (Nat.gcd a b:Nat)] []:=by
 refine AC_of tauOk 12 0 [4] Tryz.func274 rfl (by kernel_rfl) rfl rfl rfl rfl rfl ?_
 refine ⟨Nat × Nat,fun i=>⟨[(0,I (i.1:Nat)),(1,I (i.2:Nat))],[]⟩,fun i=>i.1<=1048576/\i.2<=1048576/\Nat.gcd i.1 i.2=Nat.gcd a b,fun i=>i.2,(a,b),⟨ha,hb,rfl⟩,
  ⟨⟨rfl,rfl⟩,⟨rfl,rfl,trivial⟩,trivial⟩,?_⟩
 rintro ⟨x,y⟩ ⟨hx,hy,hg⟩
 dsimp only at hx hy hg
 refine ⟨fun h1=>?_,fun h1=>?_⟩
 .dsimp only at h1
  have hm:=Nat.mod_lt x (show y>0 by omega)
  refine ⟨none,by kernel_rfl,by dsimp only;omega,((x % y:Nat):Int),Int.ofNat_tmod x y,?_⟩
  exact ⟨(y,x % y),⟨hy,by dsimp only;omega,by dsimp only;rw [gcd_mod,hg]⟩,by dsimp only;omega,⟨rfl,rfl⟩,⟨rfl,rfl,trivial⟩,trivial⟩
 .dsimp only at h1
  obtain rfl:y=0:=by omega
  rw [Nat.gcd_zero_right] at hg
  exact ⟨none,⟨retI (by rw [<-hg]),trivial⟩,rfl,rfl⟩
def totS (n:Nat):Nat->Nat
 |0=>0
 |k+1=>totS n k+if Nat.gcd (k+1) n=1 then 1 else 0
theorem totS_le (n:Nat):∀k,totS n k<=k
 |0=>Nat.le_refl _
 |k+1=>by have:=totS_le n k;rw [totS];split<;>omega
theorem impl_Totient (n:Nat) (h1:1<=n) (h2:n<=1000):AC Tryz.prog 181 [I (n:Nat)] [] [I (totS n n:Nat)] []:=by
 have hle:=totS_le n
 refine AC_of tauOk 23 0 [2] Tryz.func181 rfl (by kernel_rfl) rfl rfl rfl rfl rfl ?_
 refine ⟨fun h=>by omega,fun _=>?_⟩
 refine ⟨fun h=>by omega,fun _=>?_⟩
 refine ⟨Nat,fun k=>⟨[(0,I (n:Nat)),(3,I (totS n k:Nat)),(4,I ((k+1:Nat):Int))],[]⟩,fun k=>k<=n,fun k=>n-k,0,Nat.zero_le _,
  ⟨⟨rfl,rfl⟩,⟨rfl,rfl,rfl,trivial⟩,trivial⟩,fun k hk=>?_⟩
 dsimp only at hk
 have hlk:=hle k
 refine ⟨fun h3=>?_,fun h3=>?_⟩
 .have hk2:k<n:=by omega
  refine ⟨[],false,_,_,impl_common (k+1) n (by omega) (by omega),List.nodup_nil,rfl,rfl,trivial,fun h4=>?_,fun h4=>?_⟩
  .have e:totS n (k+1)=totS n k+1:=by rw [totS,if_pos (by omega)]
   refine ⟨((totS n (k+1):Nat):Int),w64_eq (by omega) (by omega) (by omega),?_⟩
   exact ⟨((k+1+1:Nat):Int),w64_eq (by omega) (by omega) (by omega),k+1,by dsimp only;omega,by dsimp only;omega,⟨rfl,rfl⟩,⟨rfl,rfl,rfl,trivial⟩,trivial⟩
  .have e:totS n (k+1)=totS n k:=by rw [totS,if_neg (by omega)];rfl
   exact ⟨((k+1+1:Nat):Int),w64_eq (by omega) (by omega) (by omega),k+1,by dsimp only;omega,by dsimp only;omega,⟨rfl,rfl⟩,⟨rfl,retI (by rw [e]),rfl,trivial⟩,trivial⟩
 .obtain rfl:k=n:=by omega
  exact ⟨none,⟨rfl,trivial⟩,rfl,rfl⟩
def mobF:Nat->Nat->Int->Nat->Int
 |0,_,out,_=>out
 |f+1,n,out,d=>if n<=1 then out else if n % d≠0 then mobF f n out (d+1) else if (n / d) % d=0 then 0 else mobF f (n / d) (-out) (d+1)
def mobN (n:Nat):Int:=mobF (2*n) n 1 2
theorem mobF_b:∀(f n:Nat) (out:Int) (d:Nat),-1<=out->out<=1->-1<=mobF f n out d/\mobF f n out d<=1
 |0,n,out,d,h1,h2=>by rw [mobF];exact ⟨h1,h2⟩
 |f+1,n,out,d,h1,h2=>by
  rw [mobF]
  split
  .exact ⟨h1,h2⟩
  .split
   .exact mobF_b f _ _ _ h1 h2
   .split
    .omega
    .exact mobF_b f _ _ _ (by omega) (by omega)
theorem impl_Mobius (n0:Nat) (h1:1<=n0) (h2:n0<=1000):AC Tryz.prog 183 [I (n0:Nat)] [] [I (mobN n0)] []:=by
 refine AC_of tauOk 29 0 [2] Tryz.func183 rfl (by kernel_rfl) rfl rfl rfl rfl rfl ?_
 refine ⟨fun h=>by omega,fun _=>?_⟩
 refine ⟨fun h=>by omega,fun _=>?_⟩
 refine ⟨Nat × Nat × Int × Nat,fun i=>⟨[(0,I (i.2.1:Nat)),(3,I i.2.2.1),(4,I (i.2.2.2:Nat))],[]⟩,
  fun i=>mobF i.1 i.2.1 i.2.2.1 i.2.2.2=mobN n0/\1<=i.2.1/\i.2.1<=1000/\2<=i.2.2.2/\i.2.2.2<=1001/\(-1<=i.2.2.1/\i.2.2.1<=1)/\(∀e,2<=e->i.2.1 % e=0->i.2.2.2<=e)/\(1<i.2.1->2*i.2.1<i.1+i.2.2.2),fun i=>i.1,(2*n0,n0,1,2),
  ⟨rfl,h1,h2,Nat.le_refl 2,(by decide:2<=1001),(by decide:(-1:Int)<=1/\(1:Int)<=1),fun e he _=>he,fun _=>by dsimp only;omega⟩,
  ⟨⟨rfl,rfl⟩,⟨rfl,rfl,rfl,trivial⟩,trivial⟩,?_⟩
 rintro ⟨f,n,out,d⟩ ⟨hF,hn1,hn2,hd1,hd2,ho,he,hf⟩
 dsimp only at hF hn1 hn2 hd1 hd2 ho he hf
 refine ⟨fun h3=>?_,fun h3=>?_⟩
 .dsimp only at h3
  have hn3:1<n:=by omega
  have hdn:d<=n:=he n (by omega) (Nat.mod_self n)
  have hf1:=hf hn3
  obtain ⟨f',rfl⟩:∃f',f=f'+1:=⟨f-1,by omega⟩
  rw [mobF,if_neg (by omega)] at hF
  refine ⟨by dsimp only;omega,((n % d:Nat):Int),Int.ofNat_tmod n d,?_⟩
  refine ⟨fun h4=>?_,fun h4=>?_⟩
  .rw [if_pos (by omega)] at hF
   have hdn2:d≠n:=fun e=>by rw [e,Nat.mod_self] at h4;exact h4 rfl
   refine ⟨((d+1:Nat):Int),w64_eq (by dsimp only;omega) (by omega) (by omega),(f',n,out,d+1),⟨hF,hn1,hn2,by dsimp only;omega,by dsimp only;omega,ho,fun e h5 h6=>?_,fun _=>by dsimp only;omega⟩,by dsimp only;omega,⟨rfl,rfl⟩,⟨rfl,rfl,rfl,trivial⟩,trivial⟩
   dsimp only at h6
   have h7:=he e h5 h6
   have:e≠d:=fun e'=>by rw [e'] at h6;omega
   show d+1<=e
   omega
  .rw [if_neg (by omega)] at hF
   have hnd:n / d<=n / 2:=Nat.div_le_div_left hd1 (by decide)
   have hdm:=Nat.div_add_mod n d
   have hpos:1<=n / d:=by
    have:=Nat.div_le_div_right (c:=d) hdn
    rw [Nat.div_self (by omega)] at this
    exact this
   refine ⟨by dsimp only;omega,((n / d:Nat):Int),w64_eq (Int.ofNat_tdiv n d) (by omega) (by omega),?_⟩
   refine ⟨by dsimp only;omega,((n / d % d:Nat):Int),Int.ofNat_tmod (n / d) d,?_⟩
   refine ⟨fun h5=>?_,fun h5=>?_⟩
   .rw [if_pos (by omega)] at hF
    exact ⟨none,⟨retI hF.symm,trivial⟩,rfl,rfl⟩
   .rw [if_neg (by omega)] at hF
    refine ⟨-out,by rw [<-w64_in _ (by dsimp only;omega) (by dsimp only;omega)]<;>dsimp only<;>omega,?_⟩
    refine ⟨((d+1:Nat):Int),w64_eq (by dsimp only;omega) (by omega) (by omega),(f',n / d,-out,d+1),⟨hF,hpos,by dsimp only;omega,by dsimp only;omega,by dsimp only;omega,⟨by dsimp only;omega,by dsimp only;omega⟩,fun e h6 h7=>?_,fun _=>by dsimp only;omega⟩,by dsimp only;omega,⟨rfl,rfl⟩,⟨rfl,rfl,rfl,trivial⟩,trivial⟩
    dsimp only at h7
    have h8:n % e=0:=by
     have h9:d ∣ n:=Nat.dvd_of_mod_eq_zero (by omega)
     have h10:n / d ∣ n:=Nat.div_dvd_of_dvd h9
     exact Nat.mod_eq_zero_of_dvd (Nat.dvd_trans (Nat.dvd_of_mod_eq_zero h7) h10)
    have h9:=he e h6 h8
    have:e≠d:=fun e'=>by rw [e'] at h7;omega
    show d+1<=e
    omega
 .dsimp only at h3
  have e:mobF f n out d=out:=by
   cases f with
   |zero=>rfl
   |succ f=>rw [mobF,if_pos (by omega)]
  exact ⟨none,⟨retI (by rw [<-hF,e]),trivial⟩,rfl,rfl⟩
def divS (F:Nat->Int) (n K:Nat):Nat->Int
 |0=>0
 |j+1=>divS F n K j+if n % (j+1)=0 then F (j+1)*((K ^ (n / (j+1)):Nat):Int) else 0
def divI (F:Nat->Int) (n K:Nat):Int:=(divS F n K n).tdiv n
theorem mulb {x y:Int} (hx: -1000<=x/\x<=1000) (hy:0<=y/\y<=1048576): -1048576000<=x*y/\x*y<=1048576000:=by
 obtain ⟨h1,h2⟩:=hx
 obtain ⟨h3,h4⟩:=hy
 have a1:x*y<=1000*y:=Int.mul_le_mul_of_nonneg_right h2 h3
 have a2: -1000*y<=x*y:=Int.mul_le_mul_of_nonneg_right h1 h3
 omega
theorem divS_b {F:Nat->Int} {n K:Nat} (hF:∀d,1<=d->d<=n->-1000<=F d/\F d<=1000) (hn:n<=10) (hK:K<=4):∀j,j<=n->-(j:Int)*1048576000<=divS F n K j/\divS F n K j<=(j:Int)*1048576000
 |0,_=>by rw [divS];omega
 |j+1,hj=>by
  have ih:=divS_b hF hn hK j (by omega)
  have hp:K ^ (n / (j+1))<=1048576:=pow_le hK (show n / (j+1)<=10 from Nat.le_trans (Nat.div_le_self _ _) hn) (Nat.le_refl 10)
  have:=mulb (hF (j+1) (by omega) hj) (y:=((K ^ (n / (j+1)):Nat):Int)) ⟨Int.natCast_nonneg _,by omega⟩
  rw [divS]
  split<;>omega
theorem impl_divided (F:Nat->Int) (fn n K:Nat) (h1:1<=n) (hn:n<=10) (hK:K<=4) (hF:∀d,1<=d->d<=n->(-1000<=F d/\F d<=1000)/\AC Tryz.prog fn [I (d:Nat)] [] [I (F d)] []):
 AC Tryz.prog 180 [I (n:Nat),I (K:Nat),.fn fn []] [] [I (divI F n K)] []:=by
 have hb:=divS_b (fun d a b=>(hF d a b).1) hn hK
 refine AC_of tauOk 32 0 [6] Tryz.func180 rfl (by kernel_rfl) rfl rfl rfl rfl rfl ?_
 refine ⟨Nat,fun k=>⟨[(0,I (n:Nat)),(1,I (K:Nat)),(2,.fn fn []),(7,I (divS F n K k)),(8,I ((k+1:Nat):Int))],[]⟩,fun k=>k<=n,fun k=>n-k,0,Nat.zero_le _,
  ⟨⟨rfl,rfl⟩,⟨rfl,rfl,rfl,rfl,rfl,trivial⟩,trivial⟩,fun k hk=>?_⟩
 dsimp only at hk
 have hbk:=hb k hk
 refine ⟨fun h3=>?_,fun h3=>?_⟩
 .have hk2:k<n:=by omega
  obtain ⟨hv,hA⟩:=hF (k+1) (by omega) hk2
  have hb1:=hb (k+1) (by omega)
  have hq:n / (k+1)<=10:=Nat.le_trans (Nat.div_le_self _ _) hn
  have hp:K ^ (n / (k+1))<=1048576:=pow_le hK hq (Nat.le_refl 10)
  have hm:=mulb hv (y:=((K ^ (n / (k+1)):Nat):Int)) ⟨Int.natCast_nonneg _,by omega⟩
  refine ⟨by omega,((n % (k+1):Nat):Int),Int.ofNat_tmod n (k+1),?_⟩
  refine ⟨fun h4=>?_,fun h4=>?_⟩
  .have e:divS F n K (k+1)=divS F n K k+F (k+1)*((K ^ (n / (k+1)):Nat):Int):=by rw [divS,if_pos (by omega)]
   refine ⟨none,by kernel_rfl,_,_,hA,rfl,by omega,((n / (k+1):Nat):Int),w64_eq (Int.ofNat_tdiv n (k+1)) (Int.le_trans (by decide) (Int.natCast_nonneg _)) (Int.le_trans (Int.ofNat_le.2 hq) (by decide)),_,_,impl_power K (n / (k+1)) hK hq,rfl,?_⟩
   refine ⟨F (k+1)*((K ^ (n / (k+1)):Nat):Int),w64_eq rfl (by omega) (by omega),?_⟩
   refine ⟨divS F n K (k+1),w64_eq e (by omega) (by omega),?_⟩
   exact ⟨((k+1+1:Nat):Int),w64_eq (by omega) (by omega) (by omega),k+1,by dsimp only;omega,by dsimp only;omega,⟨rfl,rfl⟩,⟨rfl,rfl,rfl,rfl,rfl,trivial⟩,trivial⟩
  .have e:divS F n K (k+1)=divS F n K k:=by rw [divS,if_neg (by omega),Int.add_zero]
   exact ⟨((k+1+1:Nat):Int),w64_eq (by omega) (by omega) (by omega),k+1,by dsimp only;omega,by dsimp only;omega,⟨rfl,rfl⟩,⟨rfl,rfl,rfl,retI (by rw [e]),rfl,trivial⟩,trivial⟩
 .obtain rfl:k=n:=by omega
  have hd: -10485760000<=divI F k K/\divI F k K<=10485760000:=by
   unfold divI
   have h5:(divS F k K k).tdiv k=(divS F k K k).tdiv k:=rfl
   have h6:=Int.natAbs_tdiv_le_natAbs (divS F k K k) k
   omega
  refine ⟨by omega,divI F k K,w64_eq rfl (by omega) (by omega),?_⟩
  exact ⟨none,⟨rfl,trivial⟩,rfl,rfl⟩
def lenB (n k:Int):Bool:=(decide (1<=n) && decide (n<=10)) && (decide (1<=k) && decide (k<=4))
theorem impl_isLength (n:Int):AC Tryz.prog 179 [I n] [] [.d true .bool (decide (1<=n) && decide (n<=10))] []:=by
 refine AC_of tauOk 9 0 [2] Tryz.func179 rfl (by kernel_rfl) rfl rfl rfl rfl rfl ?_
 refine ⟨fun h=>?_,fun h=>?_⟩
 .refine ⟨fun h2=>?_,fun h2=>?_⟩
  .exact ⟨none,⟨retB (by rw [decide_eq_true (show 1<=n by omega),decide_eq_true h2];rfl),trivial⟩,rfl,rfl⟩
  .exact ⟨none,⟨retB (by rw [decide_eq_false h2,Bool.and_false]),trivial⟩,rfl,rfl⟩
 .exact ⟨none,⟨retB (by rw [decide_eq_false (show ¬1<=n by omega)];rfl),trivial⟩,rfl,rfl⟩
theorem lenB_of {n k:Int} (h:lenB n k=true):∃N K:Nat,n=(N:Int)/\k=(K:Int)/\1<=N/\N<=10/\1<=K/\K<=4:=by
 unfold lenB at h
 simp only [Bool.and_eq_true,decide_eq_true_eq] at h
 exact ⟨n.toNat,k.toNat,by omega,by omega,by omega,by omega,by omega,by omega⟩
def neckI (n k:Int):Int:=if lenB n k then divI (fun d=>(totS d d:Nat)) n.toNat k.toNat else-1
def lynI (n k:Int):Int:=if lenB n k then divI mobN n.toNat k.toNat else-1
def mirI (n k:Int):Int:=if lenB n k then (if n.toNat % 2=1 then ((k.toNat ^ ((n.toNat+1) / 2):Nat):Int) else (((k.toNat ^ (n.toNat / 2)+k.toNat ^ (n.toNat / 2+1)) / 2:Nat):Int)) else-1
def bracI (n k:Int):Int:=if lenB n k then (neckI n k+mirI n k).tdiv 2 else-1
theorem divI_b {F:Nat->Int} {n K:Nat} (hF:∀d,1<=d->d<=n->-1000<=F d/\F d<=1000) (hn:n<=10) (hK:K<=4): -10485760000<=divI F n K/\divI F n K<=10485760000:=by
 have hb:=divS_b hF hn hK n (Nat.le_refl _)
 unfold divI
 have h6:=Int.natAbs_tdiv_le_natAbs (divS F n K n) n
 omega
theorem tot_b (n:Nat) (hn:n<=10):∀d,1<=d->d<=n->-1000<=((totS d d:Nat):Int)/\((totS d d:Nat):Int)<=1000:=fun d _ h=>by
 have:=totS_le d d;omega
theorem mob_b (n:Nat):∀d,1<=d->d<=n->-1000<=mobN d/\mobN d<=1000:=fun d _ h=>by
 have:=mobF_b (2*d) d 1 2 (by decide) (by decide);unfold mobN;omega
theorem neck_b (n k:Int): -10485760000<=neckI n k/\neckI n k<=10485760000:=by
 unfold neckI
 split
 .rename_i h
  obtain ⟨N,K,rfl,rfl,a1,a2,a3,a4⟩:=lenB_of h
  exact divI_b (tot_b _ (by simpa using a2)) (by simpa using a2) (by simpa using a4)
 .omega
theorem lyn_b (n k:Int): -10485760000<=lynI n k/\lynI n k<=10485760000:=by
 unfold lynI
 split
 .rename_i h
  obtain ⟨N,K,rfl,rfl,a1,a2,a3,a4⟩:=lenB_of h
  exact divI_b (mob_b _) (by simpa using a2) (by simpa using a4)
 .omega
theorem mir_b (n k:Int): -10485760000<=mirI n k/\mirI n k<=10485760000:=by
 unfold mirI
 split
 .rename_i h
  obtain ⟨N,K,rfl,rfl,a1,a2,a3,a4⟩:=lenB_of h
  simp only [Int.toNat_natCast]
  have p1:K ^ ((N+1) / 2)<=1048576:=pow_le a4 (show (N+1) / 2<=10 by omega) (Nat.le_refl 10)
  have p2:K ^ (N / 2)<=1048576:=pow_le a4 (show N / 2<=10 by omega) (Nat.le_refl 10)
  have p3:K ^ (N / 2+1)<=1048576:=pow_le a4 (show N / 2+1<=10 by omega) (Nat.le_refl 10)
  split<;>omega
 .omega
theorem impl_CountNecklaces (n k:Int):AC Tryz.prog 84 [I n,I k] [] [I (neckI n k)] []:=by
 refine AC_of tauOk 16 0 [4] Tryz.func84 rfl (by kernel_rfl) rfl rfl rfl rfl rfl ?_
 refine ⟨[],false,_,_,impl_isLength n,List.nodup_nil,rfl,rfl,trivial,fun h1=>?_,fun h1=>?_⟩
 .refine ⟨[],false,_,_,impl_isColors k,List.nodup_nil,rfl,rfl,trivial,fun h2=>?_,fun h2=>?_⟩
  .have hL:lenB n k=true:=by rw [lenB,h1,h2];rfl
   have e:neckI n k=divI (fun d=>(totS d d:Nat)) n.toNat k.toNat:=by rw [neckI,if_pos hL]
   obtain ⟨N,K,rfl,rfl,a1,a2,a3,a4⟩:=lenB_of hL
   rw [Int.toNat_natCast,Int.toNat_natCast] at e
   refine ⟨[],false,_,_,impl_divided (fun d=>(totS d d:Nat)) 181 N K a1 a2 a4 fun d b1 b2=>⟨tot_b N a2 d b1 b2,impl_Totient d b1 (by omega)⟩,List.nodup_nil,rfl,rfl,trivial,?_⟩
   exact ⟨none,⟨retI e,trivial⟩,rfl,rfl⟩
  .exact ⟨none,⟨retI (by rw [neckI,lenB,h2,Bool.and_false];rfl),trivial⟩,rfl,rfl⟩
 .exact ⟨none,⟨retI (by rw [neckI,lenB,h1];rfl),trivial⟩,rfl,rfl⟩
theorem impl_CountLyndon (n k:Int):AC Tryz.prog 86 [I n,I k] [] [I (lynI n k)] []:=by
 refine AC_of tauOk 16 0 [4] Tryz.func86 rfl (by kernel_rfl) rfl rfl rfl rfl rfl ?_
 refine ⟨[],false,_,_,impl_isLength n,List.nodup_nil,rfl,rfl,trivial,fun h1=>?_,fun h1=>?_⟩
 .refine ⟨[],false,_,_,impl_isColors k,List.nodup_nil,rfl,rfl,trivial,fun h2=>?_,fun h2=>?_⟩
  .have hL:lenB n k=true:=by rw [lenB,h1,h2];rfl
   have e:lynI n k=divI mobN n.toNat k.toNat:=by rw [lynI,if_pos hL]
   obtain ⟨N,K,rfl,rfl,a1,a2,a3,a4⟩:=lenB_of hL
   rw [Int.toNat_natCast,Int.toNat_natCast] at e
   refine ⟨[],false,_,_,impl_divided mobN 183 N K a1 a2 a4 fun d b1 b2=>⟨mob_b N d b1 b2,impl_Mobius d b1 (by omega)⟩,List.nodup_nil,rfl,rfl,trivial,?_⟩
   exact ⟨none,⟨retI e,trivial⟩,rfl,rfl⟩
  .exact ⟨none,⟨retI (by rw [lynI,lenB,h2,Bool.and_false];rfl),trivial⟩,rfl,rfl⟩
 .exact ⟨none,⟨retI (by rw [lynI,lenB,h1];rfl),trivial⟩,rfl,rfl⟩
theorem impl_CountMirrored (n k:Int):AC Tryz.prog 182 [I n,I k] [] [I (mirI n k)] []:=by
 have hmb:=mir_b n k
 refine AC_of tauOk 32 0 [4] Tryz.func182 rfl (by kernel_rfl) rfl rfl rfl rfl rfl ?_
 refine ⟨[],false,_,_,impl_isLength n,List.nodup_nil,rfl,rfl,trivial,fun h1=>?_,fun h1=>?_⟩
 .refine ⟨[],false,_,_,impl_isColors k,List.nodup_nil,rfl,rfl,trivial,fun h2=>?_,fun h2=>?_⟩
  .have hL:lenB n k=true:=by rw [lenB,h1,h2];rfl
   have e:=mirI
   obtain ⟨N,K,rfl,rfl,a1,a2,a3,a4⟩:=lenB_of hL
   have p2:K ^ (N / 2)<=1048576:=pow_le a4 (show N / 2<=10 by omega) (Nat.le_refl 10)
   have p3:K ^ (N / 2+1)<=1048576:=pow_le a4 (show N / 2+1<=10 by omega) (Nat.le_refl 10)
   refine ⟨by decide,((N % 2:Nat):Int),Int.ofNat_tmod N 2,?_⟩
   refine ⟨fun h3=>?_,fun h3=>?_⟩
   .have e:mirI (N:Int) (K:Int)=((K ^ ((N+1) / 2):Nat):Int):=by rw [mirI,if_pos hL,Int.toNat_natCast,Int.toNat_natCast,if_pos (by omega)]
    refine ⟨((N+1:Nat):Int),w64_eq (by omega) (by omega) (by omega),?_⟩
    refine ⟨by decide,(((N+1) / 2:Nat):Int),w64_eq (Int.ofNat_tdiv (N+1) 2) (by omega) (by omega),?_⟩
    refine ⟨[],false,_,_,impl_power K ((N+1) / 2) a4 (by omega),List.nodup_nil,rfl,rfl,trivial,?_⟩
    exact ⟨none,⟨retI e,trivial⟩,rfl,rfl⟩
   .have e:mirI (N:Int) (K:Int)=(((K ^ (N / 2)+K ^ (N / 2+1)) / 2:Nat):Int):=by rw [mirI,if_pos hL,Int.toNat_natCast,Int.toNat_natCast,if_neg (by omega)]
    refine ⟨by decide,((N / 2:Nat):Int),w64_eq (Int.ofNat_tdiv N 2) (by omega) (by omega),?_⟩
    refine ⟨[],false,_,_,impl_power K (N / 2) a4 (by omega),List.nodup_nil,rfl,rfl,trivial,?_⟩
    refine ⟨by decide,((N / 2:Nat):Int),w64_eq (Int.ofNat_tdiv N 2) (by omega) (by omega),?_⟩
    refine ⟨((N / 2+1:Nat):Int),w64_eq (by omega) (by omega) (by omega),?_⟩
    refine ⟨[],false,_,_,impl_power K (N / 2+1) a4 (by omega),List.nodup_nil,rfl,rfl,trivial,?_⟩
    refine ⟨((K ^ (N / 2)+K ^ (N / 2+1):Nat):Int),w64_eq (by omega) (by omega) (by omega),?_⟩
    refine ⟨by decide,(((K ^ (N / 2)+K ^ (N / 2+1)) / 2:Nat):Int),w64_eq (Int.ofNat_tdiv _ 2) (by omega) (by omega),?_⟩
    exact ⟨none,⟨retI e,trivial⟩,rfl,rfl⟩
  .exact ⟨none,⟨retI (by rw [mirI,lenB,h2,Bool.and_false];rfl),trivial⟩,rfl,rfl⟩
 .exact ⟨none,⟨retI (by rw [mirI,lenB,h1];rfl),trivial⟩,rfl,rfl⟩
theorem brac_b (n k:Int): -20971520000<=bracI n k/\bracI n k<=20971520000:=by
 have h1:=neck_b n k
 have h2:=mir_b n k
 have h3:=Int.natAbs_tdiv_le_natAbs (neckI n k+mirI n k) 2
 have h4: -20971520000<=neckI n k+mirI n k/\neckI n k+mirI n k<=20971520000:=by omega
 unfold bracI
 split<;>omega
theorem impl_CountBracelets (n k:Int):AC Tryz.prog 85 [I n,I k] [] [I (bracI n k)] []:=by
 have b1:=neck_b n k
 have b2:=mir_b n k
 have b3:=Int.natAbs_tdiv_le_natAbs (neckI n k+mirI n k) 2
 refine AC_of tauOk 21 0 [4] Tryz.func85 rfl (by kernel_rfl) rfl rfl rfl rfl rfl ?_
 refine ⟨[],false,_,_,impl_isLength n,List.nodup_nil,rfl,rfl,trivial,fun h1=>?_,fun h1=>?_⟩
 .refine ⟨[],false,_,_,impl_isColors k,List.nodup_nil,rfl,rfl,trivial,fun h2=>?_,fun h2=>?_⟩
  .have hL:lenB n k=true:=by rw [lenB,h1,h2];rfl
   refine ⟨[],false,_,_,impl_CountNecklaces n k,List.nodup_nil,rfl,rfl,trivial,[],false,_,_,impl_CountMirrored n k,List.nodup_nil,rfl,rfl,trivial,?_⟩
   refine ⟨neckI n k+mirI n k,w64_eq rfl (by omega) (by omega),?_⟩
   refine ⟨by decide,(neckI n k+mirI n k).tdiv 2,w64_eq rfl (by omega) (by omega),?_⟩
   exact ⟨none,⟨retI (by rw [bracI,if_pos hL]),trivial⟩,rfl,rfl⟩
  .exact ⟨none,⟨retI (by rw [bracI,lenB,h2,Bool.and_false];rfl),trivial⟩,rfl,rfl⟩
 .exact ⟨none,⟨retI (by rw [bracI,lenB,h1];rfl),trivial⟩,rfl,rfl⟩
end Go.Proofs.YtacjiemkbhhhoaaGreatDoor
set_option linter.unusedVariables false
namespace Go.Proofs.YtacjiemkbhhhoaaGreatDoor.Ow
open Go
def BC (P:Program) (m:Nat) (f:FuncId) (args:List AV) (rows:List Row) (res:AV) (rows':List Row):Prop:=
 Runs P f/\∀(w:World) (bs:List Nat) (A:Nat->Prop) (vs:List Value),ROk w bs A rows->Vs w bs A rows args vs->
  Calls P f vs.toArray w fun e w'=>∃rv bs' A',e=.returned rv/\ROk w' bs' A' rows'/\V w' bs' A' rows' res rv/\Step w bs A w' bs' A'/\
   bs'.take m=bs.take m/\Stay w (bs.take m) w'/\(∀b,A b->A' b)
def RetB (t:Nat) (res:AV) (rows':List Row):Exit->St->Prop:=
 fun e st=>match e with
 |.goto _=>False
 |.exit _=>False
 |.panic _=>False
 |.outgrown=>False
 |_=>look st.env t=res/\st.rows=rows'
theorem BC_of {P:Program} {τ:Nat→TI} (hτ:TyOk P τ) {f:FuncId} {fn:Func} {c:Code} {args:List AV} {res:AV} {rows rows':List Row} (N m t:Nat) (hf:P.funcs[f]? =some fn) (hb:fn.body=some c) (hn:(fn.name== "runtime.NumGoroutine")=false) (hN:fn.ntmps=N)
 (hargs:Nat.ble args.length N=true) (hm:Nat.ble m rows.length=true) (hres:fn.results=([t].map ResultVar.tmp).toArray)
 (h:wpC P τ N m c ⟨envOf 0 args,rows⟩ (RetB t res rows')):BC P m f args rows res rows':=by
 refine ⟨⟨fn,c,hf,hb,hn⟩,fun w bs A vs hrok hvs=>?_⟩
 have hargs':=Nat.le_of_ble_eq_true hargs
 have hm':=Nat.le_of_ble_eq_true hm
 have hvl:=Vs_len hvs
 refine calls_of_wp hf hb ?_
 have hs:Sat w bs A {tmps:=vs.toArray++Array.replicate (fn.ntmps-vs.toArray.size) undef,defers:=[]} N ⟨envOf 0 args,rows⟩:=by
  refine ⟨hrok.len,hrok.nodup,hrok.lt,hrok.old,hrok.row,fun t=>?_,by simp;omega,rfl⟩
  show V w bs A rows (look (envOf 0 args) t) _
  rw [look_envOf]
  simp only [Nat.zero_le,if_true,Nat.sub_zero]
  cases ht:args[t]? with
  |none=>trivial
  |some av=>
   obtain ⟨v,hv,hr⟩:=Vs_get hvs ht
   have:(vs.toArray++Array.replicate (fn.ntmps-vs.toArray.size) undef).getD t undef=v:=by
    have htl:=(List.getElem?_eq_some_iff.1 hv).1
    rw [Array.getD_eq_getD_getElem?,Array.getElem?_append_left (by simpa using htl)]
    simp [hv]
   simp only [this]
   exact hr
 refine wpC_ok hτ c hs (by rw [hrok.len];exact hm') (fun e w' bs' A' a' st' h1 h2 h3=>?_) h
 have key:(look st'.env t=res/\st'.rows=rows')->
  a'.defers=[]/\∃v,(results fn a'.tmps).run P w'=.ok v w'/\(fun (e:Ending) w'=>∃rv bs' A',e=.returned rv/\ROk w' bs' A' rows'/\V w' bs' A' rows' res rv/\Step w bs A w' bs' A'/\
  bs'.take m=bs.take m/\Stay w (bs.take m) w'/\(∀b,A b->A' b)) (.returned v) w':=by
  rintro ⟨rfl,rfl⟩
  refine ⟨h1.dfs,_,run_results fn [t] hres (show 1<=4 by decide) a'.tmps w',?_⟩
  exact ⟨_,bs',A',rfl,h1.rok,h1.env t,h2.toStep,h2.tk,h2.st,h2.up⟩
 cases e with
 |normal=>exact key h3
 |ret=>exact key h3
 |exit i=>exact h3.elim
 |goto l=>exact h3.elim
 |panic c=>exact h3.elim
 |outgrown=>exact h3.elim
theorem XC_of3 {P:Program} {N:Nat} {F:FuncId} {args:List AV} {res:AV} {env:List (Nat × AV)} {ea eb eb' ec ec':TypeId} {ta tc tc':Ty} {xs xs':List ta.T} {vb vb':AV} {ys:List tc.T} {ys':List tc'.T} (hl:xs'.length=xs.length)
 (h:BC P 2 F args [.sl ea ta xs,.box eb vb,.sl ec tc ys] res [.sl ea ta xs',.box eb' vb',.sl ec' tc' ys']):
 XC P 2 N F args ⟨env,[.sl ea ta xs,.box eb vb,.sl ec tc ys]⟩ ⟨killE 2 env,[.sl ea ta xs',.box eb' vb',.sl ec' tc' ys']⟩ res:=by
 refine ⟨h.1,fun w bs A a vs hs hm hvs=>(h.2 w bs A vs hs.rok hvs).mono ?_⟩
 rintro e w' ⟨rv,bs',A',rfl,hrok,hv,hstep,htk,hstay,hup⟩
 have hl3:bs.length=3:=hs.len
 have hl3':bs'.length=3:=hrok.len
 have hnA:∀b∈bs,¬A b:=fun b hb=>by
  obtain ⟨i,hi,rfl⟩:=List.getElem_of_mem hb
  have h1:bs[i]? =some bs[i]:=List.getElem?_eq_getElem hi
  match i,hi,h1 with
  |0,_,h1=>exact (hs.row 0 _ _ h1 rfl).nA (by simp)
  |1,_,h1=>exact (hs.row 1 _ _ h1 rfl).nA (by simp)
  |2,_,h1=>exact (hs.row 2 _ _ h1 rfl).nA (by simp)
  |i+3,hi,_=>omega
 have hix:∀i,i<2->bs'[i]? =bs[i]? :=fun i hi=>by
  have h1:(bs'.take 2)[i]? =(bs.take 2)[i]? :=by rw [htk]
  rwa [List.getElem?_take,List.getElem?_take,if_pos hi,if_pos hi] at h1
 have k:Kp w bs A [.sl ea ta xs,.box eb vb,.sl ec tc ys] w' bs' A' [.sl ea ta xs',.box eb' vb',.sl ec' tc' ys'] (fun i=>i<2):=
  {a:=fun b hb hlt=>⟨hstep.block b hlt (fun hm=>hnA b hm hb),hup b hb⟩
   n:=fun b hb hlt=>⟨hstep.block b hlt hb,fun hm=>by
    rcases hstep.sbs b hm with h1|h1
    .exact hb h1
    .omega⟩
   h:=fun i hi=>by
    refine ⟨hix i hi,fun r hr=>?_,fun b cur e hb hc=>?_⟩
    .match i,hi,hr with
     |0,_,hr=>cases hr;exact ⟨_,rfl,hl,(fun e t ys h=>by cases h;exact ⟨xs',rfl⟩),(fun e ys h=>by cases h)⟩
     |1,_,hr=>cases hr;exact ⟨_,rfl,rfl,(fun e t ys h=>by cases h),(fun e ys h=>by cases h)⟩
     |i+2,hi,_=>omega
    .exact hstay b (List.mem_of_getElem? (i:=i) (by rw [List.getElem?_take,if_pos hi];exact hb)) cur e hc}
 refine ⟨rv,bs',A',rfl,hs.change k hrok (fun t=>?_),hv,hstep,htk,hstay,hup⟩
 rcases look_killE 2 env t with h|⟨h,h2⟩
 .exact .inl h
 .exact .inr ⟨h,fun j hj hlt=>by
   have:j≠2:=fun e=>h2 (e ▸ hj)
   show j<2
   omega⟩
theorem XC_of3r {P:Program} {N:Nat} {F G:FuncId} {a1 a2 a3:Int} {b1:Bool} {v:Bool} {env:List (Nat × AV)} {u:Nat} {ea eb ec:TypeId} {ta tc:Ty} {xs xs':List ta.T} {ys ys':List tc.T} (hu:look env u=.ptr 1 0)
 (h:BC P 2 F [.ow 0,I a1,I a2,I a3,.nil,.d true .bool b1,.fn G [.ptr 1 0]] [.sl ea ta xs,.box eb (.ow 2),.sl ec tc ys] (.d true .bool v) [.sl ea ta xs',.box eb (.ow 2),.sl ec tc ys']):
 XC P 0 N F [.ow 2,I a1,I a2,I a3,.nil,.d true .bool b1,.fn G [.ptr 1 0]] ⟨env,[.sl ec tc ys,.box eb (.ow 0),.sl ea ta xs]⟩ ⟨[(u,.ptr 1 0)],[.sl ec tc ys',.box eb (.ow 0),.sl ea ta xs']⟩ (.d true .bool v):=by
 refine ⟨h.1,fun w bs A a vs hs hm hvs=>?_⟩
 obtain ⟨c0,c1,c2,rfl⟩:∃c0 c1 c2,bs=[c0,c1,c2]:=by
  have hl3:bs.length=3:=hs.len
  match bs,hl3 with
  |[c0,c1,c2],_=>exact ⟨c0,c1,c2,rfl⟩
 have hnd:=hs.nodup
 have hrok:ROk w [c2,c1,c0] A [.sl ea ta xs,.box eb (.ow 2),.sl ec tc ys]:=by
  refine ⟨rfl,by simp at hnd ⊢;omega,fun b hb=>hs.lt b (by simp at hb ⊢;omega),hs.old,fun i b r hb hr=>?_⟩
  match i,hb,hr with
  |0,hb,hr=>cases hb;cases hr;exact hs.row 2 c2 _ rfl rfl
  |1,hb,hr=>
   cases hb;cases hr
   obtain ⟨hA,cv,hc,b,e,t,zs,cur,k1,k2,k3,k4⟩:=hs.row 1 c1 _ rfl rfl
   exact ⟨hA,cv,hc,b,e,t,zs,cur,k1,k2,k3,k4⟩
  |2,hb,hr=>cases hb;cases hr;exact hs.row 0 c0 _ rfl rfl
  |i+3,hb,_=>cases hb
 have hvs2:Vs w [c2,c1,c0] A [.sl ea ta xs,.box eb (.ow 2),.sl ec tc ys] [.ow 0,I a1,I a2,I a3,.nil,.d true .bool b1,.fn G [.ptr 1 0]] vs:=by
  obtain ⟨v1,r1,rfl,⟨b,e,t,zs,cur,k1,k2,k3,k4⟩,v2,r2,rfl,h2,v3,r3,rfl,h3,v4,r4,rfl,h4,v5,r5,rfl,h5,v6,r6,rfl,h6,v7,r7,rfl,⟨cs,hf,v8,r8,h8,⟨b',r',q1,q2,q3,q4⟩,h9⟩,h7⟩:=hvs
  exact ⟨v1,_,rfl,⟨b,e,t,zs,cur,k1,k2,k3,k4⟩,v2,_,rfl,h2,v3,_,rfl,h3,v4,_,rfl,h4,v5,_,rfl,h5,v6,_,rfl,h6,v7,_,rfl,⟨cs,hf,v8,r8,h8,⟨b',.box eb (.ow 2),q1,rfl,(by cases q2;exact q3),q4⟩,h9⟩,h7⟩
 refine (h.2 w _ A vs hrok hvs2).mono ?_
 rintro e w' ⟨rv,bs',A',rfl,hrok',hv,hstep,htk,hstay,hup⟩
 obtain ⟨d,rfl⟩:∃d,bs'=[c2,c1,d]:=by
  have hl3:bs'.length=3:=hrok'.len
  match bs',hl3,htk with
  |[x,y,z],_,htk=>simp at htk;exact ⟨z,by rw [htk.1,htk.2]⟩
 have hnd':=hrok'.nodup
 refine ⟨rv,[d,c1,c2],A',rfl,⟨rfl,by simp at hnd' ⊢;omega,fun b hb=>hrok'.lt b (by simp at hb ⊢;omega),hrok'.old,fun i b r hb hr=>?_,fun t=>?_,hs.size,hs.dfs⟩,hv,⟨hstep.os,hstep.tape,hstep.output,hstep.size,fun k hk hn=>hstep.block k hk (by simp at hn ⊢;omega),fun b hb=>?_,fun b hb=>?_⟩,rfl,fun b hb=>by simp at hb,hup⟩
 .match i,hb,hr with
  |0,hb,hr=>cases hb;cases hr;exact hrok'.row 2 d _ rfl rfl
  |1,hb,hr=>
   cases hb;cases hr
   obtain ⟨hA,cv,hc,b,e,t,zs,cur,k1,k2,k3,k4⟩:=hrok'.row 1 c1 _ rfl rfl
   exact ⟨hA,cv,hc,b,e,t,zs,cur,k1,k2,k3,k4⟩
  |2,hb,hr=>cases hb;cases hr;exact hrok'.row 0 c2 _ rfl rfl
  |i+3,hb,_=>cases hb
 .show V _ _ _ _ (look [(u,.ptr 1 0)] t) _
  rw [look_cons]
  by_cases e:u=t
  .subst e
   rw [if_pos rfl]
   have h1:=hs.env u
   rw [hu] at h1
   obtain ⟨b,r,q1,q2,q3,q4⟩:=h1
   cases q1
   exact ⟨c1,_,rfl,rfl,Nat.one_pos,q4⟩
  .rw [if_neg e];trivial
 .have:=hstep.sbs b (by simp at hb ⊢;omega)
  rcases this with h1|h1
  .left;simp at h1 ⊢;omega
  .exact .inr h1
 .rcases hstep.sA b hb with h1|h1|h1
  .exact .inl h1
  .exact .inr (.inl h1)
  .right;right;simp at h1 ⊢;omega
end Go.Proofs.YtacjiemkbhhhoaaGreatDoor.Ow
set_option linter.unusedVariables false
namespace Go.Proofs.YtacjiemkbhhhoaaGreatDoor
open Go Go.Proofs.YtacjiemkbhhhoaaGreatDoor.Ow
abbrev WL:=List Int × List (List Int)
def itJ (st:Nat->WL->WL) (s:WL):Nat->WL
 |0=>s
 |j+1=>st j (itJ st s j)
def stpG (g:List Int->Nat->Nat->List (List Int)->WL) (a p l:Nat) (j:Nat) (s:WL):WL:=
 g (s.1.set a ((l+j:Nat):Int)) (a+1) (if a=0 then 1 else if j=0 then p else a+1) s.2
def lstN (w:List Int) (a p:Nat):Nat:=if a=0 then 0 else (w.getD (a-p) 0).toNat
def growL (k:Nat):Nat->List Int->Nat->Nat->List (List Int)->WL
 |0,w,a,p,out=>(w,if w.length % p=0 then out++[w] else out)
 |f+1,w,a,p,out=>itJ (stpG (growL k f) a p (lstN w a p)) (w,out) (k-lstN w a p)
structure GI (k f:Nat) (w:List Int) (a p:Nat):Prop where
 len:a+f=w.length
 el:∀i,i<w.length->0<=w.getD i 0/\w.getD i 0<k
 p1:1<=p
 pa:a=0\/p<=a
theorem lstN_lt {k f a p:Nat} {w:List Int} (hk:1<=k) (h:GI k (f+1) w a p):lstN w a p<k:=by
 have h1:=h.len
 unfold lstN
 split
 .omega
 .have:=h.el (a-p) (by omega);omega
theorem nx_ok {a p j:Nat} (h1:1<=p) (h2:a=0\/p<=a):1<=(if a=0 then 1 else if j=0 then p else a+1)/\(if a=0 then 1 else if j=0 then p else a+1)<=a+1:=by
 split
 .omega
 .split<;>omega
theorem GI.step {k f a p:Nat} {w w2:List Int} {x:Nat} (h:GI k (f+1) w a p) (hl:w2.length=w.length) (he:∀i,i<w2.length->0<=w2.getD i 0/\w2.getD i 0<k) (hx:x<k) (j:Nat):
 GI k f (w2.set a (x:Int)) (a+1) (if a=0 then 1 else if j=0 then p else a+1):=by
 have h1:=h.len
 have h2:=nx_ok (j:=j) h.p1 h.pa
 refine ⟨by rw [List.length_set];omega,fun i hi=>?_,h2.1,.inr h2.2⟩
 rw [List.length_set] at hi
 by_cases e:a=i
 .subst e;rw [L_set_self _ _ _ _ hi];omega
 .rw [L_set_ne _ _ _ _ _ e];exact he i hi
theorem growL_ok {k:Nat} (hk:1<=k):∀(f:Nat) (w:List Int) (a p:Nat) (out:List (List Int)),GI k f w a p->
 ((growL k f w a p out).1.length=w.length/\∀i,i<w.length->0<=(growL k f w a p out).1.getD i 0/\(growL k f w a p out).1.getD i 0<k)/\(growL k f w a p out).2.length<=out.length+k ^ f
 |0,w,a,p,out,h=>by
  rw [growL]
  refine ⟨⟨rfl,h.el⟩,?_⟩
  dsimp only
  split<;>simp
 |f+1,w,a,p,out,h=>by
  have ih:=growL_ok hk f
  have hl:=lstN_lt hk h
  have key:∀j,j<=k-lstN w a p->((itJ (stpG (growL k f) a p (lstN w a p)) (w,out) j).1.length=w.length/\∀i,i<w.length->0<=(itJ (stpG (growL k f) a p (lstN w a p)) (w,out) j).1.getD i 0/\(itJ (stpG (growL k f) a p (lstN w a p)) (w,out) j).1.getD i 0<k)/\
   (itJ (stpG (growL k f) a p (lstN w a p)) (w,out) j).2.length<=out.length+j*k ^ f:=fun j=>by
   induction j with
   |zero=>intro _;exact ⟨⟨rfl,h.el⟩,by simp [itJ]⟩
   |succ j ihj=>
    intro hj
    obtain ⟨⟨a1,a2⟩,a3⟩:=ihj (by omega)
    rw [itJ]
    generalize itJ (stpG (growL k f) a p (lstN w a p)) (w,out) j=s at*
    have hG:=h.step a1 (fun i hi=>a2 i (by omega)) (show lstN w a p+j<k by omega) j
    obtain ⟨⟨b1,b2⟩,b3⟩:=ih _ _ _ s.2 hG
    rw [List.length_set] at b1 b2
    refine ⟨⟨by rw [stpG,b1,a1],fun i hi=>b2 i (by omega)⟩,?_⟩
    rw [stpG,Nat.succ_mul]
    omega
  obtain ⟨h1,h2⟩:=key (k-lstN w a p) (Nat.le_refl _)
  rw [growL]
  refine ⟨h1,Nat.le_trans h2 (Nat.add_le_add_left ?_ _)⟩
  rw [Nat.pow_succ,Nat.mul_comm]
  exact Nat.mul_le_mul_left _ (by omega)
theorem impl_necklaces_1 (e0 eb:TypeId) (w:List Int) (out:List (List Int)) (hw:w≠[]) (hl:w.length<=10) (ho:out.length<=1048576):
 BC Tryz.prog 2 276 [.ow 0,.ptr 1 0] [.sl e0 .int w,.box eb (.ow 2),.sl 29 (.sl .int) out] (.d true .bool true) [.sl e0 .int w,.box eb (.ow 2),.sl 29 (.sl .int) (out++[w])]:=by
 refine BC_of tauOk 9 2 3 Tryz.func276 rfl (by kernel_rfl) rfl rfl rfl rfl ?_
 refine ⟨some 3000,.take 1 (.two 0 (.one 2 (.one 3 (.one 4 (.one 5 .done)))) 2 (.two 0 (.one 3 (.one 4 (.one 5 .done))) 3 (.one 0 (.one 4 (.one 5 .done))))),by kernel_rfl,?_⟩
 have hn:out.length+[w].length<=1099511627776:=by simp only [List.length_cons,List.length_nil];omega
 exact ⟨⟨rfl,[],true,_,_,slices_Clone_int false w (by omega) hw,List.nodup_nil,rfl,rfl,trivial,rfl,by decide,false,rfl,Nat.le_refl _,rfl,hn,rfl,rfl⟩,
  ⟨[],true,_,_,slices_Clone_int false w (by omega) hw,List.nodup_nil,rfl,rfl,trivial,⟨rfl,rfl,by decide,false,rfl,Nat.le_refl _,rfl,hn,rfl,rfl⟩,⟨rfl,by decide,false,rfl,rfl,Nat.le_refl _,rfl,hn,rfl,rfl⟩⟩⟩
theorem impl_grow_all (e0 eb:TypeId) (k:Nat) (hk:1<=k) (hk4:k<=4):∀(f:Nat) (w:List Int) (a p:Nat) (out:List (List Int)),GI k f w a p->w≠[]->w.length<=10->out.length+k ^ f<=1048576->
 BC Tryz.prog 2 275 [.ow 0,I (a:Nat),I (p:Nat),I (k:Nat),.nil,.d true .bool true,.fn 276 [.ptr 1 0]] [.sl e0 .int w,.box eb (.ow 2),.sl 29 (.sl .int) out] (.d true .bool true)
  [.sl e0 .int (growL k f w a p out).1,.box eb (.ow 2),.sl 29 (.sl .int) (growL k f w a p out).2]
 |0,w,a,p,out,hG,hw,hl,ho=>by
  have h1:=hG.len
  have h2:=hG.p1
  refine BC_of tauOk 91 2 14 Tryz.func275 rfl (by kernel_rfl) rfl rfl rfl rfl ?_
  refine ⟨fun _=>?_,fun h=>by omega⟩
  refine ⟨by omega,((w.length % p:Nat):Int),Int.ofNat_tmod w.length p,?_⟩
  refine ⟨fun h3=>?_,fun h3=>?_⟩
  .have e:growL k 0 w a p out=(w,out):=by rw [growL,if_neg (by omega)]
   rw [e]
   exact ⟨rfl,rfl⟩
  .have e:growL k 0 w a p out=(w,out++[w]):=by rw [growL,if_pos (by omega)]
   rw [e]
   refine ⟨[1000000],false,[],[],_,_,XC_of3 rfl (impl_necklaces_1 e0 eb w out hw hl (by omega)),?_⟩
   exact ⟨rfl,rfl⟩
 |f+1,w,a,p,out,hG,hw,hl,ho=>by
  have ih:=impl_grow_all e0 eb k hk hk4 f
  have h1:=hG.len
  have h2:=hG.p1
  have h3:=hG.pa
  have hL:=lstN_lt hk hG
  have hp0:1<=k ^ f:=Nat.pos_of_ne_zero (by intro e;rw [Nat.pow_eq_zero] at e;omega)
  have hB:∀j,j<=k-lstN w a p->((itJ (stpG (growL k f) a p (lstN w a p)) (w,out) j).1.length=w.length/\∀i,i<w.length->0<=(itJ (stpG (growL k f) a p (lstN w a p)) (w,out) j).1.getD i 0/\(itJ (stpG (growL k f) a p (lstN w a p)) (w,out) j).1.getD i 0<k)/\
   (itJ (stpG (growL k f) a p (lstN w a p)) (w,out) j).2.length<=out.length+j*k ^ f:=fun j=>by
   induction j with
   |zero=>intro _;exact ⟨⟨rfl,hG.el⟩,by simp [itJ]⟩
   |succ j ihj=>
    intro hj
    obtain ⟨⟨a1,a2⟩,a3⟩:=ihj (by omega)
    rw [itJ]
    generalize itJ (stpG (growL k f) a p (lstN w a p)) (w,out) j=s at*
    have hG:=hG.step a1 (fun i hi=>a2 i (by omega)) (show lstN w a p+j<k by omega) j
    obtain ⟨⟨b1,b2⟩,b3⟩:=growL_ok hk f _ _ _ s.2 hG
    rw [List.length_set] at b1 b2
    refine ⟨⟨by rw [stpG,b1,a1],fun i hi=>b2 i (by omega)⟩,?_⟩
    rw [stpG,Nat.succ_mul]
    omega
  have hend:growL k (f+1) w a p out=itJ (stpG (growL k f) a p (lstN w a p)) (w,out) (k-lstN w a p):=rfl
  have hstep:∀j,itJ (stpG (growL k f) a p (lstN w a p)) (w,out) (j+1)=stpG (growL k f) a p (lstN w a p) j (itJ (stpG (growL k f) a p (lstN w a p)) (w,out) j):=fun j=>rfl
  have h0:itJ (stpG (growL k f) a p (lstN w a p)) (w,out) 0=(w,out):=rfl
  have hLv1:a≠0->w.getD (a-p) 0=((lstN w a p:Nat):Int):=fun h=>by
   have:=hG.el (a-p) (by omega)
   rw [lstN,if_neg h];omega
  have hLv0:a=0->(0:Int)=((lstN w a p:Nat):Int):=fun h=>by rw [lstN,if_pos h];rfl
  have hpow:(k-lstN w a p)*k ^ f<=k ^ (f+1):=by
   rw [Nat.pow_succ,Nat.mul_comm];exact Nat.mul_le_mul_left _ (by omega)
  generalize lstN w a p=L at*
  rw [hend]
  generalize itJ (stpG (growL k f) a p L) (w,out)=S at*
  refine BC_of tauOk 91 2 14 Tryz.func275 rfl (by kernel_rfl) rfl rfl rfl rfl ?_
  refine ⟨fun h=>by omega,fun _=>?_⟩
  refine ⟨fun h4=>?_,fun h4=>?_⟩
  .refine ⟨((a-p:Nat):Int),w64_eq (by omega) (by omega) (by omega),a-p,rfl,by omega,?_⟩
   have hLv:=hLv1 (by omega)
   refine ⟨Nat,fun j=>⟨[(0,.ow 0),(1,I (a:Nat)),(2,I (p:Nat)),(3,I (k:Nat)),(4,.nil),(5,.d true .bool true),(6,.fn 276 [.ptr 1 0]),(16,I (L:Nat)),(17,I ((L+j:Nat):Int))],[.sl e0 .int (S j).1,.box eb (.ow 2),.sl 29 (.sl .int) (S j).2]⟩,fun j=>j<=k-L,fun j=>k-L-j,0,Nat.zero_le _,
    ⟨⟨rfl,rfl⟩,⟨rfl,rfl,rfl,rfl,rfl,rfl,rfl,retI hLv,retI hLv,trivial⟩,rowE (by rw [h0]),rfl,rowE (by rw [h0]),trivial⟩,fun j hj=>?_⟩
   dsimp only at hj
   obtain ⟨⟨s1,s2⟩,s3⟩:=hB j hj
   refine ⟨fun h5=>?_,fun h5=>?_⟩
   .have hj2:j<k-L:=by omega
    have hG2:=hG.step s1 (fun i hi=>s2 i (by omega)) (show L+j<k by omega) j
    have hm:(j+1)*k ^ f<=(k-L)*k ^ f:=Nat.mul_le_mul_right _ (by omega)
    rw [Nat.succ_mul] at hm
    have hne:(S j).1.set a ((L+j:Nat):Int)≠[]:=by
     intro e;have:=congrArg List.length e;rw [List.length_set,s1] at this;exact hw (List.length_eq_zero_iff.1 this)
    have hl2:((S j).1.set a ((L+j:Nat):Int)).length<=10:=by rw [List.length_set];omega
    have hst:=hstep j
    have hlen:=(growL_ok hk f _ _ _ (S j).2 hG2).1.1
    have hc:=ih _ _ _ (S j).2 hG2 hne hl2 (by omega)
    rw [stpG] at hst
    refine ⟨a,rfl,by omega,?_⟩
    refine ⟨fun h6=>?_,fun h6=>?_⟩
    .rw [if_pos (by omega)] at hc hst hlen
     refine ⟨((a+1:Nat):Int),w64_eq (by omega) (by omega) (by omega),?_⟩
     refine ⟨[1000000],false,[],[],_,_,XC_of3 hlen hc,?_⟩
     exact ⟨((L+(j+1):Nat):Int),w64_eq (by omega) (by omega) (by omega),j+1,by dsimp only;omega,by dsimp only;omega,⟨rfl,rfl⟩,⟨rfl,rfl,rfl,rfl,rfl,rfl,rfl,rfl,rfl,trivial⟩,rowE (by rw [hst]),rfl,rowE (by rw [hst]),trivial⟩
    .rw [if_neg (by omega)] at hc hst hlen
     refine ⟨fun h7=>?_,fun h7=>?_⟩
     .rw [if_neg (by omega)] at hc hst hlen
      refine ⟨((a+1:Nat):Int),w64_eq (by omega) (by omega) (by omega),?_⟩
      refine ⟨((a+1:Nat):Int),w64_eq (by omega) (by omega) (by omega),?_⟩
      refine ⟨[1000000],false,[],[],_,_,XC_of3 hlen hc,?_⟩
      exact ⟨((L+(j+1):Nat):Int),w64_eq (by omega) (by omega) (by omega),j+1,by dsimp only;omega,by dsimp only;omega,⟨rfl,rfl⟩,⟨rfl,rfl,rfl,rfl,rfl,rfl,rfl,rfl,rfl,trivial⟩,rowE (by rw [hst]),rfl,rowE (by rw [hst]),trivial⟩
     .rw [if_pos (by omega)] at hc hst hlen
      refine ⟨((a+1:Nat):Int),w64_eq (by omega) (by omega) (by omega),?_⟩
      refine ⟨[1000000],false,[],[],_,_,XC_of3 hlen hc,?_⟩
      exact ⟨((L+(j+1):Nat):Int),w64_eq (by omega) (by omega) (by omega),j+1,by dsimp only;omega,by dsimp only;omega,⟨rfl,rfl⟩,⟨rfl,rfl,rfl,rfl,rfl,rfl,rfl,rfl,rfl,trivial⟩,rowE (by rw [hst]),rfl,rowE (by rw [hst]),trivial⟩
   .obtain rfl:j=k-L:=by omega
    exact ⟨rfl,rfl⟩
  .have hLv:=hLv0 (by omega)
   refine ⟨Nat,fun j=>⟨[(0,.ow 0),(1,I (a:Nat)),(2,I (p:Nat)),(3,I (k:Nat)),(4,.nil),(5,.d true .bool true),(6,.fn 276 [.ptr 1 0]),(16,I (L:Nat)),(17,I ((L+j:Nat):Int))],[.sl e0 .int (S j).1,.box eb (.ow 2),.sl 29 (.sl .int) (S j).2]⟩,fun j=>j<=k-L,fun j=>k-L-j,0,Nat.zero_le _,
    ⟨⟨rfl,rfl⟩,⟨rfl,rfl,rfl,rfl,rfl,rfl,rfl,retI hLv,retI hLv,trivial⟩,rowE (by rw [h0]),rfl,rowE (by rw [h0]),trivial⟩,fun j hj=>?_⟩
   dsimp only at hj
   obtain ⟨⟨s1,s2⟩,s3⟩:=hB j hj
   refine ⟨fun h5=>?_,fun h5=>?_⟩
   .have hj2:j<k-L:=by omega
    have hG2:=hG.step s1 (fun i hi=>s2 i (by omega)) (show L+j<k by omega) j
    have hm:(j+1)*k ^ f<=(k-L)*k ^ f:=Nat.mul_le_mul_right _ (by omega)
    rw [Nat.succ_mul] at hm
    have hne:(S j).1.set a ((L+j:Nat):Int)≠[]:=by
     intro e;have:=congrArg List.length e;rw [List.length_set,s1] at this;exact hw (List.length_eq_zero_iff.1 this)
    have hl2:((S j).1.set a ((L+j:Nat):Int)).length<=10:=by rw [List.length_set];omega
    have hst:=hstep j
    have hlen:=(growL_ok hk f _ _ _ (S j).2 hG2).1.1
    have hc:=ih _ _ _ (S j).2 hG2 hne hl2 (by omega)
    rw [stpG] at hst
    refine ⟨a,rfl,by omega,?_⟩
    refine ⟨fun h6=>?_,fun h6=>?_⟩
    .rw [if_pos (by omega)] at hc hst hlen
     refine ⟨((a+1:Nat):Int),w64_eq (by omega) (by omega) (by omega),?_⟩
     refine ⟨[1000000],false,[],[],_,_,XC_of3 hlen hc,?_⟩
     exact ⟨((L+(j+1):Nat):Int),w64_eq (by omega) (by omega) (by omega),j+1,by dsimp only;omega,by dsimp only;omega,⟨rfl,rfl⟩,⟨rfl,rfl,rfl,rfl,rfl,rfl,rfl,rfl,rfl,trivial⟩,rowE (by rw [hst]),rfl,rowE (by rw [hst]),trivial⟩
    .rw [if_neg (by omega)] at hc hst hlen
     refine ⟨fun h7=>?_,fun h7=>?_⟩
     .rw [if_neg (by omega)] at hc hst hlen
      refine ⟨((a+1:Nat):Int),w64_eq (by omega) (by omega) (by omega),?_⟩
      refine ⟨((a+1:Nat):Int),w64_eq (by omega) (by omega) (by omega),?_⟩
      refine ⟨[1000000],false,[],[],_,_,XC_of3 hlen hc,?_⟩
      exact ⟨((L+(j+1):Nat):Int),w64_eq (by omega) (by omega) (by omega),j+1,by dsimp only;omega,by dsimp only;omega,⟨rfl,rfl⟩,⟨rfl,rfl,rfl,rfl,rfl,rfl,rfl,rfl,rfl,trivial⟩,rowE (by rw [hst]),rfl,rowE (by rw [hst]),trivial⟩
     .rw [if_pos (by omega)] at hc hst hlen
      refine ⟨((a+1:Nat):Int),w64_eq (by omega) (by omega) (by omega),?_⟩
      refine ⟨[1000000],false,[],[],_,_,XC_of3 hlen hc,?_⟩
      exact ⟨((L+(j+1):Nat):Int),w64_eq (by omega) (by omega) (by omega),j+1,by dsimp only;omega,by dsimp only;omega,⟨rfl,rfl⟩,⟨rfl,rfl,rfl,rfl,rfl,rfl,rfl,rfl,rfl,trivial⟩,rowE (by rw [hst]),rfl,rowE (by rw [hst]),trivial⟩
   .obtain rfl:j=k-L:=by omega
    exact ⟨rfl,rfl⟩
def neckL (n k:Nat):List (List Int):=(growL k n (List.replicate n 0) 0 1 []).2
theorem GI0 (n k:Nat) (hk:1<=k):GI k n (List.replicate n 0) 0 1:=
 ⟨by simp,fun i hi=>by rw [List.length_replicate] at hi;rw [getD_get _ _ _ (by simpa using hi),List.getElem_replicate];omega,Nat.le_refl _,.inl rfl⟩
theorem neckL_len (n k:Nat) (hk:1<=k):(neckL n k).length<=k ^ n:=by
 have:=(growL_ok hk n _ _ _ [] (GI0 n k hk)).2
 simpa [neckL] using this
theorem impl_necklaces (n k:Nat) (hk:1<=k) (hk4:k<=4) (h1:1<=n) (hn:n<=10):AC Tryz.prog 184 [I (n:Nat),I (k:Nat)] [] [.ow 0] [.sl 29 (.sl .int) (neckL n k)]:=by
 have hp:k ^ n<=1048576:=pow_le hk4 hn (Nat.le_refl 10)
 have hg:=impl_grow_all 3 32 k hk hk4 n (List.replicate n 0) 0 1 [] (GI0 n k hk) (by intro e;have:=congrArg List.length e;simp at this;omega) (by simp;omega) (by simp;omega)
 refine AC_of tauOk 13 0 [4] Tryz.func184 rfl (by kernel_rfl) rfl rfl rfl rfl rfl ?_
 refine ⟨rfl,by decide,true,?_⟩
 refine ⟨n,n,rfl,rfl,Nat.le_refl _,by omega,?_⟩
 refine ⟨rfl,[1000000],false,[],[],_,_,XC_of3r (u:=5) rfl hg,?_⟩
 refine ⟨rfl,?_⟩
 exact ⟨some 0,⟨⟨rfl,rfl⟩,trivial⟩,⟨rfl,rfl⟩,rfl⟩
end Go.Proofs.YtacjiemkbhhhoaaGreatDoor
set_option linter.unusedVariables false
namespace Go.Proofs.YtacjiemkbhhhoaaGreatDoor
open Go Go.Proofs.YtacjiemkbhhhoaaGreatDoor.Ow
def lenN (n:Int):Bool:=decide (1<=n) && decide (n<=10)
def nckB (n k i:Int):Bool:=lenN n && (smallB n.toNat k && (decide (0<=i) && decide (i<((neckL n.toNat k.toNat).length:Int))))
theorem impl_NecklaceAt (n k i:Int) (r:List AV) (hno:nckB n k i=false->r=[.nil,.d true .bool false])
 (hyes:nckB n k i=true->r=[.d true (.sl .int) ((neckL n.toNat k.toNat).getD i.toNat []),.d true .bool true]):AC Tryz.prog 87 [I n,I k,I i] [] r []:=by
 refine AC_of tauOk 33 0 [6,7] Tryz.func87 rfl (by kernel_rfl) rfl rfl rfl rfl rfl ?_
 refine ⟨[],false,_,_,impl_isLength n,List.nodup_nil,rfl,rfl,trivial,fun h1=>?_,fun h1=>?_⟩
 .have h1':=h1
  simp only [Bool.and_eq_true,decide_eq_true_eq] at h1'
  obtain ⟨N,rfl⟩:∃N:Nat,n=(N:Int):=⟨n.toNat,by omega⟩
  refine ⟨[],false,_,_,impl_isSmall N k (by omega),List.nodup_nil,rfl,rfl,trivial,fun h2=>?_,fun h2=>?_⟩
  .have h2':=h2
   unfold smallB at h2'
   simp only [Bool.and_eq_true,decide_eq_true_eq] at h2'
   obtain ⟨K,rfl⟩:∃K:Nat,k=(K:Int):=⟨k.toNat,by omega⟩
   have hlen:=neckL_len N K (by omega)
   rw [Int.toNat_natCast] at h2'
   refine ⟨[],true,_,_,impl_necklaces N K (by omega) (by omega) (by omega) (by omega),List.nodup_nil,rfl,rfl,trivial,?_⟩
   have hB:nckB (N:Int) (K:Int) i=(decide (0<=i) && decide (i<((neckL N K).length:Int))):=by
    rw [nckB,lenN,h1,Int.toNat_natCast,Int.toNat_natCast,h2];rfl
   refine ⟨fun h3=>?_,fun h3=>?_⟩
   .obtain rfl:=hno (by rw [hB,decide_eq_false (by omega)];rfl)
    exact ⟨none,⟨rfl,rfl,trivial⟩,rfl,rfl⟩
   .refine ⟨fun h4=>?_,fun h4=>?_⟩
    .obtain rfl:=hno (by rw [hB,decide_eq_false (show ¬i<((neckL N K).length:Int) by omega),Bool.and_false])
     exact ⟨none,⟨rfl,rfl,trivial⟩,rfl,rfl⟩
    .obtain rfl:=hyes (by rw [hB,decide_eq_true (show 0<=i by omega),decide_eq_true (show i<((neckL N K).length:Int) by omega)];rfl)
     have hi1:0<=i:=by omega
     have hi2:i<((neckL N K).length:Int):=by omega
     refine ⟨i.toNat,(Int.toNat_of_nonneg hi1).symm,(by omega:i.toNat<(neckL N K).length),?_⟩
     exact ⟨none,⟨by rw [Int.toNat_natCast,Int.toNat_natCast];rfl,rfl,trivial⟩,rfl,rfl⟩
  .obtain rfl:=hno (by rw [nckB,Int.toNat_natCast,h2];simp)
   exact ⟨none,⟨rfl,rfl,trivial⟩,rfl,rfl⟩
 .obtain rfl:=hno (by rw [nckB,lenN,h1];rfl)
  exact ⟨none,⟨rfl,rfl,trivial⟩,rfl,rfl⟩
def lynB (w:List Int):Bool:=decide (least w=w/\perW w=w.length)
def subW (w:List Int) (a j:Nat):List Int:=List.drop a (List.take (a+j) w)
def lyfE (w:List Int) (a:Nat):Nat->Nat
 |0=>0
 |j+1=>if lynB (subW w a (j+1))=true then j+1 else lyfE w a j
def lyfF (w:List Int):Nat->Nat->List (List Int)->List (List Int)
 |0,_,out=>out
 |f+1,a,out=>if a<w.length then lyfF w f (a+lyfE w a (w.length-a)) (out++[subW w a (lyfE w a (w.length-a))]) else out
def lyfL (w:List Int):List (List Int):=lyfF w w.length 0 []
theorem lyn_one:∀x:Nat,x<4->lynB [(x:Int)]=true:=by decide+kernel
theorem subW_len (w:List Int) (a j:Nat) (h:a+j<=w.length):(subW w a j).length=j:=by
 simp [subW];omega
theorem subW_get (w:List Int) (a j i:Nat) (h:a+j<=w.length) (hi:i<j):(subW w a j).getD i 0=w.getD (a+i) 0:=by
 rw [getD_get _ _ _ (by rw [subW_len w a j h];exact hi),getD_get _ _ _ (by omega)]
 simp [subW]
theorem subW_col {w:List Int} (hw:ColP w) (a j:Nat) (h:a+j<=w.length) (h1:1<=j):ColP (subW w a j):=by
 have hl:=subW_len w a j h
 have h2:=hw.2
 have h3:=hw.1
 refine ⟨fun i hi=>?_,by omega⟩
 rw [subW_get w a j i h (by omega)]
 exact h3 (a+i) (by omega)
theorem lyfE_ok {w:List Int} (hw:ColP w) (a:Nat):∀j,a+j<=w.length->1<=j->1<=lyfE w a j/\lyfE w a j<=j
 |0,_,h=>by omega
 |j+1,hj,_=>by
  rw [lyfE]
  split
  .omega
  .rename_i hn
   by_cases h0:j=0
   .subst h0
    have h3:=hw.1 a (by omega)
    have e:subW w a (0+1)=[((w.getD a 0).toNat:Int)]:=by
     have hl:=subW_len w a (0+1) hj
     have hg:=subW_get w a (0+1) 0 hj (by omega)
     match hs:subW w a (0+1),hl with
     |[x],_=>rw [hs] at hg;simp at hg;rw [hg];congr 1;simp at h3 ⊢;omega
    rw [e] at hn
    exact (hn (lyn_one _ (by omega))).elim
   .have:=lyfE_ok hw a j (by omega) (by omega);omega
theorem impl_LyndonFactors (sh:Bool) (w:List Int) (hw:ColP w):AC Tryz.prog 78 [.d sh (.sl .int) w] [] [.ow 0,.d true .bool true] [.sl 29 (.sl .int) (lyfL w)]:=by
 have hl:=hw.2
 have hC:=impl_ColoringOk sh w (by omega)
 rw [(colB_iff w).2 hw] at hC
 refine AC_of tauOk 35 0 [2,3] Tryz.func78 rfl (by kernel_rfl) rfl rfl rfl rfl rfl ?_
 refine ⟨[],false,_,_,hC,List.nodup_nil,rfl,rfl,trivial,fun _=>?_,nofun⟩
 refine ⟨rfl,by decide,true,?_⟩
 refine ⟨Nat × Nat × List (List Int),fun i=>⟨[(0,.d sh (.sl .int) w),(4,.ow 0),(5,I (i.2.1:Nat))],[.sl 29 (.sl .int) i.2.2]⟩,fun i=>lyfF w i.1 i.2.1 i.2.2=lyfL w/\w.length<=i.2.1+i.1/\i.2.1<=w.length/\i.2.2.length<=i.2.1,fun i=>i.1,(w.length,0,[]),⟨rfl,by dsimp only;omega,Nat.zero_le _,Nat.le_refl _⟩,
  ⟨⟨rfl,rfl⟩,⟨rfl,rfl,rfl,trivial⟩,rfl,trivial⟩,?_⟩
 rintro ⟨f,a,out⟩ ⟨hF,hfl,ha,ho⟩
 dsimp only at hF hfl ha ho
 refine ⟨fun h1=>?_,fun h1=>?_⟩
 .dsimp only at h1
  have ha2:a<w.length:=by omega
  obtain ⟨f',rfl⟩:∃f',f=f'+1:=⟨f-1,by omega⟩
  rw [lyfF,if_pos ha2] at hF
  obtain ⟨he1,he2⟩:=lyfE_ok hw a (w.length-a) (by omega) (by omega)
  refine ⟨Nat,fun j=>⟨[(0,.d sh (.sl .int) w),(4,.ow 0),(5,I (a:Nat)),(6,I ((a+j:Nat):Int))],[.sl 29 (.sl .int) out]⟩,fun j=>lyfE w a j=lyfE w a (w.length-a)/\1<=j/\a+j<=w.length,fun j=>j,w.length-a,⟨rfl,by omega,by omega⟩,
   ⟨⟨rfl,rfl⟩,⟨rfl,rfl,rfl,retI (by omega),trivial⟩,rfl,trivial⟩,?_⟩
  rintro j ⟨hj,hj1,hj2⟩
  obtain ⟨j',rfl⟩:∃j',j=j'+1:=⟨j-1,by omega⟩
  have hsl:=subW_len w a (j'+1) hj2
  rw [lyfE] at hj
  refine ⟨a,rfl,a+(j'+1),rfl,by omega,hj2,?_⟩
  refine ⟨[],false,_,_,impl_IsLyndon sh (subW w a (j'+1)) (subW_col hw a (j'+1) hj2 (by omega)),List.nodup_nil,rfl,rfl,trivial,fun h2=>?_,fun h2=>?_⟩
  .rw [if_pos (show lynB (subW w a (j'+1))=true from h2)] at hj
   rw [<-hj] at hF
   have hne:subW w a (j'+1)≠[]:=by intro e;rw [e] at hsl;simp at hsl
   refine ⟨a,rfl,a+(j'+1),rfl,by omega,hj2,?_⟩
   refine ⟨[],false,_,_,slices_Clone_int sh (subW w a (j'+1)) (by omega) hne,List.nodup_nil,rfl,rfl,trivial,?_⟩
   refine ⟨rfl,rfl,by decide,false,?_⟩
   refine ⟨rfl,Nat.zero_le _,rfl,by simp only [List.length_cons,List.length_nil];omega,rfl,?_⟩
   exact ⟨(f',a+(j'+1),out++[subW w a (j'+1)]),⟨hF,by dsimp only;omega,by dsimp only;omega,by simp;omega⟩,by dsimp only;omega,⟨rfl,rfl⟩,⟨rfl,rfl,rfl,trivial⟩,rfl,trivial⟩
  .rw [if_neg (show ¬lynB (subW w a (j'+1))=true by unfold lynB;rw [h2];decide)] at hj
   have hj0:1<=j':=by
    by_cases h0:j'=0
    .subst h0;rw [lyfE] at hj;omega
    .omega
   exact ⟨((a+j':Nat):Int),w64_eq (by omega) (by omega) (by omega),j',⟨hj,hj0,by omega⟩,by dsimp only;omega,⟨rfl,rfl⟩,⟨rfl,rfl,rfl,rfl,trivial⟩,rfl,trivial⟩
 .dsimp only at h1
  have e:lyfF w f a out=out:=by
   cases f with
   |zero=>rfl
   |succ f=>rw [lyfF,if_neg (by omega)]
  exact ⟨some 0,⟨⟨rfl,rfl⟩,rfl,trivial⟩,⟨rfl,rowsE (by rw [<-hF,e])⟩,rfl⟩
end Go.Proofs.YtacjiemkbhhhoaaGreatDoor
set_option linter.unusedVariables false
namespace Go.Proofs.YtacjiemkbhhhoaaGreatDoor
open Go Go.Proofs.YtacjiemkbhhhoaaGreatDoor.Ow
def delS (p:List Int->Bool) (xss:List (List Int)) (i0:Nat):Nat->List (List Int) × Nat
 |0=>(xss,i0)
 |k+1=>if p ((delS p xss i0 k).1.getD (i0+1+k) [])=true then delS p xss i0 k else ((delS p xss i0 k).1.set (delS p xss i0 k).2 ((delS p xss i0 k).1.getD (i0+1+k) []),(delS p xss i0 k).2+1)
theorem delS_len (p:List Int->Bool) (xss:List (List Int)) (i0:Nat):∀k,(delS p xss i0 k).1.length=xss.length/\(delS p xss i0 k).2<=i0+k
 |0=>⟨rfl,Nat.le_refl _⟩
 |k+1=>by
  have:=delS_len p xss i0 k
  rw [delS]
  split
  .exact ⟨this.1,by omega⟩
  .exact ⟨by rw [List.length_set];exact this.1,by dsimp only;omega⟩
theorem delS_rest (p:List Int->Bool) (xss:List (List Int)) (i0:Nat):∀k t,i0+1+k<=t->(delS p xss i0 k).1.getD t []=xss.getD t []
 |0,t,_=>rfl
 |k+1,t,h=>by
  have h1:=(delS_len p xss i0 k).2
  rw [delS]
  split
  .exact delS_rest p xss i0 k t (by omega)
  .dsimp only
   rw [L_set_ne _ _ _ _ _ (by omega)]
   exact delS_rest p xss i0 k t (by omega)
def delR (p:List Int->Bool) (xss:List (List Int)) (i0:Nat):List (List Int):=
 let s:=delS p xss i0 (xss.length-(i0+1))
 List.take s.2 s.1++List.replicate (s.1.length-s.2) []++List.drop s.1.length s.1
theorem delR_len (p:List Int->Bool) (xss:List (List Int)) (i0:Nat) (h:i0<xss.length):(delR p xss i0).length=xss.length:=by
 have:=delS_len p xss i0 (xss.length-(i0+1))
 unfold delR
 simp;omega
end Go.Proofs.YtacjiemkbhhhoaaGreatDoor
set_option linter.unusedVariables false
namespace Go.Proofs.YtacjiemkbhhhoaaGreatDoor
open Go Go.Proofs.YtacjiemkbhhhoaaGreatDoor.Ow
theorem idxL_cases (p:List Int->Bool) (xss:List (List Int)):(idxL p xss= -1/\∀j,j<xss.length->p (xss.getD j [])=false)\/∃i:Nat,idxL p xss=(i:Int)/\i<xss.length/\p (xss.getD i [])=true/\∀j,j<i->p (xss.getD j [])=false:=by
 unfold idxL
 cases h:xss.findIdx? p with
 |none=>
  rw [List.findIdx?_eq_none_iff] at h
  exact .inl ⟨rfl,fun j hj=>by rw [getD_get _ _ _ hj];exact h _ (List.getElem_mem hj)⟩
 |some i=>
  rw [List.findIdx?_eq_some_iff_getElem] at h
  obtain ⟨hi,hp,h3⟩:=h
  exact .inr ⟨i,rfl,hi,by rw [getD_get _ _ _ hi];exact hp,fun j hj=>by have:=h3 j hj;rw [getD_get _ _ _ (by omega)];simpa using this⟩
end Go.Proofs.YtacjiemkbhhhoaaGreatDoor
set_option linter.unusedVariables false
namespace Go.Proofs.YtacjiemkbhhhoaaGreatDoor
open Go Go.Proofs.YtacjiemkbhhhoaaGreatDoor.Ow
theorem slices_DeleteFunc1_none (F:Nat) (e e1:TypeId) (z1:Int) (p:List Int->Bool) (xss:List (List Int)) (hl:xss.length<=1048576)
 (hF:∀(s:Bool) i,i<xss.length->AC Tryz.prog F [.d s (.sl .int) (xss.getD i []),.ptr 0 0] [.box e1 (I z1)] [.d true .bool (p (xss.getD i []))] [.box e1 (I z1)])
 (hno:idxL p xss= -1):
 AC Tryz.prog 277 [.ow 0,.fn F [.ptr 1 0]] [.sl e (.sl .int) xss,.box e1 (I z1)] [.ow 0] [.sl e (.sl .int) xss,.box e1 (I z1)]:=by
 refine AC_of tauOk 42 2 [4] Tryz.func277 rfl (by kernel_rfl) rfl rfl rfl rfl rfl ?_
 refine ⟨[1],false,_,_,slices_IndexFunc_ints F e1 .int z1 p false xss hl (hF false),by decide,rfl,rfl,⟨⟨rfl,trivial⟩,trivial⟩,?_⟩
 refine ⟨fun _=>?_,fun h=>(h hno).elim⟩
 exact ⟨none,⟨rfl,trivial⟩,rfl,rfl⟩
theorem slices_DeleteFunc1_some (F:Nat) (e1:TypeId) (z1:Int) (p:List Int->Bool) (xss:List (List Int)) (hl:xss.length<=1048576)
 (hF:∀(s:Bool) i,i<xss.length->AC Tryz.prog F [.d s (.sl .int) (xss.getD i []),.ptr 0 0] [.box e1 (I z1)] [.d true .bool (p (xss.getD i []))] [.box e1 (I z1)])
 (i0:Nat) (hi:idxL p xss=(i0:Int)) (h0:i0<xss.length):
 AC Tryz.prog 277 [.ow 0,.fn F [.ptr 1 0]] [.sl 29 (.sl .int) xss,.box e1 (I z1)] [.x (.sb 0 0 (delS p xss i0 (xss.length-(i0+1))).2)]
  [.sl 29 (.sl .int) (delR p xss i0),.box e1 (I z1)]:=by
 refine AC_of tauOk 42 2 [4] Tryz.func277 rfl (by kernel_rfl) rfl rfl rfl rfl rfl ?_
 refine ⟨[1],false,_,_,slices_IndexFunc_ints F e1 .int z1 p false xss hl (hF false),by decide,rfl,rfl,⟨⟨rfl,trivial⟩,trivial⟩,?_⟩
 rw [hi]
 refine ⟨fun h=>by omega,fun _=>?_⟩
 refine ⟨((i0+1:Nat):Int),w64_eq (by omega) (by omega) (by omega),?_⟩
 refine ⟨Nat,fun k=>⟨[(0,.ow 0),(1,.fn F [.ptr 1 0]),(5,I ((delS p xss i0 k).2:Nat)),(6,I ((i0+1+k:Nat)))],[.sl 29 (.sl .int) (delS p xss i0 k).1,.box e1 (I z1)]⟩,
  fun k=>i0+1+k<=xss.length,fun k=>xss.length-k,0,by omega,
  ⟨⟨rfl,rfl⟩,⟨rfl,rfl,rfl,rfl,trivial⟩,rfl,rfl,trivial⟩,fun k hk=>?_⟩
 dsimp only at hk
 obtain ⟨hL,hK⟩:=delS_len p xss i0 k
 refine ⟨fun h1=>?_,fun h1=>?_⟩
 .have hj:i0+1+k<xss.length:=by omega
  have hrest:=delS_rest p xss i0 k (i0+1+k) (Nat.le_refl _)
  refine ⟨i0+1+k,rfl,by rw [hL];exact hj,?_⟩
  have hc:=hF true (i0+1+k) hj
  rw [<-hrest] at hc
  refine ⟨[1],false,_,_,hc,by decide,rfl,rfl,⟨⟨rfl,trivial⟩,trivial⟩,fun h2=>?_,fun h2=>?_⟩
  .have e:delS p xss i0 (k+1)=delS p xss i0 k:=by rw [delS,if_pos h2]
   refine ⟨((i0+1+(k+1):Nat):Int),w64_eq (by omega) (by omega) (by omega),k+1,by dsimp only;omega,by dsimp only;omega,⟨rfl,rfl⟩,⟨rfl,rfl,retI (by rw [e]),rfl,trivial⟩,rowE (by rw [e]),rfl,trivial⟩
  .have e:delS p xss i0 (k+1)=((delS p xss i0 k).1.set (delS p xss i0 k).2 ((delS p xss i0 k).1.getD (i0+1+k) []),(delS p xss i0 k).2+1):=by rw [delS,if_neg (by rw [h2];simp)]
   refine ⟨(delS p xss i0 k).2,rfl,by rw [hL];omega,?_⟩
   refine ⟨(((delS p xss i0 k).2+1:Nat):Int),w64_eq (by omega) (by omega) (by omega),?_⟩
   refine ⟨((i0+1+(k+1):Nat):Int),w64_eq (by omega) (by omega) (by omega),k+1,by dsimp only;omega,by dsimp only;omega,⟨rfl,rfl⟩,⟨rfl,rfl,retI (by rw [e]),rfl,trivial⟩,rowE (by rw [e]),rfl,trivial⟩
 .obtain rfl:k=xss.length-(i0+1):=by omega
  refine ⟨_,rfl,by rw [hL];omega,Nat.le_refl _,rfl,rfl,?_⟩
  have hlen:(List.take (delS p xss i0 (xss.length-(i0+1))).2 (delS p xss i0 (xss.length-(i0+1))).1++List.replicate ((delS p xss i0 (xss.length-(i0+1))).1.length-(delS p xss i0 (xss.length-(i0+1))).2) ([]:List Int)++List.drop (delS p xss i0 (xss.length-(i0+1))).1.length (delS p xss i0 (xss.length-(i0+1))).1).length=xss.length:=by
   simp;omega
  refine ⟨_,rfl,Nat.zero_le _,by rw [show (Ty.sl Ty.int).dflt=([]:List Int) from rfl,hlen];omega,?_⟩
  exact ⟨none,⟨rfl,trivial⟩,rfl,rfl⟩
theorem filter_all {α:Type} (q:α->Bool) (l:List α) (h:∀x∈l,q x=true):l.filter q=l:=List.filter_eq_self.2 h
theorem delS_take (p:List Int->Bool) (xss:List (List Int)) (i0:Nat) (h0:i0<xss.length) (hh:p (xss.getD i0 [])=true) (hb:∀j,j<i0->p (xss.getD j [])=false):
 ∀k,i0+1+k<=xss.length->(delS p xss i0 k).1.take (delS p xss i0 k).2=(xss.take (i0+1+k)).filter fun x=> !p x
 |0,h=>by
  rw [delS]
  show xss.take i0=_
  rw [L_succ xss i0 [] h0,List.filter_append,List.filter_cons_of_neg (by rw [hh];decide),List.filter_nil,List.append_nil]
  refine (filter_all _ _ fun x hx=>?_).symm
  obtain ⟨j,hj,rfl⟩:=List.getElem_of_mem hx
  rw [List.length_take] at hj
  rw [List.getElem_take,<-getD_get xss j [] (by omega),hb j (by omega)];rfl
 |k+1,h=>by
  have ih:=delS_take p xss i0 h0 hh hb k (by omega)
  have hl:=delS_len p xss i0 k
  have hr:=delS_rest p xss i0 k (i0+1+k) (Nat.le_refl _)
  have e1:i0+1+(k+1)=(i0+1+k)+1:=rfl
  rw [e1,L_succ xss (i0+1+k) [] (by omega),List.filter_append,<-ih,delS,hr]
  split
  .rename_i hp
   rw [List.filter_cons_of_neg (by rw [hp];decide),List.filter_nil,List.append_nil]
  .rename_i hp
   rw [List.filter_cons_of_pos (by simpa using hp),List.filter_nil]
   generalize (delS p xss i0 k).1=l at*
   generalize (delS p xss i0 k).2=n at*
   show (l.set n (xss.getD (i0+1+k) [])).take (n+1)=_
   rw [L_succ (l.set n (xss.getD (i0+1+k) [])) n [] (by rw [List.length_set];omega),List.take_set_of_le (Nat.le_refl n),L_set_self _ _ _ _ (by omega)]
def lynL (n k:Nat):List (List Int):=(neckL n k).filter fun w=>decide (perW w=n)
theorem neck_el {n k:Nat} (hk:1<=k):∀x∈neckL n k,x.length=n/\∀i,i<x.length->0<=x.getD i 0/\x.getD i 0<k:=by
 have key:∀(f:Nat) (w:List Int) (a p:Nat) (out:List (List Int)),GI k f w a p->(∀x∈out,x.length=w.length/\∀i,i<x.length->0<=x.getD i 0/\x.getD i 0<k)->
  ∀x∈(growL k f w a p out).2,x.length=w.length/\∀i,i<x.length->0<=x.getD i 0/\x.getD i 0<k:=by
  intro f
  induction f with
  |zero=>
   intro w a p out h ho
   rw [growL]
   dsimp only
   split
   .intro x hx
    rcases List.mem_append.1 hx with hx|hx
    .exact ho x hx
    .rw [List.mem_singleton.1 hx];exact ⟨rfl,h.el⟩
   .exact ho
  |succ f ih=>
   intro w a p out h ho
   have hl:=lstN_lt hk h
   have key:∀j,j<=k-lstN w a p->((itJ (stpG (growL k f) a p (lstN w a p)) (w,out) j).1.length=w.length/\∀i,i<w.length->0<=(itJ (stpG (growL k f) a p (lstN w a p)) (w,out) j).1.getD i 0/\(itJ (stpG (growL k f) a p (lstN w a p)) (w,out) j).1.getD i 0<k)/\
    ∀x∈(itJ (stpG (growL k f) a p (lstN w a p)) (w,out) j).2,x.length=w.length/\∀i,i<x.length->0<=x.getD i 0/\x.getD i 0<k:=fun j=>by
    induction j with
    |zero=>intro _;exact ⟨⟨rfl,h.el⟩,ho⟩
    |succ j ihj=>
     intro hj
     obtain ⟨⟨a1,a2⟩,a3⟩:=ihj (by omega)
     rw [itJ]
     generalize itJ (stpG (growL k f) a p (lstN w a p)) (w,out) j=s at*
     have hG:=h.step a1 (fun i hi=>a2 i (by omega)) (show lstN w a p+j<k by omega) j
     obtain ⟨⟨b1,b2⟩,b3⟩:=growL_ok hk f _ _ _ s.2 hG
     rw [List.length_set] at b1 b2
     refine ⟨⟨by rw [stpG,b1,a1],fun i hi=>b2 i (by omega)⟩,?_⟩
     rw [stpG]
     have:=ih _ _ _ s.2 hG (fun x hx=>by rw [List.length_set,a1];exact a3 x hx)
     rw [List.length_set,a1] at this
     exact this
   rw [growL]
   exact (key _ (Nat.le_refl _)).2
 intro x hx
 have:=key n (List.replicate n 0) 0 1 [] (GI0 n k hk) (fun x hx=>by simp at hx) x hx
 rw [List.length_replicate] at this
 exact this
theorem neck_col {n k:Nat} (hk:1<=k) (hk4:k<=4) (h1:1<=n) (hn:n<=10) {x:List Int} (hx:x∈neckL n k):ColP x:=by
 obtain ⟨h2,h3⟩:=neck_el hk x hx
 exact ⟨fun i hi=>by have:=h3 i hi;omega,by omega⟩
theorem impl_LyndonWords_1 (sh:Bool) (n:Nat) (hn:n<=10) (w:List Int) (hw:ColP w):
 AC Tryz.prog 278 [.d sh (.sl .int) w,.ptr 0 0] [.box 3 (I (n:Nat))] [.d true .bool (!decide (perW w=n))] [.box 3 (I (n:Nat))]:=by
 refine AC_of tauOk 8 1 [3] Tryz.func278 rfl (by kernel_rfl) rfl rfl rfl rfl rfl ?_
 refine ⟨none,by kernel_rfl,_,_,impl_PeriodOf sh w hw,rfl,rfl,fun h=>?_,fun h=>?_⟩
 .exact ⟨none,⟨retB (by rw [decide_eq_false (fun e=>h (by rw [e]))];rfl),trivial⟩,rfl,rfl⟩
 .exact ⟨none,⟨retB (by rw [decide_eq_true (by omega)];rfl),trivial⟩,rfl,rfl⟩
theorem cut2z {P:Program} {f:FuncId} {args:List AV} {e:TypeId} {t:Ty} {xs:List t.T} {n:Nat} {t2:Ty} {x2:t2.T} (hf:t2.flat=true) (h:AC P f args [] [.x (.sb 0 0 n),.d true t2 x2] [.sl e t xs]):AC P f args [] [.ow 0,.d true t2 x2] [.sl e t (xs.take n)]:=by
 refine ⟨h.1,fun w bs A vs hr hv=>(h.2 w bs A vs hr hv).mono ?_⟩
 rintro ex w' ⟨rv,bs',A',rfl,hrok,hres,hstep,hnew,hstay,hup⟩
 obtain ⟨vs,hvs,v1,r1,rfl,hx,v2,r2,rfl,hy,hz⟩:=hres
 cases hz
 obtain ⟨b,e2,t2',xs2,cur,o,h1,h2,h3,h4,h5,h6,h7⟩:=hx
 cases h2
 obtain ⟨hA,cur2,c1,c2,c3,c4⟩:=hrok.row 0 b _ h1 rfl
 rw [h3] at c1;cases c1
 have hl:(List.take n xs).length=n:=by rw [List.length_take];exact Nat.min_eq_left h5
 have ho:o=0:=by rcases h7 with h7|h7<;>omega
 subst ho
 refine ⟨rv,bs',A',rfl,⟨hrok.len,hrok.nodup,hrok.lt,hrok.old,fun i b' r hb hr'=>?_⟩,⟨_,hvs,v1,_,rfl,⟨b,_,_,_,cur,h1,rfl,h3,by rw [hl];exact h6⟩,v2,_,rfl,Rd.flat hf hy,rfl⟩,hstep,hnew,hstay,hup⟩
 match i,hr' with
 |0,hr'=>
  simp at hr';subst hr'
  rw [h1] at hb;cases hb
  refine ⟨hA,cur,h3,by rw [hl];omega,c3,fun j hj=>?_,by rw [hl];exact c4.d.mono h5⟩
  rw [hl] at hj
  obtain ⟨cv,k1,k2⟩:=c4 j (by omega)
  refine ⟨cv,k1,?_⟩
  rw [List.getElem_take];exact k2
 |i+1,hr'=>simp at hr'
theorem delR_take (p:List Int->Bool) (xss:List (List Int)) (i0:Nat) (h0:i0<xss.length) (hh:p (xss.getD i0 [])=true) (hb:∀j,j<i0->p (xss.getD j [])=false):
 (delR p xss i0).take (delS p xss i0 (xss.length-(i0+1))).2=xss.filter fun x=> !p x:=by
 have h1:=delS_take p xss i0 h0 hh hb (xss.length-(i0+1)) (by omega)
 have hl:=delS_len p xss i0 (xss.length-(i0+1))
 rw [show i0+1+(xss.length-(i0+1))=xss.length by omega,List.take_length] at h1
 rw [<-h1,delR]
 rw [List.append_assoc,List.take_append_of_le_length (by rw [List.length_take];omega),List.take_take,Nat.min_self]
theorem impl_LyndonWords (n k:Nat) (hk:1<=k) (hk4:k<=4) (h1:1<=n) (hn:n<=10) (hs:k ^ n<=1024):AC Tryz.prog 185 [I (n:Nat),I (k:Nat)] [] [.ow 0,.d true .bool true] [.sl 29 (.sl .int) (lynL n k)]:=by
 have hlen:=neckL_len n k hk
 have hL:=impl_isLength (n:Int)
 rw [decide_eq_true (by omega),decide_eq_true (by omega)] at hL
 have hS:=impl_isSmall n (k:Int) hn
 rw [show smallB n (k:Int)=true by rw [smallB,decide_eq_true (by omega),decide_eq_true (by omega),Int.toNat_natCast,decide_eq_true hs];rfl] at hS
 have hcol:∀i,i<(neckL n k).length->ColP ((neckL n k).getD i []):=fun i hi=>neck_col hk hk4 h1 hn (by rw [getD_get _ _ _ hi];exact List.getElem_mem hi)
 have hF:∀(s:Bool) i,i<(neckL n k).length->AC Tryz.prog 278 [.d s (.sl .int) ((neckL n k).getD i []),.ptr 0 0] [.box 3 (I (n:Nat))] [.d true .bool (!decide (perW ((neckL n k).getD i [])=n))] [.box 3 (I (n:Nat))]:=fun s i hi=>impl_LyndonWords_1 s n hn _ (hcol i hi)
 have hq:lynL n k=(neckL n k).filter fun x=> !(fun w=> !decide (perW w=n)) x:=by
  unfold lynL;congr 1;funext x;simp
 rcases idxL_cases (fun w=> !decide (perW w=n)) (neckL n k) with ⟨e,hall⟩|⟨i0,e,hi0,hh,hb⟩
 .have hqq:lynL n k=neckL n k:=by
   rw [hq]
   refine filter_all _ _ fun x hx=>?_
   obtain ⟨j,hj,rfl⟩:=List.getElem_of_mem hx
   have:=hall j hj
   rw [getD_get _ _ _ hj] at this
   simpa using this
  rw [hqq]
  refine AC_of tauOk 20 0 [4,5] Tryz.func185 rfl (by kernel_rfl) rfl rfl rfl rfl rfl ?_
  refine ⟨rfl,[],false,_,_,hL,List.nodup_nil,rfl,rfl,trivial,fun _=>?_,nofun⟩
  refine ⟨rfl,[],false,_,_,hS,List.nodup_nil,rfl,rfl,trivial,fun _=>?_,nofun⟩
  refine ⟨rfl,[],false,_,_,impl_necklaces n k hk hk4 h1 hn,List.nodup_nil,rfl,rfl,trivial,rfl,?_⟩
  refine ⟨[1,0],false,_,_,slices_DeleteFunc1_none 278 29 3 (n:Nat) (fun w=> !decide (perW w=n)) (neckL n k) (by omega) hF e,by decide,rfl,rfl,⟨⟨rfl,rfl,rfl⟩,⟨rfl,trivial⟩,trivial⟩,?_⟩
  exact ⟨some 1,⟨⟨rfl,rfl⟩,rfl,trivial⟩,⟨rfl,rfl⟩,rfl⟩
 .have hdl:(delR (fun w=> !decide (perW w=n)) (neckL n k) i0).length=(neckL n k).length:=delR_len _ _ _ hi0
  rw [hq,<-delR_take _ _ _ hi0 hh hb]
  refine cut2z (t2:=.bool) rfl ?_
  refine AC_of tauOk 20 0 [4,5] Tryz.func185 rfl (by kernel_rfl) rfl rfl rfl rfl rfl ?_
  refine ⟨rfl,[],false,_,_,hL,List.nodup_nil,rfl,rfl,trivial,fun _=>?_,nofun⟩
  refine ⟨rfl,[],false,_,_,hS,List.nodup_nil,rfl,rfl,trivial,fun _=>?_,nofun⟩
  refine ⟨rfl,[],false,_,_,impl_necklaces n k hk hk4 h1 hn,List.nodup_nil,rfl,rfl,trivial,rfl,?_⟩
  refine ⟨[1,0],false,_,_,slices_DeleteFunc1_some 278 3 (n:Nat) (fun w=> !decide (perW w=n)) (neckL n k) (by omega) hF i0 e hi0,by decide,rfl,rfl,⟨⟨hdl,rfl,rfl⟩,⟨rfl,trivial⟩,trivial⟩,?_⟩
  exact ⟨some 1,⟨⟨rfl,rfl⟩,rfl,trivial⟩,⟨rfl,rfl⟩,rfl⟩
theorem slices_Grow_nil (n:Nat) (h1:1<=n) (hn:n<=1048576):AC Tryz.prog 279 [.nil,I (n:Nat)] [] [.ow 0] [.sl 3 .int []]:=by
 refine AC.cut0 (n:=0) (xs:=(List.replicate n (0:Int):List Ty.int.T)) ?_
 refine AC_of tauOk 27 0 [4] Tryz.func279 rfl (by kernel_rfl) rfl rfl rfl rfl rfl ?_
 refine ⟨fun h=>by omega,fun _=>?_⟩
 refine ⟨0,w64_in _ (by omega) (by omega),((n:Nat):Int),w64_eq (by omega) (by omega) (by omega),?_⟩
 refine ⟨fun _=>?_,fun h=>(h (by omega)).elim⟩
 refine ⟨0,rfl,Nat.le_refl _,Nat.le_refl _,?_⟩
 refine ⟨n,rfl,h1,by omega,?_⟩
 refine ⟨0,rfl,Nat.le_refl _,Nat.zero_le _,?_⟩
 exact ⟨some 0,⟨⟨rfl,rfl⟩,trivial⟩,⟨rfl,rfl⟩,rfl⟩
theorem slices_Concat_int (sh:Bool) (xss:List (List Int)) (hl:xss.length<=1048576) (ht:xss.flatten.length<=1048576) (h1:1<=xss.flatten.length):AC Tryz.prog 186 [.d sh (.sl (.sl .int)) xss] [] [.ow 0] [.sl 3 .int xss.flatten]:=by
 have hs:∀k,k<xss.length->(xss.take (k+1)).flatten=(xss.take k).flatten++xss.getD k []:=fun k hk=>by rw [L_succ xss k [] hk,List.flatten_append];simp
 have hle:∀k,(xss.take k).flatten.length<=xss.flatten.length:=fun k=>by
  have:xss.flatten=(xss.take k).flatten++(xss.drop k).flatten:=by rw [<-List.flatten_append,List.take_append_drop]
  rw [this,List.length_append];omega
 refine AC_of tauOk 36 0 [2] Tryz.func186 rfl (by kernel_rfl) rfl rfl rfl rfl rfl ?_
 refine ⟨Nat,fun k=>⟨[(0,.d sh (.sl (.sl .int)) xss),(3,I ((xss.take k).flatten.length:Nat)),(9,.d sh (.sl (.sl .int)) xss),(10,I xss.length),(11,I (k:Nat))],[]⟩,fun k=>k<=xss.length,fun k=>xss.length-k,0,Nat.zero_le _,
  ⟨⟨rfl,rfl⟩,⟨rfl,rfl,rfl,rfl,rfl,trivial⟩,trivial⟩,fun k hk=>?_⟩
 dsimp only at hk
 have hlk:=hle k
 refine ⟨fun h2=>?_,fun h2=>?_⟩
 .have hk2:k<xss.length:=by omega
  have hlk1:=hle (k+1)
  have hsl:(xss.take (k+1)).flatten.length=(xss.take k).flatten.length+(xss.getD k []).length:=by rw [hs k hk2,List.length_append]
  refine ⟨k,rfl,hk2,(((xss.take (k+1)).flatten.length:Nat):Int),w64_eq (by rw [hsl];omega) (by omega) (by omega),?_⟩
  refine ⟨fun h=>by omega,fun _=>?_⟩
  exact ⟨((k+1:Nat):Int),w64_eq (by omega) (by omega) (by omega),k+1,by dsimp only;omega,by dsimp only;omega,⟨rfl,rfl⟩,⟨rfl,rfl,rfl,rfl,rfl,trivial⟩,trivial⟩
 .obtain rfl:k=xss.length:=by omega
  dsimp only
  rw [List.take_length]
  refine ⟨[],false,_,_,slices_Grow_nil xss.flatten.length h1 ht,List.nodup_nil,rfl,rfl,trivial,?_⟩
  refine ⟨Nat,fun k=>⟨[(6,.ow 0),(25,.d sh (.sl (.sl .int)) xss),(26,I xss.length),(27,I (k:Nat))],[.sl 3 .int (xss.take k).flatten]⟩,fun k=>k<=xss.length,fun k=>xss.length-k,0,Nat.zero_le _,
   ⟨⟨rfl,rfl⟩,⟨rfl,rfl,rfl,rfl,trivial⟩,rfl,trivial⟩,fun k hk=>?_⟩
  dsimp only at hk
  have hlk:=hle k
  refine ⟨fun h2=>?_,fun h2=>?_⟩
  .have hk2:k<xss.length:=by omega
   have hlk1:=hle (k+1)
   have hsl:(xss.take (k+1)).flatten.length=(xss.take k).flatten.length+(xss.getD k []).length:=by rw [hs k hk2,List.length_append]
   refine ⟨k,rfl,hk2,?_⟩
   refine ⟨rfl,Nat.zero_le _,rfl,(show (xss.take k).flatten.length+(xss.getD k []).length<=1099511627776 by omega),rfl,?_⟩
   exact ⟨((k+1:Nat):Int),w64_eq (by omega) (by omega) (by omega),k+1,by dsimp only;omega,by dsimp only;omega,⟨rfl,rfl⟩,⟨rfl,rfl,rfl,rfl,trivial⟩,rowE (hs k hk2).symm,trivial⟩
  .obtain rfl:k=xss.length:=by omega
   exact ⟨some 0,⟨⟨rfl,rfl⟩,trivial⟩,⟨rfl,rowsE (by rw [List.take_length])⟩,rfl⟩
def srtL (l:List (List Int)):List (List Int):=l.mergeSort fun x y=>decide (cmpI x y<=0)
theorem srtL_p (l:List (List Int)):(srtL l).Perm l:=List.mergeSort_perm l _
theorem srtL_s (l:List (List Int)):(srtL l).Pairwise fun x y=>¬cmpI y x<0:=by
 have h:=List.pairwise_mergeSort (le:=fun x y:List Int=>decide (cmpI x y<=0)) (fun a b c h1 h2=>by simp at*;exact leI_trans h1 h2) (fun a b=>by have:=cmpI_neg a b;simp;omega) l
 refine h.imp fun {a b} h=>?_
 have:=cmpI_neg a b
 simp at h;omega
def woaS (n k:Nat):Nat->List (List Int)
 |0=>[]
 |d+1=>if n % (d+1)=0 then woaS n k d++lynL (d+1) k else woaS n k d
def woaL (n k:Nat):List Int:=(srtL (woaS n k n)).flatten
def woaB (n k:Int):Bool:=lenN n && smallB n.toNat k
theorem lyn_len (n k:Nat) (hk:1<=k):(lynL n k).length<=k ^ n:=Nat.le_trans (List.length_filter_le _ _) (neckL_len n k hk)
theorem woaS_ok {n k:Nat} (hk:1<=k) (hs:k ^ n<=1024) (hn:n<=10):∀d,d<=n->(woaS n k d).length<=d*1024/\∀x∈woaS n k d,1<=x.length/\x.length<=10
 |0,_=>⟨by simp [woaS],fun x hx=>by simp [woaS] at hx⟩
 |d+1,hd=>by
  obtain ⟨h1,h2⟩:=woaS_ok hk hs hn d (by omega)
  rw [woaS]
  split
  .have h3:=lyn_len (d+1) k hk
   have h4:k ^ (d+1)<=k ^ n:=Nat.pow_le_pow_right hk hd
   refine ⟨by rw [List.length_append];omega,fun x hx=>?_⟩
   rcases List.mem_append.1 hx with hx|hx
   .exact h2 x hx
   .have:=(neck_el hk x (List.mem_filter.1 hx).1).1
    omega
  .exact ⟨Nat.le_trans h1 (Nat.mul_le_mul_right _ (Nat.le_succ d)),h2⟩
theorem flat_le:∀(l:List (List Int)),(∀x∈l,x.length<=10)->l.flatten.length<=l.length*10
 |[],_=>by simp
 |x::l,h=>by
  have h1:=h x (by simp)
  have h2:=flat_le l (fun y hy=>h y (by simp [hy]))
  simp at h2 ⊢;omega
theorem impl_WordOfAll_ok (n k:Nat) (hk:1<=k) (hk4:k<=4) (h1:1<=n) (hn:n<=10) (hs:k ^ n<=1024) (hne:woaS n k n≠[]):AC Tryz.prog 88 [I (n:Nat),I (k:Nat)] [] [.ow 0,.d true .bool true] [.sl 3 .int (woaL n k)]:=by
 have hL:=impl_isLength (n:Int)
 rw [decide_eq_true (by omega),decide_eq_true (by omega)] at hL
 have hS:=impl_isSmall n (k:Int) hn
 rw [show smallB n (k:Int)=true by rw [smallB,decide_eq_true (by omega),decide_eq_true (by omega),Int.toNat_natCast,decide_eq_true hs];rfl] at hS
 have hok:=woaS_ok hk hs hn
 have hp:=srtL_p (woaS n k n)
 have hC:AC Tryz.prog 186 [.d false (.sl (.sl .int)) (srtL (woaS n k n))] [] [.ow 0] [.sl 3 .int (woaL n k)]:=by
  obtain ⟨g1,g2⟩:=hok n (Nat.le_refl _)
  have hm:∀x∈srtL (woaS n k n),1<=x.length/\x.length<=10:=fun x hx=>g2 x (hp.subset hx)
  have hfl:=flat_le (srtL (woaS n k n)) fun x hx=>(hm x hx).2
  have hpl:=hp.length_eq
  refine slices_Concat_int false (srtL (woaS n k n)) (by omega) (by omega) ?_
  match h:srtL (woaS n k n) with
  |[]=>rw [h] at hpl;exact (hne (List.length_eq_zero_iff.1 hpl.symm)).elim
  |x::l=>have:=(hm x (by rw [h];simp)).1;simp;omega
 refine AC_of tauOk 42 0 [4,5] Tryz.func88 rfl (by kernel_rfl) rfl rfl rfl rfl rfl ?_
 refine ⟨[],false,_,_,hL,List.nodup_nil,rfl,rfl,trivial,fun _=>?_,nofun⟩
 refine ⟨[],false,_,_,hS,List.nodup_nil,rfl,rfl,trivial,fun _=>?_,nofun⟩
 refine ⟨rfl,by decide,true,?_⟩
 refine ⟨Nat,fun d=>⟨[(0,I (n:Nat)),(1,I (k:Nat)),(6,.ow 0),(7,I ((d+1:Nat):Int))],[.sl 29 (.sl .int) (woaS n k d)]⟩,fun d=>d<=n,fun d=>n-d,0,Nat.zero_le _,
  ⟨⟨rfl,rfl⟩,⟨rfl,rfl,rfl,rfl,trivial⟩,rfl,trivial⟩,fun d hd=>?_⟩
 dsimp only at hd
 obtain ⟨g1,g2⟩:=hok d hd
 refine ⟨fun h2=>?_,fun h2=>?_⟩
 .have hd2:d<n:=by omega
  refine ⟨by omega,((n % (d+1):Nat):Int),Int.ofNat_tmod n (d+1),fun h3=>?_,fun h3=>?_⟩
  .have e:woaS n k (d+1)=woaS n k d++lynL (d+1) k:=by rw [woaS,if_pos (by omega)]
   have h4:k ^ (d+1)<=k ^ n:=Nat.pow_le_pow_right hk hd2
   have h5:=lyn_len (d+1) k hk
   refine ⟨[],true,_,_,impl_LyndonWords (d+1) k hk hk4 (by omega) (by omega) (by omega),List.nodup_nil,rfl,rfl,trivial,fun _=>?_,nofun⟩
   refine ⟨rfl,Nat.zero_le _,rfl,(show (woaS n k d).length+(lynL (d+1) k).length<=1099511627776 by omega),rfl,?_⟩
   exact ⟨((d+1+1:Nat):Int),w64_eq (by omega) (by omega) (by omega),d+1,by dsimp only;omega,by dsimp only;omega,⟨rfl,rfl⟩,⟨rfl,rfl,rfl,rfl,trivial⟩,rowE e.symm,trivial⟩
  .have e:woaS n k (d+1)=woaS n k d:=by rw [woaS,if_neg (by omega)]
   exact ⟨((d+1+1:Nat):Int),w64_eq (by omega) (by omega) (by omega),d+1,by dsimp only;omega,by dsimp only;omega,⟨rfl,rfl⟩,⟨rfl,rfl,rfl,rfl,trivial⟩,rowE e.symm,trivial⟩
 .obtain rfl:d=n:=by omega
  refine ⟨[0],false,_,_,slices_SortFunc_ints 29 _ (srtL (woaS d k d)) (by omega) hne (fun x hx=>by have:=g2 x hx;exact ⟨fun e=>by rw [e] at this;simp at this,by omega⟩) hp (srtL_s _),by decide,rfl,rfl,⟨⟨hp.length_eq,rfl,rfl⟩,trivial⟩,?_⟩
  refine ⟨[],false,_,_,hC,List.nodup_nil,rfl,rfl,trivial,?_⟩
  exact ⟨some 1,⟨⟨rfl,rfl⟩,rfl,trivial⟩,⟨rfl,rfl⟩,rfl⟩
theorem impl_WordOfAll_no (n k:Int) (hB:woaB n k=false):AC Tryz.prog 88 [I n,I k] [] [.nil,.d true .bool false] []:=by
 refine AC_of tauOk 42 0 [4,5] Tryz.func88 rfl (by kernel_rfl) rfl rfl rfl rfl rfl ?_
 refine ⟨[],false,_,_,impl_isLength n,List.nodup_nil,rfl,rfl,trivial,fun h1=>?_,fun h1=>?_⟩
 .have h1':=h1
  simp only [Bool.and_eq_true,decide_eq_true_eq] at h1'
  obtain ⟨N,rfl⟩:∃N:Nat,n=(N:Int):=⟨n.toNat,by omega⟩
  refine ⟨[],false,_,_,impl_isSmall N k (by omega),List.nodup_nil,rfl,rfl,trivial,fun h2=>?_,fun h2=>?_⟩
  .rw [woaB,lenN,h1,Int.toNat_natCast,h2] at hB;cases hB
  .exact ⟨none,⟨rfl,rfl,trivial⟩,rfl,rfl⟩
 .exact ⟨none,⟨rfl,rfl,trivial⟩,rfl,rfl⟩
theorem lyn_1:∀k,k<5->1<=k->(lynL 1 k).isEmpty=false:=by decide+kernel
theorem woaS_ne {n k:Nat} (hk:1<=k) (hk4:k<=4):∀d,woaS n k (d+1)≠[]
 |0=>by
  rw [woaS,if_pos (Nat.mod_one n),woaS,List.nil_append]
  intro e
  have:=lyn_1 k (by omega) hk
  rw [e] at this;cases this
 |d+1=>by
  have ih:=woaS_ne (n:=n) hk hk4 d
  rw [woaS]
  split
  .intro e;exact ih (List.append_eq_nil_iff.1 e).1
  .exact ih
theorem impl_WordOfAll (n k:Int) (r:List AV) (rr:List Row) (hno:woaB n k=false->r=[.nil,.d true .bool false]/\rr=[]) (hyes:woaB n k=true->r=[.ow 0,.d true .bool true]/\rr=[.sl 3 .int (woaL n.toNat k.toNat)]):
 AC Tryz.prog 88 [I n,I k] [] r rr:=by
 cases hB:woaB n k
 .obtain ⟨rfl,rfl⟩:=hno hB
  exact impl_WordOfAll_no n k hB
 .obtain ⟨rfl,rfl⟩:=hyes hB
  unfold woaB lenN smallB at hB
  simp only [Bool.and_eq_true,decide_eq_true_eq] at hB
  obtain ⟨N,rfl⟩:∃N:Nat,n=(N:Int):=⟨n.toNat,by omega⟩
  obtain ⟨K,rfl⟩:∃K:Nat,k=(K:Int):=⟨k.toNat,by omega⟩
  simp only [Int.toNat_natCast] at hB ⊢
  obtain ⟨N',rfl⟩:∃N',N=N'+1:=⟨N-1,by omega⟩
  exact impl_WordOfAll_ok (N'+1) K (by omega) (by omega) (by omega) (by omega) hB.2.2 (woaS_ne (by omega) (by omega) N')
end Go.Proofs.YtacjiemkbhhhoaaGreatDoor
set_option linter.unusedVariables false
set_option linter.unusedSimpArgs false
namespace Go.Proofs.YtacjiemkbhhhoaaGreatDoor
open Go Go.Proofs.YtacjiemkbhhhoaaGreatDoor.Ow
def kd (xs:List Int) (at_:Nat):List Nat:=(List.range xs.length).filter fun i=>xs.getD i 0==(at_:Int)
end Go.Proofs.YtacjiemkbhhhoaaGreatDoor
set_option linter.unusedVariables false
namespace Go.Proofs.YtacjiemkbhhhoaaGreatDoor
open Go Go.Proofs.YtacjiemkbhhhoaaGreatDoor.Ow
theorem pz_b (l:List (List UInt8)) (n:Int) (h: -9223372036854775808<=n/\n<=9223372036854775807):∀k,-9223372036854775808<=pz l n k/\pz l n k<=9223372036854775807
 |0=>h
 |k+1=>by rw [pz_s];exact w64_b _
theorem tz_b (xs:List Int):∀v,-9223372036854775808<=tz xs v/\tz xs v<=9223372036854775807
 |0=>by show (-9223372036854775808:Int)<=1/\(1:Int)<=9223372036854775807;decide
 |v+1=>pz_b _ _ (tz_b xs v) _
theorem ren_b (xs:List Int): -9223372036854775808<=treeRen xs/\treeRen xs<=9223372036854775807:=by
 unfold treeRen
 split
 .exact tz_b xs _
 .omega
theorem ht2_b (xs:List Int):∀k,0<=(htS xs k).2/\(htS xs k).2<=k
 |0=>by show (0:Int)<=0/\(0:Int)<=0;omega
 |k+1=>by
  have ih:=ht2_b xs k
  have hb:=htS_b xs k (xs.getD k 0).toNat
  unfold htS
  split
  .dsimp only
   unfold mx
   split<;>omega
  .omega
theorem height_b (xs:List Int) (hl:xs.length<=1048576): -1<=heightV xs/\heightV xs<=1048576:=by
 unfold heightV
 have:=ht2_b xs xs.length
 split<;>omega
theorem cgw_b (n e:Int): -1<=cgwI n e/\cgwI n e<=122880:=by
 unfold cgwI
 split
 .rename_i h
  split
  .split
   .omega
   .obtain ⟨N,rfl⟩:∃N:Nat,n=(N:Int):=⟨n.toNat,by omega⟩
    have h1:=cgw_le N e.toNat (cg_ok N (by omega) (by omega)) (by have:=actsL_len N;have:=(sym_ok N (by omega) (by omega)).l2;omega)
    rw [Int.toNat_natCast]
    omega
  .omega
 .omega
theorem cg_b (n:Int): -1<=cgI n/\cgI n<=12288000:=by
 unfold cgI
 split
 .rename_i h
  split
  .omega
  .obtain ⟨N,rfl⟩:∃N:Nat,n=(N:Int):=⟨n.toNat,by omega⟩
   have hG:=cg_ok N (by omega) (by omega)
   have hcp:=cp_le N (by omega)
   have h1:=sumTo_le (cgwN N) 122880 (cp N+1) fun i _=>cgw_le N i hG (by have:=actsL_len N;have:=(sym_ok N (by omega) (by omega)).l2;omega)
   rw [Int.toNat_natCast]
   have h2:(cp N+1)*122880<=100*122880:=Nat.mul_le_mul_right _ (by omega)
   omega
 .omega
theorem root_b (n:Int): -1<=rootN n/\rootN n<=4766:=by
 unfold rootN
 split
 .have:=rg_b n.toNat (by omega);omega
 .omega
theorem free_b2 (n:Int): -1<=freeN n/\freeN n<=4766:=by
 unfold freeN
 split
 .have:=free_b n.toNat (by omega) (by omega)
  have:=rg_b n.toNat (by omega)
  omega
 .omega
theorem in64_2 {a b:Int} (ha: -9223372036854775808<=a/\a<=9223372036854775807) (hb: -9223372036854775808<=b/\b<=9223372036854775807):In64 [a,b]:=fun i hi=>by
 match i,hi with
 |0,_=>exact ha
 |1,_=>exact hb
theorem in64_3 {a b c:Int} (ha: -9223372036854775808<=a/\a<=9223372036854775807) (hb: -9223372036854775808<=b/\b<=9223372036854775807) (hc: -9223372036854775808<=c/\c<=9223372036854775807):In64 [a,b,c]:=fun i hi=>by
 match i,hi with
 |0,_=>exact ha
 |1,_=>exact hb
 |2,_=>exact hc
theorem col_in {w:List Int} (h:ColP w):In64 w:=fun i hi=>by have:=h.1 i hi;omega
theorem cols_ok {xss:List (List Int)} (hl:xss.length<=1048576) (h:∀x∈xss,ColP x):(∀i,i<xss.length->In64 (xss.getD i []))/\Short xss:=by
 have hg:∀i,i<xss.length->ColP (xss.getD i []):=fun i hi=>by rw [getD_get _ _ _ hi];exact h _ (List.getElem_mem hi)
 exact ⟨fun i hi=>col_in (hg i hi),hl,fun i hi=>by have:=(hg i hi).2;omega⟩
theorem lyfF_el {w:List Int} (hw:ColP w):∀(f a:Nat) (out:List (List Int)),a<=w.length->out.length<=a->(∀x∈out,ColP x)->(lyfF w f a out).length<=w.length/\∀x∈lyfF w f a out,ColP x
 |0,a,out,ha,ho,hx=>by rw [lyfF];exact ⟨by omega,hx⟩
 |f+1,a,out,ha,ho,hx=>by
  rw [lyfF]
  split
  .rename_i h
   have he:=lyfE_ok hw a (w.length-a) (by omega) (by omega)
   refine lyfF_el hw f _ _ (by omega) (by rw [List.length_append,List.length_singleton];omega) fun x hx2=>?_
   rcases List.mem_append.1 hx2 with hx2|hx2
   .exact hx x hx2
   .rw [List.mem_singleton.1 hx2];exact subW_col hw a _ (by omega) he.1
  .exact ⟨by omega,hx⟩
theorem lyfL_el {w:List Int} (hw:ColP w):(lyfL w).length<=10/\∀x∈lyfL w,ColP x:=by
 have h:=lyfF_el hw w.length 0 [] (Nat.zero_le _) (Nat.le_refl _) (fun x hx=>by simp at hx)
 have h2:=hw.2
 exact ⟨by unfold lyfL;omega,h.2⟩
theorem epB_of {g:List (List Int)} {k:Int} (h:epB g k=true):gokB g=true/\∃K:Nat,k=(K:Int)/\1<=K/\K<=4/\K ^ (g.getD 0 []).length<=1024/\smallB (g.getD 0 []).length (K:Nat)=true:=by
 unfold epB at h
 rw [Bool.and_eq_true] at h
 refine ⟨h.1,?_⟩
 have h2:=h.2
 unfold smallB at h2
 simp only [Bool.and_eq_true,decide_eq_true_eq] at h2
 obtain ⟨K,rfl⟩:∃K:Nat,k=(K:Int):=⟨k.toNat,by omega⟩
 exact ⟨K,rfl,by omega,by omega,by simpa using h2.2,h.2⟩
theorem g0_len {g:List (List Int)} (hB:gokB g=true):1<=(g.getD 0 []).length/\(g.getD 0 []).length<=10:=by
 have hG:=(gokB_iff g).1 hB
 have hg0:0<g.length:=by have:=hG.l1;omega
 exact (gok1_p (hG.o1 0 hg0)).1.1
theorem flt_ok {k n:Nat} {p:List Int->Bool} (h1:1<=n) (h2:n<=10) (h4:k<=4) (hs:k ^ n<=1024):((wordsL k n).filter p).length<=1048576/\∀x∈(wordsL k n).filter p,ColP x:=by
 refine ⟨?_,fun x hx=>col_of h1 h2 h4 (List.mem_filter.1 hx).1⟩
 have:=List.length_filter_le p (wordsL k n)
 have:=wordsL_len k n
 omega
theorem canL_col {g:List (List Int)} {xs:List Int} (h:FitP g xs):ColP (canL g xs):=by
 rcases bst_mem (fun p=>actL p xs) xs g g.length with e|⟨i,hi,e⟩
 .unfold canL;rw [e];exact h.x
 .unfold canL;rw [e];exact act_col (h.gs i (by omega)).1 (h.gs i (by omega)).2 h.x
theorem nck_el {n k i:Int} (h:nckB n k i=true):ColP ((neckL n.toNat k.toNat).getD i.toNat []):=by
 unfold nckB lenN smallB at h
 simp only [Bool.and_eq_true,decide_eq_true_eq] at h
 have hm:=neck_el (n:=n.toNat) (k:=k.toNat) (by omega) ((neckL n.toNat k.toNat).getD i.toNat []) (by rw [getD_get _ _ _ (by omega)];exact List.getElem_mem _)
 exact ⟨fun j hj=>by have:=hm.2 j hj;omega,by omega,by omega⟩
theorem woa_el {n k:Nat} (hk:1<=k) (hk4:k<=4):∀x∈woaL n k,0<=x/\x<4:=by
 have key:∀d,∀w∈woaS n k d,∀x∈w,0<=x/\x<4:=by
  intro d
  induction d with
  |zero=>intro w hw;simp [woaS] at hw
  |succ d ih=>
   intro w hw x hx
   rw [woaS] at hw
   split at hw
   .rcases List.mem_append.1 hw with hw|hw
    .exact ih w hw x hx
    .have h2:=(neck_el hk w (List.mem_filter.1 hw).1).2
     obtain ⟨i,hi,rfl⟩:=List.getElem_of_mem hx
     have:=h2 i hi
     rw [getD_get _ _ _ hi] at this
     omega
   .exact ih w hw x hx
 intro x hx
 obtain ⟨w,hw,hx⟩:=List.mem_flatten.1 hx
 exact key n w ((srtL_p _).subset hw) x hx
def nonS:List UInt8:=[110,111,110,101]
def wlnS (g:List (List Int)) (w arg:List UInt8):List UInt8:=
 if w=[116,114,101,101] then (if readB arg=true then Lib.join ([treeRen (rdT arg).1,heightV (rdT arg).1].map fmtI) [32] else unkS)
 else if colB (psL arg)=true then
  (if w=[99,97,110,111,110] then (if fitB g (psL arg)=true then formatW (canL g (psL arg)) else nonS)
  else if w=[119,111,114,100] then wordLine (psL arg)
  else if w=[102,97,99,116,111,114,115] then fmtWs (lyfL (psL arg))
  else unkS)
 else unkS
def nlnS (g:List (List Int)) (w:List UInt8) (n:List Int):List UInt8:=
 if w=[99,111,117,110,116]/\(n.length:Int)=1 then clnS g (n.getD 0 0)
 else if w=[112,97,116,116,101,114,110,115]/\(n.length:Int)=1 then (if epB g (n.getD 0 0)=true then fmtWs (patL g (n.getD 0 0).toNat (g.getD 0 []).length) else nonS)
 else if w=[101,120,99,104,97,110,103,101,100]/\(n.length:Int)=1 then (if epB g (n.getD 0 0)=true then fmtWs (expL g (n.getD 0 0).toNat (g.getD 0 []).length) else nonS)
 else if w=[110,101,99,107,108,97,99,101,115]/\(n.length:Int)=2 then Lib.join ([neckI (n.getD 0 0) (n.getD 1 0),bracI (n.getD 0 0) (n.getD 1 0),lynI (n.getD 0 0) (n.getD 1 0)].map fmtI) [32]
 else if w=[110,101,99,107,108,97,99,101]/\(n.length:Int)=3 then (if nckB (n.getD 0 0) (n.getD 1 0) (n.getD 2 0)=true then formatW ((neckL (n.getD 0 0).toNat (n.getD 1 0).toNat).getD (n.getD 2 0).toNat []) else nonS)
 else if w=[97,108,108]/\(n.length:Int)=2 then (if woaB (n.getD 0 0) (n.getD 1 0)=true then formatW ((woaL (n.getD 0 0).toNat (n.getD 1 0).toNat).take 10) else nonS)
 else if w=[103,114,97,112,104,115]/\(n.length:Int)=1 then fmtI (cgI (n.getD 0 0))
 else if w=[103,114,97,112,104,115]/\(n.length:Int)=2 then fmtI (cgwI (n.getD 0 0) (n.getD 1 0))
 else if w=[116,114,101,101,115]/\(n.length:Int)=1 then Lib.join ([rootN (n.getD 0 0),freeN (n.getD 0 0)].map fmtI) [32]
 else unkS
theorem impl_wordLine (sh:Bool) (g:List (List Int)) (w arg:List UInt8) (c:Int) (hl:g.length<=1048576) (hx:∀i,i<g.length->(g.getD i []).length<=1048576) (ha:arg.length<=1048576):
 AC Tryz.prog 32 [.d sh (.sl (.sl .int)) g,.arr .mix [.str w,.int c],.d true .str arg] [] [.d true .str (wlnS g w arg)] []:=by
 unfold wlnS
 have hpl:=psL_len arg
 have q0:0<2:=by decide
 have q1:2<=1000:=by decide
 refine AC_of tauOk 65 0 [6] Tryz.func32 rfl (by kernel_rfl) rfl rfl rfl rfl rfl ?_
 refine ⟨q0,q1,q0,q0,fun h1=>?_,fun h1=>?_⟩
 .rw [if_pos h1]
  cases hr:readB arg
  .refine ⟨[],false,_,_,impl_ReadTree_no arg hr,List.nodup_nil,rfl,rfl,trivial,nofun,fun _=>?_⟩
   exact ⟨none,⟨rfl,trivial⟩,rfl,rfl⟩
  .have ht:(rdT arg).1.length<=1048576:=by
    unfold readB at hr
    simp only [Bool.and_eq_true,decide_eq_true_eq] at hr
    have:=((treeB_iff _).1 hr.2.1).1
    omega
   have hR:=impl_ReadTree arg hr
   generalize (rdT arg).1=t at*
   have hb:=height_b t ht
   refine ⟨[],true,_,_,hR,List.nodup_nil,rfl,rfl,trivial,fun _=>?_,nofun⟩
   refine ⟨[],false,_,_,impl_TreeRenamings true t ht,List.nodup_nil,rfl,rfl,trivial,[],false,_,_,impl_HeightOf true t ht,List.nodup_nil,rfl,rfl,trivial,rfl,by decide,false,?_⟩
   refine ⟨[],false,_,_,impl_commas true [treeRen t,heightV t] [32] (in64_2 (ren_b t) (by omega)) (show 2<=1048576 by decide) (by decide),List.nodup_nil,rfl,rfl,trivial,?_⟩
   exact ⟨none,⟨rfl,trivial⟩,rfl,rfl⟩
 .rw [if_neg h1]
  cases hc:colB (psL arg)
  .refine ⟨[],false,_,_,impl_ParseWord_no arg ha hc,List.nodup_nil,rfl,rfl,trivial,nofun,fun _=>?_⟩
   exact ⟨none,⟨rfl,trivial⟩,rfl,rfl⟩
  .rw [if_pos rfl]
   have hP:=(colB_iff _).1 hc
   have hR:=impl_ParseWord arg ha hc
   generalize psL arg=x at*
   have hxl:x.length<=1048576:=by have:=hP.2;omega
   refine ⟨[],true,_,_,hR,List.nodup_nil,rfl,rfl,trivial,fun _=>?_,nofun⟩
   refine ⟨q0,q0,fun h2=>?_,fun h2=>?_⟩
   .rw [if_pos h2]
    cases hf:fitB g x
    .refine ⟨[],false,_,_,impl_CanonOf_no sh true g x hl hx hxl hf,List.nodup_nil,rfl,rfl,trivial,nofun,fun _=>?_⟩
     refine ⟨[],false,_,_,impl_FormatWord_nil,List.nodup_nil,rfl,rfl,trivial,[],false,_,_,impl_orNone _ false,List.nodup_nil,rfl,rfl,trivial,?_⟩
     exact ⟨none,⟨rfl,trivial⟩,rfl,rfl⟩
    .rw [if_pos rfl]
     have hF:=fit_of hf
     refine ⟨[],true,_,_,impl_CanonOf sh true g x hl hx hxl hf,List.nodup_nil,rfl,rfl,trivial,fun _=>?_,nofun⟩
     refine ⟨[],false,_,_,impl_FormatWord true (canL g x) (col_in (canL_col hF)) (by have:=(canL_col hF).2;omega),List.nodup_nil,rfl,rfl,trivial,[],false,_,_,impl_orNone _ true,List.nodup_nil,rfl,rfl,trivial,?_⟩
     exact ⟨none,⟨rfl,trivial⟩,rfl,rfl⟩
   .rw [if_neg h2]
    refine ⟨fun h3=>?_,fun h3=>?_⟩
    .rw [if_pos h3]
     refine ⟨[],false,_,_,impl_WordLine true x hxl,List.nodup_nil,rfl,rfl,trivial,?_⟩
     exact ⟨none,⟨rfl,trivial⟩,rfl,rfl⟩
    .rw [if_neg h3]
     refine ⟨fun h4=>?_,fun h4=>?_⟩
     .rw [if_pos h4]
      obtain ⟨e1,e2⟩:=lyfL_el hP
      obtain ⟨e3,e4⟩:=cols_ok (show (lyfL x).length<=1048576 by omega) e2
      refine ⟨[],true,_,_,impl_LyndonFactors true x hP,List.nodup_nil,rfl,rfl,trivial,fun _=>?_,nofun⟩
      refine ⟨[],false,_,_,impl_FormatWords true (lyfL x) e3 e4,List.nodup_nil,rfl,rfl,trivial,?_⟩
      exact ⟨none,⟨rfl,trivial⟩,rfl,rfl⟩
     .rw [if_neg h4]
      exact ⟨none,⟨rfl,trivial⟩,rfl,rfl⟩
theorem impl_numberLine (sh s2:Bool) (g:List (List Int)) (w:List UInt8) (n:List Int) (hl:g.length<=1048576) (hx:∀i,i<g.length->(g.getD i []).length<=1048576):
 AC Tryz.prog 34 [.d sh (.sl (.sl .int)) g,.arr .mix [.str w,.int (n.length:Nat)],.d s2 (.sl .int) n] [] [.d true .str (nlnS g w n)] []:=by
 unfold nlnS
 have q0:0<2:=by decide
 have q1:2<=1000:=by decide
 have q2:3<=1048576:=by decide
 refine AC_of tauOk 153 0 [6] Tryz.func34 rfl (by kernel_rfl) rfl rfl rfl rfl rfl ?_
 refine ⟨q0,q1,rfl,fun h1=>?_,fun h1=>?_⟩
 .rw [if_pos h1]
  refine ⟨0,rfl,by omega,[],false,_,_,impl_CountLine sh g (n.getD 0 0) hl hx,List.nodup_nil,rfl,rfl,trivial,?_⟩
  exact ⟨none,⟨rfl,trivial⟩,rfl,rfl⟩
 rw [if_neg h1]
 refine ⟨fun h2=>?_,fun h2=>?_⟩
 .rw [if_pos h2]
  refine ⟨0,rfl,by omega,?_⟩
  cases hE:epB g (n.getD 0 0)
  .refine ⟨[],false,_,_,impl_PatternsOf_no sh g (n.getD 0 0) hl hx hE,List.nodup_nil,rfl,rfl,trivial,nofun,fun _=>?_⟩
   refine ⟨[],false,_,_,impl_FormatWords_nil,List.nodup_nil,rfl,rfl,trivial,[],false,_,_,impl_orNone _ false,List.nodup_nil,rfl,rfl,trivial,?_⟩
   exact ⟨none,⟨rfl,trivial⟩,rfl,rfl⟩
  .rw [if_pos rfl]
   obtain ⟨hB,K,hk,k1,k4,hs,hS⟩:=epB_of hE
   have h0:=g0_len hB
   have hC:=impl_PatternsOf_d sh g K hl hx hB hS
   rw [<-hk] at hC
   rw [show (n.getD 0 0).toNat=K by omega]
   obtain ⟨e1,e2⟩:=flt_ok (p:=fun w=>decide (canL g w=w)) h0.1 h0.2 k4 hs
   rw [<-patL_eq] at e1 e2
   obtain ⟨e3,e4⟩:=cols_ok e1 e2
   refine ⟨[],true,_,_,hC,List.nodup_nil,rfl,rfl,trivial,fun _=>?_,nofun⟩
   refine ⟨[],false,_,_,impl_FormatWords true _ e3 e4,List.nodup_nil,rfl,rfl,trivial,[],false,_,_,impl_orNone _ true,List.nodup_nil,rfl,rfl,trivial,?_⟩
   exact ⟨none,⟨rfl,trivial⟩,rfl,rfl⟩
 rw [if_neg h2]
 refine ⟨fun h3=>?_,fun h3=>?_⟩
 .rw [if_pos h3]
  refine ⟨0,rfl,by omega,?_⟩
  cases hE:epB g (n.getD 0 0)
  .refine ⟨[],false,_,_,impl_ExchangePatterns_no sh g (n.getD 0 0) hl hx hE,List.nodup_nil,rfl,rfl,trivial,nofun,fun _=>?_⟩
   refine ⟨[],false,_,_,impl_FormatWords_nil,List.nodup_nil,rfl,rfl,trivial,[],false,_,_,impl_orNone _ false,List.nodup_nil,rfl,rfl,trivial,?_⟩
   exact ⟨none,⟨rfl,trivial⟩,rfl,rfl⟩
  .rw [if_pos rfl]
   obtain ⟨hB,K,hk,k1,k4,hs,hS⟩:=epB_of hE
   have h0:=g0_len hB
   have hC:=impl_ExchangePatterns_d sh g K hl hx hB hS
   rw [<-hk] at hC
   rw [show (n.getD 0 0).toNat=K by omega]
   obtain ⟨e1,e2⟩:=flt_ok (p:=fun w=>decide (cexL g w=w)) h0.1 h0.2 k4 hs
   obtain ⟨e3,e4⟩:=cols_ok (xss:=expL g K (g.getD 0 []).length) e1 e2
   refine ⟨[],true,_,_,hC,List.nodup_nil,rfl,rfl,trivial,fun _=>?_,nofun⟩
   refine ⟨[],false,_,_,impl_FormatWords true _ e3 e4,List.nodup_nil,rfl,rfl,trivial,[],false,_,_,impl_orNone _ true,List.nodup_nil,rfl,rfl,trivial,?_⟩
   exact ⟨none,⟨rfl,trivial⟩,rfl,rfl⟩
 rw [if_neg h3]
 refine ⟨fun h4=>?_,fun h4=>?_⟩
 .rw [if_pos h4]
  have i0:0<n.length:=by omega
  have i1:1<n.length:=by omega
  have b1:=neck_b (n.getD 0 0) (n.getD 1 0)
  have b2:=brac_b (n.getD 0 0) (n.getD 1 0)
  have b3:=lyn_b (n.getD 0 0) (n.getD 1 0)
  refine ⟨some 2000,[0,1,2,3,4,5,7,8,9,10,11,12,14,15,16,17,18,19],[6,13,20,21,22,23],by kernel_rfl,rfl,?_⟩
  refine ⟨0,rfl,i0,1,rfl,i1,0,rfl,i0,1,rfl,i1,0,rfl,i0,1,rfl,i1,?_⟩
  refine ⟨[],false,_,_,impl_CountNecklaces _ _,List.nodup_nil,rfl,rfl,trivial,[],false,_,_,impl_CountBracelets _ _,List.nodup_nil,rfl,rfl,trivial,[],false,_,_,impl_CountLyndon _ _,List.nodup_nil,rfl,rfl,trivial,rfl,by decide,false,?_⟩
  refine ⟨[],false,_,_,impl_commas true [neckI (n.getD 0 0) (n.getD 1 0),bracI (n.getD 0 0) (n.getD 1 0),lynI (n.getD 0 0) (n.getD 1 0)] [32] (in64_3 (by omega) (by omega) (by omega)) q2 (by decide),List.nodup_nil,rfl,rfl,trivial,?_⟩
  exact ⟨none,⟨rfl,trivial⟩,rfl,rfl⟩
 rw [if_neg h4]
 refine ⟨fun h5=>?_,fun h5=>?_⟩
 .rw [if_pos h5]
  have i0:0<n.length:=by omega
  have i1:1<n.length:=by omega
  have i2:2<n.length:=by omega
  refine ⟨some 4000,[0,1,2,3,4,5,6,7,8],.one 9 (.one 10 (.two 11 (.two 12 (.one 13 (.one 14 .done)) 13 (.one 12 (.one 14 .done))) 12 (.one 11 (.one 13 (.one 14 .done))))),by kernel_rfl,rfl,?_⟩
  refine ⟨0,rfl,i0,1,rfl,i1,2,rfl,i2,?_⟩
  cases hE:nckB (n.getD 0 0) (n.getD 1 0) (n.getD 2 0)
  .refine ⟨[],false,_,_,impl_NecklaceAt (n.getD 0 0) (n.getD 1 0) (n.getD 2 0) _ (fun _=>rfl) (fun h=>by rw [hE] at h;cases h),List.nodup_nil,rfl,rfl,trivial,⟨⟨nofun,fun _=>?_⟩,⟨nofun,fun _=>?_⟩⟩,⟨nofun,fun _=>?_⟩⟩
   all_goals
    refine ⟨[],false,_,_,impl_FormatWord_nil,List.nodup_nil,rfl,rfl,trivial,[],false,_,_,impl_orNone _ false,List.nodup_nil,rfl,rfl,trivial,?_⟩
    exact ⟨none,⟨rfl,trivial⟩,rfl,rfl⟩
  .rw [if_pos rfl]
   have hc:=nck_el hE
   refine ⟨[],false,_,_,impl_NecklaceAt (n.getD 0 0) (n.getD 1 0) (n.getD 2 0) _ (fun h=>by rw [hE] at h;cases h) (fun _=>rfl),List.nodup_nil,rfl,rfl,trivial,⟨⟨fun _=>?_,nofun⟩,⟨fun _=>?_,nofun⟩⟩,⟨fun _=>?_,nofun⟩⟩
   all_goals
    refine ⟨[],false,_,_,impl_FormatWord true _ (col_in hc) (by have:=hc.2;omega),List.nodup_nil,rfl,rfl,trivial,[],false,_,_,impl_orNone _ true,List.nodup_nil,rfl,rfl,trivial,?_⟩
    exact ⟨none,⟨rfl,trivial⟩,rfl,rfl⟩
 rw [if_neg h5]
 refine ⟨fun h6=>?_,fun h6=>?_⟩
 .rw [if_pos h6]
  have i0:0<n.length:=by omega
  have i1:1<n.length:=by omega
  refine ⟨some 4000,[0,1,2,3,4,5],.one 6 (.one 7 (.two 8 (.two 9 (.one 10 (.one 11 .done)) 10 (.one 9 (.one 11 .done))) 9 (.one 8 (.one 10 (.one 11 .done))))),by kernel_rfl,rfl,?_⟩
  refine ⟨0,rfl,i0,1,rfl,i1,?_⟩
  cases hE:woaB (n.getD 0 0) (n.getD 1 0)
  .refine ⟨[],false,_,_,impl_WordOfAll (n.getD 0 0) (n.getD 1 0) _ _ (fun _=>⟨rfl,rfl⟩) (fun h=>by rw [hE] at h;cases h),List.nodup_nil,rfl,rfl,trivial,⟨⟨nofun,fun _=>?_⟩,⟨nofun,fun _=>?_⟩⟩,⟨nofun,fun _=>?_⟩⟩
   all_goals
    refine ⟨0,rfl,Nat.le_refl _,Nat.le_refl _,?_⟩
    refine ⟨[],false,_,_,impl_FormatWord_nil,List.nodup_nil,rfl,rfl,trivial,[],false,_,_,impl_orNone _ false,List.nodup_nil,rfl,rfl,trivial,?_⟩
    exact ⟨none,⟨rfl,trivial⟩,rfl,rfl⟩
  .rw [if_pos rfl]
   have hE2:=hE
   unfold woaB lenN smallB at hE2
   simp only [Bool.and_eq_true,decide_eq_true_eq] at hE2
   have hel:=woa_el (n:=(n.getD 0 0).toNat) (k:=(n.getD 1 0).toNat) (by omega) (by omega)
   have hC:=impl_WordOfAll (n.getD 0 0) (n.getD 1 0) _ _ (fun h=>by rw [hE] at h;cases h) (fun _=>⟨rfl,rfl⟩)
   generalize woaL (n.getD 0 0).toNat (n.getD 1 0).toNat=L at*
   have h64:In64 (L.take 10):=in64_of (B:=4) (by decide) fun x hx=>by have:=hel x (List.mem_of_mem_take hx);omega
   have hmin:∃j:Nat,(if ((L.length:Nat):Int)<10 then ((L.length:Nat):Int) else 10)=(j:Int)/\j<=L.length/\L.take j=L.take 10/\j<=10:=by
    by_cases h:L.length<10
    .exact ⟨L.length,by rw [if_pos (by omega)],Nat.le_refl _,by rw [List.take_length,List.take_of_length_le (by omega)],by omega⟩
    .exact ⟨10,by rw [if_neg (by omega)];rfl,by omega,rfl,Nat.le_refl _⟩
   obtain ⟨j,j1,j2,j3,j4⟩:=hmin
   have hF:=impl_FormatWord true ((L.take j).drop 0) (by rw [List.drop_zero,j3];exact h64) (by rw [List.drop_zero,List.length_take];omega)
   have hd:(L.take j).drop 0=L.take j:=rfl
   rw [<-j3]
   refine ⟨[],true,_,_,hC,List.nodup_nil,rfl,rfl,trivial,⟨⟨fun _=>?_,nofun⟩,⟨fun _=>?_,nofun⟩⟩,⟨fun _=>?_,nofun⟩⟩
   all_goals
    refine ⟨j,j1,Nat.zero_le _,j2,?_⟩
    refine ⟨[],false,_,_,hF,List.nodup_nil,rfl,rfl,trivial,[],false,_,_,impl_orNone _ true,List.nodup_nil,rfl,rfl,trivial,?_⟩
    exact ⟨none,⟨rfl,trivial⟩,rfl,rfl⟩
 rw [if_neg h6]
 refine ⟨fun h7=>?_,fun h7=>?_⟩
 .rw [if_pos h7]
  have hb:=cg_b (n.getD 0 0)
  refine ⟨0,rfl,by omega,[],false,_,_,impl_CountGraphs (n.getD 0 0),List.nodup_nil,rfl,rfl,trivial,[],false,_,_,impl_FormatInt _ (by omega) (by omega),List.nodup_nil,rfl,rfl,trivial,?_⟩
  exact ⟨none,⟨rfl,trivial⟩,rfl,rfl⟩
 rw [if_neg h7]
 refine ⟨fun h8=>?_,fun h8=>?_⟩
 .rw [if_pos h8]
  have i0:0<n.length:=by omega
  have i1:1<n.length:=by omega
  have hb:=cgw_b (n.getD 0 0) (n.getD 1 0)
  refine ⟨some 2000,[0,1,2,3,4,5],[6,7,8],by kernel_rfl,rfl,?_⟩
  refine ⟨0,rfl,i0,1,rfl,i1,?_⟩
  refine ⟨[],false,_,_,impl_CountGraphsWith (n.getD 0 0) (n.getD 1 0),List.nodup_nil,rfl,rfl,trivial,[],false,_,_,impl_FormatInt _ (by omega) (by omega),List.nodup_nil,rfl,rfl,trivial,?_⟩
  exact ⟨none,⟨rfl,trivial⟩,rfl,rfl⟩
 rw [if_neg h8]
 refine ⟨fun h9=>?_,fun h9=>?_⟩
 .rw [if_pos h9]
  have i0:0<n.length:=by omega
  have b1:=root_b (n.getD 0 0)
  have b2:=free_b2 (n.getD 0 0)
  refine ⟨some 2000,[0,1,2,4,5,6],[3,7,8,9,10],by kernel_rfl,rfl,?_⟩
  refine ⟨0,rfl,i0,0,rfl,i0,?_⟩
  refine ⟨[],false,_,_,impl_CountRooted _,List.nodup_nil,rfl,rfl,trivial,[],false,_,_,impl_CountFree _,List.nodup_nil,rfl,rfl,trivial,rfl,by decide,false,?_⟩
  refine ⟨[],false,_,_,impl_commas true [rootN (n.getD 0 0),freeN (n.getD 0 0)] [32] (in64_2 (by omega) (by omega)) (show 2<=1048576 by decide) (by decide),List.nodup_nil,rfl,rfl,trivial,?_⟩
  exact ⟨none,⟨rfl,trivial⟩,rfl,rfl⟩
 rw [if_neg h9]
 exact ⟨none,⟨rfl,trivial⟩,rfl,rfl⟩
end Go.Proofs.YtacjiemkbhhhoaaGreatDoor
set_option linter.unusedVariables false
namespace Go.Proofs.YtacjiemkbhhhoaaGreatDoor
open Go Go.Proofs.YtacjiemkbhhhoaaGreatDoor.Ow
theorem clnS_len (g:List (List Int)) (k:Int) (hl:g.length<=1048576):(clnS g k).length<=1000:=by
 have l0:=fI_len (g.length:Int) (by omega)
 have l1:=fI_len (colI g k) (colI_b g k)
 have l2:=fI_len (cexI g k) (cexI_b g k)
 unfold clnS
 split
 .simp only [List.length_append,List.length_cons,List.length_nil];omega
 .decide
theorem kindW_len (xs:List Int):(kindW xs).length<=10:=by
 unfold kindW
 split
 .decide
 .split<;>decide
theorem wordLine_len (xs:List Int):(wordLine xs).length<=1000:=by
 unfold wordLine
 split
 .rename_i h
  have hP:=(colB_iff _).1 h
  have h2:=hP.2
  have hp:=perW_le xs (by omega)
  have hfw:=fmtN_len64 (perW xs) (by omega)
  have hfo:=formatW_len (least xs)
  have hk:=kindW_len xs
  simp only [List.length_append,List.length_cons,List.length_nil];omega
 .decide
theorem fmtWs_len (xss:List (List Int)) (hl:xss.length<=1048576):(fmtWs xss).length<=140737488355328:=by
 have:=fws_len xss hl
 unfold fmtWs
 split
 .decide
 .exact this
theorem two_len {xs:List Int} (h:In64 xs) (hl:xs.length<=10):(Lib.join (xs.map fmtI) [32]).length<=140737488355328:=by
 have:=fmts_len xs [32] h (by omega) (by decide)
 omega
theorem wlnS_len (g:List (List Int)) (w arg:List UInt8):(wlnS g w arg).length<=140737488355328:=by
 unfold wlnS
 split
 .split
  .rename_i hr
   have ht:(rdT arg).1.length<=1048576:=by
    unfold readB at hr
    simp only [Bool.and_eq_true,decide_eq_true_eq] at hr
    have:=((treeB_iff _).1 hr.2.1).1
    omega
   have hb:=height_b (rdT arg).1 ht
   exact two_len (in64_2 (ren_b _) (by omega)) (show 2<=10 by decide)
  .decide
 split
 .rename_i hc
  have hP:=(colB_iff _).1 hc
  split
  .split
   .have:=formatW_len (canL g (psL arg));omega
   .decide
  split
  .have:=wordLine_len (psL arg);omega
  split
  .exact fmtWs_len _ (by have:=(lyfL_el hP).1;omega)
  .decide
 .decide
theorem nlnS_len (g:List (List Int)) (w:List UInt8) (n:List Int) (hl:g.length<=1048576):(nlnS g w n).length<=140737488355328:=by
 have hf:∀z:Int,-9223372036854775808<=z/\z<=9223372036854775807->(fmtI z).length<=140737488355328:=fun z h=>by have:=fI_len z h;omega
 have hp:∀(k:Int) (p:List Int->Bool),epB g k=true->((wordsL k.toNat (g.getD 0 []).length).filter p).length<=1048576:=fun k p h=>by
  obtain ⟨hB,K,hk,k1,k4,hs,hS⟩:=epB_of h
  have h0:=g0_len hB
  rw [show k.toNat=K by omega]
  exact (flt_ok (p:=p) h0.1 h0.2 k4 hs).1
 unfold nlnS
 split
 .have:=clnS_len g (n.getD 0 0) hl;omega
 split
 .split
  .rename_i h;exact fmtWs_len _ (by rw [patL_eq];exact hp _ _ h)
  .decide
 split
 .split
  .rename_i h;exact fmtWs_len _ (hp _ _ h)
  .decide
 split
 .have b1:=neck_b (n.getD 0 0) (n.getD 1 0)
  have b2:=brac_b (n.getD 0 0) (n.getD 1 0)
  have b3:=lyn_b (n.getD 0 0) (n.getD 1 0)
  exact two_len (in64_3 (by omega) (by omega) (by omega)) (show 3<=10 by decide)
 split
 .split
  .have:=formatW_len ((neckL (n.getD 0 0).toNat (n.getD 1 0).toNat).getD (n.getD 2 0).toNat []);omega
  .decide
 split
 .split
  .have:=formatW_len ((woaL (n.getD 0 0).toNat (n.getD 1 0).toNat).take 10);omega
  .decide
 split
 .have:=cg_b (n.getD 0 0);exact hf _ (by omega)
 split
 .have:=cgw_b (n.getD 0 0) (n.getD 1 0);exact hf _ (by omega)
 split
 .have b1:=root_b (n.getD 0 0)
  have b2:=free_b2 (n.getD 0 0)
  exact two_len (in64_2 (by omega) (by omega)) (show 2<=10 by decide)
 .decide
end Go.Proofs.YtacjiemkbhhhoaaGreatDoor
set_option linter.unusedVariables false
namespace Go.Proofs.YtacjiemkbhhhoaaGreatDoor
open Go Go.RowKit Go.Sort Go.Lib Go.Proofs.YtacjiemkbhhhoaaGreatDoor.Ow
def apR (u v:Value):Prop:=∀(p q:Addr) (l c l' c':Nat),u=.slice (some p) l c->v=.slice (some q) l' c'->l≠0->l'≠0->p.block≠q.block
theorem apR_symm {u v:Value} (h:apR u v):apR v u:=fun p q l c l' c' h1 h2 k1 k2 e=>h q p l' c' l c h2 h1 k2 k1 e.symm
theorem AC.frzw1 {P:Program} {f:FuncId} {args:List AV} {e:TypeId} {d:Bool} {xs:List Int} (h:AC P f args [] [.ow 0] [.sl e .int xs]):AC P f args [] [.d true (.sw e d) xs] []:=by
 refine ⟨h.1,fun w bs A vs hr hv=>(h.2 w bs A vs hr hv).mono ?_⟩
 rintro ex w' ⟨rv,bs',A',rfl,hrok,hres,hstep,⟨new,rfl⟩,hstay,hup⟩
 have hbs:bs=[]:=List.eq_nil_of_length_eq_zero (by rw [hr.len];rfl)
 subst hbs
 obtain ⟨b,e2,t2,xs2,cur,h1,h2,h3,h4⟩:=hres
 cases h2
 obtain ⟨hA,cur2,c1,c2,c3,c4⟩:=hrok.row 0 b _ h1 rfl
 rw [h3] at c1;cases c1
 have hb:=List.mem_of_getElem? h1
 have hnew:w.heap.size<=b:=by
  rcases hstep.sbs b hb with h|h
  .simp at h
  .exact h
 refine ⟨rv,[],fun x=>A' x\/x=b,rfl,⟨rfl,List.nodup_nil,fun b hb=>by simp at hb,fun x hx=>?_,fun i b r hb=>by simp at hb⟩,?_,⟨hstep.os,hstep.tape,hstep.output,hstep.size,fun k hk _=>hstep.block k hk (by simp),fun b hb=>by simp at hb,fun x hx=>?_⟩,⟨[],rfl⟩,fun b hb=>by simp at hb,fun x hx=>.inl (hup x hx)⟩
 .rcases hx with hx|hx
  .exact hrok.old x hx
  .rw [hx];exact hrok.lt b hb
 .show RdW _ _ _ _ _
  by_cases hx:xs=[]
  .subst hx;exact .inl ⟨rfl,_,_,h4,fun hh=>by cases hh⟩
  .refine .inr ⟨hx,b,cur,h4,.inr rfl,h3,c2,c3,fun j hj=>?_⟩
   obtain ⟨cv,k1,k2⟩:=c4.c j hj
   rw [k1];exact congrArg some k2
 .rcases hx with hx|hx
  .rcases hstep.sA x hx with h|h|h
   .exact .inl h
   .exact .inr (.inl h)
   .simp at h
  .exact .inr (.inl (by rw [hx];exact hnew))
theorem slices_SortFunc_sw (e e0:Nat) (xss yss:List (List Int)) (hl:xss.length<=1048576) (h0:xss≠[]) (hne:∀xs∈xss,xs≠[]/\xs.length<=1048576) (hp:yss.Perm xss) (hs:yss.Pairwise fun x y=>¬cmpI y x<0):
 AC Tryz.prog 140 [.ow 0,.fn 141 []] [.sl e (.sw e0 true) xss] [] [.sl e (.sw e0 true) yss]:=by
 refine ⟨⟨_,_,Tryz.func140,rfl,by kernel_rfl⟩,fun w bs A vs hok hvs=>?_⟩
 obtain ⟨v,r,rfl,⟨b,e',t,xs',cur,hb,hx,hc,rfl⟩,⟨v2,r2,rfl,⟨vs2,rfl,hvs2⟩,h3⟩⟩:=hvs
 cases h3
 cases hvs2
 cases hx
 have hrow:=hok.row 0 b _ hb rfl
 obtain ⟨hA,cur2,c1,c2,c3,c4⟩:=hrow
 rw [hc] at c1;cases c1
 have hbl:=hok.lt b (List.mem_of_getElem? hb)
 have hbs:bs=[b]:=by
  have hlen:=hok.len
  match bs,hb,hlen with
  |[x],hb,_=>simp at hb;rw [hb]
 subst hbs
 obtain ⟨l,hll,hlp⟩:=exList (α:=El w A) xss.length (fun j x=>cur[j]? =some (enE x)/\xss[j]? =some x.1.2/\RdW w A e0 x.1.2 x.1.1) (fun j hj=>by
  obtain ⟨cv,g1,g2⟩:=c4 j hj
  exact ⟨⟨(cv,xss[j]),hne _ (List.getElem_mem hj),RdW.rd g2⟩,g1,List.getElem?_eq_getElem hj,g2⟩)
 have hl0:0<l.length:=by rw [hll];exact List.length_pos_iff.2 h0
 haveI:Inhabited (El w A):=⟨l[0]⟩
 have hmap:l.map (fun x=>x.1.2)=xss:=by
  apply List.ext_getElem?
  intro j
  rw [List.getElem?_map]
  by_cases hj:j<l.length
  .rw [List.getElem?_eq_getElem hj,(hlp j hj).2.1];rfl
  .rw [List.getElem?_eq_none (by omega),List.getElem?_eq_none (by omega)];rfl
 have hH:Holds enE w b 0 l.toArray:=by
  intro j hj
  have hj':j<l.length:=by simpa using hj
  refine ⟨?_,frozen_row w b _ cur e hc⟩
  rw [Nat.zero_add,cell_of_row w b j cur e (0,0) hc,(hlp j hj').1]
  simp [hj']
 have key:=Tryz.slices_SortFunc enE enE_one cfE swoE 141 #[] b 0 cur.size l.toArray w run_cmp (cmpLaysE b _ hA) hH hbl (by simp;omega)
 rw [List.size_toArray,hll] at key
 refine key.mono ?_
 rintro ex w' ⟨rfl,d',n,os,hperm,hsort,rfl⟩
 have hsz':d'.size=xss.length:=by have:=hperm.1;simpa [hll] using this
 have hpp:d'.toList.Perm l:=by
  have h1:=hperm.2.2
  have e1:d'.extract 0 xss.length=d':=by rw [<-hsz'];exact Array.extract_size
  have e2:l.toArray.extract 0 xss.length=l.toArray:=by rw [<-hll,<-List.size_toArray];exact Array.extract_size
  rw [e1,e2] at h1
  simpa using h1
 have hwh:∀x∈d'.toList,RdW w A e0 x.1.2 x.1.1:=fun x hx=>by
  obtain ⟨j,hj,rfl⟩:=List.getElem_of_mem (hpp.subset hx)
  exact (hlp j hj).2.2
 have hap:(d'.toList.map enE).Pairwise apR:=by
  refine (List.Perm.pairwise_iff (fun {x y} h=>apR_symm h) (hpp.map enE)).2 ?_
  rw [List.pairwise_iff_getElem]
  intro i j hi hj hij p q l1 c1 l2 c2 h1 h2 k1 k2
  have hi':i<l.length:=by simpa using hi
  have hj':j<l.length:=by simpa using hj
  simp only [List.getElem_map] at h1 h2
  have hdd:DstV cur xss.length:=c4.d
  exact hdd i j hij (by omega) p q l1 c1 l2 c2 (by rw [(hlp i hi').1,h1]) (by rw [(hlp j hj').1,h2]) k1 k2
 have hys:d'.toList.map (fun x=>x.1.2)=yss:=by
  refine List.Perm.eq_of_pairwise (le:=fun x y=>¬cmpI y x<0) (fun a b _ _ h1 h2=>?_) ?_ hs ?_
  .have:=cmpI_neg a b
   exact cmpI_eq _ _ (by omega)
  .rw [List.pairwise_map,List.pairwise_iff_getElem]
   intro i j hi hj hij
   have hi':i<d'.size:=by simpa using hi
   have hj':j<d'.size:=by simpa using hj
   have:=hsort i j (Nat.zero_le _) hij (by omega)
   rw [getElem!_pos d' j hj',getElem!_pos d' i hi'] at this
   have this:¬cmpI d'[j].1.2 d'[i].1.2<0:=of_decide_eq_false this
   simpa using this
  .have h1:=hpp.map (fun x:El w A=>x.1.2)
   rw [hmap] at h1
   exact h1.trans hp.symm
 have hyl:yss.length=xss.length:=hp.length_eq
 have hold:∀k,k<w.heap.size->k≠b->(sortWorld enE w b 0 n d' os).heap[k]? =w.heap[k]? :=by
  intro k hk hkb
  unfold sortWorld
  rw [heap_grow_old _ _ (by simpa using hk),putRow_other _ _ _ _ _ hkb];rfl
 have hnew:(sortWorld enE w b 0 n d' os).heap[b]? =some (.cells (putCells enE 0 d' cur) e (0,0)):=by
  unfold sortWorld
  rw [heap_grow_old _ _ (by simpa using hbl)]
  exact putRow_block enE (Go.Sort.ahead w n) b _ cur e hc
 have hsz:(putCells enE 0 d' cur).size=cur.size:=by simp [putCells]
 have hws:w.heap.size<=(sortWorld enE w b 0 n d' os).heap.size:=by simp [sortWorld]
 refine ⟨.tuple #[],[b],A,rfl,⟨rfl,hok.nodup,fun x hx=>?_,fun x hx=>?_,?_⟩,⟨[],rfl,rfl⟩,⟨rfl,rfl,rfl,hws,?_,fun x hx=>.inl hx,fun x hx=>.inl hx⟩,⟨[],rfl⟩,?_,fun x hx=>hx⟩
 .have:=hok.lt x hx;omega
 .have:=hok.old x hx;omega
 .intro i b2 r hb2 hr2
  match i,hb2,hr2 with
  |0,hb2,hr2=>
   simp at hb2 hr2
   subst hb2;subst hr2
   refine ⟨hA,_,hnew,by rw [hsz,hyl];exact c2,by rw [hsz];exact c3,fun j hj=>?_,?_⟩
   rotate_left
   .intro i j hij hj p q l1 q1 l2 q2 g1 g2 k1 k2
    have hi':i<d'.size:=by omega
    have hj':j<d'.size:=by omega
    rw [putCells_get _ _ _ _ hi' (by omega),getElem!_pos d' i hi'] at g1
    rw [putCells_get _ _ _ _ hj' (by omega),getElem!_pos d' j hj'] at g2
    have:=(List.pairwise_iff_getElem.1 hap) i j (by simpa using hi') (by simpa using hj') hij p q l1 q1 l2 q2 (by simpa using g1) (by simpa using g2) k1 k2
    exact this
   have hj':j<d'.size:=by omega
   refine ⟨enE d'[j],?_,?_⟩
   .rw [putCells_get _ _ _ _ hj' (by omega),getElem!_pos d' j hj']
   .have e3:yss[j]=d'[j].1.2:=by simp [<-hys]
    rw [e3]
    exact RdW.ext (fun k hk hlt=>⟨hold k hlt (fun e=>hA (e ▸ hk)),hk⟩) (hwh d'[j] (by simp))
  |i+1,hb2,_=>simp at hb2
 .intro k hk hkb
  exact hold k hk (by simpa using hkb)
 .intro x hx cur2 e2 hc2
  simp at hx;subst hx
  rw [hc] at hc2;cases hc2
  exact ⟨_,hnew,hsz⟩
theorem impl_GroupOf_1w (sh:Bool) (x q:List Int) (hx:x.length<=1048576) (hq:q.length<=1048576):AC Tryz.prog 138 [.d sh (.sl .int) x,.ptr 0 0] [.box 29 (.d true (.sw 3 false) q)] [.d true .bool (decide (x=q))] [.box 29 (.d true (.sw 3 false) q)]:=by
 refine AC_of tauOk 7 1 [3] Tryz.func138 rfl (by kernel_rfl) rfl rfl rfl rfl rfl ?_
 refine ⟨rfl,[],false,_,_,slices_Equal_int sh true x q hx hq,List.nodup_nil,rfl,rfl,trivial,fun h=>?_,fun h=>?_⟩
 .exact ⟨none,⟨retB h,trivial⟩,rfl,rfl⟩
 .exact ⟨none,⟨retB h,trivial⟩,rfl,rfl⟩
theorem impl_GroupOf_w (sh:Bool) (n:Nat) (gens R S:List (List Int)) (h1:1<=n) (hn:n<11) (hg:GenP n gens) (hR:bfsI n gens 200 0 [idL n]=some R)
 (hp:S.Perm R) (hs:S.Pairwise fun x y=>¬cmpI y x<0) (hS:S.length<=120/\S≠[]/\∀x∈S,x≠[]/\x.length<=1048576):
 AC Tryz.prog 55 [I (n:Nat),.d sh (.sl (.sl .int)) gens] [] [.ow 0,.d true .bool true] [.sl 29 (.sw 3 true) S]:=by
 have hgl:=hg.1
 refine AC_of (tauSOk true) 70 0 [4,5] Tryz.func55 rfl (by kernel_rfl) rfl rfl rfl rfl rfl ?_
 refine ⟨fun h=>by omega,fun _=>?_⟩
 refine ⟨fun h=>by omega,fun _=>?_⟩
 refine ⟨Nat,fun k=>⟨[(0,I (n:Nat)),(1,.d sh (.sl (.sl .int)) gens),(19,.d sh (.sl (.sl .int)) gens),(20,I gens.length),(21,I (k:Nat))],[]⟩,fun k=>k<=gens.length,fun k=>gens.length-k,0,Nat.zero_le _,
  ⟨⟨rfl,rfl⟩,⟨rfl,rfl,rfl,rfl,rfl,trivial⟩,trivial⟩,fun k hk=>?_⟩
 dsimp only at hk
 refine ⟨fun h2=>?_,fun h2=>?_⟩
 .have hk2:k<gens.length:=by omega
  have hp:=hg.2 k hk2
  refine ⟨k,rfl,hk2,[],false,_,_,impl_PermOk sh (gens.getD k []) (by omega),List.nodup_nil,rfl,rfl,trivial,fun h3=>?_,fun h3=>by rw [hp.1] at h3;cases h3⟩
  refine ⟨fun h4=>(h4 (by omega)).elim,fun _=>?_⟩
  exact ⟨((k+1:Nat):Int),w64_eq (by omega) (by omega) (by omega),k+1,by dsimp only;omega,by dsimp only;omega,⟨rfl,rfl⟩,⟨rfl,rfl,rfl,rfl,rfl,trivial⟩,trivial⟩
 .clear h2
  refine ⟨[],false,_,_,AC.frzw1 (d:=false) (impl_IdentityPerm n h1 (by omega)),List.nodup_nil,rfl,rfl,trivial,?_⟩
  refine ⟨rfl,by decide,true,Nat.le_refl 1,?_⟩
  refine ⟨Nat × List (List Int),fun i=>⟨[(0,I (n:Nat)),(1,.d sh (.sl (.sl .int)) gens),(8,.ow 0),(9,I (i.1:Nat))],[.sl 29 (.sw 3 true) i.2]⟩,
   fun i=>i.1<=200/\bfsI n gens (200-i.1) i.1 i.2=some R,fun i=>200-i.1,(0,[idL n]),⟨Nat.zero_le _,hR⟩,
   ⟨⟨rfl,rfl⟩,⟨rfl,rfl,rfl,rfl,trivial⟩,rfl,trivial⟩,?_⟩
  rintro ⟨a,q⟩ ⟨ha,hb⟩
  dsimp only at ha hb
  obtain ⟨f,hf,hcase⟩:=bfsI_some hb
  refine ⟨fun h3=>?_,fun h3=>?_⟩
  .dsimp only at h3
   rcases hcase with ⟨haq,o,ho,hR2⟩|⟨haq,_⟩
   .refine ⟨Nat × List (List Int),fun i=>⟨[(0,I (n:Nat)),(1,.d sh (.sl (.sl .int)) gens),(8,.ow 0),(9,I (a:Nat)),(44,.d sh (.sl (.sl .int)) gens),(45,I gens.length),(46,I (i.1:Nat))],[.sl 29 (.sw 3 true) i.2]⟩,
     fun i=>i.1<=gens.length/\innI n a (gens.drop i.1) i.2=some o,fun i=>gens.length-i.1,(0,q),⟨Nat.zero_le _,ho⟩,
     ⟨⟨rfl,rfl⟩,⟨rfl,rfl,rfl,rfl,rfl,rfl,rfl,trivial⟩,rfl,trivial⟩,?_⟩
    rintro ⟨j,q'⟩ ⟨hj,hin⟩
    dsimp only at hj hin
    refine ⟨fun h4=>?_,fun h4=>?_⟩
    .dsimp only at h4
     have hj2:j<gens.length:=by omega
     have hp:=hg.2 j hj2
     rw [drop_c gens j [] hj2] at hin
     obtain ⟨⟨⟨c2,c3⟩,c4,c5⟩,c6⟩:=innI_cons hin
     have c7:=okP_iff c4
     have hel:=exL_len (q'.getD a []) (gens.getD j [])
     refine ⟨j,rfl,hj2,a,rfl,c3,?_⟩
     refine ⟨[],false,_,_,AC.frzw1 (d:=false) (impl_compose true sh (q'.getD a []) (gens.getD j []) (by omega) (fun i hi=>by rw [hp.2];exact c7.2 i hi)),List.nodup_nil,rfl,rfl,trivial,?_⟩
     have hql:∀i,i<q'.length->(q'.getD i []).length<=1048576:=fun i hi=>by have:=c5 i hi;omega
     refine ⟨rfl,rfl,[1],false,_,_,slices_ContainsFunc_ints 138 29 (.sw 3 false) (exL (q'.getD a []) (gens.getD j [])) (fun x=>decide (x=exL (q'.getD a []) (gens.getD j []))) false q' (by omega) (fun i hi=>impl_GroupOf_1w false _ _ (hql i hi) (by omega)),by decide,rfl,rfl,⟨⟨rfl,trivial⟩,trivial⟩,fun h5=>?_,fun h5=>?_⟩
     .rcases c6 with ⟨_,c6⟩|⟨c6,_⟩
      .exact ⟨((j+1:Nat):Int),w64_eq (by omega) (by omega) (by omega),(j+1,q'),⟨by dsimp only;omega,c6⟩,by dsimp only;omega,⟨rfl,rfl⟩,⟨rfl,rfl,rfl,rfl,rfl,rfl,rfl,trivial⟩,rfl,trivial⟩
      .rw [c6] at h5;cases h5
     .rcases c6 with ⟨c6,_⟩|⟨_,c8,c6⟩
      .rw [c6] at h5;cases h5
      .refine ⟨fun h6=>by dsimp only at h6;omega,fun _=>?_⟩
       have hap:ApW q' [exL (q'.getD a []) (gens.getD j [])]:=⟨Nat.le_refl 1,fun x hx y hy=>by
        rw [List.mem_singleton.1 hy]
        obtain ⟨i,hi,rfl⟩:=List.getElem_of_mem hx
        have h8:=c5 i hi
        rw [getD_get _ _ _ hi] at h8
        refine ⟨by omega,fun e=>?_⟩
        rw [List.any_eq_true.2 ⟨_,List.getElem_mem hi,decide_eq_true e⟩] at h5
        cases h5⟩
       refine ⟨rfl,rfl,by decide,false,?_⟩
       refine ⟨rfl,Nat.zero_le _,rfl,by simp only [List.length_cons,List.length_nil];omega,rfl,hap,?_⟩
       exact ⟨((j+1:Nat):Int),w64_eq (by omega) (by omega) (by omega),(j+1,q'++[exL (q'.getD a []) (gens.getD j [])]),⟨by dsimp only;omega,c6⟩,by dsimp only;omega,⟨rfl,rfl⟩,⟨rfl,rfl,rfl,rfl,rfl,rfl,rfl,trivial⟩,rfl,trivial⟩
    .dsimp only at h4
     obtain rfl:j=gens.length:=by omega
     rw [List.drop_length] at hin
     obtain rfl:o=q':=(Option.some.inj hin).symm
     exact ⟨((a+1:Nat):Int),w64_eq (by omega) (by omega) (by omega),(a+1,o),⟨by dsimp only;omega,by dsimp only;rw [show 200-(a+1)=f from by omega];exact hR2⟩,by dsimp only;omega,⟨rfl,rfl⟩,⟨rfl,rfl,rfl,rfl,trivial⟩,rfl,trivial⟩
   .omega
  .dsimp only at h3
   rcases hcase with ⟨haq,_⟩|⟨_,rfl⟩
   .omega
   .have hRl:=hp.length_eq
    refine ⟨[0],false,_,_,slices_SortFunc_sw 29 3 q S (by omega) (by intro e;rw [e] at hRl;exact hS.2.1 (List.length_eq_zero_iff.1 hRl)) (fun x hx=>hS.2.2 x (hp.symm.subset hx)) hp hs,by decide,rfl,rfl,⟨⟨hRl,rfl,rfl⟩,trivial⟩,?_⟩
    exact ⟨some 0,⟨⟨rfl,rfl⟩,rfl,trivial⟩,⟨rfl,rfl⟩,rfl⟩
end Go.Proofs.YtacjiemkbhhhoaaGreatDoor
set_option linter.unusedVariables false
namespace Go.Proofs.YtacjiemkbhhhoaaGreatDoor
open Go Go.Proofs.YtacjiemkbhhhoaaGreatDoor.Ow
theorem impl_IdentityPerm_no (n:Int) (h:¬(1<=n/\n<=10)):AC Tryz.prog 135 [I n] [] [.nil] []:=by
 refine AC_of tauOk 24 0 [2] Tryz.func135 rfl (by kernel_rfl) rfl rfl rfl rfl rfl ?_
 refine ⟨fun _=>?_,fun h1=>?_⟩
 .exact ⟨none,⟨rfl,trivial⟩,rfl,rfl⟩
 .refine ⟨fun _=>?_,fun h2=>?_⟩
  .exact ⟨none,⟨rfl,trivial⟩,rfl,rfl⟩
  .exact (h (by omega)).elim
theorem impl_turn_no (n:Int) (h:¬(1<=n/\n<=10)):AC Tryz.prog 56 [I n] [] [.nil] []:=by
 refine AC_of tauOk 21 0 [2] Tryz.func56 rfl (by kernel_rfl) rfl rfl rfl rfl rfl ?_
 refine ⟨[],false,_,_,impl_IdentityPerm_no n h,List.nodup_nil,rfl,rfl,trivial,?_⟩
 refine ⟨Unit,fun _=>⟨[(0,I n),(3,.nil),(8,I 0),(9,I 0)],[]⟩,fun _=>True,fun _=>0,(),trivial,
  ⟨⟨rfl,rfl⟩,⟨rfl,rfl,rfl,rfl,trivial⟩,trivial⟩,fun _ _=>?_⟩
 refine ⟨fun h1=>by omega,fun h1=>?_⟩
 exact ⟨none,⟨rfl,trivial⟩,rfl,rfl⟩
theorem slices_Reverse_nil:AC Tryz.prog 145 [.nil] [] [] []:=by
 refine AC_of tauOk 28 0 [] Tryz.func145 rfl (by kernel_rfl) rfl rfl rfl rfl rfl ?_
 refine ⟨-1,w64_in _ (by omega) (by omega),?_⟩
 refine ⟨Unit,fun _=>⟨[(0,.nil),(2,I 0),(3,I (-1))],[]⟩,fun _=>True,fun _=>0,(),trivial,
  ⟨⟨rfl,rfl⟩,⟨rfl,rfl,rfl,trivial⟩,trivial⟩,fun _ _=>?_⟩
 refine ⟨fun h1=>by omega,fun h1=>?_⟩
 exact ⟨none,trivial,rfl,rfl⟩
theorem impl_GroupOf_n (sh:Bool) (n:Int) (gens:List (List Int)) (h:¬(1<=n/\n<=10)):AC Tryz.prog 55 [I n,.d sh (.sl (.sl .int)) gens] [] [.nil,.d true .bool false] []:=by
 refine AC_of tauOk 70 0 [4,5] Tryz.func55 rfl (by kernel_rfl) rfl rfl rfl rfl rfl ?_
 refine ⟨fun _=>?_,fun h1=>?_⟩
 .exact ⟨none,⟨rfl,rfl,trivial⟩,rfl,rfl⟩
 .refine ⟨fun _=>?_,fun h2=>?_⟩
  .exact ⟨none,⟨rfl,rfl,trivial⟩,rfl,rfl⟩
  .exact (h (by omega)).elim
def genB (n:Nat) (gens:List (List Int)):Bool:=gens.all fun p=>permB p && decide (p.length=n)
theorem impl_GroupOf_g (sh:Bool) (n:Nat) (h1:1<=n) (hn:n<11) (gens:List (List Int)) (hl:gens.length<=1048576) (hx:∀i,i<gens.length->(gens.getD i []).length<=1048576) (hB:genB n gens=false):
 AC Tryz.prog 55 [I (n:Nat),.d sh (.sl (.sl .int)) gens] [] [.nil,.d true .bool false] []:=by
 refine AC_of tauOk 70 0 [4,5] Tryz.func55 rfl (by kernel_rfl) rfl rfl rfl rfl rfl ?_
 refine ⟨fun h=>by omega,fun _=>?_⟩
 refine ⟨fun h=>by omega,fun _=>?_⟩
 refine ⟨Nat,fun k=>⟨[(0,I (n:Nat)),(1,.d sh (.sl (.sl .int)) gens),(19,.d sh (.sl (.sl .int)) gens),(20,I gens.length),(21,I (k:Nat))],[]⟩,fun k=>k<=gens.length/\genB n (gens.take k)=true,fun k=>gens.length-k,0,⟨Nat.zero_le _,rfl⟩,
  ⟨⟨rfl,rfl⟩,⟨rfl,rfl,rfl,rfl,rfl,trivial⟩,trivial⟩,?_⟩
 rintro k ⟨hk,hg⟩
 refine ⟨fun h2=>?_,fun h2=>?_⟩
 .have hk2:k<gens.length:=by omega
  refine ⟨k,rfl,hk2,[],false,_,_,impl_PermOk sh (gens.getD k []) (hx k hk2),List.nodup_nil,rfl,rfl,trivial,fun h3=>?_,fun h3=>?_⟩
  .refine ⟨fun h4=>?_,fun h4=>?_⟩
   .exact ⟨none,⟨rfl,rfl,trivial⟩,rfl,rfl⟩
   .refine ⟨((k+1:Nat):Int),w64_eq (by omega) (by omega) (by omega),k+1,⟨by omega,?_⟩,by dsimp only;omega,⟨rfl,rfl⟩,⟨rfl,rfl,rfl,rfl,rfl,trivial⟩,trivial⟩
    unfold genB at hg ⊢
    rw [L_succ gens k [] hk2,List.all_append,hg,List.all_cons,h3,decide_eq_true (show (gens.getD k []).length=n by omega)];rfl
  .exact ⟨none,⟨rfl,rfl,trivial⟩,rfl,rfl⟩
 .obtain rfl:k=gens.length:=by omega
  rw [List.take_length,hB] at hg
  cases hg
theorem impl_CyclicGroup_no (n:Int) (h:¬(1<=n/\n<=10)):AC Tryz.prog 27 [I n] [] [.nil,.d true .bool false] []:=by
 refine AC_of tauOk 11 0 [2,3] Tryz.func27 rfl (by kernel_rfl) rfl rfl rfl rfl rfl ?_
 refine ⟨[],false,_,_,impl_turn_no n h,List.nodup_nil,rfl,rfl,trivial,rfl,by decide,false,?_⟩
 refine ⟨[],false,_,_,impl_GroupOf_n true n [[]] h,List.nodup_nil,rfl,rfl,trivial,nofun,fun _=>?_⟩
 exact ⟨none,⟨rfl,rfl,trivial⟩,rfl,rfl⟩
theorem impl_DihedralGroup_no (n:Int) (h:¬(1<=n/\n<=10)):AC Tryz.prog 60 [I n] [] [.nil,.d true .bool false] []:=by
 refine AC_of tauOk 17 0 [2,3] Tryz.func60 rfl (by kernel_rfl) rfl rfl rfl rfl rfl ?_
 refine ⟨[],false,_,_,impl_IdentityPerm_no n h,List.nodup_nil,rfl,rfl,trivial,?_⟩
 refine ⟨[],false,_,_,slices_Reverse_nil,List.nodup_nil,rfl,rfl,trivial,?_⟩
 refine ⟨[],false,_,_,impl_turn_no n h,List.nodup_nil,rfl,rfl,trivial,rfl,by decide,false,?_⟩
 refine ⟨[],false,_,_,impl_GroupOf_n true n [[],[]] h,List.nodup_nil,rfl,rfl,trivial,nofun,fun _=>?_⟩
 exact ⟨none,⟨rfl,rfl,trivial⟩,rfl,rfl⟩
theorem impl_SymmetricGroup_no (n:Int) (h:¬(1<=n/\n<=5)):AC Tryz.prog 61 [I n] [] [.nil,.d true .bool false] []:=by
 refine AC_of tauOk 27 0 [2,3] Tryz.func61 rfl (by kernel_rfl) rfl rfl rfl rfl rfl ?_
 refine ⟨fun _=>?_,fun h1=>?_⟩
 .exact ⟨none,⟨rfl,rfl,trivial⟩,rfl,rfl⟩
 .refine ⟨fun _=>?_,fun h2=>?_⟩
  .exact ⟨none,⟨rfl,rfl,trivial⟩,rfl,rfl⟩
  .exact (h (by omega)).elim
def sdgI (k:Int):Int:=if k=1 then 4 else if k=2\/k=3 then 6 else if k=4 then 8 else 0
theorem impl_SolidDegree (k:Int):AC Tryz.prog 151 [I k] [] [I (sdgI k)] []:=by
 refine AC_of tauOk 11 0 [2] Tryz.func151 rfl (by kernel_rfl) rfl rfl rfl rfl rfl ?_
 refine ⟨fun h1=>?_,fun h1=>?_⟩
 .exact ⟨none,⟨retI (by rw [sdgI,if_pos h1]),trivial⟩,rfl,rfl⟩
 .refine ⟨fun h2=>?_,fun h2=>?_⟩
  .exact ⟨none,⟨retI (by rw [sdgI,if_neg h1,if_pos (.inl h2)]),trivial⟩,rfl,rfl⟩
  .refine ⟨fun h3=>?_,fun h3=>?_⟩
   .exact ⟨none,⟨retI (by rw [sdgI,if_neg h1,if_pos (.inr h3)]),trivial⟩,rfl,rfl⟩
   .refine ⟨fun h4=>?_,fun h4=>?_⟩
    .exact ⟨none,⟨retI (by rw [sdgI,if_neg h1,if_neg (by omega),if_pos h4]),trivial⟩,rfl,rfl⟩
    .exact ⟨none,⟨retI (by rw [sdgI,if_neg h1,if_neg (by omega),if_neg h4]),trivial⟩,rfl,rfl⟩
end Go.Proofs.YtacjiemkbhhhoaaGreatDoor
