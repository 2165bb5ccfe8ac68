/-
  Part 4 of the texts that the claim rests on: PlE, Wren, PlF, Wsym, Pl9, PlH, PlI, Wcan, Wcyc, Wcgr, PlM, PlV, PlW, PlN, PlG, PlX.
  No condition beyond the given program.
-/
import Derived.Test.YtacjiemkbhhhoaaGreatDoorIc
set_option linter.unusedVariables false
set_option linter.unusedSimpArgs false
namespace Go.Proofs.YtacjiemkbhhhoaaGreatDoor
open Go Go.Proofs.YtacjiemkbhhhoaaGreatDoor.Ow
def paN (p l:List Int):Nat:=pixF (pairsL p.length) (mnI (p.getD (l.getD 0 0).toNat 0) (p.getD (l.getD 1 0).toNat 0)) (mxI (p.getD (l.getD 0 0).toNat 0) (p.getD (l.getD 1 0).toNat 0)) 0 (pairsL p.length).length
def pactL (p:List Int):List Int:=(pairsL p.length).map fun l=>((paN p l:Nat):Int)
theorem map_snoc {α β:Type} (f:α->β) (xs:List α) (k:Nat) (d:α) (h:k<xs.length):(xs.take (k+1)).map f=(xs.take k).map f++[f (xs.getD k d)]:=by
 rw [L_succ xs k d h,List.map_append];rfl
theorem flag_pair:∀n,n<6->∀u,u<n->∀v,v<n->u≠v->((List.range n).filter fun x=>(((List.replicate n false).set u true).set v true).getD x false).map (fun (x:Nat)=>(x:Int))=[mnI u v,mxI u v]:=by decide
theorem idx_pair:∀n,n<6->∀j,j<n->∀i,i<j->((List.range (pairsL n).length).filter fun q=>decide ([(i:Int),(j:Int)]=(pairsL n).getD q [])).map (fun (x:Nat)=>(x:Int))=[((pixF (pairsL n) (i:Int) (j:Int) 0 (pairsL n).length:Nat):Int)]:=by decide
def flgL (n:Nat) (p l:List Int):List Bool:=l.foldl (fun f a=>f.set (p.getD a.toNat 0).toNat true) (List.replicate n false)
theorem flgL_len (n:Nat) (p:List Int):∀l,(flgL n p l).length=n:=by
 have:∀(l:List Int) (f:List Bool),(l.foldl (fun f a=>f.set (p.getD a.toNat 0).toNat true) f).length=f.length:=by
  intro l
  induction l with
  |nil=>intro f;rfl
  |cons a r ih=>intro f;rw [List.foldl_cons,ih,List.length_set]
 intro l
 rw [flgL,this,List.length_replicate]
theorem flgL_s (n:Nat) (p l:List Int) (k:Nat) (h:k<l.length):flgL n p (l.take (k+1))=(flgL n p (l.take k)).set (p.getD (l.getD k 0).toNat 0).toNat true:=by
 unfold flgL
 rw [L_succ l k 0 h,List.foldl_append];rfl
def mkdL (f:List Bool) (k:Nat):List Int:=((List.range k).filter fun x=>f.getD x false).map fun (x:Nat)=>(x:Int)
theorem mkdL_yes (f:List Bool) (k:Nat) (h:f.getD k false=true):mkdL f (k+1)=mkdL f k++[(k:Int)]:=by
 unfold mkdL
 rw [List.range_succ,List.filter_append,List.map_append]
 simp [-List.getD_eq_getElem?_getD,h]
theorem mkdL_no (f:List Bool) (k:Nat) (h:f.getD k false=false):mkdL f (k+1)=mkdL f k:=by
 unfold mkdL
 rw [List.range_succ,List.filter_append,List.map_append]
 simp [-List.getD_eq_getElem?_getD,h]
theorem mkdL_len (f:List Bool) (k:Nat):(mkdL f k).length<=k:=by
 unfold mkdL
 rw [List.length_map]
 exact Nat.le_trans (List.length_filter_le _ _) (by simp)
def plcL (xss:List (List Int)) (y:List Int) (k:Nat):List Int:=((List.range k).filter fun q=>decide (y=xss.getD q [])).map fun (x:Nat)=>(x:Int)
theorem plcL_yes (xss:List (List Int)) (y:List Int) (k:Nat) (h:y=xss.getD k []):plcL xss y (k+1)=plcL xss y k++[(k:Int)]:=by
 unfold plcL
 rw [List.range_succ,List.filter_append,List.map_append]
 simp [-List.getD_eq_getElem?_getD,h]
theorem plcL_no (xss:List (List Int)) (y:List Int) (k:Nat) (h:¬y=xss.getD k []):plcL xss y (k+1)=plcL xss y k:=by
 unfold plcL
 rw [List.range_succ,List.filter_append,List.map_append]
 simp [-List.getD_eq_getElem?_getD,h]
theorem plcL_len (xss:List (List Int)) (y:List Int) (k:Nat):(plcL xss y k).length<=k:=by
 unfold plcL
 rw [List.length_map]
 exact Nat.le_trans (List.length_filter_le _ _) (by simp)
theorem pix_lt:∀n,n<6->2<=n->∀j,j<n->∀i,i<j->pixF (pairsL n) (i:Int) (j:Int) 0 (pairsL n).length<cp n:=by decide
structure Car (p l:List Int) (u v:Nat):Prop where
 fu:p.getD (l.getD 0 0).toNat 0=(u:Int)
 fv:p.getD (l.getD 1 0).toNat 0=(v:Int)
 lu:u<p.length
 lv:v<p.length
 ne:u≠v
theorem car_of {p:List Int} (hP:PermP p) (hn:p.length<6) {l:List Int} (hl:l∈pairsL p.length):∃u v,Car p l u v:=by
 have h:=pairs_get _ hn l hl
 have h1:=hP.2 (l.getD 0 0).toNat (by omega)
 have h2:=hP.2 (l.getD 1 0).toNat (by omega)
 have h3:=h2.2 (l.getD 0 0).toNat (by omega)
 exact ⟨(p.getD (l.getD 0 0).toNat 0).toNat,(p.getD (l.getD 1 0).toNat 0).toNat,by omega,by omega,by omega,by omega,by omega⟩
theorem car_lt {p l:List Int} {u v:Nat} (h:Car p l u v) (hn:p.length<6) (h2:2<=p.length):paN p l<cp p.length:=by
 unfold paN
 rw [h.fu,h.fv]
 unfold mnI mxI
 have:=h.ne
 by_cases e:u<v
 .rw [if_neg (by omega),if_pos (by omega)]
  exact pix_lt _ hn h2 v h.lv u e
 .rw [if_pos (by omega),if_neg (by omega)]
  exact pix_lt _ hn h2 u h.lu v (by omega)
theorem car_find {p l:List Int} {u v:Nat} (h:Car p l u v) (hn:p.length<6):findI (pairsL p.length) [mnI u v,mxI u v]=(paN p l:Nat):=by
 unfold paN
 rw [h.fu,h.fv]
 unfold mnI mxI
 have:=h.ne
 by_cases e:u<v
 .rw [if_neg (by omega),if_pos (by omega)]
  exact pix_find _ hn v h.lv u e
 .rw [if_pos (by omega),if_neg (by omega)]
  exact pix_find _ hn u h.lu v (by omega)
theorem car_plc {p l:List Int} {u v:Nat} (h:Car p l u v) (hn:p.length<6):plcL (pairsL p.length) [mnI u v,mxI u v] (pairsL p.length).length=[((paN p l:Nat):Int)]:=by
 unfold paN
 rw [h.fu,h.fv]
 unfold mnI mxI plcL
 have:=h.ne
 by_cases e:u<v
 .rw [if_neg (by omega),if_pos (by omega)]
  exact idx_pair _ hn v h.lv u e
 .rw [if_pos (by omega),if_neg (by omega)]
  exact idx_pair _ hn u h.lu v (by omega)
theorem car_img {p l:List Int} {u v:Nat} (h:Car p l u v) (hn:p.length<6) (hl:l.length=2):mkdL (flgL p.length p l) p.length=[mnI u v,mxI u v]:=by
 have e:flgL p.length p l=((List.replicate p.length false).set u true).set v true:=by
  match l,hl,h with
  |[a,b],_,h=>
   have h1:p.getD a.toNat 0=(u:Int):=h.fu
   have h2:p.getD b.toNat 0=(v:Int):=h.fv
   show ((List.replicate p.length false).set (p.getD a.toNat 0).toNat true).set (p.getD b.toNat 0).toNat true=_
   rw [h1,h2,Int.toNat_natCast,Int.toNat_natCast]
 rw [e]
 exact flag_pair _ hn u h.lu v h.lv h.ne
theorem sort_eq {xs ys:List Int} (hp:ys.Perm xs) (hs:ys.Pairwise fun x y=>x<=y):xs.mergeSort (fun x y=>decide (x<=y))=ys:=by
 refine List.Perm.eq_of_pairwise (le:=fun a b:Int=>a<=b) (fun a b _ _ h1 h2=>by omega) ?_ hs ((List.mergeSort_perm xs _).trans hp.symm)
 have h:=List.pairwise_mergeSort (le:=fun x y:Int=>decide (x<=y)) (fun a b c h1 h2=>by simp at*;omega) (fun a b=>by simp;omega) xs
 exact h.imp fun h=>by simpa using h
theorem slices_Sort_ints (e:Nat) (xs ys:List Int) (hl:xs.length<=1048576) (hp:ys.Perm xs) (hs:ys.Pairwise fun x y=>x<=y):AC Tryz.prog 156 [.ow 0] [.sl e .int xs] [] [.sl e .int ys]:=
 AC_rowI hp.length_eq ⟨_,_,Tryz.func156,rfl,by kernel_rfl⟩ fun b cap w hH hb=>by
  have h:=Tryz.slices_Sort_int b 0 cap xs w hH hb (by omega)
  rw [sort_eq hp hs] at h
  exact h
theorem pair_el (n:Nat) (hn:n<6) (k:Nat) (hk:k<(pairsL n).length) (j:Nat) (hj:j<((pairsL n).getD k []).length):0<=((pairsL n).getD k []).getD j 0/\((pairsL n).getD k []).getD j 0<(n:Int):=by
 have h:=(pairs_short n hn).2 k hk
 have:j=0\/j=1:=by omega
 rcases this with rfl|rfl<;>omega
theorem two_map (l:List Int) (f:Int->Int) (h:l.length=2):l.map f=[f (l.getD 0 0),f (l.getD 1 0)]:=by
 match l,h with
 |[a,b],_=>rfl
theorem sorted_two (u v:Int) (h:u≠v):[mnI u v,mxI u v].Perm [u,v]/\[mnI u v,mxI u v].Pairwise fun x y=>x<=y:=by
 unfold mnI mxI
 by_cases e:u<v
 .rw [if_neg (by omega),if_pos e]
  exact ⟨List.Perm.refl _,by simp;omega⟩
 .rw [if_pos (by omega),if_neg e]
  exact ⟨List.Perm.swap _ _ _,by simp;omega⟩
theorem impl_moved (sh2:Bool) (p:List Int) (hP:PermP p) (hn:p.length<6):AC Tryz.prog 249 [.d true (.sl (.sl .int)) (pairsL p.length),.d sh2 (.sl .int) p] [] [.ow 0] [.sl 3 .int (pactL p)]:=by
 have hs:=pairs_short p.length hn
 refine AC_of tauOk 43 0 [4] Tryz.func249 rfl (by kernel_rfl) rfl rfl rfl rfl rfl ?_
 refine ⟨rfl,by decide,true,?_⟩
 refine ⟨Nat,fun k=>⟨[(0,.d true (.sl (.sl .int)) (pairsL p.length)),(1,.d sh2 (.sl .int) p),(5,.ow 0),(12,.d true (.sl (.sl .int)) (pairsL p.length)),(13,I (pairsL p.length).length),(14,I (k:Nat))],[.sl 3 .int (((pairsL p.length).take k).map fun l=>((paN p l:Nat):Int))]⟩,fun k=>k<=(pairsL p.length).length,fun k=>(pairsL p.length).length-k,0,Nat.zero_le _,
  ⟨⟨rfl,rfl⟩,⟨rfl,rfl,rfl,rfl,rfl,rfl,trivial⟩,rfl,trivial⟩,fun k hk=>?_⟩
 dsimp only at hk
 refine ⟨fun h1=>?_,fun h1=>?_⟩
 .have hk2:k<(pairsL p.length).length:=by omega
  have hq:=hs.2 k hk2
  have hel:=fun j hj=>pair_el p.length hn k hk2 j hj
  have hms:=map_snoc (fun l=>((paN p l:Nat):Int)) (pairsL p.length) k [] hk2
  obtain ⟨u,v,hc⟩:=car_of hP hn (l:=(pairsL p.length).getD k []) (by rw [getD_get _ _ _ hk2];exact List.getElem_mem _)
  have hmk:(((pairsL p.length).take k).map fun l=>((paN p l:Nat):Int)).length<=10:=by rw [List.length_map,List.length_take];omega
  refine ⟨k,rfl,hk2,?_⟩
  have hcf:=car_find hc hn
  refine ⟨rfl,by decide,true,?_⟩
  refine ⟨Nat,fun j=>⟨[(0,.d true (.sl (.sl .int)) (pairsL p.length)),(1,.d sh2 (.sl .int) p),(5,.ow 0),(12,.d true (.sl (.sl .int)) (pairsL p.length)),(13,I (pairsL p.length).length),(14,I (k:Nat)),(8,.ow 1),(19,.d true (.sl .int) ((pairsL p.length).getD k [])),(20,I ((pairsL p.length).getD k []).length),(21,I (j:Nat))],[.sl 3 .int (((pairsL p.length).take k).map fun l=>((paN p l:Nat):Int)),.sl 3 .int ((((pairsL p.length).getD k []).take j).map fun a=>p.getD a.toNat 0)]⟩,fun j=>j<=((pairsL p.length).getD k []).length,fun j=>((pairsL p.length).getD k []).length-j,0,Nat.zero_le _,
   ⟨⟨rfl,rfl⟩,⟨rfl,rfl,rfl,rfl,rfl,rfl,rfl,rfl,rfl,rfl,trivial⟩,rfl,rfl,trivial⟩,fun j hj=>?_⟩
  dsimp only at hj
  refine ⟨fun h2=>?_,fun h2=>?_⟩
  .have hj2:j<((pairsL p.length).getD k []).length:=by omega
   have he:=hel j hj2
   have hml:((((pairsL p.length).getD k []).take j).map fun a=>p.getD a.toNat 0).length<=2:=by rw [List.length_map,List.length_take];omega
   have hms2:=map_snoc (fun a:Int=>p.getD a.toNat 0) ((pairsL p.length).getD k []) j 0 hj2
   refine ⟨j,rfl,hj2,(((pairsL p.length).getD k []).getD j 0).toNat,(Int.toNat_of_nonneg he.1).symm,by omega,?_⟩
   refine ⟨rfl,by decide,false,?_⟩
   refine ⟨rfl,Nat.zero_le _,rfl,by simp only [List.length_cons,List.length_nil];omega,rfl,?_⟩
   exact ⟨((j+1:Nat):Int),w64_eq (by omega) (by omega) (by omega),j+1,by dsimp only;omega,by dsimp only;omega,⟨rfl,rfl⟩,⟨rfl,rfl,rfl,rfl,rfl,rfl,rfl,rfl,rfl,rfl,trivial⟩,rfl,rowE hms2.symm,trivial⟩
  .obtain rfl:j=((pairsL p.length).getD k []).length:=by omega
   have hx:(((pairsL p.length).getD k []).take ((pairsL p.length).getD k []).length).map (fun a=>p.getD a.toNat 0)=[(u:Int),(v:Int)]:=by
    rw [List.take_length,two_map ((pairsL p.length).getD k []) _ hq.1,hc.fu,hc.fv]
   have hst:=sorted_two (u:Int) (v:Int) (by have:=hc.ne;omega)
   dsimp only
   rw [hx]
   refine ⟨[1],false,_,_,slices_Sort_ints 3 [(u:Int),(v:Int)] [mnI u v,mxI u v] (by simp) hst.1 hst.2,by decide,rfl,rfl,⟨⟨rfl,rfl,rfl⟩,trivial⟩,?_⟩
   refine ⟨[],false,_,_,impl_indexOf true false (pairsL p.length) [mnI u v,mxI u v] (by omega) (fun i hi=>by have:=(hs.2 i hi).1;omega) (by simp),nd0,rfl,rfl,trivial,?_⟩
   refine ⟨rfl,by decide,false,?_⟩
   refine ⟨rfl,Nat.zero_le _,rfl,by simp only [List.length_cons,List.length_nil];omega,rfl,?_⟩
   exact ⟨((k+1:Nat):Int),w64_eq (by omega) (by omega) (by omega),k+1,by omega,by omega,⟨rfl,rfl⟩,⟨rfl,rfl,rfl,rfl,rfl,rfl,trivial⟩,rowE (by rw [hms,hcf]),trivial⟩
 .obtain rfl:k=(pairsL p.length).length:=by omega
  exact ⟨some 0,⟨⟨rfl,rfl⟩,trivial⟩,⟨rfl,rowsE (by rw [List.take_length];rfl)⟩,rfl⟩
theorem impl_PairAction (sh:Bool) (p:List Int) (hP:PermP p) (hn:p.length<6) (h2:2<=p.length):AC Tryz.prog 146 [.d sh (.sl .int) p] [] [.ow 0,.d true .bool true] [.sl 3 .int (pactL p)]:=by
 refine AC_of tauOk 22 0 [2,3] Tryz.func146 rfl (by kernel_rfl) rfl rfl rfl rfl rfl ?_
 refine ⟨[],false,_,_,impl_PermOk sh p (by omega),nd0,rfl,rfl,trivial,fun h=>?_,fun h=>by rw [(permB_iff p).2 hP] at h;cases h⟩
 refine ⟨fun h=>by omega,fun h=>?_⟩
 refine ⟨fun h=>by omega,fun h=>?_⟩
 refine ⟨[],true,_,_,impl_PairsOf p.length h2 hn,nd0,rfl,rfl,trivial,?_⟩
 refine ⟨[],false,_,_,impl_moved sh p hP hn,nd0,rfl,rfl,trivial,?_⟩
 exact ⟨some 0,⟨⟨rfl,rfl⟩,rfl,trivial⟩,⟨rfl,rfl⟩,rfl⟩
theorem spec_l04Image (s1 s2:Bool) (p l:List Int) (hP:PermP p) (hn:p.length<6) (hl:l.length=2) (hel:∀j,j<l.length->0<=l.getD j 0/\l.getD j 0<(p.length:Int)):AC Tryz.prog 366 [.d s1 (.sl .int) p,.d s2 (.sl .int) l] [] [.ow 0] [.sl 3 .int (mkdL (flgL p.length p l) p.length)]:=by
 have hpr:=fun i hi=>(hP.2 i hi).1
 have hfl:=flgL_len p.length p
 refine AC_of tauOk 42 0 [4] Tryz.func366 rfl (by kernel_rfl) rfl rfl rfl rfl rfl ?_
 refine ⟨p.length,p.length,rfl,rfl,Nat.le_refl _,by omega,?_⟩
 refine ⟨Nat,fun k=>⟨[(0,.d s1 (.sl .int) p),(5,.ow 0),(14,.d s2 (.sl .int) l),(15,I l.length),(16,I (k:Nat))],[.sl 4 .bool (flgL p.length p (l.take k))]⟩,fun k=>k<=l.length,fun k=>l.length-k,0,Nat.zero_le _,
  ⟨⟨rfl,rfl⟩,⟨rfl,rfl,rfl,rfl,rfl,trivial⟩,rfl,trivial⟩,fun k hk=>?_⟩
 dsimp only at hk
 refine ⟨fun h1=>?_,fun h1=>?_⟩
 .have hk2:k<l.length:=by omega
  have he:=hel k hk2
  have hv:=hpr (l.getD k 0).toNat (by omega)
  have hf:=hfl (l.take k)
  refine ⟨k,rfl,hk2,(l.getD k 0).toNat,(Int.toNat_of_nonneg he.1).symm,by omega,(p.getD (l.getD k 0).toNat 0).toNat,(Int.toNat_of_nonneg hv.1).symm,by omega,?_⟩
  exact ⟨((k+1:Nat):Int),w64_eq (by omega) (by omega) (by omega),k+1,by dsimp only;omega,by dsimp only;omega,⟨rfl,rfl⟩,⟨rfl,rfl,rfl,rfl,rfl,trivial⟩,rowE (flgL_s p.length p l k hk2).symm,trivial⟩
 .obtain rfl:k=l.length:=by omega
  dsimp only
  rw [List.take_length]
  have hf:=hfl l
  generalize flgL p.length p l=f at*
  refine ⟨rfl,by decide,true,?_⟩
  refine ⟨Nat,fun j=>⟨[(8,.ow 1),(28,.ow 0),(29,I f.length),(30,I (j:Nat))],[.sl 4 .bool f,.sl 3 .int (mkdL f j)]⟩,fun j=>j<=f.length,fun j=>f.length-j,0,Nat.zero_le _,
   ⟨⟨rfl,rfl⟩,⟨rfl,rfl,rfl,rfl,trivial⟩,rfl,rfl,trivial⟩,fun j hj=>?_⟩
  dsimp only at hj
  have hml:=mkdL_len f j
  refine ⟨fun h2=>?_,fun h2=>?_⟩
  .have hj2:j<f.length:=by omega
   refine ⟨j,rfl,hj2,fun h3=>?_,fun h3=>?_⟩
   .refine ⟨rfl,by decide,false,?_⟩
    refine ⟨rfl,Nat.zero_le _,rfl,by simp only [List.length_cons,List.length_nil];omega,rfl,?_⟩
    exact ⟨((j+1:Nat):Int),w64_eq (by omega) (by omega) (by omega),j+1,by dsimp only;omega,by dsimp only;omega,⟨rfl,rfl⟩,⟨rfl,rfl,rfl,rfl,trivial⟩,rfl,rowE (mkdL_yes f j h3).symm,trivial⟩
   .exact ⟨((j+1:Nat):Int),w64_eq (by omega) (by omega) (by omega),j+1,by dsimp only;omega,by dsimp only;omega,⟨rfl,rfl⟩,⟨rfl,rfl,rfl,rfl,trivial⟩,rfl,rowE (mkdL_no f j h3).symm,trivial⟩
  .obtain rfl:j=f.length:=by omega
   exact ⟨some 1,⟨⟨rfl,rfl⟩,trivial⟩,⟨rfl,rowsE (by rw [hf])⟩,rfl⟩
theorem spec_SubsetAction (sh:Bool) (p:List Int) (hP:PermP p) (hn:p.length<6) (h2:2<=p.length):AC Tryz.prog 335 [.d sh (.sl .int) p,I 2] [] [.ow 0,.d true .bool true] [.sl 3 .int (pactL p)]:=by
 have hs:=pairs_short p.length hn
 refine AC_of tauOk 59 0 [4,5] Tryz.func335 rfl (by kernel_rfl) rfl rfl rfl rfl rfl ?_
 refine ⟨[],false,_,_,spec_PermOk sh p (by omega),nd0,rfl,rfl,trivial,fun h=>?_,fun h=>by rw [(permB_iff p).2 hP] at h;cases h⟩
 refine ⟨fun h=>by omega,fun h=>?_⟩
 refine ⟨[],false,_,_,spec_l01In _ _ _,nd0,rfl,rfl,trivial,fun h=>?_,fun h=>by simp only [Bool.and_eq_false_iff,decide_eq_false_iff_not] at h;omega⟩
 refine ⟨[],true,_,_,spec_l04Subsets p.length hn 2 0 (by decide) (by decide),nd0,rfl,rfl,trivial,?_⟩
 refine ⟨rfl,by decide,true,?_⟩
 refine ⟨Nat,fun k=>⟨[(0,.d sh (.sl .int) p),(6,.d true (.sl (.sl .int)) (pairsL p.length)),(7,.ow 0),(33,.d true (.sl (.sl .int)) (pairsL p.length)),(34,I (pairsL p.length).length),(35,I (k:Nat))],[.sl 3 .int (((pairsL p.length).take k).map fun l=>((paN p l:Nat):Int))]⟩,fun k=>k<=(pairsL p.length).length,fun k=>(pairsL p.length).length-k,0,Nat.zero_le _,
  ⟨⟨rfl,rfl⟩,⟨rfl,rfl,rfl,rfl,rfl,rfl,trivial⟩,rfl,trivial⟩,fun k hk=>?_⟩
 dsimp only at hk
 refine ⟨fun h1=>?_,fun h1=>?_⟩
 .have hk2:k<(pairsL p.length).length:=by omega
  have hq:=hs.2 k hk2
  have hel:=fun j hj=>pair_el p.length hn k hk2 j hj
  have hms:=map_snoc (fun l=>((paN p l:Nat):Int)) (pairsL p.length) k [] hk2
  obtain ⟨u,v,hc⟩:=car_of hP hn (l:=(pairsL p.length).getD k []) (by rw [getD_get _ _ _ hk2];exact List.getElem_mem _)
  have hmk:(((pairsL p.length).take k).map fun l=>((paN p l:Nat):Int)).length<=10:=by rw [List.length_map,List.length_take];omega
  refine ⟨k,rfl,hk2,?_⟩
  have hI:=spec_l04Image sh true p ((pairsL p.length).getD k []) hP hn hq.1 hel
  rw [car_img hc hn hq.1] at hI
  refine ⟨[],true,_,_,hI,nd0,rfl,rfl,trivial,?_⟩
  have hpl:=car_plc hc hn
  have hyl:[mnI u v,mxI u v].length<=1048576:=by simp
  refine ⟨Nat,fun j=>⟨[(0,.d sh (.sl .int) p),(6,.d true (.sl (.sl .int)) (pairsL p.length)),(7,.ow 0),(33,.d true (.sl (.sl .int)) (pairsL p.length)),(34,I (pairsL p.length).length),(35,I (k:Nat)),(10,.d true (.sl .int) [mnI u v,mxI u v]),(42,.d true (.sl (.sl .int)) (pairsL p.length)),(43,I (pairsL p.length).length),(44,I (j:Nat))],[.sl 3 .int ((((pairsL p.length).take k).map fun l=>((paN p l:Nat):Int))++plcL (pairsL p.length) [mnI u v,mxI u v] j)]⟩,fun j=>j<=(pairsL p.length).length,fun j=>(pairsL p.length).length-j,0,Nat.zero_le _,
   ⟨⟨rfl,rfl⟩,⟨rfl,rfl,rfl,rfl,rfl,rfl,rfl,rfl,rfl,rfl,trivial⟩,rowE (List.append_nil _).symm,trivial⟩,fun j hj=>?_⟩
  dsimp only at hj
  have hplen:=plcL_len (pairsL p.length) [mnI u v,mxI u v] j
  refine ⟨fun h3=>?_,fun h3=>?_⟩
  .have hj2:j<(pairsL p.length).length:=by omega
   have hq2:=hs.2 j hj2
   refine ⟨j,rfl,hj2,[],false,_,_,spec_l03Same true true [mnI u v,mxI u v] ((pairsL p.length).getD j []) hyl (by omega),nd0,rfl,rfl,trivial,fun h4=>?_,fun h4=>?_⟩
   .refine ⟨rfl,by decide,false,?_⟩
    refine ⟨rfl,Nat.zero_le _,rfl,by simp only [List.length_append,List.length_cons,List.length_nil];omega,rfl,?_⟩
    exact ⟨((j+1:Nat):Int),w64_eq (by omega) (by omega) (by omega),j+1,by dsimp only;omega,by dsimp only;omega,⟨rfl,rfl⟩,⟨rfl,rfl,rfl,rfl,rfl,rfl,rfl,rfl,rfl,rfl,trivial⟩,rowE (by rw [plcL_yes _ _ j (of_decide_eq_true h4),List.append_assoc]),trivial⟩
   .exact ⟨((j+1:Nat):Int),w64_eq (by omega) (by omega) (by omega),j+1,by dsimp only;omega,by dsimp only;omega,⟨rfl,rfl⟩,⟨rfl,rfl,rfl,rfl,rfl,rfl,rfl,rfl,rfl,rfl,trivial⟩,rowE (by rw [plcL_no _ _ j (of_decide_eq_false h4)]),trivial⟩
  .obtain rfl:j=(pairsL p.length).length:=by omega
   exact ⟨((k+1:Nat):Int),w64_eq (by omega) (by omega) (by omega),k+1,by dsimp only;omega,by dsimp only;omega,⟨rfl,rfl⟩,⟨rfl,rfl,rfl,rfl,rfl,rfl,trivial⟩,rowE (by rw [hms,hpl]),trivial⟩
 .obtain rfl:k=(pairsL p.length).length:=by omega
  exact ⟨some 0,⟨⟨rfl,rfl⟩,rfl,trivial⟩,⟨rfl,rowsE (by rw [List.take_length];rfl)⟩,rfl⟩
theorem spec_PairAction (sh:Bool) (p:List Int) (hP:PermP p) (hn:p.length<6) (h2:2<=p.length):AC Tryz.prog 292 [.d sh (.sl .int) p] [] [.ow 0,.d true .bool true] [.sl 3 .int (pactL p)]:=by
 refine AC_of tauOk 11 0 [2,3] Tryz.func292 rfl (by kernel_rfl) rfl rfl rfl rfl rfl ?_
 refine ⟨fun h=>by omega,fun h=>?_⟩
 refine ⟨[],false,_,_,spec_SubsetAction sh p hP hn h2,nd0,rfl,rfl,trivial,fun _=>?_,nofun⟩
 exact ⟨some 0,⟨⟨rfl,rfl⟩,rfl,trivial⟩,⟨rfl,rfl⟩,rfl⟩
theorem spec_PairAction_one (sh:Bool) (p:List Int) (h:p.length=1):AC Tryz.prog 292 [.d sh (.sl .int) p] [] [.nil,.d true .bool false] []:=by
 refine AC_of tauOk 11 0 [2,3] Tryz.func292 rfl (by kernel_rfl) rfl rfl rfl rfl rfl ?_
 refine ⟨fun h=>?_,fun h=>by omega⟩
 exact ⟨none,⟨rfl,rfl,trivial⟩,rfl,rfl⟩
theorem pact_el {p:List Int} (hP:PermP p) (hn:p.length<6) (h2:2<=p.length) (k:Nat) (hk:k<(pactL p).length):0<=(pactL p).getD k 0/\((pactL p).getD k 0).toNat<cp p.length:=by
 have hk2:k<(pairsL p.length).length:=by rw [pactL,List.length_map] at hk;exact hk
 have e:(pactL p).getD k 0=((paN p ((pairsL p.length).getD k []):Nat):Int):=by
  rw [getD_get _ _ _ hk,getD_get _ _ _ hk2]
  simp [pactL]
 obtain ⟨u,v,hc⟩:=car_of hP hn (l:=(pairsL p.length).getD k []) (by rw [getD_get _ _ _ hk2];exact List.getElem_mem _)
 have:=car_lt hc hn h2
 rw [e]
 exact ⟨Int.natCast_nonneg _,by rw [Int.toNat_natCast];exact this⟩
theorem pact_len {p:List Int} (hn:p.length<6):(pactL p).length<=10:=by
 rw [pactL,List.length_map]
 exact (pairs_short p.length hn).1
def idL (n:Nat):List Int:=(List.range n).map fun (x:Nat)=>(x:Int)
def turnL (n:Nat):List Int:=(List.range n).map fun (x:Nat)=>(((x+1) % n:Nat):Int)
def swapL (n:Nat):List Int:=if 1<n then ((idL n).set 0 1).set 1 0 else idL n
def okP (n:Nat) (x:List Int):Bool:=decide (x.length=n) && x.all fun a=>decide (0<=a) && decide (a<(n:Int))
theorem okP_iff {n:Nat} {x:List Int} (h:okP n x=true):x.length=n/\∀i,i<x.length->0<=x.getD i 0/\x.getD i 0<(n:Int):=by
 unfold okP at h
 simp only [Bool.and_eq_true,decide_eq_true_eq,List.all_eq_true] at h
 refine ⟨h.1,fun i hi=>?_⟩
 rw [getD_get _ _ _ hi]
 exact h.2 _ (List.getElem_mem hi)
def innI (n a:Nat):List (List Int)->List (List Int)->Option (List (List Int))
 |[],out=>some out
 |g::gs,out=>if (out.length<=120/\a<out.length)/\okP n (out.getD a [])=true/\(out.all fun x=>decide (x.length=n))=true then
  (if (out.any fun x=>decide (x=exL (out.getD a []) g))=true then innI n a gs out
   else if out.length=120 then none else innI n a gs (out++[exL (out.getD a []) g])) else none
def bfsI (n:Nat) (gens:List (List Int)):Nat->Nat->List (List Int)->Option (List (List Int))
 |0,_,_=>none
 |f+1,a,out=>if a<out.length then (match innI n a gens out with|none=>none|some o=>bfsI n gens f (a+1) o) else some out
def putN (xss:List (List Int)) (p:List Int):Nat->Nat->Nat
 |0,k=>k
 |f+1,k=>if k<xss.length/\cmpI (xss.getD k []) p<0 then putN xss p f (k+1) else k
def putS (xss:List (List Int)) (p:List Int):List (List Int):=xss.take (putN xss p 200 0)++[p]++xss.drop (putN xss p 200 0)
def innS (n a:Nat):List (List Int)->List (List Int)->List (List Int)->Option (List (List Int) × List (List Int))
 |[],out,q=>some (out,q)
 |g::gs,out,q=>if (out.length<=120/\q.length<=120/\a<q.length)/\okP n (q.getD a [])=true/\(out.all fun x=>decide (x.length=n))=true then
  (if 0<=findI out (exL (q.getD a []) g) then innS n a gs out q
   else if out.length=120 then none else innS n a gs (putS out (exL (q.getD a []) g)) (q++[exL (q.getD a []) g])) else none
def bfsS (n:Nat) (gens:List (List Int)):Nat->Nat->List (List Int)->List (List Int)->Option (List (List Int))
 |0,_,_,_=>none
 |f+1,a,out,q=>if a<q.length then (match innS n a gens out q with|none=>none|some o=>bfsS n gens f (a+1) o.1 o.2) else some out
def symL (n:Nat):List (List Int):=(bfsS n [turnL n,swapL n] 200 0 [idL n] [idL n]).getD []
def symB (n:Nat):Option (List (List Int))->Option (List (List Int))->Bool
 |some s,some o=>s.isPerm o && (decide (s.Pairwise fun x y=>¬cmpI y x<0) && (s.all (fun x=>permB x && decide (x.length=n)) && (decide (1<=s.length) && decide (s.length<=120))))
 |_,_=>false
set_option maxRecDepth 100000
theorem sym_all:∀n,n<6->1<=n->symB n (bfsS n [turnL n,swapL n] 200 0 [idL n] [idL n]) (bfsI n [turnL n,swapL n] 200 0 [idL n])=true:=by decide+kernel
theorem sym_gens:∀n,n<6->1<=n->(permB (turnL n)=true/\(turnL n).length=n)/\permB (swapL n)=true/\(swapL n).length=n:=by decide
structure SymOk (n:Nat):Prop where
 s:bfsS n [turnL n,swapL n] 200 0 [idL n] [idL n]=some (symL n)
 i:∃o,bfsI n [turnL n,swapL n] 200 0 [idL n]=some o/\(symL n).Perm o
 so:(symL n).Pairwise fun x y=>¬cmpI y x<0
 el:∀x∈symL n,PermP x/\x.length=n
 l1:1<=(symL n).length
 l2:(symL n).length<=120
theorem sym_ok (n:Nat) (hn:n<6) (h1:1<=n):SymOk n:=by
 have h:=sym_all n hn h1
 cases hs:bfsS n [turnL n,swapL n] 200 0 [idL n] [idL n] with
 |none=>rw [hs] at h;cases h
 |some s=>
  cases hi:bfsI n [turnL n,swapL n] 200 0 [idL n] with
  |none=>rw [hs,hi] at h;cases h
  |some o=>
   rw [hs,hi] at h
   have e:symL n=s:=by unfold symL;rw [hs];rfl
   unfold symB at h
   simp only [Bool.and_eq_true,decide_eq_true_eq,List.all_eq_true] at h
   obtain ⟨a,b,c,d1,d2⟩:=h
   refine ⟨by rw [e];exact hs,⟨o,hi,?_⟩,by rw [e];exact b,fun x hx=>?_,by rw [e];exact d1,by rw [e];exact d2⟩
   .rw [e];exact List.isPerm_iff.1 a
   .rw [e] at hx
    exact ⟨(permB_iff x).1 (c x hx).1,(c x hx).2⟩
theorem tds (ys xs:List Int) (k:Nat) (v:Int) (he:ys.length=xs.length) (hk:k<xs.length) (hv:ys.getD k 0=v):(ys.take k++xs.drop k).set k v=ys.take (k+1)++xs.drop (k+1):=by
 have hl:(ys.take k).length=k:=by rw [List.length_take];omega
 rw [List.set_append_right _ _ (by omega),hl,Nat.sub_self,List.drop_eq_getElem_cons hk,List.set_cons_zero,L_succ ys k 0 (by omega),hv,List.append_assoc];rfl
theorem idL_len (n:Nat):(idL n).length=n:=by simp [idL]
theorem turnL_len (n:Nat):(turnL n).length=n:=by simp [turnL]
theorem idL_get (n k:Nat) (h:k<n):(idL n).getD k 0=(k:Int):=by
 rw [getD_get _ _ _ (by rw [idL_len];exact h)];simp [idL]
theorem turnL_get (n k:Nat) (h:k<n):(turnL n).getD k 0=(((k+1) % n:Nat):Int):=by
 rw [getD_get _ _ _ (by rw [turnL_len];exact h)];simp [turnL]
theorem idL_s (k:Nat):idL (k+1)=idL k++[(k:Int)]:=by simp [idL,List.range_succ]
def tuF (n k:Nat):List Int:=(List.range k).map fun (x:Nat)=>(((x+1) % n:Nat):Int)
theorem tuF_s (n k:Nat):tuF n (k+1)=tuF n k++[(((k+1) % n:Nat):Int)]:=by simp [tuF,List.range_succ]
theorem tuF_len (n k:Nat):(tuF n k).length=k:=by simp [tuF]
theorem spec_IdentityPerm (n:Nat) (h1:1<=n) (hn:n<11):AC Tryz.prog 219 [I (n:Nat)] [] [.ow 0] [.sl 3 .int (idL n)]:=by
 refine AC_of tauOk 19 0 [2] Tryz.func219 rfl (by kernel_rfl) rfl rfl rfl rfl rfl ?_
 refine ⟨[],false,_,_,spec_l01In _ _ _,nd0,rfl,rfl,trivial,fun _=>?_,fun h=>by simp only [Bool.and_eq_false_iff,decide_eq_false_iff_not] at h;omega⟩
 refine ⟨rfl,by decide,true,?_⟩
 refine ⟨Nat,fun k=>⟨[(0,I (n:Nat)),(3,.ow 0),(4,I (k:Nat))],[.sl 3 .int (idL k)]⟩,fun k=>k<=n,fun k=>n-k,0,Nat.zero_le _,
  ⟨⟨rfl,rfl⟩,⟨rfl,rfl,rfl,trivial⟩,rfl,trivial⟩,fun k hk=>?_⟩
 dsimp only at hk
 have hil:=idL_len k
 refine ⟨fun h2=>?_,fun h2=>?_⟩
 .refine ⟨rfl,by decide,false,?_⟩
  refine ⟨rfl,Nat.zero_le _,rfl,by simp only [List.length_cons,List.length_nil];omega,rfl,?_⟩
  exact ⟨((k+1:Nat):Int),w64_eq (by omega) (by omega) (by omega),k+1,by dsimp only;omega,by dsimp only;omega,⟨rfl,rfl⟩,⟨rfl,rfl,rfl,trivial⟩,rowE (idL_s k).symm,trivial⟩
 .obtain rfl:k=n:=by omega
  exact ⟨some 0,⟨⟨rfl,rfl⟩,trivial⟩,⟨rfl,rfl⟩,rfl⟩
theorem impl_IdentityPerm (n:Nat) (h1:1<=n) (hn:n<11):AC Tryz.prog 135 [I (n:Nat)] [] [.ow 0] [.sl 3 .int (idL n)]:=by
 refine AC_of tauOk 24 0 [2] Tryz.func135 rfl (by kernel_rfl) rfl rfl rfl rfl rfl ?_
 refine ⟨fun h=>by omega,fun _=>?_⟩
 refine ⟨fun h=>by omega,fun _=>?_⟩
 refine ⟨n,n,rfl,rfl,Nat.le_refl _,by omega,?_⟩
 have hil:=idL_len n
 have hrl:(List.replicate n (0:Int)).length=n:=List.length_replicate
 refine ⟨Nat,fun k=>⟨[(3,.ow 0),(14,I ((List.replicate n (0:Int)).length:Nat)),(15,I (k:Nat))],[.sl 3 .int ((idL n).take k++(List.replicate n 0).drop k)]⟩,fun k=>k<=n,fun k=>n-k,0,Nat.zero_le _,
  ⟨⟨rfl,rfl⟩,⟨rfl,rfl,rfl,trivial⟩,rfl,trivial⟩,fun k hk=>?_⟩
 dsimp only at hk
 refine ⟨fun h2=>?_,fun h2=>?_⟩
 .refine ⟨k,rfl,?_,?_⟩
  .simp only [List.length_append,List.length_take,List.length_drop,List.length_replicate];omega
  exact ⟨((k+1:Nat):Int),w64_eq (by omega) (by omega) (by omega),k+1,by dsimp only;omega,by dsimp only;omega,⟨rfl,rfl⟩,⟨rfl,rfl,rfl,trivial⟩,rowE (tds (idL n) (List.replicate n 0) k _ (by simp [hil]) (by simp;omega) (idL_get n k (by omega))),trivial⟩
 .obtain rfl:k=n:=by omega
  exact ⟨some 0,⟨⟨rfl,rfl⟩,trivial⟩,⟨rfl,rowsE (by rw [List.take_of_length_le (by omega),List.drop_eq_nil_of_le (by simp),List.append_nil])⟩,rfl⟩
theorem spec_l03Turn (n:Nat) (h1:1<=n) (hn:n<11):AC Tryz.prog 195 [I (n:Nat)] [] [.ow 0] [.sl 3 .int (turnL n)]:=by
 refine AC_of tauOk 19 0 [2] Tryz.func195 rfl (by kernel_rfl) rfl rfl rfl rfl rfl ?_
 refine ⟨rfl,by decide,true,?_⟩
 refine ⟨Nat,fun k=>⟨[(0,I (n:Nat)),(3,.ow 0),(4,I (k:Nat))],[.sl 3 .int (tuF n k)]⟩,fun k=>k<=n,fun k=>n-k,0,Nat.zero_le _,
  ⟨⟨rfl,rfl⟩,⟨rfl,rfl,rfl,trivial⟩,rfl,trivial⟩,fun k hk=>?_⟩
 dsimp only at hk
 have hil:=tuF_len n k
 refine ⟨fun h2=>?_,fun h2=>?_⟩
 .refine ⟨((k+1:Nat):Int),w64_eq (by omega) (by omega) (by omega),by omega,(((k+1) % n:Nat):Int),Int.ofNat_tmod _ _,?_⟩
  refine ⟨rfl,by decide,false,?_⟩
  refine ⟨rfl,Nat.zero_le _,rfl,by simp only [List.length_cons,List.length_nil];omega,rfl,?_⟩
  exact ⟨((k+1:Nat):Int),w64_eq (by omega) (by omega) (by omega),k+1,by dsimp only;omega,by dsimp only;omega,⟨rfl,rfl⟩,⟨rfl,rfl,rfl,trivial⟩,rowE (tuF_s n k).symm,trivial⟩
 .obtain rfl:k=n:=by omega
  exact ⟨some 0,⟨⟨rfl,rfl⟩,trivial⟩,⟨rfl,rfl⟩,rfl⟩
theorem impl_turn (n:Nat) (h1:1<=n) (hn:n<11):AC Tryz.prog 56 [I (n:Nat)] [] [.ow 0] [.sl 3 .int (turnL n)]:=by
 refine AC_of tauOk 21 0 [2] Tryz.func56 rfl (by kernel_rfl) rfl rfl rfl rfl rfl ?_
 refine ⟨[],false,_,_,impl_IdentityPerm n h1 (by omega),nd0,rfl,rfl,trivial,?_⟩
 have hil:=idL_len n
 have htl:=turnL_len n
 refine ⟨Nat,fun k=>⟨[(0,I (n:Nat)),(3,.ow 0),(8,I ((idL n).length:Nat)),(9,I (k:Nat))],[.sl 3 .int ((turnL n).take k++(idL n).drop k)]⟩,fun k=>k<=n,fun k=>n-k,0,Nat.zero_le _,
  ⟨⟨rfl,rfl⟩,⟨rfl,rfl,rfl,rfl,trivial⟩,rfl,trivial⟩,fun k hk=>?_⟩
 dsimp only at hk
 refine ⟨fun h2=>?_,fun h2=>?_⟩
 .refine ⟨((k+1:Nat):Int),w64_eq (by omega) (by omega) (by omega),by omega,(((k+1) % n:Nat):Int),Int.ofNat_tmod _ _,?_⟩
  refine ⟨k,rfl,?_,?_⟩
  .simp only [List.length_append,List.length_take,List.length_drop];omega
  exact ⟨((k+1:Nat):Int),w64_eq (by omega) (by omega) (by omega),k+1,by dsimp only;omega,by dsimp only;omega,⟨rfl,rfl⟩,⟨rfl,rfl,rfl,rfl,trivial⟩,rowE (tds (turnL n) (idL n) k _ (by omega) (by omega) (turnL_get n k (by omega))),trivial⟩
 .obtain rfl:k=n:=by omega
  exact ⟨some 0,⟨⟨rfl,rfl⟩,trivial⟩,⟨rfl,rowsE (by rw [List.take_of_length_le (by omega),List.drop_eq_nil_of_le (by omega),List.append_nil])⟩,rfl⟩
theorem spec_l02Compose (s1 s2:Bool) (xs h:List Int) (hl:xs.length<=1048576) (hx:∀i,i<xs.length->0<=xs.getD i 0/\xs.getD i 0<(h.length:Int)):
 AC Tryz.prog 202 [.d s1 (.sl .int) xs,.d s2 (.sl .int) h] [] [.ow 0] [.sl 3 .int (exL xs h)]:=by
 refine AC_of tauOk 24 0 [4] Tryz.func202 rfl (by kernel_rfl) rfl rfl rfl rfl rfl ?_
 refine ⟨rfl,by decide,true,?_⟩
 refine ⟨Nat,fun k=>⟨[(1,.d s2 (.sl .int) h),(5,.ow 0),(9,.d s1 (.sl .int) xs),(10,I xs.length),(11,I (k:Nat))],[.sl 3 .int (exL (xs.take k) h)]⟩,fun k=>k<=xs.length,fun k=>xs.length-k,0,Nat.zero_le _,
  ⟨⟨rfl,rfl⟩,⟨rfl,rfl,rfl,rfl,rfl,trivial⟩,rfl,trivial⟩,fun k hk=>?_⟩
 dsimp only at hk
 refine ⟨fun h2=>?_,fun h2=>?_⟩
 .have hk2:k<xs.length:=by omega
  have hb:=hx k hk2
  have hs:=exL_succ xs h k hk2
  have hle:(exL (xs.take k) h).length<=1048576:=by rw [exL_len];simp;omega
  refine ⟨k,rfl,by omega,?_⟩
  refine ⟨(xs.getD k 0).toNat,(Int.toNat_of_nonneg hb.1).symm,by omega,?_⟩
  refine ⟨rfl,by decide,false,?_⟩
  refine ⟨rfl,Nat.zero_le _,rfl,by simp at hle ⊢;omega,rfl,?_⟩
  exact ⟨((k+1:Nat):Int),w64_eq (by omega) (by omega) (by omega),k+1,by dsimp only;omega,by dsimp only;omega,⟨rfl,rfl⟩,⟨rfl,rfl,rfl,rfl,rfl,trivial⟩,rowE hs.symm,trivial⟩
 .obtain rfl:k=xs.length:=by omega
  exact ⟨some 0,⟨⟨rfl,rfl⟩,trivial⟩,⟨rfl,rowsE (by rw [List.take_length])⟩,rfl⟩
theorem exL_get (xs h:List Int) (k:Nat) (hk:k<xs.length):(exL xs h).getD k 0=h.getD (xs.getD k 0).toNat 0:=by
 rw [getD_get _ _ _ (by rw [exL_len];exact hk),getD_get _ _ _ hk];simp [exL]
theorem impl_compose (s1 s2:Bool) (xs h:List Int) (hl:xs.length<=1048576) (hx:∀i,i<xs.length->0<=xs.getD i 0/\xs.getD i 0<(h.length:Int)):
 AC Tryz.prog 136 [.d s1 (.sl .int) xs,.d s2 (.sl .int) h] [] [.ow 0] [.sl 3 .int (exL xs h)]:=by
 refine AC_of tauOk 27 0 [4] Tryz.func136 rfl (by kernel_rfl) rfl rfl rfl rfl rfl ?_
 refine ⟨xs.length,xs.length,rfl,rfl,Nat.le_refl _,by omega,?_⟩
 have hel:=exL_len xs h
 refine ⟨Nat,fun k=>⟨[(1,.d s2 (.sl .int) h),(5,.ow 0),(11,.d s1 (.sl .int) xs),(12,I xs.length),(13,I (k:Nat))],[.sl 3 .int ((exL xs h).take k++(List.replicate xs.length 0).drop k)]⟩,fun k=>k<=xs.length,fun k=>xs.length-k,0,Nat.zero_le _,
  ⟨⟨rfl,rfl⟩,⟨rfl,rfl,rfl,rfl,rfl,trivial⟩,rfl,trivial⟩,fun k hk=>?_⟩
 dsimp only at hk
 refine ⟨fun h2=>?_,fun h2=>?_⟩
 .have hk2:k<xs.length:=by omega
  have hb:=hx k hk2
  refine ⟨k,rfl,hk2,(xs.getD k 0).toNat,(Int.toNat_of_nonneg hb.1).symm,by omega,k,rfl,?_,?_⟩
  .simp only [List.length_append,List.length_take,List.length_drop,List.length_replicate];omega
  exact ⟨((k+1:Nat):Int),w64_eq (by omega) (by omega) (by omega),k+1,by dsimp only;omega,by dsimp only;omega,⟨rfl,rfl⟩,⟨rfl,rfl,rfl,rfl,rfl,trivial⟩,rowE (tds (exL xs h) (List.replicate xs.length 0) k _ (by simp [hel]) (by simp;omega) (exL_get xs h k hk2)),trivial⟩
 .obtain rfl:k=xs.length:=by omega
  exact ⟨some 0,⟨⟨rfl,rfl⟩,trivial⟩,⟨rfl,rowsE (by rw [List.take_of_length_le (by omega),List.drop_eq_nil_of_le (by simp),List.append_nil])⟩,rfl⟩
theorem spec_l03Find (s1 s2:Bool) (xss:List (List Int)) (p:List Int) (hl:xss.length<=1048576) (hp:p.length<=1048576) (hx:∀i,i<xss.length->(xss.getD i []).length=p.length):
 AC Tryz.prog 201 [.d s1 (.sl (.sl .int)) xss,.d s2 (.sl .int) p] [] [I (findI xss p)] []:=by
 refine AC_of tauOk 39 0 [4] Tryz.func201 rfl (by kernel_rfl) rfl rfl rfl rfl rfl ?_
 refine ⟨Nat × Nat × Nat,fun i=>⟨[(0,.d s1 (.sl (.sl .int)) xss),(1,.d s2 (.sl .int) p),(5,I (i.1:Nat)),(6,I (i.2.1:Nat))],[]⟩,
  fun i=>(i.1<=i.2.1/\i.2.1<=xss.length)/\i.2.1-i.1<=i.2.2/\bsI xss p i.2.2 i.1 i.2.1=bsN xss p,fun i=>i.2.2,(0,xss.length,xss.length),⟨⟨Nat.zero_le _,Nat.le_refl _⟩,Nat.le_refl _,rfl⟩,
  ⟨⟨rfl,rfl⟩,⟨rfl,rfl,rfl,rfl,trivial⟩,trivial⟩,?_⟩
 rintro ⟨i,j,f⟩ ⟨⟨h1,h2⟩,h3,h4⟩
 dsimp only at h1 h2 h3 h4
 refine ⟨fun h5=>?_,fun h5=>?_⟩
 .dsimp only at h5
  have hij:i<j:=by omega
  obtain ⟨f',rfl⟩:∃f',f=f'+1:=⟨f-1,by omega⟩
  rw [bsI,if_pos hij] at h4
  refine ⟨((i+j:Nat):Int),w64_eq (by dsimp only;omega) (by omega) (by omega),by decide,(((i+j) / 2:Nat):Int),w64_eq (Int.ofNat_tdiv _ _) (by omega) (by omega),?_⟩
  have hm:(i+j) / 2<xss.length:=by omega
  refine ⟨(i+j) / 2,rfl,hm,[],false,_,_,spec_l03Less s1 s2 (xss.getD ((i+j) / 2) []) p (by rw [hx _ hm];exact hp) (hx _ hm).symm,nd0,rfl,rfl,trivial,fun h6=>?_,fun h6=>?_⟩
  .rw [if_pos (of_decide_eq_true h6)] at h4
   refine ⟨(((i+j) / 2+1:Nat):Int),w64_eq (by omega) (by omega) (by omega),?_⟩
   exact ⟨((i+j) / 2+1,j,f'),⟨⟨by dsimp only;omega,h2⟩,by dsimp only;omega,h4⟩,by dsimp only;omega,⟨rfl,rfl⟩,⟨rfl,rfl,rfl,rfl,trivial⟩,trivial⟩
  .rw [if_neg (of_decide_eq_false h6)] at h4
   exact ⟨(i,(i+j) / 2,f'),⟨⟨by dsimp only;omega,by dsimp only;omega⟩,by dsimp only;omega,h4⟩,by dsimp only;omega,⟨rfl,rfl⟩,⟨rfl,rfl,rfl,rfl,trivial⟩,trivial⟩
 .dsimp only at h5
  have hb:bsN xss p=i:=by
   rw [<-h4]
   cases f with
   |zero=>rfl
   |succ f=>rw [bsI,if_neg (by omega)]
  refine ⟨fun h6=>?_,fun h6=>?_⟩
  .have hi:i<xss.length:=by dsimp only at h6;omega
   refine ⟨i,rfl,hi,[],false,_,_,spec_l03Same s1 s2 (xss.getD i []) p (by rw [hx _ hi];exact hp) hp,nd0,rfl,rfl,trivial,fun h7=>?_,fun h7=>?_⟩
   .exact ⟨none,⟨retI (by rw [findI,hb,if_pos ⟨hi,of_decide_eq_true h7⟩]),trivial⟩,rfl,rfl⟩
   .exact ⟨none,⟨retI (by rw [findI,hb,if_neg (fun e=>of_decide_eq_false h7 e.2)]),trivial⟩,rfl,rfl⟩
  .exact ⟨none,⟨retI (by rw [findI,hb,if_neg (fun e=>h6 (by have:=e.1;dsimp only;omega))]),trivial⟩,rfl,rfl⟩
theorem drop_c {α:Type} (l:List α) (j:Nat) (d:α) (h:j<l.length):l.drop j=l.getD j d::l.drop (j+1):=by
 rw [getD_get _ _ _ h,List.drop_eq_getElem_cons h]
theorem innS_cons {n a:Nat} {g:List Int} {gs out q:List (List Int)} {o} (h:innS n a (g::gs) out q=some o):
 ((out.length<=120/\q.length<=120/\a<q.length)/\okP n (q.getD a [])=true/\∀i,i<out.length->(out.getD i []).length=n)/\
 ((0<=findI out (exL (q.getD a []) g)/\innS n a gs out q=some o)\/(¬0<=findI out (exL (q.getD a []) g)/\out.length≠120/\innS n a gs (putS out (exL (q.getD a []) g)) (q++[exL (q.getD a []) g])=some o)):=by
 rw [innS] at h
 split at h
 .rename_i h1
  refine ⟨⟨h1.1,h1.2.1,fun i hi=>?_⟩,?_⟩
  .have:=h1.2.2
   rw [List.all_eq_true] at this
   have:=this _ (List.getElem_mem hi)
   rw [getD_get _ _ _ hi]
   exact of_decide_eq_true this
  .split at h
   .rename_i h2;exact .inl ⟨h2,h⟩
   .rename_i h2
    split at h
    .cases h
    .rename_i h3;exact .inr ⟨h2,h3,h⟩
 .cases h
theorem bfsS_some {n:Nat} {gens:List (List Int)} {f a:Nat} {out q R} (h:bfsS n gens f a out q=some R):
 ∃f',f=f'+1/\((a<q.length/\∃o,innS n a gens out q=some o/\bfsS n gens f' (a+1) o.1 o.2=some R)\/(¬a<q.length/\out=R)):=by
 match f,h with
 |f+1,h=>
  refine ⟨f,rfl,?_⟩
  rw [bfsS] at h
  split at h
  .rename_i h1
   cases hi:innS n a gens out q with
   |none=>rw [hi] at h;cases h
   |some o=>rw [hi] at h;exact .inl ⟨h1,o,rfl,h⟩
  .rename_i h1;exact .inr ⟨h1,Option.some.inj h⟩
theorem innI_cons {n a:Nat} {g:List Int} {gs out:List (List Int)} {o} (h:innI n a (g::gs) out=some o):
 ((out.length<=120/\a<out.length)/\okP n (out.getD a [])=true/\∀i,i<out.length->(out.getD i []).length=n)/\
 (((out.any fun x=>decide (x=exL (out.getD a []) g))=true/\innI n a gs out=some o)\/((out.any fun x=>decide (x=exL (out.getD a []) g))=false/\out.length≠120/\innI n a gs (out++[exL (out.getD a []) g])=some o)):=by
 rw [innI] at h
 split at h
 .rename_i h1
  refine ⟨⟨h1.1,h1.2.1,fun i hi=>by
   have:=h1.2.2
   rw [List.all_eq_true] at this
   have:=this _ (List.getElem_mem hi)
   rw [getD_get _ _ _ hi]
   exact of_decide_eq_true this⟩,?_⟩
  split at h
  .rename_i h2;exact .inl ⟨h2,h⟩
  .rename_i h2
   split at h
   .cases h
   .rename_i h3;exact .inr ⟨by rw [Bool.eq_false_iff];exact h2,h3,h⟩
 .cases h
theorem bfsI_some {n:Nat} {gens:List (List Int)} {f a:Nat} {out R} (h:bfsI n gens f a out=some R):
 ∃f',f=f'+1/\((a<out.length/\∃o,innI n a gens out=some o/\bfsI n gens f' (a+1) o=some R)\/(¬a<out.length/\out=R)):=by
 match f,h with
 |f+1,h=>
  refine ⟨f,rfl,?_⟩
  rw [bfsI] at h
  split at h
  .rename_i h1
   cases hi:innI n a gens out with
   |none=>rw [hi] at h;cases h
   |some o=>rw [hi] at h;exact .inl ⟨h1,o,rfl,h⟩
  .rename_i h1;exact .inr ⟨h1,Option.some.inj h⟩
theorem putN_le (xss:List (List Int)) (p:List Int):∀f k,k<=xss.length->putN xss p f k<=xss.length
 |0,k,h=>h
 |f+1,k,h=>by
  rw [putN]
  split
  .rename_i h1;exact putN_le xss p f (k+1) h1.1
  .exact h
theorem spec_l03Put (xss:List (List Int)) (p:List Int) (hl:xss.length<=120) (hp:p.length<=1048576) (hx:∀i,i<xss.length->(xss.getD i []).length=p.length):
 AC Tryz.prog 220 [.d true (.sl (.sl .int)) xss,.d true (.sl .int) p] [] [.ow 0] [.sl 29 (.sl .int) (putS xss p)]:=by
 refine AC_of tauOk 35 0 [4] Tryz.func220 rfl (by kernel_rfl) rfl rfl rfl rfl rfl ?_
 have hle:=putN_le xss p 200 0 (Nat.zero_le _)
 refine ⟨Nat,fun k=>⟨[(0,.d true (.sl (.sl .int)) xss),(1,.d true (.sl .int) p),(5,I (k:Nat))],[]⟩,fun k=>k<=xss.length/\putN xss p (200-k) k=putN xss p 200 0,fun k=>xss.length-k,0,⟨Nat.zero_le _,rfl⟩,
  ⟨⟨rfl,rfl⟩,⟨rfl,rfl,rfl,trivial⟩,trivial⟩,fun k ⟨hk,hb⟩=>?_⟩
 obtain ⟨f,hf⟩:∃f,200-k=f+1:=⟨199-k,by omega⟩
 rw [hf,putN] at hb
 have fin:¬(k<xss.length/\cmpI (xss.getD k []) p<0)->putN xss p 200 0=k:=fun h=>by rw [if_neg h] at hb;exact hb.symm
 have stp:(k<xss.length/\cmpI (xss.getD k []) p<0)->putN xss p (200-(k+1)) (k+1)=putN xss p 200 0:=fun h=>by
  rw [if_pos h] at hb
  rw [<-hb]
  congr 1
  omega
 clear hb
 have rest:∀k,k=putN xss p 200 0->xss.take k++[p]++xss.drop k=putS xss p:=fun k h=>by rw [h];rfl
 refine ⟨fun h1=>?_,fun h1=>?_⟩
 .have hk2:k<xss.length:=by omega
  refine ⟨k,rfl,hk2,[],false,_,_,spec_l03Less true true (xss.getD k []) p (by rw [hx k hk2];exact hp) (hx k hk2).symm,nd0,rfl,rfl,trivial,fun h6=>?_,fun h6=>?_⟩
  .exact ⟨((k+1:Nat):Int),w64_eq (by omega) (by omega) (by omega),k+1,⟨by omega,stp ⟨hk2,of_decide_eq_true h6⟩⟩,by dsimp only;omega,⟨rfl,rfl⟩,⟨rfl,rfl,rfl,trivial⟩,trivial⟩
  .have e:=fin fun e=>of_decide_eq_false h6 e.2
   refine ⟨rfl,by decide,true,?_⟩
   refine ⟨k,rfl,Nat.zero_le _,hk,?_⟩
   refine ⟨rfl,Nat.zero_le _,rfl,by simp only [List.length_drop,List.length_take,List.length_nil];omega,rfl,?_⟩
   refine ⟨rfl,by decide,false,?_⟩
   refine ⟨rfl,Nat.zero_le _,rfl,by simp only [List.length_append,List.length_cons,List.length_drop,List.length_take,List.length_nil];omega,rfl,?_⟩
   refine ⟨k,rfl,hk,Nat.le_refl _,?_⟩
   refine ⟨rfl,Nat.zero_le _,rfl,by simp only [List.length_append,List.length_cons,List.length_drop,List.length_take,List.length_nil];omega,rfl,?_⟩
   exact ⟨some 0,⟨⟨rfl,rfl⟩,trivial⟩,⟨rfl,rowsE (by rw [putS,e,List.take_length];rfl)⟩,rfl⟩
 .have e:=fin fun e=>h1 (by have:=e.1;omega)
  refine ⟨rfl,by decide,true,?_⟩
  refine ⟨k,rfl,Nat.zero_le _,hk,?_⟩
  refine ⟨rfl,Nat.zero_le _,rfl,by simp only [List.length_drop,List.length_take,List.length_nil];omega,rfl,?_⟩
  refine ⟨rfl,by decide,false,?_⟩
  refine ⟨rfl,Nat.zero_le _,rfl,by simp only [List.length_append,List.length_cons,List.length_drop,List.length_take,List.length_nil];omega,rfl,?_⟩
  refine ⟨k,rfl,hk,Nat.le_refl _,?_⟩
  refine ⟨rfl,Nat.zero_le _,rfl,by simp only [List.length_append,List.length_cons,List.length_drop,List.length_take,List.length_nil];omega,rfl,?_⟩
  exact ⟨some 0,⟨⟨rfl,rfl⟩,trivial⟩,⟨rfl,rowsE (by rw [putS,e,List.take_length];rfl)⟩,rfl⟩
theorem retDs {sh:Bool} {t:Ty} {b c:List t.T} (h:b=c):(AV.d sh (.sl t) b)=.d sh (.sl t) c:=by rw [h]
def GenP (n:Nat) (gens:List (List Int)):Prop:=gens.length<=1000/\∀i,i<gens.length->permB (gens.getD i [])=true/\(gens.getD i []).length=n
theorem spec_GroupOf (sh:Bool) (n:Nat) (gens R:List (List Int)) (h1:1<=n) (hn:n<11) (hg:GenP n gens) (hR:bfsS n gens 200 0 [idL n] [idL n]=some R):
 AC Tryz.prog 116 [I (n:Nat),.d sh (.sl (.sl .int)) gens] [] [.d true (.sl (.sl .int)) R,.d true .bool true] []:=by
 have hgl:=hg.1
 refine AC_of tauOk 73 0 [4,5] Tryz.func116 rfl (by kernel_rfl) rfl rfl rfl rfl rfl ?_
 refine ⟨[],false,_,_,spec_l01In _ _ _,nd0,rfl,rfl,trivial,fun _=>?_,fun h=>by simp only [Bool.and_eq_false_iff,decide_eq_false_iff_not] at h;omega⟩
 refine ⟨Nat,fun k=>⟨[(0,I (n:Nat)),(1,.d sh (.sl (.sl .int)) gens),(17,.d sh (.sl (.sl .int)) gens),(18,I gens.length),(19,I (k:Nat))],[]⟩,fun k=>k<=gens.length,fun k=>gens.length-k,0,Nat.zero_le _,
  ⟨⟨rfl,rfl⟩,⟨rfl,rfl,rfl,rfl,rfl,trivial⟩,trivial⟩,fun k hk=>?_⟩
 dsimp only at hk
 refine ⟨fun h2=>?_,fun h2=>?_⟩
 .have hk2:k<gens.length:=by omega
  have hp:=hg.2 k hk2
  refine ⟨k,rfl,hk2,[],false,_,_,spec_PermOk sh (gens.getD k []) (by omega),nd0,rfl,rfl,trivial,fun h3=>?_,fun h3=>by rw [hp.1] at h3;cases h3⟩
  refine ⟨fun h4=>(h4 (by omega)).elim,fun _=>?_⟩
  exact ⟨((k+1:Nat):Int),w64_eq (by omega) (by omega) (by omega),k+1,by dsimp only;omega,by dsimp only;omega,⟨rfl,rfl⟩,⟨rfl,rfl,rfl,rfl,rfl,trivial⟩,trivial⟩
 .clear h2
  refine ⟨[],true,_,_,spec_IdentityPerm n h1 (by omega),nd0,rfl,rfl,trivial,?_⟩
  refine ⟨rfl,by decide,false,?_⟩
  refine ⟨[],true,_,_,spec_IdentityPerm n h1 (by omega),nd0,rfl,rfl,trivial,?_⟩
  refine ⟨rfl,by decide,true,?_⟩
  refine ⟨Nat × List (List Int) × List (List Int),fun i=>⟨[(0,I (n:Nat)),(1,.d sh (.sl (.sl .int)) gens),(8,.d true (.sl (.sl .int)) i.2.1),(9,.ow 0),(10,I (i.1:Nat))],[.sl 29 (.sl .int) i.2.2]⟩,
   fun i=>i.1<=200/\bfsS n gens (200-i.1) i.1 i.2.1 i.2.2=some R,fun i=>200-i.1,(0,[idL n],[idL n]),⟨Nat.zero_le _,hR⟩,
   ⟨⟨rfl,rfl⟩,⟨rfl,rfl,rfl,rfl,rfl,trivial⟩,rfl,trivial⟩,?_⟩
  rintro ⟨a,g,q⟩ ⟨ha,hb⟩
  dsimp only at ha hb
  obtain ⟨f,hf,hcase⟩:=bfsS_some hb
  refine ⟨fun h3=>?_,fun h3=>?_⟩
  .dsimp only at h3
   rcases hcase with ⟨haq,o,ho,hR2⟩|⟨haq,_⟩
   .refine ⟨Nat × List (List Int) × List (List Int),fun i=>⟨[(0,I (n:Nat)),(1,.d sh (.sl (.sl .int)) gens),(8,.d true (.sl (.sl .int)) i.2.1),(9,.ow 0),(10,I (a:Nat)),(45,.d sh (.sl (.sl .int)) gens),(46,I gens.length),(47,I (i.1:Nat))],[.sl 29 (.sl .int) i.2.2]⟩,
     fun i=>i.1<=gens.length/\innS n a (gens.drop i.1) i.2.1 i.2.2=some o,fun i=>gens.length-i.1,(0,g,q),⟨Nat.zero_le _,ho⟩,
     ⟨⟨rfl,rfl⟩,⟨rfl,rfl,rfl,rfl,rfl,rfl,rfl,rfl,trivial⟩,rfl,trivial⟩,?_⟩
    rintro ⟨j,g',q'⟩ ⟨hj,hin⟩
    dsimp only at hj hin
    refine ⟨fun h4=>?_,fun h4=>?_⟩
    .dsimp only at h4
     have hj2:j<gens.length:=by omega
     have hp:=hg.2 j hj2
     rw [drop_c gens j [] hj2] at hin
     obtain ⟨⟨⟨c1,c2,c3⟩,c4,c5⟩,c6⟩:=innS_cons hin
     have c7:=okP_iff c4
     have hel:=exL_len (q'.getD a []) (gens.getD j [])
     refine ⟨j,rfl,hj2,a,rfl,c3,?_⟩
     refine ⟨[],true,_,_,spec_l02Compose true sh (q'.getD a []) (gens.getD j []) (by omega) (fun i hi=>by rw [hp.2];exact c7.2 i hi),nd0,rfl,rfl,trivial,?_⟩
     have hel2:∀i,i<g'.length->(g'.getD i []).length=(exL (q'.getD a []) (gens.getD j [])).length:=fun i hi=>by rw [c5 i hi];omega
     refine ⟨[],false,_,_,spec_l03Find true true g' (exL (q'.getD a []) (gens.getD j [])) (by omega) (by omega) hel2,nd0,rfl,rfl,trivial,fun h5=>?_,fun h5=>?_⟩
     .rcases c6 with ⟨_,c6⟩|⟨c6,_⟩
      .exact ⟨((j+1:Nat):Int),w64_eq (by omega) (by omega) (by omega),(j+1,g',q'),⟨by dsimp only;omega,c6⟩,by dsimp only;omega,⟨rfl,rfl⟩,⟨rfl,rfl,rfl,rfl,rfl,rfl,rfl,rfl,trivial⟩,rfl,trivial⟩
      .exact (c6 h5).elim
     .rcases c6 with ⟨c6,_⟩|⟨_,c8,c6⟩
      .exact (h5 c6).elim
      .refine ⟨fun h6=>by dsimp only at h6;omega,fun _=>?_⟩
       refine ⟨[],true,_,_,spec_l03Put g' (exL (q'.getD a []) (gens.getD j [])) c1 (by omega) hel2,nd0,rfl,rfl,trivial,?_⟩
       refine ⟨rfl,by decide,false,?_⟩
       refine ⟨rfl,Nat.zero_le _,rfl,by simp only [List.length_cons,List.length_nil];omega,rfl,?_⟩
       exact ⟨((j+1:Nat):Int),w64_eq (by omega) (by omega) (by omega),(j+1,putS g' (exL (q'.getD a []) (gens.getD j [])),q'++[exL (q'.getD a []) (gens.getD j [])]),⟨by dsimp only;omega,c6⟩,by dsimp only;omega,⟨rfl,rfl⟩,⟨rfl,rfl,rfl,rfl,rfl,rfl,rfl,rfl,trivial⟩,rfl,trivial⟩
    .dsimp only at h4
     obtain rfl:j=gens.length:=by omega
     rw [List.drop_length] at hin
     obtain rfl:o=(g',q'):=(Option.some.inj hin).symm
     exact ⟨((a+1:Nat):Int),w64_eq (by omega) (by omega) (by omega),(a+1,g',q'),⟨by dsimp only;omega,by dsimp only;rw [show 200-(a+1)=f from by omega];exact hR2⟩,by dsimp only;omega,⟨rfl,rfl⟩,⟨rfl,rfl,rfl,rfl,rfl,trivial⟩,rfl,trivial⟩
   .omega
  .dsimp only at h3
   rcases hcase with ⟨haq,_⟩|⟨_,he⟩
   .omega
   .exact ⟨none,⟨retDs he.symm,rfl,trivial⟩,rfl,rfl⟩
theorem gens_ok (n:Nat) (h1:1<=n) (hn:n<6):GenP n [turnL n,swapL n]:=by
 have h:=sym_gens n hn h1
 refine ⟨by show 2<=1000;decide,fun i hi=>?_⟩
 have hi:i<2:=hi
 match i,hi with
 |0,_=>exact h.1
 |1,_=>exact h.2
theorem spec_SymmetricGroup (n:Nat) (h1:1<=n) (hn:n<6):AC Tryz.prog 120 [I (n:Nat)] [] [.d true (.sl (.sl .int)) (symL n),.d true .bool true] []:=by
 have hS:=sym_ok n hn h1
 have hil:=idL_len n
 have hG:=spec_GroupOf true n [turnL n,swapL n] (symL n) h1 (by omega) (gens_ok n h1 hn) hS.s
 refine AC_of tauOk 24 0 [2,3] Tryz.func120 rfl (by kernel_rfl) rfl rfl rfl rfl rfl ?_
 refine ⟨[],false,_,_,spec_l01In _ _ _,nd0,rfl,rfl,trivial,fun _=>?_,fun h=>by simp only [Bool.and_eq_false_iff,decide_eq_false_iff_not] at h;omega⟩
 refine ⟨[],false,_,_,spec_IdentityPerm n h1 (by omega),nd0,rfl,rfl,trivial,?_⟩
 refine ⟨fun h=>?_,fun h=>?_⟩
 .refine ⟨0,rfl,by omega,?_⟩
  refine ⟨1,rfl,by rw [List.length_set];omega,?_⟩
  rw [swapL,if_pos (by omega)] at hG
  refine ⟨[],true,_,_,spec_l03Turn n h1 (by omega),nd0,rfl,rfl,trivial,?_⟩
  refine ⟨rfl,rfl,by decide,false,?_⟩
  refine ⟨[],false,_,_,hG,nd0,rfl,rfl,trivial,fun _=>?_,nofun⟩
  exact ⟨none,⟨rfl,rfl,trivial⟩,rfl,rfl⟩
 .rw [swapL,if_neg (by omega)] at hG
  refine ⟨[],true,_,_,spec_l03Turn n h1 (by omega),nd0,rfl,rfl,trivial,?_⟩
  refine ⟨rfl,rfl,by decide,false,?_⟩
  refine ⟨[],false,_,_,hG,nd0,rfl,rfl,trivial,fun _=>?_,nofun⟩
  exact ⟨none,⟨rfl,rfl,trivial⟩,rfl,rfl⟩
def idxL (p:List Int->Bool) (xss:List (List Int)):Int:=match xss.findIdx? p with|some i=>(i:Int)|none=> -1
theorem idxL_at {p:List Int->Bool} {xss:List (List Int)} {k:Nat} (hk:k<xss.length) (h:p (xss.getD k [])=true) (h0:∀j,j<k->p (xss.getD j [])=false):(k:Int)=idxL p xss:=by
 have:xss.findIdx? p=some k:=by
  rw [List.findIdx?_eq_some_iff_getElem]
  exact ⟨hk,by rw [getD_get _ _ _ hk] at h;exact h,fun j hj=>by have:=h0 j hj;rw [getD_get _ _ _ (by omega)] at this;simp [this]⟩
 rw [idxL,this]
theorem idxL_no {p:List Int->Bool} {xss:List (List Int)} (h0:∀j,j<xss.length->p (xss.getD j [])=false): -1=idxL p xss:=by
 have:xss.findIdx? p=none:=by
  rw [List.findIdx?_eq_none_iff]
  intro x hx
  obtain ⟨j,hj,rfl⟩:=List.getElem_of_mem hx
  have:=h0 j hj;rwa [getD_get _ _ _ hj] at this
 rw [idxL,this]
theorem slices_IndexFunc_ints (F:Nat) (e:TypeId) (t:Ty) (v:t.T) (p:List Int->Bool) (sh:Bool) (xss:List (List Int)) (hl:xss.length<=1048576)
 (hF:∀i,i<xss.length->AC Tryz.prog F [.d sh (.sl .int) (xss.getD i []),.ptr 0 0] [.box e (.d true t v)] [.d true .bool (p (xss.getD i []))] [.box e (.d true t v)]):
 AC Tryz.prog 241 [.d sh (.sl (.sl .int)) xss,.fn F [.ptr 0 0]] [.box e (.d true t v)] [I (idxL p xss)] [.box e (.d true t v)]:=by
 refine AC_of tauOk 19 1 [4] Tryz.func241 rfl (by kernel_rfl) rfl rfl rfl rfl rfl ?_
 refine ⟨Nat,fun k=>⟨[(0,.d sh (.sl (.sl .int)) xss),(1,.fn F [.ptr 0 0]),(7,I xss.length),(8,I (k:Nat))],[.box e (.d true t v)]⟩,fun k=>k<=xss.length/\∀j,j<k->p (xss.getD j [])=false,fun k=>xss.length-k,0,⟨by omega,fun j hj=>by omega⟩,
  ⟨⟨rfl,rfl⟩,⟨rfl,rfl,rfl,rfl,trivial⟩,rfl,trivial⟩,fun k ⟨hk,hy⟩=>?_⟩
 refine ⟨fun h1=>?_,fun h1=>?_⟩
 .have hk2:k<xss.length:=by omega
  refine ⟨k,rfl,hk2,[0],false,_,_,hF k hk2,by decide,rfl,rfl,⟨⟨rfl,trivial⟩,trivial⟩,fun h2=>?_,fun h2=>?_⟩
  .exact ⟨none,⟨retI (idxL_at hk2 h2 hy).symm,trivial⟩,rfl,rfl⟩
  .refine ⟨_,w64_in _ (by omega) (by omega),k+1,⟨by omega,fun i hi=>?_⟩,by dsimp only;omega,⟨rfl,rfl⟩,⟨rfl,rfl,rfl,rfl,trivial⟩,rfl,trivial⟩
   by_cases e:i=k
   .subst e;exact h2
   .exact hy i (by omega)
 .exact ⟨none,⟨retI (idxL_no fun j hj=>hy j (by omega)).symm,trivial⟩,rfl,rfl⟩
theorem idxL_any (p:List Int->Bool) (xss:List (List Int)):(0<=idxL p xss) ↔ xss.any p=true:=by
 unfold idxL
 cases h:xss.findIdx? p with
 |none=>
  rw [List.findIdx?_eq_none_iff] at h
  simp only [List.any_eq_true]
  exact ⟨fun h=>by omega,fun ⟨x,hx,hp⟩=>by rw [h x hx] at hp;cases hp⟩
 |some i=>
  rw [List.findIdx?_eq_some_iff_getElem] at h
  obtain ⟨hi,hp,_⟩:=h
  simp only [List.any_eq_true]
  exact ⟨fun _=>⟨xss[i],List.getElem_mem hi,hp⟩,fun _=>by omega⟩
theorem slices_ContainsFunc_ints (F:Nat) (e:TypeId) (t:Ty) (v:t.T) (p:List Int->Bool) (sh:Bool) (xss:List (List Int)) (hl:xss.length<=1048576)
 (hF:∀i,i<xss.length->AC Tryz.prog F [.d sh (.sl .int) (xss.getD i []),.ptr 0 0] [.box e (.d true t v)] [.d true .bool (p (xss.getD i []))] [.box e (.d true t v)]):
 AC Tryz.prog 137 [.d sh (.sl (.sl .int)) xss,.fn F [.ptr 0 0]] [.box e (.d true t v)] [.d true .bool (xss.any p)] [.box e (.d true t v)]:=by
 refine AC_of tauOk 9 1 [4] Tryz.func137 rfl (by kernel_rfl) rfl rfl rfl rfl rfl ?_
 refine ⟨[0],false,_,_,slices_IndexFunc_ints F e t v p sh xss hl hF,by decide,rfl,rfl,⟨⟨rfl,trivial⟩,trivial⟩,fun h1=>?_,fun h1=>?_⟩
 .exact ⟨none,⟨retB ((idxL_any p xss).1 h1),trivial⟩,rfl,rfl⟩
 .exact ⟨none,⟨retB (by cases h:xss.any p;rfl;exact (h1 ((idxL_any p xss).2 h)).elim),trivial⟩,rfl,rfl⟩
theorem impl_GroupOf_1 (sh:Bool) (x q:List Int) (hx:x.length<=1048576) (hq:q.length<=1048576):AC Tryz.prog 138 [.d sh (.sl .int) x,.ptr 0 0] [.box 29 (.d true (.sl .int) q)] [.d true .bool (decide (x=q))] [.box 29 (.d true (.sl .int) q)]:=by
 refine AC_of tauOk 7 1 [3] Tryz.func138 rfl (by kernel_rfl) rfl rfl rfl rfl rfl ?_
 refine ⟨rfl,[],false,_,_,slices_Equal_int sh true x q hx hq,nd0,rfl,rfl,trivial,fun h=>?_,fun h=>?_⟩
 .exact ⟨none,⟨retB h,trivial⟩,rfl,rfl⟩
 .exact ⟨none,⟨retB h,trivial⟩,rfl,rfl⟩
theorem impl_GroupOf (sh:Bool) (n:Nat) (gens R S:List (List Int)) (h1:1<=n) (hn:n<11) (hg:GenP n gens) (hR:bfsI n gens 200 0 [idL n]=some R)
 (hp:S.Perm R) (hs:S.Pairwise fun x y=>¬cmpI y x<0) (hS:S.length<=120/\S≠[]/\∀x∈S,x≠[]/\x.length<=1048576):
 AC Tryz.prog 55 [I (n:Nat),.d sh (.sl (.sl .int)) gens] [] [.ow 0,.d true .bool true] [.sl 29 (.sl .int) S]:=by
 have hgl:=hg.1
 refine AC_of tauOk 70 0 [4,5] Tryz.func55 rfl (by kernel_rfl) rfl rfl rfl rfl rfl ?_
 refine ⟨fun h=>by omega,fun _=>?_⟩
 refine ⟨fun h=>by omega,fun _=>?_⟩
 refine ⟨Nat,fun k=>⟨[(0,I (n:Nat)),(1,.d sh (.sl (.sl .int)) gens),(19,.d sh (.sl (.sl .int)) gens),(20,I gens.length),(21,I (k:Nat))],[]⟩,fun k=>k<=gens.length,fun k=>gens.length-k,0,Nat.zero_le _,
  ⟨⟨rfl,rfl⟩,⟨rfl,rfl,rfl,rfl,rfl,trivial⟩,trivial⟩,fun k hk=>?_⟩
 dsimp only at hk
 refine ⟨fun h2=>?_,fun h2=>?_⟩
 .have hk2:k<gens.length:=by omega
  have hp:=hg.2 k hk2
  refine ⟨k,rfl,hk2,[],false,_,_,impl_PermOk sh (gens.getD k []) (by omega),nd0,rfl,rfl,trivial,fun h3=>?_,fun h3=>by rw [hp.1] at h3;cases h3⟩
  refine ⟨fun h4=>(h4 (by omega)).elim,fun _=>?_⟩
  exact ⟨((k+1:Nat):Int),w64_eq (by omega) (by omega) (by omega),k+1,by dsimp only;omega,by dsimp only;omega,⟨rfl,rfl⟩,⟨rfl,rfl,rfl,rfl,rfl,trivial⟩,trivial⟩
 .clear h2
  refine ⟨[],true,_,_,impl_IdentityPerm n h1 (by omega),nd0,rfl,rfl,trivial,?_⟩
  refine ⟨rfl,by decide,true,?_⟩
  refine ⟨Nat × List (List Int),fun i=>⟨[(0,I (n:Nat)),(1,.d sh (.sl (.sl .int)) gens),(8,.ow 0),(9,I (i.1:Nat))],[.sl 29 (.sl .int) i.2]⟩,
   fun i=>i.1<=200/\bfsI n gens (200-i.1) i.1 i.2=some R,fun i=>200-i.1,(0,[idL n]),⟨Nat.zero_le _,hR⟩,
   ⟨⟨rfl,rfl⟩,⟨rfl,rfl,rfl,rfl,trivial⟩,rfl,trivial⟩,?_⟩
  rintro ⟨a,q⟩ ⟨ha,hb⟩
  dsimp only at ha hb
  obtain ⟨f,hf,hcase⟩:=bfsI_some hb
  refine ⟨fun h3=>?_,fun h3=>?_⟩
  .dsimp only at h3
   rcases hcase with ⟨haq,o,ho,hR2⟩|⟨haq,_⟩
   .refine ⟨Nat × List (List Int),fun i=>⟨[(0,I (n:Nat)),(1,.d sh (.sl (.sl .int)) gens),(8,.ow 0),(9,I (a:Nat)),(44,.d sh (.sl (.sl .int)) gens),(45,I gens.length),(46,I (i.1:Nat))],[.sl 29 (.sl .int) i.2]⟩,
     fun i=>i.1<=gens.length/\innI n a (gens.drop i.1) i.2=some o,fun i=>gens.length-i.1,(0,q),⟨Nat.zero_le _,ho⟩,
     ⟨⟨rfl,rfl⟩,⟨rfl,rfl,rfl,rfl,rfl,rfl,rfl,trivial⟩,rfl,trivial⟩,?_⟩
    rintro ⟨j,q'⟩ ⟨hj,hin⟩
    dsimp only at hj hin
    refine ⟨fun h4=>?_,fun h4=>?_⟩
    .dsimp only at h4
     have hj2:j<gens.length:=by omega
     have hp:=hg.2 j hj2
     rw [drop_c gens j [] hj2] at hin
     obtain ⟨⟨⟨c2,c3⟩,c4,c5⟩,c6⟩:=innI_cons hin
     have c7:=okP_iff c4
     have hel:=exL_len (q'.getD a []) (gens.getD j [])
     refine ⟨j,rfl,hj2,a,rfl,c3,?_⟩
     refine ⟨[],true,_,_,impl_compose true sh (q'.getD a []) (gens.getD j []) (by omega) (fun i hi=>by rw [hp.2];exact c7.2 i hi),nd0,rfl,rfl,trivial,?_⟩
     have hql:∀i,i<q'.length->(q'.getD i []).length<=1048576:=fun i hi=>by have:=c5 i hi;omega
     refine ⟨rfl,rfl,[1],false,_,_,slices_ContainsFunc_ints 138 29 (.sl .int) (exL (q'.getD a []) (gens.getD j [])) (fun x=>decide (x=exL (q'.getD a []) (gens.getD j []))) false q' (by omega) (fun i hi=>impl_GroupOf_1 false _ _ (hql i hi) (by omega)),by decide,rfl,rfl,⟨⟨rfl,trivial⟩,trivial⟩,fun h5=>?_,fun h5=>?_⟩
     .rcases c6 with ⟨_,c6⟩|⟨c6,_⟩
      .exact ⟨((j+1:Nat):Int),w64_eq (by omega) (by omega) (by omega),(j+1,q'),⟨by dsimp only;omega,c6⟩,by dsimp only;omega,⟨rfl,rfl⟩,⟨rfl,rfl,rfl,rfl,rfl,rfl,rfl,trivial⟩,rfl,trivial⟩
      .rw [c6] at h5;cases h5
     .rcases c6 with ⟨c6,_⟩|⟨_,c8,c6⟩
      .rw [c6] at h5;cases h5
      .refine ⟨fun h6=>by dsimp only at h6;omega,fun _=>?_⟩
       refine ⟨rfl,rfl,by decide,false,?_⟩
       refine ⟨rfl,Nat.zero_le _,rfl,by simp only [List.length_cons,List.length_nil];omega,rfl,?_⟩
       exact ⟨((j+1:Nat):Int),w64_eq (by omega) (by omega) (by omega),(j+1,q'++[exL (q'.getD a []) (gens.getD j [])]),⟨by dsimp only;omega,c6⟩,by dsimp only;omega,⟨rfl,rfl⟩,⟨rfl,rfl,rfl,rfl,rfl,rfl,rfl,trivial⟩,rfl,trivial⟩
    .dsimp only at h4
     obtain rfl:j=gens.length:=by omega
     rw [List.drop_length] at hin
     obtain rfl:o=q':=(Option.some.inj hin).symm
     exact ⟨((a+1:Nat):Int),w64_eq (by omega) (by omega) (by omega),(a+1,o),⟨by dsimp only;omega,by dsimp only;rw [show 200-(a+1)=f from by omega];exact hR2⟩,by dsimp only;omega,⟨rfl,rfl⟩,⟨rfl,rfl,rfl,rfl,trivial⟩,rfl,trivial⟩
   .omega
  .dsimp only at h3
   rcases hcase with ⟨haq,_⟩|⟨_,rfl⟩
   .omega
   .have hRl:=hp.length_eq
    refine ⟨[0],false,_,_,slices_SortFunc_ints 29 q S (by omega) (by intro e;rw [e] at hRl;exact hS.2.1 (List.length_eq_zero_iff.1 hRl)) (fun x hx=>hS.2.2 x (hp.symm.subset hx)) hp hs,by decide,rfl,rfl,⟨⟨hRl,rfl,rfl⟩,trivial⟩,?_⟩
    exact ⟨some 0,⟨⟨rfl,rfl⟩,rfl,trivial⟩,⟨rfl,rfl⟩,rfl⟩
def cnF (met:List Bool):Nat:=met.count false
theorem cnF_set:∀(met:List Bool) (x:Nat),x<met.length->met.getD x false=false->cnF (met.set x true)+1=cnF met
 |[],x,h,_=>by simp at h
 |b::l,0,_,h=>by
  obtain rfl:b=false:=h
  simp [cnF]
 |b::l,x+1,h,h2=>by
  have:=cnF_set l x (by simpa using h) h2
  simp only [cnF,List.set_cons_succ,List.count_cons] at this ⊢
  omega
def walkC (xs:List Int):Nat->List Bool->List Int->Nat->List Bool × List Int
 |0,met,c,_=>(met,c)
 |f+1,met,c,x=>if met.getD x false=true then (met,c) else walkC xs f (met.set x true) (c++[(x:Int)]) (xs.getD x 0).toNat
theorem walkC_met (xs:List Int) (f:Nat) (met:List Bool) (c:List Int) (x:Nat) (h:met.getD x false=true):walkC xs f met c x=(met,c):=by
 cases f with
 |zero=>rfl
 |succ f=>rw [walkC,if_pos h]
theorem walkC_not (xs:List Int) (f:Nat) (met:List Bool) (c:List Int) (x:Nat) (h:met.getD x false=false):walkC xs (f+1) met c x=walkC xs f (met.set x true) (c++[(x:Int)]) (xs.getD x 0).toNat:=by
 rw [walkC,if_neg (by rw [h];decide)]
theorem walkC_ok (xs:List Int) (hx:∀i,i<xs.length->0<=xs.getD i 0/\xs.getD i 0<(xs.length:Int)):∀(f:Nat) (met:List Bool) (c:List Int) (x:Nat),x<xs.length->(∀y∈c,0<=y/\y<(xs.length:Int))->
 (walkC xs f met c x).1.length=met.length/\(∀y∈(walkC xs f met c x).2,0<=y/\y<(xs.length:Int))/\c.length<=(walkC xs f met c x).2.length/\(walkC xs f met c x).2.length<=c.length+f
 |0,met,c,x,h,hc=>⟨rfl,hc,Nat.le_refl _,Nat.le_refl _⟩
 |f+1,met,c,x,h,hc=>by
  cases hm:met.getD x false with
  |true=>rw [walkC_met _ _ _ _ _ hm];exact ⟨rfl,hc,Nat.le_refl _,by show c.length<=_;omega⟩
  |false=>
   rw [walkC_not _ _ _ _ _ hm]
   have hb:=hx x h
   obtain ⟨h1,h2,h3,h4⟩:=walkC_ok xs hx f (met.set x true) (c++[(x:Int)]) (xs.getD x 0).toNat (by omega) (fun y hy=>by
    rcases List.mem_append.1 hy with hy|hy
    .exact hc y hy
    .have:y=(x:Int):=by simpa using hy
     omega)
   simp only [List.length_append,List.length_cons,List.length_nil,List.length_set] at h1 h3 h4
   exact ⟨h1,h2,by omega,by omega⟩
def cycS (xs:List Int):Nat->List Bool × List (List Int)
 |0=>(List.replicate xs.length false,[])
 |k+1=>if (cycS xs k).1.getD k false=true then cycS xs k else ((walkC xs xs.length (cycS xs k).1 [] k).1,(cycS xs k).2++[(walkC xs xs.length (cycS xs k).1 [] k).2])
theorem cyc_yes (xs:List Int) (k:Nat) (h:(cycS xs k).1.getD k false=true):cycS xs (k+1)=cycS xs k:=by rw [cycS,if_pos h]
theorem cyc_no (xs:List Int) (k:Nat) (h:(cycS xs k).1.getD k false=false):cycS xs (k+1)=((walkC xs xs.length (cycS xs k).1 [] k).1,(cycS xs k).2++[(walkC xs xs.length (cycS xs k).1 [] k).2]):=by
 rw [cycS,if_neg (by rw [h];decide)]
theorem cyc_ok (xs:List Int) (hx:∀i,i<xs.length->0<=xs.getD i 0/\xs.getD i 0<(xs.length:Int)):∀k,k<=xs.length->(cycS xs k).1.length=xs.length/\(cycS xs k).2.length<=k/\
 ∀c∈(cycS xs k).2,1<=c.length/\c.length<=xs.length/\∀x∈c,0<=x/\x<(xs.length:Int)
 |0,_=>⟨List.length_replicate ..,Nat.le_refl _,fun c hc=>by simp [cycS] at hc⟩
 |k+1,hk=>by
  obtain ⟨h1,h2,h3⟩:=cyc_ok xs hx k (by omega)
  cases hm:(cycS xs k).1.getD k false with
  |true=>rw [cyc_yes _ _ hm];exact ⟨h1,by omega,h3⟩
  |false=>
   rw [cyc_no _ _ hm]
   obtain ⟨w1,w2,w3,w4⟩:=walkC_ok xs hx xs.length (cycS xs k).1 [] k (by omega) (fun y hy=>by simp at hy)
   refine ⟨w1.trans h1,by simp only [List.length_append,List.length_cons,List.length_nil];omega,fun c hc=>?_⟩
   rcases List.mem_append.1 hc with hc|hc
   .exact h3 c hc
   .have:c=(walkC xs xs.length (cycS xs k).1 [] k).2:=by simpa using hc
    subst this
    refine ⟨?_,by simpa using w4,w2⟩
    obtain ⟨f,hf⟩:∃f,xs.length=f+1:=⟨xs.length-1,by omega⟩
    have hb:=hx k (by omega)
    have:=(walkC_ok xs hx f ((cycS xs k).1.set k true) ([]++[(k:Int)]) (xs.getD k 0).toNat (by omega) (fun y hy=>by
     have:y=(k:Int):=by simpa using hy
     omega)).2.2.1
    rw [<-walkC_not xs f _ _ _ hm,<-hf] at this
    exact this
def cycL (xs:List Int):List (List Int):=(cycS xs xs.length).2
def fcyS (l:List (List Int)):Nat->List UInt8
 |0=>[]
 |k+1=>if 1<(l.getD k []).length then fcyS l k++(40::(Lib.join ((l.getD k []).map fmtI) [32]++[41])) else fcyS l k
def fmtC (xs:List Int):List UInt8:=if permB xs=true then (if fcyS (cycL xs) (cycL xs).length=[] then [40,41] else fcyS (cycL xs) (cycL xs).length) else []
def actsL (n:Nat):List (List Int):=(symL n).map pactL
def sumTo (f:Nat->Nat):Nat->Nat
 |0=>0
 |j+1=>sumTo f j+f j
theorem sumTo_le (f:Nat->Nat) (B:Nat):∀j,(∀i,i<j->f i<=B)->sumTo f j<=j*B
 |0,_=>Nat.zero_le _
 |j+1,h=>by
  have h1:=sumTo_le f B j fun i hi=>h i (by omega)
  have h2:=h j (by omega)
  rw [sumTo,Nat.add_mul];omega
def waysN:List (List Int)->List Int->Nat
 |[],_=>1
 |c::cs,left=>sumTo (fun i=>if (c.length:Int)<=left.getD i 0 then waysN cs (left.set i (left.getD i 0-c.length)) else 0) left.length
theorem waysN_le (L:Nat):∀(cs:List (List Int)) (left:List Int),left.length=L->waysN cs left<=L ^ cs.length
 |[],_,_=>Nat.le_refl _
 |c::cs,left,h=>by
  rw [waysN,List.length_cons,Nat.pow_succ,Nat.mul_comm,<-h]
  refine sumTo_le _ _ _ fun i hi=>?_
  split
  .rw [h];exact waysN_le L cs _ (by rw [List.length_set];exact h)
  .exact Nat.zero_le _
def cgsN (n e:Nat):Nat:=sumTo (fun k=>waysN (cycL ((actsL n).getD k [])) [((cp n-e:Nat):Int),(e:Int)]) (actsL n).length
def cgwN (n e:Nat):Nat:=cgsN n e / (actsL n).length
def cgpN (n:Nat):Nat:=sumTo (fun k=>2 ^ (cycL ((actsL n).getD k [])).length) (actsL n).length
def cgCheck (n:Nat):Bool:=(actsL n).all (fun q=>permB q && decide (q.length=cp n)) && decide (sumTo (cgwN n) (cp n+1)=cgpN n / (actsL n).length)
set_option maxRecDepth 100000
theorem cg_all:∀n,n<6->2<=n->cgCheck n=true:=by decide+kernel
def cgwI (n e:Int):Int:=if 1<=n/\n<=5 then (if 0<=e/\e<=((cp n.toNat:Nat):Int) then (if n=1 then 1 else ((cgwN n.toNat e.toNat:Nat):Int)) else 0) else-1
def cgI (n:Int):Int:=if 1<=n/\n<=5 then (if n=1 then 1 else ((sumTo (cgwN n.toNat) (cp n.toNat+1):Nat):Int)) else-1
theorem symL_get {n:Nat} (hS:SymOk n) (k:Nat) (hk:k<(symL n).length):PermP ((symL n).getD k [])/\((symL n).getD k []).length=n:=by
 rw [getD_get _ _ _ hk]
 exact hS.el _ (List.getElem_mem hk)
theorem impl_SymmetricGroup (n:Nat) (h1:1<=n) (hn:n<6):AC Tryz.prog 61 [I (n:Nat)] [] [.ow 0,.d true .bool true] [.sl 29 (.sl .int) (symL n)]:=by
 have hS:=sym_ok n hn h1
 have hil:=idL_len n
 obtain ⟨o,ho,hp⟩:=hS.i
 have hG:=impl_GroupOf true n [turnL n,swapL n] o (symL n) h1 (by omega) (gens_ok n h1 hn) ho hp hS.so ⟨hS.l2,by intro e;have:=hS.l1;rw [e] at this;simp at this,fun x hx=>⟨by intro e;have:=(hS.el x hx).2;rw [e] at this;simp at this;omega,by have:=(hS.el x hx).2;omega⟩⟩
 refine AC_of tauOk 27 0 [2,3] Tryz.func61 rfl (by kernel_rfl) rfl rfl rfl rfl rfl ?_
 refine ⟨fun h=>by omega,fun _=>?_⟩
 refine ⟨fun h=>by omega,fun _=>?_⟩
 refine ⟨[],false,_,_,impl_IdentityPerm n h1 (by omega),nd0,rfl,rfl,trivial,?_⟩
 refine ⟨fun h=>?_,fun h=>?_⟩
 .refine ⟨0,rfl,by omega,?_⟩
  refine ⟨1,rfl,by rw [List.length_set];omega,?_⟩
  rw [swapL,if_pos (by omega)] at hG
  refine ⟨[],true,_,_,impl_turn n h1 (by omega),nd0,rfl,rfl,trivial,?_⟩
  refine ⟨rfl,rfl,by decide,false,?_⟩
  refine ⟨[],false,_,_,hG,nd0,rfl,rfl,trivial,fun _=>?_,nofun⟩
  exact ⟨some 1,⟨⟨rfl,rfl⟩,rfl,trivial⟩,⟨rfl,rfl⟩,rfl⟩
 .rw [swapL,if_neg (by omega)] at hG
  refine ⟨[],true,_,_,impl_turn n h1 (by omega),nd0,rfl,rfl,trivial,?_⟩
  refine ⟨rfl,rfl,by decide,false,?_⟩
  refine ⟨[],false,_,_,hG,nd0,rfl,rfl,trivial,fun _=>?_,nofun⟩
  exact ⟨some 1,⟨⟨rfl,rfl⟩,rfl,trivial⟩,⟨rfl,rfl⟩,rfl⟩
theorem impl_renamings (n:Nat) (h1:1<=n) (hn:n<6):AC Tryz.prog 189 [I (n:Nat)] [] [.ow 0] [.sl 29 (.sl .int) (symL n)]:=by
 refine AC_of tauOk 11 0 [2] Tryz.func189 rfl (by kernel_rfl) rfl rfl rfl rfl rfl ?_
 refine ⟨[],false,_,_,impl_SymmetricGroup n h1 hn,nd0,rfl,rfl,trivial,fun _=>?_,nofun⟩
 exact ⟨some 0,⟨⟨rfl,rfl⟩,trivial⟩,⟨rfl,rfl⟩,rfl⟩
theorem actsL_get (n k:Nat) (hk:k<(symL n).length):(actsL n).getD k []=pactL ((symL n).getD k []):=by
 rw [getD_get _ _ _ (by rw [actsL,List.length_map];exact hk),getD_get _ _ _ hk];simp [actsL]
theorem actsL_len (n:Nat):(actsL n).length=(symL n).length:=by simp [actsL]
theorem pact_one {p:List Int} (h:p.length=1):pactL p=[]:=by
 unfold pactL
 rw [h];rfl
theorem pact_ok {n:Nat} (h1:1<=n) (hn:n<6) (hS:SymOk n) (k:Nat) (hk:k<(actsL n).length):
 ((actsL n).getD k []).length<=10/\∀i,i<((actsL n).getD k []).length->0<=((actsL n).getD k []).getD i 0/\(((actsL n).getD k []).getD i 0).toNat<cp n:=by
 rw [actsL_len] at hk
 obtain ⟨hP,hl⟩:=symL_get hS k hk
 rw [actsL_get n k hk]
 generalize (symL n).getD k []=p at*
 subst hl
 refine ⟨pact_len hn,fun i hi=>?_⟩
 by_cases h:p.length=1
 .rw [pact_one h] at hi;simp at hi
 .exact pact_el hP hn (by omega) i hi
theorem spec_l11All (n:Nat) (h1:1<=n) (hn:n<6):AC Tryz.prog 235 [I (n:Nat)] [] [.ow 0] [.sl 29 (.sl .int) (actsL n)]:=by
 have hS:=sym_ok n hn h1
 have hl2:=hS.l2
 refine AC_of tauOk 33 0 [2] Tryz.func235 rfl (by kernel_rfl) rfl rfl rfl rfl rfl ?_
 refine ⟨[],false,_,_,spec_SymmetricGroup n h1 hn,nd0,rfl,rfl,trivial,fun _=>?_,nofun⟩
 refine ⟨rfl,by decide,true,?_⟩
 refine ⟨Nat,fun k=>⟨[(5,.ow 0),(16,.d true (.sl (.sl .int)) (symL n)),(17,I (symL n).length),(18,I (k:Nat))],[.sl 29 (.sl .int) (((symL n).take k).map pactL)]⟩,fun k=>k<=(symL n).length,fun k=>(symL n).length-k,0,Nat.zero_le _,
  ⟨⟨rfl,rfl⟩,⟨rfl,rfl,rfl,rfl,trivial⟩,rfl,trivial⟩,fun k hk=>?_⟩
 dsimp only at hk
 refine ⟨fun h2=>?_,fun h2=>?_⟩
 .have hk2:k<(symL n).length:=by omega
  have hms:=map_snoc pactL (symL n) k [] hk2
  have hml:(((symL n).take k).map pactL).length<=120:=by rw [List.length_map,List.length_take];omega
  obtain ⟨hP,hl⟩:=symL_get hS k hk2
  refine ⟨k,rfl,hk2,?_⟩
  by_cases h:n=1
  .refine ⟨[],false,_,_,spec_PairAction_one true ((symL n).getD k []) (by omega),nd0,rfl,rfl,trivial,nofun,fun _=>?_⟩
   refine ⟨rfl,by decide,false,?_⟩
   refine ⟨rfl,Nat.zero_le _,rfl,by simp only [List.length_cons,List.length_nil];omega,rfl,?_⟩
   exact ⟨((k+1:Nat):Int),w64_eq (by omega) (by omega) (by omega),k+1,by dsimp only;omega,by dsimp only;omega,⟨rfl,rfl⟩,⟨rfl,rfl,rfl,rfl,trivial⟩,rowE (by rw [hms,pact_one (by omega)]),trivial⟩
  .refine ⟨[],true,_,_,spec_PairAction true ((symL n).getD k []) hP (by omega) (by omega),nd0,rfl,rfl,trivial,fun _=>?_,nofun⟩
   refine ⟨rfl,by decide,false,?_⟩
   refine ⟨rfl,Nat.zero_le _,rfl,by simp only [List.length_cons,List.length_nil];omega,rfl,?_⟩
   exact ⟨((k+1:Nat):Int),w64_eq (by omega) (by omega) (by omega),k+1,by dsimp only;omega,by dsimp only;omega,⟨rfl,rfl⟩,⟨rfl,rfl,rfl,rfl,trivial⟩,rowE hms.symm,trivial⟩
 .obtain rfl:k=(symL n).length:=by omega
  exact ⟨some 0,⟨⟨rfl,rfl⟩,trivial⟩,⟨rfl,rowsE (by rw [List.take_length];rfl)⟩,rfl⟩
theorem permR {xs:List Int} (h:PermP xs):∀i,i<xs.length->0<=xs.getD i 0/\xs.getD i 0<(xs.length:Int):=fun i hi=>(h.2 i hi).1
theorem impl_CyclesOf (sh:Bool) (xs:List Int) (hP:PermP xs):AC Tryz.prog 161 [.d sh (.sl .int) xs] [] [.ow 0] [.sl 29 (.sl .int) (cycL xs)]:=by
 have hn:=hP.1
 have hx:=permR hP
 refine AC_of tauOk 48 0 [2] Tryz.func161 rfl (by kernel_rfl) rfl rfl rfl rfl rfl ?_
 refine ⟨[],false,_,_,impl_PermOk sh xs (by omega),nd0,rfl,rfl,trivial,fun h1=>?_,fun h1=>by rw [(permB_iff xs).2 hP] at h1;cases h1⟩
 refine ⟨rfl,by decide,true,?_⟩
 refine ⟨xs.length,xs.length,rfl,rfl,Nat.le_refl _,by omega,?_⟩
 refine ⟨Nat,fun k=>⟨[(0,.d sh (.sl .int) xs),(3,.ow 0),(4,.ow 1),(16,I xs.length),(17,I (k:Nat))],[.sl 29 (.sl .int) (cycS xs k).2,.sl 4 .bool (cycS xs k).1]⟩,fun k=>k<=xs.length,fun k=>xs.length-k,0,Nat.zero_le _,
  ⟨⟨rfl,rfl⟩,⟨rfl,rfl,rfl,rfl,rfl,trivial⟩,rfl,rfl,trivial⟩,fun k hk=>?_⟩
 dsimp only at hk
 obtain ⟨g1,g2,g3⟩:=cyc_ok xs hx k hk
 refine ⟨fun h2=>?_,fun h2=>?_⟩
 .have hk2:k<xs.length:=by omega
  refine ⟨k,rfl,by omega,fun h3=>?_,fun h3=>?_⟩
  .have e:=cyc_yes xs k h3
   exact ⟨((k+1:Nat):Int),w64_eq (by omega) (by omega) (by omega),k+1,by dsimp only;omega,by dsimp only;omega,⟨rfl,rfl⟩,⟨rfl,rfl,rfl,rfl,rfl,trivial⟩,rowE (by rw [e]),rowE (by rw [e]),trivial⟩
  .have e:=cyc_no xs k h3
   refine ⟨rfl,by decide,true,?_⟩
   refine ⟨List Bool × List Int × Nat × Nat,fun i=>⟨[(0,.d sh (.sl .int) xs),(3,.ow 0),(4,.ow 1),(16,I xs.length),(17,I (k:Nat)),(6,.ow 2),(7,I (i.2.2.1:Nat))],[.sl 29 (.sl .int) (cycS xs k).2,.sl 4 .bool i.1,.sl 3 .int i.2.1]⟩,
    fun i=>(i.1.length=xs.length/\i.2.2.1<xs.length)/\(cnF i.1<=i.2.2.2/\i.2.1.length+i.2.2.2<=xs.length)/\walkC xs i.2.2.2 i.1 i.2.1 i.2.2.1=walkC xs xs.length (cycS xs k).1 [] k,fun i=>i.2.2.2,((cycS xs k).1,[],k,xs.length),⟨⟨g1,hk2⟩,⟨by rw [<-g1];exact List.count_le_length,by simp⟩,rfl⟩,
    ⟨⟨rfl,rfl⟩,⟨rfl,rfl,rfl,rfl,rfl,rfl,rfl,trivial⟩,rfl,rfl,rfl,trivial⟩,?_⟩
   rintro ⟨met,c,x,f⟩ ⟨⟨m1,m2⟩,⟨m3,m4⟩,m5⟩
   dsimp only at m1 m2 m3 m4 m5
   refine ⟨x,rfl,by dsimp only;omega,fun h4=>?_,fun h4=>?_⟩
   .rw [walkC_met _ _ _ _ _ h4] at m5
    refine ⟨rfl,rfl,by decide,false,?_⟩
    refine ⟨rfl,Nat.zero_le _,rfl,by simp only [List.length_cons,List.length_nil];omega,rfl,?_⟩
    exact ⟨((k+1:Nat):Int),w64_eq (by omega) (by omega) (by omega),k+1,by dsimp only;omega,by dsimp only;omega,⟨rfl,rfl⟩,⟨rfl,rfl,rfl,rfl,rfl,trivial⟩,rowE (by rw [e,<-m5]),rowE (by rw [e,<-m5]),trivial⟩
   .have hcn:=cnF_set met x (by omega) h4
    obtain ⟨f',rfl⟩:∃f',f=f'+1:=⟨f-1,by omega⟩
    rw [walkC_not _ _ _ _ _ h4] at m5
    have hb:=hx x m2
    refine ⟨x,rfl,by dsimp only;omega,?_⟩
    refine ⟨rfl,by decide,false,?_⟩
    refine ⟨rfl,Nat.zero_le _,rfl,by simp only [List.length_cons,List.length_nil];omega,rfl,?_⟩
    refine ⟨x,rfl,m2,?_⟩
    exact ⟨(met.set x true,c++[(x:Int)],(xs.getD x 0).toNat,f'),⟨⟨(List.length_set ..).trans m1,by dsimp only;omega⟩,⟨by dsimp only;omega,by dsimp only;rw [List.length_append];simp only [List.length_cons,List.length_nil];omega⟩,m5⟩,by dsimp only;omega,⟨rfl,rfl⟩,⟨rfl,rfl,rfl,rfl,rfl,rfl,retI (by dsimp only;omega),trivial⟩,rfl,rfl,rfl,trivial⟩
 .obtain rfl:k=xs.length:=by omega
  exact ⟨some 0,⟨⟨rfl,rfl⟩,trivial⟩,⟨rfl,rfl⟩,rfl⟩
theorem spec_CyclesOf (sh:Bool) (xs:List Int) (hP:PermP xs):AC Tryz.prog 205 [.d sh (.sl .int) xs] [] [.ow 0] [.sl 29 (.sl .int) (cycL xs)]:=by
 have hn:=hP.1
 have hx:=permR hP
 refine AC_of tauOk 48 0 [2] Tryz.func205 rfl (by kernel_rfl) rfl rfl rfl rfl rfl ?_
 refine ⟨[],false,_,_,spec_PermOk sh xs (by omega),nd0,rfl,rfl,trivial,fun h1=>?_,fun h1=>by rw [(permB_iff xs).2 hP] at h1;cases h1⟩
 refine ⟨rfl,by decide,true,?_⟩
 refine ⟨xs.length,xs.length,rfl,rfl,Nat.le_refl _,by omega,?_⟩
 refine ⟨Nat,fun k=>⟨[(0,.d sh (.sl .int) xs),(3,.ow 0),(4,.ow 1),(16,I xs.length),(17,I (k:Nat))],[.sl 29 (.sl .int) (cycS xs k).2,.sl 4 .bool (cycS xs k).1]⟩,fun k=>k<=xs.length,fun k=>xs.length-k,0,Nat.zero_le _,
  ⟨⟨rfl,rfl⟩,⟨rfl,rfl,rfl,rfl,rfl,trivial⟩,rfl,rfl,trivial⟩,fun k hk=>?_⟩
 dsimp only at hk
 obtain ⟨g1,g2,g3⟩:=cyc_ok xs hx k hk
 refine ⟨fun h2=>?_,fun h2=>?_⟩
 .have hk2:k<xs.length:=by omega
  refine ⟨k,rfl,by omega,fun h3=>?_,fun h3=>?_⟩
  .have e:=cyc_yes xs k h3
   exact ⟨((k+1:Nat):Int),w64_eq (by omega) (by omega) (by omega),k+1,by dsimp only;omega,by dsimp only;omega,⟨rfl,rfl⟩,⟨rfl,rfl,rfl,rfl,rfl,trivial⟩,rowE (by rw [e]),rowE (by rw [e]),trivial⟩
  .have e:=cyc_no xs k h3
   refine ⟨rfl,by decide,true,?_⟩
   refine ⟨List Bool × List Int × Nat × Nat,fun i=>⟨[(0,.d sh (.sl .int) xs),(3,.ow 0),(4,.ow 1),(16,I xs.length),(17,I (k:Nat)),(6,.ow 2),(7,I (i.2.2.1:Nat))],[.sl 29 (.sl .int) (cycS xs k).2,.sl 4 .bool i.1,.sl 3 .int i.2.1]⟩,
    fun i=>(i.1.length=xs.length/\i.2.2.1<xs.length)/\(cnF i.1<=i.2.2.2/\i.2.1.length+i.2.2.2<=xs.length)/\walkC xs i.2.2.2 i.1 i.2.1 i.2.2.1=walkC xs xs.length (cycS xs k).1 [] k,fun i=>i.2.2.2,((cycS xs k).1,[],k,xs.length),⟨⟨g1,hk2⟩,⟨by rw [<-g1];exact List.count_le_length,by simp⟩,rfl⟩,
    ⟨⟨rfl,rfl⟩,⟨rfl,rfl,rfl,rfl,rfl,rfl,rfl,trivial⟩,rfl,rfl,rfl,trivial⟩,?_⟩
   rintro ⟨met,c,x,f⟩ ⟨⟨m1,m2⟩,⟨m3,m4⟩,m5⟩
   dsimp only at m1 m2 m3 m4 m5
   refine ⟨x,rfl,by dsimp only;omega,fun h4=>?_,fun h4=>?_⟩
   .rw [walkC_met _ _ _ _ _ h4] at m5
    refine ⟨rfl,rfl,by decide,false,?_⟩
    refine ⟨rfl,Nat.zero_le _,rfl,by simp only [List.length_cons,List.length_nil];omega,rfl,?_⟩
    exact ⟨((k+1:Nat):Int),w64_eq (by omega) (by omega) (by omega),k+1,by dsimp only;omega,by dsimp only;omega,⟨rfl,rfl⟩,⟨rfl,rfl,rfl,rfl,rfl,trivial⟩,rowE (by rw [e,<-m5]),rowE (by rw [e,<-m5]),trivial⟩
   .have hcn:=cnF_set met x (by omega) h4
    obtain ⟨f',rfl⟩:∃f',f=f'+1:=⟨f-1,by omega⟩
    rw [walkC_not _ _ _ _ _ h4] at m5
    have hb:=hx x m2
    refine ⟨x,rfl,by dsimp only;omega,?_⟩
    refine ⟨rfl,by decide,false,?_⟩
    refine ⟨rfl,Nat.zero_le _,rfl,by simp only [List.length_cons,List.length_nil];omega,rfl,?_⟩
    refine ⟨x,rfl,m2,?_⟩
    exact ⟨(met.set x true,c++[(x:Int)],(xs.getD x 0).toNat,f'),⟨⟨(List.length_set ..).trans m1,by dsimp only;omega⟩,⟨by dsimp only;omega,by dsimp only;rw [List.length_append];simp only [List.length_cons,List.length_nil];omega⟩,m5⟩,by dsimp only;omega,⟨rfl,rfl⟩,⟨rfl,rfl,rfl,rfl,rfl,rfl,retI (by dsimp only;omega),trivial⟩,rfl,rfl,rfl,trivial⟩
 .obtain rfl:k=xs.length:=by omega
  exact ⟨some 0,⟨⟨rfl,rfl⟩,trivial⟩,⟨rfl,rfl⟩,rfl⟩
theorem cyc_text (c:List Int) (n:Nat) (hn:n<=10) (h:c.length<=n/\∀x∈c,0<=x/\x<(n:Int)):In64 c/\c.length<=1048576/\(Lib.join (c.map fmtI) [32]).length<=300:=by
 have hi:∀i,i<c.length->0<=c.getD i 0/\c.getD i 0<(n:Int):=fun i hi=>by
  rw [getD_get _ _ _ hi];exact h.2 _ (List.getElem_mem hi)
 refine ⟨fun i hi'=>by have:=hi i hi';omega,by omega,?_⟩
 have hj:=jn_len (c.map fmtI) [32] 20 (fun i hi'=>by
  have hi2:i<c.length:=by simpa using hi'
  rw [getD_get _ _ _ hi',List.getElem_map]
  have:=h.2 _ (List.getElem_mem hi2)
  exact fmtI_len _ (by omega) (by omega)) (c.map fmtI).length (Nat.le_refl _)
 rw [jn_join,List.length_map] at hj
 have:c.length*([32].length+20)<=10*21:=Nat.mul_le_mul (by omega) (by simp)
 omega
theorem fcyS_len (l:List (List Int)) (B:Nat) (hB:302<=B) (h:∀c∈l,(Lib.join (c.map fmtI) [32]).length<=300):∀k,k<=l.length->(fcyS l k).length<=k*B
 |0,_=>by simp [fcyS]
 |k+1,hk=>by
  have ih:=fcyS_len l B hB h k (by omega)
  have hc:=h (l.getD k []) (by rw [getD_get _ _ _ (show k<l.length by omega)];exact List.getElem_mem _)
  rw [Nat.succ_mul]
  rw [fcyS]
  split
  .simp only [List.length_append,List.length_cons,List.length_nil];omega
  .omega
theorem cycL_ok {xs:List Int} (hP:PermP xs):(cycL xs).length<=10/\∀k,k<(cycL xs).length->1<=((cycL xs).getD k []).length/\In64 ((cycL xs).getD k [])/\((cycL xs).getD k []).length<=1048576/\(Lib.join (((cycL xs).getD k []).map fmtI) [32]).length<=300:=by
 obtain ⟨h1,h2,h3⟩:=cyc_ok xs (permR hP) xs.length (Nat.le_refl _)
 have hn:=hP.1.2
 refine ⟨by show (cycS xs xs.length).2.length<=10;omega,fun k hk=>?_⟩
 have hm:(cycL xs).getD k []∈(cycS xs xs.length).2:=by rw [getD_get _ _ _ hk];exact List.getElem_mem _
 obtain ⟨g1,g2,g3⟩:=h3 _ hm
 obtain ⟨t1,t2,t3⟩:=cyc_text _ xs.length hn ⟨g2,g3⟩
 exact ⟨g1,t1,t2,t3⟩
theorem fcyL_len {xs:List Int} (hP:PermP xs):∀k,k<=(cycL xs).length->(fcyS (cycL xs) k).length<=4000:=fun k hk=>by
 have h:=cycL_ok hP
 have:=fcyS_len (cycL xs) 302 (Nat.le_refl _) (fun c hc=>by
  obtain ⟨i,hi,rfl⟩:=List.getElem_of_mem hc
  have:=(h.2 i hi).2.2.2
  rwa [getD_get _ _ _ hi] at this) k hk
 omega
theorem impl_FormatCycles (sh:Bool) (xs:List Int) (hl:xs.length<=1048576):AC Tryz.prog 68 [.d sh (.sl .int) xs] [] [.d true .str (fmtC xs)] []:=by
 refine AC_of tauOk 29 0 [2] Tryz.func68 rfl (by kernel_rfl) rfl rfl rfl rfl rfl ?_
 refine ⟨[],false,_,_,impl_PermOk sh xs hl,nd0,rfl,rfl,trivial,fun h1=>?_,fun h1=>?_⟩
 .have hP:=(permB_iff xs).1 h1
  have hc:=cycL_ok hP
  have hf:=fcyL_len hP
  refine ⟨[],true,_,_,impl_CyclesOf sh xs hP,nd0,rfl,rfl,trivial,?_⟩
  refine ⟨Nat,fun k=>⟨[(3,.d true .str (fcyS (cycL xs) k)),(10,.d true (.sl (.sl .int)) (cycL xs)),(11,I (cycL xs).length),(12,I (k:Nat))],[]⟩,fun k=>k<=(cycL xs).length,fun k=>(cycL xs).length-k,0,Nat.zero_le _,
   ⟨⟨rfl,rfl⟩,⟨rfl,rfl,rfl,rfl,trivial⟩,trivial⟩,fun k hk=>?_⟩
  dsimp only at hk
  refine ⟨fun h2=>?_,fun h2=>?_⟩
  .have hk2:k<(cycL xs).length:=by omega
   obtain ⟨c1,c2,c3,c4⟩:=hc.2 k hk2
   have hfk:=hf k hk
   refine ⟨k,rfl,hk2,fun h3=>?_,fun h3=>?_⟩
   .have e:fcyS (cycL xs) (k+1)=fcyS (cycL xs) k++(40::(Lib.join (((cycL xs).getD k []).map fmtI) [32]++[41])):=by rw [fcyS,if_pos (by omega)]
    refine ⟨[],false,_,_,impl_commas true ((cycL xs).getD k []) [32] c2 c3 (by decide),nd0,rfl,rfl,trivial,?_⟩
    refine ⟨by simp only [List.length_cons,List.length_nil];omega,by simp only [List.length_append,List.length_cons,List.length_nil];omega,by simp only [List.length_append,List.length_cons,List.length_nil];omega,?_⟩
    exact ⟨((k+1:Nat):Int),w64_eq (by omega) (by omega) (by omega),k+1,by dsimp only;omega,by dsimp only;omega,⟨rfl,rfl⟩,⟨retS (by rw [e];rfl),rfl,rfl,rfl,trivial⟩,trivial⟩
   .have e:fcyS (cycL xs) (k+1)=fcyS (cycL xs) k:=by rw [fcyS,if_neg (by omega)]
    exact ⟨((k+1:Nat):Int),w64_eq (by omega) (by omega) (by omega),k+1,by dsimp only;omega,by dsimp only;omega,⟨rfl,rfl⟩,⟨retS e.symm,rfl,rfl,rfl,trivial⟩,trivial⟩
  .obtain rfl:k=(cycL xs).length:=by omega
   refine ⟨fun h3=>?_,fun h3=>?_⟩
   .exact ⟨none,⟨retS (by rw [fmtC,if_pos h1,if_pos h3]),trivial⟩,rfl,rfl⟩
   .exact ⟨none,⟨retS (by rw [fmtC,if_pos h1,if_neg h3]),trivial⟩,rfl,rfl⟩
 .exact ⟨none,⟨retS (by rw [fmtC,if_neg (by rw [h1];decide)]),trivial⟩,rfl,rfl⟩
theorem spec_FormatCycles (sh:Bool) (xs:List Int) (hl:xs.length<=1048576):AC Tryz.prog 103 [.d sh (.sl .int) xs] [] [.d true .str (fmtC xs)] []:=by
 refine AC_of tauOk 45 0 [2] Tryz.func103 rfl (by kernel_rfl) rfl rfl rfl rfl rfl ?_
 refine ⟨[],false,_,_,spec_PermOk sh xs hl,nd0,rfl,rfl,trivial,fun h1=>?_,fun h1=>?_⟩
 .have hP:=(permB_iff xs).1 h1
  have hc:=cycL_ok hP
  have hf:=fcyL_len hP
  refine ⟨[],true,_,_,spec_CyclesOf sh xs hP,nd0,rfl,rfl,trivial,?_⟩
  refine ⟨Nat,fun k=>⟨[(3,.d true .str (fcyS (cycL xs) k)),(13,.d true (.sl (.sl .int)) (cycL xs)),(14,I (cycL xs).length),(15,I (k:Nat))],[]⟩,fun k=>k<=(cycL xs).length,fun k=>(cycL xs).length-k,0,Nat.zero_le _,
   ⟨⟨rfl,rfl⟩,⟨rfl,rfl,rfl,rfl,trivial⟩,trivial⟩,fun k hk=>?_⟩
  dsimp only at hk
  refine ⟨fun h2=>?_,fun h2=>?_⟩
  .have hk2:k<(cycL xs).length:=by omega
   obtain ⟨c1,c2,c3,c4⟩:=hc.2 k hk2
   have hfk:=hf k hk
   refine ⟨k,rfl,hk2,fun h3=>?_,fun h3=>?_⟩
   .have e:fcyS (cycL xs) (k+1)=fcyS (cycL xs) k:=by rw [fcyS,if_neg (by omega)]
    exact ⟨((k+1:Nat):Int),w64_eq (by omega) (by omega) (by omega),k+1,by dsimp only;omega,by dsimp only;omega,⟨rfl,rfl⟩,⟨retS e.symm,rfl,rfl,rfl,trivial⟩,trivial⟩
   .have e:fcyS (cycL xs) (k+1)=fcyS (cycL xs) k++(40::(Lib.join (((cycL xs).getD k []).map fmtI) [32]++[41])):=by rw [fcyS,if_pos (by omega)]
    refine ⟨rfl,by decide,true,?_⟩
    refine ⟨Nat,fun j=>⟨[(3,.d true .str (fcyS (cycL xs) k)),(13,.d true (.sl (.sl .int)) (cycL xs)),(14,I (cycL xs).length),(15,I (k:Nat)),(6,.ow 0),(23,.d true (.sl .int) ((cycL xs).getD k [])),(24,I ((cycL xs).getD k []).length),(25,I (j:Nat))],[.sl 9 .str ((((cycL xs).getD k []).take j).map fmtI)]⟩,
     fun j=>j<=((cycL xs).getD k []).length,fun j=>((cycL xs).getD k []).length-j,0,Nat.zero_le _,⟨⟨rfl,rfl⟩,⟨rfl,rfl,rfl,rfl,rfl,rfl,rfl,rfl,trivial⟩,rfl,trivial⟩,fun j hj=>?_⟩
    dsimp only at hj
    refine ⟨fun h4=>?_,fun h4=>?_⟩
    .have hj2:j<((cycL xs).getD k []).length:=by omega
     have hb:=c2 j hj2
     have hle:((((cycL xs).getD k []).take j).map fmtI).length<=1048576:=by rw [List.length_map,List.length_take];omega
     refine ⟨j,rfl,hj2,[],false,_,_,spec_FormatInt _ hb.1 hb.2,nd0,rfl,rfl,trivial,?_⟩
     refine ⟨rfl,by decide,false,?_⟩
     refine ⟨rfl,Nat.zero_le _,rfl,by simp only [List.length_cons,List.length_nil];omega,rfl,?_⟩
     exact ⟨((j+1:Nat):Int),w64_eq (by omega) (by omega) (by omega),j+1,by dsimp only;omega,by dsimp only;omega,⟨rfl,rfl⟩,⟨rfl,rfl,rfl,rfl,rfl,rfl,rfl,rfl,trivial⟩,rowE (map_succ _ j hj2).symm,trivial⟩
    .obtain rfl:j=((cycL xs).getD k []).length:=by omega
     dsimp only;rw [List.take_length]
     refine ⟨by simp only [List.length_cons,List.length_nil];omega,?_⟩
     refine ⟨[],false,_,_,spec_Join false (((cycL xs).getD k []).map fmtI) [32] (by rw [List.length_map];omega) (by omega),nd0,rfl,rfl,trivial,?_⟩
     refine ⟨by simp only [List.length_append,List.length_cons,List.length_nil];omega,by simp only [List.length_append,List.length_cons,List.length_nil];omega,?_⟩
     exact ⟨((k+1:Nat):Int),w64_eq (by omega) (by omega) (by omega),k+1,by omega,by omega,⟨rfl,rfl⟩,⟨retS (by rw [e];simp),rfl,rfl,rfl,trivial⟩,trivial⟩
  .obtain rfl:k=(cycL xs).length:=by omega
   refine ⟨fun h3=>?_,fun h3=>?_⟩
   .exact ⟨none,⟨retS (by rw [fmtC,if_pos h1,if_pos h3]),trivial⟩,rfl,rfl⟩
   .exact ⟨none,⟨retS (by rw [fmtC,if_pos h1,if_neg h3]),trivial⟩,rfl,rfl⟩
 .exact ⟨none,⟨retS (by rw [fmtC,if_neg (by rw [h1];decide)]),trivial⟩,rfl,rfl⟩
theorem set_back (l:List Int) (i:Nat) (v:Int) (hi:i<l.length):(l.set i v).set i (l.getD i 0)=l:=by
 rw [List.set_set,getD_get _ _ _ hi]
 exact List.set_getElem_self hi
theorem impl_ways (e:Nat):∀(cs:List (List Int)) (s:Bool) (left:List Int),left.length=2->cs.length<=10->(∀i,i<cs.length->(cs.getD i []).length<=10)->(∀i,i<2->0<=left.getD i 0/\left.getD i 0<=10)->
 AC Tryz.prog 281 [.d s (.sl (.sl .int)) cs,.ow 0] [.sl e .int left] [I (waysN cs left:Nat)] [.sl e .int left]
 |[],s,left,hl,_,_,_=>by
  refine AC_of tauOk 52 1 [4] Tryz.func281 rfl (by kernel_rfl) rfl rfl rfl rfl rfl ?_
  refine ⟨fun _=>?_,fun h=>(h rfl).elim⟩
  exact ⟨none,⟨rfl,trivial⟩,rfl,rfl⟩
 |c::cs,s,left,hl,hcl,hcc,hle=>by
  have hd:List.drop 1 (List.take (c::cs).length (c::cs))=cs:=by rw [List.take_length];rfl
  have hc0:c.length<=10:=hcc 0 (by simp)
  have hcs:cs.length<=9:=by simp at hcl;omega
  have hB:=waysN_le 2 cs
  have hB2:2 ^ cs.length<=512:=Nat.le_trans (Nat.pow_le_pow_right (by decide) hcs) (by decide)
  have hsum:∀j,j<=2->sumTo (fun i=>if (c.length:Int)<=left.getD i 0 then waysN cs (left.set i (left.getD i 0-c.length)) else 0) j<=j*512:=fun j hj=>sumTo_le _ _ _ fun i hi=>by
   split
   .exact Nat.le_trans (hB _ (by rw [List.length_set];exact hl)) hB2
   .exact Nat.zero_le _
  have hlen:(c::cs).length=cs.length+1:=rfl
  refine AC_of tauOk 52 1 [4] Tryz.func281 rfl (by kernel_rfl) rfl rfl rfl rfl rfl ?_
  refine ⟨fun h=>by omega,fun _=>?_⟩
  refine ⟨Nat,fun j=>⟨[(0,.d s (.sl (.sl .int)) (c::cs)),(1,.ow 0),(5,I (sumTo (fun i=>if (c.length:Int)<=left.getD i 0 then waysN cs (left.set i (left.getD i 0-c.length)) else 0) j:Nat)),(11,I left.length),(12,I (j:Nat))],[.sl e .int left]⟩,fun j=>j<=2,fun j=>2-j,0,Nat.zero_le _,
   ⟨⟨rfl,rfl⟩,⟨rfl,rfl,rfl,rfl,rfl,trivial⟩,rfl,trivial⟩,fun j hj=>?_⟩
  dsimp only at hj
  have hsj:=hsum j hj
  refine ⟨fun h2=>?_,fun h2=>?_⟩
  .have hj2:j<left.length:=by omega
   have hb:=hle j (by omega)
   have hsj1:=hsum (j+1) (by omega)
   refine ⟨none,by kernel_rfl,j,rfl,hj2,0,rfl,by omega,fun h3=>?_,fun h3=>?_⟩
   .have h3:(c.length:Int)<=left.getD j 0:=h3
    have e1:sumTo (fun i=>if (c.length:Int)<=left.getD i 0 then waysN cs (left.set i (left.getD i 0-c.length)) else 0) (j+1)=sumTo (fun i=>if (c.length:Int)<=left.getD i 0 then waysN cs (left.set i (left.getD i 0-c.length)) else 0) j+waysN cs (left.set j (left.getD j 0-c.length)):=by
     rw [sumTo,if_pos h3]
    have hW:AC Tryz.prog 281 [.d s (.sl (.sl .int)) (List.drop 1 (List.take (c::cs).length (c::cs))),.ow 0] [.sl e .int (left.set j (left.getD j 0-c.length))] [I (waysN cs (left.set j (left.getD j 0-c.length)):Nat)] [.sl e .int (left.set j (left.getD j 0-c.length))]:=by
     rw [hd]
     refine impl_ways e cs s _ (by rw [List.length_set];exact hl) (by omega) (fun i hi=>hcc (i+1) (by omega)) fun i hi=>?_
     by_cases e2:j=i
     .subst e2;rw [L_set_self _ _ _ _ hj2];omega
     .rw [L_set_ne _ _ _ _ _ e2];exact hle i hi
    have hbw:=hB (left.set j (left.getD j 0-c.length)) (by rw [List.length_set];exact hl)
    refine ⟨some 10,by kernel_rfl,j,rfl,hj2,0,rfl,by omega,left.getD j 0-c.length,w64_eq rfl (by omega) (by omega),j,rfl,hj2,?_⟩
    refine ⟨1,rfl,by omega,Nat.le_refl _,?_⟩
    refine ⟨[0],false,_,_,hW,by decide,rfl,rfl,⟨⟨rfl,rfl,rfl⟩,trivial⟩,?_⟩
    refine ⟨((sumTo (fun i=>if (c.length:Int)<=left.getD i 0 then waysN cs (left.set i (left.getD i 0-c.length)) else 0) (j+1):Nat):Int),w64_eq (by rw [e1];omega) (by omega) (by omega),?_⟩
    have hj3:j<(left.set j (left.getD j 0-c.length)).length:=by rw [List.length_set];exact hj2
    refine ⟨some 10,by kernel_rfl,j,rfl,hj3,0,rfl,by omega,left.getD j 0,w64_eq (by rw [L_set_self _ _ _ _ hj2];show _=_-_+((c.length:Nat):Int);omega) (by omega) (by omega),j,rfl,hj3,?_⟩
    exact ⟨((j+1:Nat):Int),w64_eq (by omega) (by omega) (by omega),j+1,by dsimp only;omega,by dsimp only;omega,⟨rfl,rfl⟩,⟨rfl,rfl,rfl,rfl,rfl,trivial⟩,rowE (set_back left j _ hj2),trivial⟩
   .have h3:¬(c.length:Int)<=left.getD j 0:=h3
    have e1:sumTo (fun i=>if (c.length:Int)<=left.getD i 0 then waysN cs (left.set i (left.getD i 0-c.length)) else 0) (j+1)=sumTo (fun i=>if (c.length:Int)<=left.getD i 0 then waysN cs (left.set i (left.getD i 0-c.length)) else 0) j:=by
     rw [sumTo,if_neg h3,Nat.add_zero]
    exact ⟨((j+1:Nat):Int),w64_eq (by omega) (by omega) (by omega),j+1,by dsimp only;omega,by dsimp only;omega,⟨rfl,rfl⟩,⟨rfl,rfl,retI (by rw [e1]),rfl,rfl,trivial⟩,rfl,trivial⟩
  .obtain rfl:j=2:=by omega
   exact ⟨none,⟨retI (by rw [waysN,hl]),trivial⟩,rfl,rfl⟩
structure ConP (l:List Int) (m:Nat):Prop where
 l2:l.length=2
 el:∀i,i<2->0<=l.getD i 0/\l.getD i 0<=10
 su:l.getD 0 0+l.getD 1 0=(m:Int)
theorem con_of (m e:Nat) (hm:m<=10) (he:e<=m):ConP [((m-e:Nat):Int),(e:Int)] m:=by
 refine ⟨rfl,fun i hi=>?_,?_⟩
 .have:i=0\/i=1:=by omega
  rcases this with rfl|rfl
  .show 0<=((m-e:Nat):Int)/\((m-e:Nat):Int)<=10;omega
  .show 0<=(e:Int)/\(e:Int)<=10;omega
 .show ((m-e:Nat):Int)+(e:Int)=(m:Int);omega
def conF (l:List Int):Nat->Int
 |0=>0
 |k+1=>conF l k+l.getD k 0
theorem impl_contentsOk (s:Bool) (l:List Int) (m:Nat) (h:ConP l m):AC Tryz.prog 280 [.d s (.sl .int) l,I (m:Nat)] [] [.d true .bool true] []:=by
 have hl:=h.l2
 refine AC_of tauOk 30 0 [4] Tryz.func280 rfl (by kernel_rfl) rfl rfl rfl rfl rfl ?_
 refine ⟨fun h=>by omega,fun _=>?_⟩
 refine ⟨Nat,fun k=>⟨[(1,I (m:Nat)),(5,I (conF l k)),(11,.d s (.sl .int) l),(12,I l.length),(13,I (k:Nat))],[]⟩,fun k=>k<=2/\(0<=conF l k/\conF l k<=20),fun k=>2-k,0,⟨Nat.zero_le _,Int.le_refl 0,(by decide:(0:Int)<=20)⟩,
  ⟨⟨rfl,rfl⟩,⟨rfl,rfl,rfl,rfl,rfl,trivial⟩,trivial⟩,fun k ⟨hk,hc⟩=>?_⟩
 refine ⟨fun h2=>?_,fun h2=>?_⟩
 .have hk2:k<l.length:=by omega
  have hb:=h.el k (by omega)
  refine ⟨k,rfl,hk2,fun h3=>by omega,fun _=>?_⟩
  refine ⟨fun h3=>by omega,fun _=>?_⟩
  refine ⟨conF l (k+1),w64_eq rfl (by rw [conF];omega) (by rw [conF];omega),?_⟩
  refine ⟨((k+1:Nat):Int),w64_eq (by omega) (by omega) (by omega),k+1,⟨by omega,?_⟩,by dsimp only;omega,⟨rfl,rfl⟩,⟨rfl,rfl,rfl,rfl,rfl,trivial⟩,trivial⟩
  have:k=0\/k=1:=by omega
  have h0:=h.el 0 (by omega)
  have h1:=h.el 1 (by omega)
  rcases this with rfl|rfl
  .simp only [conF];omega
  .simp only [conF];omega
 .obtain rfl:k=2:=by omega
  have e:conF l 2=(m:Int):=by have:=h.su;simp only [conF];omega
  exact ⟨fun _=>⟨none,⟨rfl,trivial⟩,rfl,rfl⟩,fun h3=>(h3 e).elim⟩
theorem cyc_small {q:List Int} (hq:PermP q):(cycL q).length<=10/\∀i,i<(cycL q).length->((cycL q).getD i []).length<=10:=by
 have hl:=hq.1
 have h:=cyc_ok q (permR hq) q.length (Nat.le_refl _)
 refine ⟨Nat.le_trans h.2.1 hl.2,fun i hi=>?_⟩
 rw [getD_get _ _ _ hi]
 have:=(h.2.2 _ (List.getElem_mem hi)).2.1
 omega
theorem impl_CountFixed (s1 s2:Bool) (q l:List Int) (hq:PermP q) (hl:ConP l q.length):AC Tryz.prog 190 [.d s1 (.sl .int) q,.d s2 (.sl .int) l] [] [I (waysN (cycL q) l:Nat)] []:=by
 have hs:=cyc_small hq
 have hl2:=hl.l2
 have hq1:=hq.1
 refine AC_of tauOk 20 0 [4] Tryz.func190 rfl (by kernel_rfl) rfl rfl rfl rfl rfl ?_
 refine ⟨[],false,_,_,impl_PermOk s1 q (by omega),nd0,rfl,rfl,trivial,fun _=>?_,fun h=>by rw [(permB_iff q).2 hq] at h;cases h⟩
 refine ⟨[],false,_,_,impl_contentsOk s2 l q.length hl,nd0,rfl,rfl,trivial,fun _=>?_,nofun⟩
 refine ⟨[],true,_,_,impl_CyclesOf s1 q hq,nd0,rfl,rfl,trivial,?_⟩
 refine ⟨[],false,_,_,slices_Clone_int s2 l (by omega) (by intro e;rw [e] at hl2;cases hl2),nd0,rfl,rfl,trivial,?_⟩
 refine ⟨[0],false,_,_,impl_ways 3 (cycL q) true l hl2 hs.1 hs.2 hl.el,by decide,rfl,rfl,⟨⟨rfl,rfl,rfl⟩,trivial⟩,?_⟩
 exact ⟨none,⟨rfl,trivial⟩,rfl,rfl⟩
structure CgOk (n:Nat):Prop where
 p:∀k,k<(actsL n).length->PermP ((actsL n).getD k [])/\((actsL n).getD k []).length=cp n
 e:sumTo (cgwN n) (cp n+1)=cgpN n / (actsL n).length
theorem cg_ok (n:Nat) (hn:n<6) (h2:2<=n):CgOk n:=by
 have h:=cg_all n hn h2
 unfold cgCheck at h
 simp only [Bool.and_eq_true,decide_eq_true_eq,List.all_eq_true] at h
 refine ⟨fun k hk=>?_,h.2⟩
 rw [getD_get _ _ _ hk]
 have:=h.1 _ (List.getElem_mem hk)
 exact ⟨(permB_iff _).1 this.1,this.2⟩
theorem ways_le {q l:List Int} (hq:PermP q) (hl:l.length=2):waysN (cycL q) l<=1024:=
 Nat.le_trans (waysN_le 2 (cycL q) l hl) (Nat.le_trans (Nat.pow_le_pow_right (by decide) (cyc_small hq).1) (by decide))
theorem cgs_le (n e:Nat) (hG:CgOk n):∀k,k<=(actsL n).length->sumTo (fun k=>waysN (cycL ((actsL n).getD k [])) [((cp n-e:Nat):Int),(e:Int)]) k<=k*1024:=fun k hk=>
 sumTo_le _ _ _ fun i hi=>ways_le (hG.p i (by omega)).1 rfl
theorem cgw_le (n e:Nat) (hG:CgOk n) (h:(actsL n).length<=120):cgwN n e<=122880:=by
 have h1:cgwN n e<=cgsN n e:=Nat.div_le_self _ _
 have h2:=cgs_le n e hG (actsL n).length (Nat.le_refl _)
 unfold cgsN at h1
 omega
theorem impl_CountGraphsWith (n e:Int):AC Tryz.prog 90 [I n,I e] [] [I (cgwI n e)] []:=by
 refine AC_of tauOk 53 0 [4] Tryz.func90 rfl (by kernel_rfl) rfl rfl rfl rfl rfl ?_
 refine ⟨[],false,_,_,impl_isVertices _,nd0,rfl,rfl,trivial,fun h=>?_,fun h=>?_⟩
 .have h:=of_decide_eq_true h
  obtain ⟨N,rfl⟩:∃N:Nat,n=(N:Int):=⟨n.toNat,by omega⟩
  have hcp:=cp_le N (by omega)
  have e0:cgwI (N:Int) e=(if 0<=e/\e<=((cp N:Nat):Int) then (if (N:Int)=1 then 1 else ((cgwN N e.toNat:Nat):Int)) else 0):=by rw [cgwI,if_pos h,Int.toNat_natCast]
  rw [e0]
  refine ⟨[],false,_,_,impl_countPairs N (by omega) (by omega),nd0,rfl,rfl,trivial,?_⟩
  refine ⟨fun h2=>?_,fun h2=>?_⟩
  .exact ⟨none,⟨retI (by rw [if_neg (fun e=>by omega)]),trivial⟩,rfl,rfl⟩
  refine ⟨fun h3=>?_,fun h3=>?_⟩
  .exact ⟨none,⟨retI (by rw [if_neg (fun e=>by omega)]),trivial⟩,rfl,rfl⟩
  rw [if_pos (show 0<=e/\e<=((cp N:Nat):Int) by omega)]
  refine ⟨fun h4=>?_,fun h4=>?_⟩
  .exact ⟨none,⟨retI (by rw [if_pos h4]),trivial⟩,rfl,rfl⟩
  rw [if_neg h4]
  obtain ⟨E,rfl⟩:∃E:Nat,e=(E:Int):=⟨e.toNat,by omega⟩
  rw [Int.toNat_natCast]
  have hS:=sym_ok N (by omega) (by omega)
  have hG:=cg_ok N (by omega) (by omega)
  have hal:=actsL_len N
  have hl1:=hS.l1
  have hl2:=hS.l2
  have hC:=con_of (cp N) E hcp.1 (by omega)
  have hB:=cgs_le N E hG
  refine ⟨[],true,_,_,impl_renamings N (by omega) (by omega),nd0,rfl,rfl,trivial,?_⟩
  refine ⟨Nat,fun k=>⟨[(1,I (E:Nat)),(5,I (cp N:Nat)),(6,I (sumTo (fun k=>waysN (cycL ((actsL N).getD k [])) [((cp N-E:Nat):Int),(E:Int)]) k:Nat)),(7,.d true (.sl (.sl .int)) (symL N)),(28,.d true (.sl (.sl .int)) (symL N)),(29,I (symL N).length),(30,I (k:Nat))],[]⟩,fun k=>k<=(symL N).length,fun k=>(symL N).length-k,0,Nat.zero_le _,
   ⟨⟨rfl,rfl⟩,⟨rfl,rfl,rfl,rfl,rfl,rfl,rfl,trivial⟩,trivial⟩,fun k hk=>?_⟩
  dsimp only at hk
  have hBk:=hB k (by omega)
  refine ⟨fun h5=>?_,fun h5=>?_⟩
  .have hk2:k<(symL N).length:=by omega
   obtain ⟨hP,hlp⟩:=symL_get hS k hk2
   have hq:=hG.p k (by omega)
   have hact:=actsL_get N k hk2
   have hBk1:=hB (k+1) (by omega)
   have hw:=ways_le hq.1 (l:=[((cp N-E:Nat):Int),(E:Int)]) rfl
   refine ⟨k,rfl,hk2,?_⟩
   refine ⟨[],true,_,_,impl_PairAction true ((symL N).getD k []) hP (by omega) (by omega),nd0,rfl,rfl,trivial,fun _=>?_,nofun⟩
   refine ⟨((cp N-E:Nat):Int),w64_eq (by omega) (by omega) (by omega),?_⟩
   refine ⟨rfl,by decide,false,?_⟩
   rw [<-hact]
   refine ⟨[],false,_,_,impl_CountFixed true true ((actsL N).getD k []) [((cp N-E:Nat):Int),(E:Int)] hq.1 (by rw [hq.2];exact hC),nd0,rfl,rfl,trivial,?_⟩
   refine ⟨((sumTo (fun k=>waysN (cycL ((actsL N).getD k [])) [((cp N-E:Nat):Int),(E:Int)]) (k+1):Nat):Int),w64_eq (by rw [sumTo];omega) (by omega) (by omega),?_⟩
   exact ⟨((k+1:Nat):Int),w64_eq (by omega) (by omega) (by omega),k+1,by dsimp only;omega,by dsimp only;omega,⟨rfl,rfl⟩,⟨rfl,rfl,rfl,rfl,rfl,rfl,rfl,trivial⟩,trivial⟩
  .obtain rfl:k=(symL N).length:=by omega
   have hcw:=cgw_le N E hG (by omega)
   refine ⟨by omega,((cgwN N E:Nat):Int),w64_eq (by unfold cgwN cgsN;rw [hal];exact Int.ofNat_tdiv _ _) (Int.le_trans (by decide) (Int.natCast_nonneg _)) (by omega),?_⟩
   exact ⟨none,⟨rfl,trivial⟩,rfl,rfl⟩
 .have h:=of_decide_eq_false h
  exact ⟨none,⟨retI (by rw [cgwI,if_neg h]),trivial⟩,rfl,rfl⟩
theorem impl_CountGraphs (n:Int):AC Tryz.prog 89 [I n] [] [I (cgI n)] []:=by
 refine AC_of tauOk 21 0 [2] Tryz.func89 rfl (by kernel_rfl) rfl rfl rfl rfl rfl ?_
 refine ⟨[],false,_,_,impl_isVertices _,nd0,rfl,rfl,trivial,fun h=>?_,fun h=>?_⟩
 .have h:=of_decide_eq_true h
  obtain ⟨N,rfl⟩:∃N:Nat,n=(N:Int):=⟨n.toNat,by omega⟩
  have hcp:=cp_le N (by omega)
  have e0:cgI (N:Int)=(if (N:Int)=1 then 1 else ((sumTo (cgwN N) (cp N+1):Nat):Int)):=by rw [cgI,if_pos h,Int.toNat_natCast]
  by_cases h1:N=1
  .subst h1
   have e9:cgI ((1:Nat):Int)=1:=rfl
   rw [e9]
   refine ⟨[],false,_,_,impl_countPairs 1 (by omega) (by omega),nd0,rfl,rfl,trivial,((cp 1+1:Nat):Int),w64_eq (by omega) (by omega) (by omega),?_⟩
   refine ⟨Nat,fun k=>⟨[(0,I 1),(3,I (k:Nat)),(10,I (cp 1+1:Nat)),(11,I (k:Nat))],[]⟩,fun k=>k<=1,fun k=>1-k,0,Nat.zero_le _,
    ⟨⟨rfl,rfl⟩,⟨rfl,rfl,rfl,rfl,trivial⟩,trivial⟩,fun k hk=>?_⟩
   dsimp only at hk
   have h10:cp 1+1=1:=rfl
   refine ⟨fun h5=>?_,fun h5=>?_⟩
   .obtain rfl:k=0:=by omega
    refine ⟨[],false,_,_,impl_CountGraphsWith 1 0,nd0,rfl,rfl,trivial,?_⟩
    have e1:cgwI 1 0=1:=rfl
    rw [e1]
    refine ⟨1,rfl,?_⟩
    exact ⟨1,rfl,1,by decide,by decide,⟨rfl,rfl⟩,⟨rfl,rfl,rfl,rfl,trivial⟩,trivial⟩
   .obtain rfl:k=1:=by omega
    exact ⟨none,⟨rfl,trivial⟩,rfl,rfl⟩
  .have hS:=sym_ok N (by omega) (by omega)
   have hG:=cg_ok N (by omega) (by omega)
   have hal:=actsL_len N
   have hl2:=hS.l2
   have hsm:=fun j=>sumTo_le (cgwN N) 122880 j fun i _=>cgw_le N i hG (by omega)
   rw [e0,if_neg (by omega)]
   refine ⟨[],false,_,_,impl_countPairs N (by omega) (by omega),nd0,rfl,rfl,trivial,((cp N+1:Nat):Int),w64_eq (by omega) (by omega) (by omega),?_⟩
   refine ⟨Nat,fun k=>⟨[(0,I (N:Nat)),(3,I (sumTo (cgwN N) k:Nat)),(10,I (cp N+1:Nat)),(11,I (k:Nat))],[]⟩,fun k=>k<=cp N+1,fun k=>cp N+1-k,0,Nat.zero_le _,
    ⟨⟨rfl,rfl⟩,⟨rfl,rfl,rfl,rfl,trivial⟩,trivial⟩,fun k hk=>?_⟩
   dsimp only at hk
   have hsk:=hsm k
   have hsk1:=hsm (k+1)
   refine ⟨fun h5=>?_,fun h5=>?_⟩
   .have e1:cgwI (N:Int) (k:Int)=((cgwN N k:Nat):Int):=by
     rw [cgwI,if_pos h,if_pos (by rw [Int.toNat_natCast];omega),if_neg (by omega),Int.toNat_natCast,Int.toNat_natCast]
    refine ⟨[],false,_,_,impl_CountGraphsWith (N:Int) (k:Int),nd0,rfl,rfl,trivial,?_⟩
    rw [e1]
    refine ⟨((sumTo (cgwN N) (k+1):Nat):Int),w64_eq (by rw [sumTo];omega) (by omega) (by omega),?_⟩
    exact ⟨((k+1:Nat):Int),w64_eq (by omega) (by omega) (by omega),k+1,by dsimp only;omega,by dsimp only;omega,⟨rfl,rfl⟩,⟨rfl,rfl,rfl,rfl,trivial⟩,trivial⟩
   .obtain rfl:k=cp N+1:=by omega
    exact ⟨none,⟨rfl,trivial⟩,rfl,rfl⟩
 .have h:=of_decide_eq_false h
  exact ⟨none,⟨retI (by rw [cgI,if_neg h]),trivial⟩,rfl,rfl⟩
def ccN (q:List Int):Nat:=if permB q=true then (cycL q).length else 0
theorem ccN_le (q:List Int):ccN q<=10:=by
 unfold ccN
 split
 .rename_i h;exact (cyc_small ((permB_iff q).1 h)).1
 .omega
theorem spec_CyclesOf_no (s:Bool) (q:List Int) (hl:q.length<=1048576) (h:permB q=false):AC Tryz.prog 205 [.d s (.sl .int) q] [] [.nil] []:=by
 refine AC_of tauOk 48 0 [2] Tryz.func205 rfl (by kernel_rfl) rfl rfl rfl rfl rfl ?_
 refine ⟨[],false,_,_,spec_PermOk s q hl,nd0,rfl,rfl,trivial,fun e=>(by rw [h] at e;cases e),fun _=>?_⟩
 exact ⟨none,⟨rfl,trivial⟩,rfl,rfl⟩
theorem spec_CountCycles (s:Bool) (q:List Int) (hl:q.length<=1048576):AC Tryz.prog 236 [.d s (.sl .int) q] [] [I (ccN q:Nat)] []:=by
 cases h:permB q
 .refine AC_of tauOk 6 0 [2] Tryz.func236 rfl (by kernel_rfl) rfl rfl rfl rfl rfl ?_
  refine ⟨[],false,_,_,spec_CyclesOf_no s q hl h,nd0,rfl,rfl,trivial,?_⟩
  exact ⟨none,⟨retI (by rw [ccN,h];rfl),trivial⟩,rfl,rfl⟩
 .refine AC_of tauOk 6 0 [2] Tryz.func236 rfl (by kernel_rfl) rfl rfl rfl rfl rfl ?_
  refine ⟨[],true,_,_,spec_CyclesOf s q ((permB_iff q).1 h),nd0,rfl,rfl,trivial,?_⟩
  exact ⟨none,⟨retI (by rw [ccN,h];rfl),trivial⟩,rfl,rfl⟩
theorem spec_l05Power2 (c:Nat) (hc:c<=10):AC Tryz.prog 230 [I 2,I (c:Nat)] [] [I (2 ^ c:Nat)] []:=by
 have hp:∀k,k<=c->2 ^ k<=1024:=fun k hk=>Nat.le_trans (Nat.pow_le_pow_right (by decide) (show k<=10 by omega)) (by decide)
 refine AC_of tauOk 16 0 [4] Tryz.func230 rfl (by kernel_rfl) rfl rfl rfl rfl rfl ?_
 refine ⟨Nat,fun k=>⟨[(0,I 2),(1,I (c:Nat)),(5,I (2 ^ k:Nat)),(6,I (k:Nat))],[]⟩,fun k=>k<=c,fun k=>c-k,0,Nat.zero_le _,
  ⟨⟨rfl,rfl⟩,⟨rfl,rfl,rfl,rfl,trivial⟩,trivial⟩,fun k hk=>?_⟩
 dsimp only at hk
 refine ⟨fun h2=>?_,fun h2=>?_⟩
 .have:=hp (k+1) (by omega)
  refine ⟨((2 ^ (k+1):Nat):Int),w64_eq (by rw [Nat.pow_succ,Int.natCast_mul];rfl) (Int.le_trans (by decide) (Int.natCast_nonneg _)) (by omega),?_⟩
  exact ⟨((k+1:Nat):Int),w64_eq (by omega) (by omega) (by omega),k+1,by dsimp only;omega,by dsimp only;omega,⟨rfl,rfl⟩,⟨rfl,rfl,rfl,rfl,trivial⟩,trivial⟩
 .obtain rfl:k=c:=by omega
  exact ⟨none,⟨rfl,trivial⟩,rfl,rfl⟩
theorem cg_one:sumTo (fun k=>2 ^ ccN ((actsL 1).getD k [])) (actsL 1).length / (actsL 1).length=1:=by decide+kernel
theorem cg_eq (n:Nat) (h1:1<=n) (hn:n<6):((sumTo (fun k=>2 ^ ccN ((actsL n).getD k [])) (actsL n).length / (actsL n).length:Nat):Int)=cgI n:=by
 unfold cgI
 rw [if_pos (by omega),Int.toNat_natCast]
 by_cases h:n=1
 .subst h
  rw [cg_one];rfl
 .rw [if_neg (by omega)]
  have hG:=cg_ok n hn (by omega)
  rw [hG.e]
  have:∀j,j<=(actsL n).length->sumTo (fun k=>2 ^ ccN ((actsL n).getD k [])) j=sumTo (fun k=>2 ^ (cycL ((actsL n).getD k [])).length) j:=by
   intro j
   induction j with
   |zero=>intro _;rfl
   |succ j ih=>
    intro hj
    rw [sumTo,sumTo,ih (by omega),ccN,if_pos ((permB_iff _).2 (hG.p j (by omega)).1)]
  rw [this _ (Nat.le_refl _)]
  rfl
theorem spec_CountGraphs (n:Int):AC Tryz.prog 129 [I n] [] [I (cgI n)] []:=by
 refine AC_of tauOk 28 0 [2] Tryz.func129 rfl (by kernel_rfl) rfl rfl rfl rfl rfl ?_
 refine ⟨[],false,_,_,spec_l01In _ _ _,nd0,rfl,rfl,trivial,fun h=>?_,fun h=>?_⟩
 .simp only [Bool.and_eq_true,decide_eq_true_eq] at h
  obtain ⟨N,rfl⟩:∃N:Nat,n=(N:Int):=⟨n.toNat,by omega⟩
  have hS:=sym_ok N (by omega) (by omega)
  have hal:=actsL_len N
  have hl1:=hS.l1
  have hl2:=hS.l2
  have hpo:=pact_ok (by omega) (by omega) hS
  have hsm:=fun j=>sumTo_le (fun k=>2 ^ ccN ((actsL N).getD k [])) 1024 j fun i _=>Nat.le_trans (Nat.pow_le_pow_right (by decide) (ccN_le _)) (by decide)
  rw [<-cg_eq N (by omega) (by omega)]
  refine ⟨[],true,_,_,spec_l11All N (by omega) (by omega),nd0,rfl,rfl,trivial,?_⟩
  refine ⟨Nat,fun k=>⟨[(3,I (sumTo (fun k=>2 ^ ccN ((actsL N).getD k [])) k:Nat)),(4,.d true (.sl (.sl .int)) (actsL N)),(12,.d true (.sl (.sl .int)) (actsL N)),(13,I (actsL N).length),(14,I (k:Nat))],[]⟩,fun k=>k<=(actsL N).length,fun k=>(actsL N).length-k,0,Nat.zero_le _,
   ⟨⟨rfl,rfl⟩,⟨rfl,rfl,rfl,rfl,rfl,trivial⟩,trivial⟩,fun k hk=>?_⟩
  dsimp only at hk
  have hsk:=hsm k
  have hsk1:=hsm (k+1)
  refine ⟨fun h5=>?_,fun h5=>?_⟩
  .have hk2:k<(actsL N).length:=by omega
   have hq:=(hpo k hk2).1
   refine ⟨k,rfl,hk2,[],false,_,_,spec_CountCycles true ((actsL N).getD k []) (by omega),nd0,rfl,rfl,trivial,[],false,_,_,spec_l05Power2 (ccN ((actsL N).getD k [])) (ccN_le _),nd0,rfl,rfl,trivial,?_⟩
   refine ⟨((sumTo (fun k=>2 ^ ccN ((actsL N).getD k [])) (k+1):Nat):Int),w64_eq (by rw [sumTo];omega) (by omega) (by omega),?_⟩
   exact ⟨((k+1:Nat):Int),w64_eq (by omega) (by omega) (by omega),k+1,by dsimp only;omega,by dsimp only;omega,⟨rfl,rfl⟩,⟨rfl,rfl,rfl,rfl,rfl,trivial⟩,trivial⟩
  .obtain rfl:k=(actsL N).length:=by omega
   have hd:sumTo (fun k=>2 ^ ccN ((actsL N).getD k [])) (actsL N).length / (actsL N).length<=sumTo (fun k=>2 ^ ccN ((actsL N).getD k [])) (actsL N).length:=Nat.div_le_self _ _
   refine ⟨by omega,((sumTo (fun k=>2 ^ ccN ((actsL N).getD k [])) (actsL N).length / (actsL N).length:Nat):Int),w64_eq (Int.ofNat_tdiv _ _) (Int.le_trans (by decide) (Int.natCast_nonneg _)) (by omega),?_⟩
   exact ⟨none,⟨rfl,trivial⟩,rfl,rfl⟩
 .simp only [Bool.and_eq_false_iff,decide_eq_false_iff_not] at h
  exact ⟨none,⟨retI (by rw [cgI,if_neg (fun e=>by omega)]),trivial⟩,rfl,rfl⟩
theorem spec_l05Contents (s:Bool) (l:List Int) (m:Nat) (h:ConP l m):AC Tryz.prog 303 [I (m:Nat),.d s (.sl .int) l] [] [.d true .bool true] []:=by
 have hl:=h.l2
 refine AC_of tauOk 27 0 [4] Tryz.func303 rfl (by kernel_rfl) rfl rfl rfl rfl rfl ?_
 refine ⟨fun h=>by omega,fun _=>?_⟩
 refine ⟨Nat,fun k=>⟨[(0,I (m:Nat)),(5,I (conF l k)),(11,.d s (.sl .int) l),(12,I l.length),(13,I (k:Nat))],[]⟩,fun k=>k<=2/\(0<=conF l k/\conF l k<=20),fun k=>2-k,0,⟨Nat.zero_le _,Int.le_refl 0,(by decide:(0:Int)<=20)⟩,
  ⟨⟨rfl,rfl⟩,⟨rfl,rfl,rfl,rfl,rfl,trivial⟩,trivial⟩,fun k ⟨hk,hc⟩=>?_⟩
 refine ⟨fun h2=>?_,fun h2=>?_⟩
 .have hk2:k<l.length:=by omega
  have hb:=h.el k (by omega)
  refine ⟨k,rfl,hk2,[],false,_,_,spec_l01In _ _ _,nd0,rfl,rfl,trivial,fun _=>?_,fun h3=>by simp only [Bool.and_eq_false_iff,decide_eq_false_iff_not] at h3;omega⟩
  refine ⟨conF l (k+1),w64_eq rfl (by rw [conF];omega) (by rw [conF];omega),?_⟩
  refine ⟨((k+1:Nat):Int),w64_eq (by omega) (by omega) (by omega),k+1,⟨by omega,?_⟩,by dsimp only;omega,⟨rfl,rfl⟩,⟨rfl,rfl,rfl,rfl,rfl,trivial⟩,trivial⟩
  have:k=0\/k=1:=by omega
  have h0:=h.el 0 (by omega)
  have h1:=h.el 1 (by omega)
  rcases this with rfl|rfl
  .simp only [conF];omega
  .simp only [conF];omega
 .obtain rfl:k=2:=by omega
  have e:conF l 2=(m:Int):=by have:=h.su;simp only [conF];omega
  exact ⟨fun _=>⟨none,⟨rfl,trivial⟩,rfl,rfl⟩,fun h3=>(h3 e).elim⟩
theorem drop_c2 {α:Type} (l:List α) (j:Nat) (d:α) (h:j<l.length):l.drop j=l.getD j d::l.drop (j+1):=by
 rw [getD_get _ _ _ h,List.drop_eq_getElem_cons h]
theorem spec_l05Fixed (s:Bool) (cs:List (List Int)) (hcl:cs.length<=10) (hcc:∀i,i<cs.length->(cs.getD i []).length<=10):∀(f a:Nat) (s2:Bool) (left:List Int),cs.length-a=f->a<=cs.length->left.length=2->(∀i,i<2->0<=left.getD i 0/\left.getD i 0<=10)->
 AC Tryz.prog 304 [.d s (.sl (.sl .int)) cs,I (a:Nat),.d s2 (.sl .int) left] [] [I (waysN (cs.drop a) left:Nat)] []
 |0,a,s2,left,hf,ha,hl,_=>by
  obtain rfl:a=cs.length:=by omega
  refine AC_of tauOk 51 0 [6] Tryz.func304 rfl (by kernel_rfl) rfl rfl rfl rfl rfl ?_
  refine ⟨fun _=>?_,fun h=>(h rfl).elim⟩
  exact ⟨none,⟨retI (by rw [List.drop_length];rfl),trivial⟩,rfl,rfl⟩
 |f+1,a,s2,left,hf,ha,hl,hle=>by
  have ha2:a<cs.length:=by omega
  have hc0:=hcc a ha2
  rw [drop_c2 cs a [] ha2]
  generalize hc:cs.getD a []=c at*
  have hB:=waysN_le 2 (cs.drop (a+1))
  have hB2:2 ^ (cs.drop (a+1)).length<=512:=Nat.le_trans (Nat.pow_le_pow_right (by decide) (show (cs.drop (a+1)).length<=9 by rw [List.length_drop];omega)) (by decide)
  have hsum:∀j,j<=2->sumTo (fun i=>if (c.length:Int)<=left.getD i 0 then waysN (cs.drop (a+1)) (left.set i (left.getD i 0-c.length)) else 0) j<=j*512:=fun j hj=>sumTo_le _ _ _ fun i hi=>by
   split
   .exact Nat.le_trans (hB _ (by rw [List.length_set];exact hl)) hB2
   .exact Nat.zero_le _
  refine AC_of tauOk 51 0 [6] Tryz.func304 rfl (by kernel_rfl) rfl rfl rfl rfl rfl ?_
  refine ⟨fun h=>by omega,fun _=>?_⟩
  refine ⟨Nat,fun j=>⟨[(0,.d s (.sl (.sl .int)) cs),(1,I (a:Nat)),(2,.d s2 (.sl .int) left),(7,I (sumTo (fun i=>if (c.length:Int)<=left.getD i 0 then waysN (cs.drop (a+1)) (left.set i (left.getD i 0-c.length)) else 0) j:Nat)),(15,.d s2 (.sl .int) left),(16,I left.length),(17,I (j:Nat))],[]⟩,fun j=>j<=2,fun j=>2-j,0,Nat.zero_le _,
   ⟨⟨rfl,rfl⟩,⟨rfl,rfl,rfl,rfl,rfl,rfl,rfl,trivial⟩,trivial⟩,fun j hj=>?_⟩
  dsimp only at hj
  have hsj:=hsum j hj
  refine ⟨fun h2=>?_,fun h2=>?_⟩
  .have hj2:j<left.length:=by omega
   have hb:=hle j (by omega)
   have hsj1:=hsum (j+1) (by omega)
   refine ⟨j,rfl,hj2,a,rfl,ha2,fun h3=>?_,fun h3=>?_⟩
   .have h3:left.getD j 0<((cs.getD a []).length:Int):=h3
    rw [hc] at h3
    have e1:sumTo (fun i=>if (c.length:Int)<=left.getD i 0 then waysN (cs.drop (a+1)) (left.set i (left.getD i 0-c.length)) else 0) (j+1)=sumTo (fun i=>if (c.length:Int)<=left.getD i 0 then waysN (cs.drop (a+1)) (left.set i (left.getD i 0-c.length)) else 0) j:=by
     rw [sumTo,if_neg (by omega),Nat.add_zero]
    exact ⟨((j+1:Nat):Int),w64_eq (by omega) (by omega) (by omega),j+1,by dsimp only;omega,by dsimp only;omega,⟨rfl,rfl⟩,⟨rfl,rfl,rfl,retI (by rw [e1]),rfl,rfl,rfl,trivial⟩,trivial⟩
   .have h3:¬left.getD j 0<((cs.getD a []).length:Int):=h3
    rw [hc] at h3
    have e1:sumTo (fun i=>if (c.length:Int)<=left.getD i 0 then waysN (cs.drop (a+1)) (left.set i (left.getD i 0-c.length)) else 0) (j+1)=sumTo (fun i=>if (c.length:Int)<=left.getD i 0 then waysN (cs.drop (a+1)) (left.set i (left.getD i 0-c.length)) else 0) j+waysN (cs.drop (a+1)) (left.set j (left.getD j 0-c.length)):=by
     rw [sumTo,if_pos (by omega)]
    have hW:=spec_l05Fixed s cs hcl hcc f (a+1) false (left.set j (left.getD j 0-c.length)) (by omega) (by omega) (by rw [List.length_set];exact hl) (fun i hi=>by
     by_cases e2:j=i
     .subst e2;rw [L_set_self _ _ _ _ hj2];omega
     .rw [L_set_ne _ _ _ _ _ e2];exact hle i hi)
    have hbw:=hB (left.set j (left.getD j 0-c.length)) (by rw [List.length_set];exact hl)
    refine ⟨rfl,by decide,true,?_⟩
    refine ⟨rfl,Nat.zero_le _,rfl,by simp only [List.length_nil];omega,rfl,?_⟩
    refine ⟨a,rfl,ha2,left.getD j 0-c.length,w64_eq (by rw [hc]) (by omega) (by omega),j,rfl,(by rw [List.nil_append];exact hj2),?_⟩
    refine ⟨((a+1:Nat):Int),w64_eq (by omega) (by omega) (by omega),?_⟩
    refine ⟨[],false,_,_,hW,nd0,rfl,rfl,trivial,?_⟩
    refine ⟨((sumTo (fun i=>if (c.length:Int)<=left.getD i 0 then waysN (cs.drop (a+1)) (left.set i (left.getD i 0-c.length)) else 0) (j+1):Nat):Int),w64_eq (by rw [e1];omega) (by omega) (by omega),?_⟩
    exact ⟨((j+1:Nat):Int),w64_eq (by omega) (by omega) (by omega),j+1,by dsimp only;omega,by dsimp only;omega,⟨rfl,rfl⟩,⟨rfl,rfl,rfl,rfl,rfl,rfl,rfl,trivial⟩,trivial⟩
  .obtain rfl:j=2:=by omega
   exact ⟨none,⟨retI (by rw [waysN,hl]),trivial⟩,rfl,rfl⟩
theorem spec_CountFixed (s1 s2:Bool) (q l:List Int) (hq:PermP q) (hl:ConP l q.length):AC Tryz.prog 238 [.d s1 (.sl .int) q,.d s2 (.sl .int) l] [] [I (waysN (cycL q) l:Nat)] []:=by
 have hs:=cyc_small hq
 have hl2:=hl.l2
 have hq1:=hq.1
 refine AC_of tauOk 19 0 [4] Tryz.func238 rfl (by kernel_rfl) rfl rfl rfl rfl rfl ?_
 refine ⟨[],false,_,_,spec_PermOk s1 q (by omega),nd0,rfl,rfl,trivial,fun _=>?_,fun h=>by rw [(permB_iff q).2 hq] at h;cases h⟩
 refine ⟨[],false,_,_,spec_l05Contents s2 l q.length hl,nd0,rfl,rfl,trivial,fun _=>?_,nofun⟩
 refine ⟨[],true,_,_,spec_CyclesOf s1 q hq,nd0,rfl,rfl,trivial,?_⟩
 refine ⟨[],false,_,_,spec_l05Fixed true (cycL q) hs.1 hs.2 (cycL q).length 0 s2 l rfl (Nat.zero_le _) hl2 hl.el,nd0,rfl,rfl,trivial,?_⟩
 exact ⟨none,⟨rfl,trivial⟩,rfl,rfl⟩
theorem spec_CountGraphsWith (n e:Int):AC Tryz.prog 130 [I n,I e] [] [I (cgwI n e)] []:=by
 refine AC_of tauOk 43 0 [4] Tryz.func130 rfl (by kernel_rfl) rfl rfl rfl rfl rfl ?_
 refine ⟨[],false,_,_,spec_l01In _ _ _,nd0,rfl,rfl,trivial,fun h=>?_,fun h=>?_⟩
 .simp only [Bool.and_eq_true,decide_eq_true_eq] at h
  obtain ⟨N,rfl⟩:∃N:Nat,n=(N:Int):=⟨n.toNat,by omega⟩
  have hcp:=cp_le N (by omega)
  have e0:cgwI (N:Int) e=(if 0<=e/\e<=((cp N:Nat):Int) then (if (N:Int)=1 then 1 else ((cgwN N e.toNat:Nat):Int)) else 0):=by rw [cgwI,if_pos h,Int.toNat_natCast]
  rw [e0]
  refine ⟨[],false,_,_,spec_l11Pairs N (by omega) (by omega),nd0,rfl,rfl,trivial,?_⟩
  refine ⟨[],false,_,_,spec_l01In _ _ _,nd0,rfl,rfl,trivial,fun h3=>?_,fun h3=>?_⟩
  .simp only [Bool.and_eq_true,decide_eq_true_eq] at h3
   rw [if_pos (show 0<=e/\e<=((cp N:Nat):Int) by omega)]
   refine ⟨fun h4=>?_,fun h4=>?_⟩
   .exact ⟨none,⟨retI (by rw [if_pos h4]),trivial⟩,rfl,rfl⟩
   rw [if_neg h4]
   obtain ⟨E,rfl⟩:∃E:Nat,e=(E:Int):=⟨e.toNat,by omega⟩
   rw [Int.toNat_natCast]
   have hS:=sym_ok N (by omega) (by omega)
   have hG:=cg_ok N (by omega) (by omega)
   have hal:=actsL_len N
   have hl1:=hS.l1
   have hl2:=hS.l2
   have hC:=con_of (cp N) E hcp.1 (by omega)
   have hB:=cgs_le N E hG
   refine ⟨[],true,_,_,spec_l11All N (by omega) (by omega),nd0,rfl,rfl,trivial,?_⟩
   refine ⟨Nat,fun k=>⟨[(1,I (E:Nat)),(5,I (cp N:Nat)),(6,I (sumTo (fun k=>waysN (cycL ((actsL N).getD k [])) [((cp N-E:Nat):Int),(E:Int)]) k:Nat)),(7,.d true (.sl (.sl .int)) (actsL N)),(23,.d true (.sl (.sl .int)) (actsL N)),(24,I (actsL N).length),(25,I (k:Nat))],[]⟩,fun k=>k<=(actsL N).length,fun k=>(actsL N).length-k,0,Nat.zero_le _,
    ⟨⟨rfl,rfl⟩,⟨rfl,rfl,rfl,rfl,rfl,rfl,rfl,trivial⟩,trivial⟩,fun k hk=>?_⟩
   dsimp only at hk
   have hBk:=hB k (by omega)
   refine ⟨fun h5=>?_,fun h5=>?_⟩
   .have hk2:k<(actsL N).length:=by omega
    have hq:=hG.p k (by omega)
    have hBk1:=hB (k+1) (by omega)
    have hw:=ways_le hq.1 (l:=[((cp N-E:Nat):Int),(E:Int)]) rfl
    refine ⟨k,rfl,hk2,?_⟩
    refine ⟨((cp N-E:Nat):Int),w64_eq (by omega) (by omega) (by omega),?_⟩
    refine ⟨rfl,by decide,false,?_⟩
    refine ⟨[],false,_,_,spec_CountFixed true true ((actsL N).getD k []) [((cp N-E:Nat):Int),(E:Int)] hq.1 (by rw [hq.2];exact hC),nd0,rfl,rfl,trivial,?_⟩
    refine ⟨((sumTo (fun k=>waysN (cycL ((actsL N).getD k [])) [((cp N-E:Nat):Int),(E:Int)]) (k+1):Nat):Int),w64_eq (by rw [sumTo];omega) (by omega) (by omega),?_⟩
    exact ⟨((k+1:Nat):Int),w64_eq (by omega) (by omega) (by omega),k+1,by dsimp only;omega,by dsimp only;omega,⟨rfl,rfl⟩,⟨rfl,rfl,rfl,rfl,rfl,rfl,rfl,trivial⟩,trivial⟩
   .obtain rfl:k=(actsL N).length:=by omega
    have hcw:=cgw_le N E hG (by omega)
    refine ⟨by omega,((cgwN N E:Nat):Int),w64_eq (by unfold cgwN cgsN;exact Int.ofNat_tdiv _ _) (Int.le_trans (by decide) (Int.natCast_nonneg _)) (by omega),?_⟩
    exact ⟨none,⟨rfl,trivial⟩,rfl,rfl⟩
  .simp only [Bool.and_eq_false_iff,decide_eq_false_iff_not] at h3
   exact ⟨none,⟨retI (by rw [if_neg (fun e=>by omega)]),trivial⟩,rfl,rfl⟩
 .simp only [Bool.and_eq_false_iff,decide_eq_false_iff_not] at h
  exact ⟨none,⟨retI (by rw [cgwI,if_neg (fun e=>by omega)]),trivial⟩,rfl,rfl⟩
theorem pigeon:∀(m:Nat) (l:List Nat),l.Nodup->(∀x∈l,x<m)->l.length<=m
 |0,l,_,h=>by
  cases l with
  |nil=>simp
  |cons a l=>exact absurd (h a (by simp)) (by omega)
 |m+1,l,hn,h=>by
  by_cases hm:m∈l
  .have h1:=pigeon m (l.erase m) (hn.erase m) (fun x hx=>by
    have h2:=h x (List.mem_of_mem_erase hx)
    have h3:x≠m:=(hn.mem_erase_iff.1 hx).1
    omega)
   rw [List.length_erase_of_mem hm] at h1
   omega
  .have:=pigeon m l hn fun x hx=>by
    have h2:=h x hx
    have h3:x≠m:=fun e=>hm (e ▸ hx)
    omega
   omega
theorem perm_inj {p:List Int} (h:PermP p) {i j:Nat} (hi:i<p.length) (hj:j<p.length) (e:(p.getD i 0).toNat=(p.getD j 0).toNat):i=j:=by
 have h1:=(h.2 i hi)
 have h2:=(h.2 j hj)
 have e2:p.getD i 0=p.getD j 0:=by omega
 rcases Nat.lt_trichotomy i j with h3|h3|h3
 .exact (h2.2 i h3 e2).elim
 .exact h3
 .exact (h1.2 j h3 e2.symm).elim
theorem perm_nodup {p:List Int} (h:PermP p):(p.map Int.toNat).Nodup:=by
 rw [List.Nodup,List.pairwise_iff_getElem]
 intro i j hi hj hij e
 simp only [List.length_map] at hi hj
 simp only [List.getElem_map] at e
 have:=perm_inj h hi hj (by rw [getD_get _ _ _ hi,getD_get _ _ _ hj];exact e)
 omega
theorem perm_surj {p:List Int} (h:PermP p) {j:Nat} (hj:j<p.length):∃i,i<p.length/\(p.getD i 0).toNat=j:=by
 apply Classical.byContradiction
 intro hn
 have hm:j∉p.map Int.toNat:=fun hm=>by
  obtain ⟨i,hi,e⟩:=List.getElem_of_mem hm
  simp only [List.length_map] at hi
  simp only [List.getElem_map] at e
  exact hn ⟨i,hi,by rw [getD_get _ _ _ hi];exact e⟩
 have:=pigeon p.length (j::p.map Int.toNat) (List.nodup_cons.2 ⟨hm,perm_nodup h⟩) (fun x hx=>by
  rcases List.mem_cons.1 hx with rfl|hx
  .exact hj
  .obtain ⟨i,hi,e⟩:=List.getElem_of_mem hx
   simp only [List.length_map] at hi
   simp only [List.getElem_map] at e
   have:=(h.2 i hi).1
   rw [getD_get _ _ _ hi] at this
   omega)
 simp only [List.length_cons,List.length_map] at this
 omega
def actS (p xs:List Int):Nat->List Int
 |0=>List.replicate xs.length 0
 |k+1=>(actS p xs k).set (p.getD k 0).toNat (xs.getD k 0)
def actL (p xs:List Int):List Int:=actS p xs xs.length
theorem actS_len (p xs:List Int):∀k,(actS p xs k).length=xs.length
 |0=>by simp [actS]
 |k+1=>by rw [actS,List.length_set,actS_len p xs k]
theorem actL_len (p xs:List Int):(actL p xs).length=xs.length:=actS_len p xs _
theorem actS_get {p xs:List Int} (h:PermP p) (hl:p.length=xs.length):∀k,k<=xs.length->∀i,i<k->(actS p xs k).getD (p.getD i 0).toNat 0=xs.getD i 0
 |0,_,i,hi=>by omega
 |k+1,hk,i,hi=>by
  have h1:=(h.2 k (by omega)).1
  by_cases e:i=k
  .subst e
   rw [actS,L_set_self _ _ _ _ (by rw [actS_len];omega)]
  .rw [actS,L_set_ne _ _ _ _ _ (fun e2=>e (perm_inj h (by omega) (by omega) e2).symm),actS_get h hl k (by omega) i (by omega)]
theorem actL_get {p xs:List Int} (h:PermP p) (hl:p.length=xs.length) (i:Nat) (hi:i<xs.length):(actL p xs).getD (p.getD i 0).toNat 0=xs.getD i 0:=
 actS_get h hl _ (Nat.le_refl _) i hi
theorem act_ext {p ys zs:List Int} (h:PermP p) (hy:ys.length=p.length) (hz:zs.length=p.length) (he:∀i,i<p.length->ys.getD (p.getD i 0).toNat 0=zs.getD (p.getD i 0).toNat 0):ys=zs:=by
 refine ext_getD 0 (by omega) fun j hj=>?_
 obtain ⟨i,hi,e⟩:=perm_surj h (j:=j) (by omega)
 have:=he i hi
 rwa [e] at this
theorem exL_at (xs h:List Int) (k:Nat) (hk:k<xs.length):(exL xs h).getD k 0=h.getD (xs.getD k 0).toNat 0:=by
 rw [getD_get _ _ _ (by rw [exL_len];exact hk),getD_get _ _ _ hk];simp [exL]
theorem act_exL {p xs:List Int} (h:PermP p) (hl:p.length=xs.length) (q:List Int):exL (actL p xs) q=actL p (exL xs q):=by
 refine act_ext h (by rw [exL_len,actL_len,hl]) (by rw [actL_len,exL_len,hl]) fun i hi=>?_
 have h1:=(h.2 i hi).1
 rw [exL_at _ _ _ (by rw [actL_len];omega),actL_get h hl i (by omega),actL_get h (by rw [exL_len];exact hl) i (by rw [exL_len];omega),exL_at _ _ _ (by omega)]
theorem act_all {p xs:List Int} (h:PermP p) (hl:p.length=xs.length) (Q:Int->Prop) (hQ:∀i,i<xs.length->Q (xs.getD i 0)):∀i,i<(actL p xs).length->Q ((actL p xs).getD i 0):=fun j hj=>by
 rw [actL_len] at hj
 obtain ⟨i,hi,e⟩:=perm_surj h (j:=j) (by omega)
 rw [<-e,actL_get h hl i (by omega)]
 exact hQ i (by omega)
theorem act_col {p xs:List Int} (h:PermP p) (hl:p.length=xs.length) (hx:ColP xs):ColP (actL p xs):=
 ⟨act_all h hl (fun z=>0<=z/\z<4) hx.1,by rw [actL_len];exact hx.2.1,by rw [actL_len];exact hx.2.2⟩
theorem leI_trans {x y z:List Int} (h1:cmpI x y<=0) (h2:cmpI y z<=0):cmpI x z<=0:=by
 by_cases e1:cmpI x y=0
 .rw [cmpI_eq _ _ e1];exact h2
 .by_cases e2:cmpI y z=0
  .rw [<-cmpI_eq _ _ e2];exact h1
  .have:=cmpI_trans x y z (by omega) (by omega);omega
theorem leI_anti {x y:List Int} (h1:cmpI x y<=0) (h2:cmpI y x<=0):x=y:=by
 have:=cmpI_neg x y
 exact cmpI_eq _ _ (by omega)
def bstF (f:List Int->List Int) (b:List Int) (g:List (List Int)):Nat->List Int
 |0=>b
 |k+1=>if cmpI (f (g.getD k [])) (bstF f b g k)<0 then f (g.getD k []) else bstF f b g k
theorem bst_step (f:List Int->List Int) (b:List Int) (g:List (List Int)) (k:Nat):cmpI (bstF f b g (k+1)) (bstF f b g k)<=0/\cmpI (bstF f b g (k+1)) (f (g.getD k []))<=0:=by
 rw [bstF]
 split
 .rename_i h;exact ⟨by omega,by rw [cmpI_refl];omega⟩
 .rename_i h;exact ⟨by rw [cmpI_refl];omega,by have:=cmpI_neg (f (g.getD k [])) (bstF f b g k);omega⟩
theorem bst_le0 (f:List Int->List Int) (b:List Int) (g:List (List Int)):∀k,cmpI (bstF f b g k) b<=0
 |0=>by rw [bstF,cmpI_refl];omega
 |k+1=>leI_trans (bst_step f b g k).1 (bst_le0 f b g k)
theorem bst_le (f:List Int->List Int) (b:List Int) (g:List (List Int)):∀k i,i<k->cmpI (bstF f b g k) (f (g.getD i []))<=0
 |0,i,hi=>by omega
 |k+1,i,hi=>by
  by_cases e:i=k
  .subst e;exact (bst_step f b g i).2
  .exact leI_trans (bst_step f b g k).1 (bst_le f b g k i (by omega))
theorem bst_mem (f:List Int->List Int) (b:List Int) (g:List (List Int)):∀k,bstF f b g k=b\/∃i,i<k/\bstF f b g k=f (g.getD i [])
 |0=>.inl rfl
 |k+1=>by
  rw [bstF]
  split
  .exact .inr ⟨k,by omega,rfl⟩
  .rcases bst_mem f b g k with h|⟨i,hi,h⟩
   .exact .inl h
   .exact .inr ⟨i,by omega,h⟩
def canL (g:List (List Int)) (xs:List Int):List Int:=bstF (fun p=>actL p xs) xs g g.length
def cexL (g:List (List Int)) (xs:List Int):List Int:=bstF (fun p=>firstL (actL p xs)) (firstL xs) g g.length
def cexS (g S:List (List Int)) (xs:List Int):List Int:=bstF (fun h=>canL g (exL xs h)) xs S S.length
def cntN (l:List Int):Nat:=(l.filter fun x=>decide (0<=x)).length
theorem cntN_set:∀(l:List Int) (c:Nat) (m:Int),c<l.length->l.getD c 0<0->0<=m->cntN (l.set c m)=cntN l+1
 |[],c,m,h,_,_=>by simp at h
 |x::l,0,m,_,h0,hm=>by
  have h0:x<0:=h0
  simp [cntN,hm,show ¬0<=x by omega]
 |x::l,c+1,m,h,h0,hm=>by
  have:=cntN_set l c m (by simpa using h) (by simpa using h0) hm
  unfold cntN at this ⊢
  rw [List.set_cons_succ,List.filter_cons,List.filter_cons]
  split
  .simp only [List.length_cons];omega
  .exact this
structure FcJ (xs:List Int) (k:Nat) (s:(List Int × Int) × List Int):Prop where
 ob:∀i,i<k->s.2.getD i 0=s.1.1.getD (xs.getD i 0).toNat 0
 inj:∀c,c<4->∀d,d<4->0<=s.1.1.getD c 0->s.1.1.getD c 0=s.1.1.getD d 0->c=d
 cnt:(cntN s.1.1:Int)=s.1.2
theorem fcJ (xs:List Int) (hx:∀i,i<xs.length->0<=xs.getD i 0/\xs.getD i 0<4):∀k,k<=xs.length->FcJ xs k (fcS xs k)
 |0,_=>⟨fun i hi=>by omega,by unfold fcS;decide,rfl⟩
 |k+1,hk=>by
  have H:=fcJ xs hx k (by omega)
  have I:=fcI xs hx k (by omega)
  have hxk:=hx k (by omega)
  obtain ⟨c,hc⟩:∃c:Nat,xs.getD k 0=c:=⟨(xs.getD k 0).toNat,by omega⟩
  have hc4:c<4:=by omega
  have hl4:=I.l4
  have hlo:=I.lo
  by_cases h0:(fcS xs k).1.1.getD c 0<0
  .rw [fcS_new xs k c hc h0]
   refine ⟨fun i hi=>?_,fun d hd e he h1 h2=>?_,?_⟩
   .dsimp only
    by_cases ei:i=k
    .subst ei
     rw [L_app_r _ _ _ _ (by omega),hlo,Nat.sub_self,hc,Int.toNat_natCast];rfl
    .rw [L_app_l _ _ _ _ (by omega),H.ob i (by omega)]
     have hne:c≠(xs.getD i 0).toNat:=fun e=>(I.fr c hc4).1 h0 i (by omega) (by have:=hx i (by omega);omega)
     rw [L_set_ne _ _ _ _ _ hne]
   .dsimp only at h1 h2
    by_cases e1:c=d
    .by_cases e2:c=e
     .omega
     .subst e1
      rw [L_set_self _ _ _ _ (by omega),L_set_ne _ _ _ _ _ e2] at h2
      have:=I.nm e he
      omega
    .by_cases e2:c=e
     .subst e2
      rw [L_set_self _ _ _ _ (by omega),L_set_ne _ _ _ _ _ e1] at h2
      have:=I.nm d hd
      omega
     .rw [L_set_ne _ _ _ _ _ e1] at h1 h2
      rw [L_set_ne _ _ _ _ _ e2] at h2
      exact H.inj d hd e he h1 h2
   .dsimp only
    have:=H.cnt
    rw [cntN_set _ _ _ (by omega) h0 I.m0]
    omega
  .rw [fcS_old xs k c hc h0]
   refine ⟨fun i hi=>?_,H.inj,H.cnt⟩
   dsimp only
   by_cases ei:i=k
   .subst ei
    rw [L_app_r _ _ _ _ (by omega),hlo,Nat.sub_self,hc,Int.toNat_natCast];rfl
   .rw [L_app_l _ _ _ _ (by omega),H.ob i (by omega)]
def validN (k:Nat) (nm:List Int):Bool:=(List.range 4).all fun c=>(decide (nm.getD c 0<0)||(decide (nm.getD c 0<(cntN nm:Int)) && decide (c<k))) && (List.range c).all fun d=>decide (nm.getD c 0<0)||decide (nm.getD d 0≠nm.getD c 0)
def extOk (k:Nat) (nm:List Int):Bool:= !validN k nm||((symL k).any (fun h=>(List.range k).all fun c=>decide (nm.getD c 0<0)||decide (h.getD c 0=nm.getD c 0)) && (List.range (cntN nm)).all fun v=>nm.contains (v:Int))
def extAll (k:Nat):Bool:=(List.range 5).all fun a=>(List.range 5).all fun b=>(List.range 5).all fun c=>(List.range 5).all fun d=>extOk k [((a:Nat):Int)-1,((b:Nat):Int)-1,((c:Nat):Int)-1,((d:Nat):Int)-1]
set_option maxRecDepth 100000 in
theorem ext_chk:∀k,k<5->1<=k->extAll k=true:=by decide+kernel
theorem ext_all (k:Nat) (hk:k<5) (h1:1<=k) (a:Nat) (ha:a<5) (b:Nat) (hb:b<5) (c:Nat) (hc:c<5) (d:Nat) (hd:d<5):extOk k [((a:Nat):Int)-1,((b:Nat):Int)-1,((c:Nat):Int)-1,((d:Nat):Int)-1]=true:=by
 have h:=ext_chk k hk h1
 unfold extAll at h
 simp only [List.all_eq_true,List.mem_range] at h
 exact h a ha b hb c hc d hd
theorem fcS_pre (xs:List Int) (j:Nat):∀k,j<k->(∀m,m<=k->(fcS xs m).2.length=m)->(fcS xs k).2.getD j 0=(fcS xs (j+1)).2.getD j 0
 |0,h,_=>by omega
 |k+1,h,hl=>by
  by_cases e:j=k
  .subst e;rfl
  .rw [<-fcS_pre xs j k (by omega) fun m hm=>hl m (by omega)]
   show ((fcS xs k).2++_).getD j 0=_
   rw [L_app_l _ _ _ _ (by rw [hl k (by omega)];omega)]
theorem firstL_at {xs:List Int} (hx:ColP xs) {j:Nat} (hj:j<xs.length):(firstL xs).getD j 0=(fcS xs (j+1)).2.getD j 0:=
 fcS_pre xs j xs.length hj fun m hm=>(fcI xs hx.1 m hm).lo
theorem cmp_le_of:∀(a b:List Int),a.length=b.length->(∀j,j<a.length->(∀i,i<j->a.getD i 0=b.getD i 0)->a.getD j 0<=b.getD j 0)->cmpI a b<=0
 |[],[],_,_=>by rw [cmpI_refl];omega
 |[],_::_,h,_=>by simp at h
 |_::_,[],h,_=>by simp at h
 |x::a,y::b,hl,h=>by
  have h0:x<=y:=h 0 (by simp) fun i hi=>by omega
  rw [cmpI]
  split
  .omega
  .split
   .omega
   .refine cmp_le_of a b (by simpa using hl) fun j hj hi=>?_
    refine h (j+1) (by simpa using hj) fun i hi2=>?_
    cases i with
    |zero=>show x=y;omega
    |succ i=>exact hi i (by omega)
structure Nms (k:Nat) (xs:List Int) (n:Nat):Prop where
 ext:∃h∈symL k,∀c,c<k->0<=(fcS xs n).1.1.getD c 0->h.getD c 0=(fcS xs n).1.1.getD c 0
 all:∀v:Int,0<=v->v<(fcS xs n).1.2->∃i,i<n/\(fcS xs n).2.getD i 0=v
theorem nms {xs:List Int} {k:Nat} (hx:ColP xs) (h1:1<=k) (h4:k<=4) (hb:∀i,i<xs.length->xs.getD i 0<(k:Int)) (n:Nat) (hn:n<=xs.length):Nms k xs n:=by
 have I:=fcI xs hx.1 n hn
 have J:=fcJ xs hx.1 n hn
 have hpos:∀c,c<4->0<=(fcS xs n).1.1.getD c 0->∃i,i<n/\xs.getD i 0=(c:Int):=fun c hc h0=>by
  apply Classical.byContradiction
  intro hne
  have:=(I.fr c hc).2 fun i hi e=>hne ⟨i,hi,e⟩
  omega
 have hl4:=I.l4
 have hnm:=I.nm
 have hcnt:=J.cnt
 generalize hs:fcS xs n=s at*
 obtain ⟨⟨names,most⟩,out⟩:=s
 dsimp only at*
 have hinj:∀c,c<4->∀d,d<4->0<=names.getD c 0->names.getD c 0=names.getD d 0->c=d:=J.inj
 have hc4:cntN names<=4:=by rw [<-hl4];exact List.length_filter_le _ _
 have hv:validN k names=true:=by
  unfold validN
  simp only [List.all_eq_true,List.mem_range,Bool.and_eq_true,Bool.or_eq_true,decide_eq_true_eq]
  refine fun c hc=>⟨?_,fun d hd=>?_⟩
  .by_cases h0:names.getD c 0<0
   .exact .inl h0
   .obtain ⟨i,hi,e⟩:=hpos c hc (by omega)
    have:=hb i (by omega)
    have:=hnm c hc
    exact .inr ⟨by omega,by omega⟩
  .by_cases h0:names.getD c 0<0
   .exact .inl h0
   .refine .inr fun e=>?_
    have:=hinj c hc d (by omega) (by omega) e.symm
    omega
 obtain ⟨a,b,c,d,rfl⟩:∃a b c d:Int,names=[a,b,c,d]:=by
  match names,hl4 with
  |[a,b,c,d],_=>exact ⟨a,b,c,d,rfl⟩
 have ha:=hnm 0 (by omega)
 have hb':=hnm 1 (by omega)
 have hc':=hnm 2 (by omega)
 have hd:=hnm 3 (by omega)
 change-1<=a/\a<most at ha
 change-1<=b/\b<most at hb'
 change-1<=c/\c<most at hc'
 change-1<=d/\d<most at hd
 have hE:=ext_all k (by omega) h1 (a+1).toNat (by omega) (b+1).toNat (by omega) (c+1).toNat (by omega) (d+1).toNat (by omega)
 rw [show (((a+1).toNat:Nat):Int)-1=a by omega,show (((b+1).toNat:Nat):Int)-1=b by omega,show (((c+1).toNat:Nat):Int)-1=c by omega,show (((d+1).toNat:Nat):Int)-1=d by omega] at hE
 unfold extOk at hE
 rw [hv] at hE
 simp only [Bool.not_true,Bool.false_or,Bool.and_eq_true,List.any_eq_true,List.all_eq_true,List.mem_range,Bool.or_eq_true,decide_eq_true_eq,List.contains_iff_mem] at hE
 obtain ⟨⟨h,hh,he⟩,hall⟩:=hE
 refine ⟨⟨h,hh,fun c' hc'' h0=>?_⟩,fun v h0 hv2=>?_⟩
 .rw [hs] at h0 ⊢
  dsimp only at h0 ⊢
  rcases he c' hc'' with h2|h2
  .omega
  .exact h2
 .rw [hs] at hv2 ⊢
  dsimp only at hv2 ⊢
  have hm:=hall v.toNat (by omega)
  rw [Int.toNat_of_nonneg h0] at hm
  obtain ⟨e,he4,hev⟩:=List.getElem_of_mem hm
  have hev:[a,b,c,d].getD e 0=v:=by rw [getD_get _ _ _ he4];exact hev
  have he4':e<4:=he4
  obtain ⟨i,hi,hxi⟩:=hpos e he4' (by omega)
  refine ⟨i,hi,?_⟩
  rw [J.ob i hi,hxi,Int.toNat_natCast];exact hev
theorem first_ex {xs:List Int} {k:Nat} (hx:ColP xs) (h1:1<=k) (h4:k<=4) (hb:∀i,i<xs.length->xs.getD i 0<(k:Int)):∃h∈symL k,exL xs h=firstL xs:=by
 have I:=fcI xs hx.1 xs.length (Nat.le_refl _)
 have J:=fcJ xs hx.1 xs.length (Nat.le_refl _)
 obtain ⟨h,hh,he⟩:=(nms hx h1 h4 hb xs.length (Nat.le_refl _)).ext
 refine ⟨h,hh,ext_getD 0 (by rw [exL_len,firstL_len xs hx]) fun i hi=>?_⟩
 rw [exL_len] at hi
 have h0:=hx.1 i hi
 have h2:=hb i hi
 have h3:=J.ob i hi
 have h5:=I.ob i hi
 rw [exL_at _ _ _ hi,he _ (by omega) (by omega)]
 exact h3.symm
theorem first_le {xs h:List Int} {k:Nat} (hx:ColP xs) (h1:1<=k) (h4:k<=4) (hb:∀i,i<xs.length->xs.getD i 0<(k:Int)) (hP:PermP h) (hl:h.length=k):cmpI (firstL xs) (exL xs h)<=0:=by
 refine cmp_le_of _ _ (by rw [exL_len,firstL_len xs hx]) fun j hj hi=>?_
 rw [firstL_len xs hx] at hj
 have I:=fcI xs hx.1 j (by omega)
 have J:=fcJ xs hx.1 j (by omega)
 have N:=nms hx h1 h4 hb j (by omega)
 have hpre:∀i,i<j->(firstL xs).getD i 0=(fcS xs j).2.getD i 0:=fun i hij=>by
  rw [firstL_at hx (by omega),fcS_pre xs i j hij fun m hm=>(fcI xs hx.1 m (by omega)).lo]
 have hxj:=hx.1 j hj
 have hbj:=hb j hj
 obtain ⟨c,hc⟩:∃c:Nat,xs.getD j 0=c:=⟨(xs.getD j 0).toNat,by omega⟩
 have hc4:c<4:=by omega
 have hhc:=(hP.2 c (by omega)).1
 have hlo:=I.lo
 rw [firstL_at hx hj,exL_at _ _ _ hj,hc,Int.toNat_natCast]
 have hex:∀i,i<j->(fcS xs j).2.getD i 0=h.getD (xs.getD i 0).toNat 0:=fun i hij=>by
  have:=hi i hij
  rw [hpre i hij,exL_at _ _ _ (by omega)] at this
  exact this
 by_cases h0:(fcS xs j).1.1.getD c 0<0
 .rw [fcS_new xs j c hc h0]
  dsimp only
  rw [L_app_r _ _ _ _ (by omega),hlo,Nat.sub_self]
  show (List.set _ c _).getD c 0<=_
  rw [L_set_self _ _ _ _ (by rw [I.l4];exact hc4)]
  apply Classical.byContradiction
  intro hlt
  obtain ⟨i,hij,hv⟩:=N.all (h.getD c 0) hhc.1 (by omega)
  rw [hex i hij] at hv
  have h2:=hx.1 i (by omega)
  have h3:=hb i (by omega)
  have:=perm_inj hP (i:=(xs.getD i 0).toNat) (j:=c) (by omega) (by omega) (by rw [hv])
  exact (I.fr c hc4).1 h0 i hij (by omega)
 .rw [fcS_old xs j c hc h0]
  dsimp only
  rw [L_app_r _ _ _ _ (by omega),hlo,Nat.sub_self]
  show (fcS xs j).1.1.getD c 0<=_
  obtain ⟨i,hij,e⟩:∃i,i<j/\xs.getD i 0=(c:Int):=by
   apply Classical.byContradiction
   intro hne
   exact h0 ((I.fr c hc4).2 fun i hi e=>hne ⟨i,hi,e⟩)
  have h2:=J.ob i hij
  have h3:=hex i hij
  rw [e,Int.toNat_natCast] at h2 h3
  omega
theorem idP (k:Nat) (h1:1<=k) (h4:k<=4):PermP (idL k)/\(idL k).length=k:=by
 have:=(by decide:∀k,k<5->1<=k->permB (idL k)=true/\(idL k).length=k) k (by omega) h1
 exact ⟨(permB_iff _).1 this.1,this.2⟩
theorem idL_at (n k:Nat) (h:k<n):(idL n).getD k 0=(k:Int):=by
 rw [getD_get _ _ _ (by simp [idL];exact h)];simp [idL]
theorem exL_id {xs:List Int} {k:Nat} (hx:ColP xs) (hb:∀i,i<xs.length->xs.getD i 0<(k:Int)):exL xs (idL k)=xs:=by
 refine ext_getD 0 (exL_len _ _) fun i hi=>?_
 rw [exL_len] at hi
 have h0:=hx.1 i hi
 have h2:=hb i hi
 rw [exL_at _ _ _ hi,idL_at _ _ (by omega)]
 omega
structure CxP (g:List (List Int)) (k:Nat) (xs:List Int):Prop where
 g:∀i,i<g.length->PermP (g.getD i [])/\(g.getD i []).length=xs.length
 x:ColP xs
 h1:1<=k
 h4:k<=4
 b:∀i,i<xs.length->xs.getD i 0<(k:Int)
theorem sym_get {k:Nat} (h1:1<=k) (h4:k<=4) {j:Nat} (hj:j<(symL k).length):PermP ((symL k).getD j [])/\((symL k).getD j []).length=k:=by
 rw [getD_get _ _ _ hj]
 exact (sym_ok k (by omega) h1).el _ (List.getElem_mem hj)
theorem first_le2 {g:List (List Int)} {k:Nat} {xs:List Int} (H:CxP g k xs) {i:Nat} (hi:i<g.length) {q:List Int} (hq:PermP q) (hl:q.length=k):cmpI (firstL (actL (g.getD i []) xs)) (actL (g.getD i []) (exL xs q))<=0:=by
 obtain ⟨h1,h2⟩:=H.g i hi
 rw [<-act_exL h1 h2]
 exact first_le (act_col h1 h2 H.x) H.h1 H.h4 (act_all h1 h2 (fun z=>z<(k:Int)) H.b) hq hl
theorem cex_same {g:List (List Int)} {k:Nat} {xs:List Int} (H:CxP g k xs):cexS g (symL k) xs=cexL g xs:=by
 have hS:∀h∈symL k,cmpI (cexS g (symL k) xs) (canL g (exL xs h))<=0:=fun h hh=>by
  obtain ⟨j,hj,e⟩:=List.getElem_of_mem hh
  have:=bst_le (fun h=>canL g (exL xs h)) xs (symL k) (symL k).length j hj
  rw [getD_get _ _ _ hj,e] at this
  exact this
 have hid:=idP k H.h1 H.h4
 have hfx:=first_le H.x H.h1 H.h4 H.b hid.1 hid.2
 rw [exL_id H.x H.b] at hfx
 have h0:cmpI (cexL g xs) (firstL xs)<=0:=bst_le0 _ _ _ _
 refine leI_anti ?_ ?_
 .rcases bst_mem (fun p=>firstL (actL p xs)) (firstL xs) g g.length with h|⟨i,hi,h⟩
  .obtain ⟨q,hq,e⟩:=first_ex H.x H.h1 H.h4 H.b
   rw [show cexL g xs=firstL xs from h,<-e]
   exact leI_trans (hS q hq) (bst_le0 _ _ _ _)
  .obtain ⟨h1,h2⟩:=H.g i hi
   obtain ⟨q,hq,e⟩:=first_ex (act_col h1 h2 H.x) H.h1 H.h4 (act_all h1 h2 (fun z=>z<(k:Int)) H.b)
   rw [show cexL g xs=firstL (actL (g.getD i []) xs) from h,<-e,act_exL h1 h2]
   exact leI_trans (hS q hq) (bst_le (fun p=>actL p (exL xs q)) (exL xs q) g g.length i hi)
 .rcases bst_mem (fun h=>canL g (exL xs h)) xs (symL k) (symL k).length with h|⟨j,hj,h⟩
  .rw [show cexS g (symL k) xs=xs from h]
   exact leI_trans h0 hfx
  .obtain ⟨hq,hql⟩:=sym_get H.h1 H.h4 hj
   rw [show cexS g (symL k) xs=canL g (exL xs ((symL k).getD j [])) from h]
   rcases bst_mem (fun p=>actL p (exL xs ((symL k).getD j []))) (exL xs ((symL k).getD j [])) g g.length with h|⟨i,hi,h⟩
   .rw [show canL g (exL xs ((symL k).getD j []))=exL xs ((symL k).getD j []) from h]
    exact leI_trans h0 (first_le H.x H.h1 H.h4 H.b hq hql)
   .rw [show canL g (exL xs ((symL k).getD j []))=actL (g.getD i []) (exL xs ((symL k).getD j [])) from h]
    exact leI_trans (bst_le (fun p=>firstL (actL p xs)) (firstL xs) g g.length i hi) (first_le2 H hi hq hql)
theorem cex_canon {g:List (List Int)} {k:Nat} {xs:List Int} (H:CxP g k xs) (h:cexL g xs=xs):canL g xs=xs:=by
 refine leI_anti (bst_le0 _ _ _ _) ?_
 rcases bst_mem (fun p=>actL p xs) xs g g.length with e|⟨i,hi,e⟩
 .rw [show canL g xs=xs from e,cmpI_refl];omega
 .rw [show canL g xs=actL (g.getD i []) xs from e]
  have hid:=idP k H.h1 H.h4
  have h2:=first_le2 H hi hid.1 hid.2
  rw [exL_id H.x H.b] at h2
  have h3:=bst_le (fun p=>firstL (actL p xs)) (firstL xs) g g.length i hi
  change cmpI (cexL g xs) _<=0 at h3
  rw [h] at h3
  exact leI_trans h3 h2
end Go.Proofs.YtacjiemkbhhhoaaGreatDoor
namespace Go.Proofs.YtacjiemkbhhhoaaGreatDoor
theorem nd_le {α:Type} [DecidableEq α]:∀(l1 l2:List α),l1.Nodup->(∀x∈l1,x∈l2)->l1.length<=l2.length
 |[],l2,_,_=>Nat.zero_le _
 |x::l1,l2,h,hs=>by
  have h1:=List.nodup_cons.1 h
  have hx:=hs x (List.mem_cons_self ..)
  have:=nd_le l1 (l2.erase x) h1.2 fun y hy=>by
   refine (List.mem_erase_of_ne ?_).2 (hs y (List.mem_cons_of_mem _ hy))
   intro e;exact h1.1 (e ▸ hy)
  rw [List.length_erase_of_mem hx] at this
  have:0<l2.length:=List.length_pos_of_mem hx
  rw [List.length_cons];omega
theorem nd_map {α β:Type} (f:α->β):∀(l:List α),l.Nodup->(∀x∈l,∀y∈l,f x=f y->x=y)->(l.map f).Nodup
 |[],_,_=>nd0
 |x::l,h,hi=>by
  have h1:=List.nodup_cons.1 h
  rw [List.map_cons,List.nodup_cons]
  refine ⟨fun hm=>?_,nd_map f l h1.2 fun a ha b hb=>hi a (List.mem_cons_of_mem _ ha) b (List.mem_cons_of_mem _ hb)⟩
  obtain ⟨y,hy,e⟩:=List.mem_map.1 hm
  have:=hi y (List.mem_cons_of_mem _ hy) x (List.mem_cons_self ..) e
  exact h1.1 (this ▸ hy)
section
variable {α β:Type} [DecidableEq β] {A:List α} {X:List β} {act:α->β->β} {mul:α->α->α} {e:α}
end
end Go.Proofs.YtacjiemkbhhhoaaGreatDoor
namespace Go.Proofs.YtacjiemkbhhhoaaGreatDoor
open Go Go.Proofs.YtacjiemkbhhhoaaGreatDoor.Ow
theorem at_mem {c:List Int} {t:Nat} (h:t<c.length):c.getD t 0∈c:=by rw [getD_get _ _ _ h];exact List.getElem_mem _
def wrdN (k:Nat):Nat->Nat->List Int
 |0,_=>[]
 |n+1,i=>wrdN k n (i / k)++[((i % k:Nat):Int)]
def wordsL (k:Nat):Nat->List (List Int)
 |0=>[[]]
 |n+1=>(wordsL k n).flatMap fun w=>(List.range k).map fun (x:Nat)=>w++[(x:Int)]
theorem wrdN_len (k:Nat):∀n i,(wrdN k n i).length=n
 |0,_=>rfl
 |n+1,i=>by simp [wrdN,wrdN_len k n]
theorem wrdN_get (k:Nat) (hk:0<k):∀n i j,j<n->0<=(wrdN k n i).getD j 0/\(wrdN k n i).getD j 0<(k:Int)
 |0,_,j,h=>by omega
 |n+1,i,j,h=>by
  rw [wrdN]
  by_cases e:j<n
  .rw [L_app_l _ _ _ _ (by rw [wrdN_len];exact e)];exact wrdN_get k hk n _ j e
  .rw [L_app_r _ _ _ _ (by rw [wrdN_len];omega),wrdN_len,show j-n=0 by omega]
   have:=Nat.mod_lt i hk
   show 0<=((i % k:Nat):Int)/\((i % k:Nat):Int)<(k:Int)
   omega
theorem range_mul (k:Nat):∀m,List.range (m*k)=(List.range m).flatMap fun q=>(List.range k).map fun r=>q*k+r
 |0=>by simp
 |m+1=>by rw [Nat.succ_mul,List.range_add,range_mul k m,List.range_succ,List.flatMap_append];simp
theorem wordsL_eq (k:Nat):∀n,wordsL k n=(List.range (k ^ n)).map (wrdN k n)
 |0=>rfl
 |n+1=>by
  rw [wordsL,wordsL_eq k n,Nat.pow_succ,range_mul,List.map_flatMap,List.flatMap_map]
  congr 1
  funext q
  rw [List.map_map]
  refine List.map_congr_left fun r hr=>?_
  have hr:=List.mem_range.1 hr
  show wrdN k n q++[(r:Int)]=wrdN k n ((q*k+r) / k)++[(((q*k+r) % k:Nat):Int)]
  rw [show (q*k+r) / k=q by rw [Nat.mul_comm,Nat.mul_add_div (by omega),Nat.div_eq_of_lt hr];rfl,show (q*k+r) % k=r by rw [Nat.mul_comm,Nat.mul_add_mod,Nat.mod_eq_of_lt hr]]
theorem wordsL_len (k n:Nat):(wordsL k n).length=k ^ n:=by rw [wordsL_eq];simp
theorem wordsL_get (k n i:Nat) (h:i<k ^ n):(wordsL k n).getD i []=wrdN k n i:=by
 rw [wordsL_eq,getD_get _ _ _ (by simpa using h)];simp
def nxtF (k:Int) (l:List Int):Nat->List Int × Bool
 |0=>(l,false)
 |i+1=>if l.getD i 0<k-1 then (l.set i (l.getD i 0+1),true) else nxtF k (l.set i 0) i
theorem nxtF_app (k:Int) (t:List Int):∀(n:Nat) (w:List Int),n<=w.length->nxtF k (w++t) n=((nxtF k w n).1++t,(nxtF k w n).2)
 |0,w,_=>rfl
 |n+1,w,h=>by
  rw [nxtF,nxtF,L_app_l _ _ _ _ (by omega)]
  split
  .rw [List.set_append_left _ _ (by omega)]
  .rw [List.set_append_left _ _ (by omega),nxtF_app k t n _ (by rw [List.length_set];omega)]
theorem nxt_wrd (k:Nat) (hk:0<k):∀n i,i<k ^ n->(nxtF (k:Int) (wrdN k n i) n).2=decide (i+1<k ^ n)/\(i+1<k ^ n->(nxtF (k:Int) (wrdN k n i) n).1=wrdN k n (i+1))
 |0,i,h=>by
  simp at h;subst h
  exact ⟨rfl,fun h=>by simp at h⟩
 |n+1,i,h=>by
  have hm:=Nat.mod_lt i hk
  have hdm:=Nat.div_add_mod i k
  have hq:i / k<k ^ n:=by rw [Nat.div_lt_iff_lt_mul hk,<-Nat.pow_succ];exact h
  have eN:nxtF (k:Int) (wrdN k (n+1) i) (n+1)=if ((i % k:Nat):Int)<(k:Int)-1 then ((wrdN k n (i / k)++[((i % k:Nat):Int)]).set n (((i % k:Nat):Int)+1),true) else nxtF (k:Int) ((wrdN k n (i / k)++[((i % k:Nat):Int)]).set n 0) n:=by
   rw [wrdN,nxtF,L_app_r _ _ _ _ (by rw [wrdN_len];exact Nat.le_refl _),wrdN_len,Nat.sub_self];rfl
  rw [eN]
  by_cases hd:i % k+1<k
  .have e1:(i+1) / k=i / k:=by
    rw [<-hdm,Nat.add_assoc,Nat.mul_add_div hk,Nat.div_eq_of_lt hd,Nat.mul_add_div hk,Nat.div_eq_of_lt hm]
   have e2:(i+1) % k=i % k+1:=by
    conv=>lhs;rw [<-hdm,Nat.add_assoc,Nat.mul_add_mod,Nat.mod_eq_of_lt hd]
   have hlt:i+1<k ^ (n+1):=by
    have h2:(i+1) / k<k ^ n:=by rw [e1];exact hq
    rwa [Nat.div_lt_iff_lt_mul hk,<-Nat.pow_succ] at h2
   have hc:(((i % k:Nat):Int))<(k:Int)-1:=by omega
   rw [if_pos hc]
   refine ⟨by simp [hlt],fun _=>?_⟩
   dsimp only
   rw [wrdN,e1,e2,List.set_append_right _ _ (by rw [wrdN_len];exact Nat.le_refl _),wrdN_len,Nat.sub_self]
   rfl
  .have hd2:i % k=k-1:=by omega
   have e0:i+1=k*(i / k+1):=by rw [Nat.mul_add,Nat.mul_one];omega
   have e1:(i+1) / k=i / k+1:=by rw [e0,Nat.mul_div_cancel_left _ hk]
   have e2:(i+1) % k=0:=by rw [e0,Nat.mul_mod_right]
   have hc:¬(((i % k:Nat):Int))<(k:Int)-1:=by omega
   have es:(wrdN k n (i / k)++[((i % k:Nat):Int)]).set n 0=wrdN k n (i / k)++[0]:=by
    rw [List.set_append_right _ _ (by rw [wrdN_len];exact Nat.le_refl _),wrdN_len,Nat.sub_self];rfl
   rw [if_neg hc,es,nxtF_app _ _ _ _ (by rw [wrdN_len];exact Nat.le_refl _)]
   obtain ⟨g1,g2⟩:=nxt_wrd k hk n (i / k) hq
   have hiff:i+1<k ^ (n+1) ↔ i / k+1<k ^ n:=by
    rw [Nat.pow_succ,<-Nat.div_lt_iff_lt_mul hk,e1]
   refine ⟨by dsimp only;rw [g1];simp [hiff],fun h2=>?_⟩
   dsimp only
   rw [wrdN,e1,e2,g2 (hiff.1 h2)];rfl
theorem wrdN_zero (k:Nat):∀n,wrdN k n 0=List.replicate n 0
 |0=>rfl
 |n+1=>by rw [wrdN,Nat.zero_div,wrdN_zero k n,Nat.zero_mod,List.replicate_succ'];rfl
def kptL (P:List Int->Bool) (k n i:Nat):List (List Int):=((List.range i).map (wrdN k n)).filter P
theorem kpt_yes (P:List Int->Bool) (k n i:Nat) (h:P (wrdN k n i)=true):kptL P k n (i+1)=kptL P k n i++[wrdN k n i]:=by
 unfold kptL;rw [List.range_succ,List.map_append,List.filter_append];simp [h]
theorem kpt_no (P:List Int->Bool) (k n i:Nat) (h:¬P (wrdN k n i)=true):kptL P k n (i+1)=kptL P k n i:=by
 unfold kptL;rw [List.range_succ,List.map_append,List.filter_append];simp [h]
theorem kpt_len (P:List Int->Bool) (k n i:Nat):(kptL P k n i).length<=i:=by
 unfold kptL;exact Nat.le_trans (List.length_filter_le _ _) (by simp)
def fixN (x:List Int):Nat->Nat
 |0=>0
 |j+1=>if x.getD j 0=(j:Int) then fixN x j+1 else fixN x j
theorem fixN_le (x:List Int):∀j,fixN x j<=j
 |0=>Nat.le_refl _
 |j+1=>by
  have:=fixN_le x j
  rw [fixN];split<;>omega
def powL (h:List Int):Nat->List Int
 |0=>idL h.length
 |c+1=>exL (powL h c) h
theorem powL_ok (h:List Int) (hh:∀i,i<h.length->0<=h.getD i 0/\h.getD i 0<(h.length:Int)):∀c,(powL h c).length=h.length/\∀i,i<(powL h c).length->0<=(powL h c).getD i 0/\(powL h c).getD i 0<(h.length:Int)
 |0=>by
  refine ⟨by simp [powL,idL],fun i hi=>?_⟩
  have hi2:i<h.length:=by simpa [powL,idL] using hi
  rw [getD_get _ _ _ hi]
  simp only [powL,idL,List.getElem_map,List.getElem_range]
  omega
 |c+1=>by
  have ih:=powL_ok h hh c
  have hl:(powL h (c+1)).length=h.length:=by rw [powL,exL_len];exact ih.1
  refine ⟨hl,fun i hi=>?_⟩
  have hb:=ih.2 i (by omega)
  have e:(powL h (c+1)).getD i 0=h.getD ((powL h c).getD i 0).toNat 0:=by
   have hi2:i<(powL h c).length:=by omega
   rw [getD_get (powL h (c+1)) i 0 hi,getD_get (powL h c) i 0 hi2]
   simp only [powL,exL,List.getElem_map]
  rw [e]
  exact hh _ (by omega)
def kepN (h:List Int) (c:Nat):Nat:=fixN (powL h c) h.length
def prdN (h:List Int) (cs:List (List Int)):Nat->Nat
 |0=>1
 |j+1=>prdN h cs j*kepN h (cs.getD j []).length
theorem prdN_le (h:List Int) (cs:List (List Int)) (hl:h.length<=4):∀j,prdN h cs j<=4 ^ j
 |0=>Nat.le_refl _
 |j+1=>by
  rw [prdN,Nat.pow_succ]
  exact Nat.mul_le_mul (prdN_le h cs hl j) (Nat.le_trans (fixN_le _ _) hl)
def sumH (p:List Int) (S:List (List Int)):Nat->Nat
 |0=>0
 |b+1=>sumH p S b+prdN (S.getD b []) (cycL p) (cycL p).length
def sumG (g S:List (List Int)):Nat->Nat
 |0=>0
 |a+1=>sumG g S a+sumH (g.getD a []) S S.length
theorem prdN_le2 (h:List Int) (cs:List (List Int)) (hl:h.length<=4) (hc:cs.length<=10) (j:Nat) (hj:j<=cs.length):prdN h cs j<=1048576:=
 Nat.le_trans (prdN_le h cs hl j) (Nat.le_trans (Nat.pow_le_pow_right (by decide) (show j<=10 by omega)) (by decide))
theorem sumH_le (p:List Int) (S:List (List Int)) (hS:∀b,b<S.length->(S.getD b []).length<=4) (hc:(cycL p).length<=10):∀b,b<=S.length->sumH p S b<=b*1048576
 |0,_=>by simp [sumH]
 |b+1,hb=>by
  have h1:=sumH_le p S hS hc b (by omega)
  have h2:=prdN_le2 (S.getD b []) (cycL p) (hS b (by omega)) hc (cycL p).length (Nat.le_refl _)
  rw [sumH];omega
theorem sumG_le (g S:List (List Int)) (hS:∀b,b<S.length->(S.getD b []).length<=4) (hl:S.length<=120) (hc:∀a,a<g.length->(cycL (g.getD a [])).length<=10):∀a,a<=g.length->sumG g S a<=a*(120*1048576)
 |0,_=>by simp [sumG]
 |a+1,ha=>by
  have h1:=sumG_le g S hS hl hc a (by omega)
  have h2:=sumH_le (g.getD a []) S hS (hc a (by omega)) S.length (Nat.le_refl _)
  rw [sumG];omega
theorem mem_words (k:Nat):∀(n:Nat) (w:List Int),w∈wordsL k n ↔ w.length=n/\∀x∈w,0<=x/\x<(k:Int)
 |0,w=>by
  rw [wordsL,List.mem_singleton]
  constructor
  .rintro rfl;exact ⟨rfl,fun x hx=>by simp at hx⟩
  .rintro ⟨h,_⟩;exact List.eq_nil_of_length_eq_zero h
 |n+1,w=>by
  rw [wordsL,List.mem_flatMap]
  constructor
  .rintro ⟨v,hv,hw⟩
   obtain ⟨x,hx,rfl⟩:=List.mem_map.1 hw
   obtain ⟨h1,h2⟩:=(mem_words k n v).1 hv
   refine ⟨by rw [List.length_append,h1];rfl,fun y hy=>?_⟩
   rcases List.mem_append.1 hy with hy|hy
   .exact h2 y hy
   .have:=List.mem_range.1 hx
    rw [List.mem_singleton.1 hy];omega
  .rintro ⟨h1,h2⟩
   have hb:=h2 (w.getD n 0) (at_mem (by omega))
   have e:=L_succ w n 0 (by omega)
   rw [List.take_of_length_le (by omega)] at e
   refine ⟨w.take n,(mem_words k n _).2 ⟨by rw [List.length_take];omega,fun x hx=>h2 x (List.mem_of_mem_take hx)⟩,List.mem_map.2 ⟨(w.getD n 0).toNat,List.mem_range.2 (by omega),?_⟩⟩
   rw [show (((w.getD n 0).toNat:Nat):Int)=w.getD n 0 by omega,<-e]
theorem words_b {k n:Nat} {w:List Int} (h:w∈wordsL k n):w.length=n/\∀i,i<w.length->0<=w.getD i 0/\w.getD i 0<(k:Int):=by
 obtain ⟨h1,h2⟩:=(mem_words k n w).1 h
 exact ⟨h1,fun i hi=>h2 _ (at_mem hi)⟩
end Go.Proofs.YtacjiemkbhhhoaaGreatDoor
