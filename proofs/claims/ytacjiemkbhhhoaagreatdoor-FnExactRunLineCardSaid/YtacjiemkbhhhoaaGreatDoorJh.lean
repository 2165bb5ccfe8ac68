/-
  Part 8 of the texts that the claim rests on: Wwoa, PlS, Wlin, Wgpw, Wgrn, Wgra, Wcub, Wsol, Wppm, Wngr, Wspt, Wgbf, Wrln, Wspb, Wspg.
  No condition beyond the given program.
-/
import Derived.Test.YtacjiemkbhhhoaaGreatDoorJg
set_option linter.unusedVariables false
set_option linter.unusedSimpArgs false
namespace Go.Proofs.YtacjiemkbhhhoaaGreatDoor
open Go Go.Proofs.YtacjiemkbhhhoaaGreatDoor.Ow
theorem slices_DeleteFunc1_none (F:Nat) (e e1:TypeId) (z1:Int) (p:List Int->Bool) (xss:List (List Int)) (hl:xss.length<=1048576)
 (hF:∀(s:Bool) i,i<xss.length->AC Tryz.prog F [.d s (.sl .int) (xss.getD i []),.ptr 0 0] [.box e1 (I z1)] [.d true .bool (p (xss.getD i []))] [.box e1 (I z1)])
 (hno:idxL p xss= -1):
 AC Tryz.prog 277 [.ow 0,.fn F [.ptr 1 0]] [.sl e (.sl .int) xss,.box e1 (I z1)] [.ow 0] [.sl e (.sl .int) xss,.box e1 (I z1)]:=by
 refine AC_of tauOk 42 2 [4] Tryz.func277 rfl (by kernel_rfl) rfl rfl rfl rfl rfl ?_
 refine ⟨[1],false,_,_,slices_IndexFunc_ints F e1 .int z1 p false xss hl (hF false),by decide,rfl,rfl,⟨⟨rfl,trivial⟩,trivial⟩,?_⟩
 refine ⟨fun _=>?_,fun h=>(h hno).elim⟩
 exact ⟨none,⟨rfl,trivial⟩,rfl,rfl⟩
theorem slices_DeleteFunc1_some (F:Nat) (e1:TypeId) (z1:Int) (p:List Int->Bool) (xss:List (List Int)) (hl:xss.length<=1048576)
 (hF:∀(s:Bool) i,i<xss.length->AC Tryz.prog F [.d s (.sl .int) (xss.getD i []),.ptr 0 0] [.box e1 (I z1)] [.d true .bool (p (xss.getD i []))] [.box e1 (I z1)])
 (i0:Nat) (hi:idxL p xss=(i0:Int)) (h0:i0<xss.length):
 AC Tryz.prog 277 [.ow 0,.fn F [.ptr 1 0]] [.sl 29 (.sl .int) xss,.box e1 (I z1)] [.x (.sb 0 0 (delS p xss i0 (xss.length-(i0+1))).2)]
  [.sl 29 (.sl .int) (delR p xss i0),.box e1 (I z1)]:=by
 refine AC_of tauOk 42 2 [4] Tryz.func277 rfl (by kernel_rfl) rfl rfl rfl rfl rfl ?_
 refine ⟨[1],false,_,_,slices_IndexFunc_ints F e1 .int z1 p false xss hl (hF false),by decide,rfl,rfl,⟨⟨rfl,trivial⟩,trivial⟩,?_⟩
 rw [hi]
 refine ⟨fun h=>by omega,fun _=>?_⟩
 refine ⟨((i0+1:Nat):Int),w64_eq (by omega) (by omega) (by omega),?_⟩
 refine ⟨Nat,fun k=>⟨[(0,.ow 0),(1,.fn F [.ptr 1 0]),(5,I ((delS p xss i0 k).2:Nat)),(6,I ((i0+1+k:Nat)))],[.sl 29 (.sl .int) (delS p xss i0 k).1,.box e1 (I z1)]⟩,
  fun k=>i0+1+k<=xss.length,fun k=>xss.length-k,0,by omega,
  ⟨⟨rfl,rfl⟩,⟨rfl,rfl,rfl,rfl,trivial⟩,rfl,rfl,trivial⟩,fun k hk=>?_⟩
 dsimp only at hk
 obtain ⟨hL,hK⟩:=delS_len p xss i0 k
 refine ⟨fun h1=>?_,fun h1=>?_⟩
 .have hj:i0+1+k<xss.length:=by omega
  have hrest:=delS_rest p xss i0 k (i0+1+k) (Nat.le_refl _)
  refine ⟨i0+1+k,rfl,by rw [hL];exact hj,?_⟩
  have hc:=hF true (i0+1+k) hj
  rw [<-hrest] at hc
  refine ⟨[1],false,_,_,hc,by decide,rfl,rfl,⟨⟨rfl,trivial⟩,trivial⟩,fun h2=>?_,fun h2=>?_⟩
  .have e:delS p xss i0 (k+1)=delS p xss i0 k:=by rw [delS,if_pos h2]
   refine ⟨((i0+1+(k+1):Nat):Int),w64_eq (by omega) (by omega) (by omega),k+1,by dsimp only;omega,by dsimp only;omega,⟨rfl,rfl⟩,⟨rfl,rfl,retI (by rw [e]),rfl,trivial⟩,rowE (by rw [e]),rfl,trivial⟩
  .have e:delS p xss i0 (k+1)=((delS p xss i0 k).1.set (delS p xss i0 k).2 ((delS p xss i0 k).1.getD (i0+1+k) []),(delS p xss i0 k).2+1):=by rw [delS,if_neg (by rw [h2];simp)]
   refine ⟨(delS p xss i0 k).2,rfl,by rw [hL];omega,?_⟩
   refine ⟨(((delS p xss i0 k).2+1:Nat):Int),w64_eq (by omega) (by omega) (by omega),?_⟩
   refine ⟨((i0+1+(k+1):Nat):Int),w64_eq (by omega) (by omega) (by omega),k+1,by dsimp only;omega,by dsimp only;omega,⟨rfl,rfl⟩,⟨rfl,rfl,retI (by rw [e]),rfl,trivial⟩,rowE (by rw [e]),rfl,trivial⟩
 .obtain rfl:k=xss.length-(i0+1):=by omega
  refine ⟨_,rfl,by rw [hL];omega,Nat.le_refl _,rfl,rfl,?_⟩
  have hlen:(List.take (delS p xss i0 (xss.length-(i0+1))).2 (delS p xss i0 (xss.length-(i0+1))).1++List.replicate ((delS p xss i0 (xss.length-(i0+1))).1.length-(delS p xss i0 (xss.length-(i0+1))).2) ([]:List Int)++List.drop (delS p xss i0 (xss.length-(i0+1))).1.length (delS p xss i0 (xss.length-(i0+1))).1).length=xss.length:=by
   simp;omega
  refine ⟨_,rfl,Nat.zero_le _,by rw [show (Ty.sl Ty.int).dflt=([]:List Int) from rfl,hlen];omega,?_⟩
  exact ⟨none,⟨rfl,trivial⟩,rfl,rfl⟩
theorem filter_all {α:Type} (q:α->Bool) (l:List α) (h:∀x∈l,q x=true):l.filter q=l:=List.filter_eq_self.2 h
theorem delS_take (p:List Int->Bool) (xss:List (List Int)) (i0:Nat) (h0:i0<xss.length) (hh:p (xss.getD i0 [])=true) (hb:∀j,j<i0->p (xss.getD j [])=false):
 ∀k,i0+1+k<=xss.length->(delS p xss i0 k).1.take (delS p xss i0 k).2=(xss.take (i0+1+k)).filter fun x=> !p x
 |0,h=>by
  rw [delS]
  show xss.take i0=_
  rw [L_succ xss i0 [] h0,List.filter_append,List.filter_cons_of_neg (by rw [hh];decide),List.filter_nil,List.append_nil]
  refine (filter_all _ _ fun x hx=>?_).symm
  obtain ⟨j,hj,rfl⟩:=List.getElem_of_mem hx
  rw [List.length_take] at hj
  rw [List.getElem_take,<-getD_get xss j [] (by omega),hb j (by omega)];rfl
 |k+1,h=>by
  have ih:=delS_take p xss i0 h0 hh hb k (by omega)
  have hl:=delS_len p xss i0 k
  have hr:=delS_rest p xss i0 k (i0+1+k) (Nat.le_refl _)
  have e1:i0+1+(k+1)=(i0+1+k)+1:=rfl
  rw [e1,L_succ xss (i0+1+k) [] (by omega),List.filter_append,<-ih,delS,hr]
  split
  .rename_i hp
   rw [List.filter_cons_of_neg (by rw [hp];decide),List.filter_nil,List.append_nil]
  .rename_i hp
   rw [List.filter_cons_of_pos (by simpa using hp),List.filter_nil]
   generalize (delS p xss i0 k).1=l at*
   generalize (delS p xss i0 k).2=n at*
   show (l.set n (xss.getD (i0+1+k) [])).take (n+1)=_
   rw [L_succ (l.set n (xss.getD (i0+1+k) [])) n [] (by rw [List.length_set];omega),List.take_set_of_le (Nat.le_refl n),L_set_self _ _ _ _ (by omega)]
def lynL (n k:Nat):List (List Int):=(neckL n k).filter fun w=>decide (perW w=n)
theorem neck_el {n k:Nat} (hk:1<=k):∀x∈neckL n k,x.length=n/\∀i,i<x.length->0<=x.getD i 0/\x.getD i 0<k:=by
 have key:∀(f:Nat) (w:List Int) (a p:Nat) (out:List (List Int)),GI k f w a p->(∀x∈out,x.length=w.length/\∀i,i<x.length->0<=x.getD i 0/\x.getD i 0<k)->
  ∀x∈(growL k f w a p out).2,x.length=w.length/\∀i,i<x.length->0<=x.getD i 0/\x.getD i 0<k:=by
  intro f
  induction f with
  |zero=>
   intro w a p out h ho
   rw [growL]
   dsimp only
   split
   .intro x hx
    rcases List.mem_append.1 hx with hx|hx
    .exact ho x hx
    .rw [List.mem_singleton.1 hx];exact ⟨rfl,h.el⟩
   .exact ho
  |succ f ih=>
   intro w a p out h ho
   have hl:=lstN_lt hk h
   have key:∀j,j<=k-lstN w a p->((itJ (stpG (growL k f) a p (lstN w a p)) (w,out) j).1.length=w.length/\∀i,i<w.length->0<=(itJ (stpG (growL k f) a p (lstN w a p)) (w,out) j).1.getD i 0/\(itJ (stpG (growL k f) a p (lstN w a p)) (w,out) j).1.getD i 0<k)/\
    ∀x∈(itJ (stpG (growL k f) a p (lstN w a p)) (w,out) j).2,x.length=w.length/\∀i,i<x.length->0<=x.getD i 0/\x.getD i 0<k:=fun j=>by
    induction j with
    |zero=>intro _;exact ⟨⟨rfl,h.el⟩,ho⟩
    |succ j ihj=>
     intro hj
     obtain ⟨⟨a1,a2⟩,a3⟩:=ihj (by omega)
     rw [itJ]
     generalize itJ (stpG (growL k f) a p (lstN w a p)) (w,out) j=s at*
     have hG:=h.step a1 (fun i hi=>a2 i (by omega)) (show lstN w a p+j<k by omega) j
     obtain ⟨⟨b1,b2⟩,b3⟩:=growL_ok hk f _ _ _ s.2 hG
     rw [List.length_set] at b1 b2
     refine ⟨⟨by rw [stpG,b1,a1],fun i hi=>b2 i (by omega)⟩,?_⟩
     rw [stpG]
     have:=ih _ _ _ s.2 hG (fun x hx=>by rw [List.length_set,a1];exact a3 x hx)
     rw [List.length_set,a1] at this
     exact this
   rw [growL]
   exact (key _ (Nat.le_refl _)).2
 intro x hx
 have:=key n (List.replicate n 0) 0 1 [] (GI0 n k hk) (fun x hx=>by simp at hx) x hx
 rw [List.length_replicate] at this
 exact this
theorem neck_col {n k:Nat} (hk:1<=k) (hk4:k<=4) (h1:1<=n) (hn:n<=10) {x:List Int} (hx:x∈neckL n k):ColP x:=by
 obtain ⟨h2,h3⟩:=neck_el hk x hx
 exact ⟨fun i hi=>by have:=h3 i hi;omega,by omega⟩
theorem impl_LyndonWords_1 (sh:Bool) (n:Nat) (hn:n<=10) (w:List Int) (hw:ColP w):
 AC Tryz.prog 278 [.d sh (.sl .int) w,.ptr 0 0] [.box 3 (I (n:Nat))] [.d true .bool (!decide (perW w=n))] [.box 3 (I (n:Nat))]:=by
 refine AC_of tauOk 8 1 [3] Tryz.func278 rfl (by kernel_rfl) rfl rfl rfl rfl rfl ?_
 refine ⟨none,by kernel_rfl,_,_,impl_PeriodOf sh w hw,rfl,rfl,fun h=>?_,fun h=>?_⟩
 .exact ⟨none,⟨retB (by rw [decide_eq_false (fun e=>h (by rw [e]))];rfl),trivial⟩,rfl,rfl⟩
 .exact ⟨none,⟨retB (by rw [decide_eq_true (by omega)];rfl),trivial⟩,rfl,rfl⟩
theorem cut2z {P:Program} {f:FuncId} {args:List AV} {e:TypeId} {t:Ty} {xs:List t.T} {n:Nat} {t2:Ty} {x2:t2.T} (hf:t2.flat=true) (h:AC P f args [] [.x (.sb 0 0 n),.d true t2 x2] [.sl e t xs]):AC P f args [] [.ow 0,.d true t2 x2] [.sl e t (xs.take n)]:=by
 refine ⟨h.1,fun w bs A vs hr hv=>(h.2 w bs A vs hr hv).mono ?_⟩
 rintro ex w' ⟨rv,bs',A',rfl,hrok,hres,hstep,hnew,hstay,hup⟩
 obtain ⟨vs,hvs,v1,r1,rfl,hx,v2,r2,rfl,hy,hz⟩:=hres
 cases hz
 obtain ⟨b,e2,t2',xs2,cur,o,h1,h2,h3,h4,h5,h6,h7⟩:=hx
 cases h2
 obtain ⟨hA,cur2,c1,c2,c3,c4⟩:=hrok.row 0 b _ h1 rfl
 rw [h3] at c1;cases c1
 have hl:(List.take n xs).length=n:=by rw [List.length_take];exact Nat.min_eq_left h5
 have ho:o=0:=by rcases h7 with h7|h7<;>omega
 subst ho
 refine ⟨rv,bs',A',rfl,⟨hrok.len,hrok.nodup,hrok.lt,hrok.old,fun i b' r hb hr'=>?_⟩,⟨_,hvs,v1,_,rfl,⟨b,_,_,_,cur,h1,rfl,h3,by rw [hl];exact h6⟩,v2,_,rfl,Rd.flat hf hy,rfl⟩,hstep,hnew,hstay,hup⟩
 match i,hr' with
 |0,hr'=>
  simp at hr';subst hr'
  rw [h1] at hb;cases hb
  refine ⟨hA,cur,h3,by rw [hl];omega,c3,fun j hj=>?_,by rw [hl];exact c4.d.mono h5⟩
  rw [hl] at hj
  obtain ⟨cv,k1,k2⟩:=c4 j (by omega)
  refine ⟨cv,k1,?_⟩
  rw [List.getElem_take];exact k2
 |i+1,hr'=>simp at hr'
theorem delR_take (p:List Int->Bool) (xss:List (List Int)) (i0:Nat) (h0:i0<xss.length) (hh:p (xss.getD i0 [])=true) (hb:∀j,j<i0->p (xss.getD j [])=false):
 (delR p xss i0).take (delS p xss i0 (xss.length-(i0+1))).2=xss.filter fun x=> !p x:=by
 have h1:=delS_take p xss i0 h0 hh hb (xss.length-(i0+1)) (by omega)
 have hl:=delS_len p xss i0 (xss.length-(i0+1))
 rw [show i0+1+(xss.length-(i0+1))=xss.length by omega,List.take_length] at h1
 rw [<-h1,delR]
 rw [List.append_assoc,List.take_append_of_le_length (by rw [List.length_take];omega),List.take_take,Nat.min_self]
theorem impl_LyndonWords (n k:Nat) (hk:1<=k) (hk4:k<=4) (h1:1<=n) (hn:n<=10) (hs:k ^ n<=1024):AC Tryz.prog 185 [I (n:Nat),I (k:Nat)] [] [.ow 0,.d true .bool true] [.sl 29 (.sl .int) (lynL n k)]:=by
 have hlen:=neckL_len n k hk
 have hL:=impl_isLength (n:Int)
 rw [decide_eq_true (by omega),decide_eq_true (by omega)] at hL
 have hS:=impl_isSmall n (k:Int) hn
 rw [show smallB n (k:Int)=true by rw [smallB,decide_eq_true (by omega),decide_eq_true (by omega),Int.toNat_natCast,decide_eq_true hs];rfl] at hS
 have hcol:∀i,i<(neckL n k).length->ColP ((neckL n k).getD i []):=fun i hi=>neck_col hk hk4 h1 hn (by rw [getD_get _ _ _ hi];exact List.getElem_mem hi)
 have hF:∀(s:Bool) i,i<(neckL n k).length->AC Tryz.prog 278 [.d s (.sl .int) ((neckL n k).getD i []),.ptr 0 0] [.box 3 (I (n:Nat))] [.d true .bool (!decide (perW ((neckL n k).getD i [])=n))] [.box 3 (I (n:Nat))]:=fun s i hi=>impl_LyndonWords_1 s n hn _ (hcol i hi)
 have hq:lynL n k=(neckL n k).filter fun x=> !(fun w=> !decide (perW w=n)) x:=by
  unfold lynL;congr 1;funext x;simp
 rcases idxL_cases (fun w=> !decide (perW w=n)) (neckL n k) with ⟨e,hall⟩|⟨i0,e,hi0,hh,hb⟩
 .have hqq:lynL n k=neckL n k:=by
   rw [hq]
   refine filter_all _ _ fun x hx=>?_
   obtain ⟨j,hj,rfl⟩:=List.getElem_of_mem hx
   have:=hall j hj
   rw [getD_get _ _ _ hj] at this
   simpa using this
  rw [hqq]
  refine AC_of tauOk 20 0 [4,5] Tryz.func185 rfl (by kernel_rfl) rfl rfl rfl rfl rfl ?_
  refine ⟨rfl,[],false,_,_,hL,nd0,rfl,rfl,trivial,fun _=>?_,nofun⟩
  refine ⟨rfl,[],false,_,_,hS,nd0,rfl,rfl,trivial,fun _=>?_,nofun⟩
  refine ⟨rfl,[],false,_,_,impl_necklaces n k hk hk4 h1 hn,nd0,rfl,rfl,trivial,rfl,?_⟩
  refine ⟨[1,0],false,_,_,slices_DeleteFunc1_none 278 29 3 (n:Nat) (fun w=> !decide (perW w=n)) (neckL n k) (by omega) hF e,by decide,rfl,rfl,⟨⟨rfl,rfl,rfl⟩,⟨rfl,trivial⟩,trivial⟩,?_⟩
  exact ⟨some 1,⟨⟨rfl,rfl⟩,rfl,trivial⟩,⟨rfl,rfl⟩,rfl⟩
 .have hdl:(delR (fun w=> !decide (perW w=n)) (neckL n k) i0).length=(neckL n k).length:=delR_len _ _ _ hi0
  rw [hq,<-delR_take _ _ _ hi0 hh hb]
  refine cut2z (t2:=.bool) rfl ?_
  refine AC_of tauOk 20 0 [4,5] Tryz.func185 rfl (by kernel_rfl) rfl rfl rfl rfl rfl ?_
  refine ⟨rfl,[],false,_,_,hL,nd0,rfl,rfl,trivial,fun _=>?_,nofun⟩
  refine ⟨rfl,[],false,_,_,hS,nd0,rfl,rfl,trivial,fun _=>?_,nofun⟩
  refine ⟨rfl,[],false,_,_,impl_necklaces n k hk hk4 h1 hn,nd0,rfl,rfl,trivial,rfl,?_⟩
  refine ⟨[1,0],false,_,_,slices_DeleteFunc1_some 278 3 (n:Nat) (fun w=> !decide (perW w=n)) (neckL n k) (by omega) hF i0 e hi0,by decide,rfl,rfl,⟨⟨hdl,rfl,rfl⟩,⟨rfl,trivial⟩,trivial⟩,?_⟩
  exact ⟨some 1,⟨⟨rfl,rfl⟩,rfl,trivial⟩,⟨rfl,rfl⟩,rfl⟩
theorem slices_Grow_nil (n:Nat) (h1:1<=n) (hn:n<=1048576):AC Tryz.prog 279 [.nil,I (n:Nat)] [] [.ow 0] [.sl 3 .int []]:=by
 refine AC.cut0 (n:=0) (xs:=(List.replicate n (0:Int):List Ty.int.T)) ?_
 refine AC_of tauOk 27 0 [4] Tryz.func279 rfl (by kernel_rfl) rfl rfl rfl rfl rfl ?_
 refine ⟨fun h=>by omega,fun _=>?_⟩
 refine ⟨0,w64_in _ (by omega) (by omega),((n:Nat):Int),w64_eq (by omega) (by omega) (by omega),?_⟩
 refine ⟨fun _=>?_,fun h=>(h (by omega)).elim⟩
 refine ⟨0,rfl,Nat.le_refl _,Nat.le_refl _,?_⟩
 refine ⟨n,rfl,h1,by omega,?_⟩
 refine ⟨0,rfl,Nat.le_refl _,Nat.zero_le _,?_⟩
 exact ⟨some 0,⟨⟨rfl,rfl⟩,trivial⟩,⟨rfl,rfl⟩,rfl⟩
theorem slices_Concat_int (sh:Bool) (xss:List (List Int)) (hl:xss.length<=1048576) (ht:xss.flatten.length<=1048576) (h1:1<=xss.flatten.length):AC Tryz.prog 186 [.d sh (.sl (.sl .int)) xss] [] [.ow 0] [.sl 3 .int xss.flatten]:=by
 have hs:∀k,k<xss.length->(xss.take (k+1)).flatten=(xss.take k).flatten++xss.getD k []:=fun k hk=>by rw [L_succ xss k [] hk,List.flatten_append];simp
 have hle:∀k,(xss.take k).flatten.length<=xss.flatten.length:=fun k=>by
  have:xss.flatten=(xss.take k).flatten++(xss.drop k).flatten:=by rw [<-List.flatten_append,List.take_append_drop]
  rw [this,List.length_append];omega
 refine AC_of tauOk 36 0 [2] Tryz.func186 rfl (by kernel_rfl) rfl rfl rfl rfl rfl ?_
 refine ⟨Nat,fun k=>⟨[(0,.d sh (.sl (.sl .int)) xss),(3,I ((xss.take k).flatten.length:Nat)),(9,.d sh (.sl (.sl .int)) xss),(10,I xss.length),(11,I (k:Nat))],[]⟩,fun k=>k<=xss.length,fun k=>xss.length-k,0,Nat.zero_le _,
  ⟨⟨rfl,rfl⟩,⟨rfl,rfl,rfl,rfl,rfl,trivial⟩,trivial⟩,fun k hk=>?_⟩
 dsimp only at hk
 have hlk:=hle k
 refine ⟨fun h2=>?_,fun h2=>?_⟩
 .have hk2:k<xss.length:=by omega
  have hlk1:=hle (k+1)
  have hsl:(xss.take (k+1)).flatten.length=(xss.take k).flatten.length+(xss.getD k []).length:=by rw [hs k hk2,List.length_append]
  refine ⟨k,rfl,hk2,(((xss.take (k+1)).flatten.length:Nat):Int),w64_eq (by rw [hsl];omega) (by omega) (by omega),?_⟩
  refine ⟨fun h=>by omega,fun _=>?_⟩
  exact ⟨((k+1:Nat):Int),w64_eq (by omega) (by omega) (by omega),k+1,by dsimp only;omega,by dsimp only;omega,⟨rfl,rfl⟩,⟨rfl,rfl,rfl,rfl,rfl,trivial⟩,trivial⟩
 .obtain rfl:k=xss.length:=by omega
  dsimp only
  rw [List.take_length]
  refine ⟨[],false,_,_,slices_Grow_nil xss.flatten.length h1 ht,nd0,rfl,rfl,trivial,?_⟩
  refine ⟨Nat,fun k=>⟨[(6,.ow 0),(25,.d sh (.sl (.sl .int)) xss),(26,I xss.length),(27,I (k:Nat))],[.sl 3 .int (xss.take k).flatten]⟩,fun k=>k<=xss.length,fun k=>xss.length-k,0,Nat.zero_le _,
   ⟨⟨rfl,rfl⟩,⟨rfl,rfl,rfl,rfl,trivial⟩,rfl,trivial⟩,fun k hk=>?_⟩
  dsimp only at hk
  have hlk:=hle k
  refine ⟨fun h2=>?_,fun h2=>?_⟩
  .have hk2:k<xss.length:=by omega
   have hlk1:=hle (k+1)
   have hsl:(xss.take (k+1)).flatten.length=(xss.take k).flatten.length+(xss.getD k []).length:=by rw [hs k hk2,List.length_append]
   refine ⟨k,rfl,hk2,?_⟩
   refine ⟨rfl,Nat.zero_le _,rfl,(show (xss.take k).flatten.length+(xss.getD k []).length<=1099511627776 by omega),rfl,?_⟩
   exact ⟨((k+1:Nat):Int),w64_eq (by omega) (by omega) (by omega),k+1,by dsimp only;omega,by dsimp only;omega,⟨rfl,rfl⟩,⟨rfl,rfl,rfl,rfl,trivial⟩,rowE (hs k hk2).symm,trivial⟩
  .obtain rfl:k=xss.length:=by omega
   exact ⟨some 0,⟨⟨rfl,rfl⟩,trivial⟩,⟨rfl,rowsE (by rw [List.take_length])⟩,rfl⟩
def srtL (l:List (List Int)):List (List Int):=l.mergeSort fun x y=>decide (cmpI x y<=0)
theorem srtL_p (l:List (List Int)):(srtL l).Perm l:=List.mergeSort_perm l _
theorem srtL_s (l:List (List Int)):(srtL l).Pairwise fun x y=>¬cmpI y x<0:=by
 have h:=List.pairwise_mergeSort (le:=fun x y:List Int=>decide (cmpI x y<=0)) (fun a b c h1 h2=>by simp at*;exact leI_trans h1 h2) (fun a b=>by have:=cmpI_neg a b;simp;omega) l
 refine h.imp fun {a b} h=>?_
 have:=cmpI_neg a b
 simp at h;omega
def woaS (n k:Nat):Nat->List (List Int)
 |0=>[]
 |d+1=>if n % (d+1)=0 then woaS n k d++lynL (d+1) k else woaS n k d
def woaL (n k:Nat):List Int:=(srtL (woaS n k n)).flatten
def woaB (n k:Int):Bool:=lenN n && smallB n.toNat k
theorem lyn_len (n k:Nat) (hk:1<=k):(lynL n k).length<=k ^ n:=Nat.le_trans (List.length_filter_le _ _) (neckL_len n k hk)
theorem woaS_ok {n k:Nat} (hk:1<=k) (hs:k ^ n<=1024) (hn:n<=10):∀d,d<=n->(woaS n k d).length<=d*1024/\∀x∈woaS n k d,1<=x.length/\x.length<=10
 |0,_=>⟨by simp [woaS],fun x hx=>by simp [woaS] at hx⟩
 |d+1,hd=>by
  obtain ⟨h1,h2⟩:=woaS_ok hk hs hn d (by omega)
  rw [woaS]
  split
  .have h3:=lyn_len (d+1) k hk
   have h4:k ^ (d+1)<=k ^ n:=Nat.pow_le_pow_right hk hd
   refine ⟨by rw [List.length_append];omega,fun x hx=>?_⟩
   rcases List.mem_append.1 hx with hx|hx
   .exact h2 x hx
   .have:=(neck_el hk x (List.mem_filter.1 hx).1).1
    omega
  .exact ⟨Nat.le_trans h1 (Nat.mul_le_mul_right _ (Nat.le_succ d)),h2⟩
theorem flat_le:∀(l:List (List Int)),(∀x∈l,x.length<=10)->l.flatten.length<=l.length*10
 |[],_=>by simp
 |x::l,h=>by
  have h1:=h x (by simp)
  have h2:=flat_le l (fun y hy=>h y (by simp [hy]))
  simp at h2 ⊢;omega
theorem impl_WordOfAll_ok (n k:Nat) (hk:1<=k) (hk4:k<=4) (h1:1<=n) (hn:n<=10) (hs:k ^ n<=1024) (hne:woaS n k n≠[]):AC Tryz.prog 88 [I (n:Nat),I (k:Nat)] [] [.ow 0,.d true .bool true] [.sl 3 .int (woaL n k)]:=by
 have hL:=impl_isLength (n:Int)
 rw [decide_eq_true (by omega),decide_eq_true (by omega)] at hL
 have hS:=impl_isSmall n (k:Int) hn
 rw [show smallB n (k:Int)=true by rw [smallB,decide_eq_true (by omega),decide_eq_true (by omega),Int.toNat_natCast,decide_eq_true hs];rfl] at hS
 have hok:=woaS_ok hk hs hn
 have hp:=srtL_p (woaS n k n)
 have hC:AC Tryz.prog 186 [.d false (.sl (.sl .int)) (srtL (woaS n k n))] [] [.ow 0] [.sl 3 .int (woaL n k)]:=by
  obtain ⟨g1,g2⟩:=hok n (Nat.le_refl _)
  have hm:∀x∈srtL (woaS n k n),1<=x.length/\x.length<=10:=fun x hx=>g2 x (hp.subset hx)
  have hfl:=flat_le (srtL (woaS n k n)) fun x hx=>(hm x hx).2
  have hpl:=hp.length_eq
  refine slices_Concat_int false (srtL (woaS n k n)) (by omega) (by omega) ?_
  match h:srtL (woaS n k n) with
  |[]=>rw [h] at hpl;exact (hne (List.length_eq_zero_iff.1 hpl.symm)).elim
  |x::l=>have:=(hm x (by rw [h];simp)).1;simp;omega
 refine AC_of tauOk 42 0 [4,5] Tryz.func88 rfl (by kernel_rfl) rfl rfl rfl rfl rfl ?_
 refine ⟨[],false,_,_,hL,nd0,rfl,rfl,trivial,fun _=>?_,nofun⟩
 refine ⟨[],false,_,_,hS,nd0,rfl,rfl,trivial,fun _=>?_,nofun⟩
 refine ⟨rfl,by decide,true,?_⟩
 refine ⟨Nat,fun d=>⟨[(0,I (n:Nat)),(1,I (k:Nat)),(6,.ow 0),(7,I ((d+1:Nat):Int))],[.sl 29 (.sl .int) (woaS n k d)]⟩,fun d=>d<=n,fun d=>n-d,0,Nat.zero_le _,
  ⟨⟨rfl,rfl⟩,⟨rfl,rfl,rfl,rfl,trivial⟩,rfl,trivial⟩,fun d hd=>?_⟩
 dsimp only at hd
 obtain ⟨g1,g2⟩:=hok d hd
 refine ⟨fun h2=>?_,fun h2=>?_⟩
 .have hd2:d<n:=by omega
  refine ⟨by omega,((n % (d+1):Nat):Int),Int.ofNat_tmod n (d+1),fun h3=>?_,fun h3=>?_⟩
  .have e:woaS n k (d+1)=woaS n k d++lynL (d+1) k:=by rw [woaS,if_pos (by omega)]
   have h4:k ^ (d+1)<=k ^ n:=Nat.pow_le_pow_right hk hd2
   have h5:=lyn_len (d+1) k hk
   refine ⟨[],true,_,_,impl_LyndonWords (d+1) k hk hk4 (by omega) (by omega) (by omega),nd0,rfl,rfl,trivial,fun _=>?_,nofun⟩
   refine ⟨rfl,Nat.zero_le _,rfl,(show (woaS n k d).length+(lynL (d+1) k).length<=1099511627776 by omega),rfl,?_⟩
   exact ⟨((d+1+1:Nat):Int),w64_eq (by omega) (by omega) (by omega),d+1,by dsimp only;omega,by dsimp only;omega,⟨rfl,rfl⟩,⟨rfl,rfl,rfl,rfl,trivial⟩,rowE e.symm,trivial⟩
  .have e:woaS n k (d+1)=woaS n k d:=by rw [woaS,if_neg (by omega)]
   exact ⟨((d+1+1:Nat):Int),w64_eq (by omega) (by omega) (by omega),d+1,by dsimp only;omega,by dsimp only;omega,⟨rfl,rfl⟩,⟨rfl,rfl,rfl,rfl,trivial⟩,rowE e.symm,trivial⟩
 .obtain rfl:d=n:=by omega
  refine ⟨[0],false,_,_,slices_SortFunc_ints 29 _ (srtL (woaS d k d)) (by omega) hne (fun x hx=>by have:=g2 x hx;exact ⟨fun e=>by rw [e] at this;simp at this,by omega⟩) hp (srtL_s _),by decide,rfl,rfl,⟨⟨hp.length_eq,rfl,rfl⟩,trivial⟩,?_⟩
  refine ⟨[],false,_,_,hC,nd0,rfl,rfl,trivial,?_⟩
  exact ⟨some 1,⟨⟨rfl,rfl⟩,rfl,trivial⟩,⟨rfl,rfl⟩,rfl⟩
theorem impl_WordOfAll_no (n k:Int) (hB:woaB n k=false):AC Tryz.prog 88 [I n,I k] [] [.nil,.d true .bool false] []:=by
 refine AC_of tauOk 42 0 [4,5] Tryz.func88 rfl (by kernel_rfl) rfl rfl rfl rfl rfl ?_
 refine ⟨[],false,_,_,impl_isLength n,nd0,rfl,rfl,trivial,fun h1=>?_,fun h1=>?_⟩
 .have h1':=h1
  simp only [Bool.and_eq_true,decide_eq_true_eq] at h1'
  obtain ⟨N,rfl⟩:∃N:Nat,n=(N:Int):=⟨n.toNat,by omega⟩
  refine ⟨[],false,_,_,impl_isSmall N k (by omega),nd0,rfl,rfl,trivial,fun h2=>?_,fun h2=>?_⟩
  .rw [woaB,lenN,h1,Int.toNat_natCast,h2] at hB;cases hB
  .exact ⟨none,⟨rfl,rfl,trivial⟩,rfl,rfl⟩
 .exact ⟨none,⟨rfl,rfl,trivial⟩,rfl,rfl⟩
theorem lyn_1:∀k,k<5->1<=k->(lynL 1 k).isEmpty=false:=by decide+kernel
theorem woaS_ne {n k:Nat} (hk:1<=k) (hk4:k<=4):∀d,woaS n k (d+1)≠[]
 |0=>by
  rw [woaS,if_pos (Nat.mod_one n),woaS,List.nil_append]
  intro e
  have:=lyn_1 k (by omega) hk
  rw [e] at this;cases this
 |d+1=>by
  have ih:=woaS_ne (n:=n) hk hk4 d
  rw [woaS]
  split
  .intro e;exact ih (List.append_eq_nil_iff.1 e).1
  .exact ih
theorem impl_WordOfAll (n k:Int) (r:List AV) (rr:List Row) (hno:woaB n k=false->r=[.nil,.d true .bool false]/\rr=[]) (hyes:woaB n k=true->r=[.ow 0,.d true .bool true]/\rr=[.sl 3 .int (woaL n.toNat k.toNat)]):
 AC Tryz.prog 88 [I n,I k] [] r rr:=by
 cases hB:woaB n k
 .obtain ⟨rfl,rfl⟩:=hno hB
  exact impl_WordOfAll_no n k hB
 .obtain ⟨rfl,rfl⟩:=hyes hB
  unfold woaB lenN smallB at hB
  simp only [Bool.and_eq_true,decide_eq_true_eq] at hB
  obtain ⟨N,rfl⟩:∃N:Nat,n=(N:Int):=⟨n.toNat,by omega⟩
  obtain ⟨K,rfl⟩:∃K:Nat,k=(K:Int):=⟨k.toNat,by omega⟩
  simp only [Int.toNat_natCast] at hB ⊢
  obtain ⟨N',rfl⟩:∃N',N=N'+1:=⟨N-1,by omega⟩
  exact impl_WordOfAll_ok (N'+1) K (by omega) (by omega) (by omega) (by omega) hB.2.2 (woaS_ne (by omega) (by omega) N')
def kd (xs:List Int) (at_:Nat):List Nat:=(List.range xs.length).filter fun i=>xs.getD i 0==(at_:Int)
theorem pz_b (l:List (List UInt8)) (n:Int) (h: -9223372036854775808<=n/\n<=9223372036854775807):∀k,-9223372036854775808<=pz l n k/\pz l n k<=9223372036854775807
 |0=>h
 |k+1=>by rw [pz_s];exact w64_b _
theorem tz_b (xs:List Int):∀v,-9223372036854775808<=tz xs v/\tz xs v<=9223372036854775807
 |0=>by show (-9223372036854775808:Int)<=1/\(1:Int)<=9223372036854775807;decide
 |v+1=>pz_b _ _ (tz_b xs v) _
theorem ren_b (xs:List Int): -9223372036854775808<=treeRen xs/\treeRen xs<=9223372036854775807:=by
 unfold treeRen
 split
 .exact tz_b xs _
 .omega
theorem ht2_b (xs:List Int):∀k,0<=(htS xs k).2/\(htS xs k).2<=k
 |0=>by show (0:Int)<=0/\(0:Int)<=0;omega
 |k+1=>by
  have ih:=ht2_b xs k
  have hb:=htS_b xs k (xs.getD k 0).toNat
  unfold htS
  split
  .dsimp only
   unfold mx
   split<;>omega
  .omega
theorem height_b (xs:List Int) (hl:xs.length<=1048576): -1<=heightV xs/\heightV xs<=1048576:=by
 unfold heightV
 have:=ht2_b xs xs.length
 split<;>omega
theorem cgw_b (n e:Int): -1<=cgwI n e/\cgwI n e<=122880:=by
 unfold cgwI
 split
 .rename_i h
  split
  .split
   .omega
   .obtain ⟨N,rfl⟩:∃N:Nat,n=(N:Int):=⟨n.toNat,by omega⟩
    have h1:=cgw_le N e.toNat (cg_ok N (by omega) (by omega)) (by have:=actsL_len N;have:=(sym_ok N (by omega) (by omega)).l2;omega)
    rw [Int.toNat_natCast]
    omega
  .omega
 .omega
theorem cg_b (n:Int): -1<=cgI n/\cgI n<=12288000:=by
 unfold cgI
 split
 .rename_i h
  split
  .omega
  .obtain ⟨N,rfl⟩:∃N:Nat,n=(N:Int):=⟨n.toNat,by omega⟩
   have hG:=cg_ok N (by omega) (by omega)
   have hcp:=cp_le N (by omega)
   have h1:=sumTo_le (cgwN N) 122880 (cp N+1) fun i _=>cgw_le N i hG (by have:=actsL_len N;have:=(sym_ok N (by omega) (by omega)).l2;omega)
   rw [Int.toNat_natCast]
   have h2:(cp N+1)*122880<=100*122880:=Nat.mul_le_mul_right _ (by omega)
   omega
 .omega
theorem root_b (n:Int): -1<=rootN n/\rootN n<=4766:=by
 unfold rootN
 split
 .have:=rg_b n.toNat (by omega);omega
 .omega
theorem free_b2 (n:Int): -1<=freeN n/\freeN n<=4766:=by
 unfold freeN
 split
 .have:=free_b n.toNat (by omega) (by omega)
  have:=rg_b n.toNat (by omega)
  omega
 .omega
theorem in64_2 {a b:Int} (ha: -9223372036854775808<=a/\a<=9223372036854775807) (hb: -9223372036854775808<=b/\b<=9223372036854775807):In64 [a,b]:=fun i hi=>by
 match i,hi with
 |0,_=>exact ha
 |1,_=>exact hb
theorem in64_3 {a b c:Int} (ha: -9223372036854775808<=a/\a<=9223372036854775807) (hb: -9223372036854775808<=b/\b<=9223372036854775807) (hc: -9223372036854775808<=c/\c<=9223372036854775807):In64 [a,b,c]:=fun i hi=>by
 match i,hi with
 |0,_=>exact ha
 |1,_=>exact hb
 |2,_=>exact hc
theorem col_in {w:List Int} (h:ColP w):In64 w:=fun i hi=>by have:=h.1 i hi;omega
theorem cols_ok {xss:List (List Int)} (hl:xss.length<=1048576) (h:∀x∈xss,ColP x):(∀i,i<xss.length->In64 (xss.getD i []))/\Short xss:=by
 have hg:∀i,i<xss.length->ColP (xss.getD i []):=fun i hi=>by rw [getD_get _ _ _ hi];exact h _ (List.getElem_mem hi)
 exact ⟨fun i hi=>col_in (hg i hi),hl,fun i hi=>by have:=(hg i hi).2;omega⟩
theorem lyfF_el {w:List Int} (hw:ColP w):∀(f a:Nat) (out:List (List Int)),a<=w.length->out.length<=a->(∀x∈out,ColP x)->(lyfF w f a out).length<=w.length/\∀x∈lyfF w f a out,ColP x
 |0,a,out,ha,ho,hx=>by rw [lyfF];exact ⟨by omega,hx⟩
 |f+1,a,out,ha,ho,hx=>by
  rw [lyfF]
  split
  .rename_i h
   have he:=lyfE_ok hw a (w.length-a) (by omega) (by omega)
   refine lyfF_el hw f _ _ (by omega) (by rw [List.length_append,List.length_singleton];omega) fun x hx2=>?_
   rcases List.mem_append.1 hx2 with hx2|hx2
   .exact hx x hx2
   .rw [List.mem_singleton.1 hx2];exact subW_col hw a _ (by omega) he.1
  .exact ⟨by omega,hx⟩
theorem lyfL_el {w:List Int} (hw:ColP w):(lyfL w).length<=10/\∀x∈lyfL w,ColP x:=by
 have h:=lyfF_el hw w.length 0 [] (Nat.zero_le _) (Nat.le_refl _) (fun x hx=>by simp at hx)
 have h2:=hw.2
 exact ⟨by unfold lyfL;omega,h.2⟩
theorem epB_of {g:List (List Int)} {k:Int} (h:epB g k=true):gokB g=true/\∃K:Nat,k=(K:Int)/\1<=K/\K<=4/\K ^ (g.getD 0 []).length<=1024/\smallB (g.getD 0 []).length (K:Nat)=true:=by
 unfold epB at h
 rw [Bool.and_eq_true] at h
 refine ⟨h.1,?_⟩
 have h2:=h.2
 unfold smallB at h2
 simp only [Bool.and_eq_true,decide_eq_true_eq] at h2
 obtain ⟨K,rfl⟩:∃K:Nat,k=(K:Int):=⟨k.toNat,by omega⟩
 exact ⟨K,rfl,by omega,by omega,by simpa using h2.2,h.2⟩
theorem g0_len {g:List (List Int)} (hB:gokB g=true):1<=(g.getD 0 []).length/\(g.getD 0 []).length<=10:=by
 have hG:=(gokB_iff g).1 hB
 have hg0:0<g.length:=by have:=hG.l1;omega
 exact (gok1_p (hG.o1 0 hg0)).1.1
theorem flt_ok {k n:Nat} {p:List Int->Bool} (h1:1<=n) (h2:n<=10) (h4:k<=4) (hs:k ^ n<=1024):((wordsL k n).filter p).length<=1048576/\∀x∈(wordsL k n).filter p,ColP x:=by
 refine ⟨?_,fun x hx=>col_of h1 h2 h4 (List.mem_filter.1 hx).1⟩
 have:=List.length_filter_le p (wordsL k n)
 have:=wordsL_len k n
 omega
theorem canL_col {g:List (List Int)} {xs:List Int} (h:FitP g xs):ColP (canL g xs):=by
 rcases bst_mem (fun p=>actL p xs) xs g g.length with e|⟨i,hi,e⟩
 .unfold canL;rw [e];exact h.x
 .unfold canL;rw [e];exact act_col (h.gs i (by omega)).1 (h.gs i (by omega)).2 h.x
theorem nck_el {n k i:Int} (h:nckB n k i=true):ColP ((neckL n.toNat k.toNat).getD i.toNat []):=by
 unfold nckB lenN smallB at h
 simp only [Bool.and_eq_true,decide_eq_true_eq] at h
 have hm:=neck_el (n:=n.toNat) (k:=k.toNat) (by omega) ((neckL n.toNat k.toNat).getD i.toNat []) (by rw [getD_get _ _ _ (by omega)];exact List.getElem_mem _)
 exact ⟨fun j hj=>by have:=hm.2 j hj;omega,by omega,by omega⟩
theorem woa_el {n k:Nat} (hk:1<=k) (hk4:k<=4):∀x∈woaL n k,0<=x/\x<4:=by
 have key:∀d,∀w∈woaS n k d,∀x∈w,0<=x/\x<4:=by
  intro d
  induction d with
  |zero=>intro w hw;simp [woaS] at hw
  |succ d ih=>
   intro w hw x hx
   rw [woaS] at hw
   split at hw
   .rcases List.mem_append.1 hw with hw|hw
    .exact ih w hw x hx
    .have h2:=(neck_el hk w (List.mem_filter.1 hw).1).2
     obtain ⟨i,hi,rfl⟩:=List.getElem_of_mem hx
     have:=h2 i hi
     rw [getD_get _ _ _ hi] at this
     omega
   .exact ih w hw x hx
 intro x hx
 obtain ⟨w,hw,hx⟩:=List.mem_flatten.1 hx
 exact key n w ((srtL_p _).subset hw) x hx
def nonS:List UInt8:=[110,111,110,101]
def wlnS (g:List (List Int)) (w arg:List UInt8):List UInt8:=
 if w=[116,114,101,101] then (if readB arg=true then Lib.join ([treeRen (rdT arg).1,heightV (rdT arg).1].map fmtI) [32] else unkS)
 else if colB (psL arg)=true then
  (if w=[99,97,110,111,110] then (if fitB g (psL arg)=true then formatW (canL g (psL arg)) else nonS)
  else if w=[119,111,114,100] then wordLine (psL arg)
  else if w=[102,97,99,116,111,114,115] then fmtWs (lyfL (psL arg))
  else unkS)
 else unkS
def nlnS (g:List (List Int)) (w:List UInt8) (n:List Int):List UInt8:=
 if w=[99,111,117,110,116]/\(n.length:Int)=1 then clnS g (n.getD 0 0)
 else if w=[112,97,116,116,101,114,110,115]/\(n.length:Int)=1 then (if epB g (n.getD 0 0)=true then fmtWs (patL g (n.getD 0 0).toNat (g.getD 0 []).length) else nonS)
 else if w=[101,120,99,104,97,110,103,101,100]/\(n.length:Int)=1 then (if epB g (n.getD 0 0)=true then fmtWs (expL g (n.getD 0 0).toNat (g.getD 0 []).length) else nonS)
 else if w=[110,101,99,107,108,97,99,101,115]/\(n.length:Int)=2 then Lib.join ([neckI (n.getD 0 0) (n.getD 1 0),bracI (n.getD 0 0) (n.getD 1 0),lynI (n.getD 0 0) (n.getD 1 0)].map fmtI) [32]
 else if w=[110,101,99,107,108,97,99,101]/\(n.length:Int)=3 then (if nckB (n.getD 0 0) (n.getD 1 0) (n.getD 2 0)=true then formatW ((neckL (n.getD 0 0).toNat (n.getD 1 0).toNat).getD (n.getD 2 0).toNat []) else nonS)
 else if w=[97,108,108]/\(n.length:Int)=2 then (if woaB (n.getD 0 0) (n.getD 1 0)=true then formatW ((woaL (n.getD 0 0).toNat (n.getD 1 0).toNat).take 10) else nonS)
 else if w=[103,114,97,112,104,115]/\(n.length:Int)=1 then fmtI (cgI (n.getD 0 0))
 else if w=[103,114,97,112,104,115]/\(n.length:Int)=2 then fmtI (cgwI (n.getD 0 0) (n.getD 1 0))
 else if w=[116,114,101,101,115]/\(n.length:Int)=1 then Lib.join ([rootN (n.getD 0 0),freeN (n.getD 0 0)].map fmtI) [32]
 else unkS
theorem impl_wordLine (sh:Bool) (g:List (List Int)) (w arg:List UInt8) (c:Int) (hl:g.length<=1048576) (hx:∀i,i<g.length->(g.getD i []).length<=1048576) (ha:arg.length<=1048576):
 AC Tryz.prog 32 [.d sh (.sl (.sl .int)) g,.arr .mix [.str w,.int c],.d true .str arg] [] [.d true .str (wlnS g w arg)] []:=by
 unfold wlnS
 have hpl:=psL_len arg
 have q0:0<2:=by decide
 have q1:2<=1000:=by decide
 refine AC_of tauOk 65 0 [6] Tryz.func32 rfl (by kernel_rfl) rfl rfl rfl rfl rfl ?_
 refine ⟨q0,q1,q0,q0,fun h1=>?_,fun h1=>?_⟩
 .rw [if_pos h1]
  cases hr:readB arg
  .refine ⟨[],false,_,_,impl_ReadTree_no arg hr,nd0,rfl,rfl,trivial,nofun,fun _=>?_⟩
   exact ⟨none,⟨rfl,trivial⟩,rfl,rfl⟩
  .have ht:(rdT arg).1.length<=1048576:=by
    unfold readB at hr
    simp only [Bool.and_eq_true,decide_eq_true_eq] at hr
    have:=((treeB_iff _).1 hr.2.1).1
    omega
   have hR:=impl_ReadTree arg hr
   generalize (rdT arg).1=t at*
   have hb:=height_b t ht
   refine ⟨[],true,_,_,hR,nd0,rfl,rfl,trivial,fun _=>?_,nofun⟩
   refine ⟨[],false,_,_,impl_TreeRenamings true t ht,nd0,rfl,rfl,trivial,[],false,_,_,impl_HeightOf true t ht,nd0,rfl,rfl,trivial,rfl,by decide,false,?_⟩
   refine ⟨[],false,_,_,impl_commas true [treeRen t,heightV t] [32] (in64_2 (ren_b t) (by omega)) (show 2<=1048576 by decide) (by decide),nd0,rfl,rfl,trivial,?_⟩
   exact ⟨none,⟨rfl,trivial⟩,rfl,rfl⟩
 .rw [if_neg h1]
  cases hc:colB (psL arg)
  .refine ⟨[],false,_,_,impl_ParseWord_no arg ha hc,nd0,rfl,rfl,trivial,nofun,fun _=>?_⟩
   exact ⟨none,⟨rfl,trivial⟩,rfl,rfl⟩
  .rw [if_pos rfl]
   have hP:=(colB_iff _).1 hc
   have hR:=impl_ParseWord arg ha hc
   generalize psL arg=x at*
   have hxl:x.length<=1048576:=by have:=hP.2;omega
   refine ⟨[],true,_,_,hR,nd0,rfl,rfl,trivial,fun _=>?_,nofun⟩
   refine ⟨q0,q0,fun h2=>?_,fun h2=>?_⟩
   .rw [if_pos h2]
    cases hf:fitB g x
    .refine ⟨[],false,_,_,impl_CanonOf_no sh true g x hl hx hxl hf,nd0,rfl,rfl,trivial,nofun,fun _=>?_⟩
     refine ⟨[],false,_,_,impl_FormatWord_nil,nd0,rfl,rfl,trivial,[],false,_,_,impl_orNone _ false,nd0,rfl,rfl,trivial,?_⟩
     exact ⟨none,⟨rfl,trivial⟩,rfl,rfl⟩
    .rw [if_pos rfl]
     have hF:=fit_of hf
     refine ⟨[],true,_,_,impl_CanonOf sh true g x hl hx hxl hf,nd0,rfl,rfl,trivial,fun _=>?_,nofun⟩
     refine ⟨[],false,_,_,impl_FormatWord true (canL g x) (col_in (canL_col hF)) (by have:=(canL_col hF).2;omega),nd0,rfl,rfl,trivial,[],false,_,_,impl_orNone _ true,nd0,rfl,rfl,trivial,?_⟩
     exact ⟨none,⟨rfl,trivial⟩,rfl,rfl⟩
   .rw [if_neg h2]
    refine ⟨fun h3=>?_,fun h3=>?_⟩
    .rw [if_pos h3]
     refine ⟨[],false,_,_,impl_WordLine true x hxl,nd0,rfl,rfl,trivial,?_⟩
     exact ⟨none,⟨rfl,trivial⟩,rfl,rfl⟩
    .rw [if_neg h3]
     refine ⟨fun h4=>?_,fun h4=>?_⟩
     .rw [if_pos h4]
      obtain ⟨e1,e2⟩:=lyfL_el hP
      obtain ⟨e3,e4⟩:=cols_ok (show (lyfL x).length<=1048576 by omega) e2
      refine ⟨[],true,_,_,impl_LyndonFactors true x hP,nd0,rfl,rfl,trivial,fun _=>?_,nofun⟩
      refine ⟨[],false,_,_,impl_FormatWords true (lyfL x) e3 e4,nd0,rfl,rfl,trivial,?_⟩
      exact ⟨none,⟨rfl,trivial⟩,rfl,rfl⟩
     .rw [if_neg h4]
      exact ⟨none,⟨rfl,trivial⟩,rfl,rfl⟩
theorem impl_numberLine (sh s2:Bool) (g:List (List Int)) (w:List UInt8) (n:List Int) (hl:g.length<=1048576) (hx:∀i,i<g.length->(g.getD i []).length<=1048576):
 AC Tryz.prog 34 [.d sh (.sl (.sl .int)) g,.arr .mix [.str w,.int (n.length:Nat)],.d s2 (.sl .int) n] [] [.d true .str (nlnS g w n)] []:=by
 unfold nlnS
 have q0:0<2:=by decide
 have q1:2<=1000:=by decide
 have q2:3<=1048576:=by decide
 refine AC_of tauOk 153 0 [6] Tryz.func34 rfl (by kernel_rfl) rfl rfl rfl rfl rfl ?_
 refine ⟨q0,q1,rfl,fun h1=>?_,fun h1=>?_⟩
 .rw [if_pos h1]
  refine ⟨0,rfl,by omega,[],false,_,_,impl_CountLine sh g (n.getD 0 0) hl hx,nd0,rfl,rfl,trivial,?_⟩
  exact ⟨none,⟨rfl,trivial⟩,rfl,rfl⟩
 rw [if_neg h1]
 refine ⟨fun h2=>?_,fun h2=>?_⟩
 .rw [if_pos h2]
  refine ⟨0,rfl,by omega,?_⟩
  cases hE:epB g (n.getD 0 0)
  .refine ⟨[],false,_,_,impl_PatternsOf_no sh g (n.getD 0 0) hl hx hE,nd0,rfl,rfl,trivial,nofun,fun _=>?_⟩
   refine ⟨[],false,_,_,impl_FormatWords_nil,nd0,rfl,rfl,trivial,[],false,_,_,impl_orNone _ false,nd0,rfl,rfl,trivial,?_⟩
   exact ⟨none,⟨rfl,trivial⟩,rfl,rfl⟩
  .rw [if_pos rfl]
   obtain ⟨hB,K,hk,k1,k4,hs,hS⟩:=epB_of hE
   have h0:=g0_len hB
   have hC:=impl_PatternsOf_d sh g K hl hx hB hS
   rw [<-hk] at hC
   rw [show (n.getD 0 0).toNat=K by omega]
   obtain ⟨e1,e2⟩:=flt_ok (p:=fun w=>decide (canL g w=w)) h0.1 h0.2 k4 hs
   rw [<-patL_eq] at e1 e2
   obtain ⟨e3,e4⟩:=cols_ok e1 e2
   refine ⟨[],true,_,_,hC,nd0,rfl,rfl,trivial,fun _=>?_,nofun⟩
   refine ⟨[],false,_,_,impl_FormatWords true _ e3 e4,nd0,rfl,rfl,trivial,[],false,_,_,impl_orNone _ true,nd0,rfl,rfl,trivial,?_⟩
   exact ⟨none,⟨rfl,trivial⟩,rfl,rfl⟩
 rw [if_neg h2]
 refine ⟨fun h3=>?_,fun h3=>?_⟩
 .rw [if_pos h3]
  refine ⟨0,rfl,by omega,?_⟩
  cases hE:epB g (n.getD 0 0)
  .refine ⟨[],false,_,_,impl_ExchangePatterns_no sh g (n.getD 0 0) hl hx hE,nd0,rfl,rfl,trivial,nofun,fun _=>?_⟩
   refine ⟨[],false,_,_,impl_FormatWords_nil,nd0,rfl,rfl,trivial,[],false,_,_,impl_orNone _ false,nd0,rfl,rfl,trivial,?_⟩
   exact ⟨none,⟨rfl,trivial⟩,rfl,rfl⟩
  .rw [if_pos rfl]
   obtain ⟨hB,K,hk,k1,k4,hs,hS⟩:=epB_of hE
   have h0:=g0_len hB
   have hC:=impl_ExchangePatterns_d sh g K hl hx hB hS
   rw [<-hk] at hC
   rw [show (n.getD 0 0).toNat=K by omega]
   obtain ⟨e1,e2⟩:=flt_ok (p:=fun w=>decide (cexL g w=w)) h0.1 h0.2 k4 hs
   obtain ⟨e3,e4⟩:=cols_ok (xss:=expL g K (g.getD 0 []).length) e1 e2
   refine ⟨[],true,_,_,hC,nd0,rfl,rfl,trivial,fun _=>?_,nofun⟩
   refine ⟨[],false,_,_,impl_FormatWords true _ e3 e4,nd0,rfl,rfl,trivial,[],false,_,_,impl_orNone _ true,nd0,rfl,rfl,trivial,?_⟩
   exact ⟨none,⟨rfl,trivial⟩,rfl,rfl⟩
 rw [if_neg h3]
 refine ⟨fun h4=>?_,fun h4=>?_⟩
 .rw [if_pos h4]
  have i0:0<n.length:=by omega
  have i1:1<n.length:=by omega
  have b1:=neck_b (n.getD 0 0) (n.getD 1 0)
  have b2:=brac_b (n.getD 0 0) (n.getD 1 0)
  have b3:=lyn_b (n.getD 0 0) (n.getD 1 0)
  refine ⟨some 2000,[0,1,2,3,4,5,7,8,9,10,11,12,14,15,16,17,18,19],[6,13,20,21,22,23],by kernel_rfl,rfl,?_⟩
  refine ⟨0,rfl,i0,1,rfl,i1,0,rfl,i0,1,rfl,i1,0,rfl,i0,1,rfl,i1,?_⟩
  refine ⟨[],false,_,_,impl_CountNecklaces _ _,nd0,rfl,rfl,trivial,[],false,_,_,impl_CountBracelets _ _,nd0,rfl,rfl,trivial,[],false,_,_,impl_CountLyndon _ _,nd0,rfl,rfl,trivial,rfl,by decide,false,?_⟩
  refine ⟨[],false,_,_,impl_commas true [neckI (n.getD 0 0) (n.getD 1 0),bracI (n.getD 0 0) (n.getD 1 0),lynI (n.getD 0 0) (n.getD 1 0)] [32] (in64_3 (by omega) (by omega) (by omega)) q2 (by decide),nd0,rfl,rfl,trivial,?_⟩
  exact ⟨none,⟨rfl,trivial⟩,rfl,rfl⟩
 rw [if_neg h4]
 refine ⟨fun h5=>?_,fun h5=>?_⟩
 .rw [if_pos h5]
  have i0:0<n.length:=by omega
  have i1:1<n.length:=by omega
  have i2:2<n.length:=by omega
  refine ⟨some 4000,[0,1,2,3,4,5,6,7,8],.one 9 (.one 10 (.two 11 (.two 12 (.one 13 (.one 14 .done)) 13 (.one 12 (.one 14 .done))) 12 (.one 11 (.one 13 (.one 14 .done))))),by kernel_rfl,rfl,?_⟩
  refine ⟨0,rfl,i0,1,rfl,i1,2,rfl,i2,?_⟩
  cases hE:nckB (n.getD 0 0) (n.getD 1 0) (n.getD 2 0)
  .refine ⟨[],false,_,_,impl_NecklaceAt (n.getD 0 0) (n.getD 1 0) (n.getD 2 0) _ (fun _=>rfl) (fun h=>by rw [hE] at h;cases h),nd0,rfl,rfl,trivial,⟨⟨nofun,fun _=>?_⟩,⟨nofun,fun _=>?_⟩⟩,⟨nofun,fun _=>?_⟩⟩
   all_goals
    refine ⟨[],false,_,_,impl_FormatWord_nil,nd0,rfl,rfl,trivial,[],false,_,_,impl_orNone _ false,nd0,rfl,rfl,trivial,?_⟩
    exact ⟨none,⟨rfl,trivial⟩,rfl,rfl⟩
  .rw [if_pos rfl]
   have hc:=nck_el hE
   refine ⟨[],false,_,_,impl_NecklaceAt (n.getD 0 0) (n.getD 1 0) (n.getD 2 0) _ (fun h=>by rw [hE] at h;cases h) (fun _=>rfl),nd0,rfl,rfl,trivial,⟨⟨fun _=>?_,nofun⟩,⟨fun _=>?_,nofun⟩⟩,⟨fun _=>?_,nofun⟩⟩
   all_goals
    refine ⟨[],false,_,_,impl_FormatWord true _ (col_in hc) (by have:=hc.2;omega),nd0,rfl,rfl,trivial,[],false,_,_,impl_orNone _ true,nd0,rfl,rfl,trivial,?_⟩
    exact ⟨none,⟨rfl,trivial⟩,rfl,rfl⟩
 rw [if_neg h5]
 refine ⟨fun h6=>?_,fun h6=>?_⟩
 .rw [if_pos h6]
  have i0:0<n.length:=by omega
  have i1:1<n.length:=by omega
  refine ⟨some 4000,[0,1,2,3,4,5],.one 6 (.one 7 (.two 8 (.two 9 (.one 10 (.one 11 .done)) 10 (.one 9 (.one 11 .done))) 9 (.one 8 (.one 10 (.one 11 .done))))),by kernel_rfl,rfl,?_⟩
  refine ⟨0,rfl,i0,1,rfl,i1,?_⟩
  cases hE:woaB (n.getD 0 0) (n.getD 1 0)
  .refine ⟨[],false,_,_,impl_WordOfAll (n.getD 0 0) (n.getD 1 0) _ _ (fun _=>⟨rfl,rfl⟩) (fun h=>by rw [hE] at h;cases h),nd0,rfl,rfl,trivial,⟨⟨nofun,fun _=>?_⟩,⟨nofun,fun _=>?_⟩⟩,⟨nofun,fun _=>?_⟩⟩
   all_goals
    refine ⟨0,rfl,Nat.le_refl _,Nat.le_refl _,?_⟩
    refine ⟨[],false,_,_,impl_FormatWord_nil,nd0,rfl,rfl,trivial,[],false,_,_,impl_orNone _ false,nd0,rfl,rfl,trivial,?_⟩
    exact ⟨none,⟨rfl,trivial⟩,rfl,rfl⟩
  .rw [if_pos rfl]
   have hE2:=hE
   unfold woaB lenN smallB at hE2
   simp only [Bool.and_eq_true,decide_eq_true_eq] at hE2
   have hel:=woa_el (n:=(n.getD 0 0).toNat) (k:=(n.getD 1 0).toNat) (by omega) (by omega)
   have hC:=impl_WordOfAll (n.getD 0 0) (n.getD 1 0) _ _ (fun h=>by rw [hE] at h;cases h) (fun _=>⟨rfl,rfl⟩)
   generalize woaL (n.getD 0 0).toNat (n.getD 1 0).toNat=L at*
   have h64:In64 (L.take 10):=in64_of (B:=4) (by decide) fun x hx=>by have:=hel x (List.mem_of_mem_take hx);omega
   have hmin:∃j:Nat,(if ((L.length:Nat):Int)<10 then ((L.length:Nat):Int) else 10)=(j:Int)/\j<=L.length/\L.take j=L.take 10/\j<=10:=by
    by_cases h:L.length<10
    .exact ⟨L.length,by rw [if_pos (by omega)],Nat.le_refl _,by rw [List.take_length,List.take_of_length_le (by omega)],by omega⟩
    .exact ⟨10,by rw [if_neg (by omega)];rfl,by omega,rfl,Nat.le_refl _⟩
   obtain ⟨j,j1,j2,j3,j4⟩:=hmin
   have hF:=impl_FormatWord true ((L.take j).drop 0) (by rw [List.drop_zero,j3];exact h64) (by rw [List.drop_zero,List.length_take];omega)
   have hd:(L.take j).drop 0=L.take j:=rfl
   rw [<-j3]
   refine ⟨[],true,_,_,hC,nd0,rfl,rfl,trivial,⟨⟨fun _=>?_,nofun⟩,⟨fun _=>?_,nofun⟩⟩,⟨fun _=>?_,nofun⟩⟩
   all_goals
    refine ⟨j,j1,Nat.zero_le _,j2,?_⟩
    refine ⟨[],false,_,_,hF,nd0,rfl,rfl,trivial,[],false,_,_,impl_orNone _ true,nd0,rfl,rfl,trivial,?_⟩
    exact ⟨none,⟨rfl,trivial⟩,rfl,rfl⟩
 rw [if_neg h6]
 refine ⟨fun h7=>?_,fun h7=>?_⟩
 .rw [if_pos h7]
  have hb:=cg_b (n.getD 0 0)
  refine ⟨0,rfl,by omega,[],false,_,_,impl_CountGraphs (n.getD 0 0),nd0,rfl,rfl,trivial,[],false,_,_,impl_FormatInt _ (by omega) (by omega),nd0,rfl,rfl,trivial,?_⟩
  exact ⟨none,⟨rfl,trivial⟩,rfl,rfl⟩
 rw [if_neg h7]
 refine ⟨fun h8=>?_,fun h8=>?_⟩
 .rw [if_pos h8]
  have i0:0<n.length:=by omega
  have i1:1<n.length:=by omega
  have hb:=cgw_b (n.getD 0 0) (n.getD 1 0)
  refine ⟨some 2000,[0,1,2,3,4,5],[6,7,8],by kernel_rfl,rfl,?_⟩
  refine ⟨0,rfl,i0,1,rfl,i1,?_⟩
  refine ⟨[],false,_,_,impl_CountGraphsWith (n.getD 0 0) (n.getD 1 0),nd0,rfl,rfl,trivial,[],false,_,_,impl_FormatInt _ (by omega) (by omega),nd0,rfl,rfl,trivial,?_⟩
  exact ⟨none,⟨rfl,trivial⟩,rfl,rfl⟩
 rw [if_neg h8]
 refine ⟨fun h9=>?_,fun h9=>?_⟩
 .rw [if_pos h9]
  have i0:0<n.length:=by omega
  have b1:=root_b (n.getD 0 0)
  have b2:=free_b2 (n.getD 0 0)
  refine ⟨some 2000,[0,1,2,4,5,6],[3,7,8,9,10],by kernel_rfl,rfl,?_⟩
  refine ⟨0,rfl,i0,0,rfl,i0,?_⟩
  refine ⟨[],false,_,_,impl_CountRooted _,nd0,rfl,rfl,trivial,[],false,_,_,impl_CountFree _,nd0,rfl,rfl,trivial,rfl,by decide,false,?_⟩
  refine ⟨[],false,_,_,impl_commas true [rootN (n.getD 0 0),freeN (n.getD 0 0)] [32] (in64_2 (by omega) (by omega)) (show 2<=1048576 by decide) (by decide),nd0,rfl,rfl,trivial,?_⟩
  exact ⟨none,⟨rfl,trivial⟩,rfl,rfl⟩
 rw [if_neg h9]
 exact ⟨none,⟨rfl,trivial⟩,rfl,rfl⟩
end Go.Proofs.YtacjiemkbhhhoaaGreatDoor
namespace Go.Proofs.YtacjiemkbhhhoaaGreatDoor
open Go Go.RowKit Go.Sort Go.Lib Go.Proofs.YtacjiemkbhhhoaaGreatDoor.Ow
def apR (u v:Value):Prop:=∀(p q:Addr) (l c l' c':Nat),u=.slice (some p) l c->v=.slice (some q) l' c'->l≠0->l'≠0->p.block≠q.block
theorem apR_symm {u v:Value} (h:apR u v):apR v u:=fun p q l c l' c' h1 h2 k1 k2 e=>h q p l' c' l c h2 h1 k2 k1 e.symm
theorem AC.frzw1 {P:Program} {f:FuncId} {args:List AV} {e:TypeId} {d:Bool} {xs:List Int} (h:AC P f args [] [.ow 0] [.sl e .int xs]):AC P f args [] [.d true (.sw e d) xs] []:=by
 refine ⟨h.1,fun w bs A vs hr hv=>(h.2 w bs A vs hr hv).mono ?_⟩
 rintro ex w' ⟨rv,bs',A',rfl,hrok,hres,hstep,⟨new,rfl⟩,hstay,hup⟩
 have hbs:bs=[]:=List.eq_nil_of_length_eq_zero (by rw [hr.len];rfl)
 subst hbs
 obtain ⟨b,e2,t2,xs2,cur,h1,h2,h3,h4⟩:=hres
 cases h2
 obtain ⟨hA,cur2,c1,c2,c3,c4⟩:=hrok.row 0 b _ h1 rfl
 rw [h3] at c1;cases c1
 have hb:=List.mem_of_getElem? h1
 have hnew:w.heap.size<=b:=by
  rcases hstep.sbs b hb with h|h
  .simp at h
  .exact h
 refine ⟨rv,[],fun x=>A' x\/x=b,rfl,⟨rfl,nd0,fun b hb=>by simp at hb,fun x hx=>?_,fun i b r hb=>by simp at hb⟩,?_,⟨hstep.os,hstep.tape,hstep.output,hstep.size,fun k hk _=>hstep.block k hk (by simp),fun b hb=>by simp at hb,fun x hx=>?_⟩,⟨[],rfl⟩,fun b hb=>by simp at hb,fun x hx=>.inl (hup x hx)⟩
 .rcases hx with hx|hx
  .exact hrok.old x hx
  .rw [hx];exact hrok.lt b hb
 .show RdW _ _ _ _ _
  by_cases hx:xs=[]
  .subst hx;exact .inl ⟨rfl,_,_,h4,fun hh=>by cases hh⟩
  .refine .inr ⟨hx,b,cur,h4,.inr rfl,h3,c2,c3,fun j hj=>?_⟩
   obtain ⟨cv,k1,k2⟩:=c4.c j hj
   rw [k1];exact congrArg some k2
 .rcases hx with hx|hx
  .rcases hstep.sA x hx with h|h|h
   .exact .inl h
   .exact .inr (.inl h)
   .simp at h
  .exact .inr (.inl (by rw [hx];exact hnew))
theorem slices_SortFunc_sw (e e0:Nat) (xss yss:List (List Int)) (hl:xss.length<=1048576) (h0:xss≠[]) (hne:∀xs∈xss,xs≠[]/\xs.length<=1048576) (hp:yss.Perm xss) (hs:yss.Pairwise fun x y=>¬cmpI y x<0):
 AC Tryz.prog 140 [.ow 0,.fn 141 []] [.sl e (.sw e0 true) xss] [] [.sl e (.sw e0 true) yss]:=by
 refine ⟨⟨_,_,Tryz.func140,rfl,by kernel_rfl⟩,fun w bs A vs hok hvs=>?_⟩
 obtain ⟨v,r,rfl,⟨b,e',t,xs',cur,hb,hx,hc,rfl⟩,⟨v2,r2,rfl,⟨vs2,rfl,hvs2⟩,h3⟩⟩:=hvs
 cases h3
 cases hvs2
 cases hx
 have hrow:=hok.row 0 b _ hb rfl
 obtain ⟨hA,cur2,c1,c2,c3,c4⟩:=hrow
 rw [hc] at c1;cases c1
 have hbl:=hok.lt b (List.mem_of_getElem? hb)
 have hbs:bs=[b]:=by
  have hlen:=hok.len
  match bs,hb,hlen with
  |[x],hb,_=>simp at hb;rw [hb]
 subst hbs
 obtain ⟨l,hll,hlp⟩:=exList (α:=El w A) xss.length (fun j x=>cur[j]? =some (enE x)/\xss[j]? =some x.1.2/\RdW w A e0 x.1.2 x.1.1) (fun j hj=>by
  obtain ⟨cv,g1,g2⟩:=c4 j hj
  exact ⟨⟨(cv,xss[j]),hne _ (List.getElem_mem hj),RdW.rd g2⟩,g1,List.getElem?_eq_getElem hj,g2⟩)
 have hl0:0<l.length:=by rw [hll];exact List.length_pos_iff.2 h0
 haveI:Inhabited (El w A):=⟨l[0]⟩
 have hmap:l.map (fun x=>x.1.2)=xss:=by
  apply List.ext_getElem?
  intro j
  rw [List.getElem?_map]
  by_cases hj:j<l.length
  .rw [List.getElem?_eq_getElem hj,(hlp j hj).2.1];rfl
  .rw [List.getElem?_eq_none (by omega),List.getElem?_eq_none (by omega)];rfl
 have hH:Holds enE w b 0 l.toArray:=by
  intro j hj
  have hj':j<l.length:=by simpa using hj
  refine ⟨?_,frozen_row w b _ cur e hc⟩
  rw [Nat.zero_add,cell_of_row w b j cur e (0,0) hc,(hlp j hj').1]
  simp [hj']
 have key:=Tryz.slices_SortFunc enE enE_one cfE swoE 141 #[] b 0 cur.size l.toArray w run_cmp (cmpLaysE b _ hA) hH hbl (by simp;omega)
 rw [List.size_toArray,hll] at key
 refine key.mono ?_
 rintro ex w' ⟨rfl,d',n,os,hperm,hsort,rfl⟩
 have hsz':d'.size=xss.length:=by have:=hperm.1;simpa [hll] using this
 have hpp:d'.toList.Perm l:=by
  have h1:=hperm.2.2
  have e1:d'.extract 0 xss.length=d':=by rw [<-hsz'];exact Array.extract_size
  have e2:l.toArray.extract 0 xss.length=l.toArray:=by rw [<-hll,<-List.size_toArray];exact Array.extract_size
  rw [e1,e2] at h1
  simpa using h1
 have hwh:∀x∈d'.toList,RdW w A e0 x.1.2 x.1.1:=fun x hx=>by
  obtain ⟨j,hj,rfl⟩:=List.getElem_of_mem (hpp.subset hx)
  exact (hlp j hj).2.2
 have hap:(d'.toList.map enE).Pairwise apR:=by
  refine (List.Perm.pairwise_iff (fun {x y} h=>apR_symm h) (hpp.map enE)).2 ?_
  rw [List.pairwise_iff_getElem]
  intro i j hi hj hij p q l1 c1 l2 c2 h1 h2 k1 k2
  have hi':i<l.length:=by simpa using hi
  have hj':j<l.length:=by simpa using hj
  simp only [List.getElem_map] at h1 h2
  have hdd:DstV cur xss.length:=c4.d
  exact hdd i j hij (by omega) p q l1 c1 l2 c2 (by rw [(hlp i hi').1,h1]) (by rw [(hlp j hj').1,h2]) k1 k2
 have hys:d'.toList.map (fun x=>x.1.2)=yss:=by
  refine List.Perm.eq_of_pairwise (le:=fun x y=>¬cmpI y x<0) (fun a b _ _ h1 h2=>?_) ?_ hs ?_
  .have:=cmpI_neg a b
   exact cmpI_eq _ _ (by omega)
  .rw [List.pairwise_map,List.pairwise_iff_getElem]
   intro i j hi hj hij
   have hi':i<d'.size:=by simpa using hi
   have hj':j<d'.size:=by simpa using hj
   have:=hsort i j (Nat.zero_le _) hij (by omega)
   rw [getElem!_pos d' j hj',getElem!_pos d' i hi'] at this
   have this:¬cmpI d'[j].1.2 d'[i].1.2<0:=of_decide_eq_false this
   simpa using this
  .have h1:=hpp.map (fun x:El w A=>x.1.2)
   rw [hmap] at h1
   exact h1.trans hp.symm
 have hyl:yss.length=xss.length:=hp.length_eq
 have hold:∀k,k<w.heap.size->k≠b->(sortWorld enE w b 0 n d' os).heap[k]? =w.heap[k]? :=by
  intro k hk hkb
  unfold sortWorld
  rw [heap_grow_old _ _ (by simpa using hk),putRow_other _ _ _ _ _ hkb];rfl
 have hnew:(sortWorld enE w b 0 n d' os).heap[b]? =some (.cells (putCells enE 0 d' cur) e (0,0)):=by
  unfold sortWorld
  rw [heap_grow_old _ _ (by simpa using hbl)]
  exact putRow_block enE (Go.Sort.ahead w n) b _ cur e hc
 have hsz:(putCells enE 0 d' cur).size=cur.size:=by simp [putCells]
 have hws:w.heap.size<=(sortWorld enE w b 0 n d' os).heap.size:=by simp [sortWorld]
 refine ⟨.tuple #[],[b],A,rfl,⟨rfl,hok.nodup,fun x hx=>?_,fun x hx=>?_,?_⟩,⟨[],rfl,rfl⟩,⟨rfl,rfl,rfl,hws,?_,fun x hx=>.inl hx,fun x hx=>.inl hx⟩,⟨[],rfl⟩,?_,fun x hx=>hx⟩
 .have:=hok.lt x hx;omega
 .have:=hok.old x hx;omega
 .intro i b2 r hb2 hr2
  match i,hb2,hr2 with
  |0,hb2,hr2=>
   simp at hb2 hr2
   subst hb2;subst hr2
   refine ⟨hA,_,hnew,by rw [hsz,hyl];exact c2,by rw [hsz];exact c3,fun j hj=>?_,?_⟩
   rotate_left
   .intro i j hij hj p q l1 q1 l2 q2 g1 g2 k1 k2
    have hi':i<d'.size:=by omega
    have hj':j<d'.size:=by omega
    rw [putCells_get _ _ _ _ hi' (by omega),getElem!_pos d' i hi'] at g1
    rw [putCells_get _ _ _ _ hj' (by omega),getElem!_pos d' j hj'] at g2
    have:=(List.pairwise_iff_getElem.1 hap) i j (by simpa using hi') (by simpa using hj') hij p q l1 q1 l2 q2 (by simpa using g1) (by simpa using g2) k1 k2
    exact this
   have hj':j<d'.size:=by omega
   refine ⟨enE d'[j],?_,?_⟩
   .rw [putCells_get _ _ _ _ hj' (by omega),getElem!_pos d' j hj']
   .have e3:yss[j]=d'[j].1.2:=by simp [<-hys]
    rw [e3]
    exact RdW.ext (fun k hk hlt=>⟨hold k hlt (fun e=>hA (e ▸ hk)),hk⟩) (hwh d'[j] (by simp))
  |i+1,hb2,_=>simp at hb2
 .intro k hk hkb
  exact hold k hk (by simpa using hkb)
 .intro x hx cur2 e2 hc2
  simp at hx;subst hx
  rw [hc] at hc2;cases hc2
  exact ⟨_,hnew,hsz⟩
theorem impl_GroupOf_1w (sh:Bool) (x q:List Int) (hx:x.length<=1048576) (hq:q.length<=1048576):AC Tryz.prog 138 [.d sh (.sl .int) x,.ptr 0 0] [.box 29 (.d true (.sw 3 false) q)] [.d true .bool (decide (x=q))] [.box 29 (.d true (.sw 3 false) q)]:=by
 refine AC_of tauOk 7 1 [3] Tryz.func138 rfl (by kernel_rfl) rfl rfl rfl rfl rfl ?_
 refine ⟨rfl,[],false,_,_,slices_Equal_int sh true x q hx hq,nd0,rfl,rfl,trivial,fun h=>?_,fun h=>?_⟩
 .exact ⟨none,⟨retB h,trivial⟩,rfl,rfl⟩
 .exact ⟨none,⟨retB h,trivial⟩,rfl,rfl⟩
theorem impl_GroupOf_w (sh:Bool) (n:Nat) (gens R S:List (List Int)) (h1:1<=n) (hn:n<11) (hg:GenP n gens) (hR:bfsI n gens 200 0 [idL n]=some R)
 (hp:S.Perm R) (hs:S.Pairwise fun x y=>¬cmpI y x<0) (hS:S.length<=120/\S≠[]/\∀x∈S,x≠[]/\x.length<=1048576):
 AC Tryz.prog 55 [I (n:Nat),.d sh (.sl (.sl .int)) gens] [] [.ow 0,.d true .bool true] [.sl 29 (.sw 3 true) S]:=by
 have hgl:=hg.1
 refine AC_of (tauSOk true) 70 0 [4,5] Tryz.func55 rfl (by kernel_rfl) rfl rfl rfl rfl rfl ?_
 refine ⟨fun h=>by omega,fun _=>?_⟩
 refine ⟨fun h=>by omega,fun _=>?_⟩
 refine ⟨Nat,fun k=>⟨[(0,I (n:Nat)),(1,.d sh (.sl (.sl .int)) gens),(19,.d sh (.sl (.sl .int)) gens),(20,I gens.length),(21,I (k:Nat))],[]⟩,fun k=>k<=gens.length,fun k=>gens.length-k,0,Nat.zero_le _,
  ⟨⟨rfl,rfl⟩,⟨rfl,rfl,rfl,rfl,rfl,trivial⟩,trivial⟩,fun k hk=>?_⟩
 dsimp only at hk
 refine ⟨fun h2=>?_,fun h2=>?_⟩
 .have hk2:k<gens.length:=by omega
  have hp:=hg.2 k hk2
  refine ⟨k,rfl,hk2,[],false,_,_,impl_PermOk sh (gens.getD k []) (by omega),nd0,rfl,rfl,trivial,fun h3=>?_,fun h3=>by rw [hp.1] at h3;cases h3⟩
  refine ⟨fun h4=>(h4 (by omega)).elim,fun _=>?_⟩
  exact ⟨((k+1:Nat):Int),w64_eq (by omega) (by omega) (by omega),k+1,by dsimp only;omega,by dsimp only;omega,⟨rfl,rfl⟩,⟨rfl,rfl,rfl,rfl,rfl,trivial⟩,trivial⟩
 .clear h2
  refine ⟨[],false,_,_,AC.frzw1 (d:=false) (impl_IdentityPerm n h1 (by omega)),nd0,rfl,rfl,trivial,?_⟩
  refine ⟨rfl,by decide,true,Nat.le_refl 1,?_⟩
  refine ⟨Nat × List (List Int),fun i=>⟨[(0,I (n:Nat)),(1,.d sh (.sl (.sl .int)) gens),(8,.ow 0),(9,I (i.1:Nat))],[.sl 29 (.sw 3 true) i.2]⟩,
   fun i=>i.1<=200/\bfsI n gens (200-i.1) i.1 i.2=some R,fun i=>200-i.1,(0,[idL n]),⟨Nat.zero_le _,hR⟩,
   ⟨⟨rfl,rfl⟩,⟨rfl,rfl,rfl,rfl,trivial⟩,rfl,trivial⟩,?_⟩
  rintro ⟨a,q⟩ ⟨ha,hb⟩
  dsimp only at ha hb
  obtain ⟨f,hf,hcase⟩:=bfsI_some hb
  refine ⟨fun h3=>?_,fun h3=>?_⟩
  .dsimp only at h3
   rcases hcase with ⟨haq,o,ho,hR2⟩|⟨haq,_⟩
   .refine ⟨Nat × List (List Int),fun i=>⟨[(0,I (n:Nat)),(1,.d sh (.sl (.sl .int)) gens),(8,.ow 0),(9,I (a:Nat)),(44,.d sh (.sl (.sl .int)) gens),(45,I gens.length),(46,I (i.1:Nat))],[.sl 29 (.sw 3 true) i.2]⟩,
     fun i=>i.1<=gens.length/\innI n a (gens.drop i.1) i.2=some o,fun i=>gens.length-i.1,(0,q),⟨Nat.zero_le _,ho⟩,
     ⟨⟨rfl,rfl⟩,⟨rfl,rfl,rfl,rfl,rfl,rfl,rfl,trivial⟩,rfl,trivial⟩,?_⟩
    rintro ⟨j,q'⟩ ⟨hj,hin⟩
    dsimp only at hj hin
    refine ⟨fun h4=>?_,fun h4=>?_⟩
    .dsimp only at h4
     have hj2:j<gens.length:=by omega
     have hp:=hg.2 j hj2
     rw [drop_c gens j [] hj2] at hin
     obtain ⟨⟨⟨c2,c3⟩,c4,c5⟩,c6⟩:=innI_cons hin
     have c7:=okP_iff c4
     have hel:=exL_len (q'.getD a []) (gens.getD j [])
     refine ⟨j,rfl,hj2,a,rfl,c3,?_⟩
     refine ⟨[],false,_,_,AC.frzw1 (d:=false) (impl_compose true sh (q'.getD a []) (gens.getD j []) (by omega) (fun i hi=>by rw [hp.2];exact c7.2 i hi)),nd0,rfl,rfl,trivial,?_⟩
     have hql:∀i,i<q'.length->(q'.getD i []).length<=1048576:=fun i hi=>by have:=c5 i hi;omega
     refine ⟨rfl,rfl,[1],false,_,_,slices_ContainsFunc_ints 138 29 (.sw 3 false) (exL (q'.getD a []) (gens.getD j [])) (fun x=>decide (x=exL (q'.getD a []) (gens.getD j []))) false q' (by omega) (fun i hi=>impl_GroupOf_1w false _ _ (hql i hi) (by omega)),by decide,rfl,rfl,⟨⟨rfl,trivial⟩,trivial⟩,fun h5=>?_,fun h5=>?_⟩
     .rcases c6 with ⟨_,c6⟩|⟨c6,_⟩
      .exact ⟨((j+1:Nat):Int),w64_eq (by omega) (by omega) (by omega),(j+1,q'),⟨by dsimp only;omega,c6⟩,by dsimp only;omega,⟨rfl,rfl⟩,⟨rfl,rfl,rfl,rfl,rfl,rfl,rfl,trivial⟩,rfl,trivial⟩
      .rw [c6] at h5;cases h5
     .rcases c6 with ⟨c6,_⟩|⟨_,c8,c6⟩
      .rw [c6] at h5;cases h5
      .refine ⟨fun h6=>by dsimp only at h6;omega,fun _=>?_⟩
       have hap:ApW q' [exL (q'.getD a []) (gens.getD j [])]:=⟨Nat.le_refl 1,fun x hx y hy=>by
        rw [List.mem_singleton.1 hy]
        obtain ⟨i,hi,rfl⟩:=List.getElem_of_mem hx
        have h8:=c5 i hi
        rw [getD_get _ _ _ hi] at h8
        refine .inr ⟨by omega,fun e=>?_⟩
        rw [List.any_eq_true.2 ⟨_,List.getElem_mem hi,decide_eq_true e⟩] at h5
        cases h5⟩
       refine ⟨rfl,rfl,by decide,false,?_⟩
       refine ⟨rfl,Nat.zero_le _,rfl,by simp only [List.length_cons,List.length_nil];omega,rfl,hap,?_⟩
       exact ⟨((j+1:Nat):Int),w64_eq (by omega) (by omega) (by omega),(j+1,q'++[exL (q'.getD a []) (gens.getD j [])]),⟨by dsimp only;omega,c6⟩,by dsimp only;omega,⟨rfl,rfl⟩,⟨rfl,rfl,rfl,rfl,rfl,rfl,rfl,trivial⟩,rfl,trivial⟩
    .dsimp only at h4
     obtain rfl:j=gens.length:=by omega
     rw [List.drop_length] at hin
     obtain rfl:o=q':=(Option.some.inj hin).symm
     exact ⟨((a+1:Nat):Int),w64_eq (by omega) (by omega) (by omega),(a+1,o),⟨by dsimp only;omega,by dsimp only;rw [show 200-(a+1)=f from by omega];exact hR2⟩,by dsimp only;omega,⟨rfl,rfl⟩,⟨rfl,rfl,rfl,rfl,trivial⟩,rfl,trivial⟩
   .omega
  .dsimp only at h3
   rcases hcase with ⟨haq,_⟩|⟨_,rfl⟩
   .omega
   .have hRl:=hp.length_eq
    refine ⟨[0],false,_,_,slices_SortFunc_sw 29 3 q S (by omega) (by intro e;rw [e] at hRl;exact hS.2.1 (List.length_eq_zero_iff.1 hRl)) (fun x hx=>hS.2.2 x (hp.symm.subset hx)) hp hs,by decide,rfl,rfl,⟨⟨hRl,rfl,rfl⟩,trivial⟩,?_⟩
    exact ⟨some 0,⟨⟨rfl,rfl⟩,rfl,trivial⟩,⟨rfl,rfl⟩,rfl⟩
end Go.Proofs.YtacjiemkbhhhoaaGreatDoor
namespace Go.Proofs.YtacjiemkbhhhoaaGreatDoor
open Go Go.Proofs.YtacjiemkbhhhoaaGreatDoor.Ow
theorem impl_IdentityPerm_no (n:Int) (h:¬(1<=n/\n<=10)):AC Tryz.prog 135 [I n] [] [.nil] []:=by
 refine AC_of tauOk 24 0 [2] Tryz.func135 rfl (by kernel_rfl) rfl rfl rfl rfl rfl ?_
 refine ⟨fun _=>?_,fun h1=>?_⟩
 .exact ⟨none,⟨rfl,trivial⟩,rfl,rfl⟩
 .refine ⟨fun _=>?_,fun h2=>?_⟩
  .exact ⟨none,⟨rfl,trivial⟩,rfl,rfl⟩
  .exact (h (by omega)).elim
theorem impl_turn_no (n:Int) (h:¬(1<=n/\n<=10)):AC Tryz.prog 56 [I n] [] [.nil] []:=by
 refine AC_of tauOk 21 0 [2] Tryz.func56 rfl (by kernel_rfl) rfl rfl rfl rfl rfl ?_
 refine ⟨[],false,_,_,impl_IdentityPerm_no n h,nd0,rfl,rfl,trivial,?_⟩
 refine ⟨Unit,fun _=>⟨[(0,I n),(3,.nil),(8,I 0),(9,I 0)],[]⟩,fun _=>True,fun _=>0,(),trivial,
  ⟨⟨rfl,rfl⟩,⟨rfl,rfl,rfl,rfl,trivial⟩,trivial⟩,fun _ _=>?_⟩
 refine ⟨fun h1=>by omega,fun h1=>?_⟩
 exact ⟨none,⟨rfl,trivial⟩,rfl,rfl⟩
theorem slices_Reverse_nil:AC Tryz.prog 145 [.nil] [] [] []:=by
 refine AC_of tauOk 28 0 [] Tryz.func145 rfl (by kernel_rfl) rfl rfl rfl rfl rfl ?_
 refine ⟨-1,w64_in _ (by omega) (by omega),?_⟩
 refine ⟨Unit,fun _=>⟨[(0,.nil),(2,I 0),(3,I (-1))],[]⟩,fun _=>True,fun _=>0,(),trivial,
  ⟨⟨rfl,rfl⟩,⟨rfl,rfl,rfl,trivial⟩,trivial⟩,fun _ _=>?_⟩
 refine ⟨fun h1=>by omega,fun h1=>?_⟩
 exact ⟨none,trivial,rfl,rfl⟩
theorem impl_GroupOf_n (sh:Bool) (n:Int) (gens:List (List Int)) (h:¬(1<=n/\n<=10)):AC Tryz.prog 55 [I n,.d sh (.sl (.sl .int)) gens] [] [.nil,.d true .bool false] []:=by
 refine AC_of tauOk 70 0 [4,5] Tryz.func55 rfl (by kernel_rfl) rfl rfl rfl rfl rfl ?_
 refine ⟨fun _=>?_,fun h1=>?_⟩
 .exact ⟨none,⟨rfl,rfl,trivial⟩,rfl,rfl⟩
 .refine ⟨fun _=>?_,fun h2=>?_⟩
  .exact ⟨none,⟨rfl,rfl,trivial⟩,rfl,rfl⟩
  .exact (h (by omega)).elim
def genB (n:Nat) (gens:List (List Int)):Bool:=gens.all fun p=>permB p && decide (p.length=n)
theorem impl_GroupOf_g (sh:Bool) (n:Nat) (h1:1<=n) (hn:n<11) (gens:List (List Int)) (hl:gens.length<=1048576) (hx:∀i,i<gens.length->(gens.getD i []).length<=1048576) (hB:genB n gens=false):
 AC Tryz.prog 55 [I (n:Nat),.d sh (.sl (.sl .int)) gens] [] [.nil,.d true .bool false] []:=by
 refine AC_of tauOk 70 0 [4,5] Tryz.func55 rfl (by kernel_rfl) rfl rfl rfl rfl rfl ?_
 refine ⟨fun h=>by omega,fun _=>?_⟩
 refine ⟨fun h=>by omega,fun _=>?_⟩
 refine ⟨Nat,fun k=>⟨[(0,I (n:Nat)),(1,.d sh (.sl (.sl .int)) gens),(19,.d sh (.sl (.sl .int)) gens),(20,I gens.length),(21,I (k:Nat))],[]⟩,fun k=>k<=gens.length/\genB n (gens.take k)=true,fun k=>gens.length-k,0,⟨Nat.zero_le _,rfl⟩,
  ⟨⟨rfl,rfl⟩,⟨rfl,rfl,rfl,rfl,rfl,trivial⟩,trivial⟩,?_⟩
 rintro k ⟨hk,hg⟩
 refine ⟨fun h2=>?_,fun h2=>?_⟩
 .have hk2:k<gens.length:=by omega
  refine ⟨k,rfl,hk2,[],false,_,_,impl_PermOk sh (gens.getD k []) (hx k hk2),nd0,rfl,rfl,trivial,fun h3=>?_,fun h3=>?_⟩
  .refine ⟨fun h4=>?_,fun h4=>?_⟩
   .exact ⟨none,⟨rfl,rfl,trivial⟩,rfl,rfl⟩
   .refine ⟨((k+1:Nat):Int),w64_eq (by omega) (by omega) (by omega),k+1,⟨by omega,?_⟩,by dsimp only;omega,⟨rfl,rfl⟩,⟨rfl,rfl,rfl,rfl,rfl,trivial⟩,trivial⟩
    unfold genB at hg ⊢
    rw [L_succ gens k [] hk2,List.all_append,hg,List.all_cons,h3,decide_eq_true (show (gens.getD k []).length=n by omega)];rfl
  .exact ⟨none,⟨rfl,rfl,trivial⟩,rfl,rfl⟩
 .obtain rfl:k=gens.length:=by omega
  rw [List.take_length,hB] at hg
  cases hg
theorem impl_CyclicGroup_no (n:Int) (h:¬(1<=n/\n<=10)):AC Tryz.prog 27 [I n] [] [.nil,.d true .bool false] []:=by
 refine AC_of tauOk 11 0 [2,3] Tryz.func27 rfl (by kernel_rfl) rfl rfl rfl rfl rfl ?_
 refine ⟨[],false,_,_,impl_turn_no n h,nd0,rfl,rfl,trivial,rfl,by decide,false,?_⟩
 refine ⟨[],false,_,_,impl_GroupOf_n true n [[]] h,nd0,rfl,rfl,trivial,nofun,fun _=>?_⟩
 exact ⟨none,⟨rfl,rfl,trivial⟩,rfl,rfl⟩
theorem impl_DihedralGroup_no (n:Int) (h:¬(1<=n/\n<=10)):AC Tryz.prog 60 [I n] [] [.nil,.d true .bool false] []:=by
 refine AC_of tauOk 17 0 [2,3] Tryz.func60 rfl (by kernel_rfl) rfl rfl rfl rfl rfl ?_
 refine ⟨[],false,_,_,impl_IdentityPerm_no n h,nd0,rfl,rfl,trivial,?_⟩
 refine ⟨[],false,_,_,slices_Reverse_nil,nd0,rfl,rfl,trivial,?_⟩
 refine ⟨[],false,_,_,impl_turn_no n h,nd0,rfl,rfl,trivial,rfl,by decide,false,?_⟩
 refine ⟨[],false,_,_,impl_GroupOf_n true n [[],[]] h,nd0,rfl,rfl,trivial,nofun,fun _=>?_⟩
 exact ⟨none,⟨rfl,rfl,trivial⟩,rfl,rfl⟩
theorem impl_SymmetricGroup_no (n:Int) (h:¬(1<=n/\n<=5)):AC Tryz.prog 61 [I n] [] [.nil,.d true .bool false] []:=by
 refine AC_of tauOk 27 0 [2,3] Tryz.func61 rfl (by kernel_rfl) rfl rfl rfl rfl rfl ?_
 refine ⟨fun _=>?_,fun h1=>?_⟩
 .exact ⟨none,⟨rfl,rfl,trivial⟩,rfl,rfl⟩
 .refine ⟨fun _=>?_,fun h2=>?_⟩
  .exact ⟨none,⟨rfl,rfl,trivial⟩,rfl,rfl⟩
  .exact (h (by omega)).elim
def sdgI (k:Int):Int:=if k=1 then 4 else if k=2\/k=3 then 6 else if k=4 then 8 else 0
theorem impl_SolidDegree (k:Int):AC Tryz.prog 151 [I k] [] [I (sdgI k)] []:=by
 refine AC_of tauOk 11 0 [2] Tryz.func151 rfl (by kernel_rfl) rfl rfl rfl rfl rfl ?_
 refine ⟨fun h1=>?_,fun h1=>?_⟩
 .exact ⟨none,⟨retI (by rw [sdgI,if_pos h1]),trivial⟩,rfl,rfl⟩
 .refine ⟨fun h2=>?_,fun h2=>?_⟩
  .exact ⟨none,⟨retI (by rw [sdgI,if_neg h1,if_pos (.inl h2)]),trivial⟩,rfl,rfl⟩
  .refine ⟨fun h3=>?_,fun h3=>?_⟩
   .exact ⟨none,⟨retI (by rw [sdgI,if_neg h1,if_pos (.inr h3)]),trivial⟩,rfl,rfl⟩
   .refine ⟨fun h4=>?_,fun h4=>?_⟩
    .exact ⟨none,⟨retI (by rw [sdgI,if_neg h1,if_neg (by omega),if_pos h4]),trivial⟩,rfl,rfl⟩
    .exact ⟨none,⟨retI (by rw [sdgI,if_neg h1,if_neg (by omega),if_neg h4]),trivial⟩,rfl,rfl⟩
structure QI (n:Nat) (q:List (List Int)):Prop where
 l1:1<=q.length
 l2:q.length<=120
 el:∀x∈q,PnP n x
theorem QI.get {n:Nat} {q:List (List Int)} (h:QI n q) {i:Nat} (hi:i<q.length):PnP n (q.getD i []):=by
 rw [getD_get _ _ _ hi];exact h.el _ (List.getElem_mem hi)
theorem innI_step {n a:Nat} {g:List Int} {gs q:List (List Int)} (h:QI n q) (ha:a<q.length):innI n a (g::gs) q=if (q.any fun x=>decide (x=exL (q.getD a []) g))=true then innI n a gs q
 else if q.length=120 then none else innI n a gs (q++[exL (q.getD a []) g]):=by
 rw [innI,if_pos ⟨⟨h.l2,ha⟩,okP_of (h.get ha),by rw [List.all_eq_true];exact fun x hx=>decide_eq_true (h.el x hx).2⟩]
theorem QI.add {n:Nat} {q:List (List Int)} (h:QI n q) (h120:q.length≠120) {a:Nat} (ha:a<q.length) {g:List Int} (hg:PnP n g):QI n (q++[exL (q.getD a []) g]):=by
 have:=h.l2
 refine ⟨by simp,by simp;omega,fun x hx=>?_⟩
 rcases List.mem_append.1 hx with hx|hx
 .exact h.el x hx
 .rw [List.mem_singleton.1 hx];exact perm_ex (h.get ha) hg
theorem innI_inv {n a:Nat}:∀(gs q o:List (List Int)),GenQ n gs->QI n q->a<q.length->innI n a gs q=some o->QI n o/\a<o.length
 |[],q,o,_,h,ha,he=>by rw [innI] at he;cases he;exact ⟨h,ha⟩
 |g::gs,q,o,hg,h,ha,he=>by
  rw [innI_step h ha] at he
  have hg2:GenQ n gs:=fun s hs=>hg s (by simp [hs])
  split at he
  .exact innI_inv gs q o hg2 h ha he
  .split at he
   .cases he
   .rename_i h120
    exact innI_inv gs _ o hg2 (h.add h120 ha (hg g (by simp))) (by simp;omega) he
theorem bfsI_inv {n:Nat} {gens:List (List Int)} (hg:GenQ n gens):∀(f a:Nat) (q R:List (List Int)),QI n q->bfsI n gens f a q=some R->QI n R
 |0,a,q,R,_,h=>by rw [bfsI] at h;cases h
 |f+1,a,q,R,hq,h=>by
  rw [bfsI] at h
  split at h
  .rename_i ha
   cases hi:innI n a gens q with
   |none=>rw [hi] at h;cases h
   |some o=>rw [hi] at h;exact bfsI_inv hg f (a+1) o R (innI_inv gens q o hg hq ha hi).1 h
  .cases h;exact hq
theorem gen_q {n:Nat} {gens:List (List Int)} (hg:GenP n gens):GenQ n gens:=fun s hs=>by
 obtain ⟨i,hi,rfl⟩:=List.getElem_of_mem hs
 have:=hg.2 i hi
 rw [getD_get _ _ _ hi] at this
 exact ⟨(permB_iff _).1 this.1,this.2⟩
theorem QI0 {n:Nat} (h1:1<=n) (h2:n<=10):QI n [idL n]:=⟨Nat.le_refl 1,(show 1<=120 by decide),fun x hx=>by rw [List.mem_singleton.1 hx];exact id_perm h1 h2⟩
def grpO (n:Nat) (gens:List (List Int)):Option (List (List Int)):=(bfsI n gens 200 0 [idL n]).map srtL
theorem impl_GroupOf_some (sh:Bool) (n:Nat) (gens G:List (List Int)) (h1:1<=n) (hn:n<11) (hg:GenP n gens) (hG:grpO n gens=some G):
 AC Tryz.prog 55 [I (n:Nat),.d sh (.sl (.sl .int)) gens] [] [.ow 0,.d true .bool true] [.sl 29 (.sw 3 true) G]:=by
 unfold grpO at hG
 cases hR:bfsI n gens 200 0 [idL n] with
 |none=>rw [hR] at hG;cases hG
 |some R=>
  rw [hR] at hG
  cases hG
  have hQ:=bfsI_inv (gen_q hg) _ _ _ _ (QI0 h1 (by omega)) hR
  have hp:=srtL_p R
  have hl:=hp.length_eq
  have h3:=hQ.l1
  have h4:=hQ.l2
  exact impl_GroupOf_w sh n gens R (srtL R) h1 hn hg hR hp (srtL_s R) ⟨by omega,fun e=>by rw [e] at hl;simp at hl;omega,fun x hx=>by
   have h5:=(hQ.el x (hp.subset hx)).2
   exact ⟨fun e=>by rw [e] at h5;simp at h5;omega,by omega⟩⟩
theorem impl_GroupOf_none (sh:Bool) (n:Nat) (gens:List (List Int)) (h1:1<=n) (hn:n<11) (hg:GenP n gens) (hG:grpO n gens=none):
 AC Tryz.prog 55 [I (n:Nat),.d sh (.sl (.sl .int)) gens] [] [.nil,.d true .bool false] []:=by
 have hR:bfsI n gens 200 0 [idL n]=none:=by
  unfold grpO at hG
  cases hR:bfsI n gens 200 0 [idL n] with
  |none=>rfl
  |some R=>rw [hR] at hG;cases hG
 have hgl:=hg.1
 have hgq:=gen_q hg
 refine AC_of (tauSOk true) 70 0 [4,5] Tryz.func55 rfl (by kernel_rfl) rfl rfl rfl rfl rfl ?_
 refine ⟨fun h=>by omega,fun _=>?_⟩
 refine ⟨fun h=>by omega,fun _=>?_⟩
 refine ⟨Nat,fun k=>⟨[(0,I (n:Nat)),(1,.d sh (.sl (.sl .int)) gens),(19,.d sh (.sl (.sl .int)) gens),(20,I gens.length),(21,I (k:Nat))],[]⟩,fun k=>k<=gens.length,fun k=>gens.length-k,0,Nat.zero_le _,
  ⟨⟨rfl,rfl⟩,⟨rfl,rfl,rfl,rfl,rfl,trivial⟩,trivial⟩,fun k hk=>?_⟩
 dsimp only at hk
 refine ⟨fun h2=>?_,fun h2=>?_⟩
 .have hk2:k<gens.length:=by omega
  have hp:=hg.2 k hk2
  refine ⟨k,rfl,hk2,[],false,_,_,impl_PermOk sh (gens.getD k []) (by omega),nd0,rfl,rfl,trivial,fun h3=>?_,fun h3=>by rw [hp.1] at h3;cases h3⟩
  refine ⟨fun h4=>(h4 (by omega)).elim,fun _=>?_⟩
  exact ⟨((k+1:Nat):Int),w64_eq (by omega) (by omega) (by omega),k+1,by dsimp only;omega,by dsimp only;omega,⟨rfl,rfl⟩,⟨rfl,rfl,rfl,rfl,rfl,trivial⟩,trivial⟩
 .clear h2
  refine ⟨[],false,_,_,AC.frzw1 (d:=false) (impl_IdentityPerm n h1 (by omega)),nd0,rfl,rfl,trivial,?_⟩
  refine ⟨rfl,by decide,true,Nat.le_refl 1,?_⟩
  refine ⟨Nat × List (List Int),fun i=>⟨[(0,I (n:Nat)),(1,.d sh (.sl (.sl .int)) gens),(8,.ow 0),(9,I (i.1:Nat))],[.sl 29 (.sw 3 true) i.2]⟩,
   fun i=>(i.1<=i.2.length/\QI n i.2)/\bfsI n gens (200-i.1) i.1 i.2=none,fun i=>200-i.1,(0,[idL n]),⟨⟨Nat.zero_le _,QI0 h1 (by omega)⟩,hR⟩,
   ⟨⟨rfl,rfl⟩,⟨rfl,rfl,rfl,rfl,trivial⟩,rfl,trivial⟩,?_⟩
  rintro ⟨a,q⟩ ⟨⟨ha,hQ⟩,hb⟩
  dsimp only at ha hQ hb
  have hq2:=hQ.l2
  obtain ⟨f,hf⟩:∃f,200-a=f+1:=⟨199-a,by omega⟩
  rw [hf,bfsI] at hb
  refine ⟨fun h3=>?_,fun h3=>?_⟩
  .dsimp only at h3
   have haq:a<q.length:=by omega
   rw [if_pos haq] at hb
   refine ⟨Nat × List (List Int),fun i=>⟨[(0,I (n:Nat)),(1,.d sh (.sl (.sl .int)) gens),(8,.ow 0),(9,I (a:Nat)),(44,.d sh (.sl (.sl .int)) gens),(45,I gens.length),(46,I (i.1:Nat))],[.sl 29 (.sw 3 true) i.2]⟩,
    fun i=>(i.1<=gens.length/\a<i.2.length/\QI n i.2)/\innI n a (gens.drop i.1) i.2=innI n a gens q,fun i=>gens.length-i.1,(0,q),⟨⟨Nat.zero_le _,haq,hQ⟩,rfl⟩,
    ⟨⟨rfl,rfl⟩,⟨rfl,rfl,rfl,rfl,rfl,rfl,rfl,trivial⟩,rfl,trivial⟩,?_⟩
   rintro ⟨j,q'⟩ ⟨⟨hj,ha',hQ'⟩,hin⟩
   dsimp only at hj ha' hQ' hin
   have hq2':=hQ'.l2
   refine ⟨fun h4=>?_,fun h4=>?_⟩
   .dsimp only at h4
    have hj2:j<gens.length:=by omega
    have hp:=hg.2 j hj2
    rw [drop_c gens j [] hj2,innI_step hQ' ha'] at hin
    have hPa:=hQ'.get ha'
    have hgj:PnP n (gens.getD j []):=⟨(permB_iff _).1 hp.1,hp.2⟩
    have hel:=exL_len (q'.getD a []) (gens.getD j [])
    have hal:=hPa.2
    refine ⟨j,rfl,hj2,a,rfl,ha',?_⟩
    refine ⟨[],false,_,_,AC.frzw1 (d:=false) (impl_compose true sh (q'.getD a []) (gens.getD j []) (by omega) (fun i hi=>by have:=(hPa.1.2 i hi).1;rw [hp.2];omega)),nd0,rfl,rfl,trivial,?_⟩
    have hql:∀i,i<q'.length->(q'.getD i []).length<=1048576:=fun i hi=>by have:=(hQ'.get hi).2;omega
    refine ⟨rfl,rfl,[1],false,_,_,slices_ContainsFunc_ints 138 29 (.sw 3 false) (exL (q'.getD a []) (gens.getD j [])) (fun x=>decide (x=exL (q'.getD a []) (gens.getD j []))) false q' (by omega) (fun i hi=>impl_GroupOf_1w false _ _ (hql i hi) (by omega)),by decide,rfl,rfl,⟨⟨rfl,trivial⟩,trivial⟩,fun h5=>?_,fun h5=>?_⟩
    .rw [if_pos h5] at hin
     exact ⟨((j+1:Nat):Int),w64_eq (by omega) (by omega) (by omega),(j+1,q'),⟨⟨by dsimp only;omega,ha',hQ'⟩,hin⟩,by dsimp only;omega,⟨rfl,rfl⟩,⟨rfl,rfl,rfl,rfl,rfl,rfl,rfl,trivial⟩,rfl,trivial⟩
    .rw [if_neg (by rw [h5];decide)] at hin
     refine ⟨fun h6=>?_,fun h6=>?_⟩
     .exact ⟨none,⟨rfl,rfl,trivial⟩,rfl,rfl⟩
     .dsimp only at h6
      have h120:q'.length≠120:=by omega
      rw [if_neg h120] at hin
      have hap:ApW q' [exL (q'.getD a []) (gens.getD j [])]:=⟨Nat.le_refl 1,fun x hx y hy=>by
       rw [List.mem_singleton.1 hy]
       have h8:=(hQ'.el x hx).2
       refine .inr ⟨by omega,fun e=>?_⟩
       rw [List.any_eq_true.2 ⟨_,hx,decide_eq_true e⟩] at h5
       cases h5⟩
      refine ⟨rfl,rfl,by decide,false,?_⟩
      refine ⟨rfl,Nat.zero_le _,rfl,by simp only [List.length_cons,List.length_nil];omega,rfl,hap,?_⟩
      exact ⟨((j+1:Nat):Int),w64_eq (by omega) (by omega) (by omega),(j+1,q'++[exL (q'.getD a []) (gens.getD j [])]),⟨⟨by dsimp only;omega,by simp;omega,hQ'.add h120 ha' hgj⟩,hin⟩,by dsimp only;omega,⟨rfl,rfl⟩,⟨rfl,rfl,rfl,rfl,rfl,rfl,rfl,trivial⟩,rfl,trivial⟩
   .dsimp only at h4
    obtain rfl:j=gens.length:=by omega
    rw [List.drop_length,innI] at hin
    rw [<-hin] at hb
    exact ⟨((a+1:Nat):Int),w64_eq (by omega) (by omega) (by omega),(a+1,q'),⟨⟨by dsimp only;omega,hQ'⟩,by dsimp only;rw [show 200-(a+1)=f from by omega];exact hb⟩,by dsimp only;omega,⟨rfl,rfl⟩,⟨rfl,rfl,rfl,rfl,trivial⟩,rfl,trivial⟩
  .dsimp only at h3
   rw [if_neg (by omega)] at hb
   cases hb
def gG (n:Nat) (gens:List (List Int)):List (List Int):=(grpO n gens).getD []
theorem gG_some {n:Nat} {gens:List (List Int)} (h:(bfsI n gens 200 0 [idL n]).isSome=true):grpO n gens=some (gG n gens):=by
 unfold gG grpO
 cases hb:bfsI n gens 200 0 [idL n] with
 |none=>rw [hb] at h;cases h
 |some R=>rfl
theorem gens2 {n:Nat} {a b:List Int} (ha:permB a=true/\a.length=n) (hb:permB b=true/\b.length=n):GenP n [a,b]:=by
 refine ⟨(by decide:2<=1000),fun i hi=>?_⟩
 match i,hi with
 |0,_=>exact ha
 |1,_=>exact hb
 |i+2,hi=>exact absurd hi (by simp)
theorem gens1 {n:Nat} {a:List Int} (ha:permB a=true/\a.length=n):GenP n [a]:=by
 refine ⟨(by decide:1<=1000),fun i hi=>?_⟩
 match i,hi with
 |0,_=>exact ha
 |i+1,hi=>exact absurd hi (by simp)
set_option maxRecDepth 100000 in
theorem grp_chk:∀n,n<11->1<=n->((permB (turnL n)=true/\(turnL n).length=n)/\permB (idL n).reverse=true/\(idL n).reverse.length=n)/\(bfsI n [turnL n] 200 0 [idL n]).isSome=true/\(bfsI n [turnL n,(idL n).reverse] 200 0 [idL n]).isSome=true:=by decide+kernel
theorem impl_CyclicGroup_s (n:Nat) (h1:1<=n) (hn:n<11):AC Tryz.prog 27 [I (n:Nat)] [] [.ow 0,.d true .bool true] [.sl 29 (.sw 3 true) (gG n [turnL n])]:=by
 obtain ⟨⟨c1,c2⟩,c3,c4⟩:=grp_chk n hn h1
 refine AC_of tauOk 11 0 [2,3] Tryz.func27 rfl (by kernel_rfl) rfl rfl rfl rfl rfl ?_
 refine ⟨[],true,_,_,impl_turn n h1 hn,nd0,rfl,rfl,trivial,rfl,by decide,false,?_⟩
 refine ⟨[],false,_,_,impl_GroupOf_some true n [turnL n] _ h1 hn (gens1 c1) (gG_some c3),nd0,rfl,rfl,trivial,fun _=>?_,nofun⟩
 exact ⟨some 0,⟨⟨rfl,rfl⟩,rfl,trivial⟩,⟨rfl,rfl⟩,rfl⟩
theorem impl_DihedralGroup_s (n:Nat) (h1:1<=n) (hn:n<11):AC Tryz.prog 60 [I (n:Nat)] [] [.ow 0,.d true .bool true] [.sl 29 (.sw 3 true) (gG n [turnL n,(idL n).reverse])]:=by
 obtain ⟨⟨c1,c2⟩,c3,c4⟩:=grp_chk n hn h1
 have hil:=idL_len n
 have hG:=impl_GroupOf_some true n [turnL n,(idL n).reverse] _ h1 hn (gens2 c1 c2) (gG_some c4)
 refine AC_of tauOk 17 0 [2,3] Tryz.func60 rfl (by kernel_rfl) rfl rfl rfl rfl rfl ?_
 refine ⟨[],false,_,_,impl_IdentityPerm n h1 hn,nd0,rfl,rfl,trivial,?_⟩
 refine ⟨[0],false,_,_,slices_Reverse_int 3 (idL n) (by omega),by decide,rfl,rfl,⟨⟨List.length_reverse,rfl,rfl⟩,trivial⟩,?_⟩
 refine ⟨[],true,_,_,impl_turn n h1 hn,nd0,rfl,rfl,trivial,?_⟩
 refine ⟨rfl,rfl,by decide,false,?_⟩
 refine ⟨[],false,_,_,hG,nd0,rfl,rfl,trivial,fun _=>?_,nofun⟩
 exact ⟨some 1,⟨⟨rfl,rfl⟩,rfl,trivial⟩,⟨rfl,rfl⟩,rfl⟩
theorem impl_SymmetricGroup_s (n:Nat) (h1:1<=n) (hn:n<6):AC Tryz.prog 61 [I (n:Nat)] [] [.ow 0,.d true .bool true] [.sl 29 (.sw 3 true) (gG n [turnL n,swapL n])]:=by
 have hS:=sym_ok n hn h1
 have hil:=idL_len n
 obtain ⟨o,ho,hp⟩:=hS.i
 have hG:=impl_GroupOf_some true n [turnL n,swapL n] _ h1 (by omega) (gens_ok n h1 hn) (gG_some (by rw [ho];rfl))
 generalize gG n [turnL n,swapL n]=G at*
 refine AC_of tauOk 27 0 [2,3] Tryz.func61 rfl (by kernel_rfl) rfl rfl rfl rfl rfl ?_
 refine ⟨fun h=>by omega,fun _=>?_⟩
 refine ⟨fun h=>by omega,fun _=>?_⟩
 refine ⟨[],false,_,_,impl_IdentityPerm n h1 (by omega),nd0,rfl,rfl,trivial,?_⟩
 refine ⟨fun h=>?_,fun h=>?_⟩
 .refine ⟨0,rfl,by omega,?_⟩
  refine ⟨1,rfl,by rw [List.length_set];omega,?_⟩
  rw [swapL,if_pos (by omega)] at hG
  refine ⟨[],true,_,_,impl_turn n h1 (by omega),nd0,rfl,rfl,trivial,?_⟩
  refine ⟨rfl,rfl,by decide,false,?_⟩
  refine ⟨[],false,_,_,hG,nd0,rfl,rfl,trivial,fun _=>?_,nofun⟩
  exact ⟨some 1,⟨⟨rfl,rfl⟩,rfl,trivial⟩,⟨rfl,rfl⟩,rfl⟩
 .rw [swapL,if_neg (by omega)] at hG
  refine ⟨[],true,_,_,impl_turn n h1 (by omega),nd0,rfl,rfl,trivial,?_⟩
  refine ⟨rfl,rfl,by decide,false,?_⟩
  refine ⟨[],false,_,_,hG,nd0,rfl,rfl,trivial,fun _=>?_,nofun⟩
  exact ⟨some 1,⟨⟨rfl,rfl⟩,rfl,trivial⟩,⟨rfl,rfl⟩,rfl⟩
abbrev Tr:=Int × Int × Int
def facL:List Tr:=[(0,0,1),(0,0,-1),(0,1,0),(0,-1,0),(1,0,0),(-1,0,0)]
def cor1 (i:Nat):Tr:=(2*((i % 2:Nat):Int)-1,2*((i / 2 ^ 1 % 2:Nat):Int)-1,2*((i / 2 ^ 2 % 2:Nat):Int)-1)
def corS (k:Nat):List Tr:=(List.range k).map cor1
def corL:List Tr:=corS 8
def mv1 (v:Tr):Tr:=(-v.2.1,v.1,v.2.2)
def mv2 (v:Tr):Tr:=(v.2.1,v.2.2,v.1)
def mv3 (v:Tr):Tr:=(v.1,v.2.1,-v.2.2)
def trA (v:Tr):AV:=.arr .int [v.1,v.2.1,v.2.2]
def smI (x:Int):Prop:= -1000<=x/\x<=1000
theorem impl_move1 (v:Tr) (h:smI v.2.1):AC Tryz.prog 251 [trA v] [] [trA (mv1 v)] []:=by
 refine AC_ofC tauOk 11 2 160 rfl Tryz.func251 rfl (by kernel_rfl) rfl rfl rfl ?_
 refine ⟨(by decide:0<3),(by decide:3<=1000),by decide,by decide,?_⟩
 refine ⟨1,rfl,by decide,(by decide:1<3),-v.2.1,w64_eq (by show-v.2.1=0-v.2.1;omega) (by have:=h.1;have:=h.2;omega) (by have:=h.1;have:=h.2;omega),?_⟩
 refine ⟨0,rfl,by decide,(by decide:0<3),2,rfl,by decide,(by decide:2<3),rfl,rfl,rfl,rfl,rfl,?_⟩
 exact ⟨rfl,rfl⟩
theorem impl_move2 (v:Tr):AC Tryz.prog 252 [trA v] [] [trA (mv2 v)] []:=by
 refine AC_ofC tauOk 10 2 160 rfl Tryz.func252 rfl (by kernel_rfl) rfl rfl rfl ?_
 refine ⟨(by decide:0<3),(by decide:3<=1000),by decide,by decide,?_⟩
 refine ⟨1,rfl,by decide,(by decide:1<3),?_⟩
 refine ⟨2,rfl,by decide,(by decide:2<3),0,rfl,by decide,(by decide:0<3),rfl,rfl,rfl,rfl,rfl,?_⟩
 exact ⟨rfl,rfl⟩
theorem impl_move3 (v:Tr) (h:smI v.2.2):AC Tryz.prog 253 [trA v] [] [trA (mv3 v)] []:=by
 refine AC_ofC tauOk 11 2 160 rfl Tryz.func253 rfl (by kernel_rfl) rfl rfl rfl ?_
 refine ⟨(by decide:0<3),(by decide:3<=1000),by decide,by decide,?_⟩
 refine ⟨0,rfl,by decide,(by decide:0<3),1,rfl,by decide,(by decide:1<3),2,rfl,by decide,(by decide:2<3),-v.2.2,w64_eq (by show-v.2.2=0-v.2.2;omega) (by have:=h.1;have:=h.2;omega) (by have:=h.1;have:=h.2;omega),?_⟩
 refine ⟨rfl,rfl,rfl,rfl,rfl,?_⟩
 exact ⟨rfl,rfl⟩
theorem impl_cubeMoves:AC Tryz.prog 149 [] [] [.x (.xd .fn [251,252,253])] []:=by
 refine AC_of tauOk 2 0 [0] Tryz.func149 rfl (by kernel_rfl) rfl rfl rfl rfl rfl ?_
 refine ⟨rfl,by decide,?_⟩
 exact ⟨none,⟨rfl,trivial⟩,rfl,rfl⟩
theorem impl_faces:AC Tryz.prog 147 [] [] [.x (.xd .tr facL)] []:=by
 refine AC_of tauOk 8 0 [0] Tryz.func147 rfl (by kernel_rfl) rfl rfl rfl rfl rfl ?_
 refine ⟨rfl,rfl,rfl,rfl,rfl,rfl,rfl,by decide,?_⟩
 exact ⟨none,⟨rfl,trivial⟩,rfl,rfl⟩
theorem flat3_app:∀a b:List Tr,flat3 (a++b)=flat3 a++flat3 b
 |[],_=>rfl
 |x::a,b=>by rw [List.cons_append,flat3,flat3,flat3_app a b];rfl
theorem corS_succ (k:Nat):corS (k+1)=corS k++[cor1 k]:=by rw [corS,List.range_succ,List.map_append];rfl
theorem corS_len (k:Nat):(corS k).length=k:=by rw [corS,List.length_map,List.length_range]
theorem impl_corners:AC Tryz.prog 148 [] [] [.x (.xd .tr corL)] []:=by
 refine AC.frzA (e:=160) corL ?_
 refine AC_of tauOk 27 0 [0] Tryz.func148 rfl (by kernel_rfl) rfl rfl rfl rfl rfl ?_
 refine ⟨rfl,?_⟩
 refine ⟨Nat,fun k=>⟨[(1,.x (.oa 0)),(4,I (k:Nat))],[.sl 160 .mix (flat3 (corS k))]⟩,fun k=>k<=8,fun k=>8-k,0,Nat.zero_le _,
  ⟨⟨rfl,rfl⟩,⟨rfl,rfl,trivial⟩,rfl,trivial⟩,fun k hk=>?_⟩
 dsimp only at hk
 refine ⟨fun h1=>?_,fun h1=>?_⟩
 .have hk2:k<8:=by omega
  have hd1:=Nat.div_le_self k (2 ^ 1)
  have hd2:=Nat.div_le_self k (2 ^ 2)
  have hfl:=flat3_len (corS k)
  rw [corS_len] at hfl
  refine ⟨((k % 2:Nat):Int),and1_eq _ (by omega),_,w64_in _ (by omega) (by omega),_,w64_in _ (by omega) (by omega),?_⟩
  refine ⟨by decide,((k / 2 ^ 1:Nat):Int),shr_eq k 1 (by omega),((k / 2 ^ 1 % 2:Nat):Int),and1_eq _ (by omega),_,w64_in _ (by omega) (by omega),_,w64_in _ (by omega) (by omega),?_⟩
  refine ⟨by decide,((k / 2 ^ 2:Nat):Int),shr_eq k 2 (by omega),((k / 2 ^ 2 % 2:Nat):Int),and1_eq _ (by omega),_,w64_in _ (by omega) (by omega),_,w64_in _ (by omega) (by omega),?_⟩
  refine ⟨rfl,rfl,by decide,?_⟩
  refine ⟨Nat.zero_le _,rfl,(by decide:0<1),by simp only [List.length_cons,List.length_nil];omega,rfl,?_⟩
  exact ⟨((k+1:Nat):Int),w64_eq (by omega) (by omega) (by omega),k+1,by dsimp only;omega,by dsimp only;omega,⟨rfl,rfl⟩,⟨rfl,rfl,trivial⟩,rowE (by rw [corS_succ,flat3_app];rfl),trivial⟩
 .obtain rfl:k=8:=by omega
  exact ⟨some 0,⟨⟨rfl,rfl⟩,trivial⟩,⟨rfl,rfl⟩,rfl⟩
def prmI (ps:List Tr) (x:Tr):Nat->List Int
 |0=>[]
 |k+1=>if ps.getD k (0,0,0)=x then prmI ps x k++[(k:Int)] else prmI ps x k
def prmS (ps:List Tr) (m:Tr->Tr):Nat->List Int
 |0=>[]
 |k+1=>prmS ps m k++prmI ps (m (ps.getD k (0,0,0))) ps.length
def prmL (ps:List Tr) (m:Tr->Tr):List Int:=prmS ps m ps.length
theorem prmI_len (ps:List Tr) (x:Tr):∀k,(prmI ps x k).length<=k
 |0=>Nat.le_refl _
 |k+1=>by
  have:=prmI_len ps x k
  rw [prmI]
  split
  .rw [List.length_append,List.length_singleton];omega
  .omega
theorem prmS_len (ps:List Tr) (m:Tr->Tr):∀k,(prmS ps m k).length<=k*ps.length
 |0=>by simp [prmS]
 |k+1=>by
  have:=prmS_len ps m k
  have:=prmI_len ps (m (ps.getD k (0,0,0))) ps.length
  rw [prmS,List.length_append,Nat.add_mul];omega
theorem impl_permuted (ps:List Tr) (F:Nat) (m:Tr->Tr) (hl:ps.length<=100) (hF:∀k,k<ps.length->AC Tryz.prog F [trA (ps.getD k (0,0,0))] [] [trA (m (ps.getD k (0,0,0)))] []):
 AC Tryz.prog 150 [.x (.xd .tr ps),.fn F []] [] [.ow 0] [.sl 3 .int (prmL ps m)]:=by
 refine AC_of tauOk 38 0 [4] Tryz.func150 rfl (by kernel_rfl) rfl rfl rfl rfl rfl ?_
 refine ⟨rfl,by decide,true,?_⟩
 refine ⟨Nat,fun k=>⟨[(0,.x (.xd .tr ps)),(1,.fn F []),(5,.ow 0),(12,.x (.xd .tr ps)),(13,I ps.length),(14,I (k:Nat))],[.sl 3 .int (prmS ps m k)]⟩,fun k=>k<=ps.length,fun k=>ps.length-k,0,Nat.zero_le _,
  ⟨⟨rfl,rfl⟩,⟨rfl,rfl,rfl,rfl,rfl,rfl,trivial⟩,rfl,trivial⟩,fun k hk=>?_⟩
 dsimp only at hk
 have hsl:=prmS_len ps m k
 have hsl2:k*ps.length<=100*100:=Nat.mul_le_mul (by omega) hl
 refine ⟨fun h1=>?_,fun h1=>?_⟩
 .have hk2:k<ps.length:=by omega
  have hC:=hF k hk2
  have hS:prmS ps m (k+1)=prmS ps m k++prmI ps (m (ps.getD k (0,0,0))) ps.length:=rfl
  refine ⟨k,rfl,hk2,rfl,by decide,by decide,rfl,rfl,rfl,rfl,?_⟩
  refine ⟨rfl,[],false,_,_,hC,nd0,rfl,rfl,trivial,by decide,by decide,rfl,rfl,rfl,rfl,?_⟩
  generalize ps.getD k (0,0,0)=v at*
  refine ⟨Nat,fun j=>⟨[(0,.x (.xd .tr ps)),(1,.fn F []),(5,.ow 0),(8,.ptr 2 0),(12,.x (.xd .tr ps)),(13,I ps.length),(14,I (k:Nat)),(21,.x (.xd .tr ps)),(22,I ps.length),(23,I (j:Nat))],[.sl 3 .int (prmS ps m k++prmI ps (m v) j),.sl 160 .int [v.1,v.2.1,v.2.2],.sl 160 .int [(m v).1,(m v).2.1,(m v).2.2]]⟩,fun j=>j<=ps.length,fun j=>ps.length-j,0,Nat.zero_le _,
   ⟨⟨rfl,rfl⟩,⟨rfl,rfl,rfl,rfl,rfl,rfl,rfl,rfl,rfl,rfl,trivial⟩,rowE (List.append_nil _).symm,rfl,rfl,trivial⟩,fun j hj=>?_⟩
  dsimp only at hj
  have hil:=prmI_len ps (m v) j
  refine ⟨fun h2=>?_,fun h2=>?_⟩
  .have hj2:j<ps.length:=by omega
   refine ⟨j,rfl,hj2,rfl,by decide,by decide,rfl,rfl,rfl,rfl,?_⟩
   have hP:prmI ps (m v) (j+1)=if ps.getD j (0,0,0)=m v then prmI ps (m v) j++[(j:Int)] else prmI ps (m v) j:=rfl
   refine ⟨rfl,rfl,fun h3=>?_,fun h3=>?_⟩
   .rw [if_pos (Prod.ext h3.1 (Prod.ext h3.2.1 h3.2.2))] at hP
    refine ⟨rfl,by decide,false,?_⟩
    refine ⟨rfl,Nat.zero_le _,rfl,by simp only [List.length_cons,List.length_nil,List.length_append];omega,rfl,?_⟩
    exact ⟨((j+1:Nat):Int),w64_eq (by omega) (by omega) (by omega),j+1,by dsimp only;omega,by dsimp only;omega,⟨rfl,rfl⟩,⟨rfl,rfl,rfl,rfl,rfl,rfl,rfl,rfl,rfl,rfl,trivial⟩,rowE (by rw [hP,List.append_assoc]),rfl,rfl,trivial⟩
   .rw [if_neg (fun e=>h3 (by rw [e];exact ⟨rfl,rfl,rfl⟩))] at hP
    exact ⟨((j+1:Nat):Int),w64_eq (by omega) (by omega) (by omega),j+1,by dsimp only;omega,by dsimp only;omega,⟨rfl,rfl⟩,⟨rfl,rfl,rfl,rfl,rfl,rfl,rfl,rfl,rfl,rfl,trivial⟩,rowE (by rw [hP]),rfl,rfl,trivial⟩
  .obtain rfl:j=ps.length:=by omega
   exact ⟨((k+1:Nat):Int),w64_eq (by omega) (by omega) (by omega),k+1,by dsimp only;omega,by dsimp only;omega,⟨rfl,rfl⟩,⟨rfl,rfl,rfl,rfl,rfl,rfl,trivial⟩,rowE hS.symm,trivial⟩
 .obtain rfl:k=ps.length:=by omega
  exact ⟨some 0,⟨⟨rfl,rfl⟩,trivial⟩,⟨rfl,rfl⟩,rfl⟩
def tetL (mir:Bool):List (List Int):=if mir=true then [[1,2,0,3],[0,2,3,1],[1,0,2,3]] else [[1,2,0,3],[0,2,3,1]]
def movL (mir:Bool):List (Tr->Tr):=if mir=true then [mv1,mv2,mv3] else [mv1,mv2]
def solG (k:Nat) (mir:Bool):List (List Int):=
 match k with
 |1=>tetL mir
 |2=>(tetL mir).map pactL
 |3=>(movL mir).map (prmL facL)
 |_=>(movL mir).map (prmL corL)
def solN (k:Nat):Nat:=match k with|1=>4|2=>6|3=>6|_=>8
def solL (k:Nat) (mir:Bool):List (List Int):=gG (solN k) (solG k mir)
set_option maxRecDepth 100000 in
theorem sol_chk:∀k,k<5->1<=k->∀mir:Bool,(solG k mir).length<=3/\(solG k mir).all (fun p=>permB p && decide (p.length=solN k))=true/\(bfsI (solN k) (solG k mir) 200 0 [idL (solN k)]).isSome=true:=by decide+kernel
theorem tet_chk:∀mir:Bool,(tetL mir).length<=3/\(tetL mir).all (fun p=>permB p && decide (p.length=4))=true:=by decide+kernel
theorem genP_of {n:Nat} {gs:List (List Int)} (hl:gs.length<=3) (h:gs.all (fun p=>permB p && decide (p.length=n))=true):GenP n gs:=by
 refine ⟨by omega,fun i hi=>?_⟩
 rw [List.all_eq_true] at h
 have:=h (gs.getD i []) (by rw [getD_get _ _ _ hi];exact List.getElem_mem _)
 simpa using this
theorem solid_grp (k:Nat) (hk:k<5) (h1:1<=k) (mir:Bool):AC Tryz.prog 55 [I (solN k:Nat),.d false (.sl (.sl .int)) (solG k mir)] [] [.ow 0,.d true .bool true] [.sl 29 (.sw 3 true) (solL k mir)]:=by
 obtain ⟨c1,c2,c3⟩:=sol_chk k hk h1 mir
 have hn:1<=solN k/\solN k<11:=by unfold solN;split<;>decide
 exact impl_GroupOf_some false (solN k) (solG k mir) _ hn.1 hn.2 (genP_of c1 c2) (gG_some c3)
theorem impl_SolidGroup_1 (mir:Bool):AC Tryz.prog 62 [I 1,.d true .bool mir] [] [.ow 0,.d true .bool true] [.sl 29 (.sw 3 true) (solL 1 mir)]:=by
 have hG:=solid_grp 1 (by decide) (by decide) mir
 cases mir
 .refine AC_of tauOk 75 0 [4,5] Tryz.func62 rfl (by kernel_rfl) rfl rfl rfl rfl rfl ?_
  refine ⟨rfl,by decide,true,fun _=>?_,fun h=>(h rfl).elim⟩
  refine ⟨rfl,by decide,false,rfl,by decide,false,rfl,by decide,true,?_⟩
  refine ⟨fun h=>by omega,fun _=>?_⟩
  refine ⟨[],false,_,_,impl_SolidDegree 1,nd0,rfl,rfl,trivial,[],false,_,_,hG,nd0,rfl,rfl,trivial,fun _=>?_,nofun⟩
  exact ⟨some 2,⟨⟨rfl,rfl⟩,rfl,trivial⟩,⟨rfl,rfl⟩,rfl⟩
 .refine AC_of tauOk 75 0 [4,5] Tryz.func62 rfl (by kernel_rfl) rfl rfl rfl rfl rfl ?_
  refine ⟨rfl,by decide,true,fun _=>?_,fun h=>(h rfl).elim⟩
  refine ⟨rfl,by decide,false,rfl,by decide,false,rfl,by decide,true,?_⟩
  refine ⟨rfl,by decide,false,rfl,by decide,false,rfl,Nat.zero_le _,rfl,by decide,rfl,?_⟩
  refine ⟨fun h=>by omega,fun _=>?_⟩
  refine ⟨[],false,_,_,impl_SolidDegree 1,nd0,rfl,rfl,trivial,[],false,_,_,hG,nd0,rfl,rfl,trivial,fun _=>?_,nofun⟩
  exact ⟨some 2,⟨⟨rfl,rfl⟩,rfl,trivial⟩,⟨rfl,rfl⟩,rfl⟩
theorem set_md {α:Type} (a b:List α) (x z:α) {i:Nat} (h:a.length=i):(a++z::b).set i x=a++x::b:=by
 rw [List.set_append_right _ _ (by omega),h,Nat.sub_self];rfl
theorem tet_el (mir:Bool) {i:Nat} (hi:i<(tetL mir).length):PermP ((tetL mir).getD i [])/\((tetL mir).getD i []).length=4:=by
 have h:=(tet_chk mir).2
 rw [List.all_eq_true] at h
 have:=h ((tetL mir).getD i []) (by rw [getD_get _ _ _ hi];exact List.getElem_mem _)
 simp only [Bool.and_eq_true,decide_eq_true_eq] at this
 exact ⟨(permB_iff _).1 this.1,this.2⟩
theorem impl_SolidGroup_2 (mir:Bool):AC Tryz.prog 62 [I 2,.d true .bool mir] [] [.ow 0,.d true .bool true] [.sl 29 (.sw 3 true) (solL 2 mir)]:=by
 have hG:=solid_grp 2 (by decide) (by decide) mir
 have hel:=fun i hi=>tet_el mir (i:=i) hi
 have hS:solG 2 mir=(tetL mir).map pactL:=rfl
 rw [hS] at hG
 have hl:=(tet_chk mir).1
 have loop:∀(T:List (List Int)),T.length<=3->(∀i,i<T.length->PermP (T.getD i [])/\(T.getD i []).length=4)->∀i,i<T.length->
  ((T.take i).map pactL++T.drop i).getD i []=T.getD i []/\((T.take i).map pactL++T.drop i).length=T.length/\((T.take i).map pactL++T.drop i).set i (pactL (T.getD i []))=(T.take (i+1)).map pactL++T.drop (i+1):=by
  intro T _ _ i hi
  have hl2:((T.take i).map pactL).length=i:=by rw [List.length_map,List.length_take];omega
  refine ⟨?_,by rw [List.length_append,hl2,List.length_drop];omega,?_⟩
  .rw [L_app_r _ _ _ _ (by omega),hl2,Nat.sub_self,L_drop];rfl
  .rw [drop_c T i [] hi,set_md _ _ _ _ hl2,L_succ T i [] hi,List.map_append,List.append_assoc];rfl
 cases mir
 .refine AC_of tauOk 75 0 [4,5] Tryz.func62 rfl (by kernel_rfl) rfl rfl rfl rfl rfl ?_
  refine ⟨rfl,by decide,true,fun h=>by omega,fun _=>?_⟩
  refine ⟨fun _=>?_,fun h=>(h rfl).elim⟩
  refine ⟨rfl,by decide,false,rfl,by decide,false,rfl,by decide,true,?_⟩
  refine ⟨fun _=>?_,fun h=>(h rfl).elim⟩
  refine ⟨Nat,fun i=>⟨[(0,I 2),(6,.ow 1),(28,I (tetL false:List (List Int)).length),(29,I (i:Nat))],[.sl 29 (.sl .int) [],.sl 29 (.sl .int) (((tetL false).take i).map pactL++(tetL false).drop i)]⟩,fun i=>i<=(tetL false).length,fun i=>(tetL false).length-i,0,Nat.zero_le _,
   ⟨⟨rfl,rfl⟩,⟨rfl,rfl,rfl,rfl,trivial⟩,rfl,rfl,trivial⟩,fun i hi=>?_⟩
  dsimp only at hi
  refine ⟨fun h1=>?_,fun h1=>?_⟩
  .have hi2:i<(tetL false).length:=by omega
   obtain ⟨p1,p2⟩:=hel i hi2
   obtain ⟨l1,l2,l3⟩:=loop (tetL false) hl hel i hi2
   have hPA:=impl_PairAction true ((((tetL false).take i).map pactL++(tetL false).drop i).getD i []) (by rw [l1];exact p1) (by rw [l1];omega) (by rw [l1];omega)
   refine ⟨i,rfl,by omega,?_⟩
   refine ⟨[],true,_,_,hPA,nd0,rfl,rfl,trivial,fun _=>?_,nofun⟩
   refine ⟨i,rfl,by omega,?_⟩
   exact ⟨((i+1:Nat):Int),w64_eq (by omega) (by omega) (by omega),i+1,by dsimp only;omega,by dsimp only;omega,⟨rfl,rfl⟩,⟨rfl,rfl,rfl,rfl,trivial⟩,rfl,rowE (by rw [l1];exact l3),trivial⟩
  .obtain rfl:i=(tetL false).length:=by omega
   dsimp only
   rw [List.take_length,List.drop_length,List.append_nil]
   refine ⟨[],false,_,_,impl_SolidDegree 2,nd0,rfl,rfl,trivial,[],false,_,_,hG,nd0,rfl,rfl,trivial,fun _=>?_,nofun⟩
   exact ⟨some 2,⟨⟨rfl,rfl⟩,rfl,trivial⟩,⟨rfl,rfl⟩,rfl⟩
 .refine AC_of tauOk 75 0 [4,5] Tryz.func62 rfl (by kernel_rfl) rfl rfl rfl rfl rfl ?_
  refine ⟨rfl,by decide,true,fun h=>by omega,fun _=>?_⟩
  refine ⟨fun _=>?_,fun h=>(h rfl).elim⟩
  refine ⟨rfl,by decide,false,rfl,by decide,false,rfl,by decide,true,?_⟩
  refine ⟨rfl,by decide,false,rfl,by decide,false,rfl,Nat.zero_le _,rfl,by decide,rfl,?_⟩
  refine ⟨fun _=>?_,fun h=>(h rfl).elim⟩
  refine ⟨Nat,fun i=>⟨[(0,I 2),(6,.ow 1),(28,I (tetL true:List (List Int)).length),(29,I (i:Nat))],[.sl 29 (.sl .int) [],.sl 29 (.sl .int) (((tetL true).take i).map pactL++(tetL true).drop i)]⟩,fun i=>i<=(tetL true).length,fun i=>(tetL true).length-i,0,Nat.zero_le _,
   ⟨⟨rfl,rfl⟩,⟨rfl,rfl,rfl,rfl,trivial⟩,rfl,rfl,trivial⟩,fun i hi=>?_⟩
  dsimp only at hi
  refine ⟨fun h1=>?_,fun h1=>?_⟩
  .have hi2:i<(tetL true).length:=by omega
   obtain ⟨p1,p2⟩:=hel i hi2
   obtain ⟨l1,l2,l3⟩:=loop (tetL true) hl hel i hi2
   have hPA:=impl_PairAction true ((((tetL true).take i).map pactL++(tetL true).drop i).getD i []) (by rw [l1];exact p1) (by rw [l1];omega) (by rw [l1];omega)
   refine ⟨i,rfl,by omega,?_⟩
   refine ⟨[],true,_,_,hPA,nd0,rfl,rfl,trivial,fun _=>?_,nofun⟩
   refine ⟨i,rfl,by omega,?_⟩
   exact ⟨((i+1:Nat):Int),w64_eq (by omega) (by omega) (by omega),i+1,by dsimp only;omega,by dsimp only;omega,⟨rfl,rfl⟩,⟨rfl,rfl,rfl,rfl,trivial⟩,rfl,rowE (by rw [l1];exact l3),trivial⟩
  .obtain rfl:i=(tetL true).length:=by omega
   dsimp only
   rw [List.take_length,List.drop_length,List.append_nil]
   refine ⟨[],false,_,_,impl_SolidDegree 2,nd0,rfl,rfl,trivial,[],false,_,_,hG,nd0,rfl,rfl,trivial,fun _=>?_,nofun⟩
   exact ⟨some 2,⟨⟨rfl,rfl⟩,rfl,trivial⟩,⟨rfl,rfl⟩,rfl⟩
theorem mov_ac (F:List Nat) (ms:List (Tr->Tr)) (mir:Bool) (hF:F=if mir=true then [251,252,253] else [251,252]) (ps:List Tr) (hp:∀v∈ps,smI v.2.1/\smI v.2.2) (hl:ps.length<=100):
 F.length=(movL mir).length/\∀i,i<F.length->AC Tryz.prog 150 [.x (.xd .tr ps),.fn (F.getD i 0) []] [] [.ow 0] [.sl 3 .int (((movL mir).map (prmL ps)).getD i [])]:=by
 have hv:∀k,k<ps.length->smI (ps.getD k (0,0,0)).2.1/\smI (ps.getD k (0,0,0)).2.2:=fun k hk=>hp _ (by rw [getD_get _ _ _ hk];exact List.getElem_mem _)
 have m1:=impl_permuted ps 251 mv1 hl fun k hk=>impl_move1 _ (hv k hk).1
 have m2:=impl_permuted ps 252 mv2 hl fun k hk=>impl_move2 _
 have m3:=impl_permuted ps 253 mv3 hl fun k hk=>impl_move3 _ (hv k hk).2
 subst hF
 cases mir
 .refine ⟨rfl,fun i hi=>?_⟩
  match i,hi with
  |0,_=>exact m1
  |1,_=>exact m2
 .refine ⟨rfl,fun i hi=>?_⟩
  match i,hi with
  |0,_=>exact m1
  |1,_=>exact m2
  |2,_=>exact m3
theorem fac_sm:∀v∈facL,smI v.2.1/\smI v.2.2:=by unfold smI;decide+kernel
theorem cor_sm:∀v∈corL,smI v.2.1/\smI v.2.2:=by unfold smI;decide+kernel
theorem impl_SolidGroup_3 (mir:Bool):AC Tryz.prog 62 [I 3,.d true .bool mir] [] [.ow 0,.d true .bool true] [.sl 29 (.sw 3 true) (solL 3 mir)]:=by
 have hG:=solid_grp 3 (by decide) (by decide) mir
 have hS:solG 3 mir=(movL mir).map (prmL facL):=rfl
 rw [hS] at hG
 obtain ⟨f1,f2⟩:=mov_ac _ (movL mir) mir rfl facL fac_sm (by decide)
 cases mir
 .have e1:([251,252]:List Nat).length=2:=rfl
  have e2:(movL false).length=2:=rfl
  refine AC_of tauOk 75 0 [4,5] Tryz.func62 rfl (by kernel_rfl) rfl rfl rfl rfl rfl ?_
  refine ⟨rfl,by decide,true,fun h=>by omega,fun _=>?_⟩
  refine ⟨fun h=>by omega,fun _=>?_⟩
  refine ⟨fun _=>?_,fun h=>(h rfl).elim⟩
  refine ⟨[],false,_,_,impl_faces,nd0,rfl,rfl,trivial,?_⟩
  refine ⟨fun h=>by omega,fun _=>?_⟩
  refine ⟨[],false,_,_,impl_cubeMoves,nd0,rfl,rfl,trivial,?_⟩
  refine ⟨2,rfl,Nat.zero_le _,by decide,?_⟩
  refine ⟨Nat,fun i=>⟨[(0,I 3),(6,.ow 0),(8,.x (.xd .tr facL)),(56,.x (.xd .fn [251,252])),(57,I ([251,252]:List Nat).length),(58,I (i:Nat))],[.sl 29 (.sl .int) (((movL false).map (prmL facL)).take i)]⟩,fun i=>i<=([251,252]:List Nat).length,fun i=>([251,252]:List Nat).length-i,0,Nat.zero_le _,
   ⟨⟨rfl,rfl⟩,⟨rfl,rfl,rfl,rfl,rfl,rfl,trivial⟩,rfl,trivial⟩,fun i hi=>?_⟩
  dsimp only at hi
  refine ⟨fun h1=>?_,fun h1=>?_⟩
  .have hi2:i<([251,252]:List Nat).length:=by omega
   have hC:=f2 i hi2
   refine ⟨i,rfl,hi2,?_⟩
   refine ⟨[],true,_,_,hC,nd0,rfl,rfl,trivial,rfl,by decide,false,rfl,Nat.zero_le _,rfl,by simp only [List.length_take,List.length_map,List.length_cons,List.length_nil];omega,rfl,?_⟩
   exact ⟨((i+1:Nat):Int),w64_eq (by omega) (by omega) (by omega),i+1,by dsimp only;omega,by dsimp only;omega,⟨rfl,rfl⟩,⟨rfl,rfl,rfl,rfl,rfl,rfl,trivial⟩,rowE (L_succ ((movL false).map (prmL facL)) i [] (by rw [List.length_map];omega)).symm,trivial⟩
  .obtain rfl:i=([251,252]:List Nat).length:=by omega
   dsimp only
   rw [List.take_of_length_le (by rw [List.length_map];omega)]
   refine ⟨[],false,_,_,impl_SolidDegree 3,nd0,rfl,rfl,trivial,[],false,_,_,hG,nd0,rfl,rfl,trivial,fun _=>?_,nofun⟩
   exact ⟨some 1,⟨⟨rfl,rfl⟩,rfl,trivial⟩,⟨rfl,rfl⟩,rfl⟩
 .have e1:([251,252,253]:List Nat).length=3:=rfl
  have e2:(movL true).length=3:=rfl
  refine AC_of tauOk 75 0 [4,5] Tryz.func62 rfl (by kernel_rfl) rfl rfl rfl rfl rfl ?_
  refine ⟨rfl,by decide,true,fun h=>by omega,fun _=>?_⟩
  refine ⟨fun h=>by omega,fun _=>?_⟩
  refine ⟨fun _=>?_,fun h=>(h rfl).elim⟩
  refine ⟨[],false,_,_,impl_faces,nd0,rfl,rfl,trivial,?_⟩
  refine ⟨fun h=>by omega,fun _=>?_⟩
  refine ⟨[],false,_,_,impl_cubeMoves,nd0,rfl,rfl,trivial,?_⟩
  refine ⟨Nat,fun i=>⟨[(0,I 3),(6,.ow 0),(8,.x (.xd .tr facL)),(56,.x (.xd .fn [251,252,253])),(57,I ([251,252,253]:List Nat).length),(58,I (i:Nat))],[.sl 29 (.sl .int) (((movL true).map (prmL facL)).take i)]⟩,fun i=>i<=([251,252,253]:List Nat).length,fun i=>([251,252,253]:List Nat).length-i,0,Nat.zero_le _,
   ⟨⟨rfl,rfl⟩,⟨rfl,rfl,rfl,rfl,rfl,rfl,trivial⟩,rfl,trivial⟩,fun i hi=>?_⟩
  dsimp only at hi
  refine ⟨fun h1=>?_,fun h1=>?_⟩
  .have hi2:i<([251,252,253]:List Nat).length:=by omega
   have hC:=f2 i hi2
   refine ⟨i,rfl,hi2,?_⟩
   refine ⟨[],true,_,_,hC,nd0,rfl,rfl,trivial,rfl,by decide,false,rfl,Nat.zero_le _,rfl,by simp only [List.length_take,List.length_map,List.length_cons,List.length_nil];omega,rfl,?_⟩
   exact ⟨((i+1:Nat):Int),w64_eq (by omega) (by omega) (by omega),i+1,by dsimp only;omega,by dsimp only;omega,⟨rfl,rfl⟩,⟨rfl,rfl,rfl,rfl,rfl,rfl,trivial⟩,rowE (L_succ ((movL true).map (prmL facL)) i [] (by rw [List.length_map];omega)).symm,trivial⟩
  .obtain rfl:i=([251,252,253]:List Nat).length:=by omega
   dsimp only
   rw [List.take_of_length_le (by rw [List.length_map];omega)]
   refine ⟨[],false,_,_,impl_SolidDegree 3,nd0,rfl,rfl,trivial,[],false,_,_,hG,nd0,rfl,rfl,trivial,fun _=>?_,nofun⟩
   exact ⟨some 1,⟨⟨rfl,rfl⟩,rfl,trivial⟩,⟨rfl,rfl⟩,rfl⟩
theorem impl_SolidGroup_4 (mir:Bool):AC Tryz.prog 62 [I 4,.d true .bool mir] [] [.ow 0,.d true .bool true] [.sl 29 (.sw 3 true) (solL 4 mir)]:=by
 have hG:=solid_grp 4 (by decide) (by decide) mir
 have hS:solG 4 mir=(movL mir).map (prmL corL):=rfl
 rw [hS] at hG
 obtain ⟨f1,f2⟩:=mov_ac _ (movL mir) mir rfl corL cor_sm (by decide)
 cases mir
 .have e1:([251,252]:List Nat).length=2:=rfl
  have e2:(movL false).length=2:=rfl
  refine AC_of tauOk 75 0 [4,5] Tryz.func62 rfl (by kernel_rfl) rfl rfl rfl rfl rfl ?_
  refine ⟨rfl,by decide,true,fun h=>by omega,fun _=>?_⟩
  refine ⟨fun h=>by omega,fun _=>?_⟩
  refine ⟨fun h=>by omega,fun _=>?_⟩
  refine ⟨fun _=>?_,fun h=>(h rfl).elim⟩
  refine ⟨[],false,_,_,impl_faces,nd0,rfl,rfl,trivial,?_⟩
  refine ⟨fun _=>?_,fun h=>(h rfl).elim⟩
  refine ⟨[],false,_,_,impl_corners,nd0,rfl,rfl,trivial,?_⟩
  refine ⟨[],false,_,_,impl_cubeMoves,nd0,rfl,rfl,trivial,?_⟩
  refine ⟨2,rfl,Nat.zero_le _,by decide,?_⟩
  refine ⟨Nat,fun i=>⟨[(0,I 4),(6,.ow 0),(8,.x (.xd .tr corL)),(56,.x (.xd .fn [251,252])),(57,I ([251,252]:List Nat).length),(58,I (i:Nat))],[.sl 29 (.sl .int) (((movL false).map (prmL corL)).take i)]⟩,fun i=>i<=([251,252]:List Nat).length,fun i=>([251,252]:List Nat).length-i,0,Nat.zero_le _,
   ⟨⟨rfl,rfl⟩,⟨rfl,rfl,rfl,rfl,rfl,rfl,trivial⟩,rfl,trivial⟩,fun i hi=>?_⟩
  dsimp only at hi
  refine ⟨fun h1=>?_,fun h1=>?_⟩
  .have hi2:i<([251,252]:List Nat).length:=by omega
   have hC:=f2 i hi2
   refine ⟨i,rfl,hi2,?_⟩
   refine ⟨[],true,_,_,hC,nd0,rfl,rfl,trivial,rfl,by decide,false,rfl,Nat.zero_le _,rfl,by simp only [List.length_take,List.length_map,List.length_cons,List.length_nil];omega,rfl,?_⟩
   exact ⟨((i+1:Nat):Int),w64_eq (by omega) (by omega) (by omega),i+1,by dsimp only;omega,by dsimp only;omega,⟨rfl,rfl⟩,⟨rfl,rfl,rfl,rfl,rfl,rfl,trivial⟩,rowE (L_succ ((movL false).map (prmL corL)) i [] (by rw [List.length_map];omega)).symm,trivial⟩
  .obtain rfl:i=([251,252]:List Nat).length:=by omega
   dsimp only
   rw [List.take_of_length_le (by rw [List.length_map];omega)]
   refine ⟨[],false,_,_,impl_SolidDegree 4,nd0,rfl,rfl,trivial,[],false,_,_,hG,nd0,rfl,rfl,trivial,fun _=>?_,nofun⟩
   exact ⟨some 1,⟨⟨rfl,rfl⟩,rfl,trivial⟩,⟨rfl,rfl⟩,rfl⟩
 .have e1:([251,252,253]:List Nat).length=3:=rfl
  have e2:(movL true).length=3:=rfl
  refine AC_of tauOk 75 0 [4,5] Tryz.func62 rfl (by kernel_rfl) rfl rfl rfl rfl rfl ?_
  refine ⟨rfl,by decide,true,fun h=>by omega,fun _=>?_⟩
  refine ⟨fun h=>by omega,fun _=>?_⟩
  refine ⟨fun h=>by omega,fun _=>?_⟩
  refine ⟨fun _=>?_,fun h=>(h rfl).elim⟩
  refine ⟨[],false,_,_,impl_faces,nd0,rfl,rfl,trivial,?_⟩
  refine ⟨fun _=>?_,fun h=>(h rfl).elim⟩
  refine ⟨[],false,_,_,impl_corners,nd0,rfl,rfl,trivial,?_⟩
  refine ⟨[],false,_,_,impl_cubeMoves,nd0,rfl,rfl,trivial,?_⟩
  refine ⟨Nat,fun i=>⟨[(0,I 4),(6,.ow 0),(8,.x (.xd .tr corL)),(56,.x (.xd .fn [251,252,253])),(57,I ([251,252,253]:List Nat).length),(58,I (i:Nat))],[.sl 29 (.sl .int) (((movL true).map (prmL corL)).take i)]⟩,fun i=>i<=([251,252,253]:List Nat).length,fun i=>([251,252,253]:List Nat).length-i,0,Nat.zero_le _,
   ⟨⟨rfl,rfl⟩,⟨rfl,rfl,rfl,rfl,rfl,rfl,trivial⟩,rfl,trivial⟩,fun i hi=>?_⟩
  dsimp only at hi
  refine ⟨fun h1=>?_,fun h1=>?_⟩
  .have hi2:i<([251,252,253]:List Nat).length:=by omega
   have hC:=f2 i hi2
   refine ⟨i,rfl,hi2,?_⟩
   refine ⟨[],true,_,_,hC,nd0,rfl,rfl,trivial,rfl,by decide,false,rfl,Nat.zero_le _,rfl,by simp only [List.length_take,List.length_map,List.length_cons,List.length_nil];omega,rfl,?_⟩
   exact ⟨((i+1:Nat):Int),w64_eq (by omega) (by omega) (by omega),i+1,by dsimp only;omega,by dsimp only;omega,⟨rfl,rfl⟩,⟨rfl,rfl,rfl,rfl,rfl,rfl,trivial⟩,rowE (L_succ ((movL true).map (prmL corL)) i [] (by rw [List.length_map];omega)).symm,trivial⟩
  .obtain rfl:i=([251,252,253]:List Nat).length:=by omega
   dsimp only
   rw [List.take_of_length_le (by rw [List.length_map];omega)]
   refine ⟨[],false,_,_,impl_SolidDegree 4,nd0,rfl,rfl,trivial,[],false,_,_,hG,nd0,rfl,rfl,trivial,fun _=>?_,nofun⟩
   exact ⟨some 1,⟨⟨rfl,rfl⟩,rfl,trivial⟩,⟨rfl,rfl⟩,rfl⟩
theorem impl_SolidGroup_no (k:Int) (mir:Bool) (h:¬(1<=k/\k<=4)):AC Tryz.prog 62 [I k,.d true .bool mir] [] [.nil,.d true .bool false] []:=by
 refine AC_of tauOk 75 0 [4,5] Tryz.func62 rfl (by kernel_rfl) rfl rfl rfl rfl rfl ?_
 refine ⟨rfl,by decide,true,fun h=>by omega,fun _=>?_⟩
 refine ⟨fun h=>by omega,fun _=>?_⟩
 refine ⟨fun h=>by omega,fun _=>?_⟩
 refine ⟨fun h=>by omega,fun _=>?_⟩
 exact ⟨none,⟨rfl,rfl,trivial⟩,rfl,rfl⟩
theorem impl_SolidGroup_yes (k:Nat) (h1:1<=k) (h4:k<5) (mir:Bool):AC Tryz.prog 62 [I (k:Nat),.d true .bool mir] [] [.ow 0,.d true .bool true] [.sl 29 (.sw 3 true) (solL k mir)]:=
 match k,h1,h4 with
 |1,_,_=>impl_SolidGroup_1 mir
 |2,_,_=>impl_SolidGroup_2 mir
 |3,_,_=>impl_SolidGroup_3 mir
 |4,_,_=>impl_SolidGroup_4 mir
def prpB (t:List UInt8):Bool:=(wrdG (byB [44]) t).all prsB && permB ((wrdG (byB [44]) t).map prsV)
def prpL (t:List UInt8):List Int:=(wrdG (byB [44]) t).map prsV
theorem spG_el (p:UInt8->Bool) (t:List UInt8):∀k,∀x∈(spG p t k).1,x.length<=t.length
 |0,x,hx=>by simp [spG] at hx
 |k+1,x,hx=>by
  rw [spG] at hx
  split at hx
  .rcases List.mem_append.1 hx with hx|hx
   .exact spG_el p t k x hx
   .rw [List.mem_singleton.1 hx];simp;omega
  .exact spG_el p t k x hx
theorem wrdG_el (p:UInt8->Bool) (t:List UInt8):∀x∈wrdG p t,x.length<=t.length:=fun x hx=>by
 rw [wrdG] at hx
 rcases List.mem_append.1 hx with hx|hx
 .exact spG_el p t _ x hx
 .rw [List.mem_singleton.1 hx];simp
theorem impl_ParsePerm_both (t:List UInt8) (ht:t.length<=1048575) (r:List AV) (rr:List Row)
 (hno:prpB t=false->r=[.nil,.d true .bool false]/\rr=[]) (hyes:prpB t=true->r=[.ow 0,.d true .bool true]/\rr=[.sl 3 .int (prpL t)]):AC Tryz.prog 59 [.d true .str t] [] r rr:=by
 have hS:=impl_SplitBy t [44] (by omega)
 have hel:=wrdG_el (byB [44]) t
 have hwl:=(wrdG_pos (byB [44]) t).2
 unfold prpB at hno hyes
 unfold prpL at hyes
 generalize wrdG (byB [44]) t=ws at*
 have hw:∀i,i<ws.length->(ws.getD i []).length<=1048576:=fun i hi=>by
  have:=hel (ws.getD i []) (by rw [getD_get _ _ _ hi];exact List.getElem_mem _)
  omega
 refine AC_of tauOk 33 0 [2,3] Tryz.func59 rfl (by kernel_rfl) rfl rfl rfl rfl rfl ?_
 refine ⟨rfl,by decide,true,?_⟩
 refine ⟨[],true,_,_,hS,nd0,rfl,rfl,trivial,?_⟩
 refine ⟨Nat,fun k=>⟨[(4,.ow 0),(11,.d true (.sl .str) ws),(12,I ws.length),(13,I (k:Nat))],[.sl 3 .int ((ws.take k).map prsV)]⟩,fun k=>k<=ws.length/\(ws.take k).all prsB=true,fun k=>ws.length-k,0,⟨Nat.zero_le _,rfl⟩,
  ⟨⟨rfl,rfl⟩,⟨rfl,rfl,rfl,rfl,trivial⟩,rfl,trivial⟩,?_⟩
 rintro k ⟨hk,hall⟩
 refine ⟨fun h1=>?_,fun h1=>?_⟩
 .have hk2:k<ws.length:=by omega
  have hs:=L_succ ws k [] hk2
  have htl:(ws.take k).length=k:=by rw [List.length_take];omega
  have hI:=impl_ParseInt (ws.getD k []) (hw k hk2)
  refine ⟨k,rfl,hk2,?_⟩
  cases hp:prsB (ws.getD k [])
  .rw [prsR_no hp] at hI
   refine ⟨[],false,_,_,hI,nd0,rfl,rfl,trivial,nofun,fun _=>?_⟩
   obtain ⟨rfl,rfl⟩:=hno (by
    have:ws.all prsB=false:=by
     rw [Bool.eq_false_iff]
     intro h
     rw [List.all_eq_true] at h
     have:=h (ws.getD k []) (by rw [getD_get _ _ _ hk2];exact List.getElem_mem _)
     rw [hp] at this;cases this
    rw [this];rfl)
   exact ⟨none,⟨rfl,rfl,trivial⟩,rfl,rfl⟩
  .rw [prsR_yes hp] at hI
   refine ⟨[],false,_,_,hI,nd0,rfl,rfl,trivial,fun _=>?_,nofun⟩
   refine ⟨rfl,by decide,false,?_⟩
   refine ⟨rfl,Nat.zero_le _,rfl,by simp only [List.length_cons,List.length_nil,List.length_map];omega,rfl,?_⟩
   exact ⟨((k+1:Nat):Int),w64_eq (by omega) (by omega) (by omega),k+1,⟨by omega,by rw [hs,List.all_append,hall,List.all_cons,hp];rfl⟩,by dsimp only;omega,⟨rfl,rfl⟩,⟨rfl,rfl,rfl,rfl,trivial⟩,rowE (by rw [hs,List.map_append];rfl),trivial⟩
 .obtain rfl:k=ws.length:=by omega
  rw [List.take_length] at hall
  dsimp only
  rw [List.take_length]
  rw [hall,Bool.true_and] at hno hyes
  refine ⟨[],false,_,_,impl_PermOk false (ws.map prsV) (by rw [List.length_map];omega),nd0,rfl,rfl,trivial,fun h2=>?_,fun h2=>?_⟩
  .obtain ⟨rfl,rfl⟩:=hyes h2
   exact ⟨some 0,⟨⟨rfl,rfl⟩,rfl,trivial⟩,⟨rfl,rfl⟩,rfl⟩
  .obtain ⟨rfl,rfl⟩:=hno h2
   exact ⟨none,⟨rfl,rfl,trivial⟩,rfl,rfl⟩
def cycO (n:Int):Option (List (List Int)):=if 1<=n/\n<=10 then some (gG n.toNat [turnL n.toNat]) else none
def dihO (n:Int):Option (List (List Int)):=if 1<=n/\n<=10 then some (gG n.toNat [turnL n.toNat,(idL n.toNat).reverse]) else none
def symO (n:Int):Option (List (List Int)):=if 1<=n/\n<=5 then some (gG n.toNat [turnL n.toNat,swapL n.toNat]) else none
def solO (k:Int) (mir:Bool):Option (List (List Int)):=if 1<=k/\k<=4 then some (solL k.toNat mir) else none
def genO (p q:List Int):Option (List (List Int)):=if p.length=q.length then grpO p.length [p,q] else none
def ngO (w:List UInt8) (args:List (List UInt8)):Option (Option (List (List Int))):=
 if w=[103,101,110,101,114,97,116,101]/\(args.length:Int)=2 then
  (if prpB (args.getD 0 [])=true/\prpB (args.getD 1 [])=true then some (genO (prpL (args.getD 0 [])) (prpL (args.getD 1 []))) else none)
 else if args.all prsB=true then
  (if w=[99,121,99,108,105,99]/\(args.length:Int)=1 then some (cycO (prsV (args.getD 0 [])))
  else if w=[100,105,104,101,100,114,97,108]/\(args.length:Int)=1 then some (dihO (prsV (args.getD 0 [])))
  else if w=[115,121,109,109,101,116,114,105,99]/\(args.length:Int)=1 then some (symO (prsV (args.getD 0 [])))
  else if w=[115,111,108,105,100]/\(args.length:Int)=2 then some (solO (prsV (args.getD 0 [])) (decide (prsV (args.getD 1 [])≠0)))
  else none)
 else none
theorem map_get (f:List UInt8->Int) (l:List (List UInt8)) (j:Nat) (h:j<l.length):(l.map f).getD j 0=f (l.getD j []):=by
 rw [getD_get _ _ _ (by simpa using h),getD_get _ _ _ h,List.getElem_map]
theorem prp_perm {t:List UInt8} (h:prpB t=true):permB (prpL t)=true:=by
 unfold prpB at h
 rw [Bool.and_eq_true] at h
 exact h.2
def ngR (o:Option (List (List Int))):List AV:=match o with|none=>[.nil,.d true .bool false]|some _=>[.ow 0,.d true .bool true]
def ngW (o:Option (List (List Int))):List Row:=match o with|none=>[]|some G=>[.sl 29 (.sw 3 true) G]
theorem CyclicGroup_o (n:Int):AC Tryz.prog 27 [I n] [] (ngR (cycO n)) (ngW (cycO n)):=by
 unfold cycO
 split
 .rename_i h
  have:=impl_CyclicGroup_s n.toNat (by omega) (by omega)
  rwa [show ((n.toNat:Nat):Int)=n by omega] at this
 .rename_i h
  exact impl_CyclicGroup_no n h
theorem DihedralGroup_o (n:Int):AC Tryz.prog 60 [I n] [] (ngR (dihO n)) (ngW (dihO n)):=by
 unfold dihO
 split
 .rename_i h
  have:=impl_DihedralGroup_s n.toNat (by omega) (by omega)
  rwa [show ((n.toNat:Nat):Int)=n by omega] at this
 .rename_i h
  exact impl_DihedralGroup_no n h
theorem SymmetricGroup_o (n:Int):AC Tryz.prog 61 [I n] [] (ngR (symO n)) (ngW (symO n)):=by
 unfold symO
 split
 .rename_i h
  have:=impl_SymmetricGroup_s n.toNat (by omega) (by omega)
  rwa [show ((n.toNat:Nat):Int)=n by omega] at this
 .rename_i h
  exact impl_SymmetricGroup_no n h
theorem SolidGroup_o (n:Int) (mir:Bool):AC Tryz.prog 62 [I n,.d true .bool mir] [] (ngR (solO n mir)) (ngW (solO n mir)):=by
 unfold solO
 split
 .rename_i h
  have:=impl_SolidGroup_yes n.toNat (by omega) (by omega) mir
  rwa [show ((n.toNat:Nat):Int)=n by omega] at this
 .rename_i h
  exact impl_SolidGroup_no n mir h
theorem GroupOf_o (p q:List Int) (hp:permB p=true) (hq:permB q=true):AC Tryz.prog 55 [I (p.length:Nat),.d true (.sl (.sl .int)) [p,q]] [] (ngR (genO p q)) (ngW (genO p q)):=by
 have h1:=((permB_iff p).1 hp).1
 have h2:=((permB_iff q).1 hq).1
 unfold genO
 split
 .rename_i h
  have hg:GenP p.length [p,q]:=gens2 ⟨hp,rfl⟩ ⟨hq,h.symm⟩
  cases hG:grpO p.length [p,q] with
  |none=>exact impl_GroupOf_none true p.length [p,q] (by omega) (by omega) hg hG
  |some G=>exact impl_GroupOf_some true p.length [p,q] G (by omega) (by omega) hg hG
 .rename_i h
  refine impl_GroupOf_g true p.length (by omega) (by omega) [p,q] (show 2<=1048576 by decide) (fun i hi=>?_) ?_
  .match i,hi with
   |0,_=>show p.length<=1048576;omega
   |1,_=>show q.length<=1048576;omega
  .unfold genB
   rw [List.all_cons,List.all_cons,decide_eq_false (show ¬q.length=p.length from fun e=>h e.symm)]
   simp
theorem impl_newGroup (s2:Bool) (w:List UInt8) (args:List (List UInt8)) (hl:args.length<=1048576) (hw:∀i,i<args.length->(args.getD i []).length<=1048575) (r:List AV) (rr:List Row)
 (h0:ngO w args=none->r=[.nil,.d true .bool false,.d true .bool false]/\rr=[]) (h1:ngO w args=some none->r=[.nil,.d true .bool true,.d true .bool false]/\rr=[])
 (h2:∀G,ngO w args=some (some G)->r=[.ow 0,.d true .bool true,.d true .bool true]/\rr=[.sl 29 (.sw 3 true) G]):
 AC Tryz.prog 30 [.arr .mix [.str w,.int (args.length:Nat)],.d s2 (.sl .str) args] [] r rr:=by
 have q0:0<2:=by decide
 have q1:2<=1000:=by decide
 have q2:1<2:=by decide
 unfold ngO at h0 h1 h2
 have hw2:∀i,i<args.length->(args.getD i []).length<=1048576:=fun i hi=>by have:=hw i hi;omega
 have hml:(args.map prsV).length=args.length:=List.length_map ..
 refine AC_of tauOk 120 0 [4,5,6] Tryz.func30 rfl (by kernel_rfl) rfl rfl rfl rfl rfl ?_
 refine ⟨q0,q1,q0,q0,fun g1=>⟨q2,q2,fun g2=>?_,fun g2=>?_⟩,fun g1=>?_⟩
 .rw [if_pos (show w=_/\_ from ⟨g1,g2⟩)] at h0 h1 h2
  have i0:0<args.length:=by omega
  have i1:1<args.length:=by omega
  have P0:=impl_ParsePerm_both (args.getD 0 []) (hw 0 i0)
  have P1:=impl_ParsePerm_both (args.getD 1 []) (hw 1 i1)
  refine ⟨0,rfl,i0,?_⟩
  cases hp:prpB (args.getD 0 [])
  .obtain ⟨rfl,rfl⟩:=h0 (if_neg (by rw [hp];simp))
   refine ⟨[],false,_,_,P0 _ _ (fun _=>⟨rfl,rfl⟩) (fun h=>by rw [hp] at h;cases h),nd0,rfl,rfl,trivial,nofun,fun _=>?_⟩
   refine ⟨1,rfl,i1,?_⟩
   cases hq:prpB (args.getD 1 [])
   .refine ⟨[],false,_,_,P1 _ _ (fun _=>⟨rfl,rfl⟩) (fun h=>by rw [hq] at h;cases h),nd0,rfl,rfl,trivial,nofun,fun _=>?_⟩
    refine ⟨rfl,by decide,false,[],false,_,_,impl_GroupOf_n true 0 [[],[]] (by omega),nd0,rfl,rfl,trivial,nofun,fun _=>?_⟩
    exact ⟨none,⟨rfl,rfl,rfl,trivial⟩,rfl,rfl⟩
   .refine ⟨[],true,_,_,P1 _ _ (fun h=>by rw [hq] at h;cases h) (fun _=>⟨rfl,rfl⟩),nd0,rfl,rfl,trivial,fun _=>?_,nofun⟩
    refine ⟨rfl,by decide,false,[],false,_,_,impl_GroupOf_n true 0 [[],prpL (args.getD 1 [])] (by omega),nd0,rfl,rfl,trivial,nofun,fun _=>?_⟩
    exact ⟨none,⟨rfl,rfl,rfl,trivial⟩,rfl,rfl⟩
  .have hpp:=prp_perm hp
   have hpl:=((permB_iff _).1 hpp).1
   refine ⟨[],true,_,_,P0 _ _ (fun h=>by rw [hp] at h;cases h) (fun _=>⟨rfl,rfl⟩),nd0,rfl,rfl,trivial,fun _=>?_,nofun⟩
   refine ⟨1,rfl,i1,?_⟩
   cases hq:prpB (args.getD 1 [])
   .obtain ⟨rfl,rfl⟩:=h0 (if_neg (by rw [hq];simp))
    refine ⟨[],false,_,_,P1 _ _ (fun _=>⟨rfl,rfl⟩) (fun h=>by rw [hq] at h;cases h),nd0,rfl,rfl,trivial,nofun,fun _=>?_⟩
    have hG:=impl_GroupOf_g true (prpL (args.getD 0 [])).length (by omega) (by omega) [prpL (args.getD 0 []),[]] (show 2<=1048576 by decide) (fun i hi=>by
     match i,hi with
     |0,_=>show (prpL (args.getD 0 [])).length<=1048576;omega
     |1,_=>show 0<=1048576;omega) (by unfold genB;rw [List.all_cons,List.all_cons];simp [permB])
    refine ⟨rfl,by decide,false,[],false,_,_,hG,nd0,rfl,rfl,trivial,nofun,fun _=>?_⟩
    exact ⟨none,⟨rfl,rfl,rfl,trivial⟩,rfl,rfl⟩
   .have hqp:=prp_perm hq
    rw [if_pos ⟨hp,hq⟩] at h0 h1 h2
    refine ⟨[],true,_,_,P1 _ _ (fun h=>by rw [hq] at h;cases h) (fun _=>⟨rfl,rfl⟩),nd0,rfl,rfl,trivial,fun _=>?_,nofun⟩
    have hG:=GroupOf_o (prpL (args.getD 0 [])) (prpL (args.getD 1 [])) hpp hqp
    cases hO:genO (prpL (args.getD 0 [])) (prpL (args.getD 1 [])) with
    |none=>
     rw [hO] at hG
     obtain ⟨rfl,rfl⟩:=h1 (by rw [hO])
     refine ⟨rfl,by decide,false,[],false,_,_,hG,nd0,rfl,rfl,trivial,nofun,fun _=>?_⟩
     exact ⟨none,⟨rfl,rfl,rfl,trivial⟩,rfl,rfl⟩
    |some G=>
     rw [hO] at hG
     obtain ⟨rfl,rfl⟩:=h2 G (by rw [hO])
     refine ⟨rfl,by decide,false,[],false,_,_,hG,nd0,rfl,rfl,trivial,fun _=>?_,nofun⟩
     exact ⟨some 1,⟨⟨rfl,rfl⟩,rfl,rfl,trivial⟩,⟨rfl,rfl⟩,rfl⟩
 all_goals
  rw [if_neg (fun e=>by first|exact g1 e.1|exact g2 e.2)] at h0 h1 h2
  have hI:=impl_ints_both s2 args hl hw2
  cases hA:args.all prsB
  .obtain ⟨rfl,rfl⟩:=h0 (if_neg (by rw [hA];simp))
   refine ⟨[],false,_,_,hI _ _ (fun _=>⟨rfl,rfl⟩) (fun h=>by rw [hA] at h;cases h),nd0,rfl,rfl,trivial,nofun,fun _=>?_⟩
   exact ⟨none,⟨rfl,rfl,rfl,trivial⟩,rfl,rfl⟩
  rw [if_pos hA] at h0 h1 h2
  refine ⟨[],true,_,_,hI _ _ (fun h=>by rw [hA] at h;cases h) (fun _=>⟨rfl,rfl⟩),nd0,rfl,rfl,trivial,fun _=>?_,nofun⟩
  have e0:∀j,j<args.length->prsV (args.getD j [])=(args.map prsV).getD j 0:=fun j hj=>(map_get prsV args j hj).symm
  refine ⟨rfl,fun g3=>?_,fun g3=>?_⟩
  .rw [if_pos g3,e0 0 (by omega)] at h0 h1 h2
   have hG:=CyclicGroup_o ((args.map prsV).getD 0 0)
   refine ⟨0,rfl,by omega,?_⟩
   cases hO:cycO ((args.map prsV).getD 0 0) with
   |none=>
    rw [hO] at hG
    obtain ⟨rfl,rfl⟩:=h1 (by rw [hO])
    refine ⟨[],false,_,_,hG,nd0,rfl,rfl,trivial,nofun,fun _=>?_⟩
    exact ⟨none,⟨rfl,rfl,rfl,trivial⟩,rfl,rfl⟩
   |some G=>
    rw [hO] at hG
    obtain ⟨rfl,rfl⟩:=h2 G (by rw [hO])
    refine ⟨[],false,_,_,hG,nd0,rfl,rfl,trivial,fun _=>?_,nofun⟩
    exact ⟨some 1,⟨⟨rfl,rfl⟩,rfl,rfl,trivial⟩,⟨rfl,rfl⟩,rfl⟩
  rw [if_neg g3] at h0 h1 h2
  clear g3
  refine ⟨fun g3=>?_,fun g3=>?_⟩
  .rw [if_pos g3,e0 0 (by omega)] at h0 h1 h2
   have hG:=DihedralGroup_o ((args.map prsV).getD 0 0)
   refine ⟨0,rfl,by omega,?_⟩
   cases hO:dihO ((args.map prsV).getD 0 0) with
   |none=>
    rw [hO] at hG
    obtain ⟨rfl,rfl⟩:=h1 (by rw [hO])
    refine ⟨[],false,_,_,hG,nd0,rfl,rfl,trivial,nofun,fun _=>?_⟩
    exact ⟨none,⟨rfl,rfl,rfl,trivial⟩,rfl,rfl⟩
   |some G=>
    rw [hO] at hG
    obtain ⟨rfl,rfl⟩:=h2 G (by rw [hO])
    refine ⟨[],false,_,_,hG,nd0,rfl,rfl,trivial,fun _=>?_,nofun⟩
    exact ⟨some 1,⟨⟨rfl,rfl⟩,rfl,rfl,trivial⟩,⟨rfl,rfl⟩,rfl⟩
  rw [if_neg g3] at h0 h1 h2
  clear g3
  refine ⟨fun g3=>?_,fun g3=>?_⟩
  .rw [if_pos g3,e0 0 (by omega)] at h0 h1 h2
   have hG:=SymmetricGroup_o ((args.map prsV).getD 0 0)
   refine ⟨0,rfl,by omega,?_⟩
   cases hO:symO ((args.map prsV).getD 0 0) with
   |none=>
    rw [hO] at hG
    obtain ⟨rfl,rfl⟩:=h1 (by rw [hO])
    refine ⟨[],false,_,_,hG,nd0,rfl,rfl,trivial,nofun,fun _=>?_⟩
    exact ⟨none,⟨rfl,rfl,rfl,trivial⟩,rfl,rfl⟩
   |some G=>
    rw [hO] at hG
    obtain ⟨rfl,rfl⟩:=h2 G (by rw [hO])
    refine ⟨[],false,_,_,hG,nd0,rfl,rfl,trivial,fun _=>?_,nofun⟩
    exact ⟨some 1,⟨⟨rfl,rfl⟩,rfl,rfl,trivial⟩,⟨rfl,rfl⟩,rfl⟩
  rw [if_neg g3] at h0 h1 h2
  clear g3
  refine ⟨fun g3=>?_,fun g3=>?_⟩
  .rw [if_pos g3,e0 0 (by omega),e0 1 (by omega)] at h0 h1 h2
   refine ⟨some 4000,[0,1,2,3,4,5],.one 6 (.one 7 (.one 8 (.two 9 (.two 10 (.one 11 (.one 12 .done)) 11 (.one 10 (.one 12 .done))) 10 (.one 9 (.one 11 (.one 12 .done)))))),by kernel_rfl,rfl,?_⟩
   refine ⟨0,rfl,by omega,1,rfl,by omega,fun g4=>?_,fun g4=>?_⟩
   .have hG:=SolidGroup_o ((args.map prsV).getD 0 0) true
    have hd:decide ((args.map prsV).getD 1 0≠0)=true:=decide_eq_true g4
    rw [hd] at h0 h1 h2
    cases hO:solO ((args.map prsV).getD 0 0) true with
    |none=>
     rw [hO] at hG
     obtain ⟨rfl,rfl⟩:=h1 (by rw [hO])
     refine ⟨[],false,_,_,hG,nd0,rfl,rfl,trivial,⟨⟨nofun,fun _=>?_⟩,⟨nofun,fun _=>?_⟩⟩,⟨nofun,fun _=>?_⟩⟩<;>
     exact ⟨none,⟨rfl,rfl,rfl,trivial⟩,rfl,rfl⟩
    |some G=>
     rw [hO] at hG
     obtain ⟨rfl,rfl⟩:=h2 G (by rw [hO])
     refine ⟨[],false,_,_,hG,nd0,rfl,rfl,trivial,⟨⟨fun _=>?_,nofun⟩,⟨fun _=>?_,nofun⟩⟩,⟨fun _=>?_,nofun⟩⟩<;>
     exact ⟨some 1,⟨⟨rfl,rfl⟩,rfl,rfl,trivial⟩,⟨rfl,rfl⟩,rfl⟩
   .have hG:=SolidGroup_o ((args.map prsV).getD 0 0) false
    have hd:decide ((args.map prsV).getD 1 0≠0)=false:=decide_eq_false g4
    rw [hd] at h0 h1 h2
    cases hO:solO ((args.map prsV).getD 0 0) false with
    |none=>
     rw [hO] at hG
     obtain ⟨rfl,rfl⟩:=h1 (by rw [hO])
     refine ⟨[],false,_,_,hG,nd0,rfl,rfl,trivial,⟨⟨nofun,fun _=>?_⟩,⟨nofun,fun _=>?_⟩⟩,⟨nofun,fun _=>?_⟩⟩<;>
     exact ⟨none,⟨rfl,rfl,rfl,trivial⟩,rfl,rfl⟩
    |some G=>
     rw [hO] at hG
     obtain ⟨rfl,rfl⟩:=h2 G (by rw [hO])
     refine ⟨[],false,_,_,hG,nd0,rfl,rfl,trivial,⟨⟨fun _=>?_,nofun⟩,⟨fun _=>?_,nofun⟩⟩,⟨fun _=>?_,nofun⟩⟩<;>
     exact ⟨some 1,⟨⟨rfl,rfl⟩,rfl,rfl,trivial⟩,⟨rfl,rfl⟩,rfl⟩
  rw [if_neg g3] at h0 h1 h2
  obtain ⟨rfl,rfl⟩:=h0 rfl
  exact ⟨none,⟨rfl,rfl,rfl,trivial⟩,rfl,rfl⟩
theorem idx_some {c:UInt8} {p:UInt8->Bool} (hp:∀b,p b=(b==c)):∀{s:List UInt8},0<s.count c->∃m:Nat,Lib.indexByte s c=(m:Int)/\m<s.length/\(s.drop (m+1)).count c+1=s.count c/\splR p s=s.take m::splR p (s.drop (m+1))
 |[],h=>by simp at h
 |b::s,h=>by
  cases hb:(b==c) with
  |true=>
   refine ⟨0,by rw [Lib.indexByte,hb];rfl,by simp,?_,?_⟩
   .rw [List.count_cons,if_pos hb];rfl
   .rw [splR,if_pos (by rw [hp];exact hb)];rfl
  |false=>
   have hc:(b::s).count c=s.count c:=by rw [List.count_cons,if_neg (by rw [hb];decide)];rfl
   rw [hc] at h
   obtain ⟨m,h1,h2,h3,h4⟩:=idx_some hp h
   refine ⟨m+1,?_,by simp;omega,by rw [hc];exact h3,?_⟩
   .rw [Lib.indexByte,hb,h1,if_neg (by decide),if_neg (by
     intro e
     have:((m:Int))= -1:=beq_iff_eq.1 e
     omega)]
    omega
   .rw [splR_no p b s (by rw [hp];exact hb),h4];rfl
theorem splR_none {c:UInt8} {p:UInt8->Bool} (hp:∀b,p b=(b==c)):∀{s:List UInt8},s.count c=0->splR p s=[s]
 |[],_=>rfl
 |b::s,h=>by
  have hb:(b==c)=false:=by
   rw [Bool.eq_false_iff]
   intro e
   rw [List.count_cons,if_pos e] at h
   omega
  have h2:s.count c=0:=by rw [List.count_cons,if_neg (by rw [hb];decide)] at h;omega
  rw [splR_no p b s (by rw [hp];exact hb),splR_none hp h2];rfl
def rstL (c:UInt8) (s:List UInt8):Nat->List UInt8
 |0=>s
 |i+1=>(rstL c s i).drop ((Lib.indexByte (rstL c s i) c).toNat+1)
theorem take_mid {α:Type} {W A R:List α} {x:α} {i:Nat} (hA:A.length=i) (h:A++x::R=W):W.take (i+1)=A++[x]:=by
 rw [<-h,List.take_append,List.take_of_length_le (by omega),hA,show i+1-i=1 by omega];rfl
theorem rst_spl {c:UInt8} {p:UInt8->Bool} (hp:∀b,p b=(b==c)) (s:List UInt8):∀i,i<=s.count c->(rstL c s i).count c=s.count c-i/\(rstL c s i).length<=s.length/\(splR p s).take i++splR p (rstL c s i)=splR p s/\((splR p s).take i).length=i
 |0,_=>⟨rfl,Nat.le_refl _,rfl,rfl⟩
 |i+1,hi=>by
  obtain ⟨h1,h2,h3,h4⟩:=rst_spl hp s i (by omega)
  obtain ⟨m,g1,g2,g3,g4⟩:=idx_some hp (s:=rstL c s i) (by omega)
  have e:rstL c s (i+1)=(rstL c s i).drop (m+1):=by rw [rstL,g1,Int.toNat_natCast]
  have h5:(splR p s).take (i+1)=(splR p s).take i++[(rstL c s i).take m]:=take_mid h4 (by rw [<-g4];exact h3)
  rw [e]
  refine ⟨by omega,by rw [List.length_drop];omega,?_,by rw [h5,List.length_append,h4];rfl⟩
  rw [h5,List.append_assoc]
  show (splR p s).take i++((rstL c s i).take m::splR p ((rstL c s i).drop (m+1)))=_
  rw [<-g4,h3]
theorem spl_cnt {c:UInt8} {p:UInt8->Bool} (hp:∀b,p b=(b==c)) (s:List UInt8):splR p s=(splR p s).take (s.count c)++[rstL c s (s.count c)]/\(splR p s).length=s.count c+1:=by
 obtain ⟨h1,h2,h3,h4⟩:=rst_spl hp s (s.count c) (Nat.le_refl _)
 rw [splR_none hp (s:=rstL c s (s.count c)) (by omega)] at h3
 refine ⟨h3.symm,?_⟩
 have:=congrArg List.length h3
 rw [List.length_append,h4] at this
 exact this.symm
theorem byB_one (c:UInt8) (b:UInt8):byB [c] b=(b==c):=by
 unfold byB
 show decide (0<=if (c==b)=true then (0:Int) else if (Lib.indexByte [] b== -1)=true then-1 else Lib.indexByte [] b+1)=_
 by_cases h:b=c
 .subst h;simp
 .have h2:(c==b)=false:=by simp;exact fun e=>h e.symm
  have h3:(b==c)=false:=by simp;exact h
  rw [h2,h3];rfl
theorem set_mid {α:Type} (a b:List α) (x z:α) {i:Nat} (h:a.length=i):(a++z::b).set i x=a++x::b:=by
 rw [List.set_append_right _ _ (by omega),h,Nat.sub_self];rfl
theorem strings_Index1 (s:List UInt8) (c:UInt8):AC Tryz.prog 144 [.d true .str s,.d true .str [c]] [] [I (Lib.indexByte s c)] []:=by
 refine AC.flat (v:=.int .i64 (Lib.indexByte s c)) (fun w A=>rfl) ⟨_,_,Tryz.func144,rfl,by kernel_rfl⟩ fun w A vs hold hvs=>?_
 obtain ⟨v,r,rfl,h1,v2,r2,rfl,h2,h3⟩:=hvs
 cases h1
 cases h2
 cases h3
 exact (Tryz.strings_Index_one ⟨s.toArray⟩ c w).mono fun e w' ⟨he,hw⟩=>⟨he,hw ▸ RowKit.Below.refl _ _⟩
theorem strings_Count1 (s:List UInt8) (c:UInt8):AC Tryz.prog 143 [.d true .str s,.d true .str [c]] [] [I ((s.count c:Nat):Int)] []:=by
 refine AC.flat (v:=.int .i64 ((s.count c:Nat):Int)) (fun w A=>rfl) ⟨_,_,Tryz.func143,rfl,by kernel_rfl⟩ fun w A vs hold hvs=>?_
 obtain ⟨v,r,rfl,h1,v2,r2,rfl,h2,h3⟩:=hvs
 cases h1
 cases h2
 cases h3
 exact (Tryz.strings_Count_one ⟨s.toArray⟩ c w).mono fun e w' ⟨he,hw⟩=>⟨he,hw ▸ RowKit.Below.refl _ _⟩
theorem strings_genSplit (s:List UInt8) (c:UInt8) (hl:s.length<=1048576):AC Tryz.prog 58 [.d true .str s,.d true .str [c],I 0,I (-1)] [] [.ow 0] [.sl 9 .str (wrdG (byB [c]) s)]:=by
 have hp:=byB_one c
 rw [wrdG_eq]
 obtain ⟨e1,e2⟩:=spl_cnt hp s
 have hR:=rst_spl hp s
 have hn:s.count c<=s.length:=List.count_le_length
 have hI:=fun i=>strings_Index1 (rstL c s i) c
 have hx:=fun i=>idx_some hp (s:=rstL c s i)
 have hr0:rstL c s 0=s:=rfl
 have hrS:∀i,rstL c s (i+1)=(rstL c s i).drop ((Lib.indexByte (rstL c s i) c).toNat+1):=fun i=>rfl
 generalize rstL c s=rs at*
 have hcut:(splR (byB [c]) s).take (s.count c+1)=splR (byB [c]) s:=List.take_of_length_le (by omega)
 have hC:=strings_Count1 s c
 generalize splR (byB [c]) s=W at*
 generalize s.count c=n at*
 have hmin:(if ((s.length:Nat):Int)+1<(n:Int)+1 then ((s.length:Nat):Int)+1 else (n:Int)+1)=((n+1:Nat):Int):=by
  rw [if_neg (show ¬((s.length:Nat):Int)+1<(n:Int)+1 by omega)];omega
 suffices h:AC Tryz.prog 58 [.d true .str s,.d true .str [c],I 0,I (-1)] [] [.x (.sb 0 0 (n+1))] [.sl 9 .str W] by
  have:=AC.cut0 h
  rwa [hcut] at this
 refine AC_of tauOk 66 0 [8] Tryz.func58 rfl (by kernel_rfl) rfl rfl rfl rfl rfl ?_
 refine ⟨fun h=>by omega,fun _=>?_⟩
 refine ⟨fun h=>(by cases h),fun _=>?_⟩
 refine ⟨fun _=>?_,fun h=>(h (by omega)).elim⟩
 refine ⟨[],false,_,_,hC,nd0,rfl,rfl,trivial,_,w64_in _ (by omega) (by omega),_,w64_in _ (by omega) (by omega),?_⟩
 refine ⟨n+1,n+1,hmin,hmin,Nat.le_refl _,by omega,?_⟩
 refine ⟨(n:Int),w64_eq (show (n:Int)=(if ((s.length:Nat):Int)+1<(n:Int)+1 then ((s.length:Nat):Int)+1 else (n:Int)+1)-1 by rw [hmin];omega) (by omega) (by omega),?_⟩
 refine ⟨Nat,fun i=>⟨[(0,.d true .str (rs i)),(1,.d true .str [c]),(2,I 0),(3,I (n:Nat)),(9,.ow 0),(10,I (i:Nat))],[.sl 9 .str (W.take i++List.replicate (n+1-i) [])]⟩,fun i=>i<=n,fun i=>n-i,0,Nat.zero_le _,
  ⟨⟨rfl,rfl⟩,⟨by rw [hr0];rfl,rfl,rfl,rfl,rfl,rfl,trivial⟩,rfl,trivial⟩,fun i hi=>?_⟩
 dsimp only at hi
 obtain ⟨r1,r2,r3,r4⟩:=hR i hi
 have hwl:(W.take i++List.replicate (n+1-i) ([]:List UInt8)).length=n+1:=by rw [List.length_append,r4,List.length_replicate];omega
 have hset:∀x:List UInt8,(W.take i++List.replicate (n+1-i) ([]:List UInt8)).set i x=W.take i++x::List.replicate (n-i) []:=fun x=>by
  rw [show n+1-i=(n-i)+1 by omega,List.replicate_succ]
  exact set_mid _ _ x [] r4
 refine ⟨fun h1=>?_,fun h1=>?_⟩
 .have hi2:i<n:=by omega
  obtain ⟨m,g1,g2,g3,g4⟩:=hx i (by omega)
  have hIi:=hI i
  rw [g1] at hIi
  have hSi:=hrS i
  rw [g1,Int.toNat_natCast] at hSi
  have hW:W.take (i+1)=W.take i++[(rs i).take m]:=take_mid r4 (by rw [<-g4];exact r3)
  refine ⟨[],false,_,_,hIi,nd0,rfl,rfl,trivial,fun h2=>by omega,fun _=>?_⟩
  refine ⟨(m:Int),w64_eq (by omega) (by omega) (by omega),m,rfl,Nat.zero_le _,by omega,i,rfl,by omega,?_⟩
  refine ⟨((m+1:Nat):Int),w64_eq (by show ((m+1:Nat):Int)=(m:Int)+1;omega) (by omega) (by omega),m+1,rfl,by omega,Nat.le_refl _,?_⟩
  refine ⟨((i+1:Nat):Int),w64_eq (by omega) (by omega) (by omega),i+1,by dsimp only;omega,by dsimp only;omega,⟨rfl,rfl⟩,⟨?_,rfl,rfl,rfl,rfl,rfl,trivial⟩,rowE ?_,trivial⟩
  .rw [hSi,List.take_length];rfl
  .rw [hset,hW,List.drop_zero,show n+1-(i+1)=n-i by omega,List.append_assoc];rfl
 .obtain rfl:i=n:=by omega
  refine ⟨i,rfl,by omega,_,w64_in _ (by omega) (by omega),?_⟩
  refine ⟨i+1,rfl,Nat.zero_le _,by rw [List.length_set];omega,?_⟩
  refine ⟨some 0,⟨⟨rfl,rfl⟩,trivial⟩,⟨rfl,rowsE ?_⟩,rfl⟩
  rw [hset,Nat.sub_self]
  exact e1.symm
theorem strings_Split (s:List UInt8) (c:UInt8) (hl:s.length<=1048576):AC Tryz.prog 29 [.d true .str s,.d true .str [c]] [] [.ow 0] [.sl 9 .str (wrdG (byB [c]) s)]:=by
 refine AC_of tauOk 8 0 [4] Tryz.func29 rfl (by kernel_rfl) rfl rfl rfl rfl rfl ?_
 refine ⟨[],false,_,_,strings_genSplit s c hl,nd0,rfl,rfl,trivial,?_⟩
 exact ⟨some 0,⟨⟨rfl,rfl⟩,trivial⟩,⟨rfl,rfl⟩,rfl⟩
theorem qi_of {n:Nat} {gens out q:List (List Int)} (h1:1<=n) (h2:n<=10) (hg:GenQ n gens) (h:BfP n gens out q):QI n q:=
 ⟨List.length_pos_of_mem h.id,by have:=bf_len h;have:=h.l;omega,fun x hx=>wd_perm h1 h2 hg (h.w x hx)⟩
theorem innSI {n a:Nat} {gens:List (List Int)} (h1:1<=n) (h2:n<=10) (hg:GenQ n gens):∀(gs out q:List (List Int)),(∀s∈gs,s∈gens)->BfP n gens out q->a<q.length->innI n a gs q=(innS n a gs out q).map Prod.snd
 |[],out,q,_,h,ha=>by rw [innI,innS];rfl
 |s::gs,out,q,hs,h,ha=>by
  have hl:=bf_len h
  rw [innI_step (qi_of h1 h2 hg h) ha,innS_step h1 h2 hg h ha]
  have hs2:∀s∈gs,s∈gens:=fun x hx=>hs x (by simp [hx])
  by_cases hm:exL (q.getD a []) s∈q
  .rw [if_pos (List.any_eq_true.2 ⟨_,hm,decide_eq_true rfl⟩),if_pos hm]
   exact innSI h1 h2 hg gs out q hs2 h ha
  .have hm2:¬(q.any fun x=>decide (x=exL (q.getD a []) s))=true:=fun e=>by
    obtain ⟨x,hx,e⟩:=List.any_eq_true.1 e
    rw [<-of_decide_eq_true e] at hm
    exact hm hx
   rw [if_neg hm2,if_neg hm]
   by_cases h120:out.length=120
   .rw [if_pos (by omega),if_pos h120];rfl
   .rw [if_neg (by omega),if_neg h120]
    exact innSI h1 h2 hg gs _ _ hs2 (bf_add h ha (hs s (by simp)) hm h120) (by simp;omega)
theorem bfsSI {n:Nat} {gens:List (List Int)} (h1:1<=n) (h2:n<=10) (hg:GenQ n gens):∀(f a:Nat) (out q:List (List Int)),BfP n gens out q->
 (bfsS n gens f a out q=none/\bfsI n gens f a q=none)\/∃R Q,bfsS n gens f a out q=some R/\bfsI n gens f a q=some Q/\BfP n gens R Q
 |0,a,out,q,h=>.inl ⟨rfl,rfl⟩
 |f+1,a,out,q,h=>by
  rw [bfsS,bfsI]
  by_cases ha:a<q.length
  .rw [if_pos ha,if_pos ha,innSI h1 h2 hg gens out q (fun _ hx=>hx) h ha]
   cases ho:innS n a gens out q with
   |none=>exact .inl ⟨rfl,rfl⟩
   |some o=>
    obtain ⟨g1,_,_⟩:=innS_ok h1 h2 hg gens out q o (fun _ hx=>hx) h ha ho
    exact bfsSI h1 h2 hg f (a+1) o.1 o.2 g1
  .rw [if_neg ha,if_neg ha]
   exact .inr ⟨out,q,rfl,rfl,h⟩
theorem srt_uniq {R Q:List (List Int)} (ha:AscL R) (hp:R.Perm Q):srtL Q=R:=by
 refine List.Perm.eq_of_pairwise (le:=fun x y=>¬cmpI y x<0) (fun a b _ _ h1 h2=>?_) (srtL_s Q) (ha.imp fun {a b} h=>?_) ((srtL_p Q).trans hp.symm)
 .have:=cmpI_neg a b
  exact cmpI_eq _ _ (by omega)
 .have:=cmpI_neg a b
  omega
theorem grpO_fnd {n:Nat} {gens:List (List Int)} (h1:1<=n) (h2:n<=10) (hg:GenQ n gens):grpO n gens=fndG n gens:=by
 unfold grpO fndG
 rcases bfsSI h1 h2 hg 200 0 _ _ (bf_start gens) with ⟨e1,e2⟩|⟨R,Q,e1,e2,hB⟩
 .rw [e1,e2];rfl
 .rw [e1,e2]
  show some (srtL Q)=some R
  rw [srt_uniq hB.a hB.p]
theorem grpO_gok {n:Nat} {gens G:List (List Int)} (h1:1<=n) (h2:n<=10) (hg:GenQ n gens) (h:grpO n gens=some G):gokB G=true:=by
 rw [grpO_fnd h1 h2 hg] at h
 exact grq_gok (bfs_closed h1 h2 hg h)
theorem gG_gok {n:Nat} {gens:List (List Int)} (h1:1<=n) (h2:n<=10) (hg:GenP n gens) (hs:(bfsI n gens 200 0 [idL n]).isSome=true):gokB (gG n gens)=true:=
 grpO_gok h1 h2 (gen_q hg) (gG_some hs)
end Go.Proofs.YtacjiemkbhhhoaaGreatDoor
namespace Go.Proofs.YtacjiemkbhhhoaaGreatDoor
open Go Go.RowKit Go.Proofs.YtacjiemkbhhhoaaGreatDoor.Ow
def rlB (line:List UInt8):Bool:=decide (line=[])||decide (((line.getD 0 0).toNat:Int)=35)
def rlW (line:List UInt8):List UInt8:=(wrdG (byB [32]) line).getD 0 []
def rlA (line:List UInt8):List (List UInt8):=(wrdG (byB [32]) line).drop 1
def ordS:List UInt8:=[111,114,100,101,114,32]
def rlG (g:List (List Int)) (line:List UInt8):List (List Int):=if rlB line=true then g else match ngO (rlW line) (rlA line) with|some (some G)=>G|_=>g
theorem sol_gok (k:Nat) (h1:1<=k) (h4:k<5) (mir:Bool):gokB (solL k mir)=true:=by
 obtain ⟨c1,c2,c3⟩:=sol_chk k h4 h1 mir
 have hn:1<=solN k/\solN k<11:=by unfold solN;split<;>decide
 exact gG_gok hn.1 (by omega) (genP_of c1 c2) c3
theorem ng_gok {w:List UInt8} {args:List (List UInt8)} {G:List (List Int)} (h:ngO w args=some (some G)):gokB G=true:=by
 unfold ngO at h
 split at h
 .split at h
  .rename_i hp
   have h3:=Option.some.inj h
   unfold genO at h3
   split at h3
   .rename_i hl
    have p1:=prp_perm hp.1
    have p2:=prp_perm hp.2
    have b1:=((permB_iff _).1 p1).1
    exact grpO_gok (by omega) (by omega) (gen_q (gens2 ⟨p1,rfl⟩ ⟨p2,hl.symm⟩)) h3
   .cases h3
  .cases h
 .split at h
  .split at h
   .have h3:=Option.some.inj h
    unfold cycO at h3
    split at h3
    .cases h3
     obtain ⟨⟨c1,c2⟩,c3,c4⟩:=grp_chk (prsV (args.getD 0 [])).toNat (by omega) (by omega)
     exact gG_gok (by omega) (by omega) (gens1 c1) c3
    .cases h3
   .split at h
    .have h3:=Option.some.inj h
     unfold dihO at h3
     split at h3
     .cases h3
      obtain ⟨⟨c1,c2⟩,c3,c4⟩:=grp_chk (prsV (args.getD 0 [])).toNat (by omega) (by omega)
      exact gG_gok (by omega) (by omega) (gens2 c1 c2) c4
     .cases h3
    .split at h
     .have h3:=Option.some.inj h
      unfold symO at h3
      split at h3
      .cases h3
       obtain ⟨o,ho,_⟩:=(sym_ok (prsV (args.getD 0 [])).toNat (by omega) (by omega)).i
       exact gG_gok (by omega) (by omega) (gens_ok _ (by omega) (by omega)) (by rw [ho];rfl)
      .cases h3
     .split at h
      .have h3:=Option.some.inj h
       unfold solO at h3
       split at h3
       .cases h3
        exact sol_gok _ (by omega) (by omega) _
       .cases h3
      .cases h
  .cases h
theorem spl_short (p:UInt8->Bool):∀s:List UInt8,∀x∈(splR p s).drop 1,x.length+1<=s.length
 |[],x,hx=>by simp [splR] at hx
 |c::t,x,hx=>by
  rw [splR] at hx
  split at hx
  .have h:x∈splR p t:=hx
   rw [<-wrdG_eq] at h
   have:=wrdG_el p t x h
   simp only [List.length_cons];omega
  .split at hx
   .simp at hx
   .rename_i a r e
    have h:x∈(splR p t).drop 1:=by rw [e];exact hx
    have:=spl_short p t x h
    simp only [List.length_cons];omega
theorem wrd_bd2 (line:List UInt8) (hl:line.length<=1048576):(∀i,i<(rlA line).length->((rlA line).getD i []).length<=1048575)/\(rlA line).length<=1048576:=by
 have h1:=(wrdG_pos (byB [32]) line).2
 refine ⟨fun i hi=>?_,by unfold rlA;rw [List.length_drop];omega⟩
 have hm:(rlA line).getD i []∈rlA line:=by rw [getD_get _ _ _ hi];exact List.getElem_mem _
 unfold rlA at hm
 rw [wrdG_eq] at hm
 have:=spl_short _ _ _ hm
 unfold rlA
 rw [wrdG_eq]
 omega
def orbZ (g:List (List Int)):List (List Int):=if gokB g=true then orbL g else []
def clsZ (g:List (List Int)):List Int:=if gokB g=true then clsL g else []
def plnZ (g:List (List Int)) (w:List UInt8):List UInt8:=
 if w=[105,110,100,101,120] then ixlS g
 else if w=[111,114,98,105,116,115] then Lib.join ((orbZ g).map fmtL) [32]
 else if w=[99,108,97,115,115,101,115] then fmtL (clsZ g)
 else if w=[116,119,111] then fmtL (twoL g)
 else if w=[108,105,115,116] then Lib.join (g.map fmtC) [32]
 else unkS
def tlZ (g:List (List Int)) (w:List UInt8) (args:List (List UInt8)):List UInt8:=
 if (args.length:Int)=0 then plnZ g w
 else if (args.length:Int)=1/\wlnS g w (args.getD 0 [])≠unkS then wlnS g w (args.getD 0 [])
 else if args.all prsB=true then nlnS g w (args.map prsV) else unkS
def rlZ (g:List (List Int)) (line:List UInt8):List UInt8:=if rlB line=true then [] else match ngO (rlW line) (rlA line) with|some (some G)=>ordS++fmtI (G.length:Nat)|some none=>nonS|none=>tlZ g (rlW line) (rlA line)
theorem fmtC_len (xs:List Int):(fmtC xs).length<=4000:=by
 unfold fmtC
 split
 .rename_i h
  have hP:=(permB_iff _).1 h
  split
  .simp
  .have:=fcyL_len hP _ (Nat.le_refl _);omega
 .simp
theorem lst_len (g:List (List Int)) (hgl:g.length<=1048576):(Lib.join (g.map fmtC) [32]).length<=140737488355328:=by
 have:=join_bd (g.map fmtC) 4000 (fun x hx=>by
  obtain ⟨l,hl,rfl⟩:=List.mem_map.1 hx
  exact fmtC_len l)
 have hgm:(g.map fmtC).length=g.length:=List.length_map ..
 rw [hgm] at this
 omega
theorem pln_bd {g:List (List Int)} (hB:gokB g=true):(orbL g).length<=10/\(∀l∈orbL g,In64 l/\l.length<=1048576)/\(Lib.join ((orbL g).map fmtL) [32]).length<=140737488355328/\In64 (clsL g)/\(clsL g).length<=1048576/\In64 (twoL g)/\(twoL g).length<=1048576:=by
 obtain ⟨⟨hg1,hg2⟩,hgp⟩:=perm_bd hB
 have hn:=(hgp 0 (by omega)).1.1
 have hol:=(orbS_ok g (g.getD 0 []).length (g.getD 0 []).length).2
 have hoe:∀l∈orbL g,l.length<=120/\∀x∈l,0<=x/\x<10:=orbS_el hB _ (Nat.le_refl _)
 have hol:(orbL g).length<=10:=by show (orbS g (g.getD 0 []).length (g.getD 0 []).length).2.length<=10;omega
 have ho64:∀l∈orbL g,In64 l:=fun l hl=>in64_of (B:=10) (by decide) fun x hx=>by have:=(hoe l hl).2 x hx;omega
 have hcl:(clsL g).length=g.length:=(clsS_ok g g.length).1
 obtain ⟨htl,hte⟩:=two_el hB
 have hom:((orbL g).map fmtL).length=(orbL g).length:=List.length_map ..
 have hoj:=join_bd ((orbL g).map fmtL) 2600 (fun x hx=>by
  obtain ⟨l,hl,rfl⟩:=List.mem_map.1 hx
  have:=fmtL_len (ho64 l hl)
  have:=(hoe l hl).1
  omega)
 exact ⟨hol,fun l hl=>⟨ho64 l hl,by have:=(hoe l hl).1;omega⟩,by omega,in64_of (B:=g.length) (by omega) (clsS_el g g.length (Nat.le_refl _)),by omega,in64_of (B:=1000000) (by decide) hte,by omega⟩
theorem twoZ (g:List (List Int)):fmtL (twoL g)=fmtL (if gokB g=true then twoL g else []):=by
 cases hB:gokB g
 .rw [twoL,hB];rfl
 .rfl
theorem impl_plainLine_z (sh:Bool) (g:List (List Int)) (w:List UInt8) (hgl:g.length<=1048576) (hx:∀i,i<g.length->(g.getD i []).length<=1048576):AC Tryz.prog 31 [.d sh (.sl (.sl .int)) g,.d true .str w] [] [.d true .str (plnZ g w)] []:=by
 have hJ:=lst_len g hgl
 have hgm:(g.map fmtC).length=g.length:=List.length_map ..
 have hD:=pln_bd (g:=g)
 have hO:=impl_OrbitsOf sh g
 have hC:=impl_ClassesOf sh g
 have hT:=impl_TwoColors sh g hgl hx
 have hTb:In64 (twoL g)/\(twoL g).length<=1048576:=by
  cases hB:gokB g
  .rw [twoL,hB];exact ⟨fun i hi=>by simp at hi,Nat.zero_le _⟩
  .exact (hD hB).2.2.2.2.2
 unfold plnZ orbZ clsZ
 generalize orbL g=O at*
 generalize clsL g=C at*
 generalize twoL g=T at*
 refine AC_of tauOk 59 0 [4] Tryz.func31 rfl (by kernel_rfl) rfl rfl rfl rfl rfl ?_
 refine ⟨rfl,by decide,true,?_⟩
 refine ⟨fun h1=>?_,fun h1=>?_⟩
 .rw [if_pos h1]
  refine ⟨[],false,_,_,impl_IndexLine sh g hgl hx,nd0,rfl,rfl,trivial,?_⟩
  exact ⟨none,⟨rfl,trivial⟩,rfl,rfl⟩
 rw [if_neg h1]
 refine ⟨fun h2=>?_,fun h2=>?_⟩
 .rw [if_pos h2]
  cases hB:gokB g
  .refine ⟨[],false,_,_,impl_OrbitsOf_no sh g hgl hx hB,nd0,rfl,rfl,trivial,?_⟩
   refine ⟨Unit,fun _=>⟨[(5,.ow 0),(19,.nil),(20,I 0),(21,I 0)],[.sl 9 .str []]⟩,fun _=>True,fun _=>0,(),trivial,
    ⟨⟨rfl,rfl⟩,⟨rfl,rfl,rfl,rfl,trivial⟩,rfl,trivial⟩,fun _ _=>?_⟩
   refine ⟨fun h3=>by omega,fun h3=>?_⟩
   refine ⟨[],false,_,_,impl_Join false [] [32] (by decide) (by decide),nd0,rfl,rfl,trivial,?_⟩
   exact ⟨none,⟨rfl,trivial⟩,rfl,rfl⟩
  obtain ⟨b1,b2,b3,b4,b5,b6,b7⟩:=hD hB
  have hom:(O.map fmtL).length=O.length:=List.length_map ..
  rw [if_pos rfl]
  refine ⟨[],true,_,_,hO hB,nd0,rfl,rfl,trivial,?_⟩
  refine ⟨Nat,fun k=>⟨[(5,.ow 0),(19,.d true (.sl (.sl .int)) O),(20,I O.length),(21,I (k:Nat))],[.sl 9 .str ((O.take k).map fmtL)]⟩,fun k=>k<=O.length,fun k=>O.length-k,0,Nat.zero_le _,
   ⟨⟨rfl,rfl⟩,⟨rfl,rfl,rfl,rfl,trivial⟩,rfl,trivial⟩,fun k hk=>?_⟩
  dsimp only at hk
  refine ⟨fun h3=>?_,fun h3=>?_⟩
  .have hk2:k<O.length:=by omega
   obtain ⟨hm,hml⟩:=b2 (O.getD k []) (by rw [getD_get _ _ _ hk2];exact List.getElem_mem _)
   refine ⟨k,rfl,hk2,[],false,_,_,impl_FormatInts true (O.getD k []) hm (by omega),nd0,rfl,rfl,trivial,?_⟩
   refine ⟨rfl,by decide,false,?_⟩
   refine ⟨rfl,Nat.zero_le _,rfl,by simp only [List.length_cons,List.length_nil,List.length_map,List.length_take];omega,rfl,?_⟩
   exact ⟨((k+1:Nat):Int),w64_eq (by omega) (by omega) (by omega),k+1,by dsimp only;omega,by dsimp only;omega,⟨rfl,rfl⟩,⟨rfl,rfl,rfl,rfl,trivial⟩,rowE (by rw [L_succ O k [] hk2,List.map_append];rfl),trivial⟩
  .obtain rfl:k=O.length:=by omega
   dsimp only
   rw [List.take_length]
   refine ⟨[],false,_,_,impl_Join false (O.map fmtL) [32] (by omega) b3,nd0,rfl,rfl,trivial,?_⟩
   exact ⟨none,⟨rfl,trivial⟩,rfl,rfl⟩
 rw [if_neg h2]
 refine ⟨fun h3=>?_,fun h3=>?_⟩
 .rw [if_pos h3]
  cases hB:gokB g
  .refine ⟨[],false,_,_,impl_ClassesOf_no sh g hgl hx hB,nd0,rfl,rfl,trivial,[],false,_,_,impl_FormatInts_nil,nd0,rfl,rfl,trivial,?_⟩
   exact ⟨none,⟨rfl,trivial⟩,rfl,rfl⟩
  .obtain ⟨b1,b2,b3,b4,b5,b6,b7⟩:=hD hB
   refine ⟨[],true,_,_,hC hB,nd0,rfl,rfl,trivial,[],false,_,_,impl_FormatInts true C b4 b5,nd0,rfl,rfl,trivial,?_⟩
   exact ⟨none,⟨rfl,trivial⟩,rfl,rfl⟩
 rw [if_neg h3]
 refine ⟨fun h4=>?_,fun h4=>?_⟩
 .rw [if_pos h4]
  refine ⟨[],true,_,_,hT,nd0,rfl,rfl,trivial,[],false,_,_,impl_FormatInts true T hTb.1 hTb.2,nd0,rfl,rfl,trivial,?_⟩
  exact ⟨none,⟨rfl,trivial⟩,rfl,rfl⟩
 rw [if_neg h4]
 refine ⟨fun h5=>?_,fun h5=>?_⟩
 .rw [if_pos h5]
  refine ⟨Nat,fun k=>⟨[(5,.ow 0),(45,.d sh (.sl (.sl .int)) g),(46,I g.length),(47,I (k:Nat))],[.sl 9 .str ((g.take k).map fmtC)]⟩,fun k=>k<=g.length,fun k=>g.length-k,0,Nat.zero_le _,
   ⟨⟨rfl,rfl⟩,⟨rfl,rfl,rfl,rfl,trivial⟩,rfl,trivial⟩,fun k hk=>?_⟩
  dsimp only at hk
  refine ⟨fun h6=>?_,fun h6=>?_⟩
  .have hk2:k<g.length:=by omega
   refine ⟨k,rfl,hk2,[],false,_,_,impl_FormatCycles sh (g.getD k []) (hx k hk2),nd0,rfl,rfl,trivial,?_⟩
   refine ⟨rfl,by decide,false,?_⟩
   refine ⟨rfl,Nat.zero_le _,rfl,by simp only [List.length_cons,List.length_nil,List.length_map,List.length_take];omega,rfl,?_⟩
   exact ⟨((k+1:Nat):Int),w64_eq (by omega) (by omega) (by omega),k+1,by dsimp only;omega,by dsimp only;omega,⟨rfl,rfl⟩,⟨rfl,rfl,rfl,rfl,trivial⟩,rowE (by rw [L_succ g k [] hk2,List.map_append];rfl),trivial⟩
  .obtain rfl:k=g.length:=by omega
   dsimp only
   rw [List.take_length]
   refine ⟨[],false,_,_,impl_Join false (g.map fmtC) [32] (by omega) hJ,nd0,rfl,rfl,trivial,?_⟩
   exact ⟨none,⟨rfl,trivial⟩,rfl,rfl⟩
 .rw [if_neg h5]
  exact ⟨none,⟨rfl,trivial⟩,rfl,rfl⟩
theorem impl_copyLists_w (sh:Bool) (g:List (List Int)) (hgl:g.length<=1048576) (hx:∀i,i<g.length->(g.getD i []).length<=1048576):AC Tryz.prog 28 [.d sh (.sl (.sl .int)) g] [] [.ow 0] [.sl 29 (.sw 3 true) g]:=by
 refine AC_of (tauSOk true) 20 0 [2] Tryz.func28 rfl (by kernel_rfl) rfl rfl rfl rfl rfl ?_
 refine ⟨rfl,by decide,true,Nat.zero_le _,?_⟩
 refine ⟨Nat,fun k=>⟨[(3,.ow 0),(7,.d sh (.sl (.sl .int)) g),(8,I g.length),(9,I (k:Nat))],[.sl 29 (.sw 3 true) (g.take k)]⟩,fun k=>k<=g.length,fun k=>g.length-k,0,Nat.zero_le _,
  ⟨⟨rfl,rfl⟩,⟨rfl,rfl,rfl,rfl,trivial⟩,rfl,trivial⟩,fun k hk=>?_⟩
 dsimp only at hk
 refine ⟨fun h1=>?_,fun h1=>?_⟩
 .have hk2:k<g.length:=by omega
  have hs:=L_succ g k [] hk2
  have htl:(g.take k).length=k:=by rw [List.length_take];omega
  refine ⟨k,rfl,hk2,?_⟩
  by_cases h0:g.getD k []=[]
  .have hcn:=slices_Clone_no sh
   rw [<-h0] at hcn
   refine ⟨[],false,_,_,hcn,nd0,rfl,rfl,trivial,?_⟩
   refine ⟨rfl,by decide,false,?_⟩
   refine ⟨rfl,Nat.zero_le _,rfl,by simp only [List.length_cons,List.length_nil];omega,rfl,⟨Nat.le_refl 1,fun x hx y hy=>.inl (List.mem_singleton.1 hy)⟩,?_⟩
   exact ⟨((k+1:Nat):Int),w64_eq (by omega) (by omega) (by omega),k+1,by first|omega|(dsimp only;omega),by first|omega|(dsimp only;omega),⟨rfl,rfl⟩,⟨rfl,rfl,rfl,rfl,trivial⟩,rowE (by rw [hs,h0]),trivial⟩
  .refine ⟨[],false,_,_,slices_Clone_int sh (g.getD k []) (hx k hk2) h0,nd0,rfl,rfl,trivial,?_⟩
   refine ⟨rfl,rfl,?_⟩
   refine ⟨rfl,Nat.zero_le _,rfl,rfl,rfl,rfl,rfl,by omega,?_⟩
   exact ⟨((k+1:Nat):Int),w64_eq (by omega) (by omega) (by omega),k+1,by first|omega|(dsimp only;omega),by first|omega|(dsimp only;omega),⟨rfl,rfl⟩,⟨rfl,rfl,rfl,rfl,trivial⟩,rowE (by rw [hs];rfl),trivial⟩
 .obtain rfl:k=g.length:=by omega
  exact ⟨some 0,⟨⟨rfl,rfl⟩,trivial⟩,⟨rfl,rowsE (List.take_length ..)⟩,rfl⟩
theorem impl_RunLine_w (sh:Bool) (g:List (List Int)) (line:List UInt8) (hgl:g.length<=1048576) (hx:∀i,i<g.length->(g.getD i []).length<=1048576) (hll:line.length<=1048576):
 AC Tryz.prog 13 [.d sh (.sl (.sl .int)) g,.d true .str line] [] [.ow 0,.d true .str (rlZ g line)] [.sl 29 (.sw 3 true) (rlG g line)]:=by
 have q0:0<2:=by decide
 have q1:2<=1000:=by decide
 have hS:=strings_Split line 32 (by omega)
 have hP:=wrdG_pos (byB [32]) line
 obtain ⟨ha1,ha2⟩:=wrd_bd2 line hll
 have hN:=impl_newGroup true (rlW line) (rlA line) ha2 ha1
 have hA:rlA line=(wrdG (byB [32]) line).drop 1:=rfl
 have hW:rlW line=(wrdG (byB [32]) line).getD 0 []:=rfl
 have hwl:=impl_wordLine sh g (rlW line) ((rlA line).getD 0 []) ((rlA line).length:Nat) hgl hx
 have hml:((rlA line).map prsV).length=(rlA line).length:=List.length_map ..
 have hnl:=impl_numberLine sh true g (rlW line) ((rlA line).map prsV) hgl hx
 rw [hml] at hnl
 have hin:=impl_ints_both true (rlA line) ha2 (fun i hi=>by have:=ha1 i hi;omega)
 have hpl:=impl_plainLine_z sh g (rlW line) hgl hx
 unfold rlG rlZ
 have hng:=fun G=>ng_gok (w:=rlW line) (args:=rlA line) (G:=G)
 unfold tlZ
 generalize rlA line=args at*
 generalize rlW line=w at*
 generalize wrdG (byB [32]) line=ws at*
 refine AC_of tauOk 86 0 [4,5] Tryz.func13 rfl (by kernel_rfl) rfl rfl rfl rfl rfl ?_
 refine ⟨[],false,_,_,impl_copyLists_w sh g hgl hx,nd0,rfl,rfl,trivial,fun h1=>?_,fun h1=>?_⟩
 .rw [if_pos (show rlB line=true by unfold rlB;rw [decide_eq_true h1];rfl),if_pos (show rlB line=true by unfold rlB;rw [decide_eq_true h1];rfl)]
  exact ⟨some 0,⟨⟨rfl,rfl⟩,rfl,trivial⟩,⟨rfl,rfl⟩,rfl⟩
 have h0:0<line.length:=List.length_pos_iff.2 h1
 refine ⟨0,rfl,h0,fun h2=>?_,fun h2=>?_⟩
 .rw [if_pos (show rlB line=true by unfold rlB;rw [decide_eq_true h2,Bool.or_true]),if_pos (show rlB line=true by unfold rlB;rw [decide_eq_true h2,Bool.or_true])]
  exact ⟨some 0,⟨⟨rfl,rfl⟩,rfl,trivial⟩,⟨rfl,rfl⟩,rfl⟩
 have hb:¬rlB line=true:=by unfold rlB;rw [decide_eq_false h1,decide_eq_false h2];decide
 rw [if_neg hb,if_neg hb]
 refine ⟨[],true,_,_,hS,nd0,rfl,rfl,trivial,1,rfl,by omega,Nat.le_refl _,?_⟩
 rw [List.take_length,<-hA]
 refine ⟨0,rfl,by omega,by decide,by decide,rfl,rfl,rfl,rfl,rfl,?_⟩
 rw [<-hW]
 cases hO:ngO w args with
 |some o=>
  cases o with
  |none=>
   refine ⟨[],false,_,_,hN [.nil,.d true .bool true,.d true .bool false] [] (fun e=>by rw [hO] at e;cases e) (fun _=>⟨rfl,rfl⟩) (fun G e=>by rw [hO] at e;cases e),nd0,rfl,rfl,trivial,fun _=>⟨nofun,fun _=>?_⟩,nofun⟩
   exact ⟨some 0,⟨⟨rfl,rfl⟩,rfl,trivial⟩,⟨rfl,rfl⟩,rfl⟩
  |some G=>
   have hGl:=(perm_bd (hng G hO)).1.2
   refine ⟨[],false,_,_,hN [.ow 0,.d true .bool true,.d true .bool true] [.sl 29 (.sw 3 true) G] (fun e=>by rw [hO] at e;cases e) (fun e=>by rw [hO] at e;cases e) (fun G2 e=>by rw [hO] at e;cases e;exact ⟨rfl,rfl⟩),nd0,rfl,rfl,trivial,fun _=>⟨fun _=>?_,nofun⟩,nofun⟩
   have hfl:=fI_len (G.length:Int) (by omega)
   refine ⟨[],false,_,_,impl_FormatInt _ (by omega) (by omega),nd0,rfl,rfl,trivial,by simp only [List.length_cons,List.length_nil];omega,?_⟩
   exact ⟨some 2,⟨⟨rfl,rfl⟩,rfl,trivial⟩,⟨rfl,rfl⟩,rfl⟩
 |none=>
  dsimp only
  refine ⟨[],false,_,_,hN [.nil,.d true .bool false,.d true .bool false] [] (fun _=>⟨rfl,rfl⟩) (fun e=>by rw [hO] at e;cases e) (fun G e=>by rw [hO] at e;cases e),nd0,rfl,rfl,trivial,nofun,fun _=>⟨nofun,fun _=>?_⟩⟩
  refine ⟨fun h3=>?_,fun h3=>?_⟩
  .rw [if_pos h3]
   refine ⟨q0,q0,[],false,_,_,hpl,nd0,rfl,rfl,trivial,?_⟩
   exact ⟨some 0,⟨⟨rfl,rfl⟩,rfl,trivial⟩,⟨rfl,rfl⟩,rfl⟩
  rw [if_neg h3]
  refine ⟨fun h4=>?_,fun h4=>?_⟩
  .have i0:0<args.length:=by omega
   refine ⟨some 2000,[0,2,3,4],[1,5,6],by kernel_rfl,rfl,?_⟩
   refine ⟨0,rfl,i0,rfl,[],false,_,_,hwl (by have:=ha1 0 i0;omega),nd0,rfl,rfl,trivial,fun h5=>?_,fun h5=>?_⟩
   .rw [if_pos ⟨h4,h5⟩]
    exact ⟨some 0,⟨⟨rfl,rfl⟩,rfl,trivial⟩,⟨rfl,rfl⟩,rfl⟩
   rw [if_neg (fun e=>h5 e.2)]
   cases hp:args.all prsB
   .refine ⟨[],false,_,_,hin _ _ (fun _=>⟨rfl,rfl⟩) (fun h=>by rw [hp] at h;cases h),nd0,rfl,rfl,trivial,nofun,fun _=>?_⟩
    exact ⟨some 0,⟨⟨rfl,rfl⟩,rfl,trivial⟩,⟨rfl,rfl⟩,rfl⟩
   .refine ⟨[],true,_,_,hin _ _ (fun h=>by rw [hp] at h;cases h) (fun _=>⟨rfl,rfl⟩),nd0,rfl,rfl,trivial,fun _=>?_,nofun⟩
    refine ⟨rfl,[],false,_,_,hnl,nd0,rfl,rfl,trivial,?_⟩
    exact ⟨some 0,⟨⟨rfl,rfl⟩,rfl,trivial⟩,⟨rfl,rfl⟩,rfl⟩
  .rw [if_neg (fun e=>h4 e.1)]
   cases hp:args.all prsB
   .refine ⟨[],false,_,_,hin _ _ (fun _=>⟨rfl,rfl⟩) (fun h=>by rw [hp] at h;cases h),nd0,rfl,rfl,trivial,nofun,fun _=>?_⟩
    exact ⟨some 0,⟨⟨rfl,rfl⟩,rfl,trivial⟩,⟨rfl,rfl⟩,rfl⟩
   .refine ⟨[],true,_,_,hin _ _ (fun h=>by rw [hp] at h;cases h) (fun _=>⟨rfl,rfl⟩),nd0,rfl,rfl,trivial,fun _=>?_,nofun⟩
    refine ⟨rfl,[],false,_,_,hnl,nd0,rfl,rfl,trivial,?_⟩
    exact ⟨some 0,⟨⟨rfl,rfl⟩,rfl,trivial⟩,⟨rfl,rfl⟩,rfl⟩
end Go.Proofs.YtacjiemkbhhhoaaGreatDoor
