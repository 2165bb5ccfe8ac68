/-
  Part 8 of the texts that the claim rests on: Wppm, Wngr, Wspt, Wgbf, Wrln, Wspb, Wsp2, Wsp3, Wnke, Wsp4, Wsp5, Wsp6, Wsp7, Wsp8, Wsp9, Wspa.
  No condition beyond the given program.
-/
import Derived.Test.YtacjiemkbhhhoaaGreatDoorIg
set_option linter.unusedVariables false
set_option linter.unusedSimpArgs false
namespace Go.Proofs.YtacjiemkbhhhoaaGreatDoor
open Go Go.Proofs.YtacjiemkbhhhoaaGreatDoor.Ow
def prpB (t:List UInt8):Bool:=(wrdG (byB [44]) t).all prsB && permB ((wrdG (byB [44]) t).map prsV)
def prpL (t:List UInt8):List Int:=(wrdG (byB [44]) t).map prsV
theorem spG_el (p:UInt8->Bool) (t:List UInt8):∀k,∀x∈(spG p t k).1,x.length<=t.length
 |0,x,hx=>by simp [spG] at hx
 |k+1,x,hx=>by
  rw [spG] at hx
  split at hx
  .rcases List.mem_append.1 hx with hx|hx
   .exact spG_el p t k x hx
   .rw [List.mem_singleton.1 hx];simp;omega
  .exact spG_el p t k x hx
theorem wrdG_el (p:UInt8->Bool) (t:List UInt8):∀x∈wrdG p t,x.length<=t.length:=fun x hx=>by
 rw [wrdG] at hx
 rcases List.mem_append.1 hx with hx|hx
 .exact spG_el p t _ x hx
 .rw [List.mem_singleton.1 hx];simp
theorem impl_ParsePerm_both (t:List UInt8) (ht:t.length<=1048575) (r:List AV) (rr:List Row)
 (hno:prpB t=false->r=[.nil,.d true .bool false]/\rr=[]) (hyes:prpB t=true->r=[.ow 0,.d true .bool true]/\rr=[.sl 3 .int (prpL t)]):AC Tryz.prog 59 [.d true .str t] [] r rr:=by
 have hS:=impl_SplitBy t [44] (by omega)
 have hel:=wrdG_el (byB [44]) t
 have hwl:=(wrdG_pos (byB [44]) t).2
 unfold prpB at hno hyes
 unfold prpL at hyes
 generalize wrdG (byB [44]) t=ws at*
 have hw:∀i,i<ws.length->(ws.getD i []).length<=1048576:=fun i hi=>by
  have:=hel (ws.getD i []) (by rw [getD_get _ _ _ hi];exact List.getElem_mem _)
  omega
 refine AC_of tauOk 33 0 [2,3] Tryz.func59 rfl (by kernel_rfl) rfl rfl rfl rfl rfl ?_
 refine ⟨rfl,by decide,true,?_⟩
 refine ⟨[],true,_,_,hS,nd0,rfl,rfl,trivial,?_⟩
 refine ⟨Nat,fun k=>⟨[(4,.ow 0),(11,.d true (.sl .str) ws),(12,I ws.length),(13,I (k:Nat))],[.sl 3 .int ((ws.take k).map prsV)]⟩,fun k=>k<=ws.length/\(ws.take k).all prsB=true,fun k=>ws.length-k,0,⟨Nat.zero_le _,rfl⟩,
  ⟨⟨rfl,rfl⟩,⟨rfl,rfl,rfl,rfl,trivial⟩,rfl,trivial⟩,?_⟩
 rintro k ⟨hk,hall⟩
 refine ⟨fun h1=>?_,fun h1=>?_⟩
 .have hk2:k<ws.length:=by omega
  have hs:=L_succ ws k [] hk2
  have htl:(ws.take k).length=k:=by rw [List.length_take];omega
  have hI:=impl_ParseInt (ws.getD k []) (hw k hk2)
  refine ⟨k,rfl,hk2,?_⟩
  cases hp:prsB (ws.getD k [])
  .rw [prsR_no hp] at hI
   refine ⟨[],false,_,_,hI,nd0,rfl,rfl,trivial,nofun,fun _=>?_⟩
   obtain ⟨rfl,rfl⟩:=hno (by
    have:ws.all prsB=false:=by
     rw [Bool.eq_false_iff]
     intro h
     rw [List.all_eq_true] at h
     have:=h (ws.getD k []) (by rw [getD_get _ _ _ hk2];exact List.getElem_mem _)
     rw [hp] at this;cases this
    rw [this];rfl)
   exact ⟨none,⟨rfl,rfl,trivial⟩,rfl,rfl⟩
  .rw [prsR_yes hp] at hI
   refine ⟨[],false,_,_,hI,nd0,rfl,rfl,trivial,fun _=>?_,nofun⟩
   refine ⟨rfl,by decide,false,?_⟩
   refine ⟨rfl,Nat.zero_le _,rfl,by simp only [List.length_cons,List.length_nil,List.length_map];omega,rfl,?_⟩
   exact ⟨((k+1:Nat):Int),w64_eq (by omega) (by omega) (by omega),k+1,⟨by omega,by rw [hs,List.all_append,hall,List.all_cons,hp];rfl⟩,by dsimp only;omega,⟨rfl,rfl⟩,⟨rfl,rfl,rfl,rfl,trivial⟩,rowE (by rw [hs,List.map_append];rfl),trivial⟩
 .obtain rfl:k=ws.length:=by omega
  rw [List.take_length] at hall
  dsimp only
  rw [List.take_length]
  rw [hall,Bool.true_and] at hno hyes
  refine ⟨[],false,_,_,impl_PermOk false (ws.map prsV) (by rw [List.length_map];omega),nd0,rfl,rfl,trivial,fun h2=>?_,fun h2=>?_⟩
  .obtain ⟨rfl,rfl⟩:=hyes h2
   exact ⟨some 0,⟨⟨rfl,rfl⟩,rfl,trivial⟩,⟨rfl,rfl⟩,rfl⟩
  .obtain ⟨rfl,rfl⟩:=hno h2
   exact ⟨none,⟨rfl,rfl,trivial⟩,rfl,rfl⟩
def cycO (n:Int):Option (List (List Int)):=if 1<=n/\n<=10 then some (gG n.toNat [turnL n.toNat]) else none
def dihO (n:Int):Option (List (List Int)):=if 1<=n/\n<=10 then some (gG n.toNat [turnL n.toNat,(idL n.toNat).reverse]) else none
def symO (n:Int):Option (List (List Int)):=if 1<=n/\n<=5 then some (gG n.toNat [turnL n.toNat,swapL n.toNat]) else none
def solO (k:Int) (mir:Bool):Option (List (List Int)):=if 1<=k/\k<=4 then some (solL k.toNat mir) else none
def genO (p q:List Int):Option (List (List Int)):=if p.length=q.length then grpO p.length [p,q] else none
def ngO (w:List UInt8) (args:List (List UInt8)):Option (Option (List (List Int))):=
 if w=[103,101,110,101,114,97,116,101]/\(args.length:Int)=2 then
  (if prpB (args.getD 0 [])=true/\prpB (args.getD 1 [])=true then some (genO (prpL (args.getD 0 [])) (prpL (args.getD 1 []))) else none)
 else if args.all prsB=true then
  (if w=[99,121,99,108,105,99]/\(args.length:Int)=1 then some (cycO (prsV (args.getD 0 [])))
  else if w=[100,105,104,101,100,114,97,108]/\(args.length:Int)=1 then some (dihO (prsV (args.getD 0 [])))
  else if w=[115,121,109,109,101,116,114,105,99]/\(args.length:Int)=1 then some (symO (prsV (args.getD 0 [])))
  else if w=[115,111,108,105,100]/\(args.length:Int)=2 then some (solO (prsV (args.getD 0 [])) (decide (prsV (args.getD 1 [])≠0)))
  else none)
 else none
theorem map_get (f:List UInt8->Int) (l:List (List UInt8)) (j:Nat) (h:j<l.length):(l.map f).getD j 0=f (l.getD j []):=by
 rw [getD_get _ _ _ (by simpa using h),getD_get _ _ _ h,List.getElem_map]
theorem prp_perm {t:List UInt8} (h:prpB t=true):permB (prpL t)=true:=by
 unfold prpB at h
 rw [Bool.and_eq_true] at h
 exact h.2
def ngR (o:Option (List (List Int))):List AV:=match o with|none=>[.nil,.d true .bool false]|some _=>[.ow 0,.d true .bool true]
def ngW (o:Option (List (List Int))):List Row:=match o with|none=>[]|some G=>[.sl 29 (.sw 3 true) G]
theorem CyclicGroup_o (n:Int):AC Tryz.prog 27 [I n] [] (ngR (cycO n)) (ngW (cycO n)):=by
 unfold cycO
 split
 .rename_i h
  have:=impl_CyclicGroup_s n.toNat (by omega) (by omega)
  rwa [show ((n.toNat:Nat):Int)=n by omega] at this
 .rename_i h
  exact impl_CyclicGroup_no n h
theorem DihedralGroup_o (n:Int):AC Tryz.prog 60 [I n] [] (ngR (dihO n)) (ngW (dihO n)):=by
 unfold dihO
 split
 .rename_i h
  have:=impl_DihedralGroup_s n.toNat (by omega) (by omega)
  rwa [show ((n.toNat:Nat):Int)=n by omega] at this
 .rename_i h
  exact impl_DihedralGroup_no n h
theorem SymmetricGroup_o (n:Int):AC Tryz.prog 61 [I n] [] (ngR (symO n)) (ngW (symO n)):=by
 unfold symO
 split
 .rename_i h
  have:=impl_SymmetricGroup_s n.toNat (by omega) (by omega)
  rwa [show ((n.toNat:Nat):Int)=n by omega] at this
 .rename_i h
  exact impl_SymmetricGroup_no n h
theorem SolidGroup_o (n:Int) (mir:Bool):AC Tryz.prog 62 [I n,.d true .bool mir] [] (ngR (solO n mir)) (ngW (solO n mir)):=by
 unfold solO
 split
 .rename_i h
  have:=impl_SolidGroup_yes n.toNat (by omega) (by omega) mir
  rwa [show ((n.toNat:Nat):Int)=n by omega] at this
 .rename_i h
  exact impl_SolidGroup_no n mir h
theorem GroupOf_o (p q:List Int) (hp:permB p=true) (hq:permB q=true):AC Tryz.prog 55 [I (p.length:Nat),.d true (.sl (.sl .int)) [p,q]] [] (ngR (genO p q)) (ngW (genO p q)):=by
 have h1:=((permB_iff p).1 hp).1
 have h2:=((permB_iff q).1 hq).1
 unfold genO
 split
 .rename_i h
  have hg:GenP p.length [p,q]:=gens2 ⟨hp,rfl⟩ ⟨hq,h.symm⟩
  cases hG:grpO p.length [p,q] with
  |none=>exact impl_GroupOf_none true p.length [p,q] (by omega) (by omega) hg hG
  |some G=>exact impl_GroupOf_some true p.length [p,q] G (by omega) (by omega) hg hG
 .rename_i h
  refine impl_GroupOf_g true p.length (by omega) (by omega) [p,q] (show 2<=1048576 by decide) (fun i hi=>?_) ?_
  .match i,hi with
   |0,_=>show p.length<=1048576;omega
   |1,_=>show q.length<=1048576;omega
  .unfold genB
   rw [List.all_cons,List.all_cons,decide_eq_false (show ¬q.length=p.length from fun e=>h e.symm)]
   simp
theorem impl_newGroup (s2:Bool) (w:List UInt8) (args:List (List UInt8)) (hl:args.length<=1048576) (hw:∀i,i<args.length->(args.getD i []).length<=1048575) (r:List AV) (rr:List Row)
 (h0:ngO w args=none->r=[.nil,.d true .bool false,.d true .bool false]/\rr=[]) (h1:ngO w args=some none->r=[.nil,.d true .bool true,.d true .bool false]/\rr=[])
 (h2:∀G,ngO w args=some (some G)->r=[.ow 0,.d true .bool true,.d true .bool true]/\rr=[.sl 29 (.sw 3 true) G]):
 AC Tryz.prog 30 [.arr .mix [.str w,.int (args.length:Nat)],.d s2 (.sl .str) args] [] r rr:=by
 have q0:0<2:=by decide
 have q1:2<=1000:=by decide
 have q2:1<2:=by decide
 unfold ngO at h0 h1 h2
 have hw2:∀i,i<args.length->(args.getD i []).length<=1048576:=fun i hi=>by have:=hw i hi;omega
 have hml:(args.map prsV).length=args.length:=List.length_map ..
 refine AC_of tauOk 120 0 [4,5,6] Tryz.func30 rfl (by kernel_rfl) rfl rfl rfl rfl rfl ?_
 refine ⟨q0,q1,q0,q0,fun g1=>⟨q2,q2,fun g2=>?_,fun g2=>?_⟩,fun g1=>?_⟩
 .rw [if_pos (show w=_/\_ from ⟨g1,g2⟩)] at h0 h1 h2
  have i0:0<args.length:=by omega
  have i1:1<args.length:=by omega
  have P0:=impl_ParsePerm_both (args.getD 0 []) (hw 0 i0)
  have P1:=impl_ParsePerm_both (args.getD 1 []) (hw 1 i1)
  refine ⟨0,rfl,i0,?_⟩
  cases hp:prpB (args.getD 0 [])
  .obtain ⟨rfl,rfl⟩:=h0 (if_neg (by rw [hp];simp))
   refine ⟨[],false,_,_,P0 _ _ (fun _=>⟨rfl,rfl⟩) (fun h=>by rw [hp] at h;cases h),nd0,rfl,rfl,trivial,nofun,fun _=>?_⟩
   refine ⟨1,rfl,i1,?_⟩
   cases hq:prpB (args.getD 1 [])
   .refine ⟨[],false,_,_,P1 _ _ (fun _=>⟨rfl,rfl⟩) (fun h=>by rw [hq] at h;cases h),nd0,rfl,rfl,trivial,nofun,fun _=>?_⟩
    refine ⟨rfl,by decide,false,[],false,_,_,impl_GroupOf_n true 0 [[],[]] (by omega),nd0,rfl,rfl,trivial,nofun,fun _=>?_⟩
    exact ⟨none,⟨rfl,rfl,rfl,trivial⟩,rfl,rfl⟩
   .refine ⟨[],true,_,_,P1 _ _ (fun h=>by rw [hq] at h;cases h) (fun _=>⟨rfl,rfl⟩),nd0,rfl,rfl,trivial,fun _=>?_,nofun⟩
    refine ⟨rfl,by decide,false,[],false,_,_,impl_GroupOf_n true 0 [[],prpL (args.getD 1 [])] (by omega),nd0,rfl,rfl,trivial,nofun,fun _=>?_⟩
    exact ⟨none,⟨rfl,rfl,rfl,trivial⟩,rfl,rfl⟩
  .have hpp:=prp_perm hp
   have hpl:=((permB_iff _).1 hpp).1
   refine ⟨[],true,_,_,P0 _ _ (fun h=>by rw [hp] at h;cases h) (fun _=>⟨rfl,rfl⟩),nd0,rfl,rfl,trivial,fun _=>?_,nofun⟩
   refine ⟨1,rfl,i1,?_⟩
   cases hq:prpB (args.getD 1 [])
   .obtain ⟨rfl,rfl⟩:=h0 (if_neg (by rw [hq];simp))
    refine ⟨[],false,_,_,P1 _ _ (fun _=>⟨rfl,rfl⟩) (fun h=>by rw [hq] at h;cases h),nd0,rfl,rfl,trivial,nofun,fun _=>?_⟩
    have hG:=impl_GroupOf_g true (prpL (args.getD 0 [])).length (by omega) (by omega) [prpL (args.getD 0 []),[]] (show 2<=1048576 by decide) (fun i hi=>by
     match i,hi with
     |0,_=>show (prpL (args.getD 0 [])).length<=1048576;omega
     |1,_=>show 0<=1048576;omega) (by unfold genB;rw [List.all_cons,List.all_cons];simp [permB])
    refine ⟨rfl,by decide,false,[],false,_,_,hG,nd0,rfl,rfl,trivial,nofun,fun _=>?_⟩
    exact ⟨none,⟨rfl,rfl,rfl,trivial⟩,rfl,rfl⟩
   .have hqp:=prp_perm hq
    rw [if_pos ⟨hp,hq⟩] at h0 h1 h2
    refine ⟨[],true,_,_,P1 _ _ (fun h=>by rw [hq] at h;cases h) (fun _=>⟨rfl,rfl⟩),nd0,rfl,rfl,trivial,fun _=>?_,nofun⟩
    have hG:=GroupOf_o (prpL (args.getD 0 [])) (prpL (args.getD 1 [])) hpp hqp
    cases hO:genO (prpL (args.getD 0 [])) (prpL (args.getD 1 [])) with
    |none=>
     rw [hO] at hG
     obtain ⟨rfl,rfl⟩:=h1 (by rw [hO])
     refine ⟨rfl,by decide,false,[],false,_,_,hG,nd0,rfl,rfl,trivial,nofun,fun _=>?_⟩
     exact ⟨none,⟨rfl,rfl,rfl,trivial⟩,rfl,rfl⟩
    |some G=>
     rw [hO] at hG
     obtain ⟨rfl,rfl⟩:=h2 G (by rw [hO])
     refine ⟨rfl,by decide,false,[],false,_,_,hG,nd0,rfl,rfl,trivial,fun _=>?_,nofun⟩
     exact ⟨some 1,⟨⟨rfl,rfl⟩,rfl,rfl,trivial⟩,⟨rfl,rfl⟩,rfl⟩
 all_goals
  rw [if_neg (fun e=>by first|exact g1 e.1|exact g2 e.2)] at h0 h1 h2
  have hI:=impl_ints_both s2 args hl hw2
  cases hA:args.all prsB
  .obtain ⟨rfl,rfl⟩:=h0 (if_neg (by rw [hA];simp))
   refine ⟨[],false,_,_,hI _ _ (fun _=>⟨rfl,rfl⟩) (fun h=>by rw [hA] at h;cases h),nd0,rfl,rfl,trivial,nofun,fun _=>?_⟩
   exact ⟨none,⟨rfl,rfl,rfl,trivial⟩,rfl,rfl⟩
  rw [if_pos hA] at h0 h1 h2
  refine ⟨[],true,_,_,hI _ _ (fun h=>by rw [hA] at h;cases h) (fun _=>⟨rfl,rfl⟩),nd0,rfl,rfl,trivial,fun _=>?_,nofun⟩
  have e0:∀j,j<args.length->prsV (args.getD j [])=(args.map prsV).getD j 0:=fun j hj=>(map_get prsV args j hj).symm
  refine ⟨rfl,fun g3=>?_,fun g3=>?_⟩
  .rw [if_pos g3,e0 0 (by omega)] at h0 h1 h2
   have hG:=CyclicGroup_o ((args.map prsV).getD 0 0)
   refine ⟨0,rfl,by omega,?_⟩
   cases hO:cycO ((args.map prsV).getD 0 0) with
   |none=>
    rw [hO] at hG
    obtain ⟨rfl,rfl⟩:=h1 (by rw [hO])
    refine ⟨[],false,_,_,hG,nd0,rfl,rfl,trivial,nofun,fun _=>?_⟩
    exact ⟨none,⟨rfl,rfl,rfl,trivial⟩,rfl,rfl⟩
   |some G=>
    rw [hO] at hG
    obtain ⟨rfl,rfl⟩:=h2 G (by rw [hO])
    refine ⟨[],false,_,_,hG,nd0,rfl,rfl,trivial,fun _=>?_,nofun⟩
    exact ⟨some 1,⟨⟨rfl,rfl⟩,rfl,rfl,trivial⟩,⟨rfl,rfl⟩,rfl⟩
  rw [if_neg g3] at h0 h1 h2
  clear g3
  refine ⟨fun g3=>?_,fun g3=>?_⟩
  .rw [if_pos g3,e0 0 (by omega)] at h0 h1 h2
   have hG:=DihedralGroup_o ((args.map prsV).getD 0 0)
   refine ⟨0,rfl,by omega,?_⟩
   cases hO:dihO ((args.map prsV).getD 0 0) with
   |none=>
    rw [hO] at hG
    obtain ⟨rfl,rfl⟩:=h1 (by rw [hO])
    refine ⟨[],false,_,_,hG,nd0,rfl,rfl,trivial,nofun,fun _=>?_⟩
    exact ⟨none,⟨rfl,rfl,rfl,trivial⟩,rfl,rfl⟩
   |some G=>
    rw [hO] at hG
    obtain ⟨rfl,rfl⟩:=h2 G (by rw [hO])
    refine ⟨[],false,_,_,hG,nd0,rfl,rfl,trivial,fun _=>?_,nofun⟩
    exact ⟨some 1,⟨⟨rfl,rfl⟩,rfl,rfl,trivial⟩,⟨rfl,rfl⟩,rfl⟩
  rw [if_neg g3] at h0 h1 h2
  clear g3
  refine ⟨fun g3=>?_,fun g3=>?_⟩
  .rw [if_pos g3,e0 0 (by omega)] at h0 h1 h2
   have hG:=SymmetricGroup_o ((args.map prsV).getD 0 0)
   refine ⟨0,rfl,by omega,?_⟩
   cases hO:symO ((args.map prsV).getD 0 0) with
   |none=>
    rw [hO] at hG
    obtain ⟨rfl,rfl⟩:=h1 (by rw [hO])
    refine ⟨[],false,_,_,hG,nd0,rfl,rfl,trivial,nofun,fun _=>?_⟩
    exact ⟨none,⟨rfl,rfl,rfl,trivial⟩,rfl,rfl⟩
   |some G=>
    rw [hO] at hG
    obtain ⟨rfl,rfl⟩:=h2 G (by rw [hO])
    refine ⟨[],false,_,_,hG,nd0,rfl,rfl,trivial,fun _=>?_,nofun⟩
    exact ⟨some 1,⟨⟨rfl,rfl⟩,rfl,rfl,trivial⟩,⟨rfl,rfl⟩,rfl⟩
  rw [if_neg g3] at h0 h1 h2
  clear g3
  refine ⟨fun g3=>?_,fun g3=>?_⟩
  .rw [if_pos g3,e0 0 (by omega),e0 1 (by omega)] at h0 h1 h2
   refine ⟨some 4000,[0,1,2,3,4,5],.one 6 (.one 7 (.one 8 (.two 9 (.two 10 (.one 11 (.one 12 .done)) 11 (.one 10 (.one 12 .done))) 10 (.one 9 (.one 11 (.one 12 .done)))))),by kernel_rfl,rfl,?_⟩
   refine ⟨0,rfl,by omega,1,rfl,by omega,fun g4=>?_,fun g4=>?_⟩
   .have hG:=SolidGroup_o ((args.map prsV).getD 0 0) true
    have hd:decide ((args.map prsV).getD 1 0≠0)=true:=decide_eq_true g4
    rw [hd] at h0 h1 h2
    cases hO:solO ((args.map prsV).getD 0 0) true with
    |none=>
     rw [hO] at hG
     obtain ⟨rfl,rfl⟩:=h1 (by rw [hO])
     refine ⟨[],false,_,_,hG,nd0,rfl,rfl,trivial,⟨⟨nofun,fun _=>?_⟩,⟨nofun,fun _=>?_⟩⟩,⟨nofun,fun _=>?_⟩⟩<;>
     exact ⟨none,⟨rfl,rfl,rfl,trivial⟩,rfl,rfl⟩
    |some G=>
     rw [hO] at hG
     obtain ⟨rfl,rfl⟩:=h2 G (by rw [hO])
     refine ⟨[],false,_,_,hG,nd0,rfl,rfl,trivial,⟨⟨fun _=>?_,nofun⟩,⟨fun _=>?_,nofun⟩⟩,⟨fun _=>?_,nofun⟩⟩<;>
     exact ⟨some 1,⟨⟨rfl,rfl⟩,rfl,rfl,trivial⟩,⟨rfl,rfl⟩,rfl⟩
   .have hG:=SolidGroup_o ((args.map prsV).getD 0 0) false
    have hd:decide ((args.map prsV).getD 1 0≠0)=false:=decide_eq_false g4
    rw [hd] at h0 h1 h2
    cases hO:solO ((args.map prsV).getD 0 0) false with
    |none=>
     rw [hO] at hG
     obtain ⟨rfl,rfl⟩:=h1 (by rw [hO])
     refine ⟨[],false,_,_,hG,nd0,rfl,rfl,trivial,⟨⟨nofun,fun _=>?_⟩,⟨nofun,fun _=>?_⟩⟩,⟨nofun,fun _=>?_⟩⟩<;>
     exact ⟨none,⟨rfl,rfl,rfl,trivial⟩,rfl,rfl⟩
    |some G=>
     rw [hO] at hG
     obtain ⟨rfl,rfl⟩:=h2 G (by rw [hO])
     refine ⟨[],false,_,_,hG,nd0,rfl,rfl,trivial,⟨⟨fun _=>?_,nofun⟩,⟨fun _=>?_,nofun⟩⟩,⟨fun _=>?_,nofun⟩⟩<;>
     exact ⟨some 1,⟨⟨rfl,rfl⟩,rfl,rfl,trivial⟩,⟨rfl,rfl⟩,rfl⟩
  rw [if_neg g3] at h0 h1 h2
  obtain ⟨rfl,rfl⟩:=h0 rfl
  exact ⟨none,⟨rfl,rfl,rfl,trivial⟩,rfl,rfl⟩
theorem idx_some {c:UInt8} {p:UInt8->Bool} (hp:∀b,p b=(b==c)):∀{s:List UInt8},0<s.count c->∃m:Nat,Lib.indexByte s c=(m:Int)/\m<s.length/\(s.drop (m+1)).count c+1=s.count c/\splR p s=s.take m::splR p (s.drop (m+1))
 |[],h=>by simp at h
 |b::s,h=>by
  cases hb:(b==c) with
  |true=>
   refine ⟨0,by rw [Lib.indexByte,hb];rfl,by simp,?_,?_⟩
   .rw [List.count_cons,if_pos hb];rfl
   .rw [splR,if_pos (by rw [hp];exact hb)];rfl
  |false=>
   have hc:(b::s).count c=s.count c:=by rw [List.count_cons,if_neg (by rw [hb];decide)];rfl
   rw [hc] at h
   obtain ⟨m,h1,h2,h3,h4⟩:=idx_some hp h
   refine ⟨m+1,?_,by simp;omega,by rw [hc];exact h3,?_⟩
   .rw [Lib.indexByte,hb,h1,if_neg (by decide),if_neg (by
     intro e
     have:((m:Int))= -1:=beq_iff_eq.1 e
     omega)]
    omega
   .rw [splR_no p b s (by rw [hp];exact hb),h4];rfl
theorem splR_none {c:UInt8} {p:UInt8->Bool} (hp:∀b,p b=(b==c)):∀{s:List UInt8},s.count c=0->splR p s=[s]
 |[],_=>rfl
 |b::s,h=>by
  have hb:(b==c)=false:=by
   rw [Bool.eq_false_iff]
   intro e
   rw [List.count_cons,if_pos e] at h
   omega
  have h2:s.count c=0:=by rw [List.count_cons,if_neg (by rw [hb];decide)] at h;omega
  rw [splR_no p b s (by rw [hp];exact hb),splR_none hp h2];rfl
def rstL (c:UInt8) (s:List UInt8):Nat->List UInt8
 |0=>s
 |i+1=>(rstL c s i).drop ((Lib.indexByte (rstL c s i) c).toNat+1)
theorem take_mid {α:Type} {W A R:List α} {x:α} {i:Nat} (hA:A.length=i) (h:A++x::R=W):W.take (i+1)=A++[x]:=by
 rw [<-h,List.take_append,List.take_of_length_le (by omega),hA,show i+1-i=1 by omega];rfl
theorem rst_spl {c:UInt8} {p:UInt8->Bool} (hp:∀b,p b=(b==c)) (s:List UInt8):∀i,i<=s.count c->(rstL c s i).count c=s.count c-i/\(rstL c s i).length<=s.length/\(splR p s).take i++splR p (rstL c s i)=splR p s/\((splR p s).take i).length=i
 |0,_=>⟨rfl,Nat.le_refl _,rfl,rfl⟩
 |i+1,hi=>by
  obtain ⟨h1,h2,h3,h4⟩:=rst_spl hp s i (by omega)
  obtain ⟨m,g1,g2,g3,g4⟩:=idx_some hp (s:=rstL c s i) (by omega)
  have e:rstL c s (i+1)=(rstL c s i).drop (m+1):=by rw [rstL,g1,Int.toNat_natCast]
  have h5:(splR p s).take (i+1)=(splR p s).take i++[(rstL c s i).take m]:=take_mid h4 (by rw [<-g4];exact h3)
  rw [e]
  refine ⟨by omega,by rw [List.length_drop];omega,?_,by rw [h5,List.length_append,h4];rfl⟩
  rw [h5,List.append_assoc]
  show (splR p s).take i++((rstL c s i).take m::splR p ((rstL c s i).drop (m+1)))=_
  rw [<-g4,h3]
theorem spl_cnt {c:UInt8} {p:UInt8->Bool} (hp:∀b,p b=(b==c)) (s:List UInt8):splR p s=(splR p s).take (s.count c)++[rstL c s (s.count c)]/\(splR p s).length=s.count c+1:=by
 obtain ⟨h1,h2,h3,h4⟩:=rst_spl hp s (s.count c) (Nat.le_refl _)
 rw [splR_none hp (s:=rstL c s (s.count c)) (by omega)] at h3
 refine ⟨h3.symm,?_⟩
 have:=congrArg List.length h3
 rw [List.length_append,h4] at this
 exact this.symm
theorem byB_one (c:UInt8) (b:UInt8):byB [c] b=(b==c):=by
 unfold byB
 show decide (0<=if (c==b)=true then (0:Int) else if (Lib.indexByte [] b== -1)=true then-1 else Lib.indexByte [] b+1)=_
 by_cases h:b=c
 .subst h;simp
 .have h2:(c==b)=false:=by simp;exact fun e=>h e.symm
  have h3:(b==c)=false:=by simp;exact h
  rw [h2,h3];rfl
theorem set_mid {α:Type} (a b:List α) (x z:α) {i:Nat} (h:a.length=i):(a++z::b).set i x=a++x::b:=by
 rw [List.set_append_right _ _ (by omega),h,Nat.sub_self];rfl
theorem strings_Index1 (s:List UInt8) (c:UInt8):AC Tryz.prog 144 [.d true .str s,.d true .str [c]] [] [I (Lib.indexByte s c)] []:=by
 refine AC.flat (v:=.int .i64 (Lib.indexByte s c)) (fun w A=>rfl) ⟨_,_,Tryz.func144,rfl,by kernel_rfl⟩ fun w A vs hold hvs=>?_
 obtain ⟨v,r,rfl,h1,v2,r2,rfl,h2,h3⟩:=hvs
 cases h1
 cases h2
 cases h3
 exact (Tryz.strings_Index_one ⟨s.toArray⟩ c w).mono fun e w' ⟨he,hw⟩=>⟨he,hw ▸ RowKit.Below.refl _ _⟩
theorem strings_Count1 (s:List UInt8) (c:UInt8):AC Tryz.prog 143 [.d true .str s,.d true .str [c]] [] [I ((s.count c:Nat):Int)] []:=by
 refine AC.flat (v:=.int .i64 ((s.count c:Nat):Int)) (fun w A=>rfl) ⟨_,_,Tryz.func143,rfl,by kernel_rfl⟩ fun w A vs hold hvs=>?_
 obtain ⟨v,r,rfl,h1,v2,r2,rfl,h2,h3⟩:=hvs
 cases h1
 cases h2
 cases h3
 exact (Tryz.strings_Count_one ⟨s.toArray⟩ c w).mono fun e w' ⟨he,hw⟩=>⟨he,hw ▸ RowKit.Below.refl _ _⟩
theorem strings_genSplit (s:List UInt8) (c:UInt8) (hl:s.length<=1048576):AC Tryz.prog 58 [.d true .str s,.d true .str [c],I 0,I (-1)] [] [.ow 0] [.sl 9 .str (wrdG (byB [c]) s)]:=by
 have hp:=byB_one c
 rw [wrdG_eq]
 obtain ⟨e1,e2⟩:=spl_cnt hp s
 have hR:=rst_spl hp s
 have hn:s.count c<=s.length:=List.count_le_length
 have hI:=fun i=>strings_Index1 (rstL c s i) c
 have hx:=fun i=>idx_some hp (s:=rstL c s i)
 have hr0:rstL c s 0=s:=rfl
 have hrS:∀i,rstL c s (i+1)=(rstL c s i).drop ((Lib.indexByte (rstL c s i) c).toNat+1):=fun i=>rfl
 generalize rstL c s=rs at*
 have hcut:(splR (byB [c]) s).take (s.count c+1)=splR (byB [c]) s:=List.take_of_length_le (by omega)
 have hC:=strings_Count1 s c
 generalize splR (byB [c]) s=W at*
 generalize s.count c=n at*
 have hmin:(if ((s.length:Nat):Int)+1<(n:Int)+1 then ((s.length:Nat):Int)+1 else (n:Int)+1)=((n+1:Nat):Int):=by
  rw [if_neg (show ¬((s.length:Nat):Int)+1<(n:Int)+1 by omega)];omega
 suffices h:AC Tryz.prog 58 [.d true .str s,.d true .str [c],I 0,I (-1)] [] [.x (.sb 0 0 (n+1))] [.sl 9 .str W] by
  have:=AC.cut0 h
  rwa [hcut] at this
 refine AC_of tauOk 66 0 [8] Tryz.func58 rfl (by kernel_rfl) rfl rfl rfl rfl rfl ?_
 refine ⟨fun h=>by omega,fun _=>?_⟩
 refine ⟨fun h=>(by cases h),fun _=>?_⟩
 refine ⟨fun _=>?_,fun h=>(h (by omega)).elim⟩
 refine ⟨[],false,_,_,hC,nd0,rfl,rfl,trivial,_,w64_in _ (by omega) (by omega),_,w64_in _ (by omega) (by omega),?_⟩
 refine ⟨n+1,n+1,hmin,hmin,Nat.le_refl _,by omega,?_⟩
 refine ⟨(n:Int),w64_eq (show (n:Int)=(if ((s.length:Nat):Int)+1<(n:Int)+1 then ((s.length:Nat):Int)+1 else (n:Int)+1)-1 by rw [hmin];omega) (by omega) (by omega),?_⟩
 refine ⟨Nat,fun i=>⟨[(0,.d true .str (rs i)),(1,.d true .str [c]),(2,I 0),(3,I (n:Nat)),(9,.ow 0),(10,I (i:Nat))],[.sl 9 .str (W.take i++List.replicate (n+1-i) [])]⟩,fun i=>i<=n,fun i=>n-i,0,Nat.zero_le _,
  ⟨⟨rfl,rfl⟩,⟨by rw [hr0];rfl,rfl,rfl,rfl,rfl,rfl,trivial⟩,rfl,trivial⟩,fun i hi=>?_⟩
 dsimp only at hi
 obtain ⟨r1,r2,r3,r4⟩:=hR i hi
 have hwl:(W.take i++List.replicate (n+1-i) ([]:List UInt8)).length=n+1:=by rw [List.length_append,r4,List.length_replicate];omega
 have hset:∀x:List UInt8,(W.take i++List.replicate (n+1-i) ([]:List UInt8)).set i x=W.take i++x::List.replicate (n-i) []:=fun x=>by
  rw [show n+1-i=(n-i)+1 by omega,List.replicate_succ]
  exact set_mid _ _ x [] r4
 refine ⟨fun h1=>?_,fun h1=>?_⟩
 .have hi2:i<n:=by omega
  obtain ⟨m,g1,g2,g3,g4⟩:=hx i (by omega)
  have hIi:=hI i
  rw [g1] at hIi
  have hSi:=hrS i
  rw [g1,Int.toNat_natCast] at hSi
  have hW:W.take (i+1)=W.take i++[(rs i).take m]:=take_mid r4 (by rw [<-g4];exact r3)
  refine ⟨[],false,_,_,hIi,nd0,rfl,rfl,trivial,fun h2=>by omega,fun _=>?_⟩
  refine ⟨(m:Int),w64_eq (by omega) (by omega) (by omega),m,rfl,Nat.zero_le _,by omega,i,rfl,by omega,?_⟩
  refine ⟨((m+1:Nat):Int),w64_eq (by show ((m+1:Nat):Int)=(m:Int)+1;omega) (by omega) (by omega),m+1,rfl,by omega,Nat.le_refl _,?_⟩
  refine ⟨((i+1:Nat):Int),w64_eq (by omega) (by omega) (by omega),i+1,by dsimp only;omega,by dsimp only;omega,⟨rfl,rfl⟩,⟨?_,rfl,rfl,rfl,rfl,rfl,trivial⟩,rowE ?_,trivial⟩
  .rw [hSi,List.take_length];rfl
  .rw [hset,hW,List.drop_zero,show n+1-(i+1)=n-i by omega,List.append_assoc];rfl
 .obtain rfl:i=n:=by omega
  refine ⟨i,rfl,by omega,_,w64_in _ (by omega) (by omega),?_⟩
  refine ⟨i+1,rfl,Nat.zero_le _,by rw [List.length_set];omega,?_⟩
  refine ⟨some 0,⟨⟨rfl,rfl⟩,trivial⟩,⟨rfl,rowsE ?_⟩,rfl⟩
  rw [hset,Nat.sub_self]
  exact e1.symm
theorem strings_Split (s:List UInt8) (c:UInt8) (hl:s.length<=1048576):AC Tryz.prog 29 [.d true .str s,.d true .str [c]] [] [.ow 0] [.sl 9 .str (wrdG (byB [c]) s)]:=by
 refine AC_of tauOk 8 0 [4] Tryz.func29 rfl (by kernel_rfl) rfl rfl rfl rfl rfl ?_
 refine ⟨[],false,_,_,strings_genSplit s c hl,nd0,rfl,rfl,trivial,?_⟩
 exact ⟨some 0,⟨⟨rfl,rfl⟩,trivial⟩,⟨rfl,rfl⟩,rfl⟩
theorem qi_of {n:Nat} {gens out q:List (List Int)} (h1:1<=n) (h2:n<=10) (hg:GenQ n gens) (h:BfP n gens out q):QI n q:=
 ⟨List.length_pos_of_mem h.id,by have:=bf_len h;have:=h.l;omega,fun x hx=>wd_perm h1 h2 hg (h.w x hx)⟩
theorem innSI {n a:Nat} {gens:List (List Int)} (h1:1<=n) (h2:n<=10) (hg:GenQ n gens):∀(gs out q:List (List Int)),(∀s∈gs,s∈gens)->BfP n gens out q->a<q.length->innI n a gs q=(innS n a gs out q).map Prod.snd
 |[],out,q,_,h,ha=>by rw [innI,innS];rfl
 |s::gs,out,q,hs,h,ha=>by
  have hl:=bf_len h
  rw [innI_step (qi_of h1 h2 hg h) ha,innS_step h1 h2 hg h ha]
  have hs2:∀s∈gs,s∈gens:=fun x hx=>hs x (by simp [hx])
  by_cases hm:exL (q.getD a []) s∈q
  .rw [if_pos (List.any_eq_true.2 ⟨_,hm,decide_eq_true rfl⟩),if_pos hm]
   exact innSI h1 h2 hg gs out q hs2 h ha
  .have hm2:¬(q.any fun x=>decide (x=exL (q.getD a []) s))=true:=fun e=>by
    obtain ⟨x,hx,e⟩:=List.any_eq_true.1 e
    rw [<-of_decide_eq_true e] at hm
    exact hm hx
   rw [if_neg hm2,if_neg hm]
   by_cases h120:out.length=120
   .rw [if_pos (by omega),if_pos h120];rfl
   .rw [if_neg (by omega),if_neg h120]
    exact innSI h1 h2 hg gs _ _ hs2 (bf_add h ha (hs s (by simp)) hm h120) (by simp;omega)
theorem bfsSI {n:Nat} {gens:List (List Int)} (h1:1<=n) (h2:n<=10) (hg:GenQ n gens):∀(f a:Nat) (out q:List (List Int)),BfP n gens out q->
 (bfsS n gens f a out q=none/\bfsI n gens f a q=none)\/∃R Q,bfsS n gens f a out q=some R/\bfsI n gens f a q=some Q/\BfP n gens R Q
 |0,a,out,q,h=>.inl ⟨rfl,rfl⟩
 |f+1,a,out,q,h=>by
  rw [bfsS,bfsI]
  by_cases ha:a<q.length
  .rw [if_pos ha,if_pos ha,innSI h1 h2 hg gens out q (fun _ hx=>hx) h ha]
   cases ho:innS n a gens out q with
   |none=>exact .inl ⟨rfl,rfl⟩
   |some o=>
    obtain ⟨g1,_,_⟩:=innS_ok h1 h2 hg gens out q o (fun _ hx=>hx) h ha ho
    exact bfsSI h1 h2 hg f (a+1) o.1 o.2 g1
  .rw [if_neg ha,if_neg ha]
   exact .inr ⟨out,q,rfl,rfl,h⟩
theorem srt_uniq {R Q:List (List Int)} (ha:AscL R) (hp:R.Perm Q):srtL Q=R:=by
 refine List.Perm.eq_of_pairwise (le:=fun x y=>¬cmpI y x<0) (fun a b _ _ h1 h2=>?_) (srtL_s Q) (ha.imp fun {a b} h=>?_) ((srtL_p Q).trans hp.symm)
 .have:=cmpI_neg a b
  exact cmpI_eq _ _ (by omega)
 .have:=cmpI_neg a b
  omega
theorem grpO_fnd {n:Nat} {gens:List (List Int)} (h1:1<=n) (h2:n<=10) (hg:GenQ n gens):grpO n gens=fndG n gens:=by
 unfold grpO fndG
 rcases bfsSI h1 h2 hg 200 0 _ _ (bf_start gens) with ⟨e1,e2⟩|⟨R,Q,e1,e2,hB⟩
 .rw [e1,e2];rfl
 .rw [e1,e2]
  show some (srtL Q)=some R
  rw [srt_uniq hB.a hB.p]
theorem grpO_gok {n:Nat} {gens G:List (List Int)} (h1:1<=n) (h2:n<=10) (hg:GenQ n gens) (h:grpO n gens=some G):gokB G=true:=by
 rw [grpO_fnd h1 h2 hg] at h
 exact grq_gok (bfs_closed h1 h2 hg h)
theorem gG_gok {n:Nat} {gens:List (List Int)} (h1:1<=n) (h2:n<=10) (hg:GenP n gens) (hs:(bfsI n gens 200 0 [idL n]).isSome=true):gokB (gG n gens)=true:=
 grpO_gok h1 h2 (gen_q hg) (gG_some hs)
end Go.Proofs.YtacjiemkbhhhoaaGreatDoor
namespace Go.Proofs.YtacjiemkbhhhoaaGreatDoor
open Go Go.RowKit Go.Proofs.YtacjiemkbhhhoaaGreatDoor.Ow
theorem AC.frzw3 {P:Program} {f:FuncId} {args:List AV} {E:TypeId} {e:Nat} {d:Bool} {G:List (List Int)} {b1 b2:Bool} (h:AC P f args [] [.ow 0,.d true .bool b1,.d true .bool b2] [.sl E (.sw e d) G]):
 AC P f args [] [.d true (.sl (.sl .int)) G,.d true .bool b1,.d true .bool b2] []:=by
 refine ⟨h.1,fun w bs A vs hr hv=>(h.2 w bs A vs hr hv).mono ?_⟩
 rintro ex w' ⟨rv,bs',A',rfl,hrok,⟨vs',hvs,v1,r1,rfl,hx,hrest⟩,hstep,⟨new,rfl⟩,hstay,hup⟩
 have hbs:bs=[]:=List.eq_nil_of_length_eq_zero (by rw [hr.len];rfl)
 subst hbs
 obtain ⟨b,e2,t2,xs2,cur,h1,h2,h3,h4⟩:=hx
 cases h2
 obtain ⟨hA,cur2,c1,c2,c3,c4⟩:=hrok.row 0 b _ h1 rfl
 rw [h3] at c1;cases c1
 have hb:=List.mem_of_getElem? h1
 have hnew:w.heap.size<=b:=by
  rcases hstep.sbs b hb with h|h
  .simp at h
  .exact h
 refine ⟨rv,[],fun x=>A' x\/x=b,rfl,⟨rfl,nd0,fun b hb=>by simp at hb,fun x hx=>?_,fun i b r hb=>by simp at hb⟩,⟨_,hvs,v1,r1,rfl,?_,hrest⟩,⟨hstep.os,hstep.tape,hstep.output,hstep.size,fun k hk _=>hstep.block k hk (by simp),fun b hb=>by simp at hb,fun x hx=>?_⟩,⟨[],rfl⟩,fun b hb=>by simp at hb,fun x hx=>.inl (hup x hx)⟩
 .rcases hx with hx|hx
  .exact hrok.old x hx
  .rw [hx];exact hrok.lt b hb
 .refine ⟨some ⟨b,0,none⟩,cur.size,h4,c2,(fun hh=>by simp at hh),.inr ⟨b,0,rfl,.inr rfl,fun j hj=>?_⟩⟩
  obtain ⟨cv,k1,k2⟩:=c4 j hj
  exact ⟨cv,by rw [Nat.zero_add,cell_of_row w' b j cur _ (0,0) h3];exact k1,Rd.ext (fun b hb _=>⟨rfl,.inl hb⟩) (.sl .int) _ _ (RdW.rd k2)⟩
 .rcases hx with hx|hx
  .rcases hstep.sA x hx with h|h|h
   .exact .inl h
   .exact .inr (.inl h)
   .simp at h
  .exact .inr (.inl (by rw [hx];exact hnew))
theorem AC.frzwd {P:Program} {f:FuncId} {args:List AV} {E:TypeId} {e:Nat} {d:Bool} {G:List (List Int)} (h:AC P f args [] [.ow 0] [.sl E (.sw e d) G]):
 AC P f args [] [.d true (.sl (.sl .int)) G] []:=by
 refine ⟨h.1,fun w bs A vs hr hv=>(h.2 w bs A vs hr hv).mono ?_⟩
 rintro ex w' ⟨rv,bs',A',rfl,hrok,hx,hstep,⟨new,rfl⟩,hstay,hup⟩
 have hbs:bs=[]:=List.eq_nil_of_length_eq_zero (by rw [hr.len];rfl)
 subst hbs
 obtain ⟨b,e2,t2,xs2,cur,h1,h2,h3,h4⟩:=hx
 cases h2
 obtain ⟨hA,cur2,c1,c2,c3,c4⟩:=hrok.row 0 b _ h1 rfl
 rw [h3] at c1;cases c1
 have hb:=List.mem_of_getElem? h1
 have hnew:w.heap.size<=b:=by
  rcases hstep.sbs b hb with h|h
  .simp at h
  .exact h
 refine ⟨rv,[],fun x=>A' x\/x=b,rfl,⟨rfl,nd0,fun b hb=>by simp at hb,fun x hx=>?_,fun i b r hb=>by simp at hb⟩,?_,⟨hstep.os,hstep.tape,hstep.output,hstep.size,fun k hk _=>hstep.block k hk (by simp),fun b hb=>by simp at hb,fun x hx=>?_⟩,⟨[],rfl⟩,fun b hb=>by simp at hb,fun x hx=>.inl (hup x hx)⟩
 .rcases hx with hx|hx
  .exact hrok.old x hx
  .rw [hx];exact hrok.lt b hb
 .refine ⟨some ⟨b,0,none⟩,cur.size,h4,c2,(fun hh=>by simp at hh),.inr ⟨b,0,rfl,.inr rfl,fun j hj=>?_⟩⟩
  obtain ⟨cv,k1,k2⟩:=c4 j hj
  exact ⟨cv,by rw [Nat.zero_add,cell_of_row w' b j cur _ (0,0) h3];exact k1,Rd.ext (fun b hb _=>⟨rfl,.inl hb⟩) (.sl .int) _ _ (RdW.rd k2)⟩
 .rcases hx with hx|hx
  .rcases hstep.sA x hx with h|h|h
   .exact .inl h
   .exact .inr (.inl h)
   .simp at h
  .exact .inr (.inl (by rw [hx];exact hnew))
def rlB (line:List UInt8):Bool:=decide (line=[])||decide (((line.getD 0 0).toNat:Int)=35)
def rlW (line:List UInt8):List UInt8:=(wrdG (byB [32]) line).getD 0 []
def rlA (line:List UInt8):List (List UInt8):=(wrdG (byB [32]) line).drop 1
def ordS:List UInt8:=[111,114,100,101,114,32]
def rlG (g:List (List Int)) (line:List UInt8):List (List Int):=if rlB line=true then g else match ngO (rlW line) (rlA line) with|some (some G)=>G|_=>g
theorem sol_gok (k:Nat) (h1:1<=k) (h4:k<5) (mir:Bool):gokB (solL k mir)=true:=by
 obtain ⟨c1,c2,c3⟩:=sol_chk k h4 h1 mir
 have hn:1<=solN k/\solN k<11:=by unfold solN;split<;>decide
 exact gG_gok hn.1 (by omega) (genP_of c1 c2) c3
theorem ng_gok {w:List UInt8} {args:List (List UInt8)} {G:List (List Int)} (h:ngO w args=some (some G)):gokB G=true:=by
 unfold ngO at h
 split at h
 .split at h
  .rename_i hp
   have h3:=Option.some.inj h
   unfold genO at h3
   split at h3
   .rename_i hl
    have p1:=prp_perm hp.1
    have p2:=prp_perm hp.2
    have b1:=((permB_iff _).1 p1).1
    exact grpO_gok (by omega) (by omega) (gen_q (gens2 ⟨p1,rfl⟩ ⟨p2,hl.symm⟩)) h3
   .cases h3
  .cases h
 .split at h
  .split at h
   .have h3:=Option.some.inj h
    unfold cycO at h3
    split at h3
    .cases h3
     obtain ⟨⟨c1,c2⟩,c3,c4⟩:=grp_chk (prsV (args.getD 0 [])).toNat (by omega) (by omega)
     exact gG_gok (by omega) (by omega) (gens1 c1) c3
    .cases h3
   .split at h
    .have h3:=Option.some.inj h
     unfold dihO at h3
     split at h3
     .cases h3
      obtain ⟨⟨c1,c2⟩,c3,c4⟩:=grp_chk (prsV (args.getD 0 [])).toNat (by omega) (by omega)
      exact gG_gok (by omega) (by omega) (gens2 c1 c2) c4
     .cases h3
    .split at h
     .have h3:=Option.some.inj h
      unfold symO at h3
      split at h3
      .cases h3
       obtain ⟨o,ho,_⟩:=(sym_ok (prsV (args.getD 0 [])).toNat (by omega) (by omega)).i
       exact gG_gok (by omega) (by omega) (gens_ok _ (by omega) (by omega)) (by rw [ho];rfl)
      .cases h3
     .split at h
      .have h3:=Option.some.inj h
       unfold solO at h3
       split at h3
       .cases h3
        exact sol_gok _ (by omega) (by omega) _
       .cases h3
      .cases h
  .cases h
theorem rlG_gok {g:List (List Int)} (hB:gokB g=true) (line:List UInt8):gokB (rlG g line)=true:=by
 unfold rlG
 split
 .exact hB
 .split
  .rename_i h;exact ng_gok h
  .exact hB
theorem impl_newGroup_d (s2:Bool) (w:List UInt8) (args:List (List UInt8)) (hl:args.length<=1048576) (hw:∀i,i<args.length->(args.getD i []).length<=1048575) (r:List AV)
 (h0:ngO w args=none->r=[.nil,.d true .bool false,.d true .bool false]) (h1:ngO w args=some none->r=[.nil,.d true .bool true,.d true .bool false])
 (h2:∀G,ngO w args=some (some G)->r=[.d true (.sl (.sl .int)) G,.d true .bool true,.d true .bool true]):
 AC Tryz.prog 30 [.arr .mix [.str w,.int (args.length:Nat)],.d s2 (.sl .str) args] [] r []:=by
 have h:=impl_newGroup s2 w args hl hw
 cases hO:ngO w args with
 |none=>rw [h0 hO];exact h _ _ (fun _=>⟨rfl,rfl⟩) (fun e=>by rw [hO] at e;cases e) (fun G e=>by rw [hO] at e;cases e)
 |some o=>
  cases o with
  |none=>rw [h1 hO];exact h _ _ (fun e=>by rw [hO] at e;cases e) (fun _=>⟨rfl,rfl⟩) (fun G e=>by rw [hO] at e;cases e)
  |some G=>rw [h2 G hO];exact AC.frzw3 (h _ _ (fun e=>by rw [hO] at e;cases e) (fun e=>by rw [hO] at e;cases e) (fun G2 e=>by rw [hO] at e;cases e;exact ⟨rfl,rfl⟩))
theorem lns_bd (t:List UInt8):(lnsL t).length<=t.length+1/\∀i,i<(lnsL t).length->((lnsL t).getD i []).length<=t.length:=by
 have h1:=(wrdG_pos (byB [10]) t).2
 have h2:=wrdG_el (byB [10]) t
 have hs:∀x∈lnsL t,x∈wrdG (byB [10]) t:=fun x hx=>by
  unfold lnsL at hx
  split at hx
  .exact List.mem_of_mem_take hx
  .exact hx
 refine ⟨?_,fun i hi=>h2 _ (hs _ (by rw [getD_get _ _ _ hi];exact List.getElem_mem _))⟩
 unfold lnsL
 split
 .rw [List.length_take];omega
 .exact h1
theorem impl_NewConsole_d:AC Tryz.prog 12 [] [] [.d true (.sl (.sl .int)) (gG 4 [turnL 4])] []:=by
 refine AC.frzwd (E:=29) (e:=3) (d:=true) ?_
 refine AC_of tauOk 8 0 [0] Tryz.func12 rfl (by kernel_rfl) rfl rfl rfl rfl rfl ?_
 refine ⟨[],false,_,_,impl_CyclicGroup_s 4 (by decide) (by decide),nd0,rfl,rfl,trivial,fun _=>?_,nofun⟩
 exact ⟨some 0,⟨⟨rfl,rfl⟩,trivial⟩,⟨rfl,rfl⟩,rfl⟩
theorem spl_short (p:UInt8->Bool):∀s:List UInt8,∀x∈(splR p s).drop 1,x.length+1<=s.length
 |[],x,hx=>by simp [splR] at hx
 |c::t,x,hx=>by
  rw [splR] at hx
  split at hx
  .have h:x∈splR p t:=hx
   rw [<-wrdG_eq] at h
   have:=wrdG_el p t x h
   simp only [List.length_cons];omega
  .split at hx
   .simp at hx
   .rename_i a r e
    have h:x∈(splR p t).drop 1:=by rw [e];exact hx
    have:=spl_short p t x h
    simp only [List.length_cons];omega
theorem wrd_bd2 (line:List UInt8) (hl:line.length<=1048576):(∀i,i<(rlA line).length->((rlA line).getD i []).length<=1048575)/\(rlA line).length<=1048576:=by
 have h1:=(wrdG_pos (byB [32]) line).2
 refine ⟨fun i hi=>?_,by unfold rlA;rw [List.length_drop];omega⟩
 have hm:(rlA line).getD i []∈rlA line:=by rw [getD_get _ _ _ hi];exact List.getElem_mem _
 unfold rlA at hm
 rw [wrdG_eq] at hm
 have:=spl_short _ _ _ hm
 unfold rlA
 rw [wrdG_eq]
 omega
def orbZ (g:List (List Int)):List (List Int):=if gokB g=true then orbL g else []
def clsZ (g:List (List Int)):List Int:=if gokB g=true then clsL g else []
def plnZ (g:List (List Int)) (w:List UInt8):List UInt8:=
 if w=[105,110,100,101,120] then ixlS g
 else if w=[111,114,98,105,116,115] then Lib.join ((orbZ g).map fmtL) [32]
 else if w=[99,108,97,115,115,101,115] then fmtL (clsZ g)
 else if w=[116,119,111] then fmtL (twoL g)
 else if w=[108,105,115,116] then Lib.join (g.map fmtC) [32]
 else unkS
def tlZ (g:List (List Int)) (w:List UInt8) (args:List (List UInt8)):List UInt8:=
 if (args.length:Int)=0 then plnZ g w
 else if (args.length:Int)=1/\wlnS g w (args.getD 0 [])≠unkS then wlnS g w (args.getD 0 [])
 else if args.all prsB=true then nlnS g w (args.map prsV) else unkS
def rlZ (g:List (List Int)) (line:List UInt8):List UInt8:=if rlB line=true then [] else match ngO (rlW line) (rlA line) with|some (some G)=>ordS++fmtI (G.length:Nat)|some none=>nonS|none=>tlZ g (rlW line) (rlA line)
theorem fmtC_len (xs:List Int):(fmtC xs).length<=4000:=by
 unfold fmtC
 split
 .rename_i h
  have hP:=(permB_iff _).1 h
  split
  .simp
  .have:=fcyL_len hP _ (Nat.le_refl _);omega
 .simp
theorem lst_len (g:List (List Int)) (hgl:g.length<=1048576):(Lib.join (g.map fmtC) [32]).length<=140737488355328:=by
 have:=join_bd (g.map fmtC) 4000 (fun x hx=>by
  obtain ⟨l,hl,rfl⟩:=List.mem_map.1 hx
  exact fmtC_len l)
 have hgm:(g.map fmtC).length=g.length:=List.length_map ..
 rw [hgm] at this
 omega
theorem pln_bd {g:List (List Int)} (hB:gokB g=true):(orbL g).length<=10/\(∀l∈orbL g,In64 l/\l.length<=1048576)/\(Lib.join ((orbL g).map fmtL) [32]).length<=140737488355328/\In64 (clsL g)/\(clsL g).length<=1048576/\In64 (twoL g)/\(twoL g).length<=1048576:=by
 obtain ⟨⟨hg1,hg2⟩,hgp⟩:=perm_bd hB
 have hn:=(hgp 0 (by omega)).1.1
 have hol:=(orbS_ok g (g.getD 0 []).length (g.getD 0 []).length).2
 have hoe:∀l∈orbL g,l.length<=120/\∀x∈l,0<=x/\x<10:=orbS_el hB _ (Nat.le_refl _)
 have hol:(orbL g).length<=10:=by show (orbS g (g.getD 0 []).length (g.getD 0 []).length).2.length<=10;omega
 have ho64:∀l∈orbL g,In64 l:=fun l hl=>in64_of (B:=10) (by decide) fun x hx=>by have:=(hoe l hl).2 x hx;omega
 have hcl:(clsL g).length=g.length:=(clsS_ok g g.length).1
 obtain ⟨htl,hte⟩:=two_el hB
 have hom:((orbL g).map fmtL).length=(orbL g).length:=List.length_map ..
 have hoj:=join_bd ((orbL g).map fmtL) 2600 (fun x hx=>by
  obtain ⟨l,hl,rfl⟩:=List.mem_map.1 hx
  have:=fmtL_len (ho64 l hl)
  have:=(hoe l hl).1
  omega)
 exact ⟨hol,fun l hl=>⟨ho64 l hl,by have:=(hoe l hl).1;omega⟩,by omega,in64_of (B:=g.length) (by omega) (clsS_el g g.length (Nat.le_refl _)),by omega,in64_of (B:=1000000) (by decide) hte,by omega⟩
theorem twoZ (g:List (List Int)):fmtL (twoL g)=fmtL (if gokB g=true then twoL g else []):=by
 cases hB:gokB g
 .rw [twoL,hB];rfl
 .rfl
theorem impl_plainLine_z (sh:Bool) (g:List (List Int)) (w:List UInt8) (hgl:g.length<=1048576) (hx:∀i,i<g.length->(g.getD i []).length<=1048576):AC Tryz.prog 31 [.d sh (.sl (.sl .int)) g,.d true .str w] [] [.d true .str (plnZ g w)] []:=by
 have hJ:=lst_len g hgl
 have hgm:(g.map fmtC).length=g.length:=List.length_map ..
 have hD:=pln_bd (g:=g)
 have hO:=impl_OrbitsOf sh g
 have hC:=impl_ClassesOf sh g
 have hT:=impl_TwoColors sh g hgl hx
 have hTb:In64 (twoL g)/\(twoL g).length<=1048576:=by
  cases hB:gokB g
  .rw [twoL,hB];exact ⟨fun i hi=>by simp at hi,Nat.zero_le _⟩
  .exact (hD hB).2.2.2.2.2
 unfold plnZ orbZ clsZ
 generalize orbL g=O at*
 generalize clsL g=C at*
 generalize twoL g=T at*
 refine AC_of tauOk 59 0 [4] Tryz.func31 rfl (by kernel_rfl) rfl rfl rfl rfl rfl ?_
 refine ⟨rfl,by decide,true,?_⟩
 refine ⟨fun h1=>?_,fun h1=>?_⟩
 .rw [if_pos h1]
  refine ⟨[],false,_,_,impl_IndexLine sh g hgl hx,nd0,rfl,rfl,trivial,?_⟩
  exact ⟨none,⟨rfl,trivial⟩,rfl,rfl⟩
 rw [if_neg h1]
 refine ⟨fun h2=>?_,fun h2=>?_⟩
 .rw [if_pos h2]
  cases hB:gokB g
  .refine ⟨[],false,_,_,impl_OrbitsOf_no sh g hgl hx hB,nd0,rfl,rfl,trivial,?_⟩
   refine ⟨Unit,fun _=>⟨[(5,.ow 0),(19,.nil),(20,I 0),(21,I 0)],[.sl 9 .str []]⟩,fun _=>True,fun _=>0,(),trivial,
    ⟨⟨rfl,rfl⟩,⟨rfl,rfl,rfl,rfl,trivial⟩,rfl,trivial⟩,fun _ _=>?_⟩
   refine ⟨fun h3=>by omega,fun h3=>?_⟩
   refine ⟨[],false,_,_,impl_Join false [] [32] (by decide) (by decide),nd0,rfl,rfl,trivial,?_⟩
   exact ⟨none,⟨rfl,trivial⟩,rfl,rfl⟩
  obtain ⟨b1,b2,b3,b4,b5,b6,b7⟩:=hD hB
  have hom:(O.map fmtL).length=O.length:=List.length_map ..
  rw [if_pos rfl]
  refine ⟨[],true,_,_,hO hB,nd0,rfl,rfl,trivial,?_⟩
  refine ⟨Nat,fun k=>⟨[(5,.ow 0),(19,.d true (.sl (.sl .int)) O),(20,I O.length),(21,I (k:Nat))],[.sl 9 .str ((O.take k).map fmtL)]⟩,fun k=>k<=O.length,fun k=>O.length-k,0,Nat.zero_le _,
   ⟨⟨rfl,rfl⟩,⟨rfl,rfl,rfl,rfl,trivial⟩,rfl,trivial⟩,fun k hk=>?_⟩
  dsimp only at hk
  refine ⟨fun h3=>?_,fun h3=>?_⟩
  .have hk2:k<O.length:=by omega
   obtain ⟨hm,hml⟩:=b2 (O.getD k []) (by rw [getD_get _ _ _ hk2];exact List.getElem_mem _)
   refine ⟨k,rfl,hk2,[],false,_,_,impl_FormatInts true (O.getD k []) hm (by omega),nd0,rfl,rfl,trivial,?_⟩
   refine ⟨rfl,by decide,false,?_⟩
   refine ⟨rfl,Nat.zero_le _,rfl,by simp only [List.length_cons,List.length_nil,List.length_map,List.length_take];omega,rfl,?_⟩
   exact ⟨((k+1:Nat):Int),w64_eq (by omega) (by omega) (by omega),k+1,by dsimp only;omega,by dsimp only;omega,⟨rfl,rfl⟩,⟨rfl,rfl,rfl,rfl,trivial⟩,rowE (by rw [L_succ O k [] hk2,List.map_append];rfl),trivial⟩
  .obtain rfl:k=O.length:=by omega
   dsimp only
   rw [List.take_length]
   refine ⟨[],false,_,_,impl_Join false (O.map fmtL) [32] (by omega) b3,nd0,rfl,rfl,trivial,?_⟩
   exact ⟨none,⟨rfl,trivial⟩,rfl,rfl⟩
 rw [if_neg h2]
 refine ⟨fun h3=>?_,fun h3=>?_⟩
 .rw [if_pos h3]
  cases hB:gokB g
  .refine ⟨[],false,_,_,impl_ClassesOf_no sh g hgl hx hB,nd0,rfl,rfl,trivial,[],false,_,_,impl_FormatInts_nil,nd0,rfl,rfl,trivial,?_⟩
   exact ⟨none,⟨rfl,trivial⟩,rfl,rfl⟩
  .obtain ⟨b1,b2,b3,b4,b5,b6,b7⟩:=hD hB
   refine ⟨[],true,_,_,hC hB,nd0,rfl,rfl,trivial,[],false,_,_,impl_FormatInts true C b4 b5,nd0,rfl,rfl,trivial,?_⟩
   exact ⟨none,⟨rfl,trivial⟩,rfl,rfl⟩
 rw [if_neg h3]
 refine ⟨fun h4=>?_,fun h4=>?_⟩
 .rw [if_pos h4]
  refine ⟨[],true,_,_,hT,nd0,rfl,rfl,trivial,[],false,_,_,impl_FormatInts true T hTb.1 hTb.2,nd0,rfl,rfl,trivial,?_⟩
  exact ⟨none,⟨rfl,trivial⟩,rfl,rfl⟩
 rw [if_neg h4]
 refine ⟨fun h5=>?_,fun h5=>?_⟩
 .rw [if_pos h5]
  refine ⟨Nat,fun k=>⟨[(5,.ow 0),(45,.d sh (.sl (.sl .int)) g),(46,I g.length),(47,I (k:Nat))],[.sl 9 .str ((g.take k).map fmtC)]⟩,fun k=>k<=g.length,fun k=>g.length-k,0,Nat.zero_le _,
   ⟨⟨rfl,rfl⟩,⟨rfl,rfl,rfl,rfl,trivial⟩,rfl,trivial⟩,fun k hk=>?_⟩
  dsimp only at hk
  refine ⟨fun h6=>?_,fun h6=>?_⟩
  .have hk2:k<g.length:=by omega
   refine ⟨k,rfl,hk2,[],false,_,_,impl_FormatCycles sh (g.getD k []) (hx k hk2),nd0,rfl,rfl,trivial,?_⟩
   refine ⟨rfl,by decide,false,?_⟩
   refine ⟨rfl,Nat.zero_le _,rfl,by simp only [List.length_cons,List.length_nil,List.length_map,List.length_take];omega,rfl,?_⟩
   exact ⟨((k+1:Nat):Int),w64_eq (by omega) (by omega) (by omega),k+1,by dsimp only;omega,by dsimp only;omega,⟨rfl,rfl⟩,⟨rfl,rfl,rfl,rfl,trivial⟩,rowE (by rw [L_succ g k [] hk2,List.map_append];rfl),trivial⟩
  .obtain rfl:k=g.length:=by omega
   dsimp only
   rw [List.take_length]
   refine ⟨[],false,_,_,impl_Join false (g.map fmtC) [32] (by omega) hJ,nd0,rfl,rfl,trivial,?_⟩
   exact ⟨none,⟨rfl,trivial⟩,rfl,rfl⟩
 .rw [if_neg h5]
  exact ⟨none,⟨rfl,trivial⟩,rfl,rfl⟩
theorem impl_RunLine_z (sh:Bool) (g:List (List Int)) (line:List UInt8) (hgl:g.length<=1048576) (hx:∀i,i<g.length->(g.getD i []).length<=1048576) (hll:line.length<=1048576):
 AC Tryz.prog 13 [.d sh (.sl (.sl .int)) g,.d true .str line] [] [.d true (.sl (.sl .int)) (rlG g line),.d true .str (rlZ g line)] []:=by
 have q0:0<2:=by decide
 have q1:2<=1000:=by decide
 have hS:=strings_Split line 32 (by omega)
 have hP:=wrdG_pos (byB [32]) line
 obtain ⟨ha1,ha2⟩:=wrd_bd2 line hll
 have hN:=impl_newGroup_d true (rlW line) (rlA line) ha2 ha1
 have hA:rlA line=(wrdG (byB [32]) line).drop 1:=rfl
 have hW:rlW line=(wrdG (byB [32]) line).getD 0 []:=rfl
 have hwl:=impl_wordLine sh g (rlW line) ((rlA line).getD 0 []) ((rlA line).length:Nat) hgl hx
 have hml:((rlA line).map prsV).length=(rlA line).length:=List.length_map ..
 have hnl:=impl_numberLine sh true g (rlW line) ((rlA line).map prsV) hgl hx
 rw [hml] at hnl
 have hin:=impl_ints_both true (rlA line) ha2 (fun i hi=>by have:=ha1 i hi;omega)
 have hpl:=impl_plainLine_z sh g (rlW line) hgl hx
 unfold rlG rlZ
 have hng:=fun G=>ng_gok (w:=rlW line) (args:=rlA line) (G:=G)
 unfold tlZ
 generalize rlA line=args at*
 generalize rlW line=w at*
 generalize wrdG (byB [32]) line=ws at*
 refine AC_of tauOk 86 0 [4,5] Tryz.func13 rfl (by kernel_rfl) rfl rfl rfl rfl rfl ?_
 refine ⟨[],true,_,_,impl_copyLists_d sh g hgl hx,nd0,rfl,rfl,trivial,fun h1=>?_,fun h1=>?_⟩
 .rw [if_pos (show rlB line=true by unfold rlB;rw [decide_eq_true h1];rfl),if_pos (show rlB line=true by unfold rlB;rw [decide_eq_true h1];rfl)]
  exact ⟨none,⟨rfl,rfl,trivial⟩,rfl,rfl⟩
 have h0:0<line.length:=List.length_pos_iff.2 h1
 refine ⟨0,rfl,h0,fun h2=>?_,fun h2=>?_⟩
 .rw [if_pos (show rlB line=true by unfold rlB;rw [decide_eq_true h2,Bool.or_true]),if_pos (show rlB line=true by unfold rlB;rw [decide_eq_true h2,Bool.or_true])]
  exact ⟨none,⟨rfl,rfl,trivial⟩,rfl,rfl⟩
 have hb:¬rlB line=true:=by unfold rlB;rw [decide_eq_false h1,decide_eq_false h2];decide
 rw [if_neg hb,if_neg hb]
 refine ⟨[],true,_,_,hS,nd0,rfl,rfl,trivial,1,rfl,by omega,Nat.le_refl _,?_⟩
 rw [List.take_length,<-hA]
 refine ⟨0,rfl,by omega,by decide,by decide,rfl,rfl,rfl,rfl,rfl,?_⟩
 rw [<-hW]
 cases hO:ngO w args with
 |some o=>
  cases o with
  |none=>
   refine ⟨[],false,_,_,hN [.nil,.d true .bool true,.d true .bool false] (fun e=>by rw [hO] at e;cases e) (fun _=>rfl) (fun G e=>by rw [hO] at e;cases e),nd0,rfl,rfl,trivial,fun _=>⟨nofun,fun _=>?_⟩,nofun⟩
   exact ⟨none,⟨rfl,rfl,trivial⟩,rfl,rfl⟩
  |some G=>
   have hGl:=(perm_bd (hng G hO)).1.2
   refine ⟨[],false,_,_,hN [.d true (.sl (.sl .int)) G,.d true .bool true,.d true .bool true] (fun e=>by rw [hO] at e;cases e) (fun e=>by rw [hO] at e;cases e) (fun G2 e=>by rw [hO] at e;cases e;rfl),nd0,rfl,rfl,trivial,fun _=>⟨fun _=>?_,nofun⟩,nofun⟩
   have hfl:=fI_len (G.length:Int) (by omega)
   refine ⟨[],false,_,_,impl_FormatInt _ (by omega) (by omega),nd0,rfl,rfl,trivial,by simp only [List.length_cons,List.length_nil];omega,?_⟩
   exact ⟨none,⟨rfl,rfl,trivial⟩,rfl,rfl⟩
 |none=>
  dsimp only
  refine ⟨[],false,_,_,hN [.nil,.d true .bool false,.d true .bool false] (fun _=>rfl) (fun e=>by rw [hO] at e;cases e) (fun G e=>by rw [hO] at e;cases e),nd0,rfl,rfl,trivial,nofun,fun _=>⟨nofun,fun _=>?_⟩⟩
  refine ⟨fun h3=>?_,fun h3=>?_⟩
  .rw [if_pos h3]
   refine ⟨q0,q0,[],false,_,_,hpl,nd0,rfl,rfl,trivial,?_⟩
   exact ⟨none,⟨rfl,rfl,trivial⟩,rfl,rfl⟩
  rw [if_neg h3]
  refine ⟨fun h4=>?_,fun h4=>?_⟩
  .have i0:0<args.length:=by omega
   refine ⟨some 2000,[0,2,3,4],[1,5,6],by kernel_rfl,rfl,?_⟩
   refine ⟨0,rfl,i0,rfl,[],false,_,_,hwl (by have:=ha1 0 i0;omega),nd0,rfl,rfl,trivial,fun h5=>?_,fun h5=>?_⟩
   .rw [if_pos ⟨h4,h5⟩]
    exact ⟨none,⟨rfl,rfl,trivial⟩,rfl,rfl⟩
   rw [if_neg (fun e=>h5 e.2)]
   cases hp:args.all prsB
   .refine ⟨[],false,_,_,hin _ _ (fun _=>⟨rfl,rfl⟩) (fun h=>by rw [hp] at h;cases h),nd0,rfl,rfl,trivial,nofun,fun _=>?_⟩
    exact ⟨none,⟨rfl,rfl,trivial⟩,rfl,rfl⟩
   .refine ⟨[],true,_,_,hin _ _ (fun h=>by rw [hp] at h;cases h) (fun _=>⟨rfl,rfl⟩),nd0,rfl,rfl,trivial,fun _=>?_,nofun⟩
    refine ⟨rfl,[],false,_,_,hnl,nd0,rfl,rfl,trivial,?_⟩
    exact ⟨none,⟨rfl,rfl,trivial⟩,rfl,rfl⟩
  .rw [if_neg (fun e=>h4 e.1)]
   cases hp:args.all prsB
   .refine ⟨[],false,_,_,hin _ _ (fun _=>⟨rfl,rfl⟩) (fun h=>by rw [hp] at h;cases h),nd0,rfl,rfl,trivial,nofun,fun _=>?_⟩
    exact ⟨none,⟨rfl,rfl,trivial⟩,rfl,rfl⟩
   .refine ⟨[],true,_,_,hin _ _ (fun h=>by rw [hp] at h;cases h) (fun _=>⟨rfl,rfl⟩),nd0,rfl,rfl,trivial,fun _=>?_,nofun⟩
    refine ⟨rfl,[],false,_,_,hnl,nd0,rfl,rfl,trivial,?_⟩
    exact ⟨none,⟨rfl,rfl,trivial⟩,rfl,rfl⟩
end Go.Proofs.YtacjiemkbhhhoaaGreatDoor
namespace Go.Proofs.YtacjiemkbhhhoaaGreatDoor
open Go Go.Proofs.YtacjiemkbhhhoaaGreatDoor.Ow
theorem spec_l02Gcd (a b:Nat) (ha:a<=1048576) (hb:b<=1048576):AC Tryz.prog 297 [I (a:Nat),I (b:Nat)] [] [I (Nat.gcd a b:Nat)] []:=by
 refine AC_of tauOk 14 0 [4] Tryz.func297 rfl (by kernel_rfl) rfl rfl rfl rfl rfl ?_
 refine ⟨Nat × Nat,fun i=>⟨[(0,I (i.1:Nat)),(1,I (i.2:Nat))],[]⟩,fun i=>i.1<=1048576/\i.2<=1048576/\Nat.gcd i.1 i.2=Nat.gcd a b,fun i=>i.2,(a,b),⟨ha,hb,rfl⟩,
  ⟨⟨rfl,rfl⟩,⟨rfl,rfl,trivial⟩,trivial⟩,?_⟩
 rintro ⟨x,y⟩ ⟨hx,hy,hg⟩
 dsimp only at hx hy hg
 refine ⟨fun h1=>?_,fun h1=>?_⟩
 .dsimp only at h1
  have hm:=Nat.mod_lt x (show y>0 by omega)
  refine ⟨by dsimp only;omega,((x % y:Nat):Int),Int.ofNat_tmod x y,?_⟩
  exact ⟨(y,x % y),⟨hy,by dsimp only;omega,by dsimp only;rw [gcd_mod,hg]⟩,by dsimp only;omega,⟨rfl,rfl⟩,⟨rfl,rfl,trivial⟩,trivial⟩
 .dsimp only at h1
  obtain rfl:y=0:=by omega
  rw [Nat.gcd_zero_right] at hg
  exact ⟨none,⟨retI (by rw [<-hg]),trivial⟩,rfl,rfl⟩
theorem spec_Totient (n:Nat) (h1:1<=n) (h2:n<=1000):AC Tryz.prog 229 [I (n:Nat)] [] [I (totS n n:Nat)] []:=by
 have hle:=totS_le n
 refine AC_of tauOk 20 0 [2] Tryz.func229 rfl (by kernel_rfl) rfl rfl rfl rfl rfl ?_
 refine ⟨[],false,_,_,spec_l01In _ _ _,nd0,rfl,rfl,trivial,fun _=>?_,fun h=>by simp only [Bool.and_eq_false_iff,decide_eq_false_iff_not] at h;omega⟩
 refine ⟨Nat,fun k=>⟨[(0,I (n:Nat)),(3,I (totS n k:Nat)),(4,I ((k+1:Nat):Int))],[]⟩,fun k=>k<=n,fun k=>n-k,0,Nat.zero_le _,
  ⟨⟨rfl,rfl⟩,⟨rfl,rfl,rfl,trivial⟩,trivial⟩,fun k hk=>?_⟩
 dsimp only at hk
 have hlk:=hle k
 refine ⟨fun h3=>?_,fun h3=>?_⟩
 .have hk2:k<n:=by omega
  refine ⟨[],false,_,_,spec_l02Gcd (k+1) n (by omega) (by omega),nd0,rfl,rfl,trivial,fun h4=>?_,fun h4=>?_⟩
  .have e:totS n (k+1)=totS n k+1:=by rw [totS,if_pos (by omega)]
   refine ⟨((totS n (k+1):Nat):Int),w64_eq (by omega) (by omega) (by omega),?_⟩
   exact ⟨((k+1+1:Nat):Int),w64_eq (by omega) (by omega) (by omega),k+1,by dsimp only;omega,by dsimp only;omega,⟨rfl,rfl⟩,⟨rfl,rfl,rfl,trivial⟩,trivial⟩
  .have e:totS n (k+1)=totS n k:=by rw [totS,if_neg (by omega)];rfl
   exact ⟨((k+1+1:Nat):Int),w64_eq (by omega) (by omega) (by omega),k+1,by dsimp only;omega,by dsimp only;omega,⟨rfl,rfl⟩,⟨rfl,retI (by rw [e]),rfl,trivial⟩,trivial⟩
 .obtain rfl:k=n:=by omega
  exact ⟨none,⟨rfl,trivial⟩,rfl,rfl⟩
def msF:Nat->Nat->Int->Nat->Int
 |0,_,out,_=>out
 |f+1,n,out,d=>if n<d then out else if n % d≠0 then msF f n out (d+1) else if (n / d) % d=0 then 0 else msF f (n / d) (-out) (d+1)
theorem ms_mob:∀n,n<11->1<=n->msF 11 n 1 2=mobN n:=by decide+kernel
theorem spec_Mobius (n0:Nat) (h1:1<=n0) (h2:n0<=10):AC Tryz.prog 232 [I (n0:Nat)] [] [I (mobN n0)] []:=by
 have hms:=ms_mob n0 (by omega) h1
 refine AC_of tauOk 27 0 [2] Tryz.func232 rfl (by kernel_rfl) rfl rfl rfl rfl rfl ?_
 refine ⟨[],false,_,_,spec_l01In _ _ _,nd0,rfl,rfl,trivial,fun _=>?_,fun h=>by simp only [Bool.and_eq_false_iff,decide_eq_false_iff_not] at h;omega⟩
 refine ⟨Nat × Nat × Int × Nat,fun i=>⟨[(0,I (i.2.1:Nat)),(3,I i.2.2.1),(4,I (i.2.2.2:Nat))],[]⟩,
  fun i=>msF i.1 i.2.1 i.2.2.1 i.2.2.2=mobN n0/\i.2.1<=10/\2<=i.2.2.2/\i.1+i.2.2.2=13/\(-1<=i.2.2.1/\i.2.2.1<=1),fun i=>i.1,(11,n0,1,2),
  ⟨hms,h2,Nat.le_refl 2,rfl,(by decide:(-1:Int)<=1/\(1:Int)<=1)⟩,
  ⟨⟨rfl,rfl⟩,⟨rfl,rfl,rfl,trivial⟩,trivial⟩,?_⟩
 rintro ⟨f,n,out,d⟩ ⟨hF,hn2,hd1,hf,ho⟩
 dsimp only at hF hn2 hd1 hf ho
 refine ⟨fun h3=>?_,fun h3=>?_⟩
 .dsimp only at h3
  obtain ⟨f',rfl⟩:∃f',f=f'+1:=⟨f-1,by omega⟩
  rw [msF,if_neg (by omega)] at hF
  refine ⟨by dsimp only;omega,((n % d:Nat):Int),Int.ofNat_tmod n d,?_⟩
  refine ⟨fun h4=>?_,fun h4=>?_⟩
  .rw [if_pos (by omega)] at hF
   refine ⟨((d+1:Nat):Int),w64_eq (by dsimp only;omega) (by omega) (by omega),(f',n,out,d+1),⟨hF,hn2,by dsimp only;omega,by dsimp only;omega,ho⟩,by dsimp only;omega,⟨rfl,rfl⟩,⟨rfl,rfl,rfl,trivial⟩,trivial⟩
  .rw [if_neg (by omega)] at hF
   have hnd:n / d<=n:=Nat.div_le_self n d
   have hnn:(0:Int)<=((n / d:Nat):Int):=Int.natCast_nonneg _
   refine ⟨by dsimp only;omega,((n / d:Nat):Int),w64_eq (Int.ofNat_tdiv n d) (Int.le_trans (by decide) hnn) (Int.le_trans (Int.ofNat_le.2 hnd) (by omega)),?_⟩
   refine ⟨by dsimp only;omega,((n / d % d:Nat):Int),Int.ofNat_tmod (n / d) d,?_⟩
   refine ⟨fun h5=>?_,fun h5=>?_⟩
   .rw [if_pos (by omega)] at hF
    exact ⟨none,⟨retI hF.symm,trivial⟩,rfl,rfl⟩
   .rw [if_neg (by omega)] at hF
    refine ⟨-out,by rw [<-w64_in _ (by dsimp only;omega) (by dsimp only;omega)]<;>dsimp only<;>omega,?_⟩
    exact ⟨((d+1:Nat):Int),w64_eq (by dsimp only;omega) (by omega) (by omega),(f',n / d,-out,d+1),⟨hF,by dsimp only;omega,by dsimp only;omega,by dsimp only;omega,⟨by dsimp only;omega,by dsimp only;omega⟩⟩,by dsimp only;omega,⟨rfl,rfl⟩,⟨rfl,rfl,rfl,trivial⟩,trivial⟩
 .dsimp only at h3
  have e:msF f n out d=out:=by
   cases f with
   |zero=>rfl
   |succ f=>rw [msF,if_pos (by omega)]
  exact ⟨none,⟨retI (by rw [<-hF,e]),trivial⟩,rfl,rfl⟩
theorem neck_pos:∀n,n<11->∀k,k<5->1<=n->1<=k->0<=neckI (n:Nat) (k:Nat):=by decide+kernel
theorem neck_neg (n k:Int):(lenB n k=true->0<=neckI n k)/\(lenB n k=false->neckI n k= -1):=by
 refine ⟨fun h=>?_,fun h=>by unfold neckI;rw [h];rfl⟩
 obtain ⟨N,K,rfl,rfl,a1,a2,a3,a4⟩:=lenB_of h
 exact neck_pos N (by omega) K (by omega) a1 a3
theorem spec_CountNecklaces (n k:Int):AC Tryz.prog 124 [I n,I k] [] [I (neckI n k)] []:=by
 refine AC_of tauOk 37 0 [4] Tryz.func124 rfl (by kernel_rfl) rfl rfl rfl rfl rfl ?_
 refine ⟨[],false,_,_,spec_l01In _ _ _,nd0,rfl,rfl,trivial,fun h1=>?_,fun h1=>?_⟩
 .refine ⟨[],false,_,_,spec_l01In _ _ _,nd0,rfl,rfl,trivial,fun h2=>?_,fun h2=>?_⟩
  .have hL:lenB n k=true:=by
    unfold lenB
    simp only [Bool.and_eq_true,decide_eq_true_eq] at h1 h2 ⊢
    omega
   have e:neckI n k=divI (fun d=>(totS d d:Nat)) n.toNat k.toNat:=by rw [neckI,if_pos hL]
   obtain ⟨N,K,rfl,rfl,a1,a2,a3,a4⟩:=lenB_of hL
   rw [Int.toNat_natCast,Int.toNat_natCast] at e
   have hb:=divS_b (tot_b N a2) a2 a4
   have hdb:=divI_b (tot_b N a2) a2 a4
   refine ⟨Nat,fun k=>⟨[(0,I (N:Nat)),(1,I (K:Nat)),(5,I (divS (fun d=>(totS d d:Nat)) N K k)),(6,I ((k+1:Nat):Int))],[]⟩,fun k=>k<=N,fun k=>N-k,0,Nat.zero_le _,
    ⟨⟨rfl,rfl⟩,⟨rfl,rfl,rfl,rfl,trivial⟩,trivial⟩,fun k hk=>?_⟩
   dsimp only at hk
   have hbk:=hb k hk
   refine ⟨fun h3=>?_,fun h3=>?_⟩
   .have hk2:k<N:=by omega
    have hv:=tot_b N a2 (k+1) (by omega) hk2
    have hb1:=hb (k+1) (by omega)
    have hq:N / (k+1)<=10:=Nat.le_trans (Nat.div_le_self _ _) a2
    have hp:K ^ (N / (k+1))<=1048576:=pow_le a4 hq (Nat.le_refl 10)
    have hm:=mulb hv (y:=((K ^ (N / (k+1)):Nat):Int)) ⟨Int.natCast_nonneg _,by omega⟩
    refine ⟨by omega,((N % (k+1):Nat):Int),Int.ofNat_tmod N (k+1),?_⟩
    refine ⟨fun h4=>?_,fun h4=>?_⟩
    .have e:divS (fun d=>(totS d d:Nat)) N K (k+1)=divS (fun d=>(totS d d:Nat)) N K k+((totS (k+1) (k+1):Nat):Int)*((K ^ (N / (k+1)):Nat):Int):=by rw [divS,if_pos (by omega)]
     refine ⟨none,by kernel_rfl,_,_,spec_Totient (k+1) (by omega) (by omega),rfl,by omega,((N / (k+1):Nat):Int),w64_eq (Int.ofNat_tdiv N (k+1)) (Int.le_trans (by decide) (Int.natCast_nonneg _)) (Int.le_trans (Int.ofNat_le.2 hq) (by decide)),_,_,spec_l05Power K (N / (k+1)) a4 hq,rfl,?_⟩
     refine ⟨((totS (k+1) (k+1):Nat):Int)*((K ^ (N / (k+1)):Nat):Int),w64_eq rfl (by omega) (by omega),?_⟩
     refine ⟨divS (fun d=>(totS d d:Nat)) N K (k+1),w64_eq e (by omega) (by omega),?_⟩
     exact ⟨((k+1+1:Nat):Int),w64_eq (by omega) (by omega) (by omega),k+1,by dsimp only;omega,by dsimp only;omega,⟨rfl,rfl⟩,⟨rfl,rfl,rfl,rfl,trivial⟩,trivial⟩
    .have e:divS (fun d=>(totS d d:Nat)) N K (k+1)=divS (fun d=>(totS d d:Nat)) N K k:=by rw [divS,if_neg (by omega),Int.add_zero]
     exact ⟨((k+1+1:Nat):Int),w64_eq (by omega) (by omega) (by omega),k+1,by dsimp only;omega,by dsimp only;omega,⟨rfl,rfl⟩,⟨rfl,rfl,retI (by rw [e]),rfl,trivial⟩,trivial⟩
   .obtain rfl:k=N:=by omega
    refine ⟨by omega,divI (fun d=>(totS d d:Nat)) k K,w64_eq rfl (by omega) (by omega),?_⟩
    exact ⟨none,⟨retI e,trivial⟩,rfl,rfl⟩
  .have hL:lenB n k=false:=by
    cases h:lenB n k with
    |false=>rfl
    |true=>
     unfold lenB at h
     simp only [Bool.and_eq_true,decide_eq_true_eq,Bool.and_eq_false_iff,decide_eq_false_iff_not] at h h2
     omega
   exact ⟨none,⟨retI ((neck_neg n k).2 hL),trivial⟩,rfl,rfl⟩
 .have hL:lenB n k=false:=by
   cases h:lenB n k with
   |false=>rfl
   |true=>
    unfold lenB at h
    simp only [Bool.and_eq_true,decide_eq_true_eq,Bool.and_eq_false_iff,decide_eq_false_iff_not] at h h1
    omega
  exact ⟨none,⟨retI ((neck_neg n k).2 hL),trivial⟩,rfl,rfl⟩
theorem spec_CountLyndon (n k:Int):AC Tryz.prog 126 [I n,I k] [] [I (lynI n k)] []:=by
 refine AC_of tauOk 37 0 [4] Tryz.func126 rfl (by kernel_rfl) rfl rfl rfl rfl rfl ?_
 refine ⟨[],false,_,_,spec_l01In _ _ _,nd0,rfl,rfl,trivial,fun h1=>?_,fun h1=>?_⟩
 .refine ⟨[],false,_,_,spec_l01In _ _ _,nd0,rfl,rfl,trivial,fun h2=>?_,fun h2=>?_⟩
  .have hL:lenB n k=true:=by
    unfold lenB
    simp only [Bool.and_eq_true,decide_eq_true_eq] at h1 h2 ⊢
    omega
   have e:lynI n k=divI mobN n.toNat k.toNat:=by rw [lynI,if_pos hL]
   obtain ⟨N,K,rfl,rfl,a1,a2,a3,a4⟩:=lenB_of hL
   rw [Int.toNat_natCast,Int.toNat_natCast] at e
   have hb:=divS_b (mob_b N) a2 a4
   have hdb:=divI_b (mob_b N) a2 a4
   refine ⟨Nat,fun k=>⟨[(0,I (N:Nat)),(1,I (K:Nat)),(5,I (divS mobN N K k)),(6,I ((k+1:Nat):Int))],[]⟩,fun k=>k<=N,fun k=>N-k,0,Nat.zero_le _,
    ⟨⟨rfl,rfl⟩,⟨rfl,rfl,rfl,rfl,trivial⟩,trivial⟩,fun k hk=>?_⟩
   dsimp only at hk
   have hbk:=hb k hk
   refine ⟨fun h3=>?_,fun h3=>?_⟩
   .have hk2:k<N:=by omega
    have hv:=mob_b N (k+1) (by omega) hk2
    have hb1:=hb (k+1) (by omega)
    have hq:N / (k+1)<=10:=Nat.le_trans (Nat.div_le_self _ _) a2
    have hp:K ^ (N / (k+1))<=1048576:=pow_le a4 hq (Nat.le_refl 10)
    have hm:=mulb hv (y:=((K ^ (N / (k+1)):Nat):Int)) ⟨Int.natCast_nonneg _,by omega⟩
    refine ⟨by omega,((N % (k+1):Nat):Int),Int.ofNat_tmod N (k+1),?_⟩
    refine ⟨fun h4=>?_,fun h4=>?_⟩
    .have e:divS mobN N K (k+1)=divS mobN N K k+mobN (k+1)*((K ^ (N / (k+1)):Nat):Int):=by rw [divS,if_pos (by omega)]
     refine ⟨none,by kernel_rfl,_,_,spec_Mobius (k+1) (by omega) (by omega),rfl,by omega,((N / (k+1):Nat):Int),w64_eq (Int.ofNat_tdiv N (k+1)) (Int.le_trans (by decide) (Int.natCast_nonneg _)) (Int.le_trans (Int.ofNat_le.2 hq) (by decide)),_,_,spec_l05Power K (N / (k+1)) a4 hq,rfl,?_⟩
     refine ⟨mobN (k+1)*((K ^ (N / (k+1)):Nat):Int),w64_eq rfl (by omega) (by omega),?_⟩
     refine ⟨divS mobN N K (k+1),w64_eq e (by omega) (by omega),?_⟩
     exact ⟨((k+1+1:Nat):Int),w64_eq (by omega) (by omega) (by omega),k+1,by dsimp only;omega,by dsimp only;omega,⟨rfl,rfl⟩,⟨rfl,rfl,rfl,rfl,trivial⟩,trivial⟩
    .have e:divS mobN N K (k+1)=divS mobN N K k:=by rw [divS,if_neg (by omega),Int.add_zero]
     exact ⟨((k+1+1:Nat):Int),w64_eq (by omega) (by omega) (by omega),k+1,by dsimp only;omega,by dsimp only;omega,⟨rfl,rfl⟩,⟨rfl,rfl,retI (by rw [e]),rfl,trivial⟩,trivial⟩
   .obtain rfl:k=N:=by omega
    refine ⟨by omega,divI mobN k K,w64_eq rfl (by omega) (by omega),?_⟩
    exact ⟨none,⟨retI e,trivial⟩,rfl,rfl⟩
  .have hL:lenB n k=false:=by
    cases h:lenB n k with
    |false=>rfl
    |true=>
     unfold lenB at h
     simp only [Bool.and_eq_true,decide_eq_true_eq,Bool.and_eq_false_iff,decide_eq_false_iff_not] at h h2
     omega
   exact ⟨none,⟨retI ((by unfold lynI;rw [hL];rfl:lynI n k= -1)),trivial⟩,rfl,rfl⟩
 .have hL:lenB n k=false:=by
   cases h:lenB n k with
   |false=>rfl
   |true=>
    unfold lenB at h
    simp only [Bool.and_eq_true,decide_eq_true_eq,Bool.and_eq_false_iff,decide_eq_false_iff_not] at h h1
    omega
  exact ⟨none,⟨retI ((by unfold lynI;rw [hL];rfl:lynI n k= -1)),trivial⟩,rfl,rfl⟩
theorem spec_CountMirrored (n k:Int):AC Tryz.prog 231 [I n,I k] [] [I (mirI n k)] []:=by
 have hmb:=mir_b n k
 have hnn:=neck_neg n k
 refine AC_of tauOk 28 0 [4] Tryz.func231 rfl (by kernel_rfl) rfl rfl rfl rfl rfl ?_
 refine ⟨[],false,_,_,spec_CountNecklaces n k,nd0,rfl,rfl,trivial,fun h1=>?_,fun h1=>?_⟩
 .have hL:lenB n k=false:=by
   cases h:lenB n k with
   |false=>rfl
   |true=>have:=hnn.1 h;omega
  exact ⟨none,⟨retI (by rw [mirI,hL];rfl),trivial⟩,rfl,rfl⟩
 .have hL:lenB n k=true:=by
   cases h:lenB n k with
   |true=>rfl
   |false=>have:=hnn.2 h;omega
  obtain ⟨N,K,rfl,rfl,a1,a2,a3,a4⟩:=lenB_of hL
  have p2:K ^ (N / 2)<=1048576:=pow_le a4 (show N / 2<=10 by omega) (Nat.le_refl 10)
  have p3:K ^ (N / 2+1)<=1048576:=pow_le a4 (show N / 2+1<=10 by omega) (Nat.le_refl 10)
  refine ⟨by decide,((N % 2:Nat):Int),Int.ofNat_tmod N 2,?_⟩
  refine ⟨fun h3=>?_,fun h3=>?_⟩
  .have e:mirI (N:Int) (K:Int)=((K ^ ((N+1) / 2):Nat):Int):=by rw [mirI,if_pos hL,Int.toNat_natCast,Int.toNat_natCast,if_pos (by omega)]
   refine ⟨((N+1:Nat):Int),w64_eq (by omega) (by omega) (by omega),?_⟩
   refine ⟨by decide,(((N+1) / 2:Nat):Int),w64_eq (Int.ofNat_tdiv (N+1) 2) (by omega) (by omega),?_⟩
   refine ⟨[],false,_,_,spec_l05Power K ((N+1) / 2) a4 (by omega),nd0,rfl,rfl,trivial,?_⟩
   exact ⟨none,⟨retI e,trivial⟩,rfl,rfl⟩
  .have e:mirI (N:Int) (K:Int)=(((K ^ (N / 2)+K ^ (N / 2+1)) / 2:Nat):Int):=by rw [mirI,if_pos hL,Int.toNat_natCast,Int.toNat_natCast,if_neg (by omega)]
   refine ⟨by decide,((N / 2:Nat):Int),w64_eq (Int.ofNat_tdiv N 2) (by omega) (by omega),?_⟩
   refine ⟨[],false,_,_,spec_l05Power K (N / 2) a4 (by omega),nd0,rfl,rfl,trivial,?_⟩
   refine ⟨by decide,((N / 2:Nat):Int),w64_eq (Int.ofNat_tdiv N 2) (by omega) (by omega),?_⟩
   refine ⟨((N / 2+1:Nat):Int),w64_eq (by omega) (by omega) (by omega),?_⟩
   refine ⟨[],false,_,_,spec_l05Power K (N / 2+1) a4 (by omega),nd0,rfl,rfl,trivial,?_⟩
   refine ⟨((K ^ (N / 2)+K ^ (N / 2+1):Nat):Int),w64_eq (by omega) (by omega) (by omega),?_⟩
   refine ⟨by decide,(((K ^ (N / 2)+K ^ (N / 2+1)) / 2:Nat):Int),w64_eq (Int.ofNat_tdiv _ 2) (by omega) (by omega),?_⟩
   exact ⟨none,⟨retI e,trivial⟩,rfl,rfl⟩
theorem spec_CountBracelets (n k:Int):AC Tryz.prog 125 [I n,I k] [] [I (bracI n k)] []:=by
 have b1:=neck_b n k
 have b2:=mir_b n k
 have b3:=Int.natAbs_tdiv_le_natAbs (neckI n k+mirI n k) 2
 have hnn:=neck_neg n k
 refine AC_of tauOk 17 0 [4] Tryz.func125 rfl (by kernel_rfl) rfl rfl rfl rfl rfl ?_
 refine ⟨[],false,_,_,spec_CountNecklaces n k,nd0,rfl,rfl,trivial,fun h1=>?_,fun h1=>?_⟩
 .have hL:lenB n k=false:=by
   cases h:lenB n k with
   |false=>rfl
   |true=>have:=hnn.1 h;omega
  exact ⟨none,⟨retI (by rw [bracI,hL];rfl),trivial⟩,rfl,rfl⟩
 .have hL:lenB n k=true:=by
   cases h:lenB n k with
   |true=>rfl
   |false=>have:=hnn.2 h;omega
  refine ⟨[],false,_,_,spec_CountNecklaces n k,nd0,rfl,rfl,trivial,[],false,_,_,spec_CountMirrored n k,nd0,rfl,rfl,trivial,?_⟩
  refine ⟨neckI n k+mirI n k,w64_eq rfl (by omega) (by omega),?_⟩
  refine ⟨by decide,(neckI n k+mirI n k).tdiv 2,w64_eq rfl (by omega) (by omega),?_⟩
  exact ⟨none,⟨retI (by rw [bracI,if_pos hL]),trivial⟩,rfl,rfl⟩
theorem spec_LyndonFactors (sh:Bool) (w:List Int) (hw:ColP w):AC Tryz.prog 113 [.d sh (.sl .int) w] [] [.ow 0,.d true .bool true] [.sl 29 (.sl .int) (lyfL w)]:=by
 have hl:=hw.2
 have hC:=spec_ColoringOk sh w (by omega)
 rw [(colB_iff w).2 hw] at hC
 refine AC_of tauOk 43 0 [2,3] Tryz.func113 rfl (by kernel_rfl) rfl rfl rfl rfl rfl ?_
 refine ⟨[],false,_,_,hC,nd0,rfl,rfl,trivial,fun _=>?_,nofun⟩
 refine ⟨rfl,by decide,true,?_⟩
 refine ⟨Nat × Nat × List (List Int),fun i=>⟨[(0,.d sh (.sl .int) w),(4,.ow 0),(5,I (i.2.1:Nat))],[.sl 29 (.sl .int) i.2.2]⟩,fun i=>lyfF w i.1 i.2.1 i.2.2=lyfL w/\w.length<=i.2.1+i.1/\i.2.1<=w.length/\i.2.2.length<=i.2.1,fun i=>i.1,(w.length,0,[]),⟨rfl,by dsimp only;omega,Nat.zero_le _,Nat.le_refl _⟩,
  ⟨⟨rfl,rfl⟩,⟨rfl,rfl,rfl,trivial⟩,rfl,trivial⟩,?_⟩
 rintro ⟨f,a,out⟩ ⟨hF,hfl,ha,ho⟩
 dsimp only at hF hfl ha ho
 refine ⟨fun h1=>?_,fun h1=>?_⟩
 .dsimp only at h1
  have ha2:a<w.length:=by omega
  obtain ⟨f',rfl⟩:∃f',f=f'+1:=⟨f-1,by omega⟩
  rw [lyfF,if_pos ha2] at hF
  have e1:lyfE w a 1=1:=by have:=lyfE_ok hw a 1 (by omega) (by omega);omega
  refine ⟨((a+lyfE w a 1:Nat):Int),w64_eq (by dsimp only;omega) (by omega) (by omega),((a+1+1:Nat):Int),w64_eq (by dsimp only;omega) (by omega) (by omega),?_⟩
  refine ⟨Nat,fun j=>⟨[(0,.d sh (.sl .int) w),(4,.ow 0),(5,I (a:Nat)),(6,I ((a+lyfE w a j:Nat):Int)),(7,I ((a+j+1:Nat):Int))],[.sl 29 (.sl .int) out]⟩,fun j=>1<=j/\a+j<=w.length,fun j=>w.length-j,1,⟨by omega,by omega⟩,
   ⟨⟨rfl,rfl⟩,⟨rfl,rfl,rfl,rfl,rfl,trivial⟩,rfl,trivial⟩,?_⟩
  rintro j ⟨hj1,hj2⟩
  obtain ⟨he1,he2⟩:=lyfE_ok hw a j hj2 hj1
  refine ⟨fun h2=>?_,fun h2=>?_⟩
  .have hj3:a+(j+1)<=w.length:=by omega
   refine ⟨a,rfl,a+(j+1),rfl,by omega,hj3,?_⟩
   have e2:lyfE w a (j+1)=if lynB (subW w a (j+1))=true then j+1 else lyfE w a j:=rfl
   refine ⟨[],false,_,_,spec_IsLyndon sh (subW w a (j+1)) (subW_col hw a (j+1) hj3 (by omega)),nd0,rfl,rfl,trivial,fun h3=>?_,fun h3=>?_⟩
   .rw [if_pos (show lynB (subW w a (j+1))=true from h3)] at e2
    exact ⟨((a+(j+1)+1:Nat):Int),w64_eq (by omega) (by omega) (by omega),j+1,⟨by omega,hj3⟩,by dsimp only;omega,⟨rfl,rfl⟩,⟨rfl,rfl,rfl,retI (by rw [e2];omega),retI (by omega),trivial⟩,rfl,trivial⟩
   .rw [if_neg (show ¬lynB (subW w a (j+1))=true by unfold lynB;rw [h3];decide)] at e2
    exact ⟨((a+(j+1)+1:Nat):Int),w64_eq (by omega) (by omega) (by omega),j+1,⟨by omega,hj3⟩,by dsimp only;omega,⟨rfl,rfl⟩,⟨rfl,rfl,rfl,retI (by rw [e2]),retI (by omega),trivial⟩,rfl,trivial⟩
  .obtain rfl:j=w.length-a:=by omega
   have hsl:=subW_len w a (lyfE w a (w.length-a)) (by omega)
   refine ⟨rfl,by decide,true,?_⟩
   refine ⟨a,rfl,a+lyfE w a (w.length-a),rfl,by omega,by omega,?_⟩
   refine ⟨rfl,Nat.zero_le _,rfl,by simp only [List.length_nil];have:=hsl;unfold subW at this;omega,rfl,?_⟩
   refine ⟨rfl,rfl,by decide,false,rfl,Nat.zero_le _,rfl,by simp only [List.length_cons,List.length_nil];omega,rfl,?_⟩
   exact ⟨(f',a+lyfE w a (w.length-a),out++[subW w a (lyfE w a (w.length-a))]),⟨hF,by dsimp only;omega,by dsimp only;omega,by simp;omega⟩,by dsimp only;omega,⟨rfl,rfl⟩,⟨rfl,rfl,rfl,trivial⟩,rfl,trivial⟩
 .dsimp only at h1
  have e:lyfF w f a out=out:=by
   cases f with
   |zero=>rfl
   |succ f=>rw [lyfF,if_neg (by omega)]
  exact ⟨some 0,⟨⟨rfl,rfl⟩,rfl,trivial⟩,⟨rfl,rowsE (by rw [<-hF,e])⟩,rfl⟩
end Go.Proofs.YtacjiemkbhhhoaaGreatDoor
set_option maxRecDepth 100000
namespace Go.Proofs.YtacjiemkbhhhoaaGreatDoor
open Go Go.Proofs.YtacjiemkbhhhoaaGreatDoor.Ow
def isNk (w:List Int):Bool:=decide (least w=w)
def chkN (n k:Nat):Bool:=decide (neckL n k=(wordsL k n).filter isNk)
theorem chkN_all:∀n,n<11->∀k,k<5->1<=n->1<=k->k ^ n<=1024->chkN n k=true:=by decide+kernel
theorem neck_kpt {n k:Nat} (h1:1<=n) (hn:n<=10) (hk:1<=k) (hk4:k<=4) (hs:k ^ n<=1024):neckL n k=kptL isNk k n (k ^ n):=by
 have h:=of_decide_eq_true (chkN_all n (by omega) k (by omega) h1 hk hs)
 rw [h,wordsL_eq];rfl
theorem kpt_find (P:List Int->Bool) (k n:Nat):∀(m j:Nat),j<(kptL P k n m).length->∃i,i<m/\P (wrdN k n i)=true/\(kptL P k n i).length=j/\(kptL P k n m).getD j []=wrdN k n i
 |0,j,h=>by simp [kptL] at h
 |m+1,j,h=>by
  by_cases hp:P (wrdN k n m)=true
  .rw [kpt_yes P k n m hp] at h ⊢
   rw [List.length_append,List.length_singleton] at h
   by_cases hj:j=(kptL P k n m).length
   .subst hj
    refine ⟨m,by omega,hp,rfl,?_⟩
    rw [List.getD_eq_getElem?_getD,List.getElem?_append_right (Nat.le_refl _),Nat.sub_self];rfl
   .obtain ⟨i,h1,h2,h3,h4⟩:=kpt_find P k n m j (by omega)
    refine ⟨i,by omega,h2,h3,?_⟩
    rw [List.getD_eq_getElem?_getD,List.getElem?_append_left (by omega),<-List.getD_eq_getElem?_getD,h4]
  .rw [kpt_no P k n m hp] at h ⊢
   obtain ⟨i,h1,h2,h3,h4⟩:=kpt_find P k n m j h
   exact ⟨i,by omega,h2,h3,h4⟩
theorem kpt_mono (P:List Int->Bool) (k n i:Nat):∀m,i<=m->(kptL P k n i).length<=(kptL P k n m).length
 |0,h=>by rw [show i=0 by omega];exact Nat.le_refl _
 |m+1,h=>by
  by_cases e:i=m+1
  .rw [e];exact Nat.le_refl _
  .have:=kpt_mono P k n i m (by omega)
   by_cases hp:P (wrdN k n m)=true
   .rw [kpt_yes P k n m hp,List.length_append];omega
   .rw [kpt_no P k n m hp];exact this
theorem kpt_next (P:List Int->Bool) {k n i i2 j:Nat} (h1:P (wrdN k n i)=true) (h2:(kptL P k n i).length=j) (h3:(kptL P k n i2).length=j+1):i<i2/\∀m,i<m->m<i2->P (wrdN k n m)=false:=by
 have e1:(kptL P k n (i+1)).length=j+1:=by rw [kpt_yes P k n i h1,List.length_append,h2];rfl
 refine ⟨?_,fun m a b=>?_⟩
 .by_cases h:i<i2
  .exact h
  .have:=kpt_mono P k n i2 i (by omega);omega
 .cases hp:P (wrdN k n m) with
  |false=>rfl
  |true=>
   have e2:(kptL P k n (m+1)).length=(kptL P k n m).length+1:=by rw [kpt_yes P k n m hp,List.length_append];rfl
   have e3:=kpt_mono P k n (i+1) m (by omega)
   have e4:=kpt_mono P k n (m+1) i2 (by omega)
   omega
theorem nk_zero (k:Nat):∀n,n<11->isNk (List.replicate n 0)=true:=by decide+kernel
theorem chkC_all:∀n,n<11->∀k,k<5->1<=n->1<=k->k ^ n<=1024->decide (((neckL n k).length:Int)=neckI (n:Nat) (k:Nat))=true:=by decide+kernel
theorem AC.frzb {P:Program} {f:FuncId} {args:List AV} {e:TypeId} {t:Ty} {xs:List t.T} {b1:Bool} (h:AC P f args [] [.ow 0,.d true .bool b1] [.sl e t xs]):
 AC P f args [] [.d true (.sl t) xs,.d true .bool b1] []:=by
 refine ⟨h.1,fun w bs A vs hr hv=>(h.2 w bs A vs hr hv).mono ?_⟩
 rintro ex w' ⟨rv,bs',A',rfl,hrok,⟨vs',hvs,v1,r1,rfl,hx,hrest⟩,hstep,⟨new,rfl⟩,hstay,hup⟩
 have hbs:bs=[]:=List.eq_nil_of_length_eq_zero (by rw [hr.len];rfl)
 subst hbs
 obtain ⟨b,e2,t2,xs2,cur,h1,h2,h3,h4⟩:=hx
 cases h2
 obtain ⟨hA,cur2,c1,c2,c3,c4⟩:=hrok.row 0 b _ h1 rfl
 rw [h3] at c1;cases c1
 have hb:=List.mem_of_getElem? h1
 have hnew:w.heap.size<=b:=by
  rcases hstep.sbs b hb with h|h
  .simp at h
  .exact h
 refine ⟨rv,[],fun x=>A' x\/x=b,rfl,⟨rfl,nd0,fun b hb=>by simp at hb,fun x hx=>?_,fun i b r hb=>by simp at hb⟩,⟨_,hvs,v1,r1,rfl,?_,hrest⟩,⟨hstep.os,hstep.tape,hstep.output,hstep.size,fun k hk _=>hstep.block k hk (by simp),fun b hb=>by simp at hb,fun x hx=>?_⟩,⟨[],rfl⟩,fun b hb=>by simp at hb,fun x hx=>.inl (hup x hx)⟩
 .rcases hx with hx|hx
  .exact hrok.old x hx
  .rw [hx];exact hrok.lt b hb
 .refine ⟨some ⟨b,0,none⟩,cur.size,h4,c2,(fun hh=>by simp at hh),.inr ⟨b,0,rfl,.inr rfl,fun j hj=>?_⟩⟩
  obtain ⟨cv,k1,k2⟩:=c4 j hj
  exact ⟨cv,by rw [Nat.zero_add,cell_of_row w' b j cur _ (0,0) h3];exact k1,Rd.ext (fun b hb _=>⟨rfl,.inl hb⟩) t _ _ k2⟩
 .rcases hx with hx|hx
  .rcases hstep.sA x hx with h|h|h
   .exact .inl h
   .exact .inr (.inl h)
   .simp at h
  .exact .inr (.inl (by rw [hx];exact hnew))
theorem wrd_cN {K N:Nat} (hK:1<=K) (hK4:K<=4) (h1:1<=N) (hN:N<=10) (i:Nat):ColP (wrdN K N i):=by
 have hl:=wrdN_len K N i
 have hg:=wrdN_get K (by omega) N i
 exact ⟨fun j hj=>by have:=hg j (by omega);omega,by omega,by omega⟩
theorem wrd_below {K N:Nat} (hK:1<=K) (i:Nat):belowB (wrdN K N i) (K:Nat)=true:=by
 unfold belowB
 rw [List.all_eq_true]
 intro x hx
 obtain ⟨j,hj,rfl⟩:=List.getElem_of_mem hx
 have:=wrdN_get K (by omega) N i j (by rw [wrdN_len] at hj;exact hj)
 rw [getD_get _ _ _ hj] at this
 exact decide_eq_true this.2
theorem spec_NextNecklace (sh:Bool) (N K i i2:Nat) (hK:1<=K) (hK4:K<=4) (h1:1<=N) (hN:N<=10) (hi:i<i2) (hi2:i2<K ^ N) (hn2:isNk (wrdN K N i2)=true) (hb:∀m,i<m->m<i2->isNk (wrdN K N m)=false):
 AC Tryz.prog 233 [.d sh (.sl .int) (wrdN K N i),I (K:Nat)] [] [.ow 0,.d true .bool true] [.sl 3 .int (wrdN K N i2)]:=by
 have hwl:=wrdN_len K N
 have hwg:=wrdN_get K (by omega) N
 have hnx:=nxt_wrd K (by omega) N
 have hB:=spec_l07Below sh (wrdN K N i) (K:Nat) (by rw [hwl];omega)
 rw [wrd_below hK i,(colB_iff _).2 (wrd_cN hK hK4 h1 hN i),decide_eq_true (show (1:Int)<=(K:Nat) by omega),decide_eq_true (show ((K:Nat):Int)<=4 by omega)] at hB
 refine AC_of tauOk 20 0 [4,5] Tryz.func233 rfl (by kernel_rfl) rfl rfl rfl rfl rfl ?_
 refine ⟨[],false,_,_,hB,nd0,rfl,rfl,trivial,fun _=>?_,nofun⟩
 refine ⟨rfl,by decide,true,rfl,Nat.zero_le _,rfl,by simp only [List.length_nil];rw [hwl];omega,rfl,?_⟩
 refine ⟨Nat,fun m=>⟨[(1,I (K:Nat)),(6,.ow 0)],[.sl 3 .int (wrdN K N m)]⟩,fun m=>i<=m/\m<i2,fun m=>i2-m,i,⟨Nat.le_refl _,hi⟩,
  ⟨⟨rfl,rfl⟩,⟨rfl,rfl,trivial⟩,rowE rfl,trivial⟩,fun m ⟨hm1,hm2⟩=>?_⟩
 have hfl:=nxtF_len (K:Int) N (wrdN K N m)
 have hgi:=hwg m
 have hli:=hwl m
 have hNx:=spec_l06Next (wrdN K N m) K (by omega) (by omega) (by omega) (fun j hj=>by have:=hgi j (by omega);omega)
 rw [hli] at hNx
 have hxm:=hnx m (by omega)
 have hlt:m+1<K ^ N:=by omega
 rw [hxm.1,hxm.2 hlt,decide_eq_true hlt] at hNx
 have hfl2:=hwl (m+1)
 refine ⟨[0],false,_,_,hNx,by decide,rfl,rfl,⟨⟨hfl2.trans hli.symm,rfl,rfl⟩,trivial⟩,fun _=>?_,nofun⟩
 refine ⟨[],false,_,_,spec_IsNecklace false (wrdN K N (m+1)) (wrd_cN hK hK4 h1 hN (m+1)),nd0,rfl,rfl,trivial,fun h3=>?_,fun h3=>?_⟩
 .have e:m+1=i2:=by
   by_cases h:m+1=i2
   .exact h
   .have:=hb (m+1) (by omega) (by omega)
    unfold isNk at this
    rw [this] at h3;cases h3
  exact ⟨some 0,⟨⟨rfl,rfl⟩,rfl,trivial⟩,⟨rfl,rowsE (by rw [e])⟩,rfl⟩
 .have e:m+1≠i2:=fun e=>by
   unfold isNk at hn2
   rw [e,hn2] at h3;cases h3
  exact ⟨m+1,⟨by omega,by omega⟩,by dsimp only;omega,⟨rfl,rfl⟩,⟨rfl,rfl,trivial⟩,rowE rfl,trivial⟩
theorem spec_NecklaceAt_raw (n k i:Int) (r:List AV) (rr:List Row) (hno:nckB n k i=false->r=[.nil,.d true .bool false]/\rr=[])
 (hy0:nckB n k i=true->i=0->r=[.ow 0,.d true .bool true]/\rr=[.sl 3 .int ((neckL n.toNat k.toNat).getD i.toNat [])])
 (hyes:nckB n k i=true->i≠0->r=[.d true (.sl .int) ((neckL n.toNat k.toNat).getD i.toNat []),.d true .bool true]/\rr=[]):AC Tryz.prog 127 [I n,I k,I i] [] r rr:=by
 have hnb:=neck_b n k
 refine AC_of tauOk 47 0 [6,7] Tryz.func127 rfl (by kernel_rfl) rfl rfl rfl rfl rfl ?_
 refine ⟨[],false,_,_,spec_l01In _ _ _,nd0,rfl,rfl,trivial,fun h1=>?_,fun h1=>?_⟩
 .refine ⟨[],false,_,_,spec_l01In _ _ _,nd0,rfl,rfl,trivial,fun h2=>?_,fun h2=>?_⟩
  .simp only [Bool.and_eq_true,decide_eq_true_eq] at h1 h2
   obtain ⟨N,rfl⟩:∃N:Nat,n=(N:Int):=⟨n.toNat,by omega⟩
   obtain ⟨K,rfl⟩:∃K:Nat,k=(K:Int):=⟨k.toNat,by omega⟩
   refine ⟨[],false,_,_,spec_l05Power K N (by omega) (by omega),nd0,rfl,rfl,trivial,fun h3=>?_,fun h3=>?_⟩
   .obtain ⟨rfl,rfl⟩:=hno (by rw [nckB,smallB,Int.toNat_natCast,Int.toNat_natCast,decide_eq_false (show ¬K ^ N<=1024 by omega)];simp)
    exact ⟨none,⟨rfl,rfl,trivial⟩,rfl,rfl⟩
   .have hs:K ^ N<=1024:=by omega
    have hcnt:=of_decide_eq_true (chkC_all N (by omega) K (by omega) (by omega) (by omega) hs)
    have hB:nckB (N:Int) (K:Int) i=(decide (0<=i) && decide (i<((neckL N K).length:Int))):=by
     rw [nckB,smallB,lenN,Int.toNat_natCast,Int.toNat_natCast,decide_eq_true (show (1:Int)<=(N:Nat) by omega),decide_eq_true (show ((N:Nat):Int)<=10 by omega),decide_eq_true (show (1:Int)<=(K:Nat) by omega),decide_eq_true (show ((K:Nat):Int)<=4 by omega),decide_eq_true hs];rfl
    rw [Int.toNat_natCast,Int.toNat_natCast] at hyes hy0
    have hkp:=neck_kpt (n:=N) (k:=K) (by omega) (by omega) (by omega) (by omega) hs
    have hlen:=neckL_len N K (by omega)
    refine ⟨[],false,_,_,spec_CountNecklaces (N:Int) (K:Int),nd0,rfl,rfl,trivial,neckI (N:Int) (K:Int)-1,w64_eq rfl (by omega) (by omega),[],false,_,_,spec_l01In _ _ _,nd0,rfl,rfl,trivial,fun h4=>?_,fun h4=>?_⟩
    .simp only [Bool.and_eq_true,decide_eq_true_eq] at h4
     have hBt:nckB (N:Int) (K:Int) i=true:=by rw [hB,decide_eq_true h4.1,decide_eq_true (show i<((neckL N K).length:Int) by omega)];rfl
     have hy0:=hy0 hBt
     have hyes:=hyes hBt
     obtain ⟨I0,rfl⟩:∃I0:Nat,i=(I0:Int):=⟨i.toNat,by omega⟩
     have hI0:I0<(kptL isNk K N (K ^ N)).length:=by rw [<-hkp];omega
     have h00:isNk (wrdN K N 0)=true:=by rw [wrdN_zero];exact nk_zero 0 N (by omega)
     have hfd:=fun j hj=>kpt_find isNk K N (K ^ N) j hj
     refine ⟨N,N,rfl,rfl,Nat.le_refl _,by omega,?_⟩
     refine ⟨Bool × Nat × Nat,fun s=>match s.1 with
      |true=>⟨[(1,I (K:Nat)),(2,I (I0:Nat)),(8,.d true (.sl .int) (wrdN K N s.2.2)),(9,I (s.2.1:Nat))],[]⟩
      |false=>⟨[(1,I (K:Nat)),(2,I (I0:Nat)),(8,.ow 0),(9,I (s.2.1:Nat))],[.sl 3 .int (wrdN K N s.2.2)]⟩,
      fun s=>s.2.1<=I0/\s.2.2<K ^ N/\isNk (wrdN K N s.2.2)=true/\(kptL isNk K N s.2.2).length=s.2.1/\(s.1=true ↔ s.2.1≠0),fun s=>I0-s.2.1,(false,0,0),⟨Nat.zero_le _,Nat.pow_pos (by omega),h00,rfl,by simp⟩,
      ⟨⟨rfl,rfl⟩,⟨rfl,rfl,rfl,rfl,trivial⟩,rowE (wrdN_zero K N).symm,trivial⟩,?_⟩
     rintro ⟨md,j,i⟩ ⟨hj,hi,hi1,hij,hmd⟩
     dsimp only at hj hi hi1 hij hmd
     cases md
     .dsimp only
      refine ⟨fun h5=>?_,fun h5=>?_⟩
      .obtain ⟨i2,g1,g2,g3,g4⟩:=hfd (j+1) (by omega)
       obtain ⟨g5,g6⟩:=kpt_next isNk hi1 hij g3
       refine ⟨[],true,_,_,spec_NextNecklace false N K i i2 (by omega) (by omega) (by omega) (by omega) g5 g1 g2 g6,nd0,rfl,rfl,trivial,fun _=>?_,nofun⟩
       exact ⟨((j+1:Nat):Int),w64_eq (by omega) (by omega) (by omega),(true,j+1,i2),⟨by dsimp only;omega,g1,g2,g3,by simp⟩,by dsimp only;omega,⟨rfl,rfl⟩,⟨rfl,rfl,rfl,rfl,trivial⟩,trivial⟩
      .obtain rfl:j=I0:=by omega
       obtain ⟨i2,g1,g2,g3,g4⟩:=hfd j hI0
       have e:i2=i:=by
        rcases Nat.lt_trichotomy i i2 with h|h|h
        .have:=(kpt_next isNk (n:=N) (k:=K) hi1 hij (i2:=i2+1) (by rw [kpt_yes isNk K N i2 g2,List.length_append,g3];rfl)).2 i2 h (by omega)
         rw [g2] at this;cases this
        .exact h.symm
        .have:=(kpt_next isNk (n:=N) (k:=K) g2 g3 (i2:=i+1) (by rw [kpt_yes isNk K N i hi1,List.length_append,hij];rfl)).2 i h (by omega)
         rw [hi1] at this;cases this
       subst e
       obtain ⟨rfl,rfl⟩:=hy0 (by simp at hmd;omega)
       exact ⟨some 0,⟨⟨rfl,rfl⟩,rfl,trivial⟩,⟨rfl,rowsE (by rw [Int.toNat_natCast,hkp,g4])⟩,rfl⟩
     .dsimp only
      refine ⟨fun h5=>?_,fun h5=>?_⟩
      .obtain ⟨i2,g1,g2,g3,g4⟩:=hfd (j+1) (by omega)
       obtain ⟨g5,g6⟩:=kpt_next isNk hi1 hij g3
       refine ⟨[],true,_,_,spec_NextNecklace true N K i i2 (by omega) (by omega) (by omega) (by omega) g5 g1 g2 g6,nd0,rfl,rfl,trivial,fun _=>?_,nofun⟩
       exact ⟨((j+1:Nat):Int),w64_eq (by omega) (by omega) (by omega),(true,j+1,i2),⟨by dsimp only;omega,g1,g2,g3,by simp⟩,by dsimp only;omega,⟨rfl,rfl⟩,⟨rfl,rfl,rfl,rfl,trivial⟩,trivial⟩
      .obtain rfl:j=I0:=by omega
       obtain ⟨i2,g1,g2,g3,g4⟩:=hfd j hI0
       have e:i2=i:=by
        rcases Nat.lt_trichotomy i i2 with h|h|h
        .have:=(kpt_next isNk (n:=N) (k:=K) hi1 hij (i2:=i2+1) (by rw [kpt_yes isNk K N i2 g2,List.length_append,g3];rfl)).2 i2 h (by omega)
         rw [g2] at this;cases this
        .exact h.symm
        .have:=(kpt_next isNk (n:=N) (k:=K) g2 g3 (i2:=i+1) (by rw [kpt_yes isNk K N i hi1,List.length_append,hij];rfl)).2 i h (by omega)
         rw [hi1] at this;cases this
       subst e
       obtain ⟨rfl,rfl⟩:=hyes (by simp at hmd;omega)
       rw [Int.toNat_natCast,hkp,g4]
       exact ⟨none,⟨rfl,rfl,trivial⟩,rfl,rfl⟩
    .obtain ⟨rfl,rfl⟩:=hno (by
      rw [hB]
      simp only [Bool.and_eq_false_iff,decide_eq_false_iff_not] at h4 ⊢
      omega)
     exact ⟨none,⟨rfl,rfl,trivial⟩,rfl,rfl⟩
  .obtain ⟨rfl,rfl⟩:=hno (by
    unfold nckB smallB
    simp only [Bool.and_eq_false_iff,decide_eq_false_iff_not] at h2 ⊢
    omega)
   exact ⟨none,⟨rfl,rfl,trivial⟩,rfl,rfl⟩
 .obtain ⟨rfl,rfl⟩:=hno (by
   unfold nckB lenN
   simp only [Bool.and_eq_false_iff,decide_eq_false_iff_not] at h1 ⊢
   omega)
  exact ⟨none,⟨rfl,rfl,trivial⟩,rfl,rfl⟩
theorem spec_NecklaceAt (n k i:Int) (r:List AV) (hno:nckB n k i=false->r=[.nil,.d true .bool false])
 (hyes:nckB n k i=true->r=[.d true (.sl .int) ((neckL n.toNat k.toNat).getD i.toNat []),.d true .bool true]):AC Tryz.prog 127 [I n,I k,I i] [] r []:=by
 have h:=spec_NecklaceAt_raw n k i
 cases hB:nckB n k i with
 |false=>
  rw [hno hB]
  exact h _ _ (fun _=>⟨rfl,rfl⟩) (fun e=>by rw [hB] at e;cases e) (fun e=>by rw [hB] at e;cases e)
 |true=>
  rw [hyes hB]
  by_cases h0:i=0
  .exact AC.frzb (e:=3) (h _ _ (fun e=>by rw [hB] at e;cases e) (fun _ _=>⟨rfl,rfl⟩) (fun _ e=>(e h0).elim))
  .exact h _ _ (fun e=>by rw [hB] at e;cases e) (fun _ e=>(h0 e).elim) (fun _ _=>⟨rfl,rfl⟩)
theorem spec_l08Ok (n k:Int):AC Tryz.prog 300 [I n,I k] [] [.d true .bool (woaB n k)] []:=by
 refine AC_of tauOk 17 0 [4] Tryz.func300 rfl (by kernel_rfl) rfl rfl rfl rfl rfl ?_
 refine ⟨[],false,_,_,spec_l01In _ _ _,nd0,rfl,rfl,trivial,fun h1=>?_,fun h1=>?_⟩
 .refine ⟨[],false,_,_,spec_l01In _ _ _,nd0,rfl,rfl,trivial,fun h2=>?_,fun h2=>?_⟩
  .simp only [Bool.and_eq_true,decide_eq_true_eq] at h1 h2
   obtain ⟨N,rfl⟩:∃N:Nat,n=(N:Int):=⟨n.toNat,by omega⟩
   obtain ⟨K,rfl⟩:∃K:Nat,k=(K:Int):=⟨k.toNat,by omega⟩
   have e:woaB (N:Int) (K:Int)=decide (K ^ N<=1024):=by
    rw [woaB,smallB,lenN,Int.toNat_natCast,Int.toNat_natCast,decide_eq_true (show (1:Int)<=(N:Nat) by omega),decide_eq_true (show ((N:Nat):Int)<=10 by omega),decide_eq_true (show (1:Int)<=(K:Nat) by omega),decide_eq_true (show ((K:Nat):Int)<=4 by omega)];rfl
   refine ⟨[],false,_,_,spec_l05Power K N (by omega) (by omega),nd0,rfl,rfl,trivial,fun h3=>?_,fun h3=>?_⟩
   .exact ⟨none,⟨retB (by rw [e,decide_eq_true (show K ^ N<=1024 by omega)]),trivial⟩,rfl,rfl⟩
   .exact ⟨none,⟨retB (by rw [e,decide_eq_false (show ¬K ^ N<=1024 by omega)]),trivial⟩,rfl,rfl⟩
  .have e:woaB n k=false:=by
    unfold woaB smallB
    simp only [Bool.and_eq_false_iff,decide_eq_false_iff_not] at h2 ⊢
    omega
   exact ⟨none,⟨retB e,trivial⟩,rfl,rfl⟩
 .have e:woaB n k=false:=by
   unfold woaB lenN
   simp only [Bool.and_eq_false_iff,decide_eq_false_iff_not] at h1 ⊢
   omega
  exact ⟨none,⟨retB e,trivial⟩,rfl,rfl⟩
theorem filt_filt {p q r:List Int->Bool} (l:List (List Int)) (h:∀x∈l,(r x=true ↔ (p x=true/\q x=true))):l.filter r=(l.filter p).filter q:=by
 rw [List.filter_filter]
 refine List.filter_congr fun x hx=>?_
 have:=h x hx
 cases h1:r x<;>cases h2:p x<;>cases h3:q x<;>simp_all
theorem lyn_kpt {n k:Nat} (h1:1<=n) (hn:n<=10) (hk:1<=k) (hk4:k<=4) (hs:k ^ n<=1024):lynL n k=kptL lynB k n (k ^ n):=by
 rw [lynL,neck_kpt h1 hn hk hk4 hs]
 unfold kptL
 refine (filt_filt _ fun x hx=>?_).symm
 obtain ⟨i,hi,rfl⟩:=List.mem_map.1 hx
 unfold lynB isNk
 rw [wrdN_len]
 simp
theorem spec_LyndonWords (N K:Nat) (hK:1<=K) (hK4:K<=4) (h1:1<=N) (hN:N<=10) (hs:K ^ N<=1024):AC Tryz.prog 301 [I (N:Nat),I (K:Nat)] [] [.ow 0,.d true .bool true] [.sl 29 (.sl .int) (lynL N K)]:=by
 have hpp:0<K ^ N:=Nat.pow_pos (by omega)
 have hwl:=wrdN_len K N
 have hwg:=wrdN_get K (by omega) N
 have hw0:=wrdN_zero K N
 have hnx:=nxt_wrd K (by omega) N
 have hky:=kpt_yes lynB K N
 have hkn:=kpt_no lynB K N
 have hkl:=kpt_len lynB K N
 have hO:=spec_l08Ok (N:Int) (K:Int)
 rw [show woaB (N:Int) (K:Int)=true by
  rw [woaB,smallB,lenN,Int.toNat_natCast,Int.toNat_natCast,decide_eq_true (show (1:Int)<=(N:Nat) by omega),decide_eq_true (show ((N:Nat):Int)<=10 by omega),decide_eq_true (show (1:Int)<=(K:Nat) by omega),decide_eq_true (show ((K:Nat):Int)<=4 by omega),decide_eq_true hs];rfl] at hO
 rw [lyn_kpt h1 hN hK hK4 hs]
 refine AC_of tauOk 28 0 [4,5] Tryz.func301 rfl (by kernel_rfl) rfl rfl rfl rfl rfl ?_
 refine ⟨[],false,_,_,hO,nd0,rfl,rfl,trivial,fun _=>?_,nofun⟩
 refine ⟨rfl,by decide,true,N,N,rfl,rfl,Nat.le_refl _,by omega,?_⟩
 refine ⟨Nat,fun i=>⟨[(1,I (K:Nat)),(6,.ow 0),(7,.ow 1)],[.sl 29 (.sl .int) (kptL lynB K N i),.sl 3 .int (wrdN K N i)]⟩,fun i=>i<K ^ N,fun i=>K ^ N-i,0,hpp,
  ⟨⟨rfl,rfl⟩,⟨rfl,rfl,rfl,trivial⟩,rowE rfl,rowE hw0.symm,trivial⟩,fun i hi=>?_⟩
 dsimp only at hi
 have hli:=hwl i
 have hgi:=hwg i
 have hcol:=wrd_cN hK hK4 h1 hN i
 have hnxi:=hnx i hi
 have hkli:=hkl i
 have hfl:=nxtF_len (K:Int) N (wrdN K N i)
 have hNx:=spec_l06Next (wrdN K N i) K (by omega) (by omega) (by omega) (fun j hj=>by have:=hgi j (by omega);omega)
 rw [hli] at hNx
 have hkey:∀(h:decide (i+1<K ^ N)=true),i+1<K ^ N:=fun h=>of_decide_eq_true h
 rw [hnxi.1] at hNx
 refine ⟨[],false,_,_,spec_IsLyndon false (wrdN K N i) hcol,nd0,rfl,rfl,trivial,fun h3=>?_,fun h3=>?_⟩
 .have hy:=hky i h3
  refine ⟨rfl,by decide,true,rfl,Nat.zero_le _,rfl,by simp only [List.length_nil];omega,rfl,?_⟩
  refine ⟨rfl,rfl,by decide,false,rfl,Nat.zero_le _,rfl,by simp only [List.length_cons,List.length_nil];omega,rfl,?_⟩
  refine ⟨[1],false,_,_,hNx,by decide,rfl,rfl,⟨⟨hfl,rfl,rfl⟩,trivial⟩,fun h4=>?_,fun h4=>?_⟩
  .have h5:=hkey h4
   exact ⟨i+1,h5,by dsimp only;omega,⟨rfl,rfl⟩,⟨rfl,rfl,rfl,trivial⟩,rowE hy.symm,rowE (hnxi.2 h5),trivial⟩
  .have h5:i+1=K ^ N:=by have:=of_decide_eq_false h4;omega
   exact ⟨some 0,⟨⟨rfl,rfl⟩,rfl,trivial⟩,⟨rfl,rowsE (by rw [<-h5];exact hy.symm)⟩,rfl⟩
 .have hy:=hkn i (by unfold lynB;rw [h3];decide)
  refine ⟨[1],false,_,_,hNx,by decide,rfl,rfl,⟨⟨hfl,rfl,rfl⟩,trivial⟩,fun h4=>?_,fun h4=>?_⟩
  .have h5:=hkey h4
   exact ⟨i+1,h5,by dsimp only;omega,⟨rfl,rfl⟩,⟨rfl,rfl,rfl,trivial⟩,rowE hy.symm,rowE (hnxi.2 h5),trivial⟩
  .have h5:i+1=K ^ N:=by have:=of_decide_eq_false h4;omega
   exact ⟨some 0,⟨⟨rfl,rfl⟩,rfl,trivial⟩,⟨rfl,rowsE (by rw [<-h5];exact hy.symm)⟩,rfl⟩
theorem spec_l08Before (s1 s2:Bool) (xs ys:List Int) (hl:xs.length<=1048576) (hl2:ys.length<=1048576):AC Tryz.prog 302 [.d s1 (.sl .int) xs,.d s2 (.sl .int) ys] [] [.d true .bool (decide (cmpI xs ys<0))] []:=by
 refine AC_of tauOk 36 0 [4] Tryz.func302 rfl (by kernel_rfl) rfl rfl rfl rfl rfl ?_
 refine ⟨Nat,fun k=>⟨[(0,.d s1 (.sl .int) xs),(1,.d s2 (.sl .int) ys),(7,.d s1 (.sl .int) xs),(8,I xs.length),(9,I (k:Nat))],[]⟩,fun k=>k<=xs.length/\k<=ys.length/\cmpI xs ys=cmpI (xs.drop k) (ys.drop k),fun k=>xs.length-k,0,⟨Nat.zero_le _,Nat.zero_le _,rfl⟩,
  ⟨⟨rfl,rfl⟩,⟨rfl,rfl,rfl,rfl,rfl,trivial⟩,trivial⟩,fun k ⟨hk,hk2,he⟩=>?_⟩
 refine ⟨fun h1=>?_,fun h1=>?_⟩
 .have hk3:k<xs.length:=by omega
  refine ⟨k,rfl,hk3,fun h2=>?_,fun h2=>?_⟩
  .have e:cmpI xs ys=1:=by
    rw [he,List.drop_eq_nil_of_le (show ys.length<=k by omega),List.drop_eq_getElem_cons hk3];rfl
   exact ⟨none,⟨retB (by rw [e];rfl),trivial⟩,rfl,rfl⟩
  .have hk4:k<ys.length:=by omega
   have hd:=cmpI_drop xs ys k hk3 hk4
   refine ⟨k,rfl,hk4,fun h3=>?_,fun h3=>?_⟩
   .refine ⟨k,rfl,hk4,fun h4=>?_,fun h4=>?_⟩
    .exact ⟨none,⟨retB (by rw [he,hd,if_pos h4];rfl),trivial⟩,rfl,rfl⟩
    .exact ⟨none,⟨retB (by rw [he,hd,if_neg h4,if_pos (by omega)];rfl),trivial⟩,rfl,rfl⟩
   .exact ⟨_,w64_in _ (by omega) (by omega),k+1,⟨by omega,by omega,by rw [he,hd,if_neg (by omega),if_neg (by omega)]⟩,by dsimp only;omega,⟨rfl,rfl⟩,⟨rfl,rfl,rfl,rfl,rfl,trivial⟩,trivial⟩
 .obtain rfl:k=xs.length:=by omega
  rw [List.drop_length] at he
  refine ⟨fun h2=>?_,fun h2=>?_⟩
  .have e:cmpI xs ys= -1:=by
    rw [he,List.drop_eq_getElem_cons (show xs.length<ys.length by omega)];rfl
   exact ⟨none,⟨retB (by rw [e];rfl),trivial⟩,rfl,rfl⟩
  .have e:cmpI xs ys=0:=by
    rw [he,List.drop_eq_nil_of_le (show ys.length<=xs.length by omega)];rfl
   exact ⟨none,⟨retB (by rw [e];rfl),trivial⟩,rfl,rfl⟩
def insW (w:List Int):List (List Int)->List (List Int)
 |[]=>[w]
 |x::l=>if cmpI x w<0 then x::insW w l else w::x::l
theorem insW_eq (w:List Int):∀(l:List (List Int)) (k:Nat),k<=l.length->(∀j,j<k->cmpI (l.getD j []) w<0)->(k<l.length->¬cmpI (l.getD k []) w<0)->l.take k++[w]++l.drop k=insW w l
 |[],k,h,_,_=>by
  have:k=0:=by simpa using h
  subst this;rfl
 |x::l,0,_,_,h=>by
  have h:=h (by simp)
  rw [insW,if_neg (show ¬cmpI x w<0 from h)];rfl
 |x::l,k+1,hk,hb,h=>by
  have h0:=hb 0 (by omega)
  rw [insW,if_pos (show cmpI x w<0 from h0),<-insW_eq w l k (by simpa using hk) (fun j hj=>hb (j+1) (by omega)) (fun hh=>h (by simpa using hh))]
  rfl
theorem insW_perm (w:List Int):∀l,(insW w l).Perm (w::l)
 |[]=>List.Perm.refl _
 |x::l=>by
  rw [insW]
  split
  .exact ((insW_perm w l).cons x).trans (List.Perm.swap w x l)
  .exact List.Perm.refl _
theorem cmpI_tr {x y z:List Int} (h1:¬cmpI y x<0) (h2:¬cmpI z y<0):¬cmpI z x<0:=by
 intro h
 have a1:=cmpI_neg y z
 have a2:=cmpI_neg x y
 by_cases e:cmpI y z=0
 .rw [cmpI_eq _ _ e] at h1;exact h1 h
 .exact h1 (cmpI_trans y z x (by omega) h)
theorem insW_sorted (w:List Int):∀l,l.Pairwise (fun x y=>¬cmpI y x<0)->(insW w l).Pairwise (fun x y=>¬cmpI y x<0)
 |[],_=>by rw [insW];exact List.pairwise_singleton _ _
 |x::l,h=>by
  rw [List.pairwise_cons] at h
  rw [insW]
  split
  .rename_i hx
   rw [List.pairwise_cons]
   refine ⟨fun y hy=>?_,insW_sorted w l h.2⟩
   rcases List.mem_cons.1 ((insW_perm w l).mem_iff.1 hy) with e|e
   .rw [e];have:=cmpI_neg x w;omega
   .exact h.1 y e
  .rename_i hx
   rw [List.pairwise_cons]
   refine ⟨fun y hy=>?_,List.pairwise_cons.2 h⟩
   rcases List.mem_cons.1 hy with e|e
   .rw [e];exact hx
   .exact cmpI_tr hx (h.1 y e)
def insF (ws l:List (List Int)):List (List Int):=l.foldl (fun ws w=>insW w ws) ws
theorem insF_perm:∀(l ws:List (List Int)),(insF ws l).Perm (ws++l)
 |[],ws=>by rw [List.append_nil];exact List.Perm.refl _
 |w::l,ws=>by
  have h:=insF_perm l (insW w ws)
  refine h.trans ?_
  refine ((insW_perm w ws).append_right l).trans ?_
  exact (List.perm_middle (a:=w) (l₁:=ws) (l₂:=l)).symm
theorem insF_sorted:∀(l ws:List (List Int)),ws.Pairwise (fun x y=>¬cmpI y x<0)->(insF ws l).Pairwise (fun x y=>¬cmpI y x<0)
 |[],_,h=>h
 |w::l,ws,h=>insF_sorted l (insW w ws) (insW_sorted w ws h)
def wdS (n k:Nat):Nat->List (List Int)
 |0=>[]
 |d+1=>if n % (d+1)=0 then insF (wdS n k d) (lynL (d+1) k) else wdS n k d
theorem wdS_ok (n k:Nat):∀d,(wdS n k d).Perm (woaS n k d)/\(wdS n k d).Pairwise (fun x y=>¬cmpI y x<0)
 |0=>⟨List.Perm.refl _,List.Pairwise.nil⟩
 |d+1=>by
  obtain ⟨h1,h2⟩:=wdS_ok n k d
  rw [wdS,woaS]
  split
  .exact ⟨(insF_perm _ _).trans (h1.append_right _),insF_sorted _ _ h2⟩
  .exact ⟨by simpa using h1,h2⟩
theorem wdS_eq (n k:Nat):(wdS n k n).flatten=woaL n k:=by
 obtain ⟨h1,h2⟩:=wdS_ok n k n
 unfold woaL
 congr 1
 refine List.Perm.eq_of_pairwise (le:=fun x y=>¬cmpI y x<0) (fun a b _ _ g1 g2=>?_) h2 (srtL_s _) (h1.trans (srtL_p _).symm)
 have:=cmpI_neg a b
 exact cmpI_eq _ _ (by omega)
theorem spec_WordOfAll_ok (N K:Nat) (hK:1<=K) (hK4:K<=4) (h1:1<=N) (hN:N<=10) (hs:K ^ N<=1024):AC Tryz.prog 234 [I (N:Nat),I (K:Nat)] [] [.ow 0,.d true .bool true] [.sl 3 .int (woaL N K)]:=by
 have hO:=spec_l08Ok (N:Int) (K:Int)
 rw [show woaB (N:Int) (K:Int)=true by
  rw [woaB,smallB,lenN,Int.toNat_natCast,Int.toNat_natCast,decide_eq_true (show (1:Int)<=(N:Nat) by omega),decide_eq_true (show ((N:Nat):Int)<=10 by omega),decide_eq_true (show (1:Int)<=(K:Nat) by omega),decide_eq_true (show ((K:Nat):Int)<=4 by omega),decide_eq_true hs];rfl] at hO
 have hwl:∀d,d<=N->(wdS N K d).length<=10240/\∀x∈wdS N K d,x.length<=10:=fun d hd=>by
  obtain ⟨a1,a2⟩:=woaS_ok hK hs hN d hd
  have hp:=(wdS_ok N K d).1
  exact ⟨by rw [hp.length_eq];omega,fun x hx=>(a2 x (hp.mem_iff.1 hx)).2⟩
 have hfe:=wdS_eq N K
 have hpd:∀d,d<=N->K ^ d<=1024:=fun d hd=>Nat.le_trans (Nat.pow_le_pow_right hK hd) hs
 refine AC_of tauOk 84 0 [4,5] Tryz.func234 rfl (by kernel_rfl) rfl rfl rfl rfl rfl ?_
 refine ⟨[],false,_,_,hO,nd0,rfl,rfl,trivial,fun _=>?_,nofun⟩
 refine ⟨rfl,by decide,true,?_⟩
 refine ⟨Nat,fun d=>⟨[(0,I (N:Nat)),(1,I (K:Nat)),(6,.d true (.sl (.sl .int)) (wdS N K d)),(7,I ((d+1:Nat):Int))],[]⟩,fun d=>d<=N,fun d=>N-d,0,Nat.zero_le _,
  ⟨⟨rfl,rfl⟩,⟨rfl,rfl,⟨rfl,rfl,rfl⟩,rfl,trivial⟩,trivial⟩,fun d hd=>?_⟩
 dsimp only at hd
 have hes:wdS N K (d+1)=if N % (d+1)=0 then insF (wdS N K d) (lynL (d+1) K) else wdS N K d:=rfl
 refine ⟨fun h2=>?_,fun h2=>?_⟩
 .have hd2:d<N:=by omega
  refine ⟨by omega,((N % (d+1):Nat):Int),Int.ofNat_tmod N (d+1),fun h3=>?_,fun h3=>?_⟩
  .rw [if_neg (by omega)] at hes
   exact ⟨((d+1+1:Nat):Int),w64_eq (by omega) (by omega) (by omega),d+1,by dsimp only;omega,by dsimp only;omega,⟨rfl,rfl⟩,⟨rfl,rfl,by rw [hes];rfl,rfl,trivial⟩,trivial⟩
  .rw [if_pos (by omega)] at hes
   have hll:=lyn_len (d+1) K hK
   have hpd1:=hpd (d+1) hd2
   obtain ⟨hw1,hw2⟩:=hwl d hd
   have hle:∀x∈lynL (d+1) K,x.length<=10:=fun x hx=>by have:=(neck_el hK x (List.mem_filter.1 hx).1).1;omega
   refine ⟨[],true,_,_,spec_LyndonWords (d+1) K hK hK4 (by omega) (by omega) hpd1,nd0,rfl,rfl,trivial,fun _=>?_,nofun⟩
   generalize lynL (d+1) K=l at*
   refine ⟨Nat,fun j=>⟨[(0,I (N:Nat)),(1,I (K:Nat)),(6,.d true (.sl (.sl .int)) (insF (wdS N K d) (l.take j))),(7,I ((d+1:Nat):Int)),(37,.d true (.sl (.sl .int)) l),(38,I l.length),(39,I (j:Nat))],[]⟩,fun j=>j<=l.length,fun j=>l.length-j,0,Nat.zero_le _,
    ⟨⟨rfl,rfl⟩,⟨rfl,rfl,rfl,rfl,rfl,rfl,rfl,trivial⟩,trivial⟩,fun j hj=>?_⟩
   dsimp only at hj
   refine ⟨fun h4=>?_,fun h4=>?_⟩
   .have hj2:j<l.length:=by omega
    have hst:insF (wdS N K d) (l.take (j+1))=insW (l.getD j []) (insF (wdS N K d) (l.take j)):=by rw [L_succ l j [] hj2,insF,List.foldl_append];rfl
    have hwj:=hle (l.getD j []) (by rw [getD_get _ _ _ hj2];exact List.getElem_mem _)
    have hpm:=insF_perm (l.take j) (wdS N K d)
    have hsl:(insF (wdS N K d) (l.take j)).length<=20480:=by rw [hpm.length_eq,List.length_append,List.length_take];omega
    have hsx:∀i,i<(insF (wdS N K d) (l.take j)).length->((insF (wdS N K d) (l.take j)).getD i []).length<=10:=fun i hi=>by
     have:(insF (wdS N K d) (l.take j)).getD i []∈wdS N K d++l.take j:=hpm.mem_iff.1 (by rw [getD_get _ _ _ hi];exact List.getElem_mem _)
     rcases List.mem_append.1 this with h|h
     .exact hw2 _ h
     .exact hle _ (List.mem_of_mem_take h)
    have hin:=insW_eq (l.getD j []) (insF (wdS N K d) (l.take j))
    rw [<-hst] at hin
    refine ⟨j,rfl,hj2,?_⟩
    refine ⟨Nat,fun a=>⟨[(0,I (N:Nat)),(1,I (K:Nat)),(6,.d true (.sl (.sl .int)) (insF (wdS N K d) (l.take j))),(7,I ((d+1:Nat):Int)),(11,.d true (.sl .int) (l.getD j [])),(12,I (a:Nat)),(37,.d true (.sl (.sl .int)) l),(38,I l.length),(39,I (j:Nat))],[]⟩,fun a=>a<=(insF (wdS N K d) (l.take j)).length/\∀q,q<a->cmpI ((insF (wdS N K d) (l.take j)).getD q []) (l.getD j [])<0,fun a=>(insF (wdS N K d) (l.take j)).length-a,0,⟨Nat.zero_le _,fun q hq=>by omega⟩,
     ⟨⟨rfl,rfl⟩,⟨rfl,rfl,rfl,rfl,rfl,rfl,rfl,rfl,rfl,trivial⟩,trivial⟩,fun a ⟨ha,hq⟩=>?_⟩
    refine ⟨fun h5=>?_,fun h5=>?_⟩
    .have ha2:a<(insF (wdS N K d) (l.take j)).length:=by omega
     refine ⟨a,rfl,ha2,[],false,_,_,spec_l08Before true true ((insF (wdS N K d) (l.take j)).getD a []) (l.getD j []) (by have:=hsx a ha2;omega) (by omega),nd0,rfl,rfl,trivial,fun h6=>?_,fun h6=>?_⟩
     .exact ⟨((a+1:Nat):Int),w64_eq (by omega) (by omega) (by omega),a+1,⟨by omega,upto hq (of_decide_eq_true h6)⟩,by dsimp only;omega,⟨rfl,rfl⟩,⟨rfl,rfl,rfl,rfl,rfl,rfl,rfl,rfl,rfl,trivial⟩,trivial⟩
     .have e:=hin a ha hq (fun _=>of_decide_eq_false h6)
      refine ⟨rfl,by decide,true,?_⟩
      refine ⟨a,rfl,Nat.zero_le _,ha,?_⟩
      refine ⟨rfl,Nat.zero_le _,rfl,by simp only [List.length_drop,List.length_take,List.length_nil];omega,rfl,?_⟩
      refine ⟨rfl,by decide,false,?_⟩
      refine ⟨rfl,Nat.zero_le _,rfl,by simp only [List.length_append,List.length_cons,List.length_drop,List.length_take,List.length_nil];omega,rfl,?_⟩
      refine ⟨a,rfl,ha,Nat.le_refl _,?_⟩
      refine ⟨rfl,Nat.zero_le _,rfl,by simp only [List.length_append,List.length_cons,List.length_drop,List.length_take,List.length_nil];omega,rfl,?_⟩
      exact ⟨((j+1:Nat):Int),w64_eq (by omega) (by omega) (by omega),j+1,by dsimp only;omega,by dsimp only;omega,⟨rfl,rfl⟩,⟨rfl,rfl,⟨rfl,rfl,by rw [<-e,List.take_length];rfl⟩,rfl,rfl,rfl,rfl,trivial⟩,trivial⟩
    .have e:=hin a ha hq (fun h=>by omega)
     refine ⟨rfl,by decide,true,?_⟩
     refine ⟨a,rfl,Nat.zero_le _,ha,?_⟩
     refine ⟨rfl,Nat.zero_le _,rfl,by simp only [List.length_drop,List.length_take,List.length_nil];omega,rfl,?_⟩
     refine ⟨rfl,by decide,false,?_⟩
     refine ⟨rfl,Nat.zero_le _,rfl,by simp only [List.length_append,List.length_cons,List.length_drop,List.length_take,List.length_nil];omega,rfl,?_⟩
     refine ⟨a,rfl,ha,Nat.le_refl _,?_⟩
     refine ⟨rfl,Nat.zero_le _,rfl,by simp only [List.length_append,List.length_cons,List.length_drop,List.length_take,List.length_nil];omega,rfl,?_⟩
     exact ⟨((j+1:Nat):Int),w64_eq (by omega) (by omega) (by omega),j+1,by dsimp only;omega,by dsimp only;omega,⟨rfl,rfl⟩,⟨rfl,rfl,⟨rfl,rfl,by rw [<-e,List.take_length];rfl⟩,rfl,rfl,rfl,rfl,trivial⟩,trivial⟩
   .obtain rfl:j=l.length:=by omega
    exact ⟨((d+1+1:Nat):Int),w64_eq (by omega) (by omega) (by omega),d+1,by dsimp only;omega,by dsimp only;omega,⟨rfl,rfl⟩,⟨rfl,rfl,by rw [hes];show (AV.d true (.sl (.sl .int)) (insF (wdS N K d) (l.take l.length)))=_;rw [List.take_length],rfl,trivial⟩,trivial⟩
 .obtain rfl:d=N:=by omega
  obtain ⟨hw1,hw2⟩:=hwl d (Nat.le_refl _)
  have hfl:∀k,((wdS d K d).take k).flatten.length<=102400:=fun k=>by
   have a1:=flat_le ((wdS d K d).take k) (fun x hx=>hw2 x (List.mem_of_mem_take hx))
   rw [List.length_take] at a1
   omega
  rw [<-hfe]
  generalize wdS d K d=ws at*
  refine ⟨rfl,by decide,true,?_⟩
  refine ⟨Nat,fun k=>⟨[(14,.ow 0),(73,.d true (.sl (.sl .int)) ws),(74,I ws.length),(75,I (k:Nat))],[.sl 3 .int (ws.take k).flatten]⟩,fun k=>k<=ws.length,fun k=>ws.length-k,0,Nat.zero_le _,
   ⟨⟨rfl,rfl⟩,⟨rfl,rfl,rfl,rfl,trivial⟩,rfl,trivial⟩,fun k hk=>?_⟩
  dsimp only at hk
  refine ⟨fun h3=>?_,fun h3=>?_⟩
  .have hk2:k<ws.length:=by omega
   have hfk:=hfl k
   have hwk:=hw2 (ws.getD k []) (by rw [getD_get _ _ _ hk2];exact List.getElem_mem _)
   refine ⟨k,rfl,hk2,?_⟩
   refine ⟨rfl,Nat.zero_le _,rfl,(show (ws.take k).flatten.length+(ws.getD k []).length<=1099511627776 by omega),rfl,?_⟩
   exact ⟨((k+1:Nat):Int),w64_eq (by omega) (by omega) (by omega),k+1,by dsimp only;omega,by dsimp only;omega,⟨rfl,rfl⟩,⟨rfl,rfl,rfl,rfl,trivial⟩,rowE (by rw [L_succ ws k [] hk2,List.flatten_append];simp),trivial⟩
  .obtain rfl:k=ws.length:=by omega
   exact ⟨some 0,⟨⟨rfl,rfl⟩,rfl,trivial⟩,⟨rfl,rowsE (by rw [List.take_length])⟩,rfl⟩
theorem spec_WordOfAll (n k:Int) (r:List AV) (rr:List Row) (hno:woaB n k=false->r=[.nil,.d true .bool false]/\rr=[]) (hyes:woaB n k=true->r=[.ow 0,.d true .bool true]/\rr=[.sl 3 .int (woaL n.toNat k.toNat)]):
 AC Tryz.prog 234 [I n,I k] [] r rr:=by
 cases hB:woaB n k
 .obtain ⟨rfl,rfl⟩:=hno hB
  have hO:=spec_l08Ok n k
  rw [hB] at hO
  refine AC_of tauOk 84 0 [4,5] Tryz.func234 rfl (by kernel_rfl) rfl rfl rfl rfl rfl ?_
  refine ⟨[],false,_,_,hO,nd0,rfl,rfl,trivial,nofun,fun _=>?_⟩
  exact ⟨none,⟨rfl,rfl,trivial⟩,rfl,rfl⟩
 .obtain ⟨rfl,rfl⟩:=hyes hB
  unfold woaB lenN smallB at hB
  simp only [Bool.and_eq_true,decide_eq_true_eq] at hB
  obtain ⟨N,rfl⟩:∃N:Nat,n=(N:Int):=⟨n.toNat,by omega⟩
  obtain ⟨K,rfl⟩:∃K:Nat,k=(K:Int):=⟨k.toNat,by omega⟩
  simp only [Int.toNat_natCast] at hB ⊢
  exact spec_WordOfAll_ok N K (by omega) (by omega) (by omega) (by omega) hB.2.2
theorem spec_CanonOf_both (s1 s2:Bool) (g:List (List Int)) (xs:List Int) (hl:g.length<=1048576) (hx:∀i,i<g.length->(g.getD i []).length<=1048576) (hl2:xs.length<=1048576) (r:List AV) (rr:List Row)
 (hno:fitB g xs=false->r=[.nil,.d true .bool false]/\rr=[]) (hyes:fitB g xs=true->r=[.ow 0,.d true .bool true]/\rr=[.sl 3 .int (canL g xs)]):
 AC Tryz.prog 111 [.d s1 (.sl (.sl .int)) g,.d s2 (.sl .int) xs] [] r rr:=by
 refine AC_of tauOk 13 0 [4,5] Tryz.func111 rfl (by kernel_rfl) rfl rfl rfl rfl rfl ?_
 refine ⟨[],false,_,_,spec_l06Fits s1 s2 g xs hl hx hl2,nd0,rfl,rfl,trivial,fun h1=>?_,fun h1=>?_⟩
 .have hF:=fit_of h1
  obtain ⟨rfl,rfl⟩:=hyes h1
  refine ⟨[],false,_,_,spec_l06Canon s1 s2 g xs hF.gs hl hF.x,nd0,rfl,rfl,trivial,?_⟩
  exact ⟨some 0,⟨⟨rfl,rfl⟩,rfl,trivial⟩,⟨rfl,rfl⟩,rfl⟩
 .obtain ⟨rfl,rfl⟩:=hno h1
  exact ⟨none,⟨rfl,rfl,trivial⟩,rfl,rfl⟩
theorem spec_InversePerm (s1:Bool) (p:List Int) (hP:PermP p):AC Tryz.prog 200 [.d s1 (.sl .int) p] [] [.ow 0,.d true .bool true] [.sl 3 .int (actL p (idL p.length))]:=by
 have h10:=hP.1
 have hil:=idLlen p.length
 have hlen:=actS_len p (idL p.length)
 have h0:actS p (idL p.length) 0=List.replicate p.length 0:=by rw [actS,hil]
 have hend:actS p (idL p.length) p.length=actL p (idL p.length):=by rw [actL,hil]
 have hs:∀k,k<p.length->actS p (idL p.length) (k+1)=(actS p (idL p.length) k).set (p.getD k 0).toNat (k:Int):=fun k hk=>by
  rw [actS,idL_at _ _ hk]
 have hO:=spec_PermOk s1 p (by omega)
 rw [(permB_iff p).2 hP] at hO
 refine AC_of tauOk 26 0 [2,3] Tryz.func200 rfl (by kernel_rfl) rfl rfl rfl rfl rfl ?_
 refine ⟨[],false,_,_,hO,nd0,rfl,rfl,trivial,fun _=>?_,nofun⟩
 refine ⟨_,_,rfl,rfl,Nat.le_refl _,by omega,?_⟩
 refine ⟨Nat,fun k=>⟨[(4,.ow 0),(13,.d s1 (.sl .int) p),(14,I p.length),(15,I (k:Nat))],[.sl 3 .int (actS p (idL p.length) k)]⟩,fun k=>k<=p.length,fun k=>p.length-k,0,Nat.zero_le _,
  ⟨⟨rfl,rfl⟩,⟨rfl,rfl,rfl,rfl,trivial⟩,rowE h0.symm,trivial⟩,fun k hk=>?_⟩
 dsimp only at hk
 refine ⟨fun h1=>?_,fun h1=>?_⟩
 .have hk2:k<p.length:=by omega
  have hb:=(hP.2 k (by omega)).1
  have hlk:=hlen k
  refine ⟨k,rfl,hk2,(p.getD k 0).toNat,(show p.getD k 0=(((p.getD k 0).toNat:Nat):Int) by omega),(by omega),?_⟩
  exact ⟨((k+1:Nat):Int),w64_eq (by omega) (by omega) (by omega),k+1,by first|omega|(dsimp only;omega),by first|omega|(dsimp only;omega),⟨rfl,rfl⟩,⟨rfl,rfl,rfl,rfl,trivial⟩,rowE (hs k hk2).symm,trivial⟩
 .obtain rfl:k=p.length:=by omega
  exact ⟨some 0,⟨⟨rfl,rfl⟩,rfl,trivial⟩,⟨rfl,rowsE hend⟩,rfl⟩
theorem spec_CountContents (sh s2:Bool) (g:List (List Int)) (c:List Int) (hB:gokB g=true) (hc:ConP c (g.getD 0 []).length):AC Tryz.prog 203 [.d sh (.sl (.sl .int)) g,.d s2 (.sl .int) c] [] [I (ctsN g c:Nat)] []:=by
 obtain ⟨⟨hg1,hg2⟩,hgp⟩:=perm_bd hB
 have hx:∀i,i<g.length->(g.getD i []).length<=1048576:=fun i hi=>by have:=(hgp i hi).1.1;omega
 have hG:=spec_GroupOk sh g (by omega) hx
 rw [hB] at hG
 have hb:∀j,j<=g.length->ctsS g c j<=j*1024:=fun j hj=>sumTo_le _ _ _ fun i hi=>ways_b (hgp i (by omega)).1 hc.l2
 refine AC_of tauOk 27 0 [4] Tryz.func203 rfl (by kernel_rfl) rfl rfl rfl rfl rfl ?_
 refine ⟨[],false,_,_,hG,nd0,rfl,rfl,trivial,fun _=>?_,nofun⟩
 refine ⟨Nat,fun k=>⟨[(0,.d sh (.sl (.sl .int)) g),(1,.d s2 (.sl .int) c),(5,I (ctsS g c k:Nat)),(11,.d sh (.sl (.sl .int)) g),(12,I g.length),(13,I (k:Nat))],[]⟩,fun k=>k<=g.length,fun k=>g.length-k,0,Nat.zero_le _,
  ⟨⟨rfl,rfl⟩,⟨rfl,rfl,rfl,rfl,rfl,rfl,trivial⟩,trivial⟩,fun k hk=>?_⟩
 dsimp only at hk
 have hbk:=hb k hk
 refine ⟨fun h1=>?_,fun h1=>?_⟩
 .have hk2:k<g.length:=by omega
  obtain ⟨hP,hl⟩:=hgp k hk2
  have hb1:=hb (k+1) hk2
  refine ⟨k,rfl,hk2,[],false,_,_,spec_CountFixed sh s2 (g.getD k []) c hP (by rw [hl];exact hc),nd0,rfl,rfl,trivial,?_⟩
  refine ⟨((ctsS g c (k+1):Nat):Int),w64_eq (by rw [show ctsS g c (k+1)=ctsS g c k+waysN (cycL (g.getD k [])) c from rfl];omega) (by omega) (by omega),?_⟩
  exact ⟨((k+1:Nat):Int),w64_eq (by omega) (by omega) (by omega),k+1,by first|omega|(dsimp only;omega),by first|omega|(dsimp only;omega),⟨rfl,rfl⟩,⟨rfl,rfl,rfl,rfl,rfl,rfl,trivial⟩,trivial⟩
 .obtain rfl:k=g.length:=by omega
  have hd:ctsN g c<=ctsS g c g.length:=Nat.div_le_self _ _
  refine ⟨by omega,((ctsN g c:Nat):Int),w64_eq (Int.ofNat_tdiv _ _) (by omega) (by omega),?_⟩
  exact ⟨none,⟨rfl,trivial⟩,rfl,rfl⟩
theorem spec_TwoColors (sh:Bool) (g:List (List Int)) (hB:gokB g=true):AC Tryz.prog 102 [.d sh (.sl (.sl .int)) g] [] [.ow 0] [.sl 3 .int (twoL g)]:=by
 obtain ⟨⟨hg1,hg2⟩,hgp⟩:=perm_bd hB
 have hx:∀i,i<g.length->(g.getD i []).length<=1048576:=fun i hi=>by have:=(hgp i hi).1.1;omega
 have hG:=spec_GroupOk sh g (by omega) hx
 rw [hB] at hG
 have hn:=(hgp 0 (by omega)).1.1
 have e:twoL g=twoS g ((g.getD 0 []).length+1):=by rw [twoL,if_pos hB]
 rw [e]
 refine AC_of tauOk 30 0 [2] Tryz.func102 rfl (by kernel_rfl) rfl rfl rfl rfl rfl ?_
 refine ⟨[],false,_,_,hG,nd0,rfl,rfl,trivial,fun _=>?_,nofun⟩
 refine ⟨rfl,by decide,true,0,rfl,by omega,?_⟩
 refine ⟨Nat,fun k=>⟨[(0,.d sh (.sl (.sl .int)) g),(3,.ow 0),(4,I (g.getD 0 []).length),(5,I (k:Nat))],[.sl 3 .int (twoS g k)]⟩,fun k=>k<=(g.getD 0 []).length+1,fun k=>(g.getD 0 []).length+1-k,0,Nat.zero_le _,
  ⟨⟨rfl,rfl⟩,⟨rfl,rfl,rfl,rfl,trivial⟩,rfl,trivial⟩,fun k hk=>?_⟩
 dsimp only at hk
 have htl:(twoS g k).length=k:=by simp [twoS]
 refine ⟨fun h1=>?_,fun h1=>?_⟩
 .have hk2:k<=(g.getD 0 []).length:=by omega
  have hts:=twoS_s g k
  have hC:=con_of (g.getD 0 []).length k (by omega) hk2
  refine ⟨(((g.getD 0 []).length-k:Nat):Int),w64_eq (by omega) (by omega) (by omega),?_⟩
  refine ⟨rfl,by decide,false,?_⟩
  refine ⟨[],false,_,_,spec_CountContents sh true g [(((g.getD 0 []).length-k:Nat):Int),(k:Int)] hB hC,nd0,rfl,rfl,trivial,?_⟩
  refine ⟨rfl,by decide,false,?_⟩
  refine ⟨rfl,Nat.zero_le _,rfl,by simp only [List.length_cons,List.length_nil];omega,rfl,?_⟩
  exact ⟨((k+1:Nat):Int),w64_eq (by omega) (by omega) (by omega),k+1,by first|omega|(dsimp only;omega),by first|omega|(dsimp only;omega),⟨rfl,rfl⟩,⟨rfl,rfl,rfl,rfl,trivial⟩,rowE hts.symm,trivial⟩
 .obtain rfl:k=(g.getD 0 []).length+1:=by omega
  exact ⟨some 0,⟨⟨rfl,rfl⟩,trivial⟩,⟨rfl,rfl⟩,rfl⟩
theorem spec_ClassesOf (sh:Bool) (g:List (List Int)) (hB:gokB g=true):AC Tryz.prog 101 [.d sh (.sl (.sl .int)) g] [] [.ow 0] [.sl 3 .int (clsL g)]:=by
 obtain ⟨⟨hg1,hg2⟩,hgp⟩:=perm_bd hB
 have hx:∀i,i<g.length->(g.getD i []).length<=1048576:=fun i hi=>by have:=(hgp i hi).1.1;omega
 have hG:=spec_GroupOk sh g (by omega) hx
 rw [hB] at hG
 have hok:=clsS_ok g
 have hgm:∀i,i<g.length->g.getD i []∈g:=fun i hi=>by rw [getD_get _ _ _ hi];exact List.getElem_mem hi
 have hGr:=gok_grl hB
 have hfi:∀i,i<g.length->∀k,k<g.length->∃j:Nat,j<g.length/\findI g (exL (exL (g.getD k []) (g.getD i [])) (actL (g.getD k []) (idL (g.getD k []).length)))=(j:Int):=fun i hi k hk=>by
  have h1:=hGr.cl _ (hGr.cl _ (hgm k hk) _ (hgm i hi)) _ (gok_inv hB (hgm k hk))
  have h2:=(findI_mem hGr.a _).2 h1
  rcases find_b g (exL (exL (g.getD k []) (g.getD i [])) (actL (g.getD k []) (idL (g.getD k []).length))) with h3|⟨j,h3,h4⟩
  .omega
  .exact ⟨j,h3,h4⟩
 refine AC_of tauOk 61 0 [2] Tryz.func101 rfl (by kernel_rfl) rfl rfl rfl rfl rfl ?_
 refine ⟨[],false,_,_,hG,nd0,rfl,rfl,trivial,fun _=>?_,nofun⟩
 refine ⟨rfl,by decide,true,?_⟩
 refine ⟨Nat,fun k=>⟨[(0,.d sh (.sl (.sl .int)) g),(3,.ow 0),(16,I g.length),(17,I (k:Nat))],[.sl 3 .int (List.replicate k (-1))]⟩,fun k=>k<=g.length,fun k=>g.length-k,0,Nat.zero_le _,
  ⟨⟨rfl,rfl⟩,⟨rfl,rfl,rfl,rfl,trivial⟩,rfl,trivial⟩,fun k hk=>?_⟩
 dsimp only at hk
 refine ⟨fun h1=>?_,fun h1=>?_⟩
 .have hk2:k<g.length:=by omega
  refine ⟨rfl,by decide,false,?_⟩
  refine ⟨rfl,Nat.zero_le _,rfl,by simp only [List.length_cons,List.length_nil,List.length_replicate];omega,rfl,?_⟩
  exact ⟨((k+1:Nat):Int),w64_eq (by omega) (by omega) (by omega),k+1,by dsimp only;omega,by dsimp only;omega,⟨rfl,rfl⟩,⟨rfl,rfl,rfl,rfl,trivial⟩,rowE (by rw [List.replicate_succ']),trivial⟩
 obtain rfl:k=g.length:=by omega
 refine ⟨Nat,fun i=>⟨[(0,.d sh (.sl (.sl .int)) g),(3,.ow 0),(4,I ((clsS g i).2:Nat)),(23,.d sh (.sl (.sl .int)) g),(24,I g.length),(25,I (i:Nat))],[.sl 3 .int (clsS g i).1]⟩,fun i=>i<=g.length,fun i=>g.length-i,0,Nat.zero_le _,
  ⟨⟨rfl,rfl⟩,⟨rfl,rfl,rfl,rfl,rfl,rfl,trivial⟩,rfl,trivial⟩,fun i hi=>?_⟩
 dsimp only at hi
 obtain ⟨o1,o2⟩:=hok i
 refine ⟨fun h1=>?_,fun h1=>?_⟩
 .have hi2:i<g.length:=by omega
  obtain ⟨hPi,hli⟩:=hgp i hi2
  refine ⟨i,rfl,hi2,i,rfl,by omega,fun h2=>?_,fun h2=>?_⟩
  .have e:clsS g (i+1)=clsS g i:=by rw [clsS,if_pos (by omega)]
   exact ⟨((i+1:Nat):Int),w64_eq (by omega) (by omega) (by omega),i+1,by dsimp only;omega,by dsimp only;omega,⟨rfl,rfl⟩,⟨rfl,rfl,retI (by rw [e]),rfl,rfl,rfl,trivial⟩,rowE (by rw [e]),trivial⟩
  .have e:clsS g (i+1)=(clsI g (g.getD i []) ((clsS g i).2:Nat) (clsS g i).1 g.length,(clsS g i).2+1):=by rw [clsS,if_neg (by omega)]
   have hcl:=clsI_len g (g.getD i []) ((clsS g i).2:Nat) (clsS g i).1
   rw [o1] at hcl
   refine ⟨Nat,fun k=>⟨[(0,.d sh (.sl (.sl .int)) g),(3,.ow 0),(4,I ((clsS g i).2:Nat)),(6,.d sh (.sl .int) (g.getD i [])),(23,.d sh (.sl (.sl .int)) g),(24,I g.length),(25,I (i:Nat)),(35,.d sh (.sl (.sl .int)) g),(36,I g.length),(37,I (k:Nat))],[.sl 3 .int (clsI g (g.getD i []) ((clsS g i).2:Nat) (clsS g i).1 k)]⟩,
    fun k=>k<=g.length,fun k=>g.length-k,0,Nat.zero_le _,
    ⟨⟨rfl,rfl⟩,⟨rfl,rfl,rfl,rfl,rfl,rfl,rfl,rfl,rfl,rfl,trivial⟩,rfl,trivial⟩,fun k hk=>?_⟩
   dsimp only at hk
   have hlk:=hcl k
   refine ⟨fun h3=>?_,fun h3=>?_⟩
   .have hk2:k<g.length:=by omega
    obtain ⟨hPk,hlk2⟩:=hgp k hk2
    have hvk:=hPk.1
    have hvi:=hPi.1
    have hel1:=exL_len (g.getD k []) (g.getD i [])
    have hil:(actL (g.getD k []) (idL (g.getD k []).length)).length=(g.getD k []).length:=by rw [actL_len,idLlen]
    have hE:=hGr.el _ (hGr.cl _ (hgm k hk2) _ (hgm i hi2))
    obtain ⟨j,hj,hfj⟩:=hfi i hi2 k hk2
    refine ⟨k,rfl,hk2,?_⟩
    refine ⟨[],true,_,_,spec_InversePerm sh (g.getD k []) hPk,nd0,rfl,rfl,trivial,fun _=>?_,nofun⟩
    refine ⟨[],true,_,_,spec_l02Compose sh sh (g.getD k []) (g.getD i []) (by omega) (fun a ha=>by have:=(hPk.2 a ha).1;omega),nd0,rfl,rfl,trivial,?_⟩
    refine ⟨[],true,_,_,spec_l02Compose true true (exL (g.getD k []) (g.getD i [])) (actL (g.getD k []) (idL (g.getD k []).length)) (by omega) (fun a ha=>by have:=(hE.1.2 a ha).1;omega),nd0,rfl,rfl,trivial,?_⟩
    refine ⟨[],false,_,_,spec_l03Find sh true g (exL (exL (g.getD k []) (g.getD i [])) (actL (g.getD k []) (idL (g.getD k []).length))) (by omega) (by rw [exL_len];omega) (fun q hq=>by rw [exL_len,exL_len,(hgp q hq).2,hlk2]),nd0,rfl,rfl,trivial,?_⟩
    refine ⟨j,hfj,by omega,?_⟩
    have es:clsI g (g.getD i []) ((clsS g i).2:Nat) (clsS g i).1 (k+1)=(clsI g (g.getD i []) ((clsS g i).2:Nat) (clsS g i).1 k).set j ((clsS g i).2:Nat):=by rw [clsI,hfj,Int.toNat_natCast]
    exact ⟨((k+1:Nat):Int),w64_eq (by omega) (by omega) (by omega),k+1,by dsimp only;omega,by dsimp only;omega,⟨rfl,rfl⟩,⟨rfl,rfl,rfl,rfl,rfl,rfl,rfl,rfl,rfl,rfl,trivial⟩,rowE es.symm,trivial⟩
   .obtain rfl:k=g.length:=by omega
    refine ⟨(((clsS g i).2+1:Nat):Int),w64_eq (by omega) (by omega) (by omega),?_⟩
    exact ⟨((i+1:Nat):Int),w64_eq (by omega) (by omega) (by omega),i+1,by dsimp only;omega,by dsimp only;omega,⟨rfl,rfl⟩,⟨rfl,rfl,retI (by rw [e]),rfl,rfl,rfl,trivial⟩,rowE (by rw [e]),trivial⟩
 .obtain rfl:i=g.length:=by omega
  exact ⟨some 0,⟨⟨rfl,rfl⟩,trivial⟩,⟨rfl,rfl⟩,rfl⟩
def Rch (g:List (List Int)) (i x:Nat):Prop:=∃a,a<g.length/\(g.getD a []).getD i 0=(x:Int)
theorem rch_mem {g:List (List Int)} {p:List Int} (hp:p∈g) {i x:Nat} (h:p.getD i 0=(x:Int)):Rch g i x:=by
 obtain ⟨a,ha,rfl⟩:=List.getElem_of_mem hp
 exact ⟨a,ha,by rw [getD_get _ _ _ ha];exact h⟩
theorem rch_lt {g:List (List Int)} (hB:gokB g=true) {i x:Nat} (hi:i<(g.getD 0 []).length) (h:Rch g i x):x<(g.getD 0 []).length:=by
 obtain ⟨a,ha,e⟩:=h
 obtain ⟨hP,hl⟩:=(perm_bd hB).2 a ha
 have:=(hP.2 i (by omega)).1
 omega
theorem rch_trans {g:List (List Int)} (hB:gokB g=true) {i x y:Nat} (hi:i<(g.getD 0 []).length) (h1:Rch g i x) (h2:Rch g x y):Rch g i y:=by
 obtain ⟨a,ha,e1⟩:=h1
 obtain ⟨b,hb,e2⟩:=h2
 have hgm:∀i,i<g.length->g.getD i []∈g:=fun i hi=>by rw [getD_get _ _ _ hi];exact List.getElem_mem hi
 refine rch_mem ((gok_grl hB).cl _ (hgm a ha) _ (hgm b hb)) (i:=i) ?_
 rw [exL_at _ _ _ (by rw [((perm_bd hB).2 a ha).2];exact hi),e1,Int.toNat_natCast,e2]
theorem rch_symm {g:List (List Int)} (hB:gokB g=true) {i x:Nat} (hi:i<(g.getD 0 []).length) (h1:Rch g i x):Rch g x i:=by
 obtain ⟨a,ha,e1⟩:=h1
 have hgm:g.getD a []∈g:=by rw [getD_get _ _ _ ha];exact List.getElem_mem ha
 obtain ⟨hP,hl⟩:=(perm_bd hB).2 a ha
 refine rch_mem (gok_inv hB hgm) (i:=x) ?_
 have h:=actL_get (p:=g.getD a []) (xs:=idL (g.getD a []).length) hP (idLlen _).symm i (by rw [idLlen];omega)
 rw [e1,Int.toNat_natCast,idL_at _ _ (by omega)] at h
 exact h
def inS (g:List (List Int)) (n i:Nat):Nat->List Bool
 |0=>List.replicate n false
 |k+1=>(inS g n i k).set ((g.getD k []).getD i 0).toNat true
def scn (I seen:List Bool):Nat->List Bool × List Int
 |0=>(seen,[])
 |x+1=>if I.getD x false=true then ((scn I seen x).1.set x true,(scn I seen x).2++[(x:Int)]) else scn I seen x
def ospS (g:List (List Int)) (n:Nat):Nat->List Bool × List (List Int)
 |0=>(List.replicate n false,[])
 |i+1=>if (ospS g n i).1.getD i false=true then ospS g n i else ((scn (inS g n i g.length) (ospS g n i).1 n).1,(ospS g n i).2++[(scn (inS g n i g.length) (ospS g n i).1 n).2])
theorem getD_setB (l:List Bool) (j x:Nat) (hj:j<l.length):(l.set j true).getD x false=true ↔ (x=j\/l.getD x false=true):=by
 by_cases h:j=x
 .subst h
  rw [List.getD_eq_getElem?_getD,List.getElem?_set_self hj];simp
 .rw [List.getD_eq_getElem?_getD,List.getElem?_set_ne h,<-List.getD_eq_getElem?_getD]
  constructor
  .exact .inr
  .rintro (e|e)
   .exact (h e.symm).elim
   .exact e
theorem inS_len (g:List (List Int)) (n i:Nat):∀k,(inS g n i k).length=n
 |0=>by simp [inS]
 |k+1=>by rw [inS,List.length_set,inS_len g n i k]
theorem scn_len (I seen:List Bool):∀m,(scn I seen m).1.length=seen.length/\(scn I seen m).2.length<=m
 |0=>⟨rfl,Nat.le_refl _⟩
 |m+1=>by
  have:=scn_len I seen m
  rw [scn]
  split
  .exact ⟨by rw [List.length_set];exact this.1,by simp;omega⟩
  .exact ⟨this.1,by omega⟩
theorem ospS_len (g:List (List Int)) (n:Nat):∀i,(ospS g n i).1.length=n/\(ospS g n i).2.length<=i
 |0=>⟨by simp [ospS],Nat.le_refl _⟩
 |i+1=>by
  have:=ospS_len g n i
  rw [ospS]
  split
  .exact ⟨this.1,by omega⟩
  .exact ⟨by rw [(scn_len _ _ _).1];exact this.1,by simp;omega⟩
theorem inS_get {g:List (List Int)} {n i:Nat} (hv:∀a,a<g.length->∃x:Nat,x<n/\(g.getD a []).getD i 0=(x:Int)) (x:Nat):∀k,k<=g.length->((inS g n i k).getD x false=true ↔ ∃a,a<k/\(g.getD a []).getD i 0=(x:Int))
 |0,_=>by
  rw [inS]
  constructor
  .intro h
   rw [List.getD_eq_getElem?_getD,List.getElem?_replicate] at h
   split at h<;>simp at h
  .rintro ⟨a,ha,_⟩;omega
 |k+1,hk=>by
  have ih:=inS_get hv x k (by omega)
  obtain ⟨y,hy,e⟩:=hv k (by omega)
  rw [inS,e,Int.toNat_natCast,getD_setB _ _ _ (by rw [inS_len];exact hy),ih]
  constructor
  .rintro (h|⟨a,h1,h2⟩)
   .exact ⟨k,by omega,by rw [e,h]⟩
   .exact ⟨a,by omega,h2⟩
  .rintro ⟨a,h1,h2⟩
   by_cases h:a=k
   .subst h;rw [e] at h2;exact .inl (by omega)
   .exact .inr ⟨a,by omega,h2⟩
theorem scn_get (I seen:List Bool) (x:Nat):∀m,m<=seen.length->((scn I seen m).1.getD x false=true ↔ (seen.getD x false=true\/(x<m/\I.getD x false=true)))
 |0,_=>by simp [scn]
 |m+1,hm=>by
  have ih:=scn_get I seen x m (by omega)
  rw [scn]
  split
  .rename_i h
   dsimp only
   rw [getD_setB _ _ _ (by rw [(scn_len _ _ _).1];omega),ih]
   constructor
   .rintro (e|e|⟨e1,e2⟩)
    .exact .inr ⟨by omega,by rw [e];exact h⟩
    .exact .inl e
    .exact .inr ⟨by omega,e2⟩
   .rintro (e|⟨e1,e2⟩)
    .exact .inr (.inl e)
    .by_cases he:x=m
     .exact .inl he
     .exact .inr (.inr ⟨by omega,e2⟩)
  .rename_i h
   rw [ih]
   constructor
   .rintro (e|⟨e1,e2⟩)
    .exact .inl e
    .exact .inr ⟨by omega,e2⟩
   .rintro (e|⟨e1,e2⟩)
    .exact .inl e
    .by_cases he:x=m
     .subst he;exact (h e2).elim
     .exact .inr ⟨by omega,e2⟩
theorem scn_lst (I seen:List Bool):∀m,(scn I seen m).2.Pairwise (fun a b=>a<b)/\∀z,z∈(scn I seen m).2 ↔ ∃x:Nat,z=(x:Int)/\x<m/\I.getD x false=true
 |0=>⟨List.Pairwise.nil,fun z=>by simp [scn]⟩
 |m+1=>by
  obtain ⟨h1,h2⟩:=scn_lst I seen m
  rw [scn]
  split
  .rename_i h
   refine ⟨?_,fun z=>?_⟩
   .rw [List.pairwise_append]
    refine ⟨h1,List.pairwise_singleton _ _,fun a ha b hb=>?_⟩
    obtain ⟨x,rfl,hx,_⟩:=(h2 a).1 ha
    rw [List.mem_singleton.1 hb];omega
   .rw [List.mem_append,h2,List.mem_singleton]
    constructor
    .rintro (⟨x,e1,e2,e3⟩|e)
     .exact ⟨x,e1,by omega,e3⟩
     .exact ⟨m,e,by omega,h⟩
    .rintro ⟨x,e1,e2,e3⟩
     by_cases he:x=m
     .exact .inr (by rw [e1,he])
     .exact .inl ⟨x,e1,by omega,e3⟩
  .rename_i h
   refine ⟨h1,fun z=>?_⟩
   rw [h2]
   constructor
   .rintro ⟨x,e1,e2,e3⟩;exact ⟨x,e1,by omega,e3⟩
   .rintro ⟨x,e1,e2,e3⟩
    by_cases he:x=m
    .subst he;exact (h e3).elim
    .exact ⟨x,e1,by omega,e3⟩
theorem orbI_get {g:List (List Int)} {n i:Nat} {met:List Bool} (hm:met.length=n) (hv:∀a,a<g.length->∃x:Nat,x<n/\(g.getD a []).getD i 0=(x:Int)):∀k,k<=g.length->
 (∀x:Nat,(orbI g i met k).1.getD x false=true ↔ (met.getD x false=true\/∃a,a<k/\(g.getD a []).getD i 0=(x:Int)))/\(orbI g i met k).2.Nodup/\
 ∀z,z∈(orbI g i met k).2 ↔ ∃x:Nat,z=(x:Int)/\met.getD x false=false/\∃a,a<k/\(g.getD a []).getD i 0=(x:Int)
 |0,_=>⟨fun x=>by simp [orbI],nd0,fun z=>by simp [orbI]⟩
 |k+1,hk=>by
  obtain ⟨h1,h2,h3⟩:=orbI_get hm hv k (by omega)
  obtain ⟨y,hy,e⟩:=hv k (by omega)
  rw [orbI,e,Int.toNat_natCast]
  split
  .rename_i h
   have hk2:=(h1 y).1 h
   refine ⟨fun x=>?_,h2,fun z=>?_⟩
   .rw [h1]
    constructor
    .rintro (c|⟨a,c1,c2⟩)
     .exact .inl c
     .exact .inr ⟨a,by omega,c2⟩
    .rintro (c|⟨a,c1,c2⟩)
     .exact .inl c
     .by_cases ea:a=k
      .subst ea
       rw [e] at c2
       obtain rfl:y=x:=by omega
       exact hk2
      .exact .inr ⟨a,by omega,c2⟩
   .rw [h3]
    constructor
    .rintro ⟨x,c1,c2,a,c3,c4⟩;exact ⟨x,c1,c2,a,by omega,c4⟩
    .rintro ⟨x,c1,c2,a,c3,c4⟩
     by_cases ea:a=k
     .subst ea
      rw [e] at c4
      obtain rfl:y=x:=by omega
      rcases hk2 with c|⟨b,d1,d2⟩
      .rw [c] at c2;cases c2
      .exact ⟨y,c1,c2,b,d1,d2⟩
     .exact ⟨x,c1,c2,a,by omega,c4⟩
  .rename_i h
   have hny:met.getD y false=false/\¬∃a,a<k/\(g.getD a []).getD i 0=(y:Int):=by
    refine ⟨?_,fun c=>h ((h1 y).2 (.inr c))⟩
    cases c:met.getD y false with
    |false=>rfl
    |true=>exact (h ((h1 y).2 (.inl c))).elim
   refine ⟨fun x=>?_,?_,fun z=>?_⟩
   .dsimp only
    rw [getD_setB _ _ _ (by rw [(orbI_ok _ _ _ _).1,hm];exact hy),h1]
    constructor
    .rintro (c|c|⟨a,c1,c2⟩)
     .exact .inr ⟨k,by omega,by rw [e,c]⟩
     .exact .inl c
     .exact .inr ⟨a,by omega,c2⟩
    .rintro (c|⟨a,c1,c2⟩)
     .exact .inr (.inl c)
     .by_cases ea:a=k
      .subst ea;rw [e] at c2;exact .inl (by omega)
      .exact .inr (.inr ⟨a,by omega,c2⟩)
   .rw [List.nodup_append]
    refine ⟨h2,by simp,fun a ha b hb=>?_⟩
    rw [List.mem_singleton.1 hb]
    intro c
    obtain ⟨x,c1,_,c3⟩:=(h3 a).1 ha
    rw [c1] at c
    obtain rfl:x=y:=by omega
    exact hny.2 c3
   .rw [List.mem_append,h3,List.mem_singleton]
    constructor
    .rintro (⟨x,c1,c2,a,c3,c4⟩|c)
     .exact ⟨x,c1,c2,a,by omega,c4⟩
     .exact ⟨y,c,hny.1,k,by omega,e⟩
    .rintro ⟨x,c1,c2,a,c3,c4⟩
     by_cases ea:a=k
     .subst ea;rw [e] at c4;exact .inr (by rw [c1,<-c4])
     .exact .inl ⟨x,c1,c2,a,by omega,c4⟩
theorem ext_getB {l m:List Bool} (hl:l.length=m.length) (h:∀x,x<l.length->(l.getD x false=true ↔ m.getD x false=true)):l=m:=by
 refine ext_getD false hl fun x hx=>?_
 have:=h x hx
 cases a:l.getD x false<;>cases b:m.getD x false<;>simp_all
theorem ospS_orb {g:List (List Int)} (hB:gokB g=true):∀i,i<=(g.getD 0 []).length->ospS g (g.getD 0 []).length i=orbS g (g.getD 0 []).length i/\∀x,x<(g.getD 0 []).length->((orbS g (g.getD 0 []).length i).1.getD x false=true ↔ ∃j,j<i/\Rch g j x)
 |0,_=>⟨rfl,fun x hx=>by
  rw [orbS,List.getD_eq_getElem?_getD,List.getElem?_replicate]
  constructor
  .intro h;split at h<;>simp at h
  .rintro ⟨j,hj,_⟩;omega⟩
 |i+1,hi=>by
  obtain ⟨h1,h2⟩:=ospS_orb hB i (by omega)
  have hol:=(orbS_ok g (g.getD 0 []).length i).1
  have hv:∀a,a<g.length->∃x:Nat,x<(g.getD 0 []).length/\(g.getD a []).getD i 0=(x:Int):=fun a ha=>by
   obtain ⟨hP,hl⟩:=(perm_bd hB).2 a ha
   have:=(hP.2 i (by omega)).1
   exact ⟨((g.getD a []).getD i 0).toNat,by omega,by omega⟩
  have hrf:Rch g i i:=by
   refine rch_mem (gok_grl hB).id ?_
   exact idL_at _ _ (by omega)
  rw [ospS,orbS,h1]
  by_cases hm:(orbS g (g.getD 0 []).length i).1.getD i false=true
  .rw [if_pos hm,if_pos hm]
   refine ⟨rfl,fun x hx=>?_⟩
   rw [h2 x hx]
   obtain ⟨j0,hj0,hr0⟩:=(h2 i (by omega)).1 hm
   constructor
   .rintro ⟨j,a,b⟩;exact ⟨j,by omega,b⟩
   .rintro ⟨j,a,b⟩
    by_cases e:j=i
    .subst e;exact ⟨j0,hj0,rch_trans hB (by omega) hr0 b⟩
    .exact ⟨j,by omega,b⟩
  .rw [if_neg hm,if_neg hm]
   obtain ⟨o1,o2,o3⟩:=orbI_get (g:=g) (i:=i) (met:=(orbS g (g.getD 0 []).length i).1) hol hv g.length (Nat.le_refl _)
   have hin:=fun x=>inS_get (g:=g) (i:=i) hv x g.length (Nat.le_refl _)
   have hsc:=fun x=>scn_get (inS g (g.getD 0 []).length i g.length) (orbS g (g.getD 0 []).length i).1 x (g.getD 0 []).length (by rw [hol];exact Nat.le_refl _)
   have hnew:∀x,x<(g.getD 0 []).length->Rch g i x->(orbS g (g.getD 0 []).length i).1.getD x false=false:=fun x hx hr=>by
    cases c:(orbS g (g.getD 0 []).length i).1.getD x false with
    |false=>rfl
    |true=>
     obtain ⟨j,hj,hr2⟩:=(h2 x hx).1 c
     exact (hm ((h2 i (by omega)).2 ⟨j,hj,rch_trans hB (by omega) hr2 (rch_symm hB (by omega) hr)⟩)).elim
   obtain ⟨l1,l2⟩:=scn_lst (inS g (g.getD 0 []).length i g.length) (orbS g (g.getD 0 []).length i).1 (g.getD 0 []).length
   have e1:(scn (inS g (g.getD 0 []).length i g.length) (orbS g (g.getD 0 []).length i).1 (g.getD 0 []).length).1=(orbI g i (orbS g (g.getD 0 []).length i).1 g.length).1:=by
    refine ext_getB (by rw [(scn_len _ _ _).1,(orbI_ok _ _ _ _).1]) fun x hx=>?_
    rw [(scn_len _ _ _).1,hol] at hx
    rw [hsc,o1,hin]
    constructor
    .rintro (c|⟨_,c⟩)
     .exact .inl c
     .exact .inr c
    .rintro (c|c)
     .exact .inl c
     .exact .inr ⟨hx,c⟩
   have e2:(scn (inS g (g.getD 0 []).length i g.length) (orbS g (g.getD 0 []).length i).1 (g.getD 0 []).length).2=srtI (orbI g i (orbS g (g.getD 0 []).length i).1 g.length).2:=by
    refine List.Perm.eq_of_pairwise (le:=fun x y:Int=>x<=y) (fun a b _ _ a1 a2=>by omega) (l1.imp fun h=>by omega) (srtI_s _) ?_
    refine List.Perm.trans ?_ (srtI_p _).symm
    refine (List.perm_ext_iff_of_nodup (l1.imp fun h=>by omega) o2).2 fun z=>?_
    rw [l2,o3]
    constructor
    .rintro ⟨x,c1,c2,c3⟩
     have c4:=(hin x).1 c3
     exact ⟨x,c1,hnew x c2 c4,c4⟩
    .rintro ⟨x,c1,c2,c3⟩
     exact ⟨x,c1,rch_lt hB (by omega) c3,(hin x).2 c3⟩
   refine ⟨by rw [e1,e2],fun x hx=>?_⟩
   dsimp only
   rw [o1,h2 x hx]
   constructor
   .rintro (⟨j,a,b⟩|c)
    .exact ⟨j,by omega,b⟩
    .exact ⟨i,by omega,c⟩
   .rintro ⟨j,a,b⟩
    by_cases e:j=i
    .subst e;exact .inr b
    .exact .inl ⟨j,by omega,b⟩
theorem ospS_eq {g:List (List Int)} (hB:gokB g=true):(ospS g (g.getD 0 []).length (g.getD 0 []).length).2=orbL g:=by
 rw [(ospS_orb hB _ (Nat.le_refl _)).1];rfl
theorem spec_OrbitsOf (sh:Bool) (g:List (List Int)) (hB:gokB g=true):AC Tryz.prog 99 [.d sh (.sl (.sl .int)) g] [] [.ow 0] [.sl 29 (.sl .int) (orbL g)]:=by
 obtain ⟨⟨hg1,hg2⟩,hgp⟩:=perm_bd hB
 have hx:∀i,i<g.length->(g.getD i []).length<=1048576:=fun i hi=>by have:=(hgp i hi).1.1;omega
 have hG:=spec_GroupOk sh g (by omega) hx
 rw [hB] at hG
 have hn:=(hgp 0 (by omega)).1.1
 rw [<-ospS_eq hB]
 generalize hnn:(g.getD 0 []).length=n at*
 refine AC_of tauOk 69 0 [2] Tryz.func99 rfl (by kernel_rfl) rfl rfl rfl rfl rfl ?_
 refine ⟨[],false,_,_,hG,nd0,rfl,rfl,trivial,fun _=>?_,nofun⟩
 refine ⟨rfl,by decide,true,?_⟩
 refine ⟨0,rfl,by omega,(g.getD 0 []).length,(g.getD 0 []).length,rfl,rfl,Nat.le_refl _,by omega,?_⟩
 rw [hnn]
 refine ⟨Nat,fun k=>⟨[(0,.d sh (.sl (.sl .int)) g),(3,.ow 0),(4,.ow 1),(22,I (n:Nat)),(23,I (k:Nat))],[.sl 29 (.sl .int) (ospS g n k).2,.sl 4 .bool (ospS g n k).1]⟩,fun k=>k<=n,fun k=>n-k,0,Nat.zero_le _,
  ⟨⟨rfl,rfl⟩,⟨rfl,rfl,rfl,retI (by simp),rfl,trivial⟩,rfl,rfl,trivial⟩,fun k hk=>?_⟩
 dsimp only at hk
 obtain ⟨o1,o2⟩:=ospS_len g n k
 refine ⟨fun h2=>?_,fun h2=>?_⟩
 .have hk2:k<n:=by omega
  refine ⟨k,rfl,by omega,fun h3=>?_,fun h3=>?_⟩
  .have e:ospS g n (k+1)=ospS g n k:=by rw [ospS,if_pos h3]
   exact ⟨((k+1:Nat):Int),w64_eq (by omega) (by omega) (by omega),k+1,by first|omega|(dsimp only;omega),by first|omega|(dsimp only;omega),⟨rfl,rfl⟩,⟨rfl,rfl,rfl,rfl,rfl,trivial⟩,rowE (by rw [e]),rowE (by rw [e]),trivial⟩
  .have e:ospS g n (k+1)=((scn (inS g n k g.length) (ospS g n k).1 n).1,(ospS g n k).2++[(scn (inS g n k g.length) (ospS g n k).1 n).2]):=by rw [ospS,if_neg (by rw [h3];decide)]
   have hIl:=inS_len g n k
   have hsl:=scn_len (inS g n k g.length) (ospS g n k).1
   rw [o1] at hsl
   refine ⟨(ospS g n k).1.length,(ospS g n k).1.length,rfl,rfl,Nat.le_refl _,by omega,?_⟩
   refine ⟨Nat,fun i=>⟨[(0,.d sh (.sl (.sl .int)) g),(3,.ow 0),(4,.ow 1),(5,I (k:Nat)),(6,.ow 2),(22,I (n:Nat)),(23,I (k:Nat)),(33,.d sh (.sl (.sl .int)) g),(34,I g.length),(35,I (i:Nat))],[.sl 29 (.sl .int) (ospS g n k).2,.sl 4 .bool (ospS g n k).1,.sl 4 .bool (inS g n k i)]⟩,
    fun i=>i<=g.length,fun i=>g.length-i,0,Nat.zero_le _,
    ⟨⟨rfl,rfl⟩,⟨rfl,rfl,rfl,rfl,rfl,rfl,rfl,rfl,rfl,rfl,trivial⟩,rfl,rfl,rowE (by rw [o1];rfl),trivial⟩,fun i hi=>?_⟩
   dsimp only at hi
   have hIi:=hIl i
   refine ⟨fun h4=>?_,fun h4=>?_⟩
   .have hi2:i<g.length:=by omega
    obtain ⟨hP,hl⟩:=hgp i hi2
    have hb:=(hP.2 k (by omega)).1
    have hv:(g.getD i []).getD k 0=((((g.getD i []).getD k 0).toNat:Nat):Int):=by omega
    refine ⟨i,rfl,hi2,k,rfl,by omega,((g.getD i []).getD k 0).toNat,hv,by omega,?_⟩
    exact ⟨((i+1:Nat):Int),w64_eq (by omega) (by omega) (by omega),i+1,by first|omega|(dsimp only;omega),by first|omega|(dsimp only;omega),⟨rfl,rfl⟩,⟨rfl,rfl,rfl,rfl,rfl,rfl,rfl,rfl,rfl,rfl,trivial⟩,rfl,rfl,rowE rfl,trivial⟩
   .obtain rfl:i=g.length:=by omega
    refine ⟨rfl,by decide,true,?_⟩
    refine ⟨Nat,fun m=>⟨[(0,.d sh (.sl (.sl .int)) g),(3,.ow 0),(4,.ow 1),(9,.ow 3),(22,I (n:Nat)),(23,I (k:Nat)),(47,.ow 2),(48,I (n:Nat)),(49,I (m:Nat))],[.sl 29 (.sl .int) (ospS g n k).2,.sl 4 .bool (scn (inS g n k g.length) (ospS g n k).1 m).1,.sl 4 .bool (inS g n k g.length),.sl 3 .int (scn (inS g n k g.length) (ospS g n k).1 m).2]⟩,
     fun m=>m<=n,fun m=>n-m,0,Nat.zero_le _,
     ⟨⟨rfl,rfl⟩,⟨rfl,rfl,rfl,rfl,rfl,rfl,rfl,retI (by rw [hIi]),rfl,trivial⟩,rfl,rfl,rfl,rfl,trivial⟩,fun m hm=>?_⟩
    dsimp only at hm
    obtain ⟨s1,s2⟩:=hsl m
    refine ⟨fun h5=>?_,fun h5=>?_⟩
    .have hm2:m<n:=by omega
     refine ⟨m,rfl,by omega,fun h6=>?_,fun h6=>?_⟩
     .have es:scn (inS g n k g.length) (ospS g n k).1 (m+1)=((scn (inS g n k g.length) (ospS g n k).1 m).1.set m true,(scn (inS g n k g.length) (ospS g n k).1 m).2++[(m:Int)]):=by rw [scn,if_pos h6]
      refine ⟨m,rfl,by omega,?_⟩
      refine ⟨rfl,by decide,false,?_⟩
      refine ⟨rfl,Nat.zero_le _,rfl,by simp only [List.length_cons,List.length_nil];omega,rfl,?_⟩
      exact ⟨((m+1:Nat):Int),w64_eq (by omega) (by omega) (by omega),m+1,by first|omega|(dsimp only;omega),by first|omega|(dsimp only;omega),⟨rfl,rfl⟩,⟨rfl,rfl,rfl,rfl,rfl,rfl,rfl,rfl,rfl,trivial⟩,rfl,rowE (by rw [es]),rfl,rowE (by rw [es]),trivial⟩
     .have es:scn (inS g n k g.length) (ospS g n k).1 (m+1)=scn (inS g n k g.length) (ospS g n k).1 m:=by rw [scn,if_neg (by rw [h6];decide)]
      exact ⟨((m+1:Nat):Int),w64_eq (by omega) (by omega) (by omega),m+1,by first|omega|(dsimp only;omega),by first|omega|(dsimp only;omega),⟨rfl,rfl⟩,⟨rfl,rfl,rfl,rfl,rfl,rfl,rfl,rfl,rfl,trivial⟩,rfl,rowE (by rw [es]),rfl,rowE (by rw [es]),trivial⟩
    .obtain rfl:m=n:=by omega
     refine ⟨rfl,rfl,by decide,false,?_⟩
     refine ⟨rfl,Nat.zero_le _,rfl,by simp only [List.length_cons,List.length_nil];omega,rfl,?_⟩
     exact ⟨((k+1:Nat):Int),w64_eq (by omega) (by omega) (by omega),k+1,by first|omega|(dsimp only;omega),by first|omega|(dsimp only;omega),⟨rfl,rfl⟩,⟨rfl,rfl,rfl,rfl,rfl,trivial⟩,rowE (by rw [e]),rowE (by rw [e]),trivial⟩
 .obtain rfl:k=n:=by omega
  exact ⟨some 0,⟨⟨rfl,rfl⟩,trivial⟩,⟨rfl,rfl⟩,rfl⟩
theorem fnd_gG {n:Nat} {gens:List (List Int)} (h1:1<=n) (h2:n<=10) (hg:GenP n gens) (h:(bfsI n gens 200 0 [idL n]).isSome=true):bfsS n gens 200 0 [idL n] [idL n]=some (gG n gens):=by
 have e:=gG_some h
 rw [grpO_fnd h1 h2 (gen_q hg)] at e
 exact e
theorem mir_rev:∀n,n<11->mirL n=(idL n).reverse:=by decide+kernel
theorem spec_CyclicGroup_z (n:Int):AC Tryz.prog 96 [I n] [] (grpR (cycO n)) []:=by
 by_cases h:1<=n/\n<=10
 .obtain ⟨N,rfl⟩:∃N:Nat,n=(N:Int):=⟨n.toNat,by omega⟩
  obtain ⟨⟨c1,c2⟩,c3,c4⟩:=grp_chk N (by omega) (by omega)
  rw [cycO,if_pos h,Int.toNat_natCast]
  have hG:=spec_GroupOf true N [turnL N] _ (by omega) (by omega) (gens1 c1) (fnd_gG (by omega) (by omega) (gens1 c1) c3)
  refine AC_of tauOk 14 0 [2,3] Tryz.func96 rfl (by kernel_rfl) rfl rfl rfl rfl rfl ?_
  refine ⟨[],false,_,_,spec_l01In _ _ _,nd0,rfl,rfl,trivial,fun _=>?_,fun h=>by simp only [Bool.and_eq_false_iff,decide_eq_false_iff_not] at h;omega⟩
  refine ⟨[],true,_,_,spec_l03Turn N (by omega) (by omega),nd0,rfl,rfl,trivial,?_⟩
  refine ⟨rfl,by decide,false,?_⟩
  refine ⟨[],false,_,_,hG,nd0,rfl,rfl,trivial,fun _=>?_,nofun⟩
  exact ⟨none,⟨rfl,rfl,trivial⟩,rfl,rfl⟩
 .rw [cycO,if_neg h]
  refine AC_of tauOk 14 0 [2,3] Tryz.func96 rfl (by kernel_rfl) rfl rfl rfl rfl rfl ?_
  refine ⟨[],false,_,_,spec_l01In _ _ _,nd0,rfl,rfl,trivial,fun h2=>by simp only [Bool.and_eq_true,decide_eq_true_eq] at h2;omega,fun _=>?_⟩
  exact ⟨none,⟨rfl,rfl,trivial⟩,rfl,rfl⟩
theorem spec_DihedralGroup_z (n:Int):AC Tryz.prog 119 [I n] [] (grpR (dihO n)) []:=by
 by_cases h:1<=n/\n<=10
 .obtain ⟨N,rfl⟩:∃N:Nat,n=(N:Int):=⟨n.toNat,by omega⟩
  obtain ⟨⟨c1,c2⟩,c3,c4⟩:=grp_chk N (by omega) (by omega)
  rw [dihO,if_pos h,Int.toNat_natCast,<-mir_rev N (by omega)]
  rw [<-mir_rev N (by omega)] at c2 c4
  have hG:=spec_GroupOf true N [turnL N,mirL N] _ (by omega) (by omega) (gens2 c1 c2) (fnd_gG (by omega) (by omega) (gens2 c1 c2) c4)
  refine AC_of tauOk 16 0 [2,3] Tryz.func119 rfl (by kernel_rfl) rfl rfl rfl rfl rfl ?_
  refine ⟨[],false,_,_,spec_l01In _ _ _,nd0,rfl,rfl,trivial,fun _=>?_,fun h=>by simp only [Bool.and_eq_false_iff,decide_eq_false_iff_not] at h;omega⟩
  refine ⟨[],true,_,_,spec_l03Turn N (by omega) (by omega),nd0,rfl,rfl,trivial,?_⟩
  refine ⟨[],true,_,_,spec_l03Mirror N (by omega) (by omega),nd0,rfl,rfl,trivial,?_⟩
  refine ⟨rfl,by decide,false,?_⟩
  refine ⟨[],false,_,_,hG,nd0,rfl,rfl,trivial,fun _=>?_,nofun⟩
  exact ⟨none,⟨rfl,rfl,trivial⟩,rfl,rfl⟩
 .rw [dihO,if_neg h]
  refine AC_of tauOk 16 0 [2,3] Tryz.func119 rfl (by kernel_rfl) rfl rfl rfl rfl rfl ?_
  refine ⟨[],false,_,_,spec_l01In _ _ _,nd0,rfl,rfl,trivial,fun h2=>by simp only [Bool.and_eq_true,decide_eq_true_eq] at h2;omega,fun _=>?_⟩
  exact ⟨none,⟨rfl,rfl,trivial⟩,rfl,rfl⟩
theorem spec_SymmetricGroup_z (n:Int):AC Tryz.prog 120 [I n] [] (grpR (symO n)) []:=by
 by_cases h:1<=n/\n<=5
 .obtain ⟨N,rfl⟩:∃N:Nat,n=(N:Int):=⟨n.toNat,by omega⟩
  obtain ⟨o,ho,_⟩:=(sym_ok N (by omega) (by omega)).i
  have hs:=(sym_ok N (by omega) (by omega)).s
  have e:=fnd_gG (n:=N) (gens:=[turnL N,swapL N]) (by omega) (by omega) (gens_ok N (by omega) (by omega)) (by rw [ho];rfl)
  have e2:gG N [turnL N,swapL N]=symL N:=Option.some.inj (e.symm.trans hs)
  rw [symO,if_pos h,Int.toNat_natCast,e2]
  exact spec_SymmetricGroup N (by omega) (by omega)
 .rw [symO,if_neg h]
  refine AC_of tauOk 24 0 [2,3] Tryz.func120 rfl (by kernel_rfl) rfl rfl rfl rfl rfl ?_
  refine ⟨[],false,_,_,spec_l01In _ _ _,nd0,rfl,rfl,trivial,fun h2=>by simp only [Bool.and_eq_true,decide_eq_true_eq] at h2;omega,fun _=>?_⟩
  exact ⟨none,⟨rfl,rfl,trivial⟩,rfl,rfl⟩
def corN (x y z:Nat):Nat:=x+2*y+4*z
def corK (j k:Nat):Int:=
 match j with
 |0=>corN (1-k / 2 % 2) (k % 2) (k / 4)
 |1=>corN (k % 2) (1-k / 4) (k / 2 % 2)
 |_=>corN (k % 2) (k / 2 % 2) (1-k / 4)
def crnS (j k:Nat):List Int:=(List.range k).map (corK j)
theorem crnS_s (j k:Nat):crnS j (k+1)=crnS j k++[corK j k]:=by
 rw [crnS,List.range_succ,List.map_append];rfl
def sgnL (k:Nat):List (List Int):=
 match k with
 |1=>[[1,2,0,3],[1,0,3,2],[1,0,2,3]]
 |2=>[[1,2,0,3],[1,0,3,2],[1,0,2,3]].map pactL
 |3=>[[0,1,4,5,3,2],[2,3,1,0,4,5],[1,0,2,3,4,5]]
 |_=>[crnS 0 8,crnS 1 8,crnS 2 8]
def sgnT (k:Nat) (mir:Bool):List (List Int):=if mir=true then sgnL k else (sgnL k).take 2
theorem sgn4:sgnL 4=[crnS 0 8,crnS 1 8,crnS 2 8]:=rfl
set_option maxRecDepth 100000 in
theorem sgn_chk:∀k,k<5->1<=k->∀mir:Bool,(sgnT k mir).length<=3/\(sgnT k mir).all (fun p=>permB p && decide (p.length=solN k))=true/\bfsS (solN k) (sgnT k mir) 200 0 [idL (solN k)] [idL (solN k)]=bfsS (solN k) (solG k mir) 200 0 [idL (solN k)] [idL (solN k)]:=by decide+kernel
def degI (k:Int):Int:=if 1<=k/\k<=4 then (solN k.toNat:Nat) else 0
theorem spec_SolidDegree (k:Int):AC Tryz.prog 222 [I k] [] [I (degI k)] []:=by
 refine AC_of tauOk 11 0 [2] Tryz.func222 rfl (by kernel_rfl) rfl rfl rfl rfl rfl ?_
 refine ⟨fun h1=>?_,fun h1=>?_⟩
 .subst h1
  exact ⟨none,⟨rfl,trivial⟩,rfl,rfl⟩
 .refine ⟨fun h2=>?_,fun h2=>?_⟩
  .subst h2
   exact ⟨none,⟨rfl,trivial⟩,rfl,rfl⟩
  .refine ⟨fun h3=>?_,fun h3=>?_⟩
   .subst h3
    exact ⟨none,⟨rfl,trivial⟩,rfl,rfl⟩
   .refine ⟨fun h4=>?_,fun h4=>?_⟩
    .subst h4
     exact ⟨none,⟨rfl,trivial⟩,rfl,rfl⟩
    .exact ⟨none,⟨retI (by rw [degI,if_neg (by omega)]),trivial⟩,rfl,rfl⟩
theorem spec_l10Corner (x y z:Nat) (hx:x<=1) (hy:y<=1) (hz:z<=1):AC Tryz.prog 336 [I (x:Nat),I (y:Nat),I (z:Nat)] [] [I (corN x y z:Nat)] []:=by
 refine AC_of tauOk 14 0 [6] Tryz.func336 rfl (by kernel_rfl) rfl rfl rfl rfl rfl ?_
 refine ⟨((2*y:Nat):Int),w64_eq (by omega) (by omega) (by omega),((x+2*y:Nat):Int),w64_eq (by omega) (by omega) (by omega),((4*z:Nat):Int),w64_eq (by omega) (by omega) (by omega),((corN x y z:Nat):Int),w64_eq (by unfold corN;omega) (by omega) (by unfold corN;omega),?_⟩
 exact ⟨none,⟨rfl,trivial⟩,rfl,rfl⟩
theorem spec_l10Corners:AC Tryz.prog 293 [] [] [.ow 0] [.sl 29 (.sl .int) (sgnL 4)]:=by
 rw [sgn4]
 refine AC_of tauOk 50 0 [0] Tryz.func293 rfl (by kernel_rfl) rfl rfl rfl rfl rfl ?_
 refine ⟨rfl,by decide,true,rfl,by decide,true,rfl,by decide,true,?_⟩
 refine ⟨Nat,fun k=>⟨[(1,.ow 0),(2,.ow 1),(3,.ow 2),(4,I (k:Nat))],[.sl 3 .int (crnS 0 k),.sl 3 .int (crnS 1 k),.sl 3 .int (crnS 2 k)]⟩,fun k=>k<=8,fun k=>8-k,0,Nat.zero_le _,
  ⟨⟨rfl,rfl⟩,⟨rfl,rfl,rfl,rfl,trivial⟩,rfl,rfl,rfl,trivial⟩,fun k hk=>?_⟩
 dsimp only at hk
 have hcl:∀j,(crnS j k).length=k:=fun j=>by simp [crnS]
 have c0:=hcl 0
 have c1:=hcl 1
 have c2:=hcl 2
 refine ⟨fun h1=>?_,fun h1=>?_⟩
 .have hk2:k<8:=by omega
  refine ⟨by decide,((k % 2:Nat):Int),Int.ofNat_tmod k 2,?_⟩
  refine ⟨by decide,((k / 2:Nat):Int),w64_eq (Int.ofNat_tdiv k 2) (by omega) (by omega),by decide,((k / 2 % 2:Nat):Int),Int.ofNat_tmod (k / 2) 2,?_⟩
  refine ⟨by decide,((k / 4:Nat):Int),w64_eq (Int.ofNat_tdiv k 4) (by omega) (by omega),?_⟩
  refine ⟨((1-k / 2 % 2:Nat):Int),w64_eq (by omega) (by omega) (by omega),[],false,_,_,spec_l10Corner (1-k / 2 % 2) (k % 2) (k / 4) (by omega) (by omega) (by omega),nd0,rfl,rfl,trivial,?_⟩
  refine ⟨rfl,by decide,false,rfl,Nat.zero_le _,rfl,by simp only [List.length_cons,List.length_nil];omega,rfl,?_⟩
  refine ⟨((1-k / 4:Nat):Int),w64_eq (by omega) (by omega) (by omega),[],false,_,_,spec_l10Corner (k % 2) (1-k / 4) (k / 2 % 2) (by omega) (by omega) (by omega),nd0,rfl,rfl,trivial,?_⟩
  refine ⟨rfl,by decide,false,rfl,Nat.zero_le _,rfl,by simp only [List.length_cons,List.length_nil];omega,rfl,?_⟩
  refine ⟨((1-k / 4:Nat):Int),w64_eq (by omega) (by omega) (by omega),[],false,_,_,spec_l10Corner (k % 2) (k / 2 % 2) (1-k / 4) (by omega) (by omega) (by omega),nd0,rfl,rfl,trivial,?_⟩
  refine ⟨rfl,by decide,false,rfl,Nat.zero_le _,rfl,by simp only [List.length_cons,List.length_nil];omega,rfl,?_⟩
  exact ⟨((k+1:Nat):Int),w64_eq (by omega) (by omega) (by omega),k+1,by dsimp only;omega,by dsimp only;omega,⟨rfl,rfl⟩,⟨rfl,rfl,rfl,rfl,trivial⟩,rowE (crnS_s 0 k).symm,rowE (crnS_s 1 k).symm,rowE (crnS_s 2 k).symm,trivial⟩
 .obtain rfl:k=8:=by omega
  refine ⟨rfl,rfl,rfl,rfl,by decide,true,?_⟩
  exact ⟨some 3,⟨⟨rfl,rfl⟩,trivial⟩,⟨rfl,rfl⟩,rfl⟩
theorem spec_l10Generators (k:Nat) (h1:1<=k) (h4:k<5) (r:List AV) (hr:r=[.d true (.sl (.sl .int)) (sgnL k)]):AC Tryz.prog 223 [I (k:Nat)] [] r []:=by
 subst hr
 have hcases:k=1\/k=2\/k=3\/k=4:=by omega
 rcases hcases with rfl|rfl|rfl|rfl
 .refine AC.frz1 (e:=29) ?_
  refine AC_of tauOk 44 0 [2] Tryz.func223 rfl (by kernel_rfl) rfl rfl rfl rfl rfl ?_
  refine ⟨rfl,by decide,true,rfl,by decide,true,rfl,by decide,true,rfl,rfl,rfl,rfl,by decide,true,?_⟩
  refine ⟨fun _=>?_,fun h=>(h rfl).elim⟩
  exact ⟨some 3,⟨⟨rfl,rfl⟩,trivial⟩,⟨rfl,rfl⟩,rfl⟩
 .refine AC.frz1 (e:=29) ?_
  have hT:∀i,i<3->PermP (([[1,2,0,3],[1,0,3,2],[1,0,2,3]]:List (List Int)).getD i [])/\(([[1,2,0,3],[1,0,3,2],[1,0,2,3]]:List (List Int)).getD i []).length=4:=by
   have h:(([[1,2,0,3],[1,0,3,2],[1,0,2,3]]:List (List Int)).all fun p=>permB p && decide (p.length=4))=true:=by decide+kernel
   intro i hi
   rw [List.all_eq_true] at h
   have:=h _ (List.getElem_mem (l:=([[1,2,0,3],[1,0,3,2],[1,0,2,3]]:List (List Int))) (n:=i) hi)
   rw [Bool.and_eq_true,decide_eq_true_eq] at this
   rw [getD_get _ _ _ hi]
   exact ⟨(permB_iff _).1 this.1,this.2⟩
  have hS:sgnL 2=([[1,2,0,3],[1,0,3,2],[1,0,2,3]]:List (List Int)).map pactL:=rfl
  rw [hS]
  refine AC_of tauOk 44 0 [2] Tryz.func223 rfl (by kernel_rfl) rfl rfl rfl rfl rfl ?_
  refine ⟨rfl,by decide,true,rfl,by decide,true,rfl,by decide,true,rfl,rfl,rfl,rfl,by decide,true,?_⟩
  refine ⟨fun h=>by omega,fun _=>⟨fun _=>?_,fun h=>(h rfl).elim⟩⟩
  refine ⟨rfl,by decide,true,?_⟩
  refine ⟨Nat,fun i=>⟨[(4,.ow 4),(20,.ow 3),(21,I 3),(22,I (i:Nat))],[.dead,.dead,.dead,.sl 29 (.sl .int) ([[1,2,0,3],[1,0,3,2],[1,0,2,3]]:List (List Int)),.sl 29 (.sl .int) ((([[1,2,0,3],[1,0,3,2],[1,0,2,3]]:List (List Int)).take i).map pactL)]⟩,fun i=>i<=3,fun i=>3-i,0,Nat.zero_le _,
   ⟨⟨rfl,rfl⟩,⟨rfl,rfl,rfl,rfl,trivial⟩,rfl,rfl,rfl,rfl,rfl,trivial⟩,fun i hi=>?_⟩
  dsimp only at hi
  refine ⟨fun h5=>?_,fun h5=>?_⟩
  .have hi2:i<3:=by omega
   obtain ⟨hP,hl⟩:=hT i hi2
   have hs:(([[1,2,0,3],[1,0,3,2],[1,0,2,3]]:List (List Int)).take (i+1)).map pactL=(([[1,2,0,3],[1,0,3,2],[1,0,2,3]]:List (List Int)).take i).map pactL++[pactL (([[1,2,0,3],[1,0,3,2],[1,0,2,3]]:List (List Int)).getD i [])]:=by
    rw [L_succ ([[1,2,0,3],[1,0,3,2],[1,0,2,3]]:List (List Int)) i [] hi2,List.map_append];rfl
   refine ⟨i,rfl,hi2,[],true,_,_,spec_PairAction true (([[1,2,0,3],[1,0,3,2],[1,0,2,3]]:List (List Int)).getD i []) hP (by omega) (by omega),nd0,rfl,rfl,trivial,fun _=>?_,nofun⟩
   refine ⟨rfl,by decide,false,rfl,Nat.zero_le _,rfl,by simp only [List.length_cons,List.length_nil,List.length_map,List.length_take];omega,rfl,?_⟩
   exact ⟨((i+1:Nat):Int),w64_eq (by omega) (by omega) (by omega),i+1,by dsimp only;omega,by dsimp only;omega,⟨rfl,rfl⟩,⟨rfl,rfl,rfl,rfl,trivial⟩,rfl,rfl,rfl,rfl,rowE hs.symm,trivial⟩
  .obtain rfl:i=3:=by omega
   exact ⟨some 4,⟨⟨rfl,rfl⟩,trivial⟩,⟨rfl,rfl⟩,rfl⟩
 .refine AC.frz1 (e:=29) ?_
  refine AC_of tauOk 44 0 [2] Tryz.func223 rfl (by kernel_rfl) rfl rfl rfl rfl rfl ?_
  refine ⟨rfl,by decide,true,rfl,by decide,true,rfl,by decide,true,rfl,rfl,rfl,rfl,by decide,true,?_⟩
  refine ⟨fun h=>by omega,fun _=>⟨fun h=>by omega,fun _=>⟨fun _=>?_,fun h=>(h rfl).elim⟩⟩⟩
  refine ⟨rfl,by decide,true,rfl,by decide,true,rfl,by decide,true,rfl,rfl,rfl,rfl,by decide,true,?_⟩
  exact ⟨some 7,⟨⟨rfl,rfl⟩,trivial⟩,⟨rfl,rfl⟩,rfl⟩
 .refine AC.frz1 (e:=29) ?_
  refine AC_of tauOk 44 0 [2] Tryz.func223 rfl (by kernel_rfl) rfl rfl rfl rfl rfl ?_
  refine ⟨rfl,by decide,true,rfl,by decide,true,rfl,by decide,true,rfl,rfl,rfl,rfl,by decide,true,?_⟩
  refine ⟨fun h=>by omega,fun _=>⟨fun h=>by omega,fun _=>⟨fun h=>by omega,fun _=>?_⟩⟩⟩
  refine ⟨[],false,_,_,spec_l10Corners,nd0,rfl,rfl,trivial,?_⟩
  exact ⟨some 4,⟨⟨rfl,rfl⟩,trivial⟩,⟨rfl,rfl⟩,rfl⟩
theorem spec_SolidGroup_z (k:Int) (mir:Bool):AC Tryz.prog 121 [I k,.d true .bool mir] [] (grpR (solO k mir)) []:=by
 have hD:=spec_SolidDegree k
 by_cases h:1<=k/\k<=4
 .obtain ⟨K,rfl⟩:∃K:Nat,k=(K:Int):=⟨k.toNat,by omega⟩
  obtain ⟨c1,c2,c3⟩:=sgn_chk K (by omega) (by omega) mir
  obtain ⟨d1,d2,d3⟩:=sol_chk K (by omega) (by omega) mir
  have hn:1<=solN K/\solN K<11:=by unfold solN;split<;>decide
  rw [solO,if_pos h,Int.toNat_natCast]
  rw [degI,if_pos h,Int.toNat_natCast] at hD
  have hf:bfsS (solN K) (sgnT K mir) 200 0 [idL (solN K)] [idL (solN K)]=some (solL K mir):=by
   rw [c3]
   exact fnd_gG hn.1 (by omega) (genP_of d1 d2) d3
  have hG:=spec_GroupOf true (solN K) (sgnT K mir) _ hn.1 hn.2 (genP_of c1 c2) hf
  have hln:(sgnL K).length=3:=by
   have:K=1\/K=2\/K=3\/K=4:=by omega
   rcases this with rfl|rfl|rfl|rfl<;>rfl
  have hS:=spec_l10Generators K (by omega) (by omega) _ rfl
  cases mir
  .refine AC_of tauOk 22 0 [4,5] Tryz.func121 rfl (by kernel_rfl) rfl rfl rfl rfl rfl ?_
   refine ⟨[],false,_,_,hD,nd0,rfl,rfl,trivial,fun h=>by omega,fun _=>?_⟩
   refine ⟨[],false,_,_,hS,nd0,rfl,rfl,trivial,?_⟩
   refine ⟨2,rfl,Nat.zero_le _,by omega,?_⟩
   refine ⟨[],false,_,_,hD,nd0,rfl,rfl,trivial,[],false,_,_,hG,nd0,rfl,rfl,trivial,fun _=>?_,nofun⟩
   exact ⟨none,⟨rfl,rfl,trivial⟩,rfl,rfl⟩
  .refine AC_of tauOk 22 0 [4,5] Tryz.func121 rfl (by kernel_rfl) rfl rfl rfl rfl rfl ?_
   refine ⟨[],false,_,_,hD,nd0,rfl,rfl,trivial,fun h=>by omega,fun _=>?_⟩
   refine ⟨[],false,_,_,hS,nd0,rfl,rfl,trivial,?_⟩
   refine ⟨[],false,_,_,hD,nd0,rfl,rfl,trivial,[],false,_,_,hG,nd0,rfl,rfl,trivial,fun _=>?_,nofun⟩
   exact ⟨none,⟨rfl,rfl,trivial⟩,rfl,rfl⟩
 .rw [solO,if_neg h]
  rw [degI,if_neg h] at hD
  refine AC_of tauOk 22 0 [4,5] Tryz.func121 rfl (by kernel_rfl) rfl rfl rfl rfl rfl ?_
  refine ⟨[],false,_,_,hD,nd0,rfl,rfl,trivial,fun _=>?_,fun h=>(h rfl).elim⟩
  exact ⟨none,⟨rfl,rfl,trivial⟩,rfl,rfl⟩
end Go.Proofs.YtacjiemkbhhhoaaGreatDoor
