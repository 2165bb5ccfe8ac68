/-
  Part 3 of the texts that the claim rests on: Ty, Pl, Pl3, Pl4, Wcom, Wcol, Pl5, Pl6, Wexc, Wint, Pl7, Shelf, Wjoin, Wfmt, Wints, PlU, Wprs, PlA, Pl8, Wsort, Wlst, Wcmp, Wsf, PlB, PlC, Wgr, Wgr2.
  No condition beyond the given program.
-/
import Derived.Test.YtacjiemkbhhhoaaGreatDoorIb
set_option linter.unusedVariables false
set_option linter.unusedSimpArgs false
namespace Go.Proofs.YtacjiemkbhhhoaaGreatDoor
open Go Go.Proofs.YtacjiemkbhhhoaaGreatDoor.Ow
def tau:Nat->TI
 |3=>.one .int 0
 |4=>.one .bool 0
 |5=>.one .u8 0
 |9=>.one .str 0
 |21=>.one .i32 0
 |22=>.one (.sl .u8) 5
 |27=>.one (.sl .str) 9
 |29=>.one (.sl .int) 3
 |32=>.one (.sl (.sl .int)) 29
 |71=>.one .u64 0
 |130=>.one (.sl .bool) 4
 |153=>.arr .bool 10 4
 |160=>.arr .int 3 3
 |203=>.arr .int 4 3
 |51=>.rc [.str [],.int 0]
 |70=>.rc [.u8s [],.int 0,.int 0]
 |127=>.rc [.ints [],.int 0]
 |124=>.tz 127
 |117=>.xs .tr 160
 |119=>.xs .fn 121
 |121=>.fn
 |_=>.none
theorem inf3:(Tryz.prog.info? 3).map (fun i=>(i.size,i.zero,i.bytes))=some (1,some (.int .i64 0),8):=by kernel_rfl
theorem inf4:(Tryz.prog.info? 4).map (fun i=>(i.size,i.zero,i.bytes))=some (1,some (.bool false),1):=by kernel_rfl
theorem inf5:(Tryz.prog.info? 5).map (fun i=>(i.size,i.zero,i.bytes))=some (1,some (.int .u8 0),1):=by kernel_rfl
theorem inf9:(Tryz.prog.info? 9).map (fun i=>(i.size,i.zero,i.bytes))=some (1,some (.string ⟨#[]⟩),16):=by kernel_rfl
theorem inf21:(Tryz.prog.info? 21).map (fun i=>(i.size,i.zero,i.bytes))=some (1,some (.int .i32 0),4):=by kernel_rfl
theorem inf22:(Tryz.prog.info? 22).map (fun i=>(i.size,i.zero,i.bytes))=some (1,some (.slice none 0 0),24):=by kernel_rfl
theorem inf27:(Tryz.prog.info? 27).map (fun i=>(i.size,i.zero,i.bytes))=some (1,some (.slice none 0 0),24):=by kernel_rfl
theorem inf29:(Tryz.prog.info? 29).map (fun i=>(i.size,i.zero,i.bytes))=some (1,some (.slice none 0 0),24):=by kernel_rfl
theorem inf32:(Tryz.prog.info? 32).map (fun i=>(i.size,i.zero,i.bytes))=some (1,some (.slice none 0 0),24):=by kernel_rfl
theorem inf71:(Tryz.prog.info? 71).map (fun i=>(i.size,i.zero,i.bytes))=some (1,some (.int .u64 0),8):=by kernel_rfl
theorem inf130:(Tryz.prog.info? 130).map (fun i=>(i.size,i.zero,i.bytes))=some (1,some (.slice none 0 0),24):=by kernel_rfl
theorem inf153:(Tryz.prog.info? 153).map (fun i=>(i.size,i.zero))=some (10,some (.agg (Array.replicate 10 (.bool false)))):=by kernel_rfl
theorem inf160:(Tryz.prog.info? 160).map (fun i=>(i.size,i.zero))=some (3,some (.agg (Array.replicate 3 (.int .i64 0)))):=by kernel_rfl
theorem inf203:(Tryz.prog.info? 203).map (fun i=>(i.size,i.zero))=some (4,some (.agg (Array.replicate 4 (.int .i64 0)))):=by kernel_rfl
theorem inf51:(Tryz.prog.info? 51).map (fun i=>(i.size,i.zero))=some (2,some (.agg #[.string ⟨#[]⟩,.int .i64 0])):=by kernel_rfl
theorem inf70:(Tryz.prog.info? 70).map (fun i=>(i.size,i.zero))=some (3,some (.agg #[.slice none 0 0,.int .i64 0,.int .i64 0])):=by kernel_rfl
theorem inf127:(Tryz.prog.info? 127).map (fun i=>(i.size,i.zero))=some (2,some (.agg #[.slice none 0 0,.int .i64 0])):=by kernel_rfl
theorem infz124:(Tryz.prog.info? 127).map (fun i=>(i.size,i.zero,i.bytes))=some (2,some (.agg #[.slice none 0 0,.int .i64 0]),32):=by kernel_rfl
theorem infx117:(Tryz.prog.info? 160).map (fun i=>(i.size,i.zero,i.bytes))=some (3,some (.agg #[.int .i64 0,.int .i64 0,.int .i64 0]),24):=by kernel_rfl
theorem infx119:(Tryz.prog.info? 121).map (fun i=>(i.size,i.zero,i.bytes))=some (1,some (.nilFunc),8):=by kernel_rfl
theorem tauOk:TyOk Tryz.prog tau where
 mixed:=by kernel_rfl
 eqv:=by
  intro T
  unfold tau
  split
  .trivial
  .trivial
  .trivial
  .trivial
  .trivial
  .trivial
  .trivial
  .trivial
  .trivial
  .trivial
  .trivial
  .trivial
  .exact EqF.tri Tryz.underlying160 (by kernel_rfl) inf3 Tryz.underlying3
  .trivial
  .exact EqF.form Tryz.underlying51 (by kernel_rfl) (by kernel_rfl) (by kernel_rfl) (by kernel_rfl) rfl rfl rfl rfl Tryz.underlying9 Tryz.underlying3
  .trivial
  .trivial
  .trivial
  .trivial
  .trivial
  .trivial
  .trivial
 one:=by
  intro T t e h
  unfold tau at h
  split at h<;>cases h
  .exact ⟨Tryz.underlying3,info_of inf3⟩
  .exact ⟨Tryz.underlying4,info_of inf4⟩
  .exact ⟨Tryz.underlying5,info_of inf5⟩
  .exact ⟨Tryz.underlying9,info_of inf9⟩
  .exact ⟨Tryz.underlying21,info_of inf21⟩
  .exact ⟨⟨Tryz.underlying22,_,rfl⟩,info_of inf22⟩
  .exact ⟨⟨Tryz.underlying27,_,rfl⟩,info_of inf27⟩
  .exact ⟨⟨Tryz.underlying29,_,rfl⟩,info_of inf29⟩
  .exact ⟨⟨Tryz.underlying32,_,rfl⟩,info_of inf32⟩
  .exact ⟨Tryz.underlying71,info_of inf71⟩
  .exact ⟨⟨Tryz.underlying130,_,rfl⟩,info_of inf130⟩
 rc:=by
  intro T zs h
  unfold tau at h
  split at h<;>cases h
  .exact ⟨_,Tryz.underlying51,by kernel_rfl,info2_of inf51⟩
  .exact ⟨_,Tryz.underlying70,by kernel_rfl,info2_of inf70⟩
  .exact ⟨_,Tryz.underlying127,by kernel_rfl,info2_of inf127⟩
 tz:=by
  intro T e h
  unfold tau at h
  split at h<;>cases h
  .exact ⟨Tryz.underlying124,rfl,info_of infz124⟩
 xs:=by
  intro T t e h
  unfold tau at h
  split at h<;>cases h
  .obtain ⟨i,h1,h2,h3,h4⟩:=info_of infx117;exact ⟨Tryz.underlying117,i,_,h1,h2,h3,rfl,by omega⟩
  .obtain ⟨i,h1,h2,h3,h4⟩:=info_of infx119;exact ⟨Tryz.underlying119,i,_,h1,h2,h3,rfl,by omega⟩
 fn:=by
  intro T h
  unfold tau at h
  split at h<;>cases h
  .exact ⟨_,Tryz.underlying121,by simp,by simp⟩
 arr:=by
  intro T t n e h
  unfold tau at h
  split at h<;>cases h
  .exact ⟨Tryz.underlying153,⟨_,rfl⟩,info2_of inf153⟩
  .exact ⟨Tryz.underlying160,⟨_,rfl⟩,info2_of inf160⟩
  .exact ⟨Tryz.underlying203,⟨_,rfl⟩,info2_of inf203⟩
def tauS (d:Bool):Nat->TI
 |3=>.one .int 0
 |4=>.one .bool 0
 |5=>.one .u8 0
 |9=>.one .str 0
 |21=>.one .i32 0
 |22=>.one (.sl .u8) 5
 |27=>.one (.sl .str) 9
 |29=>.one (.sl .int) 3
 |32=>.one (.sl (.sw 3 d)) 29
 |71=>.one .u64 0
 |130=>.one (.sl .bool) 4
 |153=>.arr .bool 10 4
 |160=>.arr .int 3 3
 |203=>.arr .int 4 3
 |51=>.rc [.str [],.int 0]
 |70=>.rc [.u8s [],.int 0,.int 0]
 |127=>.rc [.ints [],.int 0]
 |124=>.tz 127
 |117=>.xs .tr 160
 |119=>.xs .fn 121
 |121=>.fn
 |_=>.none
theorem tauSOk (d:Bool):TyOk Tryz.prog (tauS d) where
 mixed:=by kernel_rfl
 eqv:=by
  intro T
  unfold tauS
  split
  .trivial
  .trivial
  .trivial
  .trivial
  .trivial
  .trivial
  .trivial
  .trivial
  .trivial
  .trivial
  .trivial
  .trivial
  .exact EqF.tri Tryz.underlying160 (by kernel_rfl) inf3 Tryz.underlying3
  .trivial
  .exact EqF.form Tryz.underlying51 (by kernel_rfl) (by kernel_rfl) (by kernel_rfl) (by kernel_rfl) rfl rfl rfl rfl Tryz.underlying9 Tryz.underlying3
  .trivial
  .trivial
  .trivial
  .trivial
  .trivial
  .trivial
  .trivial
 one:=by
  intro T t e h
  unfold tauS at h
  split at h<;>cases h
  .exact ⟨Tryz.underlying3,info_of inf3⟩
  .exact ⟨Tryz.underlying4,info_of inf4⟩
  .exact ⟨Tryz.underlying5,info_of inf5⟩
  .exact ⟨Tryz.underlying9,info_of inf9⟩
  .exact ⟨Tryz.underlying21,info_of inf21⟩
  .exact ⟨⟨Tryz.underlying22,_,rfl⟩,info_of inf22⟩
  .exact ⟨⟨Tryz.underlying27,_,rfl⟩,info_of inf27⟩
  .exact ⟨⟨Tryz.underlying29,_,rfl⟩,info_of inf29⟩
  .exact ⟨⟨Tryz.underlying32,_,rfl⟩,info_of inf32⟩
  .exact ⟨Tryz.underlying71,info_of inf71⟩
  .exact ⟨⟨Tryz.underlying130,_,rfl⟩,info_of inf130⟩
 rc:=by
  intro T zs h
  unfold tauS at h
  split at h<;>cases h
  .exact ⟨_,Tryz.underlying51,by kernel_rfl,info2_of inf51⟩
  .exact ⟨_,Tryz.underlying70,by kernel_rfl,info2_of inf70⟩
  .exact ⟨_,Tryz.underlying127,by kernel_rfl,info2_of inf127⟩
 tz:=by
  intro T e h
  unfold tauS at h
  split at h<;>cases h
  .exact ⟨Tryz.underlying124,rfl,info_of infz124⟩
 xs:=by
  intro T t e h
  unfold tauS at h
  split at h<;>cases h
  .obtain ⟨i,h1,h2,h3,h4⟩:=info_of infx117;exact ⟨Tryz.underlying117,i,_,h1,h2,h3,rfl,by omega⟩
  .obtain ⟨i,h1,h2,h3,h4⟩:=info_of infx119;exact ⟨Tryz.underlying119,i,_,h1,h2,h3,rfl,by omega⟩
 fn:=by
  intro T h
  unfold tauS at h
  split at h<;>cases h
  .exact ⟨_,Tryz.underlying121,by simp,by simp⟩
 arr:=by
  intro T t n e h
  unfold tauS at h
  split at h<;>cases h
  .exact ⟨Tryz.underlying153,⟨_,rfl⟩,info2_of inf153⟩
  .exact ⟨Tryz.underlying160,⟨_,rfl⟩,info2_of inf160⟩
  .exact ⟨Tryz.underlying203,⟨_,rfl⟩,info2_of inf203⟩
def TreeP (xs:List Int):Prop:=(1<=xs.length/\xs.length<=12)/\xs.getD 0 0= -1/\∀i,1<=i->i<xs.length->0<=xs.getD i 0/\xs.getD i 0<(i:Int)
def treeB (xs:List Int):Bool:=decide (1<=xs.length) && decide (xs.length<=12) && decide (xs.getD 0 0= -1) && (List.range xs.length).all fun i=>decide (i<1)||decide (0<=xs.getD i 0) && decide (xs.getD i 0<(i:Int))
theorem treeB_iff (xs:List Int):treeB xs=true ↔ TreeP xs:=by
 unfold treeB TreeP
 simp only [Bool.and_eq_true,decide_eq_true_eq,List.all_eq_true,List.mem_range,Bool.or_eq_true]
 constructor
 .rintro ⟨⟨⟨h1,h2⟩,h3⟩,h4⟩
  exact ⟨⟨h1,h2⟩,h3,fun i h5 h6=>by rcases h4 i h6 with h|h;omega;exact h⟩
 .rintro ⟨⟨h1,h2⟩,h3,h4⟩
  exact ⟨⟨⟨h1,h2⟩,h3⟩,fun i h5=>by
   by_cases h:i<1
   .exact .inl h
   .exact .inr (h4 i (by omega) h5)⟩
theorem treeB_false {xs:List Int} (h:¬TreeP xs):treeB xs=false:=by
 cases hb:treeB xs
 .rfl
 .exact (h ((treeB_iff xs).1 hb)).elim
def mx (x y:Int):Int:=if x<y then y else x
def htS (xs:List Int):Nat->List Int × Int
 |0=>(List.replicate xs.length 0,0)
 |k+1=>if 0<k then ((htS xs k).1.set k ((htS xs k).1.getD (xs.getD k 0).toNat 0+1),mx (htS xs k).2 ((htS xs k).1.getD (xs.getD k 0).toNat 0+1)) else htS xs k
def heightV (xs:List Int):Int:=if treeB xs=true then (htS xs xs.length).2 else-1
theorem htS_len (xs:List Int):∀k,(htS xs k).1.length=xs.length
 |0=>by simp [htS]
 |k+1=>by
  unfold htS
  split
  .simp [htS_len xs k]
  .exact htS_len xs k
theorem rep_getD (n j:Nat):(List.replicate n (0:Int)).getD j 0=0:=by
 simp only [List.getD,List.getElem?_replicate]
 split<;>rfl
theorem htS_b (xs:List Int):∀k j,0<=(htS xs k).1.getD j 0/\(htS xs k).1.getD j 0<=k
 |0,j=>by unfold htS;rw [rep_getD];omega
 |k+1,j=>by
  have h:=htS_b xs k
  unfold htS
  split
  .dsimp only
   have h1:=h j
   have h2:=h (xs.getD k 0).toNat
   by_cases e:k=j
   .subst e
    by_cases hl:k<(htS xs k).1.length
    .rw [L_set_self _ _ _ _ hl];omega
    .rw [List.set_eq_of_length_le (by omega)];omega
   .rw [L_set_ne _ _ _ _ _ e];omega
  .have h1:=h j
   omega
theorem htS_0 (xs:List Int):htS xs (0+1)=htS xs 0:=rfl
theorem htS_s (xs:List Int) (k:Nat) (h:0<k):htS xs (k+1)=((htS xs k).1.set k ((htS xs k).1.getD (xs.getD k 0).toNat 0+1),mx (htS xs k).2 ((htS xs k).1.getD (xs.getD k 0).toNat 0+1)):=by rw [htS,if_pos h]
def okC (x:Int):Bool:=decide (0<=x) && decide (x<4)
def ColP (xs:List Int):Prop:=(∀i,i<xs.length->0<=xs.getD i 0/\xs.getD i 0<4)/\1<=xs.length/\xs.length<=10
def colB (xs:List Int):Bool:=xs.all okC && decide (1<=xs.length) && decide (xs.length<=10)
theorem colB_iff (xs:List Int):colB xs=true ↔ ColP xs:=by
 unfold colB ColP
 simp only [Bool.and_eq_true,decide_eq_true_eq]
 constructor
 .rintro ⟨⟨h1,h2⟩,h3⟩
  refine ⟨fun i hi=>?_,h2,h3⟩
  rw [List.all_eq_true] at h1
  have:=h1 xs[i] (List.getElem_mem hi)
  rw [getD_get _ _ _ hi]
  simpa [okC] using this
 .rintro ⟨h1,h2,h3⟩
  refine ⟨⟨all_of_getD (d:=0) fun j hj=>?_,h2⟩,h3⟩
  have:=h1 j hj
  simpa only [okC,Bool.and_eq_true,decide_eq_true_eq] using this
theorem colB_false {xs:List Int} (h:¬ColP xs):colB xs=false:=by
 cases e:colB xs
 .rfl
 .exact (h ((colB_iff xs).1 e)).elim
def fcN (s:List Int × Int) (x:Int):List Int × Int:=if s.1.getD x.toNat 0<0 then (s.1.set x.toNat s.2,s.2+1) else s
def fcS (xs:List Int):Nat->(List Int × Int) × List Int
 |0=>(([-1,-1,-1,-1],0),[])
 |k+1=>(fcN (fcS xs k).1 (xs.getD k 0),(fcS xs k).2++[(fcN (fcS xs k).1 (xs.getD k 0)).1.getD (xs.getD k 0).toNat 0])
def firstL (xs:List Int):List Int:=(fcS xs xs.length).2
structure FcI (xs:List Int) (k:Nat) (s:(List Int × Int) × List Int):Prop where
 l4:s.1.1.length=4
 lo:s.2.length=k
 m0:0<=s.1.2
 mK:s.1.2<=k
 nm:∀c,c<4->-1<=s.1.1.getD c 0/\s.1.1.getD c 0<s.1.2
 fr:∀c,c<4->(s.1.1.getD c 0<0 ↔ ∀i,i<k->xs.getD i 0≠(c:Int))
 ob:∀i,i<k->0<=s.2.getD i 0/\s.2.getD i 0<s.1.2
 om:s.1.2<=0\/∃i,i<k/\s.2.getD i 0=s.1.2-1
theorem fcI (xs:List Int) (hx:∀i,i<xs.length->0<=xs.getD i 0/\xs.getD i 0<4):∀k,k<=xs.length->FcI xs k (fcS xs k)
 |0,_=>by
  refine ⟨rfl,rfl,Int.le_refl _,Int.le_refl _,by unfold fcS;decide,fun c hc=>⟨fun _ i hi=>by omega,fun _=>?_⟩,fun i hi=>by omega,.inl (Int.le_refl _)⟩
  exact (by decide:∀c,c<4->([-1,-1,-1,-1]:List Int).getD c 0<0) c hc
 |k+1,hk=>by
  have H:=fcI xs hx k (by omega)
  have hxk:=hx k (by omega)
  obtain ⟨c,hc⟩:∃c:Nat,xs.getD k 0=c:=⟨(xs.getD k 0).toNat,by omega⟩
  have hc4:c<4:=by omega
  unfold fcS
  generalize fcS xs k=s at*
  obtain ⟨⟨names,most⟩,out⟩:=s
  obtain ⟨l4,lo,m0,mK,nm,fr,ob,om⟩:=H
  dsimp only at*
  simp only [hc,Int.toNat_natCast]
  unfold fcN
  dsimp only
  simp only [Int.toNat_natCast]
  split
  .rename_i h0
   have hs:(names.set c most).getD c 0=most:=L_set_self _ _ _ _ (by omega)
   refine ⟨by simp [l4],by simp [lo],by dsimp only;omega,by dsimp only;omega,fun d hd=>?_,fun d hd=>?_,fun i hi=>?_,.inr ⟨k,by omega,?_⟩⟩
   .dsimp only
    by_cases e:c=d
    .subst e;rw [hs];omega
    .rw [L_set_ne _ _ _ _ _ e];have:=nm d hd;omega
   .dsimp only
    by_cases e:c=d
    .subst e;rw [hs]
     exact ⟨fun h=>by omega,fun h=>(h k (by omega) hc).elim⟩
    .rw [L_set_ne _ _ _ _ _ e,fr d hd]
     constructor
     .intro h i hi
      by_cases e2:i=k
      .subst e2;omega
      .exact h i (by omega)
     .exact fun h i hi=>h i (by omega)
   .dsimp only
    rw [hs]
    by_cases e2:i=k
    .subst e2;rw [L_app_r _ _ _ _ (by omega),lo,Nat.sub_self];show 0<=most/\most<most+1;omega
    .rw [L_app_l _ _ _ _ (by omega)];have:=ob i (by omega);omega
   .dsimp only
    rw [hs,L_app_r _ _ _ _ (by omega),lo,Nat.sub_self];show most=most+1-1;omega
  .rename_i h0
   have hn:=nm c hc4
   have hnot:=fr c hc4
   refine ⟨l4,by simp [lo],m0,by dsimp only;omega,nm,fun d hd=>?_,fun i hi=>?_,?_⟩
   .dsimp only
    rw [fr d hd]
    constructor
    .intro h i hi
     by_cases e2:i=k
     .subst e2
      intro e3
      have:c=d:=by omega
      subst this
      exact h0 (hnot.2 h)
     .exact h i (by omega)
    .exact fun h i hi=>h i (by omega)
   .dsimp only
    by_cases e2:i=k
    .subst e2;rw [L_app_r _ _ _ _ (by omega),lo,Nat.sub_self];show 0<=names.getD c 0/\names.getD c 0<most;omega
    .rw [L_app_l _ _ _ _ (by omega)];exact ob i (by omega)
   .dsimp only
    rcases om with h|⟨i,hi,h⟩
    .exact .inl h
    .exact .inr ⟨i,by omega,by rw [L_app_l _ _ _ _ (by omega)];exact h⟩
theorem fcS_new (xs:List Int) (k c:Nat) (hc:xs.getD k 0=c) (h:(fcS xs k).1.1.getD c 0<0):
 fcS xs (k+1)=(((fcS xs k).1.1.set c (fcS xs k).1.2,(fcS xs k).1.2+1),(fcS xs k).2++[((fcS xs k).1.1.set c (fcS xs k).1.2).getD c 0]):=by
 rw [fcS,fcN,hc,Int.toNat_natCast,if_pos h]
theorem fcS_old (xs:List Int) (k c:Nat) (hc:xs.getD k 0=c) (h:¬(fcS xs k).1.1.getD c 0<0):
 fcS xs (k+1)=((fcS xs k).1,(fcS xs k).2++[(fcS xs k).1.1.getD c 0]):=by
 rw [fcS,fcN,hc,Int.toNat_natCast,if_neg h]
def up (l:List Int):List Int:=l.map (· +1)
theorem up_len (l:List Int):(up l).length=l.length:=by simp [up]
theorem up_get (l:List Int) (c:Nat) (h:c<l.length):(up l).getD c 0=l.getD c 0+1:=by
 rw [getD_get _ _ _ (by rw [up_len];exact h),getD_get _ _ _ h];simp [up]
theorem up_set (l:List Int) (c:Nat) (m:Int):(up l).set c (m+1)=up (l.set c m):=by simp [up,List.map_set]
theorem firstL_len (xs:List Int) (h:ColP xs):(firstL xs).length=xs.length:=(fcI xs h.1 xs.length (Nat.le_refl _)).lo
theorem spec_l01In (n lo hi:Int):AC Tryz.prog 194 [.d true .int n,.d true .int lo,.d true .int hi] [] [.d true .bool (decide (lo<=n) && decide (n<=hi))] []:=by
 refine AC_of tauOk 15 0 [6] Tryz.func194 rfl (by kernel_rfl) rfl rfl rfl rfl rfl ?_
 refine ⟨fun h1=>?_,fun h1=>?_⟩
 .refine ⟨fun h2=>?_,fun h2=>?_⟩
  .exact ⟨none,⟨retB (by simp;omega),trivial⟩,rfl,rfl⟩
  .exact ⟨none,⟨retB (by simp;omega),trivial⟩,rfl,rfl⟩
 .exact ⟨none,⟨retB (by simp;omega),trivial⟩,rfl,rfl⟩
theorem spec_ColoringOk (sh:Bool) (xs:List Int) (hl:xs.length<=1048576):AC Tryz.prog 209 [.d sh (.sl .int) xs] [] [.d true .bool (colB xs)] []:=by
 refine AC_of tauOk 18 0 [2] Tryz.func209 rfl (by kernel_rfl) rfl rfl rfl rfl rfl ?_
 refine ⟨Nat,fun k=>⟨[(0,.d sh (.sl .int) xs),(5,.d sh (.sl .int) xs),(6,I xs.length),(7,I (k:Nat))],[]⟩,fun k=>k<=xs.length/\∀j,j<k->0<=xs.getD j 0/\xs.getD j 0<4,fun k=>xs.length-k,0,⟨by omega,fun j hj=>by omega⟩,
  ⟨⟨rfl,rfl⟩,⟨rfl,rfl,rfl,rfl,trivial⟩,trivial⟩,fun k ⟨hk,hy⟩=>?_⟩
 refine ⟨fun h1=>?_,fun h1=>?_⟩
 .refine ⟨k,rfl,by omega,[],false,_,_,spec_l01In _ _ _,nd0,rfl,rfl,trivial,fun h2=>?_,fun h2=>?_⟩
  .simp only [Bool.and_eq_true,decide_eq_true_eq] at h2
   refine ⟨_,w64_in _ (by omega) (by omega),k+1,⟨by omega,fun i hi=>?_⟩,by dsimp only;omega,⟨rfl,rfl⟩,⟨rfl,rfl,rfl,rfl,trivial⟩,trivial⟩
   by_cases e:i=k
   .subst e;omega
   .exact hy i (by omega)
  .simp only [Bool.and_eq_false_iff,decide_eq_false_iff_not] at h2
   refine ⟨none,⟨retB (colB_false fun h=>?_),trivial⟩,rfl,rfl⟩
   have:=h.1 k (by omega)
   omega
 .refine ⟨[],false,_,_,spec_l01In _ _ _,nd0,rfl,rfl,trivial,fun h2=>?_,fun h2=>?_⟩
  .simp only [Bool.and_eq_true,decide_eq_true_eq] at h2
   exact ⟨none,⟨retB ((colB_iff xs).2 ⟨fun i hi=>hy i (by omega),by omega,by omega⟩),trivial⟩,rfl,rfl⟩
  .simp only [Bool.and_eq_false_iff,decide_eq_false_iff_not] at h2
   exact ⟨none,⟨retB (colB_false fun h=>by have:=h.2;omega),trivial⟩,rfl,rfl⟩
theorem impl_ColoringOk (sh:Bool) (xs:List Int) (hl:xs.length<=1048576):AC Tryz.prog 165 [.d sh (.sl .int) xs] [] [.d true .bool (colB xs)] []:=by
 refine AC_of tauOk 26 0 [2] Tryz.func165 rfl (by kernel_rfl) rfl rfl rfl rfl rfl ?_
 refine ⟨Nat,fun k=>⟨[(0,.d sh (.sl .int) xs),(5,.d sh (.sl .int) xs),(6,I xs.length),(7,I (k:Nat))],[]⟩,fun k=>k<=xs.length/\∀j,j<k->0<=xs.getD j 0/\xs.getD j 0<4,fun k=>xs.length-k,0,⟨by omega,fun j hj=>by omega⟩,
  ⟨⟨rfl,rfl⟩,⟨rfl,rfl,rfl,rfl,trivial⟩,trivial⟩,fun k ⟨hk,hy⟩=>?_⟩
 refine ⟨fun h1=>?_,fun h1=>?_⟩
 .refine ⟨k,rfl,by omega,fun h2=>?_,fun h2=>?_⟩
  .refine ⟨none,⟨retB (colB_false fun h=>?_),trivial⟩,rfl,rfl⟩
   have:=h.1 k (by omega)
   omega
  refine ⟨fun h3=>?_,fun h3=>?_⟩
  .refine ⟨none,⟨retB (colB_false fun h=>?_),trivial⟩,rfl,rfl⟩
   have:=h.1 k (by omega)
   omega
  refine ⟨_,w64_in _ (by omega) (by omega),k+1,⟨by omega,fun i hi=>?_⟩,by dsimp only;omega,⟨rfl,rfl⟩,⟨rfl,rfl,rfl,rfl,trivial⟩,trivial⟩
  by_cases e:i=k
  .subst e;omega
  .exact hy i (by omega)
 .refine ⟨fun h2=>?_,fun h2=>?_⟩
  .refine ⟨fun h3=>?_,fun h3=>?_⟩
   .exact ⟨none,⟨retB ((colB_iff xs).2 ⟨fun i hi=>hy i (by omega),by omega,by omega⟩),trivial⟩,rfl,rfl⟩
   .exact ⟨none,⟨retB (colB_false fun h=>by have:=h.2;omega),trivial⟩,rfl,rfl⟩
  .exact ⟨none,⟨retB (colB_false fun h=>by have:=h.2;omega),trivial⟩,rfl,rfl⟩
theorem impl_leastExchange (sh:Bool) (xs:List Int) (hc:ColP xs):AC Tryz.prog 273 [.d sh (.sl .int) xs] [] [.ow 0] [.sl 3 .int (firstL xs)]:=by
 have hl:xs.length<=1048576:=by have:=hc.2;omega
 refine AC_of tauOk 34 0 [2] Tryz.func273 rfl (by kernel_rfl) rfl rfl rfl rfl rfl ?_
 refine ⟨by decide,by decide,rfl,rfl,rfl,rfl,?_⟩
 refine ⟨rfl,by decide,true,?_⟩
 refine ⟨Nat,fun k=>⟨[(0,.d sh (.sl .int) xs),(3,.ptr 0 0),(4,I ((fcS xs k).1.2+1)),(5,.ow 1),(10,.d sh (.sl .int) xs),(11,I xs.length),(12,I (k:Nat))],[.sl 203 .int (up (fcS xs k).1.1),.sl 3 .int (fcS xs k).2]⟩,fun k=>k<=xs.length,fun k=>xs.length-k,0,Nat.zero_le _,
  ⟨⟨rfl,rfl⟩,⟨rfl,rfl,rfl,rfl,rfl,rfl,rfl,trivial⟩,rfl,rfl,trivial⟩,fun k hk=>?_⟩
 dsimp only at hk
 have H:=fcI xs hc.1 k hk
 refine ⟨fun h2=>?_,fun h2=>?_⟩
 .have hk2:k<xs.length:=by omega
  clear h2
  have hx:=hc.1 k hk2
  obtain ⟨c,hcc⟩:∃c:Nat,xs.getD k 0=c:=⟨(xs.getD k 0).toNat,by omega⟩
  have hl4:=H.l4
  have hlo:=H.lo
  have hm0:=H.m0
  have hmK:=H.mK
  have hnm:=H.nm c (by omega)
  have hu:=up_get (fcS xs k).1.1 c (by omega)
  refine ⟨k,rfl,by omega,c,hcc,by omega,by rw [up_len,hl4];omega,fun h3=>?_,fun h3=>?_⟩
  .rw [hu] at h3
   have hS:=fcS_new xs k c hcc (by omega)
   have hs:=L_set_self (fcS xs k).1.1 c (fcS xs k).1.2 0 (by omega)
   have hs2:=L_set_self (up (fcS xs k).1.1) c ((fcS xs k).1.2+1) 0 (by rw [up_len];omega)
   have hl5:((up (fcS xs k).1.1).set c ((fcS xs k).1.2+1)).length=4:=by rw [List.length_set,up_len,hl4]
   refine ⟨c,hcc,by omega,by rw [up_len,hl4];omega,?_⟩
   refine ⟨(fcS xs k).1.2+1+1,w64_eq rfl (by omega) (by omega),?_⟩
   refine ⟨c,hcc,by omega,by rw [hl5];omega,?_⟩
   refine ⟨((fcS xs k).1.1.set c (fcS xs k).1.2).getD c 0,w64_eq (by rw [hs,hs2];omega) (by omega) (by omega),?_⟩
   refine ⟨rfl,by decide,false,?_⟩
   refine ⟨rfl,Nat.zero_le _,rfl,by rw [hlo];simp;omega,rfl,?_⟩
   exact ⟨((k+1:Nat):Int),w64_eq (by omega) (by omega) (by omega),k+1,by dsimp only;omega,by dsimp only;omega,⟨rfl,rfl⟩,⟨rfl,rfl,retI (by rw [hS]),rfl,rfl,rfl,rfl,trivial⟩,rowE (by rw [hS,up_set]),rowE (by rw [hS]),trivial⟩
  .rw [hu] at h3
   have hS:=fcS_old xs k c hcc (by omega)
   refine ⟨c,hcc,by omega,by rw [up_len,hl4];omega,?_⟩
   refine ⟨(fcS xs k).1.1.getD c 0,w64_eq (by rw [hu];omega) (by omega) (by omega),?_⟩
   refine ⟨rfl,by decide,false,?_⟩
   refine ⟨rfl,Nat.zero_le _,rfl,by rw [hlo];simp;omega,rfl,?_⟩
   exact ⟨((k+1:Nat):Int),w64_eq (by omega) (by omega) (by omega),k+1,by dsimp only;omega,by dsimp only;omega,⟨rfl,rfl⟩,⟨rfl,rfl,retI (by rw [hS]),rfl,rfl,rfl,rfl,trivial⟩,rowE (by rw [hS]),rowE (by rw [hS]),trivial⟩
 .obtain rfl:k=xs.length:=by omega
  exact ⟨some 1,⟨⟨rfl,rfl⟩,trivial⟩,⟨rfl,rfl⟩,rfl⟩
def dg (d:Nat):UInt8:=UInt8.ofNat (48+d)
def fmtN (n:Nat):List UInt8:=if n<10 then [dg n] else fmtN (n / 10)++[dg (n % 10)]
termination_by n
decreasing_by omega
def fmtI (n:Int):List UInt8:=if n<0 then 45::fmtN n.natAbs else fmtN n.natAbs
theorem fmtN_lt (n:Nat) (h:n<10):fmtN n=[dg n]:=by rw [fmtN,if_pos h]
theorem fmtN_ge (n:Nat) (h:¬n<10):fmtN n=fmtN (n / 10)++[dg (n % 10)]:=by rw [fmtN,if_neg h]
theorem fmtN_len:∀(k n:Nat),n<10 ^ (k+1)->1<=(fmtN n).length/\(fmtN n).length<=k+1
 |0,n,h=>by rw [fmtN_lt n (by omega)];simp
 |k+1,n,h=>by
  by_cases h1:n<10
  .rw [fmtN_lt n h1];simp
  .rw [fmtN_ge n h1]
   have:=fmtN_len k (n / 10) (by rw [Nat.pow_succ] at h;omega)
   simp;omega
theorem fmtN_len64 (n:Nat) (h:n<=9223372036854775808):1<=(fmtN n).length/\(fmtN n).length<=19:=fmtN_len 18 n (by omega)
theorem strOf_dg (d:Nat):strOf [((48+d:Nat):Int)]=[dg d]:=rfl
theorem u8w (x:Int) (h1:0<=x) (h2:x<=255):x=IntKind.u8.wrap x:=(IntWalk.u8_in x ⟨h1,h2⟩).symm
theorem i32w (x:Int) (h1:0<=x) (h2:x<=255):x=IntKind.i32.wrap x:=(IntWalk.i32_in x ⟨by omega,by omega⟩).symm
theorem enc_dg (d:Nat) (h:d<10):(Utf8.encode ((48+d:Nat):Int)).data.toList=[dg d]:=by
 revert d;decide
def wordS (xs:List Int):List UInt8:=xs.map fun x=>dg x.toNat
def psL (s:List UInt8):List Int:=s.map fun b=>((b.toNat:Nat):Int)-48
theorem psL_len (s:List UInt8):(psL s).length=s.length:=by simp [psL]
theorem psL_succ (s:List UInt8) (k:Nat) (h:k<s.length):psL (s.take (k+1))=psL (s.take k)++[(((s.getD k 0).toNat:Nat):Int)-48]:=by
 rw [L_succ s k 0 h];simp only [psL,List.map_append,List.map_cons,List.map_nil]
theorem wordS_psL (s:List UInt8) (h:ColP (psL s)):wordS (psL s)=s:=by
 have h1:∀b∈s,dg (((b.toNat:Nat):Int)-48).toNat=b:=by
  intro b hb
  obtain ⟨i,hi,rfl⟩:=List.getElem_of_mem hb
  have:=h.1 i (by rw [psL_len];exact hi)
  rw [getD_get _ _ _ (by rw [psL_len];exact hi)] at this
  simp only [psL,List.getElem_map] at this
  have e:48+(((s[i].toNat:Nat):Int)-48).toNat=s[i].toNat:=by omega
  rw [dg,e];simp
 unfold wordS psL
 rw [List.map_map]
 conv=>rhs;rw [<-List.map_id s]
 exact List.map_congr_left fun b hb=>h1 b hb
theorem wordS_succ (xs:List Int) (k:Nat) (h:k<xs.length):wordS (xs.take (k+1))=wordS (xs.take k)++[dg (xs.getD k 0).toNat]:=by
 rw [L_succ xs k 0 h];simp only [wordS,List.map_append,List.map_cons,List.map_nil]
def formatW (xs:List Int):List UInt8:=if colB xs=true then wordS xs else []
def In64 (xs:List Int):Prop:=∀i,i<xs.length->-9223372036854775808<=xs.getD i 0/\xs.getD i 0<=9223372036854775807
def PermP (xs:List Int):Prop:=(1<=xs.length/\xs.length<=10)/\∀i,i<xs.length->(0<=xs.getD i 0/\xs.getD i 0<(xs.length:Int))/\∀j,j<i->xs.getD j 0≠xs.getD i 0
def permB (xs:List Int):Bool:=(decide (1<=xs.length) && decide (xs.length<=10)) && (List.range xs.length).all fun i=>(decide (0<=xs.getD i 0) && decide (xs.getD i 0<(xs.length:Int))) && (List.range i).all fun j=>decide (xs.getD j 0≠xs.getD i 0)
theorem permB_iff (xs:List Int):permB xs=true ↔ PermP xs:=by
 unfold permB PermP
 simp only [Bool.and_eq_true,decide_eq_true_eq,List.all_eq_true,List.mem_range]
theorem permB_false {xs:List Int} (h:¬PermP xs):permB xs=false:=by
 cases hb:permB xs
 .rfl
 .exact (h ((permB_iff xs).1 hb)).elim
structure MetI (xs:List Int) (k:Nat) (n:Nat) (met:List Bool):Prop where
 l:met.length=n
 ok:∀i,i<k->(0<=xs.getD i 0/\xs.getD i 0<(xs.length:Int))/\∀j,j<i->xs.getD j 0≠xs.getD i 0
 m:∀c,c<n->(met.getD c false=true ↔ ∃i,i<k/\xs.getD i 0=(c:Int))
theorem metI0 (xs:List Int) (n:Nat):MetI xs 0 n (List.replicate n false):=by
 refine ⟨by simp,fun i hi=>by omega,fun c hc=>⟨fun h=>?_,fun ⟨i,hi,_⟩=>by omega⟩⟩
 rw [getD_get _ _ _ (by simpa using hc),List.getElem_replicate] at h
 cases h
theorem metI_step {xs:List Int} {k n c:Nat} {met:List Bool} (h:MetI xs k n met) (hc:xs.getD k 0=(c:Int)) (hcn:c<n) (hcl:c<xs.length) (h0:met.getD c false=false):MetI xs (k+1) n (met.set c true):=by
 refine ⟨by simp [h.l],fun i hi=>?_,fun d hd=>?_⟩
 .by_cases e:i=k
  .subst e
   refine ⟨by omega,fun j hj e2=>?_⟩
   have:=(h.m c hcn).2 ⟨j,hj,by omega⟩
   rw [h0] at this;cases this
  .exact h.ok i (by omega)
 .by_cases e:c=d
  .subst e
   rw [L_set_self _ _ _ _ (by rw [h.l];exact hd)]
   exact ⟨fun _=>⟨k,by omega,hc⟩,fun _=>rfl⟩
  .rw [L_set_ne _ _ _ _ _ e,h.m d hd]
   constructor
   .rintro ⟨i,hi,e2⟩;exact ⟨i,by omega,e2⟩
   .rintro ⟨i,hi,e2⟩
    refine ⟨i,?_,e2⟩
    by_cases e3:i=k
    .subst e3;omega
    .omega
theorem metI_dup {xs:List Int} {k n c:Nat} {met:List Bool} (h:MetI xs k n met) (hk:k<xs.length) (hc:xs.getD k 0=(c:Int)) (hcn:c<n) (h0:met.getD c false=true):¬PermP xs:=by
 intro hp
 obtain ⟨i,hi,e⟩:=(h.m c hcn).1 h0
 exact (hp.2 k hk).2 i hi (by omega)
def exL (xs h:List Int):List Int:=xs.map fun x=>h.getD x.toNat 0
theorem exL_len (xs h:List Int):(exL xs h).length=xs.length:=by simp [exL]
theorem exL_succ (xs h:List Int) (k:Nat) (hk:k<xs.length):exL (xs.take (k+1)) h=exL (xs.take k) h++[h.getD (xs.getD k 0).toNat 0]:=by
 rw [L_succ xs k 0 hk];simp only [exL,List.map_append,List.map_cons,List.map_nil]
def belowB (xs:List Int) (k:Int):Bool:=xs.all fun x=>decide (x<k)
theorem belowB_iff (xs:List Int) (k:Int):belowB xs k=true ↔ ∀i,i<xs.length->xs.getD i 0<k:=by
 unfold belowB
 rw [List.all_eq_true]
 constructor
 .intro h i hi
  have:=h xs[i] (List.getElem_mem hi)
  rw [getD_get _ _ _ hi];simpa using this
 .intro h x hx
  obtain ⟨i,hi,rfl⟩:=List.getElem_of_mem hx
  have:=h i hi
  rw [getD_get _ _ _ hi] at this;simpa using this
theorem belowB_false {xs:List Int} {k:Int} (i:Nat) (hi:i<xs.length) (h:¬xs.getD i 0<k):belowB xs k=false:=by
 cases hb:belowB xs k
 .rfl
 .exact (h ((belowB_iff xs k).1 hb i hi)).elim
theorem spec_PermOk (sh:Bool) (xs:List Int) (hl:xs.length<=1048576):AC Tryz.prog 204 [.d sh (.sl .int) xs] [] [.d true .bool (permB xs)] []:=by
 refine AC_of tauOk 35 0 [2] Tryz.func204 rfl (by kernel_rfl) rfl rfl rfl rfl rfl ?_
 refine ⟨[],false,_,_,spec_l01In _ _ _,nd0,rfl,rfl,trivial,fun h1=>?_,fun h1=>?_⟩
 .simp only [Bool.and_eq_true,decide_eq_true_eq] at h1
  refine ⟨xs.length,xs.length,rfl,rfl,Nat.le_refl _,by omega,?_⟩
  refine ⟨Nat × List Bool,fun i=>⟨[(0,.d sh (.sl .int) xs),(3,.ow 0),(13,.d sh (.sl .int) xs),(14,I xs.length),(15,I (i.1:Nat))],[.sl 4 .bool i.2]⟩,fun i=>i.1<=xs.length/\MetI xs i.1 xs.length i.2,fun i=>xs.length-i.1,(0,_),⟨Nat.zero_le _,metI0 xs xs.length⟩,
   ⟨⟨rfl,rfl⟩,⟨rfl,rfl,rfl,rfl,rfl,trivial⟩,rfl,trivial⟩,?_⟩
  rintro ⟨k,met⟩ ⟨hk,H⟩
  dsimp only at hk H
  have hml:=H.l
  refine ⟨fun h2=>?_,fun h2=>?_⟩
  .dsimp only at h2
   have hk2:k<xs.length:=by omega
   refine ⟨k,rfl,hk2,?_⟩
   refine ⟨(xs.length:Int)-1,w64_eq rfl (by omega) (by omega),?_⟩
   refine ⟨[],false,_,_,spec_l01In _ _ _,nd0,rfl,rfl,trivial,fun h3=>?_,fun h3=>?_⟩
   .simp only [Bool.and_eq_true,decide_eq_true_eq] at h3
    obtain ⟨c,hcc⟩:∃c:Nat,xs.getD k 0=c:=⟨(xs.getD k 0).toNat,by omega⟩
    refine ⟨c,hcc,by dsimp only;omega,fun h4=>?_,fun h4=>?_⟩
    .exact ⟨none,⟨retB (permB_false (metI_dup H hk2 hcc (by omega) h4)),trivial⟩,rfl,rfl⟩
    .refine ⟨c,hcc,by dsimp only;omega,?_⟩
     exact ⟨((k+1:Nat):Int),w64_eq (by dsimp only;omega) (by omega) (by omega),(k+1,_),⟨by dsimp only;omega,metI_step H hcc (by omega) (by omega) h4⟩,by dsimp only;omega,⟨rfl,rfl⟩,⟨rfl,rfl,rfl,rfl,rfl,trivial⟩,rfl,trivial⟩
   .simp only [Bool.and_eq_false_iff,decide_eq_false_iff_not] at h3
    refine ⟨none,⟨retB (permB_false fun h=>?_),trivial⟩,rfl,rfl⟩
    have:=(h.2 k hk2).1
    omega
  .dsimp only at h2
   exact ⟨none,⟨retB ((permB_iff xs).2 ⟨⟨by omega,by omega⟩,fun i hi=>H.ok i (by omega)⟩),trivial⟩,rfl,rfl⟩
 .simp only [Bool.and_eq_false_iff,decide_eq_false_iff_not] at h1
  exact ⟨none,⟨retB (permB_false fun h=>by have:=h.1;omega),trivial⟩,rfl,rfl⟩
theorem impl_PermOk (sh:Bool) (xs:List Int) (hl:xs.length<=1048576):AC Tryz.prog 134 [.d sh (.sl .int) xs] [] [.d true .bool (permB xs)] []:=by
 refine AC_of tauOk 37 0 [2] Tryz.func134 rfl (by kernel_rfl) rfl rfl rfl rfl rfl ?_
 refine ⟨fun h1=>?_,fun h1=>?_⟩
 .exact ⟨none,⟨retB (permB_false fun h=>by have:=h.1;omega),trivial⟩,rfl,rfl⟩
 refine ⟨fun h2=>?_,fun h2=>?_⟩
 .exact ⟨none,⟨retB (permB_false fun h=>by have:=h.1;omega),trivial⟩,rfl,rfl⟩
 refine ⟨by decide,by decide,rfl,rfl,rfl,rfl,?_⟩
 refine ⟨Nat × List Bool,fun i=>⟨[(0,.d sh (.sl .int) xs),(3,.ptr 0 0),(15,.d sh (.sl .int) xs),(16,I xs.length),(17,I (i.1:Nat))],[.sl 153 .bool i.2]⟩,fun i=>i.1<=xs.length/\MetI xs i.1 10 i.2,fun i=>xs.length-i.1,(0,_),⟨Nat.zero_le _,metI0 xs 10⟩,
  ⟨⟨rfl,rfl⟩,⟨rfl,rfl,rfl,rfl,rfl,trivial⟩,rfl,trivial⟩,?_⟩
 rintro ⟨k,met⟩ ⟨hk,H⟩
 dsimp only at hk H
 have hml:=H.l
 refine ⟨fun h3=>?_,fun h3=>?_⟩
 .dsimp only at h3
  have hk2:k<xs.length:=by omega
  refine ⟨k,rfl,hk2,fun h4=>?_,fun h4=>?_⟩
  .refine ⟨none,⟨retB (permB_false fun h=>?_),trivial⟩,rfl,rfl⟩
   have:=(h.2 k hk2).1
   omega
  refine ⟨fun h5=>?_,fun h5=>?_⟩
  .refine ⟨none,⟨retB (permB_false fun h=>?_),trivial⟩,rfl,rfl⟩
   have:=(h.2 k hk2).1
   omega
  obtain ⟨c,hcc⟩:∃c:Nat,xs.getD k 0=c:=⟨(xs.getD k 0).toNat,by omega⟩
  refine ⟨c,hcc,by omega,by dsimp only;omega,fun h6=>?_,fun h6=>?_⟩
  .exact ⟨none,⟨retB (permB_false (metI_dup H hk2 hcc (by omega) h6)),trivial⟩,rfl,rfl⟩
  .refine ⟨c,hcc,by omega,by dsimp only;omega,?_⟩
   exact ⟨((k+1:Nat):Int),w64_eq (by dsimp only;omega) (by omega) (by omega),(k+1,_),⟨by dsimp only;omega,metI_step H hcc (by omega) (by omega) h6⟩,by dsimp only;omega,⟨rfl,rfl⟩,⟨rfl,rfl,rfl,rfl,rfl,trivial⟩,rfl,trivial⟩
 .dsimp only at h3
  exact ⟨none,⟨retB ((permB_iff xs).2 ⟨⟨by omega,by omega⟩,fun i hi=>H.ok i (by omega)⟩),trivial⟩,rfl,rfl⟩
theorem spec_l07Below (sh:Bool) (xs:List Int) (z:Int) (hl:xs.length<=1048576):AC Tryz.prog 298 [.d sh (.sl .int) xs,I z] [] [.d true .bool (belowB xs z && colB xs && (decide (1<=z) && decide (z<=4)))] []:=by
 refine AC_of tauOk 23 0 [4] Tryz.func298 rfl (by kernel_rfl) rfl rfl rfl rfl rfl ?_
 refine ⟨Nat,fun k=>⟨[(0,.d sh (.sl .int) xs),(1,I z),(7,.d sh (.sl .int) xs),(8,I xs.length),(9,I (k:Nat))],[]⟩,fun k=>k<=xs.length/\∀j,j<k->xs.getD j 0<z,fun k=>xs.length-k,0,⟨by omega,fun j hj=>by omega⟩,
  ⟨⟨rfl,rfl⟩,⟨rfl,rfl,rfl,rfl,rfl,trivial⟩,trivial⟩,fun k ⟨hk,hy⟩=>?_⟩
 refine ⟨fun h1=>?_,fun h1=>?_⟩
 .refine ⟨k,rfl,by omega,fun h2=>?_,fun h2=>?_⟩
  .refine ⟨none,⟨retB (by rw [belowB_false k (by omega) (by omega)];rfl),trivial⟩,rfl,rfl⟩
  .refine ⟨_,w64_in _ (by omega) (by omega),k+1,⟨by omega,fun i hi=>?_⟩,by dsimp only;omega,⟨rfl,rfl⟩,⟨rfl,rfl,rfl,rfl,rfl,trivial⟩,trivial⟩
   by_cases e:i=k
   .subst e;omega
   .exact hy i (by omega)
 .have hb:belowB xs z=true:=(belowB_iff xs z).2 fun i hi=>hy i (by omega)
  refine ⟨[],false,_,_,spec_ColoringOk sh xs hl,nd0,rfl,rfl,trivial,fun h2=>?_,fun h2=>?_⟩
  .refine ⟨[],false,_,_,spec_l01In _ _ _,nd0,rfl,rfl,trivial,fun h3=>?_,fun h3=>?_⟩
   .exact ⟨none,⟨retB (by rw [hb,h2,h3];rfl),trivial⟩,rfl,rfl⟩
   .exact ⟨none,⟨retB (by rw [hb,h2,h3];rfl),trivial⟩,rfl,rfl⟩
  .exact ⟨none,⟨retB (by rw [hb,h2];rfl),trivial⟩,rfl,rfl⟩
theorem spec_l13Exchange (s1 s2:Bool) (xs h:List Int) (hl:xs.length<=1048576) (hx:∀i,i<xs.length->0<=xs.getD i 0/\xs.getD i 0<(h.length:Int)):
 AC Tryz.prog 338 [.d s1 (.sl .int) xs,.d s2 (.sl .int) h] [] [.ow 0] [.sl 3 .int (exL xs h)]:=by
 refine AC_of tauOk 24 0 [4] Tryz.func338 rfl (by kernel_rfl) rfl rfl rfl rfl rfl ?_
 refine ⟨rfl,by decide,true,?_⟩
 refine ⟨Nat,fun k=>⟨[(1,.d s2 (.sl .int) h),(5,.ow 0),(9,.d s1 (.sl .int) xs),(10,I xs.length),(11,I (k:Nat))],[.sl 3 .int (exL (xs.take k) h)]⟩,fun k=>k<=xs.length,fun k=>xs.length-k,0,Nat.zero_le _,
  ⟨⟨rfl,rfl⟩,⟨rfl,rfl,rfl,rfl,rfl,trivial⟩,rfl,trivial⟩,fun k hk=>?_⟩
 dsimp only at hk
 refine ⟨fun h2=>?_,fun h2=>?_⟩
 .have hk2:k<xs.length:=by omega
  have hb:=hx k hk2
  have hs:=exL_succ xs h k hk2
  have hle:(exL (xs.take k) h).length<=1048576:=by rw [exL_len];simp;omega
  refine ⟨k,rfl,by omega,?_⟩
  refine ⟨(xs.getD k 0).toNat,(Int.toNat_of_nonneg hb.1).symm,by omega,?_⟩
  refine ⟨rfl,by decide,false,?_⟩
  refine ⟨rfl,Nat.zero_le _,rfl,by simp at hle ⊢;omega,rfl,?_⟩
  exact ⟨((k+1:Nat):Int),w64_eq (by omega) (by omega) (by omega),k+1,by dsimp only;omega,by dsimp only;omega,⟨rfl,rfl⟩,⟨rfl,rfl,rfl,rfl,rfl,trivial⟩,rowE hs.symm,trivial⟩
 .obtain rfl:k=xs.length:=by omega
  exact ⟨some 0,⟨⟨rfl,rfl⟩,trivial⟩,⟨rfl,rowsE (by rw [List.take_length])⟩,rfl⟩
theorem spec_FormatInt_nat (n:Nat) (hn:n<=9223372036854775807):AC Tryz.prog 106 [I (n:Nat)] [] [.d true .str (fmtN n)] []:=by
 refine AC_of tauOk 44 0 [2] Tryz.func106 rfl (by kernel_rfl) rfl rfl rfl rfl rfl ?_
 refine ⟨fun h1=>by omega,fun h1=>?_⟩
 refine ⟨Nat × List UInt8,fun i=>⟨[(0,I (i.1:Nat)),(3,.d true .str i.2)],[]⟩,fun i=>i.1<=n/\fmtN i.1++i.2=fmtN n,fun i=>i.1,(n,[]),⟨Nat.le_refl _,List.append_nil _⟩,
  ⟨⟨rfl,rfl⟩,⟨rfl,rfl,trivial⟩,trivial⟩,?_⟩
 rintro ⟨m,s⟩ ⟨hm,hs⟩
 dsimp only at hm hs
 have hl:=fmtN_len64 n (by omega)
 have hl1:s.length<=19:=by rw [<-hs,List.length_append] at hl;omega
 refine ⟨fun h2=>?_,fun h2=>?_⟩
 .dsimp only at h2
  have e:=fmtN_ge m (by omega)
  refine ⟨by decide,((m % 10:Nat):Int),Int.ofNat_tmod m 10,?_⟩
  refine ⟨((48+m % 10:Nat):Int),w64_eq (by omega) (by omega) (by omega),?_⟩
  refine ⟨((48+m % 10:Nat):Int),u8w _ (by omega) (by omega),?_⟩
  refine ⟨rfl,by decide,false,?_⟩
  have hs2:(strOf [((48+m % 10:Nat):Int)]).length+s.length<=4611686018427387904:=by rw [strOf_dg];simp;omega
  refine ⟨hs2,?_⟩
  refine ⟨by decide,((m / 10:Nat):Int),w64_eq (Int.ofNat_tdiv m 10) (by omega) (by omega),?_⟩
  exact ⟨(m / 10,_),⟨by dsimp only;omega,by dsimp only;rw [strOf_dg,<-hs,e,List.append_assoc]⟩,by dsimp only;omega,⟨rfl,rfl⟩,⟨rfl,rfl,trivial⟩,trivial⟩
 .dsimp only at h2
  refine ⟨((48+m:Nat):Int),w64_eq (by dsimp only;omega) (by omega) (by omega),?_⟩
  refine ⟨((48+m:Nat):Int),u8w _ (by omega) (by omega),?_⟩
  refine ⟨rfl,by decide,false,?_⟩
  have hs2:(strOf [((48+m:Nat):Int)]).length+s.length<=4611686018427387904:=by rw [strOf_dg];simp;omega
  refine ⟨hs2,?_⟩
  exact ⟨none,⟨retS (by rw [strOf_dg,<-hs,fmtN_lt m (by omega)]),trivial⟩,rfl,rfl⟩
theorem impl_FormatInt_nat:∀(b n:Nat),n<b->n<=9223372036854775807->AC Tryz.prog 9 [I (n:Nat)] [] [.d true .str (fmtN n)] []
 |b+1,n,hb,hn=>by
  refine AC_of tauOk 36 0 [2] Tryz.func9 rfl (by kernel_rfl) rfl rfl rfl rfl rfl ?_
  refine ⟨fun h1=>?_,fun h1=>by omega⟩
  refine ⟨fun h2=>?_,fun h2=>?_⟩
  .refine ⟨((48+n:Nat):Int),w64_eq (by omega) (by omega) (by omega),?_⟩
   refine ⟨((48+n:Nat):Int),i32w _ (by omega) (by omega),?_⟩
   refine ⟨_,enc_dg n (by omega),?_⟩
   exact ⟨none,⟨retS (by rw [fmtN_lt n (by omega)]),trivial⟩,rfl,rfl⟩
  refine ⟨fun h3=>by omega,fun h3=>?_⟩
  have hl:=fmtN_len64 n (by omega)
  have e:=fmtN_ge n (by omega)
  refine ⟨by decide,((n / 10:Nat):Int),w64_eq (Int.ofNat_tdiv n 10) (by omega) (by omega),?_⟩
  refine ⟨[],false,_,_,impl_FormatInt_nat b (n / 10) (by omega) (by omega),nd0,rfl,rfl,trivial,?_⟩
  refine ⟨by decide,((n % 10:Nat):Int),Int.ofNat_tmod n 10,?_⟩
  refine ⟨[],false,_,_,impl_FormatInt_nat b (n % 10) (by omega) (by omega),nd0,rfl,rfl,trivial,?_⟩
  have e2:fmtN (n / 10)++fmtN (n % 10)=fmtN n:=by rw [e,fmtN_lt (n % 10) (by omega)]
  refine ⟨by rw [<-List.length_append,e2];omega,?_⟩
  exact ⟨none,⟨retS e2.symm,trivial⟩,rfl,rfl⟩
theorem spec_FormatWord (sh:Bool) (xs:List Int) (hl:xs.length<=1048576):AC Tryz.prog 210 [.d sh (.sl .int) xs] [] [.d true .str (formatW xs)] []:=by
 refine AC_of tauOk 21 0 [2] Tryz.func210 rfl (by kernel_rfl) rfl rfl rfl rfl rfl ?_
 refine ⟨[],false,_,_,spec_ColoringOk sh xs hl,nd0,rfl,rfl,trivial,fun h1=>?_,fun h1=>?_⟩
 .have hc:=(colB_iff xs).1 h1
  refine ⟨Nat,fun k=>⟨[(3,.d true .str (wordS (xs.take k))),(9,.d sh (.sl .int) xs),(10,I xs.length),(11,I (k:Nat))],[]⟩,fun k=>k<=xs.length,fun k=>xs.length-k,0,Nat.zero_le _,
   ⟨⟨rfl,rfl⟩,⟨rfl,rfl,rfl,rfl,trivial⟩,trivial⟩,fun k hk=>?_⟩
  refine ⟨fun h2=>?_,fun h2=>?_⟩
  .have hk2:k<xs.length:=by omega
   have hx:=hc.1 k hk2
   obtain ⟨c,hcc⟩:∃c:Nat,xs.getD k 0=c:=⟨(xs.getD k 0).toNat,by omega⟩
   have hs:=wordS_succ xs k hk2
   have hle:(wordS (xs.take k)).length<=1048576:=by simp [wordS];omega
   refine ⟨k,rfl,by omega,?_⟩
   rw [hcc,Int.toNat_natCast] at hs
   have hF:AC Tryz.prog 106 [I (xs.getD k 0)] [] [.d true .str (fmtN c)] []:=by rw [hcc];exact spec_FormatInt_nat c (by omega)
   refine ⟨[],false,_,_,hF,nd0,rfl,rfl,trivial,?_⟩
   have hf:=fmtN_lt c (by omega)
   refine ⟨by rw [hf];simp;omega,?_⟩
   exact ⟨((k+1:Nat):Int),w64_eq (by omega) (by omega) (by omega),k+1,by dsimp only;omega,by dsimp only;omega,⟨rfl,rfl⟩,⟨retS (by rw [hf,hs]),rfl,rfl,rfl,trivial⟩,trivial⟩
  .obtain rfl:k=xs.length:=by omega
   exact ⟨none,⟨retS (by rw [formatW,if_pos h1,List.take_length]),trivial⟩,rfl,rfl⟩
 .exact ⟨none,⟨retS (by rw [formatW,if_neg (by rw [h1];decide)]),trivial⟩,rfl,rfl⟩
theorem spec_ParseWord_loop (s:List UInt8) (hl:s.length<=1048576) (r:List AV) (rr:List Row)
 (hno:colB (psL s)=false->r=[.nil,.d true .bool false]/\rr=[]) (hyes:colB (psL s)=true->r=[.ow 0,.d true .bool true]/\rr=[.sl 3 .int (psL s)]):
 AC Tryz.prog 109 [.d true .str s] [] r rr:=by
 refine AC_of tauOk 31 0 [2,3] Tryz.func109 rfl (by kernel_rfl) rfl rfl rfl rfl rfl ?_
 refine ⟨rfl,by decide,true,?_⟩
 refine ⟨Nat,fun k=>⟨[(0,.d true .str s),(4,.ow 0),(5,I (k:Nat))],[.sl 3 .int (psL (s.take k))]⟩,fun k=>k<=s.length,fun k=>s.length-k,0,Nat.zero_le _,
  ⟨⟨rfl,rfl⟩,⟨rfl,rfl,rfl,trivial⟩,rfl,trivial⟩,fun k hk=>?_⟩
 dsimp only at hk
 refine ⟨fun h2=>?_,fun h2=>?_⟩
 .have hk2:k<s.length:=by omega
  have hs:=psL_succ s k hk2
  have hb:=(s.getD k 0).toNat_lt
  have hle:(psL (s.take k)).length<=1048576:=by rw [psL_len];simp;omega
  refine ⟨k,rfl,by omega,?_⟩
  refine ⟨(((s.getD k 0).toNat:Nat):Int),w64_eq rfl (by omega) (by omega),?_⟩
  refine ⟨(((s.getD k 0).toNat:Nat):Int)-48,w64_eq rfl (by omega) (by omega),?_⟩
  refine ⟨rfl,by decide,false,?_⟩
  refine ⟨rfl,Nat.zero_le _,rfl,by simp at hle ⊢;omega,rfl,?_⟩
  exact ⟨((k+1:Nat):Int),w64_eq (by omega) (by omega) (by omega),k+1,by dsimp only;omega,by dsimp only;omega,⟨rfl,rfl⟩,⟨rfl,rfl,rfl,trivial⟩,rowE hs.symm,trivial⟩
 .obtain rfl:k=s.length:=by omega
  rw [List.take_length]
  refine ⟨[],false,_,_,spec_ColoringOk false (psL s) (by rw [psL_len];exact hl),nd0,rfl,rfl,trivial,fun h3=>?_,fun h3=>?_⟩
  .obtain ⟨rfl,rfl⟩:=hyes h3
   have hw:=wordS_psL s ((colB_iff _).1 h3)
   refine ⟨[],false,_,_,spec_FormatWord false (psL s) (by rw [psL_len];exact hl),nd0,rfl,rfl,trivial,?_⟩
   refine ⟨fun h4=>?_,fun h4=>?_⟩
   .exact (h4 (by rw [formatW,if_pos h3,hw])).elim
   .exact ⟨some 0,⟨⟨rfl,rfl⟩,rfl,trivial⟩,⟨rfl,rfl⟩,rfl⟩
  .obtain ⟨rfl,rfl⟩:=hno h3
   exact ⟨none,⟨rfl,rfl,trivial⟩,rfl,rfl⟩
theorem spec_ParseWord (s:List UInt8) (hl:s.length<=1048576) (hc:colB (psL s)=true):AC Tryz.prog 109 [.d true .str s] [] [.ow 0,.d true .bool true] [.sl 3 .int (psL s)]:=
 spec_ParseWord_loop s hl _ _ (fun h=>by rw [hc] at h;cases h) (fun _=>⟨rfl,rfl⟩)
theorem spec_ParseWord_no (s:List UInt8) (hl:s.length<=1048576) (hc:colB (psL s)=false):AC Tryz.prog 109 [.d true .str s] [] [.nil,.d true .bool false] []:=
 spec_ParseWord_loop s hl _ _ (fun _=>⟨rfl,rfl⟩) (fun h=>by rw [hc] at h;cases h)
theorem impl_ParseWord_loop (s:List UInt8) (hl:s.length<=1048576) (r:List AV) (rr:List Row)
 (hno:colB (psL s)=false->r=[.nil,.d true .bool false]/\rr=[]) (hyes:colB (psL s)=true->r=[.ow 0,.d true .bool true]/\rr=[.sl 3 .int (psL s)]):
 AC Tryz.prog 73 [.d true .str s] [] r rr:=by
 refine AC_of tauOk 28 0 [2,3] Tryz.func73 rfl (by kernel_rfl) rfl rfl rfl rfl rfl ?_
 refine ⟨fun h1=>?_,fun h1=>?_⟩
 .obtain ⟨rfl,rfl⟩:=hno (colB_false fun h=>by have:=h.2;rw [psL_len] at this;omega)
  exact ⟨none,⟨rfl,rfl,trivial⟩,rfl,rfl⟩
 refine ⟨rfl,by decide,true,?_⟩
 refine ⟨Nat,fun k=>⟨[(0,.d true .str s),(4,.ow 0),(10,.d true .str s),(11,I s.length),(12,I (k:Nat))],[.sl 3 .int (psL (s.take k))]⟩,fun k=>k<=s.length,fun k=>s.length-k,0,Nat.zero_le _,
  ⟨⟨rfl,rfl⟩,⟨rfl,rfl,rfl,rfl,rfl,trivial⟩,rfl,trivial⟩,fun k hk=>?_⟩
 dsimp only at hk
 refine ⟨fun h2=>?_,fun h2=>?_⟩
 .have hk2:k<s.length:=by omega
  have hs:=psL_succ s k hk2
  have hb:=(s.getD k 0).toNat_lt
  have hle:(psL (s.take k)).length<=1048576:=by rw [psL_len];simp;omega
  refine ⟨k,rfl,by omega,?_⟩
  refine ⟨(((s.getD k 0).toNat:Nat):Int),w64_eq rfl (by omega) (by omega),?_⟩
  refine ⟨(((s.getD k 0).toNat:Nat):Int)-48,w64_eq rfl (by omega) (by omega),?_⟩
  refine ⟨rfl,by decide,false,?_⟩
  refine ⟨rfl,Nat.zero_le _,rfl,by simp at hle ⊢;omega,rfl,?_⟩
  exact ⟨((k+1:Nat):Int),w64_eq (by omega) (by omega) (by omega),k+1,by dsimp only;omega,by dsimp only;omega,⟨rfl,rfl⟩,⟨rfl,rfl,rfl,rfl,rfl,trivial⟩,rowE hs.symm,trivial⟩
 .obtain rfl:k=s.length:=by omega
  dsimp only;rw [List.take_length]
  refine ⟨[],false,_,_,impl_ColoringOk false (psL s) (by rw [psL_len];exact hl),nd0,rfl,rfl,trivial,fun h3=>?_,fun h3=>?_⟩
  .obtain ⟨rfl,rfl⟩:=hyes h3
   exact ⟨some 0,⟨⟨rfl,rfl⟩,rfl,trivial⟩,⟨rfl,rfl⟩,rfl⟩
  .obtain ⟨rfl,rfl⟩:=hno h3
   exact ⟨none,⟨rfl,rfl,trivial⟩,rfl,rfl⟩
theorem impl_ParseWord (s:List UInt8) (hl:s.length<=1048576) (hc:colB (psL s)=true):AC Tryz.prog 73 [.d true .str s] [] [.ow 0,.d true .bool true] [.sl 3 .int (psL s)]:=
 impl_ParseWord_loop s hl _ _ (fun h=>by rw [hc] at h;cases h) (fun _=>⟨rfl,rfl⟩)
theorem impl_ParseWord_no (s:List UInt8) (hl:s.length<=1048576) (hc:colB (psL s)=false):AC Tryz.prog 73 [.d true .str s] [] [.nil,.d true .bool false] []:=
 impl_ParseWord_loop s hl _ _ (fun _=>⟨rfl,rfl⟩) (fun h=>by rw [hc] at h;cases h)
def jn (xs:List (List UInt8)) (sep:List UInt8):Nat->List UInt8
 |0=>[]
 |1=>xs.getD 0 []
 |k+2=>jn xs sep (k+1)++sep++xs.getD (k+1) []
theorem jn_s (xs:List (List UInt8)) (sep:List UInt8) (k:Nat) (h:0<k):jn xs sep (k+1)=jn xs sep k++sep++xs.getD k []:=by
 obtain ⟨m,rfl⟩:∃m,k=m+1:=⟨k-1,by omega⟩
 rfl
theorem jn_mono (xs:List (List UInt8)) (sep:List UInt8) (k:Nat):(jn xs sep k).length<=(jn xs sep (k+1)).length:=by
 cases k with
 |zero=>simp [jn]
 |succ k=>rw [jn_s xs sep (k+1) (by omega)];simp only [List.length_append];omega
theorem jn_le (xs:List (List UInt8)) (sep:List UInt8) (k:Nat):∀n,k<=n->(jn xs sep k).length<=(jn xs sep n).length
 |0,h=>by
  obtain rfl:k=0:=by omega
  exact Nat.le_refl _
 |n+1,h=>by
  by_cases e:k=n+1
  .subst e;exact Nat.le_refl _
  .exact Nat.le_trans (jn_le xs sep k n (by omega)) (jn_mono xs sep n)
theorem jn_tail (x:List UInt8) (r:List (List UInt8)) (sep:List UInt8):∀k,k<=r.length->jn (x::r) sep (k+1)=x++Lib.joinTail sep (r.take k)
 |0,_=>by simp [jn,Lib.joinTail]
 |k+1,h=>by
  have e:=jn_tail x r sep k (by omega)
  have hk:r[k]? =some r[k]:=List.getElem?_eq_getElem (by omega)
  rw [jn_s _ _ _ (by omega),e,Lib.joinTail_take_succ sep r k _ hk]
  simp [List.getD,hk,List.append_assoc]
theorem jn_join (xs:List (List UInt8)) (sep:List UInt8):jn xs sep xs.length=Lib.join xs sep:=by
 cases xs with
 |nil=>rfl
 |cons x r=>rw [List.length_cons,jn_tail x r sep r.length (Nat.le_refl _),List.take_length,Lib.join_cons]
theorem jn_len (xs:List (List UInt8)) (sep:List UInt8) (m:Nat) (h:∀i,i<xs.length->(xs.getD i []).length<=m):∀k,k<=xs.length->(jn xs sep k).length<=k*(sep.length+m)
 |0,_=>by simp [jn]
 |k+1,hk=>by
  have e:=jn_len xs sep m h k (by omega)
  have hx:=h k (by omega)
  rw [Nat.succ_mul]
  by_cases h0:0<k
  .rw [jn_s _ _ _ h0];simp only [List.length_append];omega
  .obtain rfl:k=0:=by omega
   simp only [jn];omega
theorem map_ba:∀xs:List (List UInt8),(xs.map (fun l=>(⟨l.toArray⟩:ByteArray))).map (·.data.toList)=xs
 |[]=>rfl
 |x::r=>by rw [List.map_cons,List.map_cons,map_ba r]
end Go.Proofs.YtacjiemkbhhhoaaGreatDoor
namespace Go.Proofs
open Go.Shelf
def Tryz.lays156_ren:Go.Shelf.Ren:=⟨fun|156=>35|165=>93|166=>94|169=>95|240=>192|241=>193|276=>282|277=>283|n=>n,fun|31=>27|9=>9|3=>3|4=>4|0=>0|20=>20|72=>97|76=>101|70=>95|37=>22|75=>100|127=>147|164=>173|5=>5|80=>103|n=>n,fun|n=>n⟩
theorem Tryz.lays156:Go.Proofs.Lays.n156 Tryz.prog Tryz.lays156_ren:={
 mixed:=by kernel_rfl
 f156:=Tryz.func35.trans (congrArg some (by kernel_rfl))
 f165:=Tryz.func93.trans (congrArg some (by kernel_rfl))
 f166:=Tryz.func94.trans (congrArg some (by kernel_rfl))
 f169:=Tryz.func95.trans (congrArg some (by kernel_rfl))
 f240:=Tryz.func192.trans (congrArg some (by kernel_rfl))
 f241:=Tryz.func193.trans (congrArg some (by kernel_rfl))
 f276:=Tryz.func282.trans (congrArg some (by kernel_rfl))
 f277:=Tryz.func283.trans (congrArg some (by kernel_rfl))
 t0:=Tryz.underlying0
 a0:=Tryz.isAgg0
 z0:=Tryz.sizeOf0
 v0:=Tryz.zeroValue0
 t3:=Tryz.underlying3
 a3:=Tryz.isAgg3
 z3:=Tryz.sizeOf3
 v3:=Tryz.zeroValue3
 t4:=Tryz.underlying4
 a4:=Tryz.isAgg4
 z4:=Tryz.sizeOf4
 v4:=Tryz.zeroValue4
 t9:=Tryz.underlying9
 a9:=Tryz.isAgg9
 z9:=Tryz.sizeOf9
 v9:=Tryz.zeroValue9
 t20:=Tryz.underlying20
 a20:=Tryz.isAgg20
 z20:=Tryz.sizeOf20
 v20:=Tryz.zeroValue20
 t31:=Tryz.underlying27
 a31:=Tryz.isAgg27
 z31:=Tryz.sizeOf27
 v31:=Tryz.zeroValue27
 t37:=Tryz.underlying22
 a37:=Tryz.isAgg22
 z37:=Tryz.sizeOf22
 v37:=Tryz.zeroValue22
 t70:=Tryz.underlying95
 a70:=Tryz.isAgg95
 z70:=Tryz.sizeOf95
 v70:=Tryz.zeroValue95
 t72:=Tryz.underlying97
 a72:=Tryz.isAgg97
 z72:=Tryz.sizeOf97
 v72:=Tryz.zeroValue97
 t75:=Tryz.underlying100
 a75:=Tryz.isAgg100
 z75:=Tryz.sizeOf100
 v75:=Tryz.zeroValue100
 t76:=Tryz.underlying101
 a76:=Tryz.isAgg101
 z76:=Tryz.sizeOf101
 v76:=Tryz.zeroValue101
 t127:=Tryz.underlying147
 a127:=Tryz.isAgg147
 z127:=Tryz.sizeOf147
 v127:=Tryz.zeroValue147
 t164:=Tryz.underlying173
 a164:=Tryz.isAgg173
 z164:=Tryz.sizeOf173
 v164:=Tryz.zeroValue173}
theorem Tryz.Builder_Extra_156:Builder.Extra Tryz.prog Tryz.lays156_ren:={
 sizeBuilder:=by kernel_rfl
 liesBuilder:=by kernel_rfl
 t5:=Tryz.underlying5
 a5:=Tryz.isAgg5
 z5:=Tryz.sizeOf5
 v5:=Tryz.zeroValue5
 infoByte:=by kernel_rfl
 cellsByte:=by kernel_rfl
 sizeByte:=by kernel_rfl
 neB5:=by decide}
open Go.RowKit in
theorem Tryz.strings_Join_none (a:Option Addr) (c:Nat) (sep:ByteArray) (w:World):
 Calls Tryz.prog 35 #[.slice a 0 c,.string sep] w fun e w'=>e=.returned (.string ⟨#[]⟩)/\w'=w:=Any.strings_Join_none Tryz.lays156 Tryz.Builder_Extra_156 a c sep w
open Go.RowKit in
theorem Tryz.strings_Join (bk o c:Nat) (xs:List ByteArray) (sep:ByteArray) (w:World) (hcells:∀(j:Nat) x,xs[j]? =some x->w.cell? ⟨bk,o+j,none⟩=some (.string x)) (hbk:bk<w.heap.size) (hN:xs.length<=140737488355328) (hcap:xs.length<=c) (hlen:(Lib.join (xs.map (·.data.toList)) sep.data.toList).length<=140737488355328):
 Calls Tryz.prog 35 #[.slice (some ⟨bk,o,none⟩) xs.length c,.string sep] w fun e w'=>e=.returned (.string ⟨(Lib.join (xs.map (·.data.toList)) sep.data.toList).toArray⟩)/\Below w.heap.size w w':=Any.strings_Join Tryz.lays156 Tryz.Builder_Extra_156 bk o c xs sep w hcells hbk hN hcap hlen
def Tryz.lays137_ren:Go.Shelf.Ren:=⟨fun|137=>51|217=>133|266=>240|n=>n,fun|9=>9|5=>5|3=>3|n=>n,fun|n=>n⟩
theorem Tryz.lays137:Go.Proofs.Lays.n137 Tryz.prog Tryz.lays137_ren:={
 mixed:=by kernel_rfl
 f137:=Tryz.func51.trans (congrArg some (by kernel_rfl))
 f217:=Tryz.func133.trans (congrArg some (by kernel_rfl))
 f266:=Tryz.func240.trans (congrArg some (by kernel_rfl))
 t3:=Tryz.underlying3
 a3:=Tryz.isAgg3
 z3:=Tryz.sizeOf3
 v3:=Tryz.zeroValue3
 t5:=Tryz.underlying5
 a5:=Tryz.isAgg5
 z5:=Tryz.sizeOf5
 v5:=Tryz.zeroValue5
 t9:=Tryz.underlying9
 a9:=Tryz.isAgg9
 z9:=Tryz.sizeOf9
 v9:=Tryz.zeroValue9}
open Go.RowKit in
theorem Tryz.strings_IndexByte (s:ByteArray) (c:Int) (w:World):
 Calls Tryz.prog 51 #[.string s,.int .u8 c] w fun e w'=>e=.returned (.int .i64 (Lib.indexByte s.data.toList c.toNat.toUInt8))/\w'=w:=Any.strings_IndexByte Tryz.lays137 s c w
def Tryz.lays215_ren:Go.Shelf.Ren:=⟨fun|215=>315|n=>n,fun|3=>3|4=>4|n=>n,fun|n=>n⟩
def Tryz.lays122_ren:Go.Shelf.Ren:=⟨fun|122=>244|215=>315|n=>n,fun|3=>3|4=>4|n=>n,fun|n=>n⟩
theorem Tryz.lays122:Go.Proofs.Lays.n122 Tryz.prog Tryz.lays122_ren:={
 mixed:=by kernel_rfl
 f122:=Tryz.func244.trans (congrArg some (by kernel_rfl))
 f215:=Tryz.func315.trans (congrArg some (by kernel_rfl))
 t3:=Tryz.underlying3
 a3:=Tryz.isAgg3
 z3:=Tryz.sizeOf3
 v3:=Tryz.zeroValue3
 t4:=Tryz.underlying4
 a4:=Tryz.isAgg4
 z4:=Tryz.sizeOf4
 v4:=Tryz.zeroValue4}
open Go.RowKit in
theorem Tryz.cmp_Compare_int (x y:Int) (w:World):
 Calls Tryz.prog 244 #[.int .i64 x,.int .i64 y] w fun e w'=>e=.returned (.int .i64 (Lib.compareInt x y))/\w'=w:=Any.cmp_Compare_int Tryz.lays122 x y w
def Tryz.lays219_ren:Go.Shelf.Ren:=⟨fun|219=>248|217=>133|225=>317|224=>318|267=>319|266=>240|314=>344|n=>n,fun|9=>9|3=>3|4=>4|5=>5|46=>71|146=>197|51=>188|n=>n,fun|1=>0|n=>n⟩
def Tryz.lays143_ren:Go.Shelf.Ren:=⟨fun|143=>144|219=>248|217=>133|225=>317|224=>318|267=>319|266=>240|314=>344|n=>n,fun|9=>9|3=>3|4=>4|5=>5|46=>71|146=>197|51=>188|n=>n,fun|1=>0|n=>n⟩
theorem Tryz.lays143:Go.Proofs.Lays.n143 Tryz.prog Tryz.lays143_ren:={
 mixed:=by kernel_rfl
 f143:=Tryz.func144.trans (congrArg some (by kernel_rfl))
 f217:=Tryz.func133.trans (congrArg some (by kernel_rfl))
 f219:=Tryz.func248.trans (congrArg some (by kernel_rfl))
 f224:=Tryz.func318.trans (congrArg some (by kernel_rfl))
 f225:=Tryz.func317.trans (congrArg some (by kernel_rfl))
 f266:=Tryz.func240.trans (congrArg some (by kernel_rfl))
 f267:=Tryz.func319.trans (congrArg some (by kernel_rfl))
 f314:=Tryz.func344.trans (congrArg some (by kernel_rfl))
 t3:=Tryz.underlying3
 a3:=Tryz.isAgg3
 z3:=Tryz.sizeOf3
 v3:=Tryz.zeroValue3
 t4:=Tryz.underlying4
 a4:=Tryz.isAgg4
 z4:=Tryz.sizeOf4
 v4:=Tryz.zeroValue4
 t5:=Tryz.underlying5
 a5:=Tryz.isAgg5
 z5:=Tryz.sizeOf5
 v5:=Tryz.zeroValue5
 t9:=Tryz.underlying9
 a9:=Tryz.isAgg9
 z9:=Tryz.sizeOf9
 v9:=Tryz.zeroValue9
 t46:=Tryz.underlying71
 a46:=Tryz.isAgg71
 z46:=Tryz.sizeOf71
 v46:=Tryz.zeroValue71
 t51:=Tryz.underlying188
 a51:=Tryz.isAgg188
 z51:=Tryz.sizeOf188
 v51:=Tryz.zeroValue188
 t146:=Tryz.underlying197
 a146:=Tryz.isAgg197
 z146:=Tryz.sizeOf197
 v146:=Tryz.zeroValue197
 g1:=by kernel_rfl}
open Go.RowKit Go.Lib in
theorem Tryz.strings_Index_one (s:ByteArray) (c:UInt8) (w:World):
 Calls Tryz.prog 144 #[.string s,.string ⟨#[c]⟩] w fun e w'=>e=.returned (.int .i64 (Lib.indexByte s.data.toList c))/\w'=w:=Any.strings_Index_one Tryz.lays143 s c w
def Tryz.lays138_ren:Go.Shelf.Ren:=⟨fun|138=>143|195=>245|218=>247|143=>144|219=>248|217=>133|225=>317|224=>318|267=>319|266=>240|314=>344|n=>n,fun|9=>9|3=>3|4=>4|5=>5|0=>0|46=>71|146=>197|51=>188|n=>n,fun|1=>0|n=>n⟩
theorem Tryz.lays138:Go.Proofs.Lays.n138 Tryz.prog Tryz.lays138_ren:={
 mixed:=by kernel_rfl
 f138:=Tryz.func143.trans (congrArg some (by kernel_rfl))
 f143:=Tryz.func144.trans (congrArg some (by kernel_rfl))
 f195:=Tryz.func245.trans (congrArg some (by kernel_rfl))
 f217:=Tryz.func133.trans (congrArg some (by kernel_rfl))
 f218:=Tryz.func247.trans (congrArg some (by kernel_rfl))
 f219:=Tryz.func248.trans (congrArg some (by kernel_rfl))
 f224:=Tryz.func318.trans (congrArg some (by kernel_rfl))
 f225:=Tryz.func317.trans (congrArg some (by kernel_rfl))
 f266:=Tryz.func240.trans (congrArg some (by kernel_rfl))
 f267:=Tryz.func319.trans (congrArg some (by kernel_rfl))
 f314:=Tryz.func344.trans (congrArg some (by kernel_rfl))
 t0:=Tryz.underlying0
 a0:=Tryz.isAgg0
 z0:=Tryz.sizeOf0
 v0:=Tryz.zeroValue0
 t3:=Tryz.underlying3
 a3:=Tryz.isAgg3
 z3:=Tryz.sizeOf3
 v3:=Tryz.zeroValue3
 t4:=Tryz.underlying4
 a4:=Tryz.isAgg4
 z4:=Tryz.sizeOf4
 v4:=Tryz.zeroValue4
 t5:=Tryz.underlying5
 a5:=Tryz.isAgg5
 z5:=Tryz.sizeOf5
 v5:=Tryz.zeroValue5
 t9:=Tryz.underlying9
 a9:=Tryz.isAgg9
 z9:=Tryz.sizeOf9
 v9:=Tryz.zeroValue9
 t46:=Tryz.underlying71
 a46:=Tryz.isAgg71
 z46:=Tryz.sizeOf71
 v46:=Tryz.zeroValue71
 t51:=Tryz.underlying188
 a51:=Tryz.isAgg188
 z51:=Tryz.sizeOf188
 v51:=Tryz.zeroValue188
 t146:=Tryz.underlying197
 a146:=Tryz.isAgg197
 z146:=Tryz.sizeOf197
 v146:=Tryz.zeroValue197
 g1:=by kernel_rfl}
open Go.RowKit Go.Lib in
theorem Tryz.strings_Count_one (s:ByteArray) (c:UInt8) (w:World):
 Calls Tryz.prog 143 #[.string s,.string ⟨#[c]⟩] w fun e w'=>e=.returned (.int .i64 (Lib.countByte s.data.toList c))/\w'=w:=Any.strings_Count_one Tryz.lays138 s c w
def Tryz.lays189_ren:Go.Shelf.Ren:=⟨fun|189=>156|125=>243|257=>259|128=>313|129=>314|294=>322|295=>323|296=>324|297=>325|298=>326|299=>327|216=>328|300=>329|301=>330|328=>353|329=>340|330=>341|331=>354|332=>355|215=>315|343=>371|n=>n,fun|28=>29|3=>3|46=>71|0=>0|51=>188|53=>190|4=>4|183=>182|182=>181|131=>62|5=>5|9=>9|218=>205|222=>209|228=>229|229=>230|n=>n,fun|n=>n⟩
theorem Tryz.lays189:Go.Proofs.Lays.n189 Tryz.prog Tryz.lays189_ren:={
 mixed:=by kernel_rfl
 f125:=Tryz.func243.trans (congrArg some (by kernel_rfl))
 f128:=Tryz.func313.trans (congrArg some (by kernel_rfl))
 f129:=Tryz.func314.trans (congrArg some (by kernel_rfl))
 f189:=Tryz.func156.trans (congrArg some (by kernel_rfl))
 f215:=Tryz.func315.trans (congrArg some (by kernel_rfl))
 f216:=Tryz.func328.trans (congrArg some (by kernel_rfl))
 f257:=Tryz.func259.trans (congrArg some (by kernel_rfl))
 f294:=Tryz.func322.trans (congrArg some (by kernel_rfl))
 f295:=Tryz.func323.trans (congrArg some (by kernel_rfl))
 f296:=Tryz.func324.trans (congrArg some (by kernel_rfl))
 f297:=Tryz.func325.trans (congrArg some (by kernel_rfl))
 f298:=Tryz.func326.trans (congrArg some (by kernel_rfl))
 f299:=Tryz.func327.trans (congrArg some (by kernel_rfl))
 f300:=Tryz.func329.trans (congrArg some (by kernel_rfl))
 f301:=Tryz.func330.trans (congrArg some (by kernel_rfl))
 f328:=Tryz.func353.trans (congrArg some (by kernel_rfl))
 f329:=Tryz.func340.trans (congrArg some (by kernel_rfl))
 f330:=Tryz.func341.trans (congrArg some (by kernel_rfl))
 f331:=Tryz.func354.trans (congrArg some (by kernel_rfl))
 f332:=Tryz.func355.trans (congrArg some (by kernel_rfl))
 f343:=Tryz.func371.trans (congrArg some (by kernel_rfl))
 t0:=Tryz.underlying0
 a0:=Tryz.isAgg0
 z0:=Tryz.sizeOf0
 v0:=Tryz.zeroValue0
 t3:=Tryz.underlying3
 a3:=Tryz.isAgg3
 z3:=Tryz.sizeOf3
 v3:=Tryz.zeroValue3
 t4:=Tryz.underlying4
 a4:=Tryz.isAgg4
 z4:=Tryz.sizeOf4
 v4:=Tryz.zeroValue4
 t5:=Tryz.underlying5
 a5:=Tryz.isAgg5
 z5:=Tryz.sizeOf5
 v5:=Tryz.zeroValue5
 t9:=Tryz.underlying9
 a9:=Tryz.isAgg9
 z9:=Tryz.sizeOf9
 v9:=Tryz.zeroValue9
 t28:=Tryz.underlying29
 a28:=Tryz.isAgg29
 z28:=Tryz.sizeOf29
 v28:=Tryz.zeroValue29
 t46:=Tryz.underlying71
 a46:=Tryz.isAgg71
 z46:=Tryz.sizeOf71
 v46:=Tryz.zeroValue71
 t51:=Tryz.underlying188
 a51:=Tryz.isAgg188
 z51:=Tryz.sizeOf188
 v51:=Tryz.zeroValue188
 t53:=Tryz.underlying190
 a53:=Tryz.isAgg190
 z53:=Tryz.sizeOf190
 v53:=Tryz.zeroValue190
 t131:=Tryz.underlying62
 a131:=Tryz.isAgg62
 z131:=Tryz.sizeOf62
 v131:=Tryz.zeroValue62
 t182:=Tryz.underlying181
 a182:=Tryz.isAgg181
 z182:=Tryz.sizeOf181
 v182:=Tryz.zeroValue181
 t183:=Tryz.underlying182
 a183:=Tryz.isAgg182
 z183:=Tryz.sizeOf182
 v183:=Tryz.zeroValue182
 t218:=Tryz.underlying205
 a218:=Tryz.isAgg205
 z218:=Tryz.sizeOf205
 v218:=Tryz.zeroValue205
 t222:=Tryz.underlying209
 a222:=Tryz.isAgg209
 z222:=Tryz.sizeOf209
 v222:=Tryz.zeroValue209
 t228:=Tryz.underlying229
 a228:=Tryz.isAgg229
 z228:=Tryz.sizeOf229
 v228:=Tryz.zeroValue229
 t229:=Tryz.underlying230
 a229:=Tryz.isAgg230
 z229:=Tryz.sizeOf230
 v229:=Tryz.zeroValue230}
open Go.Sort Go.RowKit in
theorem Tryz.slices_Sort_int (blk off cap:Nat) (zs:List Int) (w:World) (hH:Holds (Value.int .i64) w blk off zs.toArray) (hblk:blk<w.heap.size) (hsz:zs.length<4611686018427387904):
 Calls Tryz.prog 156 #[.slice (some ⟨blk,off,none⟩) zs.length cap] w fun e w'=>
  e=.returned (.tuple #[])/\∃n os,w'=grow (putRow (Value.int .i64) (Sort.ahead w n) blk off (zs.mergeSort fun x y=>decide (x<=y)).toArray) os:=Any.slices_Sort_int Tryz.lays189 blk off cap zs w hH hblk hsz
def Tryz.lays190_ren:Go.Shelf.Ren:=⟨fun|190=>263|125=>243|258=>333|128=>313|129=>314|302=>356|303=>357|304=>358|305=>359|306=>360|307=>361|308=>362|309=>363|310=>364|333=>372|329=>340|330=>341|334=>373|335=>374|336=>375|344=>377|n=>n,fun|31=>27|9=>9|3=>3|46=>71|0=>0|51=>188|53=>190|4=>4|183=>182|182=>181|131=>62|5=>5|218=>205|222=>209|228=>229|229=>230|n=>n,fun|n=>n⟩
theorem Tryz.lays190:Go.Proofs.Lays.n190 Tryz.prog Tryz.lays190_ren:={
 mixed:=by kernel_rfl
 f125:=Tryz.func243.trans (congrArg some (by kernel_rfl))
 f128:=Tryz.func313.trans (congrArg some (by kernel_rfl))
 f129:=Tryz.func314.trans (congrArg some (by kernel_rfl))
 f190:=Tryz.func263.trans (congrArg some (by kernel_rfl))
 f258:=Tryz.func333.trans (congrArg some (by kernel_rfl))
 f302:=Tryz.func356.trans (congrArg some (by kernel_rfl))
 f303:=Tryz.func357.trans (congrArg some (by kernel_rfl))
 f304:=Tryz.func358.trans (congrArg some (by kernel_rfl))
 f305:=Tryz.func359.trans (congrArg some (by kernel_rfl))
 f306:=Tryz.func360.trans (congrArg some (by kernel_rfl))
 f307:=Tryz.func361.trans (congrArg some (by kernel_rfl))
 f308:=Tryz.func362.trans (congrArg some (by kernel_rfl))
 f309:=Tryz.func363.trans (congrArg some (by kernel_rfl))
 f310:=Tryz.func364.trans (congrArg some (by kernel_rfl))
 f329:=Tryz.func340.trans (congrArg some (by kernel_rfl))
 f330:=Tryz.func341.trans (congrArg some (by kernel_rfl))
 f333:=Tryz.func372.trans (congrArg some (by kernel_rfl))
 f334:=Tryz.func373.trans (congrArg some (by kernel_rfl))
 f335:=Tryz.func374.trans (congrArg some (by kernel_rfl))
 f336:=Tryz.func375.trans (congrArg some (by kernel_rfl))
 f344:=Tryz.func377.trans (congrArg some (by kernel_rfl))
 t0:=Tryz.underlying0
 a0:=Tryz.isAgg0
 z0:=Tryz.sizeOf0
 v0:=Tryz.zeroValue0
 t3:=Tryz.underlying3
 a3:=Tryz.isAgg3
 z3:=Tryz.sizeOf3
 v3:=Tryz.zeroValue3
 t4:=Tryz.underlying4
 a4:=Tryz.isAgg4
 z4:=Tryz.sizeOf4
 v4:=Tryz.zeroValue4
 t5:=Tryz.underlying5
 a5:=Tryz.isAgg5
 z5:=Tryz.sizeOf5
 v5:=Tryz.zeroValue5
 t9:=Tryz.underlying9
 a9:=Tryz.isAgg9
 z9:=Tryz.sizeOf9
 v9:=Tryz.zeroValue9
 t31:=Tryz.underlying27
 a31:=Tryz.isAgg27
 z31:=Tryz.sizeOf27
 v31:=Tryz.zeroValue27
 t46:=Tryz.underlying71
 a46:=Tryz.isAgg71
 z46:=Tryz.sizeOf71
 v46:=Tryz.zeroValue71
 t51:=Tryz.underlying188
 a51:=Tryz.isAgg188
 z51:=Tryz.sizeOf188
 v51:=Tryz.zeroValue188
 t53:=Tryz.underlying190
 a53:=Tryz.isAgg190
 z53:=Tryz.sizeOf190
 v53:=Tryz.zeroValue190
 t131:=Tryz.underlying62
 a131:=Tryz.isAgg62
 z131:=Tryz.sizeOf62
 v131:=Tryz.zeroValue62
 t182:=Tryz.underlying181
 a182:=Tryz.isAgg181
 z182:=Tryz.sizeOf181
 v182:=Tryz.zeroValue181
 t183:=Tryz.underlying182
 a183:=Tryz.isAgg182
 z183:=Tryz.sizeOf182
 v183:=Tryz.zeroValue182
 t218:=Tryz.underlying205
 a218:=Tryz.isAgg205
 z218:=Tryz.sizeOf205
 v218:=Tryz.zeroValue205
 t222:=Tryz.underlying209
 a222:=Tryz.isAgg209
 z222:=Tryz.sizeOf209
 v222:=Tryz.zeroValue209
 t228:=Tryz.underlying229
 a228:=Tryz.isAgg229
 z228:=Tryz.sizeOf229
 v228:=Tryz.zeroValue229
 t229:=Tryz.underlying230
 a229:=Tryz.isAgg230
 z229:=Tryz.sizeOf230
 v229:=Tryz.zeroValue230}
open Go.Sort Go.RowKit in
theorem Tryz.slices_Sort_string (blk off cap:Nat) (ss:List (List UInt8)) (w:World) (hH:Holds encStr w blk off ss.toArray) (hblk:blk<w.heap.size) (hsz:ss.length<4611686018427387904):
 Calls Tryz.prog 263 #[.slice (some ⟨blk,off,none⟩) ss.length cap] w fun e w'=>
  e=.returned (.tuple #[])/\∃n os,w'=grow (putRow encStr (Sort.ahead w n) blk off (ss.mergeSort fun x y=>decide (x<=y)).toArray) os:=Any.slices_Sort_string Tryz.lays190 blk off cap ss w hH hblk hsz
def Tryz.lays206_ren:Go.Shelf.Ren:=⟨fun|206=>334|n=>n,fun|9=>9|4=>4|3=>3|n=>n,fun|n=>n⟩
def Tryz.lays101_ren:Go.Shelf.Ren:=⟨fun|101=>171|208=>268|206=>334|n=>n,fun|9=>9|4=>4|3=>3|n=>n,fun|n=>n⟩
theorem Tryz.lays101:Go.Proofs.Lays.n101 Tryz.prog Tryz.lays101_ren:={
 mixed:=by kernel_rfl
 f101:=Tryz.func171.trans (congrArg some (by kernel_rfl))
 f206:=Tryz.func334.trans (congrArg some (by kernel_rfl))
 f208:=Tryz.func268.trans (congrArg some (by kernel_rfl))
 t3:=Tryz.underlying3
 a3:=Tryz.isAgg3
 z3:=Tryz.sizeOf3
 v3:=Tryz.zeroValue3
 t4:=Tryz.underlying4
 a4:=Tryz.isAgg4
 z4:=Tryz.sizeOf4
 v4:=Tryz.zeroValue4
 t9:=Tryz.underlying9
 a9:=Tryz.isAgg9
 z9:=Tryz.sizeOf9
 v9:=Tryz.zeroValue9}
open Go.RowKit Go.Lib in
theorem Tryz.strings_TrimPrefix (s p:ByteArray) (w:World):
 Calls Tryz.prog 171 #[.string s,.string p] w fun e w'=>e=.returned (.string ⟨(Lib.trimPrefix s.data.toList p.data.toList).toArray⟩)/\w'=w:=Any.strings_TrimPrefix Tryz.lays101 s p w
def Tryz.lays212_ren:Go.Shelf.Ren:=⟨fun|212=>260|263=>331|264=>332|n=>n,fun|46=>71|51=>188|146=>197|53=>190|148=>199|n=>n,fun|n=>n⟩
theorem Tryz.lays212:Go.Proofs.Lays.n212 Tryz.prog Tryz.lays212_ren:={
 mixed:=by kernel_rfl
 f212:=Tryz.func260.trans (congrArg some (by kernel_rfl))
 f263:=Tryz.func331.trans (congrArg some (by kernel_rfl))
 f264:=Tryz.func332.trans (congrArg some (by kernel_rfl))
 t46:=Tryz.underlying71
 a46:=Tryz.isAgg71
 z46:=Tryz.sizeOf71
 v46:=Tryz.zeroValue71
 t51:=Tryz.underlying188
 a51:=Tryz.isAgg188
 z51:=Tryz.sizeOf188
 v51:=Tryz.zeroValue188
 t53:=Tryz.underlying190
 a53:=Tryz.isAgg190
 z53:=Tryz.sizeOf190
 v53:=Tryz.zeroValue190
 t146:=Tryz.underlying197
 a146:=Tryz.isAgg197
 z146:=Tryz.sizeOf197
 v146:=Tryz.zeroValue197
 t148:=Tryz.underlying199
 a148:=Tryz.isAgg199
 z148:=Tryz.sizeOf199
 v148:=Tryz.zeroValue199}
open Go.RowKit Go.Lib in
theorem Tryz.bits_Mul (x y:Nat) (hx:x<18446744073709551616) (hy:y<18446744073709551616) (w:World):
 Calls Tryz.prog 260 #[.int .u64 x,.int .u64 y] w fun e w'=>e=.returned (.tuple #[.int .u64 ((x*y / 18446744073709551616:Nat):Int),.int .u64 ((x*y % 18446744073709551616:Nat):Int)])/\w'=w:=Any.bits_Mul Tryz.lays212 x y hx hy w
def Tryz.lays112_ren:Go.Shelf.Ren:=⟨fun|112=>145|n=>n,fun|28=>29|3=>3|4=>4|0=>0|n=>n,fun|n=>n⟩
theorem Tryz.lays112:Go.Proofs.Lays.n112 Tryz.prog Tryz.lays112_ren:={
 mixed:=by kernel_rfl
 f112:=Tryz.func145.trans (congrArg some (by kernel_rfl))
 t0:=Tryz.underlying0
 a0:=Tryz.isAgg0
 z0:=Tryz.sizeOf0
 v0:=Tryz.zeroValue0
 t3:=Tryz.underlying3
 a3:=Tryz.isAgg3
 z3:=Tryz.sizeOf3
 v3:=Tryz.zeroValue3
 t4:=Tryz.underlying4
 a4:=Tryz.isAgg4
 z4:=Tryz.sizeOf4
 v4:=Tryz.zeroValue4
 t28:=Tryz.underlying29
 a28:=Tryz.isAgg29
 z28:=Tryz.sizeOf29
 v28:=Tryz.zeroValue29}
open Go.RowKit Go.Lib Go.Sort in
theorem Tryz.slices_Reverse_int (blk off cap:Nat) (zs:List Int) (w:World) (hH:Holds (Value.int .i64) w blk off zs.toArray) (hsz:zs.length<=9223372036854775807):
 Calls Tryz.prog 145 #[.slice (some ⟨blk,off,none⟩) zs.length cap] w fun e w'=>e=.returned (.tuple #[])/\∃n,w'=putRow (Value.int .i64) (Sort.ahead w n) blk off zs.reverse.toArray:=Any.slices_Reverse_int Tryz.lays112 blk off cap zs w hH hsz
def Tryz.laysNm217_ren:Go.Shelf.Ren:=⟨fun|17=>155|n=>n,fun|24=>27|9=>9|3=>3|4=>4|0=>0|n=>n,fun|n=>n⟩
theorem Tryz.laysNm217:Go.Proofs.Lays2.n17 Tryz.prog Tryz.laysNm217_ren:={
 mixed:=by kernel_rfl
 f17:=Tryz.func155.trans (congrArg some (by kernel_rfl))
 t0:=Tryz.underlying0
 a0:=Tryz.isAgg0
 z0:=Tryz.sizeOf0
 v0:=Tryz.zeroValue0
 t3:=Tryz.underlying3
 a3:=Tryz.isAgg3
 z3:=Tryz.sizeOf3
 v3:=Tryz.zeroValue3
 t4:=Tryz.underlying4
 a4:=Tryz.isAgg4
 z4:=Tryz.sizeOf4
 v4:=Tryz.zeroValue4
 t9:=Tryz.underlying9
 a9:=Tryz.isAgg9
 z9:=Tryz.sizeOf9
 v9:=Tryz.zeroValue9
 t24:=Tryz.underlying27
 a24:=Tryz.isAgg27
 z24:=Tryz.sizeOf27
 v24:=Tryz.zeroValue27}
open Go.RowKit Go.Lib Go.Sort in
theorem Tryz.slices_Reverse_string (blk off cap:Nat) (zs:List (List UInt8)) (w:World) (hH:Holds encStr w blk off zs.toArray) (hsz:zs.length<=9223372036854775807):
 Calls Tryz.prog 155 #[.slice (some ⟨blk,off,none⟩) zs.length cap] w fun e w'=>e=.returned (.tuple #[])/\∃n,w'=putRow encStr (Sort.ahead w n) blk off zs.reverse.toArray:=Any.slices_Reverse_string Tryz.laysNm217 blk off cap zs w hH hsz
def Tryz.laysSlF6_f140_ren:Go.Shelf.Ren:=⟨fun|6=>140|15=>243|14=>242|28=>313|29=>314|20=>305|21=>306|22=>307|23=>308|24=>309|25=>310|26=>311|27=>312|46=>339|47=>340|48=>341|49=>342|50=>343|57=>367|n=>n,fun|22=>32|24=>29|25=>112|3=>3|39=>71|0=>0|53=>188|55=>190|4=>4|46=>182|45=>181|50=>62|5=>5|9=>9|66=>205|70=>209|76=>229|77=>230|n=>n,fun|n=>n⟩
theorem Tryz.laysSlF6_f140:Go.Proofs.SlLaysF.n6 Tryz.prog Tryz.laysSlF6_f140_ren:={
 mixed:=by kernel_rfl
 f6:=⟨Tryz.f140.name,by decide,Tryz.func140.trans (congrArg some (by kernel_rfl))⟩
 f14:=⟨Tryz.f242.name,by decide,Tryz.func242.trans (congrArg some (by kernel_rfl))⟩
 f15:=Tryz.func243.trans (congrArg some (by kernel_rfl))
 f20:=⟨Tryz.f305.name,by decide,Tryz.func305.trans (congrArg some (by kernel_rfl))⟩
 f21:=⟨Tryz.f306.name,by decide,Tryz.func306.trans (congrArg some (by kernel_rfl))⟩
 f22:=⟨Tryz.f307.name,by decide,Tryz.func307.trans (congrArg some (by kernel_rfl))⟩
 f23:=⟨Tryz.f308.name,by decide,Tryz.func308.trans (congrArg some (by kernel_rfl))⟩
 f24:=⟨Tryz.f309.name,by decide,Tryz.func309.trans (congrArg some (by kernel_rfl))⟩
 f25:=⟨Tryz.f310.name,by decide,Tryz.func310.trans (congrArg some (by kernel_rfl))⟩
 f26:=⟨Tryz.f311.name,by decide,Tryz.func311.trans (congrArg some (by kernel_rfl))⟩
 f27:=⟨Tryz.f312.name,by decide,Tryz.func312.trans (congrArg some (by kernel_rfl))⟩
 f28:=Tryz.func313.trans (congrArg some (by kernel_rfl))
 f29:=Tryz.func314.trans (congrArg some (by kernel_rfl))
 f46:=⟨Tryz.f339.name,by decide,Tryz.func339.trans (congrArg some (by kernel_rfl))⟩
 f47:=Tryz.func340.trans (congrArg some (by kernel_rfl))
 f48:=Tryz.func341.trans (congrArg some (by kernel_rfl))
 f49:=⟨Tryz.f342.name,by decide,Tryz.func342.trans (congrArg some (by kernel_rfl))⟩
 f50:=⟨Tryz.f343.name,by decide,Tryz.func343.trans (congrArg some (by kernel_rfl))⟩
 f57:=⟨Tryz.f367.name,by decide,Tryz.func367.trans (congrArg some (by kernel_rfl))⟩
 t0:=Tryz.underlying0
 a0:=Tryz.isAgg0
 z0:=Tryz.sizeOf0
 v0:=Tryz.zeroValue0
 t3:=Tryz.underlying3
 a3:=Tryz.isAgg3
 z3:=Tryz.sizeOf3
 v3:=Tryz.zeroValue3
 t4:=Tryz.underlying4
 a4:=Tryz.isAgg4
 z4:=Tryz.sizeOf4
 v4:=Tryz.zeroValue4
 t5:=Tryz.underlying5
 a5:=Tryz.isAgg5
 z5:=Tryz.sizeOf5
 v5:=Tryz.zeroValue5
 t9:=Tryz.underlying9
 a9:=Tryz.isAgg9
 z9:=Tryz.sizeOf9
 v9:=Tryz.zeroValue9
 t22:=Tryz.underlying32
 a22:=Tryz.isAgg32
 z22:=Tryz.sizeOf32
 v22:=Tryz.zeroValue32
 a24:=Tryz.isAgg29
 z24:=Tryz.sizeOf29
 t25:=Tryz.underlying112
 a25:=Tryz.isAgg112
 z25:=Tryz.sizeOf112
 v25:=Tryz.zeroValue112
 t39:=Tryz.underlying71
 a39:=Tryz.isAgg71
 z39:=Tryz.sizeOf71
 v39:=Tryz.zeroValue71
 t45:=Tryz.underlying181
 a45:=Tryz.isAgg181
 z45:=Tryz.sizeOf181
 v45:=Tryz.zeroValue181
 t46:=Tryz.underlying182
 a46:=Tryz.isAgg182
 z46:=Tryz.sizeOf182
 v46:=Tryz.zeroValue182
 t50:=Tryz.underlying62
 a50:=Tryz.isAgg62
 z50:=Tryz.sizeOf62
 v50:=Tryz.zeroValue62
 t53:=Tryz.underlying188
 a53:=Tryz.isAgg188
 z53:=Tryz.sizeOf188
 v53:=Tryz.zeroValue188
 t55:=Tryz.underlying190
 a55:=Tryz.isAgg190
 z55:=Tryz.sizeOf190
 v55:=Tryz.zeroValue190
 t66:=Tryz.underlying205
 a66:=Tryz.isAgg205
 z66:=Tryz.sizeOf205
 v66:=Tryz.zeroValue205
 t70:=Tryz.underlying209
 a70:=Tryz.isAgg209
 z70:=Tryz.sizeOf209
 v70:=Tryz.zeroValue209
 t76:=Tryz.underlying229
 a76:=Tryz.isAgg229
 z76:=Tryz.sizeOf229
 v76:=Tryz.zeroValue229
 t77:=Tryz.underlying230
 a77:=Tryz.isAgg230
 z77:=Tryz.sizeOf230
 v77:=Tryz.zeroValue230}
open Go.RowKit Go.Lib Go.Sort in
theorem Tryz.slices_SortFunc {α:Type} [Inhabited α] (enc:α->Value) (h1:OneCell enc) (cf:α->α->Int) (hO:SWO (ltOf cf)) (g:Nat) (cb:Array Value) (blk off cap:Nat) (d:Array α) (w:World) (eg:∀args w,(callFunc g args).run Tryz.prog w=.ok (.enter g args) w) (hcmp:CmpLays1 Tryz.prog g cb enc cf blk off d.size w) (hH:Holds enc w blk off d) (hblk:blk<w.heap.size) (hsz:d.size<4611686018427387904):
 Calls Tryz.prog 140 #[.slice (some ⟨blk,off,none⟩) d.size cap,.func (.func g) #[] cb] w fun e w'=>
  e=.returned (.tuple #[])/\∃d' n os,PermIn 0 d.size d d'/\SortedIn (ltOf cf) 0 d.size d'/\w'=sortWorld enc w blk off n d' os:=Any.slices_SortFunc Tryz.laysSlF6_f140 enc h1 cf hO g cb blk off cap d w eg hcmp hH hblk hsz
end Go.Proofs
namespace Go.Proofs.YtacjiemkbhhhoaaGreatDoor
open Go Go.Proofs.YtacjiemkbhhhoaaGreatDoor.Ow
theorem strings_Join (sh:Bool) (xs:List (List UInt8)) (sep:List UInt8) (hN:xs.length<=140737488355328) (hlen:(Lib.join xs sep).length<=140737488355328):
 AC Tryz.prog 35 [.d sh (.sl .str) xs,.d true .str sep] [] [.d true .str (Lib.join xs sep)] []:=by
 refine AC.flat (v:=.string ⟨(Lib.join xs sep).toArray⟩) (fun w A=>rfl) ⟨_,_,Tryz.func35,rfl,by kernel_rfl⟩ fun w A vs hold hvs=>?_
 obtain ⟨v,r,rfl,⟨a,cap,rfl,hcap,hnil,hc⟩,v2,r2,rfl,h2,h3⟩:=hvs
 cases h2
 cases h3
 have e1:=map_ba xs
 rcases hc with rfl|⟨b,o,rfl,hS,hc⟩
 .exact (Tryz.strings_Join_none a cap ⟨sep.toArray⟩ w).mono fun e w' ⟨he,hw⟩=>⟨he,hw ▸ RowKit.Below.refl _ _⟩
 .by_cases h0:xs=[]
  .subst h0
   exact (Tryz.strings_Join_none _ cap ⟨sep.toArray⟩ w).mono fun e w' ⟨he,hw⟩=>⟨he,hw ▸ RowKit.Below.refl _ _⟩
  .have hp:0<xs.length:=List.length_pos_iff.2 h0
   obtain ⟨cv,hcv,_⟩:=hc 0 hp
   have hbk:=cell_lt hcv
   have key:=Tryz.strings_Join b o cap (xs.map (fun l=>(⟨l.toArray⟩:ByteArray))) ⟨sep.toArray⟩ w (fun j x hj=>by
    rw [List.getElem?_map] at hj
    cases hx:xs[j]? with
    |none=>rw [hx] at hj;cases hj
    |some l=>
     rw [hx] at hj;cases hj
     obtain ⟨hjl,rfl⟩:=List.getElem?_eq_some_iff.1 hx
     obtain ⟨cv,h1,h2⟩:=hc j hjl
     rw [h1];cases h2;rfl) hbk (by simpa using hN) (by simpa using hcap) (by rw [e1];exact hlen)
   rw [e1,List.length_map] at key
   exact key
theorem impl_Join (sh:Bool) (xs:List (List UInt8)) (sep:List UInt8) (hN:xs.length<=140737488355328) (hlen:(Lib.join xs sep).length<=140737488355328):
 AC Tryz.prog 14 [.d sh (.sl .str) xs,.d true .str sep] [] [.d true .str (Lib.join xs sep)] []:=by
 refine AC_of tauOk 8 0 [4] Tryz.func14 rfl (by kernel_rfl) rfl rfl rfl rfl rfl ?_
 refine ⟨[],false,_,_,strings_Join sh xs sep hN hlen,nd0,rfl,rfl,trivial,?_⟩
 exact ⟨none,⟨rfl,trivial⟩,rfl,rfl⟩
theorem spec_Join (sh:Bool) (xs:List (List UInt8)) (sep:List UInt8) (hN:xs.length<=140737488355328) (hlen:(Lib.join xs sep).length<=140737488355328):
 AC Tryz.prog 104 [.d sh (.sl .str) xs,.d true .str sep] [] [.d true .str (Lib.join xs sep)] []:=by
 rw [<-jn_join] at hlen ⊢
 refine AC_of tauOk 25 0 [4] Tryz.func104 rfl (by kernel_rfl) rfl rfl rfl rfl rfl ?_
 refine ⟨Nat,fun k=>⟨[(1,.d true .str sep),(5,.d true .str (jn xs sep k)),(8,.d sh (.sl .str) xs),(9,I xs.length),(10,I (k:Nat))],[]⟩,fun k=>k<=xs.length,fun k=>xs.length-k,0,Nat.zero_le _,
  ⟨⟨rfl,rfl⟩,⟨rfl,rfl,rfl,rfl,rfl,trivial⟩,trivial⟩,fun k hk=>?_⟩
 dsimp only at hk
 refine ⟨fun h1=>?_,fun h1=>?_⟩
 .have hk2:k<xs.length:=by omega
  have hle:=jn_le xs sep (k+1) xs.length hk2
  refine ⟨k,rfl,hk2,fun h2=>?_,fun h2=>?_⟩
  .have e:=jn_s xs sep k (by omega)
   have e2:=congrArg List.length e
   simp only [List.length_append] at e2
   refine ⟨by omega,by rw [List.length_append];omega,?_⟩
   exact ⟨((k+1:Nat):Int),w64_eq (by omega) (by omega) (by omega),k+1,by dsimp only;omega,by dsimp only;omega,⟨rfl,rfl⟩,⟨rfl,retS e.symm,rfl,rfl,rfl,trivial⟩,trivial⟩
  .obtain rfl:k=0:=by omega
   have e:jn xs sep (0+1)=xs.getD 0 []:=rfl
   refine ⟨by rw [e] at hle;simp only [jn,List.length_nil];omega,?_⟩
   exact ⟨((0+1:Nat):Int),w64_eq (by omega) (by omega) (by omega),0+1,by dsimp only;omega,by dsimp only;omega,⟨rfl,rfl⟩,⟨rfl,rfl,rfl,rfl,rfl,trivial⟩,trivial⟩
 .obtain rfl:k=xs.length:=by omega
  exact ⟨none,⟨rfl,trivial⟩,rfl,rfl⟩
end Go.Proofs.YtacjiemkbhhhoaaGreatDoor
namespace Go.Proofs.YtacjiemkbhhhoaaGreatDoor
open Go Go.RowKit Go.Proofs.YtacjiemkbhhhoaaGreatDoor.Ow
theorem calls_str {P:Program} {f:FuncId} {x:Int} {s:List UInt8} (h:AC P f [I x] [] [.d true .str s] []) (w:World):Calls P f #[.int .i64 x] w fun e w'=>e=.returned (.string ⟨s.toArray⟩)/\Below w.heap.size w w':=by
 refine (h.2 w [] (fun _=>False) [.int .i64 x] ⟨rfl,nd0,fun b hb=>by simp at hb,fun b hb=>hb.elim,fun i b r hb=>by simp at hb⟩ ⟨_,_,rfl,rfl,rfl⟩).mono ?_
 rintro e w' ⟨rv,bs',A',rfl,_,hres,hstep,_,_,_⟩
 have hr:rv=.string ⟨s.toArray⟩:=hres
 subst hr
 exact ⟨rfl,hstep.os,hstep.tape,hstep.output,hstep.size,fun k hk=>hstep.block k hk (by simp)⟩
set_option maxRecDepth 100000 in
theorem fi_neg (n:Nat) (s:List UInt8) (hsl:s.length<=40) (hn1:10<=n) (hn:n<=9223372036854775808)
 (IH:∀w,Calls Tryz.prog 106 #[.int .i64 (-((n:Int) / 10))] w fun e w'=>e=.returned (.string ⟨s.toArray⟩)/\Below w.heap.size w w') (w:World):
 Calls Tryz.prog 106 #[.int .i64 (-(n:Int))] w fun e w'=>e=.returned (.string ⟨(s++[dg (n % 10)]).toArray⟩)/\Below w.heap.size w w':=by
 have h1:(-(n:Int)).tdiv 10= -((n:Int) / 10):=by rw [Int.neg_tdiv];rfl
 have h2:(-(n:Int)).tmod 10= -((n:Int) % 10):=by rw [Int.neg_tmod];rfl
 have hw1:IntKind.i64.wrap (-((n:Int) / 10))= -((n:Int) / 10):=IntWalk.i64_in _ ⟨by omega,by omega⟩
 have hw2:IntKind.i64.wrap (48+(n:Int) % 10)=48+(n:Int) % 10:=IntWalk.i64_in _ ⟨by omega,by omega⟩
 have hw3:IntKind.u8.wrap (48+(n:Int) % 10)=48+(n:Int) % 10:=IntWalk.u8_in _ ⟨by omega,by omega⟩
 have h3: -(n:Int)<0:=by omega
 have h4:¬(-((n:Int) / 10)=0):=by omega
 have hcv:∀(w':World) (b:Nat),w'.cell? ⟨b,0,none⟩=some (.int .u8 (48+(n:Int) % 10))->(convert 22 9 (.slice (some ⟨b,0,none⟩) 1 1)).run Tryz.prog w'=.ok (.string ⟨#[dg (n % 10)]⟩) w':=by
  intro w' b hc
  have hcell:∀i,i<1->w'.cell? ⟨b,0+i,none⟩=some (.int .u8 ([48+(n:Int) % 10].getD i 0)):=by
   intro i hi
   cases i with
   |zero=>exact hc
   |succ i=>exact absurd hi (by simp)
  have h:=run_convert_bytes_arg (P:=Tryz.prog) w' 22 5 Tryz.underlying22 Tryz.underlying5 b 0 1 1 [48+(n:Int) % 10] rfl hcell 9 Tryz.underlying9
  rw [h]
  have:strOfNums [48+(n:Int) % 10]=⟨#[dg (n % 10)]⟩:=by
   rw [show 48+(n:Int) % 10=((48+n % 10:Nat):Int) by omega];rfl
  rw [this]
 have hcv1:∀(w':World),(convert 22 9 (.slice (some ⟨w'.heap.size,0,none⟩) 1 1)).run Tryz.prog (w'.alloc (.cells #[.int .u8 (48+(n:Int) % 10)] 5))=.ok (.string ⟨#[dg (n % 10)]⟩) (w'.alloc (.cells #[.int .u8 (48+(n:Int) % 10)] 5)):=by
  intro w'
  exact hcv _ _ (by rw [World.cell?_alloc_at (hn:=by simp)];rfl)
 have hcv2:∀(w1 w':World),Below (w1.alloc (.cells #[.int .u8 (48+(n:Int) % 10)] 5)).drew.heap.size (w1.alloc (.cells #[.int .u8 (48+(n:Int) % 10)] 5)).drew w'->
  (convert 22 9 (.slice (some ⟨w1.heap.size,0,none⟩) 1 1)).run Tryz.prog w'=.ok (.string ⟨#[dg (n % 10)]⟩) w':=by
  intro w1 w' hb
  refine hcv _ _ ?_
  rw [hb.cell (p:=⟨w1.heap.size,0,none⟩) (by simp),World.cell?_drew,World.cell?_alloc_at (hn:=by simp)]
  rfl
 have hadd:(⟨s.toArray⟩:ByteArray)++(⟨#[dg (n % 10)]⟩:ByteArray)=⟨(s++[dg (n % 10)]).toArray⟩:=by
  apply ByteArray.ext;simp
 have hsz:(⟨s.toArray⟩:ByteArray).size+(⟨#[dg (n % 10)]⟩:ByteArray).size<=4611686018427387904:=by
  show s.toArray.size+1<=_
  simp;omega
 go_enter Tryz.func106,Tryz.ntmps106
 go_wp2_with (go_at_call 106;fail)
 go_region_with (go_at_call 106;refine (IH _).mono ?_;rintro e w' ⟨rfl,hb⟩;try (have hcx:=hcv2 _ _ hb))
 all_goals go_wp2
 all_goals go_ret
 all_goals refine ⟨rfl,?_⟩
 all_goals first
  |exact ((Below.refl _ w).drew.trans hb).alloc hb.size _
  |exact ((Below.refl _ w).alloc (Nat.le_refl _) _).drew.trans (hb.mono (by simp))
theorem spec_FormatInt_neg:∀(b n:Nat),n<b->1<=n->n<=9223372036854775808->AC Tryz.prog 106 [I (-(n:Int))] [] [.d true .str (45::fmtN n)] []
 |b+1,n,hb,h1,hn=>by
  by_cases h10:10<=n
  .have IH:=spec_FormatInt_neg b (n / 10) (by omega) (by omega) (by omega)
   have hl:=fmtN_len64 (n / 10) (by omega)
   have e:45::fmtN n=(45::fmtN (n / 10))++[dg (n % 10)]:=by rw [fmtN_ge n (by omega)];rfl
   rw [e]
   refine AC.flat (v:=.string ⟨((45::fmtN (n / 10))++[dg (n % 10)]).toArray⟩) (fun w A=>rfl) ⟨_,_,Tryz.func106,rfl,by kernel_rfl⟩ fun w A vs _ hvs=>?_
   obtain ⟨v,r,rfl,h2,h3⟩:=hvs
   cases h2
   cases h3
   exact fi_neg n (45::fmtN (n / 10)) (by simp;omega) h10 hn (fun w=>calls_str IH w) w
  .refine AC_of tauOk 44 0 [2] Tryz.func106 rfl (by kernel_rfl) rfl rfl rfl rfl rfl ?_
   refine ⟨fun h2=>?_,fun h2=>by omega⟩
   refine ⟨by decide,0,w64_eq (by rw [Int.neg_tdiv];show 0= -((n / 10:Nat):Int);omega) (by omega) (by omega),fun h3=>?_,fun h3=>(h3 rfl).elim⟩
   refine ⟨((48+n:Nat):Int),w64_eq (by omega) (by omega) (by omega),?_⟩
   refine ⟨((48+n:Nat):Int),u8w _ (by omega) (by omega),?_⟩
   refine ⟨rfl,by decide,false,?_⟩
   refine ⟨by rw [strOf_dg];exact (by decide:1+1<=4611686018427387904),?_⟩
   exact ⟨none,⟨retS (by rw [strOf_dg,fmtN_lt n (by omega)];rfl),trivial⟩,rfl,rfl⟩
theorem spec_FormatInt (n:Int) (h1: -9223372036854775808<=n) (h2:n<=9223372036854775807):AC Tryz.prog 106 [I n] [] [.d true .str (fmtI n)] []:=by
 by_cases h:n<0
 .have:=spec_FormatInt_neg (n.natAbs+1) n.natAbs (by omega) (by omega) (by omega)
  rw [show-((n.natAbs:Nat):Int)=n by omega] at this
  rw [fmtI,if_pos h];exact this
 .have:=spec_FormatInt_nat n.natAbs (by omega)
  rw [show ((n.natAbs:Nat):Int)=n by omega] at this
  rw [fmtI,if_neg h];exact this
theorem impl_FormatInt_neg:∀(b n:Nat),n<b->1<=n->n<=9223372036854775808->AC Tryz.prog 9 [I (-(n:Int))] [] [.d true .str (45::fmtN n)] []
 |b+1,n,hb,h1,hn=>by
  refine AC_of tauOk 36 0 [2] Tryz.func9 rfl (by kernel_rfl) rfl rfl rfl rfl rfl ?_
  refine ⟨fun h2=>by omega,fun h2=>?_⟩
  refine ⟨fun h3=>?_,fun h3=>by omega⟩
  have hl:=fmtN_len64 n (by omega)
  refine ⟨fun h4=>?_,fun h4=>?_⟩
  .refine ⟨((n:Nat):Int),w64_eq (by omega) (by omega) (by omega),?_⟩
   refine ⟨[],false,_,_,impl_FormatInt_nat (n+1) n (by omega) (by omega),nd0,rfl,rfl,trivial,?_⟩
   refine ⟨by simp;omega,?_⟩
   exact ⟨none,⟨rfl,trivial⟩,rfl,rfl⟩
  .have e:=fmtN_ge n (by omega)
   refine ⟨by decide,-((n / 10:Nat):Int),w64_eq (by rw [Int.neg_tdiv];rfl) (by omega) (by omega),?_⟩
   refine ⟨[],false,_,_,impl_FormatInt_neg b (n / 10) (by omega) (by omega) (by omega),nd0,rfl,rfl,trivial,?_⟩
   refine ⟨by decide,-((n % 10:Nat):Int),by rw [Int.neg_tmod];rfl,?_⟩
   refine ⟨((n % 10:Nat):Int),w64_eq (by omega) (by omega) (by omega),?_⟩
   refine ⟨[],false,_,_,impl_FormatInt_nat (n % 10+1) (n % 10) (by omega) (by omega),nd0,rfl,rfl,trivial,?_⟩
   have e2:(45::fmtN (n / 10))++fmtN (n % 10)=45::fmtN n:=by rw [e,fmtN_lt (n % 10) (by omega)];rfl
   refine ⟨by rw [<-List.length_append,e2];simp;omega,?_⟩
   exact ⟨none,⟨retS e2.symm,trivial⟩,rfl,rfl⟩
theorem impl_FormatInt (n:Int) (h1: -9223372036854775808<=n) (h2:n<=9223372036854775807):AC Tryz.prog 9 [I n] [] [.d true .str (fmtI n)] []:=by
 by_cases h:n<0
 .have:=impl_FormatInt_neg (n.natAbs+1) n.natAbs (by omega) (by omega) (by omega)
  rw [show-((n.natAbs:Nat):Int)=n by omega] at this
  rw [fmtI,if_pos h];exact this
 .have:=impl_FormatInt_nat (n.natAbs+1) n.natAbs (by omega) (by omega)
  rw [show ((n.natAbs:Nat):Int)=n by omega] at this
  rw [fmtI,if_neg h];exact this
end Go.Proofs.YtacjiemkbhhhoaaGreatDoor
namespace Go.Proofs.YtacjiemkbhhhoaaGreatDoor
open Go Go.Proofs.YtacjiemkbhhhoaaGreatDoor.Ow
theorem fmtI_len (n:Int) (h1: -9223372036854775808<=n) (h2:n<=9223372036854775807):(fmtI n).length<=20:=by
 have:=fmtN_len64 n.natAbs (by omega)
 rw [fmtI];split
 .simp;omega
 .omega
theorem map_succ (xs:List Int) (k:Nat) (h:k<xs.length):(xs.take (k+1)).map fmtI=(xs.take k).map fmtI++[fmtI (xs.getD k 0)]:=by
 rw [L_succ xs k 0 h,List.map_append];rfl
theorem fmts_len (xs:List Int) (sep:List UInt8) (hx:In64 xs) (hl:xs.length<=1048576) (hs:sep.length<=100):(Lib.join (xs.map fmtI) sep).length<=140737488355328:=by
 rw [<-jn_join]
 have h:=jn_len (xs.map fmtI) sep 20 (fun i hi=>by
  have hi2:i<xs.length:=by simpa using hi
  rw [getD_get _ _ _ hi,List.getElem_map]
  have:=hx i hi2
  rw [getD_get _ _ _ hi2] at this
  exact fmtI_len _ this.1 this.2) (xs.map fmtI).length (Nat.le_refl _)
 rw [List.length_map] at h ⊢
 have:xs.length*(sep.length+20)<=1048576*120:=Nat.mul_le_mul hl (by omega)
 omega
theorem impl_commas (sh:Bool) (xs:List Int) (sep:List UInt8) (hx:In64 xs) (hl:xs.length<=1048576) (hs:sep.length<=100):
 AC Tryz.prog 70 [.d sh (.sl .int) xs,.d true .str sep] [] [.d true .str (Lib.join (xs.map fmtI) sep)] []:=by
 have hlen:=fmts_len xs sep hx hl hs
 refine AC_of tauOk 24 0 [4] Tryz.func70 rfl (by kernel_rfl) rfl rfl rfl rfl rfl ?_
 refine ⟨rfl,by decide,true,?_⟩
 refine ⟨Nat,fun k=>⟨[(1,.d true .str sep),(5,.ow 0),(9,.d sh (.sl .int) xs),(10,I xs.length),(11,I (k:Nat))],[.sl 9 .str ((xs.take k).map fmtI)]⟩,fun k=>k<=xs.length,fun k=>xs.length-k,0,Nat.zero_le _,
  ⟨⟨rfl,rfl⟩,⟨rfl,rfl,rfl,rfl,rfl,trivial⟩,rfl,trivial⟩,fun k hk=>?_⟩
 dsimp only at hk
 refine ⟨fun h1=>?_,fun h1=>?_⟩
 .have hk2:k<xs.length:=by omega
  have hb:=hx k hk2
  have hle:((xs.take k).map fmtI).length<=1048576:=by simp;omega
  refine ⟨k,rfl,by omega,[],false,_,_,impl_FormatInt _ hb.1 hb.2,nd0,rfl,rfl,trivial,?_⟩
  refine ⟨rfl,by decide,false,?_⟩
  refine ⟨rfl,Nat.zero_le _,rfl,by simp at hle ⊢;omega,rfl,?_⟩
  exact ⟨((k+1:Nat):Int),w64_eq (by omega) (by omega) (by omega),k+1,by dsimp only;omega,by dsimp only;omega,⟨rfl,rfl⟩,⟨rfl,rfl,rfl,rfl,rfl,trivial⟩,rowE (map_succ xs k hk2).symm,trivial⟩
 .obtain rfl:k=xs.length:=by omega
  dsimp only;rw [List.take_length]
  refine ⟨[],false,_,_,impl_Join false (xs.map fmtI) sep (by rw [List.length_map];omega) hlen,nd0,rfl,rfl,trivial,?_⟩
  exact ⟨none,⟨rfl,trivial⟩,rfl,rfl⟩
theorem spec_l02Join (sh:Bool) (xs:List Int) (hx:In64 xs) (hl:xs.length<=1048576):
 AC Tryz.prog 199 [.d sh (.sl .int) xs] [] [.d true .str (Lib.join (xs.map fmtI) [44])] []:=by
 have hlen:=fmts_len xs [44] hx hl (by decide)
 refine AC_of tauOk 21 0 [2] Tryz.func199 rfl (by kernel_rfl) rfl rfl rfl rfl rfl ?_
 refine ⟨rfl,by decide,true,?_⟩
 refine ⟨Nat,fun k=>⟨[(3,.ow 0),(7,.d sh (.sl .int) xs),(8,I xs.length),(9,I (k:Nat))],[.sl 9 .str ((xs.take k).map fmtI)]⟩,fun k=>k<=xs.length,fun k=>xs.length-k,0,Nat.zero_le _,
  ⟨⟨rfl,rfl⟩,⟨rfl,rfl,rfl,rfl,trivial⟩,rfl,trivial⟩,fun k hk=>?_⟩
 dsimp only at hk
 refine ⟨fun h1=>?_,fun h1=>?_⟩
 .have hk2:k<xs.length:=by omega
  have hb:=hx k hk2
  have hle:((xs.take k).map fmtI).length<=1048576:=by simp;omega
  refine ⟨k,rfl,by omega,[],false,_,_,spec_FormatInt _ hb.1 hb.2,nd0,rfl,rfl,trivial,?_⟩
  refine ⟨rfl,by decide,false,?_⟩
  refine ⟨rfl,Nat.zero_le _,rfl,by simp at hle ⊢;omega,rfl,?_⟩
  exact ⟨((k+1:Nat):Int),w64_eq (by omega) (by omega) (by omega),k+1,by dsimp only;omega,by dsimp only;omega,⟨rfl,rfl⟩,⟨rfl,rfl,rfl,rfl,trivial⟩,rowE (map_succ xs k hk2).symm,trivial⟩
 .obtain rfl:k=xs.length:=by omega
  dsimp only;rw [List.take_length]
  refine ⟨[],false,_,_,spec_Join false (xs.map fmtI) [44] (by rw [List.length_map];omega) hlen,nd0,rfl,rfl,trivial,?_⟩
  exact ⟨none,⟨rfl,trivial⟩,rfl,rfl⟩
def fmtL (xs:List Int):List UInt8:=if xs.length=0 then [45] else Lib.join (xs.map fmtI) [44]
theorem spec_FormatInts (sh:Bool) (xs:List Int) (hx:In64 xs) (hl:xs.length<=1048576):AC Tryz.prog 100 [.d sh (.sl .int) xs] [] [.d true .str (fmtL xs)] []:=by
 refine AC_of tauOk 8 0 [2] Tryz.func100 rfl (by kernel_rfl) rfl rfl rfl rfl rfl ?_
 refine ⟨fun h1=>?_,fun h1=>?_⟩
 .exact ⟨none,⟨retS (by rw [fmtL,if_pos (by omega)]),trivial⟩,rfl,rfl⟩
 .refine ⟨[],false,_,_,spec_l02Join sh xs hx hl,nd0,rfl,rfl,trivial,?_⟩
  exact ⟨none,⟨retS (by rw [fmtL,if_neg (by omega)]),trivial⟩,rfl,rfl⟩
theorem impl_FormatInts (sh:Bool) (xs:List Int) (hx:In64 xs) (hl:xs.length<=1048576):AC Tryz.prog 65 [.d sh (.sl .int) xs] [] [.d true .str (fmtL xs)] []:=by
 refine AC_of tauOk 8 0 [2] Tryz.func65 rfl (by kernel_rfl) rfl rfl rfl rfl rfl ?_
 refine ⟨fun h1=>?_,fun h1=>?_⟩
 .exact ⟨none,⟨retS (by rw [fmtL,if_pos (by omega)]),trivial⟩,rfl,rfl⟩
 .refine ⟨[],false,_,_,impl_commas sh xs [44] hx hl (by decide),nd0,rfl,rfl,trivial,?_⟩
  exact ⟨none,⟨retS (by rw [fmtL,if_neg (by omega)]),trivial⟩,rfl,rfl⟩
def spG (p:UInt8->Bool) (t:List UInt8):Nat->List (List UInt8) × Nat
 |0=>([],0)
 |k+1=>if p (t.getD k 0)=true then ((spG p t k).1++[(t.take k).drop (spG p t k).2],k+1) else spG p t k
def wrdG (p:UInt8->Bool) (t:List UInt8):List (List UInt8):=(spG p t t.length).1++[t.drop (spG p t t.length).2]
theorem spG_b (p:UInt8->Bool) (t:List UInt8):∀k,(spG p t k).1.length<=k/\(spG p t k).2<=k
 |0=>⟨Nat.le_refl _,Nat.le_refl _⟩
 |k+1=>by
  have h:=spG_b p t k
  rw [spG]
  split
  .rw [List.length_append,List.length_singleton];exact ⟨by omega,Nat.le_refl _⟩
  .omega
def splR (p:UInt8->Bool):List UInt8->List (List UInt8)
 |[]=>[[]]
 |c::t=>if p c=true then []::splR p t else match splR p t with|[]=>[[c]]|h::r=>(c::h)::r
def pre (w:List UInt8):List (List UInt8)->List (List UInt8)
 |[]=>[w]
 |h::r=>(w++h)::r
theorem splR_ne (p:UInt8->Bool):∀t,splR p t≠[]
 |[]=>by simp [splR]
 |c::t=>by
  rw [splR]
  split
  .simp
  .split<;>simp
theorem splR_no (p:UInt8->Bool) (c:UInt8) (t:List UInt8) (h:p c=false):splR p (c::t)=pre [c] (splR p t):=by
 rw [splR,if_neg (by rw [h];decide)]
 cases h2:splR p t with
 |nil=>rfl
 |cons a r=>rfl
theorem pre_pre (w v:List UInt8):∀l,pre w (pre v l)=pre (w++v) l
 |[]=>rfl
 |h::r=>by simp [pre]
theorem spl_step (p:UInt8->Bool) (t:List UInt8):∀k,k<=t.length->splR p t=(spG p t k).1++pre ((t.take k).drop (spG p t k).2) (splR p (t.drop k))
 |0,_=>by
  cases h:splR p t with
  |nil=>exact (splR_ne p t h).elim
  |cons a r=>simp [spG,pre,h]
 |k+1,hk=>by
  have ih:=spl_step p t k (by omega)
  have hb:=(spG_b p t k).2
  have hd:t.drop k=t.getD k 0::t.drop (k+1):=by rw [getD_get _ _ _ (show k<t.length by omega)];exact List.drop_eq_getElem_cons (by omega)
  rw [hd] at ih
  rw [spG]
  cases hp:p (t.getD k 0) with
  |true=>
   rw [if_pos rfl]
   rw [splR,if_pos hp] at ih
   rw [ih]
   have e:(t.take (k+1)).drop (k+1)=[]:=List.drop_eq_nil_of_le (by rw [List.length_take];omega)
   dsimp only
   rw [e]
   cases h2:splR p (t.drop (k+1)) with
   |nil=>exact (splR_ne p _ h2).elim
   |cons a r=>simp [pre]
  |false=>
   rw [if_neg (by decide)]
   rw [splR_no p _ _ hp,pre_pre] at ih
   rw [ih]
   congr 2
   rw [L_succ t k 0 (by omega),List.drop_append_of_le_length (by rw [List.length_take];omega)]
theorem wrdG_eq (p:UInt8->Bool) (t:List UInt8):wrdG p t=splR p t:=by
 rw [spl_step p t t.length (Nat.le_refl _),List.take_length,List.drop_length]
 simp [wrdG,pre,splR]
theorem join_cons2 (w v:List UInt8) (r:List (List UInt8)) (c:UInt8):Lib.join (w::v::r) [c]=w++c::Lib.join (v::r) [c]:=by
 simp [Lib.join,Lib.joinTail]
theorem join_single (w:List UInt8) (c:UInt8):Lib.join [w] [c]=w:=by simp [Lib.join,Lib.joinTail]
def digB (c:UInt8):Bool:=decide (48<=c.toNat) && decide (c.toNat<=57)
def valS (t:List UInt8):Nat->Int
 |0=>0
 |k+1=>w64 (w64 (10*valS t k)-(((t.getD k 0).toNat:Int)-48))
def trimM (s:List UInt8):List UInt8:=Lib.trimPrefix s [45]
def prsV (s:List UInt8):Int:=if (trimM s).length=s.length then w64 (-valS (trimM s) (trimM s).length) else valS (trimM s) (trimM s).length
def prsB (s:List UInt8):Bool:=(((trimM s).all digB && decide (trimM s≠[])) && decide ((trimM s).length<=19)) && decide (fmtI (prsV s)=s)
theorem digit_all:∀x:Nat,x<10->prsB (fmtI (x:Int))=true/\prsV (fmtI (x:Int))=(x:Int)/\(fmtI (x:Int)).all (fun c=>decide (c≠44))=true/\(fmtI (x:Int)).length<=1:=by decide+kernel
theorem strings_IndexByte (s:List UInt8) (c:Int):AC Tryz.prog 51 [.d true .str s,.d true .u8 c] [] [I (Lib.indexByte s c.toNat.toUInt8)] []:=by
 refine AC.flat (v:=.int .i64 (Lib.indexByte s c.toNat.toUInt8)) (fun w A=>rfl) ⟨_,_,Tryz.func51,rfl,by kernel_rfl⟩ fun w A vs hold hvs=>?_
 obtain ⟨v,r,rfl,h1,v2,r2,rfl,h2,h3⟩:=hvs
 cases h1
 cases h2
 cases h3
 exact (Tryz.strings_IndexByte ⟨s.toArray⟩ c w).mono fun e w' ⟨he,hw⟩=>⟨he,hw ▸ RowKit.Below.refl _ _⟩
theorem strings_TrimPrefix (s p:List UInt8):AC Tryz.prog 171 [.d true .str s,.d true .str p] [] [.d true .str (Lib.trimPrefix s p)] []:=by
 refine AC.flat (v:=.string ⟨(Lib.trimPrefix s p).toArray⟩) (fun w A=>rfl) ⟨_,_,Tryz.func171,rfl,by kernel_rfl⟩ fun w A vs hold hvs=>?_
 obtain ⟨v,r,rfl,h1,v2,r2,rfl,h2,h3⟩:=hvs
 cases h1
 cases h2
 cases h3
 exact (Tryz.strings_TrimPrefix ⟨s.toArray⟩ ⟨p.toArray⟩ w).mono fun e w' ⟨he,hw⟩=>⟨he,hw ▸ RowKit.Below.refl _ _⟩
theorem upto {p:Nat->Prop} {k:Nat} (h:∀j,j<k->p j) (h2:p k):∀j,j<k+1->p j:=fun j hj=>by
 by_cases e:j=k
 .subst e;exact h2
 .exact h j (by omega)
theorem trim_len (s:List UInt8):(trimM s).length<=s.length:=by
 unfold trimM Lib.trimPrefix
 split
 .rw [List.length_drop];omega
 .exact Nat.le_refl _
def digA (s:List UInt8):Bool:=s.all digB && decide (s≠[])
theorem digA_no {s:List UInt8} {k:Nat} (hk:k<s.length) (h:digB (s.getD k 0)=false):digA s=false:=by
 unfold digA
 have:s.all digB=false:=by
  rw [List.all_eq_false]
  exact ⟨s.getD k 0,by rw [getD_get _ _ _ hk];exact List.getElem_mem _,by rw [h];decide⟩
 rw [this];rfl
theorem impl_IsDigits (s:List UInt8) (hl:s.length<=1048576):AC Tryz.prog 172 [.d true .str s] [] [.d true .bool (digA s)] []:=by
 refine AC_of tauOk 22 0 [2] Tryz.func172 rfl (by kernel_rfl) rfl rfl rfl rfl rfl ?_
 refine ⟨Nat,fun k=>⟨[(0,.d true .str s),(5,I s.length),(6,I (k:Nat))],[]⟩,fun k=>k<=s.length/\∀j,j<k->digB (s.getD j 0)=true,fun k=>s.length-k,0,⟨Nat.zero_le _,fun j hj=>by omega⟩,
  ⟨⟨rfl,rfl⟩,⟨rfl,rfl,rfl,trivial⟩,trivial⟩,fun k ⟨hk,hy⟩=>?_⟩
 refine ⟨fun h2=>?_,fun h2=>?_⟩
 .have hk2:k<s.length:=by omega
  have hb:=(s.getD k 0).toNat_lt
  refine ⟨k,rfl,hk2,fun h3=>?_,fun h3=>?_⟩
  .exact ⟨none,⟨retB (digA_no hk2 (by unfold digB;rw [decide_eq_false (show ¬48<=(s.getD k 0).toNat by omega)];rfl)),trivial⟩,rfl,rfl⟩
  .refine ⟨k,rfl,hk2,fun h4=>?_,fun h4=>?_⟩
   .exact ⟨none,⟨retB (digA_no hk2 (by unfold digB;rw [decide_eq_false (show ¬(s.getD k 0).toNat<=57 by omega),Bool.and_false])),trivial⟩,rfl,rfl⟩
   .refine ⟨_,w64_in _ (by omega) (by omega),k+1,⟨by omega,upto hy ?_⟩,by dsimp only;omega,⟨rfl,rfl⟩,⟨rfl,rfl,rfl,trivial⟩,trivial⟩
    unfold digB
    rw [decide_eq_true (show 48<=(s.getD k 0).toNat by omega),decide_eq_true (show (s.getD k 0).toNat<=57 by omega)];rfl
 .obtain rfl:k=s.length:=by omega
  have hall:s.all digB=true:=by
   rw [List.all_eq_true]
   intro x hx
   obtain ⟨j,hj,rfl⟩:=List.getElem_of_mem hx
   have:=hy j hj
   rwa [getD_get _ _ _ hj] at this
  refine ⟨fun h3=>?_,fun h3=>?_⟩
  .exact ⟨none,⟨retB (by unfold digA;rw [hall,decide_eq_true h3];rfl),trivial⟩,rfl,rfl⟩
  .exact ⟨none,⟨retB (by unfold digA;rw [decide_eq_false h3,Bool.and_false]),trivial⟩,rfl,rfl⟩
theorem w64_b (x:Int): -9223372036854775808<=w64 x/\w64 x<=9223372036854775807:=by
 show-9223372036854775808<=(if (true && decide (x % 18446744073709551616≥9223372036854775808))=true then x % 18446744073709551616-18446744073709551616 else x % 18446744073709551616)/\(if (true && decide (x % 18446744073709551616≥9223372036854775808))=true then x % 18446744073709551616-18446744073709551616 else x % 18446744073709551616)<=9223372036854775807
 split
 .rename_i h;simp only [Bool.true_and,decide_eq_true_eq] at h;omega
 .rename_i h;simp only [Bool.true_and,decide_eq_true_eq] at h;omega
theorem valS_b (t:List UInt8):∀k,-9223372036854775808<=valS t k/\valS t k<=9223372036854775807
 |0=>by show-9223372036854775808<=(0:Int)/\(0:Int)<=9223372036854775807;decide
 |k+1=>w64_b _
theorem prsV_b (s:List UInt8): -9223372036854775808<=prsV s/\prsV s<=9223372036854775807:=by
 unfold prsV
 split
 .exact w64_b _
 .exact valS_b _ _
def prsR (s:List UInt8):List AV:=if prsB s=true then [I (prsV s),.d true .bool true] else [I 0,.d true .bool false]
theorem prsR_no {s:List UInt8} (h:prsB s=false):prsR s=[I 0,.d true .bool false]:=by rw [prsR,if_neg (by rw [h];decide)]
theorem prsR_yes {s:List UInt8} (h:prsB s=true):prsR s=[I (prsV s),.d true .bool true]:=by rw [prsR,if_pos h]
theorem impl_ParseInt_r (s:List UInt8) (hl:s.length<=1048576) (r:List AV) (hr:prsR s=r):AC Tryz.prog 80 [.d true .str s] [] r []:=by
 have htl:=trim_len s
 have hvb:=prsV_b s
 have htr:=strings_TrimPrefix s [45]
 rw [show Lib.trimPrefix s [45]=trimM s from rfl] at htr
 have hno:(digA (trimM s)=false\/19<(trimM s).length)->r=[I 0,.d true .bool false]:=fun h=>by
  rw [<-hr]
  refine prsR_no ?_
  unfold prsB
  rcases h with h|h
  .unfold digA at h
   rw [h];rfl
  .rw [decide_eq_false (show ¬(trimM s).length<=19 by omega),Bool.and_false];rfl
 refine AC_of tauOk 43 0 [2,3] Tryz.func80 rfl (by kernel_rfl) rfl rfl rfl rfl rfl ?_
 refine ⟨[],false,_,_,htr,nd0,rfl,rfl,trivial,[],false,_,_,impl_IsDigits (trimM s) (by omega),nd0,rfl,rfl,trivial,fun h1=>?_,fun h1=>?_⟩
 .refine ⟨fun h2=>?_,fun h2=>?_⟩
  .obtain rfl:=hno (.inr (by omega))
   exact ⟨none,⟨rfl,rfl,trivial⟩,rfl,rfl⟩
  .refine ⟨Nat,fun k=>⟨[(0,.d true .str s),(4,.d true .str (trimM s)),(5,I (valS (trimM s) k)),(18,I (trimM s).length),(19,I (k:Nat))],[]⟩,fun k=>k<=(trimM s).length,fun k=>(trimM s).length-k,0,Nat.zero_le _,
    ⟨⟨rfl,rfl⟩,⟨rfl,rfl,rfl,rfl,rfl,trivial⟩,trivial⟩,fun k hk=>?_⟩
   dsimp only at hk
   refine ⟨fun h3=>?_,fun h3=>?_⟩
   .have hk2:k<(trimM s).length:=by omega
    have hd:digB ((trimM s).getD k 0)=true:=by
     unfold digA at h1
     simp only [Bool.and_eq_true,List.all_eq_true] at h1
     rw [getD_get _ _ _ hk2]
     exact h1.1 _ (List.getElem_mem hk2)
    unfold digB at hd
    simp only [Bool.and_eq_true,decide_eq_true_eq] at hd
    refine ⟨_,rfl,k,rfl,hk2,?_⟩
    refine ⟨(((trimM s).getD k 0).toNat:Int)-48,u8w _ (by omega) (by omega),?_⟩
    refine ⟨(((trimM s).getD k 0).toNat:Int)-48,w64_eq rfl (by omega) (by omega),?_⟩
    refine ⟨valS (trimM s) (k+1),rfl,?_⟩
    exact ⟨((k+1:Nat):Int),w64_eq (by omega) (by omega) (by omega),k+1,by dsimp only;omega,by dsimp only;omega,⟨rfl,rfl⟩,⟨rfl,rfl,rfl,rfl,rfl,trivial⟩,trivial⟩
   .obtain rfl:k=(trimM s).length:=by omega
    have hB:prsB s=decide (fmtI (prsV s)=s):=by
     unfold digA at h1
     unfold prsB
     rw [h1,decide_eq_true (show (trimM s).length<=19 by omega)];rfl
    have hend:∀z,z=prsV s->(prsB s=true->r=[I z,.d true .bool true])/\(prsB s=false->r=[I 0,.d true .bool false]):=fun z hz=>by
     subst hz
     exact ⟨fun h=>by rw [<-hr,prsR_yes h],fun h=>by rw [<-hr,prsR_no h]⟩
    refine ⟨fun h4=>?_,fun h4=>?_⟩
    .have hv:prsV s=w64 (-valS (trimM s) (trimM s).length):=by rw [prsV,if_pos (by omega)]
     refine ⟨prsV s,(by rw [hv,Int.zero_sub]),[],false,_,_,impl_FormatInt (prsV s) hvb.1 hvb.2,nd0,rfl,rfl,trivial,fun h5=>?_,fun h5=>?_⟩
     .obtain rfl:=(hend _ rfl).2 (by rw [hB,decide_eq_false h5])
      exact ⟨none,⟨rfl,rfl,trivial⟩,rfl,rfl⟩
     .obtain rfl:=(hend _ rfl).1 (by rw [hB,decide_eq_true (Decidable.not_not.1 h5)])
      exact ⟨none,⟨rfl,rfl,trivial⟩,rfl,rfl⟩
    .have hv:prsV s=valS (trimM s) (trimM s).length:=by rw [prsV,if_neg (by omega)]
     rw [hv] at hB hend hvb
     refine ⟨[],false,_,_,impl_FormatInt (valS (trimM s) (trimM s).length) hvb.1 hvb.2,nd0,rfl,rfl,trivial,fun h5=>?_,fun h5=>?_⟩
     .obtain rfl:=(hend _ rfl).2 (by rw [hB,decide_eq_false h5])
      exact ⟨none,⟨rfl,rfl,trivial⟩,rfl,rfl⟩
     .obtain rfl:=(hend _ rfl).1 (by rw [hB,decide_eq_true (Decidable.not_not.1 h5)])
      exact ⟨none,⟨rfl,rfl,trivial⟩,rfl,rfl⟩
 .obtain rfl:=hno (.inl h1)
  exact ⟨none,⟨rfl,rfl,trivial⟩,rfl,rfl⟩
theorem impl_ParseInt (s:List UInt8) (hl:s.length<=1048576):AC Tryz.prog 80 [.d true .str s] [] (prsR s) []:=impl_ParseInt_r s hl _ rfl
def byB (by_:List UInt8) (c:UInt8):Bool:=decide (0<=Lib.indexByte by_ c)
theorem impl_SplitBy (t by_:List UInt8) (hl:t.length<=1048576):AC Tryz.prog 24 [.d true .str t,.d true .str by_] [] [.ow 0] [.sl 9 .str (wrdG (byB by_) t)]:=by
 have hb:=spG_b (byB by_) t
 refine AC_of tauOk 36 0 [4] Tryz.func24 rfl (by kernel_rfl) rfl rfl rfl rfl rfl ?_
 refine ⟨rfl,by decide,true,?_⟩
 refine ⟨Nat,fun k=>⟨[(0,.d true .str t),(1,.d true .str by_),(5,.ow 0),(6,I ((spG (byB by_) t k).2:Nat)),(10,I t.length),(11,I (k:Nat))],[.sl 9 .str (spG (byB by_) t k).1]⟩,fun k=>k<=t.length,fun k=>t.length-k,0,Nat.zero_le _,
  ⟨⟨rfl,rfl⟩,⟨rfl,rfl,rfl,rfl,rfl,rfl,trivial⟩,rfl,trivial⟩,fun k hk=>?_⟩
 dsimp only at hk
 have hbk:=hb k
 refine ⟨fun h2=>?_,fun h2=>?_⟩
 .have hk2:k<t.length:=by omega
  have hc:=strings_IndexByte by_ (((t.getD k 0).toNat:Nat):Int)
  rw [Int.toNat_natCast,show (t.getD k 0).toNat.toUInt8=t.getD k 0 by simp] at hc
  refine ⟨k,rfl,hk2,[],false,_,_,hc,nd0,rfl,rfl,trivial,fun h3=>?_,fun h3=>?_⟩
  .have e:spG (byB by_) t (k+1)=((spG (byB by_) t k).1++[(t.take k).drop (spG (byB by_) t k).2],k+1):=by rw [spG,if_pos (show byB by_ (t.getD k 0)=true from decide_eq_true h3)]
   refine ⟨_,rfl,k,rfl,hbk.2,hk,?_⟩
   refine ⟨rfl,by decide,false,?_⟩
   refine ⟨rfl,Nat.zero_le _,rfl,by simp only [List.length_cons,List.length_nil];omega,rfl,?_⟩
   refine ⟨((k+1:Nat):Int),w64_eq (by omega) (by omega) (by omega),?_⟩
   exact ⟨((k+1:Nat):Int),w64_eq (by omega) (by omega) (by omega),k+1,by dsimp only;omega,by dsimp only;omega,⟨rfl,rfl⟩,⟨rfl,rfl,rfl,retI (by rw [e]),rfl,rfl,trivial⟩,rowE (by rw [e]),trivial⟩
  .have e:spG (byB by_) t (k+1)=spG (byB by_) t k:=by rw [spG,if_neg (by rw [byB,decide_eq_false h3];decide)]
   exact ⟨((k+1:Nat):Int),w64_eq (by omega) (by omega) (by omega),k+1,by dsimp only;omega,by dsimp only;omega,⟨rfl,rfl⟩,⟨rfl,rfl,rfl,retI (by rw [e]),rfl,rfl,trivial⟩,rowE (by rw [e]),trivial⟩
 .obtain rfl:k=t.length:=by omega
  refine ⟨_,rfl,hbk.2,Nat.le_refl _,?_⟩
  refine ⟨rfl,by decide,false,?_⟩
  refine ⟨rfl,Nat.zero_le _,rfl,by simp only [List.length_cons,List.length_nil];omega,rfl,?_⟩
  exact ⟨some 0,⟨⟨rfl,rfl⟩,trivial⟩,⟨rfl,rowsE (by rw [List.take_length];rfl)⟩,rfl⟩
theorem perm_fmt {p:List Int} (hP:PermP p):In64 p/\(∀w∈p.map fmtI,w.length<=1/\(∀x∈w,byB [44] x=false)/\prsB w=true)/\∀i,i<p.length->prsV (fmtI (p.getD i 0))=p.getD i 0:=by
 have hb:=hP.1
 have key:∀i,i<p.length->∃x:Nat,x<10/\p.getD i 0=(x:Int):=fun i hi=>by
  have:=(hP.2 i hi).1
  exact ⟨(p.getD i 0).toNat,by omega,by omega⟩
 refine ⟨fun i hi=>by obtain ⟨x,h1,h2⟩:=key i hi;omega,fun w hw=>?_,fun i hi=>?_⟩
 .obtain ⟨a,ha,rfl⟩:=List.mem_map.1 hw
  obtain ⟨i,hi,rfl⟩:=List.getElem_of_mem ha
  obtain ⟨x,h1,h2⟩:=key i hi
  rw [getD_get _ _ _ hi] at h2
  rw [h2]
  obtain ⟨d1,d2,d3,d4⟩:=digit_all x h1
  refine ⟨d4,fun c hc=>?_,d1⟩
  rw [List.all_eq_true] at d3
  have:=of_decide_eq_true (d3 c hc)
  unfold byB
  refine decide_eq_false ?_
  simp [Lib.indexByte,Ne.symm this]
 .obtain ⟨x,h1,h2⟩:=key i hi
  rw [h2]
  exact (digit_all x h1).2.1
def fmtPm (p:List Int):List UInt8:=Lib.join (p.map fmtI) [44]
def rot (xs:List Int) (k:Nat):List Int:=xs.drop k++xs.take k
theorem rot_len (xs:List Int) (k:Nat) (h:k<=xs.length):(rot xs k).length=xs.length:=by simp [rot];omega
theorem rot_zero (xs:List Int):rot xs 0=xs:=by simp [rot]
def cmpI:List Int->List Int->Int
 |[],[]=>0
 |[],_::_=> -1
 |_::_,[]=>1
 |x::xs,y::ys=>if x<y then-1 else if y<x then 1 else cmpI xs ys
theorem cmpI_refl:∀xs,cmpI xs xs=0
 |[]=>rfl
 |x::xs=>by simp [cmpI,cmpI_refl xs]
theorem cmpI_eq:∀xs ys,cmpI xs ys=0->xs=ys
 |[],[],_=>rfl
 |[],_::_,h=>by simp [cmpI] at h
 |_::_,[],h=>by simp [cmpI] at h
 |x::xs,y::ys,h=>by
  simp only [cmpI] at h
  split at h
  .omega
  .split at h
   .omega
   .have e:x=y:=by omega
    rw [e,cmpI_eq xs ys h]
theorem cmpI_neg:∀xs ys,cmpI ys xs= -cmpI xs ys
 |[],[]=>rfl
 |[],_::_=>rfl
 |_::_,[]=>rfl
 |x::xs,y::ys=>by
  have:=cmpI_neg xs ys
  simp only [cmpI]
  by_cases h1:x<y
  .have h2:¬y<x:=by omega
   simp [h1,h2]
  .by_cases h2:y<x
   .simp [h1,h2]
   .simp [h1,h2,this]
theorem cmpI_trans:∀xs ys zs,cmpI xs ys<0->cmpI ys zs<0->cmpI xs zs<0
 |[],[],zs,h1,h2=>by simp [cmpI] at h1
 |[],y::ys,[],h1,h2=>by simp [cmpI] at h2
 |[],y::ys,z::zs,h1,h2=>by simp [cmpI]
 |x::xs,[],zs,h1,h2=>by simp [cmpI] at h1
 |x::xs,y::ys,[],h1,h2=>by simp [cmpI] at h2
 |x::xs,y::ys,z::zs,h1,h2=>by
  simp only [cmpI] at h1 h2 ⊢
  by_cases a1:x<y
  .by_cases a2:y<z
   .rw [if_pos (by omega)];decide
   .rw [if_neg a2] at h2
    by_cases a3:z<y
    .rw [if_pos a3] at h2;omega
    .rw [if_pos (by omega)];decide
  .rw [if_neg a1] at h1
   by_cases a3:y<x
   .rw [if_pos a3] at h1;omega
   .rw [if_neg a3] at h1
    by_cases a2:y<z
    .rw [if_pos (by omega)];decide
    .rw [if_neg a2] at h2
     by_cases a4:z<y
     .rw [if_pos a4] at h2;omega
     .rw [if_neg a4] at h2
      rw [if_neg (by omega),if_neg (by omega)]
      exact cmpI_trans xs ys zs h1 h2
theorem cmpI_drop (xs ys:List Int) (i:Nat) (h1:i<xs.length) (h2:i<ys.length):cmpI (xs.drop i) (ys.drop i)=if xs.getD i 0<ys.getD i 0 then-1 else if ys.getD i 0<xs.getD i 0 then 1 else cmpI (xs.drop (i+1)) (ys.drop (i+1)):=by
 rw [List.drop_eq_getElem_cons h1,List.drop_eq_getElem_cons h2,getD_get _ _ _ h1,getD_get _ _ _ h2]
 rfl
def bestR (xs:List Int):Nat->Nat
 |0=>0
 |k+1=>if cmpI (rot xs k) (rot xs (bestR xs k))<0 then k else bestR xs k
theorem bestR_lt (xs:List Int):∀k,0<k->bestR xs k<k
 |1,_=>by
  unfold bestR
  split
  .omega
  .exact Nat.zero_lt_one
 |k+2,_=>by
  have:=bestR_lt xs (k+1) (by omega)
  rw [bestR]
  split<;>omega
theorem bestR_zero (xs:List Int):∀k,bestR xs k=0\/cmpI (rot xs (bestR xs k)) xs<0
 |0=>.inl rfl
 |k+1=>by
  have ih:=bestR_zero xs k
  rw [bestR]
  split
  .rename_i h
   right
   rcases ih with ih|ih
   .rw [ih,rot_zero] at h;exact h
   .exact cmpI_trans _ _ _ h ih
  .exact ih
def least (xs:List Int):List Int:=rot xs (bestR xs xs.length)
theorem least_len (xs:List Int) (h:0<xs.length):(least xs).length=xs.length:=rot_len _ _ (Nat.le_of_lt (bestR_lt xs _ h))
theorem least_iff (xs:List Int):least xs=xs ↔ bestR xs xs.length=0:=by
 constructor
 .intro h
  rcases bestR_zero xs xs.length with h1|h1
  .exact h1
  .unfold least at h
   rw [h,cmpI_refl] at h1
   omega
 .intro h
  rw [least,h,rot_zero]
def perF (xs:List Int) (k:Nat):Nat->Nat
 |0=>xs.length
 |f+1=>if xs.length % k=0/\rot xs k=xs then k else perF xs (k+1) f
def perW (xs:List Int):Nat:=perF xs 1 (xs.length-1)
theorem perF_le (xs:List Int):∀f k,k+f<=xs.length->perF xs k f<=xs.length
 |0,k,_=>Nat.le_refl _
 |f+1,k,h=>by
  rw [perF]
  split
  .omega
  .exact perF_le xs f (k+1) (by omega)
theorem perW_le (xs:List Int) (h:0<xs.length):perW xs<=xs.length:=perF_le xs _ _ (by omega)
theorem colP_mem {xs ys:List Int} (h:ColP xs) (hl:ys.length=xs.length) (hm:∀y∈ys,y∈xs):ColP ys:=by
 refine ⟨fun i hi=>?_,by rw [hl];exact h.2⟩
 rw [getD_get _ _ _ hi]
 obtain ⟨j,hj,e⟩:=List.getElem_of_mem (hm _ (List.getElem_mem hi))
 have:=h.1 j hj
 rw [getD_get _ _ _ hj,e] at this
 exact this
theorem colP_rot {xs:List Int} (h:ColP xs) (k:Nat) (hk:k<=xs.length):ColP (rot xs k):=
 colP_mem h (rot_len xs k hk) fun y hy=>by
  rcases List.mem_append.1 hy with hy|hy
  .exact List.mem_of_mem_drop hy
  .exact List.mem_of_mem_take hy
theorem colP_rev {xs:List Int} (h:ColP xs):ColP xs.reverse:=colP_mem h (List.length_reverse) fun y hy=>List.mem_reverse.1 hy
theorem colP_in {xs:List Int} (h:ColP xs):In64 xs:=fun i hi=>by have:=h.1 i hi;omega
def kindW (xs:List Int):List UInt8:=if least xs=least xs.reverse then [109,105,114,114,111,114,101,100] else if least (least xs)=least xs/\perW (least xs)=(least xs).length then [108,121,110,100,111,110] else [112,108,97,105,110]
def wordLine (xs:List Int):List UInt8:=if colB xs=true then formatW (least xs)++[32,112,101,114,105,111,100,32]++fmtN (perW xs)++[32]++kindW xs else [110,111,110,101]
def insD (s:List UInt8):List (List UInt8)->List (List UInt8)
 |[]=>[s]
 |x::l=>if s<=x then x::insD s l else s::x::l
def sortD (l:List (List UInt8)):List (List UInt8):=l.foldl (fun a s=>insD s a) []
theorem insD_eq (s:List UInt8):∀(l:List (List UInt8)) (k:Nat),k<=l.length->(∀j,j<k->s<=l.getD j [])->(k<l.length->¬s<=l.getD k [])->insD s l=l.take k++[s]++l.drop k
 |[],k,hk,_,_=>by
  obtain rfl:k=0:=by simpa using hk
  rfl
 |x::l,0,hk,h1,h2=>by
  have:¬s<=x:=h2 (by simp)
  simp [insD,this]
 |x::l,k+1,hk,h1,h2=>by
  have:s<=x:=h1 0 (by omega)
  have e:=insD_eq s l k (by simpa using hk) (fun j hj=>h1 (j+1) (by omega)) (fun hk=>h2 (by simpa using hk))
  simp [insD,this,e]
theorem insD_perm (s:List UInt8):∀l,(insD s l).Perm (s::l)
 |[]=>List.Perm.refl _
 |x::l=>by
  unfold insD
  split
  .exact ((insD_perm s l).cons x).trans (List.Perm.swap s x l)
  .exact List.Perm.refl _
theorem leS_total (x y:List UInt8):x<=y\/y<=x:=List.le_total x y
theorem insD_sorted (s:List UInt8):∀l,l.Pairwise (fun a b=>b<=a)->(insD s l).Pairwise (fun a b=>b<=a)
 |[],_=>by simp [insD]
 |x::l,h=>by
  have h':=List.pairwise_cons.1 h
  unfold insD
  split
  .rename_i hx
   refine List.pairwise_cons.2 ⟨fun y hy=>?_,insD_sorted s l h'.2⟩
   rcases List.mem_cons.1 ((insD_perm s l).mem_iff.1 hy) with rfl|hy
   .exact hx
   .exact h'.1 y hy
  .rename_i hx
   refine List.pairwise_cons.2 ⟨fun y hy=>?_,h⟩
   have hxs:x<=s:=(leS_total x s).resolve_right hx
   rcases List.mem_cons.1 hy with rfl|hy
   .exact hxs
   .exact List.le_trans (h'.1 y hy) hxs
theorem sortD_snoc (l:List (List UInt8)) (s:List UInt8):sortD (l++[s])=insD s (sortD l):=by simp [sortD]
theorem foldD_perm:∀(l a:List (List UInt8)),(l.foldl (fun a s=>insD s a) a).Perm (l++a)
 |[],a=>List.Perm.refl _
 |s::l,a=>(foldD_perm l (insD s a)).trans (((insD_perm s a).append_left l).trans List.perm_middle)
theorem foldD_sorted:∀(l a:List (List UInt8)),a.Pairwise (fun a b=>b<=a)->(l.foldl (fun a s=>insD s a) a).Pairwise (fun a b=>b<=a)
 |[],a,h=>h
 |s::l,a,h=>foldD_sorted l _ (insD_sorted s a h)
theorem sortD_perm (l:List (List UInt8)):(sortD l).Perm l:=by
 have:=foldD_perm l []
 rwa [List.append_nil] at this
theorem sortD_len (l:List (List UInt8)):(sortD l).length=l.length:=(sortD_perm l).length_eq
theorem sortD_merge (l:List (List UInt8)):(l.mergeSort fun x y=>decide (x<=y)).reverse=sortD l:=by
 refine List.Perm.eq_of_pairwise (le:=fun a b=>b<=a) (fun a b _ _ h1 h2=>List.le_antisymm h2 h1) ?_ (foldD_sorted l [] (by simp)) ((List.reverse_perm _).trans ((List.mergeSort_perm l _).trans (sortD_perm l).symm))
 rw [List.pairwise_reverse]
 have h:=List.pairwise_mergeSort (le:=fun x y:List UInt8=>decide (x<=y)) (fun a b c h1 h2=>by simp at*;exact List.le_trans h1 h2) (fun a b=>by simpa using leS_total a b) l
 exact h.imp fun h=>by simpa using h
def cdS (l:List (List UInt8)):List UInt8:=40::(Lib.join l []++[41])
def codeF (xs:List Int):Nat->Nat->List UInt8
 |0,_=>cdS []
 |b+1,at_=>cdS (sortD (((List.range xs.length).filter fun i=>xs.getD i 0==(at_:Int)).map fun i=>codeF xs b i))
def kidsP (xs:List Int) (b at_ k:Nat):List (List UInt8):=((List.range k).filter fun i=>xs.getD i 0==(at_:Int)).map fun i=>codeF xs b i
def kidsF (xs:List Int) (b at_:Nat):List (List UInt8):=sortD (kidsP xs b at_ xs.length)
theorem codeF_s (xs:List Int) (b at_:Nat):codeF xs (b+1) at_=cdS (kidsF xs b at_):=rfl
theorem kidsP_yes (xs:List Int) (b at_ k:Nat) (h:xs.getD k 0=(at_:Int)):kidsP xs b at_ (k+1)=kidsP xs b at_ k++[codeF xs b k]:=by
 unfold kidsP
 rw [List.range_succ,List.filter_append,List.map_append]
 simp [-List.getD_eq_getElem?_getD,h]
theorem kidsP_no (xs:List Int) (b at_ k:Nat) (h:¬xs.getD k 0=(at_:Int)):kidsP xs b at_ (k+1)=kidsP xs b at_ k:=by
 unfold kidsP
 rw [List.range_succ,List.filter_append,List.map_append]
 simp [-List.getD_eq_getElem?_getD,h]
theorem kidsP_len (xs:List Int) (b at_ k:Nat):(kidsP xs b at_ k).length<=k:=by
 unfold kidsP
 rw [List.length_map]
 exact Nat.le_trans (List.length_filter_le _ _) (by simp)
theorem cdS_len (l:List (List UInt8)) (n:Nat) (h:∀x∈l,x.length<=n):(Lib.join l []).length<=l.length*n/\(cdS l).length<=l.length*n+2:=by
 have h1:=jn_len l [] n (fun i hi=>h _ (by rw [getD_get _ _ _ hi];exact List.getElem_mem hi)) l.length (Nat.le_refl _)
 rw [jn_join] at h1
 have h2:(Lib.join l []).length<=l.length*n:=by simpa using h1
 refine ⟨h2,?_⟩
 simp only [cdS,List.length_cons,List.length_append,List.length_nil];omega
theorem codeF_len (xs:List Int) (hl:xs.length<=12):∀b at_,(codeF xs b at_).length<=2*13 ^ b
 |0,_=>by show (cdS []).length<=_;decide
 |b+1,at_=>by
  have ih:=codeF_len xs hl b
  have hk:=kidsP_len xs b at_ xs.length
  have h:=(cdS_len (kidsF xs b at_) (2*13 ^ b) (fun x hx=>by
   have:=(sortD_perm _).mem_iff.1 hx
   obtain ⟨i,_,rfl⟩:=List.mem_map.1 this
   exact ih i)).2
  rw [codeF_s]
  have e:(kidsF xs b at_).length=(kidsP xs b at_ xs.length).length:=sortD_len _
  rw [e] at h
  have h2:(kidsP xs b at_ xs.length).length*(2*13 ^ b)<=12*(2*13 ^ b):=Nat.mul_le_mul_right _ (by omega)
  have h3:1<=13 ^ b:=Nat.pos_of_ne_zero (by simp)
  rw [Nat.pow_succ]
  omega
theorem kidsF_join (xs:List Int) (hl:xs.length<=12) (b at_:Nat) (hb:b<=11):(Lib.join (kidsF xs b at_) []).length<=70368744177664/\(kidsF xs b at_).length<=12:=by
 have ih:=codeF_len xs hl b
 have hk:=kidsP_len xs b at_ xs.length
 have h:=(cdS_len (kidsF xs b at_) (2*13 ^ 11) (fun x hx=>by
  have:=(sortD_perm _).mem_iff.1 hx
  obtain ⟨i,_,rfl⟩:=List.mem_map.1 this
  have h1:13 ^ b<=13 ^ 11:=Nat.pow_le_pow_right (by omega) hb
  have:=ih i
  omega)).1
 have e:(kidsF xs b at_).length=(kidsP xs b at_ xs.length).length:=sortD_len _
 have h2:(kidsF xs b at_).length*(2*13 ^ 11)<=12*(2*13 ^ 11):=Nat.mul_le_mul_right _ (by omega)
 exact ⟨by omega,by omega⟩
end Go.Proofs.YtacjiemkbhhhoaaGreatDoor
namespace Go.Proofs.YtacjiemkbhhhoaaGreatDoor
open Go Go.RowKit Go.Sort Go.Proofs.YtacjiemkbhhhoaaGreatDoor.Ow
theorem putRow_block {α:Type} [Inhabited α] (enc:α->Value) (w:World) (b:Nat) (d:Array α) (cur:Array Value) (e:TypeId) (h:w.heap[b]? =some (.cells cur e (0,0))):
 (putRow enc w b 0 d).heap[b]? =some (.cells (putCells enc 0 d cur) e (0,0)):=by
 simp only [putRow,mapBlock,Array.getElem?_modify,if_pos,h,Option.map_some,onCells]
theorem putRow_other {α:Type} [Inhabited α] (enc:α->Value) (w:World) (b k:Nat) (d:Array α) (h:k≠b):(putRow enc w b 0 d).heap[k]? =w.heap[k]? :=by
 simp only [putRow,mapBlock,Array.getElem?_modify,if_neg (Ne.symm h)]
theorem putCells_get {α:Type} [Inhabited α] (enc:α->Value) (d:Array α) (cur:Array Value) (j:Nat) (h:j<d.size) (h2:d.size<=cur.size):(putCells enc 0 d cur)[j]? =some (enc d[j]!):=by
 simp only [putCells,Array.getElem?_mapIdx]
 rw [Array.getElem?_eq_getElem (by omega)]
 simp [h]
theorem frozen_row (w:World) (b j:Nat) (cur:Array Value) (e:TypeId) (h:w.heap[b]? =some (.cells cur e (0,0))):w.frozen? ⟨b,j,none⟩=false:=by
 simp [World.frozen?,h]
theorem holds_row {w:World} {b e:Nat} {cur:Array Value} {xs:List (List UInt8)} {A:Nat->Prop} (h1:w.heap[b]? =some (.cells cur e (0,0))) (h2:∀(j:Nat) (h:j<xs.length),∃cv,cur[j]? =some cv/\Rd w A .str xs[j] cv):Holds encStr w b 0 xs.toArray:=by
 intro j hj
 have hj':j<xs.length:=by simpa using hj
 obtain ⟨cv,g1,g2⟩:=h2 j hj'
 refine ⟨?_,frozen_row w b _ cur e h1⟩
 rw [Nat.zero_add,cell_of_row w b j cur e (0,0) h1,g1]
 cases g2
 simp [hj',encStr]
theorem AC_row {f:FuncId} {e:Nat} {xs ys:List (List UInt8)} (hl:ys.length=xs.length) (hr:Runs Tryz.prog f)
 (h:∀(b cap:Nat) (w:World),Holds encStr w b 0 xs.toArray->b<w.heap.size->Calls Tryz.prog f #[.slice (some ⟨b,0,none⟩) xs.length cap] w fun ex w'=>ex=.returned (.tuple #[])/\∃n os,w'=grow (putRow encStr (Go.Sort.ahead w n) b 0 ys.toArray) os):
 AC Tryz.prog f [.ow 0] [.sl e .str xs] [] [.sl e .str ys]:=by
 refine ⟨hr,fun w bs A vs hok hvs=>?_⟩
 obtain ⟨v,r,rfl,⟨b,e',t,xs',cur,hb,hx,hc,rfl⟩,h3⟩:=hvs
 cases h3
 cases hx
 have hrow:=hok.row 0 b _ hb rfl
 obtain ⟨hA,cur2,c1,c2,c3,c4⟩:=hrow
 rw [hc] at c1;cases c1
 have hbl:=hok.lt b (List.mem_of_getElem? hb)
 have hbs:bs=[b]:=by
  have hlen:=hok.len
  match bs,hb,hlen with
  |[x],hb,_=>simp at hb;rw [hb]
 subst hbs
 refine (h b cur.size w (holds_row hc c4) hbl).mono ?_
 rintro ex w' ⟨rfl,n,os,rfl⟩
 have hold:∀k,k<w.heap.size->k≠b->(grow (putRow encStr (Go.Sort.ahead w n) b 0 ys.toArray) os).heap[k]? =w.heap[k]? :=by
  intro k hk hkb
  rw [heap_grow_old _ _ (by simpa using hk),putRow_other _ _ _ _ _ hkb];rfl
 have hnew:(grow (putRow encStr (Go.Sort.ahead w n) b 0 ys.toArray) os).heap[b]? =some (.cells (putCells encStr 0 ys.toArray cur) e (0,0)):=by
  rw [heap_grow_old _ _ (by simpa using hbl)]
  exact putRow_block encStr (Go.Sort.ahead w n) b _ cur e hc
 have hsz:(putCells encStr 0 ys.toArray cur).size=cur.size:=by simp [putCells]
 refine ⟨.tuple #[],[b],A,rfl,⟨rfl,hok.nodup,fun x hx=>?_,fun x hx=>?_,?_⟩,⟨[],rfl,rfl⟩,⟨rfl,rfl,rfl,?_,?_,fun x hx=>.inl hx,fun x hx=>.inl hx⟩,⟨[],rfl⟩,?_,fun x hx=>hx⟩
 .have:=hok.lt x hx;simp;omega
 .have:=hok.old x hx;simp;omega
 .intro i b2 r hb2 hr2
  match i,hb2,hr2 with
  |0,hb2,hr2=>
   simp at hb2 hr2
   subst hb2;subst hr2
   refine ⟨hA,_,hnew,by rw [hsz,hl];exact c2,by rw [hsz];exact c3,fun j hj=>?_,trivial⟩
   refine ⟨encStr ys[j],?_,rfl⟩
   rw [putCells_get _ _ _ _ (by simpa using hj) (by simp;omega)]
   simp [hj]
  |i+1,hb2,_=>simp at hb2
 .simp
 .intro k hk hkb
  exact hold k hk (by simpa using hkb)
 .intro x hx cur2 e2 hc2
  simp at hx;subst hx
  rw [hc] at hc2;cases hc2
  exact ⟨_,hnew,hsz⟩
theorem slices_Sort_str (e:Nat) (xs:List (List UInt8)) (hl:xs.length<=1048576):AC Tryz.prog 263 [.ow 0] [.sl e .str xs] [] [.sl e .str (xs.mergeSort fun x y=>decide (x<=y))]:=
 AC_row (List.length_mergeSort xs) ⟨_,_,Tryz.func263,rfl,by kernel_rfl⟩ fun b cap w hH hb=>Tryz.slices_Sort_string b 0 cap xs w hH hb (by omega)
theorem slices_Reverse_str (e:Nat) (xs:List (List UInt8)) (hl:xs.length<=1048576):AC Tryz.prog 155 [.ow 0] [.sl e .str xs] [] [.sl e .str xs.reverse]:=
 AC_row (List.length_reverse) ⟨_,_,Tryz.func155,rfl,by kernel_rfl⟩ fun b cap w hH hb=>(Tryz.slices_Reverse_string b 0 cap xs w hH (by omega)).mono fun ex w' ⟨h1,n,h2⟩=>⟨h1,n,#[],by rw [grow_empty];exact h2⟩
theorem holds_rowI {w:World} {b e:Nat} {cur:Array Value} {xs:List Int} {A:Nat->Prop} (h1:w.heap[b]? =some (.cells cur e (0,0))) (h2:∀(j:Nat) (h:j<xs.length),∃cv,cur[j]? =some cv/\Rd w A .int xs[j] cv):Holds (Value.int .i64) w b 0 xs.toArray:=by
 intro j hj
 have hj':j<xs.length:=by simpa using hj
 obtain ⟨cv,g1,g2⟩:=h2 j hj'
 refine ⟨?_,frozen_row w b _ cur e h1⟩
 rw [Nat.zero_add,cell_of_row w b j cur e (0,0) h1,g1]
 cases g2
 simp [hj']
theorem AC_rowI {f:FuncId} {e:Nat} {xs ys:List Int} (hl:ys.length=xs.length) (hr:Runs Tryz.prog f)
 (h:∀(b cap:Nat) (w:World),Holds (Value.int .i64) w b 0 xs.toArray->b<w.heap.size->Calls Tryz.prog f #[.slice (some ⟨b,0,none⟩) xs.length cap] w fun ex w'=>ex=.returned (.tuple #[])/\∃n os,w'=grow (putRow (Value.int .i64) (Go.Sort.ahead w n) b 0 ys.toArray) os):
 AC Tryz.prog f [.ow 0] [.sl e .int xs] [] [.sl e .int ys]:=by
 refine ⟨hr,fun w bs A vs hok hvs=>?_⟩
 obtain ⟨v,r,rfl,⟨b,e',t,xs',cur,hb,hx,hc,rfl⟩,h3⟩:=hvs
 cases h3
 cases hx
 have hrow:=hok.row 0 b _ hb rfl
 obtain ⟨hA,cur2,c1,c2,c3,c4⟩:=hrow
 rw [hc] at c1;cases c1
 have hbl:=hok.lt b (List.mem_of_getElem? hb)
 have hbs:bs=[b]:=by
  have hlen:=hok.len
  match bs,hb,hlen with
  |[x],hb,_=>simp at hb;rw [hb]
 subst hbs
 refine (h b cur.size w (holds_rowI hc c4) hbl).mono ?_
 rintro ex w' ⟨rfl,n,os,rfl⟩
 have hold:∀k,k<w.heap.size->k≠b->(grow (putRow (Value.int .i64) (Go.Sort.ahead w n) b 0 ys.toArray) os).heap[k]? =w.heap[k]? :=by
  intro k hk hkb
  rw [heap_grow_old _ _ (by simpa using hk),putRow_other _ _ _ _ _ hkb];rfl
 have hnew:(grow (putRow (Value.int .i64) (Go.Sort.ahead w n) b 0 ys.toArray) os).heap[b]? =some (.cells (putCells (Value.int .i64) 0 ys.toArray cur) e (0,0)):=by
  rw [heap_grow_old _ _ (by simpa using hbl)]
  exact putRow_block (Value.int .i64) (Go.Sort.ahead w n) b _ cur e hc
 have hsz:(putCells (Value.int .i64) 0 ys.toArray cur).size=cur.size:=by simp [putCells]
 refine ⟨.tuple #[],[b],A,rfl,⟨rfl,hok.nodup,fun x hx=>?_,fun x hx=>?_,?_⟩,⟨[],rfl,rfl⟩,⟨rfl,rfl,rfl,?_,?_,fun x hx=>.inl hx,fun x hx=>.inl hx⟩,⟨[],rfl⟩,?_,fun x hx=>hx⟩
 .have:=hok.lt x hx;simp;omega
 .have:=hok.old x hx;simp;omega
 .intro i b2 r hb2 hr2
  match i,hb2,hr2 with
  |0,hb2,hr2=>
   simp at hb2 hr2
   subst hb2;subst hr2
   refine ⟨hA,_,hnew,by rw [hsz,hl];exact c2,by rw [hsz];exact c3,fun j hj=>?_,trivial⟩
   refine ⟨.int .i64 ys[j],?_,rfl⟩
   rw [putCells_get _ _ _ _ (by simpa using hj) (by simp;omega)]
   simp [hj]
  |i+1,hb2,_=>simp at hb2
 .simp
 .intro k hk hkb
  exact hold k hk (by simpa using hkb)
 .intro x hx cur2 e2 hc2
  simp at hx;subst hx
  rw [hc] at hc2;cases hc2
  exact ⟨_,hnew,hsz⟩
theorem slices_Reverse_int (e:Nat) (xs:List Int) (hl:xs.length<=1048576):AC Tryz.prog 145 [.ow 0] [.sl e .int xs] [] [.sl e .int xs.reverse]:=
 AC_rowI (List.length_reverse) ⟨_,_,Tryz.func145,rfl,by kernel_rfl⟩ fun b cap w hH hb=>(Tryz.slices_Reverse_int b 0 cap xs w hH (by omega)).mono fun ex w' ⟨h1,n,h2⟩=>⟨h1,n,#[],by rw [grow_empty];exact h2⟩
theorem cmp_isNaN_int (x:Int):AC Tryz.prog 315 [I x] [] [.d true .bool false] []:=by
 refine AC_of tauOk 6 0 [2] Tryz.func315 rfl (by kernel_rfl) rfl rfl rfl rfl rfl ?_
 refine ⟨fun h=>(h rfl).elim,fun _=>?_⟩
 exact ⟨none,⟨rfl,trivial⟩,rfl,rfl⟩
theorem cmp_Compare_int (x y:Int):AC Tryz.prog 244 [I x,I y] [] [I (if x<y then-1 else if y<x then 1 else 0)] []:=by
 refine AC_of tauOk 20 0 [4] Tryz.func244 rfl (by kernel_rfl) rfl rfl rfl rfl rfl ?_
 refine ⟨[],false,_,_,cmp_isNaN_int x,nd0,rfl,rfl,trivial,nofun,fun _=>?_⟩
 refine ⟨[],false,_,_,cmp_isNaN_int y,nd0,rfl,rfl,trivial,nofun,fun _=>?_⟩
 refine ⟨fun h=>?_,fun h=>?_⟩
 .exact ⟨none,⟨retI (by rw [if_pos h]),trivial⟩,rfl,rfl⟩
 refine ⟨fun h2=>?_,fun h2=>?_⟩
 .exact ⟨none,⟨retI (by rw [if_neg h,if_pos h2]),trivial⟩,rfl,rfl⟩
 .exact ⟨none,⟨retI (by rw [if_neg h,if_neg h2]),trivial⟩,rfl,rfl⟩
theorem slices_Compare_int (s1 s2:Bool) (xs ys:List Int) (hl:xs.length<=1048576) (hl2:ys.length<=1048576):AC Tryz.prog 141 [.d s1 (.sl .int) xs,.d s2 (.sl .int) ys] [] [I (cmpI xs ys)] []:=by
 refine AC_of tauOk 36 0 [4] Tryz.func141 rfl (by kernel_rfl) rfl rfl rfl rfl rfl ?_
 refine ⟨Nat,fun k=>⟨[(0,.d s1 (.sl .int) xs),(1,.d s2 (.sl .int) ys),(9,.d s1 (.sl .int) xs),(10,I xs.length),(11,I (k:Nat))],[]⟩,fun k=>k<=xs.length/\k<=ys.length/\cmpI (xs.drop k) (ys.drop k)=cmpI xs ys,fun k=>xs.length-k,0,⟨Nat.zero_le _,Nat.zero_le _,rfl⟩,
  ⟨⟨rfl,rfl⟩,⟨rfl,rfl,rfl,rfl,rfl,trivial⟩,trivial⟩,fun k ⟨hk,hk2,hc⟩=>?_⟩
 refine ⟨fun h1=>?_,fun h1=>?_⟩
 .have hx:k<xs.length:=by omega
  refine ⟨k,rfl,hx,fun h2=>?_,fun h2=>?_⟩
  .obtain rfl:k=ys.length:=by omega
   rw [List.drop_length,List.drop_eq_getElem_cons hx] at hc
   exact ⟨none,⟨retI hc.symm,trivial⟩,rfl,rfl⟩
  .have hy:k<ys.length:=by omega
   have hd:=cmpI_drop xs ys k hx hy
   refine ⟨k,rfl,hy,[],false,_,_,cmp_Compare_int (xs.getD k 0) (ys.getD k 0),nd0,rfl,rfl,trivial,fun h3=>?_,fun h3=>?_⟩
   .refine ⟨none,⟨retI ?_,trivial⟩,rfl,rfl⟩
    rw [<-hc,hd]
    split
    .rfl
    .rename_i h4
     rw [if_neg h4] at h3
     split
     .rfl
     .rename_i h5
      rw [if_neg h5] at h3
      exact (h3 rfl).elim
   .have h3':=Classical.not_not.1 h3
    refine ⟨((k+1:Nat):Int),w64_eq (by omega) (by omega) (by omega),k+1,⟨hx,hy,?_⟩,by dsimp only;omega,⟨rfl,rfl⟩,⟨rfl,rfl,rfl,rfl,rfl,trivial⟩,trivial⟩
    rw [<-hc,hd]
    split at h3'
    .omega
    .rename_i h4
     split at h3'
     .omega
     .rename_i h5
      rw [if_neg h4,if_neg h5]
 .obtain rfl:k=xs.length:=by omega
  rw [List.drop_length] at hc
  refine ⟨fun h2=>?_,fun h2=>?_⟩
  .rw [List.drop_eq_getElem_cons (show xs.length<ys.length by omega)] at hc
   exact ⟨none,⟨retI hc.symm,trivial⟩,rfl,rfl⟩
  .rw [List.drop_eq_nil_of_le (by omega)] at hc
   exact ⟨none,⟨retI hc.symm,trivial⟩,rfl,rfl⟩
theorem slices_Equal_int (s1 s2:Bool) (xs ys:List Int) (hl:xs.length<=1048576) (hl2:ys.length<=1048576):AC Tryz.prog 139 [.d s1 (.sl .int) xs,.d s2 (.sl .int) ys] [] [.d true .bool (decide (xs=ys))] []:=by
 refine AC_of tauOk 26 0 [4] Tryz.func139 rfl (by kernel_rfl) rfl rfl rfl rfl rfl ?_
 refine ⟨fun h1=>?_,fun h1=>?_⟩
 .exact ⟨none,⟨retB (by rw [decide_eq_false];intro e;subst e;exact h1 rfl),trivial⟩,rfl,rfl⟩
 refine ⟨Nat,fun k=>⟨[(0,.d s1 (.sl .int) xs),(1,.d s2 (.sl .int) ys),(12,I xs.length),(13,I (k:Nat))],[]⟩,fun k=>k<=xs.length/\∀j,j<k->xs.getD j 0=ys.getD j 0,fun k=>xs.length-k,0,⟨by omega,fun j hj=>by omega⟩,
  ⟨⟨rfl,rfl⟩,⟨rfl,rfl,rfl,rfl,trivial⟩,trivial⟩,fun k ⟨hk,hy⟩=>?_⟩
 have hll:xs.length=ys.length:=by omega
 refine ⟨fun h1=>?_,fun h1=>?_⟩
 .refine ⟨none,by kernel_rfl,k,rfl,by omega,k,rfl,by omega,fun h2=>?_,fun h2=>?_⟩
  .exact ⟨none,⟨retB (by rw [decide_eq_false];intro e;subst e;exact h2 rfl),trivial⟩,rfl,rfl⟩
  .refine ⟨_,w64_in _ (by omega) (by omega),k+1,⟨by omega,fun j hj=>?_⟩,by dsimp only;omega,⟨rfl,rfl⟩,⟨rfl,rfl,rfl,rfl,trivial⟩,trivial⟩
   by_cases e:j=k
   .subst e;omega
   .exact hy j (by omega)
 .exact ⟨none,⟨retB (by rw [decide_eq_true];exact ext_getD 0 hll (fun j hj=>hy j (by omega))),trivial⟩,rfl,rfl⟩
theorem spec_l03Same (s1 s2:Bool) (xs ys:List Int) (hl:xs.length<=1048576) (hl2:ys.length<=1048576):AC Tryz.prog 286 [.d s1 (.sl .int) xs,.d s2 (.sl .int) ys] [] [.d true .bool (decide (xs=ys))] []:=by
 refine AC_of tauOk 26 0 [4] Tryz.func286 rfl (by kernel_rfl) rfl rfl rfl rfl rfl ?_
 refine ⟨fun h1=>?_,fun h1=>?_⟩
 .exact ⟨none,⟨retB (by rw [decide_eq_false];intro e;subst e;exact h1 rfl),trivial⟩,rfl,rfl⟩
 refine ⟨Nat,fun k=>⟨[(1,.d s2 (.sl .int) ys),(12,.d s1 (.sl .int) xs),(13,I xs.length),(14,I (k:Nat))],[]⟩,fun k=>k<=xs.length/\∀j,j<k->xs.getD j 0=ys.getD j 0,fun k=>xs.length-k,0,⟨by omega,fun j hj=>by omega⟩,
  ⟨⟨rfl,rfl⟩,⟨rfl,rfl,rfl,rfl,trivial⟩,trivial⟩,fun k ⟨hk,hy⟩=>?_⟩
 have hll:xs.length=ys.length:=by omega
 refine ⟨fun h1=>?_,fun h1=>?_⟩
 .refine ⟨k,rfl,by omega,k,rfl,by omega,fun h2=>?_,fun h2=>?_⟩
  .exact ⟨none,⟨retB (by rw [decide_eq_false];intro e;subst e;exact h2 rfl),trivial⟩,rfl,rfl⟩
  .refine ⟨_,w64_in _ (by omega) (by omega),k+1,⟨by omega,fun j hj=>?_⟩,by dsimp only;omega,⟨rfl,rfl⟩,⟨rfl,rfl,rfl,rfl,trivial⟩,trivial⟩
   by_cases e:j=k
   .subst e;omega
   .exact hy j (by omega)
 .exact ⟨none,⟨retB (by rw [decide_eq_true];exact ext_getD 0 hll (fun j hj=>hy j (by omega))),trivial⟩,rfl,rfl⟩
theorem slices_Clone_int (sh:Bool) (xs:List Int) (hl:xs.length<=1048576) (h0:xs≠[]):AC Tryz.prog 57 [.d sh (.sl .int) xs] [] [.ow 0] [.sl 3 .int xs]:=by
 cases sh<;>(
 refine AC_of tauOk 8 0 [2] Tryz.func57 rfl (by kernel_rfl) rfl rfl rfl rfl rfl ?_
 refine ⟨fun h=>(h0 h).elim,fun _=>?_⟩
 refine ⟨rfl,by decide,true,?_⟩
 refine ⟨rfl,Nat.zero_le _,rfl,by simp only [List.length_nil];omega,rfl,?_⟩
 exact ⟨some 0,⟨⟨rfl,rfl⟩,trivial⟩,⟨rfl,rowsE (List.nil_append xs)⟩,rfl⟩)
theorem spec_l03Less (s1 s2:Bool) (xs ys:List Int) (hl:xs.length<=1048576) (he:ys.length=xs.length):AC Tryz.prog 285 [.d s1 (.sl .int) xs,.d s2 (.sl .int) ys] [] [.d true .bool (decide (cmpI xs ys<0))] []:=by
 refine AC_of tauOk 27 0 [4] Tryz.func285 rfl (by kernel_rfl) rfl rfl rfl rfl rfl ?_
 refine ⟨Nat,fun k=>⟨[(1,.d s2 (.sl .int) ys),(7,.d s1 (.sl .int) xs),(8,I xs.length),(9,I (k:Nat))],[]⟩,fun k=>k<=xs.length/\cmpI (xs.drop k) (ys.drop k)=cmpI xs ys,fun k=>xs.length-k,0,⟨Nat.zero_le _,rfl⟩,
  ⟨⟨rfl,rfl⟩,⟨rfl,rfl,rfl,rfl,trivial⟩,trivial⟩,fun k ⟨hk,hc⟩=>?_⟩
 refine ⟨fun h1=>?_,fun h1=>?_⟩
 .have hx:k<xs.length:=by omega
  have hy:k<ys.length:=by omega
  have hd:=cmpI_drop xs ys k hx hy
  refine ⟨k,rfl,hx,k,rfl,hy,fun h3=>?_,fun h3=>?_⟩
  .refine ⟨k,rfl,hy,fun h4=>?_,fun h4=>?_⟩
   .exact ⟨none,⟨retB (by rw [decide_eq_true];rw [<-hc,hd,if_pos h4];decide),trivial⟩,rfl,rfl⟩
   .exact ⟨none,⟨retB (by rw [decide_eq_false];rw [<-hc,hd,if_neg h4,if_pos (by omega)];decide),trivial⟩,rfl,rfl⟩
  .refine ⟨((k+1:Nat):Int),w64_eq (by omega) (by omega) (by omega),k+1,⟨hx,?_⟩,by dsimp only;omega,⟨rfl,rfl⟩,⟨rfl,rfl,rfl,rfl,trivial⟩,trivial⟩
   rw [<-hc,hd,if_neg (by omega),if_neg (by omega)]
 .obtain rfl:k=xs.length:=by omega
  rw [List.drop_length,List.drop_eq_nil_of_le (by omega)] at hc
  exact ⟨none,⟨retB (by rw [<-hc];rfl),trivial⟩,rfl,rfl⟩
end Go.Proofs.YtacjiemkbhhhoaaGreatDoor
namespace Go.Proofs.YtacjiemkbhhhoaaGreatDoor
open Go Go.RowKit Go.Lib Go.Proofs.YtacjiemkbhhhoaaGreatDoor.Ow
set_option maxHeartbeats 2000000 in
set_option maxRecDepth 100000 in
theorem compare_go (b1 o1 n c b2 o2 m d:Nat) (xs ys:List Int) (w:World) (hx:xs.length=n) (hy:ys.length=m) (hbig:n<=1048576) (hbig2:m<=1048576)
 (hc1:∀j,j<n->w.cell? ⟨b1,o1+j,none⟩=some (.int .i64 (xs.getD j 0))) (hc2:∀j,j<m->w.cell? ⟨b2,o2+j,none⟩=some (.int .i64 (ys.getD j 0))):
 Calls Tryz.prog 141 #[.slice (some ⟨b1,o1,none⟩) n c,.slice (some ⟨b2,o2,none⟩) m d] w fun e w'=>e=.returned (.int .i64 (cmpI xs ys))/\w'=w:=by
 have P0:Aside (xs.length=n/\ys.length=m):=⟨hx,hy⟩
 clear hx hy
 go_enter Tryz.func141,Tryz.ntmps141
 go_wp2
 go_loopg [11] n (fun g s11 wr=>∃k:Nat,k<=n/\k<=m/\n-k<=g/\s11=.int .i64 k/\wr=w/\Aside (cmpI (xs.drop k) (ys.drop k)=cmpI xs ys))
 case atStart=>exact ⟨0,Nat.zero_le _,Nat.zero_le _,by omega,rfl,rfl,(rfl:cmpI (xs.drop 0) (ys.drop 0)=cmpI xs ys)⟩
 case round=>
  obtain ⟨k,hk,hkm,hg,rfl,rfl,heq⟩:=hrel
  by_cases hlt:k<n
  .have g1:=hc1 k hlt
   by_cases hlm:k<m
   .have g2:=hc2 k hlm
    have hd:Aside (cmpI (xs.drop k) (ys.drop k)=if xs.getD k 0<ys.getD k 0 then-1 else if ys.getD k 0<xs.getD k 0 then 1 else cmpI (xs.drop (k+1)) (ys.drop (k+1))):=cmpI_drop xs ys k (by have:=P0.out;omega) (by have:=P0.out;omega)
    clear hc1 hc2
    generalize hxk:xs.getD k 0=x at g1
    generalize hyk:ys.getD k 0=y at g2
    have B:Aside (xs.getD k 0=x/\ys.getD k 0=y):=⟨hxk,hyk⟩
    clear hxk hyk
    have hci:Lib.compareInt x y=if x<y then-1 else if y<x then 1 else 0:=rfl
    have hcall:∀w',Calls Tryz.prog 244 #[.int .i64 x,.int .i64 y] w' fun e w''=>e=.returned (.int .i64 (if x<y then-1 else if y<x then 1 else 0))/\w''=w':=fun w'=>Tryz.cmp_Compare_int x y w'
    by_cases h1:x<y
    .simp only [if_pos h1] at hcall
     go_wp2_with (go_at_call 244;refine (hcall _).mono ?_;rintro e w' ⟨rfl,rfl⟩)
     go_ret
     refine ⟨?_,rfl⟩
     rw [<-heq.out,hd.out,B.out.1,B.out.2,if_pos h1]
     rfl
    .by_cases h2:y<x
     .have H:Aside (¬x<y/\y<x):=⟨h1,h2⟩
      simp only [if_neg h1,if_pos h2] at hcall
      go_wp2_with (go_at_call 244;refine (hcall _).mono ?_;rintro e w' ⟨rfl,rfl⟩)
      go_ret
      refine ⟨?_,rfl⟩
      rw [<-heq.out,hd.out,B.out.1,B.out.2,if_neg (show ¬x<y by have:=H.out.1;omega),if_pos (show y<x by have:=H.out.2;omega)]
      rfl
     .have H:Aside (¬x<y/\¬y<x):=⟨h1,h2⟩
      simp only [if_neg h1,if_neg h2] at hcall
      go_wp2_with (go_at_call 244;refine (hcall _).mono ?_;rintro e w' ⟨rfl,rfl⟩)
      go_roundg (n-(k+1))
      case measure=>omega
      case rel=>
       refine ⟨k+1,by omega,by omega,by omega,by go_num,rfl,?_⟩
       have:=hd.out
       rw [B.out.1,B.out.2,if_neg (show ¬x<y by have:=H.out.1;omega),if_neg (show ¬y<x by have:=H.out.2;omega)] at this
       exact this.symm.trans heq.out
   .obtain rfl:k=m:=by omega
    have hr:=heq.out
    rw [show ys.drop k=[] from List.drop_eq_nil_of_le (by have:=P0.out;omega),List.drop_eq_getElem_cons (show k<xs.length by have:=P0.out;omega)] at hr
    have hr':Aside (cmpI xs ys=1):=hr.symm
    clear hc1 hc2 hr
    go_wp2
    go_ret
    exact ⟨by rw [hr'.out];rfl,rfl⟩
  .obtain rfl:k=n:=by omega
   have hr:=heq.out
   rw [show xs.drop k=[] from List.drop_eq_nil_of_le (by have:=P0.out;omega)] at hr
   by_cases hnm:k<m
   .rw [List.drop_eq_getElem_cons (show k<ys.length by have:=P0.out;omega)] at hr
    have hr':Aside (cmpI xs ys= -1):=hr.symm
    clear hc1 hc2 hr
    go_wp2
    go_ret
    exact ⟨by rw [hr'.out];rfl,rfl⟩
   .rw [show ys.drop k=[] from List.drop_eq_nil_of_le (by have:=P0.out;omega)] at hr
    have hr':Aside (cmpI xs ys=0):=hr.symm
    clear hc1 hc2 hr
    go_wp2
    go_ret
    exact ⟨by rw [hr'.out];rfl,rfl⟩
end Go.Proofs.YtacjiemkbhhhoaaGreatDoor
namespace Go.Proofs.YtacjiemkbhhhoaaGreatDoor
open Go Go.RowKit Go.Sort Go.Lib Go.Proofs.YtacjiemkbhhhoaaGreatDoor.Ow
def El (w:World) (A:Nat->Prop):Type:={p:Value × List Int // (p.2≠[]/\p.2.length<=1048576)/\Rd w A (.sl .int) p.2 p.1}
def enE {w:World} {A:Nat->Prop} (x:El w A):Value:=x.1.1
def cfE {w:World} {A:Nat->Prop} (x y:El w A):Int:=cmpI x.1.2 y.1.2
theorem enE_one {w:World} {A:Nat->Prop}:OneCell (enE (w:=w) (A:=A)):=fun x=>Rd.one x.2.2
theorem el_cells {w:World} {A:Nat->Prop} (x:El w A):∃b o cap,x.1.1=.slice (some ⟨b,o,none⟩) x.1.2.length cap/\A b/\b<w.heap.size/\∀j,j<x.1.2.length->w.cell? ⟨b,o+j,none⟩=some (.int .i64 (x.1.2.getD j 0)):=by
 obtain ⟨a,cap,hv,hcap,hnn,hc⟩:=x.2.2
 rcases hc with h|⟨b,o,rfl,hS,hc⟩
 .exact (x.2.1.1 h).elim
 .have h0:0<x.1.2.length:=List.length_pos_iff.2 x.2.1.1
  obtain ⟨cv,h1,_⟩:=hc 0 h0
  refine ⟨b,o,cap,hv,hS,cell_lt h1,fun j hj=>?_⟩
  obtain ⟨cv,h1,h2⟩:=hc j hj
  rw [h1,getD_get _ _ _ hj]
  exact congrArg some h2
theorem swoE {w:World} {A:Nat->Prop}:SWO (ltOf (cfE (w:=w) (A:=A))) where
 irrefl:=fun x=>decide_eq_false (by show ¬cmpI x.1.2 x.1.2<0;rw [cmpI_refl];decide)
 trans:=fun x y z h1 h2=>decide_eq_true (cmpI_trans x.1.2 y.1.2 z.1.2 (of_decide_eq_true h1) (of_decide_eq_true h2))
 ntrans:=fun x y z h1 h2=>by
  have h1:¬cmpI x.1.2 y.1.2<0:=of_decide_eq_false h1
  have h2:¬cmpI y.1.2 z.1.2<0:=of_decide_eq_false h2
  refine decide_eq_false fun h3=>?_
  have h3:cmpI x.1.2 z.1.2<0:=h3
  have e1:=cmpI_neg x.1.2 y.1.2
  by_cases h4:cmpI y.1.2 x.1.2<0
  .exact h2 (cmpI_trans _ _ _ h4 h3)
  .have e:x.1.2=y.1.2:=cmpI_eq _ _ (by omega)
   rw [e] at h3
   exact h2 h3
theorem sw_cell {α:Type} [Inhabited α] (enc:α->Value) (w:World) (b m k j:Nat) (dk:Array α) (os:Array Obj) (hk:k<w.heap.size) (hb:k≠b):(sortWorld enc w b 0 m dk os).cell? ⟨k,j,none⟩=w.cell? ⟨k,j,none⟩:=by
 unfold sortWorld
 refine cell_of_block ?_
 rw [heap_grow_old _ _ (by simpa using hk),putRow_other _ _ _ _ _ hb]
 rfl
theorem cmpLaysE {w:World} {A:Nat->Prop} [Inhabited (El w A)] (b n:Nat) (hA:¬A b):CmpLays1 Tryz.prog 141 #[] (enE (w:=w) (A:=A)) cfE b 0 n w:=by
 intro m os dk hdk x y
 obtain ⟨b1,o1,c1,e1,hS1,hl1,hc1⟩:=el_cells x
 obtain ⟨b2,o2,c2,e2,hS2,hl2,hc2⟩:=el_cells y
 have n1:b1≠b:=fun e=>hA (e ▸ hS1)
 have n2:b2≠b:=fun e=>hA (e ▸ hS2)
 have key:=compare_go b1 o1 x.1.2.length c1 b2 o2 y.1.2.length c2 x.1.2 y.1.2 (sortWorld enE w b 0 m dk os) rfl rfl x.2.1.2 y.2.1.2
  (fun j hj=>(sw_cell enE w b m b1 (o1+j) dk os hl1 n1).trans (hc1 j hj)) (fun j hj=>(sw_cell enE w b m b2 (o2+j) dk os hl2 n2).trans (hc2 j hj))
 rw [<-e1,<-e2] at key
 refine key.mono ?_
 rintro e w' ⟨he,hw⟩
 exact ⟨he,0,#[],by rw [hw,grow_empty];rfl⟩
theorem run_cmp (args:Array Value) (w:World):(callFunc 141 args).run Tryz.prog w=.ok (.enter 141 args) w:=
 run_callFunc_enter ⟨_,_,Tryz.func141,rfl,by kernel_rfl⟩ args w
theorem slices_SortFunc_ints (e:Nat) (xss yss:List (List Int)) (hl:xss.length<=1048576) (h0:xss≠[]) (hne:∀xs∈xss,xs≠[]/\xs.length<=1048576) (hp:yss.Perm xss) (hs:yss.Pairwise fun x y=>¬cmpI y x<0):
 AC Tryz.prog 140 [.ow 0,.fn 141 []] [.sl e (.sl .int) xss] [] [.sl e (.sl .int) yss]:=by
 refine ⟨⟨_,_,Tryz.func140,rfl,by kernel_rfl⟩,fun w bs A vs hok hvs=>?_⟩
 obtain ⟨v,r,rfl,⟨b,e',t,xs',cur,hb,hx,hc,rfl⟩,⟨v2,r2,rfl,⟨vs2,rfl,hvs2⟩,h3⟩⟩:=hvs
 cases h3
 cases hvs2
 cases hx
 have hrow:=hok.row 0 b _ hb rfl
 obtain ⟨hA,cur2,c1,c2,c3,c4⟩:=hrow
 rw [hc] at c1;cases c1
 have hbl:=hok.lt b (List.mem_of_getElem? hb)
 have hbs:bs=[b]:=by
  have hlen:=hok.len
  match bs,hb,hlen with
  |[x],hb,_=>simp at hb;rw [hb]
 subst hbs
 obtain ⟨l,hll,hlp⟩:=exList (α:=El w A) xss.length (fun j x=>cur[j]? =some (enE x)/\xss[j]? =some x.1.2) (fun j hj=>by
  obtain ⟨cv,g1,g2⟩:=c4 j hj
  exact ⟨⟨(cv,xss[j]),hne _ (List.getElem_mem hj),g2⟩,g1,List.getElem?_eq_getElem hj⟩)
 have hl0:0<l.length:=by rw [hll];exact List.length_pos_iff.2 h0
 haveI:Inhabited (El w A):=⟨l[0]⟩
 have hmap:l.map (fun x=>x.1.2)=xss:=by
  apply List.ext_getElem?
  intro j
  rw [List.getElem?_map]
  by_cases hj:j<l.length
  .rw [List.getElem?_eq_getElem hj,(hlp j hj).2];rfl
  .rw [List.getElem?_eq_none (by omega),List.getElem?_eq_none (by omega)];rfl
 have hH:Holds enE w b 0 l.toArray:=by
  intro j hj
  have hj':j<l.length:=by simpa using hj
  refine ⟨?_,frozen_row w b _ cur e hc⟩
  rw [Nat.zero_add,cell_of_row w b j cur e (0,0) hc,(hlp j hj').1]
  simp [hj']
 have key:=Tryz.slices_SortFunc enE enE_one cfE swoE 141 #[] b 0 cur.size l.toArray w run_cmp (cmpLaysE b _ hA) hH hbl (by simp;omega)
 rw [List.size_toArray,hll] at key
 refine key.mono ?_
 rintro ex w' ⟨rfl,d',n,os,hperm,hsort,rfl⟩
 have hsz':d'.size=xss.length:=by have:=hperm.1;simpa [hll] using this
 have hys:d'.toList.map (fun x=>x.1.2)=yss:=by
  have hpp:d'.toList.Perm l:=by
   have h1:=hperm.2.2
   have e1:d'.extract 0 xss.length=d':=by rw [<-hsz'];exact Array.extract_size
   have e2:l.toArray.extract 0 xss.length=l.toArray:=by rw [<-hll,<-List.size_toArray];exact Array.extract_size
   rw [e1,e2] at h1
   simpa using h1
  refine List.Perm.eq_of_pairwise (le:=fun x y=>¬cmpI y x<0) (fun a b _ _ h1 h2=>?_) ?_ hs ?_
  .have:=cmpI_neg a b
   exact cmpI_eq _ _ (by omega)
  .rw [List.pairwise_map,List.pairwise_iff_getElem]
   intro i j hi hj hij
   have hi':i<d'.size:=by simpa using hi
   have hj':j<d'.size:=by simpa using hj
   have:=hsort i j (Nat.zero_le _) hij (by omega)
   rw [getElem!_pos d' j hj',getElem!_pos d' i hi'] at this
   have this:¬cmpI d'[j].1.2 d'[i].1.2<0:=of_decide_eq_false this
   simpa using this
  .have h1:=hpp.map (fun x:El w A=>x.1.2)
   rw [hmap] at h1
   exact h1.trans hp.symm
 have hyl:yss.length=xss.length:=hp.length_eq
 have hold:∀k,k<w.heap.size->k≠b->(sortWorld enE w b 0 n d' os).heap[k]? =w.heap[k]? :=by
  intro k hk hkb
  unfold sortWorld
  rw [heap_grow_old _ _ (by simpa using hk),putRow_other _ _ _ _ _ hkb];rfl
 have hnew:(sortWorld enE w b 0 n d' os).heap[b]? =some (.cells (putCells enE 0 d' cur) e (0,0)):=by
  unfold sortWorld
  rw [heap_grow_old _ _ (by simpa using hbl)]
  exact putRow_block enE (Go.Sort.ahead w n) b _ cur e hc
 have hsz:(putCells enE 0 d' cur).size=cur.size:=by simp [putCells]
 have hws:w.heap.size<=(sortWorld enE w b 0 n d' os).heap.size:=by simp [sortWorld]
 refine ⟨.tuple #[],[b],A,rfl,⟨rfl,hok.nodup,fun x hx=>?_,fun x hx=>?_,?_⟩,⟨[],rfl,rfl⟩,⟨rfl,rfl,rfl,hws,?_,fun x hx=>.inl hx,fun x hx=>.inl hx⟩,⟨[],rfl⟩,?_,fun x hx=>hx⟩
 .have:=hok.lt x hx;omega
 .have:=hok.old x hx;omega
 .intro i b2 r hb2 hr2
  match i,hb2,hr2 with
  |0,hb2,hr2=>
   simp at hb2 hr2
   subst hb2;subst hr2
   refine ⟨hA,_,hnew,by rw [hsz,hyl];exact c2,by rw [hsz];exact c3,fun j hj=>?_,trivial⟩
   have hj':j<d'.size:=by omega
   refine ⟨enE d'[j],?_,?_⟩
   .rw [putCells_get _ _ _ _ hj' (by omega),getElem!_pos d' j hj']
   .have e3:yss[j]=d'[j].1.2:=by simp [<-hys]
    rw [e3]
    exact Rd.ext (fun k hk hlt=>⟨hold k hlt (fun e=>hA (e ▸ hk)),hk⟩) (.sl .int) _ _ d'[j].2.2
  |i+1,hb2,_=>simp at hb2
 .intro k hk hkb
  exact hold k hk (by simpa using hkb)
 .intro x hx cur2 e2 hc2
  simp at hx;subst hx
  rw [hc] at hc2;cases hc2
  exact ⟨_,hnew,hsz⟩
end Go.Proofs.YtacjiemkbhhhoaaGreatDoor
namespace Go.Proofs.YtacjiemkbhhhoaaGreatDoor
open Go Go.Proofs.YtacjiemkbhhhoaaGreatDoor.Ow
theorem shr_eq (g i:Nat) (hi:i<=64):((g / 2 ^ i:Nat):Int)=((g:Nat):Int).fdiv (2 ^ (min ((i:Nat):Int).toNat 64)):=by
 rw [Int.toNat_natCast,Nat.min_eq_left hi,Int.natCast_ediv,Int.natCast_pow]
 rw [Int.fdiv_eq_ediv_of_nonneg _ (by exact Int.pow_nonneg (by decide))]
 rfl
theorem ofInt_nat (x:Nat) (h:x<4611686018427387904):(BitVec.ofInt 64 ((x:Nat):Int)).toNat=x:=by
 rw [BitVec.toNat_ofInt]
 omega
theorem and1_eq (x:Nat) (h:x<4611686018427387904):((x % 2:Nat):Int)=w64 ((BitVec.ofInt 64 ((x:Nat):Int) &&& BitVec.ofInt 64 1).toNat:Nat):=by
 rw [BitVec.toNat_and,ofInt_nat x h,show (BitVec.ofInt 64 1).toNat=1 from rfl,Nat.and_one_is_mod]
 exact w64_in _ (by omega) (by omega)
theorem shl_eq (i:Nat) (hi:i<=40):((2 ^ i:Nat):Int)=w64 (1*2 ^ (min ((i:Nat):Int).toNat 64)):=by
 have hp:2 ^ i<=2 ^ 40:=Nat.pow_le_pow_right (by omega) hi
 have e:((2 ^ i:Nat):Int)=1*2 ^ (min ((i:Nat):Int).toNat 64):=by
  rw [Int.toNat_natCast,Nat.min_eq_left (by omega),Int.one_mul,Int.natCast_pow]
  rfl
 exact w64_eq e (Int.le_trans (by decide) (Int.natCast_nonneg _)) (Int.le_trans (Int.ofNat_le.2 hp) (by decide))
def bt (g i:Nat):Bool:=decide (g / 2 ^ i % 2=1)
theorem bt_shr (g i:Nat):((g / 2 ^ i % 2:Nat):Int)=1 ↔ bt g i=true:=by
 unfold bt;rw [decide_eq_true_iff];omega
def bsI (xss:List (List Int)) (p:List Int):Nat->Nat->Nat->Nat
 |0,i,_=>i
 |f+1,i,j=>if i<j then (if cmpI (xss.getD ((i+j) / 2) []) p<0 then bsI xss p f ((i+j) / 2+1) j else bsI xss p f i ((i+j) / 2)) else i
def bsN (xss:List (List Int)) (p:List Int):Nat:=bsI xss p xss.length 0 xss.length
def findI (xss:List (List Int)) (p:List Int):Int:=if bsN xss p<xss.length/\xss.getD (bsN xss p) []=p then (bsN xss p:Nat) else-1
def subL (n:Nat):Nat->Nat->List (List Int)
 |0,_=>[[]]
 |k+1,from_=>(List.range' from_ (n-from_)).flatMap fun a=>(subL n k (a+1)).map fun l=>(a:Int)::l
def subP (n k from_ a:Nat):List (List Int):=(List.range' from_ (a-from_)).flatMap fun a=>(subL n k (a+1)).map fun l=>(a:Int)::l
theorem subP_all (n k from_:Nat):subP n k from_ n=subL n (k+1) from_:=rfl
theorem subP_s (n k from_ a:Nat) (h:from_<=a):subP n k from_ (a+1)=subP n k from_ a++(subL n k (a+1)).map fun l=>(a:Int)::l:=by
 unfold subP
 rw [show a+1-from_=(a-from_)+1 by omega,List.range'_concat,List.flatMap_append]
 simp [show from_+(a-from_)=a by omega]
theorem subP_len:∀n,n<6->∀k,k<3->∀f,f<7->∀a,a<6->(subP n k f a).length<=32/\(subL n k f).length<=32:=by decide
theorem subL_el (n:Nat):∀k,k<3->∀f j,((subL n k f).getD j []).length<=1048576:=by
 have h:∀k f,∀l∈subL n k f,l.length=k:=by
  intro k
  induction k with
  |zero=>intro f l hl;simp [subL] at hl;rw [hl];rfl
  |succ k ih=>
   intro f l hl
   rw [subL] at hl
   obtain ⟨a,_,ha⟩:=List.mem_flatMap.1 hl
   obtain ⟨l',hl',rfl⟩:=List.mem_map.1 ha
   rw [List.length_cons,ih _ _ hl']
 intro k hk f j
 by_cases hj:j<(subL n k f).length
 .rw [getD_get _ _ _ hj,h k f _ (List.getElem_mem hj)];omega
 .rw [List.getD_eq_getElem?_getD,List.getElem?_eq_none (by omega)];simp
def pairsL (n:Nat):List (List Int):=subL n 2 0
def bitsL (n s:Nat):List Int:=((List.range n).filter fun i=>bt s i).map fun (i:Nat)=>(i:Int)
def subsS (n k S:Nat):List (List Int):=((List.range S).map fun s=>bitsL n s).filter fun l=>l.length=k
theorem bitsL_yes (n s:Nat) (h:bt s n=true):bitsL (n+1) s=bitsL n s++[(n:Int)]:=by
 unfold bitsL
 rw [List.range_succ,List.filter_append,List.map_append]
 simp [h]
theorem bitsL_no (n s:Nat) (h:¬bt s n=true):bitsL (n+1) s=bitsL n s:=by
 unfold bitsL
 rw [List.range_succ,List.filter_append,List.map_append]
 simp [h]
theorem bitsL_len (n s:Nat):(bitsL n s).length<=n:=by
 unfold bitsL
 rw [List.length_map]
 exact Nat.le_trans (List.length_filter_le _ _) (by simp)
theorem subsS_yes (n k s:Nat) (h:(bitsL n s).length=k):subsS n k (s+1)=subsS n k s++[bitsL n s]:=by
 unfold subsS
 rw [List.range_succ,List.map_append,List.filter_append]
 simp [h]
theorem subsS_no (n k s:Nat) (h:¬(bitsL n s).length=k):subsS n k (s+1)=subsS n k s:=by
 unfold subsS
 rw [List.range_succ,List.map_append,List.filter_append]
 simp [h]
theorem subsS_len (n k S:Nat):(subsS n k S).length<=S:=by
 unfold subsS
 exact Nat.le_trans (List.length_filter_le _ _) (by simp)
theorem pairs_perm:∀n,n<6->2<=n->(pairsL n).Perm (subsS n 2 (2 ^ n)):=by decide
theorem pairs_sorted:∀n,n<6->(pairsL n).Pairwise fun x y=>¬cmpI y x<0:=by decide
theorem pairs_ne:∀n,n<6->2<=n->subsS n 2 (2 ^ n)≠[]/\(∀xs∈subsS n 2 (2 ^ n),xs≠[]/\xs.length<=1048576):=by decide
theorem pairs_get:∀n,n<6->∀l∈pairsL n,l.length=2/\0<=l.getD 0 0/\l.getD 0 0<l.getD 1 0/\l.getD 1 0<(n:Int):=by decide
def cp (n:Nat):Nat:=n*(n-1) / 2
theorem cp_le:∀n,n<6->cp n<=10/\n*(n-1)<=20/\2 ^ cp n<=1024:=by decide
def mnI (a b:Int):Int:=if b<a then b else a
def mxI (a b:Int):Int:=if a<b then b else a
def pixF (xss:List (List Int)) (mn mx:Int) (k:Nat):Nat->Nat
 |0=>0
 |f+1=>if (xss.getD k []).getD 0 0=mn/\(xss.getD k []).getD 1 0=mx then k else pixF xss mn mx (k+1) f
theorem pix_find:∀n,n<6->∀j,j<n->∀i,i<j->findI (pairsL n) [(i:Int),(j:Int)]=(pixF (pairsL n) (i:Int) (j:Int) 0 (pairsL n).length:Nat):=by decide
theorem find_b (xss:List (List Int)) (p:List Int):findI xss p= -1\/∃i:Nat,i<xss.length/\findI xss p=(i:Nat):=by
 unfold findI
 split
 .rename_i h;exact .inr ⟨_,h.1,rfl⟩
 .exact .inl rfl
theorem u64w (x:Int) (h1:0<=x) (h2:x<=9223372036854775807):x=IntKind.u64.wrap x:=by
 simp only [IntKind.wrap,IntKind.bits,IntKind.signed]
 simp
 omega
theorem slices_BSF (sh s2:Bool) (xss:List (List Int)) (p:List Int) (hl:xss.length<=1048576) (hx:∀i,i<xss.length->(xss.getD i []).length<=1048576) (hp:p.length<=1048576):
 AC Tryz.prog 261 [.d sh (.sl (.sl .int)) xss,.d s2 (.sl .int) p,.fn 141 []] [] [I (bsN xss p:Nat),.d true .bool (decide (bsN xss p<xss.length/\xss.getD (bsN xss p) []=p))] []:=by
 refine AC_of tauOk 49 0 [6,7] Tryz.func261 rfl (by kernel_rfl) rfl rfl rfl rfl rfl ?_
 refine ⟨Nat × Nat × Nat,fun i=>⟨[(0,.d sh (.sl (.sl .int)) xss),(1,.d s2 (.sl .int) p),(2,.fn 141 []),(8,I xss.length),(9,I (i.1:Nat)),(10,I (i.2.1:Nat))],[]⟩,
  fun i=>(i.1<=i.2.1/\i.2.1<=xss.length)/\i.2.1-i.1<=i.2.2/\bsI xss p i.2.2 i.1 i.2.1=bsN xss p,fun i=>i.2.2,(0,xss.length,xss.length),⟨⟨Nat.zero_le _,Nat.le_refl _⟩,Nat.le_refl _,rfl⟩,
  ⟨⟨rfl,rfl⟩,⟨rfl,rfl,rfl,rfl,rfl,rfl,trivial⟩,trivial⟩,?_⟩
 rintro ⟨i,j,f⟩ ⟨⟨h1,h2⟩,h3,h4⟩
 dsimp only at h1 h2 h3 h4
 refine ⟨fun h5=>?_,fun h5=>?_⟩
 .dsimp only at h5
  have hij:i<j:=by omega
  obtain ⟨f',rfl⟩:∃f',f=f'+1:=⟨f-1,by omega⟩
  rw [bsI,if_pos hij] at h4
  refine ⟨((i+j:Nat):Int),w64_eq (by dsimp only;omega) (by omega) (by omega),?_⟩
  refine ⟨_,u64w _ (by omega) (by omega),by decide,(((i+j) / 2:Nat):Int),shr_eq (i+j) 1 (by decide),?_⟩
  refine ⟨_,w64_in _ (by omega) (by omega),?_⟩
  have hm:(i+j) / 2<xss.length:=by omega
  refine ⟨(i+j) / 2,rfl,hm,[],false,_,_,slices_Compare_int sh s2 (xss.getD ((i+j) / 2) []) p (hx _ hm) hp,nd0,rfl,rfl,trivial,fun h6=>?_,fun h6=>?_⟩
  .rw [if_pos h6] at h4
   refine ⟨(((i+j) / 2+1:Nat):Int),w64_eq (by omega) (by omega) (by omega),?_⟩
   exact ⟨((i+j) / 2+1,j,f'),⟨⟨by dsimp only;omega,h2⟩,by dsimp only;omega,h4⟩,by dsimp only;omega,⟨rfl,rfl⟩,⟨rfl,rfl,rfl,rfl,rfl,rfl,trivial⟩,trivial⟩
  .rw [if_neg h6] at h4
   exact ⟨(i,(i+j) / 2,f'),⟨⟨by dsimp only;omega,by dsimp only;omega⟩,by dsimp only;omega,h4⟩,by dsimp only;omega,⟨rfl,rfl⟩,⟨rfl,rfl,rfl,rfl,rfl,rfl,trivial⟩,trivial⟩
 .dsimp only at h5
  have hb:bsN xss p=i:=by
   rw [<-h4]
   cases f with
   |zero=>rfl
   |succ f=>rw [bsI,if_neg (by omega)]
  refine ⟨fun h6=>?_,fun h6=>?_⟩
  .have hi:i<xss.length:=by dsimp only at h6;omega
   refine ⟨i,rfl,hi,[],false,_,_,slices_Compare_int sh s2 (xss.getD i []) p (hx _ hi) hp,nd0,rfl,rfl,trivial,fun h7=>?_,fun h7=>?_⟩
   .exact ⟨none,⟨retI (by rw [hb]),retB (by rw [hb,decide_eq_true ⟨hi,cmpI_eq _ _ h7⟩]),trivial⟩,rfl,rfl⟩
   .exact ⟨none,⟨retI (by rw [hb]),retB (by rw [hb,decide_eq_false (fun e=>h7 (by rw [e.2,cmpI_refl]))]),trivial⟩,rfl,rfl⟩
  .exact ⟨none,⟨retI (by rw [hb]),retB (by rw [hb,decide_eq_false (fun e=>h6 (by have:=e.1;dsimp only;omega))]),trivial⟩,rfl,rfl⟩
theorem impl_indexOf (sh s2:Bool) (xss:List (List Int)) (p:List Int) (hl:xss.length<=1048576) (hx:∀i,i<xss.length->(xss.getD i []).length<=1048576) (hp:p.length<=1048576):
 AC Tryz.prog 158 [.d sh (.sl (.sl .int)) xss,.d s2 (.sl .int) p] [] [I (findI xss p)] []:=by
 refine AC_of tauOk 16 0 [4] Tryz.func158 rfl (by kernel_rfl) rfl rfl rfl rfl rfl ?_
 refine ⟨[],false,_,_,slices_BSF sh s2 xss p hl hx hp,nd0,rfl,rfl,trivial,fun h=>?_,fun h=>?_⟩
 .exact ⟨none,⟨retI (by rw [findI,if_pos (of_decide_eq_true h)]),trivial⟩,rfl,rfl⟩
 .exact ⟨none,⟨retI (by rw [findI,if_neg (of_decide_eq_false h)]),trivial⟩,rfl,rfl⟩
theorem impl_isVertices (n:Int):AC Tryz.prog 187 [I n] [] [.d true .bool (decide (1<=n/\n<=5))] []:=by
 refine AC_of tauOk 9 0 [2] Tryz.func187 rfl (by kernel_rfl) rfl rfl rfl rfl rfl ?_
 refine ⟨fun h=>?_,fun h=>?_⟩
 .refine ⟨fun h2=>?_,fun h2=>?_⟩
  .exact ⟨none,⟨retB (decide_eq_true ⟨h,h2⟩),trivial⟩,rfl,rfl⟩
  .exact ⟨none,⟨retB (decide_eq_false fun e=>h2 e.2),trivial⟩,rfl,rfl⟩
 .exact ⟨none,⟨retB (decide_eq_false fun e=>h e.1),trivial⟩,rfl,rfl⟩
theorem impl_countPairs (n:Nat) (h1:1<=n) (h5:n<6):AC Tryz.prog 188 [I (n:Nat)] [] [I (cp n:Nat)] []:=by
 have hb:=cp_le n h5
 refine AC_of tauOk 8 0 [2] Tryz.func188 rfl (by kernel_rfl) rfl rfl rfl rfl rfl ?_
 refine ⟨((n-1:Nat):Int),w64_eq (by omega) (by omega) (by omega),((n*(n-1):Nat):Int),w64_eq (Int.natCast_mul _ _) (by omega) (by omega),by decide,((cp n:Nat):Int),w64_eq (Int.ofNat_tdiv _ _) (by omega) (by omega),?_⟩
 exact ⟨none,⟨rfl,trivial⟩,rfl,rfl⟩
theorem spec_l11Pairs (n:Nat) (h1:1<=n) (h5:n<6):AC Tryz.prog 237 [I (n:Nat)] [] [I (cp n:Nat)] []:=by
 have hb:=cp_le n h5
 refine AC_of tauOk 8 0 [2] Tryz.func237 rfl (by kernel_rfl) rfl rfl rfl rfl rfl ?_
 refine ⟨((n-1:Nat):Int),w64_eq (by omega) (by omega) (by omega),((n*(n-1):Nat):Int),w64_eq (Int.natCast_mul _ _) (by omega) (by omega),by decide,((cp n:Nat):Int),w64_eq (Int.ofNat_tdiv _ _) (by omega) (by omega),?_⟩
 exact ⟨none,⟨rfl,trivial⟩,rfl,rfl⟩
theorem spec_l04Subsets (n:Nat) (hn:n<6):∀(k from_:Nat),k<3->from_<7->AC Tryz.prog 365 [I (from_:Nat),I (n:Nat),I (k:Nat)] [] [.ow 0] [.sl 29 (.sl .int) (subL n k from_)]
 |0,from_,_,_=>by
  refine AC_of tauOk 42 0 [6] Tryz.func365 rfl (by kernel_rfl) rfl rfl rfl rfl rfl ?_
  refine ⟨fun h=>?_,fun h=>(h rfl).elim⟩
  refine ⟨rfl,by decide,false,rfl,by decide,true,?_⟩
  exact ⟨some 0,⟨⟨rfl,rfl⟩,trivial⟩,⟨rfl,rfl⟩,rfl⟩
 |k+1,from_,hk,hf=>by
  refine AC_of tauOk 42 0 [6] Tryz.func365 rfl (by kernel_rfl) rfl rfl rfl rfl rfl ?_
  refine ⟨fun h=>by omega,fun h=>?_⟩
  refine ⟨rfl,by decide,true,?_⟩
  refine ⟨Nat,fun a=>⟨[(1,I (n:Nat)),(2,I (k+1:Nat)),(7,.ow 0),(8,I (a:Nat))],[.sl 29 (.sl .int) (subP n k from_ a)]⟩,fun a=>from_<=a/\(a<=n\/a=from_),fun a=>n-a,from_,⟨Nat.le_refl _,.inr rfl⟩,
   ⟨⟨rfl,rfl⟩,⟨rfl,rfl,rfl,rfl,trivial⟩,rowE (by unfold subP;rw [Nat.sub_self];rfl),trivial⟩,fun a ⟨ha,ha2⟩=>?_⟩
  refine ⟨fun h2=>?_,fun h2=>?_⟩
  .have han:a<n:=by omega
   have hb:=subP_len n hn k (by omega) from_ hf a (by omega)
   have hb2:=(subP_len n hn k (by omega) (a+1) (by omega) 0 (by decide)).2
   refine ⟨((a+1:Nat):Int),w64_eq (by omega) (by omega) (by omega),((k:Nat):Int),w64_eq (by omega) (by omega) (by omega),?_⟩
   refine ⟨[],true,_,_,spec_l04Subsets n hn k (a+1) (by omega) (by omega),nd0,rfl,rfl,trivial,?_⟩
   refine ⟨Nat,fun j=>⟨[(1,I (n:Nat)),(2,I (k+1:Nat)),(7,.ow 0),(8,I (a:Nat)),(27,.d true (.sl (.sl .int)) (subL n k (a+1))),(28,I (subL n k (a+1)).length),(29,I (j:Nat))],[.sl 29 (.sl .int) (subP n k from_ a++((subL n k (a+1)).take j).map fun l=>(a:Int)::l)]⟩,
    fun j=>j<=(subL n k (a+1)).length,fun j=>(subL n k (a+1)).length-j,0,Nat.zero_le _,⟨⟨rfl,rfl⟩,⟨rfl,rfl,rfl,rfl,rfl,rfl,rfl,trivial⟩,rowE (by simp),trivial⟩,fun j hj=>?_⟩
   dsimp only at hj
   refine ⟨fun h3=>?_,fun h3=>?_⟩
   .have hj2:j<(subL n k (a+1)).length:=by omega
    have e:((subL n k (a+1)).take (j+1)).map (fun l=>(a:Int)::l)=((subL n k (a+1)).take j).map (fun l=>(a:Int)::l)++[(a:Int)::(subL n k (a+1)).getD j []]:=by
     rw [L_succ _ _ [] hj2,List.map_append];rfl
    have hll:((subL n k (a+1)).getD j []).length<=1048576:=subL_el n k (by omega) (a+1) j
    refine ⟨j,rfl,hj2,?_⟩
    refine ⟨rfl,by decide,true,?_⟩
    refine ⟨rfl,Nat.zero_le _,rfl,by dsimp only [List.length_cons,List.length_nil];omega,rfl,?_⟩
    refine ⟨rfl,rfl,by decide,false,?_⟩
    refine ⟨rfl,Nat.zero_le _,rfl,by simp only [List.length_append,List.length_map,List.length_take,List.length_cons,List.length_nil];omega,rfl,?_⟩
    exact ⟨((j+1:Nat):Int),w64_eq (by omega) (by omega) (by omega),j+1,by dsimp only;omega,by dsimp only;omega,⟨rfl,rfl⟩,⟨rfl,rfl,rfl,rfl,rfl,rfl,rfl,trivial⟩,rowE (by rw [e,<-List.append_assoc];rfl),trivial⟩
   .obtain rfl:j=(subL n k (a+1)).length:=by omega
    refine ⟨((a+1:Nat):Int),w64_eq (by omega) (by omega) (by omega),?_⟩
    exact ⟨a+1,⟨by omega,by omega⟩,by dsimp only;omega,⟨rfl,rfl⟩,⟨rfl,rfl,rfl,rfl,trivial⟩,rowE (by rw [List.take_length,subP_s n k from_ a ha]),trivial⟩
  .have e:subP n k from_ a=subL n (k+1) from_:=by
    rw [<-subP_all]
    unfold subP
    rcases ha2 with h|h
    .rw [show a=n by omega]
    .rw [show a-from_=0 by omega,show n-from_=0 by omega]
   exact ⟨some 0,⟨⟨rfl,rfl⟩,trivial⟩,⟨rfl,rowsE e⟩,rfl⟩
theorem impl_SubsetsOf (n:Nat) (h2:2<=n) (hn:n<6):AC Tryz.prog 320 [I (n:Nat),I 2] [] [.ow 0] [.sl 29 (.sl .int) (pairsL n)]:=by
 have hp:2 ^ n<=32:=by
  have:∀n,n<6->2 ^ n<=32:=by decide
  exact this n hn
 refine AC_of tauOk 57 0 [4] Tryz.func320 rfl (by kernel_rfl) rfl rfl rfl rfl rfl ?_
 refine ⟨fun h=>by omega,fun h=>?_⟩
 refine ⟨fun h=>by omega,fun h=>?_⟩
 refine ⟨fun h=>by omega,fun h=>?_⟩
 refine ⟨fun h=>by omega,fun h=>?_⟩
 refine ⟨rfl,by decide,true,?_⟩
 refine ⟨Int.natCast_nonneg _,((2 ^ n:Nat):Int),shl_eq n (by omega),?_⟩
 refine ⟨Nat,fun k=>⟨[(0,I (n:Nat)),(1,I 2),(5,.ow 0),(26,I (2 ^ n:Nat)),(27,I (k:Nat))],[.sl 29 (.sl .int) (subsS n 2 k)]⟩,fun k=>k<=2 ^ n,fun k=>2 ^ n-k,0,Nat.zero_le _,
  ⟨⟨rfl,rfl⟩,⟨rfl,rfl,rfl,rfl,rfl,trivial⟩,rfl,trivial⟩,fun k hk=>?_⟩
 dsimp only at hk
 have hl:=subsS_len n 2 k
 refine ⟨fun h3=>?_,fun h3=>?_⟩
 .have hk2:k<2 ^ n:=by omega
  refine ⟨rfl,by decide,true,?_⟩
  refine ⟨Nat,fun j=>⟨[(0,I (n:Nat)),(1,I 2),(5,.ow 0),(26,I (2 ^ n:Nat)),(27,I (k:Nat)),(6,I (k:Nat)),(7,.ow 1),(31,I (n:Nat)),(32,I (j:Nat))],[.sl 29 (.sl .int) (subsS n 2 k),.sl 3 .int (bitsL j k)]⟩,fun j=>j<=n,fun j=>n-j,0,Nat.zero_le _,
   ⟨⟨rfl,rfl⟩,⟨rfl,rfl,rfl,rfl,rfl,rfl,rfl,rfl,rfl,trivial⟩,rfl,rfl,trivial⟩,fun j hj=>?_⟩
  dsimp only at hj
  have hbl:=bitsL_len j k
  refine ⟨fun h4=>?_,fun h4=>?_⟩
  .have hj2:j<n:=by omega
   refine ⟨Int.natCast_nonneg _,((k / 2 ^ j:Nat):Int),shr_eq k j (by omega),?_⟩
   have hkd:k / 2 ^ j<=k:=Nat.div_le_self _ _
   refine ⟨((k / 2 ^ j % 2:Nat):Int),and1_eq _ (by omega),fun h5=>?_,fun h5=>?_⟩
   .refine ⟨rfl,by decide,false,?_⟩
    refine ⟨rfl,Nat.zero_le _,rfl,by simp only [List.length_cons,List.length_nil];omega,rfl,?_⟩
    exact ⟨((j+1:Nat):Int),w64_eq (by omega) (by omega) (by omega),j+1,by dsimp only;omega,by dsimp only;omega,⟨rfl,rfl⟩,⟨rfl,rfl,rfl,rfl,rfl,rfl,rfl,rfl,rfl,trivial⟩,rfl,rowE (bitsL_yes j k ((bt_shr k j).1 h5)).symm,trivial⟩
   .exact ⟨((j+1:Nat):Int),w64_eq (by omega) (by omega) (by omega),j+1,by dsimp only;omega,by dsimp only;omega,⟨rfl,rfl⟩,⟨rfl,rfl,rfl,rfl,rfl,rfl,rfl,rfl,rfl,trivial⟩,rfl,rowE (bitsL_no j k (fun e=>h5 ((bt_shr k j).2 e))).symm,trivial⟩
  .obtain rfl:j=n:=by omega
   refine ⟨fun h5=>?_,fun h5=>?_⟩
   .refine ⟨rfl,rfl,by decide,false,?_⟩
    refine ⟨rfl,Nat.zero_le _,rfl,by simp only [List.length_cons,List.length_nil];omega,rfl,?_⟩
    exact ⟨((k+1:Nat):Int),w64_eq (by omega) (by omega) (by omega),k+1,by dsimp only;omega,by dsimp only;omega,⟨rfl,rfl⟩,⟨rfl,rfl,rfl,rfl,rfl,trivial⟩,rowE (subsS_yes _ 2 k (by omega)).symm,trivial⟩
   .exact ⟨((k+1:Nat):Int),w64_eq (by omega) (by omega) (by omega),k+1,by dsimp only;omega,by dsimp only;omega,⟨rfl,rfl⟩,⟨rfl,rfl,rfl,rfl,rfl,trivial⟩,rowE (subsS_no _ 2 k (fun e=>h5 (by omega))).symm,trivial⟩
 .obtain rfl:k=2 ^ n:=by omega
  have hne:=pairs_ne n hn h2
  refine ⟨[0],false,_,_,slices_SortFunc_ints 29 (subsS n 2 (2 ^ n)) (pairsL n) (by omega) hne.1 hne.2 (pairs_perm n hn h2) (pairs_sorted n hn),by decide,rfl,rfl,⟨⟨(pairs_perm n hn h2).length_eq,rfl,rfl⟩,trivial⟩,?_⟩
  exact ⟨some 0,⟨⟨rfl,rfl⟩,trivial⟩,⟨rfl,rfl⟩,rfl⟩
theorem impl_PairsOf (n:Nat) (h2:2<=n) (hn:n<6):AC Tryz.prog 250 [I (n:Nat)] [] [.ow 0] [.sl 29 (.sl .int) (pairsL n)]:=by
 refine AC_of tauOk 11 0 [2] Tryz.func250 rfl (by kernel_rfl) rfl rfl rfl rfl rfl ?_
 refine ⟨fun h=>by omega,fun h=>?_⟩
 refine ⟨fun h=>by omega,fun h=>?_⟩
 refine ⟨[],false,_,_,impl_SubsetsOf n h2 hn,nd0,rfl,rfl,trivial,?_⟩
 exact ⟨some 0,⟨⟨rfl,rfl⟩,trivial⟩,⟨rfl,rfl⟩,rfl⟩
theorem pairs_short (n:Nat) (hn:n<6):(pairsL n).length<=10/\∀i,i<(pairsL n).length->((pairsL n).getD i []).length=2/\0<=((pairsL n).getD i []).getD 0 0/\((pairsL n).getD i []).getD 0 0<((pairsL n).getD i []).getD 1 0/\((pairsL n).getD i []).getD 1 0<(n:Int):=by
 have h1:∀n,n<6->(pairsL n).length<=10:=by decide
 refine ⟨h1 n hn,fun i hi=>?_⟩
 rw [getD_get _ _ _ hi]
 exact pairs_get n hn _ (List.getElem_mem hi)
end Go.Proofs.YtacjiemkbhhhoaaGreatDoor
