/-
  Part 9 of the texts that the claim rests on: Wsp2, Wsp3, Wnke, Wsp4, Wsp5, Wsp6, Wsp7, Wsp8, Wsp9, Wspa, Wsp1, Wspc.
  No condition beyond the given program.
-/
import Derived.Test.YtacjiemkbhhhoaaGreatDoorJh
set_option linter.unusedVariables false
set_option linter.unusedSimpArgs false
namespace Go.Proofs.YtacjiemkbhhhoaaGreatDoor
open Go Go.Proofs.YtacjiemkbhhhoaaGreatDoor.Ow
theorem spec_l02Gcd (a b:Nat) (ha:a<=1048576) (hb:b<=1048576):AC Tryz.prog 297 [I (a:Nat),I (b:Nat)] [] [I (Nat.gcd a b:Nat)] []:=by
 refine AC_of tauOk 14 0 [4] Tryz.func297 rfl (by kernel_rfl) rfl rfl rfl rfl rfl ?_
 refine ⟨Nat × Nat,fun i=>⟨[(0,I (i.1:Nat)),(1,I (i.2:Nat))],[]⟩,fun i=>i.1<=1048576/\i.2<=1048576/\Nat.gcd i.1 i.2=Nat.gcd a b,fun i=>i.2,(a,b),⟨ha,hb,rfl⟩,
  ⟨⟨rfl,rfl⟩,⟨rfl,rfl,trivial⟩,trivial⟩,?_⟩
 rintro ⟨x,y⟩ ⟨hx,hy,hg⟩
 dsimp only at hx hy hg
 refine ⟨fun h1=>?_,fun h1=>?_⟩
 .dsimp only at h1
  have hm:=Nat.mod_lt x (show y>0 by omega)
  refine ⟨by dsimp only;omega,((x % y:Nat):Int),Int.ofNat_tmod x y,?_⟩
  exact ⟨(y,x % y),⟨hy,by dsimp only;omega,by dsimp only;rw [gcd_mod,hg]⟩,by dsimp only;omega,⟨rfl,rfl⟩,⟨rfl,rfl,trivial⟩,trivial⟩
 .dsimp only at h1
  obtain rfl:y=0:=by omega
  rw [Nat.gcd_zero_right] at hg
  exact ⟨none,⟨retI (by rw [<-hg]),trivial⟩,rfl,rfl⟩
theorem spec_Totient (n:Nat) (h1:1<=n) (h2:n<=1000):AC Tryz.prog 229 [I (n:Nat)] [] [I (totS n n:Nat)] []:=by
 have hle:=totS_le n
 refine AC_of tauOk 20 0 [2] Tryz.func229 rfl (by kernel_rfl) rfl rfl rfl rfl rfl ?_
 refine ⟨[],false,_,_,spec_l01In _ _ _,nd0,rfl,rfl,trivial,fun _=>?_,fun h=>by simp only [Bool.and_eq_false_iff,decide_eq_false_iff_not] at h;omega⟩
 refine ⟨Nat,fun k=>⟨[(0,I (n:Nat)),(3,I (totS n k:Nat)),(4,I ((k+1:Nat):Int))],[]⟩,fun k=>k<=n,fun k=>n-k,0,Nat.zero_le _,
  ⟨⟨rfl,rfl⟩,⟨rfl,rfl,rfl,trivial⟩,trivial⟩,fun k hk=>?_⟩
 dsimp only at hk
 have hlk:=hle k
 refine ⟨fun h3=>?_,fun h3=>?_⟩
 .have hk2:k<n:=by omega
  refine ⟨[],false,_,_,spec_l02Gcd (k+1) n (by omega) (by omega),nd0,rfl,rfl,trivial,fun h4=>?_,fun h4=>?_⟩
  .have e:totS n (k+1)=totS n k+1:=by rw [totS,if_pos (by omega)]
   refine ⟨((totS n (k+1):Nat):Int),w64_eq (by omega) (by omega) (by omega),?_⟩
   exact ⟨((k+1+1:Nat):Int),w64_eq (by omega) (by omega) (by omega),k+1,by dsimp only;omega,by dsimp only;omega,⟨rfl,rfl⟩,⟨rfl,rfl,rfl,trivial⟩,trivial⟩
  .have e:totS n (k+1)=totS n k:=by rw [totS,if_neg (by omega)];rfl
   exact ⟨((k+1+1:Nat):Int),w64_eq (by omega) (by omega) (by omega),k+1,by dsimp only;omega,by dsimp only;omega,⟨rfl,rfl⟩,⟨rfl,retI (by rw [e]),rfl,trivial⟩,trivial⟩
 .obtain rfl:k=n:=by omega
  exact ⟨none,⟨rfl,trivial⟩,rfl,rfl⟩
def msF:Nat->Nat->Int->Nat->Int
 |0,_,out,_=>out
 |f+1,n,out,d=>if n<d then out else if n % d≠0 then msF f n out (d+1) else if (n / d) % d=0 then 0 else msF f (n / d) (-out) (d+1)
theorem ms_mob:∀n,n<11->1<=n->msF 11 n 1 2=mobN n:=by decide+kernel
theorem spec_Mobius (n0:Nat) (h1:1<=n0) (h2:n0<=10):AC Tryz.prog 232 [I (n0:Nat)] [] [I (mobN n0)] []:=by
 have hms:=ms_mob n0 (by omega) h1
 refine AC_of tauOk 27 0 [2] Tryz.func232 rfl (by kernel_rfl) rfl rfl rfl rfl rfl ?_
 refine ⟨[],false,_,_,spec_l01In _ _ _,nd0,rfl,rfl,trivial,fun _=>?_,fun h=>by simp only [Bool.and_eq_false_iff,decide_eq_false_iff_not] at h;omega⟩
 refine ⟨Nat × Nat × Int × Nat,fun i=>⟨[(0,I (i.2.1:Nat)),(3,I i.2.2.1),(4,I (i.2.2.2:Nat))],[]⟩,
  fun i=>msF i.1 i.2.1 i.2.2.1 i.2.2.2=mobN n0/\i.2.1<=10/\2<=i.2.2.2/\i.1+i.2.2.2=13/\(-1<=i.2.2.1/\i.2.2.1<=1),fun i=>i.1,(11,n0,1,2),
  ⟨hms,h2,Nat.le_refl 2,rfl,(by decide:(-1:Int)<=1/\(1:Int)<=1)⟩,
  ⟨⟨rfl,rfl⟩,⟨rfl,rfl,rfl,trivial⟩,trivial⟩,?_⟩
 rintro ⟨f,n,out,d⟩ ⟨hF,hn2,hd1,hf,ho⟩
 dsimp only at hF hn2 hd1 hf ho
 refine ⟨fun h3=>?_,fun h3=>?_⟩
 .dsimp only at h3
  obtain ⟨f',rfl⟩:∃f',f=f'+1:=⟨f-1,by omega⟩
  rw [msF,if_neg (by omega)] at hF
  refine ⟨by dsimp only;omega,((n % d:Nat):Int),Int.ofNat_tmod n d,?_⟩
  refine ⟨fun h4=>?_,fun h4=>?_⟩
  .rw [if_pos (by omega)] at hF
   refine ⟨((d+1:Nat):Int),w64_eq (by dsimp only;omega) (by omega) (by omega),(f',n,out,d+1),⟨hF,hn2,by dsimp only;omega,by dsimp only;omega,ho⟩,by dsimp only;omega,⟨rfl,rfl⟩,⟨rfl,rfl,rfl,trivial⟩,trivial⟩
  .rw [if_neg (by omega)] at hF
   have hnd:n / d<=n:=Nat.div_le_self n d
   have hnn:(0:Int)<=((n / d:Nat):Int):=Int.natCast_nonneg _
   refine ⟨by dsimp only;omega,((n / d:Nat):Int),w64_eq (Int.ofNat_tdiv n d) (Int.le_trans (by decide) hnn) (Int.le_trans (Int.ofNat_le.2 hnd) (by omega)),?_⟩
   refine ⟨by dsimp only;omega,((n / d % d:Nat):Int),Int.ofNat_tmod (n / d) d,?_⟩
   refine ⟨fun h5=>?_,fun h5=>?_⟩
   .rw [if_pos (by omega)] at hF
    exact ⟨none,⟨retI hF.symm,trivial⟩,rfl,rfl⟩
   .rw [if_neg (by omega)] at hF
    refine ⟨-out,by rw [<-w64_in _ (by dsimp only;omega) (by dsimp only;omega)]<;>dsimp only<;>omega,?_⟩
    exact ⟨((d+1:Nat):Int),w64_eq (by dsimp only;omega) (by omega) (by omega),(f',n / d,-out,d+1),⟨hF,by dsimp only;omega,by dsimp only;omega,by dsimp only;omega,⟨by dsimp only;omega,by dsimp only;omega⟩⟩,by dsimp only;omega,⟨rfl,rfl⟩,⟨rfl,rfl,rfl,trivial⟩,trivial⟩
 .dsimp only at h3
  have e:msF f n out d=out:=by
   cases f with
   |zero=>rfl
   |succ f=>rw [msF,if_pos (by omega)]
  exact ⟨none,⟨retI (by rw [<-hF,e]),trivial⟩,rfl,rfl⟩
theorem neck_pos:∀n,n<11->∀k,k<5->1<=n->1<=k->0<=neckI (n:Nat) (k:Nat):=by decide+kernel
theorem neck_neg (n k:Int):(lenB n k=true->0<=neckI n k)/\(lenB n k=false->neckI n k= -1):=by
 refine ⟨fun h=>?_,fun h=>by unfold neckI;rw [h];rfl⟩
 obtain ⟨N,K,rfl,rfl,a1,a2,a3,a4⟩:=lenB_of h
 exact neck_pos N (by omega) K (by omega) a1 a3
theorem spec_CountNecklaces (n k:Int):AC Tryz.prog 124 [I n,I k] [] [I (neckI n k)] []:=by
 refine AC_of tauOk 37 0 [4] Tryz.func124 rfl (by kernel_rfl) rfl rfl rfl rfl rfl ?_
 refine ⟨[],false,_,_,spec_l01In _ _ _,nd0,rfl,rfl,trivial,fun h1=>?_,fun h1=>?_⟩
 .refine ⟨[],false,_,_,spec_l01In _ _ _,nd0,rfl,rfl,trivial,fun h2=>?_,fun h2=>?_⟩
  .have hL:lenB n k=true:=by
    unfold lenB
    simp only [Bool.and_eq_true,decide_eq_true_eq] at h1 h2 ⊢
    omega
   have e:neckI n k=divI (fun d=>(totS d d:Nat)) n.toNat k.toNat:=by rw [neckI,if_pos hL]
   obtain ⟨N,K,rfl,rfl,a1,a2,a3,a4⟩:=lenB_of hL
   rw [Int.toNat_natCast,Int.toNat_natCast] at e
   have hb:=divS_b (tot_b N a2) a2 a4
   have hdb:=divI_b (tot_b N a2) a2 a4
   refine ⟨Nat,fun k=>⟨[(0,I (N:Nat)),(1,I (K:Nat)),(5,I (divS (fun d=>(totS d d:Nat)) N K k)),(6,I ((k+1:Nat):Int))],[]⟩,fun k=>k<=N,fun k=>N-k,0,Nat.zero_le _,
    ⟨⟨rfl,rfl⟩,⟨rfl,rfl,rfl,rfl,trivial⟩,trivial⟩,fun k hk=>?_⟩
   dsimp only at hk
   have hbk:=hb k hk
   refine ⟨fun h3=>?_,fun h3=>?_⟩
   .have hk2:k<N:=by omega
    have hv:=tot_b N a2 (k+1) (by omega) hk2
    have hb1:=hb (k+1) (by omega)
    have hq:N / (k+1)<=10:=Nat.le_trans (Nat.div_le_self _ _) a2
    have hp:K ^ (N / (k+1))<=1048576:=pow_le a4 hq (Nat.le_refl 10)
    have hm:=mulb hv (y:=((K ^ (N / (k+1)):Nat):Int)) ⟨Int.natCast_nonneg _,by omega⟩
    refine ⟨by omega,((N % (k+1):Nat):Int),Int.ofNat_tmod N (k+1),?_⟩
    refine ⟨fun h4=>?_,fun h4=>?_⟩
    .have e:divS (fun d=>(totS d d:Nat)) N K (k+1)=divS (fun d=>(totS d d:Nat)) N K k+((totS (k+1) (k+1):Nat):Int)*((K ^ (N / (k+1)):Nat):Int):=by rw [divS,if_pos (by omega)]
     refine ⟨none,by kernel_rfl,_,_,spec_Totient (k+1) (by omega) (by omega),rfl,by omega,((N / (k+1):Nat):Int),w64_eq (Int.ofNat_tdiv N (k+1)) (Int.le_trans (by decide) (Int.natCast_nonneg _)) (Int.le_trans (Int.ofNat_le.2 hq) (by decide)),_,_,spec_l05Power K (N / (k+1)) a4 hq,rfl,?_⟩
     refine ⟨((totS (k+1) (k+1):Nat):Int)*((K ^ (N / (k+1)):Nat):Int),w64_eq rfl (by omega) (by omega),?_⟩
     refine ⟨divS (fun d=>(totS d d:Nat)) N K (k+1),w64_eq e (by omega) (by omega),?_⟩
     exact ⟨((k+1+1:Nat):Int),w64_eq (by omega) (by omega) (by omega),k+1,by dsimp only;omega,by dsimp only;omega,⟨rfl,rfl⟩,⟨rfl,rfl,rfl,rfl,trivial⟩,trivial⟩
    .have e:divS (fun d=>(totS d d:Nat)) N K (k+1)=divS (fun d=>(totS d d:Nat)) N K k:=by rw [divS,if_neg (by omega),Int.add_zero]
     exact ⟨((k+1+1:Nat):Int),w64_eq (by omega) (by omega) (by omega),k+1,by dsimp only;omega,by dsimp only;omega,⟨rfl,rfl⟩,⟨rfl,rfl,retI (by rw [e]),rfl,trivial⟩,trivial⟩
   .obtain rfl:k=N:=by omega
    refine ⟨by omega,divI (fun d=>(totS d d:Nat)) k K,w64_eq rfl (by omega) (by omega),?_⟩
    exact ⟨none,⟨retI e,trivial⟩,rfl,rfl⟩
  .have hL:lenB n k=false:=by
    cases h:lenB n k with
    |false=>rfl
    |true=>
     unfold lenB at h
     simp only [Bool.and_eq_true,decide_eq_true_eq,Bool.and_eq_false_iff,decide_eq_false_iff_not] at h h2
     omega
   exact ⟨none,⟨retI ((neck_neg n k).2 hL),trivial⟩,rfl,rfl⟩
 .have hL:lenB n k=false:=by
   cases h:lenB n k with
   |false=>rfl
   |true=>
    unfold lenB at h
    simp only [Bool.and_eq_true,decide_eq_true_eq,Bool.and_eq_false_iff,decide_eq_false_iff_not] at h h1
    omega
  exact ⟨none,⟨retI ((neck_neg n k).2 hL),trivial⟩,rfl,rfl⟩
theorem spec_CountLyndon (n k:Int):AC Tryz.prog 126 [I n,I k] [] [I (lynI n k)] []:=by
 refine AC_of tauOk 37 0 [4] Tryz.func126 rfl (by kernel_rfl) rfl rfl rfl rfl rfl ?_
 refine ⟨[],false,_,_,spec_l01In _ _ _,nd0,rfl,rfl,trivial,fun h1=>?_,fun h1=>?_⟩
 .refine ⟨[],false,_,_,spec_l01In _ _ _,nd0,rfl,rfl,trivial,fun h2=>?_,fun h2=>?_⟩
  .have hL:lenB n k=true:=by
    unfold lenB
    simp only [Bool.and_eq_true,decide_eq_true_eq] at h1 h2 ⊢
    omega
   have e:lynI n k=divI mobN n.toNat k.toNat:=by rw [lynI,if_pos hL]
   obtain ⟨N,K,rfl,rfl,a1,a2,a3,a4⟩:=lenB_of hL
   rw [Int.toNat_natCast,Int.toNat_natCast] at e
   have hb:=divS_b (mob_b N) a2 a4
   have hdb:=divI_b (mob_b N) a2 a4
   refine ⟨Nat,fun k=>⟨[(0,I (N:Nat)),(1,I (K:Nat)),(5,I (divS mobN N K k)),(6,I ((k+1:Nat):Int))],[]⟩,fun k=>k<=N,fun k=>N-k,0,Nat.zero_le _,
    ⟨⟨rfl,rfl⟩,⟨rfl,rfl,rfl,rfl,trivial⟩,trivial⟩,fun k hk=>?_⟩
   dsimp only at hk
   have hbk:=hb k hk
   refine ⟨fun h3=>?_,fun h3=>?_⟩
   .have hk2:k<N:=by omega
    have hv:=mob_b N (k+1) (by omega) hk2
    have hb1:=hb (k+1) (by omega)
    have hq:N / (k+1)<=10:=Nat.le_trans (Nat.div_le_self _ _) a2
    have hp:K ^ (N / (k+1))<=1048576:=pow_le a4 hq (Nat.le_refl 10)
    have hm:=mulb hv (y:=((K ^ (N / (k+1)):Nat):Int)) ⟨Int.natCast_nonneg _,by omega⟩
    refine ⟨by omega,((N % (k+1):Nat):Int),Int.ofNat_tmod N (k+1),?_⟩
    refine ⟨fun h4=>?_,fun h4=>?_⟩
    .have e:divS mobN N K (k+1)=divS mobN N K k+mobN (k+1)*((K ^ (N / (k+1)):Nat):Int):=by rw [divS,if_pos (by omega)]
     refine ⟨none,by kernel_rfl,_,_,spec_Mobius (k+1) (by omega) (by omega),rfl,by omega,((N / (k+1):Nat):Int),w64_eq (Int.ofNat_tdiv N (k+1)) (Int.le_trans (by decide) (Int.natCast_nonneg _)) (Int.le_trans (Int.ofNat_le.2 hq) (by decide)),_,_,spec_l05Power K (N / (k+1)) a4 hq,rfl,?_⟩
     refine ⟨mobN (k+1)*((K ^ (N / (k+1)):Nat):Int),w64_eq rfl (by omega) (by omega),?_⟩
     refine ⟨divS mobN N K (k+1),w64_eq e (by omega) (by omega),?_⟩
     exact ⟨((k+1+1:Nat):Int),w64_eq (by omega) (by omega) (by omega),k+1,by dsimp only;omega,by dsimp only;omega,⟨rfl,rfl⟩,⟨rfl,rfl,rfl,rfl,trivial⟩,trivial⟩
    .have e:divS mobN N K (k+1)=divS mobN N K k:=by rw [divS,if_neg (by omega),Int.add_zero]
     exact ⟨((k+1+1:Nat):Int),w64_eq (by omega) (by omega) (by omega),k+1,by dsimp only;omega,by dsimp only;omega,⟨rfl,rfl⟩,⟨rfl,rfl,retI (by rw [e]),rfl,trivial⟩,trivial⟩
   .obtain rfl:k=N:=by omega
    refine ⟨by omega,divI mobN k K,w64_eq rfl (by omega) (by omega),?_⟩
    exact ⟨none,⟨retI e,trivial⟩,rfl,rfl⟩
  .have hL:lenB n k=false:=by
    cases h:lenB n k with
    |false=>rfl
    |true=>
     unfold lenB at h
     simp only [Bool.and_eq_true,decide_eq_true_eq,Bool.and_eq_false_iff,decide_eq_false_iff_not] at h h2
     omega
   exact ⟨none,⟨retI ((by unfold lynI;rw [hL];rfl:lynI n k= -1)),trivial⟩,rfl,rfl⟩
 .have hL:lenB n k=false:=by
   cases h:lenB n k with
   |false=>rfl
   |true=>
    unfold lenB at h
    simp only [Bool.and_eq_true,decide_eq_true_eq,Bool.and_eq_false_iff,decide_eq_false_iff_not] at h h1
    omega
  exact ⟨none,⟨retI ((by unfold lynI;rw [hL];rfl:lynI n k= -1)),trivial⟩,rfl,rfl⟩
theorem spec_CountMirrored (n k:Int):AC Tryz.prog 231 [I n,I k] [] [I (mirI n k)] []:=by
 have hmb:=mir_b n k
 have hnn:=neck_neg n k
 refine AC_of tauOk 28 0 [4] Tryz.func231 rfl (by kernel_rfl) rfl rfl rfl rfl rfl ?_
 refine ⟨[],false,_,_,spec_CountNecklaces n k,nd0,rfl,rfl,trivial,fun h1=>?_,fun h1=>?_⟩
 .have hL:lenB n k=false:=by
   cases h:lenB n k with
   |false=>rfl
   |true=>have:=hnn.1 h;omega
  exact ⟨none,⟨retI (by rw [mirI,hL];rfl),trivial⟩,rfl,rfl⟩
 .have hL:lenB n k=true:=by
   cases h:lenB n k with
   |true=>rfl
   |false=>have:=hnn.2 h;omega
  obtain ⟨N,K,rfl,rfl,a1,a2,a3,a4⟩:=lenB_of hL
  have p2:K ^ (N / 2)<=1048576:=pow_le a4 (show N / 2<=10 by omega) (Nat.le_refl 10)
  have p3:K ^ (N / 2+1)<=1048576:=pow_le a4 (show N / 2+1<=10 by omega) (Nat.le_refl 10)
  refine ⟨by decide,((N % 2:Nat):Int),Int.ofNat_tmod N 2,?_⟩
  refine ⟨fun h3=>?_,fun h3=>?_⟩
  .have e:mirI (N:Int) (K:Int)=((K ^ ((N+1) / 2):Nat):Int):=by rw [mirI,if_pos hL,Int.toNat_natCast,Int.toNat_natCast,if_pos (by omega)]
   refine ⟨((N+1:Nat):Int),w64_eq (by omega) (by omega) (by omega),?_⟩
   refine ⟨by decide,(((N+1) / 2:Nat):Int),w64_eq (Int.ofNat_tdiv (N+1) 2) (by omega) (by omega),?_⟩
   refine ⟨[],false,_,_,spec_l05Power K ((N+1) / 2) a4 (by omega),nd0,rfl,rfl,trivial,?_⟩
   exact ⟨none,⟨retI e,trivial⟩,rfl,rfl⟩
  .have e:mirI (N:Int) (K:Int)=(((K ^ (N / 2)+K ^ (N / 2+1)) / 2:Nat):Int):=by rw [mirI,if_pos hL,Int.toNat_natCast,Int.toNat_natCast,if_neg (by omega)]
   refine ⟨by decide,((N / 2:Nat):Int),w64_eq (Int.ofNat_tdiv N 2) (by omega) (by omega),?_⟩
   refine ⟨[],false,_,_,spec_l05Power K (N / 2) a4 (by omega),nd0,rfl,rfl,trivial,?_⟩
   refine ⟨by decide,((N / 2:Nat):Int),w64_eq (Int.ofNat_tdiv N 2) (by omega) (by omega),?_⟩
   refine ⟨((N / 2+1:Nat):Int),w64_eq (by omega) (by omega) (by omega),?_⟩
   refine ⟨[],false,_,_,spec_l05Power K (N / 2+1) a4 (by omega),nd0,rfl,rfl,trivial,?_⟩
   refine ⟨((K ^ (N / 2)+K ^ (N / 2+1):Nat):Int),w64_eq (by omega) (by omega) (by omega),?_⟩
   refine ⟨by decide,(((K ^ (N / 2)+K ^ (N / 2+1)) / 2:Nat):Int),w64_eq (Int.ofNat_tdiv _ 2) (by omega) (by omega),?_⟩
   exact ⟨none,⟨retI e,trivial⟩,rfl,rfl⟩
theorem spec_CountBracelets (n k:Int):AC Tryz.prog 125 [I n,I k] [] [I (bracI n k)] []:=by
 have b1:=neck_b n k
 have b2:=mir_b n k
 have b3:=Int.natAbs_tdiv_le_natAbs (neckI n k+mirI n k) 2
 have hnn:=neck_neg n k
 refine AC_of tauOk 17 0 [4] Tryz.func125 rfl (by kernel_rfl) rfl rfl rfl rfl rfl ?_
 refine ⟨[],false,_,_,spec_CountNecklaces n k,nd0,rfl,rfl,trivial,fun h1=>?_,fun h1=>?_⟩
 .have hL:lenB n k=false:=by
   cases h:lenB n k with
   |false=>rfl
   |true=>have:=hnn.1 h;omega
  exact ⟨none,⟨retI (by rw [bracI,hL];rfl),trivial⟩,rfl,rfl⟩
 .have hL:lenB n k=true:=by
   cases h:lenB n k with
   |true=>rfl
   |false=>have:=hnn.2 h;omega
  refine ⟨[],false,_,_,spec_CountNecklaces n k,nd0,rfl,rfl,trivial,[],false,_,_,spec_CountMirrored n k,nd0,rfl,rfl,trivial,?_⟩
  refine ⟨neckI n k+mirI n k,w64_eq rfl (by omega) (by omega),?_⟩
  refine ⟨by decide,(neckI n k+mirI n k).tdiv 2,w64_eq rfl (by omega) (by omega),?_⟩
  exact ⟨none,⟨retI (by rw [bracI,if_pos hL]),trivial⟩,rfl,rfl⟩
theorem spec_LyndonFactors (sh:Bool) (w:List Int) (hw:ColP w):AC Tryz.prog 113 [.d sh (.sl .int) w] [] [.ow 0,.d true .bool true] [.sl 29 (.sl .int) (lyfL w)]:=by
 have hl:=hw.2
 have hC:=spec_ColoringOk sh w (by omega)
 rw [(colB_iff w).2 hw] at hC
 refine AC_of tauOk 43 0 [2,3] Tryz.func113 rfl (by kernel_rfl) rfl rfl rfl rfl rfl ?_
 refine ⟨[],false,_,_,hC,nd0,rfl,rfl,trivial,fun _=>?_,nofun⟩
 refine ⟨rfl,by decide,true,?_⟩
 refine ⟨Nat × Nat × List (List Int),fun i=>⟨[(0,.d sh (.sl .int) w),(4,.ow 0),(5,I (i.2.1:Nat))],[.sl 29 (.sl .int) i.2.2]⟩,fun i=>lyfF w i.1 i.2.1 i.2.2=lyfL w/\w.length<=i.2.1+i.1/\i.2.1<=w.length/\i.2.2.length<=i.2.1,fun i=>i.1,(w.length,0,[]),⟨rfl,by dsimp only;omega,Nat.zero_le _,Nat.le_refl _⟩,
  ⟨⟨rfl,rfl⟩,⟨rfl,rfl,rfl,trivial⟩,rfl,trivial⟩,?_⟩
 rintro ⟨f,a,out⟩ ⟨hF,hfl,ha,ho⟩
 dsimp only at hF hfl ha ho
 refine ⟨fun h1=>?_,fun h1=>?_⟩
 .dsimp only at h1
  have ha2:a<w.length:=by omega
  obtain ⟨f',rfl⟩:∃f',f=f'+1:=⟨f-1,by omega⟩
  rw [lyfF,if_pos ha2] at hF
  have e1:lyfE w a 1=1:=by have:=lyfE_ok hw a 1 (by omega) (by omega);omega
  refine ⟨((a+lyfE w a 1:Nat):Int),w64_eq (by dsimp only;omega) (by omega) (by omega),((a+1+1:Nat):Int),w64_eq (by dsimp only;omega) (by omega) (by omega),?_⟩
  refine ⟨Nat,fun j=>⟨[(0,.d sh (.sl .int) w),(4,.ow 0),(5,I (a:Nat)),(6,I ((a+lyfE w a j:Nat):Int)),(7,I ((a+j+1:Nat):Int))],[.sl 29 (.sl .int) out]⟩,fun j=>1<=j/\a+j<=w.length,fun j=>w.length-j,1,⟨by omega,by omega⟩,
   ⟨⟨rfl,rfl⟩,⟨rfl,rfl,rfl,rfl,rfl,trivial⟩,rfl,trivial⟩,?_⟩
  rintro j ⟨hj1,hj2⟩
  obtain ⟨he1,he2⟩:=lyfE_ok hw a j hj2 hj1
  refine ⟨fun h2=>?_,fun h2=>?_⟩
  .have hj3:a+(j+1)<=w.length:=by omega
   refine ⟨a,rfl,a+(j+1),rfl,by omega,hj3,?_⟩
   have e2:lyfE w a (j+1)=if lynB (subW w a (j+1))=true then j+1 else lyfE w a j:=rfl
   refine ⟨[],false,_,_,spec_IsLyndon sh (subW w a (j+1)) (subW_col hw a (j+1) hj3 (by omega)),nd0,rfl,rfl,trivial,fun h3=>?_,fun h3=>?_⟩
   .rw [if_pos (show lynB (subW w a (j+1))=true from h3)] at e2
    exact ⟨((a+(j+1)+1:Nat):Int),w64_eq (by omega) (by omega) (by omega),j+1,⟨by omega,hj3⟩,by dsimp only;omega,⟨rfl,rfl⟩,⟨rfl,rfl,rfl,retI (by rw [e2];omega),retI (by omega),trivial⟩,rfl,trivial⟩
   .rw [if_neg (show ¬lynB (subW w a (j+1))=true by unfold lynB;rw [h3];decide)] at e2
    exact ⟨((a+(j+1)+1:Nat):Int),w64_eq (by omega) (by omega) (by omega),j+1,⟨by omega,hj3⟩,by dsimp only;omega,⟨rfl,rfl⟩,⟨rfl,rfl,rfl,retI (by rw [e2]),retI (by omega),trivial⟩,rfl,trivial⟩
  .obtain rfl:j=w.length-a:=by omega
   have hsl:=subW_len w a (lyfE w a (w.length-a)) (by omega)
   refine ⟨rfl,by decide,true,?_⟩
   refine ⟨a,rfl,a+lyfE w a (w.length-a),rfl,by omega,by omega,?_⟩
   refine ⟨rfl,Nat.zero_le _,rfl,by simp only [List.length_nil];have:=hsl;unfold subW at this;omega,rfl,?_⟩
   refine ⟨rfl,rfl,by decide,false,rfl,Nat.zero_le _,rfl,by simp only [List.length_cons,List.length_nil];omega,rfl,?_⟩
   exact ⟨(f',a+lyfE w a (w.length-a),out++[subW w a (lyfE w a (w.length-a))]),⟨hF,by dsimp only;omega,by dsimp only;omega,by simp;omega⟩,by dsimp only;omega,⟨rfl,rfl⟩,⟨rfl,rfl,rfl,trivial⟩,rfl,trivial⟩
 .dsimp only at h1
  have e:lyfF w f a out=out:=by
   cases f with
   |zero=>rfl
   |succ f=>rw [lyfF,if_neg (by omega)]
  exact ⟨some 0,⟨⟨rfl,rfl⟩,rfl,trivial⟩,⟨rfl,rowsE (by rw [<-hF,e])⟩,rfl⟩
end Go.Proofs.YtacjiemkbhhhoaaGreatDoor
set_option maxRecDepth 100000
namespace Go.Proofs.YtacjiemkbhhhoaaGreatDoor
open Go Go.Proofs.YtacjiemkbhhhoaaGreatDoor.Ow
def isNk (w:List Int):Bool:=decide (least w=w)
def chkN (n k:Nat):Bool:=decide (neckL n k=(wordsL k n).filter isNk)
theorem chkN_all:∀n,n<11->∀k,k<5->1<=n->1<=k->k ^ n<=1024->chkN n k=true:=by decide+kernel
theorem neck_kpt {n k:Nat} (h1:1<=n) (hn:n<=10) (hk:1<=k) (hk4:k<=4) (hs:k ^ n<=1024):neckL n k=kptL isNk k n (k ^ n):=by
 have h:=of_decide_eq_true (chkN_all n (by omega) k (by omega) h1 hk hs)
 rw [h,wordsL_eq];rfl
theorem kpt_find (P:List Int->Bool) (k n:Nat):∀(m j:Nat),j<(kptL P k n m).length->∃i,i<m/\P (wrdN k n i)=true/\(kptL P k n i).length=j/\(kptL P k n m).getD j []=wrdN k n i
 |0,j,h=>by simp [kptL] at h
 |m+1,j,h=>by
  by_cases hp:P (wrdN k n m)=true
  .rw [kpt_yes P k n m hp] at h ⊢
   rw [List.length_append,List.length_singleton] at h
   by_cases hj:j=(kptL P k n m).length
   .subst hj
    refine ⟨m,by omega,hp,rfl,?_⟩
    rw [List.getD_eq_getElem?_getD,List.getElem?_append_right (Nat.le_refl _),Nat.sub_self];rfl
   .obtain ⟨i,h1,h2,h3,h4⟩:=kpt_find P k n m j (by omega)
    refine ⟨i,by omega,h2,h3,?_⟩
    rw [List.getD_eq_getElem?_getD,List.getElem?_append_left (by omega),<-List.getD_eq_getElem?_getD,h4]
  .rw [kpt_no P k n m hp] at h ⊢
   obtain ⟨i,h1,h2,h3,h4⟩:=kpt_find P k n m j h
   exact ⟨i,by omega,h2,h3,h4⟩
theorem kpt_mono (P:List Int->Bool) (k n i:Nat):∀m,i<=m->(kptL P k n i).length<=(kptL P k n m).length
 |0,h=>by rw [show i=0 by omega];exact Nat.le_refl _
 |m+1,h=>by
  by_cases e:i=m+1
  .rw [e];exact Nat.le_refl _
  .have:=kpt_mono P k n i m (by omega)
   by_cases hp:P (wrdN k n m)=true
   .rw [kpt_yes P k n m hp,List.length_append];omega
   .rw [kpt_no P k n m hp];exact this
theorem kpt_next (P:List Int->Bool) {k n i i2 j:Nat} (h1:P (wrdN k n i)=true) (h2:(kptL P k n i).length=j) (h3:(kptL P k n i2).length=j+1):i<i2/\∀m,i<m->m<i2->P (wrdN k n m)=false:=by
 have e1:(kptL P k n (i+1)).length=j+1:=by rw [kpt_yes P k n i h1,List.length_append,h2];rfl
 refine ⟨?_,fun m a b=>?_⟩
 .by_cases h:i<i2
  .exact h
  .have:=kpt_mono P k n i2 i (by omega);omega
 .cases hp:P (wrdN k n m) with
  |false=>rfl
  |true=>
   have e2:(kptL P k n (m+1)).length=(kptL P k n m).length+1:=by rw [kpt_yes P k n m hp,List.length_append];rfl
   have e3:=kpt_mono P k n (i+1) m (by omega)
   have e4:=kpt_mono P k n (m+1) i2 (by omega)
   omega
theorem nk_zero (k:Nat):∀n,n<11->isNk (List.replicate n 0)=true:=by decide+kernel
theorem chkC_all:∀n,n<11->∀k,k<5->1<=n->1<=k->k ^ n<=1024->decide (((neckL n k).length:Int)=neckI (n:Nat) (k:Nat))=true:=by decide+kernel
theorem AC.frzb {P:Program} {f:FuncId} {args:List AV} {e:TypeId} {t:Ty} {xs:List t.T} {b1:Bool} (h:AC P f args [] [.ow 0,.d true .bool b1] [.sl e t xs]):
 AC P f args [] [.d true (.sl t) xs,.d true .bool b1] []:=by
 refine ⟨h.1,fun w bs A vs hr hv=>(h.2 w bs A vs hr hv).mono ?_⟩
 rintro ex w' ⟨rv,bs',A',rfl,hrok,⟨vs',hvs,v1,r1,rfl,hx,hrest⟩,hstep,⟨new,rfl⟩,hstay,hup⟩
 have hbs:bs=[]:=List.eq_nil_of_length_eq_zero (by rw [hr.len];rfl)
 subst hbs
 obtain ⟨b,e2,t2,xs2,cur,h1,h2,h3,h4⟩:=hx
 cases h2
 obtain ⟨hA,cur2,c1,c2,c3,c4⟩:=hrok.row 0 b _ h1 rfl
 rw [h3] at c1;cases c1
 have hb:=List.mem_of_getElem? h1
 have hnew:w.heap.size<=b:=by
  rcases hstep.sbs b hb with h|h
  .simp at h
  .exact h
 refine ⟨rv,[],fun x=>A' x\/x=b,rfl,⟨rfl,nd0,fun b hb=>by simp at hb,fun x hx=>?_,fun i b r hb=>by simp at hb⟩,⟨_,hvs,v1,r1,rfl,?_,hrest⟩,⟨hstep.os,hstep.tape,hstep.output,hstep.size,fun k hk _=>hstep.block k hk (by simp),fun b hb=>by simp at hb,fun x hx=>?_⟩,⟨[],rfl⟩,fun b hb=>by simp at hb,fun x hx=>.inl (hup x hx)⟩
 .rcases hx with hx|hx
  .exact hrok.old x hx
  .rw [hx];exact hrok.lt b hb
 .refine ⟨some ⟨b,0,none⟩,cur.size,h4,c2,(fun hh=>by simp at hh),.inr ⟨b,0,rfl,.inr rfl,fun j hj=>?_⟩⟩
  obtain ⟨cv,k1,k2⟩:=c4 j hj
  exact ⟨cv,by rw [Nat.zero_add,cell_of_row w' b j cur _ (0,0) h3];exact k1,Rd.ext (fun b hb _=>⟨rfl,.inl hb⟩) t _ _ k2⟩
 .rcases hx with hx|hx
  .rcases hstep.sA x hx with h|h|h
   .exact .inl h
   .exact .inr (.inl h)
   .simp at h
  .exact .inr (.inl (by rw [hx];exact hnew))
theorem wrd_cN {K N:Nat} (hK:1<=K) (hK4:K<=4) (h1:1<=N) (hN:N<=10) (i:Nat):ColP (wrdN K N i):=by
 have hl:=wrdN_len K N i
 have hg:=wrdN_get K (by omega) N i
 exact ⟨fun j hj=>by have:=hg j (by omega);omega,by omega,by omega⟩
theorem wrd_below {K N:Nat} (hK:1<=K) (i:Nat):belowB (wrdN K N i) (K:Nat)=true:=by
 unfold belowB
 rw [List.all_eq_true]
 intro x hx
 obtain ⟨j,hj,rfl⟩:=List.getElem_of_mem hx
 have:=wrdN_get K (by omega) N i j (by rw [wrdN_len] at hj;exact hj)
 rw [getD_get _ _ _ hj] at this
 exact decide_eq_true this.2
theorem spec_NextNecklace (sh:Bool) (N K i i2:Nat) (hK:1<=K) (hK4:K<=4) (h1:1<=N) (hN:N<=10) (hi:i<i2) (hi2:i2<K ^ N) (hn2:isNk (wrdN K N i2)=true) (hb:∀m,i<m->m<i2->isNk (wrdN K N m)=false):
 AC Tryz.prog 233 [.d sh (.sl .int) (wrdN K N i),I (K:Nat)] [] [.ow 0,.d true .bool true] [.sl 3 .int (wrdN K N i2)]:=by
 have hwl:=wrdN_len K N
 have hwg:=wrdN_get K (by omega) N
 have hnx:=nxt_wrd K (by omega) N
 have hB:=spec_l07Below sh (wrdN K N i) (K:Nat) (by rw [hwl];omega)
 rw [wrd_below hK i,(colB_iff _).2 (wrd_cN hK hK4 h1 hN i),decide_eq_true (show (1:Int)<=(K:Nat) by omega),decide_eq_true (show ((K:Nat):Int)<=4 by omega)] at hB
 refine AC_of tauOk 20 0 [4,5] Tryz.func233 rfl (by kernel_rfl) rfl rfl rfl rfl rfl ?_
 refine ⟨[],false,_,_,hB,nd0,rfl,rfl,trivial,fun _=>?_,nofun⟩
 refine ⟨rfl,by decide,true,rfl,Nat.zero_le _,rfl,by simp only [List.length_nil];rw [hwl];omega,rfl,?_⟩
 refine ⟨Nat,fun m=>⟨[(1,I (K:Nat)),(6,.ow 0)],[.sl 3 .int (wrdN K N m)]⟩,fun m=>i<=m/\m<i2,fun m=>i2-m,i,⟨Nat.le_refl _,hi⟩,
  ⟨⟨rfl,rfl⟩,⟨rfl,rfl,trivial⟩,rowE rfl,trivial⟩,fun m ⟨hm1,hm2⟩=>?_⟩
 have hfl:=nxtF_len (K:Int) N (wrdN K N m)
 have hgi:=hwg m
 have hli:=hwl m
 have hNx:=spec_l06Next (wrdN K N m) K (by omega) (by omega) (by omega) (fun j hj=>by have:=hgi j (by omega);omega)
 rw [hli] at hNx
 have hxm:=hnx m (by omega)
 have hlt:m+1<K ^ N:=by omega
 rw [hxm.1,hxm.2 hlt,decide_eq_true hlt] at hNx
 have hfl2:=hwl (m+1)
 refine ⟨[0],false,_,_,hNx,by decide,rfl,rfl,⟨⟨hfl2.trans hli.symm,rfl,rfl⟩,trivial⟩,fun _=>?_,nofun⟩
 refine ⟨[],false,_,_,spec_IsNecklace false (wrdN K N (m+1)) (wrd_cN hK hK4 h1 hN (m+1)),nd0,rfl,rfl,trivial,fun h3=>?_,fun h3=>?_⟩
 .have e:m+1=i2:=by
   by_cases h:m+1=i2
   .exact h
   .have:=hb (m+1) (by omega) (by omega)
    unfold isNk at this
    rw [this] at h3;cases h3
  exact ⟨some 0,⟨⟨rfl,rfl⟩,rfl,trivial⟩,⟨rfl,rowsE (by rw [e])⟩,rfl⟩
 .have e:m+1≠i2:=fun e=>by
   unfold isNk at hn2
   rw [e,hn2] at h3;cases h3
  exact ⟨m+1,⟨by omega,by omega⟩,by dsimp only;omega,⟨rfl,rfl⟩,⟨rfl,rfl,trivial⟩,rowE rfl,trivial⟩
theorem spec_NecklaceAt_raw (n k i:Int) (r:List AV) (rr:List Row) (hno:nckB n k i=false->r=[.nil,.d true .bool false]/\rr=[])
 (hy0:nckB n k i=true->i=0->r=[.ow 0,.d true .bool true]/\rr=[.sl 3 .int ((neckL n.toNat k.toNat).getD i.toNat [])])
 (hyes:nckB n k i=true->i≠0->r=[.d true (.sl .int) ((neckL n.toNat k.toNat).getD i.toNat []),.d true .bool true]/\rr=[]):AC Tryz.prog 127 [I n,I k,I i] [] r rr:=by
 have hnb:=neck_b n k
 refine AC_of tauOk 47 0 [6,7] Tryz.func127 rfl (by kernel_rfl) rfl rfl rfl rfl rfl ?_
 refine ⟨[],false,_,_,spec_l01In _ _ _,nd0,rfl,rfl,trivial,fun h1=>?_,fun h1=>?_⟩
 .refine ⟨[],false,_,_,spec_l01In _ _ _,nd0,rfl,rfl,trivial,fun h2=>?_,fun h2=>?_⟩
  .simp only [Bool.and_eq_true,decide_eq_true_eq] at h1 h2
   obtain ⟨N,rfl⟩:∃N:Nat,n=(N:Int):=⟨n.toNat,by omega⟩
   obtain ⟨K,rfl⟩:∃K:Nat,k=(K:Int):=⟨k.toNat,by omega⟩
   refine ⟨[],false,_,_,spec_l05Power K N (by omega) (by omega),nd0,rfl,rfl,trivial,fun h3=>?_,fun h3=>?_⟩
   .obtain ⟨rfl,rfl⟩:=hno (by rw [nckB,smallB,Int.toNat_natCast,Int.toNat_natCast,decide_eq_false (show ¬K ^ N<=1024 by omega)];simp)
    exact ⟨none,⟨rfl,rfl,trivial⟩,rfl,rfl⟩
   .have hs:K ^ N<=1024:=by omega
    have hcnt:=of_decide_eq_true (chkC_all N (by omega) K (by omega) (by omega) (by omega) hs)
    have hB:nckB (N:Int) (K:Int) i=(decide (0<=i) && decide (i<((neckL N K).length:Int))):=by
     rw [nckB,smallB,lenN,Int.toNat_natCast,Int.toNat_natCast,decide_eq_true (show (1:Int)<=(N:Nat) by omega),decide_eq_true (show ((N:Nat):Int)<=10 by omega),decide_eq_true (show (1:Int)<=(K:Nat) by omega),decide_eq_true (show ((K:Nat):Int)<=4 by omega),decide_eq_true hs];rfl
    rw [Int.toNat_natCast,Int.toNat_natCast] at hyes hy0
    have hkp:=neck_kpt (n:=N) (k:=K) (by omega) (by omega) (by omega) (by omega) hs
    have hlen:=neckL_len N K (by omega)
    refine ⟨[],false,_,_,spec_CountNecklaces (N:Int) (K:Int),nd0,rfl,rfl,trivial,neckI (N:Int) (K:Int)-1,w64_eq rfl (by omega) (by omega),[],false,_,_,spec_l01In _ _ _,nd0,rfl,rfl,trivial,fun h4=>?_,fun h4=>?_⟩
    .simp only [Bool.and_eq_true,decide_eq_true_eq] at h4
     have hBt:nckB (N:Int) (K:Int) i=true:=by rw [hB,decide_eq_true h4.1,decide_eq_true (show i<((neckL N K).length:Int) by omega)];rfl
     have hy0:=hy0 hBt
     have hyes:=hyes hBt
     obtain ⟨I0,rfl⟩:∃I0:Nat,i=(I0:Int):=⟨i.toNat,by omega⟩
     have hI0:I0<(kptL isNk K N (K ^ N)).length:=by rw [<-hkp];omega
     have h00:isNk (wrdN K N 0)=true:=by rw [wrdN_zero];exact nk_zero 0 N (by omega)
     have hfd:=fun j hj=>kpt_find isNk K N (K ^ N) j hj
     refine ⟨N,N,rfl,rfl,Nat.le_refl _,by omega,?_⟩
     refine ⟨Bool × Nat × Nat,fun s=>match s.1 with
      |true=>⟨[(1,I (K:Nat)),(2,I (I0:Nat)),(8,.d true (.sl .int) (wrdN K N s.2.2)),(9,I (s.2.1:Nat))],[]⟩
      |false=>⟨[(1,I (K:Nat)),(2,I (I0:Nat)),(8,.ow 0),(9,I (s.2.1:Nat))],[.sl 3 .int (wrdN K N s.2.2)]⟩,
      fun s=>s.2.1<=I0/\s.2.2<K ^ N/\isNk (wrdN K N s.2.2)=true/\(kptL isNk K N s.2.2).length=s.2.1/\(s.1=true ↔ s.2.1≠0),fun s=>I0-s.2.1,(false,0,0),⟨Nat.zero_le _,Nat.pow_pos (by omega),h00,rfl,by simp⟩,
      ⟨⟨rfl,rfl⟩,⟨rfl,rfl,rfl,rfl,trivial⟩,rowE (wrdN_zero K N).symm,trivial⟩,?_⟩
     rintro ⟨md,j,i⟩ ⟨hj,hi,hi1,hij,hmd⟩
     dsimp only at hj hi hi1 hij hmd
     cases md
     .dsimp only
      refine ⟨fun h5=>?_,fun h5=>?_⟩
      .obtain ⟨i2,g1,g2,g3,g4⟩:=hfd (j+1) (by omega)
       obtain ⟨g5,g6⟩:=kpt_next isNk hi1 hij g3
       refine ⟨[],true,_,_,spec_NextNecklace false N K i i2 (by omega) (by omega) (by omega) (by omega) g5 g1 g2 g6,nd0,rfl,rfl,trivial,fun _=>?_,nofun⟩
       exact ⟨((j+1:Nat):Int),w64_eq (by omega) (by omega) (by omega),(true,j+1,i2),⟨by dsimp only;omega,g1,g2,g3,by simp⟩,by dsimp only;omega,⟨rfl,rfl⟩,⟨rfl,rfl,rfl,rfl,trivial⟩,trivial⟩
      .obtain rfl:j=I0:=by omega
       obtain ⟨i2,g1,g2,g3,g4⟩:=hfd j hI0
       have e:i2=i:=by
        rcases Nat.lt_trichotomy i i2 with h|h|h
        .have:=(kpt_next isNk (n:=N) (k:=K) hi1 hij (i2:=i2+1) (by rw [kpt_yes isNk K N i2 g2,List.length_append,g3];rfl)).2 i2 h (by omega)
         rw [g2] at this;cases this
        .exact h.symm
        .have:=(kpt_next isNk (n:=N) (k:=K) g2 g3 (i2:=i+1) (by rw [kpt_yes isNk K N i hi1,List.length_append,hij];rfl)).2 i h (by omega)
         rw [hi1] at this;cases this
       subst e
       obtain ⟨rfl,rfl⟩:=hy0 (by simp at hmd;omega)
       exact ⟨some 0,⟨⟨rfl,rfl⟩,rfl,trivial⟩,⟨rfl,rowsE (by rw [Int.toNat_natCast,hkp,g4])⟩,rfl⟩
     .dsimp only
      refine ⟨fun h5=>?_,fun h5=>?_⟩
      .obtain ⟨i2,g1,g2,g3,g4⟩:=hfd (j+1) (by omega)
       obtain ⟨g5,g6⟩:=kpt_next isNk hi1 hij g3
       refine ⟨[],true,_,_,spec_NextNecklace true N K i i2 (by omega) (by omega) (by omega) (by omega) g5 g1 g2 g6,nd0,rfl,rfl,trivial,fun _=>?_,nofun⟩
       exact ⟨((j+1:Nat):Int),w64_eq (by omega) (by omega) (by omega),(true,j+1,i2),⟨by dsimp only;omega,g1,g2,g3,by simp⟩,by dsimp only;omega,⟨rfl,rfl⟩,⟨rfl,rfl,rfl,rfl,trivial⟩,trivial⟩
      .obtain rfl:j=I0:=by omega
       obtain ⟨i2,g1,g2,g3,g4⟩:=hfd j hI0
       have e:i2=i:=by
        rcases Nat.lt_trichotomy i i2 with h|h|h
        .have:=(kpt_next isNk (n:=N) (k:=K) hi1 hij (i2:=i2+1) (by rw [kpt_yes isNk K N i2 g2,List.length_append,g3];rfl)).2 i2 h (by omega)
         rw [g2] at this;cases this
        .exact h.symm
        .have:=(kpt_next isNk (n:=N) (k:=K) g2 g3 (i2:=i+1) (by rw [kpt_yes isNk K N i hi1,List.length_append,hij];rfl)).2 i h (by omega)
         rw [hi1] at this;cases this
       subst e
       obtain ⟨rfl,rfl⟩:=hyes (by simp at hmd;omega)
       rw [Int.toNat_natCast,hkp,g4]
       exact ⟨none,⟨rfl,rfl,trivial⟩,rfl,rfl⟩
    .obtain ⟨rfl,rfl⟩:=hno (by
      rw [hB]
      simp only [Bool.and_eq_false_iff,decide_eq_false_iff_not] at h4 ⊢
      omega)
     exact ⟨none,⟨rfl,rfl,trivial⟩,rfl,rfl⟩
  .obtain ⟨rfl,rfl⟩:=hno (by
    unfold nckB smallB
    simp only [Bool.and_eq_false_iff,decide_eq_false_iff_not] at h2 ⊢
    omega)
   exact ⟨none,⟨rfl,rfl,trivial⟩,rfl,rfl⟩
 .obtain ⟨rfl,rfl⟩:=hno (by
   unfold nckB lenN
   simp only [Bool.and_eq_false_iff,decide_eq_false_iff_not] at h1 ⊢
   omega)
  exact ⟨none,⟨rfl,rfl,trivial⟩,rfl,rfl⟩
theorem spec_NecklaceAt (n k i:Int) (r:List AV) (hno:nckB n k i=false->r=[.nil,.d true .bool false])
 (hyes:nckB n k i=true->r=[.d true (.sl .int) ((neckL n.toNat k.toNat).getD i.toNat []),.d true .bool true]):AC Tryz.prog 127 [I n,I k,I i] [] r []:=by
 have h:=spec_NecklaceAt_raw n k i
 cases hB:nckB n k i with
 |false=>
  rw [hno hB]
  exact h _ _ (fun _=>⟨rfl,rfl⟩) (fun e=>by rw [hB] at e;cases e) (fun e=>by rw [hB] at e;cases e)
 |true=>
  rw [hyes hB]
  by_cases h0:i=0
  .exact AC.frzb (e:=3) (h _ _ (fun e=>by rw [hB] at e;cases e) (fun _ _=>⟨rfl,rfl⟩) (fun _ e=>(e h0).elim))
  .exact h _ _ (fun e=>by rw [hB] at e;cases e) (fun _ e=>(h0 e).elim) (fun _ _=>⟨rfl,rfl⟩)
theorem spec_l08Ok (n k:Int):AC Tryz.prog 300 [I n,I k] [] [.d true .bool (woaB n k)] []:=by
 refine AC_of tauOk 17 0 [4] Tryz.func300 rfl (by kernel_rfl) rfl rfl rfl rfl rfl ?_
 refine ⟨[],false,_,_,spec_l01In _ _ _,nd0,rfl,rfl,trivial,fun h1=>?_,fun h1=>?_⟩
 .refine ⟨[],false,_,_,spec_l01In _ _ _,nd0,rfl,rfl,trivial,fun h2=>?_,fun h2=>?_⟩
  .simp only [Bool.and_eq_true,decide_eq_true_eq] at h1 h2
   obtain ⟨N,rfl⟩:∃N:Nat,n=(N:Int):=⟨n.toNat,by omega⟩
   obtain ⟨K,rfl⟩:∃K:Nat,k=(K:Int):=⟨k.toNat,by omega⟩
   have e:woaB (N:Int) (K:Int)=decide (K ^ N<=1024):=by
    rw [woaB,smallB,lenN,Int.toNat_natCast,Int.toNat_natCast,decide_eq_true (show (1:Int)<=(N:Nat) by omega),decide_eq_true (show ((N:Nat):Int)<=10 by omega),decide_eq_true (show (1:Int)<=(K:Nat) by omega),decide_eq_true (show ((K:Nat):Int)<=4 by omega)];rfl
   refine ⟨[],false,_,_,spec_l05Power K N (by omega) (by omega),nd0,rfl,rfl,trivial,fun h3=>?_,fun h3=>?_⟩
   .exact ⟨none,⟨retB (by rw [e,decide_eq_true (show K ^ N<=1024 by omega)]),trivial⟩,rfl,rfl⟩
   .exact ⟨none,⟨retB (by rw [e,decide_eq_false (show ¬K ^ N<=1024 by omega)]),trivial⟩,rfl,rfl⟩
  .have e:woaB n k=false:=by
    unfold woaB smallB
    simp only [Bool.and_eq_false_iff,decide_eq_false_iff_not] at h2 ⊢
    omega
   exact ⟨none,⟨retB e,trivial⟩,rfl,rfl⟩
 .have e:woaB n k=false:=by
   unfold woaB lenN
   simp only [Bool.and_eq_false_iff,decide_eq_false_iff_not] at h1 ⊢
   omega
  exact ⟨none,⟨retB e,trivial⟩,rfl,rfl⟩
theorem filt_filt {p q r:List Int->Bool} (l:List (List Int)) (h:∀x∈l,(r x=true ↔ (p x=true/\q x=true))):l.filter r=(l.filter p).filter q:=by
 rw [List.filter_filter]
 refine List.filter_congr fun x hx=>?_
 have:=h x hx
 cases h1:r x<;>cases h2:p x<;>cases h3:q x<;>simp_all
theorem lyn_kpt {n k:Nat} (h1:1<=n) (hn:n<=10) (hk:1<=k) (hk4:k<=4) (hs:k ^ n<=1024):lynL n k=kptL lynB k n (k ^ n):=by
 rw [lynL,neck_kpt h1 hn hk hk4 hs]
 unfold kptL
 refine (filt_filt _ fun x hx=>?_).symm
 obtain ⟨i,hi,rfl⟩:=List.mem_map.1 hx
 unfold lynB isNk
 rw [wrdN_len]
 simp
theorem spec_LyndonWords (N K:Nat) (hK:1<=K) (hK4:K<=4) (h1:1<=N) (hN:N<=10) (hs:K ^ N<=1024):AC Tryz.prog 301 [I (N:Nat),I (K:Nat)] [] [.ow 0,.d true .bool true] [.sl 29 (.sl .int) (lynL N K)]:=by
 have hpp:0<K ^ N:=Nat.pow_pos (by omega)
 have hwl:=wrdN_len K N
 have hwg:=wrdN_get K (by omega) N
 have hw0:=wrdN_zero K N
 have hnx:=nxt_wrd K (by omega) N
 have hky:=kpt_yes lynB K N
 have hkn:=kpt_no lynB K N
 have hkl:=kpt_len lynB K N
 have hO:=spec_l08Ok (N:Int) (K:Int)
 rw [show woaB (N:Int) (K:Int)=true by
  rw [woaB,smallB,lenN,Int.toNat_natCast,Int.toNat_natCast,decide_eq_true (show (1:Int)<=(N:Nat) by omega),decide_eq_true (show ((N:Nat):Int)<=10 by omega),decide_eq_true (show (1:Int)<=(K:Nat) by omega),decide_eq_true (show ((K:Nat):Int)<=4 by omega),decide_eq_true hs];rfl] at hO
 rw [lyn_kpt h1 hN hK hK4 hs]
 refine AC_of tauOk 28 0 [4,5] Tryz.func301 rfl (by kernel_rfl) rfl rfl rfl rfl rfl ?_
 refine ⟨[],false,_,_,hO,nd0,rfl,rfl,trivial,fun _=>?_,nofun⟩
 refine ⟨rfl,by decide,true,N,N,rfl,rfl,Nat.le_refl _,by omega,?_⟩
 refine ⟨Nat,fun i=>⟨[(1,I (K:Nat)),(6,.ow 0),(7,.ow 1)],[.sl 29 (.sl .int) (kptL lynB K N i),.sl 3 .int (wrdN K N i)]⟩,fun i=>i<K ^ N,fun i=>K ^ N-i,0,hpp,
  ⟨⟨rfl,rfl⟩,⟨rfl,rfl,rfl,trivial⟩,rowE rfl,rowE hw0.symm,trivial⟩,fun i hi=>?_⟩
 dsimp only at hi
 have hli:=hwl i
 have hgi:=hwg i
 have hcol:=wrd_cN hK hK4 h1 hN i
 have hnxi:=hnx i hi
 have hkli:=hkl i
 have hfl:=nxtF_len (K:Int) N (wrdN K N i)
 have hNx:=spec_l06Next (wrdN K N i) K (by omega) (by omega) (by omega) (fun j hj=>by have:=hgi j (by omega);omega)
 rw [hli] at hNx
 have hkey:∀(h:decide (i+1<K ^ N)=true),i+1<K ^ N:=fun h=>of_decide_eq_true h
 rw [hnxi.1] at hNx
 refine ⟨[],false,_,_,spec_IsLyndon false (wrdN K N i) hcol,nd0,rfl,rfl,trivial,fun h3=>?_,fun h3=>?_⟩
 .have hy:=hky i h3
  refine ⟨rfl,by decide,true,rfl,Nat.zero_le _,rfl,by simp only [List.length_nil];omega,rfl,?_⟩
  refine ⟨rfl,rfl,by decide,false,rfl,Nat.zero_le _,rfl,by simp only [List.length_cons,List.length_nil];omega,rfl,?_⟩
  refine ⟨[1],false,_,_,hNx,by decide,rfl,rfl,⟨⟨hfl,rfl,rfl⟩,trivial⟩,fun h4=>?_,fun h4=>?_⟩
  .have h5:=hkey h4
   exact ⟨i+1,h5,by dsimp only;omega,⟨rfl,rfl⟩,⟨rfl,rfl,rfl,trivial⟩,rowE hy.symm,rowE (hnxi.2 h5),trivial⟩
  .have h5:i+1=K ^ N:=by have:=of_decide_eq_false h4;omega
   exact ⟨some 0,⟨⟨rfl,rfl⟩,rfl,trivial⟩,⟨rfl,rowsE (by rw [<-h5];exact hy.symm)⟩,rfl⟩
 .have hy:=hkn i (by unfold lynB;rw [h3];decide)
  refine ⟨[1],false,_,_,hNx,by decide,rfl,rfl,⟨⟨hfl,rfl,rfl⟩,trivial⟩,fun h4=>?_,fun h4=>?_⟩
  .have h5:=hkey h4
   exact ⟨i+1,h5,by dsimp only;omega,⟨rfl,rfl⟩,⟨rfl,rfl,rfl,trivial⟩,rowE hy.symm,rowE (hnxi.2 h5),trivial⟩
  .have h5:i+1=K ^ N:=by have:=of_decide_eq_false h4;omega
   exact ⟨some 0,⟨⟨rfl,rfl⟩,rfl,trivial⟩,⟨rfl,rowsE (by rw [<-h5];exact hy.symm)⟩,rfl⟩
theorem spec_l08Before (s1 s2:Bool) (xs ys:List Int) (hl:xs.length<=1048576) (hl2:ys.length<=1048576):AC Tryz.prog 302 [.d s1 (.sl .int) xs,.d s2 (.sl .int) ys] [] [.d true .bool (decide (cmpI xs ys<0))] []:=by
 refine AC_of tauOk 36 0 [4] Tryz.func302 rfl (by kernel_rfl) rfl rfl rfl rfl rfl ?_
 refine ⟨Nat,fun k=>⟨[(0,.d s1 (.sl .int) xs),(1,.d s2 (.sl .int) ys),(7,.d s1 (.sl .int) xs),(8,I xs.length),(9,I (k:Nat))],[]⟩,fun k=>k<=xs.length/\k<=ys.length/\cmpI xs ys=cmpI (xs.drop k) (ys.drop k),fun k=>xs.length-k,0,⟨Nat.zero_le _,Nat.zero_le _,rfl⟩,
  ⟨⟨rfl,rfl⟩,⟨rfl,rfl,rfl,rfl,rfl,trivial⟩,trivial⟩,fun k ⟨hk,hk2,he⟩=>?_⟩
 refine ⟨fun h1=>?_,fun h1=>?_⟩
 .have hk3:k<xs.length:=by omega
  refine ⟨k,rfl,hk3,fun h2=>?_,fun h2=>?_⟩
  .have e:cmpI xs ys=1:=by
    rw [he,List.drop_eq_nil_of_le (show ys.length<=k by omega),List.drop_eq_getElem_cons hk3];rfl
   exact ⟨none,⟨retB (by rw [e];rfl),trivial⟩,rfl,rfl⟩
  .have hk4:k<ys.length:=by omega
   have hd:=cmpI_drop xs ys k hk3 hk4
   refine ⟨k,rfl,hk4,fun h3=>?_,fun h3=>?_⟩
   .refine ⟨k,rfl,hk4,fun h4=>?_,fun h4=>?_⟩
    .exact ⟨none,⟨retB (by rw [he,hd,if_pos h4];rfl),trivial⟩,rfl,rfl⟩
    .exact ⟨none,⟨retB (by rw [he,hd,if_neg h4,if_pos (by omega)];rfl),trivial⟩,rfl,rfl⟩
   .exact ⟨_,w64_in _ (by omega) (by omega),k+1,⟨by omega,by omega,by rw [he,hd,if_neg (by omega),if_neg (by omega)]⟩,by dsimp only;omega,⟨rfl,rfl⟩,⟨rfl,rfl,rfl,rfl,rfl,trivial⟩,trivial⟩
 .obtain rfl:k=xs.length:=by omega
  rw [List.drop_length] at he
  refine ⟨fun h2=>?_,fun h2=>?_⟩
  .have e:cmpI xs ys= -1:=by
    rw [he,List.drop_eq_getElem_cons (show xs.length<ys.length by omega)];rfl
   exact ⟨none,⟨retB (by rw [e];rfl),trivial⟩,rfl,rfl⟩
  .have e:cmpI xs ys=0:=by
    rw [he,List.drop_eq_nil_of_le (show ys.length<=xs.length by omega)];rfl
   exact ⟨none,⟨retB (by rw [e];rfl),trivial⟩,rfl,rfl⟩
def insW (w:List Int):List (List Int)->List (List Int)
 |[]=>[w]
 |x::l=>if cmpI x w<0 then x::insW w l else w::x::l
theorem insW_eq (w:List Int):∀(l:List (List Int)) (k:Nat),k<=l.length->(∀j,j<k->cmpI (l.getD j []) w<0)->(k<l.length->¬cmpI (l.getD k []) w<0)->l.take k++[w]++l.drop k=insW w l
 |[],k,h,_,_=>by
  have:k=0:=by simpa using h
  subst this;rfl
 |x::l,0,_,_,h=>by
  have h:=h (by simp)
  rw [insW,if_neg (show ¬cmpI x w<0 from h)];rfl
 |x::l,k+1,hk,hb,h=>by
  have h0:=hb 0 (by omega)
  rw [insW,if_pos (show cmpI x w<0 from h0),<-insW_eq w l k (by simpa using hk) (fun j hj=>hb (j+1) (by omega)) (fun hh=>h (by simpa using hh))]
  rfl
theorem insW_perm (w:List Int):∀l,(insW w l).Perm (w::l)
 |[]=>List.Perm.refl _
 |x::l=>by
  rw [insW]
  split
  .exact ((insW_perm w l).cons x).trans (List.Perm.swap w x l)
  .exact List.Perm.refl _
theorem cmpI_tr {x y z:List Int} (h1:¬cmpI y x<0) (h2:¬cmpI z y<0):¬cmpI z x<0:=by
 intro h
 have a1:=cmpI_neg y z
 have a2:=cmpI_neg x y
 by_cases e:cmpI y z=0
 .rw [cmpI_eq _ _ e] at h1;exact h1 h
 .exact h1 (cmpI_trans y z x (by omega) h)
theorem insW_sorted (w:List Int):∀l,l.Pairwise (fun x y=>¬cmpI y x<0)->(insW w l).Pairwise (fun x y=>¬cmpI y x<0)
 |[],_=>by rw [insW];exact List.pairwise_singleton _ _
 |x::l,h=>by
  rw [List.pairwise_cons] at h
  rw [insW]
  split
  .rename_i hx
   rw [List.pairwise_cons]
   refine ⟨fun y hy=>?_,insW_sorted w l h.2⟩
   rcases List.mem_cons.1 ((insW_perm w l).mem_iff.1 hy) with e|e
   .rw [e];have:=cmpI_neg x w;omega
   .exact h.1 y e
  .rename_i hx
   rw [List.pairwise_cons]
   refine ⟨fun y hy=>?_,List.pairwise_cons.2 h⟩
   rcases List.mem_cons.1 hy with e|e
   .rw [e];exact hx
   .exact cmpI_tr hx (h.1 y e)
def insF (ws l:List (List Int)):List (List Int):=l.foldl (fun ws w=>insW w ws) ws
theorem insF_perm:∀(l ws:List (List Int)),(insF ws l).Perm (ws++l)
 |[],ws=>by rw [List.append_nil];exact List.Perm.refl _
 |w::l,ws=>by
  have h:=insF_perm l (insW w ws)
  refine h.trans ?_
  refine ((insW_perm w ws).append_right l).trans ?_
  exact (List.perm_middle (a:=w) (l₁:=ws) (l₂:=l)).symm
theorem insF_sorted:∀(l ws:List (List Int)),ws.Pairwise (fun x y=>¬cmpI y x<0)->(insF ws l).Pairwise (fun x y=>¬cmpI y x<0)
 |[],_,h=>h
 |w::l,ws,h=>insF_sorted l (insW w ws) (insW_sorted w ws h)
def wdS (n k:Nat):Nat->List (List Int)
 |0=>[]
 |d+1=>if n % (d+1)=0 then insF (wdS n k d) (lynL (d+1) k) else wdS n k d
theorem wdS_ok (n k:Nat):∀d,(wdS n k d).Perm (woaS n k d)/\(wdS n k d).Pairwise (fun x y=>¬cmpI y x<0)
 |0=>⟨List.Perm.refl _,List.Pairwise.nil⟩
 |d+1=>by
  obtain ⟨h1,h2⟩:=wdS_ok n k d
  rw [wdS,woaS]
  split
  .exact ⟨(insF_perm _ _).trans (h1.append_right _),insF_sorted _ _ h2⟩
  .exact ⟨by simpa using h1,h2⟩
theorem wdS_eq (n k:Nat):(wdS n k n).flatten=woaL n k:=by
 obtain ⟨h1,h2⟩:=wdS_ok n k n
 unfold woaL
 congr 1
 refine List.Perm.eq_of_pairwise (le:=fun x y=>¬cmpI y x<0) (fun a b _ _ g1 g2=>?_) h2 (srtL_s _) (h1.trans (srtL_p _).symm)
 have:=cmpI_neg a b
 exact cmpI_eq _ _ (by omega)
theorem spec_WordOfAll_ok (N K:Nat) (hK:1<=K) (hK4:K<=4) (h1:1<=N) (hN:N<=10) (hs:K ^ N<=1024):AC Tryz.prog 234 [I (N:Nat),I (K:Nat)] [] [.ow 0,.d true .bool true] [.sl 3 .int (woaL N K)]:=by
 have hO:=spec_l08Ok (N:Int) (K:Int)
 rw [show woaB (N:Int) (K:Int)=true by
  rw [woaB,smallB,lenN,Int.toNat_natCast,Int.toNat_natCast,decide_eq_true (show (1:Int)<=(N:Nat) by omega),decide_eq_true (show ((N:Nat):Int)<=10 by omega),decide_eq_true (show (1:Int)<=(K:Nat) by omega),decide_eq_true (show ((K:Nat):Int)<=4 by omega),decide_eq_true hs];rfl] at hO
 have hwl:∀d,d<=N->(wdS N K d).length<=10240/\∀x∈wdS N K d,x.length<=10:=fun d hd=>by
  obtain ⟨a1,a2⟩:=woaS_ok hK hs hN d hd
  have hp:=(wdS_ok N K d).1
  exact ⟨by rw [hp.length_eq];omega,fun x hx=>(a2 x (hp.mem_iff.1 hx)).2⟩
 have hfe:=wdS_eq N K
 have hpd:∀d,d<=N->K ^ d<=1024:=fun d hd=>Nat.le_trans (Nat.pow_le_pow_right hK hd) hs
 refine AC_of tauOk 84 0 [4,5] Tryz.func234 rfl (by kernel_rfl) rfl rfl rfl rfl rfl ?_
 refine ⟨[],false,_,_,hO,nd0,rfl,rfl,trivial,fun _=>?_,nofun⟩
 refine ⟨rfl,by decide,true,?_⟩
 refine ⟨Nat,fun d=>⟨[(0,I (N:Nat)),(1,I (K:Nat)),(6,.d true (.sl (.sl .int)) (wdS N K d)),(7,I ((d+1:Nat):Int))],[]⟩,fun d=>d<=N,fun d=>N-d,0,Nat.zero_le _,
  ⟨⟨rfl,rfl⟩,⟨rfl,rfl,⟨rfl,rfl,rfl⟩,rfl,trivial⟩,trivial⟩,fun d hd=>?_⟩
 dsimp only at hd
 have hes:wdS N K (d+1)=if N % (d+1)=0 then insF (wdS N K d) (lynL (d+1) K) else wdS N K d:=rfl
 refine ⟨fun h2=>?_,fun h2=>?_⟩
 .have hd2:d<N:=by omega
  refine ⟨by omega,((N % (d+1):Nat):Int),Int.ofNat_tmod N (d+1),fun h3=>?_,fun h3=>?_⟩
  .rw [if_neg (by omega)] at hes
   exact ⟨((d+1+1:Nat):Int),w64_eq (by omega) (by omega) (by omega),d+1,by dsimp only;omega,by dsimp only;omega,⟨rfl,rfl⟩,⟨rfl,rfl,by rw [hes];rfl,rfl,trivial⟩,trivial⟩
  .rw [if_pos (by omega)] at hes
   have hll:=lyn_len (d+1) K hK
   have hpd1:=hpd (d+1) hd2
   obtain ⟨hw1,hw2⟩:=hwl d hd
   have hle:∀x∈lynL (d+1) K,x.length<=10:=fun x hx=>by have:=(neck_el hK x (List.mem_filter.1 hx).1).1;omega
   refine ⟨[],true,_,_,spec_LyndonWords (d+1) K hK hK4 (by omega) (by omega) hpd1,nd0,rfl,rfl,trivial,fun _=>?_,nofun⟩
   generalize lynL (d+1) K=l at*
   refine ⟨Nat,fun j=>⟨[(0,I (N:Nat)),(1,I (K:Nat)),(6,.d true (.sl (.sl .int)) (insF (wdS N K d) (l.take j))),(7,I ((d+1:Nat):Int)),(37,.d true (.sl (.sl .int)) l),(38,I l.length),(39,I (j:Nat))],[]⟩,fun j=>j<=l.length,fun j=>l.length-j,0,Nat.zero_le _,
    ⟨⟨rfl,rfl⟩,⟨rfl,rfl,rfl,rfl,rfl,rfl,rfl,trivial⟩,trivial⟩,fun j hj=>?_⟩
   dsimp only at hj
   refine ⟨fun h4=>?_,fun h4=>?_⟩
   .have hj2:j<l.length:=by omega
    have hst:insF (wdS N K d) (l.take (j+1))=insW (l.getD j []) (insF (wdS N K d) (l.take j)):=by rw [L_succ l j [] hj2,insF,List.foldl_append];rfl
    have hwj:=hle (l.getD j []) (by rw [getD_get _ _ _ hj2];exact List.getElem_mem _)
    have hpm:=insF_perm (l.take j) (wdS N K d)
    have hsl:(insF (wdS N K d) (l.take j)).length<=20480:=by rw [hpm.length_eq,List.length_append,List.length_take];omega
    have hsx:∀i,i<(insF (wdS N K d) (l.take j)).length->((insF (wdS N K d) (l.take j)).getD i []).length<=10:=fun i hi=>by
     have:(insF (wdS N K d) (l.take j)).getD i []∈wdS N K d++l.take j:=hpm.mem_iff.1 (by rw [getD_get _ _ _ hi];exact List.getElem_mem _)
     rcases List.mem_append.1 this with h|h
     .exact hw2 _ h
     .exact hle _ (List.mem_of_mem_take h)
    have hin:=insW_eq (l.getD j []) (insF (wdS N K d) (l.take j))
    rw [<-hst] at hin
    refine ⟨j,rfl,hj2,?_⟩
    refine ⟨Nat,fun a=>⟨[(0,I (N:Nat)),(1,I (K:Nat)),(6,.d true (.sl (.sl .int)) (insF (wdS N K d) (l.take j))),(7,I ((d+1:Nat):Int)),(11,.d true (.sl .int) (l.getD j [])),(12,I (a:Nat)),(37,.d true (.sl (.sl .int)) l),(38,I l.length),(39,I (j:Nat))],[]⟩,fun a=>a<=(insF (wdS N K d) (l.take j)).length/\∀q,q<a->cmpI ((insF (wdS N K d) (l.take j)).getD q []) (l.getD j [])<0,fun a=>(insF (wdS N K d) (l.take j)).length-a,0,⟨Nat.zero_le _,fun q hq=>by omega⟩,
     ⟨⟨rfl,rfl⟩,⟨rfl,rfl,rfl,rfl,rfl,rfl,rfl,rfl,rfl,trivial⟩,trivial⟩,fun a ⟨ha,hq⟩=>?_⟩
    refine ⟨fun h5=>?_,fun h5=>?_⟩
    .have ha2:a<(insF (wdS N K d) (l.take j)).length:=by omega
     refine ⟨a,rfl,ha2,[],false,_,_,spec_l08Before true true ((insF (wdS N K d) (l.take j)).getD a []) (l.getD j []) (by have:=hsx a ha2;omega) (by omega),nd0,rfl,rfl,trivial,fun h6=>?_,fun h6=>?_⟩
     .exact ⟨((a+1:Nat):Int),w64_eq (by omega) (by omega) (by omega),a+1,⟨by omega,upto hq (of_decide_eq_true h6)⟩,by dsimp only;omega,⟨rfl,rfl⟩,⟨rfl,rfl,rfl,rfl,rfl,rfl,rfl,rfl,rfl,trivial⟩,trivial⟩
     .have e:=hin a ha hq (fun _=>of_decide_eq_false h6)
      refine ⟨rfl,by decide,true,?_⟩
      refine ⟨a,rfl,Nat.zero_le _,ha,?_⟩
      refine ⟨rfl,Nat.zero_le _,rfl,by simp only [List.length_drop,List.length_take,List.length_nil];omega,rfl,?_⟩
      refine ⟨rfl,by decide,false,?_⟩
      refine ⟨rfl,Nat.zero_le _,rfl,by simp only [List.length_append,List.length_cons,List.length_drop,List.length_take,List.length_nil];omega,rfl,?_⟩
      refine ⟨a,rfl,ha,Nat.le_refl _,?_⟩
      refine ⟨rfl,Nat.zero_le _,rfl,by simp only [List.length_append,List.length_cons,List.length_drop,List.length_take,List.length_nil];omega,rfl,?_⟩
      exact ⟨((j+1:Nat):Int),w64_eq (by omega) (by omega) (by omega),j+1,by dsimp only;omega,by dsimp only;omega,⟨rfl,rfl⟩,⟨rfl,rfl,⟨rfl,rfl,by rw [<-e,List.take_length];rfl⟩,rfl,rfl,rfl,rfl,trivial⟩,trivial⟩
    .have e:=hin a ha hq (fun h=>by omega)
     refine ⟨rfl,by decide,true,?_⟩
     refine ⟨a,rfl,Nat.zero_le _,ha,?_⟩
     refine ⟨rfl,Nat.zero_le _,rfl,by simp only [List.length_drop,List.length_take,List.length_nil];omega,rfl,?_⟩
     refine ⟨rfl,by decide,false,?_⟩
     refine ⟨rfl,Nat.zero_le _,rfl,by simp only [List.length_append,List.length_cons,List.length_drop,List.length_take,List.length_nil];omega,rfl,?_⟩
     refine ⟨a,rfl,ha,Nat.le_refl _,?_⟩
     refine ⟨rfl,Nat.zero_le _,rfl,by simp only [List.length_append,List.length_cons,List.length_drop,List.length_take,List.length_nil];omega,rfl,?_⟩
     exact ⟨((j+1:Nat):Int),w64_eq (by omega) (by omega) (by omega),j+1,by dsimp only;omega,by dsimp only;omega,⟨rfl,rfl⟩,⟨rfl,rfl,⟨rfl,rfl,by rw [<-e,List.take_length];rfl⟩,rfl,rfl,rfl,rfl,trivial⟩,trivial⟩
   .obtain rfl:j=l.length:=by omega
    exact ⟨((d+1+1:Nat):Int),w64_eq (by omega) (by omega) (by omega),d+1,by dsimp only;omega,by dsimp only;omega,⟨rfl,rfl⟩,⟨rfl,rfl,by rw [hes];show (AV.d true (.sl (.sl .int)) (insF (wdS N K d) (l.take l.length)))=_;rw [List.take_length],rfl,trivial⟩,trivial⟩
 .obtain rfl:d=N:=by omega
  obtain ⟨hw1,hw2⟩:=hwl d (Nat.le_refl _)
  have hfl:∀k,((wdS d K d).take k).flatten.length<=102400:=fun k=>by
   have a1:=flat_le ((wdS d K d).take k) (fun x hx=>hw2 x (List.mem_of_mem_take hx))
   rw [List.length_take] at a1
   omega
  rw [<-hfe]
  generalize wdS d K d=ws at*
  refine ⟨rfl,by decide,true,?_⟩
  refine ⟨Nat,fun k=>⟨[(14,.ow 0),(73,.d true (.sl (.sl .int)) ws),(74,I ws.length),(75,I (k:Nat))],[.sl 3 .int (ws.take k).flatten]⟩,fun k=>k<=ws.length,fun k=>ws.length-k,0,Nat.zero_le _,
   ⟨⟨rfl,rfl⟩,⟨rfl,rfl,rfl,rfl,trivial⟩,rfl,trivial⟩,fun k hk=>?_⟩
  dsimp only at hk
  refine ⟨fun h3=>?_,fun h3=>?_⟩
  .have hk2:k<ws.length:=by omega
   have hfk:=hfl k
   have hwk:=hw2 (ws.getD k []) (by rw [getD_get _ _ _ hk2];exact List.getElem_mem _)
   refine ⟨k,rfl,hk2,?_⟩
   refine ⟨rfl,Nat.zero_le _,rfl,(show (ws.take k).flatten.length+(ws.getD k []).length<=1099511627776 by omega),rfl,?_⟩
   exact ⟨((k+1:Nat):Int),w64_eq (by omega) (by omega) (by omega),k+1,by dsimp only;omega,by dsimp only;omega,⟨rfl,rfl⟩,⟨rfl,rfl,rfl,rfl,trivial⟩,rowE (by rw [L_succ ws k [] hk2,List.flatten_append];simp),trivial⟩
  .obtain rfl:k=ws.length:=by omega
   exact ⟨some 0,⟨⟨rfl,rfl⟩,rfl,trivial⟩,⟨rfl,rowsE (by rw [List.take_length])⟩,rfl⟩
theorem spec_WordOfAll (n k:Int) (r:List AV) (rr:List Row) (hno:woaB n k=false->r=[.nil,.d true .bool false]/\rr=[]) (hyes:woaB n k=true->r=[.ow 0,.d true .bool true]/\rr=[.sl 3 .int (woaL n.toNat k.toNat)]):
 AC Tryz.prog 234 [I n,I k] [] r rr:=by
 cases hB:woaB n k
 .obtain ⟨rfl,rfl⟩:=hno hB
  have hO:=spec_l08Ok n k
  rw [hB] at hO
  refine AC_of tauOk 84 0 [4,5] Tryz.func234 rfl (by kernel_rfl) rfl rfl rfl rfl rfl ?_
  refine ⟨[],false,_,_,hO,nd0,rfl,rfl,trivial,nofun,fun _=>?_⟩
  exact ⟨none,⟨rfl,rfl,trivial⟩,rfl,rfl⟩
 .obtain ⟨rfl,rfl⟩:=hyes hB
  unfold woaB lenN smallB at hB
  simp only [Bool.and_eq_true,decide_eq_true_eq] at hB
  obtain ⟨N,rfl⟩:∃N:Nat,n=(N:Int):=⟨n.toNat,by omega⟩
  obtain ⟨K,rfl⟩:∃K:Nat,k=(K:Int):=⟨k.toNat,by omega⟩
  simp only [Int.toNat_natCast] at hB ⊢
  exact spec_WordOfAll_ok N K (by omega) (by omega) (by omega) (by omega) hB.2.2
theorem spec_CanonOf_both (s1 s2:Bool) (g:List (List Int)) (xs:List Int) (hl:g.length<=1048576) (hx:∀i,i<g.length->(g.getD i []).length<=1048576) (hl2:xs.length<=1048576) (r:List AV) (rr:List Row)
 (hno:fitB g xs=false->r=[.nil,.d true .bool false]/\rr=[]) (hyes:fitB g xs=true->r=[.ow 0,.d true .bool true]/\rr=[.sl 3 .int (canL g xs)]):
 AC Tryz.prog 111 [.d s1 (.sl (.sl .int)) g,.d s2 (.sl .int) xs] [] r rr:=by
 refine AC_of tauOk 13 0 [4,5] Tryz.func111 rfl (by kernel_rfl) rfl rfl rfl rfl rfl ?_
 refine ⟨[],false,_,_,spec_l06Fits s1 s2 g xs hl hx hl2,nd0,rfl,rfl,trivial,fun h1=>?_,fun h1=>?_⟩
 .have hF:=fit_of h1
  obtain ⟨rfl,rfl⟩:=hyes h1
  refine ⟨[],false,_,_,spec_l06Canon s1 s2 g xs hF.gs hl hF.x,nd0,rfl,rfl,trivial,?_⟩
  exact ⟨some 0,⟨⟨rfl,rfl⟩,rfl,trivial⟩,⟨rfl,rfl⟩,rfl⟩
 .obtain ⟨rfl,rfl⟩:=hno h1
  exact ⟨none,⟨rfl,rfl,trivial⟩,rfl,rfl⟩
theorem spec_InversePerm (s1:Bool) (p:List Int) (hP:PermP p):AC Tryz.prog 200 [.d s1 (.sl .int) p] [] [.ow 0,.d true .bool true] [.sl 3 .int (actL p (idL p.length))]:=by
 have h10:=hP.1
 have hil:=idLlen p.length
 have hlen:=actS_len p (idL p.length)
 have h0:actS p (idL p.length) 0=List.replicate p.length 0:=by rw [actS,hil]
 have hend:actS p (idL p.length) p.length=actL p (idL p.length):=by rw [actL,hil]
 have hs:∀k,k<p.length->actS p (idL p.length) (k+1)=(actS p (idL p.length) k).set (p.getD k 0).toNat (k:Int):=fun k hk=>by
  rw [actS,idL_at _ _ hk]
 have hO:=spec_PermOk s1 p (by omega)
 rw [(permB_iff p).2 hP] at hO
 refine AC_of tauOk 26 0 [2,3] Tryz.func200 rfl (by kernel_rfl) rfl rfl rfl rfl rfl ?_
 refine ⟨[],false,_,_,hO,nd0,rfl,rfl,trivial,fun _=>?_,nofun⟩
 refine ⟨_,_,rfl,rfl,Nat.le_refl _,by omega,?_⟩
 refine ⟨Nat,fun k=>⟨[(4,.ow 0),(13,.d s1 (.sl .int) p),(14,I p.length),(15,I (k:Nat))],[.sl 3 .int (actS p (idL p.length) k)]⟩,fun k=>k<=p.length,fun k=>p.length-k,0,Nat.zero_le _,
  ⟨⟨rfl,rfl⟩,⟨rfl,rfl,rfl,rfl,trivial⟩,rowE h0.symm,trivial⟩,fun k hk=>?_⟩
 dsimp only at hk
 refine ⟨fun h1=>?_,fun h1=>?_⟩
 .have hk2:k<p.length:=by omega
  have hb:=(hP.2 k (by omega)).1
  have hlk:=hlen k
  refine ⟨k,rfl,hk2,(p.getD k 0).toNat,(show p.getD k 0=(((p.getD k 0).toNat:Nat):Int) by omega),(by omega),?_⟩
  exact ⟨((k+1:Nat):Int),w64_eq (by omega) (by omega) (by omega),k+1,by first|omega|(dsimp only;omega),by first|omega|(dsimp only;omega),⟨rfl,rfl⟩,⟨rfl,rfl,rfl,rfl,trivial⟩,rowE (hs k hk2).symm,trivial⟩
 .obtain rfl:k=p.length:=by omega
  exact ⟨some 0,⟨⟨rfl,rfl⟩,rfl,trivial⟩,⟨rfl,rowsE hend⟩,rfl⟩
theorem spec_CountContents (sh s2:Bool) (g:List (List Int)) (c:List Int) (hB:gokB g=true) (hc:ConP c (g.getD 0 []).length):AC Tryz.prog 203 [.d sh (.sl (.sl .int)) g,.d s2 (.sl .int) c] [] [I (ctsN g c:Nat)] []:=by
 obtain ⟨⟨hg1,hg2⟩,hgp⟩:=perm_bd hB
 have hx:∀i,i<g.length->(g.getD i []).length<=1048576:=fun i hi=>by have:=(hgp i hi).1.1;omega
 have hG:=spec_GroupOk sh g (by omega) hx
 rw [hB] at hG
 have hb:∀j,j<=g.length->ctsS g c j<=j*1024:=fun j hj=>sumTo_le _ _ _ fun i hi=>ways_b (hgp i (by omega)).1 hc.l2
 refine AC_of tauOk 27 0 [4] Tryz.func203 rfl (by kernel_rfl) rfl rfl rfl rfl rfl ?_
 refine ⟨[],false,_,_,hG,nd0,rfl,rfl,trivial,fun _=>?_,nofun⟩
 refine ⟨Nat,fun k=>⟨[(0,.d sh (.sl (.sl .int)) g),(1,.d s2 (.sl .int) c),(5,I (ctsS g c k:Nat)),(11,.d sh (.sl (.sl .int)) g),(12,I g.length),(13,I (k:Nat))],[]⟩,fun k=>k<=g.length,fun k=>g.length-k,0,Nat.zero_le _,
  ⟨⟨rfl,rfl⟩,⟨rfl,rfl,rfl,rfl,rfl,rfl,trivial⟩,trivial⟩,fun k hk=>?_⟩
 dsimp only at hk
 have hbk:=hb k hk
 refine ⟨fun h1=>?_,fun h1=>?_⟩
 .have hk2:k<g.length:=by omega
  obtain ⟨hP,hl⟩:=hgp k hk2
  have hb1:=hb (k+1) hk2
  refine ⟨k,rfl,hk2,[],false,_,_,spec_CountFixed sh s2 (g.getD k []) c hP (by rw [hl];exact hc),nd0,rfl,rfl,trivial,?_⟩
  refine ⟨((ctsS g c (k+1):Nat):Int),w64_eq (by rw [show ctsS g c (k+1)=ctsS g c k+waysN (cycL (g.getD k [])) c from rfl];omega) (by omega) (by omega),?_⟩
  exact ⟨((k+1:Nat):Int),w64_eq (by omega) (by omega) (by omega),k+1,by first|omega|(dsimp only;omega),by first|omega|(dsimp only;omega),⟨rfl,rfl⟩,⟨rfl,rfl,rfl,rfl,rfl,rfl,trivial⟩,trivial⟩
 .obtain rfl:k=g.length:=by omega
  have hd:ctsN g c<=ctsS g c g.length:=Nat.div_le_self _ _
  refine ⟨by omega,((ctsN g c:Nat):Int),w64_eq (Int.ofNat_tdiv _ _) (by omega) (by omega),?_⟩
  exact ⟨none,⟨rfl,trivial⟩,rfl,rfl⟩
theorem spec_TwoColors (sh:Bool) (g:List (List Int)) (hB:gokB g=true):AC Tryz.prog 102 [.d sh (.sl (.sl .int)) g] [] [.ow 0] [.sl 3 .int (twoL g)]:=by
 obtain ⟨⟨hg1,hg2⟩,hgp⟩:=perm_bd hB
 have hx:∀i,i<g.length->(g.getD i []).length<=1048576:=fun i hi=>by have:=(hgp i hi).1.1;omega
 have hG:=spec_GroupOk sh g (by omega) hx
 rw [hB] at hG
 have hn:=(hgp 0 (by omega)).1.1
 have e:twoL g=twoS g ((g.getD 0 []).length+1):=by rw [twoL,if_pos hB]
 rw [e]
 refine AC_of tauOk 30 0 [2] Tryz.func102 rfl (by kernel_rfl) rfl rfl rfl rfl rfl ?_
 refine ⟨[],false,_,_,hG,nd0,rfl,rfl,trivial,fun _=>?_,nofun⟩
 refine ⟨rfl,by decide,true,0,rfl,by omega,?_⟩
 refine ⟨Nat,fun k=>⟨[(0,.d sh (.sl (.sl .int)) g),(3,.ow 0),(4,I (g.getD 0 []).length),(5,I (k:Nat))],[.sl 3 .int (twoS g k)]⟩,fun k=>k<=(g.getD 0 []).length+1,fun k=>(g.getD 0 []).length+1-k,0,Nat.zero_le _,
  ⟨⟨rfl,rfl⟩,⟨rfl,rfl,rfl,rfl,trivial⟩,rfl,trivial⟩,fun k hk=>?_⟩
 dsimp only at hk
 have htl:(twoS g k).length=k:=by simp [twoS]
 refine ⟨fun h1=>?_,fun h1=>?_⟩
 .have hk2:k<=(g.getD 0 []).length:=by omega
  have hts:=twoS_s g k
  have hC:=con_of (g.getD 0 []).length k (by omega) hk2
  refine ⟨(((g.getD 0 []).length-k:Nat):Int),w64_eq (by omega) (by omega) (by omega),?_⟩
  refine ⟨rfl,by decide,false,?_⟩
  refine ⟨[],false,_,_,spec_CountContents sh true g [(((g.getD 0 []).length-k:Nat):Int),(k:Int)] hB hC,nd0,rfl,rfl,trivial,?_⟩
  refine ⟨rfl,by decide,false,?_⟩
  refine ⟨rfl,Nat.zero_le _,rfl,by simp only [List.length_cons,List.length_nil];omega,rfl,?_⟩
  exact ⟨((k+1:Nat):Int),w64_eq (by omega) (by omega) (by omega),k+1,by first|omega|(dsimp only;omega),by first|omega|(dsimp only;omega),⟨rfl,rfl⟩,⟨rfl,rfl,rfl,rfl,trivial⟩,rowE hts.symm,trivial⟩
 .obtain rfl:k=(g.getD 0 []).length+1:=by omega
  exact ⟨some 0,⟨⟨rfl,rfl⟩,trivial⟩,⟨rfl,rfl⟩,rfl⟩
theorem spec_ClassesOf (sh:Bool) (g:List (List Int)) (hB:gokB g=true):AC Tryz.prog 101 [.d sh (.sl (.sl .int)) g] [] [.ow 0] [.sl 3 .int (clsL g)]:=by
 obtain ⟨⟨hg1,hg2⟩,hgp⟩:=perm_bd hB
 have hx:∀i,i<g.length->(g.getD i []).length<=1048576:=fun i hi=>by have:=(hgp i hi).1.1;omega
 have hG:=spec_GroupOk sh g (by omega) hx
 rw [hB] at hG
 have hok:=clsS_ok g
 have hgm:∀i,i<g.length->g.getD i []∈g:=fun i hi=>by rw [getD_get _ _ _ hi];exact List.getElem_mem hi
 have hGr:=gok_grl hB
 have hfi:∀i,i<g.length->∀k,k<g.length->∃j:Nat,j<g.length/\findI g (exL (exL (g.getD k []) (g.getD i [])) (actL (g.getD k []) (idL (g.getD k []).length)))=(j:Int):=fun i hi k hk=>by
  have h1:=hGr.cl _ (hGr.cl _ (hgm k hk) _ (hgm i hi)) _ (gok_inv hB (hgm k hk))
  have h2:=(findI_mem hGr.a _).2 h1
  rcases find_b g (exL (exL (g.getD k []) (g.getD i [])) (actL (g.getD k []) (idL (g.getD k []).length))) with h3|⟨j,h3,h4⟩
  .omega
  .exact ⟨j,h3,h4⟩
 refine AC_of tauOk 61 0 [2] Tryz.func101 rfl (by kernel_rfl) rfl rfl rfl rfl rfl ?_
 refine ⟨[],false,_,_,hG,nd0,rfl,rfl,trivial,fun _=>?_,nofun⟩
 refine ⟨rfl,by decide,true,?_⟩
 refine ⟨Nat,fun k=>⟨[(0,.d sh (.sl (.sl .int)) g),(3,.ow 0),(16,I g.length),(17,I (k:Nat))],[.sl 3 .int (List.replicate k (-1))]⟩,fun k=>k<=g.length,fun k=>g.length-k,0,Nat.zero_le _,
  ⟨⟨rfl,rfl⟩,⟨rfl,rfl,rfl,rfl,trivial⟩,rfl,trivial⟩,fun k hk=>?_⟩
 dsimp only at hk
 refine ⟨fun h1=>?_,fun h1=>?_⟩
 .have hk2:k<g.length:=by omega
  refine ⟨rfl,by decide,false,?_⟩
  refine ⟨rfl,Nat.zero_le _,rfl,by simp only [List.length_cons,List.length_nil,List.length_replicate];omega,rfl,?_⟩
  exact ⟨((k+1:Nat):Int),w64_eq (by omega) (by omega) (by omega),k+1,by dsimp only;omega,by dsimp only;omega,⟨rfl,rfl⟩,⟨rfl,rfl,rfl,rfl,trivial⟩,rowE (by rw [List.replicate_succ']),trivial⟩
 obtain rfl:k=g.length:=by omega
 refine ⟨Nat,fun i=>⟨[(0,.d sh (.sl (.sl .int)) g),(3,.ow 0),(4,I ((clsS g i).2:Nat)),(23,.d sh (.sl (.sl .int)) g),(24,I g.length),(25,I (i:Nat))],[.sl 3 .int (clsS g i).1]⟩,fun i=>i<=g.length,fun i=>g.length-i,0,Nat.zero_le _,
  ⟨⟨rfl,rfl⟩,⟨rfl,rfl,rfl,rfl,rfl,rfl,trivial⟩,rfl,trivial⟩,fun i hi=>?_⟩
 dsimp only at hi
 obtain ⟨o1,o2⟩:=hok i
 refine ⟨fun h1=>?_,fun h1=>?_⟩
 .have hi2:i<g.length:=by omega
  obtain ⟨hPi,hli⟩:=hgp i hi2
  refine ⟨i,rfl,hi2,i,rfl,by omega,fun h2=>?_,fun h2=>?_⟩
  .have e:clsS g (i+1)=clsS g i:=by rw [clsS,if_pos (by omega)]
   exact ⟨((i+1:Nat):Int),w64_eq (by omega) (by omega) (by omega),i+1,by dsimp only;omega,by dsimp only;omega,⟨rfl,rfl⟩,⟨rfl,rfl,retI (by rw [e]),rfl,rfl,rfl,trivial⟩,rowE (by rw [e]),trivial⟩
  .have e:clsS g (i+1)=(clsI g (g.getD i []) ((clsS g i).2:Nat) (clsS g i).1 g.length,(clsS g i).2+1):=by rw [clsS,if_neg (by omega)]
   have hcl:=clsI_len g (g.getD i []) ((clsS g i).2:Nat) (clsS g i).1
   rw [o1] at hcl
   refine ⟨Nat,fun k=>⟨[(0,.d sh (.sl (.sl .int)) g),(3,.ow 0),(4,I ((clsS g i).2:Nat)),(6,.d sh (.sl .int) (g.getD i [])),(23,.d sh (.sl (.sl .int)) g),(24,I g.length),(25,I (i:Nat)),(35,.d sh (.sl (.sl .int)) g),(36,I g.length),(37,I (k:Nat))],[.sl 3 .int (clsI g (g.getD i []) ((clsS g i).2:Nat) (clsS g i).1 k)]⟩,
    fun k=>k<=g.length,fun k=>g.length-k,0,Nat.zero_le _,
    ⟨⟨rfl,rfl⟩,⟨rfl,rfl,rfl,rfl,rfl,rfl,rfl,rfl,rfl,rfl,trivial⟩,rfl,trivial⟩,fun k hk=>?_⟩
   dsimp only at hk
   have hlk:=hcl k
   refine ⟨fun h3=>?_,fun h3=>?_⟩
   .have hk2:k<g.length:=by omega
    obtain ⟨hPk,hlk2⟩:=hgp k hk2
    have hvk:=hPk.1
    have hvi:=hPi.1
    have hel1:=exL_len (g.getD k []) (g.getD i [])
    have hil:(actL (g.getD k []) (idL (g.getD k []).length)).length=(g.getD k []).length:=by rw [actL_len,idLlen]
    have hE:=hGr.el _ (hGr.cl _ (hgm k hk2) _ (hgm i hi2))
    obtain ⟨j,hj,hfj⟩:=hfi i hi2 k hk2
    refine ⟨k,rfl,hk2,?_⟩
    refine ⟨[],true,_,_,spec_InversePerm sh (g.getD k []) hPk,nd0,rfl,rfl,trivial,fun _=>?_,nofun⟩
    refine ⟨[],true,_,_,spec_l02Compose sh sh (g.getD k []) (g.getD i []) (by omega) (fun a ha=>by have:=(hPk.2 a ha).1;omega),nd0,rfl,rfl,trivial,?_⟩
    refine ⟨[],true,_,_,spec_l02Compose true true (exL (g.getD k []) (g.getD i [])) (actL (g.getD k []) (idL (g.getD k []).length)) (by omega) (fun a ha=>by have:=(hE.1.2 a ha).1;omega),nd0,rfl,rfl,trivial,?_⟩
    refine ⟨[],false,_,_,spec_l03Find sh true g (exL (exL (g.getD k []) (g.getD i [])) (actL (g.getD k []) (idL (g.getD k []).length))) (by omega) (by rw [exL_len];omega) (fun q hq=>by rw [exL_len,exL_len,(hgp q hq).2,hlk2]),nd0,rfl,rfl,trivial,?_⟩
    refine ⟨j,hfj,by omega,?_⟩
    have es:clsI g (g.getD i []) ((clsS g i).2:Nat) (clsS g i).1 (k+1)=(clsI g (g.getD i []) ((clsS g i).2:Nat) (clsS g i).1 k).set j ((clsS g i).2:Nat):=by rw [clsI,hfj,Int.toNat_natCast]
    exact ⟨((k+1:Nat):Int),w64_eq (by omega) (by omega) (by omega),k+1,by dsimp only;omega,by dsimp only;omega,⟨rfl,rfl⟩,⟨rfl,rfl,rfl,rfl,rfl,rfl,rfl,rfl,rfl,rfl,trivial⟩,rowE es.symm,trivial⟩
   .obtain rfl:k=g.length:=by omega
    refine ⟨(((clsS g i).2+1:Nat):Int),w64_eq (by omega) (by omega) (by omega),?_⟩
    exact ⟨((i+1:Nat):Int),w64_eq (by omega) (by omega) (by omega),i+1,by dsimp only;omega,by dsimp only;omega,⟨rfl,rfl⟩,⟨rfl,rfl,retI (by rw [e]),rfl,rfl,rfl,trivial⟩,rowE (by rw [e]),trivial⟩
 .obtain rfl:i=g.length:=by omega
  exact ⟨some 0,⟨⟨rfl,rfl⟩,trivial⟩,⟨rfl,rfl⟩,rfl⟩
def Rch (g:List (List Int)) (i x:Nat):Prop:=∃a,a<g.length/\(g.getD a []).getD i 0=(x:Int)
theorem rch_mem {g:List (List Int)} {p:List Int} (hp:p∈g) {i x:Nat} (h:p.getD i 0=(x:Int)):Rch g i x:=by
 obtain ⟨a,ha,rfl⟩:=List.getElem_of_mem hp
 exact ⟨a,ha,by rw [getD_get _ _ _ ha];exact h⟩
theorem rch_lt {g:List (List Int)} (hB:gokB g=true) {i x:Nat} (hi:i<(g.getD 0 []).length) (h:Rch g i x):x<(g.getD 0 []).length:=by
 obtain ⟨a,ha,e⟩:=h
 obtain ⟨hP,hl⟩:=(perm_bd hB).2 a ha
 have:=(hP.2 i (by omega)).1
 omega
theorem rch_trans {g:List (List Int)} (hB:gokB g=true) {i x y:Nat} (hi:i<(g.getD 0 []).length) (h1:Rch g i x) (h2:Rch g x y):Rch g i y:=by
 obtain ⟨a,ha,e1⟩:=h1
 obtain ⟨b,hb,e2⟩:=h2
 have hgm:∀i,i<g.length->g.getD i []∈g:=fun i hi=>by rw [getD_get _ _ _ hi];exact List.getElem_mem hi
 refine rch_mem ((gok_grl hB).cl _ (hgm a ha) _ (hgm b hb)) (i:=i) ?_
 rw [exL_at _ _ _ (by rw [((perm_bd hB).2 a ha).2];exact hi),e1,Int.toNat_natCast,e2]
theorem rch_symm {g:List (List Int)} (hB:gokB g=true) {i x:Nat} (hi:i<(g.getD 0 []).length) (h1:Rch g i x):Rch g x i:=by
 obtain ⟨a,ha,e1⟩:=h1
 have hgm:g.getD a []∈g:=by rw [getD_get _ _ _ ha];exact List.getElem_mem ha
 obtain ⟨hP,hl⟩:=(perm_bd hB).2 a ha
 refine rch_mem (gok_inv hB hgm) (i:=x) ?_
 have h:=actL_get (p:=g.getD a []) (xs:=idL (g.getD a []).length) hP (idLlen _).symm i (by rw [idLlen];omega)
 rw [e1,Int.toNat_natCast,idL_at _ _ (by omega)] at h
 exact h
def inS (g:List (List Int)) (n i:Nat):Nat->List Bool
 |0=>List.replicate n false
 |k+1=>(inS g n i k).set ((g.getD k []).getD i 0).toNat true
def scn (I seen:List Bool):Nat->List Bool × List Int
 |0=>(seen,[])
 |x+1=>if I.getD x false=true then ((scn I seen x).1.set x true,(scn I seen x).2++[(x:Int)]) else scn I seen x
def ospS (g:List (List Int)) (n:Nat):Nat->List Bool × List (List Int)
 |0=>(List.replicate n false,[])
 |i+1=>if (ospS g n i).1.getD i false=true then ospS g n i else ((scn (inS g n i g.length) (ospS g n i).1 n).1,(ospS g n i).2++[(scn (inS g n i g.length) (ospS g n i).1 n).2])
theorem getD_setB (l:List Bool) (j x:Nat) (hj:j<l.length):(l.set j true).getD x false=true ↔ (x=j\/l.getD x false=true):=by
 by_cases h:j=x
 .subst h
  rw [List.getD_eq_getElem?_getD,List.getElem?_set_self hj];simp
 .rw [List.getD_eq_getElem?_getD,List.getElem?_set_ne h,<-List.getD_eq_getElem?_getD]
  constructor
  .exact .inr
  .rintro (e|e)
   .exact (h e.symm).elim
   .exact e
theorem inS_len (g:List (List Int)) (n i:Nat):∀k,(inS g n i k).length=n
 |0=>by simp [inS]
 |k+1=>by rw [inS,List.length_set,inS_len g n i k]
theorem scn_len (I seen:List Bool):∀m,(scn I seen m).1.length=seen.length/\(scn I seen m).2.length<=m
 |0=>⟨rfl,Nat.le_refl _⟩
 |m+1=>by
  have:=scn_len I seen m
  rw [scn]
  split
  .exact ⟨by rw [List.length_set];exact this.1,by simp;omega⟩
  .exact ⟨this.1,by omega⟩
theorem ospS_len (g:List (List Int)) (n:Nat):∀i,(ospS g n i).1.length=n/\(ospS g n i).2.length<=i
 |0=>⟨by simp [ospS],Nat.le_refl _⟩
 |i+1=>by
  have:=ospS_len g n i
  rw [ospS]
  split
  .exact ⟨this.1,by omega⟩
  .exact ⟨by rw [(scn_len _ _ _).1];exact this.1,by simp;omega⟩
theorem inS_get {g:List (List Int)} {n i:Nat} (hv:∀a,a<g.length->∃x:Nat,x<n/\(g.getD a []).getD i 0=(x:Int)) (x:Nat):∀k,k<=g.length->((inS g n i k).getD x false=true ↔ ∃a,a<k/\(g.getD a []).getD i 0=(x:Int))
 |0,_=>by
  rw [inS]
  constructor
  .intro h
   rw [List.getD_eq_getElem?_getD,List.getElem?_replicate] at h
   split at h<;>simp at h
  .rintro ⟨a,ha,_⟩;omega
 |k+1,hk=>by
  have ih:=inS_get hv x k (by omega)
  obtain ⟨y,hy,e⟩:=hv k (by omega)
  rw [inS,e,Int.toNat_natCast,getD_setB _ _ _ (by rw [inS_len];exact hy),ih]
  constructor
  .rintro (h|⟨a,h1,h2⟩)
   .exact ⟨k,by omega,by rw [e,h]⟩
   .exact ⟨a,by omega,h2⟩
  .rintro ⟨a,h1,h2⟩
   by_cases h:a=k
   .subst h;rw [e] at h2;exact .inl (by omega)
   .exact .inr ⟨a,by omega,h2⟩
theorem scn_get (I seen:List Bool) (x:Nat):∀m,m<=seen.length->((scn I seen m).1.getD x false=true ↔ (seen.getD x false=true\/(x<m/\I.getD x false=true)))
 |0,_=>by simp [scn]
 |m+1,hm=>by
  have ih:=scn_get I seen x m (by omega)
  rw [scn]
  split
  .rename_i h
   dsimp only
   rw [getD_setB _ _ _ (by rw [(scn_len _ _ _).1];omega),ih]
   constructor
   .rintro (e|e|⟨e1,e2⟩)
    .exact .inr ⟨by omega,by rw [e];exact h⟩
    .exact .inl e
    .exact .inr ⟨by omega,e2⟩
   .rintro (e|⟨e1,e2⟩)
    .exact .inr (.inl e)
    .by_cases he:x=m
     .exact .inl he
     .exact .inr (.inr ⟨by omega,e2⟩)
  .rename_i h
   rw [ih]
   constructor
   .rintro (e|⟨e1,e2⟩)
    .exact .inl e
    .exact .inr ⟨by omega,e2⟩
   .rintro (e|⟨e1,e2⟩)
    .exact .inl e
    .by_cases he:x=m
     .subst he;exact (h e2).elim
     .exact .inr ⟨by omega,e2⟩
theorem scn_lst (I seen:List Bool):∀m,(scn I seen m).2.Pairwise (fun a b=>a<b)/\∀z,z∈(scn I seen m).2 ↔ ∃x:Nat,z=(x:Int)/\x<m/\I.getD x false=true
 |0=>⟨List.Pairwise.nil,fun z=>by simp [scn]⟩
 |m+1=>by
  obtain ⟨h1,h2⟩:=scn_lst I seen m
  rw [scn]
  split
  .rename_i h
   refine ⟨?_,fun z=>?_⟩
   .rw [List.pairwise_append]
    refine ⟨h1,List.pairwise_singleton _ _,fun a ha b hb=>?_⟩
    obtain ⟨x,rfl,hx,_⟩:=(h2 a).1 ha
    rw [List.mem_singleton.1 hb];omega
   .rw [List.mem_append,h2,List.mem_singleton]
    constructor
    .rintro (⟨x,e1,e2,e3⟩|e)
     .exact ⟨x,e1,by omega,e3⟩
     .exact ⟨m,e,by omega,h⟩
    .rintro ⟨x,e1,e2,e3⟩
     by_cases he:x=m
     .exact .inr (by rw [e1,he])
     .exact .inl ⟨x,e1,by omega,e3⟩
  .rename_i h
   refine ⟨h1,fun z=>?_⟩
   rw [h2]
   constructor
   .rintro ⟨x,e1,e2,e3⟩;exact ⟨x,e1,by omega,e3⟩
   .rintro ⟨x,e1,e2,e3⟩
    by_cases he:x=m
    .subst he;exact (h e3).elim
    .exact ⟨x,e1,by omega,e3⟩
theorem orbI_get {g:List (List Int)} {n i:Nat} {met:List Bool} (hm:met.length=n) (hv:∀a,a<g.length->∃x:Nat,x<n/\(g.getD a []).getD i 0=(x:Int)):∀k,k<=g.length->
 (∀x:Nat,(orbI g i met k).1.getD x false=true ↔ (met.getD x false=true\/∃a,a<k/\(g.getD a []).getD i 0=(x:Int)))/\(orbI g i met k).2.Nodup/\
 ∀z,z∈(orbI g i met k).2 ↔ ∃x:Nat,z=(x:Int)/\met.getD x false=false/\∃a,a<k/\(g.getD a []).getD i 0=(x:Int)
 |0,_=>⟨fun x=>by simp [orbI],nd0,fun z=>by simp [orbI]⟩
 |k+1,hk=>by
  obtain ⟨h1,h2,h3⟩:=orbI_get hm hv k (by omega)
  obtain ⟨y,hy,e⟩:=hv k (by omega)
  rw [orbI,e,Int.toNat_natCast]
  split
  .rename_i h
   have hk2:=(h1 y).1 h
   refine ⟨fun x=>?_,h2,fun z=>?_⟩
   .rw [h1]
    constructor
    .rintro (c|⟨a,c1,c2⟩)
     .exact .inl c
     .exact .inr ⟨a,by omega,c2⟩
    .rintro (c|⟨a,c1,c2⟩)
     .exact .inl c
     .by_cases ea:a=k
      .subst ea
       rw [e] at c2
       obtain rfl:y=x:=by omega
       exact hk2
      .exact .inr ⟨a,by omega,c2⟩
   .rw [h3]
    constructor
    .rintro ⟨x,c1,c2,a,c3,c4⟩;exact ⟨x,c1,c2,a,by omega,c4⟩
    .rintro ⟨x,c1,c2,a,c3,c4⟩
     by_cases ea:a=k
     .subst ea
      rw [e] at c4
      obtain rfl:y=x:=by omega
      rcases hk2 with c|⟨b,d1,d2⟩
      .rw [c] at c2;cases c2
      .exact ⟨y,c1,c2,b,d1,d2⟩
     .exact ⟨x,c1,c2,a,by omega,c4⟩
  .rename_i h
   have hny:met.getD y false=false/\¬∃a,a<k/\(g.getD a []).getD i 0=(y:Int):=by
    refine ⟨?_,fun c=>h ((h1 y).2 (.inr c))⟩
    cases c:met.getD y false with
    |false=>rfl
    |true=>exact (h ((h1 y).2 (.inl c))).elim
   refine ⟨fun x=>?_,?_,fun z=>?_⟩
   .dsimp only
    rw [getD_setB _ _ _ (by rw [(orbI_ok _ _ _ _).1,hm];exact hy),h1]
    constructor
    .rintro (c|c|⟨a,c1,c2⟩)
     .exact .inr ⟨k,by omega,by rw [e,c]⟩
     .exact .inl c
     .exact .inr ⟨a,by omega,c2⟩
    .rintro (c|⟨a,c1,c2⟩)
     .exact .inr (.inl c)
     .by_cases ea:a=k
      .subst ea;rw [e] at c2;exact .inl (by omega)
      .exact .inr (.inr ⟨a,by omega,c2⟩)
   .rw [List.nodup_append]
    refine ⟨h2,by simp,fun a ha b hb=>?_⟩
    rw [List.mem_singleton.1 hb]
    intro c
    obtain ⟨x,c1,_,c3⟩:=(h3 a).1 ha
    rw [c1] at c
    obtain rfl:x=y:=by omega
    exact hny.2 c3
   .rw [List.mem_append,h3,List.mem_singleton]
    constructor
    .rintro (⟨x,c1,c2,a,c3,c4⟩|c)
     .exact ⟨x,c1,c2,a,by omega,c4⟩
     .exact ⟨y,c,hny.1,k,by omega,e⟩
    .rintro ⟨x,c1,c2,a,c3,c4⟩
     by_cases ea:a=k
     .subst ea;rw [e] at c4;exact .inr (by rw [c1,<-c4])
     .exact .inl ⟨x,c1,c2,a,by omega,c4⟩
theorem ext_getB {l m:List Bool} (hl:l.length=m.length) (h:∀x,x<l.length->(l.getD x false=true ↔ m.getD x false=true)):l=m:=by
 refine ext_getD false hl fun x hx=>?_
 have:=h x hx
 cases a:l.getD x false<;>cases b:m.getD x false<;>simp_all
theorem ospS_orb {g:List (List Int)} (hB:gokB g=true):∀i,i<=(g.getD 0 []).length->ospS g (g.getD 0 []).length i=orbS g (g.getD 0 []).length i/\∀x,x<(g.getD 0 []).length->((orbS g (g.getD 0 []).length i).1.getD x false=true ↔ ∃j,j<i/\Rch g j x)
 |0,_=>⟨rfl,fun x hx=>by
  rw [orbS,List.getD_eq_getElem?_getD,List.getElem?_replicate]
  constructor
  .intro h;split at h<;>simp at h
  .rintro ⟨j,hj,_⟩;omega⟩
 |i+1,hi=>by
  obtain ⟨h1,h2⟩:=ospS_orb hB i (by omega)
  have hol:=(orbS_ok g (g.getD 0 []).length i).1
  have hv:∀a,a<g.length->∃x:Nat,x<(g.getD 0 []).length/\(g.getD a []).getD i 0=(x:Int):=fun a ha=>by
   obtain ⟨hP,hl⟩:=(perm_bd hB).2 a ha
   have:=(hP.2 i (by omega)).1
   exact ⟨((g.getD a []).getD i 0).toNat,by omega,by omega⟩
  have hrf:Rch g i i:=by
   refine rch_mem (gok_grl hB).id ?_
   exact idL_at _ _ (by omega)
  rw [ospS,orbS,h1]
  by_cases hm:(orbS g (g.getD 0 []).length i).1.getD i false=true
  .rw [if_pos hm,if_pos hm]
   refine ⟨rfl,fun x hx=>?_⟩
   rw [h2 x hx]
   obtain ⟨j0,hj0,hr0⟩:=(h2 i (by omega)).1 hm
   constructor
   .rintro ⟨j,a,b⟩;exact ⟨j,by omega,b⟩
   .rintro ⟨j,a,b⟩
    by_cases e:j=i
    .subst e;exact ⟨j0,hj0,rch_trans hB (by omega) hr0 b⟩
    .exact ⟨j,by omega,b⟩
  .rw [if_neg hm,if_neg hm]
   obtain ⟨o1,o2,o3⟩:=orbI_get (g:=g) (i:=i) (met:=(orbS g (g.getD 0 []).length i).1) hol hv g.length (Nat.le_refl _)
   have hin:=fun x=>inS_get (g:=g) (i:=i) hv x g.length (Nat.le_refl _)
   have hsc:=fun x=>scn_get (inS g (g.getD 0 []).length i g.length) (orbS g (g.getD 0 []).length i).1 x (g.getD 0 []).length (by rw [hol];exact Nat.le_refl _)
   have hnew:∀x,x<(g.getD 0 []).length->Rch g i x->(orbS g (g.getD 0 []).length i).1.getD x false=false:=fun x hx hr=>by
    cases c:(orbS g (g.getD 0 []).length i).1.getD x false with
    |false=>rfl
    |true=>
     obtain ⟨j,hj,hr2⟩:=(h2 x hx).1 c
     exact (hm ((h2 i (by omega)).2 ⟨j,hj,rch_trans hB (by omega) hr2 (rch_symm hB (by omega) hr)⟩)).elim
   obtain ⟨l1,l2⟩:=scn_lst (inS g (g.getD 0 []).length i g.length) (orbS g (g.getD 0 []).length i).1 (g.getD 0 []).length
   have e1:(scn (inS g (g.getD 0 []).length i g.length) (orbS g (g.getD 0 []).length i).1 (g.getD 0 []).length).1=(orbI g i (orbS g (g.getD 0 []).length i).1 g.length).1:=by
    refine ext_getB (by rw [(scn_len _ _ _).1,(orbI_ok _ _ _ _).1]) fun x hx=>?_
    rw [(scn_len _ _ _).1,hol] at hx
    rw [hsc,o1,hin]
    constructor
    .rintro (c|⟨_,c⟩)
     .exact .inl c
     .exact .inr c
    .rintro (c|c)
     .exact .inl c
     .exact .inr ⟨hx,c⟩
   have e2:(scn (inS g (g.getD 0 []).length i g.length) (orbS g (g.getD 0 []).length i).1 (g.getD 0 []).length).2=srtI (orbI g i (orbS g (g.getD 0 []).length i).1 g.length).2:=by
    refine List.Perm.eq_of_pairwise (le:=fun x y:Int=>x<=y) (fun a b _ _ a1 a2=>by omega) (l1.imp fun h=>by omega) (srtI_s _) ?_
    refine List.Perm.trans ?_ (srtI_p _).symm
    refine (List.perm_ext_iff_of_nodup (l1.imp fun h=>by omega) o2).2 fun z=>?_
    rw [l2,o3]
    constructor
    .rintro ⟨x,c1,c2,c3⟩
     have c4:=(hin x).1 c3
     exact ⟨x,c1,hnew x c2 c4,c4⟩
    .rintro ⟨x,c1,c2,c3⟩
     exact ⟨x,c1,rch_lt hB (by omega) c3,(hin x).2 c3⟩
   refine ⟨by rw [e1,e2],fun x hx=>?_⟩
   dsimp only
   rw [o1,h2 x hx]
   constructor
   .rintro (⟨j,a,b⟩|c)
    .exact ⟨j,by omega,b⟩
    .exact ⟨i,by omega,c⟩
   .rintro ⟨j,a,b⟩
    by_cases e:j=i
    .subst e;exact .inr b
    .exact .inl ⟨j,by omega,b⟩
theorem ospS_eq {g:List (List Int)} (hB:gokB g=true):(ospS g (g.getD 0 []).length (g.getD 0 []).length).2=orbL g:=by
 rw [(ospS_orb hB _ (Nat.le_refl _)).1];rfl
theorem spec_OrbitsOf (sh:Bool) (g:List (List Int)) (hB:gokB g=true):AC Tryz.prog 99 [.d sh (.sl (.sl .int)) g] [] [.ow 0] [.sl 29 (.sl .int) (orbL g)]:=by
 obtain ⟨⟨hg1,hg2⟩,hgp⟩:=perm_bd hB
 have hx:∀i,i<g.length->(g.getD i []).length<=1048576:=fun i hi=>by have:=(hgp i hi).1.1;omega
 have hG:=spec_GroupOk sh g (by omega) hx
 rw [hB] at hG
 have hn:=(hgp 0 (by omega)).1.1
 rw [<-ospS_eq hB]
 generalize hnn:(g.getD 0 []).length=n at*
 refine AC_of tauOk 69 0 [2] Tryz.func99 rfl (by kernel_rfl) rfl rfl rfl rfl rfl ?_
 refine ⟨[],false,_,_,hG,nd0,rfl,rfl,trivial,fun _=>?_,nofun⟩
 refine ⟨rfl,by decide,true,?_⟩
 refine ⟨0,rfl,by omega,(g.getD 0 []).length,(g.getD 0 []).length,rfl,rfl,Nat.le_refl _,by omega,?_⟩
 rw [hnn]
 refine ⟨Nat,fun k=>⟨[(0,.d sh (.sl (.sl .int)) g),(3,.ow 0),(4,.ow 1),(22,I (n:Nat)),(23,I (k:Nat))],[.sl 29 (.sl .int) (ospS g n k).2,.sl 4 .bool (ospS g n k).1]⟩,fun k=>k<=n,fun k=>n-k,0,Nat.zero_le _,
  ⟨⟨rfl,rfl⟩,⟨rfl,rfl,rfl,retI (by simp),rfl,trivial⟩,rfl,rfl,trivial⟩,fun k hk=>?_⟩
 dsimp only at hk
 obtain ⟨o1,o2⟩:=ospS_len g n k
 refine ⟨fun h2=>?_,fun h2=>?_⟩
 .have hk2:k<n:=by omega
  refine ⟨k,rfl,by omega,fun h3=>?_,fun h3=>?_⟩
  .have e:ospS g n (k+1)=ospS g n k:=by rw [ospS,if_pos h3]
   exact ⟨((k+1:Nat):Int),w64_eq (by omega) (by omega) (by omega),k+1,by first|omega|(dsimp only;omega),by first|omega|(dsimp only;omega),⟨rfl,rfl⟩,⟨rfl,rfl,rfl,rfl,rfl,trivial⟩,rowE (by rw [e]),rowE (by rw [e]),trivial⟩
  .have e:ospS g n (k+1)=((scn (inS g n k g.length) (ospS g n k).1 n).1,(ospS g n k).2++[(scn (inS g n k g.length) (ospS g n k).1 n).2]):=by rw [ospS,if_neg (by rw [h3];decide)]
   have hIl:=inS_len g n k
   have hsl:=scn_len (inS g n k g.length) (ospS g n k).1
   rw [o1] at hsl
   refine ⟨(ospS g n k).1.length,(ospS g n k).1.length,rfl,rfl,Nat.le_refl _,by omega,?_⟩
   refine ⟨Nat,fun i=>⟨[(0,.d sh (.sl (.sl .int)) g),(3,.ow 0),(4,.ow 1),(5,I (k:Nat)),(6,.ow 2),(22,I (n:Nat)),(23,I (k:Nat)),(33,.d sh (.sl (.sl .int)) g),(34,I g.length),(35,I (i:Nat))],[.sl 29 (.sl .int) (ospS g n k).2,.sl 4 .bool (ospS g n k).1,.sl 4 .bool (inS g n k i)]⟩,
    fun i=>i<=g.length,fun i=>g.length-i,0,Nat.zero_le _,
    ⟨⟨rfl,rfl⟩,⟨rfl,rfl,rfl,rfl,rfl,rfl,rfl,rfl,rfl,rfl,trivial⟩,rfl,rfl,rowE (by rw [o1];rfl),trivial⟩,fun i hi=>?_⟩
   dsimp only at hi
   have hIi:=hIl i
   refine ⟨fun h4=>?_,fun h4=>?_⟩
   .have hi2:i<g.length:=by omega
    obtain ⟨hP,hl⟩:=hgp i hi2
    have hb:=(hP.2 k (by omega)).1
    have hv:(g.getD i []).getD k 0=((((g.getD i []).getD k 0).toNat:Nat):Int):=by omega
    refine ⟨i,rfl,hi2,k,rfl,by omega,((g.getD i []).getD k 0).toNat,hv,by omega,?_⟩
    exact ⟨((i+1:Nat):Int),w64_eq (by omega) (by omega) (by omega),i+1,by first|omega|(dsimp only;omega),by first|omega|(dsimp only;omega),⟨rfl,rfl⟩,⟨rfl,rfl,rfl,rfl,rfl,rfl,rfl,rfl,rfl,rfl,trivial⟩,rfl,rfl,rowE rfl,trivial⟩
   .obtain rfl:i=g.length:=by omega
    refine ⟨rfl,by decide,true,?_⟩
    refine ⟨Nat,fun m=>⟨[(0,.d sh (.sl (.sl .int)) g),(3,.ow 0),(4,.ow 1),(9,.ow 3),(22,I (n:Nat)),(23,I (k:Nat)),(47,.ow 2),(48,I (n:Nat)),(49,I (m:Nat))],[.sl 29 (.sl .int) (ospS g n k).2,.sl 4 .bool (scn (inS g n k g.length) (ospS g n k).1 m).1,.sl 4 .bool (inS g n k g.length),.sl 3 .int (scn (inS g n k g.length) (ospS g n k).1 m).2]⟩,
     fun m=>m<=n,fun m=>n-m,0,Nat.zero_le _,
     ⟨⟨rfl,rfl⟩,⟨rfl,rfl,rfl,rfl,rfl,rfl,rfl,retI (by rw [hIi]),rfl,trivial⟩,rfl,rfl,rfl,rfl,trivial⟩,fun m hm=>?_⟩
    dsimp only at hm
    obtain ⟨s1,s2⟩:=hsl m
    refine ⟨fun h5=>?_,fun h5=>?_⟩
    .have hm2:m<n:=by omega
     refine ⟨m,rfl,by omega,fun h6=>?_,fun h6=>?_⟩
     .have es:scn (inS g n k g.length) (ospS g n k).1 (m+1)=((scn (inS g n k g.length) (ospS g n k).1 m).1.set m true,(scn (inS g n k g.length) (ospS g n k).1 m).2++[(m:Int)]):=by rw [scn,if_pos h6]
      refine ⟨m,rfl,by omega,?_⟩
      refine ⟨rfl,by decide,false,?_⟩
      refine ⟨rfl,Nat.zero_le _,rfl,by simp only [List.length_cons,List.length_nil];omega,rfl,?_⟩
      exact ⟨((m+1:Nat):Int),w64_eq (by omega) (by omega) (by omega),m+1,by first|omega|(dsimp only;omega),by first|omega|(dsimp only;omega),⟨rfl,rfl⟩,⟨rfl,rfl,rfl,rfl,rfl,rfl,rfl,rfl,rfl,trivial⟩,rfl,rowE (by rw [es]),rfl,rowE (by rw [es]),trivial⟩
     .have es:scn (inS g n k g.length) (ospS g n k).1 (m+1)=scn (inS g n k g.length) (ospS g n k).1 m:=by rw [scn,if_neg (by rw [h6];decide)]
      exact ⟨((m+1:Nat):Int),w64_eq (by omega) (by omega) (by omega),m+1,by first|omega|(dsimp only;omega),by first|omega|(dsimp only;omega),⟨rfl,rfl⟩,⟨rfl,rfl,rfl,rfl,rfl,rfl,rfl,rfl,rfl,trivial⟩,rfl,rowE (by rw [es]),rfl,rowE (by rw [es]),trivial⟩
    .obtain rfl:m=n:=by omega
     refine ⟨rfl,rfl,by decide,false,?_⟩
     refine ⟨rfl,Nat.zero_le _,rfl,by simp only [List.length_cons,List.length_nil];omega,rfl,?_⟩
     exact ⟨((k+1:Nat):Int),w64_eq (by omega) (by omega) (by omega),k+1,by first|omega|(dsimp only;omega),by first|omega|(dsimp only;omega),⟨rfl,rfl⟩,⟨rfl,rfl,rfl,rfl,rfl,trivial⟩,rowE (by rw [e]),rowE (by rw [e]),trivial⟩
 .obtain rfl:k=n:=by omega
  exact ⟨some 0,⟨⟨rfl,rfl⟩,trivial⟩,⟨rfl,rfl⟩,rfl⟩
theorem fnd_gG {n:Nat} {gens:List (List Int)} (h1:1<=n) (h2:n<=10) (hg:GenP n gens) (h:(bfsI n gens 200 0 [idL n]).isSome=true):bfsS n gens 200 0 [idL n] [idL n]=some (gG n gens):=by
 have e:=gG_some h
 rw [grpO_fnd h1 h2 (gen_q hg)] at e
 exact e
theorem mir_rev:∀n,n<11->mirL n=(idL n).reverse:=by decide+kernel
theorem spec_CyclicGroup_z (n:Int):AC Tryz.prog 96 [I n] [] (grpR (cycO n)) []:=by
 by_cases h:1<=n/\n<=10
 .obtain ⟨N,rfl⟩:∃N:Nat,n=(N:Int):=⟨n.toNat,by omega⟩
  obtain ⟨⟨c1,c2⟩,c3,c4⟩:=grp_chk N (by omega) (by omega)
  rw [cycO,if_pos h,Int.toNat_natCast]
  have hG:=spec_GroupOf true N [turnL N] _ (by omega) (by omega) (gens1 c1) (fnd_gG (by omega) (by omega) (gens1 c1) c3)
  refine AC_of tauOk 14 0 [2,3] Tryz.func96 rfl (by kernel_rfl) rfl rfl rfl rfl rfl ?_
  refine ⟨[],false,_,_,spec_l01In _ _ _,nd0,rfl,rfl,trivial,fun _=>?_,fun h=>by simp only [Bool.and_eq_false_iff,decide_eq_false_iff_not] at h;omega⟩
  refine ⟨[],true,_,_,spec_l03Turn N (by omega) (by omega),nd0,rfl,rfl,trivial,?_⟩
  refine ⟨rfl,by decide,false,?_⟩
  refine ⟨[],false,_,_,hG,nd0,rfl,rfl,trivial,fun _=>?_,nofun⟩
  exact ⟨none,⟨rfl,rfl,trivial⟩,rfl,rfl⟩
 .rw [cycO,if_neg h]
  refine AC_of tauOk 14 0 [2,3] Tryz.func96 rfl (by kernel_rfl) rfl rfl rfl rfl rfl ?_
  refine ⟨[],false,_,_,spec_l01In _ _ _,nd0,rfl,rfl,trivial,fun h2=>by simp only [Bool.and_eq_true,decide_eq_true_eq] at h2;omega,fun _=>?_⟩
  exact ⟨none,⟨rfl,rfl,trivial⟩,rfl,rfl⟩
theorem spec_DihedralGroup_z (n:Int):AC Tryz.prog 119 [I n] [] (grpR (dihO n)) []:=by
 by_cases h:1<=n/\n<=10
 .obtain ⟨N,rfl⟩:∃N:Nat,n=(N:Int):=⟨n.toNat,by omega⟩
  obtain ⟨⟨c1,c2⟩,c3,c4⟩:=grp_chk N (by omega) (by omega)
  rw [dihO,if_pos h,Int.toNat_natCast,<-mir_rev N (by omega)]
  rw [<-mir_rev N (by omega)] at c2 c4
  have hG:=spec_GroupOf true N [turnL N,mirL N] _ (by omega) (by omega) (gens2 c1 c2) (fnd_gG (by omega) (by omega) (gens2 c1 c2) c4)
  refine AC_of tauOk 16 0 [2,3] Tryz.func119 rfl (by kernel_rfl) rfl rfl rfl rfl rfl ?_
  refine ⟨[],false,_,_,spec_l01In _ _ _,nd0,rfl,rfl,trivial,fun _=>?_,fun h=>by simp only [Bool.and_eq_false_iff,decide_eq_false_iff_not] at h;omega⟩
  refine ⟨[],true,_,_,spec_l03Turn N (by omega) (by omega),nd0,rfl,rfl,trivial,?_⟩
  refine ⟨[],true,_,_,spec_l03Mirror N (by omega) (by omega),nd0,rfl,rfl,trivial,?_⟩
  refine ⟨rfl,by decide,false,?_⟩
  refine ⟨[],false,_,_,hG,nd0,rfl,rfl,trivial,fun _=>?_,nofun⟩
  exact ⟨none,⟨rfl,rfl,trivial⟩,rfl,rfl⟩
 .rw [dihO,if_neg h]
  refine AC_of tauOk 16 0 [2,3] Tryz.func119 rfl (by kernel_rfl) rfl rfl rfl rfl rfl ?_
  refine ⟨[],false,_,_,spec_l01In _ _ _,nd0,rfl,rfl,trivial,fun h2=>by simp only [Bool.and_eq_true,decide_eq_true_eq] at h2;omega,fun _=>?_⟩
  exact ⟨none,⟨rfl,rfl,trivial⟩,rfl,rfl⟩
theorem spec_SymmetricGroup_z (n:Int):AC Tryz.prog 120 [I n] [] (grpR (symO n)) []:=by
 by_cases h:1<=n/\n<=5
 .obtain ⟨N,rfl⟩:∃N:Nat,n=(N:Int):=⟨n.toNat,by omega⟩
  obtain ⟨o,ho,_⟩:=(sym_ok N (by omega) (by omega)).i
  have hs:=(sym_ok N (by omega) (by omega)).s
  have e:=fnd_gG (n:=N) (gens:=[turnL N,swapL N]) (by omega) (by omega) (gens_ok N (by omega) (by omega)) (by rw [ho];rfl)
  have e2:gG N [turnL N,swapL N]=symL N:=Option.some.inj (e.symm.trans hs)
  rw [symO,if_pos h,Int.toNat_natCast,e2]
  exact spec_SymmetricGroup N (by omega) (by omega)
 .rw [symO,if_neg h]
  refine AC_of tauOk 24 0 [2,3] Tryz.func120 rfl (by kernel_rfl) rfl rfl rfl rfl rfl ?_
  refine ⟨[],false,_,_,spec_l01In _ _ _,nd0,rfl,rfl,trivial,fun h2=>by simp only [Bool.and_eq_true,decide_eq_true_eq] at h2;omega,fun _=>?_⟩
  exact ⟨none,⟨rfl,rfl,trivial⟩,rfl,rfl⟩
def corN (x y z:Nat):Nat:=x+2*y+4*z
def corK (j k:Nat):Int:=
 match j with
 |0=>corN (1-k / 2 % 2) (k % 2) (k / 4)
 |1=>corN (k % 2) (1-k / 4) (k / 2 % 2)
 |_=>corN (k % 2) (k / 2 % 2) (1-k / 4)
def crnS (j k:Nat):List Int:=(List.range k).map (corK j)
theorem crnS_s (j k:Nat):crnS j (k+1)=crnS j k++[corK j k]:=by
 rw [crnS,List.range_succ,List.map_append];rfl
def sgnL (k:Nat):List (List Int):=
 match k with
 |1=>[[1,2,0,3],[1,0,3,2],[1,0,2,3]]
 |2=>[[1,2,0,3],[1,0,3,2],[1,0,2,3]].map pactL
 |3=>[[0,1,4,5,3,2],[2,3,1,0,4,5],[1,0,2,3,4,5]]
 |_=>[crnS 0 8,crnS 1 8,crnS 2 8]
def sgnT (k:Nat) (mir:Bool):List (List Int):=if mir=true then sgnL k else (sgnL k).take 2
theorem sgn4:sgnL 4=[crnS 0 8,crnS 1 8,crnS 2 8]:=rfl
set_option maxRecDepth 100000 in
theorem sgn_chk:∀k,k<5->1<=k->∀mir:Bool,(sgnT k mir).length<=3/\(sgnT k mir).all (fun p=>permB p && decide (p.length=solN k))=true/\bfsS (solN k) (sgnT k mir) 200 0 [idL (solN k)] [idL (solN k)]=bfsS (solN k) (solG k mir) 200 0 [idL (solN k)] [idL (solN k)]:=by decide+kernel
def degI (k:Int):Int:=if 1<=k/\k<=4 then (solN k.toNat:Nat) else 0
theorem spec_SolidDegree (k:Int):AC Tryz.prog 222 [I k] [] [I (degI k)] []:=by
 refine AC_of tauOk 11 0 [2] Tryz.func222 rfl (by kernel_rfl) rfl rfl rfl rfl rfl ?_
 refine ⟨fun h1=>?_,fun h1=>?_⟩
 .subst h1
  exact ⟨none,⟨rfl,trivial⟩,rfl,rfl⟩
 .refine ⟨fun h2=>?_,fun h2=>?_⟩
  .subst h2
   exact ⟨none,⟨rfl,trivial⟩,rfl,rfl⟩
  .refine ⟨fun h3=>?_,fun h3=>?_⟩
   .subst h3
    exact ⟨none,⟨rfl,trivial⟩,rfl,rfl⟩
   .refine ⟨fun h4=>?_,fun h4=>?_⟩
    .subst h4
     exact ⟨none,⟨rfl,trivial⟩,rfl,rfl⟩
    .exact ⟨none,⟨retI (by rw [degI,if_neg (by omega)]),trivial⟩,rfl,rfl⟩
theorem spec_l10Corner (x y z:Nat) (hx:x<=1) (hy:y<=1) (hz:z<=1):AC Tryz.prog 336 [I (x:Nat),I (y:Nat),I (z:Nat)] [] [I (corN x y z:Nat)] []:=by
 refine AC_of tauOk 14 0 [6] Tryz.func336 rfl (by kernel_rfl) rfl rfl rfl rfl rfl ?_
 refine ⟨((2*y:Nat):Int),w64_eq (by omega) (by omega) (by omega),((x+2*y:Nat):Int),w64_eq (by omega) (by omega) (by omega),((4*z:Nat):Int),w64_eq (by omega) (by omega) (by omega),((corN x y z:Nat):Int),w64_eq (by unfold corN;omega) (by omega) (by unfold corN;omega),?_⟩
 exact ⟨none,⟨rfl,trivial⟩,rfl,rfl⟩
theorem spec_l10Corners:AC Tryz.prog 293 [] [] [.ow 0] [.sl 29 (.sl .int) (sgnL 4)]:=by
 rw [sgn4]
 refine AC_of tauOk 50 0 [0] Tryz.func293 rfl (by kernel_rfl) rfl rfl rfl rfl rfl ?_
 refine ⟨rfl,by decide,true,rfl,by decide,true,rfl,by decide,true,?_⟩
 refine ⟨Nat,fun k=>⟨[(1,.ow 0),(2,.ow 1),(3,.ow 2),(4,I (k:Nat))],[.sl 3 .int (crnS 0 k),.sl 3 .int (crnS 1 k),.sl 3 .int (crnS 2 k)]⟩,fun k=>k<=8,fun k=>8-k,0,Nat.zero_le _,
  ⟨⟨rfl,rfl⟩,⟨rfl,rfl,rfl,rfl,trivial⟩,rfl,rfl,rfl,trivial⟩,fun k hk=>?_⟩
 dsimp only at hk
 have hcl:∀j,(crnS j k).length=k:=fun j=>by simp [crnS]
 have c0:=hcl 0
 have c1:=hcl 1
 have c2:=hcl 2
 refine ⟨fun h1=>?_,fun h1=>?_⟩
 .have hk2:k<8:=by omega
  refine ⟨by decide,((k % 2:Nat):Int),Int.ofNat_tmod k 2,?_⟩
  refine ⟨by decide,((k / 2:Nat):Int),w64_eq (Int.ofNat_tdiv k 2) (by omega) (by omega),by decide,((k / 2 % 2:Nat):Int),Int.ofNat_tmod (k / 2) 2,?_⟩
  refine ⟨by decide,((k / 4:Nat):Int),w64_eq (Int.ofNat_tdiv k 4) (by omega) (by omega),?_⟩
  refine ⟨((1-k / 2 % 2:Nat):Int),w64_eq (by omega) (by omega) (by omega),[],false,_,_,spec_l10Corner (1-k / 2 % 2) (k % 2) (k / 4) (by omega) (by omega) (by omega),nd0,rfl,rfl,trivial,?_⟩
  refine ⟨rfl,by decide,false,rfl,Nat.zero_le _,rfl,by simp only [List.length_cons,List.length_nil];omega,rfl,?_⟩
  refine ⟨((1-k / 4:Nat):Int),w64_eq (by omega) (by omega) (by omega),[],false,_,_,spec_l10Corner (k % 2) (1-k / 4) (k / 2 % 2) (by omega) (by omega) (by omega),nd0,rfl,rfl,trivial,?_⟩
  refine ⟨rfl,by decide,false,rfl,Nat.zero_le _,rfl,by simp only [List.length_cons,List.length_nil];omega,rfl,?_⟩
  refine ⟨((1-k / 4:Nat):Int),w64_eq (by omega) (by omega) (by omega),[],false,_,_,spec_l10Corner (k % 2) (k / 2 % 2) (1-k / 4) (by omega) (by omega) (by omega),nd0,rfl,rfl,trivial,?_⟩
  refine ⟨rfl,by decide,false,rfl,Nat.zero_le _,rfl,by simp only [List.length_cons,List.length_nil];omega,rfl,?_⟩
  exact ⟨((k+1:Nat):Int),w64_eq (by omega) (by omega) (by omega),k+1,by dsimp only;omega,by dsimp only;omega,⟨rfl,rfl⟩,⟨rfl,rfl,rfl,rfl,trivial⟩,rowE (crnS_s 0 k).symm,rowE (crnS_s 1 k).symm,rowE (crnS_s 2 k).symm,trivial⟩
 .obtain rfl:k=8:=by omega
  refine ⟨rfl,rfl,rfl,rfl,by decide,true,?_⟩
  exact ⟨some 3,⟨⟨rfl,rfl⟩,trivial⟩,⟨rfl,rfl⟩,rfl⟩
theorem spec_l10Generators (k:Nat) (h1:1<=k) (h4:k<5) (r:List AV) (hr:r=[.d true (.sl (.sl .int)) (sgnL k)]):AC Tryz.prog 223 [I (k:Nat)] [] r []:=by
 subst hr
 have hcases:k=1\/k=2\/k=3\/k=4:=by omega
 rcases hcases with rfl|rfl|rfl|rfl
 .refine AC.frz1 (e:=29) ?_
  refine AC_of tauOk 44 0 [2] Tryz.func223 rfl (by kernel_rfl) rfl rfl rfl rfl rfl ?_
  refine ⟨rfl,by decide,true,rfl,by decide,true,rfl,by decide,true,rfl,rfl,rfl,rfl,by decide,true,?_⟩
  refine ⟨fun _=>?_,fun h=>(h rfl).elim⟩
  exact ⟨some 3,⟨⟨rfl,rfl⟩,trivial⟩,⟨rfl,rfl⟩,rfl⟩
 .refine AC.frz1 (e:=29) ?_
  have hT:∀i,i<3->PermP (([[1,2,0,3],[1,0,3,2],[1,0,2,3]]:List (List Int)).getD i [])/\(([[1,2,0,3],[1,0,3,2],[1,0,2,3]]:List (List Int)).getD i []).length=4:=by
   have h:(([[1,2,0,3],[1,0,3,2],[1,0,2,3]]:List (List Int)).all fun p=>permB p && decide (p.length=4))=true:=by decide+kernel
   intro i hi
   rw [List.all_eq_true] at h
   have:=h _ (List.getElem_mem (l:=([[1,2,0,3],[1,0,3,2],[1,0,2,3]]:List (List Int))) (n:=i) hi)
   rw [Bool.and_eq_true,decide_eq_true_eq] at this
   rw [getD_get _ _ _ hi]
   exact ⟨(permB_iff _).1 this.1,this.2⟩
  have hS:sgnL 2=([[1,2,0,3],[1,0,3,2],[1,0,2,3]]:List (List Int)).map pactL:=rfl
  rw [hS]
  refine AC_of tauOk 44 0 [2] Tryz.func223 rfl (by kernel_rfl) rfl rfl rfl rfl rfl ?_
  refine ⟨rfl,by decide,true,rfl,by decide,true,rfl,by decide,true,rfl,rfl,rfl,rfl,by decide,true,?_⟩
  refine ⟨fun h=>by omega,fun _=>⟨fun _=>?_,fun h=>(h rfl).elim⟩⟩
  refine ⟨rfl,by decide,true,?_⟩
  refine ⟨Nat,fun i=>⟨[(4,.ow 4),(20,.ow 3),(21,I 3),(22,I (i:Nat))],[.dead,.dead,.dead,.sl 29 (.sl .int) ([[1,2,0,3],[1,0,3,2],[1,0,2,3]]:List (List Int)),.sl 29 (.sl .int) ((([[1,2,0,3],[1,0,3,2],[1,0,2,3]]:List (List Int)).take i).map pactL)]⟩,fun i=>i<=3,fun i=>3-i,0,Nat.zero_le _,
   ⟨⟨rfl,rfl⟩,⟨rfl,rfl,rfl,rfl,trivial⟩,rfl,rfl,rfl,rfl,rfl,trivial⟩,fun i hi=>?_⟩
  dsimp only at hi
  refine ⟨fun h5=>?_,fun h5=>?_⟩
  .have hi2:i<3:=by omega
   obtain ⟨hP,hl⟩:=hT i hi2
   have hs:(([[1,2,0,3],[1,0,3,2],[1,0,2,3]]:List (List Int)).take (i+1)).map pactL=(([[1,2,0,3],[1,0,3,2],[1,0,2,3]]:List (List Int)).take i).map pactL++[pactL (([[1,2,0,3],[1,0,3,2],[1,0,2,3]]:List (List Int)).getD i [])]:=by
    rw [L_succ ([[1,2,0,3],[1,0,3,2],[1,0,2,3]]:List (List Int)) i [] hi2,List.map_append];rfl
   refine ⟨i,rfl,hi2,[],true,_,_,spec_PairAction true (([[1,2,0,3],[1,0,3,2],[1,0,2,3]]:List (List Int)).getD i []) hP (by omega) (by omega),nd0,rfl,rfl,trivial,fun _=>?_,nofun⟩
   refine ⟨rfl,by decide,false,rfl,Nat.zero_le _,rfl,by simp only [List.length_cons,List.length_nil,List.length_map,List.length_take];omega,rfl,?_⟩
   exact ⟨((i+1:Nat):Int),w64_eq (by omega) (by omega) (by omega),i+1,by dsimp only;omega,by dsimp only;omega,⟨rfl,rfl⟩,⟨rfl,rfl,rfl,rfl,trivial⟩,rfl,rfl,rfl,rfl,rowE hs.symm,trivial⟩
  .obtain rfl:i=3:=by omega
   exact ⟨some 4,⟨⟨rfl,rfl⟩,trivial⟩,⟨rfl,rfl⟩,rfl⟩
 .refine AC.frz1 (e:=29) ?_
  refine AC_of tauOk 44 0 [2] Tryz.func223 rfl (by kernel_rfl) rfl rfl rfl rfl rfl ?_
  refine ⟨rfl,by decide,true,rfl,by decide,true,rfl,by decide,true,rfl,rfl,rfl,rfl,by decide,true,?_⟩
  refine ⟨fun h=>by omega,fun _=>⟨fun h=>by omega,fun _=>⟨fun _=>?_,fun h=>(h rfl).elim⟩⟩⟩
  refine ⟨rfl,by decide,true,rfl,by decide,true,rfl,by decide,true,rfl,rfl,rfl,rfl,by decide,true,?_⟩
  exact ⟨some 7,⟨⟨rfl,rfl⟩,trivial⟩,⟨rfl,rfl⟩,rfl⟩
 .refine AC.frz1 (e:=29) ?_
  refine AC_of tauOk 44 0 [2] Tryz.func223 rfl (by kernel_rfl) rfl rfl rfl rfl rfl ?_
  refine ⟨rfl,by decide,true,rfl,by decide,true,rfl,by decide,true,rfl,rfl,rfl,rfl,by decide,true,?_⟩
  refine ⟨fun h=>by omega,fun _=>⟨fun h=>by omega,fun _=>⟨fun h=>by omega,fun _=>?_⟩⟩⟩
  refine ⟨[],false,_,_,spec_l10Corners,nd0,rfl,rfl,trivial,?_⟩
  exact ⟨some 4,⟨⟨rfl,rfl⟩,trivial⟩,⟨rfl,rfl⟩,rfl⟩
theorem spec_SolidGroup_z (k:Int) (mir:Bool):AC Tryz.prog 121 [I k,.d true .bool mir] [] (grpR (solO k mir)) []:=by
 have hD:=spec_SolidDegree k
 by_cases h:1<=k/\k<=4
 .obtain ⟨K,rfl⟩:∃K:Nat,k=(K:Int):=⟨k.toNat,by omega⟩
  obtain ⟨c1,c2,c3⟩:=sgn_chk K (by omega) (by omega) mir
  obtain ⟨d1,d2,d3⟩:=sol_chk K (by omega) (by omega) mir
  have hn:1<=solN K/\solN K<11:=by unfold solN;split<;>decide
  rw [solO,if_pos h,Int.toNat_natCast]
  rw [degI,if_pos h,Int.toNat_natCast] at hD
  have hf:bfsS (solN K) (sgnT K mir) 200 0 [idL (solN K)] [idL (solN K)]=some (solL K mir):=by
   rw [c3]
   exact fnd_gG hn.1 (by omega) (genP_of d1 d2) d3
  have hG:=spec_GroupOf true (solN K) (sgnT K mir) _ hn.1 hn.2 (genP_of c1 c2) hf
  have hln:(sgnL K).length=3:=by
   have:K=1\/K=2\/K=3\/K=4:=by omega
   rcases this with rfl|rfl|rfl|rfl<;>rfl
  have hS:=spec_l10Generators K (by omega) (by omega) _ rfl
  cases mir
  .refine AC_of tauOk 22 0 [4,5] Tryz.func121 rfl (by kernel_rfl) rfl rfl rfl rfl rfl ?_
   refine ⟨[],false,_,_,hD,nd0,rfl,rfl,trivial,fun h=>by omega,fun _=>?_⟩
   refine ⟨[],false,_,_,hS,nd0,rfl,rfl,trivial,?_⟩
   refine ⟨2,rfl,Nat.zero_le _,by omega,?_⟩
   refine ⟨[],false,_,_,hD,nd0,rfl,rfl,trivial,[],false,_,_,hG,nd0,rfl,rfl,trivial,fun _=>?_,nofun⟩
   exact ⟨none,⟨rfl,rfl,trivial⟩,rfl,rfl⟩
  .refine AC_of tauOk 22 0 [4,5] Tryz.func121 rfl (by kernel_rfl) rfl rfl rfl rfl rfl ?_
   refine ⟨[],false,_,_,hD,nd0,rfl,rfl,trivial,fun h=>by omega,fun _=>?_⟩
   refine ⟨[],false,_,_,hS,nd0,rfl,rfl,trivial,?_⟩
   refine ⟨[],false,_,_,hD,nd0,rfl,rfl,trivial,[],false,_,_,hG,nd0,rfl,rfl,trivial,fun _=>?_,nofun⟩
   exact ⟨none,⟨rfl,rfl,trivial⟩,rfl,rfl⟩
 .rw [solO,if_neg h]
  rw [degI,if_neg h] at hD
  refine AC_of tauOk 22 0 [4,5] Tryz.func121 rfl (by kernel_rfl) rfl rfl rfl rfl rfl ?_
  refine ⟨[],false,_,_,hD,nd0,rfl,rfl,trivial,fun _=>?_,fun h=>(h rfl).elim⟩
  exact ⟨none,⟨rfl,rfl,trivial⟩,rfl,rfl⟩
def decS (t:List UInt8):Nat->Nat
 |0=>0
 |k+1=>10*decS t k+((t.getD k 0).toNat-48)
theorem decS_app (a b:List UInt8):∀k,k<=a.length->decS (a++b) k=decS a k
 |0,_=>rfl
 |k+1,h=>by
  rw [decS,decS,decS_app a b k (by omega)]
  have:(a++b).getD k 0=a.getD k 0:=by
   rw [List.getD_eq_getElem?_getD,List.getD_eq_getElem?_getD,List.getElem?_append_left (by omega)]
  rw [this]
theorem dg_v (d:Nat) (h:d<10):(dg d).toNat-48=d/\digB (dg d)=true:=by
 revert d;decide
theorem dec_fmtN:∀(k n:Nat),n<10 ^ k->decS (fmtN n) (fmtN n).length=n/\(fmtN n).all digB=true
 |0,n,h=>by
  have:n=0:=by simpa using h
  subst this
  rw [fmtN_lt 0 (by omega)];decide
 |k+1,n,h=>by
  by_cases h1:n<10
  .rw [fmtN_lt n h1]
   obtain ⟨d1,d2⟩:=dg_v n h1
   refine ⟨?_,by rw [List.all_cons,d2];rfl⟩
   show 10*0+((dg n).toNat-48)=n
   omega
  .rw [fmtN_ge n h1]
   obtain ⟨e1,e2⟩:=dec_fmtN k (n / 10) (by rw [Nat.pow_succ] at h;omega)
   obtain ⟨d1,d2⟩:=dg_v (n % 10) (by omega)
   refine ⟨?_,by rw [List.all_append,e2,List.all_cons,d2];rfl⟩
   rw [List.length_append,List.length_singleton,decS,decS_app _ _ _ (Nat.le_refl _),e1]
   have:(fmtN (n / 10)++[dg (n % 10)]).getD (fmtN (n / 10)).length 0=dg (n % 10):=by
    rw [List.getD_eq_getElem?_getD,List.getElem?_append_right (Nat.le_refl _),Nat.sub_self];rfl
   rw [this,d1];omega
theorem decS_mono (t:List UInt8) (k:Nat):∀m,k<=m->decS t k<=decS t m
 |0,h=>by rw [show k=0 by omega];exact Nat.le_refl _
 |m+1,h=>by
  by_cases e:k=m+1
  .rw [e];exact Nat.le_refl _
  .have:=decS_mono t k m (by omega)
   rw [decS];omega
theorem trim_cons (x:List UInt8):trimM (45::x)=x:=by
 unfold trimM Lib.trimPrefix
 rw [if_pos (by simp [Lib.hasPrefix])];rfl
theorem trim_dig {x:List UInt8} (h:x.all digB=true):trimM x=x:=by
 unfold trimM Lib.trimPrefix
 rw [if_neg]
 intro h2
 cases x with
 |nil=>simp [Lib.hasPrefix] at h2
 |cons c r=>
  simp [Lib.hasPrefix] at h2
  subst h2
  rw [List.all_cons] at h
  simp [digB] at h
theorem trim_eq (s:List UInt8):trimM s=if 0<s.length/\s.getD 0 0=45 then s.drop 1 else s:=by
 unfold trimM Lib.trimPrefix
 cases s with
 |nil=>rfl
 |cons c r=>
  by_cases h:c=45
  .subst h
   rw [if_pos (by simp [Lib.hasPrefix]),if_pos ⟨by simp,rfl⟩];rfl
  .rw [if_neg (by simp [Lib.hasPrefix];exact fun e=>h e.symm),if_neg (fun e=>h e.2)]
theorem fmtN_dec (n:Nat):decS (fmtN n) (fmtN n).length=n/\(fmtN n).all digB=true:=dec_fmtN n n (Nat.lt_pow_self (by decide))
theorem prs_dec {s:List UInt8} (h:prsB s=true):decS (trimM s) (trimM s).length<=9223372036854775808/\((trimM s).length=s.length->decS (trimM s) (trimM s).length<9223372036854775808):=by
 unfold prsB at h
 simp only [Bool.and_eq_true,decide_eq_true_eq] at h
 have hv:=prsV_b s
 have hs:=h.2
 generalize prsV s=v at*
 obtain ⟨d1,d2⟩:=fmtN_dec v.natAbs
 unfold fmtI at hs
 split at hs
 .rename_i hn
  subst hs
  rw [trim_cons,d1]
  exact ⟨by omega,fun e=>by simp at e⟩
 .subst hs
  rw [trim_dig d2,d1]
  exact ⟨by omega,fun _=>by omega⟩
theorem val_dec {t:List UInt8} (ht:t.all digB=true):∀k,k<=t.length->decS t k<=9223372036854775808->valS t k= -(decS t k:Nat)
 |0,_,_=>rfl
 |k+1,hk,h=>by
  have hm:=decS_mono t k (k+1) (by omega)
  have hd:digB (t.getD k 0)=true:=by
   rw [getD_get _ _ _ (by omega)]
   rw [List.all_eq_true] at ht
   exact ht _ (List.getElem_mem _)
  unfold digB at hd
  simp only [Bool.and_eq_true,decide_eq_true_eq] at hd
  rw [decS] at h
  rw [valS,val_dec ht k (by omega) (by omega)]
  rw [<-w64_eq (x:=10* -(decS t k:Nat)) rfl (by omega) (by omega)]
  rw [<-w64_eq (x:=10* -(decS t k:Nat)-(((t.getD k 0).toNat:Int)-48)) rfl (by omega) (by omega),decS]
  omega
theorem spec_IsDigits (s:List UInt8) (hl:s.length<=1048576):AC Tryz.prog 118 [.d true .str s] [] [.d true .bool (digA s)] []:=by
 refine AC_of tauOk 23 0 [2] Tryz.func118 rfl (by kernel_rfl) rfl rfl rfl rfl rfl ?_
 refine ⟨Nat,fun k=>⟨[(0,.d true .str s),(3,I (k:Nat))],[]⟩,fun k=>k<=s.length/\∀j,j<k->digB (s.getD j 0)=true,fun k=>s.length-k,0,⟨Nat.zero_le _,fun j hj=>by omega⟩,
  ⟨⟨rfl,rfl⟩,⟨rfl,rfl,trivial⟩,trivial⟩,fun k ⟨hk,hy⟩=>?_⟩
 refine ⟨fun h2=>?_,fun h2=>?_⟩
 .have hk2:k<s.length:=by omega
  have hb:=(s.getD k 0).toNat_lt
  refine ⟨k,rfl,hk2,fun h3=>?_,fun h3=>?_⟩
  .exact ⟨none,⟨retB (digA_no hk2 (by unfold digB;rw [decide_eq_false (show ¬48<=(s.getD k 0).toNat by omega)];rfl)),trivial⟩,rfl,rfl⟩
  .refine ⟨k,rfl,hk2,fun h4=>?_,fun h4=>?_⟩
   .exact ⟨none,⟨retB (digA_no hk2 (by unfold digB;rw [decide_eq_false (show ¬(s.getD k 0).toNat<=57 by omega),Bool.and_false])),trivial⟩,rfl,rfl⟩
   .refine ⟨_,w64_in _ (by omega) (by omega),k+1,⟨by omega,upto hy ?_⟩,by dsimp only;omega,⟨rfl,rfl⟩,⟨rfl,rfl,trivial⟩,trivial⟩
    unfold digB
    rw [decide_eq_true (show 48<=(s.getD k 0).toNat by omega),decide_eq_true (show (s.getD k 0).toNat<=57 by omega)];rfl
 .obtain rfl:k=s.length:=by omega
  have hall:s.all digB=true:=by
   rw [List.all_eq_true]
   intro x hx
   obtain ⟨j,hj,rfl⟩:=List.getElem_of_mem hx
   have:=hy j hj
   rwa [getD_get _ _ _ hj] at this
  refine ⟨fun h=>?_,fun h=>?_⟩
  .exact ⟨none,⟨retB (by unfold digA;rw [hall,decide_eq_true (List.length_pos_iff.1 (by omega))];rfl),trivial⟩,rfl,rfl⟩
  .exact ⟨none,⟨retB (by unfold digA;rw [hall,decide_eq_false (fun e=>h (by have:=List.length_pos_iff.2 e;omega))];rfl),trivial⟩,rfl,rfl⟩
theorem spec_ParseInt_r (s:List UInt8) (hl:s.length<=1048576) (r:List AV) (hr:prsR s=r):AC Tryz.prog 44 [.d true .str s] [] r []:=by
 have htl:=trim_len s
 have hte:=trim_eq s
 have hno:prsB s=false->r=[I 0,.d true .bool false]:=fun h=>by rw [<-hr,prsR_no h]
 have hyes:prsB s=true->r=[I (prsV s),.d true .bool true]:=fun h=>by rw [<-hr,prsR_yes h]
 have hd0:(digA (trimM s)=false\/19<(trimM s).length)->r=[I 0,.d true .bool false]:=fun h=>hno (by
  unfold prsB
  rcases h with h|h
  .unfold digA at h
   rw [h];rfl
  .rw [decide_eq_false (show ¬(trimM s).length<=19 by omega),Bool.and_false];rfl)
 have hB:digA (trimM s)=true->(trimM s).length<=19->prsB s=decide (fmtI (prsV s)=s):=fun h1 h2=>by
  unfold digA at h1
  unfold prsB
  rw [h1,decide_eq_true h2];rfl
 have hd:=fun h=>prs_dec (s:=s) h
 have hv:=fun h=>val_dec (t:=trimM s) h
 have hvv:prsV s=if (trimM s).length=s.length then w64 (-valS (trimM s) (trimM s).length) else valS (trimM s) (trimM s).length:=rfl
 have hdig:digA (trimM s)=true->(trimM s).all digB=true:=fun h=>by unfold digA at h;simp only [Bool.and_eq_true] at h;exact h.1
 have hmono:=decS_mono (trimM s)
 have hst:∀k,decS (trimM s) (k+1)=10*decS (trimM s) k+(((trimM s).getD k 0).toNat-48):=fun k=>rfl
 have hmain:∀(neg:Bool),(neg=true->(trimM s).length+1=s.length)->(neg=false->(trimM s).length=s.length)->True:=fun _ _ _=>trivial
 have hq:∀d:Int,0<=d->d<=9->(-9223372036854775808+d).tdiv 10=if d=9 then-922337203685477579 else-922337203685477580:=by
  intro d h1 h2
  have:d=0\/d=1\/d=2\/d=3\/d=4\/d=5\/d=6\/d=7\/d=8\/d=9:=by omega
  rcases this with h|h|h|h|h|h|h|h|h|h<;>subst h<;>decide
 generalize hT:trimM s=t at*
 refine AC_of tauOk 60 0 [2,3] Tryz.func44 rfl (by kernel_rfl) rfl rfl rfl rfl rfl ?_
 refine ⟨fun h0=>?_,fun h0=>?_⟩
 .refine ⟨0,rfl,by omega,fun h45=>?_,fun h45=>?_⟩
  .have e45:s.getD 0 0=45:=UInt8.toNat_inj.1 (by have:((s.getD 0 0).toNat:Int)=45:=h45;show (s.getD 0 0).toNat=45;omega)
   rw [if_pos ⟨by omega,e45⟩] at hte
   have hln:t.length+1=s.length:=by rw [hte,List.length_drop];omega
   rw [if_neg (show ¬t.length=s.length by omega)] at hvv
   refine ⟨1,rfl,by omega,Nat.le_refl _,?_⟩
   rw [List.take_length,<-hte]
   refine ⟨[],false,_,_,spec_IsDigits t (by omega),nd0,rfl,rfl,trivial,fun h1=>?_,fun h1=>?_⟩
   .refine ⟨fun h2=>?_,fun h2=>?_⟩
    .obtain rfl:=hd0 (.inr (by omega))
     exact ⟨none,⟨rfl,rfl,trivial⟩,rfl,rfl⟩
    have hdg:=hdig h1
    have hB:=hB h1 (by omega)
    refine ⟨Nat,fun k=>⟨[(0,.d true .str s),(4,.d true .bool true),(5,.d true .str t),(6,I (-(decS t k:Nat))),(7,I (k:Nat))],[]⟩,fun k=>k<=t.length/\decS t k<=9223372036854775808,fun k=>t.length-k,0,⟨Nat.zero_le _,Nat.zero_le _⟩,
     ⟨⟨rfl,rfl⟩,⟨rfl,rfl,rfl,rfl,rfl,trivial⟩,trivial⟩,fun k ⟨hk,hkd⟩=>?_⟩
    refine ⟨fun h3=>?_,fun h3=>?_⟩
    .have hk2:k<t.length:=by omega
     have hdk:digB (t.getD k 0)=true:=by
      rw [getD_get _ _ _ hk2]
      rw [List.all_eq_true] at hdg
      exact hdg _ (List.getElem_mem hk2)
     unfold digB at hdk
     simp only [Bool.and_eq_true,decide_eq_true_eq] at hdk
     have hs1:=hst k
     refine ⟨k,rfl,hk2,?_⟩
     refine ⟨((t.getD k 0).toNat:Int),w64_eq rfl (by omega) (by omega),((t.getD k 0).toNat:Int)-48,w64_eq rfl (by omega) (by omega),?_⟩
     have hq1:=hq (((t.getD k 0).toNat:Int)-48) (by omega) (by omega)
     refine ⟨-9223372036854775808+(((t.getD k 0).toNat:Int)-48),w64_eq rfl (by omega) (by omega),by decide,(-9223372036854775808+(((t.getD k 0).toNat:Int)-48)).tdiv 10,w64_eq rfl (by rw [hq1];split<;>decide) (by rw [hq1];split<;>decide),?_⟩
     rw [hq1]
     refine ⟨fun h4=>?_,fun h4=>?_⟩
     .have hov:9223372036854775808<decS t (k+1):=by split at h4<;>omega
      have hm:=hmono (k+1) t.length hk2
      obtain rfl:=hno (by
       cases hp:prsB s with
       |false=>rfl
       |true=>have:=(hd hp).1;omega)
      exact ⟨none,⟨rfl,rfl,trivial⟩,rfl,rfl⟩
     .have hov:decS t (k+1)<=9223372036854775808:=by split at h4<;>omega
      refine ⟨-(decS t k:Nat)*10,w64_eq rfl (by omega) (by omega),-(decS t (k+1):Nat),w64_eq (by omega) (by omega) (by omega),?_⟩
      exact ⟨_,w64_in _ (by omega) (by omega),k+1,⟨by omega,hov⟩,by dsimp only;omega,⟨rfl,rfl⟩,⟨rfl,rfl,rfl,rfl,rfl,trivial⟩,trivial⟩
    .obtain rfl:k=t.length:=by omega
     have hvd:=hv hdg t.length (Nat.le_refl _) hkd
     rw [hvd] at hvv
     rw [hvv] at hB hyes
     refine ⟨[],false,_,_,spec_FormatInt (-(decS t t.length:Nat)) (by omega) (by omega),nd0,rfl,rfl,trivial,fun h5=>?_,fun h5=>?_⟩
     .obtain rfl:=hno (by rw [hB,decide_eq_false h5])
      exact ⟨none,⟨rfl,rfl,trivial⟩,rfl,rfl⟩
     .obtain rfl:=hyes (by rw [hB,decide_eq_true (Decidable.not_not.1 h5)])
      exact ⟨none,⟨rfl,rfl,trivial⟩,rfl,rfl⟩
   .obtain rfl:=hd0 (.inl h1)
    exact ⟨none,⟨rfl,rfl,trivial⟩,rfl,rfl⟩
  .rw [if_neg (fun e=>h45 (by rw [e.2];rfl))] at hte
   have hln:t.length=s.length:=by rw [hte]
   rw [if_pos hln] at hvv
   subst hte
   refine ⟨[],false,_,_,spec_IsDigits t (by omega),nd0,rfl,rfl,trivial,fun h1=>?_,fun h1=>?_⟩
   .refine ⟨fun h2=>?_,fun h2=>?_⟩
    .obtain rfl:=hd0 (.inr (by omega))
     exact ⟨none,⟨rfl,rfl,trivial⟩,rfl,rfl⟩
    have hdg:=hdig h1
    have hB:=hB h1 (by omega)
    refine ⟨Nat,fun k=>⟨[(0,.d true .str t),(4,.d true .bool false),(5,.d true .str t),(6,I (-(decS t k:Nat))),(7,I (k:Nat))],[]⟩,fun k=>k<=t.length/\decS t k<=9223372036854775808,fun k=>t.length-k,0,⟨Nat.zero_le _,Nat.zero_le _⟩,
     ⟨⟨rfl,rfl⟩,⟨rfl,rfl,rfl,rfl,rfl,trivial⟩,trivial⟩,fun k ⟨hk,hkd⟩=>?_⟩
    refine ⟨fun h3=>?_,fun h3=>?_⟩
    .have hk2:k<t.length:=by omega
     have hdk:digB (t.getD k 0)=true:=by
      rw [getD_get _ _ _ hk2]
      rw [List.all_eq_true] at hdg
      exact hdg _ (List.getElem_mem hk2)
     unfold digB at hdk
     simp only [Bool.and_eq_true,decide_eq_true_eq] at hdk
     have hs1:=hst k
     refine ⟨k,rfl,hk2,?_⟩
     refine ⟨((t.getD k 0).toNat:Int),w64_eq rfl (by omega) (by omega),((t.getD k 0).toNat:Int)-48,w64_eq rfl (by omega) (by omega),?_⟩
     have hq1:=hq (((t.getD k 0).toNat:Int)-48) (by omega) (by omega)
     refine ⟨-9223372036854775808+(((t.getD k 0).toNat:Int)-48),w64_eq rfl (by omega) (by omega),by decide,(-9223372036854775808+(((t.getD k 0).toNat:Int)-48)).tdiv 10,w64_eq rfl (by rw [hq1];split<;>decide) (by rw [hq1];split<;>decide),?_⟩
     rw [hq1]
     refine ⟨fun h4=>?_,fun h4=>?_⟩
     .have hov:9223372036854775808<decS t (k+1):=by split at h4<;>omega
      have hm:=hmono (k+1) t.length hk2
      obtain rfl:=hno (by
       cases hp:prsB t with
       |false=>rfl
       |true=>have:=(hd hp).1;omega)
      exact ⟨none,⟨rfl,rfl,trivial⟩,rfl,rfl⟩
     .have hov:decS t (k+1)<=9223372036854775808:=by split at h4<;>omega
      refine ⟨-(decS t k:Nat)*10,w64_eq rfl (by omega) (by omega),-(decS t (k+1):Nat),w64_eq (by omega) (by omega) (by omega),?_⟩
      exact ⟨_,w64_in _ (by omega) (by omega),k+1,⟨by omega,hov⟩,by dsimp only;omega,⟨rfl,rfl⟩,⟨rfl,rfl,rfl,rfl,rfl,trivial⟩,trivial⟩
    .obtain rfl:k=t.length:=by omega
     have hvd:=hv hdg t.length (Nat.le_refl _) hkd
     rw [hvd,Int.neg_neg] at hvv
     refine ⟨fun h4=>?_,fun h4=>?_⟩
     .obtain rfl:=hno (by
       cases hp:prsB t with
       |false=>rfl
       |true=>have:=(hd hp).2 hln;omega)
      exact ⟨none,⟨rfl,rfl,trivial⟩,rfl,rfl⟩
     rw [<-w64_eq (x:=(decS t t.length:Nat)) rfl (by omega) (by omega)] at hvv
     rw [hvv] at hB hyes
     refine ⟨(decS t t.length:Nat),w64_eq (by omega) (by omega) (by omega),[],false,_,_,spec_FormatInt (decS t t.length:Nat) (by omega) (by omega),nd0,rfl,rfl,trivial,fun h5=>?_,fun h5=>?_⟩
     .obtain rfl:=hno (by rw [hB,decide_eq_false h5])
      exact ⟨none,⟨rfl,rfl,trivial⟩,rfl,rfl⟩
     .obtain rfl:=hyes (by rw [hB,decide_eq_true (Decidable.not_not.1 h5)])
      exact ⟨none,⟨rfl,rfl,trivial⟩,rfl,rfl⟩
   .obtain rfl:=hd0 (.inl h1)
    exact ⟨none,⟨rfl,rfl,trivial⟩,rfl,rfl⟩
 .obtain rfl:s=[]:=List.length_eq_zero_iff.1 (by omega)
  rw [if_neg (fun e=>h0 (by have:=e.1;omega))] at hte
  subst hte
  refine ⟨[],false,_,_,spec_IsDigits [] (by decide),nd0,rfl,rfl,trivial,nofun,fun h1=>?_⟩
  obtain rfl:=hd0 (.inl rfl)
  exact ⟨none,⟨rfl,rfl,trivial⟩,rfl,rfl⟩
theorem spec_ParseInt (s:List UInt8) (hl:s.length<=1048576):AC Tryz.prog 44 [.d true .str s] [] (prsR s) []:=spec_ParseInt_r s hl _ rfl
theorem byB_on1 (c x:UInt8):byB [c] x=decide (x=c):=by
 unfold byB
 simp only [Lib.indexByte]
 by_cases h:c=x
 .subst h;simp
 .simp [h,Ne.symm h]
theorem spec_SplitC (t:List UInt8) (c:UInt8) (hl:t.length<=1048576):AC Tryz.prog 40 [.d true .str t,.d true .str [c]] [] [.ow 0] [.sl 9 .str (wrdG (byB [c]) t)]:=by
 have hb:=spG_b (byB [c]) t
 refine AC_of tauOk 44 0 [4] Tryz.func40 rfl (by kernel_rfl) rfl rfl rfl rfl rfl ?_
 refine ⟨rfl,by decide,true,?_⟩
 refine ⟨Nat,fun k=>⟨[(0,.d true .str t),(1,.d true .str [c]),(5,.ow 0),(6,I ((spG (byB [c]) t k).2:Nat)),(7,I (k:Nat))],[.sl 9 .str (spG (byB [c]) t k).1]⟩,fun k=>k<=t.length,fun k=>t.length-k,0,Nat.zero_le _,
  ⟨⟨rfl,rfl⟩,⟨rfl,rfl,rfl,rfl,rfl,trivial⟩,rfl,trivial⟩,fun k hk=>?_⟩
 dsimp only at hk
 have hbk:=hb k
 refine ⟨fun h1=>?_,fun h1=>?_⟩
 .have hk2:k<t.length:=by omega
  refine ⟨Nat,fun j=>⟨[(0,.d true .str t),(1,.d true .str [c]),(5,.ow 0),(6,I ((spG (byB [c]) t k).2:Nat)),(7,I (k:Nat)),(8,I (j:Nat))],[.sl 9 .str (spG (byB [c]) t k).1]⟩,fun j=>j<=1/\(j=1->¬t.getD k 0=c),fun j=>1-j,0,⟨by decide,fun h=>by cases h⟩,
   ⟨⟨rfl,rfl⟩,⟨rfl,rfl,rfl,rfl,rfl,rfl,trivial⟩,rfl,trivial⟩,fun j ⟨hj,hjn⟩=>?_⟩
  refine ⟨fun h2=>?_,fun h2=>?_⟩
  .have hj0:j=0:=by simp only [List.length_cons,List.length_nil] at h2;omega
   subst hj0
   refine ⟨none,by kernel_rfl,k,rfl,hk2,0,rfl,Nat.one_pos,fun h3=>?_,fun h3=>?_⟩
   .have h32:t.getD k 0=c:=UInt8.toNat_inj.1 (by have:((t.getD k 0).toNat:Int)=(c.toNat:Int):=h3;omega)
    have e:spG (byB [c]) t (k+1)=((spG (byB [c]) t k).1++[(t.take k).drop (spG (byB [c]) t k).2],k+1):=by rw [spG,if_pos (show byB [c] (t.getD k 0)=true by rw [byB_on1,h32];exact decide_eq_true rfl)]
    refine ⟨(spG (byB [c]) t k).2,rfl,k,rfl,hbk.2,Nat.le_of_lt hk2,?_⟩
    refine ⟨rfl,by decide,false,?_⟩
    refine ⟨rfl,Nat.zero_le _,rfl,by simp only [List.length_cons,List.length_nil];omega,rfl,?_⟩
    refine ⟨((k+1:Nat):Int),w64_eq (by omega) (by omega) (by omega),?_⟩
    refine ⟨((k+1:Nat):Int),w64_eq (by omega) (by omega) (by omega),?_⟩
    exact ⟨k+1,by dsimp only;omega,by dsimp only;omega,⟨rfl,rfl⟩,⟨rfl,rfl,rfl,retI (by rw [e]),rfl,trivial⟩,rowE (by rw [e]),trivial⟩
   .have h32:¬t.getD k 0=c:=fun e=>h3 (by rw [e];rfl)
    exact ⟨((0+1:Nat):Int),w64_eq (by omega) (by omega) (by omega),0+1,⟨by decide,fun _=>h32⟩,by decide,⟨rfl,rfl⟩,⟨rfl,rfl,rfl,rfl,rfl,rfl,trivial⟩,rfl,trivial⟩
  .have hj1:j=1:=by simp only [List.length_cons,List.length_nil] at h2;omega
   have h32:=hjn hj1
   have e:spG (byB [c]) t (k+1)=spG (byB [c]) t k:=by rw [spG,if_neg (by rw [byB_on1,decide_eq_false h32];decide)]
   exact ⟨((k+1:Nat):Int),w64_eq (by omega) (by omega) (by omega),k+1,by dsimp only;omega,by dsimp only;omega,⟨rfl,rfl⟩,⟨rfl,rfl,rfl,retI (by rw [e]),rfl,trivial⟩,rowE (by rw [e]),trivial⟩
 .obtain rfl:k=t.length:=by omega
  refine ⟨(spG (byB [c]) t t.length).2,rfl,hbk.2,Nat.le_refl _,?_⟩
  refine ⟨rfl,by decide,false,?_⟩
  refine ⟨rfl,Nat.zero_le _,rfl,by simp only [List.length_cons,List.length_nil];omega,rfl,?_⟩
  exact ⟨some 0,⟨⟨rfl,rfl⟩,trivial⟩,⟨rfl,rowsE (by rw [List.take_length];rfl)⟩,rfl⟩
theorem spec_l02Read (t:List UInt8) (ht:t.length<=1048576) (r:List AV) (rr:List Row)
 (hno:(wrdG (byB [44]) t).all prsB=false->r=[.nil,.d true .bool false]/\rr=[]) (hyes:(wrdG (byB [44]) t).all prsB=true->r=[.ow 0,.d true .bool true]/\rr=[.sl 3 .int (prpL t)]):AC Tryz.prog 217 [.d true .str t] [] r rr:=by
 have hS:=spec_SplitC t 44 (by omega)
 have hel:=wrdG_el (byB [44]) t
 have hwl:=(wrdG_pos (byB [44]) t).2
 unfold prpL at hyes
 generalize wrdG (byB [44]) t=ws at*
 have hw:∀i,i<ws.length->(ws.getD i []).length<=1048576:=fun i hi=>by
  have:=hel (ws.getD i []) (by rw [getD_get _ _ _ hi];exact List.getElem_mem _)
  omega
 refine AC_of tauOk 30 0 [2,3] Tryz.func217 rfl (by kernel_rfl) rfl rfl rfl rfl rfl ?_
 refine ⟨rfl,by decide,true,?_⟩
 refine ⟨[],true,_,_,hS,nd0,rfl,rfl,trivial,?_⟩
 refine ⟨Nat,fun k=>⟨[(4,.ow 0),(11,.d true (.sl .str) ws),(12,I ws.length),(13,I (k:Nat))],[.sl 3 .int ((ws.take k).map prsV)]⟩,fun k=>k<=ws.length/\(ws.take k).all prsB=true,fun k=>ws.length-k,0,⟨Nat.zero_le _,rfl⟩,
  ⟨⟨rfl,rfl⟩,⟨rfl,rfl,rfl,rfl,trivial⟩,rfl,trivial⟩,?_⟩
 rintro k ⟨hk,hall⟩
 refine ⟨fun h1=>?_,fun h1=>?_⟩
 .have hk2:k<ws.length:=by omega
  have hs:=L_succ ws k [] hk2
  have htl:(ws.take k).length=k:=by rw [List.length_take];omega
  have hI:=spec_ParseInt (ws.getD k []) (hw k hk2)
  refine ⟨k,rfl,hk2,?_⟩
  cases hp:prsB (ws.getD k [])
  .rw [prsR_no hp] at hI
   refine ⟨[],false,_,_,hI,nd0,rfl,rfl,trivial,nofun,fun _=>?_⟩
   obtain ⟨rfl,rfl⟩:=hno (by
    rw [Bool.eq_false_iff]
    intro h
    rw [List.all_eq_true] at h
    have:=h (ws.getD k []) (by rw [getD_get _ _ _ hk2];exact List.getElem_mem _)
    rw [hp] at this;cases this)
   exact ⟨none,⟨rfl,rfl,trivial⟩,rfl,rfl⟩
  .rw [prsR_yes hp] at hI
   refine ⟨[],false,_,_,hI,nd0,rfl,rfl,trivial,fun _=>?_,nofun⟩
   refine ⟨rfl,by decide,false,?_⟩
   refine ⟨rfl,Nat.zero_le _,rfl,by simp only [List.length_cons,List.length_nil,List.length_map];omega,rfl,?_⟩
   exact ⟨((k+1:Nat):Int),w64_eq (by omega) (by omega) (by omega),k+1,⟨by omega,by rw [hs,List.all_append,hall,List.all_cons,hp];rfl⟩,by dsimp only;omega,⟨rfl,rfl⟩,⟨rfl,rfl,rfl,rfl,trivial⟩,rowE (by rw [hs,List.map_append];rfl),trivial⟩
 .obtain rfl:k=ws.length:=by omega
  rw [List.take_length] at hall
  dsimp only
  rw [List.take_length]
  obtain ⟨rfl,rfl⟩:=hyes hall
  exact ⟨some 0,⟨⟨rfl,rfl⟩,rfl,trivial⟩,⟨rfl,rfl⟩,rfl⟩
theorem spl_id (c:UInt8):∀t:List UInt8,Lib.join (splR (byB [c]) t) [c]=t
 |[]=>rfl
 |x::t=>by
  have ih:=spl_id c t
  rw [splR]
  have hne:=splR_ne (byB [c]) t
  cases h:splR (byB [c]) t with
  |nil=>exact (hne h).elim
  |cons a r=>
   rw [h] at ih
   by_cases hx:byB [c] x=true
   .rw [if_pos hx,join_cons2,ih]
    rw [byB_on1] at hx
    rw [of_decide_eq_true hx];rfl
   .rw [if_neg hx]
    cases r with
    |nil=>rw [join_single] at ih ⊢;rw [ih]
    |cons v r=>rw [join_cons2] at ih ⊢;rw [List.cons_append,ih]
theorem spec_FormatPerm_ok (sh:Bool) (p:List Int) (hP:PermP p):AC Tryz.prog 218 [.d sh (.sl .int) p] [] [.d true .str (fmtPm p)] []:=by
 have h1:=hP.1
 have hO:=spec_PermOk sh p (by omega)
 rw [(permB_iff p).2 hP] at hO
 refine AC_of tauOk 8 0 [2] Tryz.func218 rfl (by kernel_rfl) rfl rfl rfl rfl rfl ?_
 refine ⟨[],false,_,_,hO,nd0,rfl,rfl,trivial,fun _=>?_,nofun⟩
 refine ⟨[],false,_,_,spec_l02Join sh p (perm_fmt hP).1 (by omega),nd0,rfl,rfl,trivial,?_⟩
 exact ⟨none,⟨rfl,trivial⟩,rfl,rfl⟩
theorem prs_fmt {s:List UInt8} (h:prsB s=true):fmtI (prsV s)=s:=by
 unfold prsB at h
 simp only [Bool.and_eq_true,decide_eq_true_eq] at h
 exact h.2
theorem fmtPm_prp {t:List UInt8} (h:prpB t=true):fmtPm (prpL t)=t:=by
 unfold prpB at h
 rw [Bool.and_eq_true] at h
 have h1:=h.1
 rw [List.all_eq_true] at h1
 unfold fmtPm prpL
 have e:((wrdG (byB [44]) t).map prsV).map fmtI=wrdG (byB [44]) t:=by
  rw [List.map_map]
  exact (List.map_congr_left (fun x hx=>prs_fmt (h1 x hx))).trans (List.map_id _)
 rw [e,wrdG_eq]
 exact spl_id 44 t
theorem spec_ParsePerm_both (t:List UInt8) (ht:t.length<=1048575) (r:List AV)
 (hno:prpB t=false->r=[.nil,.d true .bool false]) (hyes:prpB t=true->r=[.d true (.sl .int) (prpL t),.d true .bool true]):AC Tryz.prog 115 [.d true .str t] [] r []:=by
 have hwl:=(wrdG_pos (byB [44]) t).2
 have hF:=fun h=>fmtPm_prp (t:=t) h
 have hR:=spec_l02Read t (by omega)
 have hpl:(prpL t).length<=1048576:=by unfold prpL;rw [List.length_map];omega
 have hpb:(wrdG (byB [44]) t).all prsB=true->prpB t=permB (prpL t):=fun h=>by unfold prpB prpL;rw [h,Bool.true_and]
 refine AC_of tauOk 25 0 [2,3] Tryz.func115 rfl (by kernel_rfl) rfl rfl rfl rfl rfl ?_
 cases hp:(wrdG (byB [44]) t).all prsB
 .refine ⟨[],false,_,_,hR _ _ (fun _=>⟨rfl,rfl⟩) (fun h=>by rw [hp] at h;cases h),nd0,rfl,rfl,trivial,?_⟩
  obtain rfl:=hno (by unfold prpB;rw [hp];rfl)
  refine ⟨nofun,fun _=>?_⟩
  exact ⟨none,⟨rfl,rfl,trivial⟩,rfl,rfl⟩
 .refine ⟨[],true,_,_,hR _ _ (fun h=>by rw [hp] at h;cases h) (fun _=>⟨rfl,rfl⟩),nd0,rfl,rfl,trivial,?_⟩
  have e:=hpb hp
  refine ⟨fun _=>?_,nofun⟩
  refine ⟨[],false,_,_,spec_PermOk true (prpL t) (by omega),nd0,rfl,rfl,trivial,fun h1=>?_,fun h1=>?_⟩
  .rw [h1] at e
   have hf:=spec_FormatPerm_ok true (prpL t) ((permB_iff _).1 h1)
   rw [hF e] at hf
   refine ⟨[],false,_,_,hf,nd0,rfl,rfl,trivial,fun h2=>(h2 rfl).elim,fun _=>?_⟩
   obtain rfl:=hyes e
   exact ⟨none,⟨rfl,rfl,trivial⟩,rfl,rfl⟩
  .obtain rfl:=hno (by rw [e,h1])
   exact ⟨none,⟨rfl,rfl,trivial⟩,rfl,rfl⟩
end Go.Proofs.YtacjiemkbhhhoaaGreatDoor
namespace Go.Proofs.YtacjiemkbhhhoaaGreatDoor
open Go Go.RowKit Go.Proofs.YtacjiemkbhhhoaaGreatDoor.Ow
theorem spec_FormatInts_nil:AC Tryz.prog 100 [.nil] [] [.d true .str (fmtL [])] []:=
 (spec_FormatInts true [] (fun i hi=>by simp at hi) (by decide)).weak fun w bs A vs=>by
  rintro ⟨v,r,rfl,h1,h2⟩
  exact ⟨v,_,rfl,V_nil h1,h2⟩
theorem spec_OrbitsOf_no (sh:Bool) (g:List (List Int)) (hgl:g.length<=1048576) (hx:∀i,i<g.length->(g.getD i []).length<=1048576) (hB:gokB g=false):AC Tryz.prog 99 [.d sh (.sl (.sl .int)) g] [] [.nil] []:=by
 have hG:=spec_GroupOk sh g hgl hx
 rw [hB] at hG
 refine AC_of tauOk 69 0 [2] Tryz.func99 rfl (by kernel_rfl) rfl rfl rfl rfl rfl ?_
 refine ⟨[],false,_,_,hG,nd0,rfl,rfl,trivial,nofun,fun _=>?_⟩
 exact ⟨none,⟨rfl,trivial⟩,rfl,rfl⟩
theorem spec_ClassesOf_no (sh:Bool) (g:List (List Int)) (hgl:g.length<=1048576) (hx:∀i,i<g.length->(g.getD i []).length<=1048576) (hB:gokB g=false):AC Tryz.prog 101 [.d sh (.sl (.sl .int)) g] [] [.nil] []:=by
 have hG:=spec_GroupOk sh g hgl hx
 rw [hB] at hG
 refine AC_of tauOk 61 0 [2] Tryz.func101 rfl (by kernel_rfl) rfl rfl rfl rfl rfl ?_
 refine ⟨[],false,_,_,hG,nd0,rfl,rfl,trivial,nofun,fun _=>?_⟩
 exact ⟨none,⟨rfl,trivial⟩,rfl,rfl⟩
theorem spec_TwoColors_no (sh:Bool) (g:List (List Int)) (hgl:g.length<=1048576) (hx:∀i,i<g.length->(g.getD i []).length<=1048576) (hB:gokB g=false):AC Tryz.prog 102 [.d sh (.sl (.sl .int)) g] [] [.nil] []:=by
 have hG:=spec_GroupOk sh g hgl hx
 rw [hB] at hG
 refine AC_of tauOk 30 0 [2] Tryz.func102 rfl (by kernel_rfl) rfl rfl rfl rfl rfl ?_
 refine ⟨[],false,_,_,hG,nd0,rfl,rfl,trivial,nofun,fun _=>?_⟩
 exact ⟨none,⟨rfl,trivial⟩,rfl,rfl⟩
theorem spec_l15Set_no (g:List (List Int)) (x:AV) (hx:x=.nil):AC Tryz.prog 117 [.d true (.sl (.sl .int)) g,x,.d true .bool false] [] [.d true (.sl (.sl .int)) g,.d true .str nonS] []:=by
 subst hx
 refine AC_of tauOk 16 0 [6,7] Tryz.func117 rfl (by kernel_rfl) rfl rfl rfl rfl rfl ?_
 exact ⟨none,⟨rfl,rfl,trivial⟩,rfl,rfl⟩
theorem spec_l15Set_yes (g G:List (List Int)) (hl:G.length<=1048576):AC Tryz.prog 117 [.d true (.sl (.sl .int)) g,.d true (.sl (.sl .int)) G,.d true .bool true] [] [.d true (.sl (.sl .int)) G,.d true .str (ordS++fmtI (G.length:Nat))] []:=by
 have hfl:=fI_len (G.length:Int) (by omega)
 refine AC_of tauOk 16 0 [6,7] Tryz.func117 rfl (by kernel_rfl) rfl rfl rfl rfl rfl ?_
 refine ⟨[],false,_,_,spec_FormatInt _ (by omega) (by omega),nd0,rfl,rfl,trivial,by simp only [List.length_cons,List.length_nil];omega,?_⟩
 exact ⟨none,⟨rfl,rfl,trivial⟩,rfl,rfl⟩
theorem spec_l15Words_no:AC Tryz.prog 226 [.nil,.d true .bool false] [] [.d true .str nonS] []:=by
 refine AC_of tauOk 9 0 [4] Tryz.func226 rfl (by kernel_rfl) rfl rfl rfl rfl rfl ?_
 exact ⟨none,⟨rfl,trivial⟩,rfl,rfl⟩
theorem spec_l15Words_yes (xss:List (List Int)) (hs:Short xss):AC Tryz.prog 226 [.d true (.sl (.sl .int)) xss,.d true .bool true] [] [.d true .str (fmtWs xss)] []:=by
 refine AC_of tauOk 9 0 [4] Tryz.func226 rfl (by kernel_rfl) rfl rfl rfl rfl rfl ?_
 refine ⟨[],false,_,_,spec_FormatWords true xss hs,nd0,rfl,rfl,trivial,?_⟩
 exact ⟨none,⟨rfl,trivial⟩,rfl,rfl⟩
theorem spec_l15One_no:AC Tryz.prog 110 [.nil,.d true .bool false] [] [.d true .str nonS] []:=by
 refine AC_of tauOk 9 0 [4] Tryz.func110 rfl (by kernel_rfl) rfl rfl rfl rfl rfl ?_
 exact ⟨none,⟨rfl,trivial⟩,rfl,rfl⟩
theorem spec_l15One_yes (xs:List Int) (hl:xs.length<=1048576):AC Tryz.prog 110 [.d true (.sl .int) xs,.d true .bool true] [] [.d true .str (formatW xs)] []:=by
 refine AC_of tauOk 9 0 [4] Tryz.func110 rfl (by kernel_rfl) rfl rfl rfl rfl rfl ?_
 refine ⟨[],false,_,_,spec_FormatWord true xs hl,nd0,rfl,rfl,trivial,?_⟩
 exact ⟨none,⟨rfl,trivial⟩,rfl,rfl⟩
def patS (g:List (List Int)) (w:List UInt8) (k:Int):List UInt8:=
 if epB g k=true then (if w=[112,97,116,116,101,114,110,115] then fmtWs (patL g k.toNat (g.getD 0 []).length) else fmtWs (expL g k.toNat (g.getD 0 []).length)) else nonS
theorem spec_l15Patterns (g:List (List Int)) (w:List UInt8) (k:Int) (hl:g.length<=1048576) (hx:∀i,i<g.length->(g.getD i []).length<=1048576):AC Tryz.prog 123 [.d true (.sl (.sl .int)) g,.d true .str w,I k] [] [.d true .str (patS g w k)] []:=by
 have hP:=spec_PatternsOf_both true g k hl hx
 have hE:=spec_ExchangePatterns_both true g k hl hx
 unfold patS
 cases hB:epB g k
 .refine AC_of tauOk 21 0 [6] Tryz.func123 rfl (by kernel_rfl) rfl rfl rfl rfl rfl ?_
  refine ⟨fun h1=>?_,fun h1=>?_⟩
  .refine ⟨[],false,_,_,hP _ _ (fun _=>⟨rfl,rfl⟩) (fun h=>by rw [hB] at h;cases h),nd0,rfl,rfl,trivial,nofun,fun _=>⟨[],false,_,_,spec_l15Words_no,nd0,rfl,rfl,trivial,?_⟩⟩
   exact ⟨none,⟨rfl,trivial⟩,rfl,rfl⟩
  .refine ⟨[],false,_,_,hE _ _ (fun _=>⟨rfl,rfl⟩) (fun h=>by rw [hB] at h;cases h),nd0,rfl,rfl,trivial,nofun,fun _=>⟨[],false,_,_,spec_l15Words_no,nd0,rfl,rfl,trivial,?_⟩⟩
   exact ⟨none,⟨rfl,trivial⟩,rfl,rfl⟩
 .obtain ⟨hG,K,hk,k1,k4,hs,hS⟩:=epB_of hB
  have h0:=g0_len hG
  obtain ⟨e1,e2⟩:=flt_ok (p:=fun w=>decide (canL g w=w)) h0.1 h0.2 k4 hs
  rw [<-patL_eq] at e1 e2
  obtain ⟨_,e4⟩:=cols_ok e1 e2
  obtain ⟨f1,f2⟩:=flt_ok (p:=fun w=>decide (cexL g w=w)) h0.1 h0.2 k4 hs
  obtain ⟨_,f4⟩:=cols_ok (xss:=expL g K (g.getD 0 []).length) f1 f2
  have hkn:k.toNat=K:=by omega
  rw [hkn] at hP hE ⊢
  rw [if_pos rfl]
  refine AC_of tauOk 21 0 [6] Tryz.func123 rfl (by kernel_rfl) rfl rfl rfl rfl rfl ?_
  refine ⟨fun h1=>?_,fun h1=>?_⟩
  .rw [if_pos h1]
   refine ⟨[],true,_,_,hP _ _ (fun h=>by rw [hB] at h;cases h) (fun _=>⟨rfl,rfl⟩),nd0,rfl,rfl,trivial,fun _=>⟨[],false,_,_,spec_l15Words_yes _ e4,nd0,rfl,rfl,trivial,?_⟩,nofun⟩
   exact ⟨none,⟨rfl,trivial⟩,rfl,rfl⟩
  .rw [if_neg h1]
   refine ⟨[],true,_,_,hE _ _ (fun h=>by rw [hB] at h;cases h) (fun _=>⟨rfl,rfl⟩),nd0,rfl,rfl,trivial,fun _=>⟨[],false,_,_,spec_l15Words_yes _ f4,nd0,rfl,rfl,trivial,?_⟩,nofun⟩
   exact ⟨none,⟨rfl,trivial⟩,rfl,rfl⟩
def allS (n k:Int):List UInt8:=if woaB n k=true then formatW ((woaL n.toNat k.toNat).take 10) else nonS
theorem spec_l15All (n k:Int):AC Tryz.prog 128 [I n,I k] [] [.d true .str (allS n k)] []:=by
 have hC:=spec_WordOfAll n k
 unfold allS
 cases hE:woaB n k
 .refine AC_of tauOk 20 0 [4] Tryz.func128 rfl (by kernel_rfl) rfl rfl rfl rfl rfl ?_
  refine ⟨[],false,_,_,hC _ _ (fun _=>⟨rfl,rfl⟩) (fun h=>by rw [hE] at h;cases h),nd0,rfl,rfl,trivial,nofun,fun _=>?_⟩
  refine ⟨0,rfl,Nat.le_refl _,Nat.le_refl _,[],false,_,_,spec_l15One_no,nd0,rfl,rfl,trivial,?_⟩
  exact ⟨none,⟨rfl,trivial⟩,rfl,rfl⟩
 .rw [if_pos rfl]
  generalize woaL n.toNat k.toNat=L at*
  have hmin:∃j:Nat,(if (10:Int)<((L.length:Nat):Int) then 10 else ((L.length:Nat):Int))=(j:Int)/\j<=L.length/\L.take j=L.take 10/\j<=10:=by
   by_cases h:10<L.length
   .exact ⟨10,by rw [if_pos (by omega)];rfl,by omega,rfl,Nat.le_refl _⟩
   .exact ⟨L.length,by rw [if_neg (by omega)],Nat.le_refl _,by rw [List.take_length,List.take_of_length_le (by omega)],by omega⟩
  obtain ⟨j,j1,j2,j3,j4⟩:=hmin
  have hF:=spec_l15One_yes ((L.take j).drop 0) (by rw [List.drop_zero,List.length_take];omega)
  have hd:(L.take j).drop 0=L.take j:=rfl
  rw [<-j3]
  refine AC_of tauOk 20 0 [4] Tryz.func128 rfl (by kernel_rfl) rfl rfl rfl rfl rfl ?_
  refine ⟨[],true,_,_,hC _ _ (fun h=>by rw [hE] at h;cases h) (fun _=>⟨rfl,rfl⟩),nd0,rfl,rfl,trivial,fun _=>?_,nofun⟩
  refine ⟨j,j1,Nat.zero_le _,j2,[],false,_,_,hF,nd0,rfl,rfl,trivial,?_⟩
  exact ⟨none,⟨rfl,trivial⟩,rfl,rfl⟩
theorem join2 (a b:List UInt8):Lib.join [a,b] [32]=(a++[32])++b:=by
 simp [Lib.join,List.intercalate]
theorem join3 (a b c:List UInt8):Lib.join [a,b,c] [32]=(((a++[32])++b)++[32])++c:=by
 simp [Lib.join,List.intercalate]
def txtS (g:List (List Int)) (w arg:List UInt8):List UInt8:=
 if w=[116,114,101,101] then (if readB arg=true then Lib.join ([treeRen (rdT arg).1,heightV (rdT arg).1].map fmtI) [32] else unkS)
 else if colB (psL arg)=true then
  (if w=[99,97,110,111,110] then (if fitB g (psL arg)=true then formatW (canL g (psL arg)) else nonS)
  else if w=[119,111,114,100] then wordLine (psL arg)
  else fmtWs (lyfL (psL arg)))
 else unkS
theorem spec_l15Text (sh:Bool) (g:List (List Int)) (w arg:List UInt8) (hl:g.length<=1048576) (hx:∀i,i<g.length->(g.getD i []).length<=1048576) (ha:arg.length<=1048576):
 AC Tryz.prog 42 [.d sh (.sl (.sl .int)) g,.d true .str w,.d true .str arg] [] [.d true .str (txtS g w arg)] []:=by
 unfold txtS
 refine AC_of tauOk 57 0 [6] Tryz.func42 rfl (by kernel_rfl) rfl rfl rfl rfl rfl ?_
 refine ⟨fun h1=>?_,fun h1=>?_⟩
 .rw [if_pos h1]
  cases hr:readB arg
  .refine ⟨[],false,_,_,spec_ReadTree_no arg hr,nd0,rfl,rfl,trivial,nofun,fun _=>?_⟩
   exact ⟨none,⟨rfl,trivial⟩,rfl,rfl⟩
  .have ht:(rdT arg).1.length<=1048576:=by
    unfold readB at hr
    simp only [Bool.and_eq_true,decide_eq_true_eq] at hr
    have:=((treeB_iff _).1 hr.2.1).1
    omega
   have hR:=spec_ReadTree arg hr
   generalize (rdT arg).1=t at*
   have hb:=height_b t ht
   have hrb:=ren_b t
   have ej:Lib.join ([treeRen t,heightV t].map fmtI) [32]=fmtI (treeRen t)++[32]++fmtI (heightV t):=join2 _ _
   have f1:=fI_len _ hrb
   have f2:=fI_len (heightV t) (by omega)
   refine ⟨[],true,_,_,hR,nd0,rfl,rfl,trivial,fun _=>?_,nofun⟩
   refine ⟨[],false,_,_,spec_TreeRenamings true t ht,nd0,rfl,rfl,trivial,[],false,_,_,spec_FormatInt _ hrb.1 hrb.2,nd0,rfl,rfl,trivial,by simp only [List.length_cons,List.length_nil];omega,?_⟩
   refine ⟨[],false,_,_,spec_HeightOf true t ht,nd0,rfl,rfl,trivial,[],false,_,_,spec_FormatInt _ (by omega) (by omega),nd0,rfl,rfl,trivial,by simp only [List.length_append,List.length_cons,List.length_nil];omega,?_⟩
   rw [if_pos rfl,ej]
   exact ⟨none,⟨rfl,trivial⟩,rfl,rfl⟩
 .rw [if_neg h1]
  cases hc:colB (psL arg)
  .refine ⟨[],false,_,_,spec_ParseWord_no arg ha hc,nd0,rfl,rfl,trivial,nofun,fun _=>?_⟩
   exact ⟨none,⟨rfl,trivial⟩,rfl,rfl⟩
  .rw [if_pos rfl]
   have hP:=(colB_iff _).1 hc
   have hR:=spec_ParseWord arg ha hc
   generalize psL arg=x at*
   have hxl:x.length<=1048576:=by have:=hP.2;omega
   refine ⟨[],true,_,_,hR,nd0,rfl,rfl,trivial,fun _=>?_,nofun⟩
   refine ⟨fun h2=>?_,fun h2=>?_⟩
   .rw [if_pos h2]
    have hC:=spec_CanonOf_both sh true g x hl hx hxl
    cases hf:fitB g x
    .refine ⟨[],false,_,_,hC _ _ (fun _=>⟨rfl,rfl⟩) (fun h=>by rw [hf] at h;cases h),nd0,rfl,rfl,trivial,nofun,fun _=>⟨[],false,_,_,spec_l15One_no,nd0,rfl,rfl,trivial,?_⟩⟩
     exact ⟨none,⟨rfl,trivial⟩,rfl,rfl⟩
    .have hF:=canL_col (fit_of hf)
     have hFl:=hF.2
     refine ⟨[],true,_,_,hC _ _ (fun h=>by rw [hf] at h;cases h) (fun _=>⟨rfl,rfl⟩),nd0,rfl,rfl,trivial,fun _=>⟨[],false,_,_,spec_l15One_yes (canL g x) (by omega),nd0,rfl,rfl,trivial,?_⟩,nofun⟩
     exact ⟨none,⟨rfl,trivial⟩,rfl,rfl⟩
   .rw [if_neg h2]
    refine ⟨fun h3=>?_,fun h3=>?_⟩
    .rw [if_pos h3]
     refine ⟨[],false,_,_,spec_WordLine true x hxl,nd0,rfl,rfl,trivial,?_⟩
     exact ⟨none,⟨rfl,trivial⟩,rfl,rfl⟩
    .rw [if_neg h3]
     obtain ⟨e1,e2⟩:=lyfL_el hP
     obtain ⟨e3,e4⟩:=cols_ok (show (lyfL x).length<=1048576 by omega) e2
     refine ⟨[],true,_,_,spec_LyndonFactors true x hP,nd0,rfl,rfl,trivial,fun _=>?_,nofun⟩
     refine ⟨[],false,_,_,spec_FormatWords true (lyfL x) e4,nd0,rfl,rfl,trivial,?_⟩
     exact ⟨none,⟨rfl,trivial⟩,rfl,rfl⟩
theorem spec_GroupOf_pq (p q:List Int) (hp:permB p=true) (hq:permB q=true):AC Tryz.prog 116 [I (p.length:Nat),.d true (.sl (.sl .int)) [p,q]] [] (grpR (genO p q)) []:=by
 have h1:=((permB_iff p).1 hp).1
 have h2:=((permB_iff q).1 hq).1
 unfold genO
 by_cases h:p.length=q.length
 .rw [if_pos h]
  have hg:GenP p.length [p,q]:=gens2 ⟨hp,rfl⟩ ⟨hq,h.symm⟩
  rw [grpO_fnd (by omega) (by omega) (gen_q hg)]
  exact spec_GroupOf_any true p.length [p,q] _ (by omega) (by omega) hg rfl
 .rw [if_neg h]
  refine AC_of tauOk 73 0 [4,5] Tryz.func116 rfl (by kernel_rfl) rfl rfl rfl rfl rfl ?_
  refine ⟨[],false,_,_,spec_l01In _ _ _,nd0,rfl,rfl,trivial,fun _=>?_,fun h=>by simp only [Bool.and_eq_false_iff,decide_eq_false_iff_not] at h;omega⟩
  refine ⟨Nat,fun k=>⟨[(0,I (p.length:Nat)),(1,.d true (.sl (.sl .int)) [p,q]),(17,.d true (.sl (.sl .int)) [p,q]),(18,I 2),(19,I (k:Nat))],[]⟩,fun k=>k<=1,fun k=>1-k,0,Nat.zero_le _,
   ⟨⟨rfl,rfl⟩,⟨rfl,rfl,rfl,rfl,rfl,trivial⟩,trivial⟩,fun k hk=>?_⟩
  dsimp only at hk
  refine ⟨fun _=>?_,fun h2=>by omega⟩
  have hk2:k<2:=by omega
  refine ⟨k,rfl,hk2,?_⟩
  have hk01:k=0\/k=1:=by omega
  rcases hk01 with rfl|rfl
  .refine ⟨[],false,_,_,spec_PermOk true p (by omega),nd0,rfl,rfl,trivial,fun _=>?_,fun h3=>by rw [hp] at h3;cases h3⟩
   refine ⟨fun h4=>(h4 rfl).elim,fun _=>?_⟩
   exact ⟨1,rfl,1,by decide,by decide,⟨rfl,rfl⟩,⟨rfl,rfl,rfl,rfl,rfl,trivial⟩,trivial⟩
  .refine ⟨[],false,_,_,spec_PermOk true q (by omega),nd0,rfl,rfl,trivial,fun _=>?_,fun h3=>by rw [hq] at h3;cases h3⟩
   refine ⟨fun _=>?_,fun h4=>(h4 fun h5=>h (by have h5:((q.length:Nat):Int)=((p.length:Nat):Int):=h5;omega)).elim⟩
   exact ⟨none,⟨rfl,rfl,trivial⟩,rfl,rfl⟩
def setR (g:List (List Int)):Option (List (List Int))->List AV
 |none=>[.d true (.sl (.sl .int)) g,.d true .str nonS]
 |some G=>[.d true (.sl (.sl .int)) G,.d true .str (ordS++fmtI (G.length:Nat))]
def gnR (g:List (List Int)) (a b:List UInt8):List AV:=
 if prpB a=true/\prpB b=true then setR g (genO (prpL a) (prpL b)) else [.d true (.sl (.sl .int)) g,.d true .str unkS]
theorem gen_len {p q:List Int} {G:List (List Int)} (hp:permB p=true) (hq:permB q=true) (h:genO p q=some G):G.length<=120:=by
 unfold genO at h
 have b1:=((permB_iff _).1 hp).1
 split at h
 .rename_i hl
  exact (perm_bd (grpO_gok (by omega) (by omega) (gen_q (gens2 ⟨hp,rfl⟩ ⟨hq,hl.symm⟩)) h)).1.2
 .cases h
theorem spec_l15Generate (g:List (List Int)) (a b:List UInt8) (ha:a.length<=1048575) (hb:b.length<=1048575):
 AC Tryz.prog 43 [.d true (.sl (.sl .int)) g,.d true .str a,.d true .str b] [] (gnR g a b) []:=by
 have P0:=spec_ParsePerm_both a ha
 have P1:=spec_ParsePerm_both b hb
 unfold gnR
 cases hp:prpB a
 .rw [if_neg (fun e=>by cases e.1)]
  refine AC_of tauOk 46 0 [6,7] Tryz.func43 rfl (by kernel_rfl) rfl rfl rfl rfl rfl ?_
  refine ⟨[],false,_,_,P0 _ (fun _=>rfl) (fun h=>by rw [hp] at h;cases h),nd0,rfl,rfl,trivial,nofun,fun _=>?_⟩
  cases hq:prpB b
  .refine ⟨[],false,_,_,P1 _ (fun _=>rfl) (fun h=>by rw [hq] at h;cases h),nd0,rfl,rfl,trivial,nofun,fun _=>?_⟩
   exact ⟨none,⟨rfl,rfl,trivial⟩,rfl,rfl⟩
  .refine ⟨[],false,_,_,P1 _ (fun h=>by rw [hq] at h;cases h) (fun _=>rfl),nd0,rfl,rfl,trivial,fun _=>?_,nofun⟩
   exact ⟨none,⟨rfl,rfl,trivial⟩,rfl,rfl⟩
 .cases hq:prpB b
  .rw [if_neg (fun e=>by cases e.2)]
   refine AC_of tauOk 46 0 [6,7] Tryz.func43 rfl (by kernel_rfl) rfl rfl rfl rfl rfl ?_
   refine ⟨[],false,_,_,P0 _ (fun h=>by rw [hp] at h;cases h) (fun _=>rfl),nd0,rfl,rfl,trivial,fun _=>?_,nofun⟩
   refine ⟨[],false,_,_,P1 _ (fun _=>rfl) (fun h=>by rw [hq] at h;cases h),nd0,rfl,rfl,trivial,nofun,fun _=>?_⟩
   exact ⟨none,⟨rfl,rfl,trivial⟩,rfl,rfl⟩
  .rw [if_pos ⟨rfl,rfl⟩]
   have hpp:=prp_perm hp
   have hqp:=prp_perm hq
   have hG:=spec_GroupOf_pq _ _ hpp hqp
   have hGl:=fun G=>gen_len (G:=G) hpp hqp
   cases hO:genO (prpL a) (prpL b) with
   |none=>
    rw [hO] at hG
    refine AC_of tauOk 46 0 [6,7] Tryz.func43 rfl (by kernel_rfl) rfl rfl rfl rfl rfl ?_
    refine ⟨[],false,_,_,P0 _ (fun h=>by rw [hp] at h;cases h) (fun _=>rfl),nd0,rfl,rfl,trivial,fun _=>?_,nofun⟩
    refine ⟨[],false,_,_,P1 _ (fun h=>by rw [hq] at h;cases h) (fun _=>rfl),nd0,rfl,rfl,trivial,fun _=>?_,nofun⟩
    refine ⟨rfl,by decide,false,[],false,_,_,hG,nd0,rfl,rfl,trivial,nofun,fun _=>?_⟩
    refine ⟨[],false,_,_,spec_l15Set_no g .nil rfl,nd0,rfl,rfl,trivial,?_⟩
    exact ⟨none,⟨rfl,rfl,trivial⟩,rfl,rfl⟩
   |some G=>
    have hl:=hGl G hO
    rw [hO] at hG
    refine AC_of tauOk 46 0 [6,7] Tryz.func43 rfl (by kernel_rfl) rfl rfl rfl rfl rfl ?_
    refine ⟨[],false,_,_,P0 _ (fun h=>by rw [hp] at h;cases h) (fun _=>rfl),nd0,rfl,rfl,trivial,fun _=>?_,nofun⟩
    refine ⟨[],false,_,_,P1 _ (fun h=>by rw [hq] at h;cases h) (fun _=>rfl),nd0,rfl,rfl,trivial,fun _=>?_,nofun⟩
    refine ⟨rfl,by decide,false,[],false,_,_,hG,nd0,rfl,rfl,trivial,fun _=>?_,nofun⟩
    refine ⟨[],false,_,_,spec_l15Set_yes g G (by omega),nd0,rfl,rfl,trivial,?_⟩
    exact ⟨none,⟨rfl,rfl,trivial⟩,rfl,rfl⟩
theorem spec_l15Copy (sh:Bool) (g:List (List Int)) (hgl:g.length<=1048576) (hx:∀i,i<g.length->(g.getD i []).length<=1048576):AC Tryz.prog 39 [.d sh (.sl (.sl .int)) g] [] [.ow 0] [.sl 29 (.sl .int) g]:=by
 refine AC_of tauOk 21 0 [2] Tryz.func39 rfl (by kernel_rfl) rfl rfl rfl rfl rfl ?_
 refine ⟨rfl,by decide,true,?_⟩
 refine ⟨Nat,fun k=>⟨[(3,.ow 0),(7,.d sh (.sl (.sl .int)) g),(8,I g.length),(9,I (k:Nat))],[.sl 29 (.sl .int) (g.take k)]⟩,fun k=>k<=g.length,fun k=>g.length-k,0,Nat.zero_le _,
  ⟨⟨rfl,rfl⟩,⟨rfl,rfl,rfl,rfl,trivial⟩,rfl,trivial⟩,fun k hk=>?_⟩
 dsimp only at hk
 refine ⟨fun h1=>?_,fun h1=>?_⟩
 .have hk2:k<g.length:=by omega
  have hs:=L_succ g k [] hk2
  have htl:(g.take k).length=k:=by rw [List.length_take];omega
  have hxk:=hx k hk2
  refine ⟨k,rfl,hk2,?_⟩
  refine ⟨rfl,by decide,true,rfl,Nat.zero_le _,rfl,by simp only [List.length_nil];omega,rfl,?_⟩
  refine ⟨rfl,rfl,by decide,false,rfl,Nat.zero_le _,rfl,by simp only [List.length_cons,List.length_nil];omega,rfl,?_⟩
  exact ⟨((k+1:Nat):Int),w64_eq (by omega) (by omega) (by omega),k+1,by dsimp only;omega,by dsimp only;omega,⟨rfl,rfl⟩,⟨rfl,rfl,rfl,rfl,trivial⟩,rowE (by rw [hs];rfl),trivial⟩
 .obtain rfl:k=g.length:=by omega
  exact ⟨some 0,⟨⟨rfl,rfl⟩,trivial⟩,⟨rfl,rowsE (List.take_length ..)⟩,rfl⟩
theorem spec_l15Lists (O:List (List Int)) (hl:O.length<=1048576) (ho:∀l∈O,In64 l/\l.length<=1048576) (hj:(Lib.join (O.map fmtL) [32]).length<=140737488355328):AC Tryz.prog 98 [.d true (.sl (.sl .int)) O] [] [.d true .str (Lib.join (O.map fmtL) [32])] []:=by
 have hom:(O.map fmtL).length=O.length:=List.length_map ..
 refine AC_of tauOk 21 0 [2] Tryz.func98 rfl (by kernel_rfl) rfl rfl rfl rfl rfl ?_
 refine ⟨rfl,by decide,true,?_⟩
 refine ⟨Nat,fun k=>⟨[(3,.ow 0),(7,.d true (.sl (.sl .int)) O),(8,I O.length),(9,I (k:Nat))],[.sl 9 .str ((O.take k).map fmtL)]⟩,fun k=>k<=O.length,fun k=>O.length-k,0,Nat.zero_le _,
  ⟨⟨rfl,rfl⟩,⟨rfl,rfl,rfl,rfl,trivial⟩,rfl,trivial⟩,fun k hk=>?_⟩
 dsimp only at hk
 refine ⟨fun h3=>?_,fun h3=>?_⟩
 .have hk2:k<O.length:=by omega
  obtain ⟨hm,hml⟩:=ho (O.getD k []) (by rw [getD_get _ _ _ hk2];exact List.getElem_mem _)
  refine ⟨k,rfl,hk2,[],false,_,_,spec_FormatInts true (O.getD k []) hm (by omega),nd0,rfl,rfl,trivial,?_⟩
  refine ⟨rfl,by decide,false,?_⟩
  refine ⟨rfl,Nat.zero_le _,rfl,by simp only [List.length_cons,List.length_nil,List.length_map,List.length_take];omega,rfl,?_⟩
  exact ⟨((k+1:Nat):Int),w64_eq (by omega) (by omega) (by omega),k+1,by dsimp only;omega,by dsimp only;omega,⟨rfl,rfl⟩,⟨rfl,rfl,rfl,rfl,trivial⟩,rowE (by rw [L_succ O k [] hk2,List.map_append];rfl),trivial⟩
 .obtain rfl:k=O.length:=by omega
  dsimp only
  rw [List.take_length]
  refine ⟨[],false,_,_,spec_Join false (O.map fmtL) [32] (by omega) hj,nd0,rfl,rfl,trivial,?_⟩
  exact ⟨none,⟨rfl,trivial⟩,rfl,rfl⟩
theorem spec_l15Lists_nil:AC Tryz.prog 98 [.nil] [] [.d true .str (Lib.join [] [32])] []:=
 (spec_l15Lists [] (by decide) (fun l hl=>by simp at hl) (by decide)).weak fun w bs A vs=>by
  rintro ⟨v,r,rfl,h1,h2⟩
  exact ⟨v,_,rfl,V_nil h1,h2⟩
theorem spec_l15Word (g:List (List Int)) (w:List UInt8) (hgl:g.length<=1048576) (hx:∀i,i<g.length->(g.getD i []).length<=1048576):AC Tryz.prog 41 [.d true (.sl (.sl .int)) g,.d true .str w] [] [.d true .str (plnZ g w)] []:=by
 have hJ:=lst_len g hgl
 have hgm:(g.map fmtC).length=g.length:=List.length_map ..
 have hD:=pln_bd (g:=g)
 have hO:=spec_OrbitsOf true g
 have hC:=spec_ClassesOf true g
 have hT:=spec_TwoColors true g
 unfold plnZ orbZ clsZ
 rw [twoZ]
 generalize orbL g=O at*
 generalize clsL g=C at*
 generalize twoL g=T at*
 refine AC_of tauOk 45 0 [4] Tryz.func41 rfl (by kernel_rfl) rfl rfl rfl rfl rfl ?_
 refine ⟨fun h1=>?_,fun h1=>?_⟩
 .rw [if_pos h1]
  refine ⟨[],false,_,_,spec_IndexLine true g hgl hx,nd0,rfl,rfl,trivial,?_⟩
  exact ⟨none,⟨rfl,trivial⟩,rfl,rfl⟩
 rw [if_neg h1]
 refine ⟨fun h2=>?_,fun h2=>?_⟩
 .rw [if_pos h2]
  cases hB:gokB g
  .refine ⟨[],false,_,_,spec_OrbitsOf_no true g hgl hx hB,nd0,rfl,rfl,trivial,[],false,_,_,spec_l15Lists_nil,nd0,rfl,rfl,trivial,?_⟩
   exact ⟨none,⟨rfl,trivial⟩,rfl,rfl⟩
  .obtain ⟨b1,b2,b3,b4,b5,b6,b7⟩:=hD hB
   refine ⟨[],true,_,_,hO hB,nd0,rfl,rfl,trivial,[],false,_,_,spec_l15Lists O (by omega) b2 b3,nd0,rfl,rfl,trivial,?_⟩
   exact ⟨none,⟨rfl,trivial⟩,rfl,rfl⟩
 rw [if_neg h2]
 refine ⟨fun h3=>?_,fun h3=>?_⟩
 .rw [if_pos h3]
  cases hB:gokB g
  .refine ⟨[],false,_,_,spec_ClassesOf_no true g hgl hx hB,nd0,rfl,rfl,trivial,[],false,_,_,spec_FormatInts_nil,nd0,rfl,rfl,trivial,?_⟩
   exact ⟨none,⟨rfl,trivial⟩,rfl,rfl⟩
  .obtain ⟨b1,b2,b3,b4,b5,b6,b7⟩:=hD hB
   refine ⟨[],true,_,_,hC hB,nd0,rfl,rfl,trivial,[],false,_,_,spec_FormatInts true C b4 b5,nd0,rfl,rfl,trivial,?_⟩
   exact ⟨none,⟨rfl,trivial⟩,rfl,rfl⟩
 rw [if_neg h3]
 refine ⟨fun h4=>?_,fun h4=>?_⟩
 .rw [if_pos h4]
  cases hB:gokB g
  .refine ⟨[],false,_,_,spec_TwoColors_no true g hgl hx hB,nd0,rfl,rfl,trivial,[],false,_,_,spec_FormatInts_nil,nd0,rfl,rfl,trivial,?_⟩
   exact ⟨none,⟨rfl,trivial⟩,rfl,rfl⟩
  .obtain ⟨b1,b2,b3,b4,b5,b6,b7⟩:=hD hB
   refine ⟨[],true,_,_,hT hB,nd0,rfl,rfl,trivial,[],false,_,_,spec_FormatInts true T b6 b7,nd0,rfl,rfl,trivial,?_⟩
   exact ⟨none,⟨rfl,trivial⟩,rfl,rfl⟩
 rw [if_neg h4]
 refine ⟨fun h5=>?_,fun h5=>?_⟩
 .rw [if_pos h5]
  refine ⟨rfl,by decide,true,?_⟩
  refine ⟨Nat,fun k=>⟨[(5,.ow 0),(31,.d true (.sl (.sl .int)) g),(32,I g.length),(33,I (k:Nat))],[.sl 9 .str ((g.take k).map fmtC)]⟩,fun k=>k<=g.length,fun k=>g.length-k,0,Nat.zero_le _,
   ⟨⟨rfl,rfl⟩,⟨rfl,rfl,rfl,rfl,trivial⟩,rfl,trivial⟩,fun k hk=>?_⟩
  dsimp only at hk
  refine ⟨fun h6=>?_,fun h6=>?_⟩
  .have hk2:k<g.length:=by omega
   refine ⟨k,rfl,hk2,[],false,_,_,spec_FormatCycles true (g.getD k []) (hx k hk2),nd0,rfl,rfl,trivial,?_⟩
   refine ⟨rfl,by decide,false,?_⟩
   refine ⟨rfl,Nat.zero_le _,rfl,by simp only [List.length_cons,List.length_nil,List.length_map,List.length_take];omega,rfl,?_⟩
   exact ⟨((k+1:Nat):Int),w64_eq (by omega) (by omega) (by omega),k+1,by dsimp only;omega,by dsimp only;omega,⟨rfl,rfl⟩,⟨rfl,rfl,rfl,rfl,trivial⟩,rowE (by rw [L_succ g k [] hk2,List.map_append];rfl),trivial⟩
  .obtain rfl:k=g.length:=by omega
   dsimp only
   rw [List.take_length]
   refine ⟨[],false,_,_,spec_Join false (g.map fmtC) [32] (by omega) hJ,nd0,rfl,rfl,trivial,?_⟩
   exact ⟨none,⟨rfl,trivial⟩,rfl,rfl⟩
 .rw [if_neg h5]
  exact ⟨none,⟨rfl,trivial⟩,rfl,rfl⟩
end Go.Proofs.YtacjiemkbhhhoaaGreatDoor
