/-
  Part 7 of the texts that the claim rests on: Wnum, Ox, Wnck, Wlyn, PlO, Wrnm, Wwoa, PlS, Wlin, Wlen, Wgpw, Wgrn, Wgra, Wcub, Wsol.
  No condition beyond the given program.
-/
import Derived.Test.YtacjiemkbhhhoaaGreatDoorIf
set_option linter.unusedVariables false
set_option linter.unusedSimpArgs false
namespace Go.Proofs.YtacjiemkbhhhoaaGreatDoor
open Go Go.Proofs.YtacjiemkbhhhoaaGreatDoor.Ow
theorem gcd_mod (x y:Nat):Nat.gcd y (x % y)=Nat.gcd x y:=by
 rw [Nat.gcd_comm y,<-Nat.gcd_rec,Nat.gcd_comm]
theorem impl_common (a b:Nat) (ha:a<=1048576) (hb:b<=1048576):AC Tryz.prog 274 [I (a:Nat),I (b:Nat)] [] [I (Nat.gcd a b:Nat)] []:=by
 refine AC_of tauOk 12 0 [4] Tryz.func274 rfl (by kernel_rfl) rfl rfl rfl rfl rfl ?_
 refine ⟨Nat × Nat,fun i=>⟨[(0,I (i.1:Nat)),(1,I (i.2:Nat))],[]⟩,fun i=>i.1<=1048576/\i.2<=1048576/\Nat.gcd i.1 i.2=Nat.gcd a b,fun i=>i.2,(a,b),⟨ha,hb,rfl⟩,
  ⟨⟨rfl,rfl⟩,⟨rfl,rfl,trivial⟩,trivial⟩,?_⟩
 rintro ⟨x,y⟩ ⟨hx,hy,hg⟩
 dsimp only at hx hy hg
 refine ⟨fun h1=>?_,fun h1=>?_⟩
 .dsimp only at h1
  have hm:=Nat.mod_lt x (show y>0 by omega)
  refine ⟨none,by kernel_rfl,by dsimp only;omega,((x % y:Nat):Int),Int.ofNat_tmod x y,?_⟩
  exact ⟨(y,x % y),⟨hy,by dsimp only;omega,by dsimp only;rw [gcd_mod,hg]⟩,by dsimp only;omega,⟨rfl,rfl⟩,⟨rfl,rfl,trivial⟩,trivial⟩
 .dsimp only at h1
  obtain rfl:y=0:=by omega
  rw [Nat.gcd_zero_right] at hg
  exact ⟨none,⟨retI (by rw [<-hg]),trivial⟩,rfl,rfl⟩
def totS (n:Nat):Nat->Nat
 |0=>0
 |k+1=>totS n k+if Nat.gcd (k+1) n=1 then 1 else 0
theorem totS_le (n:Nat):∀k,totS n k<=k
 |0=>Nat.le_refl _
 |k+1=>by have:=totS_le n k;rw [totS];split<;>omega
theorem impl_Totient (n:Nat) (h1:1<=n) (h2:n<=1000):AC Tryz.prog 181 [I (n:Nat)] [] [I (totS n n:Nat)] []:=by
 have hle:=totS_le n
 refine AC_of tauOk 23 0 [2] Tryz.func181 rfl (by kernel_rfl) rfl rfl rfl rfl rfl ?_
 refine ⟨fun h=>by omega,fun _=>?_⟩
 refine ⟨fun h=>by omega,fun _=>?_⟩
 refine ⟨Nat,fun k=>⟨[(0,I (n:Nat)),(3,I (totS n k:Nat)),(4,I ((k+1:Nat):Int))],[]⟩,fun k=>k<=n,fun k=>n-k,0,Nat.zero_le _,
  ⟨⟨rfl,rfl⟩,⟨rfl,rfl,rfl,trivial⟩,trivial⟩,fun k hk=>?_⟩
 dsimp only at hk
 have hlk:=hle k
 refine ⟨fun h3=>?_,fun h3=>?_⟩
 .have hk2:k<n:=by omega
  refine ⟨[],false,_,_,impl_common (k+1) n (by omega) (by omega),nd0,rfl,rfl,trivial,fun h4=>?_,fun h4=>?_⟩
  .have e:totS n (k+1)=totS n k+1:=by rw [totS,if_pos (by omega)]
   refine ⟨((totS n (k+1):Nat):Int),w64_eq (by omega) (by omega) (by omega),?_⟩
   exact ⟨((k+1+1:Nat):Int),w64_eq (by omega) (by omega) (by omega),k+1,by dsimp only;omega,by dsimp only;omega,⟨rfl,rfl⟩,⟨rfl,rfl,rfl,trivial⟩,trivial⟩
  .have e:totS n (k+1)=totS n k:=by rw [totS,if_neg (by omega)];rfl
   exact ⟨((k+1+1:Nat):Int),w64_eq (by omega) (by omega) (by omega),k+1,by dsimp only;omega,by dsimp only;omega,⟨rfl,rfl⟩,⟨rfl,retI (by rw [e]),rfl,trivial⟩,trivial⟩
 .obtain rfl:k=n:=by omega
  exact ⟨none,⟨rfl,trivial⟩,rfl,rfl⟩
def mobF:Nat->Nat->Int->Nat->Int
 |0,_,out,_=>out
 |f+1,n,out,d=>if n<=1 then out else if n % d≠0 then mobF f n out (d+1) else if (n / d) % d=0 then 0 else mobF f (n / d) (-out) (d+1)
def mobN (n:Nat):Int:=mobF (2*n) n 1 2
theorem mobF_b:∀(f n:Nat) (out:Int) (d:Nat),-1<=out->out<=1->-1<=mobF f n out d/\mobF f n out d<=1
 |0,n,out,d,h1,h2=>by rw [mobF];exact ⟨h1,h2⟩
 |f+1,n,out,d,h1,h2=>by
  rw [mobF]
  split
  .exact ⟨h1,h2⟩
  .split
   .exact mobF_b f _ _ _ h1 h2
   .split
    .omega
    .exact mobF_b f _ _ _ (by omega) (by omega)
theorem impl_Mobius (n0:Nat) (h1:1<=n0) (h2:n0<=1000):AC Tryz.prog 183 [I (n0:Nat)] [] [I (mobN n0)] []:=by
 refine AC_of tauOk 29 0 [2] Tryz.func183 rfl (by kernel_rfl) rfl rfl rfl rfl rfl ?_
 refine ⟨fun h=>by omega,fun _=>?_⟩
 refine ⟨fun h=>by omega,fun _=>?_⟩
 refine ⟨Nat × Nat × Int × Nat,fun i=>⟨[(0,I (i.2.1:Nat)),(3,I i.2.2.1),(4,I (i.2.2.2:Nat))],[]⟩,
  fun i=>mobF i.1 i.2.1 i.2.2.1 i.2.2.2=mobN n0/\1<=i.2.1/\i.2.1<=1000/\2<=i.2.2.2/\i.2.2.2<=1001/\(-1<=i.2.2.1/\i.2.2.1<=1)/\(∀e,2<=e->i.2.1 % e=0->i.2.2.2<=e)/\(1<i.2.1->2*i.2.1<i.1+i.2.2.2),fun i=>i.1,(2*n0,n0,1,2),
  ⟨rfl,h1,h2,Nat.le_refl 2,(by decide:2<=1001),(by decide:(-1:Int)<=1/\(1:Int)<=1),fun e he _=>he,fun _=>by dsimp only;omega⟩,
  ⟨⟨rfl,rfl⟩,⟨rfl,rfl,rfl,trivial⟩,trivial⟩,?_⟩
 rintro ⟨f,n,out,d⟩ ⟨hF,hn1,hn2,hd1,hd2,ho,he,hf⟩
 dsimp only at hF hn1 hn2 hd1 hd2 ho he hf
 refine ⟨fun h3=>?_,fun h3=>?_⟩
 .dsimp only at h3
  have hn3:1<n:=by omega
  have hdn:d<=n:=he n (by omega) (Nat.mod_self n)
  have hf1:=hf hn3
  obtain ⟨f',rfl⟩:∃f',f=f'+1:=⟨f-1,by omega⟩
  rw [mobF,if_neg (by omega)] at hF
  refine ⟨by dsimp only;omega,((n % d:Nat):Int),Int.ofNat_tmod n d,?_⟩
  refine ⟨fun h4=>?_,fun h4=>?_⟩
  .rw [if_pos (by omega)] at hF
   have hdn2:d≠n:=fun e=>by rw [e,Nat.mod_self] at h4;exact h4 rfl
   refine ⟨((d+1:Nat):Int),w64_eq (by dsimp only;omega) (by omega) (by omega),(f',n,out,d+1),⟨hF,hn1,hn2,by dsimp only;omega,by dsimp only;omega,ho,fun e h5 h6=>?_,fun _=>by dsimp only;omega⟩,by dsimp only;omega,⟨rfl,rfl⟩,⟨rfl,rfl,rfl,trivial⟩,trivial⟩
   dsimp only at h6
   have h7:=he e h5 h6
   have:e≠d:=fun e'=>by rw [e'] at h6;omega
   show d+1<=e
   omega
  .rw [if_neg (by omega)] at hF
   have hnd:n / d<=n / 2:=Nat.div_le_div_left hd1 (by decide)
   have hdm:=Nat.div_add_mod n d
   have hpos:1<=n / d:=by
    have:=Nat.div_le_div_right (c:=d) hdn
    rw [Nat.div_self (by omega)] at this
    exact this
   refine ⟨by dsimp only;omega,((n / d:Nat):Int),w64_eq (Int.ofNat_tdiv n d) (by omega) (by omega),?_⟩
   refine ⟨by dsimp only;omega,((n / d % d:Nat):Int),Int.ofNat_tmod (n / d) d,?_⟩
   refine ⟨fun h5=>?_,fun h5=>?_⟩
   .rw [if_pos (by omega)] at hF
    exact ⟨none,⟨retI hF.symm,trivial⟩,rfl,rfl⟩
   .rw [if_neg (by omega)] at hF
    refine ⟨-out,by rw [<-w64_in _ (by dsimp only;omega) (by dsimp only;omega)]<;>dsimp only<;>omega,?_⟩
    refine ⟨((d+1:Nat):Int),w64_eq (by dsimp only;omega) (by omega) (by omega),(f',n / d,-out,d+1),⟨hF,hpos,by dsimp only;omega,by dsimp only;omega,by dsimp only;omega,⟨by dsimp only;omega,by dsimp only;omega⟩,fun e h6 h7=>?_,fun _=>by dsimp only;omega⟩,by dsimp only;omega,⟨rfl,rfl⟩,⟨rfl,rfl,rfl,trivial⟩,trivial⟩
    dsimp only at h7
    have h8:n % e=0:=by
     have h9:d ∣ n:=Nat.dvd_of_mod_eq_zero (by omega)
     have h10:n / d ∣ n:=Nat.div_dvd_of_dvd h9
     exact Nat.mod_eq_zero_of_dvd (Nat.dvd_trans (Nat.dvd_of_mod_eq_zero h7) h10)
    have h9:=he e h6 h8
    have:e≠d:=fun e'=>by rw [e'] at h7;omega
    show d+1<=e
    omega
 .dsimp only at h3
  have e:mobF f n out d=out:=by
   cases f with
   |zero=>rfl
   |succ f=>rw [mobF,if_pos (by omega)]
  exact ⟨none,⟨retI (by rw [<-hF,e]),trivial⟩,rfl,rfl⟩
def divS (F:Nat->Int) (n K:Nat):Nat->Int
 |0=>0
 |j+1=>divS F n K j+if n % (j+1)=0 then F (j+1)*((K ^ (n / (j+1)):Nat):Int) else 0
def divI (F:Nat->Int) (n K:Nat):Int:=(divS F n K n).tdiv n
theorem mulb {x y:Int} (hx: -1000<=x/\x<=1000) (hy:0<=y/\y<=1048576): -1048576000<=x*y/\x*y<=1048576000:=by
 obtain ⟨h1,h2⟩:=hx
 obtain ⟨h3,h4⟩:=hy
 have a1:x*y<=1000*y:=Int.mul_le_mul_of_nonneg_right h2 h3
 have a2: -1000*y<=x*y:=Int.mul_le_mul_of_nonneg_right h1 h3
 omega
theorem divS_b {F:Nat->Int} {n K:Nat} (hF:∀d,1<=d->d<=n->-1000<=F d/\F d<=1000) (hn:n<=10) (hK:K<=4):∀j,j<=n->-(j:Int)*1048576000<=divS F n K j/\divS F n K j<=(j:Int)*1048576000
 |0,_=>by rw [divS];omega
 |j+1,hj=>by
  have ih:=divS_b hF hn hK j (by omega)
  have hp:K ^ (n / (j+1))<=1048576:=pow_le hK (show n / (j+1)<=10 from Nat.le_trans (Nat.div_le_self _ _) hn) (Nat.le_refl 10)
  have:=mulb (hF (j+1) (by omega) hj) (y:=((K ^ (n / (j+1)):Nat):Int)) ⟨Int.natCast_nonneg _,by omega⟩
  rw [divS]
  split<;>omega
theorem impl_divided (F:Nat->Int) (fn n K:Nat) (h1:1<=n) (hn:n<=10) (hK:K<=4) (hF:∀d,1<=d->d<=n->(-1000<=F d/\F d<=1000)/\AC Tryz.prog fn [I (d:Nat)] [] [I (F d)] []):
 AC Tryz.prog 180 [I (n:Nat),I (K:Nat),.fn fn []] [] [I (divI F n K)] []:=by
 have hb:=divS_b (fun d a b=>(hF d a b).1) hn hK
 refine AC_of tauOk 32 0 [6] Tryz.func180 rfl (by kernel_rfl) rfl rfl rfl rfl rfl ?_
 refine ⟨Nat,fun k=>⟨[(0,I (n:Nat)),(1,I (K:Nat)),(2,.fn fn []),(7,I (divS F n K k)),(8,I ((k+1:Nat):Int))],[]⟩,fun k=>k<=n,fun k=>n-k,0,Nat.zero_le _,
  ⟨⟨rfl,rfl⟩,⟨rfl,rfl,rfl,rfl,rfl,trivial⟩,trivial⟩,fun k hk=>?_⟩
 dsimp only at hk
 have hbk:=hb k hk
 refine ⟨fun h3=>?_,fun h3=>?_⟩
 .have hk2:k<n:=by omega
  obtain ⟨hv,hA⟩:=hF (k+1) (by omega) hk2
  have hb1:=hb (k+1) (by omega)
  have hq:n / (k+1)<=10:=Nat.le_trans (Nat.div_le_self _ _) hn
  have hp:K ^ (n / (k+1))<=1048576:=pow_le hK hq (Nat.le_refl 10)
  have hm:=mulb hv (y:=((K ^ (n / (k+1)):Nat):Int)) ⟨Int.natCast_nonneg _,by omega⟩
  refine ⟨by omega,((n % (k+1):Nat):Int),Int.ofNat_tmod n (k+1),?_⟩
  refine ⟨fun h4=>?_,fun h4=>?_⟩
  .have e:divS F n K (k+1)=divS F n K k+F (k+1)*((K ^ (n / (k+1)):Nat):Int):=by rw [divS,if_pos (by omega)]
   refine ⟨none,by kernel_rfl,_,_,hA,rfl,by omega,((n / (k+1):Nat):Int),w64_eq (Int.ofNat_tdiv n (k+1)) (Int.le_trans (by decide) (Int.natCast_nonneg _)) (Int.le_trans (Int.ofNat_le.2 hq) (by decide)),_,_,impl_power K (n / (k+1)) hK hq,rfl,?_⟩
   refine ⟨F (k+1)*((K ^ (n / (k+1)):Nat):Int),w64_eq rfl (by omega) (by omega),?_⟩
   refine ⟨divS F n K (k+1),w64_eq e (by omega) (by omega),?_⟩
   exact ⟨((k+1+1:Nat):Int),w64_eq (by omega) (by omega) (by omega),k+1,by dsimp only;omega,by dsimp only;omega,⟨rfl,rfl⟩,⟨rfl,rfl,rfl,rfl,rfl,trivial⟩,trivial⟩
  .have e:divS F n K (k+1)=divS F n K k:=by rw [divS,if_neg (by omega),Int.add_zero]
   exact ⟨((k+1+1:Nat):Int),w64_eq (by omega) (by omega) (by omega),k+1,by dsimp only;omega,by dsimp only;omega,⟨rfl,rfl⟩,⟨rfl,rfl,rfl,retI (by rw [e]),rfl,trivial⟩,trivial⟩
 .obtain rfl:k=n:=by omega
  have hd: -10485760000<=divI F k K/\divI F k K<=10485760000:=by
   unfold divI
   have h5:(divS F k K k).tdiv k=(divS F k K k).tdiv k:=rfl
   have h6:=Int.natAbs_tdiv_le_natAbs (divS F k K k) k
   omega
  refine ⟨by omega,divI F k K,w64_eq rfl (by omega) (by omega),?_⟩
  exact ⟨none,⟨rfl,trivial⟩,rfl,rfl⟩
def lenB (n k:Int):Bool:=(decide (1<=n) && decide (n<=10)) && (decide (1<=k) && decide (k<=4))
theorem impl_isLength (n:Int):AC Tryz.prog 179 [I n] [] [.d true .bool (decide (1<=n) && decide (n<=10))] []:=by
 refine AC_of tauOk 9 0 [2] Tryz.func179 rfl (by kernel_rfl) rfl rfl rfl rfl rfl ?_
 refine ⟨fun h=>?_,fun h=>?_⟩
 .refine ⟨fun h2=>?_,fun h2=>?_⟩
  .exact ⟨none,⟨retB (by rw [decide_eq_true (show 1<=n by omega),decide_eq_true h2];rfl),trivial⟩,rfl,rfl⟩
  .exact ⟨none,⟨retB (by rw [decide_eq_false h2,Bool.and_false]),trivial⟩,rfl,rfl⟩
 .exact ⟨none,⟨retB (by rw [decide_eq_false (show ¬1<=n by omega)];rfl),trivial⟩,rfl,rfl⟩
theorem lenB_of {n k:Int} (h:lenB n k=true):∃N K:Nat,n=(N:Int)/\k=(K:Int)/\1<=N/\N<=10/\1<=K/\K<=4:=by
 unfold lenB at h
 simp only [Bool.and_eq_true,decide_eq_true_eq] at h
 exact ⟨n.toNat,k.toNat,by omega,by omega,by omega,by omega,by omega,by omega⟩
def neckI (n k:Int):Int:=if lenB n k then divI (fun d=>(totS d d:Nat)) n.toNat k.toNat else-1
def lynI (n k:Int):Int:=if lenB n k then divI mobN n.toNat k.toNat else-1
def mirI (n k:Int):Int:=if lenB n k then (if n.toNat % 2=1 then ((k.toNat ^ ((n.toNat+1) / 2):Nat):Int) else (((k.toNat ^ (n.toNat / 2)+k.toNat ^ (n.toNat / 2+1)) / 2:Nat):Int)) else-1
def bracI (n k:Int):Int:=if lenB n k then (neckI n k+mirI n k).tdiv 2 else-1
theorem divI_b {F:Nat->Int} {n K:Nat} (hF:∀d,1<=d->d<=n->-1000<=F d/\F d<=1000) (hn:n<=10) (hK:K<=4): -10485760000<=divI F n K/\divI F n K<=10485760000:=by
 have hb:=divS_b hF hn hK n (Nat.le_refl _)
 unfold divI
 have h6:=Int.natAbs_tdiv_le_natAbs (divS F n K n) n
 omega
theorem tot_b (n:Nat) (hn:n<=10):∀d,1<=d->d<=n->-1000<=((totS d d:Nat):Int)/\((totS d d:Nat):Int)<=1000:=fun d _ h=>by
 have:=totS_le d d;omega
theorem mob_b (n:Nat):∀d,1<=d->d<=n->-1000<=mobN d/\mobN d<=1000:=fun d _ h=>by
 have:=mobF_b (2*d) d 1 2 (by decide) (by decide);unfold mobN;omega
theorem neck_b (n k:Int): -10485760000<=neckI n k/\neckI n k<=10485760000:=by
 unfold neckI
 split
 .rename_i h
  obtain ⟨N,K,rfl,rfl,a1,a2,a3,a4⟩:=lenB_of h
  exact divI_b (tot_b _ (by simpa using a2)) (by simpa using a2) (by simpa using a4)
 .omega
theorem lyn_b (n k:Int): -10485760000<=lynI n k/\lynI n k<=10485760000:=by
 unfold lynI
 split
 .rename_i h
  obtain ⟨N,K,rfl,rfl,a1,a2,a3,a4⟩:=lenB_of h
  exact divI_b (mob_b _) (by simpa using a2) (by simpa using a4)
 .omega
theorem mir_b (n k:Int): -10485760000<=mirI n k/\mirI n k<=10485760000:=by
 unfold mirI
 split
 .rename_i h
  obtain ⟨N,K,rfl,rfl,a1,a2,a3,a4⟩:=lenB_of h
  simp only [Int.toNat_natCast]
  have p1:K ^ ((N+1) / 2)<=1048576:=pow_le a4 (show (N+1) / 2<=10 by omega) (Nat.le_refl 10)
  have p2:K ^ (N / 2)<=1048576:=pow_le a4 (show N / 2<=10 by omega) (Nat.le_refl 10)
  have p3:K ^ (N / 2+1)<=1048576:=pow_le a4 (show N / 2+1<=10 by omega) (Nat.le_refl 10)
  split<;>omega
 .omega
theorem impl_CountNecklaces (n k:Int):AC Tryz.prog 84 [I n,I k] [] [I (neckI n k)] []:=by
 refine AC_of tauOk 16 0 [4] Tryz.func84 rfl (by kernel_rfl) rfl rfl rfl rfl rfl ?_
 refine ⟨[],false,_,_,impl_isLength n,nd0,rfl,rfl,trivial,fun h1=>?_,fun h1=>?_⟩
 .refine ⟨[],false,_,_,impl_isColors k,nd0,rfl,rfl,trivial,fun h2=>?_,fun h2=>?_⟩
  .have hL:lenB n k=true:=by rw [lenB,h1,h2];rfl
   have e:neckI n k=divI (fun d=>(totS d d:Nat)) n.toNat k.toNat:=by rw [neckI,if_pos hL]
   obtain ⟨N,K,rfl,rfl,a1,a2,a3,a4⟩:=lenB_of hL
   rw [Int.toNat_natCast,Int.toNat_natCast] at e
   refine ⟨[],false,_,_,impl_divided (fun d=>(totS d d:Nat)) 181 N K a1 a2 a4 fun d b1 b2=>⟨tot_b N a2 d b1 b2,impl_Totient d b1 (by omega)⟩,nd0,rfl,rfl,trivial,?_⟩
   exact ⟨none,⟨retI e,trivial⟩,rfl,rfl⟩
  .exact ⟨none,⟨retI (by rw [neckI,lenB,h2,Bool.and_false];rfl),trivial⟩,rfl,rfl⟩
 .exact ⟨none,⟨retI (by rw [neckI,lenB,h1];rfl),trivial⟩,rfl,rfl⟩
theorem impl_CountLyndon (n k:Int):AC Tryz.prog 86 [I n,I k] [] [I (lynI n k)] []:=by
 refine AC_of tauOk 16 0 [4] Tryz.func86 rfl (by kernel_rfl) rfl rfl rfl rfl rfl ?_
 refine ⟨[],false,_,_,impl_isLength n,nd0,rfl,rfl,trivial,fun h1=>?_,fun h1=>?_⟩
 .refine ⟨[],false,_,_,impl_isColors k,nd0,rfl,rfl,trivial,fun h2=>?_,fun h2=>?_⟩
  .have hL:lenB n k=true:=by rw [lenB,h1,h2];rfl
   have e:lynI n k=divI mobN n.toNat k.toNat:=by rw [lynI,if_pos hL]
   obtain ⟨N,K,rfl,rfl,a1,a2,a3,a4⟩:=lenB_of hL
   rw [Int.toNat_natCast,Int.toNat_natCast] at e
   refine ⟨[],false,_,_,impl_divided mobN 183 N K a1 a2 a4 fun d b1 b2=>⟨mob_b N d b1 b2,impl_Mobius d b1 (by omega)⟩,nd0,rfl,rfl,trivial,?_⟩
   exact ⟨none,⟨retI e,trivial⟩,rfl,rfl⟩
  .exact ⟨none,⟨retI (by rw [lynI,lenB,h2,Bool.and_false];rfl),trivial⟩,rfl,rfl⟩
 .exact ⟨none,⟨retI (by rw [lynI,lenB,h1];rfl),trivial⟩,rfl,rfl⟩
theorem impl_CountMirrored (n k:Int):AC Tryz.prog 182 [I n,I k] [] [I (mirI n k)] []:=by
 have hmb:=mir_b n k
 refine AC_of tauOk 32 0 [4] Tryz.func182 rfl (by kernel_rfl) rfl rfl rfl rfl rfl ?_
 refine ⟨[],false,_,_,impl_isLength n,nd0,rfl,rfl,trivial,fun h1=>?_,fun h1=>?_⟩
 .refine ⟨[],false,_,_,impl_isColors k,nd0,rfl,rfl,trivial,fun h2=>?_,fun h2=>?_⟩
  .have hL:lenB n k=true:=by rw [lenB,h1,h2];rfl
   have e:=mirI
   obtain ⟨N,K,rfl,rfl,a1,a2,a3,a4⟩:=lenB_of hL
   have p2:K ^ (N / 2)<=1048576:=pow_le a4 (show N / 2<=10 by omega) (Nat.le_refl 10)
   have p3:K ^ (N / 2+1)<=1048576:=pow_le a4 (show N / 2+1<=10 by omega) (Nat.le_refl 10)
   refine ⟨by decide,((N % 2:Nat):Int),Int.ofNat_tmod N 2,?_⟩
   refine ⟨fun h3=>?_,fun h3=>?_⟩
   .have e:mirI (N:Int) (K:Int)=((K ^ ((N+1) / 2):Nat):Int):=by rw [mirI,if_pos hL,Int.toNat_natCast,Int.toNat_natCast,if_pos (by omega)]
    refine ⟨((N+1:Nat):Int),w64_eq (by omega) (by omega) (by omega),?_⟩
    refine ⟨by decide,(((N+1) / 2:Nat):Int),w64_eq (Int.ofNat_tdiv (N+1) 2) (by omega) (by omega),?_⟩
    refine ⟨[],false,_,_,impl_power K ((N+1) / 2) a4 (by omega),nd0,rfl,rfl,trivial,?_⟩
    exact ⟨none,⟨retI e,trivial⟩,rfl,rfl⟩
   .have e:mirI (N:Int) (K:Int)=(((K ^ (N / 2)+K ^ (N / 2+1)) / 2:Nat):Int):=by rw [mirI,if_pos hL,Int.toNat_natCast,Int.toNat_natCast,if_neg (by omega)]
    refine ⟨by decide,((N / 2:Nat):Int),w64_eq (Int.ofNat_tdiv N 2) (by omega) (by omega),?_⟩
    refine ⟨[],false,_,_,impl_power K (N / 2) a4 (by omega),nd0,rfl,rfl,trivial,?_⟩
    refine ⟨by decide,((N / 2:Nat):Int),w64_eq (Int.ofNat_tdiv N 2) (by omega) (by omega),?_⟩
    refine ⟨((N / 2+1:Nat):Int),w64_eq (by omega) (by omega) (by omega),?_⟩
    refine ⟨[],false,_,_,impl_power K (N / 2+1) a4 (by omega),nd0,rfl,rfl,trivial,?_⟩
    refine ⟨((K ^ (N / 2)+K ^ (N / 2+1):Nat):Int),w64_eq (by omega) (by omega) (by omega),?_⟩
    refine ⟨by decide,(((K ^ (N / 2)+K ^ (N / 2+1)) / 2:Nat):Int),w64_eq (Int.ofNat_tdiv _ 2) (by omega) (by omega),?_⟩
    exact ⟨none,⟨retI e,trivial⟩,rfl,rfl⟩
  .exact ⟨none,⟨retI (by rw [mirI,lenB,h2,Bool.and_false];rfl),trivial⟩,rfl,rfl⟩
 .exact ⟨none,⟨retI (by rw [mirI,lenB,h1];rfl),trivial⟩,rfl,rfl⟩
theorem brac_b (n k:Int): -20971520000<=bracI n k/\bracI n k<=20971520000:=by
 have h1:=neck_b n k
 have h2:=mir_b n k
 have h3:=Int.natAbs_tdiv_le_natAbs (neckI n k+mirI n k) 2
 have h4: -20971520000<=neckI n k+mirI n k/\neckI n k+mirI n k<=20971520000:=by omega
 unfold bracI
 split<;>omega
theorem impl_CountBracelets (n k:Int):AC Tryz.prog 85 [I n,I k] [] [I (bracI n k)] []:=by
 have b1:=neck_b n k
 have b2:=mir_b n k
 have b3:=Int.natAbs_tdiv_le_natAbs (neckI n k+mirI n k) 2
 refine AC_of tauOk 21 0 [4] Tryz.func85 rfl (by kernel_rfl) rfl rfl rfl rfl rfl ?_
 refine ⟨[],false,_,_,impl_isLength n,nd0,rfl,rfl,trivial,fun h1=>?_,fun h1=>?_⟩
 .refine ⟨[],false,_,_,impl_isColors k,nd0,rfl,rfl,trivial,fun h2=>?_,fun h2=>?_⟩
  .have hL:lenB n k=true:=by rw [lenB,h1,h2];rfl
   refine ⟨[],false,_,_,impl_CountNecklaces n k,nd0,rfl,rfl,trivial,[],false,_,_,impl_CountMirrored n k,nd0,rfl,rfl,trivial,?_⟩
   refine ⟨neckI n k+mirI n k,w64_eq rfl (by omega) (by omega),?_⟩
   refine ⟨by decide,(neckI n k+mirI n k).tdiv 2,w64_eq rfl (by omega) (by omega),?_⟩
   exact ⟨none,⟨retI (by rw [bracI,if_pos hL]),trivial⟩,rfl,rfl⟩
  .exact ⟨none,⟨retI (by rw [bracI,lenB,h2,Bool.and_false];rfl),trivial⟩,rfl,rfl⟩
 .exact ⟨none,⟨retI (by rw [bracI,lenB,h1];rfl),trivial⟩,rfl,rfl⟩
end Go.Proofs.YtacjiemkbhhhoaaGreatDoor
namespace Go.Proofs.YtacjiemkbhhhoaaGreatDoor.Ow
open Go
def BC (P:Program) (m:Nat) (f:FuncId) (args:List AV) (rows:List Row) (res:AV) (rows':List Row):Prop:=
 Runs P f/\∀(w:World) (bs:List Nat) (A:Nat->Prop) (vs:List Value),ROk w bs A rows->Vs w bs A rows args vs->
  Calls P f vs.toArray w fun e w'=>∃rv bs' A',e=.returned rv/\ROk w' bs' A' rows'/\V w' bs' A' rows' res rv/\Step w bs A w' bs' A'/\
   bs'.take m=bs.take m/\Stay w (bs.take m) w'/\(∀b,A b->A' b)
def RetB (t:Nat) (res:AV) (rows':List Row):Exit->St->Prop:=
 fun e st=>match e with
 |.goto _=>False
 |.exit _=>False
 |.panic _=>False
 |.outgrown=>False
 |_=>look st.env t=res/\st.rows=rows'
theorem BC_of {P:Program} {τ:Nat→TI} (hτ:TyOk P τ) {f:FuncId} {fn:Func} {c:Code} {args:List AV} {res:AV} {rows rows':List Row} (N m t:Nat) (hf:P.funcs[f]? =some fn) (hb:fn.body=some c) (hn:(fn.name== "runtime.NumGoroutine")=false) (hN:fn.ntmps=N)
 (hargs:Nat.ble args.length N=true) (hm:Nat.ble m rows.length=true) (hres:fn.results=([t].map ResultVar.tmp).toArray)
 (h:wpC P τ N m c ⟨envOf 0 args,rows⟩ (RetB t res rows')):BC P m f args rows res rows':=by
 refine ⟨⟨fn,c,hf,hb,hn⟩,fun w bs A vs hrok hvs=>?_⟩
 have hargs':=Nat.le_of_ble_eq_true hargs
 have hm':=Nat.le_of_ble_eq_true hm
 have hvl:=Vs_len hvs
 refine calls_of_wp hf hb ?_
 have hs:Sat w bs A {tmps:=vs.toArray++Array.replicate (fn.ntmps-vs.toArray.size) undef,defers:=[]} N ⟨envOf 0 args,rows⟩:=by
  refine ⟨hrok.len,hrok.nodup,hrok.lt,hrok.old,hrok.row,fun t=>?_,by simp;omega,rfl⟩
  show V w bs A rows (look (envOf 0 args) t) _
  rw [look_envOf]
  simp only [Nat.zero_le,if_true,Nat.sub_zero]
  cases ht:args[t]? with
  |none=>trivial
  |some av=>
   obtain ⟨v,hv,hr⟩:=Vs_get hvs ht
   have:(vs.toArray++Array.replicate (fn.ntmps-vs.toArray.size) undef).getD t undef=v:=by
    have htl:=(List.getElem?_eq_some_iff.1 hv).1
    rw [Array.getD_eq_getD_getElem?,Array.getElem?_append_left (by simpa using htl)]
    simp [hv]
   simp only [this]
   exact hr
 refine wpC_ok hτ c hs (by rw [hrok.len];exact hm') (fun e w' bs' A' a' st' h1 h2 h3=>?_) h
 have key:(look st'.env t=res/\st'.rows=rows')->
  a'.defers=[]/\∃v,(results fn a'.tmps).run P w'=.ok v w'/\(fun (e:Ending) w'=>∃rv bs' A',e=.returned rv/\ROk w' bs' A' rows'/\V w' bs' A' rows' res rv/\Step w bs A w' bs' A'/\
  bs'.take m=bs.take m/\Stay w (bs.take m) w'/\(∀b,A b->A' b)) (.returned v) w':=by
  rintro ⟨rfl,rfl⟩
  refine ⟨h1.dfs,_,run_results fn [t] hres (show 1<=4 by decide) a'.tmps w',?_⟩
  exact ⟨_,bs',A',rfl,h1.rok,h1.env t,h2.toStep,h2.tk,h2.st,h2.up⟩
 cases e with
 |normal=>exact key h3
 |ret=>exact key h3
 |exit i=>exact h3.elim
 |goto l=>exact h3.elim
 |panic c=>exact h3.elim
 |outgrown=>exact h3.elim
theorem XC_of3 {P:Program} {N:Nat} {F:FuncId} {args:List AV} {res:AV} {env:List (Nat × AV)} {ea eb eb' ec ec':TypeId} {ta tc tc':Ty} {xs xs':List ta.T} {vb vb':AV} {ys:List tc.T} {ys':List tc'.T} (hl:xs'.length=xs.length)
 (h:BC P 2 F args [.sl ea ta xs,.box eb vb,.sl ec tc ys] res [.sl ea ta xs',.box eb' vb',.sl ec' tc' ys']):
 XC P 2 N F args ⟨env,[.sl ea ta xs,.box eb vb,.sl ec tc ys]⟩ ⟨killE 2 env,[.sl ea ta xs',.box eb' vb',.sl ec' tc' ys']⟩ res:=by
 refine ⟨h.1,fun w bs A a vs hs hm hvs=>(h.2 w bs A vs hs.rok hvs).mono ?_⟩
 rintro e w' ⟨rv,bs',A',rfl,hrok,hv,hstep,htk,hstay,hup⟩
 have hl3:bs.length=3:=hs.len
 have hl3':bs'.length=3:=hrok.len
 have hnA:∀b∈bs,¬A b:=fun b hb=>by
  obtain ⟨i,hi,rfl⟩:=List.getElem_of_mem hb
  have h1:bs[i]? =some bs[i]:=List.getElem?_eq_getElem hi
  match i,hi,h1 with
  |0,_,h1=>exact (hs.row 0 _ _ h1 rfl).nA (by simp)
  |1,_,h1=>exact (hs.row 1 _ _ h1 rfl).nA (by simp)
  |2,_,h1=>exact (hs.row 2 _ _ h1 rfl).nA (by simp)
  |i+3,hi,_=>omega
 have hix:∀i,i<2->bs'[i]? =bs[i]? :=fun i hi=>by
  have h1:(bs'.take 2)[i]? =(bs.take 2)[i]? :=by rw [htk]
  rwa [List.getElem?_take,List.getElem?_take,if_pos hi,if_pos hi] at h1
 have k:Kp w bs A [.sl ea ta xs,.box eb vb,.sl ec tc ys] w' bs' A' [.sl ea ta xs',.box eb' vb',.sl ec' tc' ys'] (fun i=>i<2):=
  {a:=fun b hb hlt=>⟨hstep.block b hlt (fun hm=>hnA b hm hb),hup b hb⟩
   n:=fun b hb hlt=>⟨hstep.block b hlt hb,fun hm=>by
    rcases hstep.sbs b hm with h1|h1
    .exact hb h1
    .omega⟩
   h:=fun i hi=>by
    refine ⟨hix i hi,fun r hr=>?_,fun b cur e hb hc=>?_⟩
    .match i,hi,hr with
     |0,_,hr=>cases hr;exact ⟨_,rfl,hl,(fun e t ys h=>by cases h;exact ⟨xs',rfl⟩),(fun e ys h=>by cases h)⟩
     |1,_,hr=>cases hr;exact ⟨_,rfl,rfl,(fun e t ys h=>by cases h),(fun e ys h=>by cases h)⟩
     |i+2,hi,_=>omega
    .exact hstay b (List.mem_of_getElem? (i:=i) (by rw [List.getElem?_take,if_pos hi];exact hb)) cur e hc}
 refine ⟨rv,bs',A',rfl,hs.change k hrok (fun t=>?_),hv,hstep,htk,hstay,hup⟩
 rcases look_killE 2 env t with h|⟨h,h2⟩
 .exact .inl h
 .exact .inr ⟨h,fun j hj hlt=>by
   have:j≠2:=fun e=>h2 (e ▸ hj)
   show j<2
   omega⟩
theorem XC_of3r {P:Program} {N:Nat} {F G:FuncId} {a1 a2 a3:Int} {b1:Bool} {v:Bool} {env:List (Nat × AV)} {u:Nat} {ea eb ec:TypeId} {ta tc:Ty} {xs xs':List ta.T} {ys ys':List tc.T} (hu:look env u=.ptr 1 0)
 (h:BC P 2 F [.ow 0,I a1,I a2,I a3,.nil,.d true .bool b1,.fn G [.ptr 1 0]] [.sl ea ta xs,.box eb (.ow 2),.sl ec tc ys] (.d true .bool v) [.sl ea ta xs',.box eb (.ow 2),.sl ec tc ys']):
 XC P 0 N F [.ow 2,I a1,I a2,I a3,.nil,.d true .bool b1,.fn G [.ptr 1 0]] ⟨env,[.sl ec tc ys,.box eb (.ow 0),.sl ea ta xs]⟩ ⟨[(u,.ptr 1 0)],[.sl ec tc ys',.box eb (.ow 0),.sl ea ta xs']⟩ (.d true .bool v):=by
 refine ⟨h.1,fun w bs A a vs hs hm hvs=>?_⟩
 obtain ⟨c0,c1,c2,rfl⟩:∃c0 c1 c2,bs=[c0,c1,c2]:=by
  have hl3:bs.length=3:=hs.len
  match bs,hl3 with
  |[c0,c1,c2],_=>exact ⟨c0,c1,c2,rfl⟩
 have hnd:=hs.nodup
 have hrok:ROk w [c2,c1,c0] A [.sl ea ta xs,.box eb (.ow 2),.sl ec tc ys]:=by
  refine ⟨rfl,by simp at hnd ⊢;omega,fun b hb=>hs.lt b (by simp at hb ⊢;omega),hs.old,fun i b r hb hr=>?_⟩
  match i,hb,hr with
  |0,hb,hr=>cases hb;cases hr;exact hs.row 2 c2 _ rfl rfl
  |1,hb,hr=>
   cases hb;cases hr
   obtain ⟨hA,cv,hc,b,e,t,zs,cur,k1,k2,k3,k4⟩:=hs.row 1 c1 _ rfl rfl
   exact ⟨hA,cv,hc,b,e,t,zs,cur,k1,k2,k3,k4⟩
  |2,hb,hr=>cases hb;cases hr;exact hs.row 0 c0 _ rfl rfl
  |i+3,hb,_=>cases hb
 have hvs2:Vs w [c2,c1,c0] A [.sl ea ta xs,.box eb (.ow 2),.sl ec tc ys] [.ow 0,I a1,I a2,I a3,.nil,.d true .bool b1,.fn G [.ptr 1 0]] vs:=by
  obtain ⟨v1,r1,rfl,⟨b,e,t,zs,cur,k1,k2,k3,k4⟩,v2,r2,rfl,h2,v3,r3,rfl,h3,v4,r4,rfl,h4,v5,r5,rfl,h5,v6,r6,rfl,h6,v7,r7,rfl,⟨cs,hf,v8,r8,h8,⟨b',r',q1,q2,q3,q4⟩,h9⟩,h7⟩:=hvs
  exact ⟨v1,_,rfl,⟨b,e,t,zs,cur,k1,k2,k3,k4⟩,v2,_,rfl,h2,v3,_,rfl,h3,v4,_,rfl,h4,v5,_,rfl,h5,v6,_,rfl,h6,v7,_,rfl,⟨cs,hf,v8,r8,h8,⟨b',.box eb (.ow 2),q1,rfl,(by cases q2;exact q3),q4⟩,h9⟩,h7⟩
 refine (h.2 w _ A vs hrok hvs2).mono ?_
 rintro e w' ⟨rv,bs',A',rfl,hrok',hv,hstep,htk,hstay,hup⟩
 obtain ⟨d,rfl⟩:∃d,bs'=[c2,c1,d]:=by
  have hl3:bs'.length=3:=hrok'.len
  match bs',hl3,htk with
  |[x,y,z],_,htk=>simp at htk;exact ⟨z,by rw [htk.1,htk.2]⟩
 have hnd':=hrok'.nodup
 refine ⟨rv,[d,c1,c2],A',rfl,⟨rfl,by simp at hnd' ⊢;omega,fun b hb=>hrok'.lt b (by simp at hb ⊢;omega),hrok'.old,fun i b r hb hr=>?_,fun t=>?_,hs.size,hs.dfs⟩,hv,⟨hstep.os,hstep.tape,hstep.output,hstep.size,fun k hk hn=>hstep.block k hk (by simp at hn ⊢;omega),fun b hb=>?_,fun b hb=>?_⟩,rfl,fun b hb=>by simp at hb,hup⟩
 .match i,hb,hr with
  |0,hb,hr=>cases hb;cases hr;exact hrok'.row 2 d _ rfl rfl
  |1,hb,hr=>
   cases hb;cases hr
   obtain ⟨hA,cv,hc,b,e,t,zs,cur,k1,k2,k3,k4⟩:=hrok'.row 1 c1 _ rfl rfl
   exact ⟨hA,cv,hc,b,e,t,zs,cur,k1,k2,k3,k4⟩
  |2,hb,hr=>cases hb;cases hr;exact hrok'.row 0 c2 _ rfl rfl
  |i+3,hb,_=>cases hb
 .show V _ _ _ _ (look [(u,.ptr 1 0)] t) _
  rw [look_cons]
  by_cases e:u=t
  .subst e
   rw [if_pos rfl]
   have h1:=hs.env u
   rw [hu] at h1
   obtain ⟨b,r,q1,q2,q3,q4⟩:=h1
   cases q1
   exact ⟨c1,_,rfl,rfl,Nat.one_pos,q4⟩
  .rw [if_neg e];trivial
 .have:=hstep.sbs b (by simp at hb ⊢;omega)
  rcases this with h1|h1
  .left;simp at h1 ⊢;omega
  .exact .inr h1
 .rcases hstep.sA b hb with h1|h1|h1
  .exact .inl h1
  .exact .inr (.inl h1)
  .right;right;simp at h1 ⊢;omega
end Go.Proofs.YtacjiemkbhhhoaaGreatDoor.Ow
namespace Go.Proofs.YtacjiemkbhhhoaaGreatDoor
open Go Go.Proofs.YtacjiemkbhhhoaaGreatDoor.Ow
abbrev WL:=List Int × List (List Int)
def itJ (st:Nat->WL->WL) (s:WL):Nat->WL
 |0=>s
 |j+1=>st j (itJ st s j)
def stpG (g:List Int->Nat->Nat->List (List Int)->WL) (a p l:Nat) (j:Nat) (s:WL):WL:=
 g (s.1.set a ((l+j:Nat):Int)) (a+1) (if a=0 then 1 else if j=0 then p else a+1) s.2
def lstN (w:List Int) (a p:Nat):Nat:=if a=0 then 0 else (w.getD (a-p) 0).toNat
def growL (k:Nat):Nat->List Int->Nat->Nat->List (List Int)->WL
 |0,w,a,p,out=>(w,if w.length % p=0 then out++[w] else out)
 |f+1,w,a,p,out=>itJ (stpG (growL k f) a p (lstN w a p)) (w,out) (k-lstN w a p)
structure GI (k f:Nat) (w:List Int) (a p:Nat):Prop where
 len:a+f=w.length
 el:∀i,i<w.length->0<=w.getD i 0/\w.getD i 0<k
 p1:1<=p
 pa:a=0\/p<=a
theorem lstN_lt {k f a p:Nat} {w:List Int} (hk:1<=k) (h:GI k (f+1) w a p):lstN w a p<k:=by
 have h1:=h.len
 unfold lstN
 split
 .omega
 .have:=h.el (a-p) (by omega);omega
theorem nx_ok {a p j:Nat} (h1:1<=p) (h2:a=0\/p<=a):1<=(if a=0 then 1 else if j=0 then p else a+1)/\(if a=0 then 1 else if j=0 then p else a+1)<=a+1:=by
 split
 .omega
 .split<;>omega
theorem GI.step {k f a p:Nat} {w w2:List Int} {x:Nat} (h:GI k (f+1) w a p) (hl:w2.length=w.length) (he:∀i,i<w2.length->0<=w2.getD i 0/\w2.getD i 0<k) (hx:x<k) (j:Nat):
 GI k f (w2.set a (x:Int)) (a+1) (if a=0 then 1 else if j=0 then p else a+1):=by
 have h1:=h.len
 have h2:=nx_ok (j:=j) h.p1 h.pa
 refine ⟨by rw [List.length_set];omega,fun i hi=>?_,h2.1,.inr h2.2⟩
 rw [List.length_set] at hi
 by_cases e:a=i
 .subst e;rw [L_set_self _ _ _ _ hi];omega
 .rw [L_set_ne _ _ _ _ _ e];exact he i hi
theorem growL_ok {k:Nat} (hk:1<=k):∀(f:Nat) (w:List Int) (a p:Nat) (out:List (List Int)),GI k f w a p->
 ((growL k f w a p out).1.length=w.length/\∀i,i<w.length->0<=(growL k f w a p out).1.getD i 0/\(growL k f w a p out).1.getD i 0<k)/\(growL k f w a p out).2.length<=out.length+k ^ f
 |0,w,a,p,out,h=>by
  rw [growL]
  refine ⟨⟨rfl,h.el⟩,?_⟩
  dsimp only
  split<;>simp
 |f+1,w,a,p,out,h=>by
  have ih:=growL_ok hk f
  have hl:=lstN_lt hk h
  have key:∀j,j<=k-lstN w a p->((itJ (stpG (growL k f) a p (lstN w a p)) (w,out) j).1.length=w.length/\∀i,i<w.length->0<=(itJ (stpG (growL k f) a p (lstN w a p)) (w,out) j).1.getD i 0/\(itJ (stpG (growL k f) a p (lstN w a p)) (w,out) j).1.getD i 0<k)/\
   (itJ (stpG (growL k f) a p (lstN w a p)) (w,out) j).2.length<=out.length+j*k ^ f:=fun j=>by
   induction j with
   |zero=>intro _;exact ⟨⟨rfl,h.el⟩,by simp [itJ]⟩
   |succ j ihj=>
    intro hj
    obtain ⟨⟨a1,a2⟩,a3⟩:=ihj (by omega)
    rw [itJ]
    generalize itJ (stpG (growL k f) a p (lstN w a p)) (w,out) j=s at*
    have hG:=h.step a1 (fun i hi=>a2 i (by omega)) (show lstN w a p+j<k by omega) j
    obtain ⟨⟨b1,b2⟩,b3⟩:=ih _ _ _ s.2 hG
    rw [List.length_set] at b1 b2
    refine ⟨⟨by rw [stpG,b1,a1],fun i hi=>b2 i (by omega)⟩,?_⟩
    rw [stpG,Nat.succ_mul]
    omega
  obtain ⟨h1,h2⟩:=key (k-lstN w a p) (Nat.le_refl _)
  rw [growL]
  refine ⟨h1,Nat.le_trans h2 (Nat.add_le_add_left ?_ _)⟩
  rw [Nat.pow_succ,Nat.mul_comm]
  exact Nat.mul_le_mul_left _ (by omega)
theorem impl_necklaces_1 (e0 eb:TypeId) (w:List Int) (out:List (List Int)) (hw:w≠[]) (hl:w.length<=10) (ho:out.length<=1048576):
 BC Tryz.prog 2 276 [.ow 0,.ptr 1 0] [.sl e0 .int w,.box eb (.ow 2),.sl 29 (.sl .int) out] (.d true .bool true) [.sl e0 .int w,.box eb (.ow 2),.sl 29 (.sl .int) (out++[w])]:=by
 refine BC_of tauOk 9 2 3 Tryz.func276 rfl (by kernel_rfl) rfl rfl rfl rfl ?_
 refine ⟨some 3000,.take 1 (.two 0 (.one 2 (.one 3 (.one 4 (.one 5 .done)))) 2 (.two 0 (.one 3 (.one 4 (.one 5 .done))) 3 (.one 0 (.one 4 (.one 5 .done))))),by kernel_rfl,?_⟩
 have hn:out.length+[w].length<=1099511627776:=by simp only [List.length_cons,List.length_nil];omega
 exact ⟨⟨rfl,[],true,_,_,slices_Clone_int false w (by omega) hw,nd0,rfl,rfl,trivial,rfl,by decide,false,rfl,Nat.le_refl _,rfl,hn,rfl,rfl⟩,
  ⟨[],true,_,_,slices_Clone_int false w (by omega) hw,nd0,rfl,rfl,trivial,⟨rfl,rfl,by decide,false,rfl,Nat.le_refl _,rfl,hn,rfl,rfl⟩,⟨rfl,by decide,false,rfl,rfl,Nat.le_refl _,rfl,hn,rfl,rfl⟩⟩⟩
theorem impl_grow_all (e0 eb:TypeId) (k:Nat) (hk:1<=k) (hk4:k<=4):∀(f:Nat) (w:List Int) (a p:Nat) (out:List (List Int)),GI k f w a p->w≠[]->w.length<=10->out.length+k ^ f<=1048576->
 BC Tryz.prog 2 275 [.ow 0,I (a:Nat),I (p:Nat),I (k:Nat),.nil,.d true .bool true,.fn 276 [.ptr 1 0]] [.sl e0 .int w,.box eb (.ow 2),.sl 29 (.sl .int) out] (.d true .bool true)
  [.sl e0 .int (growL k f w a p out).1,.box eb (.ow 2),.sl 29 (.sl .int) (growL k f w a p out).2]
 |0,w,a,p,out,hG,hw,hl,ho=>by
  have h1:=hG.len
  have h2:=hG.p1
  refine BC_of tauOk 91 2 14 Tryz.func275 rfl (by kernel_rfl) rfl rfl rfl rfl ?_
  refine ⟨fun _=>?_,fun h=>by omega⟩
  refine ⟨by omega,((w.length % p:Nat):Int),Int.ofNat_tmod w.length p,?_⟩
  refine ⟨fun h3=>?_,fun h3=>?_⟩
  .have e:growL k 0 w a p out=(w,out):=by rw [growL,if_neg (by omega)]
   rw [e]
   exact ⟨rfl,rfl⟩
  .have e:growL k 0 w a p out=(w,out++[w]):=by rw [growL,if_pos (by omega)]
   rw [e]
   refine ⟨[1000000],false,[],[],_,_,XC_of3 rfl (impl_necklaces_1 e0 eb w out hw hl (by omega)),?_⟩
   exact ⟨rfl,rfl⟩
 |f+1,w,a,p,out,hG,hw,hl,ho=>by
  have ih:=impl_grow_all e0 eb k hk hk4 f
  have h1:=hG.len
  have h2:=hG.p1
  have h3:=hG.pa
  have hL:=lstN_lt hk hG
  have hp0:1<=k ^ f:=Nat.pos_of_ne_zero (by intro e;rw [Nat.pow_eq_zero] at e;omega)
  have hB:∀j,j<=k-lstN w a p->((itJ (stpG (growL k f) a p (lstN w a p)) (w,out) j).1.length=w.length/\∀i,i<w.length->0<=(itJ (stpG (growL k f) a p (lstN w a p)) (w,out) j).1.getD i 0/\(itJ (stpG (growL k f) a p (lstN w a p)) (w,out) j).1.getD i 0<k)/\
   (itJ (stpG (growL k f) a p (lstN w a p)) (w,out) j).2.length<=out.length+j*k ^ f:=fun j=>by
   induction j with
   |zero=>intro _;exact ⟨⟨rfl,hG.el⟩,by simp [itJ]⟩
   |succ j ihj=>
    intro hj
    obtain ⟨⟨a1,a2⟩,a3⟩:=ihj (by omega)
    rw [itJ]
    generalize itJ (stpG (growL k f) a p (lstN w a p)) (w,out) j=s at*
    have hG:=hG.step a1 (fun i hi=>a2 i (by omega)) (show lstN w a p+j<k by omega) j
    obtain ⟨⟨b1,b2⟩,b3⟩:=growL_ok hk f _ _ _ s.2 hG
    rw [List.length_set] at b1 b2
    refine ⟨⟨by rw [stpG,b1,a1],fun i hi=>b2 i (by omega)⟩,?_⟩
    rw [stpG,Nat.succ_mul]
    omega
  have hend:growL k (f+1) w a p out=itJ (stpG (growL k f) a p (lstN w a p)) (w,out) (k-lstN w a p):=rfl
  have hstep:∀j,itJ (stpG (growL k f) a p (lstN w a p)) (w,out) (j+1)=stpG (growL k f) a p (lstN w a p) j (itJ (stpG (growL k f) a p (lstN w a p)) (w,out) j):=fun j=>rfl
  have h0:itJ (stpG (growL k f) a p (lstN w a p)) (w,out) 0=(w,out):=rfl
  have hLv1:a≠0->w.getD (a-p) 0=((lstN w a p:Nat):Int):=fun h=>by
   have:=hG.el (a-p) (by omega)
   rw [lstN,if_neg h];omega
  have hLv0:a=0->(0:Int)=((lstN w a p:Nat):Int):=fun h=>by rw [lstN,if_pos h];rfl
  have hpow:(k-lstN w a p)*k ^ f<=k ^ (f+1):=by
   rw [Nat.pow_succ,Nat.mul_comm];exact Nat.mul_le_mul_left _ (by omega)
  generalize lstN w a p=L at*
  rw [hend]
  generalize itJ (stpG (growL k f) a p L) (w,out)=S at*
  refine BC_of tauOk 91 2 14 Tryz.func275 rfl (by kernel_rfl) rfl rfl rfl rfl ?_
  refine ⟨fun h=>by omega,fun _=>?_⟩
  refine ⟨fun h4=>?_,fun h4=>?_⟩
  .refine ⟨((a-p:Nat):Int),w64_eq (by omega) (by omega) (by omega),a-p,rfl,by omega,?_⟩
   have hLv:=hLv1 (by omega)
   refine ⟨Nat,fun j=>⟨[(0,.ow 0),(1,I (a:Nat)),(2,I (p:Nat)),(3,I (k:Nat)),(4,.nil),(5,.d true .bool true),(6,.fn 276 [.ptr 1 0]),(16,I (L:Nat)),(17,I ((L+j:Nat):Int))],[.sl e0 .int (S j).1,.box eb (.ow 2),.sl 29 (.sl .int) (S j).2]⟩,fun j=>j<=k-L,fun j=>k-L-j,0,Nat.zero_le _,
    ⟨⟨rfl,rfl⟩,⟨rfl,rfl,rfl,rfl,rfl,rfl,rfl,retI hLv,retI hLv,trivial⟩,rowE (by rw [h0]),rfl,rowE (by rw [h0]),trivial⟩,fun j hj=>?_⟩
   dsimp only at hj
   obtain ⟨⟨s1,s2⟩,s3⟩:=hB j hj
   refine ⟨fun h5=>?_,fun h5=>?_⟩
   .have hj2:j<k-L:=by omega
    have hG2:=hG.step s1 (fun i hi=>s2 i (by omega)) (show L+j<k by omega) j
    have hm:(j+1)*k ^ f<=(k-L)*k ^ f:=Nat.mul_le_mul_right _ (by omega)
    rw [Nat.succ_mul] at hm
    have hne:(S j).1.set a ((L+j:Nat):Int)≠[]:=by
     intro e;have:=congrArg List.length e;rw [List.length_set,s1] at this;exact hw (List.length_eq_zero_iff.1 this)
    have hl2:((S j).1.set a ((L+j:Nat):Int)).length<=10:=by rw [List.length_set];omega
    have hst:=hstep j
    have hlen:=(growL_ok hk f _ _ _ (S j).2 hG2).1.1
    have hc:=ih _ _ _ (S j).2 hG2 hne hl2 (by omega)
    rw [stpG] at hst
    refine ⟨a,rfl,by omega,?_⟩
    refine ⟨fun h6=>?_,fun h6=>?_⟩
    .rw [if_pos (by omega)] at hc hst hlen
     refine ⟨((a+1:Nat):Int),w64_eq (by omega) (by omega) (by omega),?_⟩
     refine ⟨[1000000],false,[],[],_,_,XC_of3 hlen hc,?_⟩
     exact ⟨((L+(j+1):Nat):Int),w64_eq (by omega) (by omega) (by omega),j+1,by dsimp only;omega,by dsimp only;omega,⟨rfl,rfl⟩,⟨rfl,rfl,rfl,rfl,rfl,rfl,rfl,rfl,rfl,trivial⟩,rowE (by rw [hst]),rfl,rowE (by rw [hst]),trivial⟩
    .rw [if_neg (by omega)] at hc hst hlen
     refine ⟨fun h7=>?_,fun h7=>?_⟩
     .rw [if_neg (by omega)] at hc hst hlen
      refine ⟨((a+1:Nat):Int),w64_eq (by omega) (by omega) (by omega),?_⟩
      refine ⟨((a+1:Nat):Int),w64_eq (by omega) (by omega) (by omega),?_⟩
      refine ⟨[1000000],false,[],[],_,_,XC_of3 hlen hc,?_⟩
      exact ⟨((L+(j+1):Nat):Int),w64_eq (by omega) (by omega) (by omega),j+1,by dsimp only;omega,by dsimp only;omega,⟨rfl,rfl⟩,⟨rfl,rfl,rfl,rfl,rfl,rfl,rfl,rfl,rfl,trivial⟩,rowE (by rw [hst]),rfl,rowE (by rw [hst]),trivial⟩
     .rw [if_pos (by omega)] at hc hst hlen
      refine ⟨((a+1:Nat):Int),w64_eq (by omega) (by omega) (by omega),?_⟩
      refine ⟨[1000000],false,[],[],_,_,XC_of3 hlen hc,?_⟩
      exact ⟨((L+(j+1):Nat):Int),w64_eq (by omega) (by omega) (by omega),j+1,by dsimp only;omega,by dsimp only;omega,⟨rfl,rfl⟩,⟨rfl,rfl,rfl,rfl,rfl,rfl,rfl,rfl,rfl,trivial⟩,rowE (by rw [hst]),rfl,rowE (by rw [hst]),trivial⟩
   .obtain rfl:j=k-L:=by omega
    exact ⟨rfl,rfl⟩
  .have hLv:=hLv0 (by omega)
   refine ⟨Nat,fun j=>⟨[(0,.ow 0),(1,I (a:Nat)),(2,I (p:Nat)),(3,I (k:Nat)),(4,.nil),(5,.d true .bool true),(6,.fn 276 [.ptr 1 0]),(16,I (L:Nat)),(17,I ((L+j:Nat):Int))],[.sl e0 .int (S j).1,.box eb (.ow 2),.sl 29 (.sl .int) (S j).2]⟩,fun j=>j<=k-L,fun j=>k-L-j,0,Nat.zero_le _,
    ⟨⟨rfl,rfl⟩,⟨rfl,rfl,rfl,rfl,rfl,rfl,rfl,retI hLv,retI hLv,trivial⟩,rowE (by rw [h0]),rfl,rowE (by rw [h0]),trivial⟩,fun j hj=>?_⟩
   dsimp only at hj
   obtain ⟨⟨s1,s2⟩,s3⟩:=hB j hj
   refine ⟨fun h5=>?_,fun h5=>?_⟩
   .have hj2:j<k-L:=by omega
    have hG2:=hG.step s1 (fun i hi=>s2 i (by omega)) (show L+j<k by omega) j
    have hm:(j+1)*k ^ f<=(k-L)*k ^ f:=Nat.mul_le_mul_right _ (by omega)
    rw [Nat.succ_mul] at hm
    have hne:(S j).1.set a ((L+j:Nat):Int)≠[]:=by
     intro e;have:=congrArg List.length e;rw [List.length_set,s1] at this;exact hw (List.length_eq_zero_iff.1 this)
    have hl2:((S j).1.set a ((L+j:Nat):Int)).length<=10:=by rw [List.length_set];omega
    have hst:=hstep j
    have hlen:=(growL_ok hk f _ _ _ (S j).2 hG2).1.1
    have hc:=ih _ _ _ (S j).2 hG2 hne hl2 (by omega)
    rw [stpG] at hst
    refine ⟨a,rfl,by omega,?_⟩
    refine ⟨fun h6=>?_,fun h6=>?_⟩
    .rw [if_pos (by omega)] at hc hst hlen
     refine ⟨((a+1:Nat):Int),w64_eq (by omega) (by omega) (by omega),?_⟩
     refine ⟨[1000000],false,[],[],_,_,XC_of3 hlen hc,?_⟩
     exact ⟨((L+(j+1):Nat):Int),w64_eq (by omega) (by omega) (by omega),j+1,by dsimp only;omega,by dsimp only;omega,⟨rfl,rfl⟩,⟨rfl,rfl,rfl,rfl,rfl,rfl,rfl,rfl,rfl,trivial⟩,rowE (by rw [hst]),rfl,rowE (by rw [hst]),trivial⟩
    .rw [if_neg (by omega)] at hc hst hlen
     refine ⟨fun h7=>?_,fun h7=>?_⟩
     .rw [if_neg (by omega)] at hc hst hlen
      refine ⟨((a+1:Nat):Int),w64_eq (by omega) (by omega) (by omega),?_⟩
      refine ⟨((a+1:Nat):Int),w64_eq (by omega) (by omega) (by omega),?_⟩
      refine ⟨[1000000],false,[],[],_,_,XC_of3 hlen hc,?_⟩
      exact ⟨((L+(j+1):Nat):Int),w64_eq (by omega) (by omega) (by omega),j+1,by dsimp only;omega,by dsimp only;omega,⟨rfl,rfl⟩,⟨rfl,rfl,rfl,rfl,rfl,rfl,rfl,rfl,rfl,trivial⟩,rowE (by rw [hst]),rfl,rowE (by rw [hst]),trivial⟩
     .rw [if_pos (by omega)] at hc hst hlen
      refine ⟨((a+1:Nat):Int),w64_eq (by omega) (by omega) (by omega),?_⟩
      refine ⟨[1000000],false,[],[],_,_,XC_of3 hlen hc,?_⟩
      exact ⟨((L+(j+1):Nat):Int),w64_eq (by omega) (by omega) (by omega),j+1,by dsimp only;omega,by dsimp only;omega,⟨rfl,rfl⟩,⟨rfl,rfl,rfl,rfl,rfl,rfl,rfl,rfl,rfl,trivial⟩,rowE (by rw [hst]),rfl,rowE (by rw [hst]),trivial⟩
   .obtain rfl:j=k-L:=by omega
    exact ⟨rfl,rfl⟩
def neckL (n k:Nat):List (List Int):=(growL k n (List.replicate n 0) 0 1 []).2
theorem GI0 (n k:Nat) (hk:1<=k):GI k n (List.replicate n 0) 0 1:=
 ⟨by simp,fun i hi=>by rw [List.length_replicate] at hi;rw [getD_get _ _ _ (by simpa using hi),List.getElem_replicate];omega,Nat.le_refl _,.inl rfl⟩
theorem neckL_len (n k:Nat) (hk:1<=k):(neckL n k).length<=k ^ n:=by
 have:=(growL_ok hk n _ _ _ [] (GI0 n k hk)).2
 simpa [neckL] using this
theorem impl_necklaces (n k:Nat) (hk:1<=k) (hk4:k<=4) (h1:1<=n) (hn:n<=10):AC Tryz.prog 184 [I (n:Nat),I (k:Nat)] [] [.ow 0] [.sl 29 (.sl .int) (neckL n k)]:=by
 have hp:k ^ n<=1048576:=pow_le hk4 hn (Nat.le_refl 10)
 have hg:=impl_grow_all 3 32 k hk hk4 n (List.replicate n 0) 0 1 [] (GI0 n k hk) (by intro e;have:=congrArg List.length e;simp at this;omega) (by simp;omega) (by simp;omega)
 refine AC_of tauOk 13 0 [4] Tryz.func184 rfl (by kernel_rfl) rfl rfl rfl rfl rfl ?_
 refine ⟨rfl,by decide,true,?_⟩
 refine ⟨n,n,rfl,rfl,Nat.le_refl _,by omega,?_⟩
 refine ⟨rfl,[1000000],false,[],[],_,_,XC_of3r (u:=5) rfl hg,?_⟩
 refine ⟨rfl,?_⟩
 exact ⟨some 0,⟨⟨rfl,rfl⟩,trivial⟩,⟨rfl,rfl⟩,rfl⟩
def lenN (n:Int):Bool:=decide (1<=n) && decide (n<=10)
def nckB (n k i:Int):Bool:=lenN n && (smallB n.toNat k && (decide (0<=i) && decide (i<((neckL n.toNat k.toNat).length:Int))))
theorem impl_NecklaceAt (n k i:Int) (r:List AV) (hno:nckB n k i=false->r=[.nil,.d true .bool false])
 (hyes:nckB n k i=true->r=[.d true (.sl .int) ((neckL n.toNat k.toNat).getD i.toNat []),.d true .bool true]):AC Tryz.prog 87 [I n,I k,I i] [] r []:=by
 refine AC_of tauOk 33 0 [6,7] Tryz.func87 rfl (by kernel_rfl) rfl rfl rfl rfl rfl ?_
 refine ⟨[],false,_,_,impl_isLength n,nd0,rfl,rfl,trivial,fun h1=>?_,fun h1=>?_⟩
 .have h1':=h1
  simp only [Bool.and_eq_true,decide_eq_true_eq] at h1'
  obtain ⟨N,rfl⟩:∃N:Nat,n=(N:Int):=⟨n.toNat,by omega⟩
  refine ⟨[],false,_,_,impl_isSmall N k (by omega),nd0,rfl,rfl,trivial,fun h2=>?_,fun h2=>?_⟩
  .have h2':=h2
   unfold smallB at h2'
   simp only [Bool.and_eq_true,decide_eq_true_eq] at h2'
   obtain ⟨K,rfl⟩:∃K:Nat,k=(K:Int):=⟨k.toNat,by omega⟩
   have hlen:=neckL_len N K (by omega)
   rw [Int.toNat_natCast] at h2'
   refine ⟨[],true,_,_,impl_necklaces N K (by omega) (by omega) (by omega) (by omega),nd0,rfl,rfl,trivial,?_⟩
   have hB:nckB (N:Int) (K:Int) i=(decide (0<=i) && decide (i<((neckL N K).length:Int))):=by
    rw [nckB,lenN,h1,Int.toNat_natCast,Int.toNat_natCast,h2];rfl
   refine ⟨fun h3=>?_,fun h3=>?_⟩
   .obtain rfl:=hno (by rw [hB,decide_eq_false (by omega)];rfl)
    exact ⟨none,⟨rfl,rfl,trivial⟩,rfl,rfl⟩
   .refine ⟨fun h4=>?_,fun h4=>?_⟩
    .obtain rfl:=hno (by rw [hB,decide_eq_false (show ¬i<((neckL N K).length:Int) by omega),Bool.and_false])
     exact ⟨none,⟨rfl,rfl,trivial⟩,rfl,rfl⟩
    .obtain rfl:=hyes (by rw [hB,decide_eq_true (show 0<=i by omega),decide_eq_true (show i<((neckL N K).length:Int) by omega)];rfl)
     have hi1:0<=i:=by omega
     have hi2:i<((neckL N K).length:Int):=by omega
     refine ⟨i.toNat,(Int.toNat_of_nonneg hi1).symm,(by omega:i.toNat<(neckL N K).length),?_⟩
     exact ⟨none,⟨by rw [Int.toNat_natCast,Int.toNat_natCast];rfl,rfl,trivial⟩,rfl,rfl⟩
  .obtain rfl:=hno (by rw [nckB,Int.toNat_natCast,h2];simp)
   exact ⟨none,⟨rfl,rfl,trivial⟩,rfl,rfl⟩
 .obtain rfl:=hno (by rw [nckB,lenN,h1];rfl)
  exact ⟨none,⟨rfl,rfl,trivial⟩,rfl,rfl⟩
def lynB (w:List Int):Bool:=decide (least w=w/\perW w=w.length)
def subW (w:List Int) (a j:Nat):List Int:=List.drop a (List.take (a+j) w)
def lyfE (w:List Int) (a:Nat):Nat->Nat
 |0=>0
 |j+1=>if lynB (subW w a (j+1))=true then j+1 else lyfE w a j
def lyfF (w:List Int):Nat->Nat->List (List Int)->List (List Int)
 |0,_,out=>out
 |f+1,a,out=>if a<w.length then lyfF w f (a+lyfE w a (w.length-a)) (out++[subW w a (lyfE w a (w.length-a))]) else out
def lyfL (w:List Int):List (List Int):=lyfF w w.length 0 []
theorem lyn_one:∀x:Nat,x<4->lynB [(x:Int)]=true:=by decide+kernel
theorem subW_len (w:List Int) (a j:Nat) (h:a+j<=w.length):(subW w a j).length=j:=by
 simp [subW];omega
theorem subW_get (w:List Int) (a j i:Nat) (h:a+j<=w.length) (hi:i<j):(subW w a j).getD i 0=w.getD (a+i) 0:=by
 rw [getD_get _ _ _ (by rw [subW_len w a j h];exact hi),getD_get _ _ _ (by omega)]
 simp [subW]
theorem subW_col {w:List Int} (hw:ColP w) (a j:Nat) (h:a+j<=w.length) (h1:1<=j):ColP (subW w a j):=by
 have hl:=subW_len w a j h
 have h2:=hw.2
 have h3:=hw.1
 refine ⟨fun i hi=>?_,by omega⟩
 rw [subW_get w a j i h (by omega)]
 exact h3 (a+i) (by omega)
theorem lyfE_ok {w:List Int} (hw:ColP w) (a:Nat):∀j,a+j<=w.length->1<=j->1<=lyfE w a j/\lyfE w a j<=j
 |0,_,h=>by omega
 |j+1,hj,_=>by
  rw [lyfE]
  split
  .omega
  .rename_i hn
   by_cases h0:j=0
   .subst h0
    have h3:=hw.1 a (by omega)
    have e:subW w a (0+1)=[((w.getD a 0).toNat:Int)]:=by
     have hl:=subW_len w a (0+1) hj
     have hg:=subW_get w a (0+1) 0 hj (by omega)
     match hs:subW w a (0+1),hl with
     |[x],_=>rw [hs] at hg;simp at hg;rw [hg];congr 1;simp at h3 ⊢;omega
    rw [e] at hn
    exact (hn (lyn_one _ (by omega))).elim
   .have:=lyfE_ok hw a j (by omega) (by omega);omega
theorem impl_LyndonFactors (sh:Bool) (w:List Int) (hw:ColP w):AC Tryz.prog 78 [.d sh (.sl .int) w] [] [.ow 0,.d true .bool true] [.sl 29 (.sl .int) (lyfL w)]:=by
 have hl:=hw.2
 have hC:=impl_ColoringOk sh w (by omega)
 rw [(colB_iff w).2 hw] at hC
 refine AC_of tauOk 35 0 [2,3] Tryz.func78 rfl (by kernel_rfl) rfl rfl rfl rfl rfl ?_
 refine ⟨[],false,_,_,hC,nd0,rfl,rfl,trivial,fun _=>?_,nofun⟩
 refine ⟨rfl,by decide,true,?_⟩
 refine ⟨Nat × Nat × List (List Int),fun i=>⟨[(0,.d sh (.sl .int) w),(4,.ow 0),(5,I (i.2.1:Nat))],[.sl 29 (.sl .int) i.2.2]⟩,fun i=>lyfF w i.1 i.2.1 i.2.2=lyfL w/\w.length<=i.2.1+i.1/\i.2.1<=w.length/\i.2.2.length<=i.2.1,fun i=>i.1,(w.length,0,[]),⟨rfl,by dsimp only;omega,Nat.zero_le _,Nat.le_refl _⟩,
  ⟨⟨rfl,rfl⟩,⟨rfl,rfl,rfl,trivial⟩,rfl,trivial⟩,?_⟩
 rintro ⟨f,a,out⟩ ⟨hF,hfl,ha,ho⟩
 dsimp only at hF hfl ha ho
 refine ⟨fun h1=>?_,fun h1=>?_⟩
 .dsimp only at h1
  have ha2:a<w.length:=by omega
  obtain ⟨f',rfl⟩:∃f',f=f'+1:=⟨f-1,by omega⟩
  rw [lyfF,if_pos ha2] at hF
  obtain ⟨he1,he2⟩:=lyfE_ok hw a (w.length-a) (by omega) (by omega)
  refine ⟨Nat,fun j=>⟨[(0,.d sh (.sl .int) w),(4,.ow 0),(5,I (a:Nat)),(6,I ((a+j:Nat):Int))],[.sl 29 (.sl .int) out]⟩,fun j=>lyfE w a j=lyfE w a (w.length-a)/\1<=j/\a+j<=w.length,fun j=>j,w.length-a,⟨rfl,by omega,by omega⟩,
   ⟨⟨rfl,rfl⟩,⟨rfl,rfl,rfl,retI (by omega),trivial⟩,rfl,trivial⟩,?_⟩
  rintro j ⟨hj,hj1,hj2⟩
  obtain ⟨j',rfl⟩:∃j',j=j'+1:=⟨j-1,by omega⟩
  have hsl:=subW_len w a (j'+1) hj2
  rw [lyfE] at hj
  refine ⟨a,rfl,a+(j'+1),rfl,by omega,hj2,?_⟩
  refine ⟨[],false,_,_,impl_IsLyndon sh (subW w a (j'+1)) (subW_col hw a (j'+1) hj2 (by omega)),nd0,rfl,rfl,trivial,fun h2=>?_,fun h2=>?_⟩
  .rw [if_pos (show lynB (subW w a (j'+1))=true from h2)] at hj
   rw [<-hj] at hF
   have hne:subW w a (j'+1)≠[]:=by intro e;rw [e] at hsl;simp at hsl
   refine ⟨a,rfl,a+(j'+1),rfl,by omega,hj2,?_⟩
   refine ⟨[],false,_,_,slices_Clone_int sh (subW w a (j'+1)) (by omega) hne,nd0,rfl,rfl,trivial,?_⟩
   refine ⟨rfl,rfl,by decide,false,?_⟩
   refine ⟨rfl,Nat.zero_le _,rfl,by simp only [List.length_cons,List.length_nil];omega,rfl,?_⟩
   exact ⟨(f',a+(j'+1),out++[subW w a (j'+1)]),⟨hF,by dsimp only;omega,by dsimp only;omega,by simp;omega⟩,by dsimp only;omega,⟨rfl,rfl⟩,⟨rfl,rfl,rfl,trivial⟩,rfl,trivial⟩
  .rw [if_neg (show ¬lynB (subW w a (j'+1))=true by unfold lynB;rw [h2];decide)] at hj
   have hj0:1<=j':=by
    by_cases h0:j'=0
    .subst h0;rw [lyfE] at hj;omega
    .omega
   exact ⟨((a+j':Nat):Int),w64_eq (by omega) (by omega) (by omega),j',⟨hj,hj0,by omega⟩,by dsimp only;omega,⟨rfl,rfl⟩,⟨rfl,rfl,rfl,rfl,trivial⟩,rfl,trivial⟩
 .dsimp only at h1
  have e:lyfF w f a out=out:=by
   cases f with
   |zero=>rfl
   |succ f=>rw [lyfF,if_neg (by omega)]
  exact ⟨some 0,⟨⟨rfl,rfl⟩,rfl,trivial⟩,⟨rfl,rowsE (by rw [<-hF,e])⟩,rfl⟩
def delS (p:List Int->Bool) (xss:List (List Int)) (i0:Nat):Nat->List (List Int) × Nat
 |0=>(xss,i0)
 |k+1=>if p ((delS p xss i0 k).1.getD (i0+1+k) [])=true then delS p xss i0 k else ((delS p xss i0 k).1.set (delS p xss i0 k).2 ((delS p xss i0 k).1.getD (i0+1+k) []),(delS p xss i0 k).2+1)
theorem delS_len (p:List Int->Bool) (xss:List (List Int)) (i0:Nat):∀k,(delS p xss i0 k).1.length=xss.length/\(delS p xss i0 k).2<=i0+k
 |0=>⟨rfl,Nat.le_refl _⟩
 |k+1=>by
  have:=delS_len p xss i0 k
  rw [delS]
  split
  .exact ⟨this.1,by omega⟩
  .exact ⟨by rw [List.length_set];exact this.1,by dsimp only;omega⟩
theorem delS_rest (p:List Int->Bool) (xss:List (List Int)) (i0:Nat):∀k t,i0+1+k<=t->(delS p xss i0 k).1.getD t []=xss.getD t []
 |0,t,_=>rfl
 |k+1,t,h=>by
  have h1:=(delS_len p xss i0 k).2
  rw [delS]
  split
  .exact delS_rest p xss i0 k t (by omega)
  .dsimp only
   rw [L_set_ne _ _ _ _ _ (by omega)]
   exact delS_rest p xss i0 k t (by omega)
def delR (p:List Int->Bool) (xss:List (List Int)) (i0:Nat):List (List Int):=
 let s:=delS p xss i0 (xss.length-(i0+1))
 List.take s.2 s.1++List.replicate (s.1.length-s.2) []++List.drop s.1.length s.1
theorem delR_len (p:List Int->Bool) (xss:List (List Int)) (i0:Nat) (h:i0<xss.length):(delR p xss i0).length=xss.length:=by
 have:=delS_len p xss i0 (xss.length-(i0+1))
 unfold delR
 simp;omega
theorem idxL_cases (p:List Int->Bool) (xss:List (List Int)):(idxL p xss= -1/\∀j,j<xss.length->p (xss.getD j [])=false)\/∃i:Nat,idxL p xss=(i:Int)/\i<xss.length/\p (xss.getD i [])=true/\∀j,j<i->p (xss.getD j [])=false:=by
 unfold idxL
 cases h:xss.findIdx? p with
 |none=>
  rw [List.findIdx?_eq_none_iff] at h
  exact .inl ⟨rfl,fun j hj=>by rw [getD_get _ _ _ hj];exact h _ (List.getElem_mem hj)⟩
 |some i=>
  rw [List.findIdx?_eq_some_iff_getElem] at h
  obtain ⟨hi,hp,h3⟩:=h
  exact .inr ⟨i,rfl,hi,by rw [getD_get _ _ _ hi];exact hp,fun j hj=>by have:=h3 j hj;rw [getD_get _ _ _ (by omega)];simpa using this⟩
theorem slices_DeleteFunc1_none (F:Nat) (e e1:TypeId) (z1:Int) (p:List Int->Bool) (xss:List (List Int)) (hl:xss.length<=1048576)
 (hF:∀(s:Bool) i,i<xss.length->AC Tryz.prog F [.d s (.sl .int) (xss.getD i []),.ptr 0 0] [.box e1 (I z1)] [.d true .bool (p (xss.getD i []))] [.box e1 (I z1)])
 (hno:idxL p xss= -1):
 AC Tryz.prog 277 [.ow 0,.fn F [.ptr 1 0]] [.sl e (.sl .int) xss,.box e1 (I z1)] [.ow 0] [.sl e (.sl .int) xss,.box e1 (I z1)]:=by
 refine AC_of tauOk 42 2 [4] Tryz.func277 rfl (by kernel_rfl) rfl rfl rfl rfl rfl ?_
 refine ⟨[1],false,_,_,slices_IndexFunc_ints F e1 .int z1 p false xss hl (hF false),by decide,rfl,rfl,⟨⟨rfl,trivial⟩,trivial⟩,?_⟩
 refine ⟨fun _=>?_,fun h=>(h hno).elim⟩
 exact ⟨none,⟨rfl,trivial⟩,rfl,rfl⟩
theorem slices_DeleteFunc1_some (F:Nat) (e1:TypeId) (z1:Int) (p:List Int->Bool) (xss:List (List Int)) (hl:xss.length<=1048576)
 (hF:∀(s:Bool) i,i<xss.length->AC Tryz.prog F [.d s (.sl .int) (xss.getD i []),.ptr 0 0] [.box e1 (I z1)] [.d true .bool (p (xss.getD i []))] [.box e1 (I z1)])
 (i0:Nat) (hi:idxL p xss=(i0:Int)) (h0:i0<xss.length):
 AC Tryz.prog 277 [.ow 0,.fn F [.ptr 1 0]] [.sl 29 (.sl .int) xss,.box e1 (I z1)] [.x (.sb 0 0 (delS p xss i0 (xss.length-(i0+1))).2)]
  [.sl 29 (.sl .int) (delR p xss i0),.box e1 (I z1)]:=by
 refine AC_of tauOk 42 2 [4] Tryz.func277 rfl (by kernel_rfl) rfl rfl rfl rfl rfl ?_
 refine ⟨[1],false,_,_,slices_IndexFunc_ints F e1 .int z1 p false xss hl (hF false),by decide,rfl,rfl,⟨⟨rfl,trivial⟩,trivial⟩,?_⟩
 rw [hi]
 refine ⟨fun h=>by omega,fun _=>?_⟩
 refine ⟨((i0+1:Nat):Int),w64_eq (by omega) (by omega) (by omega),?_⟩
 refine ⟨Nat,fun k=>⟨[(0,.ow 0),(1,.fn F [.ptr 1 0]),(5,I ((delS p xss i0 k).2:Nat)),(6,I ((i0+1+k:Nat)))],[.sl 29 (.sl .int) (delS p xss i0 k).1,.box e1 (I z1)]⟩,
  fun k=>i0+1+k<=xss.length,fun k=>xss.length-k,0,by omega,
  ⟨⟨rfl,rfl⟩,⟨rfl,rfl,rfl,rfl,trivial⟩,rfl,rfl,trivial⟩,fun k hk=>?_⟩
 dsimp only at hk
 obtain ⟨hL,hK⟩:=delS_len p xss i0 k
 refine ⟨fun h1=>?_,fun h1=>?_⟩
 .have hj:i0+1+k<xss.length:=by omega
  have hrest:=delS_rest p xss i0 k (i0+1+k) (Nat.le_refl _)
  refine ⟨i0+1+k,rfl,by rw [hL];exact hj,?_⟩
  have hc:=hF true (i0+1+k) hj
  rw [<-hrest] at hc
  refine ⟨[1],false,_,_,hc,by decide,rfl,rfl,⟨⟨rfl,trivial⟩,trivial⟩,fun h2=>?_,fun h2=>?_⟩
  .have e:delS p xss i0 (k+1)=delS p xss i0 k:=by rw [delS,if_pos h2]
   refine ⟨((i0+1+(k+1):Nat):Int),w64_eq (by omega) (by omega) (by omega),k+1,by dsimp only;omega,by dsimp only;omega,⟨rfl,rfl⟩,⟨rfl,rfl,retI (by rw [e]),rfl,trivial⟩,rowE (by rw [e]),rfl,trivial⟩
  .have e:delS p xss i0 (k+1)=((delS p xss i0 k).1.set (delS p xss i0 k).2 ((delS p xss i0 k).1.getD (i0+1+k) []),(delS p xss i0 k).2+1):=by rw [delS,if_neg (by rw [h2];simp)]
   refine ⟨(delS p xss i0 k).2,rfl,by rw [hL];omega,?_⟩
   refine ⟨(((delS p xss i0 k).2+1:Nat):Int),w64_eq (by omega) (by omega) (by omega),?_⟩
   refine ⟨((i0+1+(k+1):Nat):Int),w64_eq (by omega) (by omega) (by omega),k+1,by dsimp only;omega,by dsimp only;omega,⟨rfl,rfl⟩,⟨rfl,rfl,retI (by rw [e]),rfl,trivial⟩,rowE (by rw [e]),rfl,trivial⟩
 .obtain rfl:k=xss.length-(i0+1):=by omega
  refine ⟨_,rfl,by rw [hL];omega,Nat.le_refl _,rfl,rfl,?_⟩
  have hlen:(List.take (delS p xss i0 (xss.length-(i0+1))).2 (delS p xss i0 (xss.length-(i0+1))).1++List.replicate ((delS p xss i0 (xss.length-(i0+1))).1.length-(delS p xss i0 (xss.length-(i0+1))).2) ([]:List Int)++List.drop (delS p xss i0 (xss.length-(i0+1))).1.length (delS p xss i0 (xss.length-(i0+1))).1).length=xss.length:=by
   simp;omega
  refine ⟨_,rfl,Nat.zero_le _,by rw [show (Ty.sl Ty.int).dflt=([]:List Int) from rfl,hlen];omega,?_⟩
  exact ⟨none,⟨rfl,trivial⟩,rfl,rfl⟩
theorem filter_all {α:Type} (q:α->Bool) (l:List α) (h:∀x∈l,q x=true):l.filter q=l:=List.filter_eq_self.2 h
theorem delS_take (p:List Int->Bool) (xss:List (List Int)) (i0:Nat) (h0:i0<xss.length) (hh:p (xss.getD i0 [])=true) (hb:∀j,j<i0->p (xss.getD j [])=false):
 ∀k,i0+1+k<=xss.length->(delS p xss i0 k).1.take (delS p xss i0 k).2=(xss.take (i0+1+k)).filter fun x=> !p x
 |0,h=>by
  rw [delS]
  show xss.take i0=_
  rw [L_succ xss i0 [] h0,List.filter_append,List.filter_cons_of_neg (by rw [hh];decide),List.filter_nil,List.append_nil]
  refine (filter_all _ _ fun x hx=>?_).symm
  obtain ⟨j,hj,rfl⟩:=List.getElem_of_mem hx
  rw [List.length_take] at hj
  rw [List.getElem_take,<-getD_get xss j [] (by omega),hb j (by omega)];rfl
 |k+1,h=>by
  have ih:=delS_take p xss i0 h0 hh hb k (by omega)
  have hl:=delS_len p xss i0 k
  have hr:=delS_rest p xss i0 k (i0+1+k) (Nat.le_refl _)
  have e1:i0+1+(k+1)=(i0+1+k)+1:=rfl
  rw [e1,L_succ xss (i0+1+k) [] (by omega),List.filter_append,<-ih,delS,hr]
  split
  .rename_i hp
   rw [List.filter_cons_of_neg (by rw [hp];decide),List.filter_nil,List.append_nil]
  .rename_i hp
   rw [List.filter_cons_of_pos (by simpa using hp),List.filter_nil]
   generalize (delS p xss i0 k).1=l at*
   generalize (delS p xss i0 k).2=n at*
   show (l.set n (xss.getD (i0+1+k) [])).take (n+1)=_
   rw [L_succ (l.set n (xss.getD (i0+1+k) [])) n [] (by rw [List.length_set];omega),List.take_set_of_le (Nat.le_refl n),L_set_self _ _ _ _ (by omega)]
def lynL (n k:Nat):List (List Int):=(neckL n k).filter fun w=>decide (perW w=n)
theorem neck_el {n k:Nat} (hk:1<=k):∀x∈neckL n k,x.length=n/\∀i,i<x.length->0<=x.getD i 0/\x.getD i 0<k:=by
 have key:∀(f:Nat) (w:List Int) (a p:Nat) (out:List (List Int)),GI k f w a p->(∀x∈out,x.length=w.length/\∀i,i<x.length->0<=x.getD i 0/\x.getD i 0<k)->
  ∀x∈(growL k f w a p out).2,x.length=w.length/\∀i,i<x.length->0<=x.getD i 0/\x.getD i 0<k:=by
  intro f
  induction f with
  |zero=>
   intro w a p out h ho
   rw [growL]
   dsimp only
   split
   .intro x hx
    rcases List.mem_append.1 hx with hx|hx
    .exact ho x hx
    .rw [List.mem_singleton.1 hx];exact ⟨rfl,h.el⟩
   .exact ho
  |succ f ih=>
   intro w a p out h ho
   have hl:=lstN_lt hk h
   have key:∀j,j<=k-lstN w a p->((itJ (stpG (growL k f) a p (lstN w a p)) (w,out) j).1.length=w.length/\∀i,i<w.length->0<=(itJ (stpG (growL k f) a p (lstN w a p)) (w,out) j).1.getD i 0/\(itJ (stpG (growL k f) a p (lstN w a p)) (w,out) j).1.getD i 0<k)/\
    ∀x∈(itJ (stpG (growL k f) a p (lstN w a p)) (w,out) j).2,x.length=w.length/\∀i,i<x.length->0<=x.getD i 0/\x.getD i 0<k:=fun j=>by
    induction j with
    |zero=>intro _;exact ⟨⟨rfl,h.el⟩,ho⟩
    |succ j ihj=>
     intro hj
     obtain ⟨⟨a1,a2⟩,a3⟩:=ihj (by omega)
     rw [itJ]
     generalize itJ (stpG (growL k f) a p (lstN w a p)) (w,out) j=s at*
     have hG:=h.step a1 (fun i hi=>a2 i (by omega)) (show lstN w a p+j<k by omega) j
     obtain ⟨⟨b1,b2⟩,b3⟩:=growL_ok hk f _ _ _ s.2 hG
     rw [List.length_set] at b1 b2
     refine ⟨⟨by rw [stpG,b1,a1],fun i hi=>b2 i (by omega)⟩,?_⟩
     rw [stpG]
     have:=ih _ _ _ s.2 hG (fun x hx=>by rw [List.length_set,a1];exact a3 x hx)
     rw [List.length_set,a1] at this
     exact this
   rw [growL]
   exact (key _ (Nat.le_refl _)).2
 intro x hx
 have:=key n (List.replicate n 0) 0 1 [] (GI0 n k hk) (fun x hx=>by simp at hx) x hx
 rw [List.length_replicate] at this
 exact this
theorem neck_col {n k:Nat} (hk:1<=k) (hk4:k<=4) (h1:1<=n) (hn:n<=10) {x:List Int} (hx:x∈neckL n k):ColP x:=by
 obtain ⟨h2,h3⟩:=neck_el hk x hx
 exact ⟨fun i hi=>by have:=h3 i hi;omega,by omega⟩
theorem impl_LyndonWords_1 (sh:Bool) (n:Nat) (hn:n<=10) (w:List Int) (hw:ColP w):
 AC Tryz.prog 278 [.d sh (.sl .int) w,.ptr 0 0] [.box 3 (I (n:Nat))] [.d true .bool (!decide (perW w=n))] [.box 3 (I (n:Nat))]:=by
 refine AC_of tauOk 8 1 [3] Tryz.func278 rfl (by kernel_rfl) rfl rfl rfl rfl rfl ?_
 refine ⟨none,by kernel_rfl,_,_,impl_PeriodOf sh w hw,rfl,rfl,fun h=>?_,fun h=>?_⟩
 .exact ⟨none,⟨retB (by rw [decide_eq_false (fun e=>h (by rw [e]))];rfl),trivial⟩,rfl,rfl⟩
 .exact ⟨none,⟨retB (by rw [decide_eq_true (by omega)];rfl),trivial⟩,rfl,rfl⟩
theorem cut2z {P:Program} {f:FuncId} {args:List AV} {e:TypeId} {t:Ty} {xs:List t.T} {n:Nat} {t2:Ty} {x2:t2.T} (hf:t2.flat=true) (h:AC P f args [] [.x (.sb 0 0 n),.d true t2 x2] [.sl e t xs]):AC P f args [] [.ow 0,.d true t2 x2] [.sl e t (xs.take n)]:=by
 refine ⟨h.1,fun w bs A vs hr hv=>(h.2 w bs A vs hr hv).mono ?_⟩
 rintro ex w' ⟨rv,bs',A',rfl,hrok,hres,hstep,hnew,hstay,hup⟩
 obtain ⟨vs,hvs,v1,r1,rfl,hx,v2,r2,rfl,hy,hz⟩:=hres
 cases hz
 obtain ⟨b,e2,t2',xs2,cur,o,h1,h2,h3,h4,h5,h6,h7⟩:=hx
 cases h2
 obtain ⟨hA,cur2,c1,c2,c3,c4⟩:=hrok.row 0 b _ h1 rfl
 rw [h3] at c1;cases c1
 have hl:(List.take n xs).length=n:=by rw [List.length_take];exact Nat.min_eq_left h5
 have ho:o=0:=by rcases h7 with h7|h7<;>omega
 subst ho
 refine ⟨rv,bs',A',rfl,⟨hrok.len,hrok.nodup,hrok.lt,hrok.old,fun i b' r hb hr'=>?_⟩,⟨_,hvs,v1,_,rfl,⟨b,_,_,_,cur,h1,rfl,h3,by rw [hl];exact h6⟩,v2,_,rfl,Rd.flat hf hy,rfl⟩,hstep,hnew,hstay,hup⟩
 match i,hr' with
 |0,hr'=>
  simp at hr';subst hr'
  rw [h1] at hb;cases hb
  refine ⟨hA,cur,h3,by rw [hl];omega,c3,fun j hj=>?_,by rw [hl];exact c4.d.mono h5⟩
  rw [hl] at hj
  obtain ⟨cv,k1,k2⟩:=c4 j (by omega)
  refine ⟨cv,k1,?_⟩
  rw [List.getElem_take];exact k2
 |i+1,hr'=>simp at hr'
theorem delR_take (p:List Int->Bool) (xss:List (List Int)) (i0:Nat) (h0:i0<xss.length) (hh:p (xss.getD i0 [])=true) (hb:∀j,j<i0->p (xss.getD j [])=false):
 (delR p xss i0).take (delS p xss i0 (xss.length-(i0+1))).2=xss.filter fun x=> !p x:=by
 have h1:=delS_take p xss i0 h0 hh hb (xss.length-(i0+1)) (by omega)
 have hl:=delS_len p xss i0 (xss.length-(i0+1))
 rw [show i0+1+(xss.length-(i0+1))=xss.length by omega,List.take_length] at h1
 rw [<-h1,delR]
 rw [List.append_assoc,List.take_append_of_le_length (by rw [List.length_take];omega),List.take_take,Nat.min_self]
theorem impl_LyndonWords (n k:Nat) (hk:1<=k) (hk4:k<=4) (h1:1<=n) (hn:n<=10) (hs:k ^ n<=1024):AC Tryz.prog 185 [I (n:Nat),I (k:Nat)] [] [.ow 0,.d true .bool true] [.sl 29 (.sl .int) (lynL n k)]:=by
 have hlen:=neckL_len n k hk
 have hL:=impl_isLength (n:Int)
 rw [decide_eq_true (by omega),decide_eq_true (by omega)] at hL
 have hS:=impl_isSmall n (k:Int) hn
 rw [show smallB n (k:Int)=true by rw [smallB,decide_eq_true (by omega),decide_eq_true (by omega),Int.toNat_natCast,decide_eq_true hs];rfl] at hS
 have hcol:∀i,i<(neckL n k).length->ColP ((neckL n k).getD i []):=fun i hi=>neck_col hk hk4 h1 hn (by rw [getD_get _ _ _ hi];exact List.getElem_mem hi)
 have hF:∀(s:Bool) i,i<(neckL n k).length->AC Tryz.prog 278 [.d s (.sl .int) ((neckL n k).getD i []),.ptr 0 0] [.box 3 (I (n:Nat))] [.d true .bool (!decide (perW ((neckL n k).getD i [])=n))] [.box 3 (I (n:Nat))]:=fun s i hi=>impl_LyndonWords_1 s n hn _ (hcol i hi)
 have hq:lynL n k=(neckL n k).filter fun x=> !(fun w=> !decide (perW w=n)) x:=by
  unfold lynL;congr 1;funext x;simp
 rcases idxL_cases (fun w=> !decide (perW w=n)) (neckL n k) with ⟨e,hall⟩|⟨i0,e,hi0,hh,hb⟩
 .have hqq:lynL n k=neckL n k:=by
   rw [hq]
   refine filter_all _ _ fun x hx=>?_
   obtain ⟨j,hj,rfl⟩:=List.getElem_of_mem hx
   have:=hall j hj
   rw [getD_get _ _ _ hj] at this
   simpa using this
  rw [hqq]
  refine AC_of tauOk 20 0 [4,5] Tryz.func185 rfl (by kernel_rfl) rfl rfl rfl rfl rfl ?_
  refine ⟨rfl,[],false,_,_,hL,nd0,rfl,rfl,trivial,fun _=>?_,nofun⟩
  refine ⟨rfl,[],false,_,_,hS,nd0,rfl,rfl,trivial,fun _=>?_,nofun⟩
  refine ⟨rfl,[],false,_,_,impl_necklaces n k hk hk4 h1 hn,nd0,rfl,rfl,trivial,rfl,?_⟩
  refine ⟨[1,0],false,_,_,slices_DeleteFunc1_none 278 29 3 (n:Nat) (fun w=> !decide (perW w=n)) (neckL n k) (by omega) hF e,by decide,rfl,rfl,⟨⟨rfl,rfl,rfl⟩,⟨rfl,trivial⟩,trivial⟩,?_⟩
  exact ⟨some 1,⟨⟨rfl,rfl⟩,rfl,trivial⟩,⟨rfl,rfl⟩,rfl⟩
 .have hdl:(delR (fun w=> !decide (perW w=n)) (neckL n k) i0).length=(neckL n k).length:=delR_len _ _ _ hi0
  rw [hq,<-delR_take _ _ _ hi0 hh hb]
  refine cut2z (t2:=.bool) rfl ?_
  refine AC_of tauOk 20 0 [4,5] Tryz.func185 rfl (by kernel_rfl) rfl rfl rfl rfl rfl ?_
  refine ⟨rfl,[],false,_,_,hL,nd0,rfl,rfl,trivial,fun _=>?_,nofun⟩
  refine ⟨rfl,[],false,_,_,hS,nd0,rfl,rfl,trivial,fun _=>?_,nofun⟩
  refine ⟨rfl,[],false,_,_,impl_necklaces n k hk hk4 h1 hn,nd0,rfl,rfl,trivial,rfl,?_⟩
  refine ⟨[1,0],false,_,_,slices_DeleteFunc1_some 278 3 (n:Nat) (fun w=> !decide (perW w=n)) (neckL n k) (by omega) hF i0 e hi0,by decide,rfl,rfl,⟨⟨hdl,rfl,rfl⟩,⟨rfl,trivial⟩,trivial⟩,?_⟩
  exact ⟨some 1,⟨⟨rfl,rfl⟩,rfl,trivial⟩,⟨rfl,rfl⟩,rfl⟩
theorem slices_Grow_nil (n:Nat) (h1:1<=n) (hn:n<=1048576):AC Tryz.prog 279 [.nil,I (n:Nat)] [] [.ow 0] [.sl 3 .int []]:=by
 refine AC.cut0 (n:=0) (xs:=(List.replicate n (0:Int):List Ty.int.T)) ?_
 refine AC_of tauOk 27 0 [4] Tryz.func279 rfl (by kernel_rfl) rfl rfl rfl rfl rfl ?_
 refine ⟨fun h=>by omega,fun _=>?_⟩
 refine ⟨0,w64_in _ (by omega) (by omega),((n:Nat):Int),w64_eq (by omega) (by omega) (by omega),?_⟩
 refine ⟨fun _=>?_,fun h=>(h (by omega)).elim⟩
 refine ⟨0,rfl,Nat.le_refl _,Nat.le_refl _,?_⟩
 refine ⟨n,rfl,h1,by omega,?_⟩
 refine ⟨0,rfl,Nat.le_refl _,Nat.zero_le _,?_⟩
 exact ⟨some 0,⟨⟨rfl,rfl⟩,trivial⟩,⟨rfl,rfl⟩,rfl⟩
theorem slices_Concat_int (sh:Bool) (xss:List (List Int)) (hl:xss.length<=1048576) (ht:xss.flatten.length<=1048576) (h1:1<=xss.flatten.length):AC Tryz.prog 186 [.d sh (.sl (.sl .int)) xss] [] [.ow 0] [.sl 3 .int xss.flatten]:=by
 have hs:∀k,k<xss.length->(xss.take (k+1)).flatten=(xss.take k).flatten++xss.getD k []:=fun k hk=>by rw [L_succ xss k [] hk,List.flatten_append];simp
 have hle:∀k,(xss.take k).flatten.length<=xss.flatten.length:=fun k=>by
  have:xss.flatten=(xss.take k).flatten++(xss.drop k).flatten:=by rw [<-List.flatten_append,List.take_append_drop]
  rw [this,List.length_append];omega
 refine AC_of tauOk 36 0 [2] Tryz.func186 rfl (by kernel_rfl) rfl rfl rfl rfl rfl ?_
 refine ⟨Nat,fun k=>⟨[(0,.d sh (.sl (.sl .int)) xss),(3,I ((xss.take k).flatten.length:Nat)),(9,.d sh (.sl (.sl .int)) xss),(10,I xss.length),(11,I (k:Nat))],[]⟩,fun k=>k<=xss.length,fun k=>xss.length-k,0,Nat.zero_le _,
  ⟨⟨rfl,rfl⟩,⟨rfl,rfl,rfl,rfl,rfl,trivial⟩,trivial⟩,fun k hk=>?_⟩
 dsimp only at hk
 have hlk:=hle k
 refine ⟨fun h2=>?_,fun h2=>?_⟩
 .have hk2:k<xss.length:=by omega
  have hlk1:=hle (k+1)
  have hsl:(xss.take (k+1)).flatten.length=(xss.take k).flatten.length+(xss.getD k []).length:=by rw [hs k hk2,List.length_append]
  refine ⟨k,rfl,hk2,(((xss.take (k+1)).flatten.length:Nat):Int),w64_eq (by rw [hsl];omega) (by omega) (by omega),?_⟩
  refine ⟨fun h=>by omega,fun _=>?_⟩
  exact ⟨((k+1:Nat):Int),w64_eq (by omega) (by omega) (by omega),k+1,by dsimp only;omega,by dsimp only;omega,⟨rfl,rfl⟩,⟨rfl,rfl,rfl,rfl,rfl,trivial⟩,trivial⟩
 .obtain rfl:k=xss.length:=by omega
  dsimp only
  rw [List.take_length]
  refine ⟨[],false,_,_,slices_Grow_nil xss.flatten.length h1 ht,nd0,rfl,rfl,trivial,?_⟩
  refine ⟨Nat,fun k=>⟨[(6,.ow 0),(25,.d sh (.sl (.sl .int)) xss),(26,I xss.length),(27,I (k:Nat))],[.sl 3 .int (xss.take k).flatten]⟩,fun k=>k<=xss.length,fun k=>xss.length-k,0,Nat.zero_le _,
   ⟨⟨rfl,rfl⟩,⟨rfl,rfl,rfl,rfl,trivial⟩,rfl,trivial⟩,fun k hk=>?_⟩
  dsimp only at hk
  have hlk:=hle k
  refine ⟨fun h2=>?_,fun h2=>?_⟩
  .have hk2:k<xss.length:=by omega
   have hlk1:=hle (k+1)
   have hsl:(xss.take (k+1)).flatten.length=(xss.take k).flatten.length+(xss.getD k []).length:=by rw [hs k hk2,List.length_append]
   refine ⟨k,rfl,hk2,?_⟩
   refine ⟨rfl,Nat.zero_le _,rfl,(show (xss.take k).flatten.length+(xss.getD k []).length<=1099511627776 by omega),rfl,?_⟩
   exact ⟨((k+1:Nat):Int),w64_eq (by omega) (by omega) (by omega),k+1,by dsimp only;omega,by dsimp only;omega,⟨rfl,rfl⟩,⟨rfl,rfl,rfl,rfl,trivial⟩,rowE (hs k hk2).symm,trivial⟩
  .obtain rfl:k=xss.length:=by omega
   exact ⟨some 0,⟨⟨rfl,rfl⟩,trivial⟩,⟨rfl,rowsE (by rw [List.take_length])⟩,rfl⟩
def srtL (l:List (List Int)):List (List Int):=l.mergeSort fun x y=>decide (cmpI x y<=0)
theorem srtL_p (l:List (List Int)):(srtL l).Perm l:=List.mergeSort_perm l _
theorem srtL_s (l:List (List Int)):(srtL l).Pairwise fun x y=>¬cmpI y x<0:=by
 have h:=List.pairwise_mergeSort (le:=fun x y:List Int=>decide (cmpI x y<=0)) (fun a b c h1 h2=>by simp at*;exact leI_trans h1 h2) (fun a b=>by have:=cmpI_neg a b;simp;omega) l
 refine h.imp fun {a b} h=>?_
 have:=cmpI_neg a b
 simp at h;omega
def woaS (n k:Nat):Nat->List (List Int)
 |0=>[]
 |d+1=>if n % (d+1)=0 then woaS n k d++lynL (d+1) k else woaS n k d
def woaL (n k:Nat):List Int:=(srtL (woaS n k n)).flatten
def woaB (n k:Int):Bool:=lenN n && smallB n.toNat k
theorem lyn_len (n k:Nat) (hk:1<=k):(lynL n k).length<=k ^ n:=Nat.le_trans (List.length_filter_le _ _) (neckL_len n k hk)
theorem woaS_ok {n k:Nat} (hk:1<=k) (hs:k ^ n<=1024) (hn:n<=10):∀d,d<=n->(woaS n k d).length<=d*1024/\∀x∈woaS n k d,1<=x.length/\x.length<=10
 |0,_=>⟨by simp [woaS],fun x hx=>by simp [woaS] at hx⟩
 |d+1,hd=>by
  obtain ⟨h1,h2⟩:=woaS_ok hk hs hn d (by omega)
  rw [woaS]
  split
  .have h3:=lyn_len (d+1) k hk
   have h4:k ^ (d+1)<=k ^ n:=Nat.pow_le_pow_right hk hd
   refine ⟨by rw [List.length_append];omega,fun x hx=>?_⟩
   rcases List.mem_append.1 hx with hx|hx
   .exact h2 x hx
   .have:=(neck_el hk x (List.mem_filter.1 hx).1).1
    omega
  .exact ⟨Nat.le_trans h1 (Nat.mul_le_mul_right _ (Nat.le_succ d)),h2⟩
theorem flat_le:∀(l:List (List Int)),(∀x∈l,x.length<=10)->l.flatten.length<=l.length*10
 |[],_=>by simp
 |x::l,h=>by
  have h1:=h x (by simp)
  have h2:=flat_le l (fun y hy=>h y (by simp [hy]))
  simp at h2 ⊢;omega
theorem impl_WordOfAll_ok (n k:Nat) (hk:1<=k) (hk4:k<=4) (h1:1<=n) (hn:n<=10) (hs:k ^ n<=1024) (hne:woaS n k n≠[]):AC Tryz.prog 88 [I (n:Nat),I (k:Nat)] [] [.ow 0,.d true .bool true] [.sl 3 .int (woaL n k)]:=by
 have hL:=impl_isLength (n:Int)
 rw [decide_eq_true (by omega),decide_eq_true (by omega)] at hL
 have hS:=impl_isSmall n (k:Int) hn
 rw [show smallB n (k:Int)=true by rw [smallB,decide_eq_true (by omega),decide_eq_true (by omega),Int.toNat_natCast,decide_eq_true hs];rfl] at hS
 have hok:=woaS_ok hk hs hn
 have hp:=srtL_p (woaS n k n)
 have hC:AC Tryz.prog 186 [.d false (.sl (.sl .int)) (srtL (woaS n k n))] [] [.ow 0] [.sl 3 .int (woaL n k)]:=by
  obtain ⟨g1,g2⟩:=hok n (Nat.le_refl _)
  have hm:∀x∈srtL (woaS n k n),1<=x.length/\x.length<=10:=fun x hx=>g2 x (hp.subset hx)
  have hfl:=flat_le (srtL (woaS n k n)) fun x hx=>(hm x hx).2
  have hpl:=hp.length_eq
  refine slices_Concat_int false (srtL (woaS n k n)) (by omega) (by omega) ?_
  match h:srtL (woaS n k n) with
  |[]=>rw [h] at hpl;exact (hne (List.length_eq_zero_iff.1 hpl.symm)).elim
  |x::l=>have:=(hm x (by rw [h];simp)).1;simp;omega
 refine AC_of tauOk 42 0 [4,5] Tryz.func88 rfl (by kernel_rfl) rfl rfl rfl rfl rfl ?_
 refine ⟨[],false,_,_,hL,nd0,rfl,rfl,trivial,fun _=>?_,nofun⟩
 refine ⟨[],false,_,_,hS,nd0,rfl,rfl,trivial,fun _=>?_,nofun⟩
 refine ⟨rfl,by decide,true,?_⟩
 refine ⟨Nat,fun d=>⟨[(0,I (n:Nat)),(1,I (k:Nat)),(6,.ow 0),(7,I ((d+1:Nat):Int))],[.sl 29 (.sl .int) (woaS n k d)]⟩,fun d=>d<=n,fun d=>n-d,0,Nat.zero_le _,
  ⟨⟨rfl,rfl⟩,⟨rfl,rfl,rfl,rfl,trivial⟩,rfl,trivial⟩,fun d hd=>?_⟩
 dsimp only at hd
 obtain ⟨g1,g2⟩:=hok d hd
 refine ⟨fun h2=>?_,fun h2=>?_⟩
 .have hd2:d<n:=by omega
  refine ⟨by omega,((n % (d+1):Nat):Int),Int.ofNat_tmod n (d+1),fun h3=>?_,fun h3=>?_⟩
  .have e:woaS n k (d+1)=woaS n k d++lynL (d+1) k:=by rw [woaS,if_pos (by omega)]
   have h4:k ^ (d+1)<=k ^ n:=Nat.pow_le_pow_right hk hd2
   have h5:=lyn_len (d+1) k hk
   refine ⟨[],true,_,_,impl_LyndonWords (d+1) k hk hk4 (by omega) (by omega) (by omega),nd0,rfl,rfl,trivial,fun _=>?_,nofun⟩
   refine ⟨rfl,Nat.zero_le _,rfl,(show (woaS n k d).length+(lynL (d+1) k).length<=1099511627776 by omega),rfl,?_⟩
   exact ⟨((d+1+1:Nat):Int),w64_eq (by omega) (by omega) (by omega),d+1,by dsimp only;omega,by dsimp only;omega,⟨rfl,rfl⟩,⟨rfl,rfl,rfl,rfl,trivial⟩,rowE e.symm,trivial⟩
  .have e:woaS n k (d+1)=woaS n k d:=by rw [woaS,if_neg (by omega)]
   exact ⟨((d+1+1:Nat):Int),w64_eq (by omega) (by omega) (by omega),d+1,by dsimp only;omega,by dsimp only;omega,⟨rfl,rfl⟩,⟨rfl,rfl,rfl,rfl,trivial⟩,rowE e.symm,trivial⟩
 .obtain rfl:d=n:=by omega
  refine ⟨[0],false,_,_,slices_SortFunc_ints 29 _ (srtL (woaS d k d)) (by omega) hne (fun x hx=>by have:=g2 x hx;exact ⟨fun e=>by rw [e] at this;simp at this,by omega⟩) hp (srtL_s _),by decide,rfl,rfl,⟨⟨hp.length_eq,rfl,rfl⟩,trivial⟩,?_⟩
  refine ⟨[],false,_,_,hC,nd0,rfl,rfl,trivial,?_⟩
  exact ⟨some 1,⟨⟨rfl,rfl⟩,rfl,trivial⟩,⟨rfl,rfl⟩,rfl⟩
theorem impl_WordOfAll_no (n k:Int) (hB:woaB n k=false):AC Tryz.prog 88 [I n,I k] [] [.nil,.d true .bool false] []:=by
 refine AC_of tauOk 42 0 [4,5] Tryz.func88 rfl (by kernel_rfl) rfl rfl rfl rfl rfl ?_
 refine ⟨[],false,_,_,impl_isLength n,nd0,rfl,rfl,trivial,fun h1=>?_,fun h1=>?_⟩
 .have h1':=h1
  simp only [Bool.and_eq_true,decide_eq_true_eq] at h1'
  obtain ⟨N,rfl⟩:∃N:Nat,n=(N:Int):=⟨n.toNat,by omega⟩
  refine ⟨[],false,_,_,impl_isSmall N k (by omega),nd0,rfl,rfl,trivial,fun h2=>?_,fun h2=>?_⟩
  .rw [woaB,lenN,h1,Int.toNat_natCast,h2] at hB;cases hB
  .exact ⟨none,⟨rfl,rfl,trivial⟩,rfl,rfl⟩
 .exact ⟨none,⟨rfl,rfl,trivial⟩,rfl,rfl⟩
theorem lyn_1:∀k,k<5->1<=k->(lynL 1 k).isEmpty=false:=by decide+kernel
theorem woaS_ne {n k:Nat} (hk:1<=k) (hk4:k<=4):∀d,woaS n k (d+1)≠[]
 |0=>by
  rw [woaS,if_pos (Nat.mod_one n),woaS,List.nil_append]
  intro e
  have:=lyn_1 k (by omega) hk
  rw [e] at this;cases this
 |d+1=>by
  have ih:=woaS_ne (n:=n) hk hk4 d
  rw [woaS]
  split
  .intro e;exact ih (List.append_eq_nil_iff.1 e).1
  .exact ih
theorem impl_WordOfAll (n k:Int) (r:List AV) (rr:List Row) (hno:woaB n k=false->r=[.nil,.d true .bool false]/\rr=[]) (hyes:woaB n k=true->r=[.ow 0,.d true .bool true]/\rr=[.sl 3 .int (woaL n.toNat k.toNat)]):
 AC Tryz.prog 88 [I n,I k] [] r rr:=by
 cases hB:woaB n k
 .obtain ⟨rfl,rfl⟩:=hno hB
  exact impl_WordOfAll_no n k hB
 .obtain ⟨rfl,rfl⟩:=hyes hB
  unfold woaB lenN smallB at hB
  simp only [Bool.and_eq_true,decide_eq_true_eq] at hB
  obtain ⟨N,rfl⟩:∃N:Nat,n=(N:Int):=⟨n.toNat,by omega⟩
  obtain ⟨K,rfl⟩:∃K:Nat,k=(K:Int):=⟨k.toNat,by omega⟩
  simp only [Int.toNat_natCast] at hB ⊢
  obtain ⟨N',rfl⟩:∃N',N=N'+1:=⟨N-1,by omega⟩
  exact impl_WordOfAll_ok (N'+1) K (by omega) (by omega) (by omega) (by omega) hB.2.2 (woaS_ne (by omega) (by omega) N')
def kd (xs:List Int) (at_:Nat):List Nat:=(List.range xs.length).filter fun i=>xs.getD i 0==(at_:Int)
theorem pz_b (l:List (List UInt8)) (n:Int) (h: -9223372036854775808<=n/\n<=9223372036854775807):∀k,-9223372036854775808<=pz l n k/\pz l n k<=9223372036854775807
 |0=>h
 |k+1=>by rw [pz_s];exact w64_b _
theorem tz_b (xs:List Int):∀v,-9223372036854775808<=tz xs v/\tz xs v<=9223372036854775807
 |0=>by show (-9223372036854775808:Int)<=1/\(1:Int)<=9223372036854775807;decide
 |v+1=>pz_b _ _ (tz_b xs v) _
theorem ren_b (xs:List Int): -9223372036854775808<=treeRen xs/\treeRen xs<=9223372036854775807:=by
 unfold treeRen
 split
 .exact tz_b xs _
 .omega
theorem ht2_b (xs:List Int):∀k,0<=(htS xs k).2/\(htS xs k).2<=k
 |0=>by show (0:Int)<=0/\(0:Int)<=0;omega
 |k+1=>by
  have ih:=ht2_b xs k
  have hb:=htS_b xs k (xs.getD k 0).toNat
  unfold htS
  split
  .dsimp only
   unfold mx
   split<;>omega
  .omega
theorem height_b (xs:List Int) (hl:xs.length<=1048576): -1<=heightV xs/\heightV xs<=1048576:=by
 unfold heightV
 have:=ht2_b xs xs.length
 split<;>omega
theorem cgw_b (n e:Int): -1<=cgwI n e/\cgwI n e<=122880:=by
 unfold cgwI
 split
 .rename_i h
  split
  .split
   .omega
   .obtain ⟨N,rfl⟩:∃N:Nat,n=(N:Int):=⟨n.toNat,by omega⟩
    have h1:=cgw_le N e.toNat (cg_ok N (by omega) (by omega)) (by have:=actsL_len N;have:=(sym_ok N (by omega) (by omega)).l2;omega)
    rw [Int.toNat_natCast]
    omega
  .omega
 .omega
theorem cg_b (n:Int): -1<=cgI n/\cgI n<=12288000:=by
 unfold cgI
 split
 .rename_i h
  split
  .omega
  .obtain ⟨N,rfl⟩:∃N:Nat,n=(N:Int):=⟨n.toNat,by omega⟩
   have hG:=cg_ok N (by omega) (by omega)
   have hcp:=cp_le N (by omega)
   have h1:=sumTo_le (cgwN N) 122880 (cp N+1) fun i _=>cgw_le N i hG (by have:=actsL_len N;have:=(sym_ok N (by omega) (by omega)).l2;omega)
   rw [Int.toNat_natCast]
   have h2:(cp N+1)*122880<=100*122880:=Nat.mul_le_mul_right _ (by omega)
   omega
 .omega
theorem root_b (n:Int): -1<=rootN n/\rootN n<=4766:=by
 unfold rootN
 split
 .have:=rg_b n.toNat (by omega);omega
 .omega
theorem free_b2 (n:Int): -1<=freeN n/\freeN n<=4766:=by
 unfold freeN
 split
 .have:=free_b n.toNat (by omega) (by omega)
  have:=rg_b n.toNat (by omega)
  omega
 .omega
theorem in64_2 {a b:Int} (ha: -9223372036854775808<=a/\a<=9223372036854775807) (hb: -9223372036854775808<=b/\b<=9223372036854775807):In64 [a,b]:=fun i hi=>by
 match i,hi with
 |0,_=>exact ha
 |1,_=>exact hb
theorem in64_3 {a b c:Int} (ha: -9223372036854775808<=a/\a<=9223372036854775807) (hb: -9223372036854775808<=b/\b<=9223372036854775807) (hc: -9223372036854775808<=c/\c<=9223372036854775807):In64 [a,b,c]:=fun i hi=>by
 match i,hi with
 |0,_=>exact ha
 |1,_=>exact hb
 |2,_=>exact hc
theorem col_in {w:List Int} (h:ColP w):In64 w:=fun i hi=>by have:=h.1 i hi;omega
theorem cols_ok {xss:List (List Int)} (hl:xss.length<=1048576) (h:∀x∈xss,ColP x):(∀i,i<xss.length->In64 (xss.getD i []))/\Short xss:=by
 have hg:∀i,i<xss.length->ColP (xss.getD i []):=fun i hi=>by rw [getD_get _ _ _ hi];exact h _ (List.getElem_mem hi)
 exact ⟨fun i hi=>col_in (hg i hi),hl,fun i hi=>by have:=(hg i hi).2;omega⟩
theorem lyfF_el {w:List Int} (hw:ColP w):∀(f a:Nat) (out:List (List Int)),a<=w.length->out.length<=a->(∀x∈out,ColP x)->(lyfF w f a out).length<=w.length/\∀x∈lyfF w f a out,ColP x
 |0,a,out,ha,ho,hx=>by rw [lyfF];exact ⟨by omega,hx⟩
 |f+1,a,out,ha,ho,hx=>by
  rw [lyfF]
  split
  .rename_i h
   have he:=lyfE_ok hw a (w.length-a) (by omega) (by omega)
   refine lyfF_el hw f _ _ (by omega) (by rw [List.length_append,List.length_singleton];omega) fun x hx2=>?_
   rcases List.mem_append.1 hx2 with hx2|hx2
   .exact hx x hx2
   .rw [List.mem_singleton.1 hx2];exact subW_col hw a _ (by omega) he.1
  .exact ⟨by omega,hx⟩
theorem lyfL_el {w:List Int} (hw:ColP w):(lyfL w).length<=10/\∀x∈lyfL w,ColP x:=by
 have h:=lyfF_el hw w.length 0 [] (Nat.zero_le _) (Nat.le_refl _) (fun x hx=>by simp at hx)
 have h2:=hw.2
 exact ⟨by unfold lyfL;omega,h.2⟩
theorem epB_of {g:List (List Int)} {k:Int} (h:epB g k=true):gokB g=true/\∃K:Nat,k=(K:Int)/\1<=K/\K<=4/\K ^ (g.getD 0 []).length<=1024/\smallB (g.getD 0 []).length (K:Nat)=true:=by
 unfold epB at h
 rw [Bool.and_eq_true] at h
 refine ⟨h.1,?_⟩
 have h2:=h.2
 unfold smallB at h2
 simp only [Bool.and_eq_true,decide_eq_true_eq] at h2
 obtain ⟨K,rfl⟩:∃K:Nat,k=(K:Int):=⟨k.toNat,by omega⟩
 exact ⟨K,rfl,by omega,by omega,by simpa using h2.2,h.2⟩
theorem g0_len {g:List (List Int)} (hB:gokB g=true):1<=(g.getD 0 []).length/\(g.getD 0 []).length<=10:=by
 have hG:=(gokB_iff g).1 hB
 have hg0:0<g.length:=by have:=hG.l1;omega
 exact (gok1_p (hG.o1 0 hg0)).1.1
theorem flt_ok {k n:Nat} {p:List Int->Bool} (h1:1<=n) (h2:n<=10) (h4:k<=4) (hs:k ^ n<=1024):((wordsL k n).filter p).length<=1048576/\∀x∈(wordsL k n).filter p,ColP x:=by
 refine ⟨?_,fun x hx=>col_of h1 h2 h4 (List.mem_filter.1 hx).1⟩
 have:=List.length_filter_le p (wordsL k n)
 have:=wordsL_len k n
 omega
theorem canL_col {g:List (List Int)} {xs:List Int} (h:FitP g xs):ColP (canL g xs):=by
 rcases bst_mem (fun p=>actL p xs) xs g g.length with e|⟨i,hi,e⟩
 .unfold canL;rw [e];exact h.x
 .unfold canL;rw [e];exact act_col (h.gs i (by omega)).1 (h.gs i (by omega)).2 h.x
theorem nck_el {n k i:Int} (h:nckB n k i=true):ColP ((neckL n.toNat k.toNat).getD i.toNat []):=by
 unfold nckB lenN smallB at h
 simp only [Bool.and_eq_true,decide_eq_true_eq] at h
 have hm:=neck_el (n:=n.toNat) (k:=k.toNat) (by omega) ((neckL n.toNat k.toNat).getD i.toNat []) (by rw [getD_get _ _ _ (by omega)];exact List.getElem_mem _)
 exact ⟨fun j hj=>by have:=hm.2 j hj;omega,by omega,by omega⟩
theorem woa_el {n k:Nat} (hk:1<=k) (hk4:k<=4):∀x∈woaL n k,0<=x/\x<4:=by
 have key:∀d,∀w∈woaS n k d,∀x∈w,0<=x/\x<4:=by
  intro d
  induction d with
  |zero=>intro w hw;simp [woaS] at hw
  |succ d ih=>
   intro w hw x hx
   rw [woaS] at hw
   split at hw
   .rcases List.mem_append.1 hw with hw|hw
    .exact ih w hw x hx
    .have h2:=(neck_el hk w (List.mem_filter.1 hw).1).2
     obtain ⟨i,hi,rfl⟩:=List.getElem_of_mem hx
     have:=h2 i hi
     rw [getD_get _ _ _ hi] at this
     omega
   .exact ih w hw x hx
 intro x hx
 obtain ⟨w,hw,hx⟩:=List.mem_flatten.1 hx
 exact key n w ((srtL_p _).subset hw) x hx
def nonS:List UInt8:=[110,111,110,101]
def wlnS (g:List (List Int)) (w arg:List UInt8):List UInt8:=
 if w=[116,114,101,101] then (if readB arg=true then Lib.join ([treeRen (rdT arg).1,heightV (rdT arg).1].map fmtI) [32] else unkS)
 else if colB (psL arg)=true then
  (if w=[99,97,110,111,110] then (if fitB g (psL arg)=true then formatW (canL g (psL arg)) else nonS)
  else if w=[119,111,114,100] then wordLine (psL arg)
  else if w=[102,97,99,116,111,114,115] then fmtWs (lyfL (psL arg))
  else unkS)
 else unkS
def nlnS (g:List (List Int)) (w:List UInt8) (n:List Int):List UInt8:=
 if w=[99,111,117,110,116]/\(n.length:Int)=1 then clnS g (n.getD 0 0)
 else if w=[112,97,116,116,101,114,110,115]/\(n.length:Int)=1 then (if epB g (n.getD 0 0)=true then fmtWs (patL g (n.getD 0 0).toNat (g.getD 0 []).length) else nonS)
 else if w=[101,120,99,104,97,110,103,101,100]/\(n.length:Int)=1 then (if epB g (n.getD 0 0)=true then fmtWs (expL g (n.getD 0 0).toNat (g.getD 0 []).length) else nonS)
 else if w=[110,101,99,107,108,97,99,101,115]/\(n.length:Int)=2 then Lib.join ([neckI (n.getD 0 0) (n.getD 1 0),bracI (n.getD 0 0) (n.getD 1 0),lynI (n.getD 0 0) (n.getD 1 0)].map fmtI) [32]
 else if w=[110,101,99,107,108,97,99,101]/\(n.length:Int)=3 then (if nckB (n.getD 0 0) (n.getD 1 0) (n.getD 2 0)=true then formatW ((neckL (n.getD 0 0).toNat (n.getD 1 0).toNat).getD (n.getD 2 0).toNat []) else nonS)
 else if w=[97,108,108]/\(n.length:Int)=2 then (if woaB (n.getD 0 0) (n.getD 1 0)=true then formatW ((woaL (n.getD 0 0).toNat (n.getD 1 0).toNat).take 10) else nonS)
 else if w=[103,114,97,112,104,115]/\(n.length:Int)=1 then fmtI (cgI (n.getD 0 0))
 else if w=[103,114,97,112,104,115]/\(n.length:Int)=2 then fmtI (cgwI (n.getD 0 0) (n.getD 1 0))
 else if w=[116,114,101,101,115]/\(n.length:Int)=1 then Lib.join ([rootN (n.getD 0 0),freeN (n.getD 0 0)].map fmtI) [32]
 else unkS
theorem impl_wordLine (sh:Bool) (g:List (List Int)) (w arg:List UInt8) (c:Int) (hl:g.length<=1048576) (hx:∀i,i<g.length->(g.getD i []).length<=1048576) (ha:arg.length<=1048576):
 AC Tryz.prog 32 [.d sh (.sl (.sl .int)) g,.arr .mix [.str w,.int c],.d true .str arg] [] [.d true .str (wlnS g w arg)] []:=by
 unfold wlnS
 have hpl:=psL_len arg
 have q0:0<2:=by decide
 have q1:2<=1000:=by decide
 refine AC_of tauOk 65 0 [6] Tryz.func32 rfl (by kernel_rfl) rfl rfl rfl rfl rfl ?_
 refine ⟨q0,q1,q0,q0,fun h1=>?_,fun h1=>?_⟩
 .rw [if_pos h1]
  cases hr:readB arg
  .refine ⟨[],false,_,_,impl_ReadTree_no arg hr,nd0,rfl,rfl,trivial,nofun,fun _=>?_⟩
   exact ⟨none,⟨rfl,trivial⟩,rfl,rfl⟩
  .have ht:(rdT arg).1.length<=1048576:=by
    unfold readB at hr
    simp only [Bool.and_eq_true,decide_eq_true_eq] at hr
    have:=((treeB_iff _).1 hr.2.1).1
    omega
   have hR:=impl_ReadTree arg hr
   generalize (rdT arg).1=t at*
   have hb:=height_b t ht
   refine ⟨[],true,_,_,hR,nd0,rfl,rfl,trivial,fun _=>?_,nofun⟩
   refine ⟨[],false,_,_,impl_TreeRenamings true t ht,nd0,rfl,rfl,trivial,[],false,_,_,impl_HeightOf true t ht,nd0,rfl,rfl,trivial,rfl,by decide,false,?_⟩
   refine ⟨[],false,_,_,impl_commas true [treeRen t,heightV t] [32] (in64_2 (ren_b t) (by omega)) (show 2<=1048576 by decide) (by decide),nd0,rfl,rfl,trivial,?_⟩
   exact ⟨none,⟨rfl,trivial⟩,rfl,rfl⟩
 .rw [if_neg h1]
  cases hc:colB (psL arg)
  .refine ⟨[],false,_,_,impl_ParseWord_no arg ha hc,nd0,rfl,rfl,trivial,nofun,fun _=>?_⟩
   exact ⟨none,⟨rfl,trivial⟩,rfl,rfl⟩
  .rw [if_pos rfl]
   have hP:=(colB_iff _).1 hc
   have hR:=impl_ParseWord arg ha hc
   generalize psL arg=x at*
   have hxl:x.length<=1048576:=by have:=hP.2;omega
   refine ⟨[],true,_,_,hR,nd0,rfl,rfl,trivial,fun _=>?_,nofun⟩
   refine ⟨q0,q0,fun h2=>?_,fun h2=>?_⟩
   .rw [if_pos h2]
    cases hf:fitB g x
    .refine ⟨[],false,_,_,impl_CanonOf_no sh true g x hl hx hxl hf,nd0,rfl,rfl,trivial,nofun,fun _=>?_⟩
     refine ⟨[],false,_,_,impl_FormatWord_nil,nd0,rfl,rfl,trivial,[],false,_,_,impl_orNone _ false,nd0,rfl,rfl,trivial,?_⟩
     exact ⟨none,⟨rfl,trivial⟩,rfl,rfl⟩
    .rw [if_pos rfl]
     have hF:=fit_of hf
     refine ⟨[],true,_,_,impl_CanonOf sh true g x hl hx hxl hf,nd0,rfl,rfl,trivial,fun _=>?_,nofun⟩
     refine ⟨[],false,_,_,impl_FormatWord true (canL g x) (col_in (canL_col hF)) (by have:=(canL_col hF).2;omega),nd0,rfl,rfl,trivial,[],false,_,_,impl_orNone _ true,nd0,rfl,rfl,trivial,?_⟩
     exact ⟨none,⟨rfl,trivial⟩,rfl,rfl⟩
   .rw [if_neg h2]
    refine ⟨fun h3=>?_,fun h3=>?_⟩
    .rw [if_pos h3]
     refine ⟨[],false,_,_,impl_WordLine true x hxl,nd0,rfl,rfl,trivial,?_⟩
     exact ⟨none,⟨rfl,trivial⟩,rfl,rfl⟩
    .rw [if_neg h3]
     refine ⟨fun h4=>?_,fun h4=>?_⟩
     .rw [if_pos h4]
      obtain ⟨e1,e2⟩:=lyfL_el hP
      obtain ⟨e3,e4⟩:=cols_ok (show (lyfL x).length<=1048576 by omega) e2
      refine ⟨[],true,_,_,impl_LyndonFactors true x hP,nd0,rfl,rfl,trivial,fun _=>?_,nofun⟩
      refine ⟨[],false,_,_,impl_FormatWords true (lyfL x) e3 e4,nd0,rfl,rfl,trivial,?_⟩
      exact ⟨none,⟨rfl,trivial⟩,rfl,rfl⟩
     .rw [if_neg h4]
      exact ⟨none,⟨rfl,trivial⟩,rfl,rfl⟩
theorem impl_numberLine (sh s2:Bool) (g:List (List Int)) (w:List UInt8) (n:List Int) (hl:g.length<=1048576) (hx:∀i,i<g.length->(g.getD i []).length<=1048576):
 AC Tryz.prog 34 [.d sh (.sl (.sl .int)) g,.arr .mix [.str w,.int (n.length:Nat)],.d s2 (.sl .int) n] [] [.d true .str (nlnS g w n)] []:=by
 unfold nlnS
 have q0:0<2:=by decide
 have q1:2<=1000:=by decide
 have q2:3<=1048576:=by decide
 refine AC_of tauOk 153 0 [6] Tryz.func34 rfl (by kernel_rfl) rfl rfl rfl rfl rfl ?_
 refine ⟨q0,q1,rfl,fun h1=>?_,fun h1=>?_⟩
 .rw [if_pos h1]
  refine ⟨0,rfl,by omega,[],false,_,_,impl_CountLine sh g (n.getD 0 0) hl hx,nd0,rfl,rfl,trivial,?_⟩
  exact ⟨none,⟨rfl,trivial⟩,rfl,rfl⟩
 rw [if_neg h1]
 refine ⟨fun h2=>?_,fun h2=>?_⟩
 .rw [if_pos h2]
  refine ⟨0,rfl,by omega,?_⟩
  cases hE:epB g (n.getD 0 0)
  .refine ⟨[],false,_,_,impl_PatternsOf_no sh g (n.getD 0 0) hl hx hE,nd0,rfl,rfl,trivial,nofun,fun _=>?_⟩
   refine ⟨[],false,_,_,impl_FormatWords_nil,nd0,rfl,rfl,trivial,[],false,_,_,impl_orNone _ false,nd0,rfl,rfl,trivial,?_⟩
   exact ⟨none,⟨rfl,trivial⟩,rfl,rfl⟩
  .rw [if_pos rfl]
   obtain ⟨hB,K,hk,k1,k4,hs,hS⟩:=epB_of hE
   have h0:=g0_len hB
   have hC:=impl_PatternsOf_d sh g K hl hx hB hS
   rw [<-hk] at hC
   rw [show (n.getD 0 0).toNat=K by omega]
   obtain ⟨e1,e2⟩:=flt_ok (p:=fun w=>decide (canL g w=w)) h0.1 h0.2 k4 hs
   rw [<-patL_eq] at e1 e2
   obtain ⟨e3,e4⟩:=cols_ok e1 e2
   refine ⟨[],true,_,_,hC,nd0,rfl,rfl,trivial,fun _=>?_,nofun⟩
   refine ⟨[],false,_,_,impl_FormatWords true _ e3 e4,nd0,rfl,rfl,trivial,[],false,_,_,impl_orNone _ true,nd0,rfl,rfl,trivial,?_⟩
   exact ⟨none,⟨rfl,trivial⟩,rfl,rfl⟩
 rw [if_neg h2]
 refine ⟨fun h3=>?_,fun h3=>?_⟩
 .rw [if_pos h3]
  refine ⟨0,rfl,by omega,?_⟩
  cases hE:epB g (n.getD 0 0)
  .refine ⟨[],false,_,_,impl_ExchangePatterns_no sh g (n.getD 0 0) hl hx hE,nd0,rfl,rfl,trivial,nofun,fun _=>?_⟩
   refine ⟨[],false,_,_,impl_FormatWords_nil,nd0,rfl,rfl,trivial,[],false,_,_,impl_orNone _ false,nd0,rfl,rfl,trivial,?_⟩
   exact ⟨none,⟨rfl,trivial⟩,rfl,rfl⟩
  .rw [if_pos rfl]
   obtain ⟨hB,K,hk,k1,k4,hs,hS⟩:=epB_of hE
   have h0:=g0_len hB
   have hC:=impl_ExchangePatterns_d sh g K hl hx hB hS
   rw [<-hk] at hC
   rw [show (n.getD 0 0).toNat=K by omega]
   obtain ⟨e1,e2⟩:=flt_ok (p:=fun w=>decide (cexL g w=w)) h0.1 h0.2 k4 hs
   obtain ⟨e3,e4⟩:=cols_ok (xss:=expL g K (g.getD 0 []).length) e1 e2
   refine ⟨[],true,_,_,hC,nd0,rfl,rfl,trivial,fun _=>?_,nofun⟩
   refine ⟨[],false,_,_,impl_FormatWords true _ e3 e4,nd0,rfl,rfl,trivial,[],false,_,_,impl_orNone _ true,nd0,rfl,rfl,trivial,?_⟩
   exact ⟨none,⟨rfl,trivial⟩,rfl,rfl⟩
 rw [if_neg h3]
 refine ⟨fun h4=>?_,fun h4=>?_⟩
 .rw [if_pos h4]
  have i0:0<n.length:=by omega
  have i1:1<n.length:=by omega
  have b1:=neck_b (n.getD 0 0) (n.getD 1 0)
  have b2:=brac_b (n.getD 0 0) (n.getD 1 0)
  have b3:=lyn_b (n.getD 0 0) (n.getD 1 0)
  refine ⟨some 2000,[0,1,2,3,4,5,7,8,9,10,11,12,14,15,16,17,18,19],[6,13,20,21,22,23],by kernel_rfl,rfl,?_⟩
  refine ⟨0,rfl,i0,1,rfl,i1,0,rfl,i0,1,rfl,i1,0,rfl,i0,1,rfl,i1,?_⟩
  refine ⟨[],false,_,_,impl_CountNecklaces _ _,nd0,rfl,rfl,trivial,[],false,_,_,impl_CountBracelets _ _,nd0,rfl,rfl,trivial,[],false,_,_,impl_CountLyndon _ _,nd0,rfl,rfl,trivial,rfl,by decide,false,?_⟩
  refine ⟨[],false,_,_,impl_commas true [neckI (n.getD 0 0) (n.getD 1 0),bracI (n.getD 0 0) (n.getD 1 0),lynI (n.getD 0 0) (n.getD 1 0)] [32] (in64_3 (by omega) (by omega) (by omega)) q2 (by decide),nd0,rfl,rfl,trivial,?_⟩
  exact ⟨none,⟨rfl,trivial⟩,rfl,rfl⟩
 rw [if_neg h4]
 refine ⟨fun h5=>?_,fun h5=>?_⟩
 .rw [if_pos h5]
  have i0:0<n.length:=by omega
  have i1:1<n.length:=by omega
  have i2:2<n.length:=by omega
  refine ⟨some 4000,[0,1,2,3,4,5,6,7,8],.one 9 (.one 10 (.two 11 (.two 12 (.one 13 (.one 14 .done)) 13 (.one 12 (.one 14 .done))) 12 (.one 11 (.one 13 (.one 14 .done))))),by kernel_rfl,rfl,?_⟩
  refine ⟨0,rfl,i0,1,rfl,i1,2,rfl,i2,?_⟩
  cases hE:nckB (n.getD 0 0) (n.getD 1 0) (n.getD 2 0)
  .refine ⟨[],false,_,_,impl_NecklaceAt (n.getD 0 0) (n.getD 1 0) (n.getD 2 0) _ (fun _=>rfl) (fun h=>by rw [hE] at h;cases h),nd0,rfl,rfl,trivial,⟨⟨nofun,fun _=>?_⟩,⟨nofun,fun _=>?_⟩⟩,⟨nofun,fun _=>?_⟩⟩
   all_goals
    refine ⟨[],false,_,_,impl_FormatWord_nil,nd0,rfl,rfl,trivial,[],false,_,_,impl_orNone _ false,nd0,rfl,rfl,trivial,?_⟩
    exact ⟨none,⟨rfl,trivial⟩,rfl,rfl⟩
  .rw [if_pos rfl]
   have hc:=nck_el hE
   refine ⟨[],false,_,_,impl_NecklaceAt (n.getD 0 0) (n.getD 1 0) (n.getD 2 0) _ (fun h=>by rw [hE] at h;cases h) (fun _=>rfl),nd0,rfl,rfl,trivial,⟨⟨fun _=>?_,nofun⟩,⟨fun _=>?_,nofun⟩⟩,⟨fun _=>?_,nofun⟩⟩
   all_goals
    refine ⟨[],false,_,_,impl_FormatWord true _ (col_in hc) (by have:=hc.2;omega),nd0,rfl,rfl,trivial,[],false,_,_,impl_orNone _ true,nd0,rfl,rfl,trivial,?_⟩
    exact ⟨none,⟨rfl,trivial⟩,rfl,rfl⟩
 rw [if_neg h5]
 refine ⟨fun h6=>?_,fun h6=>?_⟩
 .rw [if_pos h6]
  have i0:0<n.length:=by omega
  have i1:1<n.length:=by omega
  refine ⟨some 4000,[0,1,2,3,4,5],.one 6 (.one 7 (.two 8 (.two 9 (.one 10 (.one 11 .done)) 10 (.one 9 (.one 11 .done))) 9 (.one 8 (.one 10 (.one 11 .done))))),by kernel_rfl,rfl,?_⟩
  refine ⟨0,rfl,i0,1,rfl,i1,?_⟩
  cases hE:woaB (n.getD 0 0) (n.getD 1 0)
  .refine ⟨[],false,_,_,impl_WordOfAll (n.getD 0 0) (n.getD 1 0) _ _ (fun _=>⟨rfl,rfl⟩) (fun h=>by rw [hE] at h;cases h),nd0,rfl,rfl,trivial,⟨⟨nofun,fun _=>?_⟩,⟨nofun,fun _=>?_⟩⟩,⟨nofun,fun _=>?_⟩⟩
   all_goals
    refine ⟨0,rfl,Nat.le_refl _,Nat.le_refl _,?_⟩
    refine ⟨[],false,_,_,impl_FormatWord_nil,nd0,rfl,rfl,trivial,[],false,_,_,impl_orNone _ false,nd0,rfl,rfl,trivial,?_⟩
    exact ⟨none,⟨rfl,trivial⟩,rfl,rfl⟩
  .rw [if_pos rfl]
   have hE2:=hE
   unfold woaB lenN smallB at hE2
   simp only [Bool.and_eq_true,decide_eq_true_eq] at hE2
   have hel:=woa_el (n:=(n.getD 0 0).toNat) (k:=(n.getD 1 0).toNat) (by omega) (by omega)
   have hC:=impl_WordOfAll (n.getD 0 0) (n.getD 1 0) _ _ (fun h=>by rw [hE] at h;cases h) (fun _=>⟨rfl,rfl⟩)
   generalize woaL (n.getD 0 0).toNat (n.getD 1 0).toNat=L at*
   have h64:In64 (L.take 10):=in64_of (B:=4) (by decide) fun x hx=>by have:=hel x (List.mem_of_mem_take hx);omega
   have hmin:∃j:Nat,(if ((L.length:Nat):Int)<10 then ((L.length:Nat):Int) else 10)=(j:Int)/\j<=L.length/\L.take j=L.take 10/\j<=10:=by
    by_cases h:L.length<10
    .exact ⟨L.length,by rw [if_pos (by omega)],Nat.le_refl _,by rw [List.take_length,List.take_of_length_le (by omega)],by omega⟩
    .exact ⟨10,by rw [if_neg (by omega)];rfl,by omega,rfl,Nat.le_refl _⟩
   obtain ⟨j,j1,j2,j3,j4⟩:=hmin
   have hF:=impl_FormatWord true ((L.take j).drop 0) (by rw [List.drop_zero,j3];exact h64) (by rw [List.drop_zero,List.length_take];omega)
   have hd:(L.take j).drop 0=L.take j:=rfl
   rw [<-j3]
   refine ⟨[],true,_,_,hC,nd0,rfl,rfl,trivial,⟨⟨fun _=>?_,nofun⟩,⟨fun _=>?_,nofun⟩⟩,⟨fun _=>?_,nofun⟩⟩
   all_goals
    refine ⟨j,j1,Nat.zero_le _,j2,?_⟩
    refine ⟨[],false,_,_,hF,nd0,rfl,rfl,trivial,[],false,_,_,impl_orNone _ true,nd0,rfl,rfl,trivial,?_⟩
    exact ⟨none,⟨rfl,trivial⟩,rfl,rfl⟩
 rw [if_neg h6]
 refine ⟨fun h7=>?_,fun h7=>?_⟩
 .rw [if_pos h7]
  have hb:=cg_b (n.getD 0 0)
  refine ⟨0,rfl,by omega,[],false,_,_,impl_CountGraphs (n.getD 0 0),nd0,rfl,rfl,trivial,[],false,_,_,impl_FormatInt _ (by omega) (by omega),nd0,rfl,rfl,trivial,?_⟩
  exact ⟨none,⟨rfl,trivial⟩,rfl,rfl⟩
 rw [if_neg h7]
 refine ⟨fun h8=>?_,fun h8=>?_⟩
 .rw [if_pos h8]
  have i0:0<n.length:=by omega
  have i1:1<n.length:=by omega
  have hb:=cgw_b (n.getD 0 0) (n.getD 1 0)
  refine ⟨some 2000,[0,1,2,3,4,5],[6,7,8],by kernel_rfl,rfl,?_⟩
  refine ⟨0,rfl,i0,1,rfl,i1,?_⟩
  refine ⟨[],false,_,_,impl_CountGraphsWith (n.getD 0 0) (n.getD 1 0),nd0,rfl,rfl,trivial,[],false,_,_,impl_FormatInt _ (by omega) (by omega),nd0,rfl,rfl,trivial,?_⟩
  exact ⟨none,⟨rfl,trivial⟩,rfl,rfl⟩
 rw [if_neg h8]
 refine ⟨fun h9=>?_,fun h9=>?_⟩
 .rw [if_pos h9]
  have i0:0<n.length:=by omega
  have b1:=root_b (n.getD 0 0)
  have b2:=free_b2 (n.getD 0 0)
  refine ⟨some 2000,[0,1,2,4,5,6],[3,7,8,9,10],by kernel_rfl,rfl,?_⟩
  refine ⟨0,rfl,i0,0,rfl,i0,?_⟩
  refine ⟨[],false,_,_,impl_CountRooted _,nd0,rfl,rfl,trivial,[],false,_,_,impl_CountFree _,nd0,rfl,rfl,trivial,rfl,by decide,false,?_⟩
  refine ⟨[],false,_,_,impl_commas true [rootN (n.getD 0 0),freeN (n.getD 0 0)] [32] (in64_2 (by omega) (by omega)) (show 2<=1048576 by decide) (by decide),nd0,rfl,rfl,trivial,?_⟩
  exact ⟨none,⟨rfl,trivial⟩,rfl,rfl⟩
 rw [if_neg h9]
 exact ⟨none,⟨rfl,trivial⟩,rfl,rfl⟩
theorem clnS_len (g:List (List Int)) (k:Int) (hl:g.length<=1048576):(clnS g k).length<=1000:=by
 have l0:=fI_len (g.length:Int) (by omega)
 have l1:=fI_len (colI g k) (colI_b g k)
 have l2:=fI_len (cexI g k) (cexI_b g k)
 unfold clnS
 split
 .simp only [List.length_append,List.length_cons,List.length_nil];omega
 .decide
theorem kindW_len (xs:List Int):(kindW xs).length<=10:=by
 unfold kindW
 split
 .decide
 .split<;>decide
theorem wordLine_len (xs:List Int):(wordLine xs).length<=1000:=by
 unfold wordLine
 split
 .rename_i h
  have hP:=(colB_iff _).1 h
  have h2:=hP.2
  have hp:=perW_le xs (by omega)
  have hfw:=fmtN_len64 (perW xs) (by omega)
  have hfo:=formatW_len (least xs)
  have hk:=kindW_len xs
  simp only [List.length_append,List.length_cons,List.length_nil];omega
 .decide
theorem fmtWs_len (xss:List (List Int)) (hl:xss.length<=1048576):(fmtWs xss).length<=140737488355328:=by
 have:=fws_len xss hl
 unfold fmtWs
 split
 .decide
 .exact this
theorem two_len {xs:List Int} (h:In64 xs) (hl:xs.length<=10):(Lib.join (xs.map fmtI) [32]).length<=140737488355328:=by
 have:=fmts_len xs [32] h (by omega) (by decide)
 omega
theorem wlnS_len (g:List (List Int)) (w arg:List UInt8):(wlnS g w arg).length<=140737488355328:=by
 unfold wlnS
 split
 .split
  .rename_i hr
   have ht:(rdT arg).1.length<=1048576:=by
    unfold readB at hr
    simp only [Bool.and_eq_true,decide_eq_true_eq] at hr
    have:=((treeB_iff _).1 hr.2.1).1
    omega
   have hb:=height_b (rdT arg).1 ht
   exact two_len (in64_2 (ren_b _) (by omega)) (show 2<=10 by decide)
  .decide
 split
 .rename_i hc
  have hP:=(colB_iff _).1 hc
  split
  .split
   .have:=formatW_len (canL g (psL arg));omega
   .decide
  split
  .have:=wordLine_len (psL arg);omega
  split
  .exact fmtWs_len _ (by have:=(lyfL_el hP).1;omega)
  .decide
 .decide
theorem nlnS_len (g:List (List Int)) (w:List UInt8) (n:List Int) (hl:g.length<=1048576):(nlnS g w n).length<=140737488355328:=by
 have hf:∀z:Int,-9223372036854775808<=z/\z<=9223372036854775807->(fmtI z).length<=140737488355328:=fun z h=>by have:=fI_len z h;omega
 have hp:∀(k:Int) (p:List Int->Bool),epB g k=true->((wordsL k.toNat (g.getD 0 []).length).filter p).length<=1048576:=fun k p h=>by
  obtain ⟨hB,K,hk,k1,k4,hs,hS⟩:=epB_of h
  have h0:=g0_len hB
  rw [show k.toNat=K by omega]
  exact (flt_ok (p:=p) h0.1 h0.2 k4 hs).1
 unfold nlnS
 split
 .have:=clnS_len g (n.getD 0 0) hl;omega
 split
 .split
  .rename_i h;exact fmtWs_len _ (by rw [patL_eq];exact hp _ _ h)
  .decide
 split
 .split
  .rename_i h;exact fmtWs_len _ (hp _ _ h)
  .decide
 split
 .have b1:=neck_b (n.getD 0 0) (n.getD 1 0)
  have b2:=brac_b (n.getD 0 0) (n.getD 1 0)
  have b3:=lyn_b (n.getD 0 0) (n.getD 1 0)
  exact two_len (in64_3 (by omega) (by omega) (by omega)) (show 3<=10 by decide)
 split
 .split
  .have:=formatW_len ((neckL (n.getD 0 0).toNat (n.getD 1 0).toNat).getD (n.getD 2 0).toNat []);omega
  .decide
 split
 .split
  .have:=formatW_len ((woaL (n.getD 0 0).toNat (n.getD 1 0).toNat).take 10);omega
  .decide
 split
 .have:=cg_b (n.getD 0 0);exact hf _ (by omega)
 split
 .have:=cgw_b (n.getD 0 0) (n.getD 1 0);exact hf _ (by omega)
 split
 .have b1:=root_b (n.getD 0 0)
  have b2:=free_b2 (n.getD 0 0)
  exact two_len (in64_2 (by omega) (by omega)) (show 2<=10 by decide)
 .decide
end Go.Proofs.YtacjiemkbhhhoaaGreatDoor
namespace Go.Proofs.YtacjiemkbhhhoaaGreatDoor
open Go Go.RowKit Go.Sort Go.Lib Go.Proofs.YtacjiemkbhhhoaaGreatDoor.Ow
def apR (u v:Value):Prop:=∀(p q:Addr) (l c l' c':Nat),u=.slice (some p) l c->v=.slice (some q) l' c'->l≠0->l'≠0->p.block≠q.block
theorem apR_symm {u v:Value} (h:apR u v):apR v u:=fun p q l c l' c' h1 h2 k1 k2 e=>h q p l' c' l c h2 h1 k2 k1 e.symm
theorem AC.frzw1 {P:Program} {f:FuncId} {args:List AV} {e:TypeId} {d:Bool} {xs:List Int} (h:AC P f args [] [.ow 0] [.sl e .int xs]):AC P f args [] [.d true (.sw e d) xs] []:=by
 refine ⟨h.1,fun w bs A vs hr hv=>(h.2 w bs A vs hr hv).mono ?_⟩
 rintro ex w' ⟨rv,bs',A',rfl,hrok,hres,hstep,⟨new,rfl⟩,hstay,hup⟩
 have hbs:bs=[]:=List.eq_nil_of_length_eq_zero (by rw [hr.len];rfl)
 subst hbs
 obtain ⟨b,e2,t2,xs2,cur,h1,h2,h3,h4⟩:=hres
 cases h2
 obtain ⟨hA,cur2,c1,c2,c3,c4⟩:=hrok.row 0 b _ h1 rfl
 rw [h3] at c1;cases c1
 have hb:=List.mem_of_getElem? h1
 have hnew:w.heap.size<=b:=by
  rcases hstep.sbs b hb with h|h
  .simp at h
  .exact h
 refine ⟨rv,[],fun x=>A' x\/x=b,rfl,⟨rfl,nd0,fun b hb=>by simp at hb,fun x hx=>?_,fun i b r hb=>by simp at hb⟩,?_,⟨hstep.os,hstep.tape,hstep.output,hstep.size,fun k hk _=>hstep.block k hk (by simp),fun b hb=>by simp at hb,fun x hx=>?_⟩,⟨[],rfl⟩,fun b hb=>by simp at hb,fun x hx=>.inl (hup x hx)⟩
 .rcases hx with hx|hx
  .exact hrok.old x hx
  .rw [hx];exact hrok.lt b hb
 .show RdW _ _ _ _ _
  by_cases hx:xs=[]
  .subst hx;exact .inl ⟨rfl,_,_,h4,fun hh=>by cases hh⟩
  .refine .inr ⟨hx,b,cur,h4,.inr rfl,h3,c2,c3,fun j hj=>?_⟩
   obtain ⟨cv,k1,k2⟩:=c4.c j hj
   rw [k1];exact congrArg some k2
 .rcases hx with hx|hx
  .rcases hstep.sA x hx with h|h|h
   .exact .inl h
   .exact .inr (.inl h)
   .simp at h
  .exact .inr (.inl (by rw [hx];exact hnew))
theorem slices_SortFunc_sw (e e0:Nat) (xss yss:List (List Int)) (hl:xss.length<=1048576) (h0:xss≠[]) (hne:∀xs∈xss,xs≠[]/\xs.length<=1048576) (hp:yss.Perm xss) (hs:yss.Pairwise fun x y=>¬cmpI y x<0):
 AC Tryz.prog 140 [.ow 0,.fn 141 []] [.sl e (.sw e0 true) xss] [] [.sl e (.sw e0 true) yss]:=by
 refine ⟨⟨_,_,Tryz.func140,rfl,by kernel_rfl⟩,fun w bs A vs hok hvs=>?_⟩
 obtain ⟨v,r,rfl,⟨b,e',t,xs',cur,hb,hx,hc,rfl⟩,⟨v2,r2,rfl,⟨vs2,rfl,hvs2⟩,h3⟩⟩:=hvs
 cases h3
 cases hvs2
 cases hx
 have hrow:=hok.row 0 b _ hb rfl
 obtain ⟨hA,cur2,c1,c2,c3,c4⟩:=hrow
 rw [hc] at c1;cases c1
 have hbl:=hok.lt b (List.mem_of_getElem? hb)
 have hbs:bs=[b]:=by
  have hlen:=hok.len
  match bs,hb,hlen with
  |[x],hb,_=>simp at hb;rw [hb]
 subst hbs
 obtain ⟨l,hll,hlp⟩:=exList (α:=El w A) xss.length (fun j x=>cur[j]? =some (enE x)/\xss[j]? =some x.1.2/\RdW w A e0 x.1.2 x.1.1) (fun j hj=>by
  obtain ⟨cv,g1,g2⟩:=c4 j hj
  exact ⟨⟨(cv,xss[j]),hne _ (List.getElem_mem hj),RdW.rd g2⟩,g1,List.getElem?_eq_getElem hj,g2⟩)
 have hl0:0<l.length:=by rw [hll];exact List.length_pos_iff.2 h0
 haveI:Inhabited (El w A):=⟨l[0]⟩
 have hmap:l.map (fun x=>x.1.2)=xss:=by
  apply List.ext_getElem?
  intro j
  rw [List.getElem?_map]
  by_cases hj:j<l.length
  .rw [List.getElem?_eq_getElem hj,(hlp j hj).2.1];rfl
  .rw [List.getElem?_eq_none (by omega),List.getElem?_eq_none (by omega)];rfl
 have hH:Holds enE w b 0 l.toArray:=by
  intro j hj
  have hj':j<l.length:=by simpa using hj
  refine ⟨?_,frozen_row w b _ cur e hc⟩
  rw [Nat.zero_add,cell_of_row w b j cur e (0,0) hc,(hlp j hj').1]
  simp [hj']
 have key:=Tryz.slices_SortFunc enE enE_one cfE swoE 141 #[] b 0 cur.size l.toArray w run_cmp (cmpLaysE b _ hA) hH hbl (by simp;omega)
 rw [List.size_toArray,hll] at key
 refine key.mono ?_
 rintro ex w' ⟨rfl,d',n,os,hperm,hsort,rfl⟩
 have hsz':d'.size=xss.length:=by have:=hperm.1;simpa [hll] using this
 have hpp:d'.toList.Perm l:=by
  have h1:=hperm.2.2
  have e1:d'.extract 0 xss.length=d':=by rw [<-hsz'];exact Array.extract_size
  have e2:l.toArray.extract 0 xss.length=l.toArray:=by rw [<-hll,<-List.size_toArray];exact Array.extract_size
  rw [e1,e2] at h1
  simpa using h1
 have hwh:∀x∈d'.toList,RdW w A e0 x.1.2 x.1.1:=fun x hx=>by
  obtain ⟨j,hj,rfl⟩:=List.getElem_of_mem (hpp.subset hx)
  exact (hlp j hj).2.2
 have hap:(d'.toList.map enE).Pairwise apR:=by
  refine (List.Perm.pairwise_iff (fun {x y} h=>apR_symm h) (hpp.map enE)).2 ?_
  rw [List.pairwise_iff_getElem]
  intro i j hi hj hij p q l1 c1 l2 c2 h1 h2 k1 k2
  have hi':i<l.length:=by simpa using hi
  have hj':j<l.length:=by simpa using hj
  simp only [List.getElem_map] at h1 h2
  have hdd:DstV cur xss.length:=c4.d
  exact hdd i j hij (by omega) p q l1 c1 l2 c2 (by rw [(hlp i hi').1,h1]) (by rw [(hlp j hj').1,h2]) k1 k2
 have hys:d'.toList.map (fun x=>x.1.2)=yss:=by
  refine List.Perm.eq_of_pairwise (le:=fun x y=>¬cmpI y x<0) (fun a b _ _ h1 h2=>?_) ?_ hs ?_
  .have:=cmpI_neg a b
   exact cmpI_eq _ _ (by omega)
  .rw [List.pairwise_map,List.pairwise_iff_getElem]
   intro i j hi hj hij
   have hi':i<d'.size:=by simpa using hi
   have hj':j<d'.size:=by simpa using hj
   have:=hsort i j (Nat.zero_le _) hij (by omega)
   rw [getElem!_pos d' j hj',getElem!_pos d' i hi'] at this
   have this:¬cmpI d'[j].1.2 d'[i].1.2<0:=of_decide_eq_false this
   simpa using this
  .have h1:=hpp.map (fun x:El w A=>x.1.2)
   rw [hmap] at h1
   exact h1.trans hp.symm
 have hyl:yss.length=xss.length:=hp.length_eq
 have hold:∀k,k<w.heap.size->k≠b->(sortWorld enE w b 0 n d' os).heap[k]? =w.heap[k]? :=by
  intro k hk hkb
  unfold sortWorld
  rw [heap_grow_old _ _ (by simpa using hk),putRow_other _ _ _ _ _ hkb];rfl
 have hnew:(sortWorld enE w b 0 n d' os).heap[b]? =some (.cells (putCells enE 0 d' cur) e (0,0)):=by
  unfold sortWorld
  rw [heap_grow_old _ _ (by simpa using hbl)]
  exact putRow_block enE (Go.Sort.ahead w n) b _ cur e hc
 have hsz:(putCells enE 0 d' cur).size=cur.size:=by simp [putCells]
 have hws:w.heap.size<=(sortWorld enE w b 0 n d' os).heap.size:=by simp [sortWorld]
 refine ⟨.tuple #[],[b],A,rfl,⟨rfl,hok.nodup,fun x hx=>?_,fun x hx=>?_,?_⟩,⟨[],rfl,rfl⟩,⟨rfl,rfl,rfl,hws,?_,fun x hx=>.inl hx,fun x hx=>.inl hx⟩,⟨[],rfl⟩,?_,fun x hx=>hx⟩
 .have:=hok.lt x hx;omega
 .have:=hok.old x hx;omega
 .intro i b2 r hb2 hr2
  match i,hb2,hr2 with
  |0,hb2,hr2=>
   simp at hb2 hr2
   subst hb2;subst hr2
   refine ⟨hA,_,hnew,by rw [hsz,hyl];exact c2,by rw [hsz];exact c3,fun j hj=>?_,?_⟩
   rotate_left
   .intro i j hij hj p q l1 q1 l2 q2 g1 g2 k1 k2
    have hi':i<d'.size:=by omega
    have hj':j<d'.size:=by omega
    rw [putCells_get _ _ _ _ hi' (by omega),getElem!_pos d' i hi'] at g1
    rw [putCells_get _ _ _ _ hj' (by omega),getElem!_pos d' j hj'] at g2
    have:=(List.pairwise_iff_getElem.1 hap) i j (by simpa using hi') (by simpa using hj') hij p q l1 q1 l2 q2 (by simpa using g1) (by simpa using g2) k1 k2
    exact this
   have hj':j<d'.size:=by omega
   refine ⟨enE d'[j],?_,?_⟩
   .rw [putCells_get _ _ _ _ hj' (by omega),getElem!_pos d' j hj']
   .have e3:yss[j]=d'[j].1.2:=by simp [<-hys]
    rw [e3]
    exact RdW.ext (fun k hk hlt=>⟨hold k hlt (fun e=>hA (e ▸ hk)),hk⟩) (hwh d'[j] (by simp))
  |i+1,hb2,_=>simp at hb2
 .intro k hk hkb
  exact hold k hk (by simpa using hkb)
 .intro x hx cur2 e2 hc2
  simp at hx;subst hx
  rw [hc] at hc2;cases hc2
  exact ⟨_,hnew,hsz⟩
theorem impl_GroupOf_1w (sh:Bool) (x q:List Int) (hx:x.length<=1048576) (hq:q.length<=1048576):AC Tryz.prog 138 [.d sh (.sl .int) x,.ptr 0 0] [.box 29 (.d true (.sw 3 false) q)] [.d true .bool (decide (x=q))] [.box 29 (.d true (.sw 3 false) q)]:=by
 refine AC_of tauOk 7 1 [3] Tryz.func138 rfl (by kernel_rfl) rfl rfl rfl rfl rfl ?_
 refine ⟨rfl,[],false,_,_,slices_Equal_int sh true x q hx hq,nd0,rfl,rfl,trivial,fun h=>?_,fun h=>?_⟩
 .exact ⟨none,⟨retB h,trivial⟩,rfl,rfl⟩
 .exact ⟨none,⟨retB h,trivial⟩,rfl,rfl⟩
theorem impl_GroupOf_w (sh:Bool) (n:Nat) (gens R S:List (List Int)) (h1:1<=n) (hn:n<11) (hg:GenP n gens) (hR:bfsI n gens 200 0 [idL n]=some R)
 (hp:S.Perm R) (hs:S.Pairwise fun x y=>¬cmpI y x<0) (hS:S.length<=120/\S≠[]/\∀x∈S,x≠[]/\x.length<=1048576):
 AC Tryz.prog 55 [I (n:Nat),.d sh (.sl (.sl .int)) gens] [] [.ow 0,.d true .bool true] [.sl 29 (.sw 3 true) S]:=by
 have hgl:=hg.1
 refine AC_of (tauSOk true) 70 0 [4,5] Tryz.func55 rfl (by kernel_rfl) rfl rfl rfl rfl rfl ?_
 refine ⟨fun h=>by omega,fun _=>?_⟩
 refine ⟨fun h=>by omega,fun _=>?_⟩
 refine ⟨Nat,fun k=>⟨[(0,I (n:Nat)),(1,.d sh (.sl (.sl .int)) gens),(19,.d sh (.sl (.sl .int)) gens),(20,I gens.length),(21,I (k:Nat))],[]⟩,fun k=>k<=gens.length,fun k=>gens.length-k,0,Nat.zero_le _,
  ⟨⟨rfl,rfl⟩,⟨rfl,rfl,rfl,rfl,rfl,trivial⟩,trivial⟩,fun k hk=>?_⟩
 dsimp only at hk
 refine ⟨fun h2=>?_,fun h2=>?_⟩
 .have hk2:k<gens.length:=by omega
  have hp:=hg.2 k hk2
  refine ⟨k,rfl,hk2,[],false,_,_,impl_PermOk sh (gens.getD k []) (by omega),nd0,rfl,rfl,trivial,fun h3=>?_,fun h3=>by rw [hp.1] at h3;cases h3⟩
  refine ⟨fun h4=>(h4 (by omega)).elim,fun _=>?_⟩
  exact ⟨((k+1:Nat):Int),w64_eq (by omega) (by omega) (by omega),k+1,by dsimp only;omega,by dsimp only;omega,⟨rfl,rfl⟩,⟨rfl,rfl,rfl,rfl,rfl,trivial⟩,trivial⟩
 .clear h2
  refine ⟨[],false,_,_,AC.frzw1 (d:=false) (impl_IdentityPerm n h1 (by omega)),nd0,rfl,rfl,trivial,?_⟩
  refine ⟨rfl,by decide,true,Nat.le_refl 1,?_⟩
  refine ⟨Nat × List (List Int),fun i=>⟨[(0,I (n:Nat)),(1,.d sh (.sl (.sl .int)) gens),(8,.ow 0),(9,I (i.1:Nat))],[.sl 29 (.sw 3 true) i.2]⟩,
   fun i=>i.1<=200/\bfsI n gens (200-i.1) i.1 i.2=some R,fun i=>200-i.1,(0,[idL n]),⟨Nat.zero_le _,hR⟩,
   ⟨⟨rfl,rfl⟩,⟨rfl,rfl,rfl,rfl,trivial⟩,rfl,trivial⟩,?_⟩
  rintro ⟨a,q⟩ ⟨ha,hb⟩
  dsimp only at ha hb
  obtain ⟨f,hf,hcase⟩:=bfsI_some hb
  refine ⟨fun h3=>?_,fun h3=>?_⟩
  .dsimp only at h3
   rcases hcase with ⟨haq,o,ho,hR2⟩|⟨haq,_⟩
   .refine ⟨Nat × List (List Int),fun i=>⟨[(0,I (n:Nat)),(1,.d sh (.sl (.sl .int)) gens),(8,.ow 0),(9,I (a:Nat)),(44,.d sh (.sl (.sl .int)) gens),(45,I gens.length),(46,I (i.1:Nat))],[.sl 29 (.sw 3 true) i.2]⟩,
     fun i=>i.1<=gens.length/\innI n a (gens.drop i.1) i.2=some o,fun i=>gens.length-i.1,(0,q),⟨Nat.zero_le _,ho⟩,
     ⟨⟨rfl,rfl⟩,⟨rfl,rfl,rfl,rfl,rfl,rfl,rfl,trivial⟩,rfl,trivial⟩,?_⟩
    rintro ⟨j,q'⟩ ⟨hj,hin⟩
    dsimp only at hj hin
    refine ⟨fun h4=>?_,fun h4=>?_⟩
    .dsimp only at h4
     have hj2:j<gens.length:=by omega
     have hp:=hg.2 j hj2
     rw [drop_c gens j [] hj2] at hin
     obtain ⟨⟨⟨c2,c3⟩,c4,c5⟩,c6⟩:=innI_cons hin
     have c7:=okP_iff c4
     have hel:=exL_len (q'.getD a []) (gens.getD j [])
     refine ⟨j,rfl,hj2,a,rfl,c3,?_⟩
     refine ⟨[],false,_,_,AC.frzw1 (d:=false) (impl_compose true sh (q'.getD a []) (gens.getD j []) (by omega) (fun i hi=>by rw [hp.2];exact c7.2 i hi)),nd0,rfl,rfl,trivial,?_⟩
     have hql:∀i,i<q'.length->(q'.getD i []).length<=1048576:=fun i hi=>by have:=c5 i hi;omega
     refine ⟨rfl,rfl,[1],false,_,_,slices_ContainsFunc_ints 138 29 (.sw 3 false) (exL (q'.getD a []) (gens.getD j [])) (fun x=>decide (x=exL (q'.getD a []) (gens.getD j []))) false q' (by omega) (fun i hi=>impl_GroupOf_1w false _ _ (hql i hi) (by omega)),by decide,rfl,rfl,⟨⟨rfl,trivial⟩,trivial⟩,fun h5=>?_,fun h5=>?_⟩
     .rcases c6 with ⟨_,c6⟩|⟨c6,_⟩
      .exact ⟨((j+1:Nat):Int),w64_eq (by omega) (by omega) (by omega),(j+1,q'),⟨by dsimp only;omega,c6⟩,by dsimp only;omega,⟨rfl,rfl⟩,⟨rfl,rfl,rfl,rfl,rfl,rfl,rfl,trivial⟩,rfl,trivial⟩
      .rw [c6] at h5;cases h5
     .rcases c6 with ⟨c6,_⟩|⟨_,c8,c6⟩
      .rw [c6] at h5;cases h5
      .refine ⟨fun h6=>by dsimp only at h6;omega,fun _=>?_⟩
       have hap:ApW q' [exL (q'.getD a []) (gens.getD j [])]:=⟨Nat.le_refl 1,fun x hx y hy=>by
        rw [List.mem_singleton.1 hy]
        obtain ⟨i,hi,rfl⟩:=List.getElem_of_mem hx
        have h8:=c5 i hi
        rw [getD_get _ _ _ hi] at h8
        refine .inr ⟨by omega,fun e=>?_⟩
        rw [List.any_eq_true.2 ⟨_,List.getElem_mem hi,decide_eq_true e⟩] at h5
        cases h5⟩
       refine ⟨rfl,rfl,by decide,false,?_⟩
       refine ⟨rfl,Nat.zero_le _,rfl,by simp only [List.length_cons,List.length_nil];omega,rfl,hap,?_⟩
       exact ⟨((j+1:Nat):Int),w64_eq (by omega) (by omega) (by omega),(j+1,q'++[exL (q'.getD a []) (gens.getD j [])]),⟨by dsimp only;omega,c6⟩,by dsimp only;omega,⟨rfl,rfl⟩,⟨rfl,rfl,rfl,rfl,rfl,rfl,rfl,trivial⟩,rfl,trivial⟩
    .dsimp only at h4
     obtain rfl:j=gens.length:=by omega
     rw [List.drop_length] at hin
     obtain rfl:o=q':=(Option.some.inj hin).symm
     exact ⟨((a+1:Nat):Int),w64_eq (by omega) (by omega) (by omega),(a+1,o),⟨by dsimp only;omega,by dsimp only;rw [show 200-(a+1)=f from by omega];exact hR2⟩,by dsimp only;omega,⟨rfl,rfl⟩,⟨rfl,rfl,rfl,rfl,trivial⟩,rfl,trivial⟩
   .omega
  .dsimp only at h3
   rcases hcase with ⟨haq,_⟩|⟨_,rfl⟩
   .omega
   .have hRl:=hp.length_eq
    refine ⟨[0],false,_,_,slices_SortFunc_sw 29 3 q S (by omega) (by intro e;rw [e] at hRl;exact hS.2.1 (List.length_eq_zero_iff.1 hRl)) (fun x hx=>hS.2.2 x (hp.symm.subset hx)) hp hs,by decide,rfl,rfl,⟨⟨hRl,rfl,rfl⟩,trivial⟩,?_⟩
    exact ⟨some 0,⟨⟨rfl,rfl⟩,rfl,trivial⟩,⟨rfl,rfl⟩,rfl⟩
end Go.Proofs.YtacjiemkbhhhoaaGreatDoor
namespace Go.Proofs.YtacjiemkbhhhoaaGreatDoor
open Go Go.Proofs.YtacjiemkbhhhoaaGreatDoor.Ow
theorem impl_IdentityPerm_no (n:Int) (h:¬(1<=n/\n<=10)):AC Tryz.prog 135 [I n] [] [.nil] []:=by
 refine AC_of tauOk 24 0 [2] Tryz.func135 rfl (by kernel_rfl) rfl rfl rfl rfl rfl ?_
 refine ⟨fun _=>?_,fun h1=>?_⟩
 .exact ⟨none,⟨rfl,trivial⟩,rfl,rfl⟩
 .refine ⟨fun _=>?_,fun h2=>?_⟩
  .exact ⟨none,⟨rfl,trivial⟩,rfl,rfl⟩
  .exact (h (by omega)).elim
theorem impl_turn_no (n:Int) (h:¬(1<=n/\n<=10)):AC Tryz.prog 56 [I n] [] [.nil] []:=by
 refine AC_of tauOk 21 0 [2] Tryz.func56 rfl (by kernel_rfl) rfl rfl rfl rfl rfl ?_
 refine ⟨[],false,_,_,impl_IdentityPerm_no n h,nd0,rfl,rfl,trivial,?_⟩
 refine ⟨Unit,fun _=>⟨[(0,I n),(3,.nil),(8,I 0),(9,I 0)],[]⟩,fun _=>True,fun _=>0,(),trivial,
  ⟨⟨rfl,rfl⟩,⟨rfl,rfl,rfl,rfl,trivial⟩,trivial⟩,fun _ _=>?_⟩
 refine ⟨fun h1=>by omega,fun h1=>?_⟩
 exact ⟨none,⟨rfl,trivial⟩,rfl,rfl⟩
theorem slices_Reverse_nil:AC Tryz.prog 145 [.nil] [] [] []:=by
 refine AC_of tauOk 28 0 [] Tryz.func145 rfl (by kernel_rfl) rfl rfl rfl rfl rfl ?_
 refine ⟨-1,w64_in _ (by omega) (by omega),?_⟩
 refine ⟨Unit,fun _=>⟨[(0,.nil),(2,I 0),(3,I (-1))],[]⟩,fun _=>True,fun _=>0,(),trivial,
  ⟨⟨rfl,rfl⟩,⟨rfl,rfl,rfl,trivial⟩,trivial⟩,fun _ _=>?_⟩
 refine ⟨fun h1=>by omega,fun h1=>?_⟩
 exact ⟨none,trivial,rfl,rfl⟩
theorem impl_GroupOf_n (sh:Bool) (n:Int) (gens:List (List Int)) (h:¬(1<=n/\n<=10)):AC Tryz.prog 55 [I n,.d sh (.sl (.sl .int)) gens] [] [.nil,.d true .bool false] []:=by
 refine AC_of tauOk 70 0 [4,5] Tryz.func55 rfl (by kernel_rfl) rfl rfl rfl rfl rfl ?_
 refine ⟨fun _=>?_,fun h1=>?_⟩
 .exact ⟨none,⟨rfl,rfl,trivial⟩,rfl,rfl⟩
 .refine ⟨fun _=>?_,fun h2=>?_⟩
  .exact ⟨none,⟨rfl,rfl,trivial⟩,rfl,rfl⟩
  .exact (h (by omega)).elim
def genB (n:Nat) (gens:List (List Int)):Bool:=gens.all fun p=>permB p && decide (p.length=n)
theorem impl_GroupOf_g (sh:Bool) (n:Nat) (h1:1<=n) (hn:n<11) (gens:List (List Int)) (hl:gens.length<=1048576) (hx:∀i,i<gens.length->(gens.getD i []).length<=1048576) (hB:genB n gens=false):
 AC Tryz.prog 55 [I (n:Nat),.d sh (.sl (.sl .int)) gens] [] [.nil,.d true .bool false] []:=by
 refine AC_of tauOk 70 0 [4,5] Tryz.func55 rfl (by kernel_rfl) rfl rfl rfl rfl rfl ?_
 refine ⟨fun h=>by omega,fun _=>?_⟩
 refine ⟨fun h=>by omega,fun _=>?_⟩
 refine ⟨Nat,fun k=>⟨[(0,I (n:Nat)),(1,.d sh (.sl (.sl .int)) gens),(19,.d sh (.sl (.sl .int)) gens),(20,I gens.length),(21,I (k:Nat))],[]⟩,fun k=>k<=gens.length/\genB n (gens.take k)=true,fun k=>gens.length-k,0,⟨Nat.zero_le _,rfl⟩,
  ⟨⟨rfl,rfl⟩,⟨rfl,rfl,rfl,rfl,rfl,trivial⟩,trivial⟩,?_⟩
 rintro k ⟨hk,hg⟩
 refine ⟨fun h2=>?_,fun h2=>?_⟩
 .have hk2:k<gens.length:=by omega
  refine ⟨k,rfl,hk2,[],false,_,_,impl_PermOk sh (gens.getD k []) (hx k hk2),nd0,rfl,rfl,trivial,fun h3=>?_,fun h3=>?_⟩
  .refine ⟨fun h4=>?_,fun h4=>?_⟩
   .exact ⟨none,⟨rfl,rfl,trivial⟩,rfl,rfl⟩
   .refine ⟨((k+1:Nat):Int),w64_eq (by omega) (by omega) (by omega),k+1,⟨by omega,?_⟩,by dsimp only;omega,⟨rfl,rfl⟩,⟨rfl,rfl,rfl,rfl,rfl,trivial⟩,trivial⟩
    unfold genB at hg ⊢
    rw [L_succ gens k [] hk2,List.all_append,hg,List.all_cons,h3,decide_eq_true (show (gens.getD k []).length=n by omega)];rfl
  .exact ⟨none,⟨rfl,rfl,trivial⟩,rfl,rfl⟩
 .obtain rfl:k=gens.length:=by omega
  rw [List.take_length,hB] at hg
  cases hg
theorem impl_CyclicGroup_no (n:Int) (h:¬(1<=n/\n<=10)):AC Tryz.prog 27 [I n] [] [.nil,.d true .bool false] []:=by
 refine AC_of tauOk 11 0 [2,3] Tryz.func27 rfl (by kernel_rfl) rfl rfl rfl rfl rfl ?_
 refine ⟨[],false,_,_,impl_turn_no n h,nd0,rfl,rfl,trivial,rfl,by decide,false,?_⟩
 refine ⟨[],false,_,_,impl_GroupOf_n true n [[]] h,nd0,rfl,rfl,trivial,nofun,fun _=>?_⟩
 exact ⟨none,⟨rfl,rfl,trivial⟩,rfl,rfl⟩
theorem impl_DihedralGroup_no (n:Int) (h:¬(1<=n/\n<=10)):AC Tryz.prog 60 [I n] [] [.nil,.d true .bool false] []:=by
 refine AC_of tauOk 17 0 [2,3] Tryz.func60 rfl (by kernel_rfl) rfl rfl rfl rfl rfl ?_
 refine ⟨[],false,_,_,impl_IdentityPerm_no n h,nd0,rfl,rfl,trivial,?_⟩
 refine ⟨[],false,_,_,slices_Reverse_nil,nd0,rfl,rfl,trivial,?_⟩
 refine ⟨[],false,_,_,impl_turn_no n h,nd0,rfl,rfl,trivial,rfl,by decide,false,?_⟩
 refine ⟨[],false,_,_,impl_GroupOf_n true n [[],[]] h,nd0,rfl,rfl,trivial,nofun,fun _=>?_⟩
 exact ⟨none,⟨rfl,rfl,trivial⟩,rfl,rfl⟩
theorem impl_SymmetricGroup_no (n:Int) (h:¬(1<=n/\n<=5)):AC Tryz.prog 61 [I n] [] [.nil,.d true .bool false] []:=by
 refine AC_of tauOk 27 0 [2,3] Tryz.func61 rfl (by kernel_rfl) rfl rfl rfl rfl rfl ?_
 refine ⟨fun _=>?_,fun h1=>?_⟩
 .exact ⟨none,⟨rfl,rfl,trivial⟩,rfl,rfl⟩
 .refine ⟨fun _=>?_,fun h2=>?_⟩
  .exact ⟨none,⟨rfl,rfl,trivial⟩,rfl,rfl⟩
  .exact (h (by omega)).elim
def sdgI (k:Int):Int:=if k=1 then 4 else if k=2\/k=3 then 6 else if k=4 then 8 else 0
theorem impl_SolidDegree (k:Int):AC Tryz.prog 151 [I k] [] [I (sdgI k)] []:=by
 refine AC_of tauOk 11 0 [2] Tryz.func151 rfl (by kernel_rfl) rfl rfl rfl rfl rfl ?_
 refine ⟨fun h1=>?_,fun h1=>?_⟩
 .exact ⟨none,⟨retI (by rw [sdgI,if_pos h1]),trivial⟩,rfl,rfl⟩
 .refine ⟨fun h2=>?_,fun h2=>?_⟩
  .exact ⟨none,⟨retI (by rw [sdgI,if_neg h1,if_pos (.inl h2)]),trivial⟩,rfl,rfl⟩
  .refine ⟨fun h3=>?_,fun h3=>?_⟩
   .exact ⟨none,⟨retI (by rw [sdgI,if_neg h1,if_pos (.inr h3)]),trivial⟩,rfl,rfl⟩
   .refine ⟨fun h4=>?_,fun h4=>?_⟩
    .exact ⟨none,⟨retI (by rw [sdgI,if_neg h1,if_neg (by omega),if_pos h4]),trivial⟩,rfl,rfl⟩
    .exact ⟨none,⟨retI (by rw [sdgI,if_neg h1,if_neg (by omega),if_neg h4]),trivial⟩,rfl,rfl⟩
structure QI (n:Nat) (q:List (List Int)):Prop where
 l1:1<=q.length
 l2:q.length<=120
 el:∀x∈q,PnP n x
theorem QI.get {n:Nat} {q:List (List Int)} (h:QI n q) {i:Nat} (hi:i<q.length):PnP n (q.getD i []):=by
 rw [getD_get _ _ _ hi];exact h.el _ (List.getElem_mem hi)
theorem innI_step {n a:Nat} {g:List Int} {gs q:List (List Int)} (h:QI n q) (ha:a<q.length):innI n a (g::gs) q=if (q.any fun x=>decide (x=exL (q.getD a []) g))=true then innI n a gs q
 else if q.length=120 then none else innI n a gs (q++[exL (q.getD a []) g]):=by
 rw [innI,if_pos ⟨⟨h.l2,ha⟩,okP_of (h.get ha),by rw [List.all_eq_true];exact fun x hx=>decide_eq_true (h.el x hx).2⟩]
theorem QI.add {n:Nat} {q:List (List Int)} (h:QI n q) (h120:q.length≠120) {a:Nat} (ha:a<q.length) {g:List Int} (hg:PnP n g):QI n (q++[exL (q.getD a []) g]):=by
 have:=h.l2
 refine ⟨by simp,by simp;omega,fun x hx=>?_⟩
 rcases List.mem_append.1 hx with hx|hx
 .exact h.el x hx
 .rw [List.mem_singleton.1 hx];exact perm_ex (h.get ha) hg
theorem innI_inv {n a:Nat}:∀(gs q o:List (List Int)),GenQ n gs->QI n q->a<q.length->innI n a gs q=some o->QI n o/\a<o.length
 |[],q,o,_,h,ha,he=>by rw [innI] at he;cases he;exact ⟨h,ha⟩
 |g::gs,q,o,hg,h,ha,he=>by
  rw [innI_step h ha] at he
  have hg2:GenQ n gs:=fun s hs=>hg s (by simp [hs])
  split at he
  .exact innI_inv gs q o hg2 h ha he
  .split at he
   .cases he
   .rename_i h120
    exact innI_inv gs _ o hg2 (h.add h120 ha (hg g (by simp))) (by simp;omega) he
theorem bfsI_inv {n:Nat} {gens:List (List Int)} (hg:GenQ n gens):∀(f a:Nat) (q R:List (List Int)),QI n q->bfsI n gens f a q=some R->QI n R
 |0,a,q,R,_,h=>by rw [bfsI] at h;cases h
 |f+1,a,q,R,hq,h=>by
  rw [bfsI] at h
  split at h
  .rename_i ha
   cases hi:innI n a gens q with
   |none=>rw [hi] at h;cases h
   |some o=>rw [hi] at h;exact bfsI_inv hg f (a+1) o R (innI_inv gens q o hg hq ha hi).1 h
  .cases h;exact hq
theorem gen_q {n:Nat} {gens:List (List Int)} (hg:GenP n gens):GenQ n gens:=fun s hs=>by
 obtain ⟨i,hi,rfl⟩:=List.getElem_of_mem hs
 have:=hg.2 i hi
 rw [getD_get _ _ _ hi] at this
 exact ⟨(permB_iff _).1 this.1,this.2⟩
theorem QI0 {n:Nat} (h1:1<=n) (h2:n<=10):QI n [idL n]:=⟨Nat.le_refl 1,(show 1<=120 by decide),fun x hx=>by rw [List.mem_singleton.1 hx];exact id_perm h1 h2⟩
def grpO (n:Nat) (gens:List (List Int)):Option (List (List Int)):=(bfsI n gens 200 0 [idL n]).map srtL
theorem impl_GroupOf_some (sh:Bool) (n:Nat) (gens G:List (List Int)) (h1:1<=n) (hn:n<11) (hg:GenP n gens) (hG:grpO n gens=some G):
 AC Tryz.prog 55 [I (n:Nat),.d sh (.sl (.sl .int)) gens] [] [.ow 0,.d true .bool true] [.sl 29 (.sw 3 true) G]:=by
 unfold grpO at hG
 cases hR:bfsI n gens 200 0 [idL n] with
 |none=>rw [hR] at hG;cases hG
 |some R=>
  rw [hR] at hG
  cases hG
  have hQ:=bfsI_inv (gen_q hg) _ _ _ _ (QI0 h1 (by omega)) hR
  have hp:=srtL_p R
  have hl:=hp.length_eq
  have h3:=hQ.l1
  have h4:=hQ.l2
  exact impl_GroupOf_w sh n gens R (srtL R) h1 hn hg hR hp (srtL_s R) ⟨by omega,fun e=>by rw [e] at hl;simp at hl;omega,fun x hx=>by
   have h5:=(hQ.el x (hp.subset hx)).2
   exact ⟨fun e=>by rw [e] at h5;simp at h5;omega,by omega⟩⟩
theorem impl_GroupOf_none (sh:Bool) (n:Nat) (gens:List (List Int)) (h1:1<=n) (hn:n<11) (hg:GenP n gens) (hG:grpO n gens=none):
 AC Tryz.prog 55 [I (n:Nat),.d sh (.sl (.sl .int)) gens] [] [.nil,.d true .bool false] []:=by
 have hR:bfsI n gens 200 0 [idL n]=none:=by
  unfold grpO at hG
  cases hR:bfsI n gens 200 0 [idL n] with
  |none=>rfl
  |some R=>rw [hR] at hG;cases hG
 have hgl:=hg.1
 have hgq:=gen_q hg
 refine AC_of (tauSOk true) 70 0 [4,5] Tryz.func55 rfl (by kernel_rfl) rfl rfl rfl rfl rfl ?_
 refine ⟨fun h=>by omega,fun _=>?_⟩
 refine ⟨fun h=>by omega,fun _=>?_⟩
 refine ⟨Nat,fun k=>⟨[(0,I (n:Nat)),(1,.d sh (.sl (.sl .int)) gens),(19,.d sh (.sl (.sl .int)) gens),(20,I gens.length),(21,I (k:Nat))],[]⟩,fun k=>k<=gens.length,fun k=>gens.length-k,0,Nat.zero_le _,
  ⟨⟨rfl,rfl⟩,⟨rfl,rfl,rfl,rfl,rfl,trivial⟩,trivial⟩,fun k hk=>?_⟩
 dsimp only at hk
 refine ⟨fun h2=>?_,fun h2=>?_⟩
 .have hk2:k<gens.length:=by omega
  have hp:=hg.2 k hk2
  refine ⟨k,rfl,hk2,[],false,_,_,impl_PermOk sh (gens.getD k []) (by omega),nd0,rfl,rfl,trivial,fun h3=>?_,fun h3=>by rw [hp.1] at h3;cases h3⟩
  refine ⟨fun h4=>(h4 (by omega)).elim,fun _=>?_⟩
  exact ⟨((k+1:Nat):Int),w64_eq (by omega) (by omega) (by omega),k+1,by dsimp only;omega,by dsimp only;omega,⟨rfl,rfl⟩,⟨rfl,rfl,rfl,rfl,rfl,trivial⟩,trivial⟩
 .clear h2
  refine ⟨[],false,_,_,AC.frzw1 (d:=false) (impl_IdentityPerm n h1 (by omega)),nd0,rfl,rfl,trivial,?_⟩
  refine ⟨rfl,by decide,true,Nat.le_refl 1,?_⟩
  refine ⟨Nat × List (List Int),fun i=>⟨[(0,I (n:Nat)),(1,.d sh (.sl (.sl .int)) gens),(8,.ow 0),(9,I (i.1:Nat))],[.sl 29 (.sw 3 true) i.2]⟩,
   fun i=>(i.1<=i.2.length/\QI n i.2)/\bfsI n gens (200-i.1) i.1 i.2=none,fun i=>200-i.1,(0,[idL n]),⟨⟨Nat.zero_le _,QI0 h1 (by omega)⟩,hR⟩,
   ⟨⟨rfl,rfl⟩,⟨rfl,rfl,rfl,rfl,trivial⟩,rfl,trivial⟩,?_⟩
  rintro ⟨a,q⟩ ⟨⟨ha,hQ⟩,hb⟩
  dsimp only at ha hQ hb
  have hq2:=hQ.l2
  obtain ⟨f,hf⟩:∃f,200-a=f+1:=⟨199-a,by omega⟩
  rw [hf,bfsI] at hb
  refine ⟨fun h3=>?_,fun h3=>?_⟩
  .dsimp only at h3
   have haq:a<q.length:=by omega
   rw [if_pos haq] at hb
   refine ⟨Nat × List (List Int),fun i=>⟨[(0,I (n:Nat)),(1,.d sh (.sl (.sl .int)) gens),(8,.ow 0),(9,I (a:Nat)),(44,.d sh (.sl (.sl .int)) gens),(45,I gens.length),(46,I (i.1:Nat))],[.sl 29 (.sw 3 true) i.2]⟩,
    fun i=>(i.1<=gens.length/\a<i.2.length/\QI n i.2)/\innI n a (gens.drop i.1) i.2=innI n a gens q,fun i=>gens.length-i.1,(0,q),⟨⟨Nat.zero_le _,haq,hQ⟩,rfl⟩,
    ⟨⟨rfl,rfl⟩,⟨rfl,rfl,rfl,rfl,rfl,rfl,rfl,trivial⟩,rfl,trivial⟩,?_⟩
   rintro ⟨j,q'⟩ ⟨⟨hj,ha',hQ'⟩,hin⟩
   dsimp only at hj ha' hQ' hin
   have hq2':=hQ'.l2
   refine ⟨fun h4=>?_,fun h4=>?_⟩
   .dsimp only at h4
    have hj2:j<gens.length:=by omega
    have hp:=hg.2 j hj2
    rw [drop_c gens j [] hj2,innI_step hQ' ha'] at hin
    have hPa:=hQ'.get ha'
    have hgj:PnP n (gens.getD j []):=⟨(permB_iff _).1 hp.1,hp.2⟩
    have hel:=exL_len (q'.getD a []) (gens.getD j [])
    have hal:=hPa.2
    refine ⟨j,rfl,hj2,a,rfl,ha',?_⟩
    refine ⟨[],false,_,_,AC.frzw1 (d:=false) (impl_compose true sh (q'.getD a []) (gens.getD j []) (by omega) (fun i hi=>by have:=(hPa.1.2 i hi).1;rw [hp.2];omega)),nd0,rfl,rfl,trivial,?_⟩
    have hql:∀i,i<q'.length->(q'.getD i []).length<=1048576:=fun i hi=>by have:=(hQ'.get hi).2;omega
    refine ⟨rfl,rfl,[1],false,_,_,slices_ContainsFunc_ints 138 29 (.sw 3 false) (exL (q'.getD a []) (gens.getD j [])) (fun x=>decide (x=exL (q'.getD a []) (gens.getD j []))) false q' (by omega) (fun i hi=>impl_GroupOf_1w false _ _ (hql i hi) (by omega)),by decide,rfl,rfl,⟨⟨rfl,trivial⟩,trivial⟩,fun h5=>?_,fun h5=>?_⟩
    .rw [if_pos h5] at hin
     exact ⟨((j+1:Nat):Int),w64_eq (by omega) (by omega) (by omega),(j+1,q'),⟨⟨by dsimp only;omega,ha',hQ'⟩,hin⟩,by dsimp only;omega,⟨rfl,rfl⟩,⟨rfl,rfl,rfl,rfl,rfl,rfl,rfl,trivial⟩,rfl,trivial⟩
    .rw [if_neg (by rw [h5];decide)] at hin
     refine ⟨fun h6=>?_,fun h6=>?_⟩
     .exact ⟨none,⟨rfl,rfl,trivial⟩,rfl,rfl⟩
     .dsimp only at h6
      have h120:q'.length≠120:=by omega
      rw [if_neg h120] at hin
      have hap:ApW q' [exL (q'.getD a []) (gens.getD j [])]:=⟨Nat.le_refl 1,fun x hx y hy=>by
       rw [List.mem_singleton.1 hy]
       have h8:=(hQ'.el x hx).2
       refine .inr ⟨by omega,fun e=>?_⟩
       rw [List.any_eq_true.2 ⟨_,hx,decide_eq_true e⟩] at h5
       cases h5⟩
      refine ⟨rfl,rfl,by decide,false,?_⟩
      refine ⟨rfl,Nat.zero_le _,rfl,by simp only [List.length_cons,List.length_nil];omega,rfl,hap,?_⟩
      exact ⟨((j+1:Nat):Int),w64_eq (by omega) (by omega) (by omega),(j+1,q'++[exL (q'.getD a []) (gens.getD j [])]),⟨⟨by dsimp only;omega,by simp;omega,hQ'.add h120 ha' hgj⟩,hin⟩,by dsimp only;omega,⟨rfl,rfl⟩,⟨rfl,rfl,rfl,rfl,rfl,rfl,rfl,trivial⟩,rfl,trivial⟩
   .dsimp only at h4
    obtain rfl:j=gens.length:=by omega
    rw [List.drop_length,innI] at hin
    rw [<-hin] at hb
    exact ⟨((a+1:Nat):Int),w64_eq (by omega) (by omega) (by omega),(a+1,q'),⟨⟨by dsimp only;omega,hQ'⟩,by dsimp only;rw [show 200-(a+1)=f from by omega];exact hb⟩,by dsimp only;omega,⟨rfl,rfl⟩,⟨rfl,rfl,rfl,rfl,trivial⟩,rfl,trivial⟩
  .dsimp only at h3
   rw [if_neg (by omega)] at hb
   cases hb
def gG (n:Nat) (gens:List (List Int)):List (List Int):=(grpO n gens).getD []
theorem gG_some {n:Nat} {gens:List (List Int)} (h:(bfsI n gens 200 0 [idL n]).isSome=true):grpO n gens=some (gG n gens):=by
 unfold gG grpO
 cases hb:bfsI n gens 200 0 [idL n] with
 |none=>rw [hb] at h;cases h
 |some R=>rfl
theorem gens2 {n:Nat} {a b:List Int} (ha:permB a=true/\a.length=n) (hb:permB b=true/\b.length=n):GenP n [a,b]:=by
 refine ⟨(by decide:2<=1000),fun i hi=>?_⟩
 match i,hi with
 |0,_=>exact ha
 |1,_=>exact hb
 |i+2,hi=>exact absurd hi (by simp)
theorem gens1 {n:Nat} {a:List Int} (ha:permB a=true/\a.length=n):GenP n [a]:=by
 refine ⟨(by decide:1<=1000),fun i hi=>?_⟩
 match i,hi with
 |0,_=>exact ha
 |i+1,hi=>exact absurd hi (by simp)
set_option maxRecDepth 100000 in
theorem grp_chk:∀n,n<11->1<=n->((permB (turnL n)=true/\(turnL n).length=n)/\permB (idL n).reverse=true/\(idL n).reverse.length=n)/\(bfsI n [turnL n] 200 0 [idL n]).isSome=true/\(bfsI n [turnL n,(idL n).reverse] 200 0 [idL n]).isSome=true:=by decide+kernel
theorem impl_CyclicGroup_s (n:Nat) (h1:1<=n) (hn:n<11):AC Tryz.prog 27 [I (n:Nat)] [] [.ow 0,.d true .bool true] [.sl 29 (.sw 3 true) (gG n [turnL n])]:=by
 obtain ⟨⟨c1,c2⟩,c3,c4⟩:=grp_chk n hn h1
 refine AC_of tauOk 11 0 [2,3] Tryz.func27 rfl (by kernel_rfl) rfl rfl rfl rfl rfl ?_
 refine ⟨[],true,_,_,impl_turn n h1 hn,nd0,rfl,rfl,trivial,rfl,by decide,false,?_⟩
 refine ⟨[],false,_,_,impl_GroupOf_some true n [turnL n] _ h1 hn (gens1 c1) (gG_some c3),nd0,rfl,rfl,trivial,fun _=>?_,nofun⟩
 exact ⟨some 0,⟨⟨rfl,rfl⟩,rfl,trivial⟩,⟨rfl,rfl⟩,rfl⟩
theorem impl_DihedralGroup_s (n:Nat) (h1:1<=n) (hn:n<11):AC Tryz.prog 60 [I (n:Nat)] [] [.ow 0,.d true .bool true] [.sl 29 (.sw 3 true) (gG n [turnL n,(idL n).reverse])]:=by
 obtain ⟨⟨c1,c2⟩,c3,c4⟩:=grp_chk n hn h1
 have hil:=idL_len n
 have hG:=impl_GroupOf_some true n [turnL n,(idL n).reverse] _ h1 hn (gens2 c1 c2) (gG_some c4)
 refine AC_of tauOk 17 0 [2,3] Tryz.func60 rfl (by kernel_rfl) rfl rfl rfl rfl rfl ?_
 refine ⟨[],false,_,_,impl_IdentityPerm n h1 hn,nd0,rfl,rfl,trivial,?_⟩
 refine ⟨[0],false,_,_,slices_Reverse_int 3 (idL n) (by omega),by decide,rfl,rfl,⟨⟨List.length_reverse,rfl,rfl⟩,trivial⟩,?_⟩
 refine ⟨[],true,_,_,impl_turn n h1 hn,nd0,rfl,rfl,trivial,?_⟩
 refine ⟨rfl,rfl,by decide,false,?_⟩
 refine ⟨[],false,_,_,hG,nd0,rfl,rfl,trivial,fun _=>?_,nofun⟩
 exact ⟨some 1,⟨⟨rfl,rfl⟩,rfl,trivial⟩,⟨rfl,rfl⟩,rfl⟩
theorem impl_SymmetricGroup_s (n:Nat) (h1:1<=n) (hn:n<6):AC Tryz.prog 61 [I (n:Nat)] [] [.ow 0,.d true .bool true] [.sl 29 (.sw 3 true) (gG n [turnL n,swapL n])]:=by
 have hS:=sym_ok n hn h1
 have hil:=idL_len n
 obtain ⟨o,ho,hp⟩:=hS.i
 have hG:=impl_GroupOf_some true n [turnL n,swapL n] _ h1 (by omega) (gens_ok n h1 hn) (gG_some (by rw [ho];rfl))
 generalize gG n [turnL n,swapL n]=G at*
 refine AC_of tauOk 27 0 [2,3] Tryz.func61 rfl (by kernel_rfl) rfl rfl rfl rfl rfl ?_
 refine ⟨fun h=>by omega,fun _=>?_⟩
 refine ⟨fun h=>by omega,fun _=>?_⟩
 refine ⟨[],false,_,_,impl_IdentityPerm n h1 (by omega),nd0,rfl,rfl,trivial,?_⟩
 refine ⟨fun h=>?_,fun h=>?_⟩
 .refine ⟨0,rfl,by omega,?_⟩
  refine ⟨1,rfl,by rw [List.length_set];omega,?_⟩
  rw [swapL,if_pos (by omega)] at hG
  refine ⟨[],true,_,_,impl_turn n h1 (by omega),nd0,rfl,rfl,trivial,?_⟩
  refine ⟨rfl,rfl,by decide,false,?_⟩
  refine ⟨[],false,_,_,hG,nd0,rfl,rfl,trivial,fun _=>?_,nofun⟩
  exact ⟨some 1,⟨⟨rfl,rfl⟩,rfl,trivial⟩,⟨rfl,rfl⟩,rfl⟩
 .rw [swapL,if_neg (by omega)] at hG
  refine ⟨[],true,_,_,impl_turn n h1 (by omega),nd0,rfl,rfl,trivial,?_⟩
  refine ⟨rfl,rfl,by decide,false,?_⟩
  refine ⟨[],false,_,_,hG,nd0,rfl,rfl,trivial,fun _=>?_,nofun⟩
  exact ⟨some 1,⟨⟨rfl,rfl⟩,rfl,trivial⟩,⟨rfl,rfl⟩,rfl⟩
abbrev Tr:=Int × Int × Int
def facL:List Tr:=[(0,0,1),(0,0,-1),(0,1,0),(0,-1,0),(1,0,0),(-1,0,0)]
def cor1 (i:Nat):Tr:=(2*((i % 2:Nat):Int)-1,2*((i / 2 ^ 1 % 2:Nat):Int)-1,2*((i / 2 ^ 2 % 2:Nat):Int)-1)
def corS (k:Nat):List Tr:=(List.range k).map cor1
def corL:List Tr:=corS 8
def mv1 (v:Tr):Tr:=(-v.2.1,v.1,v.2.2)
def mv2 (v:Tr):Tr:=(v.2.1,v.2.2,v.1)
def mv3 (v:Tr):Tr:=(v.1,v.2.1,-v.2.2)
def trA (v:Tr):AV:=.arr .int [v.1,v.2.1,v.2.2]
def smI (x:Int):Prop:= -1000<=x/\x<=1000
theorem impl_move1 (v:Tr) (h:smI v.2.1):AC Tryz.prog 251 [trA v] [] [trA (mv1 v)] []:=by
 refine AC_ofC tauOk 11 2 160 rfl Tryz.func251 rfl (by kernel_rfl) rfl rfl rfl ?_
 refine ⟨(by decide:0<3),(by decide:3<=1000),by decide,by decide,?_⟩
 refine ⟨1,rfl,by decide,(by decide:1<3),-v.2.1,w64_eq (by show-v.2.1=0-v.2.1;omega) (by have:=h.1;have:=h.2;omega) (by have:=h.1;have:=h.2;omega),?_⟩
 refine ⟨0,rfl,by decide,(by decide:0<3),2,rfl,by decide,(by decide:2<3),rfl,rfl,rfl,rfl,rfl,?_⟩
 exact ⟨rfl,rfl⟩
theorem impl_move2 (v:Tr):AC Tryz.prog 252 [trA v] [] [trA (mv2 v)] []:=by
 refine AC_ofC tauOk 10 2 160 rfl Tryz.func252 rfl (by kernel_rfl) rfl rfl rfl ?_
 refine ⟨(by decide:0<3),(by decide:3<=1000),by decide,by decide,?_⟩
 refine ⟨1,rfl,by decide,(by decide:1<3),?_⟩
 refine ⟨2,rfl,by decide,(by decide:2<3),0,rfl,by decide,(by decide:0<3),rfl,rfl,rfl,rfl,rfl,?_⟩
 exact ⟨rfl,rfl⟩
theorem impl_move3 (v:Tr) (h:smI v.2.2):AC Tryz.prog 253 [trA v] [] [trA (mv3 v)] []:=by
 refine AC_ofC tauOk 11 2 160 rfl Tryz.func253 rfl (by kernel_rfl) rfl rfl rfl ?_
 refine ⟨(by decide:0<3),(by decide:3<=1000),by decide,by decide,?_⟩
 refine ⟨0,rfl,by decide,(by decide:0<3),1,rfl,by decide,(by decide:1<3),2,rfl,by decide,(by decide:2<3),-v.2.2,w64_eq (by show-v.2.2=0-v.2.2;omega) (by have:=h.1;have:=h.2;omega) (by have:=h.1;have:=h.2;omega),?_⟩
 refine ⟨rfl,rfl,rfl,rfl,rfl,?_⟩
 exact ⟨rfl,rfl⟩
theorem impl_cubeMoves:AC Tryz.prog 149 [] [] [.x (.xd .fn [251,252,253])] []:=by
 refine AC_of tauOk 2 0 [0] Tryz.func149 rfl (by kernel_rfl) rfl rfl rfl rfl rfl ?_
 refine ⟨rfl,by decide,?_⟩
 exact ⟨none,⟨rfl,trivial⟩,rfl,rfl⟩
theorem impl_faces:AC Tryz.prog 147 [] [] [.x (.xd .tr facL)] []:=by
 refine AC_of tauOk 8 0 [0] Tryz.func147 rfl (by kernel_rfl) rfl rfl rfl rfl rfl ?_
 refine ⟨rfl,rfl,rfl,rfl,rfl,rfl,rfl,by decide,?_⟩
 exact ⟨none,⟨rfl,trivial⟩,rfl,rfl⟩
theorem flat3_app:∀a b:List Tr,flat3 (a++b)=flat3 a++flat3 b
 |[],_=>rfl
 |x::a,b=>by rw [List.cons_append,flat3,flat3,flat3_app a b];rfl
theorem corS_succ (k:Nat):corS (k+1)=corS k++[cor1 k]:=by rw [corS,List.range_succ,List.map_append];rfl
theorem corS_len (k:Nat):(corS k).length=k:=by rw [corS,List.length_map,List.length_range]
theorem impl_corners:AC Tryz.prog 148 [] [] [.x (.xd .tr corL)] []:=by
 refine AC.frzA (e:=160) corL ?_
 refine AC_of tauOk 27 0 [0] Tryz.func148 rfl (by kernel_rfl) rfl rfl rfl rfl rfl ?_
 refine ⟨rfl,?_⟩
 refine ⟨Nat,fun k=>⟨[(1,.x (.oa 0)),(4,I (k:Nat))],[.sl 160 .mix (flat3 (corS k))]⟩,fun k=>k<=8,fun k=>8-k,0,Nat.zero_le _,
  ⟨⟨rfl,rfl⟩,⟨rfl,rfl,trivial⟩,rfl,trivial⟩,fun k hk=>?_⟩
 dsimp only at hk
 refine ⟨fun h1=>?_,fun h1=>?_⟩
 .have hk2:k<8:=by omega
  have hd1:=Nat.div_le_self k (2 ^ 1)
  have hd2:=Nat.div_le_self k (2 ^ 2)
  have hfl:=flat3_len (corS k)
  rw [corS_len] at hfl
  refine ⟨((k % 2:Nat):Int),and1_eq _ (by omega),_,w64_in _ (by omega) (by omega),_,w64_in _ (by omega) (by omega),?_⟩
  refine ⟨by decide,((k / 2 ^ 1:Nat):Int),shr_eq k 1 (by omega),((k / 2 ^ 1 % 2:Nat):Int),and1_eq _ (by omega),_,w64_in _ (by omega) (by omega),_,w64_in _ (by omega) (by omega),?_⟩
  refine ⟨by decide,((k / 2 ^ 2:Nat):Int),shr_eq k 2 (by omega),((k / 2 ^ 2 % 2:Nat):Int),and1_eq _ (by omega),_,w64_in _ (by omega) (by omega),_,w64_in _ (by omega) (by omega),?_⟩
  refine ⟨rfl,rfl,by decide,?_⟩
  refine ⟨Nat.zero_le _,rfl,(by decide:0<1),by simp only [List.length_cons,List.length_nil];omega,rfl,?_⟩
  exact ⟨((k+1:Nat):Int),w64_eq (by omega) (by omega) (by omega),k+1,by dsimp only;omega,by dsimp only;omega,⟨rfl,rfl⟩,⟨rfl,rfl,trivial⟩,rowE (by rw [corS_succ,flat3_app];rfl),trivial⟩
 .obtain rfl:k=8:=by omega
  exact ⟨some 0,⟨⟨rfl,rfl⟩,trivial⟩,⟨rfl,rfl⟩,rfl⟩
def prmI (ps:List Tr) (x:Tr):Nat->List Int
 |0=>[]
 |k+1=>if ps.getD k (0,0,0)=x then prmI ps x k++[(k:Int)] else prmI ps x k
def prmS (ps:List Tr) (m:Tr->Tr):Nat->List Int
 |0=>[]
 |k+1=>prmS ps m k++prmI ps (m (ps.getD k (0,0,0))) ps.length
def prmL (ps:List Tr) (m:Tr->Tr):List Int:=prmS ps m ps.length
theorem prmI_len (ps:List Tr) (x:Tr):∀k,(prmI ps x k).length<=k
 |0=>Nat.le_refl _
 |k+1=>by
  have:=prmI_len ps x k
  rw [prmI]
  split
  .rw [List.length_append,List.length_singleton];omega
  .omega
theorem prmS_len (ps:List Tr) (m:Tr->Tr):∀k,(prmS ps m k).length<=k*ps.length
 |0=>by simp [prmS]
 |k+1=>by
  have:=prmS_len ps m k
  have:=prmI_len ps (m (ps.getD k (0,0,0))) ps.length
  rw [prmS,List.length_append,Nat.add_mul];omega
theorem impl_permuted (ps:List Tr) (F:Nat) (m:Tr->Tr) (hl:ps.length<=100) (hF:∀k,k<ps.length->AC Tryz.prog F [trA (ps.getD k (0,0,0))] [] [trA (m (ps.getD k (0,0,0)))] []):
 AC Tryz.prog 150 [.x (.xd .tr ps),.fn F []] [] [.ow 0] [.sl 3 .int (prmL ps m)]:=by
 refine AC_of tauOk 38 0 [4] Tryz.func150 rfl (by kernel_rfl) rfl rfl rfl rfl rfl ?_
 refine ⟨rfl,by decide,true,?_⟩
 refine ⟨Nat,fun k=>⟨[(0,.x (.xd .tr ps)),(1,.fn F []),(5,.ow 0),(12,.x (.xd .tr ps)),(13,I ps.length),(14,I (k:Nat))],[.sl 3 .int (prmS ps m k)]⟩,fun k=>k<=ps.length,fun k=>ps.length-k,0,Nat.zero_le _,
  ⟨⟨rfl,rfl⟩,⟨rfl,rfl,rfl,rfl,rfl,rfl,trivial⟩,rfl,trivial⟩,fun k hk=>?_⟩
 dsimp only at hk
 have hsl:=prmS_len ps m k
 have hsl2:k*ps.length<=100*100:=Nat.mul_le_mul (by omega) hl
 refine ⟨fun h1=>?_,fun h1=>?_⟩
 .have hk2:k<ps.length:=by omega
  have hC:=hF k hk2
  have hS:prmS ps m (k+1)=prmS ps m k++prmI ps (m (ps.getD k (0,0,0))) ps.length:=rfl
  refine ⟨k,rfl,hk2,rfl,by decide,by decide,rfl,rfl,rfl,rfl,?_⟩
  refine ⟨rfl,[],false,_,_,hC,nd0,rfl,rfl,trivial,by decide,by decide,rfl,rfl,rfl,rfl,?_⟩
  generalize ps.getD k (0,0,0)=v at*
  refine ⟨Nat,fun j=>⟨[(0,.x (.xd .tr ps)),(1,.fn F []),(5,.ow 0),(8,.ptr 2 0),(12,.x (.xd .tr ps)),(13,I ps.length),(14,I (k:Nat)),(21,.x (.xd .tr ps)),(22,I ps.length),(23,I (j:Nat))],[.sl 3 .int (prmS ps m k++prmI ps (m v) j),.sl 160 .int [v.1,v.2.1,v.2.2],.sl 160 .int [(m v).1,(m v).2.1,(m v).2.2]]⟩,fun j=>j<=ps.length,fun j=>ps.length-j,0,Nat.zero_le _,
   ⟨⟨rfl,rfl⟩,⟨rfl,rfl,rfl,rfl,rfl,rfl,rfl,rfl,rfl,rfl,trivial⟩,rowE (List.append_nil _).symm,rfl,rfl,trivial⟩,fun j hj=>?_⟩
  dsimp only at hj
  have hil:=prmI_len ps (m v) j
  refine ⟨fun h2=>?_,fun h2=>?_⟩
  .have hj2:j<ps.length:=by omega
   refine ⟨j,rfl,hj2,rfl,by decide,by decide,rfl,rfl,rfl,rfl,?_⟩
   have hP:prmI ps (m v) (j+1)=if ps.getD j (0,0,0)=m v then prmI ps (m v) j++[(j:Int)] else prmI ps (m v) j:=rfl
   refine ⟨rfl,rfl,fun h3=>?_,fun h3=>?_⟩
   .rw [if_pos (Prod.ext h3.1 (Prod.ext h3.2.1 h3.2.2))] at hP
    refine ⟨rfl,by decide,false,?_⟩
    refine ⟨rfl,Nat.zero_le _,rfl,by simp only [List.length_cons,List.length_nil,List.length_append];omega,rfl,?_⟩
    exact ⟨((j+1:Nat):Int),w64_eq (by omega) (by omega) (by omega),j+1,by dsimp only;omega,by dsimp only;omega,⟨rfl,rfl⟩,⟨rfl,rfl,rfl,rfl,rfl,rfl,rfl,rfl,rfl,rfl,trivial⟩,rowE (by rw [hP,List.append_assoc]),rfl,rfl,trivial⟩
   .rw [if_neg (fun e=>h3 (by rw [e];exact ⟨rfl,rfl,rfl⟩))] at hP
    exact ⟨((j+1:Nat):Int),w64_eq (by omega) (by omega) (by omega),j+1,by dsimp only;omega,by dsimp only;omega,⟨rfl,rfl⟩,⟨rfl,rfl,rfl,rfl,rfl,rfl,rfl,rfl,rfl,rfl,trivial⟩,rowE (by rw [hP]),rfl,rfl,trivial⟩
  .obtain rfl:j=ps.length:=by omega
   exact ⟨((k+1:Nat):Int),w64_eq (by omega) (by omega) (by omega),k+1,by dsimp only;omega,by dsimp only;omega,⟨rfl,rfl⟩,⟨rfl,rfl,rfl,rfl,rfl,rfl,trivial⟩,rowE hS.symm,trivial⟩
 .obtain rfl:k=ps.length:=by omega
  exact ⟨some 0,⟨⟨rfl,rfl⟩,trivial⟩,⟨rfl,rfl⟩,rfl⟩
def tetL (mir:Bool):List (List Int):=if mir=true then [[1,2,0,3],[0,2,3,1],[1,0,2,3]] else [[1,2,0,3],[0,2,3,1]]
def movL (mir:Bool):List (Tr->Tr):=if mir=true then [mv1,mv2,mv3] else [mv1,mv2]
def solG (k:Nat) (mir:Bool):List (List Int):=
 match k with
 |1=>tetL mir
 |2=>(tetL mir).map pactL
 |3=>(movL mir).map (prmL facL)
 |_=>(movL mir).map (prmL corL)
def solN (k:Nat):Nat:=match k with|1=>4|2=>6|3=>6|_=>8
def solL (k:Nat) (mir:Bool):List (List Int):=gG (solN k) (solG k mir)
set_option maxRecDepth 100000 in
theorem sol_chk:∀k,k<5->1<=k->∀mir:Bool,(solG k mir).length<=3/\(solG k mir).all (fun p=>permB p && decide (p.length=solN k))=true/\(bfsI (solN k) (solG k mir) 200 0 [idL (solN k)]).isSome=true:=by decide+kernel
theorem tet_chk:∀mir:Bool,(tetL mir).length<=3/\(tetL mir).all (fun p=>permB p && decide (p.length=4))=true:=by decide+kernel
theorem genP_of {n:Nat} {gs:List (List Int)} (hl:gs.length<=3) (h:gs.all (fun p=>permB p && decide (p.length=n))=true):GenP n gs:=by
 refine ⟨by omega,fun i hi=>?_⟩
 rw [List.all_eq_true] at h
 have:=h (gs.getD i []) (by rw [getD_get _ _ _ hi];exact List.getElem_mem _)
 simpa using this
theorem solid_grp (k:Nat) (hk:k<5) (h1:1<=k) (mir:Bool):AC Tryz.prog 55 [I (solN k:Nat),.d false (.sl (.sl .int)) (solG k mir)] [] [.ow 0,.d true .bool true] [.sl 29 (.sw 3 true) (solL k mir)]:=by
 obtain ⟨c1,c2,c3⟩:=sol_chk k hk h1 mir
 have hn:1<=solN k/\solN k<11:=by unfold solN;split<;>decide
 exact impl_GroupOf_some false (solN k) (solG k mir) _ hn.1 hn.2 (genP_of c1 c2) (gG_some c3)
theorem impl_SolidGroup_1 (mir:Bool):AC Tryz.prog 62 [I 1,.d true .bool mir] [] [.ow 0,.d true .bool true] [.sl 29 (.sw 3 true) (solL 1 mir)]:=by
 have hG:=solid_grp 1 (by decide) (by decide) mir
 cases mir
 .refine AC_of tauOk 75 0 [4,5] Tryz.func62 rfl (by kernel_rfl) rfl rfl rfl rfl rfl ?_
  refine ⟨rfl,by decide,true,fun _=>?_,fun h=>(h rfl).elim⟩
  refine ⟨rfl,by decide,false,rfl,by decide,false,rfl,by decide,true,?_⟩
  refine ⟨fun h=>by omega,fun _=>?_⟩
  refine ⟨[],false,_,_,impl_SolidDegree 1,nd0,rfl,rfl,trivial,[],false,_,_,hG,nd0,rfl,rfl,trivial,fun _=>?_,nofun⟩
  exact ⟨some 2,⟨⟨rfl,rfl⟩,rfl,trivial⟩,⟨rfl,rfl⟩,rfl⟩
 .refine AC_of tauOk 75 0 [4,5] Tryz.func62 rfl (by kernel_rfl) rfl rfl rfl rfl rfl ?_
  refine ⟨rfl,by decide,true,fun _=>?_,fun h=>(h rfl).elim⟩
  refine ⟨rfl,by decide,false,rfl,by decide,false,rfl,by decide,true,?_⟩
  refine ⟨rfl,by decide,false,rfl,by decide,false,rfl,Nat.zero_le _,rfl,by decide,rfl,?_⟩
  refine ⟨fun h=>by omega,fun _=>?_⟩
  refine ⟨[],false,_,_,impl_SolidDegree 1,nd0,rfl,rfl,trivial,[],false,_,_,hG,nd0,rfl,rfl,trivial,fun _=>?_,nofun⟩
  exact ⟨some 2,⟨⟨rfl,rfl⟩,rfl,trivial⟩,⟨rfl,rfl⟩,rfl⟩
theorem set_md {α:Type} (a b:List α) (x z:α) {i:Nat} (h:a.length=i):(a++z::b).set i x=a++x::b:=by
 rw [List.set_append_right _ _ (by omega),h,Nat.sub_self];rfl
theorem tet_el (mir:Bool) {i:Nat} (hi:i<(tetL mir).length):PermP ((tetL mir).getD i [])/\((tetL mir).getD i []).length=4:=by
 have h:=(tet_chk mir).2
 rw [List.all_eq_true] at h
 have:=h ((tetL mir).getD i []) (by rw [getD_get _ _ _ hi];exact List.getElem_mem _)
 simp only [Bool.and_eq_true,decide_eq_true_eq] at this
 exact ⟨(permB_iff _).1 this.1,this.2⟩
theorem impl_SolidGroup_2 (mir:Bool):AC Tryz.prog 62 [I 2,.d true .bool mir] [] [.ow 0,.d true .bool true] [.sl 29 (.sw 3 true) (solL 2 mir)]:=by
 have hG:=solid_grp 2 (by decide) (by decide) mir
 have hel:=fun i hi=>tet_el mir (i:=i) hi
 have hS:solG 2 mir=(tetL mir).map pactL:=rfl
 rw [hS] at hG
 have hl:=(tet_chk mir).1
 have loop:∀(T:List (List Int)),T.length<=3->(∀i,i<T.length->PermP (T.getD i [])/\(T.getD i []).length=4)->∀i,i<T.length->
  ((T.take i).map pactL++T.drop i).getD i []=T.getD i []/\((T.take i).map pactL++T.drop i).length=T.length/\((T.take i).map pactL++T.drop i).set i (pactL (T.getD i []))=(T.take (i+1)).map pactL++T.drop (i+1):=by
  intro T _ _ i hi
  have hl2:((T.take i).map pactL).length=i:=by rw [List.length_map,List.length_take];omega
  refine ⟨?_,by rw [List.length_append,hl2,List.length_drop];omega,?_⟩
  .rw [L_app_r _ _ _ _ (by omega),hl2,Nat.sub_self,L_drop];rfl
  .rw [drop_c T i [] hi,set_md _ _ _ _ hl2,L_succ T i [] hi,List.map_append,List.append_assoc];rfl
 cases mir
 .refine AC_of tauOk 75 0 [4,5] Tryz.func62 rfl (by kernel_rfl) rfl rfl rfl rfl rfl ?_
  refine ⟨rfl,by decide,true,fun h=>by omega,fun _=>?_⟩
  refine ⟨fun _=>?_,fun h=>(h rfl).elim⟩
  refine ⟨rfl,by decide,false,rfl,by decide,false,rfl,by decide,true,?_⟩
  refine ⟨fun _=>?_,fun h=>(h rfl).elim⟩
  refine ⟨Nat,fun i=>⟨[(0,I 2),(6,.ow 1),(28,I (tetL false:List (List Int)).length),(29,I (i:Nat))],[.sl 29 (.sl .int) [],.sl 29 (.sl .int) (((tetL false).take i).map pactL++(tetL false).drop i)]⟩,fun i=>i<=(tetL false).length,fun i=>(tetL false).length-i,0,Nat.zero_le _,
   ⟨⟨rfl,rfl⟩,⟨rfl,rfl,rfl,rfl,trivial⟩,rfl,rfl,trivial⟩,fun i hi=>?_⟩
  dsimp only at hi
  refine ⟨fun h1=>?_,fun h1=>?_⟩
  .have hi2:i<(tetL false).length:=by omega
   obtain ⟨p1,p2⟩:=hel i hi2
   obtain ⟨l1,l2,l3⟩:=loop (tetL false) hl hel i hi2
   have hPA:=impl_PairAction true ((((tetL false).take i).map pactL++(tetL false).drop i).getD i []) (by rw [l1];exact p1) (by rw [l1];omega) (by rw [l1];omega)
   refine ⟨i,rfl,by omega,?_⟩
   refine ⟨[],true,_,_,hPA,nd0,rfl,rfl,trivial,fun _=>?_,nofun⟩
   refine ⟨i,rfl,by omega,?_⟩
   exact ⟨((i+1:Nat):Int),w64_eq (by omega) (by omega) (by omega),i+1,by dsimp only;omega,by dsimp only;omega,⟨rfl,rfl⟩,⟨rfl,rfl,rfl,rfl,trivial⟩,rfl,rowE (by rw [l1];exact l3),trivial⟩
  .obtain rfl:i=(tetL false).length:=by omega
   dsimp only
   rw [List.take_length,List.drop_length,List.append_nil]
   refine ⟨[],false,_,_,impl_SolidDegree 2,nd0,rfl,rfl,trivial,[],false,_,_,hG,nd0,rfl,rfl,trivial,fun _=>?_,nofun⟩
   exact ⟨some 2,⟨⟨rfl,rfl⟩,rfl,trivial⟩,⟨rfl,rfl⟩,rfl⟩
 .refine AC_of tauOk 75 0 [4,5] Tryz.func62 rfl (by kernel_rfl) rfl rfl rfl rfl rfl ?_
  refine ⟨rfl,by decide,true,fun h=>by omega,fun _=>?_⟩
  refine ⟨fun _=>?_,fun h=>(h rfl).elim⟩
  refine ⟨rfl,by decide,false,rfl,by decide,false,rfl,by decide,true,?_⟩
  refine ⟨rfl,by decide,false,rfl,by decide,false,rfl,Nat.zero_le _,rfl,by decide,rfl,?_⟩
  refine ⟨fun _=>?_,fun h=>(h rfl).elim⟩
  refine ⟨Nat,fun i=>⟨[(0,I 2),(6,.ow 1),(28,I (tetL true:List (List Int)).length),(29,I (i:Nat))],[.sl 29 (.sl .int) [],.sl 29 (.sl .int) (((tetL true).take i).map pactL++(tetL true).drop i)]⟩,fun i=>i<=(tetL true).length,fun i=>(tetL true).length-i,0,Nat.zero_le _,
   ⟨⟨rfl,rfl⟩,⟨rfl,rfl,rfl,rfl,trivial⟩,rfl,rfl,trivial⟩,fun i hi=>?_⟩
  dsimp only at hi
  refine ⟨fun h1=>?_,fun h1=>?_⟩
  .have hi2:i<(tetL true).length:=by omega
   obtain ⟨p1,p2⟩:=hel i hi2
   obtain ⟨l1,l2,l3⟩:=loop (tetL true) hl hel i hi2
   have hPA:=impl_PairAction true ((((tetL true).take i).map pactL++(tetL true).drop i).getD i []) (by rw [l1];exact p1) (by rw [l1];omega) (by rw [l1];omega)
   refine ⟨i,rfl,by omega,?_⟩
   refine ⟨[],true,_,_,hPA,nd0,rfl,rfl,trivial,fun _=>?_,nofun⟩
   refine ⟨i,rfl,by omega,?_⟩
   exact ⟨((i+1:Nat):Int),w64_eq (by omega) (by omega) (by omega),i+1,by dsimp only;omega,by dsimp only;omega,⟨rfl,rfl⟩,⟨rfl,rfl,rfl,rfl,trivial⟩,rfl,rowE (by rw [l1];exact l3),trivial⟩
  .obtain rfl:i=(tetL true).length:=by omega
   dsimp only
   rw [List.take_length,List.drop_length,List.append_nil]
   refine ⟨[],false,_,_,impl_SolidDegree 2,nd0,rfl,rfl,trivial,[],false,_,_,hG,nd0,rfl,rfl,trivial,fun _=>?_,nofun⟩
   exact ⟨some 2,⟨⟨rfl,rfl⟩,rfl,trivial⟩,⟨rfl,rfl⟩,rfl⟩
theorem mov_ac (F:List Nat) (ms:List (Tr->Tr)) (mir:Bool) (hF:F=if mir=true then [251,252,253] else [251,252]) (ps:List Tr) (hp:∀v∈ps,smI v.2.1/\smI v.2.2) (hl:ps.length<=100):
 F.length=(movL mir).length/\∀i,i<F.length->AC Tryz.prog 150 [.x (.xd .tr ps),.fn (F.getD i 0) []] [] [.ow 0] [.sl 3 .int (((movL mir).map (prmL ps)).getD i [])]:=by
 have hv:∀k,k<ps.length->smI (ps.getD k (0,0,0)).2.1/\smI (ps.getD k (0,0,0)).2.2:=fun k hk=>hp _ (by rw [getD_get _ _ _ hk];exact List.getElem_mem _)
 have m1:=impl_permuted ps 251 mv1 hl fun k hk=>impl_move1 _ (hv k hk).1
 have m2:=impl_permuted ps 252 mv2 hl fun k hk=>impl_move2 _
 have m3:=impl_permuted ps 253 mv3 hl fun k hk=>impl_move3 _ (hv k hk).2
 subst hF
 cases mir
 .refine ⟨rfl,fun i hi=>?_⟩
  match i,hi with
  |0,_=>exact m1
  |1,_=>exact m2
 .refine ⟨rfl,fun i hi=>?_⟩
  match i,hi with
  |0,_=>exact m1
  |1,_=>exact m2
  |2,_=>exact m3
theorem fac_sm:∀v∈facL,smI v.2.1/\smI v.2.2:=by unfold smI;decide+kernel
theorem cor_sm:∀v∈corL,smI v.2.1/\smI v.2.2:=by unfold smI;decide+kernel
theorem impl_SolidGroup_3 (mir:Bool):AC Tryz.prog 62 [I 3,.d true .bool mir] [] [.ow 0,.d true .bool true] [.sl 29 (.sw 3 true) (solL 3 mir)]:=by
 have hG:=solid_grp 3 (by decide) (by decide) mir
 have hS:solG 3 mir=(movL mir).map (prmL facL):=rfl
 rw [hS] at hG
 obtain ⟨f1,f2⟩:=mov_ac _ (movL mir) mir rfl facL fac_sm (by decide)
 cases mir
 .have e1:([251,252]:List Nat).length=2:=rfl
  have e2:(movL false).length=2:=rfl
  refine AC_of tauOk 75 0 [4,5] Tryz.func62 rfl (by kernel_rfl) rfl rfl rfl rfl rfl ?_
  refine ⟨rfl,by decide,true,fun h=>by omega,fun _=>?_⟩
  refine ⟨fun h=>by omega,fun _=>?_⟩
  refine ⟨fun _=>?_,fun h=>(h rfl).elim⟩
  refine ⟨[],false,_,_,impl_faces,nd0,rfl,rfl,trivial,?_⟩
  refine ⟨fun h=>by omega,fun _=>?_⟩
  refine ⟨[],false,_,_,impl_cubeMoves,nd0,rfl,rfl,trivial,?_⟩
  refine ⟨2,rfl,Nat.zero_le _,by decide,?_⟩
  refine ⟨Nat,fun i=>⟨[(0,I 3),(6,.ow 0),(8,.x (.xd .tr facL)),(56,.x (.xd .fn [251,252])),(57,I ([251,252]:List Nat).length),(58,I (i:Nat))],[.sl 29 (.sl .int) (((movL false).map (prmL facL)).take i)]⟩,fun i=>i<=([251,252]:List Nat).length,fun i=>([251,252]:List Nat).length-i,0,Nat.zero_le _,
   ⟨⟨rfl,rfl⟩,⟨rfl,rfl,rfl,rfl,rfl,rfl,trivial⟩,rfl,trivial⟩,fun i hi=>?_⟩
  dsimp only at hi
  refine ⟨fun h1=>?_,fun h1=>?_⟩
  .have hi2:i<([251,252]:List Nat).length:=by omega
   have hC:=f2 i hi2
   refine ⟨i,rfl,hi2,?_⟩
   refine ⟨[],true,_,_,hC,nd0,rfl,rfl,trivial,rfl,by decide,false,rfl,Nat.zero_le _,rfl,by simp only [List.length_take,List.length_map,List.length_cons,List.length_nil];omega,rfl,?_⟩
   exact ⟨((i+1:Nat):Int),w64_eq (by omega) (by omega) (by omega),i+1,by dsimp only;omega,by dsimp only;omega,⟨rfl,rfl⟩,⟨rfl,rfl,rfl,rfl,rfl,rfl,trivial⟩,rowE (L_succ ((movL false).map (prmL facL)) i [] (by rw [List.length_map];omega)).symm,trivial⟩
  .obtain rfl:i=([251,252]:List Nat).length:=by omega
   dsimp only
   rw [List.take_of_length_le (by rw [List.length_map];omega)]
   refine ⟨[],false,_,_,impl_SolidDegree 3,nd0,rfl,rfl,trivial,[],false,_,_,hG,nd0,rfl,rfl,trivial,fun _=>?_,nofun⟩
   exact ⟨some 1,⟨⟨rfl,rfl⟩,rfl,trivial⟩,⟨rfl,rfl⟩,rfl⟩
 .have e1:([251,252,253]:List Nat).length=3:=rfl
  have e2:(movL true).length=3:=rfl
  refine AC_of tauOk 75 0 [4,5] Tryz.func62 rfl (by kernel_rfl) rfl rfl rfl rfl rfl ?_
  refine ⟨rfl,by decide,true,fun h=>by omega,fun _=>?_⟩
  refine ⟨fun h=>by omega,fun _=>?_⟩
  refine ⟨fun _=>?_,fun h=>(h rfl).elim⟩
  refine ⟨[],false,_,_,impl_faces,nd0,rfl,rfl,trivial,?_⟩
  refine ⟨fun h=>by omega,fun _=>?_⟩
  refine ⟨[],false,_,_,impl_cubeMoves,nd0,rfl,rfl,trivial,?_⟩
  refine ⟨Nat,fun i=>⟨[(0,I 3),(6,.ow 0),(8,.x (.xd .tr facL)),(56,.x (.xd .fn [251,252,253])),(57,I ([251,252,253]:List Nat).length),(58,I (i:Nat))],[.sl 29 (.sl .int) (((movL true).map (prmL facL)).take i)]⟩,fun i=>i<=([251,252,253]:List Nat).length,fun i=>([251,252,253]:List Nat).length-i,0,Nat.zero_le _,
   ⟨⟨rfl,rfl⟩,⟨rfl,rfl,rfl,rfl,rfl,rfl,trivial⟩,rfl,trivial⟩,fun i hi=>?_⟩
  dsimp only at hi
  refine ⟨fun h1=>?_,fun h1=>?_⟩
  .have hi2:i<([251,252,253]:List Nat).length:=by omega
   have hC:=f2 i hi2
   refine ⟨i,rfl,hi2,?_⟩
   refine ⟨[],true,_,_,hC,nd0,rfl,rfl,trivial,rfl,by decide,false,rfl,Nat.zero_le _,rfl,by simp only [List.length_take,List.length_map,List.length_cons,List.length_nil];omega,rfl,?_⟩
   exact ⟨((i+1:Nat):Int),w64_eq (by omega) (by omega) (by omega),i+1,by dsimp only;omega,by dsimp only;omega,⟨rfl,rfl⟩,⟨rfl,rfl,rfl,rfl,rfl,rfl,trivial⟩,rowE (L_succ ((movL true).map (prmL facL)) i [] (by rw [List.length_map];omega)).symm,trivial⟩
  .obtain rfl:i=([251,252,253]:List Nat).length:=by omega
   dsimp only
   rw [List.take_of_length_le (by rw [List.length_map];omega)]
   refine ⟨[],false,_,_,impl_SolidDegree 3,nd0,rfl,rfl,trivial,[],false,_,_,hG,nd0,rfl,rfl,trivial,fun _=>?_,nofun⟩
   exact ⟨some 1,⟨⟨rfl,rfl⟩,rfl,trivial⟩,⟨rfl,rfl⟩,rfl⟩
theorem impl_SolidGroup_4 (mir:Bool):AC Tryz.prog 62 [I 4,.d true .bool mir] [] [.ow 0,.d true .bool true] [.sl 29 (.sw 3 true) (solL 4 mir)]:=by
 have hG:=solid_grp 4 (by decide) (by decide) mir
 have hS:solG 4 mir=(movL mir).map (prmL corL):=rfl
 rw [hS] at hG
 obtain ⟨f1,f2⟩:=mov_ac _ (movL mir) mir rfl corL cor_sm (by decide)
 cases mir
 .have e1:([251,252]:List Nat).length=2:=rfl
  have e2:(movL false).length=2:=rfl
  refine AC_of tauOk 75 0 [4,5] Tryz.func62 rfl (by kernel_rfl) rfl rfl rfl rfl rfl ?_
  refine ⟨rfl,by decide,true,fun h=>by omega,fun _=>?_⟩
  refine ⟨fun h=>by omega,fun _=>?_⟩
  refine ⟨fun h=>by omega,fun _=>?_⟩
  refine ⟨fun _=>?_,fun h=>(h rfl).elim⟩
  refine ⟨[],false,_,_,impl_faces,nd0,rfl,rfl,trivial,?_⟩
  refine ⟨fun _=>?_,fun h=>(h rfl).elim⟩
  refine ⟨[],false,_,_,impl_corners,nd0,rfl,rfl,trivial,?_⟩
  refine ⟨[],false,_,_,impl_cubeMoves,nd0,rfl,rfl,trivial,?_⟩
  refine ⟨2,rfl,Nat.zero_le _,by decide,?_⟩
  refine ⟨Nat,fun i=>⟨[(0,I 4),(6,.ow 0),(8,.x (.xd .tr corL)),(56,.x (.xd .fn [251,252])),(57,I ([251,252]:List Nat).length),(58,I (i:Nat))],[.sl 29 (.sl .int) (((movL false).map (prmL corL)).take i)]⟩,fun i=>i<=([251,252]:List Nat).length,fun i=>([251,252]:List Nat).length-i,0,Nat.zero_le _,
   ⟨⟨rfl,rfl⟩,⟨rfl,rfl,rfl,rfl,rfl,rfl,trivial⟩,rfl,trivial⟩,fun i hi=>?_⟩
  dsimp only at hi
  refine ⟨fun h1=>?_,fun h1=>?_⟩
  .have hi2:i<([251,252]:List Nat).length:=by omega
   have hC:=f2 i hi2
   refine ⟨i,rfl,hi2,?_⟩
   refine ⟨[],true,_,_,hC,nd0,rfl,rfl,trivial,rfl,by decide,false,rfl,Nat.zero_le _,rfl,by simp only [List.length_take,List.length_map,List.length_cons,List.length_nil];omega,rfl,?_⟩
   exact ⟨((i+1:Nat):Int),w64_eq (by omega) (by omega) (by omega),i+1,by dsimp only;omega,by dsimp only;omega,⟨rfl,rfl⟩,⟨rfl,rfl,rfl,rfl,rfl,rfl,trivial⟩,rowE (L_succ ((movL false).map (prmL corL)) i [] (by rw [List.length_map];omega)).symm,trivial⟩
  .obtain rfl:i=([251,252]:List Nat).length:=by omega
   dsimp only
   rw [List.take_of_length_le (by rw [List.length_map];omega)]
   refine ⟨[],false,_,_,impl_SolidDegree 4,nd0,rfl,rfl,trivial,[],false,_,_,hG,nd0,rfl,rfl,trivial,fun _=>?_,nofun⟩
   exact ⟨some 1,⟨⟨rfl,rfl⟩,rfl,trivial⟩,⟨rfl,rfl⟩,rfl⟩
 .have e1:([251,252,253]:List Nat).length=3:=rfl
  have e2:(movL true).length=3:=rfl
  refine AC_of tauOk 75 0 [4,5] Tryz.func62 rfl (by kernel_rfl) rfl rfl rfl rfl rfl ?_
  refine ⟨rfl,by decide,true,fun h=>by omega,fun _=>?_⟩
  refine ⟨fun h=>by omega,fun _=>?_⟩
  refine ⟨fun h=>by omega,fun _=>?_⟩
  refine ⟨fun _=>?_,fun h=>(h rfl).elim⟩
  refine ⟨[],false,_,_,impl_faces,nd0,rfl,rfl,trivial,?_⟩
  refine ⟨fun _=>?_,fun h=>(h rfl).elim⟩
  refine ⟨[],false,_,_,impl_corners,nd0,rfl,rfl,trivial,?_⟩
  refine ⟨[],false,_,_,impl_cubeMoves,nd0,rfl,rfl,trivial,?_⟩
  refine ⟨Nat,fun i=>⟨[(0,I 4),(6,.ow 0),(8,.x (.xd .tr corL)),(56,.x (.xd .fn [251,252,253])),(57,I ([251,252,253]:List Nat).length),(58,I (i:Nat))],[.sl 29 (.sl .int) (((movL true).map (prmL corL)).take i)]⟩,fun i=>i<=([251,252,253]:List Nat).length,fun i=>([251,252,253]:List Nat).length-i,0,Nat.zero_le _,
   ⟨⟨rfl,rfl⟩,⟨rfl,rfl,rfl,rfl,rfl,rfl,trivial⟩,rfl,trivial⟩,fun i hi=>?_⟩
  dsimp only at hi
  refine ⟨fun h1=>?_,fun h1=>?_⟩
  .have hi2:i<([251,252,253]:List Nat).length:=by omega
   have hC:=f2 i hi2
   refine ⟨i,rfl,hi2,?_⟩
   refine ⟨[],true,_,_,hC,nd0,rfl,rfl,trivial,rfl,by decide,false,rfl,Nat.zero_le _,rfl,by simp only [List.length_take,List.length_map,List.length_cons,List.length_nil];omega,rfl,?_⟩
   exact ⟨((i+1:Nat):Int),w64_eq (by omega) (by omega) (by omega),i+1,by dsimp only;omega,by dsimp only;omega,⟨rfl,rfl⟩,⟨rfl,rfl,rfl,rfl,rfl,rfl,trivial⟩,rowE (L_succ ((movL true).map (prmL corL)) i [] (by rw [List.length_map];omega)).symm,trivial⟩
  .obtain rfl:i=([251,252,253]:List Nat).length:=by omega
   dsimp only
   rw [List.take_of_length_le (by rw [List.length_map];omega)]
   refine ⟨[],false,_,_,impl_SolidDegree 4,nd0,rfl,rfl,trivial,[],false,_,_,hG,nd0,rfl,rfl,trivial,fun _=>?_,nofun⟩
   exact ⟨some 1,⟨⟨rfl,rfl⟩,rfl,trivial⟩,⟨rfl,rfl⟩,rfl⟩
theorem impl_SolidGroup_no (k:Int) (mir:Bool) (h:¬(1<=k/\k<=4)):AC Tryz.prog 62 [I k,.d true .bool mir] [] [.nil,.d true .bool false] []:=by
 refine AC_of tauOk 75 0 [4,5] Tryz.func62 rfl (by kernel_rfl) rfl rfl rfl rfl rfl ?_
 refine ⟨rfl,by decide,true,fun h=>by omega,fun _=>?_⟩
 refine ⟨fun h=>by omega,fun _=>?_⟩
 refine ⟨fun h=>by omega,fun _=>?_⟩
 refine ⟨fun h=>by omega,fun _=>?_⟩
 exact ⟨none,⟨rfl,rfl,trivial⟩,rfl,rfl⟩
theorem impl_SolidGroup_yes (k:Nat) (h1:1<=k) (h4:k<5) (mir:Bool):AC Tryz.prog 62 [I (k:Nat),.d true .bool mir] [] [.ow 0,.d true .bool true] [.sl 29 (.sw 3 true) (solL k mir)]:=
 match k,h1,h4 with
 |1,_,_=>impl_SolidGroup_1 mir
 |2,_,_=>impl_SolidGroup_2 mir
 |3,_,_=>impl_SolidGroup_3 mir
 |4,_,_=>impl_SolidGroup_4 mir
end Go.Proofs.YtacjiemkbhhhoaaGreatDoor
