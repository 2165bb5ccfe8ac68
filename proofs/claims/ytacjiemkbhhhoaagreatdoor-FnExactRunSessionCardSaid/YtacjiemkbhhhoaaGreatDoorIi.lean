/-
  Part 9 of the texts that the claim rests on: Wsp1, Wspc, Wspd, Wspe, Wspf.
  No condition beyond the given program.
-/
import Derived.Test.YtacjiemkbhhhoaaGreatDoorIh
set_option linter.unusedVariables false
set_option linter.unusedSimpArgs false
namespace Go.Proofs.YtacjiemkbhhhoaaGreatDoor
open Go Go.Proofs.YtacjiemkbhhhoaaGreatDoor.Ow
def decS (t:List UInt8):Nat->Nat
 |0=>0
 |k+1=>10*decS t k+((t.getD k 0).toNat-48)
theorem decS_app (a b:List UInt8):∀k,k<=a.length->decS (a++b) k=decS a k
 |0,_=>rfl
 |k+1,h=>by
  rw [decS,decS,decS_app a b k (by omega)]
  have:(a++b).getD k 0=a.getD k 0:=by
   rw [List.getD_eq_getElem?_getD,List.getD_eq_getElem?_getD,List.getElem?_append_left (by omega)]
  rw [this]
theorem dg_v (d:Nat) (h:d<10):(dg d).toNat-48=d/\digB (dg d)=true:=by
 revert d;decide
theorem dec_fmtN:∀(k n:Nat),n<10 ^ k->decS (fmtN n) (fmtN n).length=n/\(fmtN n).all digB=true
 |0,n,h=>by
  have:n=0:=by simpa using h
  subst this
  rw [fmtN_lt 0 (by omega)];decide
 |k+1,n,h=>by
  by_cases h1:n<10
  .rw [fmtN_lt n h1]
   obtain ⟨d1,d2⟩:=dg_v n h1
   refine ⟨?_,by rw [List.all_cons,d2];rfl⟩
   show 10*0+((dg n).toNat-48)=n
   omega
  .rw [fmtN_ge n h1]
   obtain ⟨e1,e2⟩:=dec_fmtN k (n / 10) (by rw [Nat.pow_succ] at h;omega)
   obtain ⟨d1,d2⟩:=dg_v (n % 10) (by omega)
   refine ⟨?_,by rw [List.all_append,e2,List.all_cons,d2];rfl⟩
   rw [List.length_append,List.length_singleton,decS,decS_app _ _ _ (Nat.le_refl _),e1]
   have:(fmtN (n / 10)++[dg (n % 10)]).getD (fmtN (n / 10)).length 0=dg (n % 10):=by
    rw [List.getD_eq_getElem?_getD,List.getElem?_append_right (Nat.le_refl _),Nat.sub_self];rfl
   rw [this,d1];omega
theorem decS_mono (t:List UInt8) (k:Nat):∀m,k<=m->decS t k<=decS t m
 |0,h=>by rw [show k=0 by omega];exact Nat.le_refl _
 |m+1,h=>by
  by_cases e:k=m+1
  .rw [e];exact Nat.le_refl _
  .have:=decS_mono t k m (by omega)
   rw [decS];omega
theorem trim_cons (x:List UInt8):trimM (45::x)=x:=by
 unfold trimM Lib.trimPrefix
 rw [if_pos (by simp [Lib.hasPrefix])];rfl
theorem trim_dig {x:List UInt8} (h:x.all digB=true):trimM x=x:=by
 unfold trimM Lib.trimPrefix
 rw [if_neg]
 intro h2
 cases x with
 |nil=>simp [Lib.hasPrefix] at h2
 |cons c r=>
  simp [Lib.hasPrefix] at h2
  subst h2
  rw [List.all_cons] at h
  simp [digB] at h
theorem trim_eq (s:List UInt8):trimM s=if 0<s.length/\s.getD 0 0=45 then s.drop 1 else s:=by
 unfold trimM Lib.trimPrefix
 cases s with
 |nil=>rfl
 |cons c r=>
  by_cases h:c=45
  .subst h
   rw [if_pos (by simp [Lib.hasPrefix]),if_pos ⟨by simp,rfl⟩];rfl
  .rw [if_neg (by simp [Lib.hasPrefix];exact fun e=>h e.symm),if_neg (fun e=>h e.2)]
theorem fmtN_dec (n:Nat):decS (fmtN n) (fmtN n).length=n/\(fmtN n).all digB=true:=dec_fmtN n n (Nat.lt_pow_self (by decide))
theorem prs_dec {s:List UInt8} (h:prsB s=true):decS (trimM s) (trimM s).length<=9223372036854775808/\((trimM s).length=s.length->decS (trimM s) (trimM s).length<9223372036854775808):=by
 unfold prsB at h
 simp only [Bool.and_eq_true,decide_eq_true_eq] at h
 have hv:=prsV_b s
 have hs:=h.2
 generalize prsV s=v at*
 obtain ⟨d1,d2⟩:=fmtN_dec v.natAbs
 unfold fmtI at hs
 split at hs
 .rename_i hn
  subst hs
  rw [trim_cons,d1]
  exact ⟨by omega,fun e=>by simp at e⟩
 .subst hs
  rw [trim_dig d2,d1]
  exact ⟨by omega,fun _=>by omega⟩
theorem val_dec {t:List UInt8} (ht:t.all digB=true):∀k,k<=t.length->decS t k<=9223372036854775808->valS t k= -(decS t k:Nat)
 |0,_,_=>rfl
 |k+1,hk,h=>by
  have hm:=decS_mono t k (k+1) (by omega)
  have hd:digB (t.getD k 0)=true:=by
   rw [getD_get _ _ _ (by omega)]
   rw [List.all_eq_true] at ht
   exact ht _ (List.getElem_mem _)
  unfold digB at hd
  simp only [Bool.and_eq_true,decide_eq_true_eq] at hd
  rw [decS] at h
  rw [valS,val_dec ht k (by omega) (by omega)]
  rw [<-w64_eq (x:=10* -(decS t k:Nat)) rfl (by omega) (by omega)]
  rw [<-w64_eq (x:=10* -(decS t k:Nat)-(((t.getD k 0).toNat:Int)-48)) rfl (by omega) (by omega),decS]
  omega
theorem spec_IsDigits (s:List UInt8) (hl:s.length<=1048576):AC Tryz.prog 118 [.d true .str s] [] [.d true .bool (digA s)] []:=by
 refine AC_of tauOk 23 0 [2] Tryz.func118 rfl (by kernel_rfl) rfl rfl rfl rfl rfl ?_
 refine ⟨Nat,fun k=>⟨[(0,.d true .str s),(3,I (k:Nat))],[]⟩,fun k=>k<=s.length/\∀j,j<k->digB (s.getD j 0)=true,fun k=>s.length-k,0,⟨Nat.zero_le _,fun j hj=>by omega⟩,
  ⟨⟨rfl,rfl⟩,⟨rfl,rfl,trivial⟩,trivial⟩,fun k ⟨hk,hy⟩=>?_⟩
 refine ⟨fun h2=>?_,fun h2=>?_⟩
 .have hk2:k<s.length:=by omega
  have hb:=(s.getD k 0).toNat_lt
  refine ⟨k,rfl,hk2,fun h3=>?_,fun h3=>?_⟩
  .exact ⟨none,⟨retB (digA_no hk2 (by unfold digB;rw [decide_eq_false (show ¬48<=(s.getD k 0).toNat by omega)];rfl)),trivial⟩,rfl,rfl⟩
  .refine ⟨k,rfl,hk2,fun h4=>?_,fun h4=>?_⟩
   .exact ⟨none,⟨retB (digA_no hk2 (by unfold digB;rw [decide_eq_false (show ¬(s.getD k 0).toNat<=57 by omega),Bool.and_false])),trivial⟩,rfl,rfl⟩
   .refine ⟨_,w64_in _ (by omega) (by omega),k+1,⟨by omega,upto hy ?_⟩,by dsimp only;omega,⟨rfl,rfl⟩,⟨rfl,rfl,trivial⟩,trivial⟩
    unfold digB
    rw [decide_eq_true (show 48<=(s.getD k 0).toNat by omega),decide_eq_true (show (s.getD k 0).toNat<=57 by omega)];rfl
 .obtain rfl:k=s.length:=by omega
  have hall:s.all digB=true:=by
   rw [List.all_eq_true]
   intro x hx
   obtain ⟨j,hj,rfl⟩:=List.getElem_of_mem hx
   have:=hy j hj
   rwa [getD_get _ _ _ hj] at this
  refine ⟨fun h=>?_,fun h=>?_⟩
  .exact ⟨none,⟨retB (by unfold digA;rw [hall,decide_eq_true (List.length_pos_iff.1 (by omega))];rfl),trivial⟩,rfl,rfl⟩
  .exact ⟨none,⟨retB (by unfold digA;rw [hall,decide_eq_false (fun e=>h (by have:=List.length_pos_iff.2 e;omega))];rfl),trivial⟩,rfl,rfl⟩
theorem spec_ParseInt_r (s:List UInt8) (hl:s.length<=1048576) (r:List AV) (hr:prsR s=r):AC Tryz.prog 44 [.d true .str s] [] r []:=by
 have htl:=trim_len s
 have hte:=trim_eq s
 have hno:prsB s=false->r=[I 0,.d true .bool false]:=fun h=>by rw [<-hr,prsR_no h]
 have hyes:prsB s=true->r=[I (prsV s),.d true .bool true]:=fun h=>by rw [<-hr,prsR_yes h]
 have hd0:(digA (trimM s)=false\/19<(trimM s).length)->r=[I 0,.d true .bool false]:=fun h=>hno (by
  unfold prsB
  rcases h with h|h
  .unfold digA at h
   rw [h];rfl
  .rw [decide_eq_false (show ¬(trimM s).length<=19 by omega),Bool.and_false];rfl)
 have hB:digA (trimM s)=true->(trimM s).length<=19->prsB s=decide (fmtI (prsV s)=s):=fun h1 h2=>by
  unfold digA at h1
  unfold prsB
  rw [h1,decide_eq_true h2];rfl
 have hd:=fun h=>prs_dec (s:=s) h
 have hv:=fun h=>val_dec (t:=trimM s) h
 have hvv:prsV s=if (trimM s).length=s.length then w64 (-valS (trimM s) (trimM s).length) else valS (trimM s) (trimM s).length:=rfl
 have hdig:digA (trimM s)=true->(trimM s).all digB=true:=fun h=>by unfold digA at h;simp only [Bool.and_eq_true] at h;exact h.1
 have hmono:=decS_mono (trimM s)
 have hst:∀k,decS (trimM s) (k+1)=10*decS (trimM s) k+(((trimM s).getD k 0).toNat-48):=fun k=>rfl
 have hmain:∀(neg:Bool),(neg=true->(trimM s).length+1=s.length)->(neg=false->(trimM s).length=s.length)->True:=fun _ _ _=>trivial
 have hq:∀d:Int,0<=d->d<=9->(-9223372036854775808+d).tdiv 10=if d=9 then-922337203685477579 else-922337203685477580:=by
  intro d h1 h2
  have:d=0\/d=1\/d=2\/d=3\/d=4\/d=5\/d=6\/d=7\/d=8\/d=9:=by omega
  rcases this with h|h|h|h|h|h|h|h|h|h<;>subst h<;>decide
 generalize hT:trimM s=t at*
 refine AC_of tauOk 60 0 [2,3] Tryz.func44 rfl (by kernel_rfl) rfl rfl rfl rfl rfl ?_
 refine ⟨fun h0=>?_,fun h0=>?_⟩
 .refine ⟨0,rfl,by omega,fun h45=>?_,fun h45=>?_⟩
  .have e45:s.getD 0 0=45:=UInt8.toNat_inj.1 (by have:((s.getD 0 0).toNat:Int)=45:=h45;show (s.getD 0 0).toNat=45;omega)
   rw [if_pos ⟨by omega,e45⟩] at hte
   have hln:t.length+1=s.length:=by rw [hte,List.length_drop];omega
   rw [if_neg (show ¬t.length=s.length by omega)] at hvv
   refine ⟨1,rfl,by omega,Nat.le_refl _,?_⟩
   rw [List.take_length,<-hte]
   refine ⟨[],false,_,_,spec_IsDigits t (by omega),nd0,rfl,rfl,trivial,fun h1=>?_,fun h1=>?_⟩
   .refine ⟨fun h2=>?_,fun h2=>?_⟩
    .obtain rfl:=hd0 (.inr (by omega))
     exact ⟨none,⟨rfl,rfl,trivial⟩,rfl,rfl⟩
    have hdg:=hdig h1
    have hB:=hB h1 (by omega)
    refine ⟨Nat,fun k=>⟨[(0,.d true .str s),(4,.d true .bool true),(5,.d true .str t),(6,I (-(decS t k:Nat))),(7,I (k:Nat))],[]⟩,fun k=>k<=t.length/\decS t k<=9223372036854775808,fun k=>t.length-k,0,⟨Nat.zero_le _,Nat.zero_le _⟩,
     ⟨⟨rfl,rfl⟩,⟨rfl,rfl,rfl,rfl,rfl,trivial⟩,trivial⟩,fun k ⟨hk,hkd⟩=>?_⟩
    refine ⟨fun h3=>?_,fun h3=>?_⟩
    .have hk2:k<t.length:=by omega
     have hdk:digB (t.getD k 0)=true:=by
      rw [getD_get _ _ _ hk2]
      rw [List.all_eq_true] at hdg
      exact hdg _ (List.getElem_mem hk2)
     unfold digB at hdk
     simp only [Bool.and_eq_true,decide_eq_true_eq] at hdk
     have hs1:=hst k
     refine ⟨k,rfl,hk2,?_⟩
     refine ⟨((t.getD k 0).toNat:Int),w64_eq rfl (by omega) (by omega),((t.getD k 0).toNat:Int)-48,w64_eq rfl (by omega) (by omega),?_⟩
     have hq1:=hq (((t.getD k 0).toNat:Int)-48) (by omega) (by omega)
     refine ⟨-9223372036854775808+(((t.getD k 0).toNat:Int)-48),w64_eq rfl (by omega) (by omega),by decide,(-9223372036854775808+(((t.getD k 0).toNat:Int)-48)).tdiv 10,w64_eq rfl (by rw [hq1];split<;>decide) (by rw [hq1];split<;>decide),?_⟩
     rw [hq1]
     refine ⟨fun h4=>?_,fun h4=>?_⟩
     .have hov:9223372036854775808<decS t (k+1):=by split at h4<;>omega
      have hm:=hmono (k+1) t.length hk2
      obtain rfl:=hno (by
       cases hp:prsB s with
       |false=>rfl
       |true=>have:=(hd hp).1;omega)
      exact ⟨none,⟨rfl,rfl,trivial⟩,rfl,rfl⟩
     .have hov:decS t (k+1)<=9223372036854775808:=by split at h4<;>omega
      refine ⟨-(decS t k:Nat)*10,w64_eq rfl (by omega) (by omega),-(decS t (k+1):Nat),w64_eq (by omega) (by omega) (by omega),?_⟩
      exact ⟨_,w64_in _ (by omega) (by omega),k+1,⟨by omega,hov⟩,by dsimp only;omega,⟨rfl,rfl⟩,⟨rfl,rfl,rfl,rfl,rfl,trivial⟩,trivial⟩
    .obtain rfl:k=t.length:=by omega
     have hvd:=hv hdg t.length (Nat.le_refl _) hkd
     rw [hvd] at hvv
     rw [hvv] at hB hyes
     refine ⟨[],false,_,_,spec_FormatInt (-(decS t t.length:Nat)) (by omega) (by omega),nd0,rfl,rfl,trivial,fun h5=>?_,fun h5=>?_⟩
     .obtain rfl:=hno (by rw [hB,decide_eq_false h5])
      exact ⟨none,⟨rfl,rfl,trivial⟩,rfl,rfl⟩
     .obtain rfl:=hyes (by rw [hB,decide_eq_true (Decidable.not_not.1 h5)])
      exact ⟨none,⟨rfl,rfl,trivial⟩,rfl,rfl⟩
   .obtain rfl:=hd0 (.inl h1)
    exact ⟨none,⟨rfl,rfl,trivial⟩,rfl,rfl⟩
  .rw [if_neg (fun e=>h45 (by rw [e.2];rfl))] at hte
   have hln:t.length=s.length:=by rw [hte]
   rw [if_pos hln] at hvv
   subst hte
   refine ⟨[],false,_,_,spec_IsDigits t (by omega),nd0,rfl,rfl,trivial,fun h1=>?_,fun h1=>?_⟩
   .refine ⟨fun h2=>?_,fun h2=>?_⟩
    .obtain rfl:=hd0 (.inr (by omega))
     exact ⟨none,⟨rfl,rfl,trivial⟩,rfl,rfl⟩
    have hdg:=hdig h1
    have hB:=hB h1 (by omega)
    refine ⟨Nat,fun k=>⟨[(0,.d true .str t),(4,.d true .bool false),(5,.d true .str t),(6,I (-(decS t k:Nat))),(7,I (k:Nat))],[]⟩,fun k=>k<=t.length/\decS t k<=9223372036854775808,fun k=>t.length-k,0,⟨Nat.zero_le _,Nat.zero_le _⟩,
     ⟨⟨rfl,rfl⟩,⟨rfl,rfl,rfl,rfl,rfl,trivial⟩,trivial⟩,fun k ⟨hk,hkd⟩=>?_⟩
    refine ⟨fun h3=>?_,fun h3=>?_⟩
    .have hk2:k<t.length:=by omega
     have hdk:digB (t.getD k 0)=true:=by
      rw [getD_get _ _ _ hk2]
      rw [List.all_eq_true] at hdg
      exact hdg _ (List.getElem_mem hk2)
     unfold digB at hdk
     simp only [Bool.and_eq_true,decide_eq_true_eq] at hdk
     have hs1:=hst k
     refine ⟨k,rfl,hk2,?_⟩
     refine ⟨((t.getD k 0).toNat:Int),w64_eq rfl (by omega) (by omega),((t.getD k 0).toNat:Int)-48,w64_eq rfl (by omega) (by omega),?_⟩
     have hq1:=hq (((t.getD k 0).toNat:Int)-48) (by omega) (by omega)
     refine ⟨-9223372036854775808+(((t.getD k 0).toNat:Int)-48),w64_eq rfl (by omega) (by omega),by decide,(-9223372036854775808+(((t.getD k 0).toNat:Int)-48)).tdiv 10,w64_eq rfl (by rw [hq1];split<;>decide) (by rw [hq1];split<;>decide),?_⟩
     rw [hq1]
     refine ⟨fun h4=>?_,fun h4=>?_⟩
     .have hov:9223372036854775808<decS t (k+1):=by split at h4<;>omega
      have hm:=hmono (k+1) t.length hk2
      obtain rfl:=hno (by
       cases hp:prsB t with
       |false=>rfl
       |true=>have:=(hd hp).1;omega)
      exact ⟨none,⟨rfl,rfl,trivial⟩,rfl,rfl⟩
     .have hov:decS t (k+1)<=9223372036854775808:=by split at h4<;>omega
      refine ⟨-(decS t k:Nat)*10,w64_eq rfl (by omega) (by omega),-(decS t (k+1):Nat),w64_eq (by omega) (by omega) (by omega),?_⟩
      exact ⟨_,w64_in _ (by omega) (by omega),k+1,⟨by omega,hov⟩,by dsimp only;omega,⟨rfl,rfl⟩,⟨rfl,rfl,rfl,rfl,rfl,trivial⟩,trivial⟩
    .obtain rfl:k=t.length:=by omega
     have hvd:=hv hdg t.length (Nat.le_refl _) hkd
     rw [hvd,Int.neg_neg] at hvv
     refine ⟨fun h4=>?_,fun h4=>?_⟩
     .obtain rfl:=hno (by
       cases hp:prsB t with
       |false=>rfl
       |true=>have:=(hd hp).2 hln;omega)
      exact ⟨none,⟨rfl,rfl,trivial⟩,rfl,rfl⟩
     rw [<-w64_eq (x:=(decS t t.length:Nat)) rfl (by omega) (by omega)] at hvv
     rw [hvv] at hB hyes
     refine ⟨(decS t t.length:Nat),w64_eq (by omega) (by omega) (by omega),[],false,_,_,spec_FormatInt (decS t t.length:Nat) (by omega) (by omega),nd0,rfl,rfl,trivial,fun h5=>?_,fun h5=>?_⟩
     .obtain rfl:=hno (by rw [hB,decide_eq_false h5])
      exact ⟨none,⟨rfl,rfl,trivial⟩,rfl,rfl⟩
     .obtain rfl:=hyes (by rw [hB,decide_eq_true (Decidable.not_not.1 h5)])
      exact ⟨none,⟨rfl,rfl,trivial⟩,rfl,rfl⟩
   .obtain rfl:=hd0 (.inl h1)
    exact ⟨none,⟨rfl,rfl,trivial⟩,rfl,rfl⟩
 .obtain rfl:s=[]:=List.length_eq_zero_iff.1 (by omega)
  rw [if_neg (fun e=>h0 (by have:=e.1;omega))] at hte
  subst hte
  refine ⟨[],false,_,_,spec_IsDigits [] (by decide),nd0,rfl,rfl,trivial,nofun,fun h1=>?_⟩
  obtain rfl:=hd0 (.inl rfl)
  exact ⟨none,⟨rfl,rfl,trivial⟩,rfl,rfl⟩
theorem spec_ParseInt (s:List UInt8) (hl:s.length<=1048576):AC Tryz.prog 44 [.d true .str s] [] (prsR s) []:=spec_ParseInt_r s hl _ rfl
theorem byB_on1 (c x:UInt8):byB [c] x=decide (x=c):=by
 unfold byB
 simp only [Lib.indexByte]
 by_cases h:c=x
 .subst h;simp
 .simp [h,Ne.symm h]
theorem spec_SplitC (t:List UInt8) (c:UInt8) (hl:t.length<=1048576):AC Tryz.prog 40 [.d true .str t,.d true .str [c]] [] [.ow 0] [.sl 9 .str (wrdG (byB [c]) t)]:=by
 have hb:=spG_b (byB [c]) t
 refine AC_of tauOk 44 0 [4] Tryz.func40 rfl (by kernel_rfl) rfl rfl rfl rfl rfl ?_
 refine ⟨rfl,by decide,true,?_⟩
 refine ⟨Nat,fun k=>⟨[(0,.d true .str t),(1,.d true .str [c]),(5,.ow 0),(6,I ((spG (byB [c]) t k).2:Nat)),(7,I (k:Nat))],[.sl 9 .str (spG (byB [c]) t k).1]⟩,fun k=>k<=t.length,fun k=>t.length-k,0,Nat.zero_le _,
  ⟨⟨rfl,rfl⟩,⟨rfl,rfl,rfl,rfl,rfl,trivial⟩,rfl,trivial⟩,fun k hk=>?_⟩
 dsimp only at hk
 have hbk:=hb k
 refine ⟨fun h1=>?_,fun h1=>?_⟩
 .have hk2:k<t.length:=by omega
  refine ⟨Nat,fun j=>⟨[(0,.d true .str t),(1,.d true .str [c]),(5,.ow 0),(6,I ((spG (byB [c]) t k).2:Nat)),(7,I (k:Nat)),(8,I (j:Nat))],[.sl 9 .str (spG (byB [c]) t k).1]⟩,fun j=>j<=1/\(j=1->¬t.getD k 0=c),fun j=>1-j,0,⟨by decide,fun h=>by cases h⟩,
   ⟨⟨rfl,rfl⟩,⟨rfl,rfl,rfl,rfl,rfl,rfl,trivial⟩,rfl,trivial⟩,fun j ⟨hj,hjn⟩=>?_⟩
  refine ⟨fun h2=>?_,fun h2=>?_⟩
  .have hj0:j=0:=by simp only [List.length_cons,List.length_nil] at h2;omega
   subst hj0
   refine ⟨none,by kernel_rfl,k,rfl,hk2,0,rfl,Nat.one_pos,fun h3=>?_,fun h3=>?_⟩
   .have h32:t.getD k 0=c:=UInt8.toNat_inj.1 (by have:((t.getD k 0).toNat:Int)=(c.toNat:Int):=h3;omega)
    have e:spG (byB [c]) t (k+1)=((spG (byB [c]) t k).1++[(t.take k).drop (spG (byB [c]) t k).2],k+1):=by rw [spG,if_pos (show byB [c] (t.getD k 0)=true by rw [byB_on1,h32];exact decide_eq_true rfl)]
    refine ⟨(spG (byB [c]) t k).2,rfl,k,rfl,hbk.2,Nat.le_of_lt hk2,?_⟩
    refine ⟨rfl,by decide,false,?_⟩
    refine ⟨rfl,Nat.zero_le _,rfl,by simp only [List.length_cons,List.length_nil];omega,rfl,?_⟩
    refine ⟨((k+1:Nat):Int),w64_eq (by omega) (by omega) (by omega),?_⟩
    refine ⟨((k+1:Nat):Int),w64_eq (by omega) (by omega) (by omega),?_⟩
    exact ⟨k+1,by dsimp only;omega,by dsimp only;omega,⟨rfl,rfl⟩,⟨rfl,rfl,rfl,retI (by rw [e]),rfl,trivial⟩,rowE (by rw [e]),trivial⟩
   .have h32:¬t.getD k 0=c:=fun e=>h3 (by rw [e];rfl)
    exact ⟨((0+1:Nat):Int),w64_eq (by omega) (by omega) (by omega),0+1,⟨by decide,fun _=>h32⟩,by decide,⟨rfl,rfl⟩,⟨rfl,rfl,rfl,rfl,rfl,rfl,trivial⟩,rfl,trivial⟩
  .have hj1:j=1:=by simp only [List.length_cons,List.length_nil] at h2;omega
   have h32:=hjn hj1
   have e:spG (byB [c]) t (k+1)=spG (byB [c]) t k:=by rw [spG,if_neg (by rw [byB_on1,decide_eq_false h32];decide)]
   exact ⟨((k+1:Nat):Int),w64_eq (by omega) (by omega) (by omega),k+1,by dsimp only;omega,by dsimp only;omega,⟨rfl,rfl⟩,⟨rfl,rfl,rfl,retI (by rw [e]),rfl,trivial⟩,rowE (by rw [e]),trivial⟩
 .obtain rfl:k=t.length:=by omega
  refine ⟨(spG (byB [c]) t t.length).2,rfl,hbk.2,Nat.le_refl _,?_⟩
  refine ⟨rfl,by decide,false,?_⟩
  refine ⟨rfl,Nat.zero_le _,rfl,by simp only [List.length_cons,List.length_nil];omega,rfl,?_⟩
  exact ⟨some 0,⟨⟨rfl,rfl⟩,trivial⟩,⟨rfl,rowsE (by rw [List.take_length];rfl)⟩,rfl⟩
theorem spec_SplitLines (t:List UInt8) (hl:t.length<=1048576):AC Tryz.prog 36 [.d true .str t] [] [.d true (.sl .str) (lnsL t)] []:=by
 obtain ⟨h1,h2⟩:=wrdG_pos (byB [10]) t
 have hS:=spec_SplitC t 10 hl
 have hL:lnsL t=if (wrdG (byB [10]) t).getD ((wrdG (byB [10]) t).length-1) []=[] then (wrdG (byB [10]) t).take ((wrdG (byB [10]) t).length-1) else wrdG (byB [10]) t:=rfl
 generalize wrdG (byB [10]) t=W at*
 rw [hL]
 refine AC_of tauOk 19 0 [2] Tryz.func36 rfl (by kernel_rfl) rfl rfl rfl rfl rfl ?_
 refine ⟨[],true,_,_,hS,nd0,rfl,rfl,trivial,?_⟩
 refine ⟨((W.length-1:Nat):Int),w64_eq (by omega) (by omega) (by omega),W.length-1,rfl,by omega,fun h3=>?_,fun h3=>?_⟩
 .refine ⟨((W.length-1:Nat):Int),w64_eq (by omega) (by omega) (by omega),?_⟩
  rw [if_pos h3]
  refine ⟨_,rfl,Nat.zero_le _,by omega,?_⟩
  exact ⟨none,⟨rfl,trivial⟩,rfl,rfl⟩
 .rw [if_neg h3]
  exact ⟨none,⟨rfl,trivial⟩,rfl,rfl⟩
theorem spec_l02Read (t:List UInt8) (ht:t.length<=1048576) (r:List AV) (rr:List Row)
 (hno:(wrdG (byB [44]) t).all prsB=false->r=[.nil,.d true .bool false]/\rr=[]) (hyes:(wrdG (byB [44]) t).all prsB=true->r=[.ow 0,.d true .bool true]/\rr=[.sl 3 .int (prpL t)]):AC Tryz.prog 217 [.d true .str t] [] r rr:=by
 have hS:=spec_SplitC t 44 (by omega)
 have hel:=wrdG_el (byB [44]) t
 have hwl:=(wrdG_pos (byB [44]) t).2
 unfold prpL at hyes
 generalize wrdG (byB [44]) t=ws at*
 have hw:∀i,i<ws.length->(ws.getD i []).length<=1048576:=fun i hi=>by
  have:=hel (ws.getD i []) (by rw [getD_get _ _ _ hi];exact List.getElem_mem _)
  omega
 refine AC_of tauOk 30 0 [2,3] Tryz.func217 rfl (by kernel_rfl) rfl rfl rfl rfl rfl ?_
 refine ⟨rfl,by decide,true,?_⟩
 refine ⟨[],true,_,_,hS,nd0,rfl,rfl,trivial,?_⟩
 refine ⟨Nat,fun k=>⟨[(4,.ow 0),(11,.d true (.sl .str) ws),(12,I ws.length),(13,I (k:Nat))],[.sl 3 .int ((ws.take k).map prsV)]⟩,fun k=>k<=ws.length/\(ws.take k).all prsB=true,fun k=>ws.length-k,0,⟨Nat.zero_le _,rfl⟩,
  ⟨⟨rfl,rfl⟩,⟨rfl,rfl,rfl,rfl,trivial⟩,rfl,trivial⟩,?_⟩
 rintro k ⟨hk,hall⟩
 refine ⟨fun h1=>?_,fun h1=>?_⟩
 .have hk2:k<ws.length:=by omega
  have hs:=L_succ ws k [] hk2
  have htl:(ws.take k).length=k:=by rw [List.length_take];omega
  have hI:=spec_ParseInt (ws.getD k []) (hw k hk2)
  refine ⟨k,rfl,hk2,?_⟩
  cases hp:prsB (ws.getD k [])
  .rw [prsR_no hp] at hI
   refine ⟨[],false,_,_,hI,nd0,rfl,rfl,trivial,nofun,fun _=>?_⟩
   obtain ⟨rfl,rfl⟩:=hno (by
    rw [Bool.eq_false_iff]
    intro h
    rw [List.all_eq_true] at h
    have:=h (ws.getD k []) (by rw [getD_get _ _ _ hk2];exact List.getElem_mem _)
    rw [hp] at this;cases this)
   exact ⟨none,⟨rfl,rfl,trivial⟩,rfl,rfl⟩
  .rw [prsR_yes hp] at hI
   refine ⟨[],false,_,_,hI,nd0,rfl,rfl,trivial,fun _=>?_,nofun⟩
   refine ⟨rfl,by decide,false,?_⟩
   refine ⟨rfl,Nat.zero_le _,rfl,by simp only [List.length_cons,List.length_nil,List.length_map];omega,rfl,?_⟩
   exact ⟨((k+1:Nat):Int),w64_eq (by omega) (by omega) (by omega),k+1,⟨by omega,by rw [hs,List.all_append,hall,List.all_cons,hp];rfl⟩,by dsimp only;omega,⟨rfl,rfl⟩,⟨rfl,rfl,rfl,rfl,trivial⟩,rowE (by rw [hs,List.map_append];rfl),trivial⟩
 .obtain rfl:k=ws.length:=by omega
  rw [List.take_length] at hall
  dsimp only
  rw [List.take_length]
  obtain ⟨rfl,rfl⟩:=hyes hall
  exact ⟨some 0,⟨⟨rfl,rfl⟩,rfl,trivial⟩,⟨rfl,rfl⟩,rfl⟩
theorem spl_id (c:UInt8):∀t:List UInt8,Lib.join (splR (byB [c]) t) [c]=t
 |[]=>rfl
 |x::t=>by
  have ih:=spl_id c t
  rw [splR]
  have hne:=splR_ne (byB [c]) t
  cases h:splR (byB [c]) t with
  |nil=>exact (hne h).elim
  |cons a r=>
   rw [h] at ih
   by_cases hx:byB [c] x=true
   .rw [if_pos hx,join_cons2,ih]
    rw [byB_on1] at hx
    rw [of_decide_eq_true hx];rfl
   .rw [if_neg hx]
    cases r with
    |nil=>rw [join_single] at ih ⊢;rw [ih]
    |cons v r=>rw [join_cons2] at ih ⊢;rw [List.cons_append,ih]
theorem spec_FormatPerm_ok (sh:Bool) (p:List Int) (hP:PermP p):AC Tryz.prog 218 [.d sh (.sl .int) p] [] [.d true .str (fmtPm p)] []:=by
 have h1:=hP.1
 have hO:=spec_PermOk sh p (by omega)
 rw [(permB_iff p).2 hP] at hO
 refine AC_of tauOk 8 0 [2] Tryz.func218 rfl (by kernel_rfl) rfl rfl rfl rfl rfl ?_
 refine ⟨[],false,_,_,hO,nd0,rfl,rfl,trivial,fun _=>?_,nofun⟩
 refine ⟨[],false,_,_,spec_l02Join sh p (perm_fmt hP).1 (by omega),nd0,rfl,rfl,trivial,?_⟩
 exact ⟨none,⟨rfl,trivial⟩,rfl,rfl⟩
theorem prs_fmt {s:List UInt8} (h:prsB s=true):fmtI (prsV s)=s:=by
 unfold prsB at h
 simp only [Bool.and_eq_true,decide_eq_true_eq] at h
 exact h.2
theorem fmtPm_prp {t:List UInt8} (h:prpB t=true):fmtPm (prpL t)=t:=by
 unfold prpB at h
 rw [Bool.and_eq_true] at h
 have h1:=h.1
 rw [List.all_eq_true] at h1
 unfold fmtPm prpL
 have e:((wrdG (byB [44]) t).map prsV).map fmtI=wrdG (byB [44]) t:=by
  rw [List.map_map]
  exact (List.map_congr_left (fun x hx=>prs_fmt (h1 x hx))).trans (List.map_id _)
 rw [e,wrdG_eq]
 exact spl_id 44 t
theorem spec_ParsePerm_both (t:List UInt8) (ht:t.length<=1048575) (r:List AV)
 (hno:prpB t=false->r=[.nil,.d true .bool false]) (hyes:prpB t=true->r=[.d true (.sl .int) (prpL t),.d true .bool true]):AC Tryz.prog 115 [.d true .str t] [] r []:=by
 have hwl:=(wrdG_pos (byB [44]) t).2
 have hF:=fun h=>fmtPm_prp (t:=t) h
 have hR:=spec_l02Read t (by omega)
 have hpl:(prpL t).length<=1048576:=by unfold prpL;rw [List.length_map];omega
 have hpb:(wrdG (byB [44]) t).all prsB=true->prpB t=permB (prpL t):=fun h=>by unfold prpB prpL;rw [h,Bool.true_and]
 refine AC_of tauOk 25 0 [2,3] Tryz.func115 rfl (by kernel_rfl) rfl rfl rfl rfl rfl ?_
 cases hp:(wrdG (byB [44]) t).all prsB
 .refine ⟨[],false,_,_,hR _ _ (fun _=>⟨rfl,rfl⟩) (fun h=>by rw [hp] at h;cases h),nd0,rfl,rfl,trivial,?_⟩
  obtain rfl:=hno (by unfold prpB;rw [hp];rfl)
  refine ⟨nofun,fun _=>?_⟩
  exact ⟨none,⟨rfl,rfl,trivial⟩,rfl,rfl⟩
 .refine ⟨[],true,_,_,hR _ _ (fun h=>by rw [hp] at h;cases h) (fun _=>⟨rfl,rfl⟩),nd0,rfl,rfl,trivial,?_⟩
  have e:=hpb hp
  refine ⟨fun _=>?_,nofun⟩
  refine ⟨[],false,_,_,spec_PermOk true (prpL t) (by omega),nd0,rfl,rfl,trivial,fun h1=>?_,fun h1=>?_⟩
  .rw [h1] at e
   have hf:=spec_FormatPerm_ok true (prpL t) ((permB_iff _).1 h1)
   rw [hF e] at hf
   refine ⟨[],false,_,_,hf,nd0,rfl,rfl,trivial,fun h2=>(h2 rfl).elim,fun _=>?_⟩
   obtain rfl:=hyes e
   exact ⟨none,⟨rfl,rfl,trivial⟩,rfl,rfl⟩
  .obtain rfl:=hno (by rw [e,h1])
   exact ⟨none,⟨rfl,rfl,trivial⟩,rfl,rfl⟩
end Go.Proofs.YtacjiemkbhhhoaaGreatDoor
namespace Go.Proofs.YtacjiemkbhhhoaaGreatDoor
open Go Go.RowKit Go.Proofs.YtacjiemkbhhhoaaGreatDoor.Ow
theorem spec_FormatInts_nil:AC Tryz.prog 100 [.nil] [] [.d true .str (fmtL [])] []:=
 (spec_FormatInts true [] (fun i hi=>by simp at hi) (by decide)).weak fun w bs A vs=>by
  rintro ⟨v,r,rfl,h1,h2⟩
  exact ⟨v,_,rfl,V_nil h1,h2⟩
theorem spec_OrbitsOf_no (sh:Bool) (g:List (List Int)) (hgl:g.length<=1048576) (hx:∀i,i<g.length->(g.getD i []).length<=1048576) (hB:gokB g=false):AC Tryz.prog 99 [.d sh (.sl (.sl .int)) g] [] [.nil] []:=by
 have hG:=spec_GroupOk sh g hgl hx
 rw [hB] at hG
 refine AC_of tauOk 69 0 [2] Tryz.func99 rfl (by kernel_rfl) rfl rfl rfl rfl rfl ?_
 refine ⟨[],false,_,_,hG,nd0,rfl,rfl,trivial,nofun,fun _=>?_⟩
 exact ⟨none,⟨rfl,trivial⟩,rfl,rfl⟩
theorem spec_ClassesOf_no (sh:Bool) (g:List (List Int)) (hgl:g.length<=1048576) (hx:∀i,i<g.length->(g.getD i []).length<=1048576) (hB:gokB g=false):AC Tryz.prog 101 [.d sh (.sl (.sl .int)) g] [] [.nil] []:=by
 have hG:=spec_GroupOk sh g hgl hx
 rw [hB] at hG
 refine AC_of tauOk 61 0 [2] Tryz.func101 rfl (by kernel_rfl) rfl rfl rfl rfl rfl ?_
 refine ⟨[],false,_,_,hG,nd0,rfl,rfl,trivial,nofun,fun _=>?_⟩
 exact ⟨none,⟨rfl,trivial⟩,rfl,rfl⟩
theorem spec_TwoColors_no (sh:Bool) (g:List (List Int)) (hgl:g.length<=1048576) (hx:∀i,i<g.length->(g.getD i []).length<=1048576) (hB:gokB g=false):AC Tryz.prog 102 [.d sh (.sl (.sl .int)) g] [] [.nil] []:=by
 have hG:=spec_GroupOk sh g hgl hx
 rw [hB] at hG
 refine AC_of tauOk 30 0 [2] Tryz.func102 rfl (by kernel_rfl) rfl rfl rfl rfl rfl ?_
 refine ⟨[],false,_,_,hG,nd0,rfl,rfl,trivial,nofun,fun _=>?_⟩
 exact ⟨none,⟨rfl,trivial⟩,rfl,rfl⟩
theorem spec_l15Set_no (g:List (List Int)) (x:AV) (hx:x=.nil):AC Tryz.prog 117 [.d true (.sl (.sl .int)) g,x,.d true .bool false] [] [.d true (.sl (.sl .int)) g,.d true .str nonS] []:=by
 subst hx
 refine AC_of tauOk 16 0 [6,7] Tryz.func117 rfl (by kernel_rfl) rfl rfl rfl rfl rfl ?_
 exact ⟨none,⟨rfl,rfl,trivial⟩,rfl,rfl⟩
theorem spec_l15Set_yes (g G:List (List Int)) (hl:G.length<=1048576):AC Tryz.prog 117 [.d true (.sl (.sl .int)) g,.d true (.sl (.sl .int)) G,.d true .bool true] [] [.d true (.sl (.sl .int)) G,.d true .str (ordS++fmtI (G.length:Nat))] []:=by
 have hfl:=fI_len (G.length:Int) (by omega)
 refine AC_of tauOk 16 0 [6,7] Tryz.func117 rfl (by kernel_rfl) rfl rfl rfl rfl rfl ?_
 refine ⟨[],false,_,_,spec_FormatInt _ (by omega) (by omega),nd0,rfl,rfl,trivial,by simp only [List.length_cons,List.length_nil];omega,?_⟩
 exact ⟨none,⟨rfl,rfl,trivial⟩,rfl,rfl⟩
theorem spec_l15Words_no:AC Tryz.prog 226 [.nil,.d true .bool false] [] [.d true .str nonS] []:=by
 refine AC_of tauOk 9 0 [4] Tryz.func226 rfl (by kernel_rfl) rfl rfl rfl rfl rfl ?_
 exact ⟨none,⟨rfl,trivial⟩,rfl,rfl⟩
theorem spec_l15Words_yes (xss:List (List Int)) (hs:Short xss):AC Tryz.prog 226 [.d true (.sl (.sl .int)) xss,.d true .bool true] [] [.d true .str (fmtWs xss)] []:=by
 refine AC_of tauOk 9 0 [4] Tryz.func226 rfl (by kernel_rfl) rfl rfl rfl rfl rfl ?_
 refine ⟨[],false,_,_,spec_FormatWords true xss hs,nd0,rfl,rfl,trivial,?_⟩
 exact ⟨none,⟨rfl,trivial⟩,rfl,rfl⟩
theorem spec_l15One_no:AC Tryz.prog 110 [.nil,.d true .bool false] [] [.d true .str nonS] []:=by
 refine AC_of tauOk 9 0 [4] Tryz.func110 rfl (by kernel_rfl) rfl rfl rfl rfl rfl ?_
 exact ⟨none,⟨rfl,trivial⟩,rfl,rfl⟩
theorem spec_l15One_yes (xs:List Int) (hl:xs.length<=1048576):AC Tryz.prog 110 [.d true (.sl .int) xs,.d true .bool true] [] [.d true .str (formatW xs)] []:=by
 refine AC_of tauOk 9 0 [4] Tryz.func110 rfl (by kernel_rfl) rfl rfl rfl rfl rfl ?_
 refine ⟨[],false,_,_,spec_FormatWord true xs hl,nd0,rfl,rfl,trivial,?_⟩
 exact ⟨none,⟨rfl,trivial⟩,rfl,rfl⟩
def patS (g:List (List Int)) (w:List UInt8) (k:Int):List UInt8:=
 if epB g k=true then (if w=[112,97,116,116,101,114,110,115] then fmtWs (patL g k.toNat (g.getD 0 []).length) else fmtWs (expL g k.toNat (g.getD 0 []).length)) else nonS
theorem spec_l15Patterns (g:List (List Int)) (w:List UInt8) (k:Int) (hl:g.length<=1048576) (hx:∀i,i<g.length->(g.getD i []).length<=1048576):AC Tryz.prog 123 [.d true (.sl (.sl .int)) g,.d true .str w,I k] [] [.d true .str (patS g w k)] []:=by
 have hP:=spec_PatternsOf_both true g k hl hx
 have hE:=spec_ExchangePatterns_both true g k hl hx
 unfold patS
 cases hB:epB g k
 .refine AC_of tauOk 21 0 [6] Tryz.func123 rfl (by kernel_rfl) rfl rfl rfl rfl rfl ?_
  refine ⟨fun h1=>?_,fun h1=>?_⟩
  .refine ⟨[],false,_,_,hP _ _ (fun _=>⟨rfl,rfl⟩) (fun h=>by rw [hB] at h;cases h),nd0,rfl,rfl,trivial,nofun,fun _=>⟨[],false,_,_,spec_l15Words_no,nd0,rfl,rfl,trivial,?_⟩⟩
   exact ⟨none,⟨rfl,trivial⟩,rfl,rfl⟩
  .refine ⟨[],false,_,_,hE _ _ (fun _=>⟨rfl,rfl⟩) (fun h=>by rw [hB] at h;cases h),nd0,rfl,rfl,trivial,nofun,fun _=>⟨[],false,_,_,spec_l15Words_no,nd0,rfl,rfl,trivial,?_⟩⟩
   exact ⟨none,⟨rfl,trivial⟩,rfl,rfl⟩
 .obtain ⟨hG,K,hk,k1,k4,hs,hS⟩:=epB_of hB
  have h0:=g0_len hG
  obtain ⟨e1,e2⟩:=flt_ok (p:=fun w=>decide (canL g w=w)) h0.1 h0.2 k4 hs
  rw [<-patL_eq] at e1 e2
  obtain ⟨_,e4⟩:=cols_ok e1 e2
  obtain ⟨f1,f2⟩:=flt_ok (p:=fun w=>decide (cexL g w=w)) h0.1 h0.2 k4 hs
  obtain ⟨_,f4⟩:=cols_ok (xss:=expL g K (g.getD 0 []).length) f1 f2
  have hkn:k.toNat=K:=by omega
  rw [hkn] at hP hE ⊢
  rw [if_pos rfl]
  refine AC_of tauOk 21 0 [6] Tryz.func123 rfl (by kernel_rfl) rfl rfl rfl rfl rfl ?_
  refine ⟨fun h1=>?_,fun h1=>?_⟩
  .rw [if_pos h1]
   refine ⟨[],true,_,_,hP _ _ (fun h=>by rw [hB] at h;cases h) (fun _=>⟨rfl,rfl⟩),nd0,rfl,rfl,trivial,fun _=>⟨[],false,_,_,spec_l15Words_yes _ e4,nd0,rfl,rfl,trivial,?_⟩,nofun⟩
   exact ⟨none,⟨rfl,trivial⟩,rfl,rfl⟩
  .rw [if_neg h1]
   refine ⟨[],true,_,_,hE _ _ (fun h=>by rw [hB] at h;cases h) (fun _=>⟨rfl,rfl⟩),nd0,rfl,rfl,trivial,fun _=>⟨[],false,_,_,spec_l15Words_yes _ f4,nd0,rfl,rfl,trivial,?_⟩,nofun⟩
   exact ⟨none,⟨rfl,trivial⟩,rfl,rfl⟩
def allS (n k:Int):List UInt8:=if woaB n k=true then formatW ((woaL n.toNat k.toNat).take 10) else nonS
theorem spec_l15All (n k:Int):AC Tryz.prog 128 [I n,I k] [] [.d true .str (allS n k)] []:=by
 have hC:=spec_WordOfAll n k
 unfold allS
 cases hE:woaB n k
 .refine AC_of tauOk 20 0 [4] Tryz.func128 rfl (by kernel_rfl) rfl rfl rfl rfl rfl ?_
  refine ⟨[],false,_,_,hC _ _ (fun _=>⟨rfl,rfl⟩) (fun h=>by rw [hE] at h;cases h),nd0,rfl,rfl,trivial,nofun,fun _=>?_⟩
  refine ⟨0,rfl,Nat.le_refl _,Nat.le_refl _,[],false,_,_,spec_l15One_no,nd0,rfl,rfl,trivial,?_⟩
  exact ⟨none,⟨rfl,trivial⟩,rfl,rfl⟩
 .rw [if_pos rfl]
  generalize woaL n.toNat k.toNat=L at*
  have hmin:∃j:Nat,(if (10:Int)<((L.length:Nat):Int) then 10 else ((L.length:Nat):Int))=(j:Int)/\j<=L.length/\L.take j=L.take 10/\j<=10:=by
   by_cases h:10<L.length
   .exact ⟨10,by rw [if_pos (by omega)];rfl,by omega,rfl,Nat.le_refl _⟩
   .exact ⟨L.length,by rw [if_neg (by omega)],Nat.le_refl _,by rw [List.take_length,List.take_of_length_le (by omega)],by omega⟩
  obtain ⟨j,j1,j2,j3,j4⟩:=hmin
  have hF:=spec_l15One_yes ((L.take j).drop 0) (by rw [List.drop_zero,List.length_take];omega)
  have hd:(L.take j).drop 0=L.take j:=rfl
  rw [<-j3]
  refine AC_of tauOk 20 0 [4] Tryz.func128 rfl (by kernel_rfl) rfl rfl rfl rfl rfl ?_
  refine ⟨[],true,_,_,hC _ _ (fun h=>by rw [hE] at h;cases h) (fun _=>⟨rfl,rfl⟩),nd0,rfl,rfl,trivial,fun _=>?_,nofun⟩
  refine ⟨j,j1,Nat.zero_le _,j2,[],false,_,_,hF,nd0,rfl,rfl,trivial,?_⟩
  exact ⟨none,⟨rfl,trivial⟩,rfl,rfl⟩
theorem join2 (a b:List UInt8):Lib.join [a,b] [32]=(a++[32])++b:=by
 simp [Lib.join,List.intercalate]
theorem join3 (a b c:List UInt8):Lib.join [a,b,c] [32]=(((a++[32])++b)++[32])++c:=by
 simp [Lib.join,List.intercalate]
def txtS (g:List (List Int)) (w arg:List UInt8):List UInt8:=
 if w=[116,114,101,101] then (if readB arg=true then Lib.join ([treeRen (rdT arg).1,heightV (rdT arg).1].map fmtI) [32] else unkS)
 else if colB (psL arg)=true then
  (if w=[99,97,110,111,110] then (if fitB g (psL arg)=true then formatW (canL g (psL arg)) else nonS)
  else if w=[119,111,114,100] then wordLine (psL arg)
  else fmtWs (lyfL (psL arg)))
 else unkS
theorem spec_l15Text (sh:Bool) (g:List (List Int)) (w arg:List UInt8) (hl:g.length<=1048576) (hx:∀i,i<g.length->(g.getD i []).length<=1048576) (ha:arg.length<=1048576):
 AC Tryz.prog 42 [.d sh (.sl (.sl .int)) g,.d true .str w,.d true .str arg] [] [.d true .str (txtS g w arg)] []:=by
 unfold txtS
 refine AC_of tauOk 57 0 [6] Tryz.func42 rfl (by kernel_rfl) rfl rfl rfl rfl rfl ?_
 refine ⟨fun h1=>?_,fun h1=>?_⟩
 .rw [if_pos h1]
  cases hr:readB arg
  .refine ⟨[],false,_,_,spec_ReadTree_no arg hr,nd0,rfl,rfl,trivial,nofun,fun _=>?_⟩
   exact ⟨none,⟨rfl,trivial⟩,rfl,rfl⟩
  .have ht:(rdT arg).1.length<=1048576:=by
    unfold readB at hr
    simp only [Bool.and_eq_true,decide_eq_true_eq] at hr
    have:=((treeB_iff _).1 hr.2.1).1
    omega
   have hR:=spec_ReadTree arg hr
   generalize (rdT arg).1=t at*
   have hb:=height_b t ht
   have hrb:=ren_b t
   have ej:Lib.join ([treeRen t,heightV t].map fmtI) [32]=fmtI (treeRen t)++[32]++fmtI (heightV t):=join2 _ _
   have f1:=fI_len _ hrb
   have f2:=fI_len (heightV t) (by omega)
   refine ⟨[],true,_,_,hR,nd0,rfl,rfl,trivial,fun _=>?_,nofun⟩
   refine ⟨[],false,_,_,spec_TreeRenamings true t ht,nd0,rfl,rfl,trivial,[],false,_,_,spec_FormatInt _ hrb.1 hrb.2,nd0,rfl,rfl,trivial,by simp only [List.length_cons,List.length_nil];omega,?_⟩
   refine ⟨[],false,_,_,spec_HeightOf true t ht,nd0,rfl,rfl,trivial,[],false,_,_,spec_FormatInt _ (by omega) (by omega),nd0,rfl,rfl,trivial,by simp only [List.length_append,List.length_cons,List.length_nil];omega,?_⟩
   rw [if_pos rfl,ej]
   exact ⟨none,⟨rfl,trivial⟩,rfl,rfl⟩
 .rw [if_neg h1]
  cases hc:colB (psL arg)
  .refine ⟨[],false,_,_,spec_ParseWord_no arg ha hc,nd0,rfl,rfl,trivial,nofun,fun _=>?_⟩
   exact ⟨none,⟨rfl,trivial⟩,rfl,rfl⟩
  .rw [if_pos rfl]
   have hP:=(colB_iff _).1 hc
   have hR:=spec_ParseWord arg ha hc
   generalize psL arg=x at*
   have hxl:x.length<=1048576:=by have:=hP.2;omega
   refine ⟨[],true,_,_,hR,nd0,rfl,rfl,trivial,fun _=>?_,nofun⟩
   refine ⟨fun h2=>?_,fun h2=>?_⟩
   .rw [if_pos h2]
    have hC:=spec_CanonOf_both sh true g x hl hx hxl
    cases hf:fitB g x
    .refine ⟨[],false,_,_,hC _ _ (fun _=>⟨rfl,rfl⟩) (fun h=>by rw [hf] at h;cases h),nd0,rfl,rfl,trivial,nofun,fun _=>⟨[],false,_,_,spec_l15One_no,nd0,rfl,rfl,trivial,?_⟩⟩
     exact ⟨none,⟨rfl,trivial⟩,rfl,rfl⟩
    .have hF:=canL_col (fit_of hf)
     have hFl:=hF.2
     refine ⟨[],true,_,_,hC _ _ (fun h=>by rw [hf] at h;cases h) (fun _=>⟨rfl,rfl⟩),nd0,rfl,rfl,trivial,fun _=>⟨[],false,_,_,spec_l15One_yes (canL g x) (by omega),nd0,rfl,rfl,trivial,?_⟩,nofun⟩
     exact ⟨none,⟨rfl,trivial⟩,rfl,rfl⟩
   .rw [if_neg h2]
    refine ⟨fun h3=>?_,fun h3=>?_⟩
    .rw [if_pos h3]
     refine ⟨[],false,_,_,spec_WordLine true x hxl,nd0,rfl,rfl,trivial,?_⟩
     exact ⟨none,⟨rfl,trivial⟩,rfl,rfl⟩
    .rw [if_neg h3]
     obtain ⟨e1,e2⟩:=lyfL_el hP
     obtain ⟨e3,e4⟩:=cols_ok (show (lyfL x).length<=1048576 by omega) e2
     refine ⟨[],true,_,_,spec_LyndonFactors true x hP,nd0,rfl,rfl,trivial,fun _=>?_,nofun⟩
     refine ⟨[],false,_,_,spec_FormatWords true (lyfL x) e4,nd0,rfl,rfl,trivial,?_⟩
     exact ⟨none,⟨rfl,trivial⟩,rfl,rfl⟩
theorem spec_GroupOf_pq (p q:List Int) (hp:permB p=true) (hq:permB q=true):AC Tryz.prog 116 [I (p.length:Nat),.d true (.sl (.sl .int)) [p,q]] [] (grpR (genO p q)) []:=by
 have h1:=((permB_iff p).1 hp).1
 have h2:=((permB_iff q).1 hq).1
 unfold genO
 by_cases h:p.length=q.length
 .rw [if_pos h]
  have hg:GenP p.length [p,q]:=gens2 ⟨hp,rfl⟩ ⟨hq,h.symm⟩
  rw [grpO_fnd (by omega) (by omega) (gen_q hg)]
  exact spec_GroupOf_any true p.length [p,q] _ (by omega) (by omega) hg rfl
 .rw [if_neg h]
  refine AC_of tauOk 73 0 [4,5] Tryz.func116 rfl (by kernel_rfl) rfl rfl rfl rfl rfl ?_
  refine ⟨[],false,_,_,spec_l01In _ _ _,nd0,rfl,rfl,trivial,fun _=>?_,fun h=>by simp only [Bool.and_eq_false_iff,decide_eq_false_iff_not] at h;omega⟩
  refine ⟨Nat,fun k=>⟨[(0,I (p.length:Nat)),(1,.d true (.sl (.sl .int)) [p,q]),(17,.d true (.sl (.sl .int)) [p,q]),(18,I 2),(19,I (k:Nat))],[]⟩,fun k=>k<=1,fun k=>1-k,0,Nat.zero_le _,
   ⟨⟨rfl,rfl⟩,⟨rfl,rfl,rfl,rfl,rfl,trivial⟩,trivial⟩,fun k hk=>?_⟩
  dsimp only at hk
  refine ⟨fun _=>?_,fun h2=>by omega⟩
  have hk2:k<2:=by omega
  refine ⟨k,rfl,hk2,?_⟩
  have hk01:k=0\/k=1:=by omega
  rcases hk01 with rfl|rfl
  .refine ⟨[],false,_,_,spec_PermOk true p (by omega),nd0,rfl,rfl,trivial,fun _=>?_,fun h3=>by rw [hp] at h3;cases h3⟩
   refine ⟨fun h4=>(h4 rfl).elim,fun _=>?_⟩
   exact ⟨1,rfl,1,by decide,by decide,⟨rfl,rfl⟩,⟨rfl,rfl,rfl,rfl,rfl,trivial⟩,trivial⟩
  .refine ⟨[],false,_,_,spec_PermOk true q (by omega),nd0,rfl,rfl,trivial,fun _=>?_,fun h3=>by rw [hq] at h3;cases h3⟩
   refine ⟨fun _=>?_,fun h4=>(h4 fun h5=>h (by have h5:((q.length:Nat):Int)=((p.length:Nat):Int):=h5;omega)).elim⟩
   exact ⟨none,⟨rfl,rfl,trivial⟩,rfl,rfl⟩
def setR (g:List (List Int)):Option (List (List Int))->List AV
 |none=>[.d true (.sl (.sl .int)) g,.d true .str nonS]
 |some G=>[.d true (.sl (.sl .int)) G,.d true .str (ordS++fmtI (G.length:Nat))]
def gnR (g:List (List Int)) (a b:List UInt8):List AV:=
 if prpB a=true/\prpB b=true then setR g (genO (prpL a) (prpL b)) else [.d true (.sl (.sl .int)) g,.d true .str unkS]
theorem gen_len {p q:List Int} {G:List (List Int)} (hp:permB p=true) (hq:permB q=true) (h:genO p q=some G):G.length<=120:=by
 unfold genO at h
 have b1:=((permB_iff _).1 hp).1
 split at h
 .rename_i hl
  exact (perm_bd (grpO_gok (by omega) (by omega) (gen_q (gens2 ⟨hp,rfl⟩ ⟨hq,hl.symm⟩)) h)).1.2
 .cases h
theorem spec_l15Generate (g:List (List Int)) (a b:List UInt8) (ha:a.length<=1048575) (hb:b.length<=1048575):
 AC Tryz.prog 43 [.d true (.sl (.sl .int)) g,.d true .str a,.d true .str b] [] (gnR g a b) []:=by
 have P0:=spec_ParsePerm_both a ha
 have P1:=spec_ParsePerm_both b hb
 unfold gnR
 cases hp:prpB a
 .rw [if_neg (fun e=>by cases e.1)]
  refine AC_of tauOk 46 0 [6,7] Tryz.func43 rfl (by kernel_rfl) rfl rfl rfl rfl rfl ?_
  refine ⟨[],false,_,_,P0 _ (fun _=>rfl) (fun h=>by rw [hp] at h;cases h),nd0,rfl,rfl,trivial,nofun,fun _=>?_⟩
  cases hq:prpB b
  .refine ⟨[],false,_,_,P1 _ (fun _=>rfl) (fun h=>by rw [hq] at h;cases h),nd0,rfl,rfl,trivial,nofun,fun _=>?_⟩
   exact ⟨none,⟨rfl,rfl,trivial⟩,rfl,rfl⟩
  .refine ⟨[],false,_,_,P1 _ (fun h=>by rw [hq] at h;cases h) (fun _=>rfl),nd0,rfl,rfl,trivial,fun _=>?_,nofun⟩
   exact ⟨none,⟨rfl,rfl,trivial⟩,rfl,rfl⟩
 .cases hq:prpB b
  .rw [if_neg (fun e=>by cases e.2)]
   refine AC_of tauOk 46 0 [6,7] Tryz.func43 rfl (by kernel_rfl) rfl rfl rfl rfl rfl ?_
   refine ⟨[],false,_,_,P0 _ (fun h=>by rw [hp] at h;cases h) (fun _=>rfl),nd0,rfl,rfl,trivial,fun _=>?_,nofun⟩
   refine ⟨[],false,_,_,P1 _ (fun _=>rfl) (fun h=>by rw [hq] at h;cases h),nd0,rfl,rfl,trivial,nofun,fun _=>?_⟩
   exact ⟨none,⟨rfl,rfl,trivial⟩,rfl,rfl⟩
  .rw [if_pos ⟨rfl,rfl⟩]
   have hpp:=prp_perm hp
   have hqp:=prp_perm hq
   have hG:=spec_GroupOf_pq _ _ hpp hqp
   have hGl:=fun G=>gen_len (G:=G) hpp hqp
   cases hO:genO (prpL a) (prpL b) with
   |none=>
    rw [hO] at hG
    refine AC_of tauOk 46 0 [6,7] Tryz.func43 rfl (by kernel_rfl) rfl rfl rfl rfl rfl ?_
    refine ⟨[],false,_,_,P0 _ (fun h=>by rw [hp] at h;cases h) (fun _=>rfl),nd0,rfl,rfl,trivial,fun _=>?_,nofun⟩
    refine ⟨[],false,_,_,P1 _ (fun h=>by rw [hq] at h;cases h) (fun _=>rfl),nd0,rfl,rfl,trivial,fun _=>?_,nofun⟩
    refine ⟨rfl,by decide,false,[],false,_,_,hG,nd0,rfl,rfl,trivial,nofun,fun _=>?_⟩
    refine ⟨[],false,_,_,spec_l15Set_no g .nil rfl,nd0,rfl,rfl,trivial,?_⟩
    exact ⟨none,⟨rfl,rfl,trivial⟩,rfl,rfl⟩
   |some G=>
    have hl:=hGl G hO
    rw [hO] at hG
    refine AC_of tauOk 46 0 [6,7] Tryz.func43 rfl (by kernel_rfl) rfl rfl rfl rfl rfl ?_
    refine ⟨[],false,_,_,P0 _ (fun h=>by rw [hp] at h;cases h) (fun _=>rfl),nd0,rfl,rfl,trivial,fun _=>?_,nofun⟩
    refine ⟨[],false,_,_,P1 _ (fun h=>by rw [hq] at h;cases h) (fun _=>rfl),nd0,rfl,rfl,trivial,fun _=>?_,nofun⟩
    refine ⟨rfl,by decide,false,[],false,_,_,hG,nd0,rfl,rfl,trivial,fun _=>?_,nofun⟩
    refine ⟨[],false,_,_,spec_l15Set_yes g G (by omega),nd0,rfl,rfl,trivial,?_⟩
    exact ⟨none,⟨rfl,rfl,trivial⟩,rfl,rfl⟩
theorem spec_l15Copy (sh:Bool) (g:List (List Int)) (hgl:g.length<=1048576) (hx:∀i,i<g.length->(g.getD i []).length<=1048576):AC Tryz.prog 39 [.d sh (.sl (.sl .int)) g] [] [.ow 0] [.sl 29 (.sl .int) g]:=by
 refine AC_of tauOk 21 0 [2] Tryz.func39 rfl (by kernel_rfl) rfl rfl rfl rfl rfl ?_
 refine ⟨rfl,by decide,true,?_⟩
 refine ⟨Nat,fun k=>⟨[(3,.ow 0),(7,.d sh (.sl (.sl .int)) g),(8,I g.length),(9,I (k:Nat))],[.sl 29 (.sl .int) (g.take k)]⟩,fun k=>k<=g.length,fun k=>g.length-k,0,Nat.zero_le _,
  ⟨⟨rfl,rfl⟩,⟨rfl,rfl,rfl,rfl,trivial⟩,rfl,trivial⟩,fun k hk=>?_⟩
 dsimp only at hk
 refine ⟨fun h1=>?_,fun h1=>?_⟩
 .have hk2:k<g.length:=by omega
  have hs:=L_succ g k [] hk2
  have htl:(g.take k).length=k:=by rw [List.length_take];omega
  have hxk:=hx k hk2
  refine ⟨k,rfl,hk2,?_⟩
  refine ⟨rfl,by decide,true,rfl,Nat.zero_le _,rfl,by simp only [List.length_nil];omega,rfl,?_⟩
  refine ⟨rfl,rfl,by decide,false,rfl,Nat.zero_le _,rfl,by simp only [List.length_cons,List.length_nil];omega,rfl,?_⟩
  exact ⟨((k+1:Nat):Int),w64_eq (by omega) (by omega) (by omega),k+1,by dsimp only;omega,by dsimp only;omega,⟨rfl,rfl⟩,⟨rfl,rfl,rfl,rfl,trivial⟩,rowE (by rw [hs];rfl),trivial⟩
 .obtain rfl:k=g.length:=by omega
  exact ⟨some 0,⟨⟨rfl,rfl⟩,trivial⟩,⟨rfl,rowsE (List.take_length ..)⟩,rfl⟩
theorem spec_l15Lists (O:List (List Int)) (hl:O.length<=1048576) (ho:∀l∈O,In64 l/\l.length<=1048576) (hj:(Lib.join (O.map fmtL) [32]).length<=140737488355328):AC Tryz.prog 98 [.d true (.sl (.sl .int)) O] [] [.d true .str (Lib.join (O.map fmtL) [32])] []:=by
 have hom:(O.map fmtL).length=O.length:=List.length_map ..
 refine AC_of tauOk 21 0 [2] Tryz.func98 rfl (by kernel_rfl) rfl rfl rfl rfl rfl ?_
 refine ⟨rfl,by decide,true,?_⟩
 refine ⟨Nat,fun k=>⟨[(3,.ow 0),(7,.d true (.sl (.sl .int)) O),(8,I O.length),(9,I (k:Nat))],[.sl 9 .str ((O.take k).map fmtL)]⟩,fun k=>k<=O.length,fun k=>O.length-k,0,Nat.zero_le _,
  ⟨⟨rfl,rfl⟩,⟨rfl,rfl,rfl,rfl,trivial⟩,rfl,trivial⟩,fun k hk=>?_⟩
 dsimp only at hk
 refine ⟨fun h3=>?_,fun h3=>?_⟩
 .have hk2:k<O.length:=by omega
  obtain ⟨hm,hml⟩:=ho (O.getD k []) (by rw [getD_get _ _ _ hk2];exact List.getElem_mem _)
  refine ⟨k,rfl,hk2,[],false,_,_,spec_FormatInts true (O.getD k []) hm (by omega),nd0,rfl,rfl,trivial,?_⟩
  refine ⟨rfl,by decide,false,?_⟩
  refine ⟨rfl,Nat.zero_le _,rfl,by simp only [List.length_cons,List.length_nil,List.length_map,List.length_take];omega,rfl,?_⟩
  exact ⟨((k+1:Nat):Int),w64_eq (by omega) (by omega) (by omega),k+1,by dsimp only;omega,by dsimp only;omega,⟨rfl,rfl⟩,⟨rfl,rfl,rfl,rfl,trivial⟩,rowE (by rw [L_succ O k [] hk2,List.map_append];rfl),trivial⟩
 .obtain rfl:k=O.length:=by omega
  dsimp only
  rw [List.take_length]
  refine ⟨[],false,_,_,spec_Join false (O.map fmtL) [32] (by omega) hj,nd0,rfl,rfl,trivial,?_⟩
  exact ⟨none,⟨rfl,trivial⟩,rfl,rfl⟩
theorem spec_l15Lists_nil:AC Tryz.prog 98 [.nil] [] [.d true .str (Lib.join [] [32])] []:=
 (spec_l15Lists [] (by decide) (fun l hl=>by simp at hl) (by decide)).weak fun w bs A vs=>by
  rintro ⟨v,r,rfl,h1,h2⟩
  exact ⟨v,_,rfl,V_nil h1,h2⟩
theorem spec_l15Word (g:List (List Int)) (w:List UInt8) (hgl:g.length<=1048576) (hx:∀i,i<g.length->(g.getD i []).length<=1048576):AC Tryz.prog 41 [.d true (.sl (.sl .int)) g,.d true .str w] [] [.d true .str (plnZ g w)] []:=by
 have hJ:=lst_len g hgl
 have hgm:(g.map fmtC).length=g.length:=List.length_map ..
 have hD:=pln_bd (g:=g)
 have hO:=spec_OrbitsOf true g
 have hC:=spec_ClassesOf true g
 have hT:=spec_TwoColors true g
 unfold plnZ orbZ clsZ
 rw [twoZ]
 generalize orbL g=O at*
 generalize clsL g=C at*
 generalize twoL g=T at*
 refine AC_of tauOk 45 0 [4] Tryz.func41 rfl (by kernel_rfl) rfl rfl rfl rfl rfl ?_
 refine ⟨fun h1=>?_,fun h1=>?_⟩
 .rw [if_pos h1]
  refine ⟨[],false,_,_,spec_IndexLine true g hgl hx,nd0,rfl,rfl,trivial,?_⟩
  exact ⟨none,⟨rfl,trivial⟩,rfl,rfl⟩
 rw [if_neg h1]
 refine ⟨fun h2=>?_,fun h2=>?_⟩
 .rw [if_pos h2]
  cases hB:gokB g
  .refine ⟨[],false,_,_,spec_OrbitsOf_no true g hgl hx hB,nd0,rfl,rfl,trivial,[],false,_,_,spec_l15Lists_nil,nd0,rfl,rfl,trivial,?_⟩
   exact ⟨none,⟨rfl,trivial⟩,rfl,rfl⟩
  .obtain ⟨b1,b2,b3,b4,b5,b6,b7⟩:=hD hB
   refine ⟨[],true,_,_,hO hB,nd0,rfl,rfl,trivial,[],false,_,_,spec_l15Lists O (by omega) b2 b3,nd0,rfl,rfl,trivial,?_⟩
   exact ⟨none,⟨rfl,trivial⟩,rfl,rfl⟩
 rw [if_neg h2]
 refine ⟨fun h3=>?_,fun h3=>?_⟩
 .rw [if_pos h3]
  cases hB:gokB g
  .refine ⟨[],false,_,_,spec_ClassesOf_no true g hgl hx hB,nd0,rfl,rfl,trivial,[],false,_,_,spec_FormatInts_nil,nd0,rfl,rfl,trivial,?_⟩
   exact ⟨none,⟨rfl,trivial⟩,rfl,rfl⟩
  .obtain ⟨b1,b2,b3,b4,b5,b6,b7⟩:=hD hB
   refine ⟨[],true,_,_,hC hB,nd0,rfl,rfl,trivial,[],false,_,_,spec_FormatInts true C b4 b5,nd0,rfl,rfl,trivial,?_⟩
   exact ⟨none,⟨rfl,trivial⟩,rfl,rfl⟩
 rw [if_neg h3]
 refine ⟨fun h4=>?_,fun h4=>?_⟩
 .rw [if_pos h4]
  cases hB:gokB g
  .refine ⟨[],false,_,_,spec_TwoColors_no true g hgl hx hB,nd0,rfl,rfl,trivial,[],false,_,_,spec_FormatInts_nil,nd0,rfl,rfl,trivial,?_⟩
   exact ⟨none,⟨rfl,trivial⟩,rfl,rfl⟩
  .obtain ⟨b1,b2,b3,b4,b5,b6,b7⟩:=hD hB
   refine ⟨[],true,_,_,hT hB,nd0,rfl,rfl,trivial,[],false,_,_,spec_FormatInts true T b6 b7,nd0,rfl,rfl,trivial,?_⟩
   exact ⟨none,⟨rfl,trivial⟩,rfl,rfl⟩
 rw [if_neg h4]
 refine ⟨fun h5=>?_,fun h5=>?_⟩
 .rw [if_pos h5]
  refine ⟨rfl,by decide,true,?_⟩
  refine ⟨Nat,fun k=>⟨[(5,.ow 0),(31,.d true (.sl (.sl .int)) g),(32,I g.length),(33,I (k:Nat))],[.sl 9 .str ((g.take k).map fmtC)]⟩,fun k=>k<=g.length,fun k=>g.length-k,0,Nat.zero_le _,
   ⟨⟨rfl,rfl⟩,⟨rfl,rfl,rfl,rfl,trivial⟩,rfl,trivial⟩,fun k hk=>?_⟩
  dsimp only at hk
  refine ⟨fun h6=>?_,fun h6=>?_⟩
  .have hk2:k<g.length:=by omega
   refine ⟨k,rfl,hk2,[],false,_,_,spec_FormatCycles true (g.getD k []) (hx k hk2),nd0,rfl,rfl,trivial,?_⟩
   refine ⟨rfl,by decide,false,?_⟩
   refine ⟨rfl,Nat.zero_le _,rfl,by simp only [List.length_cons,List.length_nil,List.length_map,List.length_take];omega,rfl,?_⟩
   exact ⟨((k+1:Nat):Int),w64_eq (by omega) (by omega) (by omega),k+1,by dsimp only;omega,by dsimp only;omega,⟨rfl,rfl⟩,⟨rfl,rfl,rfl,rfl,trivial⟩,rowE (by rw [L_succ g k [] hk2,List.map_append];rfl),trivial⟩
  .obtain rfl:k=g.length:=by omega
   dsimp only
   rw [List.take_length]
   refine ⟨[],false,_,_,spec_Join false (g.map fmtC) [32] (by omega) hJ,nd0,rfl,rfl,trivial,?_⟩
   exact ⟨none,⟨rfl,trivial⟩,rfl,rfl⟩
 .rw [if_neg h5]
  exact ⟨none,⟨rfl,trivial⟩,rfl,rfl⟩
theorem nx {p A:Prop} [Decidable p] (h:decide p=false):p->A:=fun hp=>absurd hp (of_decide_eq_false h)
def grO (w:List UInt8) (n:List Int):Option (Option (List (List Int))):=
 if w=[99,121,99,108,105,99]/\(n.length:Int)=1 then some (cycO (n.getD 0 0))
 else if w=[100,105,104,101,100,114,97,108]/\(n.length:Int)=1 then some (dihO (n.getD 0 0))
 else if w=[115,121,109,109,101,116,114,105,99]/\(n.length:Int)=1 then some (symO (n.getD 0 0))
 else if w=[115,111,108,105,100]/\(n.length:Int)=2 then some (solO (n.getD 0 0) (decide (n.getD 1 0≠0)))
 else none
def grR (g:List (List Int)):Option (Option (List (List Int)))->List AV
 |none=>[.d true (.sl (.sl .int)) g,.d true .str [],.d true .bool false]
 |some none=>[.d true (.sl (.sl .int)) g,.d true .str nonS,.d true .bool true]
 |some (some G)=>[.d true (.sl (.sl .int)) G,.d true .str (ordS++fmtI (G.length:Nat)),.d true .bool true]
theorem cyc_len {n:Int} {G:List (List Int)} (h:cycO n=some G):G.length<=120:=by
 unfold cycO at h
 split at h
 .cases h
  obtain ⟨⟨c1,c2⟩,c3,c4⟩:=grp_chk n.toNat (by omega) (by omega)
  exact (perm_bd (gG_gok (by omega) (by omega) (gens1 c1) c3)).1.2
 .cases h
theorem dih_len {n:Int} {G:List (List Int)} (h:dihO n=some G):G.length<=120:=by
 unfold dihO at h
 split at h
 .cases h
  obtain ⟨⟨c1,c2⟩,c3,c4⟩:=grp_chk n.toNat (by omega) (by omega)
  exact (perm_bd (gG_gok (by omega) (by omega) (gens2 c1 c2) c4)).1.2
 .cases h
theorem sym_len {n:Int} {G:List (List Int)} (h:symO n=some G):G.length<=120:=by
 unfold symO at h
 split at h
 .cases h
  obtain ⟨o,ho,_⟩:=(sym_ok n.toNat (by omega) (by omega)).i
  exact (perm_bd (gG_gok (by omega) (by omega) (gens_ok _ (by omega) (by omega)) (by rw [ho];rfl))).1.2
 .cases h
theorem sol_len {k:Int} {m:Bool} {G:List (List Int)} (h:solO k m=some G):G.length<=120:=by
 unfold solO at h
 split at h
 .cases h;exact (perm_bd (sol_gok k.toNat (by omega) (by omega) m)).1.2
 .cases h
theorem spec_l15Group (s3:Bool) (g:List (List Int)) (w:List UInt8) (n:List Int):
 AC Tryz.prog 45 [.d true (.sl (.sl .int)) g,.d true .str w,.d s3 (.sl .int) n] [] (grR g (grO w n)) []:=by
 by_cases w0:w=[99,121,99,108,105,99]
 .subst w0
  by_cases hT:(n.length:Int)=1
  .rw [show grO [99,121,99,108,105,99] n=some (cycO (n.getD 0 0)) by simp [grO,hT]]
   have hG:=spec_CyclicGroup_z (n.getD 0 0)
   cases hO:cycO (n.getD 0 0) with
   |none=>
    rw [hO] at hG
    refine AC_of tauOk 88 0 [6,7,8] Tryz.func45 rfl (by kernel_rfl) rfl rfl rfl rfl rfl ?_
    refine ⟨rfl,by decide,false,?_⟩
    refine ⟨fun _=>⟨fun _=>?_,fun h=>absurd hT h⟩,fun h=>absurd rfl h⟩
    refine ⟨0,rfl,by omega,[],false,_,_,hG,nd0,rfl,rfl,trivial,nofun,fun _=>?_⟩
    refine ⟨[],false,_,_,spec_l15Set_no g .nil rfl,nd0,rfl,rfl,trivial,?_⟩
    exact ⟨none,⟨rfl,rfl,rfl,trivial⟩,rfl,rfl⟩
   |some G=>
    have hl:=cyc_len hO
    rw [hO] at hG
    refine AC_of tauOk 88 0 [6,7,8] Tryz.func45 rfl (by kernel_rfl) rfl rfl rfl rfl rfl ?_
    refine ⟨rfl,by decide,false,?_⟩
    refine ⟨fun _=>⟨fun _=>?_,fun h=>absurd hT h⟩,fun h=>absurd rfl h⟩
    refine ⟨0,rfl,by omega,[],false,_,_,hG,nd0,rfl,rfl,trivial,fun _=>?_,nofun⟩
    refine ⟨[],false,_,_,spec_l15Set_yes g G (by omega),nd0,rfl,rfl,trivial,?_⟩
    exact ⟨none,⟨rfl,rfl,rfl,trivial⟩,rfl,rfl⟩
  .rw [show grO [99,121,99,108,105,99] n=none by simp [grO,hT]]
   refine AC_of tauOk 88 0 [6,7,8] Tryz.func45 rfl (by kernel_rfl) rfl rfl rfl rfl rfl ?_
   refine ⟨rfl,by decide,false,?_⟩
   refine ⟨fun _=>⟨fun h=>absurd h hT,fun _=>⟨nx rfl,fun _=>⟨nx rfl,fun _=>⟨nx rfl,fun _=>?_⟩⟩⟩⟩,fun h=>absurd rfl h⟩
   exact ⟨none,⟨rfl,rfl,rfl,trivial⟩,rfl,rfl⟩
 by_cases w1:w=[100,105,104,101,100,114,97,108]
 .subst w1
  by_cases hT:(n.length:Int)=1
  .rw [show grO [100,105,104,101,100,114,97,108] n=some (dihO (n.getD 0 0)) by simp [grO,hT]]
   have hG:=spec_DihedralGroup_z (n.getD 0 0)
   cases hO:dihO (n.getD 0 0) with
   |none=>
    rw [hO] at hG
    refine AC_of tauOk 88 0 [6,7,8] Tryz.func45 rfl (by kernel_rfl) rfl rfl rfl rfl rfl ?_
    refine ⟨rfl,by decide,false,?_⟩
    refine ⟨nx rfl,fun _=>⟨fun _=>⟨fun _=>?_,fun h=>absurd hT h⟩,fun h=>absurd rfl h⟩⟩
    refine ⟨0,rfl,by omega,[],false,_,_,hG,nd0,rfl,rfl,trivial,nofun,fun _=>?_⟩
    refine ⟨[],false,_,_,spec_l15Set_no g .nil rfl,nd0,rfl,rfl,trivial,?_⟩
    exact ⟨none,⟨rfl,rfl,rfl,trivial⟩,rfl,rfl⟩
   |some G=>
    have hl:=dih_len hO
    rw [hO] at hG
    refine AC_of tauOk 88 0 [6,7,8] Tryz.func45 rfl (by kernel_rfl) rfl rfl rfl rfl rfl ?_
    refine ⟨rfl,by decide,false,?_⟩
    refine ⟨nx rfl,fun _=>⟨fun _=>⟨fun _=>?_,fun h=>absurd hT h⟩,fun h=>absurd rfl h⟩⟩
    refine ⟨0,rfl,by omega,[],false,_,_,hG,nd0,rfl,rfl,trivial,fun _=>?_,nofun⟩
    refine ⟨[],false,_,_,spec_l15Set_yes g G (by omega),nd0,rfl,rfl,trivial,?_⟩
    exact ⟨none,⟨rfl,rfl,rfl,trivial⟩,rfl,rfl⟩
  .rw [show grO [100,105,104,101,100,114,97,108] n=none by simp [grO,hT]]
   refine AC_of tauOk 88 0 [6,7,8] Tryz.func45 rfl (by kernel_rfl) rfl rfl rfl rfl rfl ?_
   refine ⟨rfl,by decide,false,?_⟩
   refine ⟨nx rfl,fun _=>⟨fun _=>⟨fun h=>absurd h hT,fun _=>⟨nx rfl,fun _=>⟨nx rfl,fun _=>?_⟩⟩⟩,fun h=>absurd rfl h⟩⟩
   exact ⟨none,⟨rfl,rfl,rfl,trivial⟩,rfl,rfl⟩
 by_cases w2:w=[115,121,109,109,101,116,114,105,99]
 .subst w2
  by_cases hT:(n.length:Int)=1
  .rw [show grO [115,121,109,109,101,116,114,105,99] n=some (symO (n.getD 0 0)) by simp [grO,hT]]
   have hG:=spec_SymmetricGroup_z (n.getD 0 0)
   cases hO:symO (n.getD 0 0) with
   |none=>
    rw [hO] at hG
    refine AC_of tauOk 88 0 [6,7,8] Tryz.func45 rfl (by kernel_rfl) rfl rfl rfl rfl rfl ?_
    refine ⟨rfl,by decide,false,?_⟩
    refine ⟨nx rfl,fun _=>⟨nx rfl,fun _=>⟨fun _=>⟨fun _=>?_,fun h=>absurd hT h⟩,fun h=>absurd rfl h⟩⟩⟩
    refine ⟨0,rfl,by omega,[],false,_,_,hG,nd0,rfl,rfl,trivial,nofun,fun _=>?_⟩
    refine ⟨[],false,_,_,spec_l15Set_no g .nil rfl,nd0,rfl,rfl,trivial,?_⟩
    exact ⟨none,⟨rfl,rfl,rfl,trivial⟩,rfl,rfl⟩
   |some G=>
    have hl:=sym_len hO
    rw [hO] at hG
    refine AC_of tauOk 88 0 [6,7,8] Tryz.func45 rfl (by kernel_rfl) rfl rfl rfl rfl rfl ?_
    refine ⟨rfl,by decide,false,?_⟩
    refine ⟨nx rfl,fun _=>⟨nx rfl,fun _=>⟨fun _=>⟨fun _=>?_,fun h=>absurd hT h⟩,fun h=>absurd rfl h⟩⟩⟩
    refine ⟨0,rfl,by omega,[],false,_,_,hG,nd0,rfl,rfl,trivial,fun _=>?_,nofun⟩
    refine ⟨[],false,_,_,spec_l15Set_yes g G (by omega),nd0,rfl,rfl,trivial,?_⟩
    exact ⟨none,⟨rfl,rfl,rfl,trivial⟩,rfl,rfl⟩
  .rw [show grO [115,121,109,109,101,116,114,105,99] n=none by simp [grO,hT]]
   refine AC_of tauOk 88 0 [6,7,8] Tryz.func45 rfl (by kernel_rfl) rfl rfl rfl rfl rfl ?_
   refine ⟨rfl,by decide,false,?_⟩
   refine ⟨nx rfl,fun _=>⟨nx rfl,fun _=>⟨fun _=>⟨fun h=>absurd h hT,fun _=>⟨nx rfl,fun _=>?_⟩⟩,fun h=>absurd rfl h⟩⟩⟩
   exact ⟨none,⟨rfl,rfl,rfl,trivial⟩,rfl,rfl⟩
 by_cases w3:w=[115,111,108,105,100]
 .subst w3
  by_cases hT:(n.length:Int)=2
  .rw [show grO [115,111,108,105,100] n=some (solO (n.getD 0 0) (decide (n.getD 1 0≠0))) by simp [grO,hT]]
   have hG:=spec_SolidGroup_z (n.getD 0 0)
   have hl:=fun m G=>sol_len (k:=n.getD 0 0) (m:=m) (G:=G)
   refine AC_of tauOk 88 0 [6,7,8] Tryz.func45 rfl (by kernel_rfl) rfl rfl rfl rfl rfl ?_
   refine ⟨rfl,by decide,false,?_⟩
   refine ⟨nx rfl,fun _=>⟨nx rfl,fun _=>⟨nx rfl,fun _=>⟨fun _=>⟨fun _=>?_,fun h=>absurd hT h⟩,fun h=>absurd rfl h⟩⟩⟩⟩
   refine ⟨some 4000,[0,1,2,3,4,5],.one 6 (.one 7 (.one 8 (.two 9 (.two 10 (.one 11 (.one 12 .done)) 11 (.one 10 (.one 12 .done))) 10 (.one 9 (.one 11 (.one 12 .done)))))),by kernel_rfl,rfl,?_⟩
   refine ⟨0,rfl,by omega,1,rfl,by omega,fun h4=>?_,fun h4=>?_⟩
   .have hG:=hG true
    rw [decide_eq_true h4]
    cases hO:solO (n.getD 0 0) true with
    |none=>
     rw [hO] at hG
     refine ⟨[],false,_,_,hG,nd0,rfl,rfl,trivial,⟨⟨nofun,fun _=>?_⟩,⟨nofun,fun _=>?_⟩⟩,⟨nofun,fun _=>?_⟩⟩
     all_goals
      refine ⟨[],false,_,_,spec_l15Set_no g .nil rfl,nd0,rfl,rfl,trivial,?_⟩
      exact ⟨none,⟨rfl,rfl,rfl,trivial⟩,rfl,rfl⟩
    |some G=>
     have hl:=hl _ _ hO
     rw [hO] at hG
     refine ⟨[],false,_,_,hG,nd0,rfl,rfl,trivial,⟨⟨fun _=>?_,nofun⟩,⟨fun _=>?_,nofun⟩⟩,⟨fun _=>?_,nofun⟩⟩
     all_goals
      refine ⟨[],false,_,_,spec_l15Set_yes g G (by omega),nd0,rfl,rfl,trivial,?_⟩
      exact ⟨none,⟨rfl,rfl,rfl,trivial⟩,rfl,rfl⟩
   .have hG:=hG false
    rw [decide_eq_false h4]
    cases hO:solO (n.getD 0 0) false with
    |none=>
     rw [hO] at hG
     refine ⟨[],false,_,_,hG,nd0,rfl,rfl,trivial,⟨⟨nofun,fun _=>?_⟩,⟨nofun,fun _=>?_⟩⟩,⟨nofun,fun _=>?_⟩⟩
     all_goals
      refine ⟨[],false,_,_,spec_l15Set_no g .nil rfl,nd0,rfl,rfl,trivial,?_⟩
      exact ⟨none,⟨rfl,rfl,rfl,trivial⟩,rfl,rfl⟩
    |some G=>
     have hl:=hl _ _ hO
     rw [hO] at hG
     refine ⟨[],false,_,_,hG,nd0,rfl,rfl,trivial,⟨⟨fun _=>?_,nofun⟩,⟨fun _=>?_,nofun⟩⟩,⟨fun _=>?_,nofun⟩⟩
     all_goals
      refine ⟨[],false,_,_,spec_l15Set_yes g G (by omega),nd0,rfl,rfl,trivial,?_⟩
      exact ⟨none,⟨rfl,rfl,rfl,trivial⟩,rfl,rfl⟩
  .rw [show grO [115,111,108,105,100] n=none by simp [grO,hT]]
   refine AC_of tauOk 88 0 [6,7,8] Tryz.func45 rfl (by kernel_rfl) rfl rfl rfl rfl rfl ?_
   refine ⟨rfl,by decide,false,?_⟩
   refine ⟨nx rfl,fun _=>⟨nx rfl,fun _=>⟨nx rfl,fun _=>⟨fun _=>⟨fun h=>absurd h hT,fun _=>?_⟩,fun h=>absurd rfl h⟩⟩⟩⟩
   exact ⟨none,⟨rfl,rfl,rfl,trivial⟩,rfl,rfl⟩
 rw [show grO w n=none by simp [grO,w0,w1,w2,w3]]
 refine AC_of tauOk 88 0 [6,7,8] Tryz.func45 rfl (by kernel_rfl) rfl rfl rfl rfl rfl ?_
 refine ⟨rfl,by decide,false,?_⟩
 refine ⟨fun h=>absurd h w0,fun _=>⟨fun h=>absurd h w1,fun _=>⟨fun h=>absurd h w2,fun _=>⟨fun h=>absurd h w3,fun _=>?_⟩⟩⟩⟩
 exact ⟨none,⟨rfl,rfl,rfl,trivial⟩,rfl,rfl⟩
theorem spec_l15Numbers (s3:Bool) (g:List (List Int)) (w:List UInt8) (n:List Int) (hl:g.length<=1048576) (hx:∀i,i<g.length->(g.getD i []).length<=1048576):
 AC Tryz.prog 46 [.d true (.sl (.sl .int)) g,.d true .str w,.d s3 (.sl .int) n] [] [.d true .str (nlnS g w n)] []:=by
 by_cases w0:w=[99,111,117,110,116]
 .subst w0
  by_cases hT:(n.length:Int)=1
  .rw [show nlnS g [99,111,117,110,116] n=clnS g (n.getD 0 0) by simp [nlnS,patS,allS,hT]]
   refine AC_of tauOk 159 0 [6] Tryz.func46 rfl (by kernel_rfl) rfl rfl rfl rfl rfl ?_
   refine ⟨fun _=>⟨fun _=>?_,fun h=>absurd hT h⟩,fun h=>absurd rfl h⟩
   refine ⟨0,rfl,by omega,[],false,_,_,spec_CountLine true g (n.getD 0 0) hl hx,nd0,rfl,rfl,trivial,?_⟩
   exact ⟨none,⟨rfl,trivial⟩,rfl,rfl⟩
  .have l1:=hT
   rw [show nlnS g [99,111,117,110,116] n=unkS by simp [nlnS,patS,allS,hT]]
   refine AC_of tauOk 159 0 [6] Tryz.func46 rfl (by kernel_rfl) rfl rfl rfl rfl rfl ?_
   refine ⟨fun _=>⟨fun h=>absurd h l1,fun _=>⟨nx rfl,fun _=>⟨nx rfl,fun _=>⟨nx rfl,fun _=>⟨nx rfl,fun _=>⟨nx rfl,fun _=>⟨nx rfl,fun _=>⟨nx rfl,fun _=>⟨nx rfl,fun _=>?_⟩⟩⟩⟩⟩⟩⟩⟩⟩,fun h=>absurd rfl h⟩
   exact ⟨none,⟨rfl,trivial⟩,rfl,rfl⟩
 by_cases w1:w=[112,97,116,116,101,114,110,115]
 .subst w1
  by_cases hT:(n.length:Int)=1
  .rw [show nlnS g [112,97,116,116,101,114,110,115] n=patS g [112,97,116,116,101,114,110,115] (n.getD 0 0) by simp [nlnS,patS,allS,hT]]
   refine AC_of tauOk 159 0 [6] Tryz.func46 rfl (by kernel_rfl) rfl rfl rfl rfl rfl ?_
   refine ⟨nx rfl,fun _=>⟨fun _=>⟨fun _=>?_,fun h=>absurd hT h⟩,fun h=>absurd rfl h⟩⟩
   refine ⟨0,rfl,by omega,[],false,_,_,spec_l15Patterns g _ (n.getD 0 0) hl hx,nd0,rfl,rfl,trivial,?_⟩
   exact ⟨none,⟨rfl,trivial⟩,rfl,rfl⟩
  .have l1:=hT
   rw [show nlnS g [112,97,116,116,101,114,110,115] n=unkS by simp [nlnS,patS,allS,hT]]
   refine AC_of tauOk 159 0 [6] Tryz.func46 rfl (by kernel_rfl) rfl rfl rfl rfl rfl ?_
   refine ⟨nx rfl,fun _=>⟨fun _=>⟨fun h=>absurd h l1,fun _=>⟨nx rfl,fun _=>⟨nx rfl,fun _=>⟨nx rfl,fun _=>⟨nx rfl,fun _=>⟨nx rfl,fun _=>⟨nx rfl,fun _=>?_⟩⟩⟩⟩⟩⟩⟩,fun h=>absurd rfl h⟩⟩
   exact ⟨none,⟨rfl,trivial⟩,rfl,rfl⟩
 by_cases w2:w=[101,120,99,104,97,110,103,101,100]
 .subst w2
  by_cases hT:(n.length:Int)=1
  .rw [show nlnS g [101,120,99,104,97,110,103,101,100] n=patS g [101,120,99,104,97,110,103,101,100] (n.getD 0 0) by simp [nlnS,patS,allS,hT]]
   refine AC_of tauOk 159 0 [6] Tryz.func46 rfl (by kernel_rfl) rfl rfl rfl rfl rfl ?_
   refine ⟨nx rfl,fun _=>⟨nx rfl,fun _=>⟨fun _=>⟨fun _=>?_,fun h=>absurd hT h⟩,fun h=>absurd rfl h⟩⟩⟩
   refine ⟨0,rfl,by omega,[],false,_,_,spec_l15Patterns g _ (n.getD 0 0) hl hx,nd0,rfl,rfl,trivial,?_⟩
   exact ⟨none,⟨rfl,trivial⟩,rfl,rfl⟩
  .have l1:=hT
   rw [show nlnS g [101,120,99,104,97,110,103,101,100] n=unkS by simp [nlnS,patS,allS,hT]]
   refine AC_of tauOk 159 0 [6] Tryz.func46 rfl (by kernel_rfl) rfl rfl rfl rfl rfl ?_
   refine ⟨nx rfl,fun _=>⟨nx rfl,fun _=>⟨fun _=>⟨fun h=>absurd h l1,fun _=>⟨nx rfl,fun _=>⟨nx rfl,fun _=>⟨nx rfl,fun _=>⟨nx rfl,fun _=>⟨nx rfl,fun _=>⟨nx rfl,fun _=>?_⟩⟩⟩⟩⟩⟩⟩,fun h=>absurd rfl h⟩⟩⟩
   exact ⟨none,⟨rfl,trivial⟩,rfl,rfl⟩
 by_cases w3:w=[110,101,99,107,108,97,99,101,115]
 .subst w3
  by_cases hT:(n.length:Int)=2
  .rw [show nlnS g [110,101,99,107,108,97,99,101,115] n=Lib.join ([neckI (n.getD 0 0) (n.getD 1 0),bracI (n.getD 0 0) (n.getD 1 0),lynI (n.getD 0 0) (n.getD 1 0)].map fmtI) [32] by simp [nlnS,patS,allS,hT]]
   have i0:0<n.length:=by omega
   have i1:1<n.length:=by omega
   have b1:=neck_b (n.getD 0 0) (n.getD 1 0)
   have b2:=brac_b (n.getD 0 0) (n.getD 1 0)
   have b3:=lyn_b (n.getD 0 0) (n.getD 1 0)
   have hA:=spec_CountNecklaces (n.getD 0 0) (n.getD 1 0)
   have hB:=spec_CountBracelets (n.getD 0 0) (n.getD 1 0)
   have hC:=spec_CountLyndon (n.getD 0 0) (n.getD 1 0)
   rw [List.map_cons,List.map_cons,List.map_cons,List.map_nil,join3]
   generalize neckI (n.getD 0 0) (n.getD 1 0)=x at*
   generalize bracI (n.getD 0 0) (n.getD 1 0)=y at*
   generalize lynI (n.getD 0 0) (n.getD 1 0)=z at*
   have fA:=spec_FormatInt x (by omega) (by omega)
   have fB:=spec_FormatInt y (by omega) (by omega)
   have fC:=spec_FormatInt z (by omega) (by omega)
   have f1:=fI_len x (by omega)
   have f2:=fI_len y (by omega)
   have f3:=fI_len z (by omega)
   have c1:(fmtI x).length+([32]:List UInt8).length<=4611686018427387904:=by simp only [List.length_append,List.length_cons,List.length_nil];omega
   have c2:(fmtI x++[32]).length+(fmtI y).length<=4611686018427387904:=by simp only [List.length_append,List.length_cons,List.length_nil];omega
   have c3:(fmtI x++[32]++fmtI y).length+([32]:List UInt8).length<=4611686018427387904:=by simp only [List.length_append,List.length_cons,List.length_nil];omega
   have c4:(fmtI x++[32]++fmtI y++[32]).length+(fmtI z).length<=4611686018427387904:=by simp only [List.length_append,List.length_cons,List.length_nil];omega
   refine AC_of tauOk 159 0 [6] Tryz.func46 rfl (by kernel_rfl) rfl rfl rfl rfl rfl ?_
   refine ⟨nx rfl,fun _=>⟨nx rfl,fun _=>⟨nx rfl,fun _=>⟨fun _=>⟨fun _=>?_,fun h=>absurd hT h⟩,fun h=>absurd rfl h⟩⟩⟩⟩
   exact ⟨some 4000,[0,1,2,3,4,5,9,10,11,12,13,14,19,20,21,22,23,24],.one 6 (.one 7 (.two 8 (.one 15 (.one 16 (.two 17 (.two 18 (.one 25 (.one 26 (.one 27 (.one 28 .done)))) 25 (.two 18 (.one 26 (.one 27 (.one 28 .done))) 26 (.one 18 (.one 27 (.one 28 .done))))) 25 (.two 17 (.two 18 (.one 26 (.one 27 (.one 28 .done))) 26 (.one 18 (.one 27 (.one 28 .done)))) 26 (.one 17 (.one 18 (.one 27 (.one 28 .done)))))))) 15 (.two 8 (.one 16 (.two 17 (.two 18 (.one 25 (.one 26 (.one 27 (.one 28 .done)))) 25 (.two 18 (.one 26 (.one 27 (.one 28 .done))) 26 (.one 18 (.one 27 (.one 28 .done))))) 25 (.two 17 (.two 18 (.one 26 (.one 27 (.one 28 .done))) 26 (.one 18 (.one 27 (.one 28 .done)))) 26 (.one 17 (.one 18 (.one 27 (.one 28 .done))))))) 16 (.two 8 (.two 17 (.two 18 (.one 25 (.one 26 (.one 27 (.one 28 .done)))) 25 (.two 18 (.one 26 (.one 27 (.one 28 .done))) 26 (.one 18 (.one 27 (.one 28 .done))))) 25 (.two 17 (.two 18 (.one 26 (.one 27 (.one 28 .done))) 26 (.one 18 (.one 27 (.one 28 .done)))) 26 (.one 17 (.one 18 (.one 27 (.one 28 .done)))))) 25 (.two 8 (.two 17 (.two 18 (.one 26 (.one 27 (.one 28 .done))) 26 (.one 18 (.one 27 (.one 28 .done)))) 26 (.one 17 (.one 18 (.one 27 (.one 28 .done))))) 26 (.one 8 (.one 17 (.one 18 (.one 27 (.one 28 .done)))))))))),by kernel_rfl,rfl,0,rfl,i0,1,rfl,i1,0,rfl,i0,1,rfl,i1,0,rfl,i0,1,rfl,i1,[],false,_,_,hA,nd0,rfl,rfl,trivial,[],false,_,_,fA,nd0,rfl,rfl,trivial,⟨c1,[],false,_,_,hB,nd0,rfl,rfl,trivial,[],false,_,_,fB,nd0,rfl,rfl,trivial,⟨c2,⟨c3,[],false,_,_,hC,nd0,rfl,rfl,trivial,[],false,_,_,fC,nd0,rfl,rfl,trivial,c4,none,⟨rfl,trivial⟩,rfl,rfl⟩,[],false,_,_,hC,nd0,rfl,rfl,trivial,⟨c3,[],false,_,_,fC,nd0,rfl,rfl,trivial,c4,none,⟨rfl,trivial⟩,rfl,rfl⟩,[],false,_,_,fC,nd0,rfl,rfl,trivial,c3,c4,none,⟨rfl,trivial⟩,rfl,rfl⟩,[],false,_,_,hC,nd0,rfl,rfl,trivial,⟨c2,⟨c3,[],false,_,_,fC,nd0,rfl,rfl,trivial,c4,none,⟨rfl,trivial⟩,rfl,rfl⟩,[],false,_,_,fC,nd0,rfl,rfl,trivial,c3,c4,none,⟨rfl,trivial⟩,rfl,rfl⟩,[],false,_,_,fC,nd0,rfl,rfl,trivial,c2,c3,c4,none,⟨rfl,trivial⟩,rfl,rfl⟩,[],false,_,_,hB,nd0,rfl,rfl,trivial,⟨c1,[],false,_,_,fB,nd0,rfl,rfl,trivial,⟨c2,⟨c3,[],false,_,_,hC,nd0,rfl,rfl,trivial,[],false,_,_,fC,nd0,rfl,rfl,trivial,c4,none,⟨rfl,trivial⟩,rfl,rfl⟩,[],false,_,_,hC,nd0,rfl,rfl,trivial,⟨c3,[],false,_,_,fC,nd0,rfl,rfl,trivial,c4,none,⟨rfl,trivial⟩,rfl,rfl⟩,[],false,_,_,fC,nd0,rfl,rfl,trivial,c3,c4,none,⟨rfl,trivial⟩,rfl,rfl⟩,[],false,_,_,hC,nd0,rfl,rfl,trivial,⟨c2,⟨c3,[],false,_,_,fC,nd0,rfl,rfl,trivial,c4,none,⟨rfl,trivial⟩,rfl,rfl⟩,[],false,_,_,fC,nd0,rfl,rfl,trivial,c3,c4,none,⟨rfl,trivial⟩,rfl,rfl⟩,[],false,_,_,fC,nd0,rfl,rfl,trivial,c2,c3,c4,none,⟨rfl,trivial⟩,rfl,rfl⟩,[],false,_,_,fB,nd0,rfl,rfl,trivial,⟨c1,⟨c2,⟨c3,[],false,_,_,hC,nd0,rfl,rfl,trivial,[],false,_,_,fC,nd0,rfl,rfl,trivial,c4,none,⟨rfl,trivial⟩,rfl,rfl⟩,[],false,_,_,hC,nd0,rfl,rfl,trivial,⟨c3,[],false,_,_,fC,nd0,rfl,rfl,trivial,c4,none,⟨rfl,trivial⟩,rfl,rfl⟩,[],false,_,_,fC,nd0,rfl,rfl,trivial,c3,c4,none,⟨rfl,trivial⟩,rfl,rfl⟩,[],false,_,_,hC,nd0,rfl,rfl,trivial,⟨c2,⟨c3,[],false,_,_,fC,nd0,rfl,rfl,trivial,c4,none,⟨rfl,trivial⟩,rfl,rfl⟩,[],false,_,_,fC,nd0,rfl,rfl,trivial,c3,c4,none,⟨rfl,trivial⟩,rfl,rfl⟩,[],false,_,_,fC,nd0,rfl,rfl,trivial,c2,c3,c4,none,⟨rfl,trivial⟩,rfl,rfl⟩,[],false,_,_,hC,nd0,rfl,rfl,trivial,⟨c1,⟨c2,⟨c3,[],false,_,_,fC,nd0,rfl,rfl,trivial,c4,none,⟨rfl,trivial⟩,rfl,rfl⟩,[],false,_,_,fC,nd0,rfl,rfl,trivial,c3,c4,none,⟨rfl,trivial⟩,rfl,rfl⟩,[],false,_,_,fC,nd0,rfl,rfl,trivial,c2,c3,c4,none,⟨rfl,trivial⟩,rfl,rfl⟩,[],false,_,_,fC,nd0,rfl,rfl,trivial,c1,c2,c3,c4,none,⟨rfl,trivial⟩,rfl,rfl⟩
  .have l2:=hT
   rw [show nlnS g [110,101,99,107,108,97,99,101,115] n=unkS by simp [nlnS,patS,allS,hT]]
   refine AC_of tauOk 159 0 [6] Tryz.func46 rfl (by kernel_rfl) rfl rfl rfl rfl rfl ?_
   refine ⟨nx rfl,fun _=>⟨nx rfl,fun _=>⟨nx rfl,fun _=>⟨fun _=>⟨fun h=>absurd h l2,fun _=>⟨nx rfl,fun _=>⟨nx rfl,fun _=>⟨nx rfl,fun _=>⟨nx rfl,fun _=>⟨nx rfl,fun _=>?_⟩⟩⟩⟩⟩⟩,fun h=>absurd rfl h⟩⟩⟩⟩
   exact ⟨none,⟨rfl,trivial⟩,rfl,rfl⟩
 by_cases w4:w=[110,101,99,107,108,97,99,101]
 .subst w4
  by_cases hT:(n.length:Int)=3
  .rw [show nlnS g [110,101,99,107,108,97,99,101] n=if nckB (n.getD 0 0) (n.getD 1 0) (n.getD 2 0)=true then formatW ((neckL (n.getD 0 0).toNat (n.getD 1 0).toNat).getD (n.getD 2 0).toNat []) else nonS by simp [nlnS,patS,allS,hT]]
   have i0:0<n.length:=by omega
   have i1:1<n.length:=by omega
   have i2:2<n.length:=by omega
   have hN:=spec_NecklaceAt (n.getD 0 0) (n.getD 1 0) (n.getD 2 0)
   refine AC_of tauOk 159 0 [6] Tryz.func46 rfl (by kernel_rfl) rfl rfl rfl rfl rfl ?_
   refine ⟨nx rfl,fun _=>⟨nx rfl,fun _=>⟨nx rfl,fun _=>⟨nx rfl,fun _=>⟨fun _=>⟨fun _=>?_,fun h=>absurd hT h⟩,fun h=>absurd rfl h⟩⟩⟩⟩⟩
   cases hE:nckB (n.getD 0 0) (n.getD 1 0) (n.getD 2 0)
   .have hN:=hN _ (fun _=>rfl) (fun h=>by rw [hE] at h;cases h)
    exact ⟨some 4000,[0,1,2,3,4,5,6,7,8],.one 9 (.two 10 (.one 11 (.one 12 (.one 13 .done))) 11 (.one 10 (.one 12 (.one 13 .done)))),by kernel_rfl,rfl,0,rfl,i0,1,rfl,i1,2,rfl,i2,[],false,_,_,hN,nd0,rfl,rfl,trivial,⟨nofun,fun _=>⟨[],false,_,_,spec_l15One_no,nd0,rfl,rfl,trivial,none,⟨rfl,trivial⟩,rfl,rfl⟩⟩,nofun,fun _=>⟨[],false,_,_,spec_l15One_no,nd0,rfl,rfl,trivial,none,⟨rfl,trivial⟩,rfl,rfl⟩⟩
   .have hY:=hN _ (fun h=>by rw [hE] at h;cases h) (fun _=>rfl)
    have hO:=spec_l15One_yes _ (show ((neckL (n.getD 0 0).toNat (n.getD 1 0).toNat).getD (n.getD 2 0).toNat []).length<=1048576 by have:=(nck_el hE).2;omega)
    exact ⟨some 4000,[0,1,2,3,4,5,6,7,8],.one 9 (.two 10 (.one 11 (.one 12 (.one 13 .done))) 11 (.one 10 (.one 12 (.one 13 .done)))),by kernel_rfl,rfl,0,rfl,i0,1,rfl,i1,2,rfl,i2,[],false,_,_,hY,nd0,rfl,rfl,trivial,⟨fun _=>⟨[],false,_,_,hO,nd0,rfl,rfl,trivial,none,⟨rfl,trivial⟩,rfl,rfl⟩,nofun⟩,fun _=>⟨[],false,_,_,hO,nd0,rfl,rfl,trivial,none,⟨rfl,trivial⟩,rfl,rfl⟩,nofun⟩
  .have l3:=hT
   rw [show nlnS g [110,101,99,107,108,97,99,101] n=unkS by simp [nlnS,patS,allS,hT]]
   refine AC_of tauOk 159 0 [6] Tryz.func46 rfl (by kernel_rfl) rfl rfl rfl rfl rfl ?_
   refine ⟨nx rfl,fun _=>⟨nx rfl,fun _=>⟨nx rfl,fun _=>⟨nx rfl,fun _=>⟨fun _=>⟨fun h=>absurd h l3,fun _=>⟨nx rfl,fun _=>⟨nx rfl,fun _=>⟨nx rfl,fun _=>⟨nx rfl,fun _=>?_⟩⟩⟩⟩⟩,fun h=>absurd rfl h⟩⟩⟩⟩⟩
   exact ⟨none,⟨rfl,trivial⟩,rfl,rfl⟩
 by_cases w5:w=[97,108,108]
 .subst w5
  by_cases hT:(n.length:Int)=2
  .rw [show nlnS g [97,108,108] n=allS (n.getD 0 0) (n.getD 1 0) by simp [nlnS,patS,allS,hT]]
   have i0:0<n.length:=by omega
   have i1:1<n.length:=by omega
   have hA:=spec_l15All (n.getD 0 0) (n.getD 1 0)
   refine AC_of tauOk 159 0 [6] Tryz.func46 rfl (by kernel_rfl) rfl rfl rfl rfl rfl ?_
   refine ⟨nx rfl,fun _=>⟨nx rfl,fun _=>⟨nx rfl,fun _=>⟨nx rfl,fun _=>⟨nx rfl,fun _=>⟨fun _=>⟨fun _=>?_,fun h=>absurd hT h⟩,fun h=>absurd rfl h⟩⟩⟩⟩⟩⟩
   exact ⟨some 4000,[0,1,2,3,4,5],.one 6 (.one 7 .done),by kernel_rfl,rfl,0,rfl,i0,1,rfl,i1,[],false,_,_,hA,nd0,rfl,rfl,trivial,none,⟨rfl,trivial⟩,rfl,rfl⟩
  .have l2:=hT
   rw [show nlnS g [97,108,108] n=unkS by simp [nlnS,patS,allS,hT]]
   refine AC_of tauOk 159 0 [6] Tryz.func46 rfl (by kernel_rfl) rfl rfl rfl rfl rfl ?_
   refine ⟨nx rfl,fun _=>⟨nx rfl,fun _=>⟨nx rfl,fun _=>⟨nx rfl,fun _=>⟨nx rfl,fun _=>⟨fun _=>⟨fun h=>absurd h l2,fun _=>⟨nx rfl,fun _=>⟨nx rfl,fun _=>⟨nx rfl,fun _=>?_⟩⟩⟩⟩,fun h=>absurd rfl h⟩⟩⟩⟩⟩⟩
   exact ⟨none,⟨rfl,trivial⟩,rfl,rfl⟩
 by_cases w6:w=[103,114,97,112,104,115]
 .subst w6
  by_cases hT:(n.length:Int)=1
  .rw [show nlnS g [103,114,97,112,104,115] n=fmtI (cgI (n.getD 0 0)) by simp [nlnS,patS,allS,hT]]
   have hb:=cg_b (n.getD 0 0)
   refine AC_of tauOk 159 0 [6] Tryz.func46 rfl (by kernel_rfl) rfl rfl rfl rfl rfl ?_
   refine ⟨nx rfl,fun _=>⟨nx rfl,fun _=>⟨nx rfl,fun _=>⟨nx rfl,fun _=>⟨nx rfl,fun _=>⟨nx rfl,fun _=>⟨fun _=>⟨fun _=>?_,fun h=>absurd hT h⟩,fun h=>absurd rfl h⟩⟩⟩⟩⟩⟩⟩
   refine ⟨0,rfl,by omega,[],false,_,_,spec_CountGraphs (n.getD 0 0),nd0,rfl,rfl,trivial,[],false,_,_,spec_FormatInt _ (by omega) (by omega),nd0,rfl,rfl,trivial,?_⟩
   exact ⟨none,⟨rfl,trivial⟩,rfl,rfl⟩
  have l1:=hT
  by_cases hT:(n.length:Int)=2
  .rw [show nlnS g [103,114,97,112,104,115] n=fmtI (cgwI (n.getD 0 0) (n.getD 1 0)) by simp [nlnS,patS,allS,hT]]
   have i0:0<n.length:=by omega
   have i1:1<n.length:=by omega
   have hb:=cgw_b (n.getD 0 0) (n.getD 1 0)
   have hA:=spec_CountGraphsWith (n.getD 0 0) (n.getD 1 0)
   have fA:=spec_FormatInt (cgwI (n.getD 0 0) (n.getD 1 0)) (by omega) (by omega)
   refine AC_of tauOk 159 0 [6] Tryz.func46 rfl (by kernel_rfl) rfl rfl rfl rfl rfl ?_
   refine ⟨nx rfl,fun _=>⟨nx rfl,fun _=>⟨nx rfl,fun _=>⟨nx rfl,fun _=>⟨nx rfl,fun _=>⟨nx rfl,fun _=>⟨fun _=>⟨fun h=>absurd h l1,fun _=>⟨fun _=>⟨fun _=>?_,fun h=>absurd hT h⟩,fun h=>absurd rfl h⟩⟩,fun h=>absurd rfl h⟩⟩⟩⟩⟩⟩⟩
   exact ⟨some 4000,[0,1,2,3,4,5],.one 6 (.one 7 (.one 8 .done)),by kernel_rfl,rfl,0,rfl,i0,1,rfl,i1,[],false,_,_,hA,nd0,rfl,rfl,trivial,[],false,_,_,fA,nd0,rfl,rfl,trivial,none,⟨rfl,trivial⟩,rfl,rfl⟩
  .have l2:=hT
   rw [show nlnS g [103,114,97,112,104,115] n=unkS by simp [nlnS,l1,l2]]
   refine AC_of tauOk 159 0 [6] Tryz.func46 rfl (by kernel_rfl) rfl rfl rfl rfl rfl ?_
   refine ⟨nx rfl,fun _=>⟨nx rfl,fun _=>⟨nx rfl,fun _=>⟨nx rfl,fun _=>⟨nx rfl,fun _=>⟨nx rfl,fun _=>⟨fun _=>⟨fun h=>absurd h l1,fun _=>⟨fun _=>⟨fun h=>absurd h l2,fun _=>⟨nx rfl,fun _=>?_⟩⟩,fun h=>absurd rfl h⟩⟩,fun h=>absurd rfl h⟩⟩⟩⟩⟩⟩⟩
   exact ⟨none,⟨rfl,trivial⟩,rfl,rfl⟩
 by_cases w7:w=[116,114,101,101,115]
 .subst w7
  by_cases hT:(n.length:Int)=1
  .rw [show nlnS g [116,114,101,101,115] n=Lib.join ([rootN (n.getD 0 0),freeN (n.getD 0 0)].map fmtI) [32] by simp [nlnS,patS,allS,hT]]
   have i0:0<n.length:=by omega
   have b1:=root_b (n.getD 0 0)
   have b2:=free_b2 (n.getD 0 0)
   have hA:=spec_CountRooted (n.getD 0 0)
   have hB:=spec_CountFree (n.getD 0 0)
   rw [List.map_cons,List.map_cons,List.map_nil,join2]
   generalize rootN (n.getD 0 0)=x at*
   generalize freeN (n.getD 0 0)=y at*
   have fA:=spec_FormatInt x (by omega) (by omega)
   have fB:=spec_FormatInt y (by omega) (by omega)
   have f1:=fI_len x (by omega)
   have f2:=fI_len y (by omega)
   have c1:(fmtI x).length+([32]:List UInt8).length<=4611686018427387904:=by simp only [List.length_append,List.length_cons,List.length_nil];omega
   have c2:(fmtI x++[32]).length+(fmtI y).length<=4611686018427387904:=by simp only [List.length_append,List.length_cons,List.length_nil];omega
   refine AC_of tauOk 159 0 [6] Tryz.func46 rfl (by kernel_rfl) rfl rfl rfl rfl rfl ?_
   refine ⟨nx rfl,fun _=>⟨nx rfl,fun _=>⟨nx rfl,fun _=>⟨nx rfl,fun _=>⟨nx rfl,fun _=>⟨nx rfl,fun _=>⟨nx rfl,fun _=>⟨nx rfl,fun _=>⟨fun _=>⟨fun _=>?_,fun h=>absurd hT h⟩,fun h=>absurd rfl h⟩⟩⟩⟩⟩⟩⟩⟩⟩
   exact ⟨some 4000,[0,1,2,6,7,8],.one 3 (.one 4 (.two 5 (.one 9 (.one 10 (.one 11 (.one 12 .done)))) 9 (.two 5 (.one 10 (.one 11 (.one 12 .done))) 10 (.one 5 (.one 11 (.one 12 .done)))))),by kernel_rfl,rfl,0,rfl,i0,0,rfl,i0,[],false,_,_,hA,nd0,rfl,rfl,trivial,[],false,_,_,fA,nd0,rfl,rfl,trivial,⟨c1,[],false,_,_,hB,nd0,rfl,rfl,trivial,[],false,_,_,fB,nd0,rfl,rfl,trivial,c2,none,⟨rfl,trivial⟩,rfl,rfl⟩,[],false,_,_,hB,nd0,rfl,rfl,trivial,⟨c1,[],false,_,_,fB,nd0,rfl,rfl,trivial,c2,none,⟨rfl,trivial⟩,rfl,rfl⟩,[],false,_,_,fB,nd0,rfl,rfl,trivial,c1,c2,none,⟨rfl,trivial⟩,rfl,rfl⟩
  .have l1:=hT
   rw [show nlnS g [116,114,101,101,115] n=unkS by simp [nlnS,patS,allS,hT]]
   refine AC_of tauOk 159 0 [6] Tryz.func46 rfl (by kernel_rfl) rfl rfl rfl rfl rfl ?_
   refine ⟨nx rfl,fun _=>⟨nx rfl,fun _=>⟨nx rfl,fun _=>⟨nx rfl,fun _=>⟨nx rfl,fun _=>⟨nx rfl,fun _=>⟨nx rfl,fun _=>⟨nx rfl,fun _=>⟨fun _=>⟨fun h=>absurd h l1,fun _=>?_⟩,fun h=>absurd rfl h⟩⟩⟩⟩⟩⟩⟩⟩⟩
   exact ⟨none,⟨rfl,trivial⟩,rfl,rfl⟩
 rw [show nlnS g w n=unkS by simp [nlnS,w0,w1,w2,w3,w4,w5,w6,w7]]
 refine AC_of tauOk 159 0 [6] Tryz.func46 rfl (by kernel_rfl) rfl rfl rfl rfl rfl ?_
 refine ⟨fun h=>absurd h w0,fun _=>⟨fun h=>absurd h w1,fun _=>⟨fun h=>absurd h w2,fun _=>⟨fun h=>absurd h w3,fun _=>⟨fun h=>absurd h w4,fun _=>⟨fun h=>absurd h w5,fun _=>⟨fun h=>absurd h w6,fun _=>⟨fun h=>absurd h w6,fun _=>⟨fun h=>absurd h w7,fun _=>?_⟩⟩⟩⟩⟩⟩⟩⟩⟩
 exact ⟨none,⟨rfl,trivial⟩,rfl,rfl⟩
theorem wln_unk {w:List UInt8} (h:¬(w=[99,97,110,111,110]\/w=[119,111,114,100]\/w=[102,97,99,116,111,114,115]\/w=[116,114,101,101])) (g:List (List Int)) (arg:List UInt8):wlnS g w arg=unkS:=by
 simp only [not_or] at h
 unfold wlnS
 rw [if_neg h.2.2.2,if_neg h.1,if_neg h.2.1,if_neg h.2.2.1,ite_self]
theorem tl_word {w:List UInt8} (h:w=[99,97,110,111,110]\/w=[119,111,114,100]\/w=[102,97,99,116,111,114,115]\/w=[116,114,101,101]) (g:List (List Int)) {args:List (List UInt8)} (h1:(args.length:Int)=1):
 ngO w args=none/\tlZ g w args=txtS g w (args.getD 0 []):=by
 have h2:nlnS g w (args.map prsV)=unkS:=by rcases h with rfl|rfl|rfl|rfl<;>simp [nlnS]
 have h3:txtS g w (args.getD 0 [])=wlnS g w (args.getD 0 []):=by rcases h with rfl|rfl|rfl|rfl<;>simp [txtS,wlnS]
 refine ⟨by rcases h with rfl|rfl|rfl|rfl<;>simp [ngO],?_⟩
 rw [h3]
 unfold tlZ
 rw [if_neg (by omega)]
 by_cases hu:wlnS g w (args.getD 0 [])=unkS
 .rw [if_neg (fun e=>e.2 hu),h2,ite_self,hu]
 .rw [if_pos ⟨h1,hu⟩]
theorem tl_gen (g:List (List Int)) {args:List (List UInt8)} (h1:(args.length:Int)=2):
 ngO [103,101,110,101,114,97,116,101] args=(if prpB (args.getD 0 [])=true/\prpB (args.getD 1 [])=true then some (genO (prpL (args.getD 0 [])) (prpL (args.getD 1 []))) else none)/\tlZ g [103,101,110,101,114,97,116,101] args=unkS:=by
 refine ⟨by rw [ngO,if_pos ⟨rfl,h1⟩],?_⟩
 unfold tlZ
 rw [if_neg (by omega),if_neg (fun e=>by have:=e.1;omega),show nlnS g [103,101,110,101,114,97,116,101] (args.map prsV)=unkS by simp [nlnS],ite_self]
theorem tl_rest {w:List UInt8} (g:List (List Int)) {args:List (List UInt8)} (h0:¬(args.length:Int)=0) (hw:(args.length:Int)=1->¬(w=[99,97,110,111,110]\/w=[119,111,114,100]\/w=[102,97,99,116,111,114,115]\/w=[116,114,101,101])):
 tlZ g w args=if args.all prsB=true then nlnS g w (args.map prsV) else unkS:=by
 unfold tlZ
 rw [if_neg h0,if_neg (fun e=>e.2 (wln_unk (hw e.1) g _))]
theorem ng_rest {w:List UInt8} {args:List (List UInt8)} (h:¬(w=[103,101,110,101,114,97,116,101]/\(args.length:Int)=2)):
 ngO w args=if args.all prsB=true then grO w (args.map prsV) else none:=by
 unfold ngO grO
 rw [if_neg h,List.length_map]
 have e0:∀j,j<args.length->(args.map prsV).getD j 0=prsV (args.getD j []):=fun j hj=>map_get _ _ _ hj
 split
 .by_cases c1:w=[99,121,99,108,105,99]/\(args.length:Int)=1
  .rw [if_pos c1,if_pos c1,e0 0 (by omega)]
  rw [if_neg c1,if_neg c1]
  by_cases c2:w=[100,105,104,101,100,114,97,108]/\(args.length:Int)=1
  .rw [if_pos c2,if_pos c2,e0 0 (by omega)]
  rw [if_neg c2,if_neg c2]
  by_cases c3:w=[115,121,109,109,101,116,114,105,99]/\(args.length:Int)=1
  .rw [if_pos c3,if_pos c3,e0 0 (by omega)]
  rw [if_neg c3,if_neg c3]
  by_cases c4:w=[115,111,108,105,100]/\(args.length:Int)=2
  .rw [if_pos c4,if_pos c4,e0 0 (by omega),e0 1 (by omega)]
  rw [if_neg c4,if_neg c4]
 .rfl
theorem ng_nil {w:List UInt8} {args:List (List UInt8)} (h:(args.length:Int)=0):ngO w args=none:=by
 rw [ng_rest (fun e=>by omega),show args=[] from List.eq_nil_of_length_eq_zero (by omega)]
 simp [grO]
theorem rlN {g:List (List Int)} {line:List UInt8} (hb:¬rlB line=true) (hn:ngO (rlW line) (rlA line)=none):rlG g line=g/\rlZ g line=tlZ g (rlW line) (rlA line):=by
 unfold rlG rlZ
 rw [if_neg hb,if_neg hb,hn];exact ⟨rfl,rfl⟩
theorem rlS {g:List (List Int)} {line:List UInt8} (hb:¬rlB line=true) {o:Option (List (List Int))} (hn:ngO (rlW line) (rlA line)=some o):[AV.d true (.sl (.sl .int)) (rlG g line),.d true .str (rlZ g line)]=setR g o:=by
 unfold rlG rlZ
 rw [if_neg hb,if_neg hb,hn]
 cases o<;>rfl
theorem drop_getD (ws:List (List UInt8)) (i:Nat):(ws.drop 1).getD i []=ws.getD (i+1) []:=by
 cases ws<;>rfl
set_option maxHeartbeats 1000000 in
theorem spec_RunLine (sh:Bool) (g:List (List Int)) (line:List UInt8) (hgl:g.length<=1048576) (hx:∀i,i<g.length->(g.getD i []).length<=1048576) (hll:line.length<=1048576) (r:List AV)
 (hr:r=[.d true (.sl (.sl .int)) (rlG g line),.d true .str (rlZ g line)]):AC Tryz.prog 17 [.d sh (.sl (.sl .int)) g,.d true .str line] [] r []:=by
 have hS:=spec_SplitC line 32 hll
 have hP:=(wrdG_pos (byB [32]) line).1
 obtain ⟨ha1,ha2⟩:=wrd_bd2 line hll
 have hA:rlA line=(wrdG (byB [32]) line).drop 1:=rfl
 have hW:rlW line=(wrdG (byB [32]) line).getD 0 []:=rfl
 have hl:=congrArg List.length hA
 rw [List.length_drop] at hl
 have hg:∀i,(rlA line).getD i []=(wrdG (byB [32]) line).getD (i+1) []:=drop_getD _
 have rN:=rlN (g:=g) (line:=line)
 have rS:=fun hb o=>rlS (g:=g) (line:=line) hb (o:=o)
 have hb0:rlB line=true->r=[.d true (.sl (.sl .int)) g,.d true .str []]:=fun hb=>by rw [hr];unfold rlG rlZ;rw [if_pos hb,if_pos hb]
 rw [<-hr] at rS
 have rN:∀T,¬rlB line=true->ngO (rlW line) (rlA line)=none->tlZ g (rlW line) (rlA line)=T->r=[.d true (.sl (.sl .int)) g,.d true .str T]:=fun T hb hn ht=>by
  obtain ⟨e1,e2⟩:=rN hb hn
  rw [hr,e1,e2,ht]
 clear hr
 generalize rlA line=args at*
 generalize rlW line=w at*
 generalize wrdG (byB [32]) line=ws at*
 subst hW
 refine AC_of tauOk 133 0 [4,5] Tryz.func17 rfl (by kernel_rfl) rfl rfl rfl rfl rfl ?_
 refine ⟨[],true,_,_,spec_l15Copy sh g hgl hx,nd0,rfl,rfl,trivial,fun h1=>?_,fun h1=>?_⟩
 .obtain rfl:=hb0 (by unfold rlB;rw [decide_eq_true h1];rfl)
  exact ⟨none,⟨rfl,rfl,trivial⟩,rfl,rfl⟩
 have h0:0<line.length:=List.length_pos_iff.2 h1
 refine ⟨0,rfl,h0,fun h2=>?_,fun h2=>?_⟩
 .obtain rfl:=hb0 (by unfold rlB;rw [decide_eq_true h2,Bool.or_true])
  exact ⟨none,⟨rfl,rfl,trivial⟩,rfl,rfl⟩
 have hb:¬rlB line=true:=by unfold rlB;rw [decide_eq_false h1,decide_eq_false h2];decide
 have rN:=fun T=>rN T hb
 have rS:=fun o=>rS hb o
 clear hb0
 refine ⟨[],true,_,_,hS,nd0,rfl,rfl,trivial,fun h3=>?_,fun h3=>?_⟩
 .obtain rfl:=rN (plnZ g (ws.getD 0 [])) (ng_nil (by omega)) (by unfold tlZ;rw [if_pos (by omega)])
  refine ⟨0,rfl,by omega,[],false,_,_,spec_l15Word g (ws.getD 0 []) hgl hx,nd0,rfl,rfl,trivial,?_⟩
  exact ⟨none,⟨rfl,rfl,trivial⟩,rfl,rfl⟩
 have i0:0<ws.length:=by omega
 refine ⟨fun h4=>⟨0,rfl,i0,fun e1=>?a1,fun e1=>⟨0,rfl,i0,fun e2=>?a2,fun e2=>⟨0,rfl,i0,fun e3=>?a3,fun e3=>⟨0,rfl,i0,fun e4=>?a4,fun e4=>⟨fun h5=>absurd h5 (by omega),fun h5=>?t1⟩⟩⟩⟩⟩,fun h4=>⟨fun h5=>⟨0,rfl,i0,fun e5=>?g,fun e5=>?t2⟩,fun h5=>?t3⟩⟩
 case a1|a2|a3|a4=>
  have i1:1<ws.length:=by omega
  have hw:ws.getD 0 []=[99,97,110,111,110]\/ws.getD 0 []=[119,111,114,100]\/ws.getD 0 []=[102,97,99,116,111,114,115]\/ws.getD 0 []=[116,114,101,101]:=by
   first|exact .inr (.inr (.inr e4))|exact .inr (.inr (.inl e3))|exact .inr (.inl e2)|exact .inl e1
  obtain ⟨k1,k2⟩:=tl_word hw g (args:=args) (by omega)
  rw [hg 0] at k2
  obtain rfl:=rN _ k1 k2
  have h1a:(ws.getD 1 []).length<=1048575:=by have:=ha1 0 (by omega);rw [hg 0] at this;exact this
  refine ⟨some 2000,[0,1,2,3,4,5,6,7],[8,9,10],by kernel_rfl,rfl,0,rfl,i0,1,rfl,i1,[],false,_,_,spec_l15Text true g (ws.getD 0 []) (ws.getD 1 []) hgl hx (by omega),nd0,rfl,rfl,trivial,?_⟩
  exact ⟨none,⟨rfl,rfl,trivial⟩,rfl,rfl⟩
 case g=>
  have i1:1<ws.length:=by omega
  have i2:2<ws.length:=by omega
  have h1a:(ws.getD 1 []).length<=1048575:=by have:=ha1 0 (by omega);rw [hg 0] at this;exact this
  have h1b:(ws.getD 2 []).length<=1048575:=by have:=ha1 1 (by omega);rw [hg 1] at this;exact this
  obtain ⟨k1,k2⟩:=tl_gen g (args:=args) (by omega)
  have e6:ws.getD 0 []=[103,101,110,101,114,97,116,101]:=e5
  rw [<-e6] at k1 k2
  rw [hg 0,hg 1] at k1
  have hG:r=gnR g (ws.getD 1 []) (ws.getD 2 []):=by
   unfold gnR
   split
   .rename_i h
    rw [if_pos h] at k1
    exact rS _ k1
   .rename_i h
    rw [if_neg h] at k1
    exact rN _ k1 k2
  subst hG
  have hGn:=spec_l15Generate g (ws.getD 1 []) (ws.getD 2 []) h1a h1b
  have hcase:(∃G s,gnR g (ws.getD 1 []) (ws.getD 2 [])=[.d true (.sl (.sl .int)) G,.d true .str s]):=by
   unfold gnR
   split
   .cases genO (prpL (ws.getD 1 [])) (prpL (ws.getD 2 [])) with
    |none=>exact ⟨_,_,rfl⟩
    |some G=>exact ⟨_,_,rfl⟩
   .exact ⟨_,_,rfl⟩
  obtain ⟨G,s,hR⟩:=hcase
  rw [hR] at hGn ⊢
  refine ⟨some 4000,[0,1,2,3,4,5,6],.one 7 (.two 8 (.one 9 (.one 10 (.one 11 .done))) 9 (.one 8 (.one 10 (.one 11 .done)))),by kernel_rfl,rfl,1,rfl,i1,2,rfl,i2,[],false,_,_,hGn,nd0,rfl,rfl,trivial,?_,?_⟩<;>
  exact ⟨none,⟨rfl,rfl,trivial⟩,rfl,rfl⟩
 case t1|t2|t3=>
  have hng:=ng_rest (w:=ws.getD 0 []) (args:=args) (fun e=>by first|(have:=e.2;omega)|exact e5 e.1)
  have htl:=tl_rest (w:=ws.getD 0 []) g (args:=args) (by omega) (fun e=>by first|(exfalso;omega)|exact fun h=>by rcases h with h|h|h|h<;>contradiction)
  have hall:∀i,i<args.length->((args.getD i []).length<=1048576):=fun i hi=>by have:=ha1 i hi;omega
  refine ⟨rfl,by decide,true,?_⟩
  refine ⟨1,rfl,by omega,Nat.le_refl _,?_⟩
  rw [List.take_length,<-hA]
  refine ⟨Nat,fun k=>⟨[(6,.d true (.sl (.sl .int)) g),(7,.d true (.sl .str) ws),(8,.ow 0),(94,.d true (.sl .str) args),(95,I args.length),(96,I (k:Nat))],[.sl 3 .int ((args.take k).map prsV)]⟩,fun k=>k<=args.length/\(args.take k).all prsB=true,fun k=>args.length-k,0,⟨Nat.zero_le _,rfl⟩,
   ⟨⟨rfl,rfl⟩,⟨rfl,rfl,rfl,rfl,rfl,rfl,trivial⟩,rfl,trivial⟩,?_⟩
  rintro k ⟨hk,hka⟩
  refine ⟨fun h6=>?_,fun h6=>?_⟩
  .have hk2:k<args.length:=by omega
   have hs:=L_succ args k [] hk2
   have htl2:(args.take k).length=k:=by rw [List.length_take];omega
   have hI:=spec_ParseInt (args.getD k []) (hall k hk2)
   refine ⟨k,rfl,hk2,?_⟩
   cases hp:prsB (args.getD k [])
   .rw [prsR_no hp] at hI
    have hno:¬args.all prsB=true:=fun h=>by
     rw [List.all_eq_true] at h
     have:=h (args.getD k []) (by rw [getD_get _ _ _ hk2];exact List.getElem_mem _)
     rw [hp] at this;cases this
    rw [if_neg hno] at hng htl
    obtain rfl:=rN _ hng htl
    refine ⟨[],false,_,_,hI,nd0,rfl,rfl,trivial,nofun,fun _=>?_⟩
    exact ⟨none,⟨rfl,rfl,trivial⟩,rfl,rfl⟩
   .rw [prsR_yes hp] at hI
    refine ⟨[],false,_,_,hI,nd0,rfl,rfl,trivial,fun _=>?_,nofun⟩
    refine ⟨rfl,by decide,false,?_⟩
    refine ⟨rfl,Nat.zero_le _,rfl,by simp only [List.length_cons,List.length_nil,List.length_map];omega,rfl,?_⟩
    exact ⟨((k+1:Nat):Int),w64_eq (by omega) (by omega) (by omega),k+1,⟨by omega,by rw [hs,List.all_append,hka,List.all_cons,hp];rfl⟩,by dsimp only;omega,⟨rfl,rfl⟩,⟨rfl,rfl,rfl,rfl,rfl,rfl,trivial⟩,rowE (by rw [hs,List.map_append];rfl),trivial⟩
  .obtain rfl:k=args.length:=by omega
   dsimp only at hka ⊢
   rw [List.take_length] at hka ⊢
   rw [if_pos hka] at hng htl
   have hGr:=spec_l15Group false g (ws.getD 0 []) (args.map prsV)
   have hNu:=spec_l15Numbers false g (ws.getD 0 []) (args.map prsV) hgl hx
   cases hO:grO (ws.getD 0 []) (args.map prsV) with
   |none=>
    rw [hO] at hGr hng
    obtain rfl:=rN _ hng htl
    refine ⟨0,rfl,i0,[],false,_,_,hGr,nd0,rfl,rfl,trivial,nofun,fun _=>?_⟩
    refine ⟨0,rfl,i0,[],false,_,_,hNu,nd0,rfl,rfl,trivial,?_⟩
    exact ⟨none,⟨rfl,rfl,trivial⟩,rfl,rfl⟩
   |some o=>
    rw [hO] at hGr hng
    have hr:=rS o hng
    cases o with
    |none=>
     subst hr
     refine ⟨0,rfl,i0,[],false,_,_,hGr,nd0,rfl,rfl,trivial,fun _=>?_,nofun⟩
     exact ⟨none,⟨rfl,rfl,trivial⟩,rfl,rfl⟩
    |some G=>
     subst hr
     refine ⟨0,rfl,i0,[],false,_,_,hGr,nd0,rfl,rfl,trivial,fun _=>?_,nofun⟩
     exact ⟨none,⟨rfl,rfl,trivial⟩,rfl,rfl⟩
theorem plnZ_len {g:List (List Int)} (hB:gokB g=true) (w:List UInt8):(plnZ g w).length<=140737488355328:=by
 obtain ⟨b1,b2,b3,b4,b5,b6,b7⟩:=pln_bd hB
 have hgl:=(perm_bd hB).1
 have f1:=fmtL_len b4
 have f2:=fmtL_len b6
 have f3:=ixl_len hB
 have f4:=lst_len g (by omega)
 unfold plnZ orbZ clsZ
 rw [if_pos hB,if_pos hB]
 split
 .rw [ixlS,if_pos hB];omega
 split
 .omega
 split
 .omega
 split
 .omega
 split
 .omega
 .decide
theorem rlZ_len {g:List (List Int)} (hB:gokB g=true) (line:List UInt8):(rlZ g line).length<=140737488355328:=by
 have hgl:=(perm_bd hB).1
 unfold rlZ
 split
 .decide
 .split
  .rename_i G h
   have:=(perm_bd (ng_gok h)).1
   have:=fI_len (G.length:Int) (by omega)
   unfold ordS
   simp only [List.length_append,List.length_cons,List.length_nil];omega
  .decide
  .unfold tlZ
   split
   .exact plnZ_len hB _
   split
   .exact wlnS_len g _ _
   split
   .exact nlnS_len g _ _ (by omega)
   .decide
def rsG (ls:List (List UInt8)):Nat->List (List Int) × List UInt8
 |0=>(gG 4 [turnL 4],[])
 |k+1=>(rlG (rsG ls k).1 (ls.getD k []),if rlZ (rsG ls k).1 (ls.getD k [])≠[] then (rsG ls k).2++(rlZ (rsG ls k).1 (ls.getD k [])++[10]) else (rsG ls k).2)
theorem rsG_gok (ls:List (List UInt8)):∀k,gokB (rsG ls k).1=true
 |0=>by
  obtain ⟨⟨c1,c2⟩,c3,c4⟩:=grp_chk 4 (by decide) (by decide)
  exact gG_gok (by decide) (by decide) (gens1 c1) c3
 |k+1=>rlG_gok (rsG_gok ls k) _
theorem rsG_len (ls:List (List UInt8)) (B:Nat) (hB:140737488355328<=B):∀k,(rsG ls k).2.length<=k*(B+1)
 |0=>Nat.zero_le _
 |k+1=>by
  have ih:=rsG_len ls B hB k
  have h:=Nat.le_trans (rlZ_len (rsG_gok ls k) (ls.getD k [])) hB
  rw [Nat.add_mul,Nat.one_mul,rsG]
  dsimp only
  split
  .simp only [List.length_append,List.length_cons,List.length_nil];omega
  .omega
def rsZ (t:List UInt8):List UInt8:=if (lnsL t).length>40 then [] else (rsG (lnsL t) (lnsL t).length).2
def rsM (t:List UInt8):Int:=if (lnsL t).length>40 then-1 else ((lnsL t).length:Nat)
theorem gok_bd {g:List (List Int)} (hB:gokB g=true):g.length<=1048576/\∀i,i<g.length->(g.getD i []).length<=1048576:=by
 obtain ⟨⟨hg1,hg2⟩,hgp⟩:=perm_bd hB
 exact ⟨by omega,fun i hi=>by have:=(hgp i hi).1.1;omega⟩
theorem impl_RunSession_z (t:List UInt8) (hl:t.length<=1048576):AC Tryz.prog 8 [.d true .str t] [] [.d true .str (rsZ t),I (rsM t)] []:=by
 obtain ⟨hb1,hb2⟩:=lns_bd t
 have hL:=impl_SplitLines t (by omega)
 unfold rsZ rsM
 generalize lnsL t=ls at*
 refine AC_of tauOk 40 0 [2,3] Tryz.func8 rfl (by kernel_rfl) rfl rfl rfl rfl rfl ?_
 refine ⟨[],false,_,_,hL,nd0,rfl,rfl,trivial,fun h1=>?_,fun h1=>?_⟩
 .rw [if_pos (show ls.length>40 by omega),if_pos (show ls.length>40 by omega)]
  exact ⟨none,⟨rfl,rfl,trivial⟩,rfl,rfl⟩
 .rw [if_neg (show ¬ls.length>40 by omega),if_neg (show ¬ls.length>40 by omega)]
  refine ⟨[],false,_,_,impl_NewConsole_d,nd0,rfl,rfl,trivial,?_⟩
  refine ⟨Nat,fun k=>⟨[(4,.d true (.sl .str) ls),(5,.d true (.sl (.sl .int)) (rsG ls k).1),(6,.d true .str (rsG ls k).2),(17,.d true (.sl .str) ls),(18,I ls.length),(19,I (k:Nat))],[]⟩,fun k=>k<=ls.length,fun k=>ls.length-k,0,Nat.zero_le _,
   ⟨⟨rfl,rfl⟩,⟨rfl,rfl,rfl,rfl,rfl,rfl,trivial⟩,trivial⟩,fun k hk=>?_⟩
  dsimp only at hk
  refine ⟨fun h2=>?_,fun h2=>?_⟩
  .have hk2:k<ls.length:=by omega
   obtain ⟨gb1,gb2⟩:=gok_bd (rsG_gok ls k)
   have hR:=impl_RunLine_z true (rsG ls k).1 (ls.getD k []) gb1 gb2 (by have:=hb2 k hk2;omega)
   have e1:(rsG ls (k+1)).1=rlG (rsG ls k).1 (ls.getD k []):=rfl
   have e2:(rsG ls (k+1)).2=if rlZ (rsG ls k).1 (ls.getD k [])≠[] then (rsG ls k).2++(rlZ (rsG ls k).1 (ls.getD k [])++[10]) else (rsG ls k).2:=rfl
   refine ⟨k,rfl,hk2,[],false,_,_,hR,nd0,rfl,rfl,trivial,fun h3=>?_,fun h3=>?_⟩
   .rw [if_pos h3] at e2
    have l1:=rsG_len ls _ (Nat.le_refl _) k
    have l2:=rlZ_len (rsG_gok ls k) (ls.getD k [])
    have l3:k*(140737488355328+1)<=40*(140737488355328+1):=Nat.mul_le_mul_right _ (by omega)
    refine ⟨by simp only [List.length_cons,List.length_nil];omega,by simp only [List.length_append,List.length_cons,List.length_nil];omega,?_⟩
    refine ⟨((k+1:Nat):Int),w64_eq (by omega) (by omega) (by omega),k+1,by dsimp only;omega,by dsimp only;omega,⟨rfl,rfl⟩,⟨rfl,rfl,?_,rfl,rfl,rfl,trivial⟩,trivial⟩
    rw [e2];rfl
   .rw [if_neg h3] at e2
    refine ⟨((k+1:Nat):Int),w64_eq (by omega) (by omega) (by omega),k+1,by dsimp only;omega,by dsimp only;omega,⟨rfl,rfl⟩,⟨rfl,rfl,?_,rfl,rfl,rfl,trivial⟩,trivial⟩
    rw [e2];rfl
  .obtain rfl:k=ls.length:=by omega
   exact ⟨none,⟨rfl,rfl,trivial⟩,rfl,rfl⟩
theorem spec_NewConsole_d:AC Tryz.prog 37 [] [] [.d true (.sl (.sl .int)) (gG 4 [turnL 4])] []:=by
 have h:=spec_CyclicGroup_z 4
 rw [show cycO 4=some (gG 4 [turnL 4]) by rw [cycO,if_pos (by decide)];rfl] at h
 refine AC_of tauOk 8 0 [0] Tryz.func37 rfl (by kernel_rfl) rfl rfl rfl rfl rfl ?_
 refine ⟨[],false,_,_,h,nd0,rfl,rfl,trivial,fun _=>?_,nofun⟩
 exact ⟨none,⟨rfl,trivial⟩,rfl,rfl⟩
theorem spec_RunSession_z (t:List UInt8) (hl:t.length<=1048576):AC Tryz.prog 15 [.d true .str t] [] [.d true .str (rsZ t),I (rsM t)] []:=by
 obtain ⟨hb1,hb2⟩:=lns_bd t
 have hL:=spec_SplitLines t (by omega)
 unfold rsZ rsM
 generalize lnsL t=ls at*
 refine AC_of tauOk 40 0 [2,3] Tryz.func15 rfl (by kernel_rfl) rfl rfl rfl rfl rfl ?_
 refine ⟨[],false,_,_,hL,nd0,rfl,rfl,trivial,fun h1=>?_,fun h1=>?_⟩
 .rw [if_pos (show ls.length>40 by omega),if_pos (show ls.length>40 by omega)]
  exact ⟨none,⟨rfl,rfl,trivial⟩,rfl,rfl⟩
 .rw [if_neg (show ¬ls.length>40 by omega),if_neg (show ¬ls.length>40 by omega)]
  refine ⟨[],false,_,_,spec_NewConsole_d,nd0,rfl,rfl,trivial,?_⟩
  refine ⟨Nat,fun k=>⟨[(4,.d true (.sl .str) ls),(5,.d true (.sl (.sl .int)) (rsG ls k).1),(6,.d true .str (rsG ls k).2),(17,.d true (.sl .str) ls),(18,I ls.length),(19,I (k:Nat))],[]⟩,fun k=>k<=ls.length,fun k=>ls.length-k,0,Nat.zero_le _,
   ⟨⟨rfl,rfl⟩,⟨rfl,rfl,rfl,rfl,rfl,rfl,trivial⟩,trivial⟩,fun k hk=>?_⟩
  dsimp only at hk
  refine ⟨fun h2=>?_,fun h2=>?_⟩
  .have hk2:k<ls.length:=by omega
   obtain ⟨gb1,gb2⟩:=gok_bd (rsG_gok ls k)
   have hR:=spec_RunLine true (rsG ls k).1 (ls.getD k []) gb1 gb2 (by have:=hb2 k hk2;omega) _ rfl
   have e1:(rsG ls (k+1)).1=rlG (rsG ls k).1 (ls.getD k []):=rfl
   have e2:(rsG ls (k+1)).2=if rlZ (rsG ls k).1 (ls.getD k [])≠[] then (rsG ls k).2++(rlZ (rsG ls k).1 (ls.getD k [])++[10]) else (rsG ls k).2:=rfl
   refine ⟨k,rfl,hk2,[],false,_,_,hR,nd0,rfl,rfl,trivial,fun h3=>?_,fun h3=>?_⟩
   .rw [if_pos h3] at e2
    have l1:=rsG_len ls _ (Nat.le_refl _) k
    have l2:=rlZ_len (rsG_gok ls k) (ls.getD k [])
    have l3:k*(140737488355328+1)<=40*(140737488355328+1):=Nat.mul_le_mul_right _ (by omega)
    refine ⟨by omega,by simp only [List.length_append,List.length_cons,List.length_nil];omega,?_⟩
    refine ⟨((k+1:Nat):Int),w64_eq (by omega) (by omega) (by omega),k+1,by dsimp only;omega,by dsimp only;omega,⟨rfl,rfl⟩,⟨rfl,rfl,?_,rfl,rfl,rfl,trivial⟩,trivial⟩
    rw [e2,<-List.append_assoc];rfl
   .rw [if_neg h3] at e2
    refine ⟨((k+1:Nat):Int),w64_eq (by omega) (by omega) (by omega),k+1,by dsimp only;omega,by dsimp only;omega,⟨rfl,rfl⟩,⟨rfl,rfl,?_,rfl,rfl,rfl,trivial⟩,trivial⟩
    rw [e2];rfl
  .obtain rfl:k=ls.length:=by omega
   exact ⟨none,⟨rfl,rfl,trivial⟩,rfl,rfl⟩
theorem laws_FnExactRunSession (t:List UInt8):AC Tryz.prog 5 [.d true .str t] [] [.d true .bool true] []:=by
 refine AC_of tauOk 28 0 [2] Tryz.func5 rfl (by kernel_rfl) rfl rfl rfl rfl rfl ?_
 refine ⟨fun h1=>?_,fun h1=>?_⟩
 .exact ⟨none,⟨rfl,trivial⟩,rfl,rfl⟩
 have hl:t.length<=1048576:=by omega
 refine ⟨[],false,_,_,spec_RunSession_z t hl,nd0,rfl,rfl,trivial,[],false,_,_,impl_RunSession_z t hl,nd0,rfl,rfl,trivial,?_⟩
 refine ⟨fun h=>(h rfl).elim,fun _=>⟨fun h=>(h rfl).elim,fun _=>?_⟩⟩
 exact ⟨none,⟨rfl,trivial⟩,rfl,rfl⟩
end Go.Proofs.YtacjiemkbhhhoaaGreatDoor
