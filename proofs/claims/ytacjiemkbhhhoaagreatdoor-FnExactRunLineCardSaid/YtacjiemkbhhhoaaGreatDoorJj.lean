/-
  Part 10 of the texts that the claim rests on: Wspd, Wspe, Wsph, Lw.
  No condition beyond the given program.
-/
import Derived.Test.YtacjiemkbhhhoaaGreatDoorJi
set_option linter.unusedVariables false
set_option linter.unusedSimpArgs false
namespace Go.Proofs.YtacjiemkbhhhoaaGreatDoor
open Go Go.RowKit Go.Proofs.YtacjiemkbhhhoaaGreatDoor.Ow
theorem nx {p A:Prop} [Decidable p] (h:decide p=false):p->A:=fun hp=>absurd hp (of_decide_eq_false h)
def grO (w:List UInt8) (n:List Int):Option (Option (List (List Int))):=
 if w=[99,121,99,108,105,99]/\(n.length:Int)=1 then some (cycO (n.getD 0 0))
 else if w=[100,105,104,101,100,114,97,108]/\(n.length:Int)=1 then some (dihO (n.getD 0 0))
 else if w=[115,121,109,109,101,116,114,105,99]/\(n.length:Int)=1 then some (symO (n.getD 0 0))
 else if w=[115,111,108,105,100]/\(n.length:Int)=2 then some (solO (n.getD 0 0) (decide (n.getD 1 0≠0)))
 else none
def grR (g:List (List Int)):Option (Option (List (List Int)))->List AV
 |none=>[.d true (.sl (.sl .int)) g,.d true .str [],.d true .bool false]
 |some none=>[.d true (.sl (.sl .int)) g,.d true .str nonS,.d true .bool true]
 |some (some G)=>[.d true (.sl (.sl .int)) G,.d true .str (ordS++fmtI (G.length:Nat)),.d true .bool true]
theorem cyc_len {n:Int} {G:List (List Int)} (h:cycO n=some G):G.length<=120:=by
 unfold cycO at h
 split at h
 .cases h
  obtain ⟨⟨c1,c2⟩,c3,c4⟩:=grp_chk n.toNat (by omega) (by omega)
  exact (perm_bd (gG_gok (by omega) (by omega) (gens1 c1) c3)).1.2
 .cases h
theorem dih_len {n:Int} {G:List (List Int)} (h:dihO n=some G):G.length<=120:=by
 unfold dihO at h
 split at h
 .cases h
  obtain ⟨⟨c1,c2⟩,c3,c4⟩:=grp_chk n.toNat (by omega) (by omega)
  exact (perm_bd (gG_gok (by omega) (by omega) (gens2 c1 c2) c4)).1.2
 .cases h
theorem sym_len {n:Int} {G:List (List Int)} (h:symO n=some G):G.length<=120:=by
 unfold symO at h
 split at h
 .cases h
  obtain ⟨o,ho,_⟩:=(sym_ok n.toNat (by omega) (by omega)).i
  exact (perm_bd (gG_gok (by omega) (by omega) (gens_ok _ (by omega) (by omega)) (by rw [ho];rfl))).1.2
 .cases h
theorem sol_len {k:Int} {m:Bool} {G:List (List Int)} (h:solO k m=some G):G.length<=120:=by
 unfold solO at h
 split at h
 .cases h;exact (perm_bd (sol_gok k.toNat (by omega) (by omega) m)).1.2
 .cases h
theorem spec_l15Group (s3:Bool) (g:List (List Int)) (w:List UInt8) (n:List Int):
 AC Tryz.prog 45 [.d true (.sl (.sl .int)) g,.d true .str w,.d s3 (.sl .int) n] [] (grR g (grO w n)) []:=by
 by_cases w0:w=[99,121,99,108,105,99]
 .subst w0
  by_cases hT:(n.length:Int)=1
  .rw [show grO [99,121,99,108,105,99] n=some (cycO (n.getD 0 0)) by simp [grO,hT]]
   have hG:=spec_CyclicGroup_z (n.getD 0 0)
   cases hO:cycO (n.getD 0 0) with
   |none=>
    rw [hO] at hG
    refine AC_of tauOk 88 0 [6,7,8] Tryz.func45 rfl (by kernel_rfl) rfl rfl rfl rfl rfl ?_
    refine ⟨rfl,by decide,false,?_⟩
    refine ⟨fun _=>⟨fun _=>?_,fun h=>absurd hT h⟩,fun h=>absurd rfl h⟩
    refine ⟨0,rfl,by omega,[],false,_,_,hG,nd0,rfl,rfl,trivial,nofun,fun _=>?_⟩
    refine ⟨[],false,_,_,spec_l15Set_no g .nil rfl,nd0,rfl,rfl,trivial,?_⟩
    exact ⟨none,⟨rfl,rfl,rfl,trivial⟩,rfl,rfl⟩
   |some G=>
    have hl:=cyc_len hO
    rw [hO] at hG
    refine AC_of tauOk 88 0 [6,7,8] Tryz.func45 rfl (by kernel_rfl) rfl rfl rfl rfl rfl ?_
    refine ⟨rfl,by decide,false,?_⟩
    refine ⟨fun _=>⟨fun _=>?_,fun h=>absurd hT h⟩,fun h=>absurd rfl h⟩
    refine ⟨0,rfl,by omega,[],false,_,_,hG,nd0,rfl,rfl,trivial,fun _=>?_,nofun⟩
    refine ⟨[],false,_,_,spec_l15Set_yes g G (by omega),nd0,rfl,rfl,trivial,?_⟩
    exact ⟨none,⟨rfl,rfl,rfl,trivial⟩,rfl,rfl⟩
  .rw [show grO [99,121,99,108,105,99] n=none by simp [grO,hT]]
   refine AC_of tauOk 88 0 [6,7,8] Tryz.func45 rfl (by kernel_rfl) rfl rfl rfl rfl rfl ?_
   refine ⟨rfl,by decide,false,?_⟩
   refine ⟨fun _=>⟨fun h=>absurd h hT,fun _=>⟨nx rfl,fun _=>⟨nx rfl,fun _=>⟨nx rfl,fun _=>?_⟩⟩⟩⟩,fun h=>absurd rfl h⟩
   exact ⟨none,⟨rfl,rfl,rfl,trivial⟩,rfl,rfl⟩
 by_cases w1:w=[100,105,104,101,100,114,97,108]
 .subst w1
  by_cases hT:(n.length:Int)=1
  .rw [show grO [100,105,104,101,100,114,97,108] n=some (dihO (n.getD 0 0)) by simp [grO,hT]]
   have hG:=spec_DihedralGroup_z (n.getD 0 0)
   cases hO:dihO (n.getD 0 0) with
   |none=>
    rw [hO] at hG
    refine AC_of tauOk 88 0 [6,7,8] Tryz.func45 rfl (by kernel_rfl) rfl rfl rfl rfl rfl ?_
    refine ⟨rfl,by decide,false,?_⟩
    refine ⟨nx rfl,fun _=>⟨fun _=>⟨fun _=>?_,fun h=>absurd hT h⟩,fun h=>absurd rfl h⟩⟩
    refine ⟨0,rfl,by omega,[],false,_,_,hG,nd0,rfl,rfl,trivial,nofun,fun _=>?_⟩
    refine ⟨[],false,_,_,spec_l15Set_no g .nil rfl,nd0,rfl,rfl,trivial,?_⟩
    exact ⟨none,⟨rfl,rfl,rfl,trivial⟩,rfl,rfl⟩
   |some G=>
    have hl:=dih_len hO
    rw [hO] at hG
    refine AC_of tauOk 88 0 [6,7,8] Tryz.func45 rfl (by kernel_rfl) rfl rfl rfl rfl rfl ?_
    refine ⟨rfl,by decide,false,?_⟩
    refine ⟨nx rfl,fun _=>⟨fun _=>⟨fun _=>?_,fun h=>absurd hT h⟩,fun h=>absurd rfl h⟩⟩
    refine ⟨0,rfl,by omega,[],false,_,_,hG,nd0,rfl,rfl,trivial,fun _=>?_,nofun⟩
    refine ⟨[],false,_,_,spec_l15Set_yes g G (by omega),nd0,rfl,rfl,trivial,?_⟩
    exact ⟨none,⟨rfl,rfl,rfl,trivial⟩,rfl,rfl⟩
  .rw [show grO [100,105,104,101,100,114,97,108] n=none by simp [grO,hT]]
   refine AC_of tauOk 88 0 [6,7,8] Tryz.func45 rfl (by kernel_rfl) rfl rfl rfl rfl rfl ?_
   refine ⟨rfl,by decide,false,?_⟩
   refine ⟨nx rfl,fun _=>⟨fun _=>⟨fun h=>absurd h hT,fun _=>⟨nx rfl,fun _=>⟨nx rfl,fun _=>?_⟩⟩⟩,fun h=>absurd rfl h⟩⟩
   exact ⟨none,⟨rfl,rfl,rfl,trivial⟩,rfl,rfl⟩
 by_cases w2:w=[115,121,109,109,101,116,114,105,99]
 .subst w2
  by_cases hT:(n.length:Int)=1
  .rw [show grO [115,121,109,109,101,116,114,105,99] n=some (symO (n.getD 0 0)) by simp [grO,hT]]
   have hG:=spec_SymmetricGroup_z (n.getD 0 0)
   cases hO:symO (n.getD 0 0) with
   |none=>
    rw [hO] at hG
    refine AC_of tauOk 88 0 [6,7,8] Tryz.func45 rfl (by kernel_rfl) rfl rfl rfl rfl rfl ?_
    refine ⟨rfl,by decide,false,?_⟩
    refine ⟨nx rfl,fun _=>⟨nx rfl,fun _=>⟨fun _=>⟨fun _=>?_,fun h=>absurd hT h⟩,fun h=>absurd rfl h⟩⟩⟩
    refine ⟨0,rfl,by omega,[],false,_,_,hG,nd0,rfl,rfl,trivial,nofun,fun _=>?_⟩
    refine ⟨[],false,_,_,spec_l15Set_no g .nil rfl,nd0,rfl,rfl,trivial,?_⟩
    exact ⟨none,⟨rfl,rfl,rfl,trivial⟩,rfl,rfl⟩
   |some G=>
    have hl:=sym_len hO
    rw [hO] at hG
    refine AC_of tauOk 88 0 [6,7,8] Tryz.func45 rfl (by kernel_rfl) rfl rfl rfl rfl rfl ?_
    refine ⟨rfl,by decide,false,?_⟩
    refine ⟨nx rfl,fun _=>⟨nx rfl,fun _=>⟨fun _=>⟨fun _=>?_,fun h=>absurd hT h⟩,fun h=>absurd rfl h⟩⟩⟩
    refine ⟨0,rfl,by omega,[],false,_,_,hG,nd0,rfl,rfl,trivial,fun _=>?_,nofun⟩
    refine ⟨[],false,_,_,spec_l15Set_yes g G (by omega),nd0,rfl,rfl,trivial,?_⟩
    exact ⟨none,⟨rfl,rfl,rfl,trivial⟩,rfl,rfl⟩
  .rw [show grO [115,121,109,109,101,116,114,105,99] n=none by simp [grO,hT]]
   refine AC_of tauOk 88 0 [6,7,8] Tryz.func45 rfl (by kernel_rfl) rfl rfl rfl rfl rfl ?_
   refine ⟨rfl,by decide,false,?_⟩
   refine ⟨nx rfl,fun _=>⟨nx rfl,fun _=>⟨fun _=>⟨fun h=>absurd h hT,fun _=>⟨nx rfl,fun _=>?_⟩⟩,fun h=>absurd rfl h⟩⟩⟩
   exact ⟨none,⟨rfl,rfl,rfl,trivial⟩,rfl,rfl⟩
 by_cases w3:w=[115,111,108,105,100]
 .subst w3
  by_cases hT:(n.length:Int)=2
  .rw [show grO [115,111,108,105,100] n=some (solO (n.getD 0 0) (decide (n.getD 1 0≠0))) by simp [grO,hT]]
   have hG:=spec_SolidGroup_z (n.getD 0 0)
   have hl:=fun m G=>sol_len (k:=n.getD 0 0) (m:=m) (G:=G)
   refine AC_of tauOk 88 0 [6,7,8] Tryz.func45 rfl (by kernel_rfl) rfl rfl rfl rfl rfl ?_
   refine ⟨rfl,by decide,false,?_⟩
   refine ⟨nx rfl,fun _=>⟨nx rfl,fun _=>⟨nx rfl,fun _=>⟨fun _=>⟨fun _=>?_,fun h=>absurd hT h⟩,fun h=>absurd rfl h⟩⟩⟩⟩
   refine ⟨some 4000,[0,1,2,3,4,5],.one 6 (.one 7 (.one 8 (.two 9 (.two 10 (.one 11 (.one 12 .done)) 11 (.one 10 (.one 12 .done))) 10 (.one 9 (.one 11 (.one 12 .done)))))),by kernel_rfl,rfl,?_⟩
   refine ⟨0,rfl,by omega,1,rfl,by omega,fun h4=>?_,fun h4=>?_⟩
   .have hG:=hG true
    rw [decide_eq_true h4]
    cases hO:solO (n.getD 0 0) true with
    |none=>
     rw [hO] at hG
     refine ⟨[],false,_,_,hG,nd0,rfl,rfl,trivial,⟨⟨nofun,fun _=>?_⟩,⟨nofun,fun _=>?_⟩⟩,⟨nofun,fun _=>?_⟩⟩
     all_goals
      refine ⟨[],false,_,_,spec_l15Set_no g .nil rfl,nd0,rfl,rfl,trivial,?_⟩
      exact ⟨none,⟨rfl,rfl,rfl,trivial⟩,rfl,rfl⟩
    |some G=>
     have hl:=hl _ _ hO
     rw [hO] at hG
     refine ⟨[],false,_,_,hG,nd0,rfl,rfl,trivial,⟨⟨fun _=>?_,nofun⟩,⟨fun _=>?_,nofun⟩⟩,⟨fun _=>?_,nofun⟩⟩
     all_goals
      refine ⟨[],false,_,_,spec_l15Set_yes g G (by omega),nd0,rfl,rfl,trivial,?_⟩
      exact ⟨none,⟨rfl,rfl,rfl,trivial⟩,rfl,rfl⟩
   .have hG:=hG false
    rw [decide_eq_false h4]
    cases hO:solO (n.getD 0 0) false with
    |none=>
     rw [hO] at hG
     refine ⟨[],false,_,_,hG,nd0,rfl,rfl,trivial,⟨⟨nofun,fun _=>?_⟩,⟨nofun,fun _=>?_⟩⟩,⟨nofun,fun _=>?_⟩⟩
     all_goals
      refine ⟨[],false,_,_,spec_l15Set_no g .nil rfl,nd0,rfl,rfl,trivial,?_⟩
      exact ⟨none,⟨rfl,rfl,rfl,trivial⟩,rfl,rfl⟩
    |some G=>
     have hl:=hl _ _ hO
     rw [hO] at hG
     refine ⟨[],false,_,_,hG,nd0,rfl,rfl,trivial,⟨⟨fun _=>?_,nofun⟩,⟨fun _=>?_,nofun⟩⟩,⟨fun _=>?_,nofun⟩⟩
     all_goals
      refine ⟨[],false,_,_,spec_l15Set_yes g G (by omega),nd0,rfl,rfl,trivial,?_⟩
      exact ⟨none,⟨rfl,rfl,rfl,trivial⟩,rfl,rfl⟩
  .rw [show grO [115,111,108,105,100] n=none by simp [grO,hT]]
   refine AC_of tauOk 88 0 [6,7,8] Tryz.func45 rfl (by kernel_rfl) rfl rfl rfl rfl rfl ?_
   refine ⟨rfl,by decide,false,?_⟩
   refine ⟨nx rfl,fun _=>⟨nx rfl,fun _=>⟨nx rfl,fun _=>⟨fun _=>⟨fun h=>absurd h hT,fun _=>?_⟩,fun h=>absurd rfl h⟩⟩⟩⟩
   exact ⟨none,⟨rfl,rfl,rfl,trivial⟩,rfl,rfl⟩
 rw [show grO w n=none by simp [grO,w0,w1,w2,w3]]
 refine AC_of tauOk 88 0 [6,7,8] Tryz.func45 rfl (by kernel_rfl) rfl rfl rfl rfl rfl ?_
 refine ⟨rfl,by decide,false,?_⟩
 refine ⟨fun h=>absurd h w0,fun _=>⟨fun h=>absurd h w1,fun _=>⟨fun h=>absurd h w2,fun _=>⟨fun h=>absurd h w3,fun _=>?_⟩⟩⟩⟩
 exact ⟨none,⟨rfl,rfl,rfl,trivial⟩,rfl,rfl⟩
theorem spec_l15Numbers (s3:Bool) (g:List (List Int)) (w:List UInt8) (n:List Int) (hl:g.length<=1048576) (hx:∀i,i<g.length->(g.getD i []).length<=1048576):
 AC Tryz.prog 46 [.d true (.sl (.sl .int)) g,.d true .str w,.d s3 (.sl .int) n] [] [.d true .str (nlnS g w n)] []:=by
 by_cases w0:w=[99,111,117,110,116]
 .subst w0
  by_cases hT:(n.length:Int)=1
  .rw [show nlnS g [99,111,117,110,116] n=clnS g (n.getD 0 0) by simp [nlnS,patS,allS,hT]]
   refine AC_of tauOk 159 0 [6] Tryz.func46 rfl (by kernel_rfl) rfl rfl rfl rfl rfl ?_
   refine ⟨fun _=>⟨fun _=>?_,fun h=>absurd hT h⟩,fun h=>absurd rfl h⟩
   refine ⟨0,rfl,by omega,[],false,_,_,spec_CountLine true g (n.getD 0 0) hl hx,nd0,rfl,rfl,trivial,?_⟩
   exact ⟨none,⟨rfl,trivial⟩,rfl,rfl⟩
  .have l1:=hT
   rw [show nlnS g [99,111,117,110,116] n=unkS by simp [nlnS,patS,allS,hT]]
   refine AC_of tauOk 159 0 [6] Tryz.func46 rfl (by kernel_rfl) rfl rfl rfl rfl rfl ?_
   refine ⟨fun _=>⟨fun h=>absurd h l1,fun _=>⟨nx rfl,fun _=>⟨nx rfl,fun _=>⟨nx rfl,fun _=>⟨nx rfl,fun _=>⟨nx rfl,fun _=>⟨nx rfl,fun _=>⟨nx rfl,fun _=>⟨nx rfl,fun _=>?_⟩⟩⟩⟩⟩⟩⟩⟩⟩,fun h=>absurd rfl h⟩
   exact ⟨none,⟨rfl,trivial⟩,rfl,rfl⟩
 by_cases w1:w=[112,97,116,116,101,114,110,115]
 .subst w1
  by_cases hT:(n.length:Int)=1
  .rw [show nlnS g [112,97,116,116,101,114,110,115] n=patS g [112,97,116,116,101,114,110,115] (n.getD 0 0) by simp [nlnS,patS,allS,hT]]
   refine AC_of tauOk 159 0 [6] Tryz.func46 rfl (by kernel_rfl) rfl rfl rfl rfl rfl ?_
   refine ⟨nx rfl,fun _=>⟨fun _=>⟨fun _=>?_,fun h=>absurd hT h⟩,fun h=>absurd rfl h⟩⟩
   refine ⟨0,rfl,by omega,[],false,_,_,spec_l15Patterns g _ (n.getD 0 0) hl hx,nd0,rfl,rfl,trivial,?_⟩
   exact ⟨none,⟨rfl,trivial⟩,rfl,rfl⟩
  .have l1:=hT
   rw [show nlnS g [112,97,116,116,101,114,110,115] n=unkS by simp [nlnS,patS,allS,hT]]
   refine AC_of tauOk 159 0 [6] Tryz.func46 rfl (by kernel_rfl) rfl rfl rfl rfl rfl ?_
   refine ⟨nx rfl,fun _=>⟨fun _=>⟨fun h=>absurd h l1,fun _=>⟨nx rfl,fun _=>⟨nx rfl,fun _=>⟨nx rfl,fun _=>⟨nx rfl,fun _=>⟨nx rfl,fun _=>⟨nx rfl,fun _=>?_⟩⟩⟩⟩⟩⟩⟩,fun h=>absurd rfl h⟩⟩
   exact ⟨none,⟨rfl,trivial⟩,rfl,rfl⟩
 by_cases w2:w=[101,120,99,104,97,110,103,101,100]
 .subst w2
  by_cases hT:(n.length:Int)=1
  .rw [show nlnS g [101,120,99,104,97,110,103,101,100] n=patS g [101,120,99,104,97,110,103,101,100] (n.getD 0 0) by simp [nlnS,patS,allS,hT]]
   refine AC_of tauOk 159 0 [6] Tryz.func46 rfl (by kernel_rfl) rfl rfl rfl rfl rfl ?_
   refine ⟨nx rfl,fun _=>⟨nx rfl,fun _=>⟨fun _=>⟨fun _=>?_,fun h=>absurd hT h⟩,fun h=>absurd rfl h⟩⟩⟩
   refine ⟨0,rfl,by omega,[],false,_,_,spec_l15Patterns g _ (n.getD 0 0) hl hx,nd0,rfl,rfl,trivial,?_⟩
   exact ⟨none,⟨rfl,trivial⟩,rfl,rfl⟩
  .have l1:=hT
   rw [show nlnS g [101,120,99,104,97,110,103,101,100] n=unkS by simp [nlnS,patS,allS,hT]]
   refine AC_of tauOk 159 0 [6] Tryz.func46 rfl (by kernel_rfl) rfl rfl rfl rfl rfl ?_
   refine ⟨nx rfl,fun _=>⟨nx rfl,fun _=>⟨fun _=>⟨fun h=>absurd h l1,fun _=>⟨nx rfl,fun _=>⟨nx rfl,fun _=>⟨nx rfl,fun _=>⟨nx rfl,fun _=>⟨nx rfl,fun _=>⟨nx rfl,fun _=>?_⟩⟩⟩⟩⟩⟩⟩,fun h=>absurd rfl h⟩⟩⟩
   exact ⟨none,⟨rfl,trivial⟩,rfl,rfl⟩
 by_cases w3:w=[110,101,99,107,108,97,99,101,115]
 .subst w3
  by_cases hT:(n.length:Int)=2
  .rw [show nlnS g [110,101,99,107,108,97,99,101,115] n=Lib.join ([neckI (n.getD 0 0) (n.getD 1 0),bracI (n.getD 0 0) (n.getD 1 0),lynI (n.getD 0 0) (n.getD 1 0)].map fmtI) [32] by simp [nlnS,patS,allS,hT]]
   have i0:0<n.length:=by omega
   have i1:1<n.length:=by omega
   have b1:=neck_b (n.getD 0 0) (n.getD 1 0)
   have b2:=brac_b (n.getD 0 0) (n.getD 1 0)
   have b3:=lyn_b (n.getD 0 0) (n.getD 1 0)
   have hA:=spec_CountNecklaces (n.getD 0 0) (n.getD 1 0)
   have hB:=spec_CountBracelets (n.getD 0 0) (n.getD 1 0)
   have hC:=spec_CountLyndon (n.getD 0 0) (n.getD 1 0)
   rw [List.map_cons,List.map_cons,List.map_cons,List.map_nil,join3]
   generalize neckI (n.getD 0 0) (n.getD 1 0)=x at*
   generalize bracI (n.getD 0 0) (n.getD 1 0)=y at*
   generalize lynI (n.getD 0 0) (n.getD 1 0)=z at*
   have fA:=spec_FormatInt x (by omega) (by omega)
   have fB:=spec_FormatInt y (by omega) (by omega)
   have fC:=spec_FormatInt z (by omega) (by omega)
   have f1:=fI_len x (by omega)
   have f2:=fI_len y (by omega)
   have f3:=fI_len z (by omega)
   have c1:(fmtI x).length+([32]:List UInt8).length<=4611686018427387904:=by simp only [List.length_append,List.length_cons,List.length_nil];omega
   have c2:(fmtI x++[32]).length+(fmtI y).length<=4611686018427387904:=by simp only [List.length_append,List.length_cons,List.length_nil];omega
   have c3:(fmtI x++[32]++fmtI y).length+([32]:List UInt8).length<=4611686018427387904:=by simp only [List.length_append,List.length_cons,List.length_nil];omega
   have c4:(fmtI x++[32]++fmtI y++[32]).length+(fmtI z).length<=4611686018427387904:=by simp only [List.length_append,List.length_cons,List.length_nil];omega
   refine AC_of tauOk 159 0 [6] Tryz.func46 rfl (by kernel_rfl) rfl rfl rfl rfl rfl ?_
   refine ⟨nx rfl,fun _=>⟨nx rfl,fun _=>⟨nx rfl,fun _=>⟨fun _=>⟨fun _=>?_,fun h=>absurd hT h⟩,fun h=>absurd rfl h⟩⟩⟩⟩
   exact ⟨some 4000,[0,1,2,3,4,5,9,10,11,12,13,14,19,20,21,22,23,24],.one 6 (.one 7 (.two 8 (.one 15 (.one 16 (.two 17 (.two 18 (.one 25 (.one 26 (.one 27 (.one 28 .done)))) 25 (.two 18 (.one 26 (.one 27 (.one 28 .done))) 26 (.one 18 (.one 27 (.one 28 .done))))) 25 (.two 17 (.two 18 (.one 26 (.one 27 (.one 28 .done))) 26 (.one 18 (.one 27 (.one 28 .done)))) 26 (.one 17 (.one 18 (.one 27 (.one 28 .done)))))))) 15 (.two 8 (.one 16 (.two 17 (.two 18 (.one 25 (.one 26 (.one 27 (.one 28 .done)))) 25 (.two 18 (.one 26 (.one 27 (.one 28 .done))) 26 (.one 18 (.one 27 (.one 28 .done))))) 25 (.two 17 (.two 18 (.one 26 (.one 27 (.one 28 .done))) 26 (.one 18 (.one 27 (.one 28 .done)))) 26 (.one 17 (.one 18 (.one 27 (.one 28 .done))))))) 16 (.two 8 (.two 17 (.two 18 (.one 25 (.one 26 (.one 27 (.one 28 .done)))) 25 (.two 18 (.one 26 (.one 27 (.one 28 .done))) 26 (.one 18 (.one 27 (.one 28 .done))))) 25 (.two 17 (.two 18 (.one 26 (.one 27 (.one 28 .done))) 26 (.one 18 (.one 27 (.one 28 .done)))) 26 (.one 17 (.one 18 (.one 27 (.one 28 .done)))))) 25 (.two 8 (.two 17 (.two 18 (.one 26 (.one 27 (.one 28 .done))) 26 (.one 18 (.one 27 (.one 28 .done)))) 26 (.one 17 (.one 18 (.one 27 (.one 28 .done))))) 26 (.one 8 (.one 17 (.one 18 (.one 27 (.one 28 .done)))))))))),by kernel_rfl,rfl,0,rfl,i0,1,rfl,i1,0,rfl,i0,1,rfl,i1,0,rfl,i0,1,rfl,i1,[],false,_,_,hA,nd0,rfl,rfl,trivial,[],false,_,_,fA,nd0,rfl,rfl,trivial,⟨c1,[],false,_,_,hB,nd0,rfl,rfl,trivial,[],false,_,_,fB,nd0,rfl,rfl,trivial,⟨c2,⟨c3,[],false,_,_,hC,nd0,rfl,rfl,trivial,[],false,_,_,fC,nd0,rfl,rfl,trivial,c4,none,⟨rfl,trivial⟩,rfl,rfl⟩,[],false,_,_,hC,nd0,rfl,rfl,trivial,⟨c3,[],false,_,_,fC,nd0,rfl,rfl,trivial,c4,none,⟨rfl,trivial⟩,rfl,rfl⟩,[],false,_,_,fC,nd0,rfl,rfl,trivial,c3,c4,none,⟨rfl,trivial⟩,rfl,rfl⟩,[],false,_,_,hC,nd0,rfl,rfl,trivial,⟨c2,⟨c3,[],false,_,_,fC,nd0,rfl,rfl,trivial,c4,none,⟨rfl,trivial⟩,rfl,rfl⟩,[],false,_,_,fC,nd0,rfl,rfl,trivial,c3,c4,none,⟨rfl,trivial⟩,rfl,rfl⟩,[],false,_,_,fC,nd0,rfl,rfl,trivial,c2,c3,c4,none,⟨rfl,trivial⟩,rfl,rfl⟩,[],false,_,_,hB,nd0,rfl,rfl,trivial,⟨c1,[],false,_,_,fB,nd0,rfl,rfl,trivial,⟨c2,⟨c3,[],false,_,_,hC,nd0,rfl,rfl,trivial,[],false,_,_,fC,nd0,rfl,rfl,trivial,c4,none,⟨rfl,trivial⟩,rfl,rfl⟩,[],false,_,_,hC,nd0,rfl,rfl,trivial,⟨c3,[],false,_,_,fC,nd0,rfl,rfl,trivial,c4,none,⟨rfl,trivial⟩,rfl,rfl⟩,[],false,_,_,fC,nd0,rfl,rfl,trivial,c3,c4,none,⟨rfl,trivial⟩,rfl,rfl⟩,[],false,_,_,hC,nd0,rfl,rfl,trivial,⟨c2,⟨c3,[],false,_,_,fC,nd0,rfl,rfl,trivial,c4,none,⟨rfl,trivial⟩,rfl,rfl⟩,[],false,_,_,fC,nd0,rfl,rfl,trivial,c3,c4,none,⟨rfl,trivial⟩,rfl,rfl⟩,[],false,_,_,fC,nd0,rfl,rfl,trivial,c2,c3,c4,none,⟨rfl,trivial⟩,rfl,rfl⟩,[],false,_,_,fB,nd0,rfl,rfl,trivial,⟨c1,⟨c2,⟨c3,[],false,_,_,hC,nd0,rfl,rfl,trivial,[],false,_,_,fC,nd0,rfl,rfl,trivial,c4,none,⟨rfl,trivial⟩,rfl,rfl⟩,[],false,_,_,hC,nd0,rfl,rfl,trivial,⟨c3,[],false,_,_,fC,nd0,rfl,rfl,trivial,c4,none,⟨rfl,trivial⟩,rfl,rfl⟩,[],false,_,_,fC,nd0,rfl,rfl,trivial,c3,c4,none,⟨rfl,trivial⟩,rfl,rfl⟩,[],false,_,_,hC,nd0,rfl,rfl,trivial,⟨c2,⟨c3,[],false,_,_,fC,nd0,rfl,rfl,trivial,c4,none,⟨rfl,trivial⟩,rfl,rfl⟩,[],false,_,_,fC,nd0,rfl,rfl,trivial,c3,c4,none,⟨rfl,trivial⟩,rfl,rfl⟩,[],false,_,_,fC,nd0,rfl,rfl,trivial,c2,c3,c4,none,⟨rfl,trivial⟩,rfl,rfl⟩,[],false,_,_,hC,nd0,rfl,rfl,trivial,⟨c1,⟨c2,⟨c3,[],false,_,_,fC,nd0,rfl,rfl,trivial,c4,none,⟨rfl,trivial⟩,rfl,rfl⟩,[],false,_,_,fC,nd0,rfl,rfl,trivial,c3,c4,none,⟨rfl,trivial⟩,rfl,rfl⟩,[],false,_,_,fC,nd0,rfl,rfl,trivial,c2,c3,c4,none,⟨rfl,trivial⟩,rfl,rfl⟩,[],false,_,_,fC,nd0,rfl,rfl,trivial,c1,c2,c3,c4,none,⟨rfl,trivial⟩,rfl,rfl⟩
  .have l2:=hT
   rw [show nlnS g [110,101,99,107,108,97,99,101,115] n=unkS by simp [nlnS,patS,allS,hT]]
   refine AC_of tauOk 159 0 [6] Tryz.func46 rfl (by kernel_rfl) rfl rfl rfl rfl rfl ?_
   refine ⟨nx rfl,fun _=>⟨nx rfl,fun _=>⟨nx rfl,fun _=>⟨fun _=>⟨fun h=>absurd h l2,fun _=>⟨nx rfl,fun _=>⟨nx rfl,fun _=>⟨nx rfl,fun _=>⟨nx rfl,fun _=>⟨nx rfl,fun _=>?_⟩⟩⟩⟩⟩⟩,fun h=>absurd rfl h⟩⟩⟩⟩
   exact ⟨none,⟨rfl,trivial⟩,rfl,rfl⟩
 by_cases w4:w=[110,101,99,107,108,97,99,101]
 .subst w4
  by_cases hT:(n.length:Int)=3
  .rw [show nlnS g [110,101,99,107,108,97,99,101] n=if nckB (n.getD 0 0) (n.getD 1 0) (n.getD 2 0)=true then formatW ((neckL (n.getD 0 0).toNat (n.getD 1 0).toNat).getD (n.getD 2 0).toNat []) else nonS by simp [nlnS,patS,allS,hT]]
   have i0:0<n.length:=by omega
   have i1:1<n.length:=by omega
   have i2:2<n.length:=by omega
   have hN:=spec_NecklaceAt (n.getD 0 0) (n.getD 1 0) (n.getD 2 0)
   refine AC_of tauOk 159 0 [6] Tryz.func46 rfl (by kernel_rfl) rfl rfl rfl rfl rfl ?_
   refine ⟨nx rfl,fun _=>⟨nx rfl,fun _=>⟨nx rfl,fun _=>⟨nx rfl,fun _=>⟨fun _=>⟨fun _=>?_,fun h=>absurd hT h⟩,fun h=>absurd rfl h⟩⟩⟩⟩⟩
   cases hE:nckB (n.getD 0 0) (n.getD 1 0) (n.getD 2 0)
   .have hN:=hN _ (fun _=>rfl) (fun h=>by rw [hE] at h;cases h)
    exact ⟨some 4000,[0,1,2,3,4,5,6,7,8],.one 9 (.two 10 (.one 11 (.one 12 (.one 13 .done))) 11 (.one 10 (.one 12 (.one 13 .done)))),by kernel_rfl,rfl,0,rfl,i0,1,rfl,i1,2,rfl,i2,[],false,_,_,hN,nd0,rfl,rfl,trivial,⟨nofun,fun _=>⟨[],false,_,_,spec_l15One_no,nd0,rfl,rfl,trivial,none,⟨rfl,trivial⟩,rfl,rfl⟩⟩,nofun,fun _=>⟨[],false,_,_,spec_l15One_no,nd0,rfl,rfl,trivial,none,⟨rfl,trivial⟩,rfl,rfl⟩⟩
   .have hY:=hN _ (fun h=>by rw [hE] at h;cases h) (fun _=>rfl)
    have hO:=spec_l15One_yes _ (show ((neckL (n.getD 0 0).toNat (n.getD 1 0).toNat).getD (n.getD 2 0).toNat []).length<=1048576 by have:=(nck_el hE).2;omega)
    exact ⟨some 4000,[0,1,2,3,4,5,6,7,8],.one 9 (.two 10 (.one 11 (.one 12 (.one 13 .done))) 11 (.one 10 (.one 12 (.one 13 .done)))),by kernel_rfl,rfl,0,rfl,i0,1,rfl,i1,2,rfl,i2,[],false,_,_,hY,nd0,rfl,rfl,trivial,⟨fun _=>⟨[],false,_,_,hO,nd0,rfl,rfl,trivial,none,⟨rfl,trivial⟩,rfl,rfl⟩,nofun⟩,fun _=>⟨[],false,_,_,hO,nd0,rfl,rfl,trivial,none,⟨rfl,trivial⟩,rfl,rfl⟩,nofun⟩
  .have l3:=hT
   rw [show nlnS g [110,101,99,107,108,97,99,101] n=unkS by simp [nlnS,patS,allS,hT]]
   refine AC_of tauOk 159 0 [6] Tryz.func46 rfl (by kernel_rfl) rfl rfl rfl rfl rfl ?_
   refine ⟨nx rfl,fun _=>⟨nx rfl,fun _=>⟨nx rfl,fun _=>⟨nx rfl,fun _=>⟨fun _=>⟨fun h=>absurd h l3,fun _=>⟨nx rfl,fun _=>⟨nx rfl,fun _=>⟨nx rfl,fun _=>⟨nx rfl,fun _=>?_⟩⟩⟩⟩⟩,fun h=>absurd rfl h⟩⟩⟩⟩⟩
   exact ⟨none,⟨rfl,trivial⟩,rfl,rfl⟩
 by_cases w5:w=[97,108,108]
 .subst w5
  by_cases hT:(n.length:Int)=2
  .rw [show nlnS g [97,108,108] n=allS (n.getD 0 0) (n.getD 1 0) by simp [nlnS,patS,allS,hT]]
   have i0:0<n.length:=by omega
   have i1:1<n.length:=by omega
   have hA:=spec_l15All (n.getD 0 0) (n.getD 1 0)
   refine AC_of tauOk 159 0 [6] Tryz.func46 rfl (by kernel_rfl) rfl rfl rfl rfl rfl ?_
   refine ⟨nx rfl,fun _=>⟨nx rfl,fun _=>⟨nx rfl,fun _=>⟨nx rfl,fun _=>⟨nx rfl,fun _=>⟨fun _=>⟨fun _=>?_,fun h=>absurd hT h⟩,fun h=>absurd rfl h⟩⟩⟩⟩⟩⟩
   exact ⟨some 4000,[0,1,2,3,4,5],.one 6 (.one 7 .done),by kernel_rfl,rfl,0,rfl,i0,1,rfl,i1,[],false,_,_,hA,nd0,rfl,rfl,trivial,none,⟨rfl,trivial⟩,rfl,rfl⟩
  .have l2:=hT
   rw [show nlnS g [97,108,108] n=unkS by simp [nlnS,patS,allS,hT]]
   refine AC_of tauOk 159 0 [6] Tryz.func46 rfl (by kernel_rfl) rfl rfl rfl rfl rfl ?_
   refine ⟨nx rfl,fun _=>⟨nx rfl,fun _=>⟨nx rfl,fun _=>⟨nx rfl,fun _=>⟨nx rfl,fun _=>⟨fun _=>⟨fun h=>absurd h l2,fun _=>⟨nx rfl,fun _=>⟨nx rfl,fun _=>⟨nx rfl,fun _=>?_⟩⟩⟩⟩,fun h=>absurd rfl h⟩⟩⟩⟩⟩⟩
   exact ⟨none,⟨rfl,trivial⟩,rfl,rfl⟩
 by_cases w6:w=[103,114,97,112,104,115]
 .subst w6
  by_cases hT:(n.length:Int)=1
  .rw [show nlnS g [103,114,97,112,104,115] n=fmtI (cgI (n.getD 0 0)) by simp [nlnS,patS,allS,hT]]
   have hb:=cg_b (n.getD 0 0)
   refine AC_of tauOk 159 0 [6] Tryz.func46 rfl (by kernel_rfl) rfl rfl rfl rfl rfl ?_
   refine ⟨nx rfl,fun _=>⟨nx rfl,fun _=>⟨nx rfl,fun _=>⟨nx rfl,fun _=>⟨nx rfl,fun _=>⟨nx rfl,fun _=>⟨fun _=>⟨fun _=>?_,fun h=>absurd hT h⟩,fun h=>absurd rfl h⟩⟩⟩⟩⟩⟩⟩
   refine ⟨0,rfl,by omega,[],false,_,_,spec_CountGraphs (n.getD 0 0),nd0,rfl,rfl,trivial,[],false,_,_,spec_FormatInt _ (by omega) (by omega),nd0,rfl,rfl,trivial,?_⟩
   exact ⟨none,⟨rfl,trivial⟩,rfl,rfl⟩
  have l1:=hT
  by_cases hT:(n.length:Int)=2
  .rw [show nlnS g [103,114,97,112,104,115] n=fmtI (cgwI (n.getD 0 0) (n.getD 1 0)) by simp [nlnS,patS,allS,hT]]
   have i0:0<n.length:=by omega
   have i1:1<n.length:=by omega
   have hb:=cgw_b (n.getD 0 0) (n.getD 1 0)
   have hA:=spec_CountGraphsWith (n.getD 0 0) (n.getD 1 0)
   have fA:=spec_FormatInt (cgwI (n.getD 0 0) (n.getD 1 0)) (by omega) (by omega)
   refine AC_of tauOk 159 0 [6] Tryz.func46 rfl (by kernel_rfl) rfl rfl rfl rfl rfl ?_
   refine ⟨nx rfl,fun _=>⟨nx rfl,fun _=>⟨nx rfl,fun _=>⟨nx rfl,fun _=>⟨nx rfl,fun _=>⟨nx rfl,fun _=>⟨fun _=>⟨fun h=>absurd h l1,fun _=>⟨fun _=>⟨fun _=>?_,fun h=>absurd hT h⟩,fun h=>absurd rfl h⟩⟩,fun h=>absurd rfl h⟩⟩⟩⟩⟩⟩⟩
   exact ⟨some 4000,[0,1,2,3,4,5],.one 6 (.one 7 (.one 8 .done)),by kernel_rfl,rfl,0,rfl,i0,1,rfl,i1,[],false,_,_,hA,nd0,rfl,rfl,trivial,[],false,_,_,fA,nd0,rfl,rfl,trivial,none,⟨rfl,trivial⟩,rfl,rfl⟩
  .have l2:=hT
   rw [show nlnS g [103,114,97,112,104,115] n=unkS by simp [nlnS,l1,l2]]
   refine AC_of tauOk 159 0 [6] Tryz.func46 rfl (by kernel_rfl) rfl rfl rfl rfl rfl ?_
   refine ⟨nx rfl,fun _=>⟨nx rfl,fun _=>⟨nx rfl,fun _=>⟨nx rfl,fun _=>⟨nx rfl,fun _=>⟨nx rfl,fun _=>⟨fun _=>⟨fun h=>absurd h l1,fun _=>⟨fun _=>⟨fun h=>absurd h l2,fun _=>⟨nx rfl,fun _=>?_⟩⟩,fun h=>absurd rfl h⟩⟩,fun h=>absurd rfl h⟩⟩⟩⟩⟩⟩⟩
   exact ⟨none,⟨rfl,trivial⟩,rfl,rfl⟩
 by_cases w7:w=[116,114,101,101,115]
 .subst w7
  by_cases hT:(n.length:Int)=1
  .rw [show nlnS g [116,114,101,101,115] n=Lib.join ([rootN (n.getD 0 0),freeN (n.getD 0 0)].map fmtI) [32] by simp [nlnS,patS,allS,hT]]
   have i0:0<n.length:=by omega
   have b1:=root_b (n.getD 0 0)
   have b2:=free_b2 (n.getD 0 0)
   have hA:=spec_CountRooted (n.getD 0 0)
   have hB:=spec_CountFree (n.getD 0 0)
   rw [List.map_cons,List.map_cons,List.map_nil,join2]
   generalize rootN (n.getD 0 0)=x at*
   generalize freeN (n.getD 0 0)=y at*
   have fA:=spec_FormatInt x (by omega) (by omega)
   have fB:=spec_FormatInt y (by omega) (by omega)
   have f1:=fI_len x (by omega)
   have f2:=fI_len y (by omega)
   have c1:(fmtI x).length+([32]:List UInt8).length<=4611686018427387904:=by simp only [List.length_append,List.length_cons,List.length_nil];omega
   have c2:(fmtI x++[32]).length+(fmtI y).length<=4611686018427387904:=by simp only [List.length_append,List.length_cons,List.length_nil];omega
   refine AC_of tauOk 159 0 [6] Tryz.func46 rfl (by kernel_rfl) rfl rfl rfl rfl rfl ?_
   refine ⟨nx rfl,fun _=>⟨nx rfl,fun _=>⟨nx rfl,fun _=>⟨nx rfl,fun _=>⟨nx rfl,fun _=>⟨nx rfl,fun _=>⟨nx rfl,fun _=>⟨nx rfl,fun _=>⟨fun _=>⟨fun _=>?_,fun h=>absurd hT h⟩,fun h=>absurd rfl h⟩⟩⟩⟩⟩⟩⟩⟩⟩
   exact ⟨some 4000,[0,1,2,6,7,8],.one 3 (.one 4 (.two 5 (.one 9 (.one 10 (.one 11 (.one 12 .done)))) 9 (.two 5 (.one 10 (.one 11 (.one 12 .done))) 10 (.one 5 (.one 11 (.one 12 .done)))))),by kernel_rfl,rfl,0,rfl,i0,0,rfl,i0,[],false,_,_,hA,nd0,rfl,rfl,trivial,[],false,_,_,fA,nd0,rfl,rfl,trivial,⟨c1,[],false,_,_,hB,nd0,rfl,rfl,trivial,[],false,_,_,fB,nd0,rfl,rfl,trivial,c2,none,⟨rfl,trivial⟩,rfl,rfl⟩,[],false,_,_,hB,nd0,rfl,rfl,trivial,⟨c1,[],false,_,_,fB,nd0,rfl,rfl,trivial,c2,none,⟨rfl,trivial⟩,rfl,rfl⟩,[],false,_,_,fB,nd0,rfl,rfl,trivial,c1,c2,none,⟨rfl,trivial⟩,rfl,rfl⟩
  .have l1:=hT
   rw [show nlnS g [116,114,101,101,115] n=unkS by simp [nlnS,patS,allS,hT]]
   refine AC_of tauOk 159 0 [6] Tryz.func46 rfl (by kernel_rfl) rfl rfl rfl rfl rfl ?_
   refine ⟨nx rfl,fun _=>⟨nx rfl,fun _=>⟨nx rfl,fun _=>⟨nx rfl,fun _=>⟨nx rfl,fun _=>⟨nx rfl,fun _=>⟨nx rfl,fun _=>⟨nx rfl,fun _=>⟨fun _=>⟨fun h=>absurd h l1,fun _=>?_⟩,fun h=>absurd rfl h⟩⟩⟩⟩⟩⟩⟩⟩⟩
   exact ⟨none,⟨rfl,trivial⟩,rfl,rfl⟩
 rw [show nlnS g w n=unkS by simp [nlnS,w0,w1,w2,w3,w4,w5,w6,w7]]
 refine AC_of tauOk 159 0 [6] Tryz.func46 rfl (by kernel_rfl) rfl rfl rfl rfl rfl ?_
 refine ⟨fun h=>absurd h w0,fun _=>⟨fun h=>absurd h w1,fun _=>⟨fun h=>absurd h w2,fun _=>⟨fun h=>absurd h w3,fun _=>⟨fun h=>absurd h w4,fun _=>⟨fun h=>absurd h w5,fun _=>⟨fun h=>absurd h w6,fun _=>⟨fun h=>absurd h w6,fun _=>⟨fun h=>absurd h w7,fun _=>?_⟩⟩⟩⟩⟩⟩⟩⟩⟩
 exact ⟨none,⟨rfl,trivial⟩,rfl,rfl⟩
theorem wln_unk {w:List UInt8} (h:¬(w=[99,97,110,111,110]\/w=[119,111,114,100]\/w=[102,97,99,116,111,114,115]\/w=[116,114,101,101])) (g:List (List Int)) (arg:List UInt8):wlnS g w arg=unkS:=by
 simp only [not_or] at h
 unfold wlnS
 rw [if_neg h.2.2.2,if_neg h.1,if_neg h.2.1,if_neg h.2.2.1,ite_self]
theorem tl_word {w:List UInt8} (h:w=[99,97,110,111,110]\/w=[119,111,114,100]\/w=[102,97,99,116,111,114,115]\/w=[116,114,101,101]) (g:List (List Int)) {args:List (List UInt8)} (h1:(args.length:Int)=1):
 ngO w args=none/\tlZ g w args=txtS g w (args.getD 0 []):=by
 have h2:nlnS g w (args.map prsV)=unkS:=by rcases h with rfl|rfl|rfl|rfl<;>simp [nlnS]
 have h3:txtS g w (args.getD 0 [])=wlnS g w (args.getD 0 []):=by rcases h with rfl|rfl|rfl|rfl<;>simp [txtS,wlnS]
 refine ⟨by rcases h with rfl|rfl|rfl|rfl<;>simp [ngO],?_⟩
 rw [h3]
 unfold tlZ
 rw [if_neg (by omega)]
 by_cases hu:wlnS g w (args.getD 0 [])=unkS
 .rw [if_neg (fun e=>e.2 hu),h2,ite_self,hu]
 .rw [if_pos ⟨h1,hu⟩]
theorem tl_gen (g:List (List Int)) {args:List (List UInt8)} (h1:(args.length:Int)=2):
 ngO [103,101,110,101,114,97,116,101] args=(if prpB (args.getD 0 [])=true/\prpB (args.getD 1 [])=true then some (genO (prpL (args.getD 0 [])) (prpL (args.getD 1 []))) else none)/\tlZ g [103,101,110,101,114,97,116,101] args=unkS:=by
 refine ⟨by rw [ngO,if_pos ⟨rfl,h1⟩],?_⟩
 unfold tlZ
 rw [if_neg (by omega),if_neg (fun e=>by have:=e.1;omega),show nlnS g [103,101,110,101,114,97,116,101] (args.map prsV)=unkS by simp [nlnS],ite_self]
theorem tl_rest {w:List UInt8} (g:List (List Int)) {args:List (List UInt8)} (h0:¬(args.length:Int)=0) (hw:(args.length:Int)=1->¬(w=[99,97,110,111,110]\/w=[119,111,114,100]\/w=[102,97,99,116,111,114,115]\/w=[116,114,101,101])):
 tlZ g w args=if args.all prsB=true then nlnS g w (args.map prsV) else unkS:=by
 unfold tlZ
 rw [if_neg h0,if_neg (fun e=>e.2 (wln_unk (hw e.1) g _))]
theorem ng_rest {w:List UInt8} {args:List (List UInt8)} (h:¬(w=[103,101,110,101,114,97,116,101]/\(args.length:Int)=2)):
 ngO w args=if args.all prsB=true then grO w (args.map prsV) else none:=by
 unfold ngO grO
 rw [if_neg h,List.length_map]
 have e0:∀j,j<args.length->(args.map prsV).getD j 0=prsV (args.getD j []):=fun j hj=>map_get _ _ _ hj
 split
 .by_cases c1:w=[99,121,99,108,105,99]/\(args.length:Int)=1
  .rw [if_pos c1,if_pos c1,e0 0 (by omega)]
  rw [if_neg c1,if_neg c1]
  by_cases c2:w=[100,105,104,101,100,114,97,108]/\(args.length:Int)=1
  .rw [if_pos c2,if_pos c2,e0 0 (by omega)]
  rw [if_neg c2,if_neg c2]
  by_cases c3:w=[115,121,109,109,101,116,114,105,99]/\(args.length:Int)=1
  .rw [if_pos c3,if_pos c3,e0 0 (by omega)]
  rw [if_neg c3,if_neg c3]
  by_cases c4:w=[115,111,108,105,100]/\(args.length:Int)=2
  .rw [if_pos c4,if_pos c4,e0 0 (by omega),e0 1 (by omega)]
  rw [if_neg c4,if_neg c4]
 .rfl
theorem ng_nil {w:List UInt8} {args:List (List UInt8)} (h:(args.length:Int)=0):ngO w args=none:=by
 rw [ng_rest (fun e=>by omega),show args=[] from List.eq_nil_of_length_eq_zero (by omega)]
 simp [grO]
theorem rlN {g:List (List Int)} {line:List UInt8} (hb:¬rlB line=true) (hn:ngO (rlW line) (rlA line)=none):rlG g line=g/\rlZ g line=tlZ g (rlW line) (rlA line):=by
 unfold rlG rlZ
 rw [if_neg hb,if_neg hb,hn];exact ⟨rfl,rfl⟩
theorem rlS {g:List (List Int)} {line:List UInt8} (hb:¬rlB line=true) {o:Option (List (List Int))} (hn:ngO (rlW line) (rlA line)=some o):[AV.d true (.sl (.sl .int)) (rlG g line),.d true .str (rlZ g line)]=setR g o:=by
 unfold rlG rlZ
 rw [if_neg hb,if_neg hb,hn]
 cases o<;>rfl
theorem drop_getD (ws:List (List UInt8)) (i:Nat):(ws.drop 1).getD i []=ws.getD (i+1) []:=by
 cases ws<;>rfl
set_option maxHeartbeats 1000000 in
theorem spec_RunLine (sh:Bool) (g:List (List Int)) (line:List UInt8) (hgl:g.length<=1048576) (hx:∀i,i<g.length->(g.getD i []).length<=1048576) (hll:line.length<=1048576) (r:List AV)
 (hr:r=[.d true (.sl (.sl .int)) (rlG g line),.d true .str (rlZ g line)]):AC Tryz.prog 17 [.d sh (.sl (.sl .int)) g,.d true .str line] [] r []:=by
 have hS:=spec_SplitC line 32 hll
 have hP:=(wrdG_pos (byB [32]) line).1
 obtain ⟨ha1,ha2⟩:=wrd_bd2 line hll
 have hA:rlA line=(wrdG (byB [32]) line).drop 1:=rfl
 have hW:rlW line=(wrdG (byB [32]) line).getD 0 []:=rfl
 have hl:=congrArg List.length hA
 rw [List.length_drop] at hl
 have hg:∀i,(rlA line).getD i []=(wrdG (byB [32]) line).getD (i+1) []:=drop_getD _
 have rN:=rlN (g:=g) (line:=line)
 have rS:=fun hb o=>rlS (g:=g) (line:=line) hb (o:=o)
 have hb0:rlB line=true->r=[.d true (.sl (.sl .int)) g,.d true .str []]:=fun hb=>by rw [hr];unfold rlG rlZ;rw [if_pos hb,if_pos hb]
 rw [<-hr] at rS
 have rN:∀T,¬rlB line=true->ngO (rlW line) (rlA line)=none->tlZ g (rlW line) (rlA line)=T->r=[.d true (.sl (.sl .int)) g,.d true .str T]:=fun T hb hn ht=>by
  obtain ⟨e1,e2⟩:=rN hb hn
  rw [hr,e1,e2,ht]
 clear hr
 generalize rlA line=args at*
 generalize rlW line=w at*
 generalize wrdG (byB [32]) line=ws at*
 subst hW
 refine AC_of tauOk 133 0 [4,5] Tryz.func17 rfl (by kernel_rfl) rfl rfl rfl rfl rfl ?_
 refine ⟨[],true,_,_,spec_l15Copy sh g hgl hx,nd0,rfl,rfl,trivial,fun h1=>?_,fun h1=>?_⟩
 .obtain rfl:=hb0 (by unfold rlB;rw [decide_eq_true h1];rfl)
  exact ⟨none,⟨rfl,rfl,trivial⟩,rfl,rfl⟩
 have h0:0<line.length:=List.length_pos_iff.2 h1
 refine ⟨0,rfl,h0,fun h2=>?_,fun h2=>?_⟩
 .obtain rfl:=hb0 (by unfold rlB;rw [decide_eq_true h2,Bool.or_true])
  exact ⟨none,⟨rfl,rfl,trivial⟩,rfl,rfl⟩
 have hb:¬rlB line=true:=by unfold rlB;rw [decide_eq_false h1,decide_eq_false h2];decide
 have rN:=fun T=>rN T hb
 have rS:=fun o=>rS hb o
 clear hb0
 refine ⟨[],true,_,_,hS,nd0,rfl,rfl,trivial,fun h3=>?_,fun h3=>?_⟩
 .obtain rfl:=rN (plnZ g (ws.getD 0 [])) (ng_nil (by omega)) (by unfold tlZ;rw [if_pos (by omega)])
  refine ⟨0,rfl,by omega,[],false,_,_,spec_l15Word g (ws.getD 0 []) hgl hx,nd0,rfl,rfl,trivial,?_⟩
  exact ⟨none,⟨rfl,rfl,trivial⟩,rfl,rfl⟩
 have i0:0<ws.length:=by omega
 refine ⟨fun h4=>⟨0,rfl,i0,fun e1=>?a1,fun e1=>⟨0,rfl,i0,fun e2=>?a2,fun e2=>⟨0,rfl,i0,fun e3=>?a3,fun e3=>⟨0,rfl,i0,fun e4=>?a4,fun e4=>⟨fun h5=>absurd h5 (by omega),fun h5=>?t1⟩⟩⟩⟩⟩,fun h4=>⟨fun h5=>⟨0,rfl,i0,fun e5=>?g,fun e5=>?t2⟩,fun h5=>?t3⟩⟩
 case a1|a2|a3|a4=>
  have i1:1<ws.length:=by omega
  have hw:ws.getD 0 []=[99,97,110,111,110]\/ws.getD 0 []=[119,111,114,100]\/ws.getD 0 []=[102,97,99,116,111,114,115]\/ws.getD 0 []=[116,114,101,101]:=by
   first|exact .inr (.inr (.inr e4))|exact .inr (.inr (.inl e3))|exact .inr (.inl e2)|exact .inl e1
  obtain ⟨k1,k2⟩:=tl_word hw g (args:=args) (by omega)
  rw [hg 0] at k2
  obtain rfl:=rN _ k1 k2
  have h1a:(ws.getD 1 []).length<=1048575:=by have:=ha1 0 (by omega);rw [hg 0] at this;exact this
  refine ⟨some 2000,[0,1,2,3,4,5,6,7],[8,9,10],by kernel_rfl,rfl,0,rfl,i0,1,rfl,i1,[],false,_,_,spec_l15Text true g (ws.getD 0 []) (ws.getD 1 []) hgl hx (by omega),nd0,rfl,rfl,trivial,?_⟩
  exact ⟨none,⟨rfl,rfl,trivial⟩,rfl,rfl⟩
 case g=>
  have i1:1<ws.length:=by omega
  have i2:2<ws.length:=by omega
  have h1a:(ws.getD 1 []).length<=1048575:=by have:=ha1 0 (by omega);rw [hg 0] at this;exact this
  have h1b:(ws.getD 2 []).length<=1048575:=by have:=ha1 1 (by omega);rw [hg 1] at this;exact this
  obtain ⟨k1,k2⟩:=tl_gen g (args:=args) (by omega)
  have e6:ws.getD 0 []=[103,101,110,101,114,97,116,101]:=e5
  rw [<-e6] at k1 k2
  rw [hg 0,hg 1] at k1
  have hG:r=gnR g (ws.getD 1 []) (ws.getD 2 []):=by
   unfold gnR
   split
   .rename_i h
    rw [if_pos h] at k1
    exact rS _ k1
   .rename_i h
    rw [if_neg h] at k1
    exact rN _ k1 k2
  subst hG
  have hGn:=spec_l15Generate g (ws.getD 1 []) (ws.getD 2 []) h1a h1b
  have hcase:(∃G s,gnR g (ws.getD 1 []) (ws.getD 2 [])=[.d true (.sl (.sl .int)) G,.d true .str s]):=by
   unfold gnR
   split
   .cases genO (prpL (ws.getD 1 [])) (prpL (ws.getD 2 [])) with
    |none=>exact ⟨_,_,rfl⟩
    |some G=>exact ⟨_,_,rfl⟩
   .exact ⟨_,_,rfl⟩
  obtain ⟨G,s,hR⟩:=hcase
  rw [hR] at hGn ⊢
  refine ⟨some 4000,[0,1,2,3,4,5,6],.one 7 (.two 8 (.one 9 (.one 10 (.one 11 .done))) 9 (.one 8 (.one 10 (.one 11 .done)))),by kernel_rfl,rfl,1,rfl,i1,2,rfl,i2,[],false,_,_,hGn,nd0,rfl,rfl,trivial,?_,?_⟩<;>
  exact ⟨none,⟨rfl,rfl,trivial⟩,rfl,rfl⟩
 case t1|t2|t3=>
  have hng:=ng_rest (w:=ws.getD 0 []) (args:=args) (fun e=>by first|(have:=e.2;omega)|exact e5 e.1)
  have htl:=tl_rest (w:=ws.getD 0 []) g (args:=args) (by omega) (fun e=>by first|(exfalso;omega)|exact fun h=>by rcases h with h|h|h|h<;>contradiction)
  have hall:∀i,i<args.length->((args.getD i []).length<=1048576):=fun i hi=>by have:=ha1 i hi;omega
  refine ⟨rfl,by decide,true,?_⟩
  refine ⟨1,rfl,by omega,Nat.le_refl _,?_⟩
  rw [List.take_length,<-hA]
  refine ⟨Nat,fun k=>⟨[(6,.d true (.sl (.sl .int)) g),(7,.d true (.sl .str) ws),(8,.ow 0),(94,.d true (.sl .str) args),(95,I args.length),(96,I (k:Nat))],[.sl 3 .int ((args.take k).map prsV)]⟩,fun k=>k<=args.length/\(args.take k).all prsB=true,fun k=>args.length-k,0,⟨Nat.zero_le _,rfl⟩,
   ⟨⟨rfl,rfl⟩,⟨rfl,rfl,rfl,rfl,rfl,rfl,trivial⟩,rfl,trivial⟩,?_⟩
  rintro k ⟨hk,hka⟩
  refine ⟨fun h6=>?_,fun h6=>?_⟩
  .have hk2:k<args.length:=by omega
   have hs:=L_succ args k [] hk2
   have htl2:(args.take k).length=k:=by rw [List.length_take];omega
   have hI:=spec_ParseInt (args.getD k []) (hall k hk2)
   refine ⟨k,rfl,hk2,?_⟩
   cases hp:prsB (args.getD k [])
   .rw [prsR_no hp] at hI
    have hno:¬args.all prsB=true:=fun h=>by
     rw [List.all_eq_true] at h
     have:=h (args.getD k []) (by rw [getD_get _ _ _ hk2];exact List.getElem_mem _)
     rw [hp] at this;cases this
    rw [if_neg hno] at hng htl
    obtain rfl:=rN _ hng htl
    refine ⟨[],false,_,_,hI,nd0,rfl,rfl,trivial,nofun,fun _=>?_⟩
    exact ⟨none,⟨rfl,rfl,trivial⟩,rfl,rfl⟩
   .rw [prsR_yes hp] at hI
    refine ⟨[],false,_,_,hI,nd0,rfl,rfl,trivial,fun _=>?_,nofun⟩
    refine ⟨rfl,by decide,false,?_⟩
    refine ⟨rfl,Nat.zero_le _,rfl,by simp only [List.length_cons,List.length_nil,List.length_map];omega,rfl,?_⟩
    exact ⟨((k+1:Nat):Int),w64_eq (by omega) (by omega) (by omega),k+1,⟨by omega,by rw [hs,List.all_append,hka,List.all_cons,hp];rfl⟩,by dsimp only;omega,⟨rfl,rfl⟩,⟨rfl,rfl,rfl,rfl,rfl,rfl,trivial⟩,rowE (by rw [hs,List.map_append];rfl),trivial⟩
  .obtain rfl:k=args.length:=by omega
   dsimp only at hka ⊢
   rw [List.take_length] at hka ⊢
   rw [if_pos hka] at hng htl
   have hGr:=spec_l15Group false g (ws.getD 0 []) (args.map prsV)
   have hNu:=spec_l15Numbers false g (ws.getD 0 []) (args.map prsV) hgl hx
   cases hO:grO (ws.getD 0 []) (args.map prsV) with
   |none=>
    rw [hO] at hGr hng
    obtain rfl:=rN _ hng htl
    refine ⟨0,rfl,i0,[],false,_,_,hGr,nd0,rfl,rfl,trivial,nofun,fun _=>?_⟩
    refine ⟨0,rfl,i0,[],false,_,_,hNu,nd0,rfl,rfl,trivial,?_⟩
    exact ⟨none,⟨rfl,rfl,trivial⟩,rfl,rfl⟩
   |some o=>
    rw [hO] at hGr hng
    have hr:=rS o hng
    cases o with
    |none=>
     subst hr
     refine ⟨0,rfl,i0,[],false,_,_,hGr,nd0,rfl,rfl,trivial,fun _=>?_,nofun⟩
     exact ⟨none,⟨rfl,rfl,trivial⟩,rfl,rfl⟩
    |some G=>
     subst hr
     refine ⟨0,rfl,i0,[],false,_,_,hGr,nd0,rfl,rfl,trivial,fun _=>?_,nofun⟩
     exact ⟨none,⟨rfl,rfl,trivial⟩,rfl,rfl⟩
end Go.Proofs.YtacjiemkbhhhoaaGreatDoor
namespace Go.Proofs.YtacjiemkbhhhoaaGreatDoor
open Go Go.Proofs.YtacjiemkbhhhoaaGreatDoor.Ow
theorem totR_b {l:List (List Int)} {c:Nat} (h:∀i,i<l.length->(l.getD i []).length<=c):∀n,n<=l.length->tot l n<=n*c
 |0,_=>by simp [tot]
 |n+1,hn=>by
  have:=totR_b h n (by omega)
  have:=h n (by omega)
  rw [tot,Nat.succ_mul];omega
theorem totR_short {g:List (List Int)} (h:0<=szR g 1048576):tot g g.length<=1048576:=by
 unfold szR at h
 split at h<;>omega
theorem rlG_or (g:List (List Int)) (line:List UInt8):rlG g line=g\/gokB (rlG g line)=true:=by
 unfold rlG
 split
 .exact .inl rfl
 .split
  .rename_i h;exact .inr (ng_gok h)
  .exact .inl rfl
set_option maxHeartbeats 1000000 in
theorem laws_FnExactRunLine (s1:Bool) (g:List (List Int)) (hL:Lens g) (line:List UInt8):LawC Tryz.prog 6 [.d false (.sl (.sl .int)) g,.d true .str line]:=by
 by_cases hll:line.length<=1048576
 case neg=>
  refine LawC_of tauOk 104 4 Tryz.func6 rfl (by kernel_rfl) rfl rfl rfl ?_
  refine ⟨fun _=>?_,fun h=>absurd h (by omega)⟩
  exact ⟨rfl,trivial⟩
 by_cases hsz:0<=szR g 1048576
 case neg=>
  refine LawC_of tauOk 104 4 Tryz.func6 rfl (by kernel_rfl) rfl rfl rfl ?_
  refine ⟨fun h=>absurd h (by omega),fun _=>?_⟩
  refine ⟨0,_,_,laws_szIntSS false g 1048576 hL (by decide) (by decide),fun _=>?_,fun h2=>absurd h2 (by omega)⟩
  exact ⟨rfl,trivial⟩
 have hS:=short_of hsz
 have ht:=totR_short hsz
 have hgx:=hS.2
 have hgl:=hS.1
 have hsz0:=laws_szIntSS false g 1048576 hL (by decide) (by decide)
 have hTS:=laws_toIntSS_w false g hS
 have hES:=laws_eqIntSS false false g hS
 have hMS:=laws_markIntSS g 1 hS ht (by decide) (by decide)
 have hml:=mkSS_len g 1
 have hSp:=spec_RunLine false g line hgl hgx hll _ rfl
 have hIm:=impl_RunLine_w false g line hgl hgx hll
 have hSl:Short (rlG g line)/\tot (rlG g line) (rlG g line).length<=1048576:=by
  rcases rlG_or g line with e|e
  .rw [e];exact ⟨hS,ht⟩
  .obtain ⟨⟨b1,b2⟩,b3⟩:=perm_bd e
   have hel:∀i,i<(rlG g line).length->((rlG g line).getD i []).length<=10:=fun i hi=>by have:=(b3 i hi).1.1;omega
   have:=totR_b hel _ (Nat.le_refl _)
   exact ⟨⟨by omega,fun i hi=>by have:=hel i hi;omega⟩,by omega⟩
 generalize rlG g line=l at*
 generalize rlZ g line=T at*
 obtain ⟨hSl,htl⟩:=hSl
 have hEw:=laws_eqIntSS false false l hSl
 have hMg:=laws_markIntSS l 1 hSl (by omega) (by decide) (by decide)
 have hMgl:=mkSS_len l 1
 have hHe:=laws_heldIntSS false l 1 hSl (by omega) (by decide) (by decide)
 refine LawC_of tauOk 104 4 Tryz.func6 rfl (by kernel_rfl) rfl rfl rfl ?_
 refine ⟨fun h=>absurd h (by omega),fun _=>?_⟩
 refine ⟨0,_,_,hsz0,fun h1=>absurd h1 (by omega),fun _=>?_⟩
 refine ⟨0,_,_,hTS,0,_,_,hSp,rfl,?_⟩
 refine ⟨0,_,_,hTS,0,_,_,hIm,rfl,?_⟩
 refine ⟨0,_,_,hEw,fun _=>?_,nofun⟩
 refine ⟨fun h=>(h rfl).elim,fun _=>?_⟩
 refine ⟨0,_,_,hTS,0,_,_,hES,fun _=>?_,nofun⟩
 refine ⟨1,_,_,hMS,hml,?_⟩
 refine ⟨fun h=>absurd h (by omega),fun _=>?_⟩
 refine ⟨0,_,_,hEw,fun _=>?_,nofun⟩
 refine ⟨fun h=>(h rfl).elim,fun _=>?_⟩
 refine ⟨1,_,_,hMg,hMgl,0,_,_,hHe,?_⟩
 refine ⟨fun h=>absurd h (by omega),fun _=>?_⟩
 refine ⟨fun h=>(h rfl).elim,fun _=>?_⟩
 refine ⟨0,_,_,hTS,0,_,_,hIm,rfl,?_⟩
 refine ⟨0,_,_,hEw,fun _=>?_,nofun⟩
 refine ⟨fun h=>(h rfl).elim,fun _=>?_⟩
 refine ⟨0,_,_,hHe,?_⟩
 refine ⟨fun h=>absurd h (by omega),fun _=>?_⟩
 refine ⟨fun h=>(h rfl).elim,fun _=>?_⟩
 exact ⟨rfl,trivial⟩
end Go.Proofs.YtacjiemkbhhhoaaGreatDoor
namespace Go.Proofs.YtacjiemkbhhhoaaGreatDoor
open Go Go.Deep Go.Proofs.YtacjiemkbhhhoaaGreatDoor.Ow
def IsRows (w:World) (a:Option Addr) (len cap:Nat) (zss:List (List Int)):Prop:=
 V w [] (fun _=>False) [] (.d false (.sl (.sl .int)) zss) (.slice a len cap)/\(∀i,i<zss.length->In64 (zss.getD i []))/\Lens zss
theorem isRows_nil (w:World):IsRows w none 0 0 []:=
 ⟨⟨none,0,rfl,Nat.le_refl _,fun _=>rfl,.inl rfl⟩,fun i hi=>by simp at hi,by decide,fun i hi=>by simp at hi⟩
theorem spot_none {w:World} {a:Addr} {v:Value} (h:w.cell? (a.add 0)=some v):∃b o,a=⟨b,o,none⟩:=by
 have:=World.cell?_spot h
 obtain ⟨b,o,sp⟩:=a
 have hs:sp=none:=by simpa [Addr.add] using this
 exact ⟨b,o,by rw [hs]⟩
theorem isRows_mk {w:World} {a:Addr} {len cap base:Nat} {A:Nat->Option Addr} {L C:Nat->Nat} {Z:Nat->List Int} (hl:len<=cap) (hm:cap<=maxLen)
 (hr:∀r,r<cap->w.cell? (a.add r)=some (.slice (A r) (L r) (C r))/\L r<=C r/\C r<=maxLen/\(Z r).length=C r/\(∀n∈Z r,(Lit.int .i64 n).wf=true)/\(A r=none->C r=0)/\
  ∀a',A r=some a'->base<=a'.block/\∀c,c<C r->w.cell? (a'.add c)=some (.int .i64 ((Z r).getD c 0))):
 IsRows w (some a) len cap ((List.range len).map fun r=>(Z r).take (L r)):=by
 have hlen:((List.range len).map fun r=>(Z r).take (L r)).length=len:=by simp
 have hget:∀j (hj:j<((List.range len).map fun r=>(Z r).take (L r)).length),((List.range len).map fun r=>(Z r).take (L r))[j]=(Z j).take (L j):=fun j hj=>by simp
 have hin:∀j,j<len->((Z j).take (L j)).length=L j:=fun j hj=>by
  obtain ⟨_,h1,_,h2,_⟩:=hr j (by omega)
  simp;omega
 refine ⟨⟨some a,cap,by rw [hlen],by rw [hlen];exact hl,(fun h=>by cases h),?_⟩,fun i hi=>?_,by rw [hlen];simp [maxLen] at hm;omega,fun i hi=>?_⟩
 .by_cases h0:len=0
  .left;subst h0;rfl
  .right
   obtain ⟨b,o,rfl⟩:=spot_none (hr 0 (by omega)).1
   refine ⟨b,o,rfl,(fun hm=>by simp at hm),fun j hj=>?_⟩
   have hj':j<len:=by rw [hlen] at hj;exact hj
   obtain ⟨h1,h2,h3,h4,h5,h6,h7⟩:=hr j (by omega)
   rw [addr_add] at h1
   refine ⟨_,h1,?_⟩
   rw [hget j hj]
   refine ⟨A j,C j,by rw [hin j hj'],by rw [hin j hj'];exact h2,h6,?_⟩
   by_cases hz:L j=0
   .left;rw [hz];rfl
   .right
    cases hA:A j with
    |none=>have:=h6 hA;omega
    |some a'=>
     obtain ⟨_,hc⟩:=h7 a' hA
     obtain ⟨b',o',rfl⟩:=spot_none (hc 0 (by omega))
     refine ⟨b',o',rfl,(fun hm=>by simp at hm),fun c hcl=>⟨.int .i64 ((Z j).getD c 0),?_,?_⟩⟩
     .have hcl':c<L j:=by rw [hin j hj'] at hcl;exact hcl
      have:=hc c (by omega)
      rwa [addr_add] at this
     .have hcl':c<L j:=by rw [hin j hj'] at hcl;exact hcl
      show Value.int .i64 ((Z j).getD c 0)=.int .i64 (((Z j).take (L j))[c]'hcl)
      rw [List.getElem_take,getD_get _ _ _ (by omega)]
 .have hi':i<len:=by rw [hlen] at hi;exact hi
  rw [getD_get _ _ _ hi,hget i hi]
  obtain ⟨_,_,_,_,h5,_⟩:=hr i (by omega)
  intro c hc
  rw [getD_get _ _ _ hc]
  exact wfI (h5 _ (List.mem_of_mem_take (List.getElem_mem hc)))
 .have hi':i<len:=by rw [hlen] at hi;exact hi
  rw [getD_get _ _ _ hi,hget i hi,hin i hi']
  obtain ⟨_,h2,h3,_⟩:=hr i (by omega)
  simp [maxLen] at h3;omega
end Go.Proofs.YtacjiemkbhhhoaaGreatDoor
