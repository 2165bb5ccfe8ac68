/-
  FnGraphs: graphs are the same exactly if a renaming carries one to the other, and the renamings that keep a graph divide all of them.
-/
import Derived.Test.YtbnonelkdgkpdaaPls
import Derived.Test.YtbnonelkdgkpdaaWdrw
import Derived.Test.YtbnonelkdgkpdaaWgl
import Derived.Test.YtbnonelkdgkpdaaWrnm
import Derived.Test.YtbnonelkdgkpdaaWdeg
set_option linter.unusedVariables false
namespace Go.Proofs.Ytbnonelkdgkpdaa
open Go Go.Proofs.Ytbnonelkdgkpdaa.Ow
theorem sameG_dec {n g h : Nat} (hg : graphB (n : Nat) (g : Nat) = true) (hh : graphB (n : Nat) (h : Nat) = true) : sameG (n : Nat) (g : Nat) (h : Nat) = decide (canI n g = canI n h) := by
  rw [sameG, hg, hh, canZ, canZ, if_pos hg, if_pos hh]
  simp only [Int.toNat_natCast]
  rfl
/-- whether h was met among the first x graphs of the kind c -/
def metB (n : Nat) (c : Int) (h x : Nat) : Bool := decide (h < x) && decide (canI n h = c)
theorem metB_y {n : Nat} {c : Int} {h x : Nat} (hx : canI n x = c) : metB n c h (x + 1) = (metB n c h x || decide (x = h)) := by
  unfold metB
  by_cases e : x = h
  · subst e; simp [hx]
  · rw [show decide (h < x + 1) = decide (h < x) from decide_eq_decide.2 (by omega), show decide (x = h) = false from decide_eq_false e, Bool.or_false]
theorem metB_n {n : Nat} {c : Int} {h x : Nat} (hx : ¬ canI n x = c) : metB n c h (x + 1) = metB n c h x := by
  unfold metB
  by_cases e : x = h
  · subst e; simp [hx]
  · rw [show decide (h < x + 1) = decide (h < x) from decide_eq_decide.2 (by omega)]
theorem rnm_len (n g : Nat) : rnmN n g = ((symL n).filter fun p => decide (renN g p = g)).length := by
  unfold rnmN cntF
  rw [List.take_length]
/-- laws.FnGraphs -/
theorem laws_FnGraphs (code : List Int) : AC Try.prog 4 [.d true (.sl .u8) code] [] [.d true .bool true] [] := by
  obtain ⟨n, hn, hn1, hn4⟩ := dec4 code
  obtain ⟨g, hg, hglt⟩ := dec2p code 3 (cp n)
  obtain ⟨h, hh, hhlt⟩ := dec2p code 5 (cp n)
  have hcp := cp_le n (by omega)
  have hG := graphB_of n g hn1 (by omega) hglt
  have hH := graphB_of n h hn1 (by omega) hhlt
  have hb1 := mkNum_b code 1
  have hb3 := mkNum_b code 3
  have hb5 := mkNum_b code 5
  have hP := mkPerm_ok code (cu0 code 20) hn1 (show n ≤ 10 by omega)
  have F := gr_ok hn4 hn1 hglt
  have R := gr_ren hn4 hn1 hglt hP
  have hGr := graphB_of n (renN g (mkPerm code (cu0 code 20) n).2) hn1 (by omega) R.rl
  have hrl : renN g (mkPerm code (cu0 code 20) n).2 < 1024 := by have := R.rl; omega
  have hcg := F.cg
  have hc0 := F.c0
  obtain ⟨c, hc⟩ : ∃ c : Nat, canI n g = (c : Int) := ⟨(canI n g).toNat, by omega⟩
  have hclt : c < 2 ^ cp n := by omega
  have hC := graphB_of n c hn1 (by omega) hclt
  have hcc := F.cc
  have hRG := impl_RenameGraph true n g _ hn1 (by omega) (by omega) hG ((permB_iff _).2 hP.1) hP.2
  have hCG := impl_CanonGraph n g hn1 (by omega) (by omega) hG
  have hCr := impl_CanonGraph n _ hn1 (by omega) hrl hGr
  have hCc := impl_CanonGraph n c hn1 (by omega) (by omega) hC
  have hSG := impl_SameGraph (n : Nat) (g : Nat) (renN g (mkPerm code (cu0 code 20) n).2 : Nat)
  have hSh := impl_SameGraph (n : Nat) (g : Nat) (h : Nat)
  have hRe := R.re
  have hGO := impl_GraphOk (n : Nat) (renN g (mkPerm code (cu0 code 20) n).2 : Nat)
  have hRn := impl_RenamingsOf (n : Nat) (g : Nat)
  rw [rnmI, if_pos hG, Int.toNat_natCast, Int.toNat_natCast, rnm_len] at hRn
  rw [sameG_dec hG hGr, R.rc, decide_eq_true rfl] at hSG
  rw [sameG_dec hG hH] at hSh
  rw [hGr] at hGO
  rw [R.rc] at hCr
  rw [hc] at hCr hCG hcc hSh
  rw [Int.toNat_natCast] at hcc
  rw [hcc] at hCc
  have him := F.im
  rw [hc] at him
  generalize renN g (mkPerm code (cu0 code 20) n).2 = r at *
  generalize hpe : (mkPerm code (cu0 code 20) n).2 = p at *
  have hpl := hP.2
  have hDl := F.dl
  have hDd := F.dg
  have hDs := F.ds
  have hdg := dgS_le n g
  have hds := dsS_le n g
  have hn16 : n * n ≤ 16 := Nat.mul_le_mul (show n ≤ 4 by omega) (show n ≤ 4 by omega)
  have hrn : ((symL n).filter fun p => decide (renN g p = g)).length ≤ 120 := Nat.le_trans (List.length_filter_le _ _) (sym_ok n (by omega) hn1).l2
  generalize ((symL n).filter fun p => decide (renN g p = g)).length = rn at *
  have himl := imgS_le n (c : Int) (2 ^ cp n)
  have hmul : imgS n (c : Int) (2 ^ cp n) * rn ≤ 1024 * 120 := Nat.mul_le_mul (by omega) hrn
  refine AC_of tauOk 184 0 [2] Try.func4 rfl (by kernel_rfl) rfl rfl rfl rfl rfl ?_
  refine ⟨fun h1 => ?_, fun h1 => ?_⟩
  · exact ⟨none, ⟨rfl, trivial⟩, rfl, rfl⟩
  have hl : code.length ≤ 1048576 := by omega
  have hMP := spec_MakePerm code hl 20 n (by decide) hn1 (by omega)
  rw [hpe] at hMP
  refine ⟨[], false, _, _, spec_MakeNum code hl 1 (by decide), List.nodup_nil, rfl, rfl, trivial, ?_⟩
  refine ⟨by decide, _, rfl, (n : Int), w64_eq hn.symm (by omega) (by omega), ?_⟩
  refine ⟨((n - 1 : Nat) : Int), w64_eq (by omega) (by omega) (by omega), ((n * (n - 1) : Nat) : Int), w64_eq (Int.natCast_mul _ _) (by omega) (by omega), by decide, ((cp n : Nat) : Int), w64_eq (Int.ofNat_tdiv _ _) (by omega) (by omega), ?_⟩
  refine ⟨none, by kernel_rfl, _, _, spec_MakeNum code hl 3 (by decide), rfl, Int.natCast_nonneg _, ((2 ^ cp n : Nat) : Int), shl_eq _ (by omega), by omega, (g : Int), hg.symm, ?_⟩
  refine ⟨none, by kernel_rfl, _, _, spec_MakeNum code hl 5 (by decide), rfl, Int.natCast_nonneg _, ((2 ^ cp n : Nat) : Int), shl_eq _ (by omega), by omega, (h : Int), hh.symm, ?_⟩
  refine ⟨[], true, _, _, hMP, List.nodup_nil, rfl, rfl, trivial, ?_⟩
  refine ⟨[], false, _, _, hRG, List.nodup_nil, rfl, rfl, trivial, fun _ => ?_, nofun⟩
  refine ⟨[], false, _, _, hCG, List.nodup_nil, rfl, rfl, trivial, ?_⟩
  refine ⟨[], false, _, _, hGO, List.nodup_nil, rfl, rfl, trivial, fun _ => ?_, nofun⟩
  refine ⟨[], false, _, _, hCr, List.nodup_nil, rfl, rfl, trivial, fun h2 => (h2 rfl).elim, fun _ => ?_⟩
  refine ⟨fun h2 => by omega, fun _ => ?_⟩
  refine ⟨fun h2 => by omega, fun _ => ?_⟩
  refine ⟨[], false, _, _, hSG, List.nodup_nil, rfl, rfl, trivial, fun _ => ?_, nofun⟩
  refine ⟨[], false, _, _, hCc, List.nodup_nil, rfl, rfl, trivial, fun h2 => (h2 rfl).elim, fun _ => ?_⟩
  refine ⟨[], true, _, _, impl_DegreesOf n g hn1 (by omega) hG, List.nodup_nil, rfl, rfl, trivial, ?_⟩
  refine ⟨fun h2 => by omega, fun _ => ?_⟩
  refine ⟨Nat, fun a => ⟨[(3, I (n : Nat)), (4, I (cp n : Nat)), (5, I (g : Nat)), (6, I (h : Nat)), (7, .d true (.sl .int) p), (8, I (r : Nat)), (10, I (c : Nat)), (11, .d true (.sl .int) (degL n g)), (12, I (dsS n g a : Nat)), (13, I (a : Nat))], []⟩, fun a => a ≤ n, fun a => n - a, 0, Nat.zero_le _,
    ⟨⟨rfl, rfl⟩, ⟨rfl, rfl, rfl, rfl, rfl, rfl, rfl, rfl, rfl, rfl, trivial⟩, trivial⟩, fun a ha => ?_⟩
  dsimp only at ha
  have hdsa := hds a
  have han : a * n ≤ 16 := Nat.le_trans (Nat.mul_le_mul_right n ha) hn16
  refine ⟨fun h2 => ?_, fun h2 => ?_⟩
  · have ha2 : a < n := by omega
    refine ⟨Nat, fun b => ⟨[(3, I (n : Nat)), (4, I (cp n : Nat)), (5, I (g : Nat)), (6, I (h : Nat)), (7, .d true (.sl .int) p), (8, I (r : Nat)), (10, I (c : Nat)), (11, .d true (.sl .int) (degL n g)), (12, I (dsS n g a : Nat)), (13, I (a : Nat)), (14, I (dgS n g a b : Nat)), (15, I (b : Nat))], []⟩, fun b => b ≤ n, fun b => n - b, 0, Nat.zero_le _,
      ⟨⟨rfl, rfl⟩, ⟨rfl, rfl, rfl, rfl, rfl, rfl, rfl, rfl, rfl, rfl, rfl, rfl, trivial⟩, trivial⟩, fun b hb => ?_⟩
    dsimp only at hb
    have hdab := hdg a b
    refine ⟨fun h3 => ?_, fun h3 => ?_⟩
    · have hb2 : b < n := by omega
      have hE := impl_HasEdge (n : Nat) (g : Nat) (a : Nat) (b : Nat)
      have hE2 := impl_HasEdge (n : Nat) (r : Nat) (p.getD a 0) (p.getD b 0)
      rw [← hRe a ha2 b hb2] at hE2
      cases hEb : hasE (n : Nat) (g : Nat) (a : Nat) (b : Nat) <;> rw [hEb] at hE hE2
      · refine ⟨none, by kernel_rfl, _, _, hE, rfl, nofun, fun _ => ?_⟩
        refine ⟨a, rfl, by omega, b, rfl, by omega, ?_⟩
        refine ⟨_, _, hE2, rfl, nofun, fun _ => ?_⟩
        refine ⟨fun h4 => (h4 rfl).elim, fun _ => ?_⟩
        refine ⟨[], false, _, _, hE, List.nodup_nil, rfl, rfl, trivial, nofun, fun _ => ?_⟩
        exact ⟨((b + 1 : Nat) : Int), w64_eq (by omega) (by omega) (by omega), b + 1, by dsimp only; omega, by dsimp only; omega, ⟨rfl, rfl⟩, ⟨rfl, rfl, rfl, rfl, rfl, rfl, rfl, rfl, rfl, rfl, retI (by rw [dgS, hEb]; rfl), rfl, trivial⟩, trivial⟩
      · refine ⟨none, by kernel_rfl, _, _, hE, rfl, fun _ => ?_, nofun⟩
        refine ⟨a, rfl, by omega, b, rfl, by omega, ?_⟩
        refine ⟨_, _, hE2, rfl, fun _ => ?_, nofun⟩
        refine ⟨fun h4 => (h4 rfl).elim, fun _ => ?_⟩
        refine ⟨[], false, _, _, hE, List.nodup_nil, rfl, rfl, trivial, fun _ => ?_, nofun⟩
        refine ⟨((dgS n g a (b + 1) : Nat) : Int), w64_eq (by rw [dgS, hEb]; simp) (by omega) (by rw [dgS, hEb]; simp; omega), ?_⟩
        exact ⟨((b + 1 : Nat) : Int), w64_eq (by omega) (by omega) (by omega), b + 1, by dsimp only; omega, by dsimp only; omega, ⟨rfl, rfl⟩, ⟨rfl, rfl, rfl, rfl, rfl, rfl, rfl, rfl, rfl, rfl, rfl, rfl, trivial⟩, trivial⟩
    · obtain rfl : b = n := by omega
      refine ⟨a, rfl, by omega, fun h4 => (h4 (hDd a ha2)).elim, fun _ => ?_⟩
      refine ⟨((dsS b g (a + 1) : Nat) : Int), w64_eq (by rw [dsS]; omega) (by omega) (by rw [dsS]; omega), ?_⟩
      exact ⟨((a + 1 : Nat) : Int), w64_eq (by omega) (by omega) (by omega), a + 1, by dsimp only; omega, by dsimp only; omega, ⟨rfl, rfl⟩, ⟨rfl, rfl, rfl, rfl, rfl, rfl, rfl, rfl, rfl, rfl, trivial⟩, trivial⟩
  · obtain rfl : a = n := by omega
    refine ⟨Nat, fun x => ⟨[(3, I (a : Nat)), (4, I (cp a : Nat)), (5, I (g : Nat)), (6, I (h : Nat)), (10, I (c : Nat)), (12, I (dsS a g a : Nat)), (16, I (imgS a (c : Int) x : Nat)), (17, .d true .bool (metB a (c : Int) h x)), (18, I (x : Nat))], []⟩, fun x => x ≤ 2 ^ cp a, fun x => 2 ^ cp a - x, 0, Nat.zero_le _,
      ⟨⟨rfl, rfl⟩, ⟨rfl, rfl, rfl, rfl, rfl, rfl, rfl, retB (by simp [metB]), rfl, trivial⟩, trivial⟩, fun x hx => ?_⟩
    dsimp only at hx
    have himx := imgS_le a (c : Int) x
    refine ⟨Int.natCast_nonneg _, ((2 ^ cp a : Nat) : Int), shl_eq _ (by omega), fun h3 => ?_, fun h3 => ?_⟩
    · have hx2 : x < 2 ^ cp a := by omega
      have hGx := graphB_of a x hn1 (by omega) hx2
      refine ⟨[], false, _, _, impl_CanonGraph a x hn1 (by omega) (by omega) hGx, List.nodup_nil, rfl, rfl, trivial, fun h4 => ?_, fun h4 => ?_⟩
      · refine ⟨((imgS a (c : Int) (x + 1) : Nat) : Int), w64_eq (by rw [imgS, if_pos h4]; omega) (by omega) (by rw [imgS, if_pos h4]; omega), ?_⟩
        have hm := metB_y (h := h) h4
        cases hmb : metB a (c : Int) h x <;> rw [hmb] at hm
        · refine ⟨fun h5 => ?_, fun h5 => ?_⟩
          · exact ⟨((x + 1 : Nat) : Int), w64_eq (by omega) (by omega) (by omega), x + 1, by dsimp only; omega, by dsimp only; omega, ⟨rfl, rfl⟩, ⟨rfl, rfl, rfl, rfl, rfl, rfl, rfl, retB (by rw [hm, decide_eq_true (by omega)]; rfl), rfl, trivial⟩, trivial⟩
          · exact ⟨((x + 1 : Nat) : Int), w64_eq (by omega) (by omega) (by omega), x + 1, by dsimp only; omega, by dsimp only; omega, ⟨rfl, rfl⟩, ⟨rfl, rfl, rfl, rfl, rfl, rfl, rfl, retB (by rw [hm, decide_eq_false (by omega)]; rfl), rfl, trivial⟩, trivial⟩
        · exact ⟨((x + 1 : Nat) : Int), w64_eq (by omega) (by omega) (by omega), x + 1, by dsimp only; omega, by dsimp only; omega, ⟨rfl, rfl⟩, ⟨rfl, rfl, rfl, rfl, rfl, rfl, rfl, retB (by rw [hm]; rfl), rfl, trivial⟩, trivial⟩
      · exact ⟨((x + 1 : Nat) : Int), w64_eq (by omega) (by omega) (by omega), x + 1, by dsimp only; omega, by dsimp only; omega, ⟨rfl, rfl⟩, ⟨rfl, rfl, rfl, rfl, rfl, rfl, retI (by rw [imgS, if_neg h4]), retB (by rw [metB_n h4]), rfl, trivial⟩, trivial⟩
    · obtain rfl : x = 2 ^ cp a := by omega
      have hmt : metB a (c : Int) h (2 ^ cp a) = decide ((c : Int) = canI a h) := by
        unfold metB
        rw [decide_eq_true hhlt, Bool.true_and]
        exact decide_eq_decide.2 ⟨fun e => e.symm, fun e => e.symm⟩
      dsimp only
      rw [hmt]
      have hz : ((imgS a (c : Int) (2 ^ cp a) * rn : Nat) : Int) = w64 (((imgS a (c : Int) (2 ^ cp a) : Nat) : Int) * ((rn : Nat) : Int)) := w64_eq (Int.natCast_mul _ _) (by omega) (by omega)
      have he5 : ((imgS a (c : Int) (2 ^ cp a) * rn : Nat) : Int) = facs.getD a 0 := him
      have hds2 : ((dsS a g a : Nat) : Int).tmod 2 = 0 := by rw [Int.tmod_eq_emod_of_nonneg (Int.natCast_nonneg _)]; omega
      cases hb : decide ((c : Int) = canI a h) <;> rw [hb] at hSh
      · refine ⟨some 3000, .take 0 (.take 1 (.take 2 (.take 4 (.one 3 (.one 5 (.one 6 (.take 7 (.take 8 (.take 9 (.take 13 (.two 10 (.two 11 (.one 12 (.one 14 (.one 15 (.one 16 (.one 17 (.one 18 (.take 19 (.one 20 (.one 21 (.one 22 (.one 23 .done))))))))))) 12 (.two 11 (.one 14 (.one 15 (.one 16 (.one 17 (.one 18 (.take 19 (.one 20 (.one 21 (.one 22 (.one 23 .done)))))))))) 14 (.two 11 (.one 15 (.one 16 (.one 17 (.one 18 (.take 19 (.one 20 (.one 21 (.one 22 (.one 23 .done))))))))) 15 (.one 11 (.one 16 (.one 17 (.one 18 (.take 19 (.one 20 (.one 21 (.one 22 (.one 23 .done)))))))))))) 12 (.two 10 (.two 11 (.one 14 (.one 15 (.one 16 (.one 17 (.one 18 (.take 19 (.one 20 (.one 21 (.one 22 (.one 23 .done)))))))))) 14 (.two 11 (.one 15 (.one 16 (.one 17 (.one 18 (.take 19 (.one 20 (.one 21 (.one 22 (.one 23 .done))))))))) 15 (.one 11 (.one 16 (.one 17 (.one 18 (.take 19 (.one 20 (.one 21 (.one 22 (.one 23 .done))))))))))) 14 (.two 10 (.two 11 (.one 15 (.one 16 (.one 17 (.one 18 (.take 19 (.one 20 (.one 21 (.one 22 (.one 23 .done))))))))) 15 (.one 11 (.one 16 (.one 17 (.one 18 (.take 19 (.one 20 (.one 21 (.one 22 (.one 23 .done)))))))))) 15 (.one 10 (.one 11 (.one 16 (.one 17 (.one 18 (.take 19 (.one 20 (.one 21 (.one 22 (.one 23 .done))))))))))))))))))))))), by kernel_rfl, ?_⟩
        refine ⟨[], false, _, _, hSh, List.nodup_nil, rfl, rfl, trivial, nofun, fun _ => ?_⟩
        refine ⟨fun _ => ?_, fun h => (h rfl).elim⟩
        exact ⟨⟨[], false, _, _, hRn, List.nodup_nil, rfl, rfl, trivial, ⟨⟨_, hz, ⟨rfl, by decide, false, ⟨a, rfl, (show a < 5 by omega), ⟨fun _ => ⟨by decide, (0 : Int), hds2.symm, fun _ => ⟨none, ⟨rfl, trivial⟩, rfl, rfl⟩, fun h => (h rfl).elim⟩, fun h => (h he5).elim⟩⟩⟩⟩, ⟨rfl, by decide, false, ⟨⟨_, hz, ⟨a, rfl, (show a < 5 by omega), ⟨fun _ => ⟨by decide, (0 : Int), hds2.symm, fun _ => ⟨none, ⟨rfl, trivial⟩, rfl, rfl⟩, fun h => (h rfl).elim⟩, fun h => (h he5).elim⟩⟩⟩, ⟨a, rfl, (show a < 5 by omega), ⟨⟨_, hz, ⟨fun _ => ⟨by decide, (0 : Int), hds2.symm, fun _ => ⟨none, ⟨rfl, trivial⟩, rfl, rfl⟩, fun h => (h rfl).elim⟩, fun h => (h he5).elim⟩⟩, ⟨_, hz, ⟨fun _ => ⟨by decide, (0 : Int), hds2.symm, fun _ => ⟨none, ⟨rfl, trivial⟩, rfl, rfl⟩, fun h => (h rfl).elim⟩, fun h => (h he5).elim⟩⟩⟩⟩⟩⟩⟩⟩, ⟨rfl, by decide, false, ⟨⟨[], false, _, _, hRn, List.nodup_nil, rfl, rfl, trivial, ⟨⟨_, hz, ⟨a, rfl, (show a < 5 by omega), ⟨fun _ => ⟨by decide, (0 : Int), hds2.symm, fun _ => ⟨none, ⟨rfl, trivial⟩, rfl, rfl⟩, fun h => (h rfl).elim⟩, fun h => (h he5).elim⟩⟩⟩, ⟨a, rfl, (show a < 5 by omega), ⟨⟨_, hz, ⟨fun _ => ⟨by decide, (0 : Int), hds2.symm, fun _ => ⟨none, ⟨rfl, trivial⟩, rfl, rfl⟩, fun h => (h rfl).elim⟩, fun h => (h he5).elim⟩⟩, ⟨_, hz, ⟨fun _ => ⟨by decide, (0 : Int), hds2.symm, fun _ => ⟨none, ⟨rfl, trivial⟩, rfl, rfl⟩, fun h => (h rfl).elim⟩, fun h => (h he5).elim⟩⟩⟩⟩⟩⟩, ⟨a, rfl, (show a < 5 by omega), ⟨⟨[], false, _, _, hRn, List.nodup_nil, rfl, rfl, trivial, ⟨⟨_, hz, ⟨fun _ => ⟨by decide, (0 : Int), hds2.symm, fun _ => ⟨none, ⟨rfl, trivial⟩, rfl, rfl⟩, fun h => (h rfl).elim⟩, fun h => (h he5).elim⟩⟩, ⟨_, hz, ⟨fun _ => ⟨by decide, (0 : Int), hds2.symm, fun _ => ⟨none, ⟨rfl, trivial⟩, rfl, rfl⟩, fun h => (h rfl).elim⟩, fun h => (h he5).elim⟩⟩⟩⟩, ⟨[], false, _, _, hRn, List.nodup_nil, rfl, rfl, trivial, ⟨_, hz, ⟨fun _ => ⟨by decide, (0 : Int), hds2.symm, fun _ => ⟨none, ⟨rfl, trivial⟩, rfl, rfl⟩, fun h => (h rfl).elim⟩, fun h => (h he5).elim⟩⟩⟩⟩⟩⟩⟩⟩
      · refine ⟨some 3000, .take 0 (.take 1 (.take 2 (.take 4 (.one 3 (.one 5 (.one 6 (.take 7 (.take 8 (.take 9 (.take 13 (.two 10 (.two 11 (.one 12 (.one 14 (.one 15 (.one 16 (.one 17 (.one 18 (.take 19 (.one 20 (.one 21 (.one 22 (.one 23 .done))))))))))) 12 (.two 11 (.one 14 (.one 15 (.one 16 (.one 17 (.one 18 (.take 19 (.one 20 (.one 21 (.one 22 (.one 23 .done)))))))))) 14 (.two 11 (.one 15 (.one 16 (.one 17 (.one 18 (.take 19 (.one 20 (.one 21 (.one 22 (.one 23 .done))))))))) 15 (.one 11 (.one 16 (.one 17 (.one 18 (.take 19 (.one 20 (.one 21 (.one 22 (.one 23 .done)))))))))))) 12 (.two 10 (.two 11 (.one 14 (.one 15 (.one 16 (.one 17 (.one 18 (.take 19 (.one 20 (.one 21 (.one 22 (.one 23 .done)))))))))) 14 (.two 11 (.one 15 (.one 16 (.one 17 (.one 18 (.take 19 (.one 20 (.one 21 (.one 22 (.one 23 .done))))))))) 15 (.one 11 (.one 16 (.one 17 (.one 18 (.take 19 (.one 20 (.one 21 (.one 22 (.one 23 .done))))))))))) 14 (.two 10 (.two 11 (.one 15 (.one 16 (.one 17 (.one 18 (.take 19 (.one 20 (.one 21 (.one 22 (.one 23 .done))))))))) 15 (.one 11 (.one 16 (.one 17 (.one 18 (.take 19 (.one 20 (.one 21 (.one 22 (.one 23 .done)))))))))) 15 (.one 10 (.one 11 (.one 16 (.one 17 (.one 18 (.take 19 (.one 20 (.one 21 (.one 22 (.one 23 .done))))))))))))))))))))))), by kernel_rfl, ?_⟩
        refine ⟨[], false, _, _, hSh, List.nodup_nil, rfl, rfl, trivial, fun _ => ?_, nofun⟩
        refine ⟨fun _ => ?_, fun h => (h rfl).elim⟩
        exact ⟨⟨[], false, _, _, hRn, List.nodup_nil, rfl, rfl, trivial, ⟨⟨_, hz, ⟨rfl, by decide, false, ⟨a, rfl, (show a < 5 by omega), ⟨fun _ => ⟨by decide, (0 : Int), hds2.symm, fun _ => ⟨none, ⟨rfl, trivial⟩, rfl, rfl⟩, fun h => (h rfl).elim⟩, fun h => (h he5).elim⟩⟩⟩⟩, ⟨rfl, by decide, false, ⟨⟨_, hz, ⟨a, rfl, (show a < 5 by omega), ⟨fun _ => ⟨by decide, (0 : Int), hds2.symm, fun _ => ⟨none, ⟨rfl, trivial⟩, rfl, rfl⟩, fun h => (h rfl).elim⟩, fun h => (h he5).elim⟩⟩⟩, ⟨a, rfl, (show a < 5 by omega), ⟨⟨_, hz, ⟨fun _ => ⟨by decide, (0 : Int), hds2.symm, fun _ => ⟨none, ⟨rfl, trivial⟩, rfl, rfl⟩, fun h => (h rfl).elim⟩, fun h => (h he5).elim⟩⟩, ⟨_, hz, ⟨fun _ => ⟨by decide, (0 : Int), hds2.symm, fun _ => ⟨none, ⟨rfl, trivial⟩, rfl, rfl⟩, fun h => (h rfl).elim⟩, fun h => (h he5).elim⟩⟩⟩⟩⟩⟩⟩⟩, ⟨rfl, by decide, false, ⟨⟨[], false, _, _, hRn, List.nodup_nil, rfl, rfl, trivial, ⟨⟨_, hz, ⟨a, rfl, (show a < 5 by omega), ⟨fun _ => ⟨by decide, (0 : Int), hds2.symm, fun _ => ⟨none, ⟨rfl, trivial⟩, rfl, rfl⟩, fun h => (h rfl).elim⟩, fun h => (h he5).elim⟩⟩⟩, ⟨a, rfl, (show a < 5 by omega), ⟨⟨_, hz, ⟨fun _ => ⟨by decide, (0 : Int), hds2.symm, fun _ => ⟨none, ⟨rfl, trivial⟩, rfl, rfl⟩, fun h => (h rfl).elim⟩, fun h => (h he5).elim⟩⟩, ⟨_, hz, ⟨fun _ => ⟨by decide, (0 : Int), hds2.symm, fun _ => ⟨none, ⟨rfl, trivial⟩, rfl, rfl⟩, fun h => (h rfl).elim⟩, fun h => (h he5).elim⟩⟩⟩⟩⟩⟩, ⟨a, rfl, (show a < 5 by omega), ⟨⟨[], false, _, _, hRn, List.nodup_nil, rfl, rfl, trivial, ⟨⟨_, hz, ⟨fun _ => ⟨by decide, (0 : Int), hds2.symm, fun _ => ⟨none, ⟨rfl, trivial⟩, rfl, rfl⟩, fun h => (h rfl).elim⟩, fun h => (h he5).elim⟩⟩, ⟨_, hz, ⟨fun _ => ⟨by decide, (0 : Int), hds2.symm, fun _ => ⟨none, ⟨rfl, trivial⟩, rfl, rfl⟩, fun h => (h rfl).elim⟩, fun h => (h he5).elim⟩⟩⟩⟩, ⟨[], false, _, _, hRn, List.nodup_nil, rfl, rfl, trivial, ⟨_, hz, ⟨fun _ => ⟨by decide, (0 : Int), hds2.symm, fun _ => ⟨none, ⟨rfl, trivial⟩, rfl, rfl⟩, fun h => (h rfl).elim⟩, fun h => (h he5).elim⟩⟩⟩⟩⟩⟩⟩⟩
end Go.Proofs.Ytbnonelkdgkpdaa
