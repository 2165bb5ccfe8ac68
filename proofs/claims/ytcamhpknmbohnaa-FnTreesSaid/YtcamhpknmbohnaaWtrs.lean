/-
  FnTrees: a tree is recovered from its code, and all numberings of all codes are the trees of Cayley.
-/
import Derived.Test.YtcamhpknmbohnaaWdrw
import Derived.Test.YtcamhpknmbohnaaWtcs
import Derived.Test.YtcamhpknmbohnaaWread
import Derived.Test.YtcamhpknmbohnaaWheight
import Derived.Test.YtcamhpknmbohnaaWroot
import Derived.Test.YtcamhpknmbohnaaPlT
set_option linter.unusedVariables false
namespace Go.Proofs.Ytcamhpknmbohnaa
open Go Go.Proofs.Ytcamhpknmbohnaa.Ow
theorem drwT_ok (code : List Int) : ∀ n c l, TreeP l → n + l.length ≤ 9 → TreeP (drwT code n c l).2 ∧ (drwT code n c l).2.length ≤ 9
  | 0, c, l, h, hl => ⟨h, by show l.length ≤ 9; omega⟩
  | n + 1, c, l, h, hl => by
    rw [drwT]
    exact drwT_ok code n _ _ (treeP_ext h (by omega) (belR_lt code c h.1.1)) (by rw [List.length_append, List.length_singleton]; omega)
theorem one_tree : TreeP [-1] := (treeB_iff _).1 (by decide)
theorem mkTree_ok (code : List Int) (c : Cu) : TreeP (mkTree code c 9).2 ∧ (mkTree code c 9).2.length ≤ 9 := by
  have := belR_lt code c (show 1 ≤ 9 by decide)
  exact drwT_ok code _ _ _ one_tree (by simp; omega)
def facL : List Int := [1, 1, 2, 6, 24, 120, 720]
def trS (n : Nat) : Nat → Int
  | 0 => 0
  | k + 1 => trS n k + (facL.getD n 0).tdiv (treeRen (rdT ((tcsL n).getD k [])).1)
def trChk (n : Nat) : Bool := decide (((tcsL n).length : Int) = rootN (n : Nat)) && (decide (trS n (tcsL n).length = ((n ^ (n - 1) : Nat) : Int)) &&
  (List.range (tcsL n).length).all fun i => readB ((tcsL n).getD i []) && (decide (1 ≤ treeRen (rdT ((tcsL n).getD i [])).1) && (decide (treeRen (rdT ((tcsL n).getD i [])).1 ≤ 720) && decide ((facL.getD n 0).tmod (treeRen (rdT ((tcsL n).getD i [])).1) = 0))))
set_option maxRecDepth 100000 in
theorem tr_all : ∀ n, n < 7 → 1 ≤ n → trChk n = true := by decide +kernel
structure TrOk (n : Nat) : Prop where
  c : ((tcsL n).length : Int) = rootN (n : Nat)
  s : trS n (tcsL n).length = ((n ^ (n - 1) : Nat) : Int)
  r : ∀ i, i < (tcsL n).length → readB ((tcsL n).getD i []) = true
  k : ∀ i, i < (tcsL n).length → 1 ≤ treeRen (rdT ((tcsL n).getD i [])).1 ∧ treeRen (rdT ((tcsL n).getD i [])).1 ≤ 720 ∧ (facL.getD n 0).tmod (treeRen (rdT ((tcsL n).getD i [])).1) = 0
theorem tr_ok (n : Nat) (hn : n < 7) (h1 : 1 ≤ n) : TrOk n := by
  have h := tr_all n hn h1
  unfold trChk at h
  simp only [Bool.and_eq_true, decide_eq_true_eq, List.all_eq_true, List.mem_range] at h
  exact ⟨h.1, h.2.1, fun i hi => (h.2.2 i hi).1, fun i hi => ⟨(h.2.2 i hi).2.1, (h.2.2 i hi).2.2.1, (h.2.2 i hi).2.2.2⟩⟩
theorem facL_b : ∀ n, n < 7 → 1 ≤ facL.getD n 0 ∧ facL.getD n 0 ≤ 720 := by decide
theorem trS_b (n : Nat) (hn : n < 7) (h1 : 1 ≤ n) : ∀ k, k ≤ (tcsL n).length → 0 ≤ trS n k ∧ trS n k ≤ 720 * k
  | 0, _ => by simp [trS]
  | k + 1, hk => by
    have h := trS_b n hn h1 k (by omega)
    have h2 := (tr_ok n hn h1).k k (by omega)
    have h3 := facL_b n hn
    have h4 := Int.tdiv_nonneg (show 0 ≤ facL.getD n 0 by omega) (show 0 ≤ treeRen (rdT ((tcsL n).getD k [])).1 by omega)
    have h5 := Int.tdiv_le_self (treeRen (rdT ((tcsL n).getD k [])).1) (show 0 ≤ facL.getD n 0 by omega)
    rw [trS]; omega
theorem pow_all : ∀ n, n < 7 → ∀ i, i < 7 → n ^ i ≤ 1000000 := by decide
/-- a number from 1 to 6 -/
theorem dec6 (code : List Int) (m : Nat) : ∃ n : Nat, 1 + (mkNum code m).tmod 6 = n ∧ 1 ≤ n ∧ n < 7 := by
  have hb := mkNum_b code m
  have ht := Int.tmod_nonneg 6 hb.1
  have ht2 := Int.tmod_lt_of_pos (mkNum code m) (by decide : (0 : Int) < 6)
  exact ⟨(1 + (mkNum code m).tmod 6).toNat, by omega, by omega, by omega⟩
/-- laws.FnTrees -/
theorem laws_FnTrees (code : List Int) : AC Try.prog 13 [.d true (.sl .u8) code] [] [.d true .bool true] [] := by
  obtain ⟨hT, hl9⟩ := mkTree_ok code (cu0 code 0)
  obtain ⟨n, hn, hn1, hn2⟩ := dec6 code 20
  generalize ht : (mkTree code (cu0 code 0) 9).2 = t at *
  have hB := (treeB_iff _).2 hT
  obtain ⟨r1, r2, r3, r4, r5, r6⟩ := read_back hT
  have hh := height_lt hT
  generalize hu : (rdT (treeCode t)).1 = u at *
  have hBu := (treeB_iff _).2 r2
  have hR := impl_ReadTree (treeCode t) r1
  rw [hu] at hR
  have hS : sameB t u = true := by rw [sameB, hB, hBu, r4]; simp
  have hRT := spec_MakeTree code
  refine AC_of tauOk 154 0 [2] Try.func13 rfl (by kernel_rfl) rfl rfl rfl rfl rfl ?_
  refine ⟨fun h1 => ?_, fun h1 => ?_⟩
  · exact ⟨none, ⟨rfl, trivial⟩, rfl, rfl⟩
  have hl : code.length ≤ 1048576 := by omega
  have hM := spec_MakeTree code hl 0 9 (by decide) (by decide) (by decide)
  rw [ht] at hM
  refine ⟨[], true, _, _, hM, List.nodup_nil, rfl, rfl, trivial, ?_⟩
  refine ⟨[], false, _, _, impl_TreeCode true t (by omega), List.nodup_nil, rfl, rfl, trivial, ?_⟩
  refine ⟨[], true, _, _, hR, List.nodup_nil, rfl, rfl, trivial, fun _ => ?_, nofun⟩
  have hTO := impl_TreeOk true u (by omega)
  rw [hBu] at hTO
  refine ⟨[], false, _, _, hTO, List.nodup_nil, rfl, rfl, trivial, fun _ => ?_, nofun⟩
  refine ⟨fun h => (h (by omega)).elim, fun _ => ?_⟩
  refine ⟨[], false, _, _, impl_TreeRenamings true u (by omega), List.nodup_nil, rfl, rfl, trivial, [], false, _, _, impl_TreeRenamings true t (by omega), List.nodup_nil, rfl, rfl, trivial, fun h => (h r5).elim, fun _ => ?_⟩
  refine ⟨[], false, _, _, impl_HeightOf true u (by omega), List.nodup_nil, rfl, rfl, trivial, [], false, _, _, impl_HeightOf true t (by omega), List.nodup_nil, rfl, rfl, trivial, fun h => (h r6).elim, fun _ => ?_⟩
  have hST := impl_SameTree true true t u (by omega) (by omega)
  rw [hS] at hST
  refine ⟨[], false, _, _, hST, List.nodup_nil, rfl, rfl, trivial, fun _ => ?_, nofun⟩
  refine ⟨[], false, _, _, spec_MakeNum code hl 20 (by decide), List.nodup_nil, rfl, rfl, trivial, ?_⟩
  refine ⟨by decide, _, rfl, (n : Int), w64_eq hn.symm (by omega) (by omega), ?_⟩
  refine ⟨[], true, _, _, impl_TreeCodes n hn1 (by omega), List.nodup_nil, rfl, rfl, trivial, fun _ => ?_, nofun⟩
  have hO := tr_ok n hn2 hn1
  have hf := facL_b n hn2
  refine ⟨[], false, _, _, impl_CountRooted (n : Int), List.nodup_nil, rfl, rfl, trivial, fun h => (h hO.c).elim, fun _ => ?_⟩
  refine ⟨rfl, by decide, false, n, rfl, (show n < 7 from hn2), ?_⟩
  have hTc := tc_ok n (by omega) hn1
  have hlen : (tcsL n).length ≤ 1000 := by
    have h1 := hO.c
    have h2 := (by decide : ∀ n, n < 7 → rootN (n : Nat) ≤ 1000) n hn2
    omega
  refine ⟨Nat, fun k => ⟨[(3, .d true (.sl .int) t), (6, I (n : Nat)), (7, .d true (.sl .str) (tcsL n)), (9, I (facL.getD n 0)), (10, I (trS n k)), (85, .d true (.sl .str) (tcsL n)), (86, I (tcsL n).length), (87, I (k : Nat))], []⟩, fun k => k ≤ (tcsL n).length, fun k => (tcsL n).length - k, 0, Nat.zero_le _,
    ⟨⟨rfl, rfl⟩, ⟨rfl, rfl, rfl, rfl, rfl, rfl, rfl, rfl, trivial⟩, trivial⟩, fun k hk => ?_⟩
  dsimp only at hk
  refine ⟨fun h2 => ?_, fun h2 => ?_⟩
  · have hk2 : k < (tcsL n).length := by omega
    obtain ⟨k1, k2, k3⟩ := hO.k k hk2
    have hrd := hO.r k hk2
    have hrd2 := hrd
    unfold readB at hrd2
    simp only [Bool.and_eq_true, decide_eq_true_eq] at hrd2
    have hTp := (treeB_iff _).1 hrd2.2.1
    have hs := trS_b n hn2 hn1 (k + 1) (by omega)
    have hs0 := trS_b n hn2 hn1 k (by omega)
    refine ⟨k, rfl, hk2, ?_⟩
    have hl12 := hTp.1.2
    refine ⟨[], true, _, _, impl_ReadTree ((tcsL n).getD k []) hrd, List.nodup_nil, rfl, rfl, trivial, fun _ => ?_, nofun⟩
    refine ⟨[], false, _, _, impl_TreeRenamings true (rdT ((tcsL n).getD k [])).1 (by omega), List.nodup_nil, rfl, rfl, trivial, fun h => by omega, fun _ => ?_⟩
    refine ⟨by omega, _, rfl, fun h => (h k3).elim, fun _ => ?_⟩
    refine ⟨[], false, _, _, impl_TreeCode true (rdT ((tcsL n).getD k [])).1 (by omega), List.nodup_nil, rfl, rfl, trivial, fun h => (h hrd2.2.2).elim, fun _ => ?_⟩
    have q1 := Int.tdiv_nonneg (show 0 ≤ facL.getD n 0 by omega) (show 0 ≤ treeRen (rdT ((tcsL n).getD k [])).1 by omega)
    have q2 := Int.tdiv_le_self (treeRen (rdT ((tcsL n).getD k [])).1) (show 0 ≤ facL.getD n 0 by omega)
    have hsum : trS n (k + 1) = w64 (trS n k + (facL.getD n 0).tdiv (treeRen (rdT ((tcsL n).getD k [])).1)) := w64_eq rfl (by omega) (by omega)
    refine ⟨fun h3 => ?_, fun h3 => ?_⟩
    · refine ⟨((k - 1 : Nat) : Int), w64_eq (by omega) (by omega) (by omega), k - 1, rfl, by omega, ?_⟩
      have hlt : (tcsL n).getD (k - 1) [] < (tcsL n).getD k [] := by
        rw [getD_get _ _ _ (show k - 1 < (tcsL n).length by omega), getD_get _ _ _ hk2]
        exact List.pairwise_iff_getElem.1 hTc.so (k - 1) k (by omega) hk2 (by omega)
      refine ⟨fun h4 => absurd (((bytesLess_lt _ _).2 hlt).symm.trans h4) (by decide), fun _ => ?_⟩
      refine ⟨by omega, (facL.getD n 0).tdiv (treeRen (rdT ((tcsL n).getD k [])).1), w64_eq rfl (by omega) (by omega), trS n (k + 1), hsum, ?_⟩
      exact ⟨((k + 1 : Nat) : Int), w64_eq (by omega) (by omega) (by omega), k + 1, by dsimp only; omega, by dsimp only; omega, ⟨rfl, rfl⟩, ⟨rfl, rfl, rfl, rfl, rfl, rfl, rfl, rfl, trivial⟩, trivial⟩
    · refine ⟨by omega, (facL.getD n 0).tdiv (treeRen (rdT ((tcsL n).getD k [])).1), w64_eq rfl (by omega) (by omega), trS n (k + 1), hsum, ?_⟩
      exact ⟨((k + 1 : Nat) : Int), w64_eq (by omega) (by omega) (by omega), k + 1, by dsimp only; omega, by dsimp only; omega, ⟨rfl, rfl⟩, ⟨rfl, rfl, rfl, rfl, rfl, rfl, rfl, rfl, trivial⟩, trivial⟩
  · obtain rfl : k = (tcsL n).length := by omega
    dsimp only
    rw [hO.s]
    refine ⟨Nat, fun i => ⟨[(3, .d true (.sl .int) t), (6, I (n : Nat)), (10, I ((n ^ (n - 1) : Nat) : Int)), (16, I ((n ^ (i - 1) : Nat) : Int)), (17, I (i : Nat))], []⟩, fun i => 1 ≤ i ∧ i ≤ n, fun i => n - i, 1, ⟨Nat.le_refl _, hn1⟩,
      ⟨⟨rfl, rfl⟩, ⟨rfl, rfl, rfl, retI (by simp), rfl, trivial⟩, trivial⟩, fun i ⟨hi1, hi⟩ => ?_⟩
    refine ⟨fun h3 => ?_, fun h3 => ?_⟩
    · have hp := pow_all n hn2 i (by omega)
      have hp2 : n ^ i = n ^ (i - 1) * n := by rw [← Nat.pow_succ, Nat.succ_eq_add_one, Nat.sub_add_cancel hi1]
      refine ⟨((n ^ i : Nat) : Int), w64_eq (by rw [hp2, Int.natCast_mul]) (Int.le_trans (by decide) (Int.natCast_nonneg _)) (by omega), ?_⟩
      exact ⟨((i + 1 : Nat) : Int), w64_eq (by omega) (by omega) (by omega), i + 1, by dsimp only; omega, by dsimp only; omega, ⟨rfl, rfl⟩, ⟨rfl, rfl, rfl, rfl, rfl, trivial⟩, trivial⟩
    · obtain rfl : i = n := by omega
      refine ⟨fun _ => ?_, fun h => (h rfl).elim⟩
      refine ⟨[], false, _, _, impl_HeightOf true t (by omega), List.nodup_nil, rfl, rfl, trivial, ?_⟩
      refine ⟨fun _ => ?_, fun h => (h hh).elim⟩
      exact ⟨none, ⟨rfl, trivial⟩, rfl, rfl⟩
end Go.Proofs.Ytcamhpknmbohnaa
