/-
  FnIndex: the terms of a cycle index are all elements, and count the colorings.
-/
import Derived.Test.YtcamhpknmbohnaaPls
import Derived.Test.YtcamhpknmbohnaaWdrw
import Derived.Test.YtcamhpknmbohnaaWcix
import Derived.Test.YtcamhpknmbohnaaWcl
set_option linter.unusedVariables false
namespace Go.Proofs.Ytcamhpknmbohnaa
open Go Go.Proofs.Ytcamhpknmbohnaa.Ow
theorem sumC_idx (g : List (List Int)) (k : Nat) : ∀ j, ((sumC g k j : Nat) : Int) = idxZ (fun p => ((k ^ (cycL p).length : Nat) : Int)) g j
  | 0 => rfl
  | j + 1 => by rw [sumC, idxZ, ← sumC_idx g k j]; omega
theorem grl_of {n : Nat} {g : List (List Int)} (h1 : 1 ≤ n) (h2 : n ≤ 6) (h : GrQ n g) : GrL n g := ⟨h1, by omega, h.1, h.2.2.1, h.2.2.2.1, h.2.2.2.2⟩
/-- the colorings times the elements -/
theorem colI_mul {n : Nat} {g : List (List Int)} (h : GrL n g) (hB : gokB g = true) (k : Nat) (hk : k ≤ 4) : colI g (k : Nat) * (g.length : Int) = ((sumC g k g.length : Nat) : Int) := by
  have h1 := orbits h k
  have h2 : ((sumC g k g.length : Nat) : Int) = ((g.length * firstN g (wordsL k n) actL : Nat) : Int) := by
    rw [sumC_idx, ← h1]
    have := sumL_idx (fun p => k ^ (cycL p).length) g g.length (Nat.le_refl _)
    rw [List.take_length] at this
    exact this.symm
  have h3 : sumC g k g.length = g.length * firstN g (wordsL k n) actL := by omega
  have hl : 0 < g.length := List.length_pos_of_mem h.id
  rw [colI, if_pos ⟨hB, by omega, by omega⟩, Int.toNat_natCast, h3, Nat.mul_div_cancel_left _ hl, Int.natCast_mul, Int.mul_comm]
theorem colI_one {g : List (List Int)} (hB : gokB g = true) : colI g 1 = 1 := by
  have hl := ((gokB_iff g).1 hB).l1
  have : ∀ j, sumC g 1 j = j := by
    intro j
    induction j with
    | zero => rfl
    | succ j ih => rw [sumC, ih, Nat.one_pow]
  rw [colI, if_pos ⟨hB, by decide, by decide⟩]
  show ((sumC g 1 g.length / g.length : Nat) : Int) = 1
  rw [this, Nat.div_self (by omega)]; rfl
theorem mem_u (g : List (List Int)) : ∀ k, ∀ x ∈ uS g k, ∃ i, i < k ∧ x.1 = typL (g.getD i [])
  | 0, x, hx => by simp [uS] at hx
  | k + 1, x, hx => by
    have ih := mem_u g k
    rw [uS, addU] at hx
    split at hx
    next h =>
      rcases List.mem_or_eq_of_mem_set hx with hx | rfl
      · obtain ⟨i, h1, h2⟩ := ih x hx; exact ⟨i, by omega, h2⟩
      · obtain ⟨i, h1, h2⟩ := ih _ (List.getElem_mem h)
        rw [← getD_get _ _ ([], 0) h] at h2
        exact ⟨i, by omega, h2⟩
    next h =>
      rcases List.mem_append.1 hx with hx | hx
      · obtain ⟨i, h1, h2⟩ := ih x hx; exact ⟨i, by omega, h2⟩
      · rw [List.mem_singleton.1 hx]; exact ⟨k, by omega, rfl⟩
theorem cix_sum {g : List (List Int)} (hB : gokB g = true) : ∀ i, i < (cixL g).length → sumN ((cixL g).getD i ([], 0)).1 ≤ 10 := fun i hi => by
  have hG := (gokB_iff g).1 hB
  have hm : (cixL g).getD i ([], 0) ∈ uS g g.length := (s_perm g g.length).mem_iff.1 (by rw [getD_get _ _ _ hi]; exact List.getElem_mem hi)
  obtain ⟨j, h1, h2⟩ := mem_u g g.length _ hm
  have hP := (gok1_p (hG.o1 j h1)).1
  have hc := cyc_lens hP
  have := sumN_typ hc.2 _ (Nat.le_refl _)
  rw [h2]
  show sumN (typS (g.getD j []) (cycL (g.getD j [])).length) ≤ 10
  rw [this]; exact hc.1
def kfn (k : Nat) (t : List Int) : Int := ((k ^ sumN t : Nat) : Int)
theorem kfn_b {k : Nat} (hk : k ≤ 4) {t : List Int} (h : sumN t ≤ 10) : 0 ≤ kfn k t ∧ kfn k t ≤ 1048576 := by
  have := pow_le hk h (Nat.le_refl 10)
  unfold kfn; omega
theorem wtK_b {l : List Tm} {k : Nat} (hk : k ≤ 4) (hc : ∀ i, i < l.length → 0 ≤ (l.getD i ([], 0)).2 ∧ (l.getD i ([], 0)).2 ≤ 120) (hs : ∀ i, i < l.length → sumN (l.getD i ([], 0)).1 ≤ 10) : ∀ j, j ≤ l.length → 0 ≤ wtK (kfn k) l j ∧ wtK (kfn k) l j ≤ 125829120 * j
  | 0, _ => by simp [wtK]
  | j + 1, hj => by
    have h1 := wtK_b hk hc hs j (by omega)
    have h2 := hc j (by omega)
    have h3 := kfn_b hk (hs j (by omega))
    have h4 : 0 ≤ (l.getD j ([], 0)).2 * kfn k (l.getD j ([], 0)).1 := Int.mul_nonneg h2.1 h3.1
    have h5 : (l.getD j ([], 0)).2 * kfn k (l.getD j ([], 0)).1 ≤ 120 * 1048576 := Int.mul_le_mul h2.2 h3.2 h3.1 (by decide)
    rw [wtK]; omega
/-- what the law sums -/
theorem wtK_sum {g : List (List Int)} (hB : gokB g = true) (k : Nat) : wtK (kfn k) (cixL g) (cixL g).length = ((sumC g k g.length : Nat) : Int) := by
  have hG := (gokB_iff g).1 hB
  rw [wtK_all, sumC_idx]
  refine idx_congr _ (Nat.le_refl _) fun i hi => ?_
  have hc := cyc_lens (gok1_p (hG.o1 i hi)).1
  have := sumN_typ hc.2 _ (Nat.le_refl _)
  show ((k ^ sumN (typS (g.getD i []) (cycL (g.getD i [])).length) : Nat) : Int) = _
  rw [this]
theorem ordT_wt (l : List Tm) : ∀ k, ordT l k = wtK (fun _ => 1) l k
  | 0 => rfl
  | k + 1 => by rw [ordT, wtK, ordT_wt l k, Int.mul_one]
theorem ordT_all (g : List (List Int)) : ordT (cixL g) (cixL g).length = (g.length : Int) := by
  rw [ordT_wt, wtK_all]
  have : ∀ k, idxZ (fun _ => (1 : Int)) g k = (k : Int) := by
    intro k
    induction k with
    | zero => rfl
    | succ k ih => rw [idxZ, ih]; omega
  exact this _
theorem fmt_head : ∀ c : Nat, c < 121 → fmtI (c : Int) ≠ [] ∧ (fmtI (c : Int)).getD 0 0 ≠ 110 := by decide +kernel
theorem ixl_not {g : List (List Int)} (hB : gokB g = true) : ixlS g ≠ [110, 111, 110, 101] := by
  intro e
  have hG := (gokB_iff g).1 hB
  obtain ⟨h1, h2⟩ := cix_tm hB
  have hne := cix_ne hG.l1
  rw [ixlS, if_pos hB] at e
  cases hr : ((cixL g).map fmtT).reverse with
  | nil =>
    have := congrArg List.length hr
    simp at this
    exact hne this
  | cons s r =>
    rw [hr] at e
    have hs : s ∈ (cixL g).map fmtT := List.mem_reverse.1 (by rw [hr]; exact List.mem_cons_self ..)
    obtain ⟨x, hx, rfl⟩ := List.mem_map.1 hs
    obtain ⟨i, hi, rfl⟩ := List.getElem_of_mem hx
    have ht := h2 i hi
    rw [getD_get _ _ _ hi] at ht
    have hf := fmt_head ((cixL g)[i].2).toNat (by have := ht.c; omega)
    rw [show ((((cixL g)[i].2).toNat : Nat) : Int) = (cixL g)[i].2 by have := ht.c; omega] at hf
    obtain ⟨a, b, hab⟩ : ∃ a b, fmtI (cixL g)[i].2 = a :: b := by
      cases hq : fmtI (cixL g)[i].2 with
      | nil => exact (hf.1 hq).elim
      | cons a b => exact ⟨a, b, rfl⟩
    rw [hab] at hf
    have : ∃ b', fmtT (cixL g)[i] = a :: b' := by
      unfold fmtT jnT
      rw [hab]
      split
      · exact ⟨_, rfl⟩
      · exact ⟨_, rfl⟩
    obtain ⟨b', hb'⟩ := this
    rw [hb'] at e
    simp [Lib.join] at e
    exact hf.2 e.1
theorem sumN_take (t : List Int) (i : Nat) (hi : i < t.length) : sumN (t.take (i + 1)) = sumN (t.take i) + (t.getD i 0).toNat := by
  have happ : ∀ l r, sumN (l ++ r) = sumN l + sumN r := by
    intro l r
    induction l with
    | nil => simp [sumN]
    | cons x l ih => rw [List.cons_append, sumN, sumN, ih]; omega
  rw [L_succ t i 0 hi, happ]; rfl
theorem sumN_le (t : List Int) : ∀ i, i ≤ t.length → sumN (t.take i) ≤ sumN t := fun i hi => by
  have key : ∀ d, i + d ≤ t.length → sumN (t.take i) ≤ sumN (t.take (i + d)) := by
    intro d
    induction d with
    | zero => intro _; exact Nat.le_refl _
    | succ d ih => intro h; have := ih (by omega); rw [show i + (d + 1) = (i + d) + 1 by omega, sumN_take t _ (by omega)]; omega
  have := key (t.length - i) (by omega)
  rwa [show i + (t.length - i) = t.length by omega, List.take_length] at this
/-- a number from 0 to 4 -/
theorem dec5 (code : List Int) (m : Nat) : ∃ n : Nat, (mkNum code m).tmod 5 = n ∧ n ≤ 4 := by
  have hb := mkNum_b code m
  have ht := Int.tmod_nonneg 5 hb.1
  have ht2 := Int.tmod_lt_of_pos (mkNum code m) (by decide : (0 : Int) < 5)
  exact ⟨((mkNum code m).tmod 5).toNat, by omega, by omega⟩
/-- laws.FnIndex -/
theorem laws_FnIndex (code : List Int) : AC Try.prog 10 [.d true (.sl .u8) code] [] [.d true .bool true] [] := by
  obtain ⟨n, hn1, hn2, hQ⟩ := grpD_ok code 0
  have hB := grq_gok hQ
  have hGL := grl_of hn1 hn2 hQ
  obtain ⟨K, hK, hK4⟩ := dec5 code 20
  generalize hg : grpD code 0 = g at *
  have hG := (gokB_iff g).1 hB
  have hgl : g.length ≤ 1048576 := by have := hG.l2; omega
  have hgx : ∀ i, i < g.length → (g.getD i []).length ≤ 1048576 := fun i hi => by have := (gok1_p (hG.o1 i hi)).1.1; omega
  obtain ⟨hc1, hc2⟩ := cix_tm hB
  have hcs := cix_sum hB
  have hcc : ∀ i, i < (cixL g).length → 0 ≤ ((cixL g).getD i ([], 0)).2 ∧ ((cixL g).getD i ([], 0)).2 ≤ 120 := fun i hi => (hc2 i hi).c
  have hwb := wtK_b hK4 hcc hcs
  have hne := List.length_pos_iff.2 (cix_ne hG.l1)
  have hCI := impl_CycleIndex true g hB hgl hgx
  have hcol := colI_mul hGL hB K hK4
  have hsum := wtK_sum hB K
  have hcb := colI_b g (K : Nat)
  have hwl := hwb (cixL g).length (Nat.le_refl _)
  refine AC_of tauOk 86 0 [2] Try.func10 rfl (by kernel_rfl) rfl rfl rfl rfl rfl ?_
  refine ⟨fun h1 => ?_, fun h1 => ?_⟩
  · exact ⟨none, ⟨rfl, trivial⟩, rfl, rfl⟩
  have hl : code.length ≤ 1048576 := by omega
  have hMG := spec_MakeGroup code hl 0 (by decide)
  rw [hg] at hMG
  refine ⟨[], false, _, _, hMG, List.nodup_nil, rfl, rfl, trivial, [], true, _, _, hCI, List.nodup_nil, rfl, rfl, trivial, [], false, _, _, spec_MakeNum code hl 20 (by decide), List.nodup_nil, rfl, rfl, trivial, by decide, (K : Int), hK.symm, ?_⟩
  refine ⟨Nat, fun k => ⟨[(3, .d true (.sl (.sl .int)) g), (4, .x (.dz true (cixL g))), (5, I (K : Nat)), (6, I (wtK (kfn K) (cixL g) k)), (23, .x (.dz true (cixL g))), (24, I (cixL g).length), (25, I (k : Nat))], []⟩, fun k => k ≤ (cixL g).length, fun k => (cixL g).length - k, 0, Nat.zero_le _,
    ⟨⟨rfl, rfl⟩, ⟨rfl, rfl, rfl, rfl, rfl, rfl, rfl, trivial⟩, trivial⟩, fun k hk => ?_⟩
  dsimp only at hk
  have hwk := hwb k hk
  refine ⟨fun h2 => ?_, fun h2 => ?_⟩
  · have hk2 : k < (cixL g).length := by omega
    have hx := hc2 k hk2
    have hn10 := hx.n1
    have hxs := hcs k hk2
    have hwk1 := hwb (k + 1) (by omega)
    have hkb := kfn_b hK4 hxs
    refine ⟨k, rfl, hk2, (by decide : 0 < 2), (by decide : 2 ≤ 1000), rfl, rfl, rfl, rfl, ?_⟩
    have hwe : wtK (kfn K) (cixL g) (k + 1) = wtK (kfn K) (cixL g) k + ((cixL g).getD k ([], 0)).2 * kfn K ((cixL g).getD k ([], 0)).1 := rfl
    generalize (cixL g).getD k ([], 0) = x at *
    refine ⟨(by decide : 0 < 2), (by decide : 0 < 2), ?_⟩
    refine ⟨Nat, fun i => ⟨[(3, .d true (.sl (.sl .int)) g), (4, .x (.dz true (cixL g))), (5, I (K : Nat)), (6, I (wtK (kfn K) (cixL g) k)), (8, .ptr 0 0), (9, I ((K ^ sumN (x.1.take i) : Nat) : Int)), (23, .x (.dz true (cixL g))), (24, I (cixL g).length), (25, I (k : Nat)), (30, .d true (.sl .int) x.1), (31, I x.1.length), (32, I (i : Nat))], [.sl 58 .mix [.ints x.1, .int x.2]]⟩, fun i => i ≤ x.1.length, fun i => x.1.length - i, 0, Nat.zero_le _,
      ⟨⟨rfl, rfl⟩, ⟨rfl, rfl, rfl, rfl, rfl, rfl, rfl, rfl, rfl, rfl, rfl, rfl, trivial⟩, rfl, trivial⟩, fun i hi => ?_⟩
    dsimp only at hi
    have hsi := sumN_le x.1 i hi
    refine ⟨fun h3 => ?_, fun h3 => ?_⟩
    · have hi2 : i < x.1.length := by omega
      have hy := hx.t i
      have hst := sumN_take x.1 i hi2
      have hsi1 := sumN_le x.1 (i + 1) (by omega)
      refine ⟨i, rfl, hi2, ?_⟩
      refine ⟨Nat, fun j => ⟨[(3, .d true (.sl (.sl .int)) g), (4, .x (.dz true (cixL g))), (5, I (K : Nat)), (6, I (wtK (kfn K) (cixL g) k)), (8, .ptr 0 0), (9, I ((K ^ (sumN (x.1.take i) + j) : Nat) : Int)), (11, I (x.1.getD i 0)), (12, I (j : Nat)), (23, .x (.dz true (cixL g))), (24, I (cixL g).length), (25, I (k : Nat)), (30, .d true (.sl .int) x.1), (31, I x.1.length), (32, I (i : Nat))], [.sl 58 .mix [.ints x.1, .int x.2]]⟩, fun j => j ≤ (x.1.getD i 0).toNat, fun j => (x.1.getD i 0).toNat - j, 0, Nat.zero_le _,
        ⟨⟨rfl, rfl⟩, ⟨rfl, rfl, rfl, rfl, rfl, rfl, rfl, rfl, rfl, rfl, rfl, rfl, rfl, rfl, trivial⟩, rfl, trivial⟩, fun j hj => ?_⟩
      dsimp only at hj
      refine ⟨fun h4 => ?_, fun h4 => ?_⟩
      · refine ⟨fun h5 => ?_, fun h5 => by omega⟩
        have hp := pow_le hK4 (show sumN (x.1.take i) + j + 1 ≤ 10 by omega) (Nat.le_refl 10)
        refine ⟨((K ^ (sumN (x.1.take i) + (j + 1)) : Nat) : Int), w64_eq (by rw [← Nat.add_assoc, Nat.pow_succ, Int.natCast_mul]) (Int.le_trans (by decide) (Int.natCast_nonneg _)) (by rw [← Nat.add_assoc]; omega), ?_⟩
        exact ⟨((j + 1 : Nat) : Int), w64_eq (by omega) (by omega) (by omega), j + 1, by dsimp only; omega, by dsimp only; omega, ⟨rfl, rfl⟩, ⟨rfl, rfl, rfl, rfl, rfl, rfl, rfl, rfl, rfl, rfl, rfl, rfl, rfl, rfl, trivial⟩, rfl, trivial⟩
      · obtain rfl : j = (x.1.getD i 0).toNat := by omega
        exact ⟨((i + 1 : Nat) : Int), w64_eq (by omega) (by omega) (by omega), i + 1, by dsimp only; omega, by dsimp only; omega, ⟨rfl, rfl⟩, ⟨rfl, rfl, rfl, rfl, rfl, retI (by rw [hst]), rfl, rfl, rfl, rfl, rfl, rfl, trivial⟩, rfl, trivial⟩
    · obtain rfl : i = x.1.length := by omega
      have hxc := hx.c
      have h5 : 0 ≤ x.2 * kfn K x.1 := Int.mul_nonneg hxc.1 hkb.1
      have h6 : x.2 * kfn K x.1 ≤ 120 * 1048576 := Int.mul_le_mul hxc.2 hkb.2 hkb.1 (by decide)
      dsimp only
      rw [List.take_length]
      refine ⟨(by decide : 1 < 2), (by decide : 1 < 2), x.2 * kfn K x.1, w64_eq rfl (by omega) (by omega), wtK (kfn K) (cixL g) (k + 1), w64_eq hwe (by omega) (by omega), ?_⟩
      exact ⟨((k + 1 : Nat) : Int), w64_eq (by omega) (by omega) (by omega), k + 1, by omega, by omega, ⟨rfl, rfl⟩, ⟨rfl, rfl, rfl, rfl, rfl, rfl, rfl, trivial⟩, trivial⟩
  · obtain rfl : k = (cixL g).length := by omega
    dsimp only
    refine ⟨fun _ => ?_, fun h => (h (by omega)).elim⟩
    refine ⟨[], false, _, _, impl_IndexOrder (cixL g) hc1 hcc, List.nodup_nil, rfl, rfl, trivial, fun _ => ?_, fun h => (h (ordT_all g)).elim⟩
    refine ⟨[], false, _, _, impl_CountColorings true g (K : Nat) hgl hgx, List.nodup_nil, rfl, rfl, trivial, ((sumC g K g.length : Nat) : Int), w64_eq hcol.symm (by omega) (by omega), fun _ => ?_, fun h => (h hsum.symm).elim⟩
    refine ⟨[], false, _, _, impl_CountColorings true g 1 hgl hgx, List.nodup_nil, rfl, rfl, trivial, fun _ => ?_, fun h => (h (colI_one hB)).elim⟩
    refine ⟨[], false, _, _, impl_IndexLine true g hgl hgx, List.nodup_nil, rfl, rfl, trivial, fun _ => ?_, fun h => (h (ixl_not hB)).elim⟩
    exact ⟨none, ⟨rfl, trivial⟩, rfl, rfl⟩
end Go.Proofs.Ytcamhpknmbohnaa
