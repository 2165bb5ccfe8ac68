/-
  Contracts of the functions that count trees.
-/
import Derived.Test.YtokejdaokfjmmaaWcom
import Derived.Test.YtokejdaokfjmmaaPl2
set_option linter.unusedVariables false
namespace Go.Proofs.Ytokejdaokfjmmaa
open Go Go.Proofs.Ytokejdaokfjmmaa.Ow
/-- spec.l12Rooted -/
theorem spec_l12Rooted (n : Nat) (hn1 : 1 ≤ n) (hn : n ≤ 12) : AC Try.prog 46 [I (n : Nat)] [] [.ow 0] [.sl 3 .int (rootR.take (n + 1))] := by
  refine AC_of tauOk 55 0 [2] Try.func46 rfl (by kernel_rfl) rfl rfl rfl rfl rfl ?_
  refine ⟨rfl, by decide, true, ?_⟩
  refine ⟨Nat, fun m => ⟨[(0, I (n : Nat)), (3, .ow 0), (4, I (m : Nat))], [.sl 3 .int (rootR.take (m + 1))]⟩, fun m => 1 ≤ m ∧ m ≤ n, fun m => n - m, 1, ⟨by omega, by omega⟩,
    ⟨⟨rfl, rfl⟩, ⟨rfl, rfl, rfl, trivial⟩, rfl, trivial⟩, fun m ⟨hm1, hm⟩ => ?_⟩
  refine ⟨fun h1 => ?_, fun h1 => ?_⟩
  · have hm2 : m < n := by omega
    clear h1
    refine ⟨Nat, fun k => ⟨[(0, I (n : Nat)), (3, .ow 0), (4, I (m : Nat)), (5, I (tP m k)), (6, I ((k + 1 : Nat)))], [.sl 3 .int (rootR.take (m + 1))]⟩, fun k => k ≤ m, fun k => m - k, 0, Nat.zero_le _,
      ⟨⟨rfl, rfl⟩, ⟨rfl, rfl, rfl, rfl, rfl, trivial⟩, rfl, trivial⟩, fun k hk => ?_⟩
    dsimp only at hk
    refine ⟨fun h2 => ?_, fun h2 => ?_⟩
    · have hk2 : k < m := by omega
      clear h2
      refine ⟨Nat, fun d => ⟨[(0, I (n : Nat)), (3, .ow 0), (4, I (m : Nat)), (5, I (tP m k)), (6, I ((k + 1 : Nat))), (7, I (sP (k + 1) d)), (8, I ((d + 1 : Nat)))], [.sl 3 .int (rootR.take (m + 1))]⟩, fun d => d ≤ k + 1, fun d => k + 1 - d, 0, Nat.zero_le _,
        ⟨⟨rfl, rfl⟩, ⟨rfl, rfl, rfl, rfl, rfl, rfl, rfl, trivial⟩, rfl, trivial⟩, fun d hd => ?_⟩
      dsimp only at hd
      refine ⟨fun h3 => ?_, fun h3 => ?_⟩
      · have hd2 : d < k + 1 := by omega
        clear h3
        refine ⟨by omega, _, rfl, fun h4 => ?_, fun h4 => ?_⟩
        · refine ⟨d + 1, rfl, by rw [root_len _ (by omega)]; omega, ?_⟩
          have hb := rg_m (d + 1) (by omega)
          have hc := sP_b (k + 1) (by omega) (d + 1) (by omega)
          refine ⟨((d + 1 : Nat) : Int) * rg (d + 1), w64_eq (by rw [root_get _ _ (by omega)]) (by omega) (by omega), ?_⟩
          refine ⟨sP (k + 1) (d + 1), w64_eq (by rw [sP, if_pos h4]) (by omega) (by omega), ?_⟩
          exact ⟨((d + 1 + 1 : Nat) : Int), w64_eq (by omega) (by omega) (by omega), d + 1, by dsimp only; omega, by dsimp only; omega, ⟨rfl, rfl⟩, ⟨rfl, rfl, rfl, rfl, rfl, rfl, rfl, trivial⟩, rfl, trivial⟩
        · have e : sP (k + 1) (d + 1) = sP (k + 1) d := by rw [sP, if_neg h4]
          exact ⟨((d + 1 + 1 : Nat) : Int), w64_eq (by omega) (by omega) (by omega), d + 1, by dsimp only; omega, by dsimp only; omega, ⟨rfl, rfl⟩, ⟨rfl, rfl, rfl, rfl, rfl, retI e.symm, rfl, trivial⟩, rfl, trivial⟩
      · have hd2 : d = k + 1 := by omega
        clear h3
        subst hd2
        have hb := sr_b m (by omega) k hk2
        have hc := tP_b m (by omega) (k + 1) (by omega)
        refine ⟨((m + 1 : Nat) : Int), w64_eq (by omega) (by omega) (by omega), ?_⟩
        refine ⟨((m - k : Nat) : Int), w64_eq (by omega) (by omega) (by omega), ?_⟩
        refine ⟨m - k, rfl, by rw [root_len _ (by omega)]; omega, ?_⟩
        refine ⟨sP (k + 1) (k + 1) * rg (m - k), w64_eq (by rw [root_get _ _ (by omega)]) (by omega) (by omega), ?_⟩
        refine ⟨tP m (k + 1), w64_eq (by rw [tP]) (by omega) (by omega), ?_⟩
        exact ⟨((k + 1 + 1 : Nat) : Int), w64_eq (by omega) (by omega) (by omega), k + 1, by dsimp only; omega, by dsimp only; omega, ⟨rfl, rfl⟩, ⟨rfl, rfl, rfl, rfl, rfl, trivial⟩, rfl, trivial⟩
    · have hk2 : k = m := by omega
      clear h2
      subst hk2
      obtain ⟨e, hb, hc⟩ := root_step k (by omega) hm1
      refine ⟨by omega, (tP k k).tdiv (k : Int), w64_eq rfl (by omega) (by omega), ?_⟩
      refine ⟨rfl, by decide, false, ?_⟩
      refine ⟨rfl, Nat.zero_le _, rfl, by rw [root_len _ (by omega)]; simp; omega, rfl, ?_⟩
      exact ⟨((k + 1 : Nat) : Int), w64_eq (by omega) (by omega) (by omega), k + 1, by dsimp only; omega, by dsimp only; omega, ⟨rfl, rfl⟩, ⟨rfl, rfl, rfl, trivial⟩, rowE e, trivial⟩
  · have hm2 : m = n := by omega
    subst hm2
    exact ⟨some 0, ⟨⟨rfl, rfl⟩, trivial⟩, ⟨rfl, rfl⟩, rfl⟩
/-- impl.rooted -/
theorem impl_rooted : AC Try.prog 47 [] [] [.ow 0] [.sl 3 .int (rootR.take 13)] := by
  refine AC_of tauOk 52 0 [0] Try.func47 rfl (by kernel_rfl) rfl rfl rfl rfl rfl ?_
  refine ⟨rfl, by decide, true, ?_⟩
  refine ⟨Nat, fun m => ⟨[(1, .ow 0), (2, I (m : Nat))], [.sl 3 .int (rootR.take (m + 1))]⟩, fun m => 1 ≤ m ∧ m ≤ 12, fun m => 12 - m, 1, ⟨by omega, by omega⟩,
    ⟨⟨rfl, rfl⟩, ⟨rfl, rfl, trivial⟩, rfl, trivial⟩, fun m ⟨hm1, hm⟩ => ?_⟩
  refine ⟨fun h1 => ?_, fun h1 => ?_⟩
  · have hm2 : m < 12 := by omega
    clear h1
    refine ⟨Nat, fun k => ⟨[(1, .ow 0), (2, I (m : Nat)), (3, I (tP m k)), (4, I ((k + 1 : Nat)))], [.sl 3 .int (rootR.take (m + 1))]⟩, fun k => k ≤ m, fun k => m - k, 0, Nat.zero_le _,
      ⟨⟨rfl, rfl⟩, ⟨rfl, rfl, rfl, rfl, trivial⟩, rfl, trivial⟩, fun k hk => ?_⟩
    dsimp only at hk
    refine ⟨fun h2 => ?_, fun h2 => ?_⟩
    · have hk2 : k < m := by omega
      clear h2
      refine ⟨Nat, fun d => ⟨[(1, .ow 0), (2, I (m : Nat)), (3, I (tP m k)), (4, I ((k + 1 : Nat))), (5, I (sP (k + 1) d)), (6, I ((d + 1 : Nat)))], [.sl 3 .int (rootR.take (m + 1))]⟩, fun d => d ≤ k + 1, fun d => k + 1 - d, 0, Nat.zero_le _,
        ⟨⟨rfl, rfl⟩, ⟨rfl, rfl, rfl, rfl, rfl, rfl, trivial⟩, rfl, trivial⟩, fun d hd => ?_⟩
      dsimp only at hd
      refine ⟨fun h3 => ?_, fun h3 => ?_⟩
      · have hd2 : d < k + 1 := by omega
        clear h3
        refine ⟨by omega, _, rfl, fun h4 => ?_, fun h4 => ?_⟩
        · refine ⟨d + 1, rfl, by rw [root_len _ (by omega)]; omega, ?_⟩
          have hb := rg_m (d + 1) (by omega)
          have hc := sP_b (k + 1) (by omega) (d + 1) (by omega)
          refine ⟨((d + 1 : Nat) : Int) * rg (d + 1), w64_eq (by rw [root_get _ _ (by omega)]) (by omega) (by omega), ?_⟩
          refine ⟨sP (k + 1) (d + 1), w64_eq (by rw [sP, if_pos h4]) (by omega) (by omega), ?_⟩
          exact ⟨((d + 1 + 1 : Nat) : Int), w64_eq (by omega) (by omega) (by omega), d + 1, by dsimp only; omega, by dsimp only; omega, ⟨rfl, rfl⟩, ⟨rfl, rfl, rfl, rfl, rfl, rfl, trivial⟩, rfl, trivial⟩
        · have e : sP (k + 1) (d + 1) = sP (k + 1) d := by rw [sP, if_neg h4]
          exact ⟨((d + 1 + 1 : Nat) : Int), w64_eq (by omega) (by omega) (by omega), d + 1, by dsimp only; omega, by dsimp only; omega, ⟨rfl, rfl⟩, ⟨rfl, rfl, rfl, rfl, retI e.symm, rfl, trivial⟩, rfl, trivial⟩
      · have hd2 : d = k + 1 := by omega
        clear h3
        subst hd2
        have hb := sr_b m (by omega) k hk2
        have hc := tP_b m (by omega) (k + 1) (by omega)
        refine ⟨((m + 1 : Nat) : Int), w64_eq (by omega) (by omega) (by omega), ?_⟩
        refine ⟨((m - k : Nat) : Int), w64_eq (by omega) (by omega) (by omega), ?_⟩
        refine ⟨m - k, rfl, by rw [root_len _ (by omega)]; omega, ?_⟩
        refine ⟨sP (k + 1) (k + 1) * rg (m - k), w64_eq (by rw [root_get _ _ (by omega)]) (by omega) (by omega), ?_⟩
        refine ⟨tP m (k + 1), w64_eq (by rw [tP]) (by omega) (by omega), ?_⟩
        exact ⟨((k + 1 + 1 : Nat) : Int), w64_eq (by omega) (by omega) (by omega), k + 1, by dsimp only; omega, by dsimp only; omega, ⟨rfl, rfl⟩, ⟨rfl, rfl, rfl, rfl, trivial⟩, rfl, trivial⟩
    · have hk2 : k = m := by omega
      clear h2
      subst hk2
      obtain ⟨e, hb, hc⟩ := root_step k (by omega) hm1
      refine ⟨by omega, (tP k k).tdiv (k : Int), w64_eq rfl (by omega) (by omega), ?_⟩
      refine ⟨rfl, by decide, false, ?_⟩
      refine ⟨rfl, Nat.zero_le _, rfl, by rw [root_len _ (by omega)]; simp; omega, rfl, ?_⟩
      exact ⟨((k + 1 : Nat) : Int), w64_eq (by omega) (by omega) (by omega), k + 1, by dsimp only; omega, by dsimp only; omega, ⟨rfl, rfl⟩, ⟨rfl, rfl, trivial⟩, rowE e, trivial⟩
  · have hm2 : m = 12 := by omega
    subst hm2
    exact ⟨some 0, ⟨⟨rfl, rfl⟩, trivial⟩, ⟨rfl, rfl⟩, rfl⟩
/-- spec.CountRooted -/
theorem spec_CountRooted (x : Int) : AC Try.prog 23 [I x] [] [I (rootN x)] [] := by
  refine AC_of tauOk 11 0 [2] Try.func23 rfl (by kernel_rfl) rfl rfl rfl rfl rfl ?_
  refine ⟨[], false, _, _, spec_l01In _ _ _, List.nodup_nil, rfl, rfl, trivial, fun h1 => ?_, fun h1 => ?_⟩
  · simp only [Bool.and_eq_true, decide_eq_true_eq] at h1
    obtain ⟨n, rfl⟩ : ∃ n : Nat, x = n := ⟨x.toNat, by omega⟩
    refine ⟨[], true, _, _, spec_l12Rooted n (by omega) (by omega), List.nodup_nil, rfl, rfl, trivial, n, rfl, by rw [root_len _ (by omega)]; omega, ?_⟩
    exact ⟨none, ⟨retI (by rw [root_get _ _ (by omega), rootN, if_pos (by omega)]; rfl), trivial⟩, rfl, rfl⟩
  · simp only [Bool.and_eq_false_iff, decide_eq_false_iff_not] at h1
    exact ⟨none, ⟨retI (by rw [rootN, if_neg (by omega)]), trivial⟩, rfl, rfl⟩
/-- impl.CountRooted -/
theorem impl_CountRooted (x : Int) : AC Try.prog 24 [I x] [] [I (rootN x)] [] := by
  refine AC_of tauOk 13 0 [2] Try.func24 rfl (by kernel_rfl) rfl rfl rfl rfl rfl ?_
  refine ⟨fun h1 => ?_, fun h1 => ?_⟩
  · exact ⟨none, ⟨retI (by rw [rootN, if_neg (by omega)]), trivial⟩, rfl, rfl⟩
  refine ⟨fun h2 => ?_, fun h2 => ?_⟩
  · exact ⟨none, ⟨retI (by rw [rootN, if_neg (by omega)]), trivial⟩, rfl, rfl⟩
  obtain ⟨n, rfl⟩ : ∃ n : Nat, x = n := ⟨x.toNat, by omega⟩
  refine ⟨[], true, _, _, impl_rooted, List.nodup_nil, rfl, rfl, trivial, n, rfl, by rw [root_len 12 (by omega)]; omega, ?_⟩
  exact ⟨none, ⟨retI (by rw [root_get 12 _ (by omega), rootN, if_pos (by omega)]; rfl), trivial⟩, rfl, rfl⟩
/-- spec.CountFree -/
theorem spec_CountFree (x : Int) : AC Try.prog 25 [I x] [] [I (freeN x)] [] := by
  refine AC_of tauOk 46 0 [2] Try.func25 rfl (by kernel_rfl) rfl rfl rfl rfl rfl ?_
  refine ⟨[], false, _, _, spec_l01In _ _ _, List.nodup_nil, rfl, rfl, trivial, fun h1 => ?_, fun h1 => ?_⟩
  · simp only [Bool.and_eq_true, decide_eq_true_eq] at h1
    obtain ⟨n, rfl⟩ : ∃ n : Nat, x = n := ⟨x.toNat, by omega⟩
    refine ⟨[], true, _, _, spec_l12Rooted n (by omega) (by omega), List.nodup_nil, rfl, rfl, trivial, ?_⟩
    refine ⟨Nat, fun k => ⟨[(0, I (n : Nat)), (3, .d true (.sl .int) (rootR.take (n + 1))), (4, I (uP n k)), (5, I ((k + 1 : Nat)))], []⟩, fun k => k + 1 ≤ n, fun k => n - k, 0, by dsimp only; omega,
      ⟨⟨rfl, rfl⟩, ⟨rfl, rfl, rfl, rfl, trivial⟩, trivial⟩, fun k hk => ?_⟩
    dsimp only at hk
    refine ⟨fun h2 => ?_, fun h2 => ?_⟩
    · have hk2 : k + 1 < n := by omega
      have hb := rr_b n (by omega) (k + 1) hk2
      have hc := uP_b n (by omega) (k + 1) hk2
      refine ⟨none, by kernel_rfl, k + 1, rfl, by rw [root_len _ (by omega)]; omega, ?_⟩
      refine ⟨((n - (k + 1) : Nat) : Int), w64_eq (by omega) (by omega) (by omega), ?_⟩
      refine ⟨n - (k + 1), rfl, by rw [root_len _ (by omega)]; omega, ?_⟩
      refine ⟨rg (k + 1) * rg (n - (k + 1)), w64_eq (by rw [root_get _ _ (by omega), root_get _ _ (by omega)]) (by omega) (by omega), ?_⟩
      refine ⟨uP n (k + 1), w64_eq (by rw [uP]) (by omega) (by omega), ?_⟩
      exact ⟨((k + 1 + 1 : Nat) : Int), w64_eq (by omega) (by omega) (by omega), k + 1, by dsimp only; omega, by dsimp only; omega, ⟨rfl, rfl⟩, ⟨rfl, rfl, rfl, rfl, trivial⟩, trivial⟩
    · obtain rfl : n = k + 1 := by omega
      have hd := uP_b (k + 1) (by omega) k (by omega)
      have he := uE_b (k + 1) (by omega) (by omega)
      have hf := rg_b (k + 1) (by omega)
      have hg := free_b (k + 1) (by omega) (by omega)
      refine ⟨by decide, _, rfl, fun h3 => ?_, fun h3 => ?_⟩
      · have hh := rg_b ((k + 1) / 2) (by omega)
        have hu : uE (k + 1) = uP (k + 1) k - rg ((k + 1) / 2) := by rw [uE, if_pos h3]; rfl
        refine ⟨by decide, (((k + 1) / 2 : Nat) : Int), w64_eq (Int.ofNat_tdiv _ _) (by omega) (by omega), ?_⟩
        refine ⟨(k + 1) / 2, rfl, by rw [root_len _ (by omega)]; omega, ?_⟩
        refine ⟨uE (k + 1), w64_eq (by rw [root_get _ _ (by omega), hu]) (by omega) (by omega), ?_⟩
        refine ⟨k + 1, rfl, by rw [root_len _ (by omega)]; omega, ?_⟩
        refine ⟨by decide, (uE (k + 1)).tdiv 2, w64_eq rfl (by omega) (by omega), ?_⟩
        refine ⟨rg (k + 1) - (uE (k + 1)).tdiv 2, w64_eq (by rw [root_get _ _ (by omega)]) (by omega) (by omega), ?_⟩
        exact ⟨none, ⟨retI (by rw [freeN, if_pos (by omega)]; rfl), trivial⟩, rfl, rfl⟩
      · have hu : uE (k + 1) = uP (k + 1) k := by rw [uE, if_neg h3]; rfl
        refine ⟨k + 1, rfl, by rw [root_len _ (by omega)]; omega, ?_⟩
        refine ⟨by decide, (uE (k + 1)).tdiv 2, w64_eq (by rw [hu]) (by omega) (by omega), ?_⟩
        refine ⟨rg (k + 1) - (uE (k + 1)).tdiv 2, w64_eq (by rw [root_get _ _ (by omega)]) (by omega) (by omega), ?_⟩
        exact ⟨none, ⟨retI (by rw [freeN, if_pos (by omega)]; rfl), trivial⟩, rfl, rfl⟩
  · simp only [Bool.and_eq_false_iff, decide_eq_false_iff_not] at h1
    exact ⟨none, ⟨retI (by rw [freeN, if_neg (by omega)]), trivial⟩, rfl, rfl⟩
/-- impl.CountFree -/
theorem impl_CountFree (x : Int) : AC Try.prog 26 [I x] [] [I (freeN x)] [] := by
  refine AC_of tauOk 48 0 [2] Try.func26 rfl (by kernel_rfl) rfl rfl rfl rfl rfl ?_
  refine ⟨fun h1 => ?_, fun h1 => ?_⟩
  · exact ⟨none, ⟨retI (by rw [freeN, if_neg (by omega)]), trivial⟩, rfl, rfl⟩
  refine ⟨fun h2 => ?_, fun h2 => ?_⟩
  · exact ⟨none, ⟨retI (by rw [freeN, if_neg (by omega)]), trivial⟩, rfl, rfl⟩
  obtain ⟨n, rfl⟩ : ∃ n : Nat, x = n := ⟨x.toNat, by omega⟩
  have hn1 : 1 ≤ n := by omega
  have hn : n ≤ 12 := by omega
  refine ⟨[], true, _, _, impl_rooted, List.nodup_nil, rfl, rfl, trivial, ?_⟩
  refine ⟨Nat, fun k => ⟨[(0, I (n : Nat)), (3, .d true (.sl .int) (rootR.take 13)), (4, I (uP n k)), (5, I ((k + 1 : Nat)))], []⟩, fun k => k + 1 ≤ n, fun k => n - k, 0, by dsimp only; omega,
    ⟨⟨rfl, rfl⟩, ⟨rfl, rfl, rfl, rfl, trivial⟩, trivial⟩, fun k hk => ?_⟩
  dsimp only at hk
  refine ⟨fun h2 => ?_, fun h2 => ?_⟩
  · have hk2 : k + 1 < n := by omega
    have hb := rr_b n (by omega) (k + 1) hk2
    have hc := uP_b n (by omega) (k + 1) hk2
    refine ⟨none, by kernel_rfl, k + 1, rfl, by rw [root_len 12 (by omega)]; omega, ?_⟩
    refine ⟨((n - (k + 1) : Nat) : Int), w64_eq (by omega) (by omega) (by omega), ?_⟩
    refine ⟨n - (k + 1), rfl, by rw [root_len 12 (by omega)]; omega, ?_⟩
    refine ⟨rg (k + 1) * rg (n - (k + 1)), w64_eq (by rw [root_get 12 _ (by omega), root_get 12 _ (by omega)]) (by omega) (by omega), ?_⟩
    refine ⟨uP n (k + 1), w64_eq (by rw [uP]) (by omega) (by omega), ?_⟩
    exact ⟨((k + 1 + 1 : Nat) : Int), w64_eq (by omega) (by omega) (by omega), k + 1, by dsimp only; omega, by dsimp only; omega, ⟨rfl, rfl⟩, ⟨rfl, rfl, rfl, rfl, trivial⟩, trivial⟩
  · obtain rfl : n = k + 1 := by omega
    have hd := uP_b (k + 1) (by omega) k (by omega)
    have he := uE_b (k + 1) (by omega) (by omega)
    have hf := rg_b (k + 1) (by omega)
    have hg := free_b (k + 1) (by omega) (by omega)
    refine ⟨by decide, _, rfl, fun h3 => ?_, fun h3 => ?_⟩
    · have hh := rg_b ((k + 1) / 2) (by omega)
      have hu : uE (k + 1) = uP (k + 1) k - rg ((k + 1) / 2) := by rw [uE, if_pos h3]; rfl
      refine ⟨by decide, (((k + 1) / 2 : Nat) : Int), w64_eq (Int.ofNat_tdiv _ _) (by omega) (by omega), ?_⟩
      refine ⟨(k + 1) / 2, rfl, by rw [root_len 12 (by omega)]; omega, ?_⟩
      refine ⟨uE (k + 1), w64_eq (by rw [root_get 12 _ (by omega), hu]) (by omega) (by omega), ?_⟩
      refine ⟨k + 1, rfl, by rw [root_len 12 (by omega)]; omega, ?_⟩
      refine ⟨by decide, (uE (k + 1)).tdiv 2, w64_eq rfl (by omega) (by omega), ?_⟩
      refine ⟨rg (k + 1) - (uE (k + 1)).tdiv 2, w64_eq (by rw [root_get 12 _ (by omega)]) (by omega) (by omega), ?_⟩
      exact ⟨none, ⟨retI (by rw [freeN, if_pos (by omega)]; rfl), trivial⟩, rfl, rfl⟩
    · have hu : uE (k + 1) = uP (k + 1) k := by rw [uE, if_neg h3]; rfl
      refine ⟨k + 1, rfl, by rw [root_len 12 (by omega)]; omega, ?_⟩
      refine ⟨by decide, (uE (k + 1)).tdiv 2, w64_eq (by rw [hu]) (by omega) (by omega), ?_⟩
      refine ⟨rg (k + 1) - (uE (k + 1)).tdiv 2, w64_eq (by rw [root_get 12 _ (by omega)]) (by omega) (by omega), ?_⟩
      exact ⟨none, ⟨retI (by rw [freeN, if_pos (by omega)]; rfl), trivial⟩, rfl, rfl⟩
/-- laws.FnExactCountRooted -/
theorem laws_FnExactCountRooted (x : Int) : AC Try.prog 6 [I x] [] [.d true .bool true] [] := by
  refine AC_of tauOk 12 0 [2] Try.func6 rfl (by kernel_rfl) rfl rfl rfl rfl rfl ?_
  refine ⟨[], false, _, _, spec_CountRooted x, List.nodup_nil, rfl, rfl, trivial, [], false, _, _, impl_CountRooted x, List.nodup_nil, rfl, rfl, trivial, fun h1 => (h1 rfl).elim, fun h1 => ?_⟩
  exact ⟨none, ⟨rfl, trivial⟩, rfl, rfl⟩
/-- laws.FnExactCountFree -/
theorem laws_FnExactCountFree (x : Int) : AC Try.prog 7 [I x] [] [.d true .bool true] [] := by
  refine AC_of tauOk 12 0 [2] Try.func7 rfl (by kernel_rfl) rfl rfl rfl rfl rfl ?_
  refine ⟨[], false, _, _, spec_CountFree x, List.nodup_nil, rfl, rfl, trivial, [], false, _, _, impl_CountFree x, List.nodup_nil, rfl, rfl, trivial, fun h1 => (h1 rfl).elim, fun h1 => ?_⟩
  exact ⟨none, ⟨rfl, trivial⟩, rfl, rfl⟩
end Go.Proofs.Ytokejdaokfjmmaa
