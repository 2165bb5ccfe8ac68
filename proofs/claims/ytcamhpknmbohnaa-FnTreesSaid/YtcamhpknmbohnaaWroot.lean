/-
  Contracts of the functions that count trees.
-/
import Derived.Test.YtcamhpknmbohnaaWcom
import Derived.Test.YtcamhpknmbohnaaPl2
set_option linter.unusedVariables false
namespace Go.Proofs.Ytcamhpknmbohnaa
open Go Go.Proofs.Ytcamhpknmbohnaa.Ow
/-- impl.rooted -/
theorem impl_rooted : AC Try.prog 134 [] [] [.ow 0] [.sl 3 .int (rootR.take 13)] := by
  refine AC_of tauOk 52 0 [0] Try.func134 rfl (by kernel_rfl) rfl rfl rfl rfl rfl ?_
  refine ⟨rfl, by decide, true, ?_⟩
  refine ⟨Nat, fun m => ⟨[(1, .ow 0), (2, I (m : Nat))], [.sl 3 .int (rootR.take (m + 1))]⟩, fun m => 1 ≤ m ∧ m ≤ 12, fun m => 12 - m, 1, ⟨by omega, by omega⟩,
    ⟨⟨rfl, rfl⟩, ⟨rfl, rfl, trivial⟩, rfl, trivial⟩, fun m ⟨hm1, hm⟩ => ?_⟩
  refine ⟨fun h1 => ?_, fun h1 => ?_⟩
  · have hm2 : m < 12 := by omega
    clear h1
    refine ⟨Nat, fun k => ⟨[(1, .ow 0), (2, I (m : Nat)), (3, I (tP m k)), (4, I ((k + 1 : Nat)))], [.sl 3 .int (rootR.take (m + 1))]⟩, fun k => k ≤ m, fun k => m - k, 0, Nat.zero_le _,
      ⟨⟨rfl, rfl⟩, ⟨rfl, rfl, rfl, rfl, trivial⟩, rfl, trivial⟩, fun k hk => ?_⟩
    dsimp only at hk
    refine ⟨fun h2 => ?_, fun h2 => ?_⟩
    · have hk2 : k < m := by omega
      clear h2
      refine ⟨Nat, fun d => ⟨[(1, .ow 0), (2, I (m : Nat)), (3, I (tP m k)), (4, I ((k + 1 : Nat))), (5, I (sP (k + 1) d)), (6, I ((d + 1 : Nat)))], [.sl 3 .int (rootR.take (m + 1))]⟩, fun d => d ≤ k + 1, fun d => k + 1 - d, 0, Nat.zero_le _,
        ⟨⟨rfl, rfl⟩, ⟨rfl, rfl, rfl, rfl, rfl, rfl, trivial⟩, rfl, trivial⟩, fun d hd => ?_⟩
      dsimp only at hd
      refine ⟨fun h3 => ?_, fun h3 => ?_⟩
      · have hd2 : d < k + 1 := by omega
        clear h3
        refine ⟨by omega, _, rfl, fun h4 => ?_, fun h4 => ?_⟩
        · refine ⟨d + 1, rfl, by rw [root_len _ (by omega)]; omega, ?_⟩
          have hb := rg_m (d + 1) (by omega)
          have hc := sP_b (k + 1) (by omega) (d + 1) (by omega)
          refine ⟨((d + 1 : Nat) : Int) * rg (d + 1), w64_eq (by rw [root_get _ _ (by omega)]) (by omega) (by omega), ?_⟩
          refine ⟨sP (k + 1) (d + 1), w64_eq (by rw [sP, if_pos h4]) (by omega) (by omega), ?_⟩
          exact ⟨((d + 1 + 1 : Nat) : Int), w64_eq (by omega) (by omega) (by omega), d + 1, by dsimp only; omega, by dsimp only; omega, ⟨rfl, rfl⟩, ⟨rfl, rfl, rfl, rfl, rfl, rfl, trivial⟩, rfl, trivial⟩
        · have e : sP (k + 1) (d + 1) = sP (k + 1) d := by rw [sP, if_neg h4]
          exact ⟨((d + 1 + 1 : Nat) : Int), w64_eq (by omega) (by omega) (by omega), d + 1, by dsimp only; omega, by dsimp only; omega, ⟨rfl, rfl⟩, ⟨rfl, rfl, rfl, rfl, retI e.symm, rfl, trivial⟩, rfl, trivial⟩
      · have hd2 : d = k + 1 := by omega
        clear h3
        subst hd2
        have hb := sr_b m (by omega) k hk2
        have hc := tP_b m (by omega) (k + 1) (by omega)
        refine ⟨((m + 1 : Nat) : Int), w64_eq (by omega) (by omega) (by omega), ?_⟩
        refine ⟨((m - k : Nat) : Int), w64_eq (by omega) (by omega) (by omega), ?_⟩
        refine ⟨m - k, rfl, by rw [root_len _ (by omega)]; omega, ?_⟩
        refine ⟨sP (k + 1) (k + 1) * rg (m - k), w64_eq (by rw [root_get _ _ (by omega)]) (by omega) (by omega), ?_⟩
        refine ⟨tP m (k + 1), w64_eq (by rw [tP]) (by omega) (by omega), ?_⟩
        exact ⟨((k + 1 + 1 : Nat) : Int), w64_eq (by omega) (by omega) (by omega), k + 1, by dsimp only; omega, by dsimp only; omega, ⟨rfl, rfl⟩, ⟨rfl, rfl, rfl, rfl, trivial⟩, rfl, trivial⟩
    · have hk2 : k = m := by omega
      clear h2
      subst hk2
      obtain ⟨e, hb, hc⟩ := root_step k (by omega) hm1
      refine ⟨by omega, (tP k k).tdiv (k : Int), w64_eq rfl (by omega) (by omega), ?_⟩
      refine ⟨rfl, by decide, false, ?_⟩
      refine ⟨rfl, Nat.zero_le _, rfl, by rw [root_len _ (by omega)]; simp; omega, rfl, ?_⟩
      exact ⟨((k + 1 : Nat) : Int), w64_eq (by omega) (by omega) (by omega), k + 1, by dsimp only; omega, by dsimp only; omega, ⟨rfl, rfl⟩, ⟨rfl, rfl, trivial⟩, rowE e, trivial⟩
  · have hm2 : m = 12 := by omega
    subst hm2
    exact ⟨some 0, ⟨⟨rfl, rfl⟩, trivial⟩, ⟨rfl, rfl⟩, rfl⟩
/-- impl.CountRooted -/
theorem impl_CountRooted (x : Int) : AC Try.prog 63 [I x] [] [I (rootN x)] [] := by
  refine AC_of tauOk 13 0 [2] Try.func63 rfl (by kernel_rfl) rfl rfl rfl rfl rfl ?_
  refine ⟨fun h1 => ?_, fun h1 => ?_⟩
  · exact ⟨none, ⟨retI (by rw [rootN, if_neg (by omega)]), trivial⟩, rfl, rfl⟩
  refine ⟨fun h2 => ?_, fun h2 => ?_⟩
  · exact ⟨none, ⟨retI (by rw [rootN, if_neg (by omega)]), trivial⟩, rfl, rfl⟩
  obtain ⟨n, rfl⟩ : ∃ n : Nat, x = n := ⟨x.toNat, by omega⟩
  refine ⟨[], true, _, _, impl_rooted, List.nodup_nil, rfl, rfl, trivial, n, rfl, by rw [root_len 12 (by omega)]; omega, ?_⟩
  exact ⟨none, ⟨retI (by rw [root_get 12 _ (by omega), rootN, if_pos (by omega)]; rfl), trivial⟩, rfl, rfl⟩
end Go.Proofs.Ytcamhpknmbohnaa
