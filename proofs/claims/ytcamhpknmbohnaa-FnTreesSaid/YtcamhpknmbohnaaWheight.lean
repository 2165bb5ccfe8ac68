/-
  Contracts of the functions on the height of a tree.
-/
import Derived.Test.YtcamhpknmbohnaaWtree
import Derived.Test.YtcamhpknmbohnaaPl3
set_option linter.unusedVariables false
namespace Go.Proofs.Ytcamhpknmbohnaa
open Go Go.Proofs.Ytcamhpknmbohnaa.Ow
/-- impl.HeightOf -/
theorem impl_HeightOf (sh : Bool) (xs : List Int) (hl : xs.length ≤ 1048576) : AC Try.prog 60 [.d sh (.sl .int) xs] [] [I (heightV xs)] [] := by
  refine AC_of tauOk 38 0 [2] Try.func60 rfl (by kernel_rfl) rfl rfl rfl rfl rfl ?_
  refine ⟨[], false, _, _, impl_TreeOk sh xs hl, List.nodup_nil, rfl, rfl, trivial, fun h1 => ?_, fun h1 => ?_⟩
  · have ht := (treeB_iff xs).1 h1
    refine ⟨xs.length, xs.length, rfl, rfl, Nat.le_refl _, by omega, ?_⟩
    refine ⟨Nat, fun k => ⟨[(0, .d sh (.sl .int) xs), (3, I (htS xs k).2), (4, .ow 0), (13, .d sh (.sl .int) xs), (14, I xs.length), (15, I (k : Nat))], [.sl 3 .int (htS xs k).1]⟩, fun k => k ≤ xs.length, fun k => xs.length - k, 0, Nat.zero_le _,
      ⟨⟨rfl, rfl⟩, ⟨rfl, rfl, rfl, rfl, rfl, rfl, trivial⟩, rfl, trivial⟩, fun k hk => ?_⟩
    dsimp only at hk
    refine ⟨fun h2 => ?_, fun h2 => ?_⟩
    · have hk2 : k < xs.length := by omega
      clear h2
      refine ⟨k, rfl, by omega, fun h3 => ?_, fun h3 => ?_⟩
      · have hk3 : 0 < k := by omega
        have hx := ht.2.2 k (by omega) hk2
        have hb := htS_b xs k (xs.getD k 0).toNat
        have hn := htS_len xs k
        have hl2 : ((htS xs k).1.set k ((htS xs k).1.getD (xs.getD k 0).toNat 0 + 1)).length = xs.length := by rw [List.length_set, hn]
        refine ⟨(xs.getD k 0).toNat, (Int.toNat_of_nonneg hx.1).symm, by rw [hn]; omega, ?_⟩
        refine ⟨_, w64_in _ (by omega) (by omega), k, rfl, by omega, ?_⟩
        refine ⟨k, rfl, by omega, ?_⟩
        exact ⟨_, w64_in _ (by omega) (by omega), k + 1, by dsimp only; omega, by dsimp only; omega, ⟨rfl, rfl⟩, ⟨rfl, retI (by rw [htS_s _ _ hk3, L_set_self _ _ _ _ (by rw [hn]; exact hk2)]; rfl), rfl, rfl, rfl, rfl, trivial⟩, rowE (by rw [htS_s _ _ hk3]), trivial⟩
      · obtain rfl : k = 0 := by omega
        refine ⟨0, rfl, by rw [htS_len]; omega, ?_⟩
        exact ⟨_, w64_in _ (by omega) (by omega), 1, by dsimp only; omega, by dsimp only; omega, ⟨rfl, rfl⟩, ⟨rfl, retI (by rw [htS_0, htS, rep_getD]; rfl), rfl, rfl, rfl, rfl, trivial⟩, rfl, trivial⟩
    · obtain rfl : k = xs.length := by omega
      exact ⟨none, ⟨retI (by rw [heightV, if_pos h1]), trivial⟩, rfl, rfl⟩
  · exact ⟨none, ⟨retI (by rw [heightV, if_neg (by rw [h1]; decide)]), trivial⟩, rfl, rfl⟩
end Go.Proofs.Ytcamhpknmbohnaa
