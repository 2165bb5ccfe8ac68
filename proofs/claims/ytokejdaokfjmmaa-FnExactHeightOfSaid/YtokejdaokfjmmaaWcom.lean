/-
  Contracts of small functions that many statements use: what each returns and leaves, for all arguments of at most 2^20 elements.
-/
import Derived.Test.YtokejdaokfjmmaaTy
set_option linter.unusedVariables false
namespace Go.Proofs.Ytokejdaokfjmmaa
open Go Go.Proofs.Ytokejdaokfjmmaa.Ow
/-- spec.l01In -/
theorem spec_l01In (n lo hi : Int) : AC Try.prog 42 [.d true .int n, .d true .int lo, .d true .int hi] [] [.d true .bool (decide (lo ≤ n) && decide (n ≤ hi))] [] := by
  refine AC_of tauOk 15 0 [6] Try.func42 rfl (by kernel_rfl) rfl rfl rfl rfl rfl ?_
  refine ⟨fun h1 => ?_, fun h1 => ?_⟩
  · refine ⟨fun h2 => ?_, fun h2 => ?_⟩
    · exact ⟨none, ⟨retB (by simp; omega), trivial⟩, rfl, rfl⟩
    · exact ⟨none, ⟨retB (by simp; omega), trivial⟩, rfl, rfl⟩
  · exact ⟨none, ⟨retB (by simp; omega), trivial⟩, rfl, rfl⟩

/-- laws.toIntS -/
theorem laws_toIntS (sh : Bool) (xs : List Int) (hl : xs.length ≤ 1048576) : AC Try.prog 20 [.d sh (.sl .int) xs] [] [.ow 0] [.sl 3 .int xs] := by
  refine AC_of tauOk 22 0 [2] Try.func20 rfl (by kernel_rfl) rfl rfl rfl rfl rfl ?_
  refine ⟨xs.length, xs.length, rfl, rfl, Nat.le_refl _, by omega, ?_⟩
  refine ⟨Nat × List Int, fun i => ⟨[(0, .d sh (.sl .int) xs), (3, .ow 0), (4, I (i.1 : Nat))], [.sl 3 .int i.2]⟩, fun i => i.1 ≤ xs.length ∧ i.2.length = xs.length ∧ ∀ j, j < i.1 → i.2.getD j 0 = xs.getD j 0, fun i => xs.length - i.1, (0, _), ?inv,
    ⟨⟨rfl, rfl⟩, ⟨rfl, rfl, rfl, trivial⟩, rfl, trivial⟩, ?round⟩
  case inv => exact ⟨by omega, by simp, fun j hj => by omega⟩
  rintro ⟨k, ys⟩ ⟨hk, hyl, hy⟩
  dsimp only at hk hyl hy
  refine ⟨fun h1 => ?_, fun h1 => ?_⟩
  · dsimp only at h1
    refine ⟨k, rfl, by omega, k, rfl, by dsimp only; omega, ?_⟩
    refine ⟨_, w64_in _ (by dsimp only; omega) (by dsimp only; omega), ?_⟩
    refine ⟨(k + 1, _), ?inv, by dsimp only; omega, ⟨rfl, rfl⟩, ⟨rfl, rfl, rfl, trivial⟩, rfl, trivial⟩
    refine ⟨by dsimp only; omega, by dsimp only; simp [hyl], fun j hj => ?_⟩
    dsimp only at hj ⊢
    by_cases e : k = j
    · subst e; rw [L_set_self _ _ _ _ (by omega)]
    · rw [L_set_ne _ _ _ _ _ e]; exact hy j (by omega)
  · dsimp only at h1
    exact ⟨some 0, ⟨⟨rfl, rfl⟩, trivial⟩, ⟨rfl, rowsE (ext_getD 0 hyl (fun j hj => hy j (by dsimp only at hj; omega)))⟩, rfl⟩

/-- laws.eqIntS -/
theorem laws_eqIntS (s1 s2 : Bool) (xs ys : List Int) (hl : xs.length ≤ 1048576) (hl2 : ys.length ≤ 1048576) : AC Try.prog 22 [.d s1 (.sl .int) xs, .d s2 (.sl .int) ys] [] [.d true .bool (decide (xs = ys))] [] := by
  refine AC_of tauOk 26 0 [4] Try.func22 rfl (by kernel_rfl) rfl rfl rfl rfl rfl ?_
  refine ⟨fun h1 => ?_, fun h1 => ?_⟩
  · exact ⟨none, ⟨retB (by rw [decide_eq_false]; intro e; subst e; exact h1 rfl), trivial⟩, rfl, rfl⟩
  refine ⟨Nat, fun k => ⟨[(0, .d s1 (.sl .int) xs), (1, .d s2 (.sl .int) ys), (5, I (k : Nat))], []⟩, fun k => k ≤ xs.length ∧ ∀ j, j < k → xs.getD j 0 = ys.getD j 0, fun k => xs.length - k, 0, ⟨by omega, fun j hj => by omega⟩,
    ⟨⟨rfl, rfl⟩, ⟨rfl, rfl, rfl, trivial⟩, trivial⟩, fun k ⟨hk, hy⟩ => ?_⟩
  have hll : xs.length = ys.length := by omega
  refine ⟨fun h1 => ?_, fun h1 => ?_⟩
  · refine ⟨none, by kernel_rfl, k, rfl, by omega, k, rfl, by omega, ?_⟩
    refine ⟨fun h2 => ?_, fun h2 => ?_⟩
    · exact ⟨none, ⟨retB (by rw [decide_eq_false]; intro e; subst e; exact h2 rfl), trivial⟩, rfl, rfl⟩
    · refine ⟨_, w64_in _ (by omega) (by omega), ?_⟩
      refine ⟨k + 1, ⟨by omega, fun j hj => ?_⟩, by dsimp only; omega, ⟨rfl, rfl⟩, ⟨rfl, rfl, rfl, trivial⟩, trivial⟩
      by_cases e : j = k
      · subst e; omega
      · exact hy j (by omega)
  · exact ⟨none, ⟨retB (by rw [decide_eq_true]; exact ext_getD 0 hll (fun j hj => hy j (by omega))), trivial⟩, rfl, rfl⟩

end Go.Proofs.Ytokejdaokfjmmaa
