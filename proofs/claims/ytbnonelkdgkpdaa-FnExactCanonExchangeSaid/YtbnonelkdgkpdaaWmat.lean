/-
  Contracts of small functions on lists of lists of integers that many statements use.
-/
import Derived.Test.YtbnonelkdgkpdaaWcom
set_option linter.unusedVariables false
namespace Go.Proofs.Ytbnonelkdgkpdaa
open Go Go.Proofs.Ytbnonelkdgkpdaa.Ow
/-- the lengths of the first k lists, summed -/
def tot (xss : List (List Int)) : Nat → Nat
  | 0 => 0
  | k + 1 => tot xss k + (xss.getD k []).length
theorem tot_le (xss : List (List Int)) (k : Nat) : ∀ n, k ≤ n → tot xss k ≤ tot xss n
  | 0, h => by obtain rfl : k = 0 := by omega
               exact Nat.le_refl _
  | n + 1, h => by
    by_cases e : k = n + 1
    · subst e; exact Nat.le_refl _
    · exact Nat.le_trans (tot_le xss k n (by omega)) (Nat.le_add_right _ _)
def szR (xss : List (List Int)) (l : Int) : Int := if (xss.length : Int) + (tot xss xss.length : Nat) ≤ l then l - (xss.length : Nat) - (tot xss xss.length : Nat) else -1
/-- the lengths are those of slices -/
def Lens (xss : List (List Int)) : Prop := xss.length ≤ 9223372036854775807 ∧ ∀ i, i < xss.length → (xss.getD i []).length ≤ 9223372036854775807
theorem ext2 {xss yss : List (List Int)} (hl : yss.length = xss.length) (h : ∀ j, j < yss.length → yss.getD j [] = xss.getD j []) : yss = xss := ext_getD [] hl h
/-- laws.szIntS -/
theorem laws_szIntS (sh : Bool) (xs : List Int) (l : Int) (hl : xs.length ≤ 9223372036854775807) (h0 : 0 ≤ l) (h1 : l ≤ 1048576) : AC Try.prog 72 [.d sh (.sl .int) xs, I l] [] [I (if (xs.length : Int) ≤ l then l - (xs.length : Nat) else -1)] [] := by
  refine AC_of tauOk 12 0 [4] Try.func72 rfl (by kernel_rfl) rfl rfl rfl rfl rfl ?_
  refine ⟨_, w64_in _ (by omega) (by omega), fun h2 => ?_, fun h2 => ?_⟩
  · exact ⟨none, ⟨retI (by rw [if_neg (by omega)]), trivial⟩, rfl, rfl⟩
  · exact ⟨none, ⟨retI (by rw [if_pos (by omega)]), trivial⟩, rfl, rfl⟩
/-- laws.szIntSS -/
theorem laws_szIntSS (sh : Bool) (xss : List (List Int)) (l : Int) (hl : Lens xss) (h0 : 0 ≤ l) (h1 : l ≤ 1048576) : AC Try.prog 27 [.d sh (.sl (.sl .int)) xss, I l] [] [I (szR xss l)] [] := by
  have hl0 := hl.1
  refine AC_of tauOk 27 0 [4] Try.func27 rfl (by kernel_rfl) rfl rfl rfl rfl rfl ?_
  refine ⟨_, w64_in _ (by omega) (by omega), fun h2 => ?_, fun h2 => ?_⟩
  · exact ⟨none, ⟨retI (by rw [szR, if_neg (by omega)]), trivial⟩, rfl, rfl⟩
  refine ⟨Nat, fun k => ⟨[(0, .d sh (.sl (.sl .int)) xss), (1, I (l - (xss.length : Nat) - (tot xss k : Nat))), (5, I (k : Nat))], []⟩, fun k => k ≤ xss.length ∧ 0 ≤ l - (xss.length : Nat) - (tot xss k : Nat), fun k => xss.length - k, 0, ⟨Nat.zero_le _, by simp only [tot]; omega⟩,
    ⟨⟨rfl, rfl⟩, ⟨rfl, retI (by simp only [tot]; omega), rfl, trivial⟩, trivial⟩, fun k ⟨hk, hk0⟩ => ?_⟩
  try dsimp only at hk hk0
  refine ⟨fun h3 => ?_, fun h3 => ?_⟩
  · have hk2 : k < xss.length := by omega
    have ht := tot_le xss (k + 1) xss.length hk2
    have ht2 : tot xss (k + 1) = tot xss k + (xss.getD k []).length := rfl
    refine ⟨k, rfl, hk2, ?_⟩
    refine ⟨[], false, _, _, laws_szIntS sh (xss.getD k []) _ (hl.2 k hk2) hk0 (by omega), List.nodup_nil, rfl, rfl, trivial, fun h4 => ?_, fun h4 => ?_⟩
    · exact ⟨none, ⟨retI (by rw [szR, if_neg]; intro h5; rw [if_pos (by omega)] at h4; omega), trivial⟩, rfl, rfl⟩
    · have h5 : ((xss.getD k []).length : Int) ≤ l - (xss.length : Nat) - (tot xss k : Nat) := by
        apply Classical.byContradiction
        intro h5
        rw [if_neg h5] at h4
        omega
      refine ⟨((k + 1 : Nat) : Int), w64_eq (by omega) (by omega) (by omega), ?_⟩
      exact ⟨k + 1, ⟨by omega, by omega⟩, by dsimp only; omega, ⟨rfl, rfl⟩, ⟨rfl, retI (by rw [if_pos h5]; omega), rfl, trivial⟩, trivial⟩
  · obtain rfl : k = xss.length := by omega
    exact ⟨none, ⟨retI (by rw [szR, if_pos (by omega)]), trivial⟩, rfl, rfl⟩
/-- the lists are short -/
def Short (xss : List (List Int)) : Prop := xss.length ≤ 1048576 ∧ ∀ i, i < xss.length → (xss.getD i []).length ≤ 1048576
theorem short_of {xss : List (List Int)} (h : 0 ≤ szR xss 1048576) : Short xss := by
  unfold szR at h
  split at h
  · rename_i h1
    refine ⟨by omega, fun i hi => ?_⟩
    have ht := tot_le xss (i + 1) xss.length hi
    have ht2 : tot xss (i + 1) = tot xss i + (xss.getD i []).length := rfl
    omega
  · omega
/-- laws.toIntSS -/
theorem laws_toIntSS (sh : Bool) (xss : List (List Int)) (hs : Short xss) : AC Try.prog 29 [.d sh (.sl (.sl .int)) xss] [] [.ow 0] [.sl 25 (.sl .int) xss] := by
  have hl := hs.1
  refine AC_of tauOk 23 0 [2] Try.func29 rfl (by kernel_rfl) rfl rfl rfl rfl rfl ?_
  refine ⟨xss.length, xss.length, rfl, rfl, Nat.le_refl _, by omega, ?_⟩
  refine ⟨Nat × List (List Int), fun i => ⟨[(0, .d sh (.sl (.sl .int)) xss), (3, .ow 0), (4, I (i.1 : Nat))], [.sl 25 (.sl .int) i.2]⟩, fun i => i.1 ≤ xss.length ∧ i.2.length = xss.length ∧ ∀ j, j < i.1 → i.2.getD j [] = xss.getD j [], fun i => xss.length - i.1, (0, _), ?inv,
    ⟨⟨rfl, rfl⟩, ⟨rfl, rfl, rfl, trivial⟩, rfl, trivial⟩, ?round⟩
  case inv => exact ⟨by omega, List.length_replicate .., fun j hj => by omega⟩
  rintro ⟨k, ys⟩ ⟨hk, hyl, hy⟩
  dsimp only at hk hyl hy
  refine ⟨fun h1 => ?_, fun h1 => ?_⟩
  · dsimp only at h1
    have hk2 : k < xss.length := by omega
    refine ⟨k, rfl, hk2, [], true, _, _, laws_toIntS sh (xss.getD k []) (hs.2 k hk2), List.nodup_nil, rfl, rfl, trivial, k, rfl, by dsimp only; omega, ?_⟩
    refine ⟨_, w64_in _ (by dsimp only; omega) (by dsimp only; omega), ?_⟩
    refine ⟨(k + 1, _), ?inv, by dsimp only; omega, ⟨rfl, rfl⟩, ⟨rfl, rfl, rfl, trivial⟩, rfl, trivial⟩
    refine ⟨by dsimp only; omega, (List.length_set ..).trans hyl, fun j hj => ?_⟩
    dsimp only at hj ⊢
    by_cases e : k = j
    · subst e; exact L_set_self _ _ _ _ (by omega)
    · exact (L_set_ne _ _ _ _ _ e).trans (hy j (by omega))
  · dsimp only at h1
    exact ⟨some 0, ⟨⟨rfl, rfl⟩, trivial⟩, ⟨rfl, rowsE (ext2 hyl (fun j hj => hy j (by dsimp only at hj; omega)))⟩, rfl⟩
/-- laws.eqIntSS of equal lists -/
theorem laws_eqIntSS (s1 s2 : Bool) (xss : List (List Int)) (hs : Short xss) : AC Try.prog 32 [.d s1 (.sl (.sl .int)) xss, .d s2 (.sl (.sl .int)) xss] [] [.d true .bool true] [] := by
  have hl := hs.1
  refine AC_of tauOk 27 0 [4] Try.func32 rfl (by kernel_rfl) rfl rfl rfl rfl rfl ?_
  refine ⟨fun h1 => (h1 rfl).elim, fun h1 => ?_⟩
  refine ⟨Nat, fun k => ⟨[(0, .d s1 (.sl (.sl .int)) xss), (1, .d s2 (.sl (.sl .int)) xss), (5, I (k : Nat))], []⟩, fun k => k ≤ xss.length, fun k => xss.length - k, 0, Nat.zero_le _,
    ⟨⟨rfl, rfl⟩, ⟨rfl, rfl, rfl, trivial⟩, trivial⟩, fun k hk => ?_⟩
  dsimp only at hk
  refine ⟨fun h1 => ?_, fun h1 => ?_⟩
  · have hk2 : k < xss.length := by omega
    refine ⟨none, by kernel_rfl, k, rfl, hk2, k, rfl, hk2, ?_⟩
    refine ⟨_, _, laws_eqIntS s1 s2 (xss.getD k []) (xss.getD k []) (hs.2 k hk2) (hs.2 k hk2), rfl, fun h2 => ?_, fun h2 => by simp at h2⟩
    exact ⟨((k + 1 : Nat) : Int), w64_eq (by omega) (by omega) (by omega), k + 1, by dsimp only; omega, by dsimp only; omega, ⟨rfl, rfl⟩, ⟨rfl, rfl, rfl, trivial⟩, trivial⟩
  · exact ⟨none, ⟨rfl, trivial⟩, rfl, rfl⟩
end Go.Proofs.Ytbnonelkdgkpdaa
