/-
  Contracts of small functions that many statements use: what each returns and leaves, for all arguments of at most 2^20 elements.
-/
import Derived.Test.YtbnonelkdgkpdaaPls
import Derived.Test.YtbnonelkdgkpdaaTy
set_option linter.unusedVariables false
namespace Go.Proofs.Ytbnonelkdgkpdaa
open Go Go.Proofs.Ytbnonelkdgkpdaa.Ow
/-- spec.l01In -/
theorem spec_l01In (n lo hi : Int) : AC Try.prog 100 [.d true .int n, .d true .int lo, .d true .int hi] [] [.d true .bool (decide (lo ≤ n) && decide (n ≤ hi))] [] := by
  refine AC_of tauOk 15 0 [6] Try.func100 rfl (by kernel_rfl) rfl rfl rfl rfl rfl ?_
  refine ⟨fun h1 => ?_, fun h1 => ?_⟩
  · refine ⟨fun h2 => ?_, fun h2 => ?_⟩
    · exact ⟨none, ⟨retB (by simp; omega), trivial⟩, rfl, rfl⟩
    · exact ⟨none, ⟨retB (by simp; omega), trivial⟩, rfl, rfl⟩
  · exact ⟨none, ⟨retB (by simp; omega), trivial⟩, rfl, rfl⟩

/-- laws.toIntS -/
theorem laws_toIntS (sh : Bool) (xs : List Int) (hl : xs.length ≤ 1048576) : AC Try.prog 30 [.d sh (.sl .int) xs] [] [.ow 0] [.sl 3 .int xs] := by
  refine AC_of tauOk 22 0 [2] Try.func30 rfl (by kernel_rfl) rfl rfl rfl rfl rfl ?_
  refine ⟨xs.length, xs.length, rfl, rfl, Nat.le_refl _, by omega, ?_⟩
  refine ⟨Nat × List Int, fun i => ⟨[(0, .d sh (.sl .int) xs), (3, .ow 0), (4, I (i.1 : Nat))], [.sl 3 .int i.2]⟩, fun i => i.1 ≤ xs.length ∧ i.2.length = xs.length ∧ ∀ j, j < i.1 → i.2.getD j 0 = xs.getD j 0, fun i => xs.length - i.1, (0, _), ?inv,
    ⟨⟨rfl, rfl⟩, ⟨rfl, rfl, rfl, trivial⟩, rfl, trivial⟩, ?round⟩
  case inv => exact ⟨by omega, by simp, fun j hj => by omega⟩
  rintro ⟨k, ys⟩ ⟨hk, hyl, hy⟩
  dsimp only at hk hyl hy
  refine ⟨fun h1 => ?_, fun h1 => ?_⟩
  · dsimp only at h1
    refine ⟨k, rfl, by omega, k, rfl, by dsimp only; omega, ?_⟩
    refine ⟨_, w64_in _ (by dsimp only; omega) (by dsimp only; omega), ?_⟩
    refine ⟨(k + 1, _), ?inv, by dsimp only; omega, ⟨rfl, rfl⟩, ⟨rfl, rfl, rfl, trivial⟩, rfl, trivial⟩
    refine ⟨by dsimp only; omega, by dsimp only; simp [hyl], fun j hj => ?_⟩
    dsimp only at hj ⊢
    by_cases e : k = j
    · subst e; rw [L_set_self _ _ _ _ (by omega)]
    · rw [L_set_ne _ _ _ _ _ e]; exact hy j (by omega)
  · dsimp only at h1
    exact ⟨some 0, ⟨⟨rfl, rfl⟩, trivial⟩, ⟨rfl, rowsE (ext_getD 0 hyl (fun j hj => hy j (by dsimp only at hj; omega)))⟩, rfl⟩

/-- laws.eqIntS -/
theorem laws_eqIntS (s1 s2 : Bool) (xs ys : List Int) (hl : xs.length ≤ 1048576) (hl2 : ys.length ≤ 1048576) : AC Try.prog 31 [.d s1 (.sl .int) xs, .d s2 (.sl .int) ys] [] [.d true .bool (decide (xs = ys))] [] := by
  refine AC_of tauOk 26 0 [4] Try.func31 rfl (by kernel_rfl) rfl rfl rfl rfl rfl ?_
  refine ⟨fun h1 => ?_, fun h1 => ?_⟩
  · exact ⟨none, ⟨retB (by rw [decide_eq_false]; intro e; subst e; exact h1 rfl), trivial⟩, rfl, rfl⟩
  refine ⟨Nat, fun k => ⟨[(0, .d s1 (.sl .int) xs), (1, .d s2 (.sl .int) ys), (5, I (k : Nat))], []⟩, fun k => k ≤ xs.length ∧ ∀ j, j < k → xs.getD j 0 = ys.getD j 0, fun k => xs.length - k, 0, ⟨by omega, fun j hj => by omega⟩,
    ⟨⟨rfl, rfl⟩, ⟨rfl, rfl, rfl, trivial⟩, trivial⟩, fun k ⟨hk, hy⟩ => ?_⟩
  have hll : xs.length = ys.length := by omega
  refine ⟨fun h1 => ?_, fun h1 => ?_⟩
  · refine ⟨none, by kernel_rfl, k, rfl, by omega, k, rfl, by omega, ?_⟩
    refine ⟨fun h2 => ?_, fun h2 => ?_⟩
    · exact ⟨none, ⟨retB (by rw [decide_eq_false]; intro e; subst e; exact h2 rfl), trivial⟩, rfl, rfl⟩
    · refine ⟨_, w64_in _ (by omega) (by omega), ?_⟩
      refine ⟨k + 1, ⟨by omega, fun j hj => ?_⟩, by dsimp only; omega, ⟨rfl, rfl⟩, ⟨rfl, rfl, rfl, trivial⟩, trivial⟩
      by_cases e : j = k
      · subst e; omega
      · exact hy j (by omega)
  · exact ⟨none, ⟨retB (by rw [decide_eq_true]; exact ext_getD 0 hll (fun j hj => hy j (by omega))), trivial⟩, rfl, rfl⟩

theorem laws_eqIntS_nil : AC Try.prog 31 [.nil, .nil] [] [.d true .bool true] [] :=
  (laws_eqIntS true true [] [] (by decide) (by decide)).weak fun w bs A vs => by
    rintro ⟨v, r, rfl, h1, v2, r2, rfl, h2, h3⟩
    exact ⟨v, _, rfl, V_nil h1, v2, r2, rfl, V_nil h2, h3⟩

/-- laws.markIntS -/
theorem laws_markIntS (xs : List Int) (z : Int) (hl : xs.length ≤ 1048576) (h0 : 0 ≤ z) (h1 : z ≤ 1099511627776) : AC Try.prog 34 [.ow 0, I z] [.sl 3 .int xs] [I (z + xs.length)] [.sl 3 .int (marks z xs.length)] := by
  refine AC_of tauOk 19 1 [4] Try.func34 rfl (by kernel_rfl) rfl rfl rfl rfl rfl ?_
  refine ⟨Nat × List Int, fun i => ⟨[(0, .ow 0), (1, I (z + (i.1 : Nat))), (5, I (i.1 : Nat))], [.sl 3 .int i.2]⟩, fun i => i.1 ≤ xs.length ∧ i.2.length = xs.length ∧ ∀ j, j < i.1 → i.2.getD j 0 = z + (j : Int), fun i => xs.length - i.1, (0, xs), ⟨by omega, rfl, fun j hj => by omega⟩,
    ⟨⟨rfl, rfl⟩, ⟨rfl, retI (by dsimp only; omega), rfl, trivial⟩, rfl, trivial⟩, ?_⟩
  rintro ⟨k, ys⟩ ⟨hk, hyl, hy⟩
  dsimp only at hk hyl hy
  refine ⟨fun h2 => ?_, fun h2 => ?_⟩
  · dsimp only at h2
    refine ⟨k, rfl, by dsimp only; omega, ?_⟩
    refine ⟨z + ((k + 1 : Nat) : Int), w64_eq (by dsimp only; omega) (by omega) (by omega), ?_⟩
    refine ⟨((k + 1 : Nat) : Int), w64_eq (by dsimp only; omega) (by omega) (by omega), ?_⟩
    refine ⟨(k + 1, _), ⟨by dsimp only; omega, by dsimp only; simp [hyl], fun j hj => ?_⟩, by dsimp only; omega, ⟨rfl, rfl⟩, ⟨rfl, rfl, rfl, trivial⟩, rfl, trivial⟩
    dsimp only at hj ⊢
    by_cases e : k = j
    · subst e; rw [L_set_self _ _ _ _ (by omega)]
    · rw [L_set_ne _ _ _ _ _ e]; exact hy j (by omega)
  · dsimp only at h2
    have e : k = xs.length := by omega
    subst e
    exact ⟨none, ⟨rfl, trivial⟩, rowsE (ext_getD (l := ys) 0 (by rw [hyl, marks_len]) (fun j hj => by rw [hy j (by omega), marks_get _ _ _ (by omega)])), rfl⟩

theorem laws_markIntS_nil (z : Int) (h0 : 0 ≤ z) (h1 : z ≤ 1099511627776) : AC Try.prog 34 [.nil, I z] [] [I z] [] := by
  refine AC_of tauOk 19 0 [4] Try.func34 rfl (by kernel_rfl) rfl rfl rfl rfl rfl ?_
  refine ⟨Nat, fun i => ⟨[(0, .nil), (1, I z), (5, I (i : Nat))], []⟩, fun i => i = 0, fun i => 0, 0, rfl,
    ⟨⟨rfl, rfl⟩, ⟨rfl, rfl, rfl, trivial⟩, trivial⟩, ?_⟩
  rintro k rfl
  refine ⟨fun h2 => by simp at h2, fun h2 => ?_⟩
  exact ⟨none, ⟨rfl, trivial⟩, rfl, rfl⟩

/-- laws.heldIntS of the marks -/
theorem laws_heldIntS (sh : Bool) (n : Nat) (z : Int) (hl : n ≤ 1048576) (h0 : 0 ≤ z) (h1 : z ≤ 1099511627776) : AC Try.prog 35 [.d sh (.sl .int) (marks z n), I z] [] [I (z + n)] [] := by
  have hn := marks_len z n
  have hg := marks_get z n
  refine AC_of tauOk 21 0 [4] Try.func35 rfl (by kernel_rfl) rfl rfl rfl rfl rfl ?_
  refine ⟨Nat, fun i => ⟨[(0, .d sh (.sl .int) (marks z n)), (1, I (z + (i : Nat))), (5, I (i : Nat))], []⟩, fun i => i ≤ n, fun i => n - i, 0, Nat.zero_le _,
    ⟨⟨rfl, rfl⟩, ⟨rfl, retI (by omega), rfl, trivial⟩, trivial⟩, ?_⟩
  intro k hk
  refine ⟨fun h2 => ?_, fun h2 => ?_⟩
  · have hk2 : k < n := by omega
    refine ⟨k, rfl, by omega, fun h3 => (h3 (hg k hk2)).elim, fun h3 => ?_⟩
    refine ⟨z + ((k + 1 : Nat) : Int), w64_eq (by omega) (by omega) (by omega), ?_⟩
    exact ⟨((k + 1 : Nat) : Int), w64_eq (by omega) (by omega) (by omega), k + 1, by dsimp only; omega, by dsimp only; omega, ⟨rfl, rfl⟩, ⟨rfl, rfl, rfl, trivial⟩, trivial⟩
  · have e : k = n := by omega
    subst e
    exact ⟨none, ⟨rfl, trivial⟩, rfl, rfl⟩
theorem laws_heldIntS_nil (z : Int) (h0 : 0 ≤ z) (h1 : z ≤ 1099511627776) : AC Try.prog 35 [.nil, I z] [] [I z] [] := by
  have h := (laws_heldIntS true 0 z (by decide) h0 h1).weak (args := [.nil, I z]) fun w bs A vs => by
    rintro ⟨v, r, rfl, h1, h2⟩
    exact ⟨v, _, rfl, V_nil h1, h2⟩
  rwa [show z + ((0 : Nat) : Int) = z by omega] at h

end Go.Proofs.Ytbnonelkdgkpdaa
