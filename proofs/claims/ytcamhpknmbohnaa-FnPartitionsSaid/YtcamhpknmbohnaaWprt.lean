/-
  FnPartitions: divisions into parts are counted by exchanged colors, and follow the known recursion.
-/
import Derived.Test.YtcamhpknmbohnaaWcex
import Derived.Test.YtcamhpknmbohnaaWcur
import Derived.Test.YtcamhpknmbohnaaPlL
set_option linter.unusedVariables false
namespace Go.Proofs.Ytcamhpknmbohnaa
open Go Go.Proofs.Ytcamhpknmbohnaa.Ow
theorem cpt_known (n : Nat) (h1 : 1 ≤ n) (hn : n < 10) (k : Nat) (hk : k < 4) : cptI (n : Nat) ((k + 1 : Nat) : Int) = sumR (rowF n) (k + 1) := by
  have h := part_all n hn h1
  have hg : gokB [idL n] = true := by
    have h0 := h.1
    unfold gokId at h0
    rw [Bool.and_eq_true] at h0
    refine (gokB_iff _).2 ⟨Nat.le_refl _, by show 1 ≤ 120; omega, fun i hi => ?_, fun i hi j hj => ?_⟩
    · have hi : i < 1 := hi
      obtain rfl : i = 0 := by omega
      exact gok1_of h0.1 rfl (.inl rfl)
    · have hi : i < 1 := hi
      have hj : j < 1 := hj
      obtain rfl : i = 0 := by omega
      obtain rfl : j = 0 := by omega
      exact h0.2
  unfold cptI
  rw [if_pos (by omega), Int.toNat_natCast]
  unfold cexI
  rw [if_pos ⟨hg, by omega, by omega⟩, Int.toNat_natCast, ← h.2 k hk]
  unfold idSum
  show ((sumG [idL n] (symL (k + 1)) 1 / (1 * (symL (k + 1)).length) : Nat) : Int) = _
  rw [Nat.one_mul]
theorem dec9 (code : List Int) : ∃ n : Nat, 1 + (mkNum code 1).tmod 9 = n ∧ 1 ≤ n ∧ n < 10 := by
  have hb := mkNum_b code 1
  have ht := Int.tmod_nonneg 9 hb.1
  have ht2 := Int.tmod_lt_of_pos (mkNum code 1) (by decide : (0 : Int) < 9)
  exact ⟨(1 + (mkNum code 1).tmod 9).toNat, by omega, by omega, by omega⟩
theorem sumR_b (n : Nat) (hn : n < 10) (k : Nat) (hk : k ≤ 4) : 0 ≤ sumR (rowF n) k ∧ sumR (rowF n) k ≤ k * 1000000 := by
  have h := (rowK_b n hn 0 (by decide)).2
  have h : ∀ c, c < 5 → 0 ≤ (rowF n).getD c 0 ∧ (rowF n).getD c 0 ≤ 1000000 := h
  induction k with
  | zero => exact ⟨Int.le_refl _, Int.le_refl _⟩
  | succ k ih =>
    have := ih (by omega)
    have := h (k + 1) (by omega)
    rw [sumR]; omega
/-- laws.FnPartitions -/
theorem laws_FnPartitions (code : List Int) : AC Try.prog 6 [.d true (.sl .u8) code] [] [.d true .bool true] [] := by
  obtain ⟨n, hn, hn1, hn9⟩ := dec9 code
  have hb1 := mkNum_b code 1
  refine AC_of tauOk 61 0 [2] Try.func6 rfl (by kernel_rfl) rfl rfl rfl rfl rfl ?_
  refine ⟨fun h1 => ?_, fun h1 => ?_⟩
  · exact ⟨none, ⟨rfl, trivial⟩, rfl, rfl⟩
  have hl : code.length ≤ 1048576 := by omega
  refine ⟨[], false, _, _, spec_MakeNum code hl 1 (by decide), List.nodup_nil, rfl, rfl, trivial, ?_⟩
  refine ⟨by decide, _, rfl, (n : Int), w64_eq hn.symm (by omega) (by omega), ?_⟩
  refine ⟨rfl, by decide, true, ?_⟩
  refine ⟨Nat, fun i => ⟨[(3, I (n : Nat)), (4, .ow 0), (5, I (i : Nat))], [.sl 3 .int (rowF i)]⟩, fun i => i ≤ n, fun i => n - i, 0, Nat.zero_le _,
    ⟨⟨rfl, rfl⟩, ⟨rfl, rfl, rfl, trivial⟩, rfl, trivial⟩, fun i hi => ?_⟩
  dsimp only at hi
  refine ⟨fun h2 => ?_, fun h2 => ?_⟩
  · have hb := rowK_b i (by omega)
    refine ⟨Nat, fun j => ⟨[(3, I (n : Nat)), (4, .ow 0), (5, I (i : Nat)), (6, I (4 - j : Nat))], [.sl 3 .int (rowK (rowF i) j)]⟩, fun j => j ≤ 4, fun j => 4 - j, 0, Nat.zero_le _,
      ⟨⟨rfl, rfl⟩, ⟨rfl, rfl, rfl, rfl, trivial⟩, rfl, trivial⟩, fun j hj => ?_⟩
    dsimp only at hj
    have hbj := hb j (by omega)
    refine ⟨fun h3 => ?_, fun h3 => ?_⟩
    · have b1 := hbj.2 (4 - j) (by omega)
      have b2 := hbj.2 (3 - j) (by omega)
      have b3 : ((4 - j : Nat) : Int) * (rowK (rowF i) j).getD (4 - j) 0 ≤ 4 * 1000000 := Int.mul_le_mul (by omega) b1.2 b1.1 (by omega)
      have b4 : 0 ≤ ((4 - j : Nat) : Int) * (rowK (rowF i) j).getD (4 - j) 0 := Int.mul_nonneg (by omega) b1.1
      refine ⟨some 15, by kernel_rfl, 4 - j, rfl, by omega, ((4 - j : Nat) : Int) * (rowK (rowF i) j).getD (4 - j) 0, w64_eq rfl (by omega) (by omega), ((3 - j : Nat) : Int), w64_eq (by omega) (by omega) (by omega), 3 - j, rfl, by omega, ((4 - j : Nat) : Int) * (rowK (rowF i) j).getD (4 - j) 0 + (rowK (rowF i) j).getD (3 - j) 0, w64_eq rfl (by omega) (by omega), 4 - j, rfl, by omega, ?_⟩
      exact ⟨((4 - (j + 1) : Nat) : Int), w64_eq (by omega) (by omega) (by omega), j + 1, by dsimp only; omega, by dsimp only; omega, ⟨rfl, rfl⟩, ⟨rfl, rfl, rfl, rfl, trivial⟩, rfl, trivial⟩
    · obtain rfl : j = 4 := by omega
      refine ⟨0, rfl, by omega, ?_⟩
      exact ⟨((i + 1 : Nat) : Int), w64_eq (by omega) (by omega) (by omega), i + 1, by dsimp only; omega, by dsimp only; omega, ⟨rfl, rfl⟩, ⟨rfl, rfl, rfl, trivial⟩, rfl, trivial⟩
  · obtain rfl : i = n := by omega
    have hrl : (rowF i).length = 5 := (rowK_b i hn9 0 (by decide)).1
    have hsb := sumR_b i hn9
    refine ⟨Nat, fun k => ⟨[(3, I (i : Nat)), (4, .ow 0), (7, I (sumR (rowF i) k)), (8, I (k + 1 : Nat))], [.sl 3 .int (rowF i)]⟩, fun k => k ≤ 4, fun k => 4 - k, 0, Nat.zero_le _,
      ⟨⟨rfl, rfl⟩, ⟨rfl, rfl, rfl, rfl, trivial⟩, rfl, trivial⟩, fun k hk => ?_⟩
    dsimp only at hk
    have hk0 := hsb k hk
    refine ⟨fun h3 => ?_, fun h3 => ?_⟩
    · have hk1 := hsb (k + 1) (by omega)
      refine ⟨k + 1, rfl, by omega, sumR (rowF i) (k + 1), w64_eq rfl (by omega) (by omega), ?_⟩
      refine ⟨[], false, _, _, impl_CountPartitions (i : Nat) ((k + 1 : Nat) : Int), List.nodup_nil, rfl, rfl, trivial, fun h4 => (h4 (cpt_known i hn1 hn9 k (by omega))).elim, fun _ => ?_⟩
      exact ⟨((k + 1 + 1 : Nat) : Int), w64_eq (by omega) (by omega) (by omega), k + 1, by dsimp only; omega, by dsimp only; omega, ⟨rfl, rfl⟩, ⟨rfl, rfl, rfl, rfl, trivial⟩, rfl, trivial⟩
    · refine ⟨[], false, _, _, impl_CountPartitions (i : Nat) 5, List.nodup_nil, rfl, rfl, trivial, fun _ => ?_, fun h4 => (h4 (cptI_no _ _ (by omega))).elim⟩
      exact ⟨none, ⟨rfl, trivial⟩, rfl, rfl⟩
end Go.Proofs.Ytcamhpknmbohnaa
