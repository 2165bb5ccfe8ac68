/-
  Contracts of the lists of edges and of DegreesOf.
-/
import Derived.Test.YtbnonelkdgkpdaaWgr2
set_option linter.unusedVariables false
namespace Go.Proofs.Ytbnonelkdgkpdaa
open Go Go.Proofs.Ytbnonelkdgkpdaa.Ow
/-- impl.edges -/
theorem impl_edges (n g : Nat) (h2 : 2 ≤ n) (hn : n < 6) (hg : g < 1024) : AC Try.prog 67 [I (n : Nat), I (g : Nat)] [] [.ow 0] [.sl 25 (.sl .int) (edgL (pairsL n) g (pairsL n).length)] := by
  have hp := pairs_short n hn
  refine AC_of tauOk 28 0 [4] Try.func67 rfl (by kernel_rfl) rfl rfl rfl rfl rfl ?_
  refine ⟨rfl, by decide, true, ?_⟩
  refine ⟨[], true, _, _, impl_PairsOf n h2 hn, List.nodup_nil, rfl, rfl, trivial, ?_⟩
  refine ⟨Nat, fun k => ⟨[(1, I (g : Nat)), (5, .ow 0), (10, .d true (.sl (.sl .int)) (pairsL n)), (11, I (pairsL n).length), (12, I (k : Nat))], [.sl 25 (.sl .int) (edgL (pairsL n) g k)]⟩, fun k => k ≤ (pairsL n).length, fun k => (pairsL n).length - k, 0, Nat.zero_le _,
    ⟨⟨rfl, rfl⟩, ⟨rfl, rfl, rfl, rfl, rfl, trivial⟩, rfl, trivial⟩, fun k hk => ?_⟩
  dsimp only at hk
  have hl := edgL_len (pairsL n) g k
  refine ⟨fun h3 => ?_, fun h3 => ?_⟩
  · have hk2 : k < (pairsL n).length := by omega
    have hgd : g / 2 ^ k ≤ g := Nat.div_le_self _ _
    refine ⟨k, rfl, hk2, Int.natCast_nonneg _, ((g / 2 ^ k : Nat) : Int), shr_eq g k (by omega), ((g / 2 ^ k % 2 : Nat) : Int), and1_eq _ (by omega), fun h4 => ?_, fun h4 => ?_⟩
    · refine ⟨rfl, by decide, false, ?_⟩
      refine ⟨rfl, Nat.zero_le _, rfl, by simp only [List.length_cons, List.length_nil]; omega, rfl, ?_⟩
      exact ⟨((k + 1 : Nat) : Int), w64_eq (by omega) (by omega) (by omega), k + 1, by dsimp only; omega, by dsimp only; omega, ⟨rfl, rfl⟩, ⟨rfl, rfl, rfl, rfl, rfl, trivial⟩, rowE (edgL_yes _ g k ((bt_shr g k).1 h4)).symm, trivial⟩
    · exact ⟨((k + 1 : Nat) : Int), w64_eq (by omega) (by omega) (by omega), k + 1, by dsimp only; omega, by dsimp only; omega, ⟨rfl, rfl⟩, ⟨rfl, rfl, rfl, rfl, rfl, trivial⟩, rowE (edgL_no _ g k (fun e => h4 ((bt_shr g k).2 e))).symm, trivial⟩
  · obtain rfl : k = (pairsL n).length := by omega
    exact ⟨some 0, ⟨⟨rfl, rfl⟩, trivial⟩, ⟨rfl, rfl⟩, rfl⟩
theorem impl_edges_one (g : Nat) : AC Try.prog 67 [I 1, I (g : Nat)] [] [.ow 0] [.sl 25 (.sl .int) []] := by
  refine AC_of tauOk 28 0 [4] Try.func67 rfl (by kernel_rfl) rfl rfl rfl rfl rfl ?_
  refine ⟨rfl, by decide, true, ?_⟩
  refine ⟨[], true, _, _, impl_PairsOf_no, List.nodup_nil, rfl, rfl, trivial, ?_⟩
  refine ⟨Nat, fun k => ⟨[(5, .ow 0), (11, I 0), (12, I (k : Nat))], [.sl 25 (.sl .int) []]⟩, fun k => k = 0, fun k => 0, 0, rfl,
    ⟨⟨rfl, rfl⟩, ⟨rfl, rfl, rfl, trivial⟩, rfl, trivial⟩, fun k hk => ?_⟩
  subst hk
  refine ⟨fun h3 => by simp at h3, fun h3 => ?_⟩
  exact ⟨some 0, ⟨⟨rfl, rfl⟩, trivial⟩, ⟨rfl, rfl⟩, rfl⟩
/-- the edges are pairs -/
theorem edges_get (n g k : Nat) (hn : n < 6) (hk : k < (edgL (pairsL n) g (pairsL n).length).length) : ((edgL (pairsL n) g (pairsL n).length).getD k []).length = 2 ∧ 0 ≤ ((edgL (pairsL n) g (pairsL n).length).getD k []).getD 0 0 ∧ ((edgL (pairsL n) g (pairsL n).length).getD k []).getD 0 0 < ((edgL (pairsL n) g (pairsL n).length).getD k []).getD 1 0 ∧ ((edgL (pairsL n) g (pairsL n).length).getD k []).getD 1 0 < (n : Int) := by
  rw [getD_get _ _ _ hk]
  exact pairs_get n hn _ (edgL_mem _ g _ (List.getElem_mem hk))
theorem inc_row (d p : List Int) (n k : Nat) (hd : d.length = n ∧ ∀ j, j < n → 0 ≤ d.getD j 0 ∧ d.getD j 0 ≤ (2 * k : Nat)) (hp : 0 ≤ p.getD 0 0 ∧ p.getD 0 0 < (n : Int)) : (d.set (p.getD 0 0).toNat (d.getD (p.getD 0 0).toNat 0 + 1)).length = n ∧ ∀ j, j < n → 0 ≤ (d.set (p.getD 0 0).toNat (d.getD (p.getD 0 0).toNat 0 + 1)).getD j 0 ∧ (d.set (p.getD 0 0).toNat (d.getD (p.getD 0 0).toNat 0 + 1)).getD j 0 ≤ (2 * k : Nat) + 1 :=
  inc1_b d (p.getD 0 0) n _ hd
/-- impl.DegreesOf -/
theorem impl_DegreesOf (n g : Nat) (h1 : 1 ≤ n) (hn : n < 6) (hg : graphB (n : Nat) (g : Nat) = true) : AC Try.prog 24 [I (n : Nat), I (g : Nat)] [] [.ow 0] [.sl 3 .int (degL n g)] := by
  have hg' : g < 1024 := by
    have := of_decide_eq_true hg
    have h2 := (cp_le n hn).2.2
    rw [Int.toNat_natCast] at this
    omega
  refine AC_of tauOk 40 0 [4] Try.func24 rfl (by kernel_rfl) rfl rfl rfl rfl rfl ?_
  refine ⟨[], false, _, _, impl_GraphOk _ _, List.nodup_nil, rfl, rfl, trivial, fun h => ?_, fun h => by rw [hg] at h; cases h⟩
  refine ⟨n, n, rfl, rfl, Nat.le_refl _, by omega, ?_⟩
  by_cases h2 : n = 1
  · subst h2
    refine ⟨[], true, _, _, impl_edges_one g, List.nodup_nil, rfl, rfl, trivial, ?_⟩
    refine ⟨Nat, fun k => ⟨[(5, .ow 0), (17, I 0), (18, I (k : Nat))], [.sl 3 .int (degL 1 g)]⟩, fun k => k = 0, fun k => 0, 0, rfl,
      ⟨⟨rfl, rfl⟩, ⟨rfl, rfl, rfl, trivial⟩, rfl, trivial⟩, fun k hk => ?_⟩
    subst hk
    refine ⟨fun h3 => by simp at h3, fun h3 => ?_⟩
    exact ⟨some 0, ⟨⟨rfl, rfl⟩, trivial⟩, ⟨rfl, rfl⟩, rfl⟩
  · refine ⟨[], true, _, _, impl_edges n g (by omega) hn hg', List.nodup_nil, rfl, rfl, trivial, ?_⟩
    have hel := edgL_len (pairsL n) g (pairsL n).length
    have hpl := (pairs_short n hn).1
    have hget := fun k hk => edges_get n g k hn hk
    unfold degL
    generalize edgL (pairsL n) g (pairsL n).length = es at *
    refine ⟨Nat, fun k => ⟨[(5, .ow 0), (16, .d true (.sl (.sl .int)) es), (17, I es.length), (18, I (k : Nat))], [.sl 3 .int (degF n (es.take k))]⟩, fun k => k ≤ es.length, fun k => es.length - k, 0, Nat.zero_le _,
      ⟨⟨rfl, rfl⟩, ⟨rfl, rfl, rfl, rfl, trivial⟩, rfl, trivial⟩, fun k hk => ?_⟩
    dsimp only at hk
    refine ⟨fun h3 => ?_, fun h3 => ?_⟩
    · have hk2 : k < es.length := by omega
      have hq := hget k hk2
      have hd := degF_b n k (es.take k) (by rw [List.length_take]; omega)
      have hd2 := inc_row _ (es.getD k []) n k hd ⟨hq.2.1, by omega⟩
      have e : degF n (es.take (k + 1)) = incP (degF n (es.take k)) (es.getD k []) := by rw [L_succ es k [] hk2, degF_snoc]
      have b1 := hd.2 (((es.getD k []).getD 0 0).toNat) (by omega)
      have b2 := hd2.2 (((es.getD k []).getD 1 0).toNat) (by omega)
      refine ⟨k, rfl, hk2, 0, rfl, by omega, ((es.getD k []).getD 0 0).toNat, (Int.toNat_of_nonneg (by omega)).symm, by omega, _, w64_in _ (by omega) (by omega), ((es.getD k []).getD 0 0).toNat, (Int.toNat_of_nonneg (by omega)).symm, by omega, ?_⟩
      refine ⟨1, rfl, by omega, ((es.getD k []).getD 1 0).toNat, (Int.toNat_of_nonneg (by omega)).symm, by omega, _, w64_in _ (by omega) (by omega), ((es.getD k []).getD 1 0).toNat, (Int.toNat_of_nonneg (by omega)).symm, by omega, ?_⟩
      exact ⟨((k + 1 : Nat) : Int), w64_eq (by omega) (by omega) (by omega), k + 1, by dsimp only; omega, by dsimp only; omega, ⟨rfl, rfl⟩, ⟨rfl, rfl, rfl, rfl, trivial⟩, rowE (by rw [e]; rfl), trivial⟩
    · obtain rfl : k = es.length := by omega
      exact ⟨some 0, ⟨⟨rfl, rfl⟩, trivial⟩, ⟨rfl, rowsE (by rw [List.take_length])⟩, rfl⟩
theorem impl_DegreesOf_no (n g : Int) (hg : graphB n g = false) : AC Try.prog 24 [I n, I g] [] [.nil] [] := by
  refine AC_of tauOk 40 0 [4] Try.func24 rfl (by kernel_rfl) rfl rfl rfl rfl rfl ?_
  refine ⟨[], false, _, _, impl_GraphOk _ _, List.nodup_nil, rfl, rfl, trivial, fun h => (by rw [hg] at h; cases h), fun h => ?_⟩
  exact ⟨none, ⟨rfl, trivial⟩, rfl, rfl⟩
end Go.Proofs.Ytbnonelkdgkpdaa
