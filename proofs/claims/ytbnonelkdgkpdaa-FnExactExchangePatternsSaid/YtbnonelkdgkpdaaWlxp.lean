/-
  FnExactExchangePatterns: the program's ExchangePatterns returns what the reference's returns.
-/
import Derived.Test.YtbnonelkdgkpdaaWxep
import Derived.Test.YtbnonelkdgkpdaaWxsw
set_option linter.unusedVariables false
namespace Go.Proofs.Ytbnonelkdgkpdaa
open Go Go.Proofs.Ytbnonelkdgkpdaa.Ow
theorem tot_b {l : List (List Int)} {c : Nat} (h : ∀ i, i < l.length → (l.getD i []).length ≤ c) : ∀ n, n ≤ l.length → tot l n ≤ n * c
  | 0, _ => by simp [tot]
  | n + 1, hn => by
    have := tot_b h n (by omega)
    have := h n (by omega)
    rw [tot, Nat.succ_mul]; omega
theorem tot_short {g : List (List Int)} (h : 0 ≤ szR g 1048576) : tot g g.length ≤ 1048576 := by
  unfold szR at h
  split at h <;> omega
set_option maxHeartbeats 1000000 in
/-- laws.FnExactExchangePatterns -/
theorem laws_FnExactExchangePatterns (s1 : Bool) (g : List (List Int)) (hL : Lens g) (k : Int) : LawC Try.prog 6 [.d false (.sl (.sl .int)) g, I k] := by
  by_cases hsz : 0 ≤ szR g 1048576
  case neg =>
    refine LawC_of tauOk 101 4 Try.func6 rfl (by kernel_rfl) rfl rfl rfl ?_
    refine ⟨0, _, _, laws_szIntSS false g 1048576 hL (by decide) (by decide), fun _ => ?_, fun h2 => absurd h2 (by omega)⟩
    exact ⟨rfl, trivial⟩
  have hS := short_of hsz
  have ht := tot_short hsz
  have hgx := hS.2
  have hgl := hS.1
  have hsz0 := laws_szIntSS false g 1048576 hL (by decide) (by decide)
  have hTS := laws_toIntSS_w false g hS
  have hES := laws_eqIntSS false false g hS
  have hMS := laws_markIntSS g 1 hS ht (by decide) (by decide)
  have hml := mkSS_len g 1
  cases hB : epB g k
  · have hSp := spec_ExchangePatterns_both false g k hgl hgx [.nil, .d true .bool false] [] (fun _ => ⟨rfl, rfl⟩) (fun h => by rw [hB] at h; cases h)
    have hIm := impl_ExchangePatterns_no false g k hgl hgx hB
    have hEw := ac_nil2 (ac_nil3 (laws_eqIntSS false false [] ⟨by decide, fun i hi => by simp at hi⟩))
    have hMn := ac_nil2 (laws_markIntSS_e false 1)
    have hHn := ac_nil2 (laws_heldIntSS_e false 1)
    refine LawC_of tauOk 101 4 Try.func6 rfl (by kernel_rfl) rfl rfl rfl ?_
    refine ⟨0, _, _, hsz0, fun h1 => absurd h1 (by omega), fun _ => ?_⟩
    refine ⟨0, _, _, hTS, 0, _, _, hSp, rfl, nofun, fun _ => ?_⟩
    refine ⟨0, _, _, hTS, 0, _, _, hIm, rfl, nofun, fun _ => ?_⟩
    refine ⟨0, _, _, hEw, fun _ => ?_, nofun⟩
    refine ⟨fun h => (h rfl).elim, fun _ => ?_⟩
    refine ⟨0, _, _, hTS, 0, _, _, hES, fun _ => ?_, nofun⟩
    refine ⟨1, _, _, hMS, hml, ?_⟩
    refine ⟨fun h => absurd h (by omega), fun _ => ?_⟩
    refine ⟨0, _, _, hEw, fun _ => ?_, nofun⟩
    refine ⟨fun h => (h rfl).elim, fun _ => ?_⟩
    refine ⟨0, _, _, hMn, 0, _, _, hHn, ?_⟩
    refine ⟨fun h => absurd h (by omega), fun _ => ?_⟩
    refine ⟨fun h => (h rfl).elim, fun _ => ?_⟩
    refine ⟨0, _, _, hTS, 0, _, _, hIm, rfl, nofun, fun _ => ?_⟩
    refine ⟨0, _, _, hEw, fun _ => ?_, nofun⟩
    refine ⟨fun h => (h rfl).elim, fun _ => ?_⟩
    refine ⟨0, _, _, hHn, ?_⟩
    refine ⟨fun h => absurd h (by omega), fun _ => ?_⟩
    refine ⟨fun h => (h rfl).elim, fun _ => ?_⟩
    exact ⟨rfl, trivial⟩
  · have hB2 := hB
    unfold epB at hB2
    rw [Bool.and_eq_true] at hB2
    have hB3 := hB2.2
    unfold smallB at hB3
    simp only [Bool.and_eq_true, decide_eq_true_eq] at hB3
    obtain ⟨⟨hk1, hk4⟩, hpw⟩ := hB3
    obtain ⟨K, rfl⟩ : ∃ K : Nat, k = (K : Int) := ⟨k.toNat, by omega⟩
    rw [Int.toNat_natCast] at hpw
    have hG := (gokB_iff g).1 hB2.1
    have hg0 : 0 < g.length := by have := hG.l1; omega
    have hp0 := (gok1_p (hG.o1 0 hg0)).1.1
    have hSp := spec_ExchangePatterns_both false g K hgl hgx [.ow 0, .d true .bool true] [.sl 25 (.sl .int) (expL g K (g.getD 0 []).length)] (fun h => by rw [hB] at h; cases h) (fun _ => ⟨rfl, by rw [Int.toNat_natCast]⟩)
    have hIm := impl_ExchangePatterns_w false g K hgl hgx hB2.1 hB2.2
    have hll : (expL g K (g.getD 0 []).length).length ≤ 1024 := by
      unfold expL
      refine Nat.le_trans (List.length_filter_le _ _) ?_
      rw [wordsL_len]; exact hpw
    have hel : ∀ i, i < (expL g K (g.getD 0 []).length).length → ((expL g K (g.getD 0 []).length).getD i []).length ≤ 10 := fun i hi => by
      rw [getD_get _ _ _ hi]
      have := (words_b (List.mem_filter.1 (List.getElem_mem hi)).1).1
      omega
    generalize expL g K (g.getD 0 []).length = l at *
    have hSl : Short l := ⟨by omega, fun i hi => by have := hel i hi; omega⟩
    have htl := tot_b hel l.length (Nat.le_refl _)
    have hEw := laws_eqIntSS false false l hSl
    have hMg := laws_markIntSS l 1 hSl (by omega) (by decide) (by decide)
    have hMgl := mkSS_len l 1
    have hHe := laws_heldIntSS false l 1 hSl (by omega) (by decide) (by decide)
    refine LawC_of tauOk 101 4 Try.func6 rfl (by kernel_rfl) rfl rfl rfl ?_
    refine ⟨0, _, _, hsz0, fun h1 => absurd h1 (by omega), fun _ => ?_⟩
    refine ⟨0, _, _, hTS, 0, _, _, hSp, rfl, fun _ => ?_, nofun⟩
    refine ⟨0, _, _, hTS, 0, _, _, hIm, rfl, fun _ => ?_, nofun⟩
    refine ⟨0, _, _, hEw, fun _ => ?_, nofun⟩
    refine ⟨fun h => (h rfl).elim, fun _ => ?_⟩
    refine ⟨0, _, _, hTS, 0, _, _, hES, fun _ => ?_, nofun⟩
    refine ⟨1, _, _, hMS, hml, ?_⟩
    refine ⟨fun h => absurd h (by omega), fun _ => ?_⟩
    refine ⟨0, _, _, hEw, fun _ => ?_, nofun⟩
    refine ⟨fun h => (h rfl).elim, fun _ => ?_⟩
    refine ⟨1, _, _, hMg, hMgl, 0, _, _, hHe, ?_⟩
    refine ⟨fun h => absurd h (by omega), fun _ => ?_⟩
    refine ⟨fun h => (h rfl).elim, fun _ => ?_⟩
    refine ⟨0, _, _, hTS, 0, _, _, hIm, rfl, fun _ => ?_, nofun⟩
    refine ⟨0, _, _, hEw, fun _ => ?_, nofun⟩
    refine ⟨fun h => (h rfl).elim, fun _ => ?_⟩
    refine ⟨0, _, _, hHe, ?_⟩
    refine ⟨fun h => absurd h (by omega), fun _ => ?_⟩
    refine ⟨fun h => (h rfl).elim, fun _ => ?_⟩
    exact ⟨rfl, trivial⟩
end Go.Proofs.Ytbnonelkdgkpdaa
