/-
  FnExactCanonExchange: the program's CanonExchange returns what the reference's returns.
-/
import Derived.Test.YtbnonelkdgkpdaaWxsp
import Derived.Test.YtbnonelkdgkpdaaWxsw
set_option linter.unusedVariables false
namespace Go.Proofs.Ytbnonelkdgkpdaa
open Go Go.Proofs.Ytbnonelkdgkpdaa.Ow
theorem tot_short {g : List (List Int)} (h : 0 ≤ szR g 1048576) : tot g g.length ≤ 1048576 := by
  unfold szR at h
  split at h <;> omega
set_option maxHeartbeats 1000000 in
/-- laws.FnExactCanonExchange -/
theorem laws_FnExactCanonExchange (s1 : Bool) (g : List (List Int)) (hL : Lens g) (k : Int) (s2 : Bool) (xs : List Int) : LawC Try.prog 5 [.d false (.sl (.sl .int)) g, I k, .d false (.sl .int) xs] := by
  by_cases hl2 : xs.length ≤ 1048576
  case neg =>
    refine LawC_of tauOk 122 6 Try.func5 rfl (by kernel_rfl) rfl rfl rfl ?_
    refine ⟨fun _ => ?_, fun h1 => absurd h1 (by omega)⟩
    exact ⟨rfl, trivial⟩
  by_cases hsz : 0 ≤ szR g 1048576
  case neg =>
    refine LawC_of tauOk 122 6 Try.func5 rfl (by kernel_rfl) rfl rfl rfl ?_
    refine ⟨fun h1 => absurd h1 (by omega), fun _ => ?_⟩
    refine ⟨0, _, _, laws_szIntSS false g 1048576 hL (by decide) (by decide), fun _ => ?_, fun h2 => absurd h2 (by omega)⟩
    exact ⟨rfl, trivial⟩
  have hS := short_of hsz
  have ht := tot_short hsz
  have hgx := hS.2
  have hgl := hS.1
  have hsz0 := laws_szIntSS false g 1048576 hL (by decide) (by decide)
  have hTS := laws_toIntSS_w false g hS
  have hT := laws_toIntS false xs hl2
  have hES := laws_eqIntSS false false g hS
  have hEq := laws_eqIntS false false xs xs hl2 hl2
  rw [decide_eq_true rfl] at hEq
  have hMS := laws_markIntSS g 1 hS ht (by decide) (by decide)
  have hml := mkSS_len g 1
  have hM0 := laws_markIntS_e false (1 + (tot g g.length : Nat)) (by omega) (by omega)
  have hM := laws_markIntS xs (1 + (tot g g.length : Nat)) hl2 (by omega) (by omega)
  have hMl := marks_len (1 + (tot g g.length : Nat)) xs.length
  cases hB : cxB g k xs
  · have hSp := spec_CanonExchange_both false false g k xs hgl hgx hl2 [.nil, .d true .bool false] (fun _ => rfl) (fun h => by rw [hB] at h; cases h)
    have hIm := impl_CanonExchange_w false false g k xs hgl hgx hl2 [.nil, .d true .bool false] (fun _ => rfl) (fun h => by rw [hB] at h; cases h)
    have hEw := laws_eqIntS_nil
    by_cases hx : xs = []
    · subst hx
      refine LawC_of tauOk 122 6 Try.func5 rfl (by kernel_rfl) rfl rfl rfl ?_
      refine ⟨fun h1 => absurd h1 (by omega), fun _ => ?_⟩
      refine ⟨0, _, _, hsz0, fun h1 => absurd h1 (by omega), fun _ => ?_⟩
      refine ⟨0, _, _, hTS, 0, _, _, hT, 0, _, _, hSp, rfl, nofun, fun _ => ?_⟩
      refine ⟨0, _, _, hTS, 0, _, _, hT, ?_⟩
      refine ⟨0, _, _, hIm, rfl, nofun, fun _ => ?_⟩
      refine ⟨0, _, _, hEw, fun _ => ?_, nofun⟩
      refine ⟨fun h => (h rfl).elim, fun _ => ?_⟩
      refine ⟨0, _, _, hTS, 0, _, _, hES, fun _ => ?_, nofun⟩
      refine ⟨0, _, _, hT, 0, _, _, hEq, fun _ => ?_, nofun⟩
      refine ⟨1, _, _, hMS, hml, ?_⟩
      refine ⟨0, _, _, hM0, ?_⟩
      refine ⟨fun h => absurd h (by omega), fun _ => ?_⟩
      refine ⟨0, _, _, hEw, fun _ => ?_, nofun⟩
      refine ⟨fun h => (h rfl).elim, fun _ => ?_⟩
      refine ⟨0, _, _, laws_markIntS_nil 1 (by decide) (by decide), 0, _, _, laws_heldIntS_nil 1 (by decide) (by decide), ?_⟩
      refine ⟨fun h => absurd h (by omega), fun _ => ?_⟩
      refine ⟨fun h => (h rfl).elim, fun _ => ?_⟩
      refine ⟨0, _, _, hTS, 0, _, _, hT, 0, _, _, hIm, rfl, nofun, fun _ => ?_⟩
      refine ⟨0, _, _, hEw, fun _ => ?_, nofun⟩
      refine ⟨fun h => (h rfl).elim, fun _ => ?_⟩
      refine ⟨0, _, _, laws_heldIntS_nil 1 (by decide) (by decide), ?_⟩
      refine ⟨fun h => absurd h (by omega), fun _ => ?_⟩
      refine ⟨fun h => (h rfl).elim, fun _ => ?_⟩
      exact ⟨rfl, trivial⟩
    · refine LawC_of tauOk 122 6 Try.func5 rfl (by kernel_rfl) rfl rfl rfl ?_
      refine ⟨fun h1 => absurd h1 (by omega), fun _ => ?_⟩
      refine ⟨0, _, _, hsz0, fun h1 => absurd h1 (by omega), fun _ => ?_⟩
      refine ⟨0, _, _, hTS, 0, _, _, hT, 0, _, _, hSp, rfl, nofun, fun _ => ?_⟩
      refine ⟨0, _, _, hTS, 0, _, _, hT, ?_⟩
      refine ⟨0, _, _, hIm, rfl, nofun, fun _ => ?_⟩
      refine ⟨0, _, _, hEw, fun _ => ?_, nofun⟩
      refine ⟨fun h => (h rfl).elim, fun _ => ?_⟩
      refine ⟨0, _, _, hTS, 0, _, _, hES, fun _ => ?_, nofun⟩
      refine ⟨0, _, _, hT, 0, _, _, hEq, fun _ => ?_, nofun⟩
      refine ⟨1, _, _, hMS, hml, ?_⟩
      refine ⟨2, _, _, hM, hMl, hx, ?_⟩
      refine ⟨fun h => absurd h (by omega), fun _ => ?_⟩
      refine ⟨0, _, _, hEw, fun _ => ?_, nofun⟩
      refine ⟨fun h => (h rfl).elim, fun _ => ?_⟩
      refine ⟨0, _, _, laws_markIntS_nil 1 (by decide) (by decide), 0, _, _, laws_heldIntS_nil 1 (by decide) (by decide), ?_⟩
      refine ⟨fun h => absurd h (by omega), fun _ => ?_⟩
      refine ⟨fun h => (h rfl).elim, fun _ => ?_⟩
      refine ⟨0, _, _, hTS, 0, _, _, hT, 0, _, _, hIm, rfl, nofun, fun _ => ?_⟩
      refine ⟨0, _, _, hEw, fun _ => ?_, nofun⟩
      refine ⟨fun h => (h rfl).elim, fun _ => ?_⟩
      refine ⟨0, _, _, laws_heldIntS_nil 1 (by decide) (by decide), ?_⟩
      refine ⟨fun h => absurd h (by omega), fun _ => ?_⟩
      refine ⟨fun h => (h rfl).elim, fun _ => ?_⟩
      exact ⟨rfl, trivial⟩
  · have hSp := spec_CanonExchange_both false false g k xs hgl hgx hl2 [.d true (.sl .int) (cexL g xs), .d true .bool true] (fun h => by rw [hB] at h; cases h) (fun _ => rfl)
    have hIm := impl_CanonExchange_w false false g k xs hgl hgx hl2 [.d true (.sw 3 false) (cexL g xs), .d true .bool true] (fun h => by rw [hB] at h; cases h) (fun _ => rfl)
    have hF : FitP g xs := fit_of (by rw [cxB] at hB; simp only [Bool.and_eq_true] at hB; exact hB.1)
    have hcl : (cexL g xs).length = xs.length := cexK_len hF.gs hF.x g.length (Nat.le_refl _)
    have hx1 := hF.x.2
    have hx : xs ≠ [] := fun e => by rw [e] at hx1; simp at hx1
    have hcne : cexL g xs ≠ [] := fun e => by rw [e] at hcl; simp at hcl; omega
    have hEw := laws_eqIntS false false (cexL g xs) (cexL g xs) (by omega) (by omega)
    rw [decide_eq_true rfl] at hEw
    have hMg := laws_markIntS (cexL g xs) 1 (by omega) (by decide) (by decide)
    have hMgl := marks_len 1 (cexL g xs).length
    have hHe := laws_heldIntS false (cexL g xs).length 1 (by omega) (by decide) (by decide)
    refine LawC_of tauOk 122 6 Try.func5 rfl (by kernel_rfl) rfl rfl rfl ?_
    refine ⟨fun h1 => absurd h1 (by omega), fun _ => ?_⟩
    refine ⟨0, _, _, hsz0, fun h1 => absurd h1 (by omega), fun _ => ?_⟩
    refine ⟨0, _, _, hTS, 0, _, _, hT, 0, _, _, hSp, rfl, fun _ => ?_, nofun⟩
    refine ⟨0, _, _, hTS, 0, _, _, hT, ?_⟩
    refine ⟨0, _, _, hIm, rfl, fun _ => ?_, nofun⟩
    refine ⟨0, _, _, hEw, fun _ => ?_, nofun⟩
    refine ⟨fun h => (h rfl).elim, fun _ => ?_⟩
    refine ⟨0, _, _, hTS, 0, _, _, hES, fun _ => ?_, nofun⟩
    refine ⟨0, _, _, hT, 0, _, _, hEq, fun _ => ?_, nofun⟩
    refine ⟨1, _, _, hMS, hml, ?_⟩
    refine ⟨2, _, _, hM, hMl, hx, ?_⟩
    refine ⟨fun h => absurd h (by omega), fun _ => ?_⟩
    refine ⟨0, _, _, hEw, fun _ => ?_, nofun⟩
    refine ⟨fun h => (h rfl).elim, fun _ => ?_⟩
    refine ⟨2, _, _, hMg, hMgl, hcne, 0, _, _, hHe, ?_⟩
    refine ⟨fun h => absurd h (by omega), fun _ => ?_⟩
    refine ⟨fun h => (h rfl).elim, fun _ => ?_⟩
    refine ⟨0, _, _, hTS, 0, _, _, hT, 0, _, _, hIm, rfl, fun _ => ?_, nofun⟩
    refine ⟨0, _, _, hEw, fun _ => ?_, nofun⟩
    refine ⟨fun h => (h rfl).elim, fun _ => ?_⟩
    refine ⟨0, _, _, hHe, ?_⟩
    refine ⟨fun h => absurd h (by omega), fun _ => ?_⟩
    refine ⟨fun h => (h rfl).elim, fun _ => ?_⟩
    exact ⟨rfl, trivial⟩
end Go.Proofs.Ytbnonelkdgkpdaa
