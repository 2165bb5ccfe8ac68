/-
  Contracts of the functions that take the least graph among the renamed.
-/
import Derived.Test.YtbnonelkdgkpdaaPls
import Derived.Test.YtbnonelkdgkpdaaWsym
set_option linter.unusedVariables false
namespace Go.Proofs.Ytbnonelkdgkpdaa
open Go Go.Proofs.Ytbnonelkdgkpdaa.Ow
theorem symL_get {n : Nat} (hS : SymOk n) (k : Nat) (hk : k < (symL n).length) : PermP ((symL n).getD k []) ∧ ((symL n).getD k []).length = n := by
  rw [getD_get _ _ _ hk]
  exact hS.el _ (List.getElem_mem hk)
/-- impl.SymmetricGroup -/
theorem impl_SymmetricGroup (n : Nat) (h1 : 1 ≤ n) (hn : n < 6) : AC Try.prog 89 [I (n : Nat)] [] [.ow 0, .d true .bool true] [.sl 25 (.sl .int) (symL n)] := by
  have hS := sym_ok n hn h1
  have hil := idL_len n
  obtain ⟨o, ho, hp⟩ := hS.i
  have hG := impl_GroupOf true n [turnL n, swapL n] o (symL n) h1 (by omega) (gens_ok n h1 hn) ho hp hS.so ⟨hS.l2, by intro e; have := hS.l1; rw [e] at this; simp at this, fun x hx => ⟨by intro e; have := (hS.el x hx).2; rw [e] at this; simp at this; omega, by have := (hS.el x hx).2; omega⟩⟩
  refine AC_of tauOk 27 0 [2, 3] Try.func89 rfl (by kernel_rfl) rfl rfl rfl rfl rfl ?_
  refine ⟨fun h => by omega, fun _ => ?_⟩
  refine ⟨fun h => by omega, fun _ => ?_⟩
  refine ⟨[], false, _, _, impl_IdentityPerm n h1 (by omega), List.nodup_nil, rfl, rfl, trivial, ?_⟩
  refine ⟨fun h => ?_, fun h => ?_⟩
  · refine ⟨0, rfl, by omega, ?_⟩
    refine ⟨1, rfl, by rw [List.length_set]; omega, ?_⟩
    rw [swapL, if_pos (by omega)] at hG
    refine ⟨[], true, _, _, impl_turn n h1 (by omega), List.nodup_nil, rfl, rfl, trivial, ?_⟩
    refine ⟨rfl, rfl, by decide, false, ?_⟩
    refine ⟨[], false, _, _, hG, List.nodup_nil, rfl, rfl, trivial, fun _ => ?_, nofun⟩
    exact ⟨some 1, ⟨⟨rfl, rfl⟩, rfl, trivial⟩, ⟨rfl, rfl⟩, rfl⟩
  · rw [swapL, if_neg (by omega)] at hG
    refine ⟨[], true, _, _, impl_turn n h1 (by omega), List.nodup_nil, rfl, rfl, trivial, ?_⟩
    refine ⟨rfl, rfl, by decide, false, ?_⟩
    refine ⟨[], false, _, _, hG, List.nodup_nil, rfl, rfl, trivial, fun _ => ?_, nofun⟩
    exact ⟨some 1, ⟨⟨rfl, rfl⟩, rfl, trivial⟩, ⟨rfl, rfl⟩, rfl⟩
/-- impl.renamings -/
theorem impl_renamings (n : Nat) (h1 : 1 ≤ n) (hn : n < 6) : AC Try.prog 49 [I (n : Nat)] [] [.ow 0] [.sl 25 (.sl .int) (symL n)] := by
  refine AC_of tauOk 11 0 [2] Try.func49 rfl (by kernel_rfl) rfl rfl rfl rfl rfl ?_
  refine ⟨[], false, _, _, impl_SymmetricGroup n h1 hn, List.nodup_nil, rfl, rfl, trivial, fun _ => ?_, nofun⟩
  exact ⟨some 0, ⟨⟨rfl, rfl⟩, trivial⟩, ⟨rfl, rfl⟩, rfl⟩
theorem actsL_get (n k : Nat) (hk : k < (symL n).length) : (actsL n).getD k [] = pactL ((symL n).getD k []) := by
  rw [getD_get _ _ _ (by rw [actsL, List.length_map]; exact hk), getD_get _ _ _ hk]; simp [actsL]
theorem actsL_len (n : Nat) : (actsL n).length = (symL n).length := by simp [actsL]
theorem pact_one {p : List Int} (h : p.length = 1) : pactL p = [] := by
  unfold pactL
  rw [h]; rfl
theorem pact_ok {n : Nat} (h1 : 1 ≤ n) (hn : n < 6) (hS : SymOk n) (k : Nat) (hk : k < (actsL n).length) :
    ((actsL n).getD k []).length ≤ 10 ∧ ∀ i, i < ((actsL n).getD k []).length → 0 ≤ ((actsL n).getD k []).getD i 0 ∧ (((actsL n).getD k []).getD i 0).toNat < cp n := by
  rw [actsL_len] at hk
  obtain ⟨hP, hl⟩ := symL_get hS k hk
  rw [actsL_get n k hk]
  generalize (symL n).getD k [] = p at *
  subst hl
  refine ⟨pact_len hn, fun i hi => ?_⟩
  by_cases h : p.length = 1
  · rw [pact_one h] at hi; simp at hi
  · exact pact_el hP hn (by omega) i hi
/-- impl.renamed of whatever permutation -/
theorem impl_renamed_all (sh : Bool) (n g : Nat) (h1 : 1 ≤ n) (hn : n < 6) (hg : g < 1024) (p : List Int) (hP : PermP p) (hl : p.length = n) : AC Try.prog 64 [I (n : Nat), I (g : Nat), .d sh (.sl .int) p] [] [I (renN g p : Nat)] [] := by
  subst hl
  by_cases h : p.length = 1
  · rw [ren_one g p h, h]; exact impl_renamed_one sh g p
  · exact impl_renamed sh g hg p hP hn (by omega)
/-- impl.CanonGraph -/
theorem impl_CanonGraph (n g : Nat) (h1 : 1 ≤ n) (hn : n < 6) (hg : g < 1024) (hG : graphB (n : Nat) (g : Nat) = true) : AC Try.prog 21 [I (n : Nat), I (g : Nat)] [] [I (canI n g)] [] := by
  have hS := sym_ok n hn h1
  have hl2 := hS.l2
  refine AC_of tauOk 28 0 [4] Try.func21 rfl (by kernel_rfl) rfl rfl rfl rfl rfl ?_
  refine ⟨[], false, _, _, impl_GraphOk _ _, List.nodup_nil, rfl, rfl, trivial, fun _ => ?_, fun h => by rw [hG] at h; cases h⟩
  refine ⟨[], true, _, _, impl_renamings n h1 hn, List.nodup_nil, rfl, rfl, trivial, ?_⟩
  refine ⟨Nat, fun k => ⟨[(0, I (n : Nat)), (1, I (g : Nat)), (5, I (canF n g k)), (14, .d true (.sl (.sl .int)) (symL n)), (15, I (symL n).length), (16, I (k : Nat))], []⟩, fun k => k ≤ (symL n).length, fun k => (symL n).length - k, 0, Nat.zero_le _,
    ⟨⟨rfl, rfl⟩, ⟨rfl, rfl, rfl, rfl, rfl, rfl, trivial⟩, trivial⟩, fun k hk => ?_⟩
  dsimp only at hk
  refine ⟨fun h2 => ?_, fun h2 => ?_⟩
  · have hk2 : k < (symL n).length := by omega
    obtain ⟨hP, hl⟩ := symL_get hS k hk2
    have e := canF_s n g k hk2
    refine ⟨k, rfl, hk2, [], false, _, _, impl_renamed_all true n g h1 hn hg ((symL n).getD k []) hP hl, List.nodup_nil, rfl, rfl, trivial, ?_⟩
    exact ⟨((k + 1 : Nat) : Int), w64_eq (by omega) (by omega) (by omega), k + 1, by dsimp only; omega, by dsimp only; omega, ⟨rfl, rfl⟩, ⟨rfl, rfl, retI e.symm, rfl, rfl, rfl, trivial⟩, trivial⟩
  · obtain rfl : k = (symL n).length := by omega
    exact ⟨none, ⟨rfl, trivial⟩, rfl, rfl⟩
theorem impl_CanonGraph_no (n g : Int) (hG : graphB n g = false) : AC Try.prog 21 [I n, I g] [] [I (-1)] [] := by
  refine AC_of tauOk 28 0 [4] Try.func21 rfl (by kernel_rfl) rfl rfl rfl rfl rfl ?_
  refine ⟨[], false, _, _, impl_GraphOk _ _, List.nodup_nil, rfl, rfl, trivial, fun h => (by rw [hG] at h; cases h), fun _ => ?_⟩
  exact ⟨none, ⟨rfl, trivial⟩, rfl, rfl⟩
theorem impl_CanonGraph_z (n g : Int) : AC Try.prog 21 [I n, I g] [] [I (canZ n g)] [] := by
  unfold canZ
  cases hB : graphB n g
  · rw [if_neg (by simp)]; exact impl_CanonGraph_no n g hB
  · obtain ⟨m, g', rfl, rfl, h1, h5, hg⟩ := graphB_ok hB
    rw [if_pos rfl]; exact impl_CanonGraph m g' h1 h5 hg hB
/-- impl.SameGraph -/
theorem impl_SameGraph (n g h : Int) : AC Try.prog 23 [I n, I g, I h] [] [.d true .bool (sameG n g h)] [] := by
  refine AC_of tauOk 24 0 [6] Try.func23 rfl (by kernel_rfl) rfl rfl rfl rfl rfl ?_
  refine ⟨[], false, _, _, impl_GraphOk _ _, List.nodup_nil, rfl, rfl, trivial, fun h1 => ?_, fun h1 => ?_⟩
  · refine ⟨[], false, _, _, impl_GraphOk _ _, List.nodup_nil, rfl, rfl, trivial, fun h2 => ?_, fun h2 => ?_⟩
    · refine ⟨[], false, _, _, impl_CanonGraph_z n g, List.nodup_nil, rfl, rfl, trivial, [], false, _, _, impl_CanonGraph_z n h, List.nodup_nil, rfl, rfl, trivial, fun h3 => ?_, fun h3 => ?_⟩
      · exact ⟨none, ⟨retB (by rw [sameG, h1, h2, decide_eq_true h3]; rfl), trivial⟩, rfl, rfl⟩
      · exact ⟨none, ⟨retB (by rw [sameG, h1, h2, decide_eq_false h3]; rfl), trivial⟩, rfl, rfl⟩
    · exact ⟨none, ⟨retB (by rw [sameG, h1, h2]; rfl), trivial⟩, rfl, rfl⟩
  · exact ⟨none, ⟨retB (by rw [sameG, h1]; rfl), trivial⟩, rfl, rfl⟩
end Go.Proofs.Ytbnonelkdgkpdaa
