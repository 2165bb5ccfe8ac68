/-
  Contracts of the functions that take the least graph among the renamed.
-/
import Derived.Test.YtigebaejdghmmaaWsym
import Derived.Test.YtigebaejdghmmaaPlI
set_option linter.unusedVariables false
namespace Go.Proofs.Ytigebaejdghmmaa
open Go Go.Proofs.Ytigebaejdghmmaa.Ow
theorem symL_get {n : Nat} (hS : SymOk n) (k : Nat) (hk : k < (symL n).length) : PermP ((symL n).getD k []) ∧ ((symL n).getD k []).length = n := by
  rw [getD_get _ _ _ hk]
  exact hS.el _ (List.getElem_mem hk)
/-- impl.SymmetricGroup -/
theorem impl_SymmetricGroup (n : Nat) (h1 : 1 ≤ n) (hn : n < 6) : AC Try.prog 130 [I (n : Nat)] [] [.ow 0, .d true .bool true] [.sl 23 (.sl .int) (symL n)] := by
  have hS := sym_ok n hn h1
  have hil := idL_len n
  obtain ⟨o, ho, hp⟩ := hS.i
  have hG := impl_GroupOf true n [turnL n, swapL n] o (symL n) h1 (by omega) (gens_ok n h1 hn) ho hp hS.so ⟨hS.l2, by intro e; have := hS.l1; rw [e] at this; simp at this, fun x hx => ⟨by intro e; have := (hS.el x hx).2; rw [e] at this; simp at this; omega, by have := (hS.el x hx).2; omega⟩⟩
  refine AC_of tauOk 27 0 [2, 3] Try.func130 rfl (by kernel_rfl) rfl rfl rfl rfl rfl ?_
  refine ⟨fun h => by omega, fun _ => ?_⟩
  refine ⟨fun h => by omega, fun _ => ?_⟩
  refine ⟨[], false, _, _, impl_IdentityPerm n h1 (by omega), List.nodup_nil, rfl, rfl, trivial, ?_⟩
  refine ⟨fun h => ?_, fun h => ?_⟩
  · refine ⟨0, rfl, by omega, ?_⟩
    refine ⟨1, rfl, by rw [List.length_set]; omega, ?_⟩
    rw [swapL, if_pos (by omega)] at hG
    refine ⟨[], true, _, _, impl_turn n h1 (by omega), List.nodup_nil, rfl, rfl, trivial, ?_⟩
    refine ⟨rfl, rfl, by decide, false, ?_⟩
    refine ⟨[], false, _, _, hG, List.nodup_nil, rfl, rfl, trivial, fun _ => ?_, nofun⟩
    exact ⟨some 1, ⟨⟨rfl, rfl⟩, rfl, trivial⟩, ⟨rfl, rfl⟩, rfl⟩
  · rw [swapL, if_neg (by omega)] at hG
    refine ⟨[], true, _, _, impl_turn n h1 (by omega), List.nodup_nil, rfl, rfl, trivial, ?_⟩
    refine ⟨rfl, rfl, by decide, false, ?_⟩
    refine ⟨[], false, _, _, hG, List.nodup_nil, rfl, rfl, trivial, fun _ => ?_, nofun⟩
    exact ⟨some 1, ⟨⟨rfl, rfl⟩, rfl, trivial⟩, ⟨rfl, rfl⟩, rfl⟩
/-- impl.renamings -/
theorem impl_renamings (n : Nat) (h1 : 1 ≤ n) (hn : n < 6) : AC Try.prog 79 [I (n : Nat)] [] [.ow 0] [.sl 23 (.sl .int) (symL n)] := by
  refine AC_of tauOk 11 0 [2] Try.func79 rfl (by kernel_rfl) rfl rfl rfl rfl rfl ?_
  refine ⟨[], false, _, _, impl_SymmetricGroup n h1 hn, List.nodup_nil, rfl, rfl, trivial, fun _ => ?_, nofun⟩
  exact ⟨some 0, ⟨⟨rfl, rfl⟩, trivial⟩, ⟨rfl, rfl⟩, rfl⟩
theorem actsL_get (n k : Nat) (hk : k < (symL n).length) : (actsL n).getD k [] = pactL ((symL n).getD k []) := by
  rw [getD_get _ _ _ (by rw [actsL, List.length_map]; exact hk), getD_get _ _ _ hk]; simp [actsL]
theorem actsL_len (n : Nat) : (actsL n).length = (symL n).length := by simp [actsL]
theorem pact_one {p : List Int} (h : p.length = 1) : pactL p = [] := by
  unfold pactL
  rw [h]; rfl
theorem pact_ok {n : Nat} (h1 : 1 ≤ n) (hn : n < 6) (hS : SymOk n) (k : Nat) (hk : k < (actsL n).length) :
    ((actsL n).getD k []).length ≤ 10 ∧ ∀ i, i < ((actsL n).getD k []).length → 0 ≤ ((actsL n).getD k []).getD i 0 ∧ (((actsL n).getD k []).getD i 0).toNat < cp n := by
  rw [actsL_len] at hk
  obtain ⟨hP, hl⟩ := symL_get hS k hk
  rw [actsL_get n k hk]
  generalize (symL n).getD k [] = p at *
  subst hl
  refine ⟨pact_len hn, fun i hi => ?_⟩
  by_cases h : p.length = 1
  · rw [pact_one h] at hi; simp at hi
  · exact pact_el hP hn (by omega) i hi
/-- spec.l11All -/
theorem spec_l11All (n : Nat) (h1 : 1 ≤ n) (hn : n < 6) : AC Try.prog 87 [I (n : Nat)] [] [.ow 0] [.sl 23 (.sl .int) (actsL n)] := by
  have hS := sym_ok n hn h1
  have hl2 := hS.l2
  refine AC_of tauOk 33 0 [2] Try.func87 rfl (by kernel_rfl) rfl rfl rfl rfl rfl ?_
  refine ⟨[], false, _, _, spec_SymmetricGroup n h1 hn, List.nodup_nil, rfl, rfl, trivial, fun _ => ?_, nofun⟩
  refine ⟨rfl, by decide, true, ?_⟩
  refine ⟨Nat, fun k => ⟨[(5, .ow 0), (16, .d true (.sl (.sl .int)) (symL n)), (17, I (symL n).length), (18, I (k : Nat))], [.sl 23 (.sl .int) (((symL n).take k).map pactL)]⟩, fun k => k ≤ (symL n).length, fun k => (symL n).length - k, 0, Nat.zero_le _,
    ⟨⟨rfl, rfl⟩, ⟨rfl, rfl, rfl, rfl, trivial⟩, rfl, trivial⟩, fun k hk => ?_⟩
  dsimp only at hk
  refine ⟨fun h2 => ?_, fun h2 => ?_⟩
  · have hk2 : k < (symL n).length := by omega
    have hms := map_snoc pactL (symL n) k [] hk2
    have hml : (((symL n).take k).map pactL).length ≤ 120 := by rw [List.length_map, List.length_take]; omega
    obtain ⟨hP, hl⟩ := symL_get hS k hk2
    refine ⟨k, rfl, hk2, ?_⟩
    by_cases h : n = 1
    · refine ⟨[], false, _, _, spec_PairAction_one true ((symL n).getD k []) (by omega), List.nodup_nil, rfl, rfl, trivial, nofun, fun _ => ?_⟩
      refine ⟨rfl, by decide, false, ?_⟩
      refine ⟨rfl, Nat.zero_le _, rfl, by simp only [List.length_cons, List.length_nil]; omega, rfl, ?_⟩
      exact ⟨((k + 1 : Nat) : Int), w64_eq (by omega) (by omega) (by omega), k + 1, by dsimp only; omega, by dsimp only; omega, ⟨rfl, rfl⟩, ⟨rfl, rfl, rfl, rfl, trivial⟩, rowE (by rw [hms, pact_one (by omega)]), trivial⟩
    · refine ⟨[], true, _, _, spec_PairAction true ((symL n).getD k []) hP (by omega) (by omega), List.nodup_nil, rfl, rfl, trivial, fun _ => ?_, nofun⟩
      refine ⟨rfl, by decide, false, ?_⟩
      refine ⟨rfl, Nat.zero_le _, rfl, by simp only [List.length_cons, List.length_nil]; omega, rfl, ?_⟩
      exact ⟨((k + 1 : Nat) : Int), w64_eq (by omega) (by omega) (by omega), k + 1, by dsimp only; omega, by dsimp only; omega, ⟨rfl, rfl⟩, ⟨rfl, rfl, rfl, rfl, trivial⟩, rowE hms.symm, trivial⟩
  · obtain rfl : k = (symL n).length := by omega
    exact ⟨some 0, ⟨⟨rfl, rfl⟩, trivial⟩, ⟨rfl, rowsE (by rw [List.take_length]; rfl)⟩, rfl⟩
/-- impl.renamed of whatever permutation -/
theorem impl_renamed_all (sh : Bool) (n g : Nat) (h1 : 1 ≤ n) (hn : n < 6) (hg : g < 1024) (p : List Int) (hP : PermP p) (hl : p.length = n) : AC Try.prog 92 [I (n : Nat), I (g : Nat), .d sh (.sl .int) p] [] [I (renN g p : Nat)] [] := by
  subst hl
  by_cases h : p.length = 1
  · rw [ren_one g p h, h]; exact impl_renamed_one sh g p
  · exact impl_renamed sh g hg p hP hn (by omega)
end Go.Proofs.Ytigebaejdghmmaa
