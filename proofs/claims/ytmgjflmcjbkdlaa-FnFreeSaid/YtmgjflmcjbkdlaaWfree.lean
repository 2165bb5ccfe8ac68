/-
  FnFree: trees without a root are at most as many as those with one, and as many as known.
-/
import Derived.Test.YtmgjflmcjbkdlaaWcur
import Derived.Test.YtmgjflmcjbkdlaaWroot
set_option linter.unusedVariables false
namespace Go.Proofs.Ytmgjflmcjbkdlaa
open Go Go.Proofs.Ytmgjflmcjbkdlaa.Ow
theorem free_known : ∀ n, n < 13 → 1 ≤ n → rootN (n : Nat) = [0, 1, 1, 2, 4, 9, 20, 48, 115, 286, 719, 1842, 4766].getD n 0 ∧ freeN (n : Nat) = [0, 1, 1, 1, 2, 3, 6, 11, 23, 47, 106, 235, 551].getD n 0 ∧
  freeN (n : Nat) ≤ rootN (n : Nat) ∧ rootN (n : Nat) ≤ n * freeN (n : Nat) ∧ 0 ≤ n * freeN (n : Nat) ∧ n * freeN (n : Nat) ≤ 1000000 := by decide
/-- laws.FnFree -/
theorem laws_FnFree (code : List Int) : AC Try.prog 3 [.d true (.sl .u8) code] [] [.d true .bool true] [] := by
  refine AC_of tauOk 43 0 [2] Try.func3 rfl (by kernel_rfl) rfl rfl rfl rfl rfl ?_
  refine ⟨fun h1 => ?_, fun h1 => ?_⟩
  · exact ⟨none, ⟨rfl, trivial⟩, rfl, rfl⟩
  have hl : code.length ≤ 1048576 := by omega
  have hb := mkNum_b code 1
  have ht := Int.tmod_nonneg 12 hb.1
  have ht2 := Int.tmod_lt_of_pos (mkNum code 1) (by decide : (0 : Int) < 12)
  refine ⟨[], false, _, _, spec_MakeNum code hl 1 (by decide), List.nodup_nil, rfl, rfl, trivial, ?_⟩
  refine ⟨by decide, _, rfl, ?_⟩
  obtain ⟨n, hn⟩ : ∃ n : Nat, 1 + (mkNum code 1).tmod 12 = n ∧ 1 ≤ n ∧ n < 13 := ⟨(1 + (mkNum code 1).tmod 12).toNat, by omega⟩
  refine ⟨(n : Int), w64_eq hn.1.symm (by omega) (by omega), ?_⟩
  have hk := free_known n hn.2.2 hn.2.1
  refine ⟨[], false, _, _, impl_CountRooted (n : Int), List.nodup_nil, rfl, rfl, trivial, [], false, _, _, impl_CountFree (n : Int), List.nodup_nil, rfl, rfl, trivial, ?_⟩
  refine ⟨rfl, by decide, false, n, rfl, (by have := hn.2.2; exact this), fun h2 => ?_, fun h2 => (h2 hk.1).elim⟩
  refine ⟨rfl, by decide, false, n, rfl, (by have := hn.2.2; exact this), fun h3 => ?_, fun h3 => (h3 hk.2.1).elim⟩
  refine ⟨fun h4 => ?_, fun h4 => (h4 hk.2.2.1).elim⟩
  refine ⟨n * freeN (n : Nat), w64_eq rfl (by omega) (by omega), fun h5 => ?_, fun h5 => (h5 hk.2.2.2.1).elim⟩
  exact ⟨none, ⟨rfl, trivial⟩, rfl, rfl⟩
end Go.Proofs.Ytmgjflmcjbkdlaa
