/-
  Contracts of the functions that write integers as text.
-/
import Derived.Test.YtcamhpknmbohnaaPls
import Derived.Test.YtcamhpknmbohnaaWcol
set_option linter.unusedVariables false
namespace Go.Proofs.Ytcamhpknmbohnaa
open Go Go.Proofs.Ytcamhpknmbohnaa.Ow
/-- spec.FormatInt of an integer that is greater than -10 -/
theorem spec_FormatInt_nat (n : Nat) (hn : n ≤ 9223372036854775807) : AC Try.prog 124 [I (n : Nat)] [] [.d true .str (fmtN n)] [] := by
  refine AC_of tauOk 44 0 [2] Try.func124 rfl (by kernel_rfl) rfl rfl rfl rfl rfl ?_
  refine ⟨fun h1 => by omega, fun h1 => ?_⟩
  refine ⟨Nat × List UInt8, fun i => ⟨[(0, I (i.1 : Nat)), (3, .d true .str i.2)], []⟩, fun i => i.1 ≤ n ∧ fmtN i.1 ++ i.2 = fmtN n, fun i => i.1, (n, []), ⟨Nat.le_refl _, List.append_nil _⟩,
    ⟨⟨rfl, rfl⟩, ⟨rfl, rfl, trivial⟩, trivial⟩, ?_⟩
  rintro ⟨m, s⟩ ⟨hm, hs⟩
  dsimp only at hm hs
  have hl := fmtN_len64 n (by omega)
  have hl1 : s.length ≤ 19 := by rw [← hs, List.length_append] at hl; omega
  refine ⟨fun h2 => ?_, fun h2 => ?_⟩
  · dsimp only at h2
    have e := fmtN_ge m (by omega)
    refine ⟨by decide, ((m % 10 : Nat) : Int), Int.ofNat_tmod m 10, ?_⟩
    refine ⟨((48 + m % 10 : Nat) : Int), w64_eq (by omega) (by omega) (by omega), ?_⟩
    refine ⟨((48 + m % 10 : Nat) : Int), u8w _ (by omega) (by omega), ?_⟩
    refine ⟨rfl, by decide, false, ?_⟩
    have hs2 : (strOf [((48 + m % 10 : Nat) : Int)]).length + s.length ≤ 4611686018427387904 := by rw [strOf_dg]; simp; omega
    refine ⟨hs2, ?_⟩
    refine ⟨by decide, ((m / 10 : Nat) : Int), w64_eq (Int.ofNat_tdiv m 10) (by omega) (by omega), ?_⟩
    exact ⟨(m / 10, _), ⟨by dsimp only; omega, by dsimp only; rw [strOf_dg, ← hs, e, List.append_assoc]⟩, by dsimp only; omega, ⟨rfl, rfl⟩, ⟨rfl, rfl, trivial⟩, trivial⟩
  · dsimp only at h2
    refine ⟨((48 + m : Nat) : Int), w64_eq (by dsimp only; omega) (by omega) (by omega), ?_⟩
    refine ⟨((48 + m : Nat) : Int), u8w _ (by omega) (by omega), ?_⟩
    refine ⟨rfl, by decide, false, ?_⟩
    have hs2 : (strOf [((48 + m : Nat) : Int)]).length + s.length ≤ 4611686018427387904 := by rw [strOf_dg]; simp; omega
    refine ⟨hs2, ?_⟩
    exact ⟨none, ⟨retS (by rw [strOf_dg, ← hs, fmtN_lt m (by omega)]), trivial⟩, rfl, rfl⟩

/-- impl.FormatInt of a natural number -/
theorem impl_FormatInt_nat : ∀ (b n : Nat), n < b → n ≤ 9223372036854775807 → AC Try.prog 126 [I (n : Nat)] [] [.d true .str (fmtN n)] []
  | b + 1, n, hb, hn => by
    refine AC_of tauOk 36 0 [2] Try.func126 rfl (by kernel_rfl) rfl rfl rfl rfl rfl ?_
    refine ⟨fun h1 => ?_, fun h1 => by omega⟩
    refine ⟨fun h2 => ?_, fun h2 => ?_⟩
    · refine ⟨((48 + n : Nat) : Int), w64_eq (by omega) (by omega) (by omega), ?_⟩
      refine ⟨((48 + n : Nat) : Int), i32w _ (by omega) (by omega), ?_⟩
      refine ⟨_, enc_dg n (by omega), ?_⟩
      exact ⟨none, ⟨retS (by rw [fmtN_lt n (by omega)]), trivial⟩, rfl, rfl⟩
    refine ⟨fun h3 => by omega, fun h3 => ?_⟩
    have hl := fmtN_len64 n (by omega)
    have e := fmtN_ge n (by omega)
    refine ⟨by decide, ((n / 10 : Nat) : Int), w64_eq (Int.ofNat_tdiv n 10) (by omega) (by omega), ?_⟩
    refine ⟨[], false, _, _, impl_FormatInt_nat b (n / 10) (by omega) (by omega), List.nodup_nil, rfl, rfl, trivial, ?_⟩
    refine ⟨by decide, ((n % 10 : Nat) : Int), Int.ofNat_tmod n 10, ?_⟩
    refine ⟨[], false, _, _, impl_FormatInt_nat b (n % 10) (by omega) (by omega), List.nodup_nil, rfl, rfl, trivial, ?_⟩
    have e2 : fmtN (n / 10) ++ fmtN (n % 10) = fmtN n := by rw [e, fmtN_lt (n % 10) (by omega)]
    refine ⟨by rw [← List.length_append, e2]; omega, ?_⟩
    exact ⟨none, ⟨retS e2.symm, trivial⟩, rfl, rfl⟩





end Go.Proofs.Ytcamhpknmbohnaa
