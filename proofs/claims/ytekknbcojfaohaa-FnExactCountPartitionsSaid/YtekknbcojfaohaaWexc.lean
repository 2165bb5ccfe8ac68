/-
  Contracts of the functions on exchanged colors.
-/
import Derived.Test.YtekknbcojfaohaaWcol
import Derived.Test.YtekknbcojfaohaaPl6
set_option linter.unusedVariables false
namespace Go.Proofs.Ytekknbcojfaohaa
open Go Go.Proofs.Ytekknbcojfaohaa.Ow
/-- spec.PermOk -/
theorem spec_PermOk (sh : Bool) (xs : List Int) (hl : xs.length ≤ 1048576) : AC Try.prog 66 [.d sh (.sl .int) xs] [] [.d true .bool (permB xs)] [] := by
  refine AC_of tauOk 35 0 [2] Try.func66 rfl (by kernel_rfl) rfl rfl rfl rfl rfl ?_
  refine ⟨[], false, _, _, spec_l01In _ _ _, List.nodup_nil, rfl, rfl, trivial, fun h1 => ?_, fun h1 => ?_⟩
  · simp only [Bool.and_eq_true, decide_eq_true_eq] at h1
    refine ⟨xs.length, xs.length, rfl, rfl, Nat.le_refl _, by omega, ?_⟩
    refine ⟨Nat × List Bool, fun i => ⟨[(0, .d sh (.sl .int) xs), (3, .ow 0), (13, .d sh (.sl .int) xs), (14, I xs.length), (15, I (i.1 : Nat))], [.sl 4 .bool i.2]⟩, fun i => i.1 ≤ xs.length ∧ MetI xs i.1 xs.length i.2, fun i => xs.length - i.1, (0, _), ⟨Nat.zero_le _, metI0 xs xs.length⟩,
      ⟨⟨rfl, rfl⟩, ⟨rfl, rfl, rfl, rfl, rfl, trivial⟩, rfl, trivial⟩, ?_⟩
    rintro ⟨k, met⟩ ⟨hk, H⟩
    dsimp only at hk H
    have hml := H.l
    refine ⟨fun h2 => ?_, fun h2 => ?_⟩
    · dsimp only at h2
      have hk2 : k < xs.length := by omega
      refine ⟨k, rfl, hk2, ?_⟩
      refine ⟨(xs.length : Int) - 1, w64_eq rfl (by omega) (by omega), ?_⟩
      refine ⟨[], false, _, _, spec_l01In _ _ _, List.nodup_nil, rfl, rfl, trivial, fun h3 => ?_, fun h3 => ?_⟩
      · simp only [Bool.and_eq_true, decide_eq_true_eq] at h3
        obtain ⟨c, hcc⟩ : ∃ c : Nat, xs.getD k 0 = c := ⟨(xs.getD k 0).toNat, by omega⟩
        refine ⟨c, hcc, by dsimp only; omega, fun h4 => ?_, fun h4 => ?_⟩
        · exact ⟨none, ⟨retB (permB_false (metI_dup H hk2 hcc (by omega) h4)), trivial⟩, rfl, rfl⟩
        · refine ⟨c, hcc, by dsimp only; omega, ?_⟩
          exact ⟨((k + 1 : Nat) : Int), w64_eq (by dsimp only; omega) (by omega) (by omega), (k + 1, _), ⟨by dsimp only; omega, metI_step H hcc (by omega) (by omega) h4⟩, by dsimp only; omega, ⟨rfl, rfl⟩, ⟨rfl, rfl, rfl, rfl, rfl, trivial⟩, rfl, trivial⟩
      · simp only [Bool.and_eq_false_iff, decide_eq_false_iff_not] at h3
        refine ⟨none, ⟨retB (permB_false fun h => ?_), trivial⟩, rfl, rfl⟩
        have := (h.2 k hk2).1
        omega
    · dsimp only at h2
      exact ⟨none, ⟨retB ((permB_iff xs).2 ⟨⟨by omega, by omega⟩, fun i hi => H.ok i (by omega)⟩), trivial⟩, rfl, rfl⟩
  · simp only [Bool.and_eq_false_iff, decide_eq_false_iff_not] at h1
    exact ⟨none, ⟨retB (permB_false fun h => by have := h.1; omega), trivial⟩, rfl, rfl⟩

/-- impl.PermOk -/
theorem impl_PermOk (sh : Bool) (xs : List Int) (hl : xs.length ≤ 1048576) : AC Try.prog 69 [.d sh (.sl .int) xs] [] [.d true .bool (permB xs)] [] := by
  refine AC_of tauOk 37 0 [2] Try.func69 rfl (by kernel_rfl) rfl rfl rfl rfl rfl ?_
  refine ⟨fun h1 => ?_, fun h1 => ?_⟩
  · exact ⟨none, ⟨retB (permB_false fun h => by have := h.1; omega), trivial⟩, rfl, rfl⟩
  refine ⟨fun h2 => ?_, fun h2 => ?_⟩
  · exact ⟨none, ⟨retB (permB_false fun h => by have := h.1; omega), trivial⟩, rfl, rfl⟩
  refine ⟨by decide, by decide, rfl, rfl, rfl, rfl, ?_⟩
  refine ⟨Nat × List Bool, fun i => ⟨[(0, .d sh (.sl .int) xs), (3, .ptr 0 0), (15, .d sh (.sl .int) xs), (16, I xs.length), (17, I (i.1 : Nat))], [.sl 76 .bool i.2]⟩, fun i => i.1 ≤ xs.length ∧ MetI xs i.1 10 i.2, fun i => xs.length - i.1, (0, _), ⟨Nat.zero_le _, metI0 xs 10⟩,
    ⟨⟨rfl, rfl⟩, ⟨rfl, rfl, rfl, rfl, rfl, trivial⟩, rfl, trivial⟩, ?_⟩
  rintro ⟨k, met⟩ ⟨hk, H⟩
  dsimp only at hk H
  have hml := H.l
  refine ⟨fun h3 => ?_, fun h3 => ?_⟩
  · dsimp only at h3
    have hk2 : k < xs.length := by omega
    refine ⟨k, rfl, hk2, fun h4 => ?_, fun h4 => ?_⟩
    · refine ⟨none, ⟨retB (permB_false fun h => ?_), trivial⟩, rfl, rfl⟩
      have := (h.2 k hk2).1
      omega
    refine ⟨fun h5 => ?_, fun h5 => ?_⟩
    · refine ⟨none, ⟨retB (permB_false fun h => ?_), trivial⟩, rfl, rfl⟩
      have := (h.2 k hk2).1
      omega
    obtain ⟨c, hcc⟩ : ∃ c : Nat, xs.getD k 0 = c := ⟨(xs.getD k 0).toNat, by omega⟩
    refine ⟨c, hcc, by omega, by dsimp only; omega, fun h6 => ?_, fun h6 => ?_⟩
    · exact ⟨none, ⟨retB (permB_false (metI_dup H hk2 hcc (by omega) h6)), trivial⟩, rfl, rfl⟩
    · refine ⟨c, hcc, by omega, by dsimp only; omega, ?_⟩
      exact ⟨((k + 1 : Nat) : Int), w64_eq (by dsimp only; omega) (by omega) (by omega), (k + 1, _), ⟨by dsimp only; omega, metI_step H hcc (by omega) (by omega) h6⟩, by dsimp only; omega, ⟨rfl, rfl⟩, ⟨rfl, rfl, rfl, rfl, rfl, trivial⟩, rfl, trivial⟩
  · dsimp only at h3
    exact ⟨none, ⟨retB ((permB_iff xs).2 ⟨⟨by omega, by omega⟩, fun i hi => H.ok i (by omega)⟩), trivial⟩, rfl, rfl⟩








theorem exB_yes {xs h : List Int} (e : exB xs h = true) : ColP xs ∧ PermP h ∧ h.length ≤ 4 ∧ (∀ i, i < xs.length → 0 ≤ xs.getD i 0 ∧ xs.getD i 0 < (h.length : Int)) := by
  unfold exB at e
  simp only [Bool.and_eq_true, decide_eq_true_eq] at e
  obtain ⟨⟨⟨h1, h2⟩, h3⟩, h4⟩ := e
  have hc := (colB_iff xs).1 h1
  exact ⟨hc, (permB_iff h).1 h2, h3, fun i hi => ⟨(hc.1 i hi).1, (belowB_iff _ _).1 h4 i hi⟩⟩



end Go.Proofs.Ytekknbcojfaohaa
