/-
  Contracts of the functions that join texts.
-/
import Derived.Test.YtcamhpknmbohnaaPls
import Derived.Test.YtcamhpknmbohnaaTy
import Derived.Test.YtcamhpknmbohnaaShelf
set_option linter.unusedVariables false
namespace Go.Proofs.Ytcamhpknmbohnaa
open Go Go.Proofs.Ytcamhpknmbohnaa.Ow
/-- strings.Join -/
theorem strings_Join (sh : Bool) (xs : List (List UInt8)) (sep : List UInt8) (hN : xs.length ≤ 140737488355328) (hlen : (Lib.join xs sep).length ≤ 140737488355328) :
    AC Try.prog 165 [.d sh (.sl .str) xs, .d true .str sep] [] [.d true .str (Lib.join xs sep)] [] := by
  refine AC.flat (v := .string ⟨(Lib.join xs sep).toArray⟩) (fun w A => rfl) ⟨_, _, Try.func165, rfl, by kernel_rfl⟩ fun w A vs hold hvs => ?_
  obtain ⟨v, r, rfl, ⟨a, cap, rfl, hcap, hnil, hc⟩, v2, r2, rfl, h2, h3⟩ := hvs
  cases h2
  cases h3
  have e1 := map_ba xs
  rcases hc with rfl | ⟨b, o, rfl, hS, hc⟩
  · exact (Try.strings_Join_none a cap ⟨sep.toArray⟩ w).mono fun e w' ⟨he, hw⟩ => ⟨he, hw ▸ RowKit.Below.refl _ _⟩
  · by_cases h0 : xs = []
    · subst h0
      exact (Try.strings_Join_none _ cap ⟨sep.toArray⟩ w).mono fun e w' ⟨he, hw⟩ => ⟨he, hw ▸ RowKit.Below.refl _ _⟩
    · have hp : 0 < xs.length := List.length_pos_iff.2 h0
      obtain ⟨cv, hcv, _⟩ := hc 0 hp
      have hbk := cell_lt hcv
      have key := Try.strings_Join b o cap (xs.map (fun l => (⟨l.toArray⟩ : ByteArray))) ⟨sep.toArray⟩ w (fun j x hj => by
        rw [List.getElem?_map] at hj
        cases hx : xs[j]? with
        | none => rw [hx] at hj; cases hj
        | some l =>
          rw [hx] at hj; cases hj
          obtain ⟨hjl, rfl⟩ := List.getElem?_eq_some_iff.1 hx
          obtain ⟨cv, h1, h2⟩ := hc j hjl
          rw [h1]; cases h2; rfl) hbk (by simpa using hN) (by simpa using hcap) (by rw [e1]; exact hlen)
      rw [e1, List.length_map] at key
      exact key

/-- impl.Join -/
theorem impl_Join (sh : Bool) (xs : List (List UInt8)) (sep : List UInt8) (hN : xs.length ≤ 140737488355328) (hlen : (Lib.join xs sep).length ≤ 140737488355328) :
    AC Try.prog 117 [.d sh (.sl .str) xs, .d true .str sep] [] [.d true .str (Lib.join xs sep)] [] := by
  refine AC_of tauOk 8 0 [4] Try.func117 rfl (by kernel_rfl) rfl rfl rfl rfl rfl ?_
  refine ⟨[], false, _, _, strings_Join sh xs sep hN hlen, List.nodup_nil, rfl, rfl, trivial, ?_⟩
  exact ⟨none, ⟨rfl, trivial⟩, rfl, rfl⟩

/-- spec.Join -/
theorem spec_Join (sh : Bool) (xs : List (List UInt8)) (sep : List UInt8) (hN : xs.length ≤ 140737488355328) (hlen : (Lib.join xs sep).length ≤ 140737488355328) :
    AC Try.prog 114 [.d sh (.sl .str) xs, .d true .str sep] [] [.d true .str (Lib.join xs sep)] [] := by
  rw [← jn_join] at hlen ⊢
  refine AC_of tauOk 25 0 [4] Try.func114 rfl (by kernel_rfl) rfl rfl rfl rfl rfl ?_
  refine ⟨Nat, fun k => ⟨[(1, .d true .str sep), (5, .d true .str (jn xs sep k)), (8, .d sh (.sl .str) xs), (9, I xs.length), (10, I (k : Nat))], []⟩, fun k => k ≤ xs.length, fun k => xs.length - k, 0, Nat.zero_le _,
    ⟨⟨rfl, rfl⟩, ⟨rfl, rfl, rfl, rfl, rfl, trivial⟩, trivial⟩, fun k hk => ?_⟩
  dsimp only at hk
  refine ⟨fun h1 => ?_, fun h1 => ?_⟩
  · have hk2 : k < xs.length := by omega
    have hle := jn_le xs sep (k + 1) xs.length hk2
    refine ⟨k, rfl, hk2, fun h2 => ?_, fun h2 => ?_⟩
    · have e := jn_s xs sep k (by omega)
      have e2 := congrArg List.length e
      simp only [List.length_append] at e2
      refine ⟨by omega, by rw [List.length_append]; omega, ?_⟩
      exact ⟨((k + 1 : Nat) : Int), w64_eq (by omega) (by omega) (by omega), k + 1, by dsimp only; omega, by dsimp only; omega, ⟨rfl, rfl⟩, ⟨rfl, retS e.symm, rfl, rfl, rfl, trivial⟩, trivial⟩
    · obtain rfl : k = 0 := by omega
      have e : jn xs sep (0 + 1) = xs.getD 0 [] := rfl
      refine ⟨by rw [e] at hle; simp only [jn, List.length_nil]; omega, ?_⟩
      exact ⟨((0 + 1 : Nat) : Int), w64_eq (by omega) (by omega) (by omega), 0 + 1, by dsimp only; omega, by dsimp only; omega, ⟨rfl, rfl⟩, ⟨rfl, rfl, rfl, rfl, rfl, trivial⟩, trivial⟩
  · obtain rfl : k = xs.length := by omega
    exact ⟨none, ⟨rfl, trivial⟩, rfl, rfl⟩

end Go.Proofs.Ytcamhpknmbohnaa
