/-
  Contracts of the functions on cycles of permutations.
-/
import Derived.Test.YtbnonelkdgkpdaaPls
import Derived.Test.YtbnonelkdgkpdaaWexc
import Derived.Test.YtbnonelkdgkpdaaWints
set_option linter.unusedVariables false
namespace Go.Proofs.Ytbnonelkdgkpdaa
open Go Go.Proofs.Ytbnonelkdgkpdaa.Ow
theorem permR {xs : List Int} (h : PermP xs) : ∀ i, i < xs.length → 0 ≤ xs.getD i 0 ∧ xs.getD i 0 < (xs.length : Int) := fun i hi => (h.2 i hi).1
/-- impl.CyclesOf of a permutation -/
theorem impl_CyclesOf (sh : Bool) (xs : List Int) (hP : PermP xs) : AC Try.prog 50 [.d sh (.sl .int) xs] [] [.ow 0] [.sl 25 (.sl .int) (cycL xs)] := by
  have hn := hP.1
  have hx := permR hP
  refine AC_of tauOk 48 0 [2] Try.func50 rfl (by kernel_rfl) rfl rfl rfl rfl rfl ?_
  refine ⟨[], false, _, _, impl_PermOk sh xs (by omega), List.nodup_nil, rfl, rfl, trivial, fun h1 => ?_, fun h1 => by rw [(permB_iff xs).2 hP] at h1; cases h1⟩
  refine ⟨rfl, by decide, true, ?_⟩
  refine ⟨xs.length, xs.length, rfl, rfl, Nat.le_refl _, by omega, ?_⟩
  refine ⟨Nat, fun k => ⟨[(0, .d sh (.sl .int) xs), (3, .ow 0), (4, .ow 1), (16, I xs.length), (17, I (k : Nat))], [.sl 25 (.sl .int) (cycS xs k).2, .sl 4 .bool (cycS xs k).1]⟩, fun k => k ≤ xs.length, fun k => xs.length - k, 0, Nat.zero_le _,
    ⟨⟨rfl, rfl⟩, ⟨rfl, rfl, rfl, rfl, rfl, trivial⟩, rfl, rfl, trivial⟩, fun k hk => ?_⟩
  dsimp only at hk
  obtain ⟨g1, g2, g3⟩ := cyc_ok xs hx k hk
  refine ⟨fun h2 => ?_, fun h2 => ?_⟩
  · have hk2 : k < xs.length := by omega
    refine ⟨k, rfl, by omega, fun h3 => ?_, fun h3 => ?_⟩
    · have e := cyc_yes xs k h3
      exact ⟨((k + 1 : Nat) : Int), w64_eq (by omega) (by omega) (by omega), k + 1, by dsimp only; omega, by dsimp only; omega, ⟨rfl, rfl⟩, ⟨rfl, rfl, rfl, rfl, rfl, trivial⟩, rowE (by rw [e]), rowE (by rw [e]), trivial⟩
    · have e := cyc_no xs k h3
      refine ⟨rfl, by decide, true, ?_⟩
      refine ⟨List Bool × List Int × Nat × Nat, fun i => ⟨[(0, .d sh (.sl .int) xs), (3, .ow 0), (4, .ow 1), (16, I xs.length), (17, I (k : Nat)), (6, .ow 2), (7, I (i.2.2.1 : Nat))], [.sl 25 (.sl .int) (cycS xs k).2, .sl 4 .bool i.1, .sl 3 .int i.2.1]⟩,
        fun i => (i.1.length = xs.length ∧ i.2.2.1 < xs.length) ∧ (cnF i.1 ≤ i.2.2.2 ∧ i.2.1.length + i.2.2.2 ≤ xs.length) ∧ walkC xs i.2.2.2 i.1 i.2.1 i.2.2.1 = walkC xs xs.length (cycS xs k).1 [] k, fun i => i.2.2.2, ((cycS xs k).1, [], k, xs.length), ⟨⟨g1, hk2⟩, ⟨by rw [← g1]; exact List.count_le_length, by simp⟩, rfl⟩,
        ⟨⟨rfl, rfl⟩, ⟨rfl, rfl, rfl, rfl, rfl, rfl, rfl, trivial⟩, rfl, rfl, rfl, trivial⟩, ?_⟩
      rintro ⟨met, c, x, f⟩ ⟨⟨m1, m2⟩, ⟨m3, m4⟩, m5⟩
      dsimp only at m1 m2 m3 m4 m5
      refine ⟨x, rfl, by dsimp only; omega, fun h4 => ?_, fun h4 => ?_⟩
      · rw [walkC_met _ _ _ _ _ h4] at m5
        refine ⟨rfl, rfl, by decide, false, ?_⟩
        refine ⟨rfl, Nat.zero_le _, rfl, by simp only [List.length_cons, List.length_nil]; omega, rfl, ?_⟩
        exact ⟨((k + 1 : Nat) : Int), w64_eq (by omega) (by omega) (by omega), k + 1, by dsimp only; omega, by dsimp only; omega, ⟨rfl, rfl⟩, ⟨rfl, rfl, rfl, rfl, rfl, trivial⟩, rowE (by rw [e, ← m5]), rowE (by rw [e, ← m5]), trivial⟩
      · have hcn := cnF_set met x (by omega) h4
        obtain ⟨f', rfl⟩ : ∃ f', f = f' + 1 := ⟨f - 1, by omega⟩
        rw [walkC_not _ _ _ _ _ h4] at m5
        have hb := hx x m2
        refine ⟨x, rfl, by dsimp only; omega, ?_⟩
        refine ⟨rfl, by decide, false, ?_⟩
        refine ⟨rfl, Nat.zero_le _, rfl, by simp only [List.length_cons, List.length_nil]; omega, rfl, ?_⟩
        refine ⟨x, rfl, m2, ?_⟩
        exact ⟨(met.set x true, c ++ [(x : Int)], (xs.getD x 0).toNat, f'), ⟨⟨(List.length_set ..).trans m1, by dsimp only; omega⟩, ⟨by dsimp only; omega, by dsimp only; rw [List.length_append]; simp only [List.length_cons, List.length_nil]; omega⟩, m5⟩, by dsimp only; omega, ⟨rfl, rfl⟩, ⟨rfl, rfl, rfl, rfl, rfl, rfl, retI (by dsimp only; omega), trivial⟩, rfl, rfl, rfl, trivial⟩
  · obtain rfl : k = xs.length := by omega
    exact ⟨some 0, ⟨⟨rfl, rfl⟩, trivial⟩, ⟨rfl, rfl⟩, rfl⟩
/-- a cycle as text is short -/
theorem cyc_text (c : List Int) (n : Nat) (hn : n ≤ 10) (h : c.length ≤ n ∧ ∀ x ∈ c, 0 ≤ x ∧ x < (n : Int)) : In64 c ∧ c.length ≤ 1048576 ∧ (Lib.join (c.map fmtI) [32]).length ≤ 300 := by
  have hi : ∀ i, i < c.length → 0 ≤ c.getD i 0 ∧ c.getD i 0 < (n : Int) := fun i hi => by
    rw [getD_get _ _ _ hi]; exact h.2 _ (List.getElem_mem hi)
  refine ⟨fun i hi' => by have := hi i hi'; omega, by omega, ?_⟩
  have hj := jn_len (c.map fmtI) [32] 20 (fun i hi' => by
    have hi2 : i < c.length := by simpa using hi'
    rw [getD_get _ _ _ hi', List.getElem_map]
    have := h.2 _ (List.getElem_mem hi2)
    exact fmtI_len _ (by omega) (by omega)) (c.map fmtI).length (Nat.le_refl _)
  rw [jn_join, List.length_map] at hj
  have : c.length * ([32].length + 20) ≤ 10 * 21 := Nat.mul_le_mul (by omega) (by simp)
  omega
theorem fcyS_len (l : List (List Int)) (B : Nat) (hB : 302 ≤ B) (h : ∀ c ∈ l, (Lib.join (c.map fmtI) [32]).length ≤ 300) : ∀ k, k ≤ l.length → (fcyS l k).length ≤ k * B
  | 0, _ => by simp [fcyS]
  | k + 1, hk => by
    have ih := fcyS_len l B hB h k (by omega)
    have hc := h (l.getD k []) (by rw [getD_get _ _ _ (show k < l.length by omega)]; exact List.getElem_mem _)
    rw [Nat.succ_mul]
    rw [fcyS]
    split
    · simp only [List.length_append, List.length_cons, List.length_nil]; omega
    · omega
/-- what is known of the cycles -/
theorem cycL_ok {xs : List Int} (hP : PermP xs) : (cycL xs).length ≤ 10 ∧ ∀ k, k < (cycL xs).length → 1 ≤ ((cycL xs).getD k []).length ∧ In64 ((cycL xs).getD k []) ∧ ((cycL xs).getD k []).length ≤ 1048576 ∧ (Lib.join (((cycL xs).getD k []).map fmtI) [32]).length ≤ 300 := by
  obtain ⟨h1, h2, h3⟩ := cyc_ok xs (permR hP) xs.length (Nat.le_refl _)
  have hn := hP.1.2
  refine ⟨by show (cycS xs xs.length).2.length ≤ 10; omega, fun k hk => ?_⟩
  have hm : (cycL xs).getD k [] ∈ (cycS xs xs.length).2 := by rw [getD_get _ _ _ hk]; exact List.getElem_mem _
  obtain ⟨g1, g2, g3⟩ := h3 _ hm
  obtain ⟨t1, t2, t3⟩ := cyc_text _ xs.length hn ⟨g2, g3⟩
  exact ⟨g1, t1, t2, t3⟩
theorem fcyL_len {xs : List Int} (hP : PermP xs) : ∀ k, k ≤ (cycL xs).length → (fcyS (cycL xs) k).length ≤ 4000 := fun k hk => by
  have h := cycL_ok hP
  have := fcyS_len (cycL xs) 302 (Nat.le_refl _) (fun c hc => by
    obtain ⟨i, hi, rfl⟩ := List.getElem_of_mem hc
    have := (h.2 i hi).2.2.2
    rwa [getD_get _ _ _ hi] at this) k hk
  omega
end Go.Proofs.Ytbnonelkdgkpdaa
