/-
  Contracts of FormatTerm.
-/
import Derived.Test.YtcamhpknmbohnaaPls
import Derived.Test.YtcamhpknmbohnaaWints
set_option linter.unusedVariables false
set_option linter.unusedSimpArgs false
namespace Go.Proofs.Ytcamhpknmbohnaa
open Go Go.Proofs.Ytcamhpknmbohnaa.Ow
theorem partT_len (i : Nat) (n : Int) (hi : i ≤ 10) (h0 : 0 ≤ n) (h1 : n ≤ 10) : (partT i n).length ≤ 50 := by
  have h2 := fmtI_len ((i : Int) + 1) (by omega) (by omega)
  have h3 := fmtI_len n (by omega) (by omega)
  unfold partT
  split
  · simp only [List.length_cons, List.length_append, List.length_nil]; omega
  · simp only [List.length_cons, List.length_append]; omega
theorem parT_mem (t : List Int) (hl : t.length ≤ 10) (ht : ∀ i, 0 ≤ t.getD i 0 ∧ t.getD i 0 ≤ 10) : ∀ k, k ≤ t.length → ∀ s ∈ parT t k, s.length ≤ 50
  | 0, _, s, hs => by simp [parT] at hs
  | k + 1, hk, s, hs => by
    rw [parT] at hs
    split at hs
    · exact parT_mem t hl ht k (by omega) s hs
    · rcases List.mem_append.1 hs with hs | hs
      · exact parT_mem t hl ht k (by omega) s hs
      · obtain rfl := List.mem_singleton.1 hs
        exact partT_len k _ (by omega) (ht k).1 (ht k).2
theorem join_len (xs : List (List UInt8)) (sep : List UInt8) (m : Nat) (h : ∀ s ∈ xs, s.length ≤ m) : (Lib.join xs sep).length ≤ xs.length * (sep.length + m) := by
  have := jn_len xs sep m (fun i hi => by rw [getD_get _ _ _ hi]; exact h _ (List.getElem_mem hi)) xs.length (Nat.le_refl _)
  rwa [jn_join] at this
theorem parT_join (t : List Int) (hl : t.length ≤ 10) (ht : ∀ i, 0 ≤ t.getD i 0 ∧ t.getD i 0 ≤ 10) (k : Nat) (hk : k ≤ t.length) : (Lib.join (parT t k) [32]).length ≤ 510 := by
  have h1 := join_len (parT t k) [32] 50 (parT_mem t hl ht k hk)
  have h2 := parT_le t k
  have h3 : (parT t k).length * ([32].length + 50) ≤ 10 * 51 := Nat.mul_le_mul (by omega) (Nat.le_refl _)
  omega
theorem fmtT_len {x : Tm} (h : TmOk x) : (fmtT x).length ≤ 600 := by
  have h1 := parT_join x.1 h.n1 h.t x.1.length (Nat.le_refl _)
  have hc := h.c
  have h2 := fmtI_len x.2 (by omega) (by omega)
  unfold fmtT jnT
  split
  · omega
  · simp only [List.length_append, List.length_cons, List.length_nil]; omega
/-- impl.FormatTerm -/
theorem impl_FormatTerm (x : Tm) (hx : TmOk x) : AC Try.prog 115 [.arr .mix [.ints x.1, .int x.2]] [] [.d true .str (fmtT x)] [] := by
  have hn := hx.n1
  have hc := hx.c
  refine AC_of tauOk 47 0 [2] Try.func115 rfl (by kernel_rfl) rfl rfl rfl rfl rfl ?_
  refine ⟨(by decide : 0 < 2), (by decide : 2 ≤ 1000), rfl, (by decide : 0 ≤ 1000), true, ?_⟩
  refine ⟨(by decide : 0 < 2), (by decide : 0 < 2), ?_⟩
  refine ⟨Nat, fun k => ⟨[(1, .ptr 0 0), (3, .ow 1), (9, .d true (.sl .int) x.1), (10, I x.1.length), (11, I (k : Nat))], [.sl 58 .mix [.ints x.1, .int x.2], .sl 9 .str (parT x.1 k)]⟩, fun k => k ≤ x.1.length, fun k => x.1.length - k, 0, Nat.zero_le _,
    ⟨⟨rfl, rfl⟩, ⟨rfl, rfl, rfl, rfl, rfl, trivial⟩, rfl, rfl, trivial⟩, fun k hk => ?_⟩
  dsimp only at hk
  have hpl := parT_le x.1 k
  refine ⟨fun h1 => ?_, fun h1 => ?_⟩
  · have hk2 : k < x.1.length := by omega
    have hb := hx.t k
    refine ⟨k, rfl, hk2, fun h2 => ?_, fun h2 => ?_⟩
    · exact ⟨((k + 1 : Nat) : Int), w64_eq (by omega) (by omega) (by omega), k + 1, by dsimp only; omega, by dsimp only; omega, ⟨rfl, rfl⟩, ⟨rfl, rfl, rfl, rfl, rfl, trivial⟩, rfl, rowE (by rw [parT, if_pos h2]), trivial⟩
    · refine ⟨((k : Int) + 1), w64_eq (by omega) (by omega) (by omega), [], false, _, _, impl_FormatInt ((k : Int) + 1) (by omega) (by omega), List.nodup_nil, rfl, rfl, trivial, ?_⟩
      have hf1 := fmtI_len ((k : Int) + 1) (by omega) (by omega)
      have hf2 := fmtI_len (x.1.getD k 0) (by omega) (by omega)
      refine ⟨by simp only [List.length_append, List.length_cons, List.length_nil]; omega, fun h3 => ?_, fun h3 => ?_⟩
      · refine ⟨[], false, _, _, impl_FormatInt (x.1.getD k 0) (by omega) (by omega), List.nodup_nil, rfl, rfl, trivial, ?_⟩
        refine ⟨by simp only [List.length_append, List.length_cons, List.length_nil]; omega, by simp only [List.length_append, List.length_cons, List.length_nil]; omega, ?_⟩
        refine ⟨rfl, by decide, false, ?_⟩
        refine ⟨rfl, Nat.zero_le _, rfl, by simp only [List.length_cons, List.length_nil]; omega, rfl, ?_⟩
        exact ⟨((k + 1 : Nat) : Int), w64_eq (by omega) (by omega) (by omega), k + 1, by dsimp only; omega, by dsimp only; omega, ⟨rfl, rfl⟩, ⟨rfl, rfl, rfl, rfl, rfl, trivial⟩, rfl, rowE (by rw [parT, if_neg h2, partT, if_neg h3]; rfl), trivial⟩
      · refine ⟨rfl, by decide, false, ?_⟩
        refine ⟨rfl, Nat.zero_le _, rfl, by simp only [List.length_cons, List.length_nil]; omega, rfl, ?_⟩
        exact ⟨((k + 1 : Nat) : Int), w64_eq (by omega) (by omega) (by omega), k + 1, by dsimp only; omega, by dsimp only; omega, ⟨rfl, rfl⟩, ⟨rfl, rfl, rfl, rfl, rfl, trivial⟩, rfl, rowE (by rw [parT, if_neg h2, partT, if_pos (Decidable.not_not.1 h3)]; simp), trivial⟩
  · obtain rfl : k = x.1.length := by omega
    have hj := parT_join x.1 hn hx.t x.1.length (Nat.le_refl _)
    have hf := fmtI_len x.2 (by omega) (by omega)
    refine ⟨fun h2 => ?_, fun h2 => ?_⟩
    · have e : parT x.1 x.1.length = [] := List.eq_nil_of_length_eq_zero (by omega)
      refine ⟨(by decide : 1 < 2), (by decide : 1 < 2), [], false, _, _, impl_FormatInt x.2 (by omega) (by omega), List.nodup_nil, rfl, rfl, trivial, ?_⟩
      exact ⟨none, ⟨retS (by rw [fmtT, jnT, if_pos e]), trivial⟩, rfl, rfl⟩
    · have e : parT x.1 x.1.length ≠ [] := fun e => h2 (by rw [e]; rfl)
      refine ⟨(by decide : 1 < 2), (by decide : 1 < 2), [], false, _, _, impl_FormatInt x.2 (by omega) (by omega), List.nodup_nil, rfl, rfl, trivial, ?_⟩
      refine ⟨by simp only [List.length_append, List.length_cons, List.length_nil]; omega, ?_⟩
      refine ⟨[], false, _, _, impl_Join false (parT x.1 x.1.length) [32] (by omega) (by omega), List.nodup_nil, rfl, rfl, trivial, ?_⟩
      refine ⟨by simp only [List.length_append, List.length_cons, List.length_nil]; omega, ?_⟩
      exact ⟨none, ⟨retS (by rw [fmtT, jnT, if_neg e]), trivial⟩, rfl, rfl⟩
/-- spec.FormatTerm -/
theorem spec_FormatTerm (x : Tm) (hx : TmOk x) : AC Try.prog 113 [.arr .mix [.ints x.1, .int x.2]] [] [.d true .str (fmtT x)] [] := by
  have hn := hx.n1
  have hc := hx.c
  have hf := fmtI_len x.2 (by omega) (by omega)
  have hjl : ∀ k, k ≤ x.1.length → (jnT (fmtI x.2) (parT x.1 k)).length ≤ 600 := fun k hk => by
    have h1 := parT_join x.1 hn hx.t k hk
    unfold jnT
    split
    · omega
    · simp only [List.length_append, List.length_cons, List.length_nil]; omega
  refine AC_of tauOk 43 0 [2] Try.func113 rfl (by kernel_rfl) rfl rfl rfl rfl rfl ?_
  refine ⟨(by decide : 0 < 2), (by decide : 2 ≤ 1000), (by decide : 1 < 2), (by decide : 1 < 2), [], false, _, _, spec_FormatInt x.2 (by omega) (by omega), List.nodup_nil, rfl, rfl, trivial, ?_⟩
  refine ⟨(by decide : 0 < 2), (by decide : 0 < 2), ?_⟩
  refine ⟨Nat, fun k => ⟨[(1, .ptr 0 0), (3, .d true .str (jnT (fmtI x.2) (parT x.1 k))), (10, .d true (.sl .int) x.1), (11, I x.1.length), (12, I (k : Nat))], [.sl 58 .mix [.ints x.1, .int x.2]]⟩, fun k => k ≤ x.1.length, fun k => x.1.length - k, 0, Nat.zero_le _,
    ⟨⟨rfl, rfl⟩, ⟨rfl, rfl, rfl, rfl, rfl, trivial⟩, rfl, trivial⟩, fun k hk => ?_⟩
  dsimp only at hk
  have hpl := hjl k hk
  refine ⟨fun h1 => ?_, fun h1 => ?_⟩
  · have hk2 : k < x.1.length := by omega
    have hb := hx.t k
    refine ⟨k, rfl, hk2, fun h2 => ?_, fun h2 => ?_⟩
    · exact ⟨((k + 1 : Nat) : Int), w64_eq (by omega) (by omega) (by omega), k + 1, by dsimp only; omega, by dsimp only; omega, ⟨rfl, rfl⟩, ⟨rfl, retS (by rw [parT, if_pos h2]), rfl, rfl, rfl, trivial⟩, rfl, trivial⟩
    · have hf1 := fmtI_len ((k : Int) + 1) (by omega) (by omega)
      have hf2 := fmtI_len (x.1.getD k 0) (by omega) (by omega)
      refine ⟨(by decide : 1 < 2), (by decide : 1 < 2), [], false, _, _, spec_FormatInt x.2 (by omega) (by omega), List.nodup_nil, rfl, rfl, trivial, fun h3 => ?_, fun h3 => ?_⟩
      · refine ⟨by simp only [List.length_append, List.length_cons, List.length_nil]; omega, by simp only [List.length_append, List.length_cons, List.length_nil]; omega, ?_⟩
        refine ⟨((k : Int) + 1), w64_eq (by omega) (by omega) (by omega), [], false, _, _, spec_FormatInt ((k : Int) + 1) (by omega) (by omega), List.nodup_nil, rfl, rfl, trivial, ?_⟩
        refine ⟨by simp only [List.length_append, List.length_cons, List.length_nil]; omega, fun h4 => ?_, fun h4 => ?_⟩
        · refine ⟨by simp only [List.length_append, List.length_cons, List.length_nil]; omega, [], false, _, _, spec_FormatInt (x.1.getD k 0) (by omega) (by omega), List.nodup_nil, rfl, rfl, trivial, ?_⟩
          refine ⟨by simp only [List.length_append, List.length_cons, List.length_nil]; omega, ?_⟩
          exact ⟨((k + 1 : Nat) : Int), w64_eq (by omega) (by omega) (by omega), k + 1, by dsimp only; omega, by dsimp only; omega, ⟨rfl, rfl⟩, ⟨rfl, retS (by rw [parT, if_neg h2, jnT_snoc, if_pos h3, partT, if_neg h4, h3]; simp), rfl, rfl, rfl, trivial⟩, rfl, trivial⟩
        · exact ⟨((k + 1 : Nat) : Int), w64_eq (by omega) (by omega) (by omega), k + 1, by dsimp only; omega, by dsimp only; omega, ⟨rfl, rfl⟩, ⟨rfl, retS (by rw [parT, if_neg h2, jnT_snoc, if_pos h3, partT, if_pos (Decidable.not_not.1 h4), h3]; simp), rfl, rfl, rfl, trivial⟩, rfl, trivial⟩
      · refine ⟨by simp only [List.length_append, List.length_cons, List.length_nil]; omega, by simp only [List.length_append, List.length_cons, List.length_nil]; omega, ?_⟩
        refine ⟨((k : Int) + 1), w64_eq (by omega) (by omega) (by omega), [], false, _, _, spec_FormatInt ((k : Int) + 1) (by omega) (by omega), List.nodup_nil, rfl, rfl, trivial, ?_⟩
        refine ⟨by simp only [List.length_append, List.length_cons, List.length_nil]; omega, fun h4 => ?_, fun h4 => ?_⟩
        · refine ⟨by simp only [List.length_append, List.length_cons, List.length_nil]; omega, [], false, _, _, spec_FormatInt (x.1.getD k 0) (by omega) (by omega), List.nodup_nil, rfl, rfl, trivial, ?_⟩
          refine ⟨by simp only [List.length_append, List.length_cons, List.length_nil]; omega, ?_⟩
          exact ⟨((k + 1 : Nat) : Int), w64_eq (by omega) (by omega) (by omega), k + 1, by dsimp only; omega, by dsimp only; omega, ⟨rfl, rfl⟩, ⟨rfl, retS (by rw [parT, if_neg h2, jnT_snoc, if_neg h3, partT, if_neg h4]; simp), rfl, rfl, rfl, trivial⟩, rfl, trivial⟩
        · exact ⟨((k + 1 : Nat) : Int), w64_eq (by omega) (by omega) (by omega), k + 1, by dsimp only; omega, by dsimp only; omega, ⟨rfl, rfl⟩, ⟨rfl, retS (by rw [parT, if_neg h2, jnT_snoc, if_neg h3, partT, if_pos (Decidable.not_not.1 h4)]; simp), rfl, rfl, rfl, trivial⟩, rfl, trivial⟩
  · obtain rfl : k = x.1.length := by omega
    exact ⟨none, ⟨rfl, trivial⟩, rfl, rfl⟩
end Go.Proofs.Ytcamhpknmbohnaa
