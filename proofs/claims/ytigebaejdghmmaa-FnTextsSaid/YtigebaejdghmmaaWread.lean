/-
  Contracts of the functions that read trees from their codes.
-/
import Derived.Test.YtigebaejdghmmaaPlS0
import Derived.Test.YtigebaejdghmmaaWcode
set_option linter.unusedVariables false
namespace Go.Proofs.Ytigebaejdghmmaa
open Go Go.Proofs.Ytigebaejdghmmaa.Ow
/-- one sign read: the parents so far, and where we are -/
theorem rdT_s (code : List UInt8) (k : Nat) (h : k < code.length) : rdT (code.take (k + 1)) = rdStep (rdT (code.take k)) (code.getD k 0) := by
  unfold rdT
  rw [L_succ code k 0 h, List.foldl_append]; rfl
structure RdI2 (s : List Int × Int) (k : Nat) : Prop where
  l : s.1.length ≤ k
  a : -1 ≤ s.2 ∧ s.2 < (s.1.length : Int)
  e : ∀ i, i < s.1.length → -1 ≤ s.1.getD i 0 ∧ s.1.getD i 0 < (s.1.length : Int)
theorem rdT_ok (code : List UInt8) : ∀ k, k ≤ code.length → RdI2 (rdT (code.take k)) k
  | 0, _ => ⟨Nat.le_refl _, (by decide : (-1 : Int) ≤ -1 ∧ (-1 : Int) < ((0 : Nat) : Int)), fun i hi => by simp [rdT] at hi⟩
  | k + 1, hk => by
    have ih := rdT_ok code k (by omega)
    rw [rdT_s code k (by omega)]
    generalize rdT (code.take k) = s at *
    unfold rdStep
    split
    · refine ⟨by have := ih.l; simp; omega, by have := ih.a; simp; omega, fun i hi => ?_⟩
      dsimp only at hi ⊢
      rw [List.length_append, List.length_cons, List.length_nil] at hi ⊢
      by_cases h : i < s.1.length
      · rw [L_app_l _ _ _ _ h]
        have := ih.e i h; omega
      · rw [L_app_r _ _ _ _ (by omega), show i - s.1.length = 0 by omega]
        have := ih.a
        show -1 ≤ s.2 ∧ s.2 < _
        omega
    · split
      · rename_i h
        have ha := ih.a
        have := ih.e s.2.toNat (by omega)
        exact ⟨by have := ih.l; dsimp only; omega, this, ih.e⟩
      · exact ⟨by have := ih.l; omega, ih.a, ih.e⟩
/-- the tree of a code, if it is one -/
theorem readB_alt (code : List UInt8) : readB code = (decide (code.length ≤ 24) && (decide (code ≠ []) && decide (treeCode (rdT code).1 = code))) := by
  unfold readB
  congr 1
  cases hT : treeB (rdT code).1 with
  | true =>
    rw [Bool.true_and]
    by_cases h : treeCode (rdT code).1 = code
    · have hne : code ≠ [] := by
        rw [← h, treeCode, if_pos hT, codeF_s]
        simp [cdS]
      rw [decide_eq_true h, decide_eq_true hne]; rfl
    · rw [decide_eq_false h, Bool.and_false]
  | false =>
    rw [Bool.false_and]
    have hc : treeCode (rdT code).1 = [] := by rw [treeCode, if_neg (by rw [hT]; decide)]
    rw [hc]
    by_cases h : code = []
    · rw [decide_eq_false (p := code ≠ []) (fun e => e h)]; rfl
    · rw [decide_eq_false (p := ([] : List UInt8) = code) (fun e => h e.symm), Bool.and_false]
theorem impl_ReadTree_loop (code : List UInt8) (r : List AV) (rr : List Row)
    (hno : readB code = false → r = [.nil, .d true .bool false] ∧ rr = []) (hyes : readB code = true → r = [.ow 0, .d true .bool true] ∧ rr = [.sl 3 .int (rdT code).1]) :
    AC Try.prog 48 [.d true .str code] [] r rr := by
  refine AC_of tauOk 43 0 [2, 3] Try.func48 rfl (by kernel_rfl) rfl rfl rfl rfl rfl ?_
  refine ⟨fun h1 => ?_, fun h1 => ?_⟩
  · obtain ⟨rfl, rfl⟩ := hno (by rw [readB, decide_eq_false (by omega), Bool.false_and])
    exact ⟨none, ⟨rfl, rfl, trivial⟩, rfl, rfl⟩
  have hl : code.length ≤ 24 := by omega
  refine ⟨rfl, by decide, true, ?_⟩
  refine ⟨Nat, fun k => ⟨[(0, .d true .str code), (4, .ow 0), (5, I (rdT (code.take k)).2), (12, I code.length), (13, I (k : Nat))], [.sl 3 .int (rdT (code.take k)).1]⟩, fun k => k ≤ code.length, fun k => code.length - k, 0, Nat.zero_le _,
    ⟨⟨rfl, rfl⟩, ⟨rfl, rfl, rfl, rfl, rfl, trivial⟩, rfl, trivial⟩, fun k hk => ?_⟩
  dsimp only at hk
  have hi := rdT_ok code k hk
  refine ⟨fun h2 => ?_, fun h2 => ?_⟩
  · have hk2 : k < code.length := by omega
    have hs := rdT_s code k hk2
    have hil := hi.l
    have hia := hi.a
    refine ⟨k, rfl, hk2, fun h3 => ?_, fun h3 => ?_⟩
    · have e : rdStep (rdT (code.take k)) (code.getD k 0) = ((rdT (code.take k)).1 ++ [(rdT (code.take k)).2], (((rdT (code.take k)).1.length : Nat) : Int)) := by rw [rdStep, if_pos h3]
      refine ⟨rfl, by decide, false, ?_⟩
      refine ⟨rfl, Nat.zero_le _, rfl, by simp only [List.length_cons, List.length_nil]; omega, rfl, ?_⟩
      refine ⟨(((rdT (code.take k)).1.length : Nat) : Int), w64_eq (by dsimp only; rw [List.length_append]; simp) (by omega) (by omega), ?_⟩
      exact ⟨((k + 1 : Nat) : Int), w64_eq (by omega) (by omega) (by omega), k + 1, by dsimp only; omega, by dsimp only; omega, ⟨rfl, rfl⟩, ⟨rfl, rfl, retI (by rw [hs, e]), rfl, rfl, trivial⟩, rowE (by rw [hs, e]), trivial⟩
    · refine ⟨fun h4 => ?_, fun h4 => ?_⟩
      · have e : rdStep (rdT (code.take k)) (code.getD k 0) = ((rdT (code.take k)).1, (rdT (code.take k)).1.getD (rdT (code.take k)).2.toNat 0) := by rw [rdStep, if_neg h3, if_pos h4]
        refine ⟨(rdT (code.take k)).2.toNat, (Int.toNat_of_nonneg h4).symm, by omega, ?_⟩
        exact ⟨((k + 1 : Nat) : Int), w64_eq (by omega) (by omega) (by omega), k + 1, by dsimp only; omega, by dsimp only; omega, ⟨rfl, rfl⟩, ⟨rfl, rfl, retI (by rw [hs, e]), rfl, rfl, trivial⟩, rowE (by rw [hs, e]), trivial⟩
      · have e : rdStep (rdT (code.take k)) (code.getD k 0) = rdT (code.take k) := by rw [rdStep, if_neg h3, if_neg h4]
        exact ⟨((k + 1 : Nat) : Int), w64_eq (by omega) (by omega) (by omega), k + 1, by dsimp only; omega, by dsimp only; omega, ⟨rfl, rfl⟩, ⟨rfl, rfl, retI (by rw [hs, e]), rfl, rfl, trivial⟩, rowE (by rw [hs, e]), trivial⟩
  · obtain rfl : k = code.length := by omega
    have hil := hi.l
    dsimp only at hil ⊢
    rw [List.take_length] at hil ⊢
    refine ⟨fun h2 => ?_, fun h2 => ?_⟩
    · obtain ⟨rfl, rfl⟩ := hno (by rw [readB_alt, decide_eq_false (p := code ≠ []) (fun e => e h2), Bool.false_and, Bool.and_false])
      exact ⟨none, ⟨rfl, rfl, trivial⟩, rfl, rfl⟩
    · refine ⟨[], false, _, _, impl_TreeCode false (rdT code).1 (by omega), List.nodup_nil, rfl, rfl, trivial, fun h3 => ?_, fun h3 => ?_⟩
      · obtain ⟨rfl, rfl⟩ := hno (by rw [readB_alt, decide_eq_false (p := treeCode (rdT code).1 = code) h3, Bool.and_false, Bool.and_false])
        exact ⟨none, ⟨rfl, rfl, trivial⟩, rfl, rfl⟩
      · obtain ⟨rfl, rfl⟩ := hyes (by rw [readB_alt, decide_eq_true hl, decide_eq_true (p := code ≠ []) h2, decide_eq_true (Classical.not_not.1 h3)]; rfl)
        exact ⟨some 0, ⟨⟨rfl, rfl⟩, rfl, trivial⟩, ⟨rfl, rfl⟩, rfl⟩
theorem impl_ReadTree (code : List UInt8) (h : readB code = true) : AC Try.prog 48 [.d true .str code] [] [.ow 0, .d true .bool true] [.sl 3 .int (rdT code).1] :=
  impl_ReadTree_loop code _ _ (fun e => by rw [h] at e; cases e) (fun _ => ⟨rfl, rfl⟩)
theorem impl_ReadTree_no (code : List UInt8) (h : readB code = false) : AC Try.prog 48 [.d true .str code] [] [.nil, .d true .bool false] [] :=
  impl_ReadTree_loop code _ _ (fun _ => ⟨rfl, rfl⟩) (fun e => by rw [h] at e; cases e)
end Go.Proofs.Ytigebaejdghmmaa
