/-
  Contracts of the functions that list the codes of all trees.
-/
import Derived.Test.YtigebaejdghmmaaWcode
import Derived.Test.YtigebaejdghmmaaWstr
import Derived.Test.YtigebaejdghmmaaWlst
set_option linter.unusedVariables false
namespace Go.Proofs.Ytigebaejdghmmaa
open Go Go.Proofs.Ytigebaejdghmmaa.Ow
theorem lstT_get (k j : Nat) (hj : j < (lstT k).length) : ((lstT k).getD j []).length = k + 1 := by
  rw [getD_get _ _ _ hj]; exact lstT_len k _ (List.getElem_mem hj)
/-- impl.TreeCodes -/
theorem impl_TreeCodes_raw (n : Nat) (h1 : 1 ≤ n) (hn : n < 8) (ys : List Tx) (hp : ys.Perm ((lstT (n - 1)).map fun l => codeF l 12 0)) (hs : ys.Pairwise fun x y => ¬ y < x) :
    AC Try.prog 23 [I (n : Nat)] [] [.x (.sb 0 0 (Lib.compact ys).length), .d true .bool true] [.sl 9 .str (Lib.compact ys ++ List.replicate (ys.length - (Lib.compact ys).length) [])] := by
  have H := tc_ok n hn h1
  have hL2 := H.l2
  have hyl := hp.length_eq
  rw [List.length_map] at hyl
  refine AC_of tauOk 65 0 [2, 3] Try.func23 rfl (by kernel_rfl) rfl rfl rfl rfl rfl ?_
  refine ⟨fun h => by omega, fun _ => ?_⟩
  refine ⟨fun h => by omega, fun _ => ?_⟩
  refine ⟨rfl, by decide, false, rfl, by decide, false, ?_⟩
  refine ⟨Nat, fun i => ⟨[(0, I (n : Nat)), (4, .d true (.sl (.sl .int)) (lstT i)), (5, I ((i + 1 : Nat)))], []⟩, fun i => i + 1 ≤ n, fun i => n - i, 0, by omega,
    ⟨⟨rfl, rfl⟩, ⟨rfl, rfl, rfl, trivial⟩, trivial⟩, fun i hi => ?_⟩
  dsimp only at hi
  have hc := lstT_cnt i (by omega)
  refine ⟨fun h2 => ?_, fun h2 => ?_⟩
  · have hi2 : i + 1 < n := by omega
    have hc2 := lstT_cnt (i + 1) (by omega)
    refine ⟨rfl, by decide, true, ?_⟩
    refine ⟨Nat, fun a => ⟨[(0, I (n : Nat)), (5, I ((i + 1 : Nat))), (6, .ow 0), (27, .d true (.sl (.sl .int)) (lstT i)), (28, I (lstT i).length), (29, I (a : Nat))], [.sl 23 (.sl .int) (extA (lstT i) (i + 1) a)]⟩, fun a => a ≤ (lstT i).length, fun a => (lstT i).length - a, 0, Nat.zero_le _,
      ⟨⟨rfl, rfl⟩, ⟨rfl, rfl, rfl, rfl, rfl, rfl, trivial⟩, rfl, trivial⟩, fun a ha => ?_⟩
    dsimp only at ha
    refine ⟨fun h3 => ?_, fun h3 => ?_⟩
    · have ha2 : a < (lstT i).length := by omega
      have hl := lstT_get i a ha2
      have hne : (lstT i).getD a [] ≠ [] := fun e => by rw [e] at hl; simp at hl
      have hax := extA_len (lstT i) (i + 1) a ha
      have hmul : a * (i + 1) ≤ 720 * 7 := Nat.mul_le_mul (by omega) (by omega)
      refine ⟨a, rfl, ha2, ?_⟩
      refine ⟨Nat, fun b => ⟨[(0, I (n : Nat)), (5, I ((i + 1 : Nat))), (6, .ow 0), (8, .d true (.sl .int) ((lstT i).getD a [])), (27, .d true (.sl (.sl .int)) (lstT i)), (28, I (lstT i).length), (29, I (a : Nat)), (33, I ((i + 1 : Nat))), (34, I (b : Nat))], [.sl 23 (.sl .int) (extA (lstT i) (i + 1) a ++ extL ((lstT i).getD a []) b)]⟩, fun b => b ≤ i + 1, fun b => i + 1 - b, 0, Nat.zero_le _,
        ⟨⟨rfl, rfl⟩, ⟨rfl, rfl, rfl, rfl, rfl, rfl, rfl, rfl, rfl, trivial⟩, rowE (by simp [extL]), trivial⟩, fun b hb => ?_⟩
      dsimp only at hb
      have hxl := extL_len ((lstT i).getD a []) b
      refine ⟨fun h4 => ?_, fun h4 => ?_⟩
      · have hb2 : b < i + 1 := by omega
        refine ⟨[], false, _, _, slices_Clone_int true ((lstT i).getD a []) (by omega) hne, List.nodup_nil, rfl, rfl, trivial, ?_⟩
        refine ⟨rfl, by decide, false, ?_⟩
        refine ⟨rfl, Nat.zero_le _, rfl, by simp only [List.length_cons, List.length_nil]; omega, rfl, ?_⟩
        refine ⟨rfl, rfl, by decide, false, ?_⟩
        refine ⟨rfl, Nat.zero_le _, rfl, by simp only [List.length_append, List.length_cons, List.length_nil]; omega, rfl, ?_⟩
        exact ⟨((b + 1 : Nat) : Int), w64_eq (by omega) (by omega) (by omega), b + 1, by dsimp only; omega, by dsimp only; omega, ⟨rfl, rfl⟩, ⟨rfl, rfl, rfl, rfl, rfl, rfl, rfl, rfl, rfl, trivial⟩, rowE (by rw [extL_s, List.append_assoc]), trivial⟩
      · obtain rfl : b = i + 1 := by omega
        exact ⟨((a + 1 : Nat) : Int), w64_eq (by omega) (by omega) (by omega), a + 1, by dsimp only; omega, by dsimp only; omega, ⟨rfl, rfl⟩, ⟨rfl, rfl, rfl, rfl, rfl, rfl, trivial⟩, rowE (extA_s _ _ _ ha2).symm, trivial⟩
    · obtain rfl : a = (lstT i).length := by omega
      refine ⟨((i + 1 + 1 : Nat) : Int), w64_eq (by omega) (by omega) (by omega), i + 1, by dsimp only; omega, by dsimp only; omega, ⟨rfl, rfl⟩, ⟨rfl, ⟨rfl, rfl, extA_all i⟩, rfl, trivial⟩, trivial⟩
  · obtain rfl : i = n - 1 := by omega
    refine ⟨rfl, by decide, true, ?_⟩
    refine ⟨Nat, fun k => ⟨[(10, .ow 0), (49, .d true (.sl (.sl .int)) (lstT (n - 1))), (50, I (lstT (n - 1)).length), (51, I (k : Nat))], [.sl 9 .str (((lstT (n - 1)).take k).map fun l => codeF l 12 0)]⟩, fun k => k ≤ (lstT (n - 1)).length, fun k => (lstT (n - 1)).length - k, 0, Nat.zero_le _,
      ⟨⟨rfl, rfl⟩, ⟨rfl, rfl, rfl, rfl, trivial⟩, rfl, trivial⟩, fun k hk => ?_⟩
    dsimp only at hk
    refine ⟨fun h3 => ?_, fun h3 => ?_⟩
    · have hk2 : k < (lstT (n - 1)).length := by omega
      have hl := lstT_get (n - 1) k hk2
      have ht := (H.tr _ (List.getElem_mem hk2)).1
      have hml : (((lstT (n - 1)).take k).map fun l => codeF l 12 0).length ≤ 720 := by rw [List.length_map, List.length_take]; omega
      have hms : ((lstT (n - 1)).take (k + 1)).map (fun l => codeF l 12 0) = ((lstT (n - 1)).take k).map (fun l => codeF l 12 0) ++ [codeF ((lstT (n - 1)).getD k []) 12 0] := by
        rw [L_succ _ _ [] hk2, List.map_append]; rfl
      have htc : treeCode ((lstT (n - 1)).getD k []) = codeF ((lstT (n - 1)).getD k []) 12 0 := by
        rw [treeCode, getD_get _ _ _ hk2, if_pos ht]
      have hT := impl_TreeCode true ((lstT (n - 1)).getD k []) (by omega)
      rw [htc] at hT
      refine ⟨k, rfl, hk2, [], false, _, _, hT, List.nodup_nil, rfl, rfl, trivial, ?_⟩
      refine ⟨rfl, by decide, false, ?_⟩
      refine ⟨rfl, Nat.zero_le _, rfl, by simp only [List.length_cons, List.length_nil]; omega, rfl, ?_⟩
      exact ⟨((k + 1 : Nat) : Int), w64_eq (by omega) (by omega) (by omega), k + 1, by dsimp only; omega, by dsimp only; omega, ⟨rfl, rfl⟩, ⟨rfl, rfl, rfl, rfl, trivial⟩, rowE hms.symm, trivial⟩
    · obtain rfl : k = (lstT (n - 1)).length := by omega
      have hp2 : ys.Perm (((lstT (n - 1)).take (lstT (n - 1)).length).map fun l => codeF l 12 0) := by rw [List.take_length]; exact hp
      have hpl := hp2.length_eq
      refine ⟨[0], false, _, _, slices_SortFunc_str 9 _ ys (by rw [← hpl]; omega) hp2 hs, by decide, rfl, rfl, ⟨⟨hpl, rfl, rfl⟩, trivial⟩, ?_⟩
      refine ⟨[0], false, _, _, slices_Compact_str 9 ys (by omega), by decide, rfl, rfl, ⟨⟨?_, rfl, rfl⟩, trivial⟩, ?_⟩
      · show (Lib.compact ys ++ List.replicate (ys.length - (Lib.compact ys).length) ([] : Tx)).length = ys.length
        have := compact_le ys
        simp; omega
      · exact ⟨some 0, ⟨⟨rfl, rfl⟩, rfl, trivial⟩, ⟨rfl, rfl⟩, rfl⟩
theorem impl_TreeCodes (n : Nat) (h1 : 1 ≤ n) (hn : n < 8) : AC Try.prog 23 [I (n : Nat)] [] [.ow 0, .d true .bool true] [.sl 9 .str (tcsL n)] := by
  obtain ⟨ys, hp, hs⟩ : ∃ ys : List Tx, ys.Perm ((lstT (n - 1)).map fun l => codeF l 12 0) ∧ ys.Pairwise fun x y => ¬ y < x := by
    refine ⟨((lstT (n - 1)).map fun l => codeF l 12 0).mergeSort (fun x y => decide (x ≤ y)), List.mergeSort_perm _ _, ?_⟩
    refine (List.pairwise_mergeSort (fun a b c h1 h2 => ?_) (fun a b => ?_) _).imp ?_
    · simp only [decide_eq_true_eq] at *; exact List.le_trans h1 h2
    · rcases leS_total a b with h | h <;> simp [h]
    · intro a b h
      exact List.not_lt.2 (of_decide_eq_true h)
  have hc := tcs_compact n hn h1 ys hp hs
  have h := impl_TreeCodes_raw n h1 hn ys hp hs
  rw [hc] at h
  have h2 := AC.cut2 (t2 := .bool) rfl (tcs_pos n hn h1) h
  rwa [List.take_left'] at h2
  rfl
theorem impl_TreeCodes_no (n : Int) (h : ¬ (1 ≤ n ∧ n ≤ 7)) : AC Try.prog 23 [I n] [] [.nil, .d true .bool false] [] := by
  refine AC_of tauOk 65 0 [2, 3] Try.func23 rfl (by kernel_rfl) rfl rfl rfl rfl rfl ?_
  refine ⟨fun _ => ?_, fun h2 => ?_⟩
  · exact ⟨none, ⟨rfl, rfl, trivial⟩, rfl, rfl⟩
  · refine ⟨fun _ => ?_, fun h3 => by omega⟩
    exact ⟨none, ⟨rfl, rfl, trivial⟩, rfl, rfl⟩
/-- spec.l12All -/
theorem insK_step (xs : List Tx) (s : Tx) (f k : Nat) (h : k < xs.length) (h2 : xs.getD k [] < s) : insK xs s (f + 1) k = insK xs s f (k + 1) := by rw [insK, if_pos ⟨h, h2⟩]
theorem insK_stop (xs : List Tx) (s : Tx) (f k : Nat) (h : ¬ (k < xs.length ∧ xs.getD k [] < s)) : insK xs s f k = k := by
  cases f with
  | zero => rfl
  | succ f => rw [insK, if_neg h]
theorem bytesLess_lt (a b : Tx) : Op.bytesLess a b = true ↔ a < b := by
  induction a generalizing b with
  | nil => cases b <;> simp [Op.bytesLess]
  | cons x a ih =>
    cases b with
    | nil => simp [Op.bytesLess]
    | cons y b =>
      rw [List.cons_lt_cons_iff, Op.bytesLess]
      by_cases h1 : x < y
      · simp [h1]
      · by_cases h2 : x = y
        · subst h2; simp [ih, UInt8.lt_irrefl]
        · simp [h1, h2]
/-- the base of the recursion -/
theorem spec_l12All_0 (s2 : Bool) (n : Nat) (l : List Tx) (ps : List Int) (hT : TreeP ps) (hn : ps.length = n) (hn7 : n ≤ 7) (hl : l.length ≤ 48) :
    AC Try.prog 68 [.d true (.sl .str) l, .d s2 (.sl .int) ps, I (n : Nat)] [] [.d true (.sl .str) (insS l (codeF ps 12 0))] [] := by
  generalize hs : codeF ps 12 0 = s at *
  have hps := hT.1
  have hC := spec_l12Code s2 ps hT 12 0 (by omega) (by omega) (Nat.le_refl _)
  rw [hs] at hC
  have hK := insK_le l s 200 0 (Nat.zero_le _)
  have walk : ∀ (r : List AV) (rr : List Row), (insK l s 200 0 < l.length ∧ l.getD (insK l s 200 0) [] = s → r = [.d true (.sl .str) l] ∧ rr = []) →
      (¬ (insK l s 200 0 < l.length ∧ l.getD (insK l s 200 0) [] = s) → r = [.ow 0] ∧ rr = [.sl 9 .str (l.take (insK l s 200 0) ++ [s] ++ l.drop (insK l s 200 0))]) →
      AC Try.prog 68 [.d true (.sl .str) l, .d s2 (.sl .int) ps, I (n : Nat)] [] r rr := by
    intro r rr hyes hno
    refine AC_of tauOk 82 0 [6] Try.func68 rfl (by kernel_rfl) rfl rfl rfl rfl rfl ?_
    refine ⟨fun _ => ?_, fun h => (h (by omega)).elim⟩
    refine ⟨[], false, _, _, hC, List.nodup_nil, rfl, rfl, trivial, ?_⟩
    refine ⟨Nat, fun k => ⟨[(0, .d true (.sl .str) l), (7, .d true .str s), (8, I (k : Nat))], []⟩, fun k => k ≤ l.length ∧ insK l s (200 - k) k = insK l s 200 0, fun k => l.length - k, 0, ⟨Nat.zero_le _, rfl⟩,
      ⟨⟨rfl, rfl⟩, ⟨rfl, rfl, rfl, trivial⟩, trivial⟩, fun k ⟨hk, hi⟩ => ?_⟩
    have stop : ¬ (k < l.length ∧ l.getD k [] < s) → insK l s 200 0 = k := fun h => by rw [← hi, insK_stop _ _ _ _ h]
    refine ⟨fun h1 => ?_, fun h1 => ?_⟩
    · have hk2 : k < l.length := by omega
      refine ⟨k, rfl, hk2, fun h2 => ?_, fun h2 => ?_⟩
      · have h2 := (bytesLess_lt _ _).1 h2
        refine ⟨((k + 1 : Nat) : Int), w64_eq (by omega) (by omega) (by omega), k + 1, ⟨hk2, ?_⟩, by dsimp only; omega, ⟨rfl, rfl⟩, ⟨rfl, rfl, rfl, trivial⟩, trivial⟩
        rw [← hi, show 200 - k = (200 - (k + 1)) + 1 by omega, insK_step _ _ _ _ hk2 h2]
      · have e := stop fun h => h2 ((bytesLess_lt _ _).2 h.2)
        refine ⟨fun _ => ?_, fun h => (h h1).elim⟩
        refine ⟨k, rfl, hk2, fun h3 => ?_, fun h3 => ?_⟩
        · obtain ⟨rfl, rfl⟩ := hyes ⟨by omega, by rw [e]; exact h3⟩
          exact ⟨none, ⟨rfl, trivial⟩, rfl, rfl⟩
        · obtain ⟨rfl, rfl⟩ := hno fun h => h3 (by have := h.2; rw [e] at this; exact this)
          rw [e]
          refine ⟨rfl, by decide, true, ?_⟩
          refine ⟨k, rfl, Nat.zero_le _, hk, rfl, Nat.zero_le _, rfl, by simp only [List.length_drop, List.length_take, List.length_nil]; omega, rfl, ?_⟩
          refine ⟨rfl, by decide, false, ?_⟩
          refine ⟨rfl, Nat.zero_le _, rfl, by simp only [List.length_append, List.length_drop, List.length_take, List.length_cons, List.length_nil]; omega, rfl, ?_⟩
          refine ⟨k, rfl, hk, Nat.le_refl _, rfl, Nat.zero_le _, rfl, by simp only [List.length_append, List.length_take, List.length_drop, List.length_cons, List.length_nil]; omega, rfl, ?_⟩
          exact ⟨some 0, ⟨⟨rfl, rfl⟩, trivial⟩, ⟨rfl, rowsE (by rw [List.take_length]; rfl)⟩, rfl⟩
    · have e := stop fun h => h1 (by omega)
      refine ⟨fun h => (h1 h).elim, fun _ => ?_⟩
      obtain ⟨rfl, rfl⟩ := hno fun h => by omega
      rw [e]
      refine ⟨rfl, by decide, true, ?_⟩
      refine ⟨k, rfl, Nat.zero_le _, hk, rfl, Nat.zero_le _, rfl, by simp only [List.length_drop, List.length_take, List.length_nil]; omega, rfl, ?_⟩
      refine ⟨rfl, by decide, false, ?_⟩
      refine ⟨rfl, Nat.zero_le _, rfl, by simp only [List.length_append, List.length_drop, List.length_take, List.length_cons, List.length_nil]; omega, rfl, ?_⟩
      refine ⟨k, rfl, hk, Nat.le_refl _, rfl, Nat.zero_le _, rfl, by simp only [List.length_append, List.length_take, List.length_drop, List.length_cons, List.length_nil]; omega, rfl, ?_⟩
      exact ⟨some 0, ⟨⟨rfl, rfl⟩, trivial⟩, ⟨rfl, rowsE (by rw [List.take_length]; rfl)⟩, rfl⟩
  by_cases h : insK l s 200 0 < l.length ∧ l.getD (insK l s 200 0) [] = s
  · rw [insS, if_pos h]
    exact walk _ _ (fun _ => ⟨rfl, rfl⟩) fun h2 => (h2 h).elim
  · rw [insS, if_neg h]
    exact AC.frz1 (walk _ _ (fun h2 => (h h2).elim) fun _ => ⟨rfl, rfl⟩)
/-- spec.l12All -/
theorem spec_l12All (n : Nat) (hn7 : n ≤ 7) : ∀ (f : Nat) (s2 : Bool) (l : List Tx) (ps : List Int), TreeP ps → ps.length + f = n → (allF f l ps).length ≤ 48 →
    AC Try.prog 68 [.d true (.sl .str) l, .d s2 (.sl .int) ps, I (n : Nat)] [] [.d true (.sl .str) (allF f l ps)] []
  | 0, s2, l, ps, hT, hn, hl => spec_l12All_0 s2 n l ps hT (by omega) hn7 (Nat.le_trans (insS_len l _) hl)
  | f + 1, s2, l, ps, hT, hn, hl => by
    have hps := hT.1
    rw [allF_s] at hl ⊢
    refine AC_of tauOk 82 0 [6] Try.func68 rfl (by kernel_rfl) rfl rfl rfl rfl rfl ?_
    refine ⟨fun h => by omega, fun _ => ?_⟩
    refine ⟨Nat, fun x => ⟨[(0, .d true (.sl .str) (allP f l ps x)), (1, .d s2 (.sl .int) ps), (2, I (n : Nat)), (10, I (x : Nat))], []⟩, fun x => x ≤ ps.length, fun x => ps.length - x, 0, Nat.zero_le _,
      ⟨⟨rfl, rfl⟩, ⟨rfl, rfl, rfl, rfl, trivial⟩, trivial⟩, fun x hx => ?_⟩
    dsimp only at hx
    refine ⟨fun h2 => ?_, fun h2 => ?_⟩
    · have hx2 : x < ps.length := by omega
      have hm := allP_mono f l ps (x + 1) ps.length hx2
      have hs := allP_s f l ps x
      refine ⟨((ps.length - 1 : Nat) : Int), w64_eq (by omega) (by omega) (by omega), ps.length - 1, rfl, by omega, fun h3 => ?_, fun h3 => ?_⟩
      · rw [if_pos h3] at hs
        refine ⟨rfl, by decide, true, ?_⟩
        refine ⟨rfl, Nat.zero_le _, rfl, by simp only [List.length_nil]; omega, rfl, ?_⟩
        refine ⟨rfl, by decide, false, ?_⟩
        refine ⟨rfl, Nat.zero_le _, rfl, by simp only [List.length_append, List.length_cons, List.length_nil]; omega, rfl, ?_⟩
        refine ⟨[], true, _, _, spec_l12All n hn7 f false (allP f l ps x) (ps ++ [(x : Int)]) (treeP_ext hT (by omega) hx2) (by simp; omega) (by rw [← hs]; omega), List.nodup_nil, rfl, rfl, trivial, ?_⟩
        exact ⟨((x + 1 : Nat) : Int), w64_eq (by omega) (by omega) (by omega), x + 1, by dsimp only; omega, by dsimp only; omega, ⟨rfl, rfl⟩, ⟨retD hs.symm, rfl, rfl, rfl, trivial⟩, trivial⟩
      · rw [if_neg h3] at hs
        exact ⟨((x + 1 : Nat) : Int), w64_eq (by omega) (by omega) (by omega), x + 1, by dsimp only; omega, by dsimp only; omega, ⟨rfl, rfl⟩, ⟨retD hs.symm, rfl, rfl, rfl, trivial⟩, trivial⟩
    · obtain rfl : x = ps.length := by omega
      exact ⟨none, ⟨rfl, trivial⟩, rfl, rfl⟩
/-- spec.TreeCodes -/
theorem spec_TreeCodes (n : Nat) (h1 : 1 ≤ n) (hn : n < 8) : AC Try.prog 22 [I (n : Nat)] [] [.d true (.sl .str) (tcsL n), .d true .bool true] [] := by
  have H := tc_ok n hn h1
  refine AC_of tauOk 11 0 [2, 3] Try.func22 rfl (by kernel_rfl) rfl rfl rfl rfl rfl ?_
  refine ⟨[], false, _, _, spec_l01In _ _ _, List.nodup_nil, rfl, rfl, trivial, fun _ => ?_, fun h => ?_⟩
  · refine ⟨rfl, by decide, false, rfl, by decide, false, ?_⟩
    refine ⟨[], false, _, _, spec_l12All n (by omega) (n - 1) true [] [-1] (by unfold TreeP; refine ⟨by decide, rfl, fun i h1 h2 => ?_⟩; simp at h2; omega) (by simp; omega) H.l1, List.nodup_nil, rfl, rfl, trivial, ?_⟩
    exact ⟨none, ⟨rfl, rfl, trivial⟩, rfl, rfl⟩
  · simp only [Bool.and_eq_false_iff, decide_eq_false_iff_not] at h
    omega
theorem spec_TreeCodes_no (n : Int) (h : ¬ (1 ≤ n ∧ n ≤ 7)) : AC Try.prog 22 [I n] [] [.nil, .d true .bool false] [] := by
  refine AC_of tauOk 11 0 [2, 3] Try.func22 rfl (by kernel_rfl) rfl rfl rfl rfl rfl ?_
  refine ⟨[], false, _, _, spec_l01In _ _ _, List.nodup_nil, rfl, rfl, trivial, fun h2 => ?_, fun _ => ?_⟩
  · simp only [Bool.and_eq_true, decide_eq_true_eq] at h2
    omega
  · exact ⟨none, ⟨rfl, rfl, trivial⟩, rfl, rfl⟩
/-- laws.FnExactTreeCodes -/
theorem laws_FnExactTreeCodes (n : Int) : AC Try.prog 5 [I n] [] [.d true .bool true] [] := by
  by_cases hB : 1 ≤ n ∧ n ≤ 7
  · obtain ⟨m, rfl, h1, h5⟩ : ∃ m : Nat, n = (m : Int) ∧ 1 ≤ m ∧ m < 8 := ⟨n.toNat, by omega, by omega, by omega⟩
    have H := tc_ok m h5 h1
    have hl := H.l1
    refine AC_of tauOk 63 0 [2] Try.func5 rfl (by kernel_rfl) rfl rfl rfl rfl rfl ?_
    refine ⟨[], true, _, _, spec_TreeCodes m h1 h5, List.nodup_nil, rfl, rfl, trivial, fun _ => ?_, nofun⟩
    refine ⟨[], false, _, _, impl_TreeCodes m h1 h5, List.nodup_nil, rfl, rfl, trivial, fun _ => ?_, nofun⟩
    refine ⟨[], false, _, _, laws_eqStringS _ _ (tcsL m) (by omega), List.nodup_nil, rfl, rfl, trivial, fun h2 => ?_, nofun⟩
    refine ⟨fun h => (h rfl).elim, fun _ => ?_⟩
    refine ⟨[0], false, _, _, laws_markStringS (tcsL m) 1 (by omega) (by decide), by decide, rfl, rfl, ⟨⟨marksT_len _ _, rfl, rfl⟩, trivial⟩, ?_⟩
    refine ⟨[], false, _, _, laws_heldStringS _ _ 1 (by omega) (by decide), List.nodup_nil, rfl, rfl, trivial, ?_⟩
    refine ⟨fun h => by omega, fun _ => ?_⟩
    refine ⟨fun h => (h rfl).elim, fun _ => ?_⟩
    refine ⟨[], true, _, _, impl_TreeCodes m h1 h5, List.nodup_nil, rfl, rfl, trivial, fun _ => ?_, nofun⟩
    refine ⟨[], false, _, _, laws_eqStringS _ _ (tcsL m) (by omega), List.nodup_nil, rfl, rfl, trivial, fun h2 => ?_, nofun⟩
    refine ⟨fun h => (h rfl).elim, fun _ => ?_⟩
    refine ⟨[], false, _, _, laws_heldStringS _ _ 1 (by omega) (by decide), List.nodup_nil, rfl, rfl, trivial, ?_⟩
    refine ⟨fun h => by omega, fun _ => ?_⟩
    refine ⟨fun h => (h rfl).elim, fun _ => ?_⟩
    exact ⟨none, ⟨rfl, trivial⟩, rfl, rfl⟩
  · refine AC_of tauOk 63 0 [2] Try.func5 rfl (by kernel_rfl) rfl rfl rfl rfl rfl ?_
    refine ⟨[], true, _, _, spec_TreeCodes_no n hB, List.nodup_nil, rfl, rfl, trivial, nofun, fun _ => ?_⟩
    refine ⟨[], true, _, _, impl_TreeCodes_no n hB, List.nodup_nil, rfl, rfl, trivial, nofun, fun _ => ?_⟩
    refine ⟨[], false, _, _, laws_eqStringS_nil, List.nodup_nil, rfl, rfl, trivial, fun _ => ?_, nofun⟩
    refine ⟨fun h => (h rfl).elim, fun _ => ?_⟩
    refine ⟨[], false, _, _, laws_markStringS_nil 1 (by decide), List.nodup_nil, rfl, rfl, trivial, ?_⟩
    refine ⟨[], false, _, _, laws_heldStringS_nil 1 (by decide), List.nodup_nil, rfl, rfl, trivial, ?_⟩
    refine ⟨fun h => by omega, fun _ => ?_⟩
    refine ⟨fun h => (h rfl).elim, fun _ => ?_⟩
    refine ⟨[], true, _, _, impl_TreeCodes_no n hB, List.nodup_nil, rfl, rfl, trivial, nofun, fun _ => ?_⟩
    refine ⟨[], false, _, _, laws_eqStringS_nil, List.nodup_nil, rfl, rfl, trivial, fun _ => ?_, nofun⟩
    refine ⟨fun h => (h rfl).elim, fun _ => ?_⟩
    refine ⟨[], false, _, _, laws_heldStringS_nil 1 (by decide), List.nodup_nil, rfl, rfl, trivial, ?_⟩
    refine ⟨fun h => by omega, fun _ => ?_⟩
    refine ⟨fun h => (h rfl).elim, fun _ => ?_⟩
    exact ⟨none, ⟨rfl, trivial⟩, rfl, rfl⟩
end Go.Proofs.Ytigebaejdghmmaa
