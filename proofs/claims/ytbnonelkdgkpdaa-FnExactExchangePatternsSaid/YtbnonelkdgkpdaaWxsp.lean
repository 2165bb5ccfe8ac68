/-
  Contracts of the reference's functions for patterns up to exchanged colors.
-/
import Derived.Test.YtbnonelkdgkpdaaWxch
set_option linter.unusedVariables false
namespace Go.Proofs.Ytbnonelkdgkpdaa
open Go Go.Proofs.Ytbnonelkdgkpdaa.Ow
/-- spec.l04Act -/
theorem spec_l04Act (s1 s2 : Bool) (p xs : List Int) (hP : PermP p) (hl : p.length = xs.length) : AC Try.prog 119 [.d s1 (.sl .int) p, .d s2 (.sl .int) xs] [] [.ow 0] [.sl 3 .int (actL p xs)] := by
  have h10 := hP.1
  refine AC_of tauOk 27 0 [4] Try.func119 rfl (by kernel_rfl) rfl rfl rfl rfl rfl ?_
  refine ⟨_, _, rfl, rfl, Nat.le_refl _, by omega, ?_⟩
  refine ⟨Nat, fun k => ⟨[(0, .d s1 (.sl .int) p), (5, .ow 0), (11, .d s2 (.sl .int) xs), (12, I xs.length), (13, I (k : Nat))], [.sl 3 .int (actS p xs k)]⟩, fun k => k ≤ xs.length, fun k => xs.length - k, 0, Nat.zero_le _,
    ⟨⟨rfl, rfl⟩, ⟨rfl, rfl, rfl, rfl, rfl, trivial⟩, rfl, trivial⟩, fun k hk => ?_⟩
  dsimp only at hk
  refine ⟨fun h1 => ?_, fun h1 => ?_⟩
  · have hk2 : k < xs.length := by omega
    have hb := (hP.2 k (by omega)).1
    refine ⟨k, rfl, hk2, k, rfl, by omega, (p.getD k 0).toNat, (show p.getD k 0 = (((p.getD k 0).toNat : Nat) : Int) by omega), (show (p.getD k 0).toNat < (actS p xs k).length by rw [actS_len]; omega), ?_⟩
    exact ⟨((k + 1 : Nat) : Int), w64_eq (by omega) (by omega) (by omega), k + 1, by dsimp only; omega, by dsimp only; omega, ⟨rfl, rfl⟩, ⟨rfl, rfl, rfl, rfl, rfl, trivial⟩, rowE rfl, trivial⟩
  · obtain rfl : k = xs.length := by omega
    exact ⟨some 0, ⟨⟨rfl, rfl⟩, trivial⟩, ⟨rfl, rfl⟩, rfl⟩
/-- spec.l06Canon -/
theorem spec_l06Canon (sh s2 : Bool) (g : List (List Int)) (xs : List Int) (hg : ∀ i, i < g.length → PermP (g.getD i []) ∧ (g.getD i []).length = xs.length) (hgl : g.length ≤ 1048576) (hc : ColP xs) :
    AC Try.prog 103 [.d sh (.sl (.sl .int)) g, .d s2 (.sl .int) xs] [] [.ow 0] [.sl 3 .int (canL g xs)] := by
  have hcl := hc.2
  have hbl : ∀ k, k ≤ g.length → (bstF (fun p => actL p xs) xs g k).length = xs.length := fun k hk => by
    rcases bst_mem (fun p => actL p xs) xs g k with h | ⟨i, hi, h⟩
    · rw [h]
    · rw [h, actL_len]
  refine AC_of tauOk 27 0 [4] Try.func103 rfl (by kernel_rfl) rfl rfl rfl rfl rfl ?_
  refine ⟨Bool × Nat, fun z => ⟨[(1, .d s2 (.sl .int) xs), (5, .d z.1 (.sl .int) (bstF (fun p => actL p xs) xs g z.2)), (10, .d sh (.sl (.sl .int)) g), (11, I g.length), (12, I (z.2 : Nat))], []⟩, fun z => z.2 ≤ g.length, fun z => g.length - z.2, (s2, 0), Nat.zero_le _,
    ⟨⟨rfl, rfl⟩, ⟨rfl, rfl, rfl, rfl, rfl, trivial⟩, trivial⟩, fun z hk => ?_⟩
  obtain ⟨b, k⟩ := z
  dsimp only at hk ⊢
  refine ⟨fun h1 => ?_, fun h1 => ?_⟩
  · have hk2 : k < g.length := by omega
    obtain ⟨hP, hl⟩ := hg k hk2
    have hbk := hbl k hk
    have hx1 := actL_len (g.getD k []) xs
    refine ⟨k, rfl, hk2, [], true, _, _, spec_l04Act sh s2 (g.getD k []) xs hP hl, List.nodup_nil, rfl, rfl, trivial, ?_⟩
    refine ⟨[], false, _, _, spec_l03Less true b (actL (g.getD k []) xs) (bstF (fun p => actL p xs) xs g k) (by omega) (by omega), List.nodup_nil, rfl, rfl, trivial, fun h2 => ?_, fun h2 => ?_⟩
    · have h2 := of_decide_eq_true h2
      have e : bstF (fun p => actL p xs) xs g (k + 1) = actL (g.getD k []) xs := by rw [bstF, if_pos h2]
      exact ⟨((k + 1 : Nat) : Int), w64_eq (by omega) (by omega) (by omega), (true, k + 1), by dsimp only; omega, by dsimp only; omega, ⟨rfl, rfl⟩, ⟨rfl, retDc e.symm, rfl, rfl, rfl, trivial⟩, trivial⟩
    · have h2 := of_decide_eq_false h2
      have e : bstF (fun p => actL p xs) xs g (k + 1) = bstF (fun p => actL p xs) xs g k := by rw [bstF, if_neg h2]
      exact ⟨((k + 1 : Nat) : Int), w64_eq (by omega) (by omega) (by omega), (b, k + 1), by dsimp only; omega, by dsimp only; omega, ⟨rfl, rfl⟩, ⟨rfl, by rw [e]; rfl, rfl, rfl, rfl, trivial⟩, trivial⟩
  · obtain rfl : k = g.length := by omega
    have hbk := hbl g.length hk
    refine ⟨rfl, by decide, true, ?_⟩
    cases b
    · refine ⟨rfl, Nat.zero_le _, rfl, by simp only [List.length_nil]; omega, rfl, ?_⟩
      exact ⟨some 0, ⟨⟨rfl, rfl⟩, trivial⟩, ⟨rfl, rowsE (List.nil_append _)⟩, rfl⟩
    · refine ⟨rfl, Nat.zero_le _, rfl, by simp only [List.length_nil]; omega, rfl, ?_⟩
      exact ⟨some 0, ⟨⟨rfl, rfl⟩, trivial⟩, ⟨rfl, rowsE (List.nil_append _)⟩, rfl⟩
/-- spec.l06Fits -/
theorem spec_l06Fits (s1 s2 : Bool) (g : List (List Int)) (xs : List Int) (hl : g.length ≤ 1048576) (hx : ∀ i, i < g.length → (g.getD i []).length ≤ 1048576) (hl2 : xs.length ≤ 1048576) :
    AC Try.prog 74 [.d s1 (.sl (.sl .int)) g, .d s2 (.sl .int) xs] [] [.d true .bool (fitB g xs)] [] := by
  refine AC_of tauOk 20 0 [4] Try.func74 rfl (by kernel_rfl) rfl rfl rfl rfl rfl ?_
  refine ⟨[], false, _, _, spec_GroupOk s1 g hl hx, List.nodup_nil, rfl, rfl, trivial, fun h1 => ?_, fun h1 => ?_⟩
  · have hg0 : 0 < g.length := by have := ((gokB_iff g).1 h1).l1; omega
    refine ⟨[], false, _, _, spec_ColoringOk s2 xs hl2, List.nodup_nil, rfl, rfl, trivial, fun h2 => ?_, fun h2 => ?_⟩
    · refine ⟨0, rfl, hg0, fun h3 => ?_, fun h3 => ?_⟩
      · exact ⟨none, ⟨retB (by rw [fitB, h1, h2, decide_eq_true (by omega)]; rfl), trivial⟩, rfl, rfl⟩
      · exact ⟨none, ⟨retB (by rw [fitB, h1, h2, decide_eq_false (by omega)]; rfl), trivial⟩, rfl, rfl⟩
    · exact ⟨none, ⟨retB (by rw [fitB, h2]; simp), trivial⟩, rfl, rfl⟩
  · exact ⟨none, ⟨retB (by rw [fitB, h1]; simp), trivial⟩, rfl, rfl⟩
theorem cexS_len {g S : List (List Int)} {xs : List Int} : ∀ k, (bstF (fun h => canL g (exL xs h)) xs S k).length = xs.length := fun k => by
  have hcan : ∀ ys : List Int, (canL g ys).length = ys.length := fun ys => by
    rcases bst_mem (fun p => actL p ys) ys g g.length with h | ⟨i, _, h⟩
    · rw [canL, h]
    · rw [canL, h, actL_len]
  rcases bst_mem (fun h => canL g (exL xs h)) xs S k with h | ⟨i, _, h⟩
  · rw [h]
  · rw [h, hcan, exL_len]
/-- spec.l13Canon -/
theorem spec_l13Canon (s1 s2 s3 : Bool) (g S : List (List Int)) (xs : List Int) (hg : ∀ i, i < g.length → PermP (g.getD i []) ∧ (g.getD i []).length = xs.length) (hgl : g.length ≤ 1048576) (hc : ColP xs) (hSl : S.length ≤ 1048576)
    (hS : ∀ i, i < S.length → PermP (S.getD i []) ∧ (S.getD i []).length ≤ 4 ∧ ∀ j, j < xs.length → xs.getD j 0 < ((S.getD i []).length : Int)) :
    AC Try.prog 76 [.d s1 (.sl (.sl .int)) g, .d s2 (.sl (.sl .int)) S, .d s3 (.sl .int) xs] [] [.d true (.sl .int) (cexS g S xs)] [] := by
  have hcl := hc.2
  have hbl := cexS_len (g := g) (S := S) (xs := xs)
  refine AC_of tauOk 31 0 [6] Try.func76 rfl (by kernel_rfl) rfl rfl rfl rfl rfl ?_
  refine ⟨rfl, by decide, true, ?_⟩
  have hex : ∀ k, k < S.length → ColP (exL xs (S.getD k [])) ∧ (∀ i, i < g.length → PermP (g.getD i []) ∧ (g.getD i []).length = (exL xs (S.getD k [])).length) := fun k hk => by
    obtain ⟨h1, h2, h3⟩ := hS k hk
    refine ⟨⟨fun i hi => ?_, by rw [exL_len]; exact hcl.1, by rw [exL_len]; exact hcl.2⟩, fun i hi => by rw [exL_len]; exact hg i hi⟩
    rw [exL_len] at hi
    have h4 := hc.1 i hi
    have h5 := h3 i hi
    have h6 := (h1.2 (xs.getD i 0).toNat (by omega)).1
    rw [exL_at _ _ _ hi]; omega
  cases s3 <;> (
  refine ⟨rfl, Nat.zero_le _, rfl, by simp only [List.length_nil]; omega, rfl, ?_⟩
  refine ⟨Nat, fun k => ⟨[(0, .d s1 (.sl (.sl .int)) g), (2, .d _ (.sl .int) xs), (7, .d true (.sl .int) (bstF (fun h => canL g (exL xs h)) xs S k)), (14, .d s2 (.sl (.sl .int)) S), (15, I S.length), (16, I (k : Nat))], []⟩, fun k => k ≤ S.length, fun k => S.length - k, 0, Nat.zero_le _,
    ⟨⟨rfl, rfl⟩, ⟨rfl, rfl, ⟨rfl, rfl, List.nil_append _⟩, rfl, rfl, rfl, trivial⟩, trivial⟩, fun k hk => ?_⟩
  dsimp only at hk
  have hbk := hbl k
  refine ⟨fun h1 => ?_, fun h1 => ?_⟩
  · have hk2 : k < S.length := by omega
    obtain ⟨h3, h4, h5⟩ := hS k hk2
    obtain ⟨h6, h7⟩ := hex k hk2
    have hcan : (canL g (exL xs (S.getD k []))).length = xs.length := by
      rcases bst_mem (fun p => actL p (exL xs (S.getD k []))) (exL xs (S.getD k [])) g g.length with h | ⟨i, _, h⟩
      · rw [canL, h, exL_len]
      · rw [canL, h, actL_len, exL_len]
    refine ⟨k, rfl, hk2, ?_⟩
    refine ⟨[], true, _, _, spec_l13Exchange _ s2 xs (S.getD k []) (by omega) (fun i hi => ⟨(hc.1 i hi).1, h5 i hi⟩), List.nodup_nil, rfl, rfl, trivial, ?_⟩
    refine ⟨[], true, _, _, spec_l06Canon s1 true g (exL xs (S.getD k [])) h7 hgl h6, List.nodup_nil, rfl, rfl, trivial, ?_⟩
    refine ⟨[], false, _, _, spec_l03Less true true (canL g (exL xs (S.getD k []))) (bstF (fun h => canL g (exL xs h)) xs S k) (by omega) (by omega), List.nodup_nil, rfl, rfl, trivial, fun h2 => ?_, fun h2 => ?_⟩
    · have h2 := of_decide_eq_true h2
      have e : bstF (fun h => canL g (exL xs h)) xs S (k + 1) = canL g (exL xs (S.getD k [])) := by rw [bstF, if_pos h2]
      exact ⟨((k + 1 : Nat) : Int), w64_eq (by omega) (by omega) (by omega), k + 1, by dsimp only; omega, by dsimp only; omega, ⟨rfl, rfl⟩, ⟨rfl, rfl, retDc e.symm, rfl, rfl, rfl, trivial⟩, trivial⟩
    · have h2 := of_decide_eq_false h2
      have e : bstF (fun h => canL g (exL xs h)) xs S (k + 1) = bstF (fun h => canL g (exL xs h)) xs S k := by rw [bstF, if_neg h2]
      exact ⟨((k + 1 : Nat) : Int), w64_eq (by omega) (by omega) (by omega), k + 1, by dsimp only; omega, by dsimp only; omega, ⟨rfl, rfl⟩, ⟨rfl, rfl, retDc e.symm, rfl, rfl, rfl, trivial⟩, trivial⟩
  · obtain rfl : k = S.length := by omega
    exact ⟨none, ⟨rfl, trivial⟩, rfl, rfl⟩)
/-- spec.CanonExchange -/
theorem spec_CanonExchange_both (s1 s2 : Bool) (g : List (List Int)) (k : Int) (xs : List Int) (hl : g.length ≤ 1048576) (hx : ∀ i, i < g.length → (g.getD i []).length ≤ 1048576) (hl2 : xs.length ≤ 1048576) (r : List AV)
    (hno : cxB g k xs = false → r = [.nil, .d true .bool false]) (hyes : cxB g k xs = true → r = [.d true (.sl .int) (cexL g xs), .d true .bool true]) :
    AC Try.prog 28 [.d s1 (.sl (.sl .int)) g, I k, .d s2 (.sl .int) xs] [] r [] := by
  refine AC_of tauOk 29 0 [6, 7] Try.func28 rfl (by kernel_rfl) rfl rfl rfl rfl rfl ?_
  refine ⟨[], false, _, _, spec_l07Below s2 xs k hl2, List.nodup_nil, rfl, rfl, trivial, fun h1 => ?_, fun h1 => ?_⟩
  · refine ⟨[], false, _, _, spec_l06Fits s1 s2 g xs hl hx hl2, List.nodup_nil, rfl, rfl, trivial, fun h2 => ?_, fun h2 => ?_⟩
    · simp only [Bool.and_eq_true, decide_eq_true_eq] at h1
      obtain ⟨⟨hb, _⟩, hk1, hk4⟩ := h1
      obtain rfl := hyes (by rw [cxB, h2, hb, decide_eq_true hk1, decide_eq_true hk4]; rfl)
      obtain ⟨K, rfl⟩ : ∃ K : Nat, k = (K : Int) := ⟨k.toNat, by omega⟩
      have hF := fit_of h2
      have hb2 := (belowB_iff xs K).1 hb
      have hS := sym_ok K (by omega) (by omega)
      have hSl := hS.l2
      have hsame := cex_same (k := K) (g := g) (xs := xs) ⟨hF.gs, hF.x, by omega, by omega, hb2⟩
      refine ⟨[], false, _, _, spec_SymmetricGroup K (by omega) (by omega), List.nodup_nil, rfl, rfl, trivial, fun _ => ?_, nofun⟩
      refine ⟨[], false, _, _, spec_l13Canon s1 true s2 g (symL K) xs hF.gs hl hF.x (by omega) fun i hi => ?_, List.nodup_nil, rfl, rfl, trivial, ?_⟩
      · obtain ⟨q1, q2⟩ := sym_get (k := K) (by omega) (by omega) hi
        exact ⟨q1, by omega, fun j hj => by rw [q2]; exact hb2 j hj⟩
      · exact ⟨none, ⟨retDc hsame.symm, rfl, trivial⟩, rfl, rfl⟩
    · obtain rfl := hno (by rw [cxB, h2]; rfl)
      exact ⟨none, ⟨rfl, rfl, trivial⟩, rfl, rfl⟩
  · obtain rfl := hno (by
      cases hb : cxB g k xs
      · rfl
      · rw [cxB] at hb
        simp only [Bool.and_eq_true] at hb
        have hc : colB xs = true := by
          have := hb.1
          rw [fitB] at this
          simp only [Bool.and_eq_true] at this
          exact this.2.1
        rw [hb.2.2, hc, hb.2.1.1, hb.2.1.2] at h1
        cases h1)
    exact ⟨none, ⟨rfl, rfl, trivial⟩, rfl, rfl⟩
end Go.Proofs.Ytbnonelkdgkpdaa
