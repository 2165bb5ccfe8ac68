/-
  Contracts of the functions that read texts: SplitAny, ParseInt, ParsePerm.
-/
import Derived.Test.YtigebaejdghmmaaWexc
import Derived.Test.YtigebaejdghmmaaWints
import Derived.Test.YtigebaejdghmmaaPlU
set_option linter.unusedVariables false
set_option linter.unusedSimpArgs false
namespace Go.Proofs.Ytigebaejdghmmaa
open Go Go.Proofs.Ytigebaejdghmmaa.Ow
/-- strings.IndexByte -/
theorem strings_IndexByte (s : List UInt8) (c : Int) : AC Try.prog 137 [.d true .str s, .d true .u8 c] [] [I (Lib.indexByte s c.toNat.toUInt8)] [] := by
  refine AC.flat (v := .int .i64 (Lib.indexByte s c.toNat.toUInt8)) (fun w A => rfl) ⟨_, _, Try.func137, rfl, by kernel_rfl⟩ fun w A vs hold hvs => ?_
  obtain ⟨v, r, rfl, h1, v2, r2, rfl, h2, h3⟩ := hvs
  cases h1
  cases h2
  cases h3
  exact (Try.strings_IndexByte ⟨s.toArray⟩ c w).mono fun e w' ⟨he, hw⟩ => ⟨he, hw ▸ RowKit.Below.refl _ _⟩
/-- strings.TrimPrefix -/
theorem strings_TrimPrefix (s p : List UInt8) : AC Try.prog 138 [.d true .str s, .d true .str p] [] [.d true .str (Lib.trimPrefix s p)] [] := by
  refine AC.flat (v := .string ⟨(Lib.trimPrefix s p).toArray⟩) (fun w A => rfl) ⟨_, _, Try.func138, rfl, by kernel_rfl⟩ fun w A vs hold hvs => ?_
  obtain ⟨v, r, rfl, h1, v2, r2, rfl, h2, h3⟩ := hvs
  cases h1
  cases h2
  cases h3
  exact (Try.strings_TrimPrefix ⟨s.toArray⟩ ⟨p.toArray⟩ w).mono fun e w' ⟨he, hw⟩ => ⟨he, hw ▸ RowKit.Below.refl _ _⟩
theorem upto {p : Nat → Prop} {k : Nat} (h : ∀ j, j < k → p j) (h2 : p k) : ∀ j, j < k + 1 → p j := fun j hj => by
  by_cases e : j = k
  · subst e; exact h2
  · exact h j (by omega)
theorem trim_len (s : List UInt8) : (trimM s).length ≤ s.length := by
  unfold trimM Lib.trimPrefix
  split
  · rw [List.length_drop]; omega
  · exact Nat.le_refl _
def digA (s : List UInt8) : Bool := s.all digB && decide (s ≠ [])
theorem digA_no {s : List UInt8} {k : Nat} (hk : k < s.length) (h : digB (s.getD k 0) = false) : digA s = false := by
  unfold digA
  have : s.all digB = false := by
    rw [List.all_eq_false]
    exact ⟨s.getD k 0, by rw [getD_get _ _ _ hk]; exact List.getElem_mem _, by rw [h]; decide⟩
  rw [this]; rfl
/-- impl.IsDigits -/
theorem impl_IsDigits (s : List UInt8) (hl : s.length ≤ 1048576) : AC Try.prog 139 [.d true .str s] [] [.d true .bool (digA s)] [] := by
  refine AC_of tauOk 22 0 [2] Try.func139 rfl (by kernel_rfl) rfl rfl rfl rfl rfl ?_
  refine ⟨Nat, fun k => ⟨[(0, .d true .str s), (5, I s.length), (6, I (k : Nat))], []⟩, fun k => k ≤ s.length ∧ ∀ j, j < k → digB (s.getD j 0) = true, fun k => s.length - k, 0, ⟨Nat.zero_le _, fun j hj => by omega⟩,
    ⟨⟨rfl, rfl⟩, ⟨rfl, rfl, rfl, trivial⟩, trivial⟩, fun k ⟨hk, hy⟩ => ?_⟩
  refine ⟨fun h2 => ?_, fun h2 => ?_⟩
  · have hk2 : k < s.length := by omega
    have hb := (s.getD k 0).toNat_lt
    refine ⟨k, rfl, hk2, fun h3 => ?_, fun h3 => ?_⟩
    · exact ⟨none, ⟨retB (digA_no hk2 (by unfold digB; rw [decide_eq_false (show ¬ 48 ≤ (s.getD k 0).toNat by omega)]; rfl)), trivial⟩, rfl, rfl⟩
    · refine ⟨k, rfl, hk2, fun h4 => ?_, fun h4 => ?_⟩
      · exact ⟨none, ⟨retB (digA_no hk2 (by unfold digB; rw [decide_eq_false (show ¬ (s.getD k 0).toNat ≤ 57 by omega), Bool.and_false])), trivial⟩, rfl, rfl⟩
      · refine ⟨_, w64_in _ (by omega) (by omega), k + 1, ⟨by omega, upto hy ?_⟩, by dsimp only; omega, ⟨rfl, rfl⟩, ⟨rfl, rfl, rfl, trivial⟩, trivial⟩
        unfold digB
        rw [decide_eq_true (show 48 ≤ (s.getD k 0).toNat by omega), decide_eq_true (show (s.getD k 0).toNat ≤ 57 by omega)]; rfl
  · obtain rfl : k = s.length := by omega
    have hall : s.all digB = true := by
      rw [List.all_eq_true]
      intro x hx
      obtain ⟨j, hj, rfl⟩ := List.getElem_of_mem hx
      have := hy j hj
      rwa [getD_get _ _ _ hj] at this
    refine ⟨fun h3 => ?_, fun h3 => ?_⟩
    · exact ⟨none, ⟨retB (by unfold digA; rw [hall, decide_eq_true h3]; rfl), trivial⟩, rfl, rfl⟩
    · exact ⟨none, ⟨retB (by unfold digA; rw [decide_eq_false h3, Bool.and_false]), trivial⟩, rfl, rfl⟩
theorem w64_b (x : Int) : -9223372036854775808 ≤ w64 x ∧ w64 x ≤ 9223372036854775807 := by
  show -9223372036854775808 ≤ (if (true && decide (x % 18446744073709551616 ≥ 9223372036854775808)) = true then x % 18446744073709551616 - 18446744073709551616 else x % 18446744073709551616) ∧ (if (true && decide (x % 18446744073709551616 ≥ 9223372036854775808)) = true then x % 18446744073709551616 - 18446744073709551616 else x % 18446744073709551616) ≤ 9223372036854775807
  split
  · rename_i h; simp only [Bool.true_and, decide_eq_true_eq] at h; omega
  · rename_i h; simp only [Bool.true_and, decide_eq_true_eq] at h; omega
theorem valS_b (t : List UInt8) : ∀ k, -9223372036854775808 ≤ valS t k ∧ valS t k ≤ 9223372036854775807
  | 0 => by show -9223372036854775808 ≤ (0 : Int) ∧ (0 : Int) ≤ 9223372036854775807; decide
  | k + 1 => w64_b _
theorem prsV_b (s : List UInt8) : -9223372036854775808 ≤ prsV s ∧ prsV s ≤ 9223372036854775807 := by
  unfold prsV
  split
  · exact w64_b _
  · exact valS_b _ _
theorem neg_w {a b : Int} (h : a = b) : w64 (-a) = w64 (-b) := by rw [h]
/-- what ParseInt returns -/
def prsR (s : List UInt8) : List AV := if prsB s = true then [I (prsV s), .d true .bool true] else [I 0, .d true .bool false]
theorem prsR_no {s : List UInt8} (h : prsB s = false) : prsR s = [I 0, .d true .bool false] := by rw [prsR, if_neg (by rw [h]; decide)]
theorem prsR_yes {s : List UInt8} (h : prsB s = true) : prsR s = [I (prsV s), .d true .bool true] := by rw [prsR, if_pos h]
/-- impl.ParseInt -/
theorem impl_ParseInt_r (s : List UInt8) (hl : s.length ≤ 1048576) (r : List AV) (hr : prsR s = r) : AC Try.prog 97 [.d true .str s] [] r [] := by
  have htl := trim_len s
  have hvb := prsV_b s
  have htr := strings_TrimPrefix s [45]
  rw [show Lib.trimPrefix s [45] = trimM s from rfl] at htr
  have hno : (digA (trimM s) = false ∨ 19 < (trimM s).length) → r = [I 0, .d true .bool false] := fun h => by
    rw [← hr]
    refine prsR_no ?_
    unfold prsB
    rcases h with h | h
    · unfold digA at h
      rw [h]; rfl
    · rw [decide_eq_false (show ¬ (trimM s).length ≤ 19 by omega), Bool.and_false]; rfl
  refine AC_of tauOk 43 0 [2, 3] Try.func97 rfl (by kernel_rfl) rfl rfl rfl rfl rfl ?_
  refine ⟨[], false, _, _, htr, List.nodup_nil, rfl, rfl, trivial, [], false, _, _, impl_IsDigits (trimM s) (by omega), List.nodup_nil, rfl, rfl, trivial, fun h1 => ?_, fun h1 => ?_⟩
  · refine ⟨fun h2 => ?_, fun h2 => ?_⟩
    · obtain rfl := hno (.inr (by omega))
      exact ⟨none, ⟨rfl, rfl, trivial⟩, rfl, rfl⟩
    · refine ⟨Nat, fun k => ⟨[(0, .d true .str s), (4, .d true .str (trimM s)), (5, I (valS (trimM s) k)), (18, I (trimM s).length), (19, I (k : Nat))], []⟩, fun k => k ≤ (trimM s).length, fun k => (trimM s).length - k, 0, Nat.zero_le _,
        ⟨⟨rfl, rfl⟩, ⟨rfl, rfl, rfl, rfl, rfl, trivial⟩, trivial⟩, fun k hk => ?_⟩
      dsimp only at hk
      refine ⟨fun h3 => ?_, fun h3 => ?_⟩
      · have hk2 : k < (trimM s).length := by omega
        have hd : digB ((trimM s).getD k 0) = true := by
          unfold digA at h1
          simp only [Bool.and_eq_true, List.all_eq_true] at h1
          rw [getD_get _ _ _ hk2]
          exact h1.1 _ (List.getElem_mem hk2)
        unfold digB at hd
        simp only [Bool.and_eq_true, decide_eq_true_eq] at hd
        refine ⟨_, rfl, k, rfl, hk2, ?_⟩
        refine ⟨(((trimM s).getD k 0).toNat : Int) - 48, u8w _ (by omega) (by omega), ?_⟩
        refine ⟨(((trimM s).getD k 0).toNat : Int) - 48, w64_eq rfl (by omega) (by omega), ?_⟩
        refine ⟨valS (trimM s) (k + 1), rfl, ?_⟩
        exact ⟨((k + 1 : Nat) : Int), w64_eq (by omega) (by omega) (by omega), k + 1, by dsimp only; omega, by dsimp only; omega, ⟨rfl, rfl⟩, ⟨rfl, rfl, rfl, rfl, rfl, trivial⟩, trivial⟩
      · obtain rfl : k = (trimM s).length := by omega
        have hB : prsB s = decide (fmtI (prsV s) = s) := by
          unfold digA at h1
          unfold prsB
          rw [h1, decide_eq_true (show (trimM s).length ≤ 19 by omega)]; rfl
        have hend : ∀ z, z = prsV s → (prsB s = true → r = [I z, .d true .bool true]) ∧ (prsB s = false → r = [I 0, .d true .bool false]) := fun z hz => by
          subst hz
          exact ⟨fun h => by rw [← hr, prsR_yes h], fun h => by rw [← hr, prsR_no h]⟩
        refine ⟨fun h4 => ?_, fun h4 => ?_⟩
        · have hv : prsV s = w64 (-valS (trimM s) (trimM s).length) := by rw [prsV, if_pos (by omega)]
          refine ⟨prsV s, (by rw [hv, Int.zero_sub]), [], false, _, _, impl_FormatInt (prsV s) hvb.1 hvb.2, List.nodup_nil, rfl, rfl, trivial, fun h5 => ?_, fun h5 => ?_⟩
          · obtain rfl := (hend _ rfl).2 (by rw [hB, decide_eq_false h5])
            exact ⟨none, ⟨rfl, rfl, trivial⟩, rfl, rfl⟩
          · obtain rfl := (hend _ rfl).1 (by rw [hB, decide_eq_true (Decidable.not_not.1 h5)])
            exact ⟨none, ⟨rfl, rfl, trivial⟩, rfl, rfl⟩
        · have hv : prsV s = valS (trimM s) (trimM s).length := by rw [prsV, if_neg (by omega)]
          rw [hv] at hB hend hvb
          refine ⟨[], false, _, _, impl_FormatInt (valS (trimM s) (trimM s).length) hvb.1 hvb.2, List.nodup_nil, rfl, rfl, trivial, fun h5 => ?_, fun h5 => ?_⟩
          · obtain rfl := (hend _ rfl).2 (by rw [hB, decide_eq_false h5])
            exact ⟨none, ⟨rfl, rfl, trivial⟩, rfl, rfl⟩
          · obtain rfl := (hend _ rfl).1 (by rw [hB, decide_eq_true (Decidable.not_not.1 h5)])
            exact ⟨none, ⟨rfl, rfl, trivial⟩, rfl, rfl⟩
  · obtain rfl := hno (.inl h1)
    exact ⟨none, ⟨rfl, rfl, trivial⟩, rfl, rfl⟩
theorem impl_ParseInt (s : List UInt8) (hl : s.length ≤ 1048576) : AC Try.prog 97 [.d true .str s] [] (prsR s) [] := impl_ParseInt_r s hl _ rfl
/-- where a text is cut -/
def byB (by_ : List UInt8) (c : UInt8) : Bool := decide (0 ≤ Lib.indexByte by_ c)
/-- impl.SplitAny, whatever it is cut by -/
theorem impl_SplitBy (t by_ : List UInt8) (hl : t.length ≤ 1048576) : AC Try.prog 96 [.d true .str t, .d true .str by_] [] [.ow 0] [.sl 9 .str (wrdG (byB by_) t)] := by
  have hb := spG_b (byB by_) t
  refine AC_of tauOk 36 0 [4] Try.func96 rfl (by kernel_rfl) rfl rfl rfl rfl rfl ?_
  refine ⟨rfl, by decide, true, ?_⟩
  refine ⟨Nat, fun k => ⟨[(0, .d true .str t), (1, .d true .str by_), (5, .ow 0), (6, I ((spG (byB by_) t k).2 : Nat)), (10, I t.length), (11, I (k : Nat))], [.sl 9 .str (spG (byB by_) t k).1]⟩, fun k => k ≤ t.length, fun k => t.length - k, 0, Nat.zero_le _,
    ⟨⟨rfl, rfl⟩, ⟨rfl, rfl, rfl, rfl, rfl, rfl, trivial⟩, rfl, trivial⟩, fun k hk => ?_⟩
  dsimp only at hk
  have hbk := hb k
  refine ⟨fun h2 => ?_, fun h2 => ?_⟩
  · have hk2 : k < t.length := by omega
    have hc := strings_IndexByte by_ (((t.getD k 0).toNat : Nat) : Int)
    rw [Int.toNat_natCast, show (t.getD k 0).toNat.toUInt8 = t.getD k 0 by simp] at hc
    refine ⟨k, rfl, hk2, [], false, _, _, hc, List.nodup_nil, rfl, rfl, trivial, fun h3 => ?_, fun h3 => ?_⟩
    · have e : spG (byB by_) t (k + 1) = ((spG (byB by_) t k).1 ++ [(t.take k).drop (spG (byB by_) t k).2], k + 1) := by rw [spG, if_pos (show byB by_ (t.getD k 0) = true from decide_eq_true h3)]
      refine ⟨_, rfl, k, rfl, hbk.2, hk, ?_⟩
      refine ⟨rfl, by decide, false, ?_⟩
      refine ⟨rfl, Nat.zero_le _, rfl, by simp only [List.length_cons, List.length_nil]; omega, rfl, ?_⟩
      refine ⟨((k + 1 : Nat) : Int), w64_eq (by omega) (by omega) (by omega), ?_⟩
      exact ⟨((k + 1 : Nat) : Int), w64_eq (by omega) (by omega) (by omega), k + 1, by dsimp only; omega, by dsimp only; omega, ⟨rfl, rfl⟩, ⟨rfl, rfl, rfl, retI (by rw [e]), rfl, rfl, trivial⟩, rowE (by rw [e]), trivial⟩
    · have e : spG (byB by_) t (k + 1) = spG (byB by_) t k := by rw [spG, if_neg (by rw [byB, decide_eq_false h3]; decide)]
      exact ⟨((k + 1 : Nat) : Int), w64_eq (by omega) (by omega) (by omega), k + 1, by dsimp only; omega, by dsimp only; omega, ⟨rfl, rfl⟩, ⟨rfl, rfl, rfl, retI (by rw [e]), rfl, rfl, trivial⟩, rowE (by rw [e]), trivial⟩
  · obtain rfl : k = t.length := by omega
    refine ⟨_, rfl, hbk.2, Nat.le_refl _, ?_⟩
    refine ⟨rfl, by decide, false, ?_⟩
    refine ⟨rfl, Nat.zero_le _, rfl, by simp only [List.length_cons, List.length_nil]; omega, rfl, ?_⟩
    exact ⟨some 0, ⟨⟨rfl, rfl⟩, trivial⟩, ⟨rfl, rowsE (by rw [List.take_length]; rfl)⟩, rfl⟩
theorem perm_fmt {p : List Int} (hP : PermP p) : In64 p ∧ (∀ w ∈ p.map fmtI, w.length ≤ 1 ∧ (∀ x ∈ w, byB [44] x = false) ∧ prsB w = true) ∧ ∀ i, i < p.length → prsV (fmtI (p.getD i 0)) = p.getD i 0 := by
  have hb := hP.1
  have key : ∀ i, i < p.length → ∃ x : Nat, x < 10 ∧ p.getD i 0 = (x : Int) := fun i hi => by
    have := (hP.2 i hi).1
    exact ⟨(p.getD i 0).toNat, by omega, by omega⟩
  refine ⟨fun i hi => by obtain ⟨x, h1, h2⟩ := key i hi; omega, fun w hw => ?_, fun i hi => ?_⟩
  · obtain ⟨a, ha, rfl⟩ := List.mem_map.1 hw
    obtain ⟨i, hi, rfl⟩ := List.getElem_of_mem ha
    obtain ⟨x, h1, h2⟩ := key i hi
    rw [getD_get _ _ _ hi] at h2
    rw [h2]
    obtain ⟨d1, d2, d3, d4⟩ := digit_all x h1
    refine ⟨d4, fun c hc => ?_, d1⟩
    rw [List.all_eq_true] at d3
    have := of_decide_eq_true (d3 c hc)
    unfold byB
    refine decide_eq_false ?_
    simp [Lib.indexByte, Ne.symm this]
  · obtain ⟨x, h1, h2⟩ := key i hi
    rw [h2]
    exact (digit_all x h1).2.1
def fmtPm (p : List Int) : List UInt8 := Lib.join (p.map fmtI) [44]
theorem fmtPm_split {p : List Int} (hP : PermP p) : wrdG (byB [44]) (fmtPm p) = p.map fmtI := by
  have h1 := hP.1
  rw [wrdG_eq]
  exact spl_join (byB [44]) 44 (by decide) _ (by intro e; have := congrArg List.length e; simp at this; rw [this] at h1; simp at h1) fun w hw => ((perm_fmt hP).2.1 w hw).2.1
theorem fmtPm_len {p : List Int} (hP : PermP p) : (fmtPm p).length ≤ 1000 := by
  have h1 := hP.1
  have h := jn_len (p.map fmtI) [44] 1 (fun i hi => by rw [getD_get _ _ _ hi]; exact ((perm_fmt hP).2.1 _ (List.getElem_mem hi)).1) (p.map fmtI).length (Nat.le_refl _)
  rw [jn_join, List.length_map] at h
  have : p.length * ([44].length + 1) ≤ 10 * 2 := Nat.mul_le_mul (by omega) (by simp)
  unfold fmtPm
  omega
/-- impl.FormatPerm of a permutation -/
theorem impl_FormatPerm_ok (sh : Bool) (p : List Int) (hP : PermP p) : AC Try.prog 43 [.d sh (.sl .int) p] [] [.d true .str (fmtPm p)] [] := by
  have h1 := hP.1
  have hO := impl_PermOk sh p (by omega)
  rw [(permB_iff p).2 hP] at hO
  refine AC_of tauOk 8 0 [2] Try.func43 rfl (by kernel_rfl) rfl rfl rfl rfl rfl ?_
  refine ⟨[], false, _, _, hO, List.nodup_nil, rfl, rfl, trivial, fun _ => ?_, nofun⟩
  refine ⟨[], false, _, _, impl_commas sh p [44] (perm_fmt hP).1 (by omega) (by decide), List.nodup_nil, rfl, rfl, trivial, ?_⟩
  exact ⟨none, ⟨rfl, trivial⟩, rfl, rfl⟩
/-- impl.ParsePerm of a permutation's text -/
theorem impl_ParsePerm_ok (p : List Int) (hP : PermP p) : AC Try.prog 42 [.d true .str (fmtPm p)] [] [.ow 0, .d true .bool true] [.sl 3 .int p] := by
  have h1 := hP.1
  have hF := perm_fmt hP
  have hS := impl_SplitBy (fmtPm p) [44] (by have := fmtPm_len hP; omega)
  rw [fmtPm_split hP] at hS
  have hml : (p.map fmtI).length = p.length := List.length_map ..
  refine AC_of tauOk 33 0 [2, 3] Try.func42 rfl (by kernel_rfl) rfl rfl rfl rfl rfl ?_
  refine ⟨rfl, by decide, true, ?_⟩
  refine ⟨[], true, _, _, hS, List.nodup_nil, rfl, rfl, trivial, ?_⟩
  refine ⟨Nat, fun k => ⟨[(4, .ow 0), (11, .d true (.sl .str) (p.map fmtI)), (12, I (p.map fmtI).length), (13, I (k : Nat))], [.sl 3 .int (p.take k)]⟩, fun k => k ≤ p.length, fun k => p.length - k, 0, Nat.zero_le _,
    ⟨⟨rfl, rfl⟩, ⟨rfl, rfl, rfl, rfl, trivial⟩, rfl, trivial⟩, fun k hk => ?_⟩
  dsimp only at hk
  refine ⟨fun h2 => ?_, fun h2 => ?_⟩
  · have hk2 : k < p.length := by omega
    have hk3 : k < (p.map fmtI).length := by omega
    have ew : (p.map fmtI).getD k [] = fmtI (p.getD k 0) := by rw [getD_get _ _ _ hk3, List.getElem_map, getD_get _ _ _ hk2]
    have hw := hF.2.1 ((p.map fmtI).getD k []) (by rw [getD_get _ _ _ hk3]; exact List.getElem_mem _)
    have hI := impl_ParseInt ((p.map fmtI).getD k []) (by omega)
    rw [prsR_yes hw.2.2, ew, hF.2.2 k hk2, ← ew] at hI
    refine ⟨k, rfl, hk3, [], false, _, _, hI, List.nodup_nil, rfl, rfl, trivial, fun _ => ?_, nofun⟩
    refine ⟨rfl, by decide, false, ?_⟩
    refine ⟨rfl, Nat.zero_le _, rfl, by simp only [List.length_cons, List.length_nil, List.length_take]; omega, rfl, ?_⟩
    exact ⟨((k + 1 : Nat) : Int), w64_eq (by omega) (by omega) (by omega), k + 1, by dsimp only; omega, by dsimp only; omega, ⟨rfl, rfl⟩, ⟨rfl, rfl, rfl, rfl, trivial⟩, rowE (by rw [L_succ p k 0 hk2]), trivial⟩
  · obtain rfl : k = p.length := by omega
    dsimp only
    rw [List.take_length]
    have hO := impl_PermOk false p (by omega)
    rw [(permB_iff p).2 hP] at hO
    refine ⟨[], false, _, _, hO, List.nodup_nil, rfl, rfl, trivial, fun _ => ?_, nofun⟩
    exact ⟨some 0, ⟨⟨rfl, rfl⟩, rfl, trivial⟩, ⟨rfl, rfl⟩, rfl⟩
/-- laws.same -/
theorem laws_same (s1 s2 : Bool) (xs : List Int) (hl : xs.length ≤ 1048576) : AC Try.prog 50 [.d s1 (.sl .int) xs, .d s2 (.sl .int) xs] [] [.d true .bool true] [] := by
  refine AC_of tauOk 26 0 [4] Try.func50 rfl (by kernel_rfl) rfl rfl rfl rfl rfl ?_
  refine ⟨fun h => (h rfl).elim, fun _ => ?_⟩
  refine ⟨Nat, fun k => ⟨[(1, .d s2 (.sl .int) xs), (12, .d s1 (.sl .int) xs), (13, I xs.length), (14, I (k : Nat))], []⟩, fun k => k ≤ xs.length, fun k => xs.length - k, 0, Nat.zero_le _,
    ⟨⟨rfl, rfl⟩, ⟨rfl, rfl, rfl, rfl, trivial⟩, trivial⟩, fun k hk => ?_⟩
  dsimp only at hk
  refine ⟨fun h2 => ?_, fun h2 => ?_⟩
  · have hk2 : k < xs.length := by omega
    refine ⟨k, rfl, hk2, k, rfl, hk2, fun h => (h rfl).elim, fun _ => ?_⟩
    exact ⟨((k + 1 : Nat) : Int), w64_eq (by omega) (by omega) (by omega), k + 1, by dsimp only; omega, by dsimp only; omega, ⟨rfl, rfl⟩, ⟨rfl, rfl, rfl, rfl, trivial⟩, trivial⟩
  · exact ⟨none, ⟨rfl, trivial⟩, rfl, rfl⟩
end Go.Proofs.Ytigebaejdghmmaa
