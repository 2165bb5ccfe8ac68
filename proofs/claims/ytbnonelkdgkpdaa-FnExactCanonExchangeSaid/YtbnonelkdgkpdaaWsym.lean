/-
  Contracts of the functions that find the group of all permutations.
-/
import Derived.Test.YtbnonelkdgkpdaaPls
import Derived.Test.YtbnonelkdgkpdaaWren
import Derived.Test.YtbnonelkdgkpdaaWsf
set_option linter.unusedVariables false
namespace Go.Proofs.Ytbnonelkdgkpdaa
open Go Go.Proofs.Ytbnonelkdgkpdaa.Ow
theorem tds (ys xs : List Int) (k : Nat) (v : Int) (he : ys.length = xs.length) (hk : k < xs.length) (hv : ys.getD k 0 = v) : (ys.take k ++ xs.drop k).set k v = ys.take (k + 1) ++ xs.drop (k + 1) := by
  have hl : (ys.take k).length = k := by rw [List.length_take]; omega
  rw [List.set_append_right _ _ (by omega), hl, Nat.sub_self, List.drop_eq_getElem_cons hk, List.set_cons_zero, L_succ ys k 0 (by omega), hv, List.append_assoc]; rfl
theorem idL_len (n : Nat) : (idL n).length = n := by simp [idL]
theorem turnL_len (n : Nat) : (turnL n).length = n := by simp [turnL]
theorem idL_get (n k : Nat) (h : k < n) : (idL n).getD k 0 = (k : Int) := by
  rw [getD_get _ _ _ (by rw [idL_len]; exact h)]; simp [idL]
theorem turnL_get (n k : Nat) (h : k < n) : (turnL n).getD k 0 = (((k + 1) % n : Nat) : Int) := by
  rw [getD_get _ _ _ (by rw [turnL_len]; exact h)]; simp [turnL]
theorem idL_s (k : Nat) : idL (k + 1) = idL k ++ [(k : Int)] := by simp [idL, List.range_succ]
def tuF (n k : Nat) : List Int := (List.range k).map fun (x : Nat) => (((x + 1) % n : Nat) : Int)
theorem tuF_s (n k : Nat) : tuF n (k + 1) = tuF n k ++ [(((k + 1) % n : Nat) : Int)] := by simp [tuF, List.range_succ]
theorem tuF_len (n k : Nat) : (tuF n k).length = k := by simp [tuF]
/-- spec.IdentityPerm -/
theorem spec_IdentityPerm (n : Nat) (h1 : 1 ≤ n) (hn : n < 11) : AC Try.prog 91 [I (n : Nat)] [] [.ow 0] [.sl 3 .int (idL n)] := by
  refine AC_of tauOk 19 0 [2] Try.func91 rfl (by kernel_rfl) rfl rfl rfl rfl rfl ?_
  refine ⟨[], false, _, _, spec_l01In _ _ _, List.nodup_nil, rfl, rfl, trivial, fun _ => ?_, fun h => by simp only [Bool.and_eq_false_iff, decide_eq_false_iff_not] at h; omega⟩
  refine ⟨rfl, by decide, true, ?_⟩
  refine ⟨Nat, fun k => ⟨[(0, I (n : Nat)), (3, .ow 0), (4, I (k : Nat))], [.sl 3 .int (idL k)]⟩, fun k => k ≤ n, fun k => n - k, 0, Nat.zero_le _,
    ⟨⟨rfl, rfl⟩, ⟨rfl, rfl, rfl, trivial⟩, rfl, trivial⟩, fun k hk => ?_⟩
  dsimp only at hk
  have hil := idL_len k
  refine ⟨fun h2 => ?_, fun h2 => ?_⟩
  · refine ⟨rfl, by decide, false, ?_⟩
    refine ⟨rfl, Nat.zero_le _, rfl, by simp only [List.length_cons, List.length_nil]; omega, rfl, ?_⟩
    exact ⟨((k + 1 : Nat) : Int), w64_eq (by omega) (by omega) (by omega), k + 1, by dsimp only; omega, by dsimp only; omega, ⟨rfl, rfl⟩, ⟨rfl, rfl, rfl, trivial⟩, rowE (idL_s k).symm, trivial⟩
  · obtain rfl : k = n := by omega
    exact ⟨some 0, ⟨⟨rfl, rfl⟩, trivial⟩, ⟨rfl, rfl⟩, rfl⟩
/-- impl.IdentityPerm -/
theorem impl_IdentityPerm (n : Nat) (h1 : 1 ≤ n) (hn : n < 11) : AC Try.prog 90 [I (n : Nat)] [] [.ow 0] [.sl 3 .int (idL n)] := by
  refine AC_of tauOk 24 0 [2] Try.func90 rfl (by kernel_rfl) rfl rfl rfl rfl rfl ?_
  refine ⟨fun h => by omega, fun _ => ?_⟩
  refine ⟨fun h => by omega, fun _ => ?_⟩
  refine ⟨n, n, rfl, rfl, Nat.le_refl _, by omega, ?_⟩
  have hil := idL_len n
  have hrl : (List.replicate n (0 : Int)).length = n := List.length_replicate
  refine ⟨Nat, fun k => ⟨[(3, .ow 0), (14, I ((List.replicate n (0 : Int)).length : Nat)), (15, I (k : Nat))], [.sl 3 .int ((idL n).take k ++ (List.replicate n 0).drop k)]⟩, fun k => k ≤ n, fun k => n - k, 0, Nat.zero_le _,
    ⟨⟨rfl, rfl⟩, ⟨rfl, rfl, rfl, trivial⟩, rfl, trivial⟩, fun k hk => ?_⟩
  dsimp only at hk
  refine ⟨fun h2 => ?_, fun h2 => ?_⟩
  · refine ⟨k, rfl, ?_, ?_⟩
    · simp only [List.length_append, List.length_take, List.length_drop, List.length_replicate]; omega
    exact ⟨((k + 1 : Nat) : Int), w64_eq (by omega) (by omega) (by omega), k + 1, by dsimp only; omega, by dsimp only; omega, ⟨rfl, rfl⟩, ⟨rfl, rfl, rfl, trivial⟩, rowE (tds (idL n) (List.replicate n 0) k _ (by simp [hil]) (by simp; omega) (idL_get n k (by omega))), trivial⟩
  · obtain rfl : k = n := by omega
    exact ⟨some 0, ⟨⟨rfl, rfl⟩, trivial⟩, ⟨rfl, rowsE (by rw [List.take_of_length_le (by omega), List.drop_eq_nil_of_le (by simp), List.append_nil])⟩, rfl⟩
/-- spec.l03Turn -/
theorem spec_l03Turn (n : Nat) (h1 : 1 ≤ n) (hn : n < 11) : AC Try.prog 102 [I (n : Nat)] [] [.ow 0] [.sl 3 .int (turnL n)] := by
  refine AC_of tauOk 19 0 [2] Try.func102 rfl (by kernel_rfl) rfl rfl rfl rfl rfl ?_
  refine ⟨rfl, by decide, true, ?_⟩
  refine ⟨Nat, fun k => ⟨[(0, I (n : Nat)), (3, .ow 0), (4, I (k : Nat))], [.sl 3 .int (tuF n k)]⟩, fun k => k ≤ n, fun k => n - k, 0, Nat.zero_le _,
    ⟨⟨rfl, rfl⟩, ⟨rfl, rfl, rfl, trivial⟩, rfl, trivial⟩, fun k hk => ?_⟩
  dsimp only at hk
  have hil := tuF_len n k
  refine ⟨fun h2 => ?_, fun h2 => ?_⟩
  · refine ⟨((k + 1 : Nat) : Int), w64_eq (by omega) (by omega) (by omega), by omega, (((k + 1) % n : Nat) : Int), Int.ofNat_tmod _ _, ?_⟩
    refine ⟨rfl, by decide, false, ?_⟩
    refine ⟨rfl, Nat.zero_le _, rfl, by simp only [List.length_cons, List.length_nil]; omega, rfl, ?_⟩
    exact ⟨((k + 1 : Nat) : Int), w64_eq (by omega) (by omega) (by omega), k + 1, by dsimp only; omega, by dsimp only; omega, ⟨rfl, rfl⟩, ⟨rfl, rfl, rfl, trivial⟩, rowE (tuF_s n k).symm, trivial⟩
  · obtain rfl : k = n := by omega
    exact ⟨some 0, ⟨⟨rfl, rfl⟩, trivial⟩, ⟨rfl, rfl⟩, rfl⟩
/-- impl.turn -/
theorem impl_turn (n : Nat) (h1 : 1 ≤ n) (hn : n < 11) : AC Try.prog 109 [I (n : Nat)] [] [.ow 0] [.sl 3 .int (turnL n)] := by
  refine AC_of tauOk 21 0 [2] Try.func109 rfl (by kernel_rfl) rfl rfl rfl rfl rfl ?_
  refine ⟨[], false, _, _, impl_IdentityPerm n h1 (by omega), List.nodup_nil, rfl, rfl, trivial, ?_⟩
  have hil := idL_len n
  have htl := turnL_len n
  refine ⟨Nat, fun k => ⟨[(0, I (n : Nat)), (3, .ow 0), (8, I ((idL n).length : Nat)), (9, I (k : Nat))], [.sl 3 .int ((turnL n).take k ++ (idL n).drop k)]⟩, fun k => k ≤ n, fun k => n - k, 0, Nat.zero_le _,
    ⟨⟨rfl, rfl⟩, ⟨rfl, rfl, rfl, rfl, trivial⟩, rfl, trivial⟩, fun k hk => ?_⟩
  dsimp only at hk
  refine ⟨fun h2 => ?_, fun h2 => ?_⟩
  · refine ⟨((k + 1 : Nat) : Int), w64_eq (by omega) (by omega) (by omega), by omega, (((k + 1) % n : Nat) : Int), Int.ofNat_tmod _ _, ?_⟩
    refine ⟨k, rfl, ?_, ?_⟩
    · simp only [List.length_append, List.length_take, List.length_drop]; omega
    exact ⟨((k + 1 : Nat) : Int), w64_eq (by omega) (by omega) (by omega), k + 1, by dsimp only; omega, by dsimp only; omega, ⟨rfl, rfl⟩, ⟨rfl, rfl, rfl, rfl, trivial⟩, rowE (tds (turnL n) (idL n) k _ (by omega) (by omega) (turnL_get n k (by omega))), trivial⟩
  · obtain rfl : k = n := by omega
    exact ⟨some 0, ⟨⟨rfl, rfl⟩, trivial⟩, ⟨rfl, rowsE (by rw [List.take_of_length_le (by omega), List.drop_eq_nil_of_le (by omega), List.append_nil])⟩, rfl⟩
/-- spec.l02Compose -/
theorem spec_l02Compose (s1 s2 : Bool) (xs h : List Int) (hl : xs.length ≤ 1048576) (hx : ∀ i, i < xs.length → 0 ≤ xs.getD i 0 ∧ xs.getD i 0 < (h.length : Int)) :
    AC Try.prog 112 [.d s1 (.sl .int) xs, .d s2 (.sl .int) h] [] [.ow 0] [.sl 3 .int (exL xs h)] := by
  refine AC_of tauOk 24 0 [4] Try.func112 rfl (by kernel_rfl) rfl rfl rfl rfl rfl ?_
  refine ⟨rfl, by decide, true, ?_⟩
  refine ⟨Nat, fun k => ⟨[(1, .d s2 (.sl .int) h), (5, .ow 0), (9, .d s1 (.sl .int) xs), (10, I xs.length), (11, I (k : Nat))], [.sl 3 .int (exL (xs.take k) h)]⟩, fun k => k ≤ xs.length, fun k => xs.length - k, 0, Nat.zero_le _,
    ⟨⟨rfl, rfl⟩, ⟨rfl, rfl, rfl, rfl, rfl, trivial⟩, rfl, trivial⟩, fun k hk => ?_⟩
  dsimp only at hk
  refine ⟨fun h2 => ?_, fun h2 => ?_⟩
  · have hk2 : k < xs.length := by omega
    have hb := hx k hk2
    have hs := exL_succ xs h k hk2
    have hle : (exL (xs.take k) h).length ≤ 1048576 := by rw [exL_len]; simp; omega
    refine ⟨k, rfl, by omega, ?_⟩
    refine ⟨(xs.getD k 0).toNat, (Int.toNat_of_nonneg hb.1).symm, by omega, ?_⟩
    refine ⟨rfl, by decide, false, ?_⟩
    refine ⟨rfl, Nat.zero_le _, rfl, by simp at hle ⊢; omega, rfl, ?_⟩
    exact ⟨((k + 1 : Nat) : Int), w64_eq (by omega) (by omega) (by omega), k + 1, by dsimp only; omega, by dsimp only; omega, ⟨rfl, rfl⟩, ⟨rfl, rfl, rfl, rfl, rfl, trivial⟩, rowE hs.symm, trivial⟩
  · obtain rfl : k = xs.length := by omega
    exact ⟨some 0, ⟨⟨rfl, rfl⟩, trivial⟩, ⟨rfl, rowsE (by rw [List.take_length])⟩, rfl⟩
theorem exL_get (xs h : List Int) (k : Nat) (hk : k < xs.length) : (exL xs h).getD k 0 = h.getD (xs.getD k 0).toNat 0 := by
  rw [getD_get _ _ _ (by rw [exL_len]; exact hk), getD_get _ _ _ hk]; simp [exL]
/-- impl.compose -/
theorem impl_compose (s1 s2 : Bool) (xs h : List Int) (hl : xs.length ≤ 1048576) (hx : ∀ i, i < xs.length → 0 ≤ xs.getD i 0 ∧ xs.getD i 0 < (h.length : Int)) :
    AC Try.prog 86 [.d s1 (.sl .int) xs, .d s2 (.sl .int) h] [] [.ow 0] [.sl 3 .int (exL xs h)] := by
  refine AC_of tauOk 27 0 [4] Try.func86 rfl (by kernel_rfl) rfl rfl rfl rfl rfl ?_
  refine ⟨xs.length, xs.length, rfl, rfl, Nat.le_refl _, by omega, ?_⟩
  have hel := exL_len xs h
  refine ⟨Nat, fun k => ⟨[(1, .d s2 (.sl .int) h), (5, .ow 0), (11, .d s1 (.sl .int) xs), (12, I xs.length), (13, I (k : Nat))], [.sl 3 .int ((exL xs h).take k ++ (List.replicate xs.length 0).drop k)]⟩, fun k => k ≤ xs.length, fun k => xs.length - k, 0, Nat.zero_le _,
    ⟨⟨rfl, rfl⟩, ⟨rfl, rfl, rfl, rfl, rfl, trivial⟩, rfl, trivial⟩, fun k hk => ?_⟩
  dsimp only at hk
  refine ⟨fun h2 => ?_, fun h2 => ?_⟩
  · have hk2 : k < xs.length := by omega
    have hb := hx k hk2
    refine ⟨k, rfl, hk2, (xs.getD k 0).toNat, (Int.toNat_of_nonneg hb.1).symm, by omega, k, rfl, ?_, ?_⟩
    · simp only [List.length_append, List.length_take, List.length_drop, List.length_replicate]; omega
    exact ⟨((k + 1 : Nat) : Int), w64_eq (by omega) (by omega) (by omega), k + 1, by dsimp only; omega, by dsimp only; omega, ⟨rfl, rfl⟩, ⟨rfl, rfl, rfl, rfl, rfl, trivial⟩, rowE (tds (exL xs h) (List.replicate xs.length 0) k _ (by simp [hel]) (by simp; omega) (exL_get xs h k hk2)), trivial⟩
  · obtain rfl : k = xs.length := by omega
    exact ⟨some 0, ⟨⟨rfl, rfl⟩, trivial⟩, ⟨rfl, rowsE (by rw [List.take_of_length_le (by omega), List.drop_eq_nil_of_le (by simp), List.append_nil])⟩, rfl⟩
/-- spec.l03Find, of lists of one length -/
theorem spec_l03Find (s1 s2 : Bool) (xss : List (List Int)) (p : List Int) (hl : xss.length ≤ 1048576) (hp : p.length ≤ 1048576) (hx : ∀ i, i < xss.length → (xss.getD i []).length = p.length) :
    AC Try.prog 113 [.d s1 (.sl (.sl .int)) xss, .d s2 (.sl .int) p] [] [I (findI xss p)] [] := by
  refine AC_of tauOk 39 0 [4] Try.func113 rfl (by kernel_rfl) rfl rfl rfl rfl rfl ?_
  refine ⟨Nat × Nat × Nat, fun i => ⟨[(0, .d s1 (.sl (.sl .int)) xss), (1, .d s2 (.sl .int) p), (5, I (i.1 : Nat)), (6, I (i.2.1 : Nat))], []⟩,
    fun i => (i.1 ≤ i.2.1 ∧ i.2.1 ≤ xss.length) ∧ i.2.1 - i.1 ≤ i.2.2 ∧ bsI xss p i.2.2 i.1 i.2.1 = bsN xss p, fun i => i.2.2, (0, xss.length, xss.length), ⟨⟨Nat.zero_le _, Nat.le_refl _⟩, Nat.le_refl _, rfl⟩,
    ⟨⟨rfl, rfl⟩, ⟨rfl, rfl, rfl, rfl, trivial⟩, trivial⟩, ?_⟩
  rintro ⟨i, j, f⟩ ⟨⟨h1, h2⟩, h3, h4⟩
  dsimp only at h1 h2 h3 h4
  refine ⟨fun h5 => ?_, fun h5 => ?_⟩
  · dsimp only at h5
    have hij : i < j := by omega
    obtain ⟨f', rfl⟩ : ∃ f', f = f' + 1 := ⟨f - 1, by omega⟩
    rw [bsI, if_pos hij] at h4
    refine ⟨((i + j : Nat) : Int), w64_eq (by dsimp only; omega) (by omega) (by omega), by decide, (((i + j) / 2 : Nat) : Int), w64_eq (Int.ofNat_tdiv _ _) (by omega) (by omega), ?_⟩
    have hm : (i + j) / 2 < xss.length := by omega
    refine ⟨(i + j) / 2, rfl, hm, [], false, _, _, spec_l03Less s1 s2 (xss.getD ((i + j) / 2) []) p (by rw [hx _ hm]; exact hp) (hx _ hm).symm, List.nodup_nil, rfl, rfl, trivial, fun h6 => ?_, fun h6 => ?_⟩
    · rw [if_pos (of_decide_eq_true h6)] at h4
      refine ⟨(((i + j) / 2 + 1 : Nat) : Int), w64_eq (by omega) (by omega) (by omega), ?_⟩
      exact ⟨((i + j) / 2 + 1, j, f'), ⟨⟨by dsimp only; omega, h2⟩, by dsimp only; omega, h4⟩, by dsimp only; omega, ⟨rfl, rfl⟩, ⟨rfl, rfl, rfl, rfl, trivial⟩, trivial⟩
    · rw [if_neg (of_decide_eq_false h6)] at h4
      exact ⟨(i, (i + j) / 2, f'), ⟨⟨by dsimp only; omega, by dsimp only; omega⟩, by dsimp only; omega, h4⟩, by dsimp only; omega, ⟨rfl, rfl⟩, ⟨rfl, rfl, rfl, rfl, trivial⟩, trivial⟩
  · dsimp only at h5
    have hb : bsN xss p = i := by
      rw [← h4]
      cases f with
      | zero => rfl
      | succ f => rw [bsI, if_neg (by omega)]
    refine ⟨fun h6 => ?_, fun h6 => ?_⟩
    · have hi : i < xss.length := by dsimp only at h6; omega
      refine ⟨i, rfl, hi, [], false, _, _, spec_l03Same s1 s2 (xss.getD i []) p (by rw [hx _ hi]; exact hp) hp, List.nodup_nil, rfl, rfl, trivial, fun h7 => ?_, fun h7 => ?_⟩
      · exact ⟨none, ⟨retI (by rw [findI, hb, if_pos ⟨hi, of_decide_eq_true h7⟩]), trivial⟩, rfl, rfl⟩
      · exact ⟨none, ⟨retI (by rw [findI, hb, if_neg (fun e => of_decide_eq_false h7 e.2)]), trivial⟩, rfl, rfl⟩
    · exact ⟨none, ⟨retI (by rw [findI, hb, if_neg (fun e => h6 (by have := e.1; dsimp only; omega))]), trivial⟩, rfl, rfl⟩
/-! ### the steps, unfolded -/
theorem drop_c {α : Type} (l : List α) (j : Nat) (d : α) (h : j < l.length) : l.drop j = l.getD j d :: l.drop (j + 1) := by
  rw [getD_get _ _ _ h, List.drop_eq_getElem_cons h]
theorem innS_cons {n a : Nat} {g : List Int} {gs out q : List (List Int)} {o} (h : innS n a (g :: gs) out q = some o) :
    ((out.length ≤ 120 ∧ q.length ≤ 120 ∧ a < q.length) ∧ okP n (q.getD a []) = true ∧ ∀ i, i < out.length → (out.getD i []).length = n) ∧
    ((0 ≤ findI out (exL (q.getD a []) g) ∧ innS n a gs out q = some o) ∨ (¬ 0 ≤ findI out (exL (q.getD a []) g) ∧ out.length ≠ 120 ∧ innS n a gs (putS out (exL (q.getD a []) g)) (q ++ [exL (q.getD a []) g]) = some o)) := by
  rw [innS] at h
  split at h
  · rename_i h1
    refine ⟨⟨h1.1, h1.2.1, fun i hi => ?_⟩, ?_⟩
    · have := h1.2.2
      rw [List.all_eq_true] at this
      have := this _ (List.getElem_mem hi)
      rw [getD_get _ _ _ hi]
      exact of_decide_eq_true this
    · split at h
      · rename_i h2; exact .inl ⟨h2, h⟩
      · rename_i h2
        split at h
        · cases h
        · rename_i h3; exact .inr ⟨h2, h3, h⟩
  · cases h
theorem bfsS_some {n : Nat} {gens : List (List Int)} {f a : Nat} {out q R} (h : bfsS n gens f a out q = some R) :
    ∃ f', f = f' + 1 ∧ ((a < q.length ∧ ∃ o, innS n a gens out q = some o ∧ bfsS n gens f' (a + 1) o.1 o.2 = some R) ∨ (¬ a < q.length ∧ out = R)) := by
  match f, h with
  | f + 1, h =>
    refine ⟨f, rfl, ?_⟩
    rw [bfsS] at h
    split at h
    · rename_i h1
      cases hi : innS n a gens out q with
      | none => rw [hi] at h; cases h
      | some o => rw [hi] at h; exact .inl ⟨h1, o, rfl, h⟩
    · rename_i h1; exact .inr ⟨h1, Option.some.inj h⟩
theorem innI_cons {n a : Nat} {g : List Int} {gs out : List (List Int)} {o} (h : innI n a (g :: gs) out = some o) :
    ((out.length ≤ 120 ∧ a < out.length) ∧ okP n (out.getD a []) = true ∧ ∀ i, i < out.length → (out.getD i []).length = n) ∧
    (((out.any fun x => decide (x = exL (out.getD a []) g)) = true ∧ innI n a gs out = some o) ∨ ((out.any fun x => decide (x = exL (out.getD a []) g)) = false ∧ out.length ≠ 120 ∧ innI n a gs (out ++ [exL (out.getD a []) g]) = some o)) := by
  rw [innI] at h
  split at h
  · rename_i h1
    refine ⟨⟨h1.1, h1.2.1, fun i hi => by
      have := h1.2.2
      rw [List.all_eq_true] at this
      have := this _ (List.getElem_mem hi)
      rw [getD_get _ _ _ hi]
      exact of_decide_eq_true this⟩, ?_⟩
    split at h
    · rename_i h2; exact .inl ⟨h2, h⟩
    · rename_i h2
      split at h
      · cases h
      · rename_i h3; exact .inr ⟨by rw [Bool.eq_false_iff]; exact h2, h3, h⟩
  · cases h
theorem bfsI_some {n : Nat} {gens : List (List Int)} {f a : Nat} {out R} (h : bfsI n gens f a out = some R) :
    ∃ f', f = f' + 1 ∧ ((a < out.length ∧ ∃ o, innI n a gens out = some o ∧ bfsI n gens f' (a + 1) o = some R) ∨ (¬ a < out.length ∧ out = R)) := by
  match f, h with
  | f + 1, h =>
    refine ⟨f, rfl, ?_⟩
    rw [bfsI] at h
    split at h
    · rename_i h1
      cases hi : innI n a gens out with
      | none => rw [hi] at h; cases h
      | some o => rw [hi] at h; exact .inl ⟨h1, o, rfl, h⟩
    · rename_i h1; exact .inr ⟨h1, Option.some.inj h⟩
theorem putN_le (xss : List (List Int)) (p : List Int) : ∀ f k, k ≤ xss.length → putN xss p f k ≤ xss.length
  | 0, k, h => h
  | f + 1, k, h => by
    rw [putN]
    split
    · rename_i h1; exact putN_le xss p f (k + 1) h1.1
    · exact h
/-- spec.l03Put, of lists of one length -/
theorem spec_l03Put (xss : List (List Int)) (p : List Int) (hl : xss.length ≤ 120) (hp : p.length ≤ 1048576) (hx : ∀ i, i < xss.length → (xss.getD i []).length = p.length) :
    AC Try.prog 114 [.d true (.sl (.sl .int)) xss, .d true (.sl .int) p] [] [.ow 0] [.sl 25 (.sl .int) (putS xss p)] := by
  refine AC_of tauOk 35 0 [4] Try.func114 rfl (by kernel_rfl) rfl rfl rfl rfl rfl ?_
  have hle := putN_le xss p 200 0 (Nat.zero_le _)
  refine ⟨Nat, fun k => ⟨[(0, .d true (.sl (.sl .int)) xss), (1, .d true (.sl .int) p), (5, I (k : Nat))], []⟩, fun k => k ≤ xss.length ∧ putN xss p (200 - k) k = putN xss p 200 0, fun k => xss.length - k, 0, ⟨Nat.zero_le _, rfl⟩,
    ⟨⟨rfl, rfl⟩, ⟨rfl, rfl, rfl, trivial⟩, trivial⟩, fun k ⟨hk, hb⟩ => ?_⟩
  obtain ⟨f, hf⟩ : ∃ f, 200 - k = f + 1 := ⟨199 - k, by omega⟩
  rw [hf, putN] at hb
  have fin : ¬ (k < xss.length ∧ cmpI (xss.getD k []) p < 0) → putN xss p 200 0 = k := fun h => by rw [if_neg h] at hb; exact hb.symm
  have stp : (k < xss.length ∧ cmpI (xss.getD k []) p < 0) → putN xss p (200 - (k + 1)) (k + 1) = putN xss p 200 0 := fun h => by
    rw [if_pos h] at hb
    rw [← hb]
    congr 1
    omega
  clear hb
  have rest : ∀ k, k = putN xss p 200 0 → xss.take k ++ [p] ++ xss.drop k = putS xss p := fun k h => by rw [h]; rfl
  refine ⟨fun h1 => ?_, fun h1 => ?_⟩
  · have hk2 : k < xss.length := by omega
    refine ⟨k, rfl, hk2, [], false, _, _, spec_l03Less true true (xss.getD k []) p (by rw [hx k hk2]; exact hp) (hx k hk2).symm, List.nodup_nil, rfl, rfl, trivial, fun h6 => ?_, fun h6 => ?_⟩
    · exact ⟨((k + 1 : Nat) : Int), w64_eq (by omega) (by omega) (by omega), k + 1, ⟨by omega, stp ⟨hk2, of_decide_eq_true h6⟩⟩, by dsimp only; omega, ⟨rfl, rfl⟩, ⟨rfl, rfl, rfl, trivial⟩, trivial⟩
    · have e := fin fun e => of_decide_eq_false h6 e.2
      refine ⟨rfl, by decide, true, ?_⟩
      refine ⟨k, rfl, Nat.zero_le _, hk, ?_⟩
      refine ⟨rfl, Nat.zero_le _, rfl, by simp only [List.length_drop, List.length_take, List.length_nil]; omega, rfl, ?_⟩
      refine ⟨rfl, by decide, false, ?_⟩
      refine ⟨rfl, Nat.zero_le _, rfl, by simp only [List.length_append, List.length_cons, List.length_drop, List.length_take, List.length_nil]; omega, rfl, ?_⟩
      refine ⟨k, rfl, hk, Nat.le_refl _, ?_⟩
      refine ⟨rfl, Nat.zero_le _, rfl, by simp only [List.length_append, List.length_cons, List.length_drop, List.length_take, List.length_nil]; omega, rfl, ?_⟩
      exact ⟨some 0, ⟨⟨rfl, rfl⟩, trivial⟩, ⟨rfl, rowsE (by rw [putS, e, List.take_length]; rfl)⟩, rfl⟩
  · have e := fin fun e => h1 (by have := e.1; omega)
    refine ⟨rfl, by decide, true, ?_⟩
    refine ⟨k, rfl, Nat.zero_le _, hk, ?_⟩
    refine ⟨rfl, Nat.zero_le _, rfl, by simp only [List.length_drop, List.length_take, List.length_nil]; omega, rfl, ?_⟩
    refine ⟨rfl, by decide, false, ?_⟩
    refine ⟨rfl, Nat.zero_le _, rfl, by simp only [List.length_append, List.length_cons, List.length_drop, List.length_take, List.length_nil]; omega, rfl, ?_⟩
    refine ⟨k, rfl, hk, Nat.le_refl _, ?_⟩
    refine ⟨rfl, Nat.zero_le _, rfl, by simp only [List.length_append, List.length_cons, List.length_drop, List.length_take, List.length_nil]; omega, rfl, ?_⟩
    exact ⟨some 0, ⟨⟨rfl, rfl⟩, trivial⟩, ⟨rfl, rowsE (by rw [putS, e, List.take_length]; rfl)⟩, rfl⟩
theorem putS_len (xss : List (List Int)) (p : List Int) : (putS xss p).length = xss.length + 1 := by
  have := putN_le xss p 200 0 (Nat.zero_le _)
  simp only [putS, List.length_append, List.length_take, List.length_drop, List.length_cons, List.length_nil]
  omega
theorem retDs {sh : Bool} {t : Ty} {b c : List t.T} (h : b = c) : (AV.d sh (.sl t) b) = .d sh (.sl t) c := by rw [h]
/-- what generators must be -/
def GenP (n : Nat) (gens : List (List Int)) : Prop := gens.length ≤ 1000 ∧ ∀ i, i < gens.length → permB (gens.getD i []) = true ∧ (gens.getD i []).length = n
/-- spec.GroupOf -/
theorem spec_GroupOf (sh : Bool) (n : Nat) (gens R : List (List Int)) (h1 : 1 ≤ n) (hn : n < 11) (hg : GenP n gens) (hR : bfsS n gens 200 0 [idL n] [idL n] = some R) :
    AC Try.prog 83 [I (n : Nat), .d sh (.sl (.sl .int)) gens] [] [.d true (.sl (.sl .int)) R, .d true .bool true] [] := by
  have hgl := hg.1
  refine AC_of tauOk 73 0 [4, 5] Try.func83 rfl (by kernel_rfl) rfl rfl rfl rfl rfl ?_
  refine ⟨[], false, _, _, spec_l01In _ _ _, List.nodup_nil, rfl, rfl, trivial, fun _ => ?_, fun h => by simp only [Bool.and_eq_false_iff, decide_eq_false_iff_not] at h; omega⟩
  refine ⟨Nat, fun k => ⟨[(0, I (n : Nat)), (1, .d sh (.sl (.sl .int)) gens), (17, .d sh (.sl (.sl .int)) gens), (18, I gens.length), (19, I (k : Nat))], []⟩, fun k => k ≤ gens.length, fun k => gens.length - k, 0, Nat.zero_le _,
    ⟨⟨rfl, rfl⟩, ⟨rfl, rfl, rfl, rfl, rfl, trivial⟩, trivial⟩, fun k hk => ?_⟩
  dsimp only at hk
  refine ⟨fun h2 => ?_, fun h2 => ?_⟩
  · have hk2 : k < gens.length := by omega
    have hp := hg.2 k hk2
    refine ⟨k, rfl, hk2, [], false, _, _, spec_PermOk sh (gens.getD k []) (by omega), List.nodup_nil, rfl, rfl, trivial, fun h3 => ?_, fun h3 => by rw [hp.1] at h3; cases h3⟩
    refine ⟨fun h4 => (h4 (by omega)).elim, fun _ => ?_⟩
    exact ⟨((k + 1 : Nat) : Int), w64_eq (by omega) (by omega) (by omega), k + 1, by dsimp only; omega, by dsimp only; omega, ⟨rfl, rfl⟩, ⟨rfl, rfl, rfl, rfl, rfl, trivial⟩, trivial⟩
  · clear h2
    refine ⟨[], true, _, _, spec_IdentityPerm n h1 (by omega), List.nodup_nil, rfl, rfl, trivial, ?_⟩
    refine ⟨rfl, by decide, false, ?_⟩
    refine ⟨[], true, _, _, spec_IdentityPerm n h1 (by omega), List.nodup_nil, rfl, rfl, trivial, ?_⟩
    refine ⟨rfl, by decide, true, ?_⟩
    refine ⟨Nat × List (List Int) × List (List Int), fun i => ⟨[(0, I (n : Nat)), (1, .d sh (.sl (.sl .int)) gens), (8, .d true (.sl (.sl .int)) i.2.1), (9, .ow 0), (10, I (i.1 : Nat))], [.sl 25 (.sl .int) i.2.2]⟩,
      fun i => i.1 ≤ 200 ∧ bfsS n gens (200 - i.1) i.1 i.2.1 i.2.2 = some R, fun i => 200 - i.1, (0, [idL n], [idL n]), ⟨Nat.zero_le _, hR⟩,
      ⟨⟨rfl, rfl⟩, ⟨rfl, rfl, rfl, rfl, rfl, trivial⟩, rfl, trivial⟩, ?_⟩
    rintro ⟨a, g, q⟩ ⟨ha, hb⟩
    dsimp only at ha hb
    obtain ⟨f, hf, hcase⟩ := bfsS_some hb
    refine ⟨fun h3 => ?_, fun h3 => ?_⟩
    · dsimp only at h3
      rcases hcase with ⟨haq, o, ho, hR2⟩ | ⟨haq, _⟩
      · refine ⟨Nat × List (List Int) × List (List Int), fun i => ⟨[(0, I (n : Nat)), (1, .d sh (.sl (.sl .int)) gens), (8, .d true (.sl (.sl .int)) i.2.1), (9, .ow 0), (10, I (a : Nat)), (45, .d sh (.sl (.sl .int)) gens), (46, I gens.length), (47, I (i.1 : Nat))], [.sl 25 (.sl .int) i.2.2]⟩,
          fun i => i.1 ≤ gens.length ∧ innS n a (gens.drop i.1) i.2.1 i.2.2 = some o, fun i => gens.length - i.1, (0, g, q), ⟨Nat.zero_le _, ho⟩,
          ⟨⟨rfl, rfl⟩, ⟨rfl, rfl, rfl, rfl, rfl, rfl, rfl, rfl, trivial⟩, rfl, trivial⟩, ?_⟩
        rintro ⟨j, g', q'⟩ ⟨hj, hin⟩
        dsimp only at hj hin
        refine ⟨fun h4 => ?_, fun h4 => ?_⟩
        · dsimp only at h4
          have hj2 : j < gens.length := by omega
          have hp := hg.2 j hj2
          rw [drop_c gens j [] hj2] at hin
          obtain ⟨⟨⟨c1, c2, c3⟩, c4, c5⟩, c6⟩ := innS_cons hin
          have c7 := okP_iff c4
          have hel := exL_len (q'.getD a []) (gens.getD j [])
          refine ⟨j, rfl, hj2, a, rfl, c3, ?_⟩
          refine ⟨[], true, _, _, spec_l02Compose true sh (q'.getD a []) (gens.getD j []) (by omega) (fun i hi => by rw [hp.2]; exact c7.2 i hi), List.nodup_nil, rfl, rfl, trivial, ?_⟩
          have hel2 : ∀ i, i < g'.length → (g'.getD i []).length = (exL (q'.getD a []) (gens.getD j [])).length := fun i hi => by rw [c5 i hi]; omega
          refine ⟨[], false, _, _, spec_l03Find true true g' (exL (q'.getD a []) (gens.getD j [])) (by omega) (by omega) hel2, List.nodup_nil, rfl, rfl, trivial, fun h5 => ?_, fun h5 => ?_⟩
          · rcases c6 with ⟨_, c6⟩ | ⟨c6, _⟩
            · exact ⟨((j + 1 : Nat) : Int), w64_eq (by omega) (by omega) (by omega), (j + 1, g', q'), ⟨by dsimp only; omega, c6⟩, by dsimp only; omega, ⟨rfl, rfl⟩, ⟨rfl, rfl, rfl, rfl, rfl, rfl, rfl, rfl, trivial⟩, rfl, trivial⟩
            · exact (c6 h5).elim
          · rcases c6 with ⟨c6, _⟩ | ⟨_, c8, c6⟩
            · exact (h5 c6).elim
            · refine ⟨fun h6 => by dsimp only at h6; omega, fun _ => ?_⟩
              refine ⟨[], true, _, _, spec_l03Put g' (exL (q'.getD a []) (gens.getD j [])) c1 (by omega) hel2, List.nodup_nil, rfl, rfl, trivial, ?_⟩
              refine ⟨rfl, by decide, false, ?_⟩
              refine ⟨rfl, Nat.zero_le _, rfl, by simp only [List.length_cons, List.length_nil]; omega, rfl, ?_⟩
              exact ⟨((j + 1 : Nat) : Int), w64_eq (by omega) (by omega) (by omega), (j + 1, putS g' (exL (q'.getD a []) (gens.getD j [])), q' ++ [exL (q'.getD a []) (gens.getD j [])]), ⟨by dsimp only; omega, c6⟩, by dsimp only; omega, ⟨rfl, rfl⟩, ⟨rfl, rfl, rfl, rfl, rfl, rfl, rfl, rfl, trivial⟩, rfl, trivial⟩
        · dsimp only at h4
          obtain rfl : j = gens.length := by omega
          rw [List.drop_length] at hin
          obtain rfl : o = (g', q') := (Option.some.inj hin).symm
          exact ⟨((a + 1 : Nat) : Int), w64_eq (by omega) (by omega) (by omega), (a + 1, g', q'), ⟨by dsimp only; omega, by dsimp only; rw [show 200 - (a + 1) = f from by omega]; exact hR2⟩, by dsimp only; omega, ⟨rfl, rfl⟩, ⟨rfl, rfl, rfl, rfl, rfl, trivial⟩, rfl, trivial⟩
      · omega
    · dsimp only at h3
      rcases hcase with ⟨haq, _⟩ | ⟨_, he⟩
      · omega
      · exact ⟨none, ⟨retDs he.symm, rfl, trivial⟩, rfl, rfl⟩
theorem gens_ok (n : Nat) (h1 : 1 ≤ n) (hn : n < 6) : GenP n [turnL n, swapL n] := by
  have h := sym_gens n hn h1
  refine ⟨by show 2 ≤ 1000; decide, fun i hi => ?_⟩
  have hi : i < 2 := hi
  match i, hi with
  | 0, _ => exact h.1
  | 1, _ => exact h.2
/-- spec.SymmetricGroup -/
theorem spec_SymmetricGroup (n : Nat) (h1 : 1 ≤ n) (hn : n < 6) : AC Try.prog 75 [I (n : Nat)] [] [.d true (.sl (.sl .int)) (symL n), .d true .bool true] [] := by
  have hS := sym_ok n hn h1
  have hil := idL_len n
  have hG := spec_GroupOf true n [turnL n, swapL n] (symL n) h1 (by omega) (gens_ok n h1 hn) hS.s
  refine AC_of tauOk 24 0 [2, 3] Try.func75 rfl (by kernel_rfl) rfl rfl rfl rfl rfl ?_
  refine ⟨[], false, _, _, spec_l01In _ _ _, List.nodup_nil, rfl, rfl, trivial, fun _ => ?_, fun h => by simp only [Bool.and_eq_false_iff, decide_eq_false_iff_not] at h; omega⟩
  refine ⟨[], false, _, _, spec_IdentityPerm n h1 (by omega), List.nodup_nil, rfl, rfl, trivial, ?_⟩
  refine ⟨fun h => ?_, fun h => ?_⟩
  · refine ⟨0, rfl, by omega, ?_⟩
    refine ⟨1, rfl, by rw [List.length_set]; omega, ?_⟩
    rw [swapL, if_pos (by omega)] at hG
    refine ⟨[], true, _, _, spec_l03Turn n h1 (by omega), List.nodup_nil, rfl, rfl, trivial, ?_⟩
    refine ⟨rfl, rfl, by decide, false, ?_⟩
    refine ⟨[], false, _, _, hG, List.nodup_nil, rfl, rfl, trivial, fun _ => ?_, nofun⟩
    exact ⟨none, ⟨rfl, rfl, trivial⟩, rfl, rfl⟩
  · rw [swapL, if_neg (by omega)] at hG
    refine ⟨[], true, _, _, spec_l03Turn n h1 (by omega), List.nodup_nil, rfl, rfl, trivial, ?_⟩
    refine ⟨rfl, rfl, by decide, false, ?_⟩
    refine ⟨[], false, _, _, hG, List.nodup_nil, rfl, rfl, trivial, fun _ => ?_, nofun⟩
    exact ⟨none, ⟨rfl, rfl, trivial⟩, rfl, rfl⟩
/-- the first index at which p holds, or -1 -/
def idxL (p : List Int → Bool) (xss : List (List Int)) : Int := match xss.findIdx? p with | some i => (i : Int) | none => -1
theorem idxL_at {p : List Int → Bool} {xss : List (List Int)} {k : Nat} (hk : k < xss.length) (h : p (xss.getD k []) = true) (h0 : ∀ j, j < k → p (xss.getD j []) = false) : (k : Int) = idxL p xss := by
  have : xss.findIdx? p = some k := by
    rw [List.findIdx?_eq_some_iff_getElem]
    exact ⟨hk, by rw [getD_get _ _ _ hk] at h; exact h, fun j hj => by have := h0 j hj; rw [getD_get _ _ _ (by omega)] at this; simp [this]⟩
  rw [idxL, this]
theorem idxL_no {p : List Int → Bool} {xss : List (List Int)} (h0 : ∀ j, j < xss.length → p (xss.getD j []) = false) : -1 = idxL p xss := by
  have : xss.findIdx? p = none := by
    rw [List.findIdx?_eq_none_iff]
    intro x hx
    obtain ⟨j, hj, rfl⟩ := List.getElem_of_mem hx
    have := h0 j hj; rwa [getD_get _ _ _ hj] at this
  rw [idxL, this]
/-- slices.IndexFunc of lists, by a closure over one variable -/
theorem slices_IndexFunc_ints (F : Nat) (e : TypeId) (t : Ty) (v : t.T) (p : List Int → Bool) (sh : Bool) (xss : List (List Int)) (hl : xss.length ≤ 1048576)
    (hF : ∀ i, i < xss.length → AC Try.prog F [.d sh (.sl .int) (xss.getD i []), .ptr 0 0] [.box e (.d true t v)] [.d true .bool (p (xss.getD i []))] [.box e (.d true t v)]) :
    AC Try.prog 98 [.d sh (.sl (.sl .int)) xss, .fn F [.ptr 0 0]] [.box e (.d true t v)] [I (idxL p xss)] [.box e (.d true t v)] := by
  refine AC_of tauOk 19 1 [4] Try.func98 rfl (by kernel_rfl) rfl rfl rfl rfl rfl ?_
  refine ⟨Nat, fun k => ⟨[(0, .d sh (.sl (.sl .int)) xss), (1, .fn F [.ptr 0 0]), (7, I xss.length), (8, I (k : Nat))], [.box e (.d true t v)]⟩, fun k => k ≤ xss.length ∧ ∀ j, j < k → p (xss.getD j []) = false, fun k => xss.length - k, 0, ⟨by omega, fun j hj => by omega⟩,
    ⟨⟨rfl, rfl⟩, ⟨rfl, rfl, rfl, rfl, trivial⟩, rfl, trivial⟩, fun k ⟨hk, hy⟩ => ?_⟩
  refine ⟨fun h1 => ?_, fun h1 => ?_⟩
  · have hk2 : k < xss.length := by omega
    refine ⟨k, rfl, hk2, [0], false, _, _, hF k hk2, by decide, rfl, rfl, ⟨⟨rfl, trivial⟩, trivial⟩, fun h2 => ?_, fun h2 => ?_⟩
    · exact ⟨none, ⟨retI (idxL_at hk2 h2 hy).symm, trivial⟩, rfl, rfl⟩
    · refine ⟨_, w64_in _ (by omega) (by omega), k + 1, ⟨by omega, fun i hi => ?_⟩, by dsimp only; omega, ⟨rfl, rfl⟩, ⟨rfl, rfl, rfl, rfl, trivial⟩, rfl, trivial⟩
      by_cases e : i = k
      · subst e; exact h2
      · exact hy i (by omega)
  · exact ⟨none, ⟨retI (idxL_no fun j hj => hy j (by omega)).symm, trivial⟩, rfl, rfl⟩
theorem idxL_any (p : List Int → Bool) (xss : List (List Int)) : (0 ≤ idxL p xss) ↔ xss.any p = true := by
  unfold idxL
  cases h : xss.findIdx? p with
  | none =>
    rw [List.findIdx?_eq_none_iff] at h
    simp only [List.any_eq_true]
    exact ⟨fun h => by omega, fun ⟨x, hx, hp⟩ => by rw [h x hx] at hp; cases hp⟩
  | some i =>
    rw [List.findIdx?_eq_some_iff_getElem] at h
    obtain ⟨hi, hp, _⟩ := h
    simp only [List.any_eq_true]
    exact ⟨fun _ => ⟨xss[i], List.getElem_mem hi, hp⟩, fun _ => by omega⟩
theorem slices_ContainsFunc_ints (F : Nat) (e : TypeId) (t : Ty) (v : t.T) (p : List Int → Bool) (sh : Bool) (xss : List (List Int)) (hl : xss.length ≤ 1048576)
    (hF : ∀ i, i < xss.length → AC Try.prog F [.d sh (.sl .int) (xss.getD i []), .ptr 0 0] [.box e (.d true t v)] [.d true .bool (p (xss.getD i []))] [.box e (.d true t v)]) :
    AC Try.prog 121 [.d sh (.sl (.sl .int)) xss, .fn F [.ptr 0 0]] [.box e (.d true t v)] [.d true .bool (xss.any p)] [.box e (.d true t v)] := by
  refine AC_of tauOk 9 1 [4] Try.func121 rfl (by kernel_rfl) rfl rfl rfl rfl rfl ?_
  refine ⟨[0], false, _, _, slices_IndexFunc_ints F e t v p sh xss hl hF, by decide, rfl, rfl, ⟨⟨rfl, trivial⟩, trivial⟩, fun h1 => ?_, fun h1 => ?_⟩
  · exact ⟨none, ⟨retB ((idxL_any p xss).1 h1), trivial⟩, rfl, rfl⟩
  · exact ⟨none, ⟨retB (by cases h : xss.any p; rfl; exact (h1 ((idxL_any p xss).2 h)).elim), trivial⟩, rfl, rfl⟩
/-- the closure of impl.GroupOf -/
theorem impl_GroupOf_1 (sh : Bool) (x q : List Int) (hx : x.length ≤ 1048576) (hq : q.length ≤ 1048576) : AC Try.prog 122 [.d sh (.sl .int) x, .ptr 0 0] [.box 25 (.d true (.sl .int) q)] [.d true .bool (decide (x = q))] [.box 25 (.d true (.sl .int) q)] := by
  refine AC_of tauOk 7 1 [3] Try.func122 rfl (by kernel_rfl) rfl rfl rfl rfl rfl ?_
  refine ⟨rfl, [], false, _, _, slices_Equal_int sh true x q hx hq, List.nodup_nil, rfl, rfl, trivial, fun h => ?_, fun h => ?_⟩
  · exact ⟨none, ⟨retB h, trivial⟩, rfl, rfl⟩
  · exact ⟨none, ⟨retB h, trivial⟩, rfl, rfl⟩
/-- impl.GroupOf -/
theorem impl_GroupOf (sh : Bool) (n : Nat) (gens R S : List (List Int)) (h1 : 1 ≤ n) (hn : n < 11) (hg : GenP n gens) (hR : bfsI n gens 200 0 [idL n] = some R)
    (hp : S.Perm R) (hs : S.Pairwise fun x y => ¬ cmpI y x < 0) (hS : S.length ≤ 120 ∧ S ≠ [] ∧ ∀ x ∈ S, x ≠ [] ∧ x.length ≤ 1048576) :
    AC Try.prog 108 [I (n : Nat), .d sh (.sl (.sl .int)) gens] [] [.ow 0, .d true .bool true] [.sl 25 (.sl .int) S] := by
  have hgl := hg.1
  refine AC_of tauOk 70 0 [4, 5] Try.func108 rfl (by kernel_rfl) rfl rfl rfl rfl rfl ?_
  refine ⟨fun h => by omega, fun _ => ?_⟩
  refine ⟨fun h => by omega, fun _ => ?_⟩
  refine ⟨Nat, fun k => ⟨[(0, I (n : Nat)), (1, .d sh (.sl (.sl .int)) gens), (19, .d sh (.sl (.sl .int)) gens), (20, I gens.length), (21, I (k : Nat))], []⟩, fun k => k ≤ gens.length, fun k => gens.length - k, 0, Nat.zero_le _,
    ⟨⟨rfl, rfl⟩, ⟨rfl, rfl, rfl, rfl, rfl, trivial⟩, trivial⟩, fun k hk => ?_⟩
  dsimp only at hk
  refine ⟨fun h2 => ?_, fun h2 => ?_⟩
  · have hk2 : k < gens.length := by omega
    have hp := hg.2 k hk2
    refine ⟨k, rfl, hk2, [], false, _, _, impl_PermOk sh (gens.getD k []) (by omega), List.nodup_nil, rfl, rfl, trivial, fun h3 => ?_, fun h3 => by rw [hp.1] at h3; cases h3⟩
    refine ⟨fun h4 => (h4 (by omega)).elim, fun _ => ?_⟩
    exact ⟨((k + 1 : Nat) : Int), w64_eq (by omega) (by omega) (by omega), k + 1, by dsimp only; omega, by dsimp only; omega, ⟨rfl, rfl⟩, ⟨rfl, rfl, rfl, rfl, rfl, trivial⟩, trivial⟩
  · clear h2
    refine ⟨[], true, _, _, impl_IdentityPerm n h1 (by omega), List.nodup_nil, rfl, rfl, trivial, ?_⟩
    refine ⟨rfl, by decide, true, ?_⟩
    refine ⟨Nat × List (List Int), fun i => ⟨[(0, I (n : Nat)), (1, .d sh (.sl (.sl .int)) gens), (8, .ow 0), (9, I (i.1 : Nat))], [.sl 25 (.sl .int) i.2]⟩,
      fun i => i.1 ≤ 200 ∧ bfsI n gens (200 - i.1) i.1 i.2 = some R, fun i => 200 - i.1, (0, [idL n]), ⟨Nat.zero_le _, hR⟩,
      ⟨⟨rfl, rfl⟩, ⟨rfl, rfl, rfl, rfl, trivial⟩, rfl, trivial⟩, ?_⟩
    rintro ⟨a, q⟩ ⟨ha, hb⟩
    dsimp only at ha hb
    obtain ⟨f, hf, hcase⟩ := bfsI_some hb
    refine ⟨fun h3 => ?_, fun h3 => ?_⟩
    · dsimp only at h3
      rcases hcase with ⟨haq, o, ho, hR2⟩ | ⟨haq, _⟩
      · refine ⟨Nat × List (List Int), fun i => ⟨[(0, I (n : Nat)), (1, .d sh (.sl (.sl .int)) gens), (8, .ow 0), (9, I (a : Nat)), (44, .d sh (.sl (.sl .int)) gens), (45, I gens.length), (46, I (i.1 : Nat))], [.sl 25 (.sl .int) i.2]⟩,
          fun i => i.1 ≤ gens.length ∧ innI n a (gens.drop i.1) i.2 = some o, fun i => gens.length - i.1, (0, q), ⟨Nat.zero_le _, ho⟩,
          ⟨⟨rfl, rfl⟩, ⟨rfl, rfl, rfl, rfl, rfl, rfl, rfl, trivial⟩, rfl, trivial⟩, ?_⟩
        rintro ⟨j, q'⟩ ⟨hj, hin⟩
        dsimp only at hj hin
        refine ⟨fun h4 => ?_, fun h4 => ?_⟩
        · dsimp only at h4
          have hj2 : j < gens.length := by omega
          have hp := hg.2 j hj2
          rw [drop_c gens j [] hj2] at hin
          obtain ⟨⟨⟨c2, c3⟩, c4, c5⟩, c6⟩ := innI_cons hin
          have c7 := okP_iff c4
          have hel := exL_len (q'.getD a []) (gens.getD j [])
          refine ⟨j, rfl, hj2, a, rfl, c3, ?_⟩
          refine ⟨[], true, _, _, impl_compose true sh (q'.getD a []) (gens.getD j []) (by omega) (fun i hi => by rw [hp.2]; exact c7.2 i hi), List.nodup_nil, rfl, rfl, trivial, ?_⟩
          have hql : ∀ i, i < q'.length → (q'.getD i []).length ≤ 1048576 := fun i hi => by have := c5 i hi; omega
          refine ⟨rfl, rfl, [1], false, _, _, slices_ContainsFunc_ints 122 25 (.sl .int) (exL (q'.getD a []) (gens.getD j [])) (fun x => decide (x = exL (q'.getD a []) (gens.getD j []))) false q' (by omega) (fun i hi => impl_GroupOf_1 false _ _ (hql i hi) (by omega)), by decide, rfl, rfl, ⟨⟨rfl, trivial⟩, trivial⟩, fun h5 => ?_, fun h5 => ?_⟩
          · rcases c6 with ⟨_, c6⟩ | ⟨c6, _⟩
            · exact ⟨((j + 1 : Nat) : Int), w64_eq (by omega) (by omega) (by omega), (j + 1, q'), ⟨by dsimp only; omega, c6⟩, by dsimp only; omega, ⟨rfl, rfl⟩, ⟨rfl, rfl, rfl, rfl, rfl, rfl, rfl, trivial⟩, rfl, trivial⟩
            · rw [c6] at h5; cases h5
          · rcases c6 with ⟨c6, _⟩ | ⟨_, c8, c6⟩
            · rw [c6] at h5; cases h5
            · refine ⟨fun h6 => by dsimp only at h6; omega, fun _ => ?_⟩
              refine ⟨rfl, rfl, by decide, false, ?_⟩
              refine ⟨rfl, Nat.zero_le _, rfl, by simp only [List.length_cons, List.length_nil]; omega, rfl, ?_⟩
              exact ⟨((j + 1 : Nat) : Int), w64_eq (by omega) (by omega) (by omega), (j + 1, q' ++ [exL (q'.getD a []) (gens.getD j [])]), ⟨by dsimp only; omega, c6⟩, by dsimp only; omega, ⟨rfl, rfl⟩, ⟨rfl, rfl, rfl, rfl, rfl, rfl, rfl, trivial⟩, rfl, trivial⟩
        · dsimp only at h4
          obtain rfl : j = gens.length := by omega
          rw [List.drop_length] at hin
          obtain rfl : o = q' := (Option.some.inj hin).symm
          exact ⟨((a + 1 : Nat) : Int), w64_eq (by omega) (by omega) (by omega), (a + 1, o), ⟨by dsimp only; omega, by dsimp only; rw [show 200 - (a + 1) = f from by omega]; exact hR2⟩, by dsimp only; omega, ⟨rfl, rfl⟩, ⟨rfl, rfl, rfl, rfl, trivial⟩, rfl, trivial⟩
      · omega
    · dsimp only at h3
      rcases hcase with ⟨haq, _⟩ | ⟨_, rfl⟩
      · omega
      · have hRl := hp.length_eq
        refine ⟨[0], false, _, _, slices_SortFunc_ints 25 q S (by omega) (by intro e; rw [e] at hRl; exact hS.2.1 (List.length_eq_zero_iff.1 hRl)) (fun x hx => hS.2.2 x (hp.symm.subset hx)) hp hs, by decide, rfl, rfl, ⟨⟨hRl, rfl, rfl⟩, trivial⟩, ?_⟩
        exact ⟨some 0, ⟨⟨rfl, rfl⟩, rfl, trivial⟩, ⟨rfl, rfl⟩, rfl⟩
end Go.Proofs.Ytbnonelkdgkpdaa
