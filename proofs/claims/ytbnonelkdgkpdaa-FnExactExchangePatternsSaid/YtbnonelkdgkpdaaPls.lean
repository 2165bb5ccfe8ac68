/-
  Plain facts, merged into one text: no program in sight.
-/
import Derived.Test.YtbnonelkdgkpdaaOw
import Derived.Lib.Join
import Derived.Sort.Walk0
set_option linter.unusedVariables false
set_option linter.unusedSimpArgs false
/-
  Plain definitions and laws on lists and numbers: no program in sight.
-/
namespace Go.Proofs.Ytbnonelkdgkpdaa
open Go Go.Proofs.Ytbnonelkdgkpdaa.Ow
/-- the parents of a rooted tree -/
def TreeP (xs : List Int) : Prop := (1 ≤ xs.length ∧ xs.length ≤ 12) ∧ xs.getD 0 0 = -1 ∧ ∀ i, 1 ≤ i → i < xs.length → 0 ≤ xs.getD i 0 ∧ xs.getD i 0 < (i : Int)
def treeB (xs : List Int) : Bool := decide (1 ≤ xs.length) && decide (xs.length ≤ 12) && decide (xs.getD 0 0 = -1) && (List.range xs.length).all fun i => decide (i < 1) || decide (0 ≤ xs.getD i 0) && decide (xs.getD i 0 < (i : Int))
theorem treeB_iff (xs : List Int) : treeB xs = true ↔ TreeP xs := by
  unfold treeB TreeP
  simp only [Bool.and_eq_true, decide_eq_true_eq, List.all_eq_true, List.mem_range, Bool.or_eq_true]
  constructor
  · rintro ⟨⟨⟨h1, h2⟩, h3⟩, h4⟩
    exact ⟨⟨h1, h2⟩, h3, fun i h5 h6 => by rcases h4 i h6 with h | h; omega; exact h⟩
  · rintro ⟨⟨h1, h2⟩, h3, h4⟩
    exact ⟨⟨⟨h1, h2⟩, h3⟩, fun i h5 => by
      by_cases h : i < 1
      · exact .inl h
      · exact .inr (h4 i (by omega) h5)⟩
theorem treeB_false {xs : List Int} (h : ¬ TreeP xs) : treeB xs = false := by
  cases hb : treeB xs
  · rfl
  · exact (h ((treeB_iff xs).1 hb)).elim
end Go.Proofs.Ytbnonelkdgkpdaa
/-
  Plain facts about the heights of the vertices of a rooted tree: no program in sight.
-/
namespace Go.Proofs.Ytbnonelkdgkpdaa
open Go Go.Proofs.Ytbnonelkdgkpdaa.Ow

def mx (x y : Int) : Int := if x < y then y else x
def htS (xs : List Int) : Nat → List Int × Int
  | 0 => (List.replicate xs.length 0, 0)
  | k + 1 => if 0 < k then ((htS xs k).1.set k ((htS xs k).1.getD (xs.getD k 0).toNat 0 + 1), mx (htS xs k).2 ((htS xs k).1.getD (xs.getD k 0).toNat 0 + 1)) else htS xs k
def heightV (xs : List Int) : Int := if treeB xs = true then (htS xs xs.length).2 else -1

theorem htS_len (xs : List Int) : ∀ k, (htS xs k).1.length = xs.length
  | 0 => by simp [htS]
  | k + 1 => by
    unfold htS
    split
    · simp [htS_len xs k]
    · exact htS_len xs k
theorem rep_getD (n j : Nat) : (List.replicate n (0 : Int)).getD j 0 = 0 := by
  simp only [List.getD, List.getElem?_replicate]
  split <;> rfl
theorem htS_b (xs : List Int) : ∀ k j, 0 ≤ (htS xs k).1.getD j 0 ∧ (htS xs k).1.getD j 0 ≤ k
  | 0, j => by unfold htS; rw [rep_getD]; omega
  | k + 1, j => by
    have h := htS_b xs k
    unfold htS
    split
    · dsimp only
      have h1 := h j
      have h2 := h (xs.getD k 0).toNat
      by_cases e : k = j
      · subst e
        by_cases hl : k < (htS xs k).1.length
        · rw [L_set_self _ _ _ _ hl]; omega
        · rw [List.set_eq_of_length_le (by omega)]; omega
      · rw [L_set_ne _ _ _ _ _ e]; omega
    · have h1 := h j
      omega
theorem htS_0 (xs : List Int) : htS xs (0 + 1) = htS xs 0 := rfl
theorem htS_s (xs : List Int) (k : Nat) (h : 0 < k) : htS xs (k + 1) = ((htS xs k).1.set k ((htS xs k).1.getD (xs.getD k 0).toNat 0 + 1), mx (htS xs k).2 ((htS xs k).1.getD (xs.getD k 0).toNat 0 + 1)) := by rw [htS, if_pos h]

end Go.Proofs.Ytbnonelkdgkpdaa
/-
  Plain facts about colorings and their first colors: no program in sight.
-/
namespace Go.Proofs.Ytbnonelkdgkpdaa
open Go Go.Proofs.Ytbnonelkdgkpdaa.Ow

def okC (x : Int) : Bool := decide (0 ≤ x) && decide (x < 4)
def ColP (xs : List Int) : Prop := (∀ i, i < xs.length → 0 ≤ xs.getD i 0 ∧ xs.getD i 0 < 4) ∧ 1 ≤ xs.length ∧ xs.length ≤ 10
def colB (xs : List Int) : Bool := xs.all okC && decide (1 ≤ xs.length) && decide (xs.length ≤ 10)
theorem colB_iff (xs : List Int) : colB xs = true ↔ ColP xs := by
  unfold colB ColP
  simp only [Bool.and_eq_true, decide_eq_true_eq]
  constructor
  · rintro ⟨⟨h1, h2⟩, h3⟩
    refine ⟨fun i hi => ?_, h2, h3⟩
    rw [List.all_eq_true] at h1
    have := h1 xs[i] (List.getElem_mem hi)
    rw [getD_get _ _ _ hi]
    simpa [okC] using this
  · rintro ⟨h1, h2, h3⟩
    refine ⟨⟨all_of_getD (d := 0) fun j hj => ?_, h2⟩, h3⟩
    have := h1 j hj
    simpa only [okC, Bool.and_eq_true, decide_eq_true_eq] using this
theorem colB_false {xs : List Int} (h : ¬ ColP xs) : colB xs = false := by
  cases e : colB xs
  · rfl
  · exact (h ((colB_iff xs).1 e)).elim

/-- names so far, the next name -/
def fcN (s : List Int × Int) (x : Int) : List Int × Int := if s.1.getD x.toNat 0 < 0 then (s.1.set x.toNat s.2, s.2 + 1) else s
def fcS (xs : List Int) : Nat → (List Int × Int) × List Int
  | 0 => (([-1, -1, -1, -1], 0), [])
  | k + 1 => (fcN (fcS xs k).1 (xs.getD k 0), (fcS xs k).2 ++ [(fcN (fcS xs k).1 (xs.getD k 0)).1.getD (xs.getD k 0).toNat 0])
def firstL (xs : List Int) : List Int := (fcS xs xs.length).2
def mostI (xs : List Int) : Int := if colB xs = true then (fcS xs xs.length).1.2 else 0

structure FcI (xs : List Int) (k : Nat) (s : (List Int × Int) × List Int) : Prop where
  l4 : s.1.1.length = 4
  lo : s.2.length = k
  m0 : 0 ≤ s.1.2
  mK : s.1.2 ≤ k
  nm : ∀ c, c < 4 → -1 ≤ s.1.1.getD c 0 ∧ s.1.1.getD c 0 < s.1.2
  fr : ∀ c, c < 4 → (s.1.1.getD c 0 < 0 ↔ ∀ i, i < k → xs.getD i 0 ≠ (c : Int))
  ob : ∀ i, i < k → 0 ≤ s.2.getD i 0 ∧ s.2.getD i 0 < s.1.2
  om : s.1.2 ≤ 0 ∨ ∃ i, i < k ∧ s.2.getD i 0 = s.1.2 - 1

theorem fcI (xs : List Int) (hx : ∀ i, i < xs.length → 0 ≤ xs.getD i 0 ∧ xs.getD i 0 < 4) : ∀ k, k ≤ xs.length → FcI xs k (fcS xs k)
  | 0, _ => by
    refine ⟨rfl, rfl, Int.le_refl _, Int.le_refl _, by unfold fcS; decide, fun c hc => ⟨fun _ i hi => by omega, fun _ => ?_⟩, fun i hi => by omega, .inl (Int.le_refl _)⟩
    exact (by decide : ∀ c, c < 4 → ([-1, -1, -1, -1] : List Int).getD c 0 < 0) c hc
  | k + 1, hk => by
    have H := fcI xs hx k (by omega)
    have hxk := hx k (by omega)
    obtain ⟨c, hc⟩ : ∃ c : Nat, xs.getD k 0 = c := ⟨(xs.getD k 0).toNat, by omega⟩
    have hc4 : c < 4 := by omega
    unfold fcS
    generalize fcS xs k = s at *
    obtain ⟨⟨names, most⟩, out⟩ := s
    obtain ⟨l4, lo, m0, mK, nm, fr, ob, om⟩ := H
    dsimp only at *
    simp only [hc, Int.toNat_natCast]
    unfold fcN
    dsimp only
    simp only [Int.toNat_natCast]
    split
    · rename_i h0
      have hs : (names.set c most).getD c 0 = most := L_set_self _ _ _ _ (by omega)
      refine ⟨by simp [l4], by simp [lo], by dsimp only; omega, by dsimp only; omega, fun d hd => ?_, fun d hd => ?_, fun i hi => ?_, .inr ⟨k, by omega, ?_⟩⟩
      · dsimp only
        by_cases e : c = d
        · subst e; rw [hs]; omega
        · rw [L_set_ne _ _ _ _ _ e]; have := nm d hd; omega
      · dsimp only
        by_cases e : c = d
        · subst e; rw [hs]
          exact ⟨fun h => by omega, fun h => (h k (by omega) hc).elim⟩
        · rw [L_set_ne _ _ _ _ _ e, fr d hd]
          constructor
          · intro h i hi
            by_cases e2 : i = k
            · subst e2; omega
            · exact h i (by omega)
          · exact fun h i hi => h i (by omega)
      · dsimp only
        rw [hs]
        by_cases e2 : i = k
        · subst e2; rw [L_app_r _ _ _ _ (by omega), lo, Nat.sub_self]; show 0 ≤ most ∧ most < most + 1; omega
        · rw [L_app_l _ _ _ _ (by omega)]; have := ob i (by omega); omega
      · dsimp only
        rw [hs, L_app_r _ _ _ _ (by omega), lo, Nat.sub_self]; show most = most + 1 - 1; omega
    · rename_i h0
      have hn := nm c hc4
      have hnot := fr c hc4
      refine ⟨l4, by simp [lo], m0, by dsimp only; omega, nm, fun d hd => ?_, fun i hi => ?_, ?_⟩
      · dsimp only
        rw [fr d hd]
        constructor
        · intro h i hi
          by_cases e2 : i = k
          · subst e2
            intro e3
            have : c = d := by omega
            subst this
            exact h0 (hnot.2 h)
          · exact h i (by omega)
        · exact fun h i hi => h i (by omega)
      · dsimp only
        by_cases e2 : i = k
        · subst e2; rw [L_app_r _ _ _ _ (by omega), lo, Nat.sub_self]; show 0 ≤ names.getD c 0 ∧ names.getD c 0 < most; omega
        · rw [L_app_l _ _ _ _ (by omega)]; exact ob i (by omega)
      · dsimp only
        rcases om with h | ⟨i, hi, h⟩
        · exact .inl h
        · exact .inr ⟨i, by omega, by rw [L_app_l _ _ _ _ (by omega)]; exact h⟩

theorem fcS_new (xs : List Int) (k c : Nat) (hc : xs.getD k 0 = c) (h : (fcS xs k).1.1.getD c 0 < 0) :
    fcS xs (k + 1) = (((fcS xs k).1.1.set c (fcS xs k).1.2, (fcS xs k).1.2 + 1), (fcS xs k).2 ++ [((fcS xs k).1.1.set c (fcS xs k).1.2).getD c 0]) := by
  rw [fcS, fcN, hc, Int.toNat_natCast, if_pos h]
theorem fcS_old (xs : List Int) (k c : Nat) (hc : xs.getD k 0 = c) (h : ¬ (fcS xs k).1.1.getD c 0 < 0) :
    fcS xs (k + 1) = ((fcS xs k).1, (fcS xs k).2 ++ [(fcS xs k).1.1.getD c 0]) := by
  rw [fcS, fcN, hc, Int.toNat_natCast, if_neg h]
def up (l : List Int) : List Int := l.map (· + 1)
theorem up_len (l : List Int) : (up l).length = l.length := by simp [up]
theorem up_get (l : List Int) (c : Nat) (h : c < l.length) : (up l).getD c 0 = l.getD c 0 + 1 := by
  rw [getD_get _ _ _ (by rw [up_len]; exact h), getD_get _ _ _ h]; simp [up]
theorem up_set (l : List Int) (c : Nat) (m : Int) : (up l).set c (m + 1) = up (l.set c m) := by simp [up, List.map_set]

/-- the greatest element -/
def mxS (xs : List Int) : Nat → Int
  | 0 => xs.getD 0 0
  | k + 1 => if mxS xs k < xs.getD (k + 1) 0 then xs.getD (k + 1) 0 else mxS xs k
def mxL (xs : List Int) : Int := mxS xs (xs.length - 1)
theorem mxS_le (xs : List Int) : ∀ k i, i ≤ k → xs.getD i 0 ≤ mxS xs k
  | 0, i, h => by obtain rfl : i = 0 := by omega
                  exact Int.le_refl _
  | k + 1, i, h => by
    rw [mxS]
    by_cases e : i = k + 1
    · subst e; split <;> omega
    · have := mxS_le xs k i (by omega)
      split <;> omega
theorem mxS_mem (xs : List Int) : ∀ k, ∃ i, i ≤ k ∧ mxS xs k = xs.getD i 0
  | 0 => ⟨0, Nat.le_refl _, rfl⟩
  | k + 1 => by
    rw [mxS]
    split
    · exact ⟨k + 1, Nat.le_refl _, rfl⟩
    · obtain ⟨i, hi, h⟩ := mxS_mem xs k
      exact ⟨i, by omega, h⟩
theorem firstL_len (xs : List Int) (h : ColP xs) : (firstL xs).length = xs.length := (fcI xs h.1 xs.length (Nat.le_refl _)).lo
theorem firstL_max (xs : List Int) (h : ColP xs) : mxL (firstL xs) + 1 = mostI xs := by
  rw [mostI, if_pos ((colB_iff xs).2 h)]
  have H := fcI xs h.1 xs.length (Nat.le_refl _)
  have hl := firstL_len xs h
  unfold mxL
  obtain ⟨i, hi, e⟩ := mxS_mem (firstL xs) ((firstL xs).length - 1)
  have hob := H.ob i (by have := h.2.1; omega)
  have h1 := mxS_le (firstL xs) ((firstL xs).length - 1)
  rw [hl] at h1 e ⊢
  change 0 ≤ (firstL xs).getD i 0 ∧ (firstL xs).getD i 0 < _ at hob
  rcases H.om with h2 | ⟨j, hj, h2⟩
  · have := H.m0; omega
  · have h3 := h1 j (by omega)
    change (firstL xs).getD j 0 = _ at h2
    omega

/-- 1, 2, .. n from k on: the marks -/
def marks (k : Int) : Nat → List Int
  | 0 => []
  | n + 1 => marks k n ++ [k + n]
theorem marks_len (k : Int) : ∀ n, (marks k n).length = n
  | 0 => rfl
  | n + 1 => by simp [marks, marks_len k n]
theorem marks_get (k : Int) : ∀ n j, j < n → (marks k n).getD j 0 = k + (j : Int)
  | n + 1, j, h => by
    rw [marks]
    by_cases e : j = n
    · subst e; rw [L_app_r _ _ _ _ (by rw [marks_len]; omega), marks_len, Nat.sub_self]; rfl
    · rw [L_app_l _ _ _ _ (by rw [marks_len]; omega)]; exact marks_get k n j (by omega)

end Go.Proofs.Ytbnonelkdgkpdaa
/-
  Plain facts about integers as text: no program in sight.
-/
namespace Go.Proofs.Ytbnonelkdgkpdaa
open Go Go.Proofs.Ytbnonelkdgkpdaa.Ow

/-- the digit d -/
def dg (d : Nat) : UInt8 := UInt8.ofNat (48 + d)
/-- the decimal digits of n -/
def fmtN (n : Nat) : List UInt8 := if n < 10 then [dg n] else fmtN (n / 10) ++ [dg (n % 10)]
termination_by n
decreasing_by omega
/-- an integer as text -/
def fmtI (n : Int) : List UInt8 := if n < 0 then 45 :: fmtN n.natAbs else fmtN n.natAbs
theorem fmtN_lt (n : Nat) (h : n < 10) : fmtN n = [dg n] := by rw [fmtN, if_pos h]
theorem fmtN_ge (n : Nat) (h : ¬ n < 10) : fmtN n = fmtN (n / 10) ++ [dg (n % 10)] := by rw [fmtN, if_neg h]
theorem fmtN_len : ∀ (k n : Nat), n < 10 ^ (k + 1) → 1 ≤ (fmtN n).length ∧ (fmtN n).length ≤ k + 1
  | 0, n, h => by rw [fmtN_lt n (by omega)]; simp
  | k + 1, n, h => by
    by_cases h1 : n < 10
    · rw [fmtN_lt n h1]; simp
    · rw [fmtN_ge n h1]
      have := fmtN_len k (n / 10) (by rw [Nat.pow_succ] at h; omega)
      simp; omega
theorem fmtN_len64 (n : Nat) (h : n ≤ 9223372036854775808) : 1 ≤ (fmtN n).length ∧ (fmtN n).length ≤ 19 := fmtN_len 18 n (by omega)
theorem strOf_dg (d : Nat) : strOf [((48 + d : Nat) : Int)] = [dg d] := rfl
theorem u8w (x : Int) (h1 : 0 ≤ x) (h2 : x ≤ 255) : x = IntKind.u8.wrap x := (IntWalk.u8_in x ⟨h1, h2⟩).symm
theorem i32w (x : Int) (h1 : 0 ≤ x) (h2 : x ≤ 255) : x = IntKind.i32.wrap x := (IntWalk.i32_in x ⟨by omega, by omega⟩).symm
theorem enc_dg (d : Nat) (h : d < 10) : (Utf8.encode ((48 + d : Nat) : Int)).data.toList = [dg d] := by
  revert d; decide

/-- a coloring as a word -/
def wordS (xs : List Int) : List UInt8 := xs.map fun x => dg x.toNat
/-- a text as numbers -/
def psL (s : List UInt8) : List Int := s.map fun b => ((b.toNat : Nat) : Int) - 48
theorem psL_len (s : List UInt8) : (psL s).length = s.length := by simp [psL]
theorem psL_succ (s : List UInt8) (k : Nat) (h : k < s.length) : psL (s.take (k + 1)) = psL (s.take k) ++ [(((s.getD k 0).toNat : Nat) : Int) - 48] := by
  rw [L_succ s k 0 h]; simp only [psL, List.map_append, List.map_cons, List.map_nil]
theorem wordS_psL (s : List UInt8) (h : ColP (psL s)) : wordS (psL s) = s := by
  have h1 : ∀ b ∈ s, dg (((b.toNat : Nat) : Int) - 48).toNat = b := by
    intro b hb
    obtain ⟨i, hi, rfl⟩ := List.getElem_of_mem hb
    have := h.1 i (by rw [psL_len]; exact hi)
    rw [getD_get _ _ _ (by rw [psL_len]; exact hi)] at this
    simp only [psL, List.getElem_map] at this
    have e : 48 + (((s[i].toNat : Nat) : Int) - 48).toNat = s[i].toNat := by omega
    rw [dg, e]; simp
  unfold wordS psL
  rw [List.map_map]
  conv => rhs; rw [← List.map_id s]
  exact List.map_congr_left fun b hb => h1 b hb
theorem wordS_succ (xs : List Int) (k : Nat) (h : k < xs.length) : wordS (xs.take (k + 1)) = wordS (xs.take k) ++ [dg (xs.getD k 0).toNat] := by
  rw [L_succ xs k 0 h]; simp only [wordS, List.map_append, List.map_cons, List.map_nil]
def formatW (xs : List Int) : List UInt8 := if colB xs = true then wordS xs else []

/-- all elements are int64 -/
def In64 (xs : List Int) : Prop := ∀ i, i < xs.length → -9223372036854775808 ≤ xs.getD i 0 ∧ xs.getD i 0 ≤ 9223372036854775807
theorem wfI {n : Int} (h : (Lit.int .i64 n).wf = true) : -9223372036854775808 ≤ n ∧ n ≤ 9223372036854775807 := by
  simp only [Lit.wf, Bool.and_eq_true, decide_eq_true_eq] at h
  exact h
theorem in64_row {w : World} {a : Option Addr} {len cap : Nat} {zs : List Int} (h : IsRow .i64 w a len cap zs) : In64 (zs.take len) := by
  rcases h with ⟨_, _, _, rfl⟩ | ⟨x, _, _, _, _, _, h5⟩
  · intro i hi; simp at hi
  · intro i hi
    rw [getD_get _ _ _ hi]
    exact wfI (h5 _ (List.mem_of_mem_take (List.getElem_mem hi)))

end Go.Proofs.Ytbnonelkdgkpdaa
/-
  Plain facts about rotated words: no program in sight.
-/
namespace Go.Proofs.Ytbnonelkdgkpdaa
open Go Go.Proofs.Ytbnonelkdgkpdaa.Ow
/-- the word with its first k letters at its end -/
def rot (xs : List Int) (k : Nat) : List Int := xs.drop k ++ xs.take k
theorem rot_len (xs : List Int) (k : Nat) (h : k ≤ xs.length) : (rot xs k).length = xs.length := by simp [rot]; omega
theorem rot_zero (xs : List Int) : rot xs 0 = xs := by simp [rot]
/-- lists compared: -1, 0, 1 -/
def cmpI : List Int → List Int → Int
  | [], [] => 0
  | [], _ :: _ => -1
  | _ :: _, [] => 1
  | x :: xs, y :: ys => if x < y then -1 else if y < x then 1 else cmpI xs ys
theorem cmpI_refl : ∀ xs, cmpI xs xs = 0
  | [] => rfl
  | x :: xs => by simp [cmpI, cmpI_refl xs]
theorem cmpI_b : ∀ xs ys, -1 ≤ cmpI xs ys ∧ cmpI xs ys ≤ 1
  | [], [] => by decide
  | [], _ :: _ => by simp [cmpI]
  | _ :: _, [] => by simp [cmpI]
  | x :: xs, y :: ys => by
    have := cmpI_b xs ys
    simp only [cmpI]
    split
    · omega
    · split <;> omega
theorem cmpI_eq : ∀ xs ys, cmpI xs ys = 0 → xs = ys
  | [], [], _ => rfl
  | [], _ :: _, h => by simp [cmpI] at h
  | _ :: _, [], h => by simp [cmpI] at h
  | x :: xs, y :: ys, h => by
    simp only [cmpI] at h
    split at h
    · omega
    · split at h
      · omega
      · have e : x = y := by omega
        rw [e, cmpI_eq xs ys h]
theorem cmpI_neg : ∀ xs ys, cmpI ys xs = - cmpI xs ys
  | [], [] => rfl
  | [], _ :: _ => rfl
  | _ :: _, [] => rfl
  | x :: xs, y :: ys => by
    have := cmpI_neg xs ys
    simp only [cmpI]
    by_cases h1 : x < y
    · have h2 : ¬ y < x := by omega
      simp [h1, h2]
    · by_cases h2 : y < x
      · simp [h1, h2]
      · simp [h1, h2, this]
theorem cmpI_trans : ∀ xs ys zs, cmpI xs ys < 0 → cmpI ys zs < 0 → cmpI xs zs < 0
  | [], [], zs, h1, h2 => by simp [cmpI] at h1
  | [], y :: ys, [], h1, h2 => by simp [cmpI] at h2
  | [], y :: ys, z :: zs, h1, h2 => by simp [cmpI]
  | x :: xs, [], zs, h1, h2 => by simp [cmpI] at h1
  | x :: xs, y :: ys, [], h1, h2 => by simp [cmpI] at h2
  | x :: xs, y :: ys, z :: zs, h1, h2 => by
    simp only [cmpI] at h1 h2 ⊢
    by_cases a1 : x < y
    · by_cases a2 : y < z
      · rw [if_pos (by omega)]; decide
      · rw [if_neg a2] at h2
        by_cases a3 : z < y
        · rw [if_pos a3] at h2; omega
        · rw [if_pos (by omega)]; decide
    · rw [if_neg a1] at h1
      by_cases a3 : y < x
      · rw [if_pos a3] at h1; omega
      · rw [if_neg a3] at h1
        by_cases a2 : y < z
        · rw [if_pos (by omega)]; decide
        · rw [if_neg a2] at h2
          by_cases a4 : z < y
          · rw [if_pos a4] at h2; omega
          · rw [if_neg a4] at h2
            rw [if_neg (by omega), if_neg (by omega)]
            exact cmpI_trans xs ys zs h1 h2
theorem cmpI_drop (xs ys : List Int) (i : Nat) (h1 : i < xs.length) (h2 : i < ys.length) : cmpI (xs.drop i) (ys.drop i) = if xs.getD i 0 < ys.getD i 0 then -1 else if ys.getD i 0 < xs.getD i 0 then 1 else cmpI (xs.drop (i + 1)) (ys.drop (i + 1)) := by
  rw [List.drop_eq_getElem_cons h1, List.drop_eq_getElem_cons h2, getD_get _ _ _ h1, getD_get _ _ _ h2]
  rfl
/-- the first of the places from which the least word begins, among the first k -/
def bestR (xs : List Int) : Nat → Nat
  | 0 => 0
  | k + 1 => if cmpI (rot xs k) (rot xs (bestR xs k)) < 0 then k else bestR xs k
theorem bestR_lt (xs : List Int) : ∀ k, 0 < k → bestR xs k < k
  | 1, _ => by
    unfold bestR
    split
    · omega
    · exact Nat.zero_lt_one
  | k + 2, _ => by
    have := bestR_lt xs (k + 1) (by omega)
    rw [bestR]
    split <;> omega
theorem bestR_zero (xs : List Int) : ∀ k, bestR xs k = 0 ∨ cmpI (rot xs (bestR xs k)) xs < 0
  | 0 => .inl rfl
  | k + 1 => by
    have ih := bestR_zero xs k
    rw [bestR]
    split
    · rename_i h
      right
      rcases ih with ih | ih
      · rw [ih, rot_zero] at h; exact h
      · exact cmpI_trans _ _ _ h ih
    · exact ih
/-- the least rotation -/
def least (xs : List Int) : List Int := rot xs (bestR xs xs.length)
theorem least_len (xs : List Int) (h : 0 < xs.length) : (least xs).length = xs.length := rot_len _ _ (Nat.le_of_lt (bestR_lt xs _ h))
theorem least_iff (xs : List Int) : least xs = xs ↔ bestR xs xs.length = 0 := by
  constructor
  · intro h
    rcases bestR_zero xs xs.length with h1 | h1
    · exact h1
    · unfold least at h
      rw [h, cmpI_refl] at h1
      omega
  · intro h
    rw [least, h, rot_zero]
/-- the first period from k on (f: how many are still to be tried) -/
def perF (xs : List Int) (k : Nat) : Nat → Nat
  | 0 => xs.length
  | f + 1 => if xs.length % k = 0 ∧ rot xs k = xs then k else perF xs (k + 1) f
def perW (xs : List Int) : Nat := perF xs 1 (xs.length - 1)
theorem perF_le (xs : List Int) : ∀ f k, k + f ≤ xs.length → perF xs k f ≤ xs.length
  | 0, k, _ => Nat.le_refl _
  | f + 1, k, h => by
    rw [perF]
    split
    · omega
    · exact perF_le xs f (k + 1) (by omega)
theorem perW_le (xs : List Int) (h : 0 < xs.length) : perW xs ≤ xs.length := perF_le xs _ _ (by omega)
theorem colP_mem {xs ys : List Int} (h : ColP xs) (hl : ys.length = xs.length) (hm : ∀ y ∈ ys, y ∈ xs) : ColP ys := by
  refine ⟨fun i hi => ?_, by rw [hl]; exact h.2⟩
  rw [getD_get _ _ _ hi]
  obtain ⟨j, hj, e⟩ := List.getElem_of_mem (hm _ (List.getElem_mem hi))
  have := h.1 j hj
  rw [getD_get _ _ _ hj, e] at this
  exact this
theorem colP_rot {xs : List Int} (h : ColP xs) (k : Nat) (hk : k ≤ xs.length) : ColP (rot xs k) :=
  colP_mem h (rot_len xs k hk) fun y hy => by
    rcases List.mem_append.1 hy with hy | hy
    · exact List.mem_of_mem_drop hy
    · exact List.mem_of_mem_take hy
theorem colP_rev {xs : List Int} (h : ColP xs) : ColP xs.reverse := colP_mem h (List.length_reverse) fun y hy => List.mem_reverse.1 hy
theorem colP_in {xs : List Int} (h : ColP xs) : In64 xs := fun i hi => by have := h.1 i hi; omega
/-- a word's kind -/
def kindW (xs : List Int) : List UInt8 := if least xs = least xs.reverse then [109, 105, 114, 114, 111, 114, 101, 100] else if least (least xs) = least xs ∧ perW (least xs) = (least xs).length then [108, 121, 110, 100, 111, 110] else [112, 108, 97, 105, 110]
def wordLine (xs : List Int) : List UInt8 := if colB xs = true then formatW (least xs) ++ [32, 112, 101, 114, 105, 111, 100, 32] ++ fmtN (perW xs) ++ [32] ++ kindW xs else [110, 111, 110, 101]
end Go.Proofs.Ytbnonelkdgkpdaa
/-
  Plain facts about permutations and exchanged colors: no program in sight.
-/
namespace Go.Proofs.Ytbnonelkdgkpdaa
open Go Go.Proofs.Ytbnonelkdgkpdaa.Ow

/-- a permutation of at most ten points -/
def PermP (xs : List Int) : Prop := (1 ≤ xs.length ∧ xs.length ≤ 10) ∧ ∀ i, i < xs.length → (0 ≤ xs.getD i 0 ∧ xs.getD i 0 < (xs.length : Int)) ∧ ∀ j, j < i → xs.getD j 0 ≠ xs.getD i 0
def permB (xs : List Int) : Bool := (decide (1 ≤ xs.length) && decide (xs.length ≤ 10)) && (List.range xs.length).all fun i => (decide (0 ≤ xs.getD i 0) && decide (xs.getD i 0 < (xs.length : Int))) && (List.range i).all fun j => decide (xs.getD j 0 ≠ xs.getD i 0)
theorem permB_iff (xs : List Int) : permB xs = true ↔ PermP xs := by
  unfold permB PermP
  simp only [Bool.and_eq_true, decide_eq_true_eq, List.all_eq_true, List.mem_range]
theorem permB_false {xs : List Int} (h : ¬ PermP xs) : permB xs = false := by
  cases hb : permB xs
  · rfl
  · exact (h ((permB_iff xs).1 hb)).elim
/-- what is met so far -/
structure MetI (xs : List Int) (k : Nat) (n : Nat) (met : List Bool) : Prop where
  l : met.length = n
  ok : ∀ i, i < k → (0 ≤ xs.getD i 0 ∧ xs.getD i 0 < (xs.length : Int)) ∧ ∀ j, j < i → xs.getD j 0 ≠ xs.getD i 0
  m : ∀ c, c < n → (met.getD c false = true ↔ ∃ i, i < k ∧ xs.getD i 0 = (c : Int))
theorem metI0 (xs : List Int) (n : Nat) : MetI xs 0 n (List.replicate n false) := by
  refine ⟨by simp, fun i hi => by omega, fun c hc => ⟨fun h => ?_, fun ⟨i, hi, _⟩ => by omega⟩⟩
  rw [getD_get _ _ _ (by simpa using hc), List.getElem_replicate] at h
  cases h
theorem metI_step {xs : List Int} {k n c : Nat} {met : List Bool} (h : MetI xs k n met) (hc : xs.getD k 0 = (c : Int)) (hcn : c < n) (hcl : c < xs.length) (h0 : met.getD c false = false) : MetI xs (k + 1) n (met.set c true) := by
  refine ⟨by simp [h.l], fun i hi => ?_, fun d hd => ?_⟩
  · by_cases e : i = k
    · subst e
      refine ⟨by omega, fun j hj e2 => ?_⟩
      have := (h.m c hcn).2 ⟨j, hj, by omega⟩
      rw [h0] at this; cases this
    · exact h.ok i (by omega)
  · by_cases e : c = d
    · subst e
      rw [L_set_self _ _ _ _ (by rw [h.l]; exact hd)]
      exact ⟨fun _ => ⟨k, by omega, hc⟩, fun _ => rfl⟩
    · rw [L_set_ne _ _ _ _ _ e, h.m d hd]
      constructor
      · rintro ⟨i, hi, e2⟩; exact ⟨i, by omega, e2⟩
      · rintro ⟨i, hi, e2⟩
        refine ⟨i, ?_, e2⟩
        by_cases e3 : i = k
        · subst e3; omega
        · omega
theorem metI_dup {xs : List Int} {k n c : Nat} {met : List Bool} (h : MetI xs k n met) (hk : k < xs.length) (hc : xs.getD k 0 = (c : Int)) (hcn : c < n) (h0 : met.getD c false = true) : ¬ PermP xs := by
  intro hp
  obtain ⟨i, hi, e⟩ := (h.m c hcn).1 h0
  exact (hp.2 k hk).2 i hi (by omega)

/-- the colors exchanged -/
def exL (xs h : List Int) : List Int := xs.map fun x => h.getD x.toNat 0
theorem exL_len (xs h : List Int) : (exL xs h).length = xs.length := by simp [exL]
theorem exL_succ (xs h : List Int) (k : Nat) (hk : k < xs.length) : exL (xs.take (k + 1)) h = exL (xs.take k) h ++ [h.getD (xs.getD k 0).toNat 0] := by
  rw [L_succ xs k 0 hk]; simp only [exL, List.map_append, List.map_cons, List.map_nil]
/-- all elements are less than k -/
def belowB (xs : List Int) (k : Int) : Bool := xs.all fun x => decide (x < k)
theorem belowB_iff (xs : List Int) (k : Int) : belowB xs k = true ↔ ∀ i, i < xs.length → xs.getD i 0 < k := by
  unfold belowB
  rw [List.all_eq_true]
  constructor
  · intro h i hi
    have := h xs[i] (List.getElem_mem hi)
    rw [getD_get _ _ _ hi]; simpa using this
  · intro h x hx
    obtain ⟨i, hi, rfl⟩ := List.getElem_of_mem hx
    have := h i hi
    rw [getD_get _ _ _ hi] at this; simpa using this
theorem belowB_false {xs : List Int} {k : Int} (i : Nat) (hi : i < xs.length) (h : ¬ xs.getD i 0 < k) : belowB xs k = false := by
  cases hb : belowB xs k
  · rfl
  · exact (h ((belowB_iff xs k).1 hb i hi)).elim
def exB (xs h : List Int) : Bool := colB xs && permB h && decide (h.length ≤ 4) && belowB xs h.length

end Go.Proofs.Ytbnonelkdgkpdaa
/-
  Plain facts about joined texts: no program in sight.
-/
namespace Go.Proofs.Ytbnonelkdgkpdaa
open Go Go.Proofs.Ytbnonelkdgkpdaa.Ow

/-- the first k texts joined -/
def jn (xs : List (List UInt8)) (sep : List UInt8) : Nat → List UInt8
  | 0 => []
  | 1 => xs.getD 0 []
  | k + 2 => jn xs sep (k + 1) ++ sep ++ xs.getD (k + 1) []
theorem jn_s (xs : List (List UInt8)) (sep : List UInt8) (k : Nat) (h : 0 < k) : jn xs sep (k + 1) = jn xs sep k ++ sep ++ xs.getD k [] := by
  obtain ⟨m, rfl⟩ : ∃ m, k = m + 1 := ⟨k - 1, by omega⟩
  rfl
theorem jn_mono (xs : List (List UInt8)) (sep : List UInt8) (k : Nat) : (jn xs sep k).length ≤ (jn xs sep (k + 1)).length := by
  cases k with
  | zero => simp [jn]
  | succ k => rw [jn_s xs sep (k + 1) (by omega)]; simp only [List.length_append]; omega
theorem jn_le (xs : List (List UInt8)) (sep : List UInt8) (k : Nat) : ∀ n, k ≤ n → (jn xs sep k).length ≤ (jn xs sep n).length
  | 0, h => by obtain rfl : k = 0 := by omega
               exact Nat.le_refl _
  | n + 1, h => by
    by_cases e : k = n + 1
    · subst e; exact Nat.le_refl _
    · exact Nat.le_trans (jn_le xs sep k n (by omega)) (jn_mono xs sep n)
theorem jn_tail (x : List UInt8) (r : List (List UInt8)) (sep : List UInt8) : ∀ k, k ≤ r.length → jn (x :: r) sep (k + 1) = x ++ Lib.joinTail sep (r.take k)
  | 0, _ => by simp [jn, Lib.joinTail]
  | k + 1, h => by
    have e := jn_tail x r sep k (by omega)
    have hk : r[k]? = some r[k] := List.getElem?_eq_getElem (by omega)
    rw [jn_s _ _ _ (by omega), e, Lib.joinTail_take_succ sep r k _ hk]
    simp [List.getD, hk, List.append_assoc]
theorem jn_join (xs : List (List UInt8)) (sep : List UInt8) : jn xs sep xs.length = Lib.join xs sep := by
  cases xs with
  | nil => rfl
  | cons x r => rw [List.length_cons, jn_tail x r sep r.length (Nat.le_refl _), List.take_length, Lib.join_cons]
/-- a join is no longer than its parts -/
theorem jn_len (xs : List (List UInt8)) (sep : List UInt8) (m : Nat) (h : ∀ i, i < xs.length → (xs.getD i []).length ≤ m) : ∀ k, k ≤ xs.length → (jn xs sep k).length ≤ k * (sep.length + m)
  | 0, _ => by simp [jn]
  | k + 1, hk => by
    have e := jn_len xs sep m h k (by omega)
    have hx := h k (by omega)
    rw [Nat.succ_mul]
    by_cases h0 : 0 < k
    · rw [jn_s _ _ _ h0]; simp only [List.length_append]; omega
    · obtain rfl : k = 0 := by omega
      simp only [jn]; omega

theorem map_ba : ∀ xs : List (List UInt8), (xs.map (fun l => (⟨l.toArray⟩ : ByteArray))).map (·.data.toList) = xs
  | [] => rfl
  | x :: r => by rw [List.map_cons, List.map_cons, map_ba r]

end Go.Proofs.Ytbnonelkdgkpdaa
/-
  Plain facts about lists of texts in descending order and about the codes of trees: no program in sight.
-/
namespace Go.Proofs.Ytbnonelkdgkpdaa
open Go Go.Proofs.Ytbnonelkdgkpdaa.Ow

/-- a text put into a descending list, behind all that are not less -/
def insD (s : List UInt8) : List (List UInt8) → List (List UInt8)
  | [] => [s]
  | x :: l => if s ≤ x then x :: insD s l else s :: x :: l
def sortD (l : List (List UInt8)) : List (List UInt8) := l.foldl (fun a s => insD s a) []

theorem insD_eq (s : List UInt8) : ∀ (l : List (List UInt8)) (k : Nat), k ≤ l.length → (∀ j, j < k → s ≤ l.getD j []) → (k < l.length → ¬ s ≤ l.getD k []) → insD s l = l.take k ++ [s] ++ l.drop k
  | [], k, hk, _, _ => by
    obtain rfl : k = 0 := by simpa using hk
    rfl
  | x :: l, 0, hk, h1, h2 => by
    have : ¬ s ≤ x := h2 (by simp)
    simp [insD, this]
  | x :: l, k + 1, hk, h1, h2 => by
    have : s ≤ x := h1 0 (by omega)
    have e := insD_eq s l k (by simpa using hk) (fun j hj => h1 (j + 1) (by omega)) (fun hk => h2 (by simpa using hk))
    simp [insD, this, e]
theorem insD_perm (s : List UInt8) : ∀ l, (insD s l).Perm (s :: l)
  | [] => List.Perm.refl _
  | x :: l => by
    unfold insD
    split
    · exact ((insD_perm s l).cons x).trans (List.Perm.swap s x l)
    · exact List.Perm.refl _
theorem leS_total (x y : List UInt8) : x ≤ y ∨ y ≤ x := List.le_total x y
theorem insD_sorted (s : List UInt8) : ∀ l, l.Pairwise (fun a b => b ≤ a) → (insD s l).Pairwise (fun a b => b ≤ a)
  | [], _ => by simp [insD]
  | x :: l, h => by
    have h' := List.pairwise_cons.1 h
    unfold insD
    split
    · rename_i hx
      refine List.pairwise_cons.2 ⟨fun y hy => ?_, insD_sorted s l h'.2⟩
      rcases List.mem_cons.1 ((insD_perm s l).mem_iff.1 hy) with rfl | hy
      · exact hx
      · exact h'.1 y hy
    · rename_i hx
      refine List.pairwise_cons.2 ⟨fun y hy => ?_, h⟩
      have hxs : x ≤ s := (leS_total x s).resolve_right hx
      rcases List.mem_cons.1 hy with rfl | hy
      · exact hxs
      · exact List.le_trans (h'.1 y hy) hxs
theorem sortD_snoc (l : List (List UInt8)) (s : List UInt8) : sortD (l ++ [s]) = insD s (sortD l) := by simp [sortD]
theorem foldD_perm : ∀ (l a : List (List UInt8)), (l.foldl (fun a s => insD s a) a).Perm (l ++ a)
  | [], a => List.Perm.refl _
  | s :: l, a => (foldD_perm l (insD s a)).trans (((insD_perm s a).append_left l).trans List.perm_middle)
theorem foldD_sorted : ∀ (l a : List (List UInt8)), a.Pairwise (fun a b => b ≤ a) → (l.foldl (fun a s => insD s a) a).Pairwise (fun a b => b ≤ a)
  | [], a, h => h
  | s :: l, a, h => foldD_sorted l _ (insD_sorted s a h)
theorem sortD_perm (l : List (List UInt8)) : (sortD l).Perm l := by
  have := foldD_perm l []
  rwa [List.append_nil] at this
theorem sortD_len (l : List (List UInt8)) : (sortD l).length = l.length := (sortD_perm l).length_eq
theorem sortD_merge (l : List (List UInt8)) : (l.mergeSort fun x y => decide (x ≤ y)).reverse = sortD l := by
  refine List.Perm.eq_of_pairwise (le := fun a b => b ≤ a) (fun a b _ _ h1 h2 => List.le_antisymm h2 h1) ?_ (foldD_sorted l [] (by simp)) ((List.reverse_perm _).trans ((List.mergeSort_perm l _).trans (sortD_perm l).symm))
  rw [List.pairwise_reverse]
  have h := List.pairwise_mergeSort (le := fun x y : List UInt8 => decide (x ≤ y)) (fun a b c h1 h2 => by simp at *; exact List.le_trans h1 h2) (fun a b => by simpa using leS_total a b) l
  exact h.imp fun h => by simpa using h

/-- the code of a vertex, out of the codes of its children -/
def cdS (l : List (List UInt8)) : List UInt8 := 40 :: (Lib.join l [] ++ [41])
/-- the code of a vertex (b: at least the number of the vertices from it on) -/
def codeF (xs : List Int) : Nat → Nat → List UInt8
  | 0, _ => cdS []
  | b + 1, at_ => cdS (sortD (((List.range xs.length).filter fun i => xs.getD i 0 == (at_ : Int)).map fun i => codeF xs b i))
/-- the codes of a vertex's children among the first k vertices, in the vertices' order -/
def kidsP (xs : List Int) (b at_ k : Nat) : List (List UInt8) := ((List.range k).filter fun i => xs.getD i 0 == (at_ : Int)).map fun i => codeF xs b i
def kidsF (xs : List Int) (b at_ : Nat) : List (List UInt8) := sortD (kidsP xs b at_ xs.length)
theorem codeF_s (xs : List Int) (b at_ : Nat) : codeF xs (b + 1) at_ = cdS (kidsF xs b at_) := rfl
theorem kidsP_yes (xs : List Int) (b at_ k : Nat) (h : xs.getD k 0 = (at_ : Int)) : kidsP xs b at_ (k + 1) = kidsP xs b at_ k ++ [codeF xs b k] := by
  unfold kidsP
  rw [List.range_succ, List.filter_append, List.map_append]
  simp [-List.getD_eq_getElem?_getD, h]
theorem kidsP_no (xs : List Int) (b at_ k : Nat) (h : ¬ xs.getD k 0 = (at_ : Int)) : kidsP xs b at_ (k + 1) = kidsP xs b at_ k := by
  unfold kidsP
  rw [List.range_succ, List.filter_append, List.map_append]
  simp [-List.getD_eq_getElem?_getD, h]
theorem kidsP_len (xs : List Int) (b at_ k : Nat) : (kidsP xs b at_ k).length ≤ k := by
  unfold kidsP
  rw [List.length_map]
  exact Nat.le_trans (List.length_filter_le _ _) (by simp)
theorem cdS_len (l : List (List UInt8)) (n : Nat) (h : ∀ x ∈ l, x.length ≤ n) : (Lib.join l []).length ≤ l.length * n ∧ (cdS l).length ≤ l.length * n + 2 := by
  have h1 := jn_len l [] n (fun i hi => h _ (by rw [getD_get _ _ _ hi]; exact List.getElem_mem hi)) l.length (Nat.le_refl _)
  rw [jn_join] at h1
  have h2 : (Lib.join l []).length ≤ l.length * n := by simpa using h1
  refine ⟨h2, ?_⟩
  simp only [cdS, List.length_cons, List.length_append, List.length_nil]; omega
theorem codeF_len (xs : List Int) (hl : xs.length ≤ 12) : ∀ b at_, (codeF xs b at_).length ≤ 2 * 13 ^ b
  | 0, _ => by show (cdS []).length ≤ _; decide
  | b + 1, at_ => by
    have ih := codeF_len xs hl b
    have hk := kidsP_len xs b at_ xs.length
    have h := (cdS_len (kidsF xs b at_) (2 * 13 ^ b) (fun x hx => by
      have := (sortD_perm _).mem_iff.1 hx
      obtain ⟨i, _, rfl⟩ := List.mem_map.1 this
      exact ih i)).2
    rw [codeF_s]
    have e : (kidsF xs b at_).length = (kidsP xs b at_ xs.length).length := sortD_len _
    rw [e] at h
    have h2 : (kidsP xs b at_ xs.length).length * (2 * 13 ^ b) ≤ 12 * (2 * 13 ^ b) := Nat.mul_le_mul_right _ (by omega)
    have h3 : 1 ≤ 13 ^ b := Nat.pos_of_ne_zero (by simp)
    rw [Nat.pow_succ]
    omega
theorem kidsF_join (xs : List Int) (hl : xs.length ≤ 12) (b at_ : Nat) (hb : b ≤ 11) : (Lib.join (kidsF xs b at_) []).length ≤ 70368744177664 ∧ (kidsF xs b at_).length ≤ 12 := by
  have ih := codeF_len xs hl b
  have hk := kidsP_len xs b at_ xs.length
  have h := (cdS_len (kidsF xs b at_) (2 * 13 ^ 11) (fun x hx => by
      have := (sortD_perm _).mem_iff.1 hx
      obtain ⟨i, _, rfl⟩ := List.mem_map.1 this
      have h1 : 13 ^ b ≤ 13 ^ 11 := Nat.pow_le_pow_right (by omega) hb
      have := ih i
      omega)).1
  have e : (kidsF xs b at_).length = (kidsP xs b at_ xs.length).length := sortD_len _
  have h2 : (kidsF xs b at_).length * (2 * 13 ^ 11) ≤ 12 * (2 * 13 ^ 11) := Nat.mul_le_mul_right _ (by omega)
  exact ⟨by omega, by omega⟩

end Go.Proofs.Ytbnonelkdgkpdaa
/-
  Plain facts about pairs of vertices, graphs as numbers, and places in ascending lists: no program in sight.
-/
namespace Go.Proofs.Ytbnonelkdgkpdaa
open Go Go.Proofs.Ytbnonelkdgkpdaa.Ow
/-! ### bits -/
theorem shr_eq (g i : Nat) (hi : i ≤ 64) : ((g / 2 ^ i : Nat) : Int) = ((g : Nat) : Int).fdiv (2 ^ (min ((i : Nat) : Int).toNat 64)) := by
  rw [Int.toNat_natCast, Nat.min_eq_left hi, Int.natCast_ediv, Int.natCast_pow]
  rw [Int.fdiv_eq_ediv_of_nonneg _ (by exact Int.pow_nonneg (by decide))]
  rfl
theorem ofInt_nat (x : Nat) (h : x < 4611686018427387904) : (BitVec.ofInt 64 ((x : Nat) : Int)).toNat = x := by
  rw [BitVec.toNat_ofInt]
  omega
theorem and1_eq (x : Nat) (h : x < 4611686018427387904) : ((x % 2 : Nat) : Int) = w64 ((BitVec.ofInt 64 ((x : Nat) : Int) &&& BitVec.ofInt 64 1).toNat : Nat) := by
  rw [BitVec.toNat_and, ofInt_nat x h, show (BitVec.ofInt 64 1).toNat = 1 from rfl, Nat.and_one_is_mod]
  exact w64_in _ (by omega) (by omega)
theorem shl_eq (i : Nat) (hi : i ≤ 40) : ((2 ^ i : Nat) : Int) = w64 (1 * 2 ^ (min ((i : Nat) : Int).toNat 64)) := by
  have hp : 2 ^ i ≤ 2 ^ 40 := Nat.pow_le_pow_right (by omega) hi
  have e : ((2 ^ i : Nat) : Int) = 1 * 2 ^ (min ((i : Nat) : Int).toNat 64) := by
    rw [Int.toNat_natCast, Nat.min_eq_left (by omega), Int.one_mul, Int.natCast_pow]
    rfl
  exact w64_eq e (Int.le_trans (by decide) (Int.natCast_nonneg _)) (Int.le_trans (Int.ofNat_le.2 hp) (by decide))
theorem andp_eq (g i : Nat) (hg : g < 4611686018427387904) (hi : i ≤ 40) : (((g / 2 ^ i % 2) * 2 ^ i : Nat) : Int) = w64 ((BitVec.ofInt 64 ((g : Nat) : Int) &&& BitVec.ofInt 64 ((2 ^ i : Nat) : Int)).toNat : Nat) := by
  have hp : 2 ^ i ≤ 2 ^ 40 := Nat.pow_le_pow_right (by omega) hi
  rw [BitVec.toNat_and, ofInt_nat g hg, ofInt_nat (2 ^ i) (by omega)]
  have e : g &&& 2 ^ i = (g / 2 ^ i % 2) * 2 ^ i := by
    have := Nat.mod_lt (g / 2 ^ i) (show 0 < 2 by omega)
    have ht : g.testBit i = decide (g / 2 ^ i % 2 = 1) := Nat.testBit_eq_decide_div_mod_eq
    apply Nat.eq_of_testBit_eq
    intro j
    rw [Nat.testBit_and, Nat.testBit_two_pow]
    by_cases h : g / 2 ^ i % 2 = 1
    · rw [h, Nat.one_mul, Nat.testBit_two_pow]
      by_cases hij : i = j
      · subst hij; simp [ht, h]
      · simp [hij]
    · have h0 : g / 2 ^ i % 2 = 0 := by omega
      rw [h0, Nat.zero_mul, Nat.zero_testBit]
      by_cases hij : i = j
      · subst hij; simp [ht, h]
      · simp [hij]
  rw [e]
  have h1 : (g / 2 ^ i % 2) * 2 ^ i ≤ 1 * 2 ^ i := Nat.mul_le_mul_right _ (by omega)
  exact w64_in _ (by omega) (by omega)
/-- bit i of g -/
def bt (g i : Nat) : Bool := decide (g / 2 ^ i % 2 = 1)
theorem bt_shr (g i : Nat) : ((g / 2 ^ i % 2 : Nat) : Int) = 1 ↔ bt g i = true := by
  unfold bt; rw [decide_eq_true_iff]; omega
theorem bt_and (g i : Nat) : (((g / 2 ^ i % 2) * 2 ^ i : Nat) : Int) ≠ 0 ↔ bt g i = true := by
  have h2 : 0 < 2 ^ i := Nat.pos_of_ne_zero (by simp)
  have := Nat.mod_lt (g / 2 ^ i) (show 0 < 2 by omega)
  unfold bt; rw [decide_eq_true_iff]
  by_cases h : g / 2 ^ i % 2 = 1
  · rw [h, Nat.one_mul]; constructor
    · intro _; rfl
    · intro _; omega
  · have h0 : g / 2 ^ i % 2 = 0 := by omega
    rw [h0, Nat.zero_mul]; simp
/-! ### places in ascending lists -/
def bsI (xss : List (List Int)) (p : List Int) : Nat → Nat → Nat → Nat
  | 0, i, _ => i
  | f + 1, i, j => if i < j then (if cmpI (xss.getD ((i + j) / 2) []) p < 0 then bsI xss p f ((i + j) / 2 + 1) j else bsI xss p f i ((i + j) / 2)) else i
theorem bsI_le (xss : List (List Int)) (p : List Int) : ∀ f i j, i ≤ j → bsI xss p f i j ≤ j
  | 0, i, j, h => h
  | f + 1, i, j, h => by
    rw [bsI]
    split
    · split
      · exact bsI_le xss p f _ _ (by omega)
      · exact Nat.le_trans (bsI_le xss p f _ _ (by omega)) (by omega)
    · exact h
def bsN (xss : List (List Int)) (p : List Int) : Nat := bsI xss p xss.length 0 xss.length
/-- the place of a list; -1 if it is not there -/
def findI (xss : List (List Int)) (p : List Int) : Int := if bsN xss p < xss.length ∧ xss.getD (bsN xss p) [] = p then (bsN xss p : Nat) else -1
/-! ### pairs -/
def subL (n : Nat) : Nat → Nat → List (List Int)
  | 0, _ => [[]]
  | k + 1, from_ => (List.range' from_ (n - from_)).flatMap fun a => (subL n k (a + 1)).map fun l => (a : Int) :: l
/-- those whose first point is below a -/
def subP (n k from_ a : Nat) : List (List Int) := (List.range' from_ (a - from_)).flatMap fun a => (subL n k (a + 1)).map fun l => (a : Int) :: l
theorem subP_all (n k from_ : Nat) : subP n k from_ n = subL n (k + 1) from_ := rfl
theorem subP_s (n k from_ a : Nat) (h : from_ ≤ a) : subP n k from_ (a + 1) = subP n k from_ a ++ (subL n k (a + 1)).map fun l => (a : Int) :: l := by
  unfold subP
  rw [show a + 1 - from_ = (a - from_) + 1 by omega, List.range'_concat, List.flatMap_append]
  simp [show from_ + (a - from_) = a by omega]
theorem subP_len : ∀ n, n < 6 → ∀ k, k < 3 → ∀ f, f < 7 → ∀ a, a < 6 → (subP n k f a).length ≤ 32 ∧ (subL n k f).length ≤ 32 := by decide
theorem subL_el (n : Nat) : ∀ k, k < 3 → ∀ f j, ((subL n k f).getD j []).length ≤ 1048576 := by
  have h : ∀ k f, ∀ l ∈ subL n k f, l.length = k := by
    intro k
    induction k with
    | zero => intro f l hl; simp [subL] at hl; rw [hl]; rfl
    | succ k ih =>
      intro f l hl
      rw [subL] at hl
      obtain ⟨a, _, ha⟩ := List.mem_flatMap.1 hl
      obtain ⟨l', hl', rfl⟩ := List.mem_map.1 ha
      rw [List.length_cons, ih _ _ hl']
  intro k hk f j
  by_cases hj : j < (subL n k f).length
  · rw [getD_get _ _ _ hj, h k f _ (List.getElem_mem hj)]; omega
  · rw [List.getD_eq_getElem?_getD, List.getElem?_eq_none (by omega)]; simp
/-- the pairs of n vertices -/
def pairsL (n : Nat) : List (List Int) := subL n 2 0
/-- the points of a set of n points -/
def bitsL (n s : Nat) : List Int := ((List.range n).filter fun i => bt s i).map fun (i : Nat) => (i : Int)
/-- the sets below S that have k points -/
def subsS (n k S : Nat) : List (List Int) := ((List.range S).map fun s => bitsL n s).filter fun l => l.length = k
theorem bitsL_yes (n s : Nat) (h : bt s n = true) : bitsL (n + 1) s = bitsL n s ++ [(n : Int)] := by
  unfold bitsL
  rw [List.range_succ, List.filter_append, List.map_append]
  simp [h]
theorem bitsL_no (n s : Nat) (h : ¬ bt s n = true) : bitsL (n + 1) s = bitsL n s := by
  unfold bitsL
  rw [List.range_succ, List.filter_append, List.map_append]
  simp [h]
theorem bitsL_len (n s : Nat) : (bitsL n s).length ≤ n := by
  unfold bitsL
  rw [List.length_map]
  exact Nat.le_trans (List.length_filter_le _ _) (by simp)
theorem subsS_yes (n k s : Nat) (h : (bitsL n s).length = k) : subsS n k (s + 1) = subsS n k s ++ [bitsL n s] := by
  unfold subsS
  rw [List.range_succ, List.map_append, List.filter_append]
  simp [h]
theorem subsS_no (n k s : Nat) (h : ¬ (bitsL n s).length = k) : subsS n k (s + 1) = subsS n k s := by
  unfold subsS
  rw [List.range_succ, List.map_append, List.filter_append]
  simp [h]
theorem subsS_len (n k S : Nat) : (subsS n k S).length ≤ S := by
  unfold subsS
  exact Nat.le_trans (List.length_filter_le _ _) (by simp)
theorem pairs_perm : ∀ n, n < 6 → 2 ≤ n → (pairsL n).Perm (subsS n 2 (2 ^ n)) := by decide
theorem pairs_sorted : ∀ n, n < 6 → (pairsL n).Pairwise fun x y => ¬ cmpI y x < 0 := by decide
theorem pairs_ne : ∀ n, n < 6 → 2 ≤ n → subsS n 2 (2 ^ n) ≠ [] ∧ (∀ xs ∈ subsS n 2 (2 ^ n), xs ≠ [] ∧ xs.length ≤ 1048576) := by decide
theorem pairs_len : ∀ n, n < 6 → (pairsL n).length = n * (n - 1) / 2 := by decide
/-- the pairs are two points, the less first -/
theorem pairs_get : ∀ n, n < 6 → ∀ l ∈ pairsL n, l.length = 2 ∧ 0 ≤ l.getD 0 0 ∧ l.getD 0 0 < l.getD 1 0 ∧ l.getD 1 0 < (n : Int) := by decide
end Go.Proofs.Ytbnonelkdgkpdaa
/-
  Plain facts about edges and degrees of graphs: no program in sight.
-/
namespace Go.Proofs.Ytbnonelkdgkpdaa
open Go Go.Proofs.Ytbnonelkdgkpdaa.Ow
/-- the number of pairs -/
def cp (n : Nat) : Nat := n * (n - 1) / 2
theorem cp_le : ∀ n, n < 6 → cp n ≤ 10 ∧ n * (n - 1) ≤ 20 ∧ 2 ^ cp n ≤ 1024 := by decide
/-- these are a graph's numbers -/
def graphB (n g : Int) : Bool := decide ((1 ≤ n ∧ n ≤ 5) ∧ 0 ≤ g ∧ g < ((2 ^ cp n.toNat : Nat) : Int))
theorem graphB_ok {n g : Int} (h : graphB n g = true) : ∃ n' g' : Nat, n = n' ∧ g = g' ∧ 1 ≤ n' ∧ n' < 6 ∧ g' < 1024 := by
  have h := of_decide_eq_true h
  have h1 := (cp_le n.toNat (by omega)).2.2
  exact ⟨n.toNat, g.toNat, by omega, by omega, by omega, by omega, by omega⟩
def mnI (a b : Int) : Int := if b < a then b else a
def mxI (a b : Int) : Int := if a < b then b else a
/-- the first pair of these two points, from place k on; 0 if there is none -/
def pixF (xss : List (List Int)) (mn mx : Int) (k : Nat) : Nat → Nat
  | 0 => 0
  | f + 1 => if (xss.getD k []).getD 0 0 = mn ∧ (xss.getD k []).getD 1 0 = mx then k else pixF xss mn mx (k + 1) f
theorem pixF_le (xss : List (List Int)) (mn mx : Int) : ∀ f k, pixF xss mn mx k f ≤ k + f
  | 0, k => by simp [pixF]
  | f + 1, k => by
    rw [pixF]
    split
    · omega
    · have := pixF_le xss mn mx f (k + 1)
      omega
theorem pix_find : ∀ n, n < 6 → ∀ j, j < n → ∀ i, i < j → findI (pairsL n) [(i : Int), (j : Int)] = (pixF (pairsL n) (i : Int) (j : Int) 0 (pairsL n).length : Nat) := by decide
theorem find_no (n : Nat) (hn : n < 6) (mn mx : Int) (h : ¬ (0 ≤ mn ∧ mn < mx ∧ mx < (n : Int))) : findI (pairsL n) [mn, mx] = -1 := by
  unfold findI
  rw [if_neg]
  rintro ⟨h1, h2⟩
  rw [getD_get _ _ _ h1] at h2
  have := pairs_get n hn _ (List.getElem_mem h1)
  rw [h2] at this
  exact h ⟨this.2.1, this.2.2.1, this.2.2.2⟩
theorem find_b (xss : List (List Int)) (p : List Int) : findI xss p = -1 ∨ ∃ i : Nat, i < xss.length ∧ findI xss p = (i : Nat) := by
  unfold findI
  split
  · rename_i h; exact .inr ⟨_, h.1, rfl⟩
  · exact .inl rfl
/-- an edge of a graph -/
def hasE (n g a b : Int) : Bool := graphB n g && (decide ((0 ≤ a ∧ a ≤ n - 1) ∧ (0 ≤ b ∧ b ≤ n - 1) ∧ a ≠ b) && bt g.toNat (pixF (pairsL n.toNat) (mnI a b) (mxI a b) 0 (pairsL n.toNat).length))
/-- the edges among the first k pairs -/
def edgL (xss : List (List Int)) (g k : Nat) : List (List Int) := ((List.range k).filter fun i => bt g i).map fun i => xss.getD i []
theorem edgL_yes (xss : List (List Int)) (g k : Nat) (h : bt g k = true) : edgL xss g (k + 1) = edgL xss g k ++ [xss.getD k []] := by
  unfold edgL
  rw [List.range_succ, List.filter_append, List.map_append]
  simp [h]
theorem edgL_no (xss : List (List Int)) (g k : Nat) (h : ¬ bt g k = true) : edgL xss g (k + 1) = edgL xss g k := by
  unfold edgL
  rw [List.range_succ, List.filter_append, List.map_append]
  simp [h]
theorem edgL_len (xss : List (List Int)) (g k : Nat) : (edgL xss g k).length ≤ k := by
  unfold edgL
  rw [List.length_map]
  exact Nat.le_trans (List.length_filter_le _ _) (by simp)
theorem edgL_mem (xss : List (List Int)) (g : Nat) : ∀ l ∈ edgL xss g xss.length, l ∈ xss := by
  intro l hl
  obtain ⟨i, hi, rfl⟩ := List.mem_map.1 hl
  have := List.mem_range.1 (List.mem_filter.1 hi).1
  rw [getD_get _ _ _ this]
  exact List.getElem_mem _
def inc1 (d : List Int) (x : Int) : List Int := d.set x.toNat (d.getD x.toNat 0 + 1)
/-- one edge more -/
def incP (d : List Int) (p : List Int) : List Int := inc1 (inc1 d (p.getD 0 0)) (p.getD 1 0)
/-- the degrees that k lists of edges make -/
def degF (n : Nat) (es : List (List Int)) : List Int := es.foldl incP (List.replicate n 0)
theorem degF_snoc (n : Nat) (es : List (List Int)) (p : List Int) : degF n (es ++ [p]) = incP (degF n es) p := by simp [degF]
theorem inc1_b (d : List Int) (x : Int) (n : Nat) (m : Int) (h : d.length = n ∧ ∀ j, j < n → 0 ≤ d.getD j 0 ∧ d.getD j 0 ≤ m) : (inc1 d x).length = n ∧ ∀ j, j < n → 0 ≤ (inc1 d x).getD j 0 ∧ (inc1 d x).getD j 0 ≤ m + 1 := by
  refine ⟨by rw [inc1, List.length_set]; exact h.1, fun j hj => ?_⟩
  have hj' := h.2 j hj
  unfold inc1
  by_cases e : x.toNat = j
  · rw [e, L_set_self _ _ _ _ (by omega)]; omega
  · rw [L_set_ne _ _ _ _ _ e]; omega
theorem degF_b (n : Nat) : ∀ (k : Nat) (es : List (List Int)), es.length = k → (degF n es).length = n ∧ ∀ j, j < n → 0 ≤ (degF n es).getD j 0 ∧ (degF n es).getD j 0 ≤ (2 * k : Nat)
  | 0, es, h => by
    obtain rfl := List.eq_nil_of_length_eq_zero h
    refine ⟨by simp [degF], fun j hj => ?_⟩
    have : (degF n []).getD j 0 = 0 := by unfold degF; rw [List.foldl_nil, getD_get _ _ _ (by simpa using hj), List.getElem_replicate]
    rw [this]; simp
  | k + 1, es, h => by
    have hne : es ≠ [] := by intro e; rw [e] at h; simp at h
    obtain ⟨es', p, rfl⟩ : ∃ es' p, es = es' ++ [p] := ⟨es.dropLast, es.getLast hne, (List.dropLast_concat_getLast hne).symm⟩
    have ih := degF_b n k es' (by simpa using h)
    rw [degF_snoc]
    have h1 := inc1_b _ (p.getD 0 0) n _ ih
    have h2 := inc1_b _ (p.getD 1 0) n _ h1
    refine ⟨h2.1, fun j hj => ?_⟩
    have := h2.2 j hj
    unfold incP
    omega
/-- the degrees of a graph -/
def degL (n g : Nat) : List Int := degF n (edgL (pairsL n) g (pairsL n).length)
end Go.Proofs.Ytbnonelkdgkpdaa
/-
  Plain facts about graphs read from text: no program in sight.
-/
namespace Go.Proofs.Ytbnonelkdgkpdaa
open Go Go.Proofs.Ytbnonelkdgkpdaa.Ow
/-- the words ahead of the last blank among the first k signs, and where the next one begins -/
def spS (t : List UInt8) : Nat → List (List UInt8) × Nat
  | 0 => ([], 0)
  | k + 1 => if t.getD k 0 = 32 then ((spS t k).1 ++ [(t.take k).drop (spS t k).2], k + 1) else spS t k
theorem spS_b (t : List UInt8) : ∀ k, (spS t k).1.length ≤ k ∧ (spS t k).2 ≤ k
  | 0 => ⟨Nat.le_refl _, Nat.le_refl _⟩
  | k + 1 => by
    have := spS_b t k
    rw [spS]
    split
    · simp; omega
    · omega
/-- the words between blanks -/
def wordsB (t : List UInt8) : List (List UInt8) := (spS t t.length).1 ++ [t.drop (spS t t.length).2]
/-- the texts of the pairs -/
def pairT (n : Nat) : List (List UInt8) := (pairsL n).map fun p => [UInt8.ofNat (48 + (p.getD 0 0).toNat), UInt8.ofNat (48 + (p.getD 1 0).toNat)]
/-- the bits of the pairs among the first k that are this word -/
def orW (ts : List (List UInt8)) (w : List UInt8) (g : Nat) : Nat → Nat
  | 0 => g
  | k + 1 => if w = ts.getD k [] then orW ts w g k ||| 2 ^ k else orW ts w g k
theorem orW_lt (ts : List (List UInt8)) (w : List UInt8) (g L : Nat) (hg : g < 2 ^ L) : ∀ k, k ≤ L → orW ts w g k < 2 ^ L
  | 0, _ => hg
  | k + 1, hk => by
    have := orW_lt ts w g L hg k (by omega)
    rw [orW]
    split
    · have h2 : 2 ^ k < 2 ^ L := Nat.pow_lt_pow_right (by omega) (by omega)
      exact Nat.or_lt_two_pow this h2
    · exact this
/-- the graph of some words -/
def orWs (ts : List (List UInt8)) (ws : List (List UInt8)) : Nat := ws.foldl (fun g w => orW ts w g ts.length) 0
theorem orWs_lt (ts : List (List UInt8)) (ws : List (List UInt8)) : orWs ts ws < 2 ^ ts.length := by
  unfold orWs
  have : ∀ (ws : List (List UInt8)) (g : Nat), g < 2 ^ ts.length → ws.foldl (fun g w => orW ts w g ts.length) g < 2 ^ ts.length := by
    intro ws
    induction ws with
    | nil => intro g h; exact h
    | cons w r ih => intro g h; exact ih _ (orW_lt ts w g _ h _ (Nat.le_refl _))
  exact this ws 0 (Nat.pos_of_ne_zero (by simp))
theorem orWs_s (ts : List (List UInt8)) (ws : List (List UInt8)) (k : Nat) (h : k < ws.length) : orWs ts (ws.take (k + 1)) = orW ts (ws.getD k []) (orWs ts (ws.take k)) ts.length := by
  unfold orWs
  rw [L_succ ws k [] h, List.foldl_append]; rfl
theorem pairT_len : ∀ n, n < 6 → (pairT n).length = cp n ∧ (pairsL n).length = cp n ∧ cp n ≤ 10 := by decide
theorem or_eq (x y : Nat) (hx : x < 1024) (hy : y < 1024) : ((x ||| y : Nat) : Int) = w64 ((BitVec.ofInt 64 ((x : Nat) : Int) ||| BitVec.ofInt 64 ((y : Nat) : Int)).toNat : Nat) := by
  rw [BitVec.toNat_or, ofInt_nat x (by omega), ofInt_nat y (by omega)]
  have := Nat.or_lt_two_pow (n := 10) hx hy
  exact w64_in _ (by omega) (by omega)
/-- joined by blanks -/
def jnB : List (List UInt8) → List UInt8
  | [] => []
  | [w] => w
  | w :: r => w ++ (32 :: jnB r)
/-- a graph as text -/
def grT (n g : Nat) : List UInt8 :=
  let l := ((List.range (pairsL n).length).filter fun i => bt g i).map fun i => (pairT n).getD i []
  if l = [] then [45] else jnB l
theorem rt_all : ∀ n, n < 6 → ∀ g, g < 2 ^ cp n → orWs (pairT n) (wordsB (grT n g)) = g := by decide +kernel
end Go.Proofs.Ytbnonelkdgkpdaa
/-
  Plain facts about the pairs that permutations carry, and renamed graphs: no program in sight.
-/
namespace Go.Proofs.Ytbnonelkdgkpdaa
open Go Go.Proofs.Ytbnonelkdgkpdaa.Ow
/-- the place of the pair to which a pair is carried -/
def paN (p l : List Int) : Nat := pixF (pairsL p.length) (mnI (p.getD (l.getD 0 0).toNat 0) (p.getD (l.getD 1 0).toNat 0)) (mxI (p.getD (l.getD 0 0).toNat 0) (p.getD (l.getD 1 0).toNat 0)) 0 (pairsL p.length).length
def pactL (p : List Int) : List Int := (pairsL p.length).map fun l => ((paN p l : Nat) : Int)
theorem map_snoc {α β : Type} (f : α → β) (xs : List α) (k : Nat) (d : α) (h : k < xs.length) : (xs.take (k + 1)).map f = (xs.take k).map f ++ [f (xs.getD k d)] := by
  rw [L_succ xs k d h, List.map_append]; rfl
theorem flag_pair : ∀ n, n < 6 → ∀ u, u < n → ∀ v, v < n → u ≠ v → ((List.range n).filter fun x => (((List.replicate n false).set u true).set v true).getD x false).map (fun (x : Nat) => (x : Int)) = [mnI u v, mxI u v] := by decide
theorem idx_pair : ∀ n, n < 6 → ∀ j, j < n → ∀ i, i < j → ((List.range (pairsL n).length).filter fun q => decide ([(i : Int), (j : Int)] = (pairsL n).getD q [])).map (fun (x : Nat) => (x : Int)) = [((pixF (pairsL n) (i : Int) (j : Int) 0 (pairsL n).length : Nat) : Int)] := by decide
/-- the points that a list is carried to, marked -/
def flgL (n : Nat) (p l : List Int) : List Bool := l.foldl (fun f a => f.set (p.getD a.toNat 0).toNat true) (List.replicate n false)
theorem flgL_len (n : Nat) (p : List Int) : ∀ l, (flgL n p l).length = n := by
  have : ∀ (l : List Int) (f : List Bool), (l.foldl (fun f a => f.set (p.getD a.toNat 0).toNat true) f).length = f.length := by
    intro l
    induction l with
    | nil => intro f; rfl
    | cons a r ih => intro f; rw [List.foldl_cons, ih, List.length_set]
  intro l
  rw [flgL, this, List.length_replicate]
theorem flgL_s (n : Nat) (p l : List Int) (k : Nat) (h : k < l.length) : flgL n p (l.take (k + 1)) = (flgL n p (l.take k)).set (p.getD (l.getD k 0).toNat 0).toNat true := by
  unfold flgL
  rw [L_succ l k 0 h, List.foldl_append]; rfl
/-- the marked points among the first k -/
def mkdL (f : List Bool) (k : Nat) : List Int := ((List.range k).filter fun x => f.getD x false).map fun (x : Nat) => (x : Int)
theorem mkdL_yes (f : List Bool) (k : Nat) (h : f.getD k false = true) : mkdL f (k + 1) = mkdL f k ++ [(k : Int)] := by
  unfold mkdL
  rw [List.range_succ, List.filter_append, List.map_append]
  simp [-List.getD_eq_getElem?_getD, h]
theorem mkdL_no (f : List Bool) (k : Nat) (h : f.getD k false = false) : mkdL f (k + 1) = mkdL f k := by
  unfold mkdL
  rw [List.range_succ, List.filter_append, List.map_append]
  simp [-List.getD_eq_getElem?_getD, h]
theorem mkdL_len (f : List Bool) (k : Nat) : (mkdL f k).length ≤ k := by
  unfold mkdL
  rw [List.length_map]
  exact Nat.le_trans (List.length_filter_le _ _) (by simp)
/-- the places of a list among the first k -/
def plcL (xss : List (List Int)) (y : List Int) (k : Nat) : List Int := ((List.range k).filter fun q => decide (y = xss.getD q [])).map fun (x : Nat) => (x : Int)
theorem plcL_yes (xss : List (List Int)) (y : List Int) (k : Nat) (h : y = xss.getD k []) : plcL xss y (k + 1) = plcL xss y k ++ [(k : Int)] := by
  unfold plcL
  rw [List.range_succ, List.filter_append, List.map_append]
  simp [-List.getD_eq_getElem?_getD, h]
theorem plcL_no (xss : List (List Int)) (y : List Int) (k : Nat) (h : ¬ y = xss.getD k []) : plcL xss y (k + 1) = plcL xss y k := by
  unfold plcL
  rw [List.range_succ, List.filter_append, List.map_append]
  simp [-List.getD_eq_getElem?_getD, h]
theorem plcL_len (xss : List (List Int)) (y : List Int) (k : Nat) : (plcL xss y k).length ≤ k := by
  unfold plcL
  rw [List.length_map]
  exact Nat.le_trans (List.length_filter_le _ _) (by simp)
/-- the bits that are carried by the first k places -/
def renL (g : Nat) (xs : List Int) : Nat → Nat
  | 0 => 0
  | k + 1 => if bt g k = true then renL g xs k ||| 2 ^ (xs.getD k 0).toNat else renL g xs k
theorem renL_lt (g L : Nat) (xs : List Int) (hx : ∀ i, i < xs.length → (xs.getD i 0).toNat < L) : ∀ k, k ≤ xs.length → renL g xs k < 2 ^ L
  | 0, _ => Nat.pos_of_ne_zero (by simp)
  | k + 1, hk => by
    have ih := renL_lt g L xs hx k (by omega)
    rw [renL]
    split
    · have h2 : 2 ^ (xs.getD k 0).toNat < 2 ^ L := Nat.pow_lt_pow_right (by omega) (hx k (by omega))
      exact Nat.or_lt_two_pow ih h2
    · exact ih
theorem shlb_eq (b x : Nat) (hb : b ≤ 1) (hx : x ≤ 40) : ((b * 2 ^ x : Nat) : Int) = w64 (((b : Nat) : Int) * 2 ^ (min ((x : Nat) : Int).toNat 64)) := by
  have hp : 2 ^ x ≤ 2 ^ 40 := Nat.pow_le_pow_right (by omega) hx
  have hbp : b * 2 ^ x ≤ 1 * 2 ^ 40 := Nat.mul_le_mul hb hp
  have e : ((b * 2 ^ x : Nat) : Int) = ((b : Nat) : Int) * 2 ^ (min ((x : Nat) : Int).toNat 64) := by
    rw [Int.toNat_natCast, Nat.min_eq_left (by omega), Int.natCast_mul, Int.natCast_pow]
    rfl
  exact w64_eq e (Int.le_trans (by decide) (Int.natCast_nonneg _)) (Int.le_trans (Int.ofNat_le.2 hbp) (by decide))
/-- a graph renamed -/
def renN (g : Nat) (p : List Int) : Nat := renL g (pactL p) (pactL p).length
theorem pix_lt : ∀ n, n < 6 → 2 ≤ n → ∀ j, j < n → ∀ i, i < j → pixF (pairsL n) (i : Int) (j : Int) 0 (pairsL n).length < cp n := by decide
/-- what is known of a pair that is carried -/
structure Car (p l : List Int) (u v : Nat) : Prop where
  fu : p.getD (l.getD 0 0).toNat 0 = (u : Int)
  fv : p.getD (l.getD 1 0).toNat 0 = (v : Int)
  lu : u < p.length
  lv : v < p.length
  ne : u ≠ v
theorem car_of {p : List Int} (hP : PermP p) (hn : p.length < 6) {l : List Int} (hl : l ∈ pairsL p.length) : ∃ u v, Car p l u v := by
  have h := pairs_get _ hn l hl
  have h1 := hP.2 (l.getD 0 0).toNat (by omega)
  have h2 := hP.2 (l.getD 1 0).toNat (by omega)
  have h3 := h2.2 (l.getD 0 0).toNat (by omega)
  exact ⟨(p.getD (l.getD 0 0).toNat 0).toNat, (p.getD (l.getD 1 0).toNat 0).toNat, by omega, by omega, by omega, by omega, by omega⟩
theorem car_lt {p l : List Int} {u v : Nat} (h : Car p l u v) (hn : p.length < 6) (h2 : 2 ≤ p.length) : paN p l < cp p.length := by
  unfold paN
  rw [h.fu, h.fv]
  unfold mnI mxI
  have := h.ne
  by_cases e : u < v
  · rw [if_neg (by omega), if_pos (by omega)]
    exact pix_lt _ hn h2 v h.lv u e
  · rw [if_pos (by omega), if_neg (by omega)]
    exact pix_lt _ hn h2 u h.lu v (by omega)
theorem car_find {p l : List Int} {u v : Nat} (h : Car p l u v) (hn : p.length < 6) : findI (pairsL p.length) [mnI u v, mxI u v] = (paN p l : Nat) := by
  unfold paN
  rw [h.fu, h.fv]
  unfold mnI mxI
  have := h.ne
  by_cases e : u < v
  · rw [if_neg (by omega), if_pos (by omega)]
    exact pix_find _ hn v h.lv u e
  · rw [if_pos (by omega), if_neg (by omega)]
    exact pix_find _ hn u h.lu v (by omega)
theorem car_plc {p l : List Int} {u v : Nat} (h : Car p l u v) (hn : p.length < 6) : plcL (pairsL p.length) [mnI u v, mxI u v] (pairsL p.length).length = [((paN p l : Nat) : Int)] := by
  unfold paN
  rw [h.fu, h.fv]
  unfold mnI mxI plcL
  have := h.ne
  by_cases e : u < v
  · rw [if_neg (by omega), if_pos (by omega)]
    exact idx_pair _ hn v h.lv u e
  · rw [if_pos (by omega), if_neg (by omega)]
    exact idx_pair _ hn u h.lu v (by omega)
theorem car_img {p l : List Int} {u v : Nat} (h : Car p l u v) (hn : p.length < 6) (hl : l.length = 2) : mkdL (flgL p.length p l) p.length = [mnI u v, mxI u v] := by
  have e : flgL p.length p l = ((List.replicate p.length false).set u true).set v true := by
    match l, hl, h with
    | [a, b], _, h =>
      have h1 : p.getD a.toNat 0 = (u : Int) := h.fu
      have h2 : p.getD b.toNat 0 = (v : Int) := h.fv
      show ((List.replicate p.length false).set (p.getD a.toNat 0).toNat true).set (p.getD b.toNat 0).toNat true = _
      rw [h1, h2, Int.toNat_natCast, Int.toNat_natCast]
  rw [e]
  exact flag_pair _ hn u h.lu v h.lv h.ne
end Go.Proofs.Ytbnonelkdgkpdaa
/-
  Plain facts about the group of all permutations, as it is found step by step: no program in sight.
-/
namespace Go.Proofs.Ytbnonelkdgkpdaa
open Go Go.Proofs.Ytbnonelkdgkpdaa.Ow
def idL (n : Nat) : List Int := (List.range n).map fun (x : Nat) => (x : Int)
def turnL (n : Nat) : List Int := (List.range n).map fun (x : Nat) => (((x + 1) % n : Nat) : Int)
def swapL (n : Nat) : List Int := if 1 < n then ((idL n).set 0 1).set 1 0 else idL n
/-- a list of n points of n -/
def okP (n : Nat) (x : List Int) : Bool := decide (x.length = n) && x.all fun a => decide (0 ≤ a) && decide (a < (n : Int))
theorem okP_iff {n : Nat} {x : List Int} (h : okP n x = true) : x.length = n ∧ ∀ i, i < x.length → 0 ≤ x.getD i 0 ∧ x.getD i 0 < (n : Int) := by
  unfold okP at h
  simp only [Bool.and_eq_true, decide_eq_true_eq, List.all_eq_true] at h
  refine ⟨h.1, fun i hi => ?_⟩
  rw [getD_get _ _ _ hi]
  exact h.2 _ (List.getElem_mem hi)
/-- one element met: its products are added at the end -/
def innI (n a : Nat) : List (List Int) → List (List Int) → Option (List (List Int))
  | [], out => some out
  | g :: gs, out => if (out.length ≤ 120 ∧ a < out.length) ∧ okP n (out.getD a []) = true ∧ (out.all fun x => decide (x.length = n)) = true then
      (if (out.any fun x => decide (x = exL (out.getD a []) g)) = true then innI n a gs out
       else if out.length = 120 then none else innI n a gs (out ++ [exL (out.getD a []) g])) else none
def bfsI (n : Nat) (gens : List (List Int)) : Nat → Nat → List (List Int) → Option (List (List Int))
  | 0, _, _ => none
  | f + 1, a, out => if a < out.length then (match innI n a gens out with | none => none | some o => bfsI n gens f (a + 1) o) else some out
/-- the place where a list is put -/
def putN (xss : List (List Int)) (p : List Int) : Nat → Nat → Nat
  | 0, k => k
  | f + 1, k => if k < xss.length ∧ cmpI (xss.getD k []) p < 0 then putN xss p f (k + 1) else k
def putS (xss : List (List Int)) (p : List Int) : List (List Int) := xss.take (putN xss p 200 0) ++ [p] ++ xss.drop (putN xss p 200 0)
def innS (n a : Nat) : List (List Int) → List (List Int) → List (List Int) → Option (List (List Int) × List (List Int))
  | [], out, q => some (out, q)
  | g :: gs, out, q => if (out.length ≤ 120 ∧ q.length ≤ 120 ∧ a < q.length) ∧ okP n (q.getD a []) = true ∧ (out.all fun x => decide (x.length = n)) = true then
      (if 0 ≤ findI out (exL (q.getD a []) g) then innS n a gs out q
       else if out.length = 120 then none else innS n a gs (putS out (exL (q.getD a []) g)) (q ++ [exL (q.getD a []) g])) else none
def bfsS (n : Nat) (gens : List (List Int)) : Nat → Nat → List (List Int) → List (List Int) → Option (List (List Int))
  | 0, _, _, _ => none
  | f + 1, a, out, q => if a < q.length then (match innS n a gens out q with | none => none | some o => bfsS n gens f (a + 1) o.1 o.2) else some out
/-- all permutations of n points, ascending -/
def symL (n : Nat) : List (List Int) := (bfsS n [turnL n, swapL n] 200 0 [idL n] [idL n]).getD []
def symB (n : Nat) : Option (List (List Int)) → Option (List (List Int)) → Bool
  | some s, some o => s.isPerm o && (decide (s.Pairwise fun x y => ¬ cmpI y x < 0) && (s.all (fun x => permB x && decide (x.length = n)) && (decide (1 ≤ s.length) && decide (s.length ≤ 120))))
  | _, _ => false
set_option maxRecDepth 100000
theorem sym_all : ∀ n, n < 6 → 1 ≤ n → symB n (bfsS n [turnL n, swapL n] 200 0 [idL n] [idL n]) (bfsI n [turnL n, swapL n] 200 0 [idL n]) = true := by decide +kernel
theorem sym_gens : ∀ n, n < 6 → 1 ≤ n → (permB (turnL n) = true ∧ (turnL n).length = n) ∧ permB (swapL n) = true ∧ (swapL n).length = n := by decide
structure SymOk (n : Nat) : Prop where
  s : bfsS n [turnL n, swapL n] 200 0 [idL n] [idL n] = some (symL n)
  i : ∃ o, bfsI n [turnL n, swapL n] 200 0 [idL n] = some o ∧ (symL n).Perm o
  so : (symL n).Pairwise fun x y => ¬ cmpI y x < 0
  el : ∀ x ∈ symL n, PermP x ∧ x.length = n
  l1 : 1 ≤ (symL n).length
  l2 : (symL n).length ≤ 120
theorem sym_ok (n : Nat) (hn : n < 6) (h1 : 1 ≤ n) : SymOk n := by
  have h := sym_all n hn h1
  cases hs : bfsS n [turnL n, swapL n] 200 0 [idL n] [idL n] with
  | none => rw [hs] at h; cases h
  | some s =>
    cases hi : bfsI n [turnL n, swapL n] 200 0 [idL n] with
    | none => rw [hs, hi] at h; cases h
    | some o =>
      rw [hs, hi] at h
      have e : symL n = s := by unfold symL; rw [hs]; rfl
      unfold symB at h
      simp only [Bool.and_eq_true, decide_eq_true_eq, List.all_eq_true] at h
      obtain ⟨a, b, c, d1, d2⟩ := h
      refine ⟨by rw [e]; exact hs, ⟨o, hi, ?_⟩, by rw [e]; exact b, fun x hx => ?_, by rw [e]; exact d1, by rw [e]; exact d2⟩
      · rw [e]; exact List.isPerm_iff.1 a
      · rw [e] at hx
        exact ⟨(permB_iff x).1 (c x hx).1, (c x hx).2⟩
end Go.Proofs.Ytbnonelkdgkpdaa
/-
  Plain facts about colorings carried by permutations, and the least ones up to exchanged colors: no program in sight.
-/
namespace Go.Proofs.Ytbnonelkdgkpdaa
open Go Go.Proofs.Ytbnonelkdgkpdaa.Ow
theorem pigeon : ∀ (m : Nat) (l : List Nat), l.Nodup → (∀ x ∈ l, x < m) → l.length ≤ m
  | 0, l, _, h => by
    cases l with
    | nil => simp
    | cons a l => exact absurd (h a (by simp)) (by omega)
  | m + 1, l, hn, h => by
    by_cases hm : m ∈ l
    · have h1 := pigeon m (l.erase m) (hn.erase m) (fun x hx => by
        have h2 := h x (List.mem_of_mem_erase hx)
        have h3 : x ≠ m := (hn.mem_erase_iff.1 hx).1
        omega)
      rw [List.length_erase_of_mem hm] at h1
      omega
    · have := pigeon m l hn fun x hx => by
        have h2 := h x hx
        have h3 : x ≠ m := fun e => hm (e ▸ hx)
        omega
      omega
theorem perm_inj {p : List Int} (h : PermP p) {i j : Nat} (hi : i < p.length) (hj : j < p.length) (e : (p.getD i 0).toNat = (p.getD j 0).toNat) : i = j := by
  have h1 := (h.2 i hi)
  have h2 := (h.2 j hj)
  have e2 : p.getD i 0 = p.getD j 0 := by omega
  rcases Nat.lt_trichotomy i j with h3 | h3 | h3
  · exact (h2.2 i h3 e2).elim
  · exact h3
  · exact (h1.2 j h3 e2.symm).elim
theorem perm_nodup {p : List Int} (h : PermP p) : (p.map Int.toNat).Nodup := by
  rw [List.Nodup, List.pairwise_iff_getElem]
  intro i j hi hj hij e
  simp only [List.length_map] at hi hj
  simp only [List.getElem_map] at e
  have := perm_inj h hi hj (by rw [getD_get _ _ _ hi, getD_get _ _ _ hj]; exact e)
  omega
theorem perm_surj {p : List Int} (h : PermP p) {j : Nat} (hj : j < p.length) : ∃ i, i < p.length ∧ (p.getD i 0).toNat = j := by
  apply Classical.byContradiction
  intro hn
  have hm : j ∉ p.map Int.toNat := fun hm => by
    obtain ⟨i, hi, e⟩ := List.getElem_of_mem hm
    simp only [List.length_map] at hi
    simp only [List.getElem_map] at e
    exact hn ⟨i, hi, by rw [getD_get _ _ _ hi]; exact e⟩
  have := pigeon p.length (j :: p.map Int.toNat) (List.nodup_cons.2 ⟨hm, perm_nodup h⟩) (fun x hx => by
    rcases List.mem_cons.1 hx with rfl | hx
    · exact hj
    · obtain ⟨i, hi, e⟩ := List.getElem_of_mem hx
      simp only [List.length_map] at hi
      simp only [List.getElem_map] at e
      have := (h.2 i hi).1
      rw [getD_get _ _ _ hi] at this
      omega)
  simp only [List.length_cons, List.length_map] at this
  omega
/-- what a permutation makes of a coloring, step by step -/
def actS (p xs : List Int) : Nat → List Int
  | 0 => List.replicate xs.length 0
  | k + 1 => (actS p xs k).set (p.getD k 0).toNat (xs.getD k 0)
def actL (p xs : List Int) : List Int := actS p xs xs.length
theorem actS_len (p xs : List Int) : ∀ k, (actS p xs k).length = xs.length
  | 0 => by simp [actS]
  | k + 1 => by rw [actS, List.length_set, actS_len p xs k]
theorem actL_len (p xs : List Int) : (actL p xs).length = xs.length := actS_len p xs _
theorem actS_get {p xs : List Int} (h : PermP p) (hl : p.length = xs.length) : ∀ k, k ≤ xs.length → ∀ i, i < k → (actS p xs k).getD (p.getD i 0).toNat 0 = xs.getD i 0
  | 0, _, i, hi => by omega
  | k + 1, hk, i, hi => by
    have h1 := (h.2 k (by omega)).1
    by_cases e : i = k
    · subst e
      rw [actS, L_set_self _ _ _ _ (by rw [actS_len]; omega)]
    · rw [actS, L_set_ne _ _ _ _ _ (fun e2 => e (perm_inj h (by omega) (by omega) e2).symm), actS_get h hl k (by omega) i (by omega)]
theorem actL_get {p xs : List Int} (h : PermP p) (hl : p.length = xs.length) (i : Nat) (hi : i < xs.length) : (actL p xs).getD (p.getD i 0).toNat 0 = xs.getD i 0 :=
  actS_get h hl _ (Nat.le_refl _) i hi
theorem act_ext {p ys zs : List Int} (h : PermP p) (hy : ys.length = p.length) (hz : zs.length = p.length) (he : ∀ i, i < p.length → ys.getD (p.getD i 0).toNat 0 = zs.getD (p.getD i 0).toNat 0) : ys = zs := by
  refine ext_getD 0 (by omega) fun j hj => ?_
  obtain ⟨i, hi, e⟩ := perm_surj h (j := j) (by omega)
  have := he i hi
  rwa [e] at this
theorem exL_at (xs h : List Int) (k : Nat) (hk : k < xs.length) : (exL xs h).getD k 0 = h.getD (xs.getD k 0).toNat 0 := by
  rw [getD_get _ _ _ (by rw [exL_len]; exact hk), getD_get _ _ _ hk]; simp [exL]
theorem act_exL {p xs : List Int} (h : PermP p) (hl : p.length = xs.length) (q : List Int) : exL (actL p xs) q = actL p (exL xs q) := by
  refine act_ext h (by rw [exL_len, actL_len, hl]) (by rw [actL_len, exL_len, hl]) fun i hi => ?_
  have h1 := (h.2 i hi).1
  rw [exL_at _ _ _ (by rw [actL_len]; omega), actL_get h hl i (by omega), actL_get h (by rw [exL_len]; exact hl) i (by rw [exL_len]; omega), exL_at _ _ _ (by omega)]
theorem act_all {p xs : List Int} (h : PermP p) (hl : p.length = xs.length) (Q : Int → Prop) (hQ : ∀ i, i < xs.length → Q (xs.getD i 0)) : ∀ i, i < (actL p xs).length → Q ((actL p xs).getD i 0) := fun j hj => by
  rw [actL_len] at hj
  obtain ⟨i, hi, e⟩ := perm_surj h (j := j) (by omega)
  rw [← e, actL_get h hl i (by omega)]
  exact hQ i (by omega)
theorem act_col {p xs : List Int} (h : PermP p) (hl : p.length = xs.length) (hx : ColP xs) : ColP (actL p xs) :=
  ⟨act_all h hl (fun z => 0 ≤ z ∧ z < 4) hx.1, by rw [actL_len]; exact hx.2.1, by rw [actL_len]; exact hx.2.2⟩
/-! ### least elements -/
theorem leI_trans {x y z : List Int} (h1 : cmpI x y ≤ 0) (h2 : cmpI y z ≤ 0) : cmpI x z ≤ 0 := by
  by_cases e1 : cmpI x y = 0
  · rw [cmpI_eq _ _ e1]; exact h2
  · by_cases e2 : cmpI y z = 0
    · rw [← cmpI_eq _ _ e2]; exact h1
    · have := cmpI_trans x y z (by omega) (by omega); omega
theorem leI_anti {x y : List Int} (h1 : cmpI x y ≤ 0) (h2 : cmpI y x ≤ 0) : x = y := by
  have := cmpI_neg x y
  exact cmpI_eq _ _ (by omega)
def bstF (f : List Int → List Int) (b : List Int) (g : List (List Int)) : Nat → List Int
  | 0 => b
  | k + 1 => if cmpI (f (g.getD k [])) (bstF f b g k) < 0 then f (g.getD k []) else bstF f b g k
theorem bst_step (f : List Int → List Int) (b : List Int) (g : List (List Int)) (k : Nat) : cmpI (bstF f b g (k + 1)) (bstF f b g k) ≤ 0 ∧ cmpI (bstF f b g (k + 1)) (f (g.getD k [])) ≤ 0 := by
  rw [bstF]
  split
  · rename_i h; exact ⟨by omega, by rw [cmpI_refl]; omega⟩
  · rename_i h; exact ⟨by rw [cmpI_refl]; omega, by have := cmpI_neg (f (g.getD k [])) (bstF f b g k); omega⟩
theorem bst_le0 (f : List Int → List Int) (b : List Int) (g : List (List Int)) : ∀ k, cmpI (bstF f b g k) b ≤ 0
  | 0 => by rw [bstF, cmpI_refl]; omega
  | k + 1 => leI_trans (bst_step f b g k).1 (bst_le0 f b g k)
theorem bst_le (f : List Int → List Int) (b : List Int) (g : List (List Int)) : ∀ k i, i < k → cmpI (bstF f b g k) (f (g.getD i [])) ≤ 0
  | 0, i, hi => by omega
  | k + 1, i, hi => by
    by_cases e : i = k
    · subst e; exact (bst_step f b g i).2
    · exact leI_trans (bst_step f b g k).1 (bst_le f b g k i (by omega))
theorem bst_mem (f : List Int → List Int) (b : List Int) (g : List (List Int)) : ∀ k, bstF f b g k = b ∨ ∃ i, i < k ∧ bstF f b g k = f (g.getD i [])
  | 0 => .inl rfl
  | k + 1 => by
    rw [bstF]
    split
    · exact .inr ⟨k, by omega, rfl⟩
    · rcases bst_mem f b g k with h | ⟨i, hi, h⟩
      · exact .inl h
      · exact .inr ⟨i, by omega, h⟩
/-- the least image -/
def canL (g : List (List Int)) (xs : List Int) : List Int := bstF (fun p => actL p xs) xs g g.length
/-- the least one up to exchanged colors: of the first colors of the images -/
def cexL (g : List (List Int)) (xs : List Int) : List Int := bstF (fun p => firstL (actL p xs)) (firstL xs) g g.length
/-- the same: of the least images of the exchanged -/
def cexS (g S : List (List Int)) (xs : List Int) : List Int := bstF (fun h => canL g (exL xs h)) xs S S.length
/-! ### first colors are the least exchange -/
def cntN (l : List Int) : Nat := (l.filter fun x => decide (0 ≤ x)).length
theorem cntN_set : ∀ (l : List Int) (c : Nat) (m : Int), c < l.length → l.getD c 0 < 0 → 0 ≤ m → cntN (l.set c m) = cntN l + 1
  | [], c, m, h, _, _ => by simp at h
  | x :: l, 0, m, _, h0, hm => by
    have h0 : x < 0 := h0
    simp [cntN, hm, show ¬ 0 ≤ x by omega]
  | x :: l, c + 1, m, h, h0, hm => by
    have := cntN_set l c m (by simpa using h) (by simpa using h0) hm
    unfold cntN at this ⊢
    rw [List.set_cons_succ, List.filter_cons, List.filter_cons]
    split
    · simp only [List.length_cons]; omega
    · exact this
structure FcJ (xs : List Int) (k : Nat) (s : (List Int × Int) × List Int) : Prop where
  ob : ∀ i, i < k → s.2.getD i 0 = s.1.1.getD (xs.getD i 0).toNat 0
  inj : ∀ c, c < 4 → ∀ d, d < 4 → 0 ≤ s.1.1.getD c 0 → s.1.1.getD c 0 = s.1.1.getD d 0 → c = d
  cnt : (cntN s.1.1 : Int) = s.1.2
theorem fcJ (xs : List Int) (hx : ∀ i, i < xs.length → 0 ≤ xs.getD i 0 ∧ xs.getD i 0 < 4) : ∀ k, k ≤ xs.length → FcJ xs k (fcS xs k)
  | 0, _ => ⟨fun i hi => by omega, by unfold fcS; decide, rfl⟩
  | k + 1, hk => by
    have H := fcJ xs hx k (by omega)
    have I := fcI xs hx k (by omega)
    have hxk := hx k (by omega)
    obtain ⟨c, hc⟩ : ∃ c : Nat, xs.getD k 0 = c := ⟨(xs.getD k 0).toNat, by omega⟩
    have hc4 : c < 4 := by omega
    have hl4 := I.l4
    have hlo := I.lo
    by_cases h0 : (fcS xs k).1.1.getD c 0 < 0
    · rw [fcS_new xs k c hc h0]
      refine ⟨fun i hi => ?_, fun d hd e he h1 h2 => ?_, ?_⟩
      · dsimp only
        by_cases ei : i = k
        · subst ei
          rw [L_app_r _ _ _ _ (by omega), hlo, Nat.sub_self, hc, Int.toNat_natCast]; rfl
        · rw [L_app_l _ _ _ _ (by omega), H.ob i (by omega)]
          have hne : c ≠ (xs.getD i 0).toNat := fun e => (I.fr c hc4).1 h0 i (by omega) (by have := hx i (by omega); omega)
          rw [L_set_ne _ _ _ _ _ hne]
      · dsimp only at h1 h2
        by_cases e1 : c = d
        · by_cases e2 : c = e
          · omega
          · subst e1
            rw [L_set_self _ _ _ _ (by omega), L_set_ne _ _ _ _ _ e2] at h2
            have := I.nm e he
            omega
        · by_cases e2 : c = e
          · subst e2
            rw [L_set_self _ _ _ _ (by omega), L_set_ne _ _ _ _ _ e1] at h2
            have := I.nm d hd
            omega
          · rw [L_set_ne _ _ _ _ _ e1] at h1 h2
            rw [L_set_ne _ _ _ _ _ e2] at h2
            exact H.inj d hd e he h1 h2
      · dsimp only
        have := H.cnt
        rw [cntN_set _ _ _ (by omega) h0 I.m0]
        omega
    · rw [fcS_old xs k c hc h0]
      refine ⟨fun i hi => ?_, H.inj, H.cnt⟩
      dsimp only
      by_cases ei : i = k
      · subst ei
        rw [L_app_r _ _ _ _ (by omega), hlo, Nat.sub_self, hc, Int.toNat_natCast]; rfl
      · rw [L_app_l _ _ _ _ (by omega), H.ob i (by omega)]
def validN (k : Nat) (nm : List Int) : Bool := (List.range 4).all fun c => (decide (nm.getD c 0 < 0) || (decide (nm.getD c 0 < (cntN nm : Int)) && decide (c < k))) && (List.range c).all fun d => decide (nm.getD c 0 < 0) || decide (nm.getD d 0 ≠ nm.getD c 0)
def extOk (k : Nat) (nm : List Int) : Bool := !validN k nm || ((symL k).any (fun h => (List.range k).all fun c => decide (nm.getD c 0 < 0) || decide (h.getD c 0 = nm.getD c 0)) && (List.range (cntN nm)).all fun v => nm.contains (v : Int))
def extAll (k : Nat) : Bool := (List.range 5).all fun a => (List.range 5).all fun b => (List.range 5).all fun c => (List.range 5).all fun d => extOk k [((a : Nat) : Int) - 1, ((b : Nat) : Int) - 1, ((c : Nat) : Int) - 1, ((d : Nat) : Int) - 1]
set_option maxRecDepth 100000 in
theorem ext_chk : ∀ k, k < 5 → 1 ≤ k → extAll k = true := by decide +kernel
theorem ext_all (k : Nat) (hk : k < 5) (h1 : 1 ≤ k) (a : Nat) (ha : a < 5) (b : Nat) (hb : b < 5) (c : Nat) (hc : c < 5) (d : Nat) (hd : d < 5) : extOk k [((a : Nat) : Int) - 1, ((b : Nat) : Int) - 1, ((c : Nat) : Int) - 1, ((d : Nat) : Int) - 1] = true := by
  have h := ext_chk k hk h1
  unfold extAll at h
  simp only [List.all_eq_true, List.mem_range] at h
  exact h a ha b hb c hc d hd
theorem fcS_pre (xs : List Int) (j : Nat) : ∀ k, j < k → (∀ m, m ≤ k → (fcS xs m).2.length = m) → (fcS xs k).2.getD j 0 = (fcS xs (j + 1)).2.getD j 0
  | 0, h, _ => by omega
  | k + 1, h, hl => by
    by_cases e : j = k
    · subst e; rfl
    · rw [← fcS_pre xs j k (by omega) fun m hm => hl m (by omega)]
      show ((fcS xs k).2 ++ _).getD j 0 = _
      rw [L_app_l _ _ _ _ (by rw [hl k (by omega)]; omega)]
theorem firstL_at {xs : List Int} (hx : ColP xs) {j : Nat} (hj : j < xs.length) : (firstL xs).getD j 0 = (fcS xs (j + 1)).2.getD j 0 :=
  fcS_pre xs j xs.length hj fun m hm => (fcI xs hx.1 m hm).lo
theorem cmp_le_of : ∀ (a b : List Int), a.length = b.length → (∀ j, j < a.length → (∀ i, i < j → a.getD i 0 = b.getD i 0) → a.getD j 0 ≤ b.getD j 0) → cmpI a b ≤ 0
  | [], [], _, _ => by rw [cmpI_refl]; omega
  | [], _ :: _, h, _ => by simp at h
  | _ :: _, [], h, _ => by simp at h
  | x :: a, y :: b, hl, h => by
    have h0 : x ≤ y := h 0 (by simp) fun i hi => by omega
    rw [cmpI]
    split
    · omega
    · split
      · omega
      · refine cmp_le_of a b (by simpa using hl) fun j hj hi => ?_
        refine h (j + 1) (by simpa using hj) fun i hi2 => ?_
        cases i with
        | zero => show x = y; omega
        | succ i => exact hi i (by omega)
/-- what is known of the names -/
structure Nms (k : Nat) (xs : List Int) (n : Nat) : Prop where
  ext : ∃ h ∈ symL k, ∀ c, c < k → 0 ≤ (fcS xs n).1.1.getD c 0 → h.getD c 0 = (fcS xs n).1.1.getD c 0
  all : ∀ v : Int, 0 ≤ v → v < (fcS xs n).1.2 → ∃ i, i < n ∧ (fcS xs n).2.getD i 0 = v
theorem nms {xs : List Int} {k : Nat} (hx : ColP xs) (h1 : 1 ≤ k) (h4 : k ≤ 4) (hb : ∀ i, i < xs.length → xs.getD i 0 < (k : Int)) (n : Nat) (hn : n ≤ xs.length) : Nms k xs n := by
  have I := fcI xs hx.1 n hn
  have J := fcJ xs hx.1 n hn
  have hpos : ∀ c, c < 4 → 0 ≤ (fcS xs n).1.1.getD c 0 → ∃ i, i < n ∧ xs.getD i 0 = (c : Int) := fun c hc h0 => by
    apply Classical.byContradiction
    intro hne
    have := (I.fr c hc).2 fun i hi e => hne ⟨i, hi, e⟩
    omega
  have hl4 := I.l4
  have hnm := I.nm
  have hcnt := J.cnt
  generalize hs : fcS xs n = s at *
  obtain ⟨⟨names, most⟩, out⟩ := s
  dsimp only at *
  have hinj : ∀ c, c < 4 → ∀ d, d < 4 → 0 ≤ names.getD c 0 → names.getD c 0 = names.getD d 0 → c = d := J.inj
  have hc4 : cntN names ≤ 4 := by rw [← hl4]; exact List.length_filter_le _ _
  have hv : validN k names = true := by
    unfold validN
    simp only [List.all_eq_true, List.mem_range, Bool.and_eq_true, Bool.or_eq_true, decide_eq_true_eq]
    refine fun c hc => ⟨?_, fun d hd => ?_⟩
    · by_cases h0 : names.getD c 0 < 0
      · exact .inl h0
      · obtain ⟨i, hi, e⟩ := hpos c hc (by omega)
        have := hb i (by omega)
        have := hnm c hc
        exact .inr ⟨by omega, by omega⟩
    · by_cases h0 : names.getD c 0 < 0
      · exact .inl h0
      · refine .inr fun e => ?_
        have := hinj c hc d (by omega) (by omega) e.symm
        omega
  obtain ⟨a, b, c, d, rfl⟩ : ∃ a b c d : Int, names = [a, b, c, d] := by
    match names, hl4 with
    | [a, b, c, d], _ => exact ⟨a, b, c, d, rfl⟩
  have ha := hnm 0 (by omega)
  have hb' := hnm 1 (by omega)
  have hc' := hnm 2 (by omega)
  have hd := hnm 3 (by omega)
  change -1 ≤ a ∧ a < most at ha
  change -1 ≤ b ∧ b < most at hb'
  change -1 ≤ c ∧ c < most at hc'
  change -1 ≤ d ∧ d < most at hd
  have hE := ext_all k (by omega) h1 (a + 1).toNat (by omega) (b + 1).toNat (by omega) (c + 1).toNat (by omega) (d + 1).toNat (by omega)
  rw [show (((a + 1).toNat : Nat) : Int) - 1 = a by omega, show (((b + 1).toNat : Nat) : Int) - 1 = b by omega, show (((c + 1).toNat : Nat) : Int) - 1 = c by omega, show (((d + 1).toNat : Nat) : Int) - 1 = d by omega] at hE
  unfold extOk at hE
  rw [hv] at hE
  simp only [Bool.not_true, Bool.false_or, Bool.and_eq_true, List.any_eq_true, List.all_eq_true, List.mem_range, Bool.or_eq_true, decide_eq_true_eq, List.contains_iff_mem] at hE
  obtain ⟨⟨h, hh, he⟩, hall⟩ := hE
  refine ⟨⟨h, hh, fun c' hc'' h0 => ?_⟩, fun v h0 hv2 => ?_⟩
  · rw [hs] at h0 ⊢
    dsimp only at h0 ⊢
    rcases he c' hc'' with h2 | h2
    · omega
    · exact h2
  · rw [hs] at hv2 ⊢
    dsimp only at hv2 ⊢
    have hm := hall v.toNat (by omega)
    rw [Int.toNat_of_nonneg h0] at hm
    obtain ⟨e, he4, hev⟩ := List.getElem_of_mem hm
    have hev : [a, b, c, d].getD e 0 = v := by rw [getD_get _ _ _ he4]; exact hev
    have he4' : e < 4 := he4
    obtain ⟨i, hi, hxi⟩ := hpos e he4' (by omega)
    refine ⟨i, hi, ?_⟩
    rw [J.ob i hi, hxi, Int.toNat_natCast]; exact hev
/-- some exchange makes the first colors -/
theorem first_ex {xs : List Int} {k : Nat} (hx : ColP xs) (h1 : 1 ≤ k) (h4 : k ≤ 4) (hb : ∀ i, i < xs.length → xs.getD i 0 < (k : Int)) : ∃ h ∈ symL k, exL xs h = firstL xs := by
  have I := fcI xs hx.1 xs.length (Nat.le_refl _)
  have J := fcJ xs hx.1 xs.length (Nat.le_refl _)
  obtain ⟨h, hh, he⟩ := (nms hx h1 h4 hb xs.length (Nat.le_refl _)).ext
  refine ⟨h, hh, ext_getD 0 (by rw [exL_len, firstL_len xs hx]) fun i hi => ?_⟩
  rw [exL_len] at hi
  have h0 := hx.1 i hi
  have h2 := hb i hi
  have h3 := J.ob i hi
  have h5 := I.ob i hi
  rw [exL_at _ _ _ hi, he _ (by omega) (by omega)]
  exact h3.symm
/-- no exchange makes less -/
theorem first_le {xs h : List Int} {k : Nat} (hx : ColP xs) (h1 : 1 ≤ k) (h4 : k ≤ 4) (hb : ∀ i, i < xs.length → xs.getD i 0 < (k : Int)) (hP : PermP h) (hl : h.length = k) : cmpI (firstL xs) (exL xs h) ≤ 0 := by
  refine cmp_le_of _ _ (by rw [exL_len, firstL_len xs hx]) fun j hj hi => ?_
  rw [firstL_len xs hx] at hj
  have I := fcI xs hx.1 j (by omega)
  have J := fcJ xs hx.1 j (by omega)
  have N := nms hx h1 h4 hb j (by omega)
  have hpre : ∀ i, i < j → (firstL xs).getD i 0 = (fcS xs j).2.getD i 0 := fun i hij => by
    rw [firstL_at hx (by omega), fcS_pre xs i j hij fun m hm => (fcI xs hx.1 m (by omega)).lo]
  have hxj := hx.1 j hj
  have hbj := hb j hj
  obtain ⟨c, hc⟩ : ∃ c : Nat, xs.getD j 0 = c := ⟨(xs.getD j 0).toNat, by omega⟩
  have hc4 : c < 4 := by omega
  have hhc := (hP.2 c (by omega)).1
  have hlo := I.lo
  rw [firstL_at hx hj, exL_at _ _ _ hj, hc, Int.toNat_natCast]
  have hex : ∀ i, i < j → (fcS xs j).2.getD i 0 = h.getD (xs.getD i 0).toNat 0 := fun i hij => by
    have := hi i hij
    rw [hpre i hij, exL_at _ _ _ (by omega)] at this
    exact this
  by_cases h0 : (fcS xs j).1.1.getD c 0 < 0
  · rw [fcS_new xs j c hc h0]
    dsimp only
    rw [L_app_r _ _ _ _ (by omega), hlo, Nat.sub_self]
    show (List.set _ c _).getD c 0 ≤ _
    rw [L_set_self _ _ _ _ (by rw [I.l4]; exact hc4)]
    apply Classical.byContradiction
    intro hlt
    obtain ⟨i, hij, hv⟩ := N.all (h.getD c 0) hhc.1 (by omega)
    rw [hex i hij] at hv
    have h2 := hx.1 i (by omega)
    have h3 := hb i (by omega)
    have := perm_inj hP (i := (xs.getD i 0).toNat) (j := c) (by omega) (by omega) (by rw [hv])
    exact (I.fr c hc4).1 h0 i hij (by omega)
  · rw [fcS_old xs j c hc h0]
    dsimp only
    rw [L_app_r _ _ _ _ (by omega), hlo, Nat.sub_self]
    show (fcS xs j).1.1.getD c 0 ≤ _
    obtain ⟨i, hij, e⟩ : ∃ i, i < j ∧ xs.getD i 0 = (c : Int) := by
      apply Classical.byContradiction
      intro hne
      exact h0 ((I.fr c hc4).2 fun i hi e => hne ⟨i, hi, e⟩)
    have h2 := J.ob i hij
    have h3 := hex i hij
    rw [e, Int.toNat_natCast] at h2 h3
    omega
theorem idP (k : Nat) (h1 : 1 ≤ k) (h4 : k ≤ 4) : PermP (idL k) ∧ (idL k).length = k := by
  have := (by decide : ∀ k, k < 5 → 1 ≤ k → permB (idL k) = true ∧ (idL k).length = k) k (by omega) h1
  exact ⟨(permB_iff _).1 this.1, this.2⟩
theorem idL_at (n k : Nat) (h : k < n) : (idL n).getD k 0 = (k : Int) := by
  rw [getD_get _ _ _ (by simp [idL]; exact h)]; simp [idL]
theorem exL_id {xs : List Int} {k : Nat} (hx : ColP xs) (hb : ∀ i, i < xs.length → xs.getD i 0 < (k : Int)) : exL xs (idL k) = xs := by
  refine ext_getD 0 (exL_len _ _) fun i hi => ?_
  rw [exL_len] at hi
  have h0 := hx.1 i hi
  have h2 := hb i hi
  rw [exL_at _ _ _ hi, idL_at _ _ (by omega)]
  omega
/-- the colorings that are carried: what is asked of the group and of the coloring -/
structure CxP (g : List (List Int)) (k : Nat) (xs : List Int) : Prop where
  g : ∀ i, i < g.length → PermP (g.getD i []) ∧ (g.getD i []).length = xs.length
  x : ColP xs
  h1 : 1 ≤ k
  h4 : k ≤ 4
  b : ∀ i, i < xs.length → xs.getD i 0 < (k : Int)
theorem sym_get {k : Nat} (h1 : 1 ≤ k) (h4 : k ≤ 4) {j : Nat} (hj : j < (symL k).length) : PermP ((symL k).getD j []) ∧ ((symL k).getD j []).length = k := by
  rw [getD_get _ _ _ hj]
  exact (sym_ok k (by omega) h1).el _ (List.getElem_mem hj)
theorem first_le2 {g : List (List Int)} {k : Nat} {xs : List Int} (H : CxP g k xs) {i : Nat} (hi : i < g.length) {q : List Int} (hq : PermP q) (hl : q.length = k) : cmpI (firstL (actL (g.getD i []) xs)) (actL (g.getD i []) (exL xs q)) ≤ 0 := by
  obtain ⟨h1, h2⟩ := H.g i hi
  rw [← act_exL h1 h2]
  exact first_le (act_col h1 h2 H.x) H.h1 H.h4 (act_all h1 h2 (fun z => z < (k : Int)) H.b) hq hl
theorem cex_same {g : List (List Int)} {k : Nat} {xs : List Int} (H : CxP g k xs) : cexS g (symL k) xs = cexL g xs := by
  have hS : ∀ h ∈ symL k, cmpI (cexS g (symL k) xs) (canL g (exL xs h)) ≤ 0 := fun h hh => by
    obtain ⟨j, hj, e⟩ := List.getElem_of_mem hh
    have := bst_le (fun h => canL g (exL xs h)) xs (symL k) (symL k).length j hj
    rw [getD_get _ _ _ hj, e] at this
    exact this
  have hid := idP k H.h1 H.h4
  have hfx := first_le H.x H.h1 H.h4 H.b hid.1 hid.2
  rw [exL_id H.x H.b] at hfx
  have h0 : cmpI (cexL g xs) (firstL xs) ≤ 0 := bst_le0 _ _ _ _
  refine leI_anti ?_ ?_
  · rcases bst_mem (fun p => firstL (actL p xs)) (firstL xs) g g.length with h | ⟨i, hi, h⟩
    · obtain ⟨q, hq, e⟩ := first_ex H.x H.h1 H.h4 H.b
      rw [show cexL g xs = firstL xs from h, ← e]
      exact leI_trans (hS q hq) (bst_le0 _ _ _ _)
    · obtain ⟨h1, h2⟩ := H.g i hi
      obtain ⟨q, hq, e⟩ := first_ex (act_col h1 h2 H.x) H.h1 H.h4 (act_all h1 h2 (fun z => z < (k : Int)) H.b)
      rw [show cexL g xs = firstL (actL (g.getD i []) xs) from h, ← e, act_exL h1 h2]
      exact leI_trans (hS q hq) (bst_le (fun p => actL p (exL xs q)) (exL xs q) g g.length i hi)
  · rcases bst_mem (fun h => canL g (exL xs h)) xs (symL k) (symL k).length with h | ⟨j, hj, h⟩
    · rw [show cexS g (symL k) xs = xs from h]
      exact leI_trans h0 hfx
    · obtain ⟨hq, hql⟩ := sym_get H.h1 H.h4 hj
      rw [show cexS g (symL k) xs = canL g (exL xs ((symL k).getD j [])) from h]
      rcases bst_mem (fun p => actL p (exL xs ((symL k).getD j []))) (exL xs ((symL k).getD j [])) g g.length with h | ⟨i, hi, h⟩
      · rw [show canL g (exL xs ((symL k).getD j [])) = exL xs ((symL k).getD j []) from h]
        exact leI_trans h0 (first_le H.x H.h1 H.h4 H.b hq hql)
      · rw [show canL g (exL xs ((symL k).getD j [])) = actL (g.getD i []) (exL xs ((symL k).getD j [])) from h]
        exact leI_trans (bst_le (fun p => firstL (actL p xs)) (firstL xs) g g.length i hi) (first_le2 H hi hq hql)
theorem cex_canon {g : List (List Int)} {k : Nat} {xs : List Int} (H : CxP g k xs) (h : cexL g xs = xs) : canL g xs = xs := by
  refine leI_anti (bst_le0 _ _ _ _) ?_
  rcases bst_mem (fun p => actL p xs) xs g g.length with e | ⟨i, hi, e⟩
  · rw [show canL g xs = xs from e, cmpI_refl]; omega
  · rw [show canL g xs = actL (g.getD i []) xs from e]
    have hid := idP k H.h1 H.h4
    have h2 := first_le2 H hi hid.1 hid.2
    rw [exL_id H.x H.b] at h2
    have h3 := bst_le (fun p => firstL (actL p xs)) (firstL xs) g g.length i hi
    change cmpI (cexL g xs) _ ≤ 0 at h3
    rw [h] at h3
    exact leI_trans h3 h2
end Go.Proofs.Ytbnonelkdgkpdaa
/-
  Burnside's count over lists: no program in sight.
-/
namespace Go.Proofs.Ytbnonelkdgkpdaa
def sumL {α : Type} (f : α → Nat) : List α → Nat
  | [] => 0
  | x :: l => f x + sumL f l
theorem sumL_congr {α : Type} {f g : α → Nat} : ∀ {l : List α}, (∀ x ∈ l, f x = g x) → sumL f l = sumL g l
  | [], _ => rfl
  | x :: l, h => by rw [sumL, sumL, h x (List.mem_cons_self ..), sumL_congr fun y hy => h y (List.mem_cons_of_mem _ hy)]
theorem sumL_const {α : Type} (n : Nat) : ∀ l : List α, sumL (fun _ => n) l = l.length * n
  | [] => by simp [sumL]
  | x :: l => by rw [sumL, sumL_const n l, List.length_cons, Nat.succ_mul]; omega
theorem sumL_add {α : Type} (f g : α → Nat) : ∀ l, sumL (fun x => f x + g x) l = sumL f l + sumL g l
  | [] => rfl
  | x :: l => by rw [sumL, sumL, sumL, sumL_add f g l]; omega
theorem sumL_count {α : Type} (p : α → Bool) : ∀ l : List α, sumL (fun x => if p x = true then 1 else 0) l = l.countP p
  | [] => rfl
  | x :: l => by rw [sumL, sumL_count p l, List.countP_cons]; omega
/-- what is counted twice -/
theorem sumL_swap {α β : Type} (R : α → β → Bool) (X : List β) : ∀ A : List α, sumL (fun a => X.countP (R a)) A = sumL (fun x => A.countP fun a => R a x) X
  | [] => by
    rw [sumL_congr (f := fun x => ([] : List α).countP fun a => R a x) (g := fun _ => 0) (fun x _ => rfl), sumL_const]
    simp [sumL]
  | a :: A => by
    rw [sumL, sumL_swap R X A, ← sumL_count, ← sumL_add]
    refine sumL_congr fun x _ => ?_
    rw [List.countP_cons]; omega
theorem nd_le {α : Type} [DecidableEq α] : ∀ (l1 l2 : List α), l1.Nodup → (∀ x ∈ l1, x ∈ l2) → l1.length ≤ l2.length
  | [], l2, _, _ => Nat.zero_le _
  | x :: l1, l2, h, hs => by
    have h1 := List.nodup_cons.1 h
    have hx := hs x (List.mem_cons_self ..)
    have := nd_le l1 (l2.erase x) h1.2 fun y hy => by
      refine (List.mem_erase_of_ne ?_).2 (hs y (List.mem_cons_of_mem _ hy))
      intro e; exact h1.1 (e ▸ hy)
    rw [List.length_erase_of_mem hx] at this
    have : 0 < l2.length := List.length_pos_of_mem hx
    rw [List.length_cons]; omega
theorem nd_map {α β : Type} (f : α → β) : ∀ (l : List α), l.Nodup → (∀ x ∈ l, ∀ y ∈ l, f x = f y → x = y) → (l.map f).Nodup
  | [], _, _ => List.nodup_nil
  | x :: l, h, hi => by
    have h1 := List.nodup_cons.1 h
    rw [List.map_cons, List.nodup_cons]
    refine ⟨fun hm => ?_, nd_map f l h1.2 fun a ha b hb => hi a (List.mem_cons_of_mem _ ha) b (List.mem_cons_of_mem _ hb)⟩
    obtain ⟨y, hy, e⟩ := List.mem_map.1 hm
    have := hi y (List.mem_cons_of_mem _ hy) x (List.mem_cons_self ..) e
    exact h1.1 (this ▸ hy)
/-- elements that act on things -/
structure ActP {α β : Type} (A : List α) (X : List β) (act : α → β → β) (mul : α → α → α) (e : α) : Prop where
  nd : X.Nodup
  ax : ∀ a ∈ A, ∀ x ∈ X, act a x ∈ X
  mm : ∀ a ∈ A, ∀ x ∈ X, ∀ p ∈ A, act p (act a x) = act (mul a p) x
  tr : ∀ a ∈ A, (A.map (mul a)).Perm A
  e1 : e ∈ A
  e2 : ∀ x ∈ X, act e x = x
section
variable {α β : Type} [DecidableEq β] {A : List α} {X : List β} {act : α → β → β} {mul : α → α → α} {e : α}
/-- the first thing that x is carried to -/
def firstC (A : List α) (X : List β) (act : α → β → β) (x : β) : β := (X.find? fun y => A.any fun a => decide (act a x = y)).getD x
theorem first_ok (h : ActP A X act mul e) {x : β} (hx : x ∈ X) : firstC A X act x ∈ X ∧ ∃ a ∈ A, act a x = firstC A X act x := by
  unfold firstC
  cases hf : X.find? fun y => A.any fun a => decide (act a x = y) with
  | none =>
    exfalso
    have := List.find?_eq_none.1 hf x hx
    apply this
    rw [List.any_eq_true]
    exact ⟨e, h.e1, decide_eq_true (h.e2 x hx)⟩
  | some y =>
    have h1 := List.mem_of_find?_eq_some hf
    have h2 := List.find?_some hf
    rw [List.any_eq_true] at h2
    obtain ⟨a, ha, hy⟩ := h2
    exact ⟨h1, a, ha, of_decide_eq_true hy⟩
theorem first_act (h : ActP A X act mul e) {x : β} (hx : x ∈ X) {p : α} (hp : p ∈ A) : firstC A X act (act p x) = firstC A X act x := by
  have e1 : (fun y => A.any fun a => decide (act a (act p x) = y)) = fun y => A.any fun a => decide (act a x = y) := by
    funext y
    rw [Bool.eq_iff_iff, List.any_eq_true, List.any_eq_true]
    constructor
    · rintro ⟨a, ha, h1⟩
      have h1 := of_decide_eq_true h1
      refine ⟨mul p a, (h.tr p hp).mem_iff.1 (List.mem_map_of_mem ha), decide_eq_true ?_⟩
      rw [← h.mm p hp x hx a ha]; exact h1
    · rintro ⟨a, ha, h1⟩
      have h1 := of_decide_eq_true h1
      obtain ⟨b, hb, rfl⟩ := List.mem_map.1 ((h.tr p hp).mem_iff.2 ha)
      refine ⟨b, hb, decide_eq_true ?_⟩
      rw [h.mm p hp x hx b hb]; exact h1
  have h2 := first_ok h hx
  unfold firstC at h2 ⊢
  rw [e1]
  cases hf : X.find? fun y => A.any fun a => decide (act a x = y) with
  | none =>
    exfalso
    have := List.find?_eq_none.1 hf x hx
    apply this
    rw [List.any_eq_true]
    exact ⟨e, h.e1, decide_eq_true (h.e2 x hx)⟩
  | some y => rfl
theorem first_first (h : ActP A X act mul e) {x : β} (hx : x ∈ X) : firstC A X act (firstC A X act x) = firstC A X act x := by
  obtain ⟨_, a, ha, e1⟩ := first_ok h hx
  rw [← e1, first_act h hx ha, e1]
/-- how many things are the first in their orbit -/
def firstN (A : List α) (X : List β) (act : α → β → β) : Nat := X.countP fun x => decide (firstC A X act x = x)
theorem orbit_count (h : ActP A X act mul e) {p : α} (hp : p ∈ A) : X.countP (fun x => decide (act p (firstC A X act x) = x)) = firstN A X act := by
  unfold firstN
  rw [List.countP_eq_length_filter, List.countP_eq_length_filter]
  refine Nat.le_antisymm ?_ ?_
  · have hn : ((X.filter fun x => decide (act p (firstC A X act x) = x)).map (firstC A X act)).Nodup := nd_map _ _ (h.nd.sublist List.filter_sublist) fun x hx y hy e1 => by
      have h1 := of_decide_eq_true (List.mem_filter.1 hx).2
      have h2 := of_decide_eq_true (List.mem_filter.1 hy).2
      rw [← h1, ← h2, e1]
    have := nd_le _ (X.filter fun x => decide (firstC A X act x = x)) hn fun z hz => by
      obtain ⟨x, hx, rfl⟩ := List.mem_map.1 hz
      have hx := (List.mem_filter.1 hx).1
      exact List.mem_filter.2 ⟨(first_ok h hx).1, decide_eq_true (first_first h hx)⟩
    rwa [List.length_map] at this
  · have hn : ((X.filter fun x => decide (firstC A X act x = x)).map (act p)).Nodup := nd_map _ _ (h.nd.sublist List.filter_sublist) fun x hx y hy e1 => by
      obtain ⟨a1, a2⟩ := List.mem_filter.1 hx
      obtain ⟨b1, b2⟩ := List.mem_filter.1 hy
      have a2 := of_decide_eq_true a2
      have b2 := of_decide_eq_true b2
      rw [← a2, ← b2, ← first_act h a1 hp, ← first_act h b1 hp, e1]
    have := nd_le _ (X.filter fun x => decide (act p (firstC A X act x) = x)) hn fun z hz => by
      obtain ⟨x, hx, rfl⟩ := List.mem_map.1 hz
      obtain ⟨a1, a2⟩ := List.mem_filter.1 hx
      have a2 := of_decide_eq_true a2
      refine List.mem_filter.2 ⟨h.ax p hp x a1, decide_eq_true ?_⟩
      rw [first_act h a1 hp, a2]
    rwa [List.length_map] at this
theorem stab_count (h : ActP A X act mul e) {x : β} (hx : x ∈ X) : A.countP (fun p => decide (act p x = x)) = A.countP fun p => decide (act p (firstC A X act x) = x) := by
  obtain ⟨_, a, ha, e1⟩ := first_ok h hx
  rw [← e1]
  have h1 : A.countP (fun p => decide (act p (act a x) = x)) = A.countP (fun p => decide (act (mul a p) x = x)) := by
    refine List.countP_congr fun p hp => ?_
    rw [h.mm a ha x hx p hp]
  rw [h1]
  have h2 := (h.tr a ha).countP_eq fun p => decide (act p x = x)
  rw [← h2, List.countP_map]
  rfl
/-- Burnside: the kept things, summed over the elements, are as many as the elements times the orbits -/
theorem burnside (h : ActP A X act mul e) : sumL (fun p => X.countP fun x => decide (act p x = x)) A = A.length * firstN A X act := by
  rw [sumL_swap (fun p x => decide (act p x = x)) X A]
  rw [sumL_congr (g := fun x => A.countP fun p => decide (act p (firstC A X act x) = x)) fun x hx => stab_count h hx]
  rw [← sumL_swap (fun p x => decide (act p (firstC A X act x) = x)) X A]
  rw [sumL_congr (g := fun _ => firstN A X act) fun p hp => orbit_count h hp, sumL_const]
end
end Go.Proofs.Ytbnonelkdgkpdaa
/-
  Plain facts about the cycles of permutations: no program in sight.
-/
namespace Go.Proofs.Ytbnonelkdgkpdaa
open Go Go.Proofs.Ytbnonelkdgkpdaa.Ow
/-- how many are not met -/
def cnF (met : List Bool) : Nat := met.count false
theorem cnF_set : ∀ (met : List Bool) (x : Nat), x < met.length → met.getD x false = false → cnF (met.set x true) + 1 = cnF met
  | [], x, h, _ => by simp at h
  | b :: l, 0, _, h => by
    obtain rfl : b = false := h
    simp [cnF]
  | b :: l, x + 1, h, h2 => by
    have := cnF_set l x (by simpa using h) h2
    simp only [cnF, List.set_cons_succ, List.count_cons] at this ⊢
    omega
/-- from x on, until a point is met again -/
def walkC (xs : List Int) : Nat → List Bool → List Int → Nat → List Bool × List Int
  | 0, met, c, _ => (met, c)
  | f + 1, met, c, x => if met.getD x false = true then (met, c) else walkC xs f (met.set x true) (c ++ [(x : Int)]) (xs.getD x 0).toNat
theorem walkC_met (xs : List Int) (f : Nat) (met : List Bool) (c : List Int) (x : Nat) (h : met.getD x false = true) : walkC xs f met c x = (met, c) := by
  cases f with
  | zero => rfl
  | succ f => rw [walkC, if_pos h]
theorem walkC_not (xs : List Int) (f : Nat) (met : List Bool) (c : List Int) (x : Nat) (h : met.getD x false = false) : walkC xs (f + 1) met c x = walkC xs f (met.set x true) (c ++ [(x : Int)]) (xs.getD x 0).toNat := by
  rw [walkC, if_neg (by rw [h]; decide)]
theorem walkC_ok (xs : List Int) (hx : ∀ i, i < xs.length → 0 ≤ xs.getD i 0 ∧ xs.getD i 0 < (xs.length : Int)) : ∀ (f : Nat) (met : List Bool) (c : List Int) (x : Nat), x < xs.length → (∀ y ∈ c, 0 ≤ y ∧ y < (xs.length : Int)) →
    (walkC xs f met c x).1.length = met.length ∧ (∀ y ∈ (walkC xs f met c x).2, 0 ≤ y ∧ y < (xs.length : Int)) ∧ c.length ≤ (walkC xs f met c x).2.length ∧ (walkC xs f met c x).2.length ≤ c.length + f
  | 0, met, c, x, h, hc => ⟨rfl, hc, Nat.le_refl _, Nat.le_refl _⟩
  | f + 1, met, c, x, h, hc => by
    cases hm : met.getD x false with
    | true => rw [walkC_met _ _ _ _ _ hm]; exact ⟨rfl, hc, Nat.le_refl _, by show c.length ≤ _; omega⟩
    | false =>
      rw [walkC_not _ _ _ _ _ hm]
      have hb := hx x h
      obtain ⟨h1, h2, h3, h4⟩ := walkC_ok xs hx f (met.set x true) (c ++ [(x : Int)]) (xs.getD x 0).toNat (by omega) (fun y hy => by
        rcases List.mem_append.1 hy with hy | hy
        · exact hc y hy
        · have : y = (x : Int) := by simpa using hy
          omega)
      simp only [List.length_append, List.length_cons, List.length_nil, List.length_set] at h1 h3 h4
      exact ⟨h1, h2, by omega, by omega⟩
/-- the points met and the cycles, behind the first k points -/
def cycS (xs : List Int) : Nat → List Bool × List (List Int)
  | 0 => (List.replicate xs.length false, [])
  | k + 1 => if (cycS xs k).1.getD k false = true then cycS xs k else ((walkC xs xs.length (cycS xs k).1 [] k).1, (cycS xs k).2 ++ [(walkC xs xs.length (cycS xs k).1 [] k).2])
theorem cyc_yes (xs : List Int) (k : Nat) (h : (cycS xs k).1.getD k false = true) : cycS xs (k + 1) = cycS xs k := by rw [cycS, if_pos h]
theorem cyc_no (xs : List Int) (k : Nat) (h : (cycS xs k).1.getD k false = false) : cycS xs (k + 1) = ((walkC xs xs.length (cycS xs k).1 [] k).1, (cycS xs k).2 ++ [(walkC xs xs.length (cycS xs k).1 [] k).2]) := by
  rw [cycS, if_neg (by rw [h]; decide)]
theorem cyc_ok (xs : List Int) (hx : ∀ i, i < xs.length → 0 ≤ xs.getD i 0 ∧ xs.getD i 0 < (xs.length : Int)) : ∀ k, k ≤ xs.length → (cycS xs k).1.length = xs.length ∧ (cycS xs k).2.length ≤ k ∧
    ∀ c ∈ (cycS xs k).2, 1 ≤ c.length ∧ c.length ≤ xs.length ∧ ∀ x ∈ c, 0 ≤ x ∧ x < (xs.length : Int)
  | 0, _ => ⟨List.length_replicate .., Nat.le_refl _, fun c hc => by simp [cycS] at hc⟩
  | k + 1, hk => by
    obtain ⟨h1, h2, h3⟩ := cyc_ok xs hx k (by omega)
    cases hm : (cycS xs k).1.getD k false with
    | true => rw [cyc_yes _ _ hm]; exact ⟨h1, by omega, h3⟩
    | false =>
      rw [cyc_no _ _ hm]
      obtain ⟨w1, w2, w3, w4⟩ := walkC_ok xs hx xs.length (cycS xs k).1 [] k (by omega) (fun y hy => by simp at hy)
      refine ⟨w1.trans h1, by simp only [List.length_append, List.length_cons, List.length_nil]; omega, fun c hc => ?_⟩
      rcases List.mem_append.1 hc with hc | hc
      · exact h3 c hc
      · have : c = (walkC xs xs.length (cycS xs k).1 [] k).2 := by simpa using hc
        subst this
        refine ⟨?_, by simpa using w4, w2⟩
        obtain ⟨f, hf⟩ : ∃ f, xs.length = f + 1 := ⟨xs.length - 1, by omega⟩
        have hb := hx k (by omega)
        have := (walkC_ok xs hx f ((cycS xs k).1.set k true) ([] ++ [(k : Int)]) (xs.getD k 0).toNat (by omega) (fun y hy => by
          have : y = (k : Int) := by simpa using hy
          omega)).2.2.1
        rw [← walkC_not xs f _ _ _ hm, ← hf] at this
        exact this
/-- the cycles of a permutation -/
def cycL (xs : List Int) : List (List Int) := (cycS xs xs.length).2
/-- the first k cycles as text -/
def fcyS (l : List (List Int)) : Nat → List UInt8
  | 0 => []
  | k + 1 => if 1 < (l.getD k []).length then fcyS l k ++ (40 :: (Lib.join ((l.getD k []).map fmtI) [32] ++ [41])) else fcyS l k
def fmtC (xs : List Int) : List UInt8 := if permB xs = true then (if fcyS (cycL xs) (cycL xs).length = [] then [40, 41] else fcyS (cycL xs) (cycL xs).length) else []
end Go.Proofs.Ytbnonelkdgkpdaa
/-
  Plain facts about the cycles of a permutation: they part the points, and each is closed.
-/
namespace Go.Proofs.Ytbnonelkdgkpdaa
open Go Go.Proofs.Ytbnonelkdgkpdaa.Ow
/-- the cycles found so far -/
structure CyP (p : List Int) (cs : List (List Int)) : Prop where
  ne : ∀ c ∈ cs, c ≠ []
  nd : cs.flatten.Nodup
  b : ∀ x ∈ cs.flatten, 0 ≤ x ∧ x < (p.length : Int)
  ch : ∀ c ∈ cs, ∀ t, t + 1 < c.length → c.getD (t + 1) 0 = p.getD (c.getD t 0).toNat 0
  bk : ∀ c ∈ cs, p.getD (c.getD (c.length - 1) 0).toNat 0 = c.getD 0 0
/-- on the way along a cycle -/
structure WkP (p : List Int) (cs : List (List Int)) (k : Nat) (met : List Bool) (c : List Int) (x : Nat) : Prop where
  l : met.length = p.length
  m : ∀ y, y < p.length → (met.getD y false = true ↔ ((y : Int) ∈ cs.flatten ∨ (y : Int) ∈ c))
  nd : c.Nodup
  dj : ∀ y ∈ c, y ∉ cs.flatten
  b : ∀ y ∈ c, 0 ≤ y ∧ y < (p.length : Int)
  ch : ∀ t, t + 1 < c.length → c.getD (t + 1) 0 = p.getD (c.getD t 0).toNat 0
  x1 : x < p.length
  st : (c = [] ∧ x = k) ∨ (c ≠ [] ∧ c.getD 0 0 = (k : Int) ∧ (x : Int) = p.getD (c.getD (c.length - 1) 0).toNat 0)
theorem gdl (l r : List Int) {j : Nat} (h : j < l.length) : (l ++ r).getD j 0 = l.getD j 0 := by
  rw [List.getD_eq_getElem?_getD, List.getElem?_append_left h, List.getD_eq_getElem?_getD]
theorem gdr (l : List Int) (x : Int) : (l ++ [x]).getD l.length 0 = x := by
  rw [List.getD_eq_getElem?_getD, List.getElem?_append_right (Nat.le_refl _)]; simp
theorem wk_step {p : List Int} (hP : PermP p) {cs : List (List Int)} {k : Nat} {met : List Bool} {c : List Int} {x : Nat} (h : WkP p cs k met c x) (hm : met.getD x false = false) :
    WkP p cs k (met.set x true) (c ++ [(x : Int)]) (p.getD x 0).toNat := by
  have hx := h.x1
  have hpx := (hP.2 x hx).1
  have hno : ¬ ((x : Int) ∈ cs.flatten ∨ (x : Int) ∈ c) := fun e => by rw [(h.m x hx).2 e] at hm; cases hm
  refine ⟨by rw [List.length_set]; exact h.l, fun y hy => ?_, ?_, fun y hy => ?_, fun y hy => ?_, fun t ht => ?_, by omega, .inr ⟨by simp, ?_, ?_⟩⟩
  · by_cases e : x = y
    · subst e
      rw [List.getD_eq_getElem?_getD, List.getElem?_set, if_pos rfl, if_pos (by rw [h.l]; exact hx)]
      simp
    · rw [List.getD_eq_getElem?_getD, List.getElem?_set, if_neg e, ← List.getD_eq_getElem?_getD, h.m y hy, List.mem_append, List.mem_singleton]
      constructor
      · rintro (h1 | h1)
        · exact .inl h1
        · exact .inr (.inl h1)
      · rintro (h1 | h1 | h1)
        · exact .inl h1
        · exact .inr h1
        · exact (e (by omega)).elim
  · rw [List.nodup_append]
    refine ⟨h.nd, by simp, fun a ha b hb e => ?_⟩
    rw [List.mem_singleton.1 hb] at e
    subst e
    exact hno (.inr ha)
  · rcases List.mem_append.1 hy with hy | hy
    · exact h.dj y hy
    · rw [List.mem_singleton.1 hy]; exact fun e => hno (.inl e)
  · rcases List.mem_append.1 hy with hy | hy
    · exact h.b y hy
    · rw [List.mem_singleton.1 hy]; omega
  · rw [List.length_append, List.length_singleton] at ht
    by_cases h1 : t + 1 < c.length
    · rw [gdl _ _ h1, gdl _ _ (by omega)]; exact h.ch t h1
    · have e : t + 1 = c.length := by omega
      rw [gdl c _ (show t < c.length by omega), e, gdr]
      rcases h.st with ⟨h2, _⟩ | ⟨_, _, h2⟩
      · rw [h2] at e; simp at e
      · rw [h2, show c.length - 1 = t by omega]
  · rcases h.st with ⟨h2, h3⟩ | ⟨h2, h3, _⟩
    · rw [h2, h3]; rfl
    · rw [gdl _ _ (List.length_pos_iff.2 h2)]; exact h3
  · rw [List.length_append, List.length_singleton, Nat.add_sub_cancel, gdr, Int.toNat_natCast]
    omega
theorem wk_ok {p : List Int} (hP : PermP p) {cs : List (List Int)} {k : Nat} : ∀ (f : Nat) (met : List Bool) (c : List Int) (x : Nat), WkP p cs k met c x → cnF met ≤ f →
    ∃ x', WkP p cs k (walkC p f met c x).1 (walkC p f met c x).2 x' ∧ (walkC p f met c x).1.getD x' false = true
  | 0, met, c, x, h, hf => by
    refine ⟨x, h, ?_⟩
    cases hm : met.getD x false with
    | true => exact hm
    | false =>
      have := cnF_set met x (by rw [h.l]; exact h.x1) hm
      omega
  | f + 1, met, c, x, h, hf => by
    cases hm : met.getD x false with
    | true => rw [walkC_met _ _ _ _ _ hm]; exact ⟨x, h, hm⟩
    | false =>
      rw [walkC_not _ _ _ _ _ hm]
      have := cnF_set met x (by rw [h.l]; exact h.x1) hm
      exact wk_ok hP f _ _ _ (wk_step hP h hm) (by omega)
theorem mem_at {c : List Int} {y : Int} (h : y ∈ c) : ∃ t, t < c.length ∧ c.getD t 0 = y := by
  obtain ⟨t, ht, e⟩ := List.getElem_of_mem h
  exact ⟨t, ht, by rw [getD_get _ _ _ ht]; exact e⟩
theorem at_mem {c : List Int} {t : Nat} (h : t < c.length) : c.getD t 0 ∈ c := by rw [getD_get _ _ _ h]; exact List.getElem_mem _
/-- what is met has been reached from what is met -/
theorem cy_pre {p : List Int} {cs : List (List Int)} (h : CyP p cs) {y : Int} (hy : y ∈ cs.flatten) : ∃ z ∈ cs.flatten, p.getD z.toNat 0 = y := by
  obtain ⟨c, hc, hyc⟩ := List.mem_flatten.1 hy
  obtain ⟨t, ht, rfl⟩ := mem_at hyc
  cases t with
  | zero => exact ⟨c.getD (c.length - 1) 0, List.mem_flatten.2 ⟨c, hc, at_mem (by omega)⟩, h.bk c hc⟩
  | succ t => exact ⟨c.getD t 0, List.mem_flatten.2 ⟨c, hc, at_mem (by omega)⟩, (h.ch c hc t ht).symm⟩
theorem nd_at {c : List Int} (h : c.Nodup) {s t : Nat} (hs : s < c.length) (ht : t < c.length) (e : c.getD s 0 = c.getD t 0) : s = t := by
  rw [getD_get _ _ _ hs, getD_get _ _ _ ht] at e
  rw [List.nodup_iff_pairwise_ne, List.pairwise_iff_getElem] at h
  rcases Nat.lt_trichotomy s t with h1 | h1 | h1
  · exact (h s t hs ht h1 e).elim
  · exact h1
  · exact (h t s ht hs h1 e.symm).elim
/-- a walk that has ended has come back -/
theorem wk_end {p : List Int} (hP : PermP p) {cs : List (List Int)} (hC : CyP p cs) {k : Nat} {met : List Bool} {c : List Int} {x : Nat} (h : WkP p cs k met c x) (hc : c ≠ []) (hm : met.getD x false = true) : x = k := by
  rcases h.st with ⟨h2, _⟩ | ⟨_, h3, h4⟩
  · exact (hc h2).elim
  have hl : 0 < c.length := List.length_pos_iff.2 hc
  have hlast : c.getD (c.length - 1) 0 ∈ c := at_mem (by omega)
  have hlb := h.b _ hlast
  rcases (h.m x h.x1).1 hm with h5 | h5
  · obtain ⟨z, hz, e⟩ := cy_pre hC h5
    have hzb := hC.b z hz
    have := perm_inj hP (i := z.toNat) (j := (c.getD (c.length - 1) 0).toNat) (by omega) (by omega) (by rw [e, ← h4])
    have e2 : z = c.getD (c.length - 1) 0 := by omega
    rw [e2] at hz
    exact (h.dj _ hlast hz).elim
  · obtain ⟨t, ht, e⟩ := mem_at h5
    cases t with
    | zero => rw [h3] at e; omega
    | succ t =>
      have htb := h.b _ (at_mem (show t < c.length by omega))
      have e1 := h.ch t ht
      rw [e] at e1
      have := perm_inj hP (i := (c.getD t 0).toNat) (j := (c.getD (c.length - 1) 0).toNat) (by omega) (by omega) (by rw [← e1, ← h4])
      have := nd_at h.nd (show t < c.length by omega) (show c.length - 1 < c.length by omega) (by omega)
      omega
/-- the state behind the first k points -/
structure CsP (p : List Int) (k : Nat) (s : List Bool × List (List Int)) : Prop where
  c : CyP p s.2
  l : s.1.length = p.length
  m : ∀ y, y < p.length → (s.1.getD y false = true ↔ (y : Int) ∈ s.2.flatten)
  u : ∀ y, y < k → y < p.length → s.1.getD y false = true
theorem cs_ok {p : List Int} (hP : PermP p) : ∀ k, k ≤ p.length → CsP p k (cycS p k)
  | 0, _ => by
    refine ⟨⟨fun c hc => by simp [cycS] at hc, by simp [cycS], fun x hx => by simp [cycS] at hx, fun c hc => by simp [cycS] at hc, fun c hc => by simp [cycS] at hc⟩, by simp [cycS], fun y hy => ?_, fun y hy => by omega⟩
    simp [cycS, List.getD_eq_getElem?_getD, List.getElem?_replicate, hy]
  | k + 1, hk => by
    have ih := cs_ok hP k (by omega)
    cases hm : (cycS p k).1.getD k false with
    | true =>
      rw [cyc_yes _ _ hm]
      refine ⟨ih.c, ih.l, ih.m, fun y hy hl => ?_⟩
      rcases Nat.lt_or_eq_of_le (show y ≤ k by omega) with h1 | h1
      · exact ih.u y h1 hl
      · rw [h1]; exact hm
    | false =>
      rw [cyc_no _ _ hm]
      have h0 : WkP p (cycS p k).2 k (cycS p k).1 [] k := ⟨ih.l, fun y hy => by rw [ih.m y hy]; simp, List.nodup_nil, fun y hy => by simp at hy, fun y hy => by simp at hy, fun t ht => by simp at ht, by omega, .inl ⟨rfl, rfl⟩⟩
      obtain ⟨n, hn⟩ : ∃ n, p.length = n + 1 := ⟨p.length - 1, by omega⟩
      have hcn : cnF (cycS p k).1 ≤ p.length := by rw [← ih.l]; exact List.count_le_length
      have e1 : walkC p p.length (cycS p k).1 [] k = walkC p n ((cycS p k).1.set k true) ([] ++ [(k : Int)]) (p.getD k 0).toNat := by rw [hn, walkC_not _ _ _ _ _ hm]
      have hcs := cnF_set (cycS p k).1 k (by rw [ih.l]; omega) hm
      obtain ⟨x', hw, hx'⟩ := wk_ok hP n _ _ _ (wk_step hP h0 hm) (by omega)
      rw [← e1] at hw hx'
      generalize walkC p p.length (cycS p k).1 [] k = W at hw hx'
      have hne : W.2 ≠ [] := by
        rintro e
        rcases hw.st with ⟨_, h2⟩ | ⟨h2, _⟩
        · have := (hw.m x' hw.x1).1 hx'
          rw [e] at this
          rcases this with h3 | h3
          · rw [h2] at h3
            rw [(ih.m k (by omega)).2 h3] at hm; cases hm
          · simp at h3
        · exact h2 e
      have hend := wk_end hP ih.c hw hne hx'
      have hst : W.2.getD 0 0 = (k : Int) ∧ (x' : Int) = p.getD (W.2.getD (W.2.length - 1) 0).toNat 0 := by
        rcases hw.st with ⟨h2, _⟩ | ⟨_, h2, h3⟩
        · exact (hne h2).elim
        · exact ⟨h2, h3⟩
      have hmem : ∀ y : Int, y ∈ ((cycS p k).2 ++ [W.2]).flatten ↔ (y ∈ (cycS p k).2.flatten ∨ y ∈ W.2) := fun y => by
        rw [List.flatten_append, List.mem_append]; simp
      have hkW : (k : Int) ∈ W.2 := by rw [← hst.1]; exact at_mem (List.length_pos_iff.2 hne)
      refine ⟨⟨fun c hc => ?_, ?_, fun x hx => ?_, fun c hc => ?_, fun c hc => ?_⟩, hw.l, fun y hy => by rw [hw.m y hy, hmem], fun y hy hl => ?_⟩
      · rcases List.mem_append.1 hc with hc | hc
        · exact ih.c.ne c hc
        · rw [List.mem_singleton.1 hc]; exact hne
      · rw [List.flatten_append, List.nodup_append]
        refine ⟨ih.c.nd, by simpa using hw.nd, fun a ha b hb e => ?_⟩
        simp at hb
        subst e
        exact hw.dj a hb ha
      · rcases (hmem x).1 hx with hx | hx
        · exact ih.c.b x hx
        · exact hw.b x hx
      · rcases List.mem_append.1 hc with hc | hc
        · exact ih.c.ch c hc
        · rw [List.mem_singleton.1 hc]; exact hw.ch
      · rcases List.mem_append.1 hc with hc | hc
        · exact ih.c.bk c hc
        · rw [List.mem_singleton.1 hc, ← hst.2, hend, hst.1]
      · rw [hw.m y hl]
        rcases Nat.lt_or_eq_of_le (show y ≤ k by omega) with h1 | h1
        · exact .inl ((ih.m y hl).1 (ih.u y h1 hl))
        · rw [h1]; exact .inr hkW
/-- the cycles part the points -/
theorem cyc_parts {p : List Int} (hP : PermP p) : CyP p (cycL p) ∧ ∀ y, y < p.length → (y : Int) ∈ (cycL p).flatten := by
  have h := cs_ok hP p.length (Nat.le_refl _)
  exact ⟨h.c, fun y hy => (h.m y hy).1 (h.u y hy hy)⟩
end Go.Proofs.Ytbnonelkdgkpdaa
/-
  Plain facts about all words of a length in their order: no program in sight.
-/
namespace Go.Proofs.Ytbnonelkdgkpdaa
open Go Go.Proofs.Ytbnonelkdgkpdaa.Ow
/-- word number i of n letters of k colors -/
def wrdN (k : Nat) : Nat → Nat → List Int
  | 0, _ => []
  | n + 1, i => wrdN k n (i / k) ++ [((i % k : Nat) : Int)]
def wordsL (k : Nat) : Nat → List (List Int)
  | 0 => [[]]
  | n + 1 => (wordsL k n).flatMap fun w => (List.range k).map fun (x : Nat) => w ++ [(x : Int)]
theorem wrdN_len (k : Nat) : ∀ n i, (wrdN k n i).length = n
  | 0, _ => rfl
  | n + 1, i => by simp [wrdN, wrdN_len k n]
theorem wrdN_get (k : Nat) (hk : 0 < k) : ∀ n i j, j < n → 0 ≤ (wrdN k n i).getD j 0 ∧ (wrdN k n i).getD j 0 < (k : Int)
  | 0, _, j, h => by omega
  | n + 1, i, j, h => by
    rw [wrdN]
    by_cases e : j < n
    · rw [L_app_l _ _ _ _ (by rw [wrdN_len]; exact e)]; exact wrdN_get k hk n _ j e
    · rw [L_app_r _ _ _ _ (by rw [wrdN_len]; omega), wrdN_len, show j - n = 0 by omega]
      have := Nat.mod_lt i hk
      show 0 ≤ ((i % k : Nat) : Int) ∧ ((i % k : Nat) : Int) < (k : Int)
      omega
theorem range_mul (k : Nat) : ∀ m, List.range (m * k) = (List.range m).flatMap fun q => (List.range k).map fun r => q * k + r
  | 0 => by simp
  | m + 1 => by rw [Nat.succ_mul, List.range_add, range_mul k m, List.range_succ, List.flatMap_append]; simp
theorem wordsL_eq (k : Nat) : ∀ n, wordsL k n = (List.range (k ^ n)).map (wrdN k n)
  | 0 => rfl
  | n + 1 => by
    rw [wordsL, wordsL_eq k n, Nat.pow_succ, range_mul, List.map_flatMap, List.flatMap_map]
    congr 1
    funext q
    rw [List.map_map]
    refine List.map_congr_left fun r hr => ?_
    have hr := List.mem_range.1 hr
    show wrdN k n q ++ [(r : Int)] = wrdN k n ((q * k + r) / k) ++ [(((q * k + r) % k : Nat) : Int)]
    rw [show (q * k + r) / k = q by rw [Nat.mul_comm, Nat.mul_add_div (by omega), Nat.div_eq_of_lt hr]; rfl, show (q * k + r) % k = r by rw [Nat.mul_comm, Nat.mul_add_mod, Nat.mod_eq_of_lt hr]]
theorem wordsL_len (k n : Nat) : (wordsL k n).length = k ^ n := by rw [wordsL_eq]; simp
theorem wordsL_get (k n i : Nat) (h : i < k ^ n) : (wordsL k n).getD i [] = wrdN k n i := by
  rw [wordsL_eq, getD_get _ _ _ (by simpa using h)]; simp
/-- one more, from the last letter on -/
def nxtF (k : Int) (l : List Int) : Nat → List Int × Bool
  | 0 => (l, false)
  | i + 1 => if l.getD i 0 < k - 1 then (l.set i (l.getD i 0 + 1), true) else nxtF k (l.set i 0) i
theorem nxtF_app (k : Int) (t : List Int) : ∀ (n : Nat) (w : List Int), n ≤ w.length → nxtF k (w ++ t) n = ((nxtF k w n).1 ++ t, (nxtF k w n).2)
  | 0, w, _ => rfl
  | n + 1, w, h => by
    rw [nxtF, nxtF, L_app_l _ _ _ _ (by omega)]
    split
    · rw [List.set_append_left _ _ (by omega)]
    · rw [List.set_append_left _ _ (by omega), nxtF_app k t n _ (by rw [List.length_set]; omega)]
theorem nxt_wrd (k : Nat) (hk : 0 < k) : ∀ n i, i < k ^ n → (nxtF (k : Int) (wrdN k n i) n).2 = decide (i + 1 < k ^ n) ∧ (i + 1 < k ^ n → (nxtF (k : Int) (wrdN k n i) n).1 = wrdN k n (i + 1))
  | 0, i, h => by
    simp at h; subst h
    exact ⟨rfl, fun h => by simp at h⟩
  | n + 1, i, h => by
    have hm := Nat.mod_lt i hk
    have hdm := Nat.div_add_mod i k
    have hq : i / k < k ^ n := by rw [Nat.div_lt_iff_lt_mul hk, ← Nat.pow_succ]; exact h
    have eN : nxtF (k : Int) (wrdN k (n + 1) i) (n + 1) = if ((i % k : Nat) : Int) < (k : Int) - 1 then ((wrdN k n (i / k) ++ [((i % k : Nat) : Int)]).set n (((i % k : Nat) : Int) + 1), true) else nxtF (k : Int) ((wrdN k n (i / k) ++ [((i % k : Nat) : Int)]).set n 0) n := by
      rw [wrdN, nxtF, L_app_r _ _ _ _ (by rw [wrdN_len]; exact Nat.le_refl _), wrdN_len, Nat.sub_self]; rfl
    rw [eN]
    by_cases hd : i % k + 1 < k
    · have e1 : (i + 1) / k = i / k := by
        rw [← hdm, Nat.add_assoc, Nat.mul_add_div hk, Nat.div_eq_of_lt hd, Nat.mul_add_div hk, Nat.div_eq_of_lt hm]
      have e2 : (i + 1) % k = i % k + 1 := by
        conv => lhs; rw [← hdm, Nat.add_assoc, Nat.mul_add_mod, Nat.mod_eq_of_lt hd]
      have hlt : i + 1 < k ^ (n + 1) := by
        have h2 : (i + 1) / k < k ^ n := by rw [e1]; exact hq
        rwa [Nat.div_lt_iff_lt_mul hk, ← Nat.pow_succ] at h2
      have hc : (((i % k : Nat) : Int)) < (k : Int) - 1 := by omega
      rw [if_pos hc]
      refine ⟨by simp [hlt], fun _ => ?_⟩
      dsimp only
      rw [wrdN, e1, e2, List.set_append_right _ _ (by rw [wrdN_len]; exact Nat.le_refl _), wrdN_len, Nat.sub_self]
      rfl
    · have hd2 : i % k = k - 1 := by omega
      have e0 : i + 1 = k * (i / k + 1) := by rw [Nat.mul_add, Nat.mul_one]; omega
      have e1 : (i + 1) / k = i / k + 1 := by rw [e0, Nat.mul_div_cancel_left _ hk]
      have e2 : (i + 1) % k = 0 := by rw [e0, Nat.mul_mod_right]
      have hc : ¬ (((i % k : Nat) : Int)) < (k : Int) - 1 := by omega
      have es : (wrdN k n (i / k) ++ [((i % k : Nat) : Int)]).set n 0 = wrdN k n (i / k) ++ [0] := by
        rw [List.set_append_right _ _ (by rw [wrdN_len]; exact Nat.le_refl _), wrdN_len, Nat.sub_self]; rfl
      rw [if_neg hc, es, nxtF_app _ _ _ _ (by rw [wrdN_len]; exact Nat.le_refl _)]
      obtain ⟨g1, g2⟩ := nxt_wrd k hk n (i / k) hq
      have hiff : i + 1 < k ^ (n + 1) ↔ i / k + 1 < k ^ n := by
        rw [Nat.pow_succ, ← Nat.div_lt_iff_lt_mul hk, e1]
      refine ⟨by dsimp only; rw [g1]; simp [hiff], fun h2 => ?_⟩
      dsimp only
      rw [wrdN, e1, e2, g2 (hiff.1 h2)]; rfl
/-- the word that is left when there is no next one is not looked at; the first word has only the first letter -/
theorem wrdN_zero (k : Nat) : ∀ n, wrdN k n 0 = List.replicate n 0
  | 0 => rfl
  | n + 1 => by rw [wrdN, Nat.zero_div, wrdN_zero k n, Nat.zero_mod, List.replicate_succ']; rfl
/-- the words kept -/
def kptL (P : List Int → Bool) (k n i : Nat) : List (List Int) := ((List.range i).map (wrdN k n)).filter P
theorem kpt_yes (P : List Int → Bool) (k n i : Nat) (h : P (wrdN k n i) = true) : kptL P k n (i + 1) = kptL P k n i ++ [wrdN k n i] := by
  unfold kptL; rw [List.range_succ, List.map_append, List.filter_append]; simp [h]
theorem kpt_no (P : List Int → Bool) (k n i : Nat) (h : ¬ P (wrdN k n i) = true) : kptL P k n (i + 1) = kptL P k n i := by
  unfold kptL; rw [List.range_succ, List.map_append, List.filter_append]; simp [h]
theorem kpt_len (P : List Int → Bool) (k n i : Nat) : (kptL P k n i).length ≤ i := by
  unfold kptL; exact Nat.le_trans (List.length_filter_le _ _) (by simp)
end Go.Proofs.Ytbnonelkdgkpdaa
/-
  Plain facts about counting by exchanged colors: no program in sight.
-/
namespace Go.Proofs.Ytbnonelkdgkpdaa
open Go Go.Proofs.Ytbnonelkdgkpdaa.Ow
/-- how many of the first j points are carried to themselves -/
def fixN (x : List Int) : Nat → Nat
  | 0 => 0
  | j + 1 => if x.getD j 0 = (j : Int) then fixN x j + 1 else fixN x j
theorem fixN_le (x : List Int) : ∀ j, fixN x j ≤ j
  | 0 => Nat.le_refl _
  | j + 1 => by
    have := fixN_le x j
    rw [fixN]; split <;> omega
def powL (h : List Int) : Nat → List Int
  | 0 => idL h.length
  | c + 1 => exL (powL h c) h
theorem powL_ok (h : List Int) (hh : ∀ i, i < h.length → 0 ≤ h.getD i 0 ∧ h.getD i 0 < (h.length : Int)) : ∀ c, (powL h c).length = h.length ∧ ∀ i, i < (powL h c).length → 0 ≤ (powL h c).getD i 0 ∧ (powL h c).getD i 0 < (h.length : Int)
  | 0 => by
    refine ⟨by simp [powL, idL], fun i hi => ?_⟩
    have hi2 : i < h.length := by simpa [powL, idL] using hi
    rw [getD_get _ _ _ hi]
    simp only [powL, idL, List.getElem_map, List.getElem_range]
    omega
  | c + 1 => by
    have ih := powL_ok h hh c
    have hl : (powL h (c + 1)).length = h.length := by rw [powL, exL_len]; exact ih.1
    refine ⟨hl, fun i hi => ?_⟩
    have hb := ih.2 i (by omega)
    have e : (powL h (c + 1)).getD i 0 = h.getD ((powL h c).getD i 0).toNat 0 := by
      have hi2 : i < (powL h c).length := by omega
      rw [getD_get (powL h (c + 1)) i 0 hi, getD_get (powL h c) i 0 hi2]
      simp only [powL, exL, List.getElem_map]
    rw [e]
    exact hh _ (by omega)
def kepN (h : List Int) (c : Nat) : Nat := fixN (powL h c) h.length
def prdN (h : List Int) (cs : List (List Int)) : Nat → Nat
  | 0 => 1
  | j + 1 => prdN h cs j * kepN h (cs.getD j []).length
theorem prdN_le (h : List Int) (cs : List (List Int)) (hl : h.length ≤ 4) : ∀ j, prdN h cs j ≤ 4 ^ j
  | 0 => Nat.le_refl _
  | j + 1 => by
    rw [prdN, Nat.pow_succ]
    exact Nat.mul_le_mul (prdN_le h cs hl j) (Nat.le_trans (fixN_le _ _) hl)
def sumH (p : List Int) (S : List (List Int)) : Nat → Nat
  | 0 => 0
  | b + 1 => sumH p S b + prdN (S.getD b []) (cycL p) (cycL p).length
def sumG (g S : List (List Int)) : Nat → Nat
  | 0 => 0
  | a + 1 => sumG g S a + sumH (g.getD a []) S S.length
theorem prdN_le2 (h : List Int) (cs : List (List Int)) (hl : h.length ≤ 4) (hc : cs.length ≤ 10) (j : Nat) (hj : j ≤ cs.length) : prdN h cs j ≤ 1048576 :=
  Nat.le_trans (prdN_le h cs hl j) (Nat.le_trans (Nat.pow_le_pow_right (by decide) (show j ≤ 10 by omega)) (by decide))
theorem sumH_le (p : List Int) (S : List (List Int)) (hS : ∀ b, b < S.length → (S.getD b []).length ≤ 4) (hc : (cycL p).length ≤ 10) : ∀ b, b ≤ S.length → sumH p S b ≤ b * 1048576
  | 0, _ => by simp [sumH]
  | b + 1, hb => by
    have h1 := sumH_le p S hS hc b (by omega)
    have h2 := prdN_le2 (S.getD b []) (cycL p) (hS b (by omega)) hc (cycL p).length (Nat.le_refl _)
    rw [sumH]; omega
theorem sumG_le (g S : List (List Int)) (hS : ∀ b, b < S.length → (S.getD b []).length ≤ 4) (hl : S.length ≤ 120) (hc : ∀ a, a < g.length → (cycL (g.getD a [])).length ≤ 10) : ∀ a, a ≤ g.length → sumG g S a ≤ a * (120 * 1048576)
  | 0, _ => by simp [sumG]
  | a + 1, ha => by
    have h1 := sumG_le g S hS hl hc a (by omega)
    have h2 := sumH_le (g.getD a []) S hS (hc a (by omega)) S.length (Nat.le_refl _)
    rw [sumG]; omega
end Go.Proofs.Ytbnonelkdgkpdaa
/-
  Plain facts: how many words a permutation of the places and of the letters keeps.
-/
namespace Go.Proofs.Ytbnonelkdgkpdaa
open Go Go.Proofs.Ytbnonelkdgkpdaa.Ow
theorem mem_words (k : Nat) : ∀ (n : Nat) (w : List Int), w ∈ wordsL k n ↔ w.length = n ∧ ∀ x ∈ w, 0 ≤ x ∧ x < (k : Int)
  | 0, w => by
    rw [wordsL, List.mem_singleton]
    constructor
    · rintro rfl; exact ⟨rfl, fun x hx => by simp at hx⟩
    · rintro ⟨h, _⟩; exact List.eq_nil_of_length_eq_zero h
  | n + 1, w => by
    rw [wordsL, List.mem_flatMap]
    constructor
    · rintro ⟨v, hv, hw⟩
      obtain ⟨x, hx, rfl⟩ := List.mem_map.1 hw
      obtain ⟨h1, h2⟩ := (mem_words k n v).1 hv
      refine ⟨by rw [List.length_append, h1]; rfl, fun y hy => ?_⟩
      rcases List.mem_append.1 hy with hy | hy
      · exact h2 y hy
      · have := List.mem_range.1 hx
        rw [List.mem_singleton.1 hy]; omega
    · rintro ⟨h1, h2⟩
      have hb := h2 (w.getD n 0) (at_mem (by omega))
      have e := L_succ w n 0 (by omega)
      rw [List.take_of_length_le (by omega)] at e
      refine ⟨w.take n, (mem_words k n _).2 ⟨by rw [List.length_take]; omega, fun x hx => h2 x (List.mem_of_mem_take hx)⟩, List.mem_map.2 ⟨(w.getD n 0).toNat, List.mem_range.2 (by omega), ?_⟩⟩
      rw [show (((w.getD n 0).toNat : Nat) : Int) = w.getD n 0 by omega, ← e]
theorem wrdN_inj (k : Nat) : ∀ (n i j : Nat), i < k ^ n → j < k ^ n → wrdN k n i = wrdN k n j → i = j
  | 0, i, j, hi, hj, _ => by simp at hi hj; omega
  | n + 1, i, j, hi, hj, h => by
    rw [wrdN, wrdN] at h
    have hl : (wrdN k n (i / k)).length = (wrdN k n (j / k)).length := by rw [wrdN_len, wrdN_len]
    obtain ⟨h1, h2⟩ := List.append_inj h hl
    have hk : 0 < k := by
      rcases Nat.eq_zero_or_pos k with h0 | h0
      · subst h0; simp at hi
      · exact h0
    have hd : ∀ i, i < k ^ (n + 1) → i / k < k ^ n := fun i hi => Nat.div_lt_of_lt_mul (by rw [Nat.mul_comm, ← Nat.pow_succ]; exact hi)
    have e1 := wrdN_inj k n (i / k) (j / k) (hd i hi) (hd j hj) h1
    have e2 : i % k = j % k := by simp at h2; omega
    rw [← Nat.div_add_mod i k, ← Nat.div_add_mod j k, e1, e2]
theorem words_nodup (k n : Nat) : (wordsL k n).Nodup := by
  rw [wordsL_eq]
  exact nd_map _ _ List.nodup_range fun i hi j hj e => wrdN_inj k n i j (List.mem_range.1 hi) (List.mem_range.1 hj) e
/-! ### choices -/
def cart : List (List Int) → List (List Int)
  | [] => [[]]
  | L :: Ls => L.flatMap fun x => (cart Ls).map fun v => x :: v
def prL : List Nat → Nat
  | [] => 1
  | x :: l => x * prL l
theorem prL_app : ∀ l r, prL (l ++ r) = prL l * prL r
  | [], r => by rw [List.nil_append, prL, Nat.one_mul]
  | x :: l, r => by rw [List.cons_append, prL, prL, prL_app l r, Nat.mul_assoc]
theorem cart_len : ∀ Ls : List (List Int), (cart Ls).length = prL (Ls.map List.length)
  | [] => rfl
  | L :: Ls => by
    rw [cart, List.map_cons, prL, ← cart_len Ls]
    have : ∀ l : List Int, (l.flatMap fun x => (cart Ls).map fun v => x :: v).length = l.length * (cart Ls).length := by
      intro l
      induction l with
      | nil => simp
      | cons x l ih => rw [List.flatMap_cons, List.length_append, ih, List.length_map, List.length_cons, Nat.succ_mul]; omega
    exact this L
theorem mem_cart : ∀ (Ls : List (List Int)) (v : List Int), v ∈ cart Ls ↔ v.length = Ls.length ∧ ∀ j, j < Ls.length → v.getD j 0 ∈ Ls.getD j []
  | [], v => by
    rw [cart, List.mem_singleton]
    constructor
    · rintro rfl; exact ⟨rfl, fun j hj => by simp at hj⟩
    · rintro ⟨h, _⟩; exact List.eq_nil_of_length_eq_zero h
  | L :: Ls, v => by
    rw [cart, List.mem_flatMap]
    constructor
    · rintro ⟨x, hx, hv⟩
      obtain ⟨u, hu, rfl⟩ := List.mem_map.1 hv
      obtain ⟨h1, h2⟩ := (mem_cart Ls u).1 hu
      refine ⟨by rw [List.length_cons, h1, List.length_cons], fun j hj => ?_⟩
      cases j with
      | zero => exact hx
      | succ j => exact h2 j (by simpa using hj)
    · rintro ⟨h1, h2⟩
      match v, h1, h2 with
      | x :: u, h1, h2 =>
        refine ⟨x, h2 0 (by simp), List.mem_map.2 ⟨u, (mem_cart Ls u).2 ⟨by simpa using h1, fun j hj => ?_⟩, rfl⟩⟩
        exact h2 (j + 1) (by simpa using hj)
theorem cart_nodup : ∀ Ls : List (List Int), (∀ L ∈ Ls, L.Nodup) → (cart Ls).Nodup
  | [], _ => by simp [cart]
  | L :: Ls, h => by
    have ih := cart_nodup Ls fun M hM => h M (List.mem_cons_of_mem _ hM)
    have hL := h L (List.mem_cons_self ..)
    rw [cart]
    have : ∀ l : List Int, l.Nodup → (l.flatMap fun x => (cart Ls).map fun v => x :: v).Nodup := by
      intro l
      induction l with
      | nil => intro _; simp
      | cons x l ih2 =>
        intro hl
        have h1 := List.nodup_cons.1 hl
        rw [List.flatMap_cons, List.nodup_append]
        refine ⟨nd_map _ _ ih fun a _ b _ e => (List.cons.inj e).2, ih2 h1.2, fun a ha b hb e => ?_⟩
        obtain ⟨u, _, rfl⟩ := List.mem_map.1 ha
        obtain ⟨y, hy, hb⟩ := List.mem_flatMap.1 hb
        obtain ⟨w, _, rfl⟩ := List.mem_map.1 hb
        have := (List.cons.inj e).1
        subst this
        exact h1.1 hy
    exact this L hL
/-- places in parts that are apart -/
theorem part_uniq : ∀ (cs : List (List Int)), cs.flatten.Nodup → ∀ j j' t t', j < cs.length → j' < cs.length → t < (cs.getD j []).length → t' < (cs.getD j' []).length → (cs.getD j []).getD t 0 = (cs.getD j' []).getD t' 0 → j = j' ∧ t = t'
  | [], _, j, j', t, t', hj, _, _, _, _ => by simp at hj
  | c :: cs, h, j, j', t, t', hj, hj', ht, ht', e => by
    rw [List.flatten_cons, List.nodup_append] at h
    obtain ⟨h1, h2, h3⟩ := h
    cases j with
    | zero =>
      cases j' with
      | zero => exact ⟨rfl, nd_at h1 ht ht' e⟩
      | succ j' =>
        have hm : cs.getD j' [] ∈ cs := by rw [getD_get _ _ _ (show j' < cs.length by simpa using hj')]; exact List.getElem_mem _
        exact (h3 _ (at_mem (c := c) ht) _ (List.mem_flatten.2 ⟨_, hm, at_mem ht'⟩) e).elim
    | succ j =>
      cases j' with
      | zero =>
        have hm : cs.getD j [] ∈ cs := by rw [getD_get _ _ _ (show j < cs.length by simpa using hj)]; exact List.getElem_mem _
        exact (h3 _ (at_mem (c := c) ht') _ (List.mem_flatten.2 ⟨_, hm, at_mem ht⟩) e.symm).elim
      | succ j' =>
        have := part_uniq cs h2 j j' t t' (by simpa using hj) (by simpa using hj') ht ht' e
        exact ⟨by omega, this.2⟩
/-! ### kept words -/
/-- p moves the places, h the letters, and the word stays -/
def KeptP (p h w : List Int) : Prop := ∀ i, i < p.length → w.getD (p.getD i 0).toNat 0 = h.getD (w.getD i 0).toNat 0
/-- letters that h keeps, m times over -/
def keepL (h : List Int) (m : Nat) : List Int := ((List.range h.length).filter fun x => decide ((powL h m).getD x 0 = (x : Int))).map fun (x : Nat) => (x : Int)
theorem keepL_len (h : List Int) (m : Nat) : (keepL h m).length = kepN h m := by
  have key : ∀ y : List Int, ∀ j, ((List.range j).filter fun x => decide (y.getD x 0 = (x : Int))).length = fixN y j := by
    intro y j
    induction j with
    | zero => rfl
    | succ j ih =>
      rw [List.range_succ, List.filter_append, List.length_append, ih, fixN]
      by_cases e : y.getD j 0 = (j : Int)
      · rw [if_pos e, List.filter_cons, if_pos (decide_eq_true e)]; rfl
      · rw [if_neg e, List.filter_cons, if_neg (by rw [decide_eq_false e]; decide)]; rfl
  rw [keepL, List.length_map, key, kepN]
theorem mem_keep {h : List Int} {m : Nat} {x : Int} : x ∈ keepL h m ↔ (0 ≤ x ∧ x < (h.length : Int)) ∧ (powL h m).getD x.toNat 0 = x := by
  unfold keepL
  rw [List.mem_map]
  constructor
  · rintro ⟨y, hy, rfl⟩
    obtain ⟨h1, h2⟩ := List.mem_filter.1 hy
    have h1 := List.mem_range.1 h1
    refine ⟨by omega, ?_⟩
    rw [Int.toNat_natCast]; exact of_decide_eq_true h2
  · rintro ⟨h1, h2⟩
    exact ⟨x.toNat, List.mem_filter.2 ⟨List.mem_range.2 (by omega), decide_eq_true (by rw [h2]; omega)⟩, by omega⟩
theorem keepL_nodup (h : List Int) (m : Nat) : (keepL h m).Nodup := nd_map _ _ (List.nodup_range.sublist List.filter_sublist) fun x _ y _ e => by omega
theorem prd_prL (h : List Int) (cs : List (List Int)) : ∀ j, j ≤ cs.length → prdN h cs j = prL (((cs.take j).map fun c => keepL h c.length).map List.length)
  | 0, _ => rfl
  | j + 1, hj => by
    rw [prdN, prd_prL h cs j (by omega), L_succ cs j [] (by omega), List.map_append, List.map_append, prL_app]
    show _ = _ * (((keepL h (cs.getD j []).length).length) * 1)
    rw [keepL_len, Nat.mul_one]
/-- the letters of h, valid -/
def ValP (h : List Int) : Prop := ∀ i, i < h.length → 0 ≤ h.getD i 0 ∧ h.getD i 0 < (h.length : Int)
theorem pow_at {h : List Int} (hh : ValP h) (m : Nat) {x : Nat} (hx : x < h.length) : 0 ≤ (powL h m).getD x 0 ∧ (powL h m).getD x 0 < (h.length : Int) := by
  have := powL_ok h hh m
  exact this.2 x (by omega)
theorem pow_s {h : List Int} (hh : ValP h) (m : Nat) {x : Nat} (hx : x < h.length) : (powL h (m + 1)).getD x 0 = h.getD ((powL h m).getD x 0).toNat 0 := by
  have := (powL_ok h hh m).1
  rw [powL, exL_at _ _ _ (by omega)]
theorem pow_0 (h : List Int) {x : Nat} (hx : x < h.length) : (powL h 0).getD x 0 = (x : Int) := by
  rw [powL, idL_at _ _ hx]
/-- a kept word along a cycle -/
theorem kept_cyc {p h w : List Int} (hh : ValP h) {cs : List (List Int)} (hC : CyP p cs) (hl : w.length = p.length) (hw : ∀ i, i < w.length → 0 ≤ w.getD i 0 ∧ w.getD i 0 < (h.length : Int)) (hk : KeptP p h w) {c : List Int} (hc : c ∈ cs) :
    ∀ t, t < c.length → w.getD (c.getD t 0).toNat 0 = (powL h t).getD (w.getD (c.getD 0 0).toNat 0).toNat 0
  | 0, ht => by
    have hb := hC.b _ (List.mem_flatten.2 ⟨c, hc, at_mem ht⟩)
    have := hw (c.getD 0 0).toNat (by omega)
    rw [pow_0 h (by omega)]; omega
  | t + 1, ht => by
    have hb0 := hC.b _ (List.mem_flatten.2 ⟨c, hc, at_mem (show 0 < c.length by omega)⟩)
    have hb := hC.b _ (List.mem_flatten.2 ⟨c, hc, at_mem (show t < c.length by omega)⟩)
    have h0 := hw (c.getD 0 0).toNat (by omega)
    rw [hC.ch c hc t ht, hk (c.getD t 0).toNat (by omega), kept_cyc hh hC hl hw hk hc t (by omega), pow_s hh t (by omega)]
def headsL (cs : List (List Int)) (w : List Int) : List Int := cs.map fun c => w.getD (c.getD 0 0).toNat 0
theorem heads_at (cs : List (List Int)) (w : List Int) {j : Nat} (hj : j < cs.length) : (headsL cs w).getD j 0 = w.getD ((cs.getD j []).getD 0 0).toNat 0 := by
  have hl : (headsL cs w).length = cs.length := List.length_map ..
  rw [getD_get _ _ _ (show j < (headsL cs w).length by omega), getD_get _ _ _ hj]
  exact List.getElem_map ..
theorem cs_mem {cs : List (List Int)} {j : Nat} (hj : j < cs.length) : cs.getD j [] ∈ cs := by rw [getD_get _ _ _ hj]; exact List.getElem_mem _
theorem place_of {cs : List (List Int)} {x : Int} (h : x ∈ cs.flatten) : ∃ j t, j < cs.length ∧ t < (cs.getD j []).length ∧ (cs.getD j []).getD t 0 = x := by
  obtain ⟨c, hc, hx⟩ := List.mem_flatten.1 h
  obtain ⟨j, hj, e⟩ := List.getElem_of_mem hc
  obtain ⟨t, ht, e2⟩ := mem_at hx
  have e3 : cs.getD j [] = c := by rw [getD_get _ _ _ hj]; exact e
  exact ⟨j, t, hj, by rw [e3]; exact ht, by rw [e3]; exact e2⟩
theorem words_b {k n : Nat} {w : List Int} (h : w ∈ wordsL k n) : w.length = n ∧ ∀ i, i < w.length → 0 ≤ w.getD i 0 ∧ w.getD i 0 < (k : Int) := by
  obtain ⟨h1, h2⟩ := (mem_words k n w).1 h
  exact ⟨h1, fun i hi => h2 _ (at_mem hi)⟩
def optL (h : List Int) (cs : List (List Int)) : List (List Int) := cs.map fun c => keepL h c.length
theorem opt_at (h : List Int) (cs : List (List Int)) {j : Nat} (hj : j < cs.length) : (optL h cs).getD j [] = keepL h (cs.getD j []).length := by
  have hl : (optL h cs).length = cs.length := List.length_map ..
  rw [getD_get _ _ _ (show j < (optL h cs).length by omega), getD_get _ _ _ hj]
  exact List.getElem_map ..
theorem heads_in {p h w : List Int} (hP : PermP p) (hh : ValP h) (hw : w ∈ wordsL h.length p.length) (hk : KeptP p h w) : headsL (cycL p) w ∈ cart (optL h (cycL p)) := by
  obtain ⟨hC, hall⟩ := cyc_parts hP
  obtain ⟨hl, hb⟩ := words_b hw
  refine (mem_cart _ _).2 ⟨by rw [headsL, optL, List.length_map, List.length_map], fun j hj => ?_⟩
  have hj : j < (cycL p).length := by rw [optL, List.length_map] at hj; exact hj
  have hc := cs_mem hj
  rw [heads_at _ _ hj, opt_at _ _ hj, mem_keep]
  generalize (cycL p).getD j [] = c at hc
  have hl0 : 0 < c.length := List.length_pos_iff.2 (hC.ne c hc)
  have hb0 := hC.b _ (List.mem_flatten.2 ⟨c, hc, at_mem hl0⟩)
  have hx := hb (c.getD 0 0).toNat (by omega)
  refine ⟨hx, ?_⟩
  have hbl := hC.b _ (List.mem_flatten.2 ⟨c, hc, at_mem (show c.length - 1 < c.length by omega)⟩)
  have h1 := hk (c.getD (c.length - 1) 0).toNat (by omega)
  rw [hC.bk c hc, kept_cyc hh hC hl hb hk hc (c.length - 1) (by omega), ← pow_s hh _ (by omega), show c.length - 1 + 1 = c.length by omega] at h1
  exact h1.symm
theorem heads_inj {p h w w' : List Int} (hP : PermP p) (hh : ValP h) (hw : w ∈ wordsL h.length p.length) (hk : KeptP p h w) (hw' : w' ∈ wordsL h.length p.length) (hk' : KeptP p h w') (e : headsL (cycL p) w = headsL (cycL p) w') : w = w' := by
  obtain ⟨hC, hall⟩ := cyc_parts hP
  obtain ⟨hl, hb⟩ := words_b hw
  obtain ⟨hl', hb'⟩ := words_b hw'
  refine ext_getD 0 (by omega) fun i hi => ?_
  obtain ⟨j, t, hj, ht, e1⟩ := place_of (hall i (by omega))
  have hc := cs_mem hj
  have h1 := kept_cyc hh hC hl hb hk hc t ht
  have h2 := kept_cyc hh hC hl' hb' hk' hc t ht
  rw [e1, Int.toNat_natCast] at h1 h2
  rw [h1, h2, ← heads_at _ _ hj, ← heads_at _ _ hj, e]
theorem heads_ex {p h v : List Int} (hP : PermP p) (hh : ValP h) (hv : v ∈ cart (optL h (cycL p))) : ∃ w, w ∈ wordsL h.length p.length ∧ KeptP p h w ∧ headsL (cycL p) w = v := by
  obtain ⟨hC, hall⟩ := cyc_parts hP
  obtain ⟨hvl, hvm⟩ := (mem_cart _ _).1 hv
  have hol : (optL h (cycL p)).length = (cycL p).length := List.length_map ..
  have hvj : ∀ j, j < (cycL p).length → (0 ≤ v.getD j 0 ∧ v.getD j 0 < (h.length : Int)) ∧ (powL h ((cycL p).getD j []).length).getD (v.getD j 0).toNat 0 = v.getD j 0 := fun j hj => by
    have := hvm j (by omega)
    rw [opt_at _ _ hj, mem_keep] at this
    exact this
  obtain ⟨w, hwl, hw⟩ := exList (α := Int) p.length (fun i x => ∃ j t, j < (cycL p).length ∧ t < ((cycL p).getD j []).length ∧ ((cycL p).getD j []).getD t 0 = (i : Int) ∧ x = (powL h t).getD (v.getD j 0).toNat 0) (fun i hi => by
    obtain ⟨j, t, hj, ht, e⟩ := place_of (hall i hi)
    exact ⟨_, j, t, hj, ht, e, rfl⟩)
  have hval : ∀ j t, j < (cycL p).length → t < ((cycL p).getD j []).length → w.getD (((cycL p).getD j []).getD t 0).toNat 0 = (powL h t).getD (v.getD j 0).toNat 0 := fun j t hj ht => by
    have hb := hC.b _ (List.mem_flatten.2 ⟨_, cs_mem hj, at_mem ht⟩)
    have hi : (((cycL p).getD j []).getD t 0).toNat < w.length := by omega
    obtain ⟨j', t', hj', ht', e, ex⟩ := hw _ hi
    obtain ⟨rfl, rfl⟩ := part_uniq (cycL p) hC.nd j' j t' t hj' hj ht' ht (by rw [e]; omega)
    rw [getD_get _ _ _ hi, ex]
  refine ⟨w, (mem_words _ _ _).2 ⟨hwl, fun x hx => ?_⟩, fun i hi => ?_, ?_⟩
  · obtain ⟨i, hi, rfl⟩ := List.getElem_of_mem hx
    obtain ⟨j, t, hj, ht, e, ex⟩ := hw i hi
    rw [ex]
    exact pow_at hh t (by have := (hvj j hj).1; omega)
  · obtain ⟨j, t, hj, ht, e⟩ := place_of (hall i hi)
    have hvb := (hvj j hj).1
    have h1 := hval j t hj ht
    rw [e, Int.toNat_natCast] at h1
    rw [h1, ← pow_s hh t (by omega)]
    by_cases hlt : t + 1 < ((cycL p).getD j []).length
    · have h2 := hval j (t + 1) hj hlt
      rw [hC.ch _ (cs_mem hj) t hlt, e, Int.toNat_natCast] at h2
      exact h2
    · have et : t + 1 = ((cycL p).getD j []).length := by omega
      have h2 := hC.bk _ (cs_mem hj)
      rw [show ((cycL p).getD j []).length - 1 = t by omega, e, Int.toNat_natCast] at h2
      rw [h2, hval j 0 hj (by omega), pow_0 h (by omega), et, (hvj j hj).2]
      omega
  · refine ext_getD 0 (by rw [headsL, List.length_map]; omega) fun j hj => ?_
    have hj : j < (cycL p).length := by rw [headsL, List.length_map] at hj; exact hj
    have hl0 : 0 < ((cycL p).getD j []).length := List.length_pos_iff.2 (hC.ne _ (cs_mem hj))
    have hvb := (hvj j hj).1
    rw [heads_at _ _ hj, hval j 0 hj hl0, pow_0 h (by omega)]
    omega
/-- how many words are kept -/
theorem kept_count {p h : List Int} (hP : PermP p) (hh : ValP h) (q : List Int → Bool) (hq : ∀ w ∈ wordsL h.length p.length, q w = true ↔ KeptP p h w) :
    (wordsL h.length p.length).countP q = prdN h (cycL p) (cycL p).length := by
  rw [prd_prL h (cycL p) _ (Nat.le_refl _), List.take_length]
  show _ = prL ((optL h (cycL p)).map List.length)
  rw [← cart_len, List.countP_eq_length_filter]
  have hnd : ((wordsL h.length p.length).filter q).Nodup := (words_nodup _ _).sublist List.filter_sublist
  have hmem : ∀ w, w ∈ (wordsL h.length p.length).filter q → w ∈ wordsL h.length p.length ∧ KeptP p h w := fun w hw => by
    obtain ⟨h1, h2⟩ := List.mem_filter.1 hw
    exact ⟨h1, (hq w h1).1 h2⟩
  refine Nat.le_antisymm ?_ ?_
  · have hn : (((wordsL h.length p.length).filter q).map (headsL (cycL p))).Nodup := nd_map _ _ hnd fun w hw w' hw' e => heads_inj hP hh (hmem w hw).1 (hmem w hw).2 (hmem w' hw').1 (hmem w' hw').2 e
    have := nd_le _ (cart (optL h (cycL p))) hn fun z hz => by
      obtain ⟨w, hw, rfl⟩ := List.mem_map.1 hz
      exact heads_in hP hh (hmem w hw).1 (hmem w hw).2
    rwa [List.length_map] at this
  · have := nd_le _ (((wordsL h.length p.length).filter q).map (headsL (cycL p))) (cart_nodup (optL h (cycL p)) fun L hL => by
      obtain ⟨c, _, rfl⟩ := List.mem_map.1 hL
      exact keepL_nodup h c.length) fun v hv => by
      obtain ⟨w, h1, h2, h3⟩ := heads_ex hP hh hv
      exact List.mem_map.2 ⟨w, List.mem_filter.2 ⟨h1, (hq w h1).2 h2⟩, h3⟩
    rwa [List.length_map] at this
end Go.Proofs.Ytbnonelkdgkpdaa
/-
  Plain facts about groups that are found step by step, whatever the generators: no program in sight.
-/
namespace Go.Proofs.Ytbnonelkdgkpdaa
open Go Go.Proofs.Ytbnonelkdgkpdaa.Ow
/-- strictly ascending -/
def AscL (xss : List (List Int)) : Prop := xss.Pairwise fun x y => cmpI x y < 0
theorem asc_get {xss : List (List Int)} (h : AscL xss) {i j : Nat} (hij : i < j) (hj : j < xss.length) : cmpI (xss.getD i []) (xss.getD j []) < 0 := by
  rw [getD_get _ _ _ (by omega), getD_get _ _ _ hj]
  exact List.pairwise_iff_getElem.1 h i j (by omega) hj hij
theorem bsI_ok (xss : List (List Int)) (p : List Int) (h : AscL xss) : ∀ f i j, i ≤ j → j ≤ xss.length → j - i ≤ f → (∀ k, k < i → cmpI (xss.getD k []) p < 0) → (∀ k, j ≤ k → k < xss.length → ¬ cmpI (xss.getD k []) p < 0) →
    (∀ k, k < bsI xss p f i j → cmpI (xss.getD k []) p < 0) ∧ (∀ k, bsI xss p f i j ≤ k → k < xss.length → ¬ cmpI (xss.getD k []) p < 0)
  | 0, i, j, h1, h2, h3, h4, h5 => by
    obtain rfl : i = j := by omega
    exact ⟨h4, h5⟩
  | f + 1, i, j, h1, h2, h3, h4, h5 => by
    rw [bsI]
    split
    next hlt =>
      split
      next hc =>
        refine bsI_ok xss p h f _ _ (by omega) h2 (by omega) (fun k hk => ?_) h5
        rcases Nat.lt_or_eq_of_le (show k ≤ (i + j) / 2 by omega) with h6 | h6
        · exact cmpI_trans _ _ _ (asc_get h h6 (by omega)) hc
        · rw [h6]; exact hc
      next hc =>
        refine bsI_ok xss p h f _ _ (by omega) (by omega) (by omega) h4 fun k hk hl hc2 => ?_
        rcases Nat.lt_or_eq_of_le hk with h6 | h6
        · exact hc (cmpI_trans _ _ _ (asc_get h h6 hl) hc2)
        · rw [← h6] at hc2; exact hc hc2
    next hlt =>
      obtain rfl : i = j := by omega
      exact ⟨h4, h5⟩
/-- in an ascending list a list is found exactly if it is there -/
theorem findI_mem {xss : List (List Int)} (h : AscL xss) (p : List Int) : 0 ≤ findI xss p ↔ p ∈ xss := by
  obtain ⟨h1, h2⟩ := bsI_ok xss p h xss.length 0 xss.length (Nat.zero_le _) (Nat.le_refl _) (by omega) (fun k hk => by omega) (fun k hk hl => by omega)
  change (∀ k, k < bsN xss p → _) at h1
  change (∀ k, bsN xss p ≤ k → _) at h2
  unfold findI
  constructor
  · intro h3
    split at h3
    next h4 => rw [← h4.2, getD_get _ _ _ h4.1]; exact List.getElem_mem _
    next => omega
  · intro hm
    obtain ⟨k, hk, rfl⟩ := List.getElem_of_mem hm
    have hb : bsN xss xss[k] = k := by
      rcases Nat.lt_trichotomy (bsN xss xss[k]) k with h3 | h3 | h3
      · have h4 := h2 (bsN xss xss[k]) (Nat.le_refl _) (by omega)
        have h5 := asc_get h h3 hk
        rw [getD_get _ _ _ hk] at h5
        exact (h4 h5).elim
      · exact h3
      · have h4 := h1 k h3
        rw [getD_get _ _ _ hk, cmpI_refl] at h4
        omega
    rw [if_pos ⟨by rw [hb]; exact hk, by rw [hb, getD_get _ _ _ hk]⟩]
    omega
theorem putN_ok (xss : List (List Int)) (p : List Int) : ∀ f k, k ≤ xss.length → xss.length < k + f → (∀ i, i < k → cmpI (xss.getD i []) p < 0) →
    putN xss p f k ≤ xss.length ∧ (∀ i, i < putN xss p f k → cmpI (xss.getD i []) p < 0) ∧ (putN xss p f k < xss.length → ¬ cmpI (xss.getD (putN xss p f k) []) p < 0)
  | 0, k, h1, h2, h3 => by omega
  | f + 1, k, h1, h2, h3 => by
    rw [putN]
    split
    next h4 =>
      refine putN_ok xss p f (k + 1) (by omega) (by omega) fun i hi => ?_
      rcases Nat.lt_or_eq_of_le (show i ≤ k by omega) with h5 | h5
      · exact h3 i h5
      · rw [h5]; exact h4.2
    next h4 => exact ⟨h1, h3, fun h5 h6 => h4 ⟨h5, h6⟩⟩
theorem putS_asc {xss : List (List Int)} (h : AscL xss) (hl : xss.length < 200) {p : List Int} (hp : p ∉ xss) : AscL (putS xss p) := by
  obtain ⟨h1, h2, h3⟩ := putN_ok xss p 200 0 (Nat.zero_le _) (by omega) (fun i hi => by omega)
  have hlt : ∀ x ∈ xss.take (putN xss p 200 0), cmpI x p < 0 := fun x hx => by
    obtain ⟨i, hi, rfl⟩ := List.getElem_of_mem hx
    have hi2 : i < putN xss p 200 0 := by rw [List.length_take] at hi; omega
    have := h2 i hi2
    rw [getD_get _ _ _ (by omega)] at this
    rwa [List.getElem_take]
  have hge : ∀ x ∈ xss.drop (putN xss p 200 0), cmpI p x < 0 := fun x hx => by
    obtain ⟨i, hi, rfl⟩ := List.getElem_of_mem hx
    have hi2 : putN xss p 200 0 + i < xss.length := by rw [List.length_drop] at hi; omega
    rw [List.getElem_drop]
    have h4 := h3 (by omega)
    rw [getD_get _ _ _ (by omega)] at h4
    have h5 : xss[putN xss p 200 0]'(by omega) ≠ p := fun e => hp (by rw [← e]; exact List.getElem_mem _)
    have h6 := cmpI_neg (xss[putN xss p 200 0]'(by omega)) p
    have h7 : cmpI p (xss[putN xss p 200 0]'(by omega)) < 0 := by
      have : cmpI (xss[putN xss p 200 0]'(by omega)) p ≠ 0 := fun e => h5 (cmpI_eq _ _ e)
      omega
    rcases Nat.eq_zero_or_pos i with rfl | hi0
    · exact h7
    · exact cmpI_trans _ _ _ h7 (List.pairwise_iff_getElem.1 h _ _ (by omega) hi2 (by omega))
  unfold AscL putS
  rw [List.append_assoc, List.pairwise_append, List.singleton_append, List.pairwise_cons]
  refine ⟨h.sublist (List.take_sublist _ _), ⟨fun x hx => hge x hx, h.sublist (List.drop_sublist _ _)⟩, fun a ha b hb => ?_⟩
  rcases List.mem_cons.1 hb with rfl | hb
  · exact hlt a ha
  · exact cmpI_trans _ _ _ (hlt a ha) (hge b hb)
theorem putS_perm (xss : List (List Int)) (p : List Int) : (putS xss p).Perm (p :: xss) := by
  unfold putS
  rw [List.append_assoc, List.singleton_append]
  refine List.perm_middle.trans ?_
  rw [List.take_append_drop]
/-- permutations of n points -/
def PnP (n : Nat) (x : List Int) : Prop := PermP x ∧ x.length = n
theorem perm_ex {n : Nat} {x y : List Int} (hx : PnP n x) (hy : PnP n y) : PnP n (exL x y) := by
  obtain ⟨hx1, hx2⟩ := hx
  obtain ⟨hy1, hy2⟩ := hy
  have hl := exL_len x y
  refine ⟨⟨by rw [hl]; exact hx1.1, fun i hi => ?_⟩, by rw [hl]; exact hx2⟩
  rw [hl] at hi
  have h1 := (hx1.2 i hi)
  rw [exL_at _ _ _ hi]
  have h2 := (hy1.2 (x.getD i 0).toNat (by omega)).1
  refine ⟨by omega, fun j hj e => ?_⟩
  rw [exL_at _ _ _ (by omega)] at e
  have h3 := (hx1.2 j (by omega)).1
  have h4 := perm_inj hy1 (i := (x.getD j 0).toNat) (j := (x.getD i 0).toNat) (by omega) (by omega) (by rw [e])
  exact h1.2 j hj (by omega)
theorem ex_assoc {n : Nat} {x y z : List Int} (hx : PnP n x) (hy : PnP n y) : exL x (exL y z) = exL (exL x y) z := by
  refine ext_getD 0 (by rw [exL_len, exL_len, exL_len]) fun i hi => ?_
  rw [exL_len] at hi
  have h1 := (hx.1.2 i hi).1
  rw [exL_at _ _ _ hi, exL_at y z _ (by have := hx.2; have := hy.2; omega), exL_at (exL x y) z _ (by rw [exL_len]; exact hi), exL_at x y _ hi]
theorem id_perm {n : Nat} (h1 : 1 ≤ n) (h2 : n ≤ 10) : PnP n (idL n) := by
  have hl : (idL n).length = n := by simp [idL]
  refine ⟨⟨by omega, fun i hi => ?_⟩, hl⟩
  rw [idL_at n i (by omega)]
  refine ⟨by omega, fun j hj => ?_⟩
  rw [idL_at n j (by omega)]
  omega
theorem ex_id {n : Nat} {x : List Int} (hx : PnP n x) : exL x (idL n) = x := by
  refine ext_getD 0 (exL_len _ _) fun i hi => ?_
  rw [exL_len] at hi
  have h1 := (hx.1.2 i hi).1
  rw [exL_at _ _ _ hi, idL_at _ _ (by have := hx.2; omega)]
  omega
theorem id_ex {n : Nat} {x : List Int} (hx : PnP n x) : exL (idL n) x = x := by
  have hl : (idL n).length = n := by simp [idL]
  refine ext_getD 0 (by rw [exL_len, hl, hx.2]) fun i hi => ?_
  rw [exL_len, hl] at hi
  rw [exL_at _ _ _ (by omega), idL_at _ _ hi, Int.toNat_natCast]
/-- products of generators -/
inductive Wd (n : Nat) (gens : List (List Int)) : List Int → Prop
  | one : Wd n gens (idL n)
  | mul {x s : List Int} : Wd n gens x → s ∈ gens → Wd n gens (exL x s)
/-- what generators are -/
def GenQ (n : Nat) (gens : List (List Int)) : Prop := ∀ s ∈ gens, PnP n s
theorem wd_perm {n : Nat} {gens : List (List Int)} (h1 : 1 ≤ n) (h2 : n ≤ 10) (hg : GenQ n gens) {x : List Int} (h : Wd n gens x) : PnP n x := by
  induction h with
  | one => exact id_perm h1 h2
  | mul _ hs ih => exact perm_ex ih (hg _ hs)
/-- what holds of the elements met -/
structure BfP (n : Nat) (gens out q : List (List Int)) : Prop where
  l : out.length ≤ 120
  p : out.Perm q
  a : AscL out
  w : ∀ x ∈ q, Wd n gens x
  id : idL n ∈ q
theorem bf_len {n : Nat} {gens out q : List (List Int)} (h : BfP n gens out q) : q.length = out.length := h.p.length_eq.symm
theorem okP_of {n : Nat} {x : List Int} (h : PnP n x) : okP n x = true := by
  unfold okP
  simp only [Bool.and_eq_true, decide_eq_true_eq, List.all_eq_true]
  refine ⟨h.2, fun a ha => ?_⟩
  obtain ⟨i, hi, rfl⟩ := List.getElem_of_mem ha
  have := (h.1.2 i hi).1
  rw [getD_get _ _ _ hi] at this
  have := h.2
  omega
/-- one generator met -/
theorem innS_step {n a : Nat} {gens out q gs : List (List Int)} {s : List Int} (h1 : 1 ≤ n) (h2 : n ≤ 10) (hg : GenQ n gens) (h : BfP n gens out q) (ha : a < q.length) :
    innS n a (s :: gs) out q = if exL (q.getD a []) s ∈ q then innS n a gs out q else if out.length = 120 then none else innS n a gs (putS out (exL (q.getD a []) s)) (q ++ [exL (q.getD a []) s]) := by
  have hl := bf_len h
  have hq : Wd n gens (q.getD a []) := by rw [getD_get _ _ _ ha]; exact h.w _ (List.getElem_mem ha)
  rw [innS, if_pos]
  · by_cases hm : exL (q.getD a []) s ∈ q
    · rw [if_pos hm, if_pos ((findI_mem h.a _).2 (h.p.mem_iff.2 hm))]
    · rw [if_neg hm, if_neg (fun h3 => hm (h.p.mem_iff.1 ((findI_mem h.a _).1 h3)))]
  · refine ⟨⟨h.l, by have := h.l; omega, ha⟩, okP_of (wd_perm h1 h2 hg hq), ?_⟩
    rw [List.all_eq_true]
    intro x hx
    exact decide_eq_true (wd_perm h1 h2 hg (h.w x (h.p.mem_iff.1 hx))).2
theorem bf_add {n a : Nat} {gens out q : List (List Int)} {s : List Int} (h : BfP n gens out q) (ha : a < q.length) (hs : s ∈ gens) (hm : exL (q.getD a []) s ∉ q) (h120 : out.length ≠ 120) :
    BfP n gens (putS out (exL (q.getD a []) s)) (q ++ [exL (q.getD a []) s]) := by
  have hq : Wd n gens (q.getD a []) := by rw [getD_get _ _ _ ha]; exact h.w _ (List.getElem_mem ha)
  have hl := h.l
  refine ⟨?_, ?_, ?_, fun x hx => ?_, List.mem_append_left _ h.id⟩
  · rw [(putS_perm _ _).length_eq, List.length_cons]; omega
  · refine (putS_perm _ _).trans (List.Perm.trans ?_ (List.perm_append_comm (l₁ := [exL (q.getD a []) s]) (l₂ := q)))
    exact (h.p.cons _)
  · exact putS_asc h.a (by omega) (fun h3 => hm (h.p.mem_iff.1 h3))
  · rcases List.mem_append.1 hx with hx | hx
    · exact h.w x hx
    · rw [List.mem_singleton.1 hx]; exact .mul hq hs
theorem innS_ok {n a : Nat} {gens : List (List Int)} (h1 : 1 ≤ n) (h2 : n ≤ 10) (hg : GenQ n gens) : ∀ (gs out q : List (List Int)) (o), (∀ s ∈ gs, s ∈ gens) → BfP n gens out q → a < q.length → innS n a gs out q = some o →
    BfP n gens o.1 o.2 ∧ (∃ r, o.2 = q ++ r) ∧ ∀ s ∈ gs, exL (q.getD a []) s ∈ o.2
  | [], out, q, o, _, h, ha, ho => by
    rw [innS] at ho
    cases ho
    exact ⟨h, ⟨[], by simp⟩, fun s hs => by simp at hs⟩
  | s :: gs, out, q, o, hgs, h, ha, ho => by
    rw [innS_step h1 h2 hg h ha] at ho
    have hs := hgs s (List.mem_cons_self ..)
    split at ho
    next hm =>
      obtain ⟨g1, ⟨r, g2⟩, g3⟩ := innS_ok h1 h2 hg gs out q o (fun x hx => hgs x (List.mem_cons_of_mem _ hx)) h ha ho
      refine ⟨g1, ⟨r, g2⟩, fun x hx => ?_⟩
      rcases List.mem_cons.1 hx with rfl | hx
      · rw [g2]; exact List.mem_append_left _ hm
      · exact g3 x hx
    next hm =>
      split at ho
      · cases ho
      next h120 =>
        have hb := bf_add h ha hs hm h120
        have e : (q ++ [exL (q.getD a []) s]).getD a [] = q.getD a [] := by
          rw [List.getD_eq_getElem?_getD, List.getElem?_append_left ha, List.getD_eq_getElem?_getD]
        obtain ⟨g1, ⟨r, g2⟩, g3⟩ := innS_ok h1 h2 hg gs _ _ o (fun x hx => hgs x (List.mem_cons_of_mem _ hx)) hb (by rw [List.length_append]; omega) ho
        rw [e] at g3
        refine ⟨g1, ⟨_, by rw [g2, List.append_assoc]⟩, fun x hx => ?_⟩
        rcases List.mem_cons.1 hx with rfl | hx
        · rw [g2]; exact List.mem_append_left _ (List.mem_append_right _ (List.mem_singleton.2 rfl))
        · exact g3 x hx
theorem bfsS_ok {n : Nat} {gens : List (List Int)} (h1 : 1 ≤ n) (h2 : n ≤ 10) (hg : GenQ n gens) : ∀ (f a : Nat) (out q R : List (List Int)), BfP n gens out q → (∀ i, i < a → i < q.length → ∀ s ∈ gens, exL (q.getD i []) s ∈ q) → bfsS n gens f a out q = some R →
    ∃ q', BfP n gens R q' ∧ ∀ i, i < q'.length → ∀ s ∈ gens, exL (q'.getD i []) s ∈ q'
  | 0, a, out, q, R, h, hc, hR => by cases hR
  | f + 1, a, out, q, R, h, hc, hR => by
    rw [bfsS] at hR
    split at hR
    next ha =>
      cases ho : innS n a gens out q with
      | none => rw [ho] at hR; cases hR
      | some o =>
        rw [ho] at hR
        obtain ⟨g1, ⟨r, g2⟩, g3⟩ := innS_ok h1 h2 hg gens out q o (fun _ hx => hx) h ha ho
        refine bfsS_ok h1 h2 hg f (a + 1) o.1 o.2 R g1 (fun i hi hl s hs => ?_) hR
        have e : ∀ i, i < q.length → o.2.getD i [] = q.getD i [] := fun i hi => by
          rw [g2, List.getD_eq_getElem?_getD, List.getElem?_append_left hi, List.getD_eq_getElem?_getD]
        rcases Nat.lt_or_eq_of_le (show i ≤ a by omega) with h3 | h3
        · rw [e i (by omega), g2]; exact List.mem_append_left _ (hc i h3 (by omega) s hs)
        · rw [h3, e a ha]; exact g3 s hs
    next ha =>
      cases hR
      exact ⟨q, h, fun i hi s hs => hc i (by omega) hi s hs⟩
theorem bf_start {n : Nat} (gens : List (List Int)) : BfP n gens [idL n] [idL n] :=
  ⟨(by decide : 1 ≤ 120), List.Perm.refl _, List.pairwise_singleton _ _, fun x hx => by rw [List.mem_singleton.1 hx]; exact .one, List.mem_singleton.2 rfl⟩
/-- what is found is closed -/
theorem bfs_closed {n : Nat} {gens R : List (List Int)} (h1 : 1 ≤ n) (h2 : n ≤ 10) (hg : GenQ n gens) (hR : bfsS n gens 200 0 [idL n] [idL n] = some R) :
    AscL R ∧ R.length ≤ 120 ∧ idL n ∈ R ∧ (∀ x ∈ R, PnP n x) ∧ ∀ x ∈ R, ∀ y ∈ R, exL x y ∈ R := by
  obtain ⟨q, h, hc⟩ := bfsS_ok h1 h2 hg 200 0 _ _ R (bf_start gens) (fun i hi => by omega) hR
  have hm : ∀ x, x ∈ R ↔ x ∈ q := fun x => h.p.mem_iff
  refine ⟨h.a, h.l, (hm _).2 h.id, fun x hx => wd_perm h1 h2 hg (h.w x ((hm x).1 hx)), fun x hx y hy => ?_⟩
  have hstep : ∀ x ∈ q, ∀ s ∈ gens, exL x s ∈ q := fun x hx s hs => by
    obtain ⟨i, hi, rfl⟩ := List.getElem_of_mem hx
    have := hc i hi s hs
    rwa [getD_get _ _ _ hi] at this
  have hxq := (hm x).1 hx
  have hpx := wd_perm h1 h2 hg (h.w x hxq)
  have key : ∀ y, Wd n gens y → exL x y ∈ q := fun y hw => by
    induction hw with
    | one => rw [ex_id hpx]; exact hxq
    | mul hw hs ih => rw [ex_assoc hpx (wd_perm h1 h2 hg hw)]; exact hstep _ ih _ hs
  exact (hm _).2 (key y (h.w y ((hm y).1 hy)))
/-- a permutation, k times over -/
def pwL (n : Nat) (p : List Int) : Nat → List Int
  | 0 => idL n
  | k + 1 => exL (pwL n p k) p
theorem pw_perm {n : Nat} {p : List Int} (h1 : 1 ≤ n) (h2 : n ≤ 10) (hp : PnP n p) : ∀ k, PnP n (pwL n p k)
  | 0 => id_perm h1 h2
  | k + 1 => perm_ex (pw_perm h1 h2 hp k) hp
theorem pw_add {n : Nat} {p : List Int} (h1 : 1 ≤ n) (h2 : n ≤ 10) (hp : PnP n p) (a : Nat) : ∀ b, pwL n p (a + b) = exL (pwL n p a) (pwL n p b)
  | 0 => (ex_id (pw_perm h1 h2 hp a)).symm
  | b + 1 => by
    show exL (pwL n p (a + b)) p = exL (pwL n p a) (exL (pwL n p b) p)
    rw [pw_add h1 h2 hp a b, ex_assoc (pw_perm h1 h2 hp a) (pw_perm h1 h2 hp b)]
theorem pw_at {n : Nat} {p : List Int} (h1 : 1 ≤ n) (h2 : n ≤ 10) (hp : PnP n p) (k : Nat) {x : Nat} (hx : x < n) : ((pwL n p k).getD x 0).toNat < n ∧ 0 ≤ (pwL n p k).getD x 0 := by
  have h := pw_perm h1 h2 hp k
  have := (h.1.2 x (by rw [h.2]; exact hx)).1
  have := h.2
  omega
theorem pw_at_add {n : Nat} {p : List Int} (h1 : 1 ≤ n) (h2 : n ≤ 10) (hp : PnP n p) (a b : Nat) {x : Nat} (hx : x < n) : (pwL n p (a + b)).getD x 0 = (pwL n p b).getD ((pwL n p a).getD x 0).toNat 0 := by
  rw [pw_add h1 h2 hp, exL_at _ _ _ (by rw [(pw_perm h1 h2 hp a).2]; exact hx)]
/-- a point comes back within n steps -/
theorem pw_back {n : Nat} {p : List Int} (h1 : 1 ≤ n) (h2 : n ≤ 10) (hp : PnP n p) {x : Nat} (hx : x < n) : ∃ d, 1 ≤ d ∧ d ≤ n ∧ (pwL n p d).getD x 0 = (x : Int) := by
  apply Classical.byContradiction
  intro hno
  have hinj : ∀ i j, i < j → j ≤ n → ((pwL n p i).getD x 0).toNat ≠ ((pwL n p j).getD x 0).toNat := fun i j hij hj e => by
    apply hno
    refine ⟨j - i, by omega, by omega, ?_⟩
    have e1 := pw_at_add h1 h2 hp (j - i) i hx
    rw [show j - i + i = j by omega] at e1
    have hpi := pw_perm h1 h2 hp i
    have b1 := pw_at h1 h2 hp (j - i) hx
    have b2 := pw_at h1 h2 hp i hx
    have b3 := pw_at h1 h2 hp j hx
    have e2 := perm_inj hpi.1 (i := ((pwL n p (j - i)).getD x 0).toNat) (j := x) (by rw [hpi.2]; exact b1.1) (by rw [hpi.2]; exact hx) (by rw [← e1]; exact e.symm)
    omega
  have hp2 := pigeon n ((List.range (n + 1)).map fun i => ((pwL n p i).getD x 0).toNat) (by
    rw [List.nodup_iff_pairwise_ne, List.pairwise_map, List.pairwise_iff_getElem]
    intro i j hi hj hij
    simp only [List.getElem_range]
    simp only [List.length_range] at hj
    exact hinj i j hij (by omega)) (fun y hy => by
    obtain ⟨i, _, rfl⟩ := List.mem_map.1 hy
    exact (pw_at h1 h2 hp i hx).1)
  simp at hp2
  omega
theorem pw_mul {n : Nat} {p : List Int} (h1 : 1 ≤ n) (h2 : n ≤ 10) (hp : PnP n p) {x : Nat} (hx : x < n) {d : Nat} (hd : (pwL n p d).getD x 0 = (x : Int)) : ∀ m, (pwL n p (d * m)).getD x 0 = (x : Int)
  | 0 => by rw [Nat.mul_zero, pwL, idL_at _ _ hx]
  | m + 1 => by
    rw [Nat.mul_succ, Nat.add_comm, pw_at_add h1 h2 hp d (d * m) hx, hd, Int.toNat_natCast]
    exact pw_mul h1 h2 hp hx hd m
theorem pw_60 {n : Nat} {p : List Int} (h1 : 1 ≤ n) (h2 : n ≤ 6) (hp : PnP n p) : pwL n p 60 = idL n := by
  have hpp := pw_perm h1 (by omega) hp 60
  refine ext_getD 0 (by rw [hpp.2]; simp [idL]) fun x hx => ?_
  rw [hpp.2] at hx
  obtain ⟨d, d1, d2, hd⟩ := pw_back h1 (by omega) hp hx
  rw [idL_at _ _ hx]
  obtain ⟨m, hm⟩ : ∃ m, 60 = d * m := (by decide : ∀ d, d < 7 → 1 ≤ d → d * (60 / d) = 60) d (by omega) d1 |>.symm |> fun e => ⟨_, e⟩
  rw [hm]
  exact pw_mul h1 (by omega) hp hx hd m
theorem wd_pw {n : Nat} {p : List Int} (h1 : 1 ≤ n) (h2 : n ≤ 6) (hp : PnP n p) {x : List Int} (h : Wd n [p] x) : ∃ k, k < 60 ∧ x = pwL n p k := by
  induction h with
  | one => exact ⟨0, by decide, rfl⟩
  | mul _ hs ih =>
    obtain ⟨k, hk, rfl⟩ := ih
    obtain rfl := List.mem_singleton.1 hs
    rcases Nat.lt_or_eq_of_le (show k + 1 ≤ 60 by omega) with h3 | h3
    · exact ⟨k + 1, h3, rfl⟩
    · refine ⟨0, by decide, ?_⟩
      show pwL n _ (k + 1) = idL n
      rw [h3]
      exact pw_60 h1 h2 hp
theorem asc_nodup {xss : List (List Int)} (h : AscL xss) : xss.Nodup := by
  rw [List.nodup_iff_pairwise_ne]
  refine h.imp fun {a b} h e => ?_
  rw [e, cmpI_refl] at h
  omega
theorem bf_60 {n : Nat} {p : List Int} {out q : List (List Int)} (h1 : 1 ≤ n) (h2 : n ≤ 6) (hp : PnP n p) (h : BfP n [p] out q) : out.length ≤ 60 := by
  have hk : ∀ x ∈ out, ∃ k, k < 60 ∧ x = pwL n p k := fun x hx => wd_pw h1 h2 hp (h.w x (h.p.mem_iff.1 hx))
  have hnd := asc_nodup h.a
  rw [List.nodup_iff_pairwise_ne, List.pairwise_iff_getElem] at hnd
  have hf : ∀ x ∈ out, (List.range 60).findIdx (fun k => decide (x = pwL n p k)) < 60 ∧ pwL n p ((List.range 60).findIdx (fun k => decide (x = pwL n p k))) = x := fun x hx => by
    obtain ⟨k, hk, e⟩ := hk x hx
    have hlt : (List.range 60).findIdx (fun k => decide (x = pwL n p k)) < (List.range 60).length := List.findIdx_lt_length.2 ⟨k, List.mem_range.2 hk, decide_eq_true e⟩
    have h3 := List.findIdx_getElem (xs := List.range 60) (p := fun k => decide (x = pwL n p k)) (w := hlt)
    simp only [List.getElem_range] at h3
    exact ⟨by simpa using hlt, (of_decide_eq_true h3).symm⟩
  have := pigeon 60 (out.map fun x => (List.range 60).findIdx fun k => decide (x = pwL n p k)) (by
    rw [List.nodup_iff_pairwise_ne, List.pairwise_map, List.pairwise_iff_getElem]
    intro i j hi hj hij e
    refine hnd i j hi hj hij ?_
    rw [← (hf _ (List.getElem_mem hi)).2, ← (hf _ (List.getElem_mem hj)).2, e]) (fun y hy => by
    obtain ⟨x, hx, rfl⟩ := List.mem_map.1 hy
    exact (hf x hx).1)
  simpa using this
/-- one generator of few points: the group is found -/
theorem innS_one {n a : Nat} {p : List Int} (h1 : 1 ≤ n) (h2 : n ≤ 6) (hp : PnP n p) {out q : List (List Int)} (h : BfP n [p] out q) (ha : a < q.length) : ∃ o, innS n a [p] out q = some o := by
  have hg : GenQ n [p] := fun s hs => by rw [List.mem_singleton.1 hs]; exact hp
  rw [innS_step h1 (by omega) hg h ha]
  split
  · exact ⟨_, rfl⟩
  · rw [if_neg (by have := bf_60 h1 h2 hp h; omega)]
    exact ⟨_, rfl⟩
theorem bfs_one {n : Nat} {p : List Int} (h1 : 1 ≤ n) (h2 : n ≤ 6) (hp : PnP n p) : ∀ (f a : Nat) (out q : List (List Int)), BfP n [p] out q → 61 ≤ a + f → a ≤ q.length → ∃ R, bfsS n [p] f a out q = some R
  | 0, a, out, q, h, hf, ha => by
    have := bf_60 h1 h2 hp h
    have := bf_len h
    omega
  | f + 1, a, out, q, h, hf, ha => by
    have hg : GenQ n [p] := fun s hs => by rw [List.mem_singleton.1 hs]; exact hp
    rw [bfsS]
    split
    next hlt =>
      obtain ⟨o, ho⟩ := innS_one h1 h2 hp h hlt
      rw [ho]
      obtain ⟨g1, ⟨r, g2⟩, _⟩ := innS_ok h1 (by omega) hg [p] out q o (fun _ hx => hx) h hlt ho
      exact bfs_one h1 h2 hp f (a + 1) o.1 o.2 g1 (by omega) (by rw [g2, List.length_append]; omega)
    next hlt => exact ⟨_, rfl⟩
end Go.Proofs.Ytbnonelkdgkpdaa
/-
  Plain facts about cycle types and tables of terms: no program in sight.
-/
namespace Go.Proofs.Ytbnonelkdgkpdaa
open Go Go.Proofs.Ytbnonelkdgkpdaa.Ow
/-- one more cycle -/
def incT (out c : List Int) : List Int := out.set (c.length - 1) (out.getD (c.length - 1) 0 + 1)
/-- the cycle type, behind the first k cycles -/
def typS (p : List Int) : Nat → List Int
  | 0 => List.replicate p.length 0
  | k + 1 => incT (typS p k) ((cycL p).getD k [])
def typL (p : List Int) : List Int := typS p (cycL p).length
theorem typS_len (p : List Int) : ∀ k, (typS p k).length = p.length
  | 0 => by simp [typS]
  | k + 1 => by rw [typS, incT, List.length_set, typS_len p k]
theorem typL_len (p : List Int) : (typL p).length = p.length := typS_len p _
theorem typS_b (p : List Int) : ∀ k i, 0 ≤ (typS p k).getD i 0 ∧ (typS p k).getD i 0 ≤ (k : Int)
  | 0, i => by
    rw [typS, List.getD_eq_getElem?_getD, List.getElem?_replicate]
    split <;> simp
  | k + 1, i => by
    have h := typS_b p k
    have h1 := h i
    have h2 := h (((cycL p).getD k []).length - 1)
    rw [typS, incT, List.getD_eq_getElem?_getD, List.getElem?_set]
    split
    · split
      · simp only [Option.getD_some]; omega
      · simp only [Option.getD_none]; omega
    · rw [← List.getD_eq_getElem?_getD]; omega
/-- the first term of this type -/
def posT (l : List Tm) (t : List Int) : Nat := l.findIdx fun x => decide (x.1 = t)
def incA (l : List Tm) (i : Nat) : List Tm := l.set i ((l.getD i ([], 0)).1, (l.getD i ([], 0)).2 + 1)
/-- one more element of type t: behind all -/
def addU (l : List Tm) (t : List Int) : List Tm := if posT l t < l.length then incA l (posT l t) else l ++ [(t, 1)]
def uS (g : List (List Int)) : Nat → List Tm
  | 0 => []
  | k + 1 => addU (uS g k) (typL (g.getD k []))
/-- the first term that is not less -/
def lowT (l : List Tm) (t : List Int) : Nat := l.findIdx fun x => !decide (cmpI x.1 t < 0)
/-- one more element of type t: in its place -/
def addS (l : List Tm) (t : List Int) : List Tm := if lowT l t < l.length ∧ (l.getD (lowT l t) ([], 0)).1 = t then incA l (lowT l t) else l.take (lowT l t) ++ [(t, 1)] ++ l.drop (lowT l t)
def sS (g : List (List Int)) : Nat → List Tm
  | 0 => []
  | k + 1 => addS (sS g k) (typL (g.getD k []))
/-- the terms of a group -/
def cixL (g : List (List Int)) : List Tm := sS g g.length
def bump (t : List Int) (l : List Tm) : List Tm := l.map fun x => if x.1 = t then (x.1, x.2 + 1) else x
/-- the types go up -/
def UpT (l : List Tm) : Prop := l.Pairwise fun x y => cmpI x.1 y.1 < 0
def NoD (l : List Tm) : Prop := (l.map fun x => x.1).Nodup
theorem up_nod {l : List Tm} (h : UpT l) : NoD l := by
  unfold NoD
  rw [List.nodup_iff_pairwise_ne, List.pairwise_map]
  refine h.imp fun {a b} h e => ?_
  rw [e, cmpI_refl] at h
  omega
theorem incA_bump {l : List Tm} {t : List Int} {i : Nat} (hn : NoD l) (hi : i < l.length) (ht : (l.getD i ([], 0)).1 = t) : incA l i = bump t l := by
  unfold incA bump
  rw [getD_get _ _ _ hi] at ht ⊢
  apply List.ext_getElem
  · simp
  intro j h1 h2
  have hj : j < l.length := by simpa using h2
  rw [List.getElem_set, List.getElem_map]
  by_cases e : i = j
  · subst e
    rw [if_pos rfl, if_pos ht]
  · rw [if_neg e, if_neg]
    intro h
    have h3 : (l.map fun x => x.1)[i]'(by simpa using hi) = (l.map fun x => x.1)[j]'(by simpa using hj) := by simp only [List.getElem_map]; rw [ht, h]
    unfold NoD at hn
    rw [List.nodup_iff_pairwise_ne, List.pairwise_iff_getElem] at hn
    rcases Nat.lt_or_gt_of_ne e with h4 | h4
    · exact hn i j _ _ h4 h3
    · exact hn j i _ _ h4 h3.symm
theorem bump_types (t : List Int) (l : List Tm) : (bump t l).map (fun x => x.1) = l.map fun x => x.1 := by
  unfold bump
  rw [List.map_map]
  refine List.map_congr_left fun x _ => ?_
  show (if x.1 = t then (x.1, x.2 + 1) else x).1 = x.1
  split <;> rfl
theorem posT_no {l : List Tm} {t : List Int} : ¬ posT l t < l.length ↔ ∀ x ∈ l, x.1 ≠ t := by
  unfold posT
  rw [List.findIdx_lt_length]
  constructor
  · intro h x hx e
    exact h ⟨x, hx, decide_eq_true e⟩
  · rintro h ⟨x, hx, e⟩
    exact h x hx (of_decide_eq_true e)
theorem posT_at {l : List Tm} {t : List Int} (h : posT l t < l.length) : (l.getD (posT l t) ([], 0)).1 = t := by
  rw [getD_get _ _ _ h]
  have := List.findIdx_getElem (xs := l) (p := fun x : Tm => decide (x.1 = t)) (w := h)
  exact of_decide_eq_true this
theorem lowT_ge {l : List Tm} {t : List Int} (h : lowT l t < l.length) : ¬ cmpI (l.getD (lowT l t) ([], 0)).1 t < 0 := by
  rw [getD_get _ _ _ h]
  have := List.findIdx_getElem (xs := l) (p := fun x : Tm => !decide (cmpI x.1 t < 0)) (w := h)
  intro h2
  rw [decide_eq_true (show cmpI (l[List.findIdx (fun x : Tm => !decide (cmpI x.1 t < 0)) l]'h).1 t < 0 from h2)] at this
  cases this
theorem lowT_lt {l : List Tm} {t : List Int} {i : Nat} (h : i < lowT l t) : cmpI (l.getD i ([], 0)).1 t < 0 := by
  have hl : i < l.length := Nat.lt_of_lt_of_le h List.findIdx_le_length
  rw [getD_get _ _ _ hl]
  have := List.not_of_lt_findIdx (xs := l) (p := fun x : Tm => !decide (cmpI x.1 t < 0)) h
  simpa using this
theorem lowT_le (l : List Tm) (t : List Int) : lowT l t ≤ l.length := List.findIdx_le_length
/-- the type is there exactly if it is at its place -/
theorem low_pos {l : List Tm} {t : List Int} (hu : UpT l) : (lowT l t < l.length ∧ (l.getD (lowT l t) ([], 0)).1 = t) ↔ posT l t < l.length := by
  constructor
  · intro ⟨h1, h2⟩
    refine Decidable.byContradiction fun h3 => ?_
    rw [getD_get _ _ _ h1] at h2
    exact posT_no.1 h3 _ (List.getElem_mem h1) h2
  · intro h
    have h1 := posT_at h
    have hk : ¬ posT l t < lowT l t := fun h2 => by
      have := lowT_lt h2
      rw [h1, cmpI_refl] at this
      omega
    have h3 : lowT l t < l.length := by omega
    refine ⟨h3, ?_⟩
    have h4 := lowT_ge h3
    rcases Nat.lt_or_eq_of_le (Nat.not_lt.1 hk) with h5 | h5
    · have h6 := List.pairwise_iff_getElem.1 hu (lowT l t) (posT l t) h3 h h5
      rw [getD_get _ _ _ h3] at h4
      rw [getD_get _ _ _ h] at h1
      rw [h1] at h6
      exact (h4 h6).elim
    · rw [h5]; exact h1
theorem bump_up {l : List Tm} (t : List Int) (hu : UpT l) : UpT (bump t l) := by
  have h : ((bump t l).map fun x => x.1).Pairwise fun x y => cmpI x y < 0 := by
    rw [bump_types, List.pairwise_map]; exact hu
  rw [List.pairwise_map] at h
  exact h
theorem addS_up {l : List Tm} (t : List Int) (hu : UpT l) : UpT (addS l t) := by
  unfold addS
  split
  next h => rw [incA_bump (up_nod hu) h.1 h.2]; exact bump_up t hu
  next h =>
    have hlt : ∀ x ∈ l.take (lowT l t), cmpI x.1 t < 0 := fun x hx => by
      obtain ⟨i, hi, rfl⟩ := List.getElem_of_mem hx
      have hi2 : i < lowT l t := by rw [List.length_take] at hi; omega
      have := lowT_lt hi2
      rw [getD_get _ _ _ (by have := lowT_le l t; omega)] at this
      rwa [List.getElem_take]
    have hge : ∀ x ∈ l.drop (lowT l t), cmpI t x.1 < 0 := fun x hx => by
      obtain ⟨i, hi, rfl⟩ := List.getElem_of_mem hx
      have hi2 : lowT l t + i < l.length := by rw [List.length_drop] at hi; omega
      rw [List.getElem_drop]
      have h3 : lowT l t < l.length := by omega
      have h4 := lowT_ge h3
      have h5 : (l.getD (lowT l t) ([], 0)).1 ≠ t := fun e => h ⟨h3, e⟩
      have h6 := cmpI_neg (l.getD (lowT l t) ([], 0)).1 t
      have h7 : cmpI t (l.getD (lowT l t) ([], 0)).1 < 0 := by
        have : cmpI (l.getD (lowT l t) ([], 0)).1 t ≠ 0 := fun e => h5 (cmpI_eq _ _ e)
        omega
      rw [getD_get _ _ _ h3] at h7
      rcases Nat.eq_zero_or_pos i with rfl | hp
      · exact h7
      · exact cmpI_trans _ _ _ h7 (List.pairwise_iff_getElem.1 hu _ _ h3 hi2 (by omega))
    unfold UpT
    rw [List.append_assoc, List.pairwise_append, List.singleton_append, List.pairwise_cons]
    refine ⟨hu.sublist (List.take_sublist _ _), ⟨fun x hx => hge x hx, hu.sublist (List.drop_sublist _ _)⟩, fun a ha b hb => ?_⟩
    rcases List.mem_cons.1 hb with rfl | hb
    · exact hlt a ha
    · exact cmpI_trans _ _ _ (hlt a ha) (hge b hb)
theorem sS_up (g : List (List Int)) : ∀ k, UpT (sS g k)
  | 0 => List.Pairwise.nil
  | k + 1 => addS_up _ (sS_up g k)
theorem add_perm {u s : List Tm} (t : List Int) (hu : UpT s) (hp : s.Perm u) : (addS s t).Perm (addU u t) := by
  have hnu : NoD u := (hp.map fun x : Tm => x.1).nodup_iff.1 (up_nod hu)
  have hiff : posT s t < s.length ↔ posT u t < u.length := by
    rw [← Decidable.not_iff_not, posT_no, posT_no]
    exact ⟨fun h x hx => h x (hp.mem_iff.2 hx), fun h x hx => h x (hp.mem_iff.1 hx)⟩
  unfold addS addU
  by_cases h : posT u t < u.length
  · have h1 := (low_pos hu).2 (hiff.2 h)
    rw [if_pos h1, if_pos h, incA_bump (up_nod hu) h1.1 h1.2, incA_bump hnu h (posT_at h)]
    exact hp.map _
  · rw [if_neg (fun h1 => h (hiff.1 ((low_pos hu).1 h1))), if_neg h]
    have e : s.Perm (s.take (lowT s t) ++ s.drop (lowT s t)) := by rw [List.take_append_drop]
    refine List.Perm.trans ?_ ((List.perm_append_comm (l₁ := [(t, 1)]) (l₂ := u)))
    rw [List.append_assoc, List.singleton_append]
    refine List.perm_middle.trans ?_
    exact (e.symm.trans hp).cons _
theorem s_perm (g : List (List Int)) : ∀ k, (sS g k).Perm (uS g k)
  | 0 => .nil
  | k + 1 => add_perm _ (sS_up g k) (s_perm g k)
/-- what is known of the terms on the way -/
structure TmsP (n k : Nat) (l : List Tm) : Prop where
  n1 : l.length ≤ k
  t : ∀ x : Tm, x ∈ l → x.1.length = n ∧ ∀ i, 0 ≤ x.1.getD i 0 ∧ x.1.getD i 0 ≤ 10
  c : ∀ x : Tm, x ∈ l → 0 ≤ x.2 ∧ x.2 ≤ (k : Int)
theorem tms_set {n k : Nat} {l : List Tm} (h : TmsP n k l) (i : Nat) (hi : i < l.length) : TmsP n (k + 1) (incA l i) := by
  unfold incA
  rw [getD_get _ _ _ hi]
  refine ⟨by rw [List.length_set]; have := h.n1; omega, fun x hx => ?_, fun x hx => ?_⟩
  · rcases List.mem_or_eq_of_mem_set hx with hx | rfl
    · exact h.t x hx
    · exact h.t l[i] (List.getElem_mem hi)
  · rcases List.mem_or_eq_of_mem_set hx with hx | rfl
    · have := h.c x hx; omega
    · have := h.c l[i] (List.getElem_mem hi)
      dsimp only; omega
theorem tms_ins {n k : Nat} {l l' : List Tm} {t : List Int} (h : TmsP n k l) (ht : t.length = n ∧ ∀ i, 0 ≤ t.getD i 0 ∧ t.getD i 0 ≤ 10) (hp : l'.Perm (l ++ [(t, 1)])) : TmsP n (k + 1) l' := by
  refine ⟨by rw [hp.length_eq, List.length_append, List.length_singleton]; have := h.n1; omega, fun x hx => ?_, fun x hx => ?_⟩
  · rcases List.mem_append.1 (hp.mem_iff.1 hx) with hx | hx
    · exact h.t x hx
    · obtain rfl := List.mem_singleton.1 hx; exact ht
  · rcases List.mem_append.1 (hp.mem_iff.1 hx) with hx | hx
    · have := h.c x hx; omega
    · obtain rfl := List.mem_singleton.1 hx
      dsimp only; omega
theorem tms_u {n : Nat} (g : List (List Int)) (hg : ∀ i, i < g.length → (typL (g.getD i [])).length = n ∧ ∀ j, 0 ≤ (typL (g.getD i [])).getD j 0 ∧ (typL (g.getD i [])).getD j 0 ≤ 10) : ∀ k, k ≤ g.length → TmsP n k (uS g k)
  | 0, _ => ⟨Nat.le_refl _, fun x hx => by simp [uS] at hx, fun x hx => by simp [uS] at hx⟩
  | k + 1, hk => by
    have h := tms_u g hg k (by omega)
    rw [uS, addU]
    split
    next h1 => exact tms_set h _ h1
    next h1 => exact tms_ins h (hg k (by omega)) (List.Perm.refl _)
theorem tms_perm {n k : Nat} {l l' : List Tm} (h : TmsP n k l) (hp : l'.Perm l) : TmsP n k l' :=
  ⟨by rw [hp.length_eq]; exact h.n1, fun x hx => h.t x (hp.mem_iff.1 hx), fun x hx => h.c x (hp.mem_iff.1 hx)⟩
theorem jn_app (xs : List (List UInt8)) (y sep : List UInt8) : ∀ k, k ≤ xs.length → jn (xs ++ [y]) sep k = jn xs sep k
  | 0, _ => rfl
  | 1, h => by
    match xs, h with
    | x :: r, _ => rfl
  | k + 2, h => by
    rw [jn_s _ _ (k + 1) (by omega), jn_s xs _ (k + 1) (by omega), jn_app xs y sep (k + 1) (by omega)]
    congr 1
    rw [List.getD_eq_getElem?_getD, List.getD_eq_getElem?_getD, List.getElem?_append_left (by omega)]
/-- a text more, joined -/
theorem join_snoc (xs : List (List UInt8)) (y sep : List UInt8) (h : xs ≠ []) : Lib.join (xs ++ [y]) sep = Lib.join xs sep ++ sep ++ y := by
  have h0 := List.length_pos_iff.2 h
  rw [← jn_join, List.length_append, List.length_singleton, jn_s _ _ _ h0, jn_app _ _ _ _ (Nat.le_refl _), jn_join]
  congr 1
  rw [List.getD_eq_getElem?_getD, List.getElem?_append_right (Nat.le_refl _)]
  simp
theorem join_one (y sep : List UInt8) : Lib.join [y] sep = y := by
  rw [← jn_join]; rfl
/-- the text of one kind of cycles -/
def partT (i : Nat) (n : Int) : List UInt8 := 115 :: fmtI ((i : Int) + 1) ++ (if n = 1 then [] else 94 :: fmtI n)
def parT (t : List Int) : Nat → List (List UInt8)
  | 0 => []
  | k + 1 => if t.getD k 0 = 0 then parT t k else parT t k ++ [partT k (t.getD k 0)]
def jnT (c : List UInt8) (ps : List (List UInt8)) : List UInt8 := if ps = [] then c else c ++ [42] ++ Lib.join ps [32]
/-- the text of a term -/
def fmtT (x : Tm) : List UInt8 := jnT (fmtI x.2) (parT x.1 x.1.length)
theorem jnT_snoc (c p : List UInt8) (ps : List (List UInt8)) : jnT c (ps ++ [p]) = if jnT c ps = c then c ++ [42] ++ p else jnT c ps ++ [32] ++ p := by
  unfold jnT
  rw [if_neg (by simp)]
  by_cases h : ps = []
  · subst h
    rw [if_pos rfl, if_pos rfl, List.nil_append, join_one]
  · rw [if_neg h, if_neg (by intro e; have := congrArg List.length e; simp at this), join_snoc _ _ _ h]
    simp
/-- a term that is short -/
structure TmOk (x : Tm) : Prop where
  n1 : x.1.length ≤ 10
  t : ∀ i, 0 ≤ x.1.getD i 0 ∧ x.1.getD i 0 ≤ 10
  c : 0 ≤ x.2 ∧ x.2 ≤ 120
theorem parT_le (t : List Int) : ∀ k, (parT t k).length ≤ k
  | 0 => Nat.le_refl _
  | k + 1 => by
    have := parT_le t k
    rw [parT]; split
    · omega
    · rw [List.length_append, List.length_singleton]; omega
end Go.Proofs.Ytbnonelkdgkpdaa
/-
  Plain facts for the cycle index: the orbits of colorings, and the terms that count them.
-/
namespace Go.Proofs.Ytbnonelkdgkpdaa
open Go Go.Proofs.Ytbnonelkdgkpdaa.Ow
/-- a list of permutations that is closed and ascending, with the identity -/
structure GrL (n : Nat) (g : List (List Int)) : Prop where
  n1 : 1 ≤ n
  n2 : n ≤ 10
  a : AscL g
  id : idL n ∈ g
  el : ∀ x ∈ g, PnP n x
  cl : ∀ x ∈ g, ∀ y ∈ g, exL x y ∈ g
theorem perm_of_inj {α : Type} [DecidableEq α] {l : List α} (h : l.Nodup) (f : α → α) (hf : ∀ x ∈ l, f x ∈ l) (hi : ∀ x ∈ l, ∀ y ∈ l, f x = f y → x = y) : (l.map f).Perm l := by
  have hn := nd_map f l h hi
  refine (List.perm_ext_iff_of_nodup hn h).2 fun y => ⟨fun hy => ?_, fun hy => ?_⟩
  · obtain ⟨x, hx, rfl⟩ := List.mem_map.1 hy; exact hf x hx
  · refine Decidable.byContradiction fun hno => ?_
    have h1 := nd_le (l.map f) (l.erase y) hn fun z hz => by
      obtain ⟨x, hx, rfl⟩ := List.mem_map.1 hz
      exact (List.mem_erase_of_ne (fun e => hno (by rw [← e]; exact List.mem_map_of_mem hx))).2 (hf x hx)
    rw [List.length_map, List.length_erase_of_mem hy] at h1
    have := List.length_pos_of_mem hy
    omega
theorem ex_left_inj {n : Nat} {p x y : List Int} (hp : PnP n p) (hx : PnP n x) (hy : PnP n y) (e : exL p x = exL p y) : x = y := by
  refine ext_getD 0 (by rw [hx.2, hy.2]) fun j hj => ?_
  rw [hx.2] at hj
  obtain ⟨i, hi, e1⟩ := perm_surj hp.1 (j := j) (by rw [hp.2]; exact hj)
  have h1 := exL_at p x i hi
  have h2 := exL_at p y i hi
  rw [e1] at h1 h2
  rw [← h1, ← h2, e]
theorem act_words {n k : Nat} {p w : List Int} (hp : PnP n p) (hw : w ∈ wordsL k n) : actL p w ∈ wordsL k n := by
  obtain ⟨h1, h2⟩ := words_b hw
  refine (mem_words _ _ _).2 ⟨by rw [actL_len]; exact h1, fun x hx => ?_⟩
  obtain ⟨j, hj, rfl⟩ := mem_at hx
  rw [actL_len] at hj
  obtain ⟨i, hi, e⟩ := perm_surj hp.1 (j := j) (by rw [hp.2]; omega)
  rw [← e, actL_get hp.1 (by rw [hp.2]; exact h1.symm) i (by rw [hp.2] at hi; omega)]
  exact h2 i (by rw [hp.2] at hi; omega)
theorem act_mulL {n : Nat} {p q w : List Int} (hp : PnP n p) (hq : PnP n q) (hw : w.length = n) : actL q (actL p w) = actL (exL p q) w := by
  have hpq := perm_ex hp hq
  refine act_ext hpq.1 (by rw [actL_len, actL_len, hpq.2, hw]) (by rw [actL_len, hpq.2, hw]) fun i hi => ?_
  rw [hpq.2] at hi
  rw [actL_get hpq.1 (by rw [hpq.2, hw]) i (by omega), exL_at _ _ _ (by rw [hp.2]; exact hi)]
  have hb := (hp.1.2 i (by rw [hp.2]; exact hi)).1
  rw [hp.2] at hb
  rw [actL_get hq.1 (by rw [actL_len, hq.2, hw]) _ (by rw [actL_len]; omega), actL_get hp.1 (by rw [hp.2, hw]) i (by omega)]
theorem act_idL {n : Nat} {w : List Int} (h1 : 1 ≤ n) (h2 : n ≤ 10) (hw : w.length = n) : actL (idL n) w = w := by
  have hI := id_perm h1 h2
  refine act_ext hI.1 (by rw [actL_len, hI.2, hw]) (by rw [hI.2, hw]) fun i hi => ?_
  rw [hI.2] at hi
  rw [actL_get hI.1 (by rw [hI.2, hw]) i (by omega), idL_at _ _ hi, Int.toNat_natCast]
theorem grl_act {n : Nat} {g : List (List Int)} (h : GrL n g) (k : Nat) : ActP g (wordsL k n) actL exL (idL n) where
  nd := words_nodup k n
  ax := fun a ha x hx => act_words (h.el a ha) hx
  mm := fun a ha x hx p hp => act_mulL (h.el a ha) (h.el p hp) (words_b hx).1
  tr := fun a ha => perm_of_inj (asc_nodup h.a) (exL a) (fun x hx => h.cl a ha x hx) fun x hx y hy e => ex_left_inj (h.el a ha) (h.el x hx) (h.el y hy) e
  e1 := h.id
  e2 := fun x hx => act_idL h.n1 h.n2 (words_b hx).1
theorem idV (k : Nat) : ValP (idL k) := fun i hi => by
  have hl : (idL k).length = k := by simp [idL]
  rw [idL_at k i (by omega)]; omega
theorem idLlen (k : Nat) : (idL k).length = k := by simp [idL]
theorem pow_id (k : Nat) : ∀ m, powL (idL k) m = idL k
  | 0 => by rw [powL, idLlen]
  | m + 1 => by
    rw [powL, pow_id k m]
    refine ext_getD 0 (exL_len _ _) fun i hi => ?_
    rw [exL_len, idLlen] at hi
    rw [exL_at _ _ _ (by rw [idLlen]; exact hi), idL_at _ _ hi, Int.toNat_natCast, idL_at _ _ hi]
theorem kep_id (k m : Nat) : kepN (idL k) m = k := by
  rw [kepN, pow_id, idLlen]
  have : ∀ j, j ≤ k → fixN (idL k) j = j := by
    intro j
    induction j with
    | zero => intro _; rfl
    | succ j ih => intro hj; rw [fixN, if_pos (idL_at k j (by omega)), ih (by omega)]
  exact this k (Nat.le_refl _)
theorem prd_id (k : Nat) (cs : List (List Int)) : ∀ j, prdN (idL k) cs j = k ^ j
  | 0 => rfl
  | j + 1 => by rw [prdN, prd_id k cs j, kep_id, Nat.pow_succ]
theorem kept_id {n k : Nat} {p w : List Int} (hp : PnP n p) (hw : w ∈ wordsL k n) : decide (actL p w = w) = true ↔ KeptP p (idL k) w := by
  obtain ⟨h1, h2⟩ := words_b hw
  rw [decide_eq_true_eq]
  have hpl := hp.2
  constructor
  · intro e i hi
    have := actL_get hp.1 (show p.length = w.length by omega) i (by omega)
    rw [e] at this
    have hb := h2 i (by omega)
    rw [this, idL_at _ _ (by omega)]; omega
  · intro hk
    refine act_ext hp.1 (by rw [actL_len]; omega) (by omega) fun i hi => ?_
    have hb := h2 i (by omega)
    rw [actL_get hp.1 (by omega) i (by omega), hk i hi, idL_at _ _ (by omega)]; omega
/-- the colorings' orbits, counted -/
theorem orbits {n : Nat} {g : List (List Int)} (h : GrL n g) (k : Nat) : sumL (fun p => k ^ (cycL p).length) g = g.length * firstN g (wordsL k n) actL := by
  rw [← burnside (grl_act h k)]
  refine sumL_congr fun p hp => ?_
  have hP := h.el p hp
  have := kept_count hP.1 (idV k) (fun w => decide (actL p w = w)) (fun w hw => by
    rw [idLlen, hP.2] at hw
    exact kept_id hP hw)
  rw [idLlen, hP.2, prd_id] at this
  exact this.symm
/-! ### what the terms say -/
def wtS (f : List Int → Int) : List Tm → Int
  | [] => 0
  | x :: l => x.2 * f x.1 + wtS f l
theorem wt_app (f : List Int → Int) : ∀ l r, wtS f (l ++ r) = wtS f l + wtS f r
  | [], r => by rw [List.nil_append, wtS, Int.zero_add]
  | x :: l, r => by rw [List.cons_append, wtS, wtS, wt_app f l r, Int.add_assoc]
theorem wt_perm (f : List Int → Int) {l r : List Tm} (h : l.Perm r) : wtS f l = wtS f r := by
  induction h with
  | nil => rfl
  | cons x _ ih => rw [wtS, wtS, ih]
  | swap x y l => rw [wtS, wtS, wtS, wtS]; omega
  | trans _ _ h1 h2 => exact h1.trans h2
theorem wt_inc (f : List Int → Int) : ∀ (l : List Tm) (i : Nat), i < l.length → wtS f (incA l i) = wtS f l + f (l.getD i ([], 0)).1
  | [], i, h => by simp at h
  | x :: l, 0, h => by
    show (x.2 + 1) * f x.1 + wtS f l = x.2 * f x.1 + wtS f l + f x.1
    rw [Int.add_mul, Int.one_mul]; omega
  | x :: l, i + 1, h => by
    show x.2 * f x.1 + wtS f (incA l i) = x.2 * f x.1 + wtS f l + f (l.getD i ([], 0)).1
    rw [wt_inc f l i (by simpa using h), Int.add_assoc]
theorem wt_add (f : List Int → Int) (l : List Tm) (t : List Int) : wtS f (addU l t) = wtS f l + f t := by
  unfold addU
  split
  next h => rw [wt_inc f l _ h, posT_at h]
  next h => rw [wt_app]; show wtS f l + (1 * f t + 0) = _; rw [Int.one_mul, Int.add_zero]
def idxZ (f : List Int → Int) (g : List (List Int)) : Nat → Int
  | 0 => 0
  | k + 1 => idxZ f g k + f (g.getD k [])
theorem wt_u (f : List Int → Int) (g : List (List Int)) : ∀ k, wtS f (uS g k) = idxZ (fun p => f (typL p)) g k
  | 0 => rfl
  | k + 1 => by rw [uS, wt_add, wt_u f g k, idxZ]
theorem wt_cix (f : List Int → Int) (g : List (List Int)) : wtS f (cixL g) = idxZ (fun p => f (typL p)) g g.length := by
  rw [← wt_u, cixL, wt_perm f (s_perm g g.length)]
/-- the first k terms -/
def wtK (f : List Int → Int) (l : List Tm) : Nat → Int
  | 0 => 0
  | k + 1 => wtK f l k + (l.getD k ([], 0)).2 * f (l.getD k ([], 0)).1
theorem wtK_eq (f : List Int → Int) (l : List Tm) : ∀ k, k ≤ l.length → wtK f l k = wtS f (l.take k)
  | 0, _ => rfl
  | k + 1, hk => by
    rw [wtK, wtK_eq f l k (by omega), L_succ l k ([], 0) (by omega), wt_app]
    show _ = _ + (_ + 0)
    rw [Int.add_zero]
theorem wtK_all (f : List Int → Int) (g : List (List Int)) : wtK f (cixL g) (cixL g).length = idxZ (fun p => f (typL p)) g g.length := by
  rw [wtK_eq f _ _ (Nat.le_refl _), List.take_length, wt_cix]
/-- how many cycles a type has -/
def sumN : List Int → Nat
  | [] => 0
  | x :: l => x.toNat + sumN l
theorem sumN_rep : ∀ n, sumN (List.replicate n 0) = 0
  | 0 => rfl
  | n + 1 => by rw [List.replicate_succ, sumN, sumN_rep n]; rfl
theorem sumN_set : ∀ (l : List Int) (i : Nat), i < l.length → 0 ≤ l.getD i 0 → sumN (l.set i (l.getD i 0 + 1)) = sumN l + 1
  | [], i, h, _ => by simp at h
  | x :: l, 0, h, h0 => by
    have h0 : 0 ≤ x := h0
    show (x + 1).toNat + sumN l = x.toNat + sumN l + 1
    omega
  | x :: l, i + 1, h, h0 => by
    show x.toNat + sumN (l.set i (l.getD i 0 + 1)) = x.toNat + sumN l + 1
    rw [sumN_set l i (by simpa using h) h0]; omega
theorem sumN_typ {p : List Int} (hc : ∀ k, k < (cycL p).length → 1 ≤ ((cycL p).getD k []).length ∧ ((cycL p).getD k []).length ≤ p.length) : ∀ k, k ≤ (cycL p).length → sumN (typS p k) = k
  | 0, _ => sumN_rep _
  | k + 1, hk => by
    have h1 := hc k (by omega)
    have h2 := typS_b p k (((cycL p).getD k []).length - 1)
    rw [typS, incT, sumN_set _ _ (by rw [typS_len]; omega) h2.1, sumN_typ hc k (by omega)]
theorem sumL_idx (f : List Int → Nat) (g : List (List Int)) : ∀ k, k ≤ g.length → (sumL f (g.take k) : Int) = idxZ (fun p => (f p : Int)) g k
  | 0, _ => rfl
  | k + 1, hk => by
    have happ : ∀ l r, sumL f (l ++ r) = sumL f l + sumL f r := by
      intro l r
      induction l with
      | nil => simp [sumL]
      | cons x l ih => rw [List.cons_append, sumL, sumL, ih]; omega
    rw [idxZ, ← sumL_idx f g k (by omega), L_succ g k [] (by omega), happ]
    show ((sumL f (g.take k) + (f (g.getD k []) + 0) : Nat) : Int) = _
    omega
theorem idx_congr {f f' : List Int → Int} {g : List (List Int)} : ∀ k, k ≤ g.length → (∀ i, i < k → f (g.getD i []) = f' (g.getD i [])) → idxZ f g k = idxZ f' g k
  | 0, _, _ => rfl
  | k + 1, hk, h => by rw [idxZ, idxZ, idx_congr k (by omega) (fun i hi => h i (by omega)), h k (by omega)]
end Go.Proofs.Ytbnonelkdgkpdaa
/-
  Plain facts about patterns up to exchanged colors: as many as counted, and each exchange keeps them.
-/
namespace Go.Proofs.Ytbnonelkdgkpdaa
open Go Go.Proofs.Ytbnonelkdgkpdaa.Ow
theorem cmp_app : ∀ (w a b : List Int), cmpI (w ++ a) (w ++ b) = cmpI a b
  | [], a, b => rfl
  | x :: w, a, b => by
    show (if x < x then (-1 : Int) else if x < x then 1 else cmpI (w ++ a) (w ++ b)) = _
    rw [if_neg (by omega), if_neg (by omega), cmp_app w a b]
theorem cmp_app_lt : ∀ (w v a b : List Int), w.length = v.length → cmpI w v < 0 → cmpI (w ++ a) (v ++ b) < 0
  | [], [], a, b, _, h => by simp [cmpI] at h
  | [], _ :: _, a, b, h, _ => by simp at h
  | _ :: _, [], a, b, h, _ => by simp at h
  | x :: w, y :: v, a, b, hl, h => by
    show (if x < y then (-1 : Int) else if y < x then 1 else cmpI (w ++ a) (v ++ b)) < 0
    rw [cmpI] at h
    by_cases h1 : x < y
    · rw [if_pos h1]; decide
    · rw [if_neg h1] at h ⊢
      by_cases h2 : y < x
      · rw [if_pos h2] at h; omega
      · rw [if_neg h2] at h ⊢
        exact cmp_app_lt w v a b (by simpa using hl) h
theorem words_asc (k : Nat) : ∀ n, (wordsL k n).Pairwise fun x y => cmpI x y < 0
  | 0 => by
    show List.Pairwise _ [[]]
    exact List.pairwise_singleton _ _
  | n + 1 => by
    rw [wordsL, List.pairwise_flatMap]
    refine ⟨fun w hw => ?_, ?_⟩
    · rw [List.pairwise_map]
      refine List.Pairwise.imp ?_ List.pairwise_lt_range
      intro a b hab
      rw [cmp_app]
      show (if (a : Int) < (b : Int) then (-1 : Int) else _) < 0
      rw [if_pos (by omega)]; decide
    · refine List.Pairwise.imp_of_mem ?_ (words_asc k n)
      intro v w hv hw hlt x hx y hy
      obtain ⟨a, _, rfl⟩ := List.mem_map.1 hx
      obtain ⟨b, _, rfl⟩ := List.mem_map.1 hy
      exact cmp_app_lt _ _ _ _ (by rw [(words_b hv).1, (words_b hw).1]) hlt
/-- the first thing that is met in an ascending list is the least -/
theorem firstC_least {α : Type} {A : List α} {X : List (List Int)} {act : α → List Int → List Int} (hX : X.Pairwise fun x y => cmpI x y < 0) {x m : List Int} (hm : m ∈ X) (ha : ∃ a ∈ A, act a x = m) (hl : ∀ a ∈ A, cmpI m (act a x) ≤ 0) : firstC A X act x = m := by
  have hp : (A.any fun a => decide (act a x = m)) = true := by
    obtain ⟨a, h1, h2⟩ := ha
    exact List.any_eq_true.2 ⟨a, h1, decide_eq_true h2⟩
  unfold firstC
  cases hf : X.find? (fun y => A.any fun a => decide (act a x = y)) with
  | none =>
    have := List.find?_eq_none.1 hf m hm
    exact (this hp).elim
  | some y =>
    obtain ⟨hy, us, bs, e, hn⟩ := List.find?_eq_some_iff_append.1 hf
    rw [e] at hm hX
    rcases List.mem_append.1 hm with h | h
    · have := hn m h
      rw [hp] at this; cases this
    · rcases List.mem_cons.1 h with h | h
      · rw [h]; rfl
      · have h1 := (List.pairwise_cons.1 (List.pairwise_append.1 hX).2.1).1 m h
        obtain ⟨a, h2, h3⟩ := List.any_eq_true.1 hy
        have h3 := of_decide_eq_true h3
        have h4 := hl a h2
        rw [h3] at h4
        have := cmpI_neg m y
        omega
def symMem (k : Nat) : Bool := (wordsL k k).all fun w => !permB w || (symL k).contains w
set_option maxRecDepth 100000 in
theorem sym_chk : ∀ k, k < 5 → 1 ≤ k → symMem k = true := by decide +kernel
/-- all permutations are met -/
theorem sym_mem {k : Nat} (h1 : 1 ≤ k) (h4 : k ≤ 4) {h : List Int} (hp : PnP k h) : h ∈ symL k := by
  have hc := sym_chk k (by omega) h1
  unfold symMem at hc
  rw [List.all_eq_true] at hc
  have hw : h ∈ wordsL k k := (mem_words k k h).2 ⟨hp.2, fun x hx => by
    obtain ⟨i, hi, rfl⟩ := mem_at hx
    have := (hp.1.2 i hi).1
    rw [hp.2] at this
    exact this⟩
  have := hc h hw
  rw [(permB_iff h).2 hp.1, Bool.not_true, Bool.false_or] at this
  exact List.contains_iff_mem.1 this
theorem symG (k : Nat) (h1 : 1 ≤ k) (h4 : k ≤ 4) : GrL k (symL k) := by
  have hS := sym_ok k (by omega) h1
  have hg := sym_gens k (by omega) h1
  obtain ⟨a, _, b, c, d⟩ := bfs_closed h1 (by omega) (fun s hs => by
    rcases List.mem_cons.1 hs with rfl | hs
    · exact ⟨(permB_iff _).1 hg.1.1, hg.1.2⟩
    · rw [List.mem_singleton.1 hs]; exact ⟨(permB_iff _).1 hg.2.1, hg.2.2⟩) hS.s
  exact ⟨h1, by omega, a, b, c, d⟩
/-- pairs of an element of the group and an exchange -/
abbrev Pr := List Int × List Int
def prsL (g S : List (List Int)) : List Pr := g.flatMap fun p => S.map fun h => (p, h)
def actP (a : Pr) (w : List Int) : List Int := exL (actL a.1 w) a.2
def mulP (a b : Pr) : Pr := (exL a.1 b.1, exL a.2 b.2)
theorem mem_prs {g S : List (List Int)} {a : Pr} : a ∈ prsL g S ↔ a.1 ∈ g ∧ a.2 ∈ S := by
  unfold prsL
  rw [List.mem_flatMap]
  constructor
  · rintro ⟨p, hp, ha⟩
    obtain ⟨h, hh, rfl⟩ := List.mem_map.1 ha
    exact ⟨hp, hh⟩
  · rintro ⟨h1, h2⟩
    exact ⟨a.1, h1, List.mem_map.2 ⟨a.2, h2, rfl⟩⟩
theorem prs_nodup {g S : List (List Int)} (hg : g.Nodup) (hS : S.Nodup) : (prsL g S).Nodup := by
  unfold prsL
  rw [List.Nodup, List.pairwise_flatMap]
  refine ⟨fun p hp => ?_, hg.imp ?_⟩
  · exact nd_map _ _ hS fun x _ y _ e => (Prod.mk.inj e).2
  · intro p q hpq x hx y hy e
    obtain ⟨h1, _, rfl⟩ := List.mem_map.1 hx
    obtain ⟨h2, _, rfl⟩ := List.mem_map.1 hy
    exact hpq (Prod.mk.inj e).1
theorem exL_ex {v h h' : List Int} (hv : ∀ i, i < v.length → 0 ≤ v.getD i 0 ∧ v.getD i 0 < (h.length : Int)) : exL (exL v h) h' = exL v (exL h h') := by
  refine ext_getD 0 (by rw [exL_len, exL_len, exL_len]) fun i hi => ?_
  rw [exL_len, exL_len] at hi
  have := hv i hi
  rw [exL_at _ _ _ (by rw [exL_len]; exact hi), exL_at _ _ _ hi, exL_at _ _ _ hi, exL_at _ _ _ (by omega)]
theorem ex_words {n k : Nat} {h w : List Int} (hh : PnP k h) (hw : w ∈ wordsL k n) : exL w h ∈ wordsL k n := by
  obtain ⟨h1, h2⟩ := words_b hw
  refine (mem_words _ _ _).2 ⟨by rw [exL_len]; exact h1, fun x hx => ?_⟩
  obtain ⟨j, hj, rfl⟩ := mem_at hx
  rw [exL_len] at hj
  have := h2 j hj
  rw [exL_at _ _ _ hj]
  have h3 := (hh.1.2 (w.getD j 0).toNat (by rw [hh.2]; omega)).1
  rw [hh.2] at h3
  exact h3
theorem col_of {n k : Nat} {w : List Int} (h1 : 1 ≤ n) (h2 : n ≤ 10) (h4 : k ≤ 4) (hw : w ∈ wordsL k n) : ColP w := by
  obtain ⟨h3, h5⟩ := words_b hw
  exact ⟨fun i hi => by have := h5 i hi; omega, by omega, by omega⟩
theorem cxp_of {n k : Nat} {g : List (List Int)} {w : List Int} (h : GrL n g) (h1 : 1 ≤ k) (h4 : k ≤ 4) (hw : w ∈ wordsL k n) : CxP g k w := by
  obtain ⟨h3, h5⟩ := words_b hw
  refine ⟨fun i hi => ?_, col_of h.n1 h.n2 h4 hw, h1, h4, fun i hi => (h5 i hi).2⟩
  have := h.el (g.getD i []) (by rw [getD_get _ _ _ hi]; exact List.getElem_mem hi)
  exact ⟨this.1, by rw [this.2, h3]⟩
section
variable {n k : Nat} {g : List (List Int)}
theorem prs_act (h : GrL n g) (h1 : 1 ≤ k) (h4 : k ≤ 4) : ActP (prsL g (symL k)) (wordsL k n) actP mulP (idL n, idL k) := by
  have hS := symG k h1 h4
  refine ⟨words_nodup k n, fun a ha x hx => ?_, fun a ha x hx p hp => ?_, fun a ha => ?_, mem_prs.2 ⟨h.id, hS.id⟩, fun x hx => ?_⟩
  · obtain ⟨a1, a2⟩ := mem_prs.1 ha
    exact ex_words (hS.el _ a2) (act_words (h.el _ a1) hx)
  · obtain ⟨a1, a2⟩ := mem_prs.1 ha
    obtain ⟨p1, p2⟩ := mem_prs.1 hp
    have hb := words_b hx
    have hb2 := words_b (act_words (h.el _ a1) hx)
    have hb3 := words_b (act_words (h.el _ p1) (act_words (h.el _ a1) hx))
    have hl := (h.el _ p1).2
    show exL (actL p.1 (exL (actL a.1 x) a.2)) p.2 = exL (actL (exL a.1 p.1) x) (exL a.2 p.2)
    rw [← act_exL (h.el _ p1).1 (by rw [hl, hb2.1]), exL_ex (by rw [(hS.el _ a2).2]; exact hb3.2), act_mulL (h.el _ a1) (h.el _ p1) hb.1]
  · obtain ⟨a1, a2⟩ := mem_prs.1 ha
    refine perm_of_inj (prs_nodup (asc_nodup h.a) (asc_nodup hS.a)) (mulP a) (fun x hx => ?_) fun x hx y hy e => ?_
    · obtain ⟨x1, x2⟩ := mem_prs.1 hx
      exact mem_prs.2 ⟨h.cl _ a1 _ x1, hS.cl _ a2 _ x2⟩
    · obtain ⟨x1, x2⟩ := mem_prs.1 hx
      obtain ⟨y1, y2⟩ := mem_prs.1 hy
      obtain ⟨e1, e2⟩ := Prod.mk.inj e
      exact Prod.ext (ex_left_inj (h.el _ a1) (h.el _ x1) (h.el _ y1) e1) (ex_left_inj (hS.el _ a2) (hS.el _ x2) (hS.el _ y2) e2)
  · have hb := words_b hx
    show exL (actL (idL n) x) (idL k) = x
    rw [act_idL h.n1 h.n2 hb.1, exL_id (col_of h.n1 h.n2 h4 hx) fun i hi => (hb.2 i hi).2]
theorem kept_pr (h : GrL n g) {p q w : List Int} (hp : PnP n p) (hq : PnP k q) (hw : w ∈ wordsL k n) : decide (actP (p, q) w = w) = true ↔ KeptP p q w := by
  obtain ⟨h1, h2⟩ := words_b hw
  have hpl := hp.2
  rw [decide_eq_true_eq]
  show exL (actL p w) q = w ↔ _
  have key : ∀ i, i < n → (exL (actL p w) q).getD (p.getD i 0).toNat 0 = q.getD (w.getD i 0).toNat 0 := fun i hi => by
    have hb := (hp.1.2 i (by omega)).1
    rw [exL_at _ _ _ (by rw [actL_len]; omega), actL_get hp.1 (by omega) i (by omega)]
  constructor
  · intro e i hi
    have := key i (by omega)
    rwa [e] at this
  · intro hk
    refine act_ext hp.1 (by rw [exL_len, actL_len]; omega) (by omega) fun i hi => ?_
    rw [key i (by omega), hk i hi]
/-- the least one of the orbit -/
theorem cex_first (h : GrL n g) (h1 : 1 ≤ k) (h4 : k ≤ 4) {w : List Int} (hw : w ∈ wordsL k n) : firstC (prsL g (symL k)) (wordsL k n) actP w = cexL g w := by
  have hC := cxp_of h h1 h4 hw
  have hS := symG k h1 h4
  have hA := prs_act h h1 h4
  have himg : ∃ a ∈ prsL g (symL k), actP a w = cexL g w := by
    rcases bst_mem (fun p => firstL (actL p w)) (firstL w) g g.length with e | ⟨i, hi, e⟩
    · obtain ⟨q, hq, e2⟩ := first_ex hC.x h1 h4 hC.b
      refine ⟨(idL n, q), mem_prs.2 ⟨h.id, hq⟩, ?_⟩
      show exL (actL (idL n) w) q = _
      rw [act_idL h.n1 h.n2 (words_b hw).1, e2]; exact e.symm
    · obtain ⟨g1, g2⟩ := hC.g i hi
      obtain ⟨q, hq, e2⟩ := first_ex (act_col g1 g2 hC.x) h1 h4 (act_all g1 g2 (fun z => z < (k : Int)) hC.b)
      refine ⟨(g.getD i [], q), mem_prs.2 ⟨by rw [getD_get _ _ _ hi]; exact List.getElem_mem hi, hq⟩, ?_⟩
      show exL (actL (g.getD i []) w) q = _
      rw [e2]; exact e.symm
  obtain ⟨a, ha, e⟩ := himg
  refine firstC_least (words_asc k n) (by rw [← e]; exact hA.ax a ha w hw) ⟨a, ha, e⟩ fun b hb => ?_
  obtain ⟨b1, b2⟩ := mem_prs.1 hb
  obtain ⟨i, hi, e1⟩ := List.getElem_of_mem b1
  obtain ⟨g1, g2⟩ := hC.g i hi
  have h3 := first_le2 hC hi (hS.el _ b2).1 (hS.el _ b2).2
  rw [← act_exL g1 g2, getD_get _ _ _ hi, e1] at h3
  have h5 := bst_le (fun p => firstL (actL p w)) (firstL w) g g.length i hi
  rw [getD_get _ _ _ hi, e1] at h5
  exact leI_trans h5 h3
theorem can_first (h : GrL n g) {w : List Int} (hw : w ∈ wordsL k n) : firstC g (wordsL k n) actL w = canL g w := by
  have hA := grl_act h k
  have himg : ∃ a ∈ g, actL a w = canL g w := by
    rcases bst_mem (fun p => actL p w) w g g.length with e | ⟨i, hi, e⟩
    · exact ⟨idL n, h.id, by rw [act_idL h.n1 h.n2 (words_b hw).1]; exact e.symm⟩
    · exact ⟨g.getD i [], by rw [getD_get _ _ _ hi]; exact List.getElem_mem hi, e.symm⟩
  obtain ⟨a, ha, e⟩ := himg
  refine firstC_least (words_asc k n) (by rw [← e]; exact hA.ax a ha w hw) ⟨a, ha, e⟩ fun b hb => ?_
  obtain ⟨i, hi, e1⟩ := List.getElem_of_mem hb
  have h5 := bst_le (fun p => actL p w) w g g.length i hi
  rw [getD_get _ _ _ hi, e1] at h5
  exact h5
/-- the patterns up to exchanged colors -/
def expL (g : List (List Int)) (k n : Nat) : List (List Int) := (wordsL k n).filter fun w => decide (cexL g w = w)
theorem sumL_app {α : Type} (f : α → Nat) : ∀ l r : List α, sumL f (l ++ r) = sumL f l + sumL f r
  | [], r => by simp [sumL]
  | x :: l, r => by rw [List.cons_append, sumL, sumL, sumL_app f l r]; omega
theorem sumH_eq (f : Pr → Nat) (p : List Int) (S : List (List Int)) (hf : ∀ h ∈ S, f (p, h) = prdN h (cycL p) (cycL p).length) : ∀ b, b ≤ S.length → sumH p S b = sumL f ((S.take b).map fun h => (p, h))
  | 0, _ => by simp [sumH, sumL]
  | b + 1, hb => by
    rw [sumH, sumH_eq f p S hf b (by omega), L_succ S b [] (by omega), List.map_append, sumL_app]
    show _ = _ + (f (p, S.getD b []) + 0)
    rw [hf (S.getD b []) (by rw [getD_get _ _ _ (by omega)]; exact List.getElem_mem _)]; rfl
theorem sumG_eq (f : Pr → Nat) (g S : List (List Int)) (hf : ∀ p ∈ g, ∀ h ∈ S, f (p, h) = prdN h (cycL p) (cycL p).length) : ∀ a, a ≤ g.length → sumG g S a = sumL f (prsL (g.take a) S)
  | 0, _ => by simp [sumG, prsL, sumL]
  | a + 1, ha => by
    have e : prsL (g.take (a + 1)) S = prsL (g.take a) S ++ S.map fun h => (g.getD a [], h) := by
      rw [L_succ g a [] (by omega)]; simp [prsL]
    rw [sumG, sumG_eq f g S hf a (by omega), e, sumL_app, sumH_eq f (g.getD a []) S (hf _ (by rw [getD_get _ _ _ (by omega)]; exact List.getElem_mem _)) S.length (Nat.le_refl _), List.take_length]
theorem prs_len (g S : List (List Int)) : (prsL g S).length = g.length * S.length := by
  unfold prsL
  induction g with
  | nil => simp
  | cons p g ih => rw [List.flatMap_cons, List.length_append, ih, List.length_map, List.length_cons, Nat.succ_mul]; omega
/-- as many as counted -/
theorem exp_count (h : GrL n g) (h1 : 1 ≤ k) (h4 : k ≤ 4) : sumG g (symL k) g.length = (g.length * (symL k).length) * (expL g k n).length := by
  have hS := symG k h1 h4
  have hb := burnside (prs_act (k := k) h h1 h4)
  have e1 : firstN (prsL g (symL k)) (wordsL k n) actP = (expL g k n).length := by
    unfold firstN expL
    rw [List.countP_eq_length_filter]
    congr 1
    refine List.filter_congr fun w hw => ?_
    rw [cex_first h h1 h4 hw]
  rw [e1, prs_len] at hb
  rw [← hb, sumG_eq (fun a => (wordsL k n).countP fun x => decide (actP a x = x)) g (symL k) (fun p hp q hq => ?_) g.length (Nat.le_refl _), List.take_length]
  have hP := h.el p hp
  have hQ := hS.el q hq
  have := kept_count hP.1 (h := q) (fun i hi => by have := (hQ.1.2 i hi).1; rw [hQ.2] at this ⊢; exact this) (fun w => decide (actP (p, q) w = w)) (fun w hw => by
    rw [hP.2, hQ.2] at hw
    exact kept_pr h hP hQ hw)
  rw [hP.2, hQ.2] at this
  exact this
theorem exp_le (h : GrL n g) (h1 : 1 ≤ k) (h4 : k ≤ 4) : (expL g k n).length ≤ firstN g (wordsL k n) actL := by
  unfold firstN expL
  rw [← List.countP_eq_length_filter]
  refine List.countP_mono_left fun w hw hc => ?_
  rw [decide_eq_true_eq] at hc ⊢
  rw [can_first h hw]
  exact cex_canon (cxp_of h h1 h4 hw) hc
theorem exp_nodup (g : List (List Int)) (k n : Nat) : (expL g k n).Nodup := (words_nodup k n).sublist List.filter_sublist
theorem cex_words (h : GrL n g) (h1 : 1 ≤ k) (h4 : k ≤ 4) {w : List Int} (hw : w ∈ wordsL k n) : cexL g w ∈ wordsL k n := by
  rw [← cex_first h h1 h4 hw]
  exact (first_ok (prs_act h h1 h4) hw).1
theorem cex_cex (h : GrL n g) (h1 : 1 ≤ k) (h4 : k ≤ 4) {w : List Int} (hw : w ∈ wordsL k n) : cexL g (cexL g w) = cexL g w := by
  have h2 := first_first (prs_act (k := k) h h1 h4) hw
  rw [cex_first h h1 h4 hw, cex_first h h1 h4 (cex_words h h1 h4 hw)] at h2
  exact h2
theorem cex_ex (h : GrL n g) (h1 : 1 ≤ k) (h4 : k ≤ 4) {w q : List Int} (hw : w ∈ wordsL k n) (hq : PnP k q) : cexL g (exL w q) = cexL g w := by
  have hA := prs_act (k := k) h h1 h4
  have h2 := first_act hA hw (p := (idL n, q)) (mem_prs.2 ⟨h.id, sym_mem h1 h4 hq⟩)
  have e : actP (idL n, q) w = exL w q := by
    show exL (actL (idL n) w) q = _
    rw [act_idL h.n1 h.n2 (words_b hw).1]
  rw [e, cex_first h h1 h4 hw, cex_first h h1 h4 (ex_words hq hw)] at h2
  exact h2
theorem mem_exp (h : GrL n g) (h1 : 1 ≤ k) (h4 : k ≤ 4) {w : List Int} (hw : w ∈ wordsL k n) : cexL g w ∈ expL g k n :=
  List.mem_filter.2 ⟨cex_words h h1 h4 hw, decide_eq_true (cex_cex h h1 h4 hw)⟩
end
/-- how often a is among the first i of l -/
def occ (l : List (List Int)) (a : List Int) : Nat → Nat
  | 0 => 0
  | i + 1 => if l.getD i [] = a then occ l a i + 1 else occ l a i
theorem occ_le (l : List (List Int)) (a : List Int) : ∀ i, occ l a i ≤ i
  | 0 => Nat.le_refl _
  | i + 1 => by have := occ_le l a i; rw [occ]; split <;> omega
theorem occ_count (l : List (List Int)) (a : List Int) : ∀ i, i ≤ l.length → occ l a i = (l.take i).count a
  | 0, _ => by simp [occ]
  | i + 1, hi => by
    rw [occ, occ_count l a i (by omega), L_succ l i [] (by omega), List.count_append]
    by_cases h : l.getD i [] = a
    · rw [if_pos h, h]; simp
    · rw [if_neg h, List.count_cons_of_ne (by simpa using h)]; simp
theorem occ_one {l : List (List Int)} {a : List Int} (hn : l.Nodup) (ha : a ∈ l) : occ l a l.length = 1 := by
  rw [occ_count l a _ (Nat.le_refl _), List.take_length]
  have h1 := List.nodup_iff_count.1 hn a
  have h2 := List.count_pos_iff.2 ha
  omega
end Go.Proofs.Ytbnonelkdgkpdaa
/-
  Plain facts about counting graphs by the ways to color cycles: no program in sight.
-/
namespace Go.Proofs.Ytbnonelkdgkpdaa
open Go Go.Proofs.Ytbnonelkdgkpdaa.Ow
/-- what all renamings do to the pairs -/
def actsL (n : Nat) : List (List Int) := (symL n).map pactL
def sumTo (f : Nat → Nat) : Nat → Nat
  | 0 => 0
  | j + 1 => sumTo f j + f j
theorem sumTo_le (f : Nat → Nat) (B : Nat) : ∀ j, (∀ i, i < j → f i ≤ B) → sumTo f j ≤ j * B
  | 0, _ => Nat.zero_le _
  | j + 1, h => by
    have h1 := sumTo_le f B j fun i hi => h i (by omega)
    have h2 := h j (by omega)
    rw [sumTo, Nat.add_mul]; omega
/-- in how many ways cycles get colors -/
def waysN : List (List Int) → List Int → Nat
  | [], _ => 1
  | c :: cs, left => sumTo (fun i => if (c.length : Int) ≤ left.getD i 0 then waysN cs (left.set i (left.getD i 0 - c.length)) else 0) left.length
theorem waysN_le (L : Nat) : ∀ (cs : List (List Int)) (left : List Int), left.length = L → waysN cs left ≤ L ^ cs.length
  | [], _, _ => Nat.le_refl _
  | c :: cs, left, h => by
    rw [waysN, List.length_cons, Nat.pow_succ, Nat.mul_comm, ← h]
    refine sumTo_le _ _ _ fun i hi => ?_
    split
    · rw [h]; exact waysN_le L cs _ (by rw [List.length_set]; exact h)
    · exact Nat.zero_le _
/-- graphs of n vertices with e edges: as they are counted -/
def cgsN (n e : Nat) : Nat := sumTo (fun k => waysN (cycL ((actsL n).getD k [])) [((cp n - e : Nat) : Int), (e : Int)]) (actsL n).length
def cgwN (n e : Nat) : Nat := cgsN n e / (actsL n).length
def cgpN (n : Nat) : Nat := sumTo (fun k => 2 ^ (cycL ((actsL n).getD k [])).length) (actsL n).length
def cgCheck (n : Nat) : Bool := (actsL n).all (fun q => permB q && decide (q.length = cp n)) && decide (sumTo (cgwN n) (cp n + 1) = cgpN n / (actsL n).length)
set_option maxRecDepth 100000
theorem cg_all : ∀ n, n < 6 → 2 ≤ n → cgCheck n = true := by decide +kernel
end Go.Proofs.Ytbnonelkdgkpdaa
/-
  Plain facts about the least graphs of their kinds, and complements: no program in sight.
-/
namespace Go.Proofs.Ytbnonelkdgkpdaa
open Go Go.Proofs.Ytbnonelkdgkpdaa.Ow
/-- the least among the first k renamed graphs -/
def canF (n g k : Nat) : Int := ((symL n).take k).foldl (fun b p => mnI b ((renN g p : Nat) : Int)) (g : Int)
theorem canF_s (n g k : Nat) (hk : k < (symL n).length) : canF n g (k + 1) = mnI (canF n g k) ((renN g ((symL n).getD k []) : Nat) : Int) := by
  unfold canF
  rw [L_succ (symL n) k [] hk, List.foldl_append]; rfl
def canI (n g : Nat) : Int := canF n g (symL n).length
def canZ (n g : Int) : Int := if graphB n g = true then canI n.toNat g.toNat else -1
def sameG (n g h : Int) : Bool := graphB n g && graphB n h && decide (canZ n g = canZ n h)
theorem graphB_lt {n g : Nat} (h : graphB (n : Nat) (g : Nat) = true) : g < 2 ^ cp n := by
  have := of_decide_eq_true h
  rw [Int.toNat_natCast] at this
  omega
def compI (n g : Int) : Int := if graphB n g = true then ((2 ^ cp n.toNat : Nat) : Int) - 1 - g else 0
def selfB (n g : Int) : Bool := graphB n g && sameG n g (compI n g)
/-- the graphs among the first k that are the least of their kind -/
def lstG (n k : Nat) : List Int := ((List.range k).filter fun (g : Nat) => decide (canI n g = (g : Int))).map fun (g : Nat) => (g : Int)
theorem lstG_yes (n k : Nat) (h : canI n k = (k : Int)) : lstG n (k + 1) = lstG n k ++ [(k : Int)] := by
  unfold lstG
  rw [List.range_succ, List.filter_append, List.map_append]
  simp [h]
theorem lstG_no (n k : Nat) (h : ¬ canI n k = (k : Int)) : lstG n (k + 1) = lstG n k := by
  unfold lstG
  rw [List.range_succ, List.filter_append, List.map_append]
  simp [h]
theorem lstG_len (n k : Nat) : (lstG n k).length ≤ k := by
  unfold lstG
  rw [List.length_map]
  exact Nat.le_trans (List.length_filter_le _ _) (by simp)
theorem graphB_of (n k : Nat) (h1 : 1 ≤ n) (hn : n < 6) (hk : k < 2 ^ cp n) : graphB (n : Nat) (k : Nat) = true := by
  refine decide_eq_true ⟨⟨by omega, by omega⟩, by omega, ?_⟩
  rw [Int.toNat_natCast]; omega
def cgwI (n e : Int) : Int := if 1 ≤ n ∧ n ≤ 5 then (if 0 ≤ e ∧ e ≤ ((cp n.toNat : Nat) : Int) then (if n = 1 then 1 else ((cgwN n.toNat e.toNat : Nat) : Int)) else 0) else -1
def cgI (n : Int) : Int := if 1 ≤ n ∧ n ≤ 5 then (if n = 1 then 1 else ((sumTo (cgwN n.toNat) (cp n.toNat + 1) : Nat) : Int)) else -1
end Go.Proofs.Ytbnonelkdgkpdaa
