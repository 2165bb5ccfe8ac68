/-
  Plain facts about lists of texts in descending order and about the codes of trees: no program in sight.
-/
import Derived.Test.YtigebaejdghmmaaPl7
import Derived.Sort.Walk0
set_option linter.unusedVariables false
namespace Go.Proofs.Ytigebaejdghmmaa
open Go Go.Proofs.Ytigebaejdghmmaa.Ow

/-- a text put into a descending list, behind all that are not less -/
def insD (s : List UInt8) : List (List UInt8) → List (List UInt8)
  | [] => [s]
  | x :: l => if s ≤ x then x :: insD s l else s :: x :: l
def sortD (l : List (List UInt8)) : List (List UInt8) := l.foldl (fun a s => insD s a) []

theorem insD_eq (s : List UInt8) : ∀ (l : List (List UInt8)) (k : Nat), k ≤ l.length → (∀ j, j < k → s ≤ l.getD j []) → (k < l.length → ¬ s ≤ l.getD k []) → insD s l = l.take k ++ [s] ++ l.drop k
  | [], k, hk, _, _ => by
    obtain rfl : k = 0 := by simpa using hk
    rfl
  | x :: l, 0, hk, h1, h2 => by
    have : ¬ s ≤ x := h2 (by simp)
    simp [insD, this]
  | x :: l, k + 1, hk, h1, h2 => by
    have : s ≤ x := h1 0 (by omega)
    have e := insD_eq s l k (by simpa using hk) (fun j hj => h1 (j + 1) (by omega)) (fun hk => h2 (by simpa using hk))
    simp [insD, this, e]
theorem insD_perm (s : List UInt8) : ∀ l, (insD s l).Perm (s :: l)
  | [] => List.Perm.refl _
  | x :: l => by
    unfold insD
    split
    · exact ((insD_perm s l).cons x).trans (List.Perm.swap s x l)
    · exact List.Perm.refl _
theorem leS_total (x y : List UInt8) : x ≤ y ∨ y ≤ x := List.le_total x y
theorem insD_sorted (s : List UInt8) : ∀ l, l.Pairwise (fun a b => b ≤ a) → (insD s l).Pairwise (fun a b => b ≤ a)
  | [], _ => by simp [insD]
  | x :: l, h => by
    have h' := List.pairwise_cons.1 h
    unfold insD
    split
    · rename_i hx
      refine List.pairwise_cons.2 ⟨fun y hy => ?_, insD_sorted s l h'.2⟩
      rcases List.mem_cons.1 ((insD_perm s l).mem_iff.1 hy) with rfl | hy
      · exact hx
      · exact h'.1 y hy
    · rename_i hx
      refine List.pairwise_cons.2 ⟨fun y hy => ?_, h⟩
      have hxs : x ≤ s := (leS_total x s).resolve_right hx
      rcases List.mem_cons.1 hy with rfl | hy
      · exact hxs
      · exact List.le_trans (h'.1 y hy) hxs
theorem sortD_snoc (l : List (List UInt8)) (s : List UInt8) : sortD (l ++ [s]) = insD s (sortD l) := by simp [sortD]
theorem foldD_perm : ∀ (l a : List (List UInt8)), (l.foldl (fun a s => insD s a) a).Perm (l ++ a)
  | [], a => List.Perm.refl _
  | s :: l, a => (foldD_perm l (insD s a)).trans (((insD_perm s a).append_left l).trans List.perm_middle)
theorem foldD_sorted : ∀ (l a : List (List UInt8)), a.Pairwise (fun a b => b ≤ a) → (l.foldl (fun a s => insD s a) a).Pairwise (fun a b => b ≤ a)
  | [], a, h => h
  | s :: l, a, h => foldD_sorted l _ (insD_sorted s a h)
theorem sortD_perm (l : List (List UInt8)) : (sortD l).Perm l := by
  have := foldD_perm l []
  rwa [List.append_nil] at this
theorem sortD_len (l : List (List UInt8)) : (sortD l).length = l.length := (sortD_perm l).length_eq
theorem sortD_merge (l : List (List UInt8)) : (l.mergeSort fun x y => decide (x ≤ y)).reverse = sortD l := by
  refine List.Perm.eq_of_pairwise (le := fun a b => b ≤ a) (fun a b _ _ h1 h2 => List.le_antisymm h2 h1) ?_ (foldD_sorted l [] (by simp)) ((List.reverse_perm _).trans ((List.mergeSort_perm l _).trans (sortD_perm l).symm))
  rw [List.pairwise_reverse]
  have h := List.pairwise_mergeSort (le := fun x y : List UInt8 => decide (x ≤ y)) (fun a b c h1 h2 => by simp at *; exact List.le_trans h1 h2) (fun a b => by simpa using leS_total a b) l
  exact h.imp fun h => by simpa using h

/-- the code of a vertex, out of the codes of its children -/
def cdS (l : List (List UInt8)) : List UInt8 := 40 :: (Lib.join l [] ++ [41])
/-- the code of a vertex (b: at least the number of the vertices from it on) -/
def codeF (xs : List Int) : Nat → Nat → List UInt8
  | 0, _ => cdS []
  | b + 1, at_ => cdS (sortD (((List.range xs.length).filter fun i => xs.getD i 0 == (at_ : Int)).map fun i => codeF xs b i))
/-- the codes of a vertex's children among the first k vertices, in the vertices' order -/
def kidsP (xs : List Int) (b at_ k : Nat) : List (List UInt8) := ((List.range k).filter fun i => xs.getD i 0 == (at_ : Int)).map fun i => codeF xs b i
def kidsF (xs : List Int) (b at_ : Nat) : List (List UInt8) := sortD (kidsP xs b at_ xs.length)
theorem codeF_s (xs : List Int) (b at_ : Nat) : codeF xs (b + 1) at_ = cdS (kidsF xs b at_) := rfl
theorem kidsP_yes (xs : List Int) (b at_ k : Nat) (h : xs.getD k 0 = (at_ : Int)) : kidsP xs b at_ (k + 1) = kidsP xs b at_ k ++ [codeF xs b k] := by
  unfold kidsP
  rw [List.range_succ, List.filter_append, List.map_append]
  simp [-List.getD_eq_getElem?_getD, h]
theorem kidsP_no (xs : List Int) (b at_ k : Nat) (h : ¬ xs.getD k 0 = (at_ : Int)) : kidsP xs b at_ (k + 1) = kidsP xs b at_ k := by
  unfold kidsP
  rw [List.range_succ, List.filter_append, List.map_append]
  simp [-List.getD_eq_getElem?_getD, h]
theorem kidsP_len (xs : List Int) (b at_ k : Nat) : (kidsP xs b at_ k).length ≤ k := by
  unfold kidsP
  rw [List.length_map]
  exact Nat.le_trans (List.length_filter_le _ _) (by simp)
theorem cdS_len (l : List (List UInt8)) (n : Nat) (h : ∀ x ∈ l, x.length ≤ n) : (Lib.join l []).length ≤ l.length * n ∧ (cdS l).length ≤ l.length * n + 2 := by
  have h1 := jn_len l [] n (fun i hi => h _ (by rw [getD_get _ _ _ hi]; exact List.getElem_mem hi)) l.length (Nat.le_refl _)
  rw [jn_join] at h1
  have h2 : (Lib.join l []).length ≤ l.length * n := by simpa using h1
  refine ⟨h2, ?_⟩
  simp only [cdS, List.length_cons, List.length_append, List.length_nil]; omega
theorem codeF_len (xs : List Int) (hl : xs.length ≤ 12) : ∀ b at_, (codeF xs b at_).length ≤ 2 * 13 ^ b
  | 0, _ => by show (cdS []).length ≤ _; decide
  | b + 1, at_ => by
    have ih := codeF_len xs hl b
    have hk := kidsP_len xs b at_ xs.length
    have h := (cdS_len (kidsF xs b at_) (2 * 13 ^ b) (fun x hx => by
      have := (sortD_perm _).mem_iff.1 hx
      obtain ⟨i, _, rfl⟩ := List.mem_map.1 this
      exact ih i)).2
    rw [codeF_s]
    have e : (kidsF xs b at_).length = (kidsP xs b at_ xs.length).length := sortD_len _
    rw [e] at h
    have h2 : (kidsP xs b at_ xs.length).length * (2 * 13 ^ b) ≤ 12 * (2 * 13 ^ b) := Nat.mul_le_mul_right _ (by omega)
    have h3 : 1 ≤ 13 ^ b := Nat.pos_of_ne_zero (by simp)
    rw [Nat.pow_succ]
    omega
theorem kidsF_join (xs : List Int) (hl : xs.length ≤ 12) (b at_ : Nat) (hb : b ≤ 11) : (Lib.join (kidsF xs b at_) []).length ≤ 70368744177664 ∧ (kidsF xs b at_).length ≤ 12 := by
  have ih := codeF_len xs hl b
  have hk := kidsP_len xs b at_ xs.length
  have h := (cdS_len (kidsF xs b at_) (2 * 13 ^ 11) (fun x hx => by
      have := (sortD_perm _).mem_iff.1 hx
      obtain ⟨i, _, rfl⟩ := List.mem_map.1 this
      have h1 : 13 ^ b ≤ 13 ^ 11 := Nat.pow_le_pow_right (by omega) hb
      have := ih i
      omega)).1
  have e : (kidsF xs b at_).length = (kidsP xs b at_ xs.length).length := sortD_len _
  have h2 : (kidsF xs b at_).length * (2 * 13 ^ 11) ≤ 12 * (2 * 13 ^ 11) := Nat.mul_le_mul_right _ (by omega)
  exact ⟨by omega, by omega⟩

end Go.Proofs.Ytigebaejdghmmaa
