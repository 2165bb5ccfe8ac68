/-
  Plain facts about the codes of all trees, for their walks: no program in sight.
-/
import Derived.Test.YtigebaejdghmmaaPlK
set_option linter.unusedVariables false
namespace Go.Proofs.Ytigebaejdghmmaa
open Go Go.Proofs.Ytigebaejdghmmaa.Ow
structure TcOk (n : Nat) : Prop where
  so : (tcsL n).Pairwise (· < ·)
  m1 : ∀ l ∈ lstT (n - 1), codeF l 12 0 ∈ tcsL n
  m2 : ∀ c ∈ tcsL n, ∃ l ∈ lstT (n - 1), codeF l 12 0 = c
  tr : ∀ l ∈ lstT (n - 1), treeB l = true ∧ l.length = n
  l1 : (tcsL n).length ≤ 48
  l2 : (lstT (n - 1)).length ≤ 720
theorem tc_ok (n : Nat) (hn : n < 8) (h1 : 1 ≤ n) : TcOk n := by
  have h := tc_all n hn h1
  unfold tcCheck at h
  simp only [Bool.and_eq_true, decide_eq_true_eq, List.all_eq_true, List.contains_iff_mem, List.mem_map] at h
  obtain ⟨⟨h1, h2, h3⟩, h4, h5, h6⟩ := h
  refine ⟨h1, fun l hl => h2 _ ⟨l, hl, rfl⟩, h3, h4, h5, h6⟩
theorem lstT_len : ∀ k l, l ∈ lstT k → l.length = k + 1
  | 0, l, h => by simp [lstT] at h; subst h; rfl
  | k + 1, l, h => by
    rw [lstT, List.mem_flatMap] at h
    obtain ⟨a, ha, h⟩ := h
    rw [List.mem_map] at h
    obtain ⟨x, _, rfl⟩ := h
    simp [lstT_len k a ha]
theorem lstT_cnt : ∀ k, k < 7 → (lstT k).length ≤ 720 := by decide +kernel
/-- the lists that continue one, the first b of them -/
def extL (l : List Int) (b : Nat) : List (List Int) := (List.range b).map fun (x : Nat) => l ++ [(x : Int)]
theorem extL_s (l : List Int) (b : Nat) : extL l (b + 1) = extL l b ++ [l ++ [(b : Int)]] := by simp [extL, List.range_succ]
theorem extL_len (l : List Int) (b : Nat) : (extL l b).length = b := by simp [extL]
def extA (ls : List (List Int)) (i a : Nat) : List (List Int) := (ls.take a).flatMap fun l => extL l i
theorem extA_s (ls : List (List Int)) (i a : Nat) (h : a < ls.length) : extA ls i (a + 1) = extA ls i a ++ extL (ls.getD a []) i := by
  unfold extA
  rw [L_succ _ _ [] h, List.flatMap_append]
  simp
theorem extA_all (i : Nat) : extA (lstT i) (i + 1) (lstT i).length = lstT (i + 1) := by
  unfold extA
  rw [List.take_length]; rfl
theorem extA_len (ls : List (List Int)) (i : Nat) : ∀ a, a ≤ ls.length → (extA ls i a).length = a * i
  | 0, _ => by simp [extA]
  | a + 1, h => by rw [extA_s ls i a (by omega), List.length_append, extA_len ls i a (by omega), extL_len, Nat.succ_mul]
/-- insertion: more, never less -/
theorem insK_le (xs : List Tx) (s : Tx) : ∀ f k, k ≤ xs.length → insK xs s f k ≤ xs.length
  | 0, k, h => h
  | f + 1, k, h => by
    rw [insK]
    split
    · rename_i h2; exact insK_le xs s f (k + 1) h2.1
    · exact h
theorem insS_len (xs : List Tx) (s : Tx) : xs.length ≤ (insS xs s).length := by
  unfold insS
  split
  · exact Nat.le_refl _
  · have := insK_le xs s 200 0 (Nat.zero_le _)
    simp; omega
/-- the children of one list of parents, the first x of them -/
def allP (f : Nat) (l : List Tx) (ps : List Int) (x : Nat) : List Tx :=
  (List.range x).foldl (fun l (x : Nat) => if ps.getD (ps.length - 1) 0 ≤ (x : Int) then allF f l (ps ++ [(x : Int)]) else l) l
theorem allP_s (f : Nat) (l : List Tx) (ps : List Int) (x : Nat) : allP f l ps (x + 1) = if ps.getD (ps.length - 1) 0 ≤ (x : Int) then allF f (allP f l ps x) (ps ++ [(x : Int)]) else allP f l ps x := by
  unfold allP
  rw [List.range_succ, List.foldl_append]; rfl
theorem allF_s (f : Nat) (l : List Tx) (ps : List Int) : allF (f + 1) l ps = allP f l ps ps.length := rfl
theorem allF_len : ∀ (f : Nat) (l : List Tx) (ps : List Int), l.length ≤ (allF f l ps).length
  | 0, l, ps => insS_len l _
  | f + 1, l, ps => by
    rw [allF_s]
    generalize ps.length = n
    induction n with
    | zero => exact Nat.le_refl _
    | succ n ih =>
      rw [allP_s]
      split
      · exact Nat.le_trans ih (allF_len f _ _)
      · exact ih
theorem allP_mono (f : Nat) (l : List Tx) (ps : List Int) (x y : Nat) (h : x ≤ y) : (allP f l ps x).length ≤ (allP f l ps y).length := by
  induction y with
  | zero => have : x = 0 := by omega
            subst this; exact Nat.le_refl _
  | succ y ih =>
    by_cases e : x = y + 1
    · subst e; exact Nat.le_refl _
    · refine Nat.le_trans (ih (by omega)) ?_
      rw [allP_s]
      split
      · exact allF_len f _ _
      · exact Nat.le_refl _
theorem treeP_ext {ps : List Int} {x : Nat} (h : TreeP ps) (hl : ps.length ≤ 11) (hx : x < ps.length) : TreeP (ps ++ [(x : Int)]) := by
  obtain ⟨h1, h2, h3⟩ := h
  refine ⟨by simp; omega, by rw [L_app_l _ _ _ _ (by omega)]; exact h2, fun i hi hi2 => ?_⟩
  simp at hi2
  by_cases e : i < ps.length
  · rw [L_app_l _ _ _ _ e]; exact h3 i hi e
  · rw [L_app_r _ _ _ _ (by omega), show i - ps.length = 0 by omega]
    show 0 ≤ (x : Int) ∧ (x : Int) < (i : Int)
    omega
theorem cmpB_swo : ∀ a b : Tx, Lib.compareBytes a b < 0 ↔ a < b := cmpB_lt
/-- what the program's sorting and striking comes to -/
theorem tcs_compact (n : Nat) (hn : n < 8) (h1 : 1 ≤ n) (ys : List Tx) (hp : ys.Perm ((lstT (n - 1)).map fun l => codeF l 12 0)) (hs : ys.Pairwise fun x y => ¬ y < x) : Lib.compact ys = tcsL n := by
  have H := tc_ok n hn h1
  refine compact_eq ys (tcsL n) hs H.so fun x => ?_
  rw [hp.mem_iff, List.mem_map]
  constructor
  · rintro ⟨l, hl, rfl⟩; exact H.m1 l hl
  · intro hx
    obtain ⟨l, hl, e⟩ := H.m2 x hx
    exact ⟨l, hl, e⟩
theorem tcs_pos (n : Nat) (hn : n < 8) (h1 : 1 ≤ n) : 0 < (tcsL n).length := by
  have H := tc_ok n hn h1
  have h2 : ∀ k, k < 7 → 0 < (lstT k).length := by decide +kernel
  obtain ⟨l, hl⟩ := List.exists_mem_of_length_pos (h2 (n - 1) (by omega))
  exact List.length_pos_of_mem (H.m1 l hl)
theorem compact_le (xs : List Tx) : (Lib.compact xs).length ≤ xs.length := by
  have : ∀ (d : Array Tx) m, (Lib.compactUpTo d m).length ≤ m := by
    intro d m
    induction m with
    | zero => simp [Lib.compactUpTo]
    | succ m ih =>
      rw [Lib.compactUpTo_succ]
      split <;> simp <;> omega
  exact this xs.toArray xs.length
/-! ### the marks of texts -/
def mtD : Nat → Nat → Tx → Tx
  | 0, _, out => out
  | f + 1, k, out => if k = 0 then out else mtD f (k / 10) (UInt8.ofNat (48 + k % 10) :: out)
def mtT (k : Nat) : Tx := if k = 0 then [109, 48] else 109 :: mtD k k []
theorem mtD_z : ∀ f out, mtD f 0 out = out
  | 0, _ => rfl
  | f + 1, out => by rw [mtD, if_pos rfl]
def marksT (k : Nat) : Nat → List Tx
  | 0 => []
  | n + 1 => marksT k n ++ [mtT (k + n)]
theorem marksT_len (k : Nat) : ∀ n, (marksT k n).length = n
  | 0 => rfl
  | n + 1 => by rw [marksT, List.length_append, marksT_len k n]; rfl
theorem marksT_get (k : Nat) : ∀ n j, j < n → (marksT k n).getD j [] = mtT (k + j)
  | 0, j, h => by omega
  | n + 1, j, h => by
    rw [marksT]
    by_cases e : j < n
    · rw [L_app_l _ _ _ _ (by rw [marksT_len]; exact e)]; exact marksT_get k n j e
    · rw [L_app_r _ _ _ _ (by rw [marksT_len]; omega), marksT_len]
      have : j = n := by omega
      subst this
      rw [Nat.sub_self]; rfl
end Go.Proofs.Ytigebaejdghmmaa
