/-
  Plain facts about texts that are cut at certain signs, and about numbers read from digits: no program in sight.
-/
import Derived.Test.YtigebaejdghmmaaPl7
import Derived.Test.YtigebaejdghmmaaPl5
set_option linter.unusedVariables false
namespace Go.Proofs.Ytigebaejdghmmaa
open Go Go.Proofs.Ytigebaejdghmmaa.Ow
/-- the words cut off and where the next begins, behind the first k signs -/
def spG (p : UInt8 → Bool) (t : List UInt8) : Nat → List (List UInt8) × Nat
  | 0 => ([], 0)
  | k + 1 => if p (t.getD k 0) = true then ((spG p t k).1 ++ [(t.take k).drop (spG p t k).2], k + 1) else spG p t k
def wrdG (p : UInt8 → Bool) (t : List UInt8) : List (List UInt8) := (spG p t t.length).1 ++ [t.drop (spG p t t.length).2]
theorem spG_b (p : UInt8 → Bool) (t : List UInt8) : ∀ k, (spG p t k).1.length ≤ k ∧ (spG p t k).2 ≤ k
  | 0 => ⟨Nat.le_refl _, Nat.le_refl _⟩
  | k + 1 => by
    have h := spG_b p t k
    rw [spG]
    split
    · rw [List.length_append, List.length_singleton]; exact ⟨by omega, Nat.le_refl _⟩
    · omega
def splR (p : UInt8 → Bool) : List UInt8 → List (List UInt8)
  | [] => [[]]
  | c :: t => if p c = true then [] :: splR p t else match splR p t with | [] => [[c]] | h :: r => (c :: h) :: r
def pre (w : List UInt8) : List (List UInt8) → List (List UInt8)
  | [] => [w]
  | h :: r => (w ++ h) :: r
theorem splR_ne (p : UInt8 → Bool) : ∀ t, splR p t ≠ []
  | [] => by simp [splR]
  | c :: t => by
    rw [splR]
    split
    · simp
    · split <;> simp
theorem splR_no (p : UInt8 → Bool) (c : UInt8) (t : List UInt8) (h : p c = false) : splR p (c :: t) = pre [c] (splR p t) := by
  rw [splR, if_neg (by rw [h]; decide)]
  cases h2 : splR p t with
  | nil => rfl
  | cons a r => rfl
theorem pre_pre (w v : List UInt8) : ∀ l, pre w (pre v l) = pre (w ++ v) l
  | [] => rfl
  | h :: r => by simp [pre]
theorem spl_step (p : UInt8 → Bool) (t : List UInt8) : ∀ k, k ≤ t.length → splR p t = (spG p t k).1 ++ pre ((t.take k).drop (spG p t k).2) (splR p (t.drop k))
  | 0, _ => by
    cases h : splR p t with
    | nil => exact (splR_ne p t h).elim
    | cons a r => simp [spG, pre, h]
  | k + 1, hk => by
    have ih := spl_step p t k (by omega)
    have hb := (spG_b p t k).2
    have hd : t.drop k = t.getD k 0 :: t.drop (k + 1) := by rw [getD_get _ _ _ (show k < t.length by omega)]; exact List.drop_eq_getElem_cons (by omega)
    rw [hd] at ih
    rw [spG]
    cases hp : p (t.getD k 0) with
    | true =>
      rw [if_pos rfl]
      rw [splR, if_pos hp] at ih
      rw [ih]
      have e : (t.take (k + 1)).drop (k + 1) = [] := List.drop_eq_nil_of_le (by rw [List.length_take]; omega)
      dsimp only
      rw [e]
      cases h2 : splR p (t.drop (k + 1)) with
      | nil => exact (splR_ne p _ h2).elim
      | cons a r => simp [pre]
    | false =>
      rw [if_neg (by decide)]
      rw [splR_no p _ _ hp, pre_pre] at ih
      rw [ih]
      congr 2
      rw [L_succ t k 0 (by omega), List.drop_append_of_le_length (by rw [List.length_take]; omega)]
/-- cut step by step and cut at once -/
theorem wrdG_eq (p : UInt8 → Bool) (t : List UInt8) : wrdG p t = splR p t := by
  rw [spl_step p t t.length (Nat.le_refl _), List.take_length, List.drop_length]
  simp [wrdG, pre, splR]
theorem spl_word (p : UInt8 → Bool) : ∀ (w t : List UInt8), (∀ c ∈ w, p c = false) → splR p (w ++ t) = pre w (splR p t)
  | [], t, _ => by
    cases h : splR p t with
    | nil => exact (splR_ne p t h).elim
    | cons a r => simp [pre, h]
  | c :: w, t, h => by
    rw [List.cons_append, splR_no p c _ (h c (List.mem_cons_self ..)), spl_word p w t (fun x hx => h x (List.mem_cons_of_mem _ hx)), pre_pre]; rfl
theorem join_cons2 (w v : List UInt8) (r : List (List UInt8)) (c : UInt8) : Lib.join (w :: v :: r) [c] = w ++ c :: Lib.join (v :: r) [c] := by
  simp [Lib.join, Lib.joinTail]
theorem join_single (w : List UInt8) (c : UInt8) : Lib.join [w] [c] = w := by simp [Lib.join, Lib.joinTail]
/-- words that are joined are cut apart again -/
theorem spl_join (p : UInt8 → Bool) (c : UInt8) (hc : p c = true) : ∀ ws : List (List UInt8), ws ≠ [] → (∀ w ∈ ws, ∀ x ∈ w, p x = false) → splR p (Lib.join ws [c]) = ws
  | [], h, _ => (h rfl).elim
  | [w], _, hw => by
    rw [join_single]
    have := spl_word p w [] (hw w (List.mem_cons_self ..))
    rw [List.append_nil] at this
    rw [this]; simp [splR, pre]
  | w :: v :: r, _, hw => by
    rw [join_cons2, spl_word p w _ (hw w (List.mem_cons_self ..)), splR, if_pos hc, spl_join p c hc (v :: r) (by simp) (fun x hx => hw x (List.mem_cons_of_mem _ hx))]
    simp [pre]
/-! ### numbers -/
def digB (c : UInt8) : Bool := decide (48 ≤ c.toNat) && decide (c.toNat ≤ 57)
/-- what the digits say, taken away from 0 -/
def valS (t : List UInt8) : Nat → Int
  | 0 => 0
  | k + 1 => w64 (w64 (10 * valS t k) - (((t.getD k 0).toNat : Int) - 48))
def trimM (s : List UInt8) : List UInt8 := Lib.trimPrefix s [45]
def prsV (s : List UInt8) : Int := if (trimM s).length = s.length then w64 (-valS (trimM s) (trimM s).length) else valS (trimM s) (trimM s).length
/-- a text is a number's -/
def prsB (s : List UInt8) : Bool := (((trimM s).all digB && decide (trimM s ≠ [])) && decide ((trimM s).length ≤ 19)) && decide (fmtI (prsV s) = s)
theorem digit_all : ∀ x : Nat, x < 10 → prsB (fmtI (x : Int)) = true ∧ prsV (fmtI (x : Int)) = (x : Int) ∧ (fmtI (x : Int)).all (fun c => decide (c ≠ 44)) = true ∧ (fmtI (x : Int)).length ≤ 1 := by decide +kernel
end Go.Proofs.Ytigebaejdghmmaa
