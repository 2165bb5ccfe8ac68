/-
  Plain facts about joined texts: no program in sight.
-/
import Derived.Test.YtigebaejdghmmaaPl6
import Derived.Lib.Join
set_option linter.unusedVariables false
namespace Go.Proofs.Ytigebaejdghmmaa
open Go Go.Proofs.Ytigebaejdghmmaa.Ow

/-- the first k texts joined -/
def jn (xs : List (List UInt8)) (sep : List UInt8) : Nat → List UInt8
  | 0 => []
  | 1 => xs.getD 0 []
  | k + 2 => jn xs sep (k + 1) ++ sep ++ xs.getD (k + 1) []
theorem jn_s (xs : List (List UInt8)) (sep : List UInt8) (k : Nat) (h : 0 < k) : jn xs sep (k + 1) = jn xs sep k ++ sep ++ xs.getD k [] := by
  obtain ⟨m, rfl⟩ : ∃ m, k = m + 1 := ⟨k - 1, by omega⟩
  rfl
theorem jn_mono (xs : List (List UInt8)) (sep : List UInt8) (k : Nat) : (jn xs sep k).length ≤ (jn xs sep (k + 1)).length := by
  cases k with
  | zero => simp [jn]
  | succ k => rw [jn_s xs sep (k + 1) (by omega)]; simp only [List.length_append]; omega
theorem jn_le (xs : List (List UInt8)) (sep : List UInt8) (k : Nat) : ∀ n, k ≤ n → (jn xs sep k).length ≤ (jn xs sep n).length
  | 0, h => by obtain rfl : k = 0 := by omega
               exact Nat.le_refl _
  | n + 1, h => by
    by_cases e : k = n + 1
    · subst e; exact Nat.le_refl _
    · exact Nat.le_trans (jn_le xs sep k n (by omega)) (jn_mono xs sep n)
theorem jn_tail (x : List UInt8) (r : List (List UInt8)) (sep : List UInt8) : ∀ k, k ≤ r.length → jn (x :: r) sep (k + 1) = x ++ Lib.joinTail sep (r.take k)
  | 0, _ => by simp [jn, Lib.joinTail]
  | k + 1, h => by
    have e := jn_tail x r sep k (by omega)
    have hk : r[k]? = some r[k] := List.getElem?_eq_getElem (by omega)
    rw [jn_s _ _ _ (by omega), e, Lib.joinTail_take_succ sep r k _ hk]
    simp [List.getD, hk, List.append_assoc]
theorem jn_join (xs : List (List UInt8)) (sep : List UInt8) : jn xs sep xs.length = Lib.join xs sep := by
  cases xs with
  | nil => rfl
  | cons x r => rw [List.length_cons, jn_tail x r sep r.length (Nat.le_refl _), List.take_length, Lib.join_cons]
/-- a join is no longer than its parts -/
theorem jn_len (xs : List (List UInt8)) (sep : List UInt8) (m : Nat) (h : ∀ i, i < xs.length → (xs.getD i []).length ≤ m) : ∀ k, k ≤ xs.length → (jn xs sep k).length ≤ k * (sep.length + m)
  | 0, _ => by simp [jn]
  | k + 1, hk => by
    have e := jn_len xs sep m h k (by omega)
    have hx := h k (by omega)
    rw [Nat.succ_mul]
    by_cases h0 : 0 < k
    · rw [jn_s _ _ _ h0]; simp only [List.length_append]; omega
    · obtain rfl : k = 0 := by omega
      simp only [jn]; omega

theorem map_ba : ∀ xs : List (List UInt8), (xs.map (fun l => (⟨l.toArray⟩ : ByteArray))).map (·.data.toList) = xs
  | [] => rfl
  | x :: r => by rw [List.map_cons, List.map_cons, map_ba r]

end Go.Proofs.Ytigebaejdghmmaa
