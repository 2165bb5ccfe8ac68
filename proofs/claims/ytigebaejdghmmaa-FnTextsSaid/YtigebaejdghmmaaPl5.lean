/-
  Plain facts about integers as text: no program in sight.
-/
import Derived.Test.YtigebaejdghmmaaPl4
set_option linter.unusedVariables false
namespace Go.Proofs.Ytigebaejdghmmaa
open Go Go.Proofs.Ytigebaejdghmmaa.Ow

/-- the digit d -/
def dg (d : Nat) : UInt8 := UInt8.ofNat (48 + d)
/-- the decimal digits of n -/
def fmtN (n : Nat) : List UInt8 := if n < 10 then [dg n] else fmtN (n / 10) ++ [dg (n % 10)]
termination_by n
decreasing_by omega
/-- an integer as text -/
def fmtI (n : Int) : List UInt8 := if n < 0 then 45 :: fmtN n.natAbs else fmtN n.natAbs
theorem fmtN_lt (n : Nat) (h : n < 10) : fmtN n = [dg n] := by rw [fmtN, if_pos h]
theorem fmtN_ge (n : Nat) (h : ¬ n < 10) : fmtN n = fmtN (n / 10) ++ [dg (n % 10)] := by rw [fmtN, if_neg h]
theorem fmtN_len : ∀ (k n : Nat), n < 10 ^ (k + 1) → 1 ≤ (fmtN n).length ∧ (fmtN n).length ≤ k + 1
  | 0, n, h => by rw [fmtN_lt n (by omega)]; simp
  | k + 1, n, h => by
    by_cases h1 : n < 10
    · rw [fmtN_lt n h1]; simp
    · rw [fmtN_ge n h1]
      have := fmtN_len k (n / 10) (by rw [Nat.pow_succ] at h; omega)
      simp; omega
theorem fmtN_len64 (n : Nat) (h : n ≤ 9223372036854775808) : 1 ≤ (fmtN n).length ∧ (fmtN n).length ≤ 19 := fmtN_len 18 n (by omega)
theorem strOf_dg (d : Nat) : strOf [((48 + d : Nat) : Int)] = [dg d] := rfl
theorem u8w (x : Int) (h1 : 0 ≤ x) (h2 : x ≤ 255) : x = IntKind.u8.wrap x := (IntWalk.u8_in x ⟨h1, h2⟩).symm
theorem i32w (x : Int) (h1 : 0 ≤ x) (h2 : x ≤ 255) : x = IntKind.i32.wrap x := (IntWalk.i32_in x ⟨by omega, by omega⟩).symm
theorem enc_dg (d : Nat) (h : d < 10) : (Utf8.encode ((48 + d : Nat) : Int)).data.toList = [dg d] := by
  revert d; decide

/-- a coloring as a word -/
def wordS (xs : List Int) : List UInt8 := xs.map fun x => dg x.toNat
/-- a text as numbers -/
def psL (s : List UInt8) : List Int := s.map fun b => ((b.toNat : Nat) : Int) - 48
theorem psL_len (s : List UInt8) : (psL s).length = s.length := by simp [psL]
theorem psL_succ (s : List UInt8) (k : Nat) (h : k < s.length) : psL (s.take (k + 1)) = psL (s.take k) ++ [(((s.getD k 0).toNat : Nat) : Int) - 48] := by
  rw [L_succ s k 0 h]; simp only [psL, List.map_append, List.map_cons, List.map_nil]
theorem wordS_psL (s : List UInt8) (h : ColP (psL s)) : wordS (psL s) = s := by
  have h1 : ∀ b ∈ s, dg (((b.toNat : Nat) : Int) - 48).toNat = b := by
    intro b hb
    obtain ⟨i, hi, rfl⟩ := List.getElem_of_mem hb
    have := h.1 i (by rw [psL_len]; exact hi)
    rw [getD_get _ _ _ (by rw [psL_len]; exact hi)] at this
    simp only [psL, List.getElem_map] at this
    have e : 48 + (((s[i].toNat : Nat) : Int) - 48).toNat = s[i].toNat := by omega
    rw [dg, e]; simp
  unfold wordS psL
  rw [List.map_map]
  conv => rhs; rw [← List.map_id s]
  exact List.map_congr_left fun b hb => h1 b hb
theorem wordS_succ (xs : List Int) (k : Nat) (h : k < xs.length) : wordS (xs.take (k + 1)) = wordS (xs.take k) ++ [dg (xs.getD k 0).toNat] := by
  rw [L_succ xs k 0 h]; simp only [wordS, List.map_append, List.map_cons, List.map_nil]
def formatW (xs : List Int) : List UInt8 := if colB xs = true then wordS xs else []

/-- all elements are int64 -/
def In64 (xs : List Int) : Prop := ∀ i, i < xs.length → -9223372036854775808 ≤ xs.getD i 0 ∧ xs.getD i 0 ≤ 9223372036854775807
theorem wfI {n : Int} (h : (Lit.int .i64 n).wf = true) : -9223372036854775808 ≤ n ∧ n ≤ 9223372036854775807 := by
  simp only [Lit.wf, Bool.and_eq_true, decide_eq_true_eq] at h
  exact h
theorem in64_row {w : World} {a : Option Addr} {len cap : Nat} {zs : List Int} (h : IsRow .i64 w a len cap zs) : In64 (zs.take len) := by
  rcases h with ⟨_, _, _, rfl⟩ | ⟨x, _, _, _, _, _, h5⟩
  · intro i hi; simp at hi
  · intro i hi
    rw [getD_get _ _ _ hi]
    exact wfI (h5 _ (List.mem_of_mem_take (List.getElem_mem hi)))

end Go.Proofs.Ytigebaejdghmmaa
