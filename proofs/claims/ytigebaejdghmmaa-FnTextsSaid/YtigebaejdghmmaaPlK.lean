/-
  Plain facts about the codes of all trees: no program in sight.
-/
import Derived.Test.YtigebaejdghmmaaPl8
import Derived.Test.YtigebaejdghmmaaPl
import Derived.Lib.SlicesCompact
import Derived.Lib.Bytealg
set_option linter.unusedVariables false
namespace Go.Proofs.Ytigebaejdghmmaa
open Go Go.Proofs.Ytigebaejdghmmaa.Ow
abbrev Tx := List UInt8
theorem cmpB_lt : ∀ (a b : Tx), Lib.compareBytes a b < 0 ↔ a < b
  | [], [] => by simp [Lib.compareBytes]
  | [], _ :: _ => by simp [Lib.compareBytes]
  | _ :: _, [] => by simp [Lib.compareBytes]
  | a :: l, b :: bs => by
    rw [Lib.compareBytes, List.cons_lt_cons_iff]
    by_cases h1 : a < b
    · simp [h1]
    · by_cases h2 : b < a
      · rw [if_neg h1, if_pos h2]
        have : a ≠ b := fun e => by subst e; exact h1 h2
        simp [h1, this]
      · have e : a = b := by
          have h1 : ¬ a.toNat < b.toNat := h1
          have h2 : ¬ b.toNat < a.toNat := h2
          exact UInt8.toNat_inj.1 (by omega)
        subst e
        rw [if_neg h1, if_neg h1, cmpB_lt l bs]
        simp [h1]
theorem ltS_trans {a b c : Tx} (h1 : a < b) (h2 : b < c) : a < c := List.lt_trans h1 h2
theorem ltS_irrefl (a : Tx) : ¬ a < a := List.lt_irrefl a
theorem ltS_tri {a b : Tx} (h1 : ¬ a < b) (h2 : ¬ b < a) : a = b := List.le_antisymm (List.not_lt.1 h2) (List.not_lt.1 h1)
theorem ltS_le {a b c : Tx} (h1 : ¬ b < a) (h2 : b < c) : a < c := by
  by_cases e : a < b
  · exact ltS_trans e h2
  · rw [ltS_tri e h1]; exact h2
theorem compact_up (d : Array Tx) (hs : ∀ i j, i < j → j < d.size → ¬ d[j]! < d[i]!) : ∀ m, m ≤ d.size →
    (Lib.compactUpTo d m).Pairwise (· < ·) ∧ (∀ x ∈ Lib.compactUpTo d m, ∃ j, j < m ∧ d[j]! = x) ∧ ∀ j, j < m → d[j]! ∈ Lib.compactUpTo d m
  | 0, _ => ⟨by simp [Lib.compactUpTo], fun x hx => by simp [Lib.compactUpTo] at hx, fun j hj => by omega⟩
  | m + 1, hm => by
    obtain ⟨h1, h2, h3⟩ := compact_up d hs m (by omega)
    rw [Lib.compactUpTo_succ]
    by_cases hk : Lib.keeps d m = true
    · rw [if_pos hk]
      refine ⟨List.pairwise_append.2 ⟨h1, List.pairwise_singleton _ _, fun x hx y hy => ?_⟩, fun x hx => ?_, fun j hj => ?_⟩
      · obtain rfl : y = d[m]! := by simpa using hy
        obtain ⟨j, hj, rfl⟩ := h2 x hx
        have hne : d[m]! ≠ d[m - 1]! := by
          have := of_decide_eq_true hk
          rcases this with e | e
          · omega
          · exact e
        have hlt : d[m - 1]! < d[m]! := by
          by_cases e : d[m - 1]! < d[m]!
          · exact e
          · exact (hne (ltS_tri (hs (m - 1) m (by omega) (by omega)) e)).elim
        by_cases e : j = m - 1
        · rw [e]; exact hlt
        · exact ltS_le (hs j (m - 1) (by omega) (by omega)) hlt
      · rcases List.mem_append.1 hx with hx | hx
        · obtain ⟨j, hj, e⟩ := h2 x hx; exact ⟨j, by omega, e⟩
        · exact ⟨m, by omega, (by simpa using hx : x = d[m]!).symm⟩
      · by_cases e : j = m
        · subst e; simp
        · exact List.mem_append_left _ (h3 j (by omega))
    · rw [if_neg hk, List.append_nil]
      refine ⟨h1, fun x hx => ?_, fun j hj => ?_⟩
      · obtain ⟨j, hj, e⟩ := h2 x hx; exact ⟨j, by omega, e⟩
      · by_cases e : j = m
        · subst e
          have hm0 : 0 < j := by
            by_cases e : j = 0
            · subst e; exact (hk (by simp [Lib.keeps])).elim
            · omega
          have he : d[j]! = d[j - 1]! := by
            by_cases e : d[j]! = d[j - 1]!
            · exact e
            · exact (hk (Lib.keeps_pos e)).elim
          rw [he]; exact h3 (j - 1) (by omega)
        · exact h3 j (by omega)
/-- what Compact makes of a sorted list is the strictly ascending list of the same elements -/
theorem compact_eq (zs S : List Tx) (h1 : zs.Pairwise fun x y => ¬ y < x) (h2 : S.Pairwise (· < ·)) (h3 : ∀ x, x ∈ zs ↔ x ∈ S) : Lib.compact zs = S := by
  have hs : ∀ i j, i < j → j < zs.toArray.size → ¬ zs.toArray[j]! < zs.toArray[i]! := fun i j hij hj => by
    have hj' : j < zs.length := by simpa using hj
    rw [getElem!_pos zs.toArray j hj, getElem!_pos zs.toArray i (by omega)]
    exact (List.pairwise_iff_getElem.1 h1) i j (by omega) hj' hij
  obtain ⟨g1, g2, g3⟩ := compact_up zs.toArray hs zs.length (by simp)
  have hm : ∀ x, x ∈ Lib.compact zs ↔ x ∈ S := fun x => by
    rw [← h3]
    constructor
    · intro hx
      obtain ⟨j, hj, rfl⟩ := g2 x hx
      rw [getElem!_pos zs.toArray j (by simpa using hj)]
      simp
    · intro hx
      obtain ⟨j, hj, rfl⟩ := List.getElem_of_mem hx
      have := g3 j hj
      rwa [getElem!_pos zs.toArray j (by simpa using hj)] at this
  have nd : ∀ l : List Tx, l.Pairwise (· < ·) → l.Nodup := fun l h => h.imp fun {a b} h e => by subst e; exact ltS_irrefl _ h
  have hp : (Lib.compact zs).Perm S := (List.perm_ext_iff_of_nodup (nd _ g1) (nd _ h2)).2 hm
  exact List.Perm.eq_of_pairwise (le := (· < ·)) (fun a b _ _ h1 h2 => (ltS_irrefl a (ltS_trans h1 h2)).elim) g1 h2 hp
/-! ### all lists of parents, all codes -/
def lstT : Nat → List (List Int)
  | 0 => [[-1]]
  | i + 1 => (lstT i).flatMap fun l => (List.range (i + 1)).map fun (x : Nat) => l ++ [(x : Int)]
def insK (xs : List Tx) (s : Tx) : Nat → Nat → Nat
  | 0, k => k
  | f + 1, k => if k < xs.length ∧ xs.getD k [] < s then insK xs s f (k + 1) else k
def insS (xs : List Tx) (s : Tx) : List Tx :=
  if insK xs s 200 0 < xs.length ∧ xs.getD (insK xs s 200 0) [] = s then xs else xs.take (insK xs s 200 0) ++ [s] ++ xs.drop (insK xs s 200 0)
/-- all codes of trees that continue some parents, added to an ascending list -/
def allF : Nat → List Tx → List Int → List Tx
  | 0, l, ps => insS l (codeF ps 12 0)
  | f + 1, l, ps => (List.range ps.length).foldl (fun l (x : Nat) => if ps.getD (ps.length - 1) 0 ≤ (x : Int) then allF f l (ps ++ [(x : Int)]) else l) l
def tcsL (n : Nat) : List Tx := allF (n - 1) [] [-1]
def tcCheck (n : Nat) : Bool := decide ((tcsL n).Pairwise (· < ·)) && (((lstT (n - 1)).map fun l => codeF l 12 0).all (fun c => (tcsL n).contains c) && (tcsL n).all (fun c => ((lstT (n - 1)).map fun l => codeF l 12 0).contains c)) &&
  ((lstT (n - 1)).all (fun l => treeB l && decide (l.length = n)) && (decide ((tcsL n).length ≤ 48) && decide ((lstT (n - 1)).length ≤ 720)))
set_option maxRecDepth 100000
theorem tc_all : ∀ n, n < 8 → 1 ≤ n → tcCheck n = true := by decide +kernel
end Go.Proofs.Ytigebaejdghmmaa
