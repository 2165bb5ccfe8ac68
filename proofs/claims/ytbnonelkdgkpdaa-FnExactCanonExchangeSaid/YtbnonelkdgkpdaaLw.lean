/-
  Lists of lists of integers that come in as an argument: what they hold.
-/
import Derived.Test.YtbnonelkdgkpdaaPls
import Derived.Test.YtbnonelkdgkpdaaWmat
import Derived.Deep.Matrix
set_option linter.unusedVariables false
namespace Go.Proofs.Ytbnonelkdgkpdaa
open Go Go.Deep Go.Proofs.Ytbnonelkdgkpdaa.Ow
def IsRows (w : World) (a : Option Addr) (len cap : Nat) (zss : List (List Int)) : Prop :=
  V w [] (fun _ => False) [] (.d false (.sl (.sl .int)) zss) (.slice a len cap) ∧ (∀ i, i < zss.length → In64 (zss.getD i [])) ∧ Lens zss
theorem isRows_nil (w : World) : IsRows w none 0 0 [] :=
  ⟨⟨none, 0, rfl, Nat.le_refl _, fun _ => rfl, .inl rfl⟩, fun i hi => by simp at hi, by decide, fun i hi => by simp at hi⟩
theorem spot_none {w : World} {a : Addr} {v : Value} (h : w.cell? (a.add 0) = some v) : ∃ b o, a = ⟨b, o, none⟩ := by
  have := World.cell?_spot h
  obtain ⟨b, o, sp⟩ := a
  have hs : sp = none := by simpa [Addr.add] using this
  exact ⟨b, o, by rw [hs]⟩
theorem isRows_mk {w : World} {a : Addr} {len cap base : Nat} {A : Nat → Option Addr} {L C : Nat → Nat} {Z : Nat → List Int} (hl : len ≤ cap) (hm : cap ≤ maxLen)
    (hr : ∀ r, r < cap → w.cell? (a.add r) = some (.slice (A r) (L r) (C r)) ∧ L r ≤ C r ∧ C r ≤ maxLen ∧ (Z r).length = C r ∧ (∀ n ∈ Z r, (Lit.int .i64 n).wf = true) ∧ (A r = none → C r = 0) ∧
        ∀ a', A r = some a' → base ≤ a'.block ∧ ∀ c, c < C r → w.cell? (a'.add c) = some (.int .i64 ((Z r).getD c 0))) :
    IsRows w (some a) len cap ((List.range len).map fun r => (Z r).take (L r)) := by
  have hlen : ((List.range len).map fun r => (Z r).take (L r)).length = len := by simp
  have hget : ∀ j (hj : j < ((List.range len).map fun r => (Z r).take (L r)).length), ((List.range len).map fun r => (Z r).take (L r))[j] = (Z j).take (L j) := fun j hj => by simp
  have hin : ∀ j, j < len → ((Z j).take (L j)).length = L j := fun j hj => by
    obtain ⟨_, h1, _, h2, _⟩ := hr j (by omega)
    simp; omega
  refine ⟨⟨some a, cap, by rw [hlen], by rw [hlen]; exact hl, (fun h => by cases h), ?_⟩, fun i hi => ?_, by rw [hlen]; simp [maxLen] at hm; omega, fun i hi => ?_⟩
  · by_cases h0 : len = 0
    · left; subst h0; rfl
    · right
      obtain ⟨b, o, rfl⟩ := spot_none (hr 0 (by omega)).1
      refine ⟨b, o, rfl, (fun hm => by simp at hm), fun j hj => ?_⟩
      have hj' : j < len := by rw [hlen] at hj; exact hj
      obtain ⟨h1, h2, h3, h4, h5, h6, h7⟩ := hr j (by omega)
      rw [addr_add] at h1
      refine ⟨_, h1, ?_⟩
      rw [hget j hj]
      refine ⟨A j, C j, by rw [hin j hj'], by rw [hin j hj']; exact h2, h6, ?_⟩
      by_cases hz : L j = 0
      · left; rw [hz]; rfl
      · right
        cases hA : A j with
        | none => have := h6 hA; omega
        | some a' =>
          obtain ⟨_, hc⟩ := h7 a' hA
          obtain ⟨b', o', rfl⟩ := spot_none (hc 0 (by omega))
          refine ⟨b', o', rfl, (fun hm => by simp at hm), fun c hcl => ⟨.int .i64 ((Z j).getD c 0), ?_, ?_⟩⟩
          · have hcl' : c < L j := by rw [hin j hj'] at hcl; exact hcl
            have := hc c (by omega)
            rwa [addr_add] at this
          · have hcl' : c < L j := by rw [hin j hj'] at hcl; exact hcl
            show Value.int .i64 ((Z j).getD c 0) = .int .i64 (((Z j).take (L j))[c]'hcl)
            rw [List.getElem_take, getD_get _ _ _ (by omega)]
  · have hi' : i < len := by rw [hlen] at hi; exact hi
    rw [getD_get _ _ _ hi, hget i hi]
    obtain ⟨_, _, _, _, h5, _⟩ := hr i (by omega)
    intro c hc
    rw [getD_get _ _ _ hc]
    exact wfI (h5 _ (List.mem_of_mem_take (List.getElem_mem hc)))
  · have hi' : i < len := by rw [hlen] at hi; exact hi
    rw [getD_get _ _ _ hi, hget i hi, hin i hi']
    obtain ⟨_, h2, h3, _⟩ := hr i (by omega)
    simp [maxLen] at h3; omega
end Go.Proofs.Ytbnonelkdgkpdaa
