/-
  Contracts of the functions that write graphs as text.
-/
import Derived.Test.YtigebaejdghmmaaWdeg
import Derived.Test.YtigebaejdghmmaaWints
set_option linter.unusedVariables false
namespace Go.Proofs.Ytigebaejdghmmaa
open Go Go.Proofs.Ytigebaejdghmmaa.Ow
/-- a pair as text -/
def fmtP (p : List Int) : List UInt8 := fmtI (p.getD 0 0) ++ fmtI (p.getD 1 0)
theorem fmtP_join (p : List Int) (h : p.length = 2) : Lib.join (p.map fmtI) [] = fmtP p := by
  match p, h with
  | [a, b], _ => rw [← jn_join]; simp [jn, fmtP]
/-- edges as text -/
def fmtEs (es : List (List Int)) : List UInt8 := if es.length = 0 then [45] else Lib.join (es.map fmtP) [32]
def fmtG (n g : Int) : List UInt8 := if graphB n g = true then fmtEs (edgL (pairsL n.toNat) g.toNat (pairsL n.toNat).length) else []
theorem fmtP_len (p : List Int) (h : In64 p) (h2 : p.length = 2) : (fmtP p).length ≤ 40 := by
  have h1 := h 0 (by omega)
  have h3 := h 1 (by omega)
  have := fmtI_len _ h1.1 h1.2
  have := fmtI_len _ h3.1 h3.2
  simp only [fmtP, List.length_append]; omega
theorem fmtEs_len (es : List (List Int)) (hl : es.length ≤ 10) (h : ∀ p ∈ es, In64 p ∧ p.length = 2) : (Lib.join (es.map fmtP) [32]).length ≤ 140737488355328 := by
  rw [← jn_join]
  have h := jn_len (es.map fmtP) [32] 40 (fun i hi => by
    have hi2 : i < es.length := by simpa using hi
    rw [getD_get _ _ _ hi, List.getElem_map]
    have := h _ (List.getElem_mem hi2)
    exact fmtP_len _ this.1 this.2) (es.map fmtP).length (Nat.le_refl _)
  rw [List.length_map] at h ⊢
  have : es.length * ([32].length + 40) ≤ 10 * 41 := Nat.mul_le_mul hl (by simp)
  omega
theorem edg_in (n g : Nat) (hn : n < 6) : (edgL (pairsL n) g (pairsL n).length).length ≤ 10 ∧ ∀ p ∈ edgL (pairsL n) g (pairsL n).length, In64 p ∧ p.length = 2 := by
  have h1 := edgL_len (pairsL n) g (pairsL n).length
  have h2 := pairs_short n hn
  refine ⟨by omega, fun p hp => ?_⟩
  have h3 := pairs_get n hn p (edgL_mem _ g p hp)
  refine ⟨fun i hi => ?_, h3.1⟩
  have : i = 0 ∨ i = 1 := by omega
  rcases this with rfl | rfl <;> omega
theorem mapP_succ (es : List (List Int)) (k : Nat) (h : k < es.length) : (es.take (k + 1)).map fmtP = (es.take k).map fmtP ++ [fmtP (es.getD k [])] := by
  rw [L_succ es k [] h, List.map_append]; rfl
/-- impl.FormatGraph -/
theorem impl_FormatGraph (n g : Int) : AC Try.prog 47 [I n, I g] [] [.d true .str (fmtG n g)] [] := by
  refine AC_of tauOk 32 0 [4] Try.func47 rfl (by kernel_rfl) rfl rfl rfl rfl rfl ?_
  refine ⟨[], false, _, _, impl_GraphOk n g, List.nodup_nil, rfl, rfl, trivial, fun h => ?_, fun h => ?_⟩
  · obtain ⟨m, g', rfl, rfl, h1, h5, hg⟩ := graphB_ok h
    have he := edg_in m g' h5
    have hf : fmtG (m : Nat) (g' : Nat) = fmtEs (edgL (pairsL m) g' (pairsL m).length) := by rw [fmtG, if_pos h, Int.toNat_natCast, Int.toNat_natCast]
    have hE : AC Try.prog 101 [I (m : Nat), I (g' : Nat)] [] [.ow 0] [.sl 23 (.sl .int) (edgL (pairsL m) g' (pairsL m).length)] := by
      by_cases h2 : m = 1
      · subst h2; exact impl_edges_one g'
      · exact impl_edges m g' (by omega) h5 hg
    have hfl := fmtEs_len _ he.1 he.2
    have hel : ∀ k, k < (edgL (pairsL m) g' (pairsL m).length).length → In64 ((edgL (pairsL m) g' (pairsL m).length).getD k []) ∧ ((edgL (pairsL m) g' (pairsL m).length).getD k []).length = 2 := fun k hk => by
      rw [getD_get _ _ _ hk]; exact he.2 _ (List.getElem_mem hk)
    rw [hf]
    refine ⟨rfl, by decide, true, ?_⟩
    refine ⟨[], true, _, _, hE, List.nodup_nil, rfl, rfl, trivial, ?_⟩
    generalize edgL (pairsL m) g' (pairsL m).length = es at *
    refine ⟨Nat, fun k => ⟨[(5, .ow 0), (15, .d true (.sl (.sl .int)) es), (16, I es.length), (17, I (k : Nat))], [.sl 9 .str ((es.take k).map fmtP)]⟩, fun k => k ≤ es.length, fun k => es.length - k, 0, Nat.zero_le _,
      ⟨⟨rfl, rfl⟩, ⟨rfl, rfl, rfl, rfl, trivial⟩, rfl, trivial⟩, fun k hk => ?_⟩
    dsimp only at hk
    refine ⟨fun h3 => ?_, fun h3 => ?_⟩
    · have hk2 : k < es.length := by omega
      have hq := hel k hk2
      have hml : ((es.take k).map fmtP).length ≤ 10 := by rw [List.length_map, List.length_take]; omega
      refine ⟨k, rfl, hk2, [], false, _, _, impl_commas true (es.getD k []) [] hq.1 (by omega) (by decide), List.nodup_nil, rfl, rfl, trivial, ?_⟩
      refine ⟨rfl, by decide, false, ?_⟩
      refine ⟨rfl, Nat.zero_le _, rfl, by simp only [List.length_cons, List.length_nil]; omega, rfl, ?_⟩
      exact ⟨((k + 1 : Nat) : Int), w64_eq (by omega) (by omega) (by omega), k + 1, by dsimp only; omega, by dsimp only; omega, ⟨rfl, rfl⟩, ⟨rfl, rfl, rfl, rfl, trivial⟩, rowE (by rw [mapP_succ es k hk2, fmtP_join _ hq.2]), trivial⟩
    · obtain rfl : k = es.length := by omega
      dsimp only; rw [List.take_length]
      have hlm : (es.map fmtP).length = es.length := List.length_map ..
      refine ⟨fun h4 => ?_, fun h4 => ?_⟩
      · exact ⟨none, ⟨retS (by rw [fmtEs, if_pos (by omega)]), trivial⟩, rfl, rfl⟩
      · refine ⟨[], false, _, _, impl_Join false (es.map fmtP) [32] (by omega) hfl, List.nodup_nil, rfl, rfl, trivial, ?_⟩
        exact ⟨none, ⟨retS (by rw [fmtEs, if_neg (by omega)]), trivial⟩, rfl, rfl⟩
  · exact ⟨none, ⟨retS (by rw [fmtG, if_neg (by rw [h]; decide)]), trivial⟩, rfl, rfl⟩
end Go.Proofs.Ytigebaejdghmmaa
