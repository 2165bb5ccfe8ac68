/-
  Contracts of the functions that write lists of words.
-/
import Derived.Test.YtigebaejdghmmaaWfw
import Derived.Test.YtigebaejdghmmaaWmat
set_option linter.unusedVariables false
namespace Go.Proofs.Ytigebaejdghmmaa
open Go Go.Proofs.Ytigebaejdghmmaa.Ow
theorem formatW_len (xs : List Int) : (formatW xs).length ≤ 10 := by
  unfold formatW
  split
  · rename_i h
    have := ((colB_iff xs).1 h).2
    simp [wordS]; omega
  · simp
theorem mapS_succ (xss : List (List Int)) (f : List Int → List UInt8) (k : Nat) (h : k < xss.length) : (xss.take (k + 1)).map f = (xss.take k).map f ++ [f (xss.getD k [])] := by
  rw [L_succ xss k [] h, List.map_append]; rfl
theorem fws_len (xss : List (List Int)) (hs : xss.length ≤ 1048576) : (Lib.join (xss.map formatW) [32]).length ≤ 140737488355328 := by
  have h := jn_len (xss.map formatW) [32] 10 (fun i hi => by
    have hi' : i < xss.length := by simpa using hi
    rw [getD_get _ _ _ hi, List.getElem_map]
    exact formatW_len _) (xss.map formatW).length (Nat.le_refl _)
  rw [jn_join] at h
  simp only [List.length_map, List.length_cons, List.length_nil] at h
  omega
/-- a list of words as text -/
def fmtWs (xss : List (List Int)) : List UInt8 := if xss.length = 0 then [45] else Lib.join (xss.map formatW) [32]
/-- impl.FormatWords -/
theorem impl_FormatWords (sh : Bool) (xss : List (List Int)) (hx : ∀ i, i < xss.length → In64 (xss.getD i [])) (hs : Short xss) : AC Try.prog 34 [.d sh (.sl (.sl .int)) xss] [] [.d true .str (fmtWs xss)] [] := by
  have hl := hs.1
  refine AC_of tauOk 24 0 [2] Try.func34 rfl (by kernel_rfl) rfl rfl rfl rfl rfl ?_
  refine ⟨rfl, by decide, true, ?_⟩
  refine ⟨Nat, fun k => ⟨[(3, .ow 0), (7, .d sh (.sl (.sl .int)) xss), (8, I xss.length), (9, I (k : Nat))], [.sl 9 .str ((xss.take k).map formatW)]⟩, fun k => k ≤ xss.length, fun k => xss.length - k, 0, Nat.zero_le _,
    ⟨⟨rfl, rfl⟩, ⟨rfl, rfl, rfl, rfl, trivial⟩, rfl, trivial⟩, fun k hk => ?_⟩
  dsimp only at hk
  refine ⟨fun h1 => ?_, fun h1 => ?_⟩
  · have hk2 : k < xss.length := by omega
    have hle : ((xss.take k).map formatW).length ≤ 1048576 := by simp; omega
    refine ⟨k, rfl, hk2, [], false, _, _, impl_FormatWord sh (xss.getD k []) (hx k hk2) (hs.2 k hk2), List.nodup_nil, rfl, rfl, trivial, ?_⟩
    refine ⟨rfl, by decide, false, ?_⟩
    refine ⟨rfl, Nat.zero_le _, rfl, by simp only [List.length_cons, List.length_nil]; omega, rfl, ?_⟩
    exact ⟨((k + 1 : Nat) : Int), w64_eq (by omega) (by omega) (by omega), k + 1, by dsimp only; omega, by dsimp only; omega, ⟨rfl, rfl⟩, ⟨rfl, rfl, rfl, rfl, trivial⟩, rowE (mapS_succ xss formatW k hk2).symm, trivial⟩
  · obtain rfl : k = xss.length := by omega
    dsimp only; rw [List.take_length]
    have hlm : (xss.map formatW).length = xss.length := List.length_map ..
    refine ⟨fun h2 => ?_, fun h2 => ?_⟩
    · exact ⟨none, ⟨retS (by rw [fmtWs, if_pos (by omega)]), trivial⟩, rfl, rfl⟩
    · refine ⟨[], false, _, _, impl_Join false (xss.map formatW) [32] (by omega) (fws_len xss hl), List.nodup_nil, rfl, rfl, trivial, ?_⟩
      exact ⟨none, ⟨retS (by rw [fmtWs, if_neg (by omega)]), trivial⟩, rfl, rfl⟩
end Go.Proofs.Ytigebaejdghmmaa
