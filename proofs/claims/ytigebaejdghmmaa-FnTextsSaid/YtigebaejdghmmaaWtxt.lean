/-
  FnTexts: permutations, words, graphs and trees are recovered from their text.
-/
import Derived.Test.YtigebaejdghmmaaWdrt
import Derived.Test.YtigebaejdghmmaaWprs
import Derived.Test.YtigebaejdghmmaaWpg
import Derived.Test.YtigebaejdghmmaaWfw
import Derived.Test.YtigebaejdghmmaaWread
import Derived.Test.YtigebaejdghmmaaPlT
set_option linter.unusedVariables false
namespace Go.Proofs.Ytigebaejdghmmaa
open Go Go.Proofs.Ytigebaejdghmmaa.Ow
theorem decR (code : List Int) (m r : Nat) (hr : 1 ≤ r) : ∃ n : Nat, 1 + (mkNum code m).tmod (r : Nat) = n ∧ 1 ≤ n ∧ n ≤ r := by
  have hb := mkNum_b code m
  have ht := Int.tmod_nonneg (r : Int) hb.1
  have ht2 := Int.tmod_lt_of_pos (mkNum code m) (show (0 : Int) < (r : Int) by omega)
  exact ⟨(1 + (mkNum code m).tmod (r : Nat)).toNat, by omega, by omega, by omega⟩
theorem decP (code : List Int) (k m : Nat) : ∃ g : Nat, (mkNum code k).tmod ((2 ^ m : Nat) : Int) = g ∧ g < 2 ^ m := by
  have hb := mkNum_b code k
  have hp : 0 < 2 ^ m := Nat.pos_of_ne_zero (by simp)
  have ht := Int.tmod_nonneg ((2 ^ m : Nat) : Int) hb.1
  have ht2 := Int.tmod_lt_of_pos (mkNum code k) (show (0 : Int) < ((2 ^ m : Nat) : Int) by omega)
  exact ⟨((mkNum code k).tmod ((2 ^ m : Nat) : Int)).toNat, by omega, by omega⟩
theorem cpI_at (n : Nat) (hn : n < 6) (h1 : 1 ≤ n) : ((n : Int) * ((n - 1 : Nat) : Int)).tdiv 2 = ((cp n : Nat) : Int) ∧ 0 ≤ (n : Int) * ((n - 1 : Nat) : Int) ∧ (n : Int) * ((n - 1 : Nat) : Int) ≤ 20 :=
  (by decide : ∀ n : Nat, n < 6 → 1 ≤ n → ((n : Int) * ((n - 1 : Nat) : Int)).tdiv 2 = ((cp n : Nat) : Int) ∧ 0 ≤ (n : Int) * ((n - 1 : Nat) : Int) ∧ (n : Int) * ((n - 1 : Nat) : Int) ≤ 20) n hn h1
theorem psL_wordS (xs : List Int) (h : ∀ x ∈ xs, 0 ≤ x ∧ x < 10) : psL (wordS xs) = xs := by
  unfold psL wordS
  rw [List.map_map]
  have : ∀ x ∈ xs, ((fun b : UInt8 => ((b.toNat : Nat) : Int) - 48) ∘ fun x : Int => dg x.toNat) x = x := fun x hx => by
    have h1 := h x hx
    have h2 := (by decide : ∀ d, d < 10 → (dg d).toNat = d + 48) x.toNat (by omega)
    show (((dg x.toNat).toNat : Nat) : Int) - 48 = x
    rw [h2]; omega
  rw [List.map_congr_left this, List.map_id']
theorem drw_col (code : List Int) (c : Cu) (n : Nat) (h1 : 1 ≤ n) (h2 : n ≤ 10) : colB (drwC code 4 c n).2 = true := by
  have hl := drwC_len code 4 c n
  have hb := drwC_b code (show 1 ≤ 4 by decide) c n
  unfold colB
  rw [hl, decide_eq_true h1, decide_eq_true h2]
  simp only [Bool.and_true, List.all_eq_true]
  intro x hx
  have := hb x hx
  have : x = 0 ∨ x = 1 ∨ x = 2 ∨ x = 3 := by omega
  rcases this with rfl | rfl | rfl | rfl <;> decide
/-- laws.FnTexts -/
theorem laws_FnTexts (code : List Int) : AC Try.prog 8 [.d true (.sl .u8) code] [] [.d true .bool true] [] := by
  obtain ⟨d, hd, hd1, hd2⟩ := decR code 1 10 (by decide)
  obtain ⟨m, hm, hm1, hm2⟩ := decR code 3 10 (by decide)
  obtain ⟨n, hn, hn1, hn2⟩ := decR code 5 5 (by decide)
  obtain ⟨g, hg, hglt⟩ := decP code 7 (cp n)
  obtain ⟨hT, hl9⟩ := mkTree_ok code (cu0 code 40)
  have hP := mkPerm_ok code (cu0 code 0) hd1 hd2
  generalize hp : (mkPerm code (cu0 code 0) d).2 = p at *
  have hC := drw_col code (cu0 code 20) m hm1 hm2
  have hCl := drwC_len code 4 (cu0 code 20) m
  have hCb := drwC_b code (show 1 ≤ 4 by decide) (cu0 code 20) m
  generalize hw : (drwC code 4 (cu0 code 20) m).2 = w at *
  generalize ht : (mkTree code (cu0 code 40) 9).2 = t at *
  have hcp := cp_le n (by omega)
  have hmul := cpI_at n (by omega) hn1
  have hb7 := mkNum_b code 7
  have hB := (treeB_iff _).2 hT
  obtain ⟨r1, r2, r3, r4, r5, r6⟩ := read_back hT
  generalize hu : (rdT (treeCode t)).1 = u at *
  have hBu := (treeB_iff _).2 r2
  have hR := impl_ReadTree (treeCode t) r1
  rw [hu] at hR
  have hS : sameB u t = true := by rw [sameB, hB, hBu, r4]; simp
  have hw64 : In64 w := fun i hi => by
    have := hCb (w.getD i 0) (by rw [getD_get _ _ _ hi]; exact List.getElem_mem _)
    omega
  have hps : psL (formatW w) = w := by rw [formatW, if_pos hC]; exact psL_wordS w fun x hx => by have := hCb x hx; omega
  have hfl : (formatW w).length ≤ 1048576 := by
    rw [formatW, if_pos hC, wordS, List.length_map]; omega
  have hPW := impl_ParseWord (formatW w) hfl (by rw [hps]; exact hC)
  rw [hps] at hPW
  have hparg := parG_fmt n g hn1 (by omega) hglt
  have hPG := impl_ParseGraph_loop n hn1 (by omega) (fmtG (n : Nat) (g : Nat)) [I (g : Nat), .d true .bool true] (fun h => by
    have : parB n (fmtG (n : Nat) (g : Nat)) = true := decide_eq_true (by rw [hparg])
    rw [this] at h; cases h) (fun _ => by rw [hparg])
  have hpl := hP.2
  refine AC_of tauOk 109 0 [2] Try.func8 rfl (by kernel_rfl) rfl rfl rfl rfl rfl ?_
  refine ⟨fun h1 => ?_, fun h1 => ?_⟩
  · exact ⟨none, ⟨rfl, trivial⟩, rfl, rfl⟩
  have hl : code.length ≤ 1048576 := by omega
  have hMP := spec_MakePerm code hl 0 d (by decide) hd1 hd2
  rw [hp] at hMP
  have hMC := spec_MakeColors code hl 20 m 4 (by decide) hm1 hm2 (by decide) (by decide)
  rw [hw] at hMC
  have hMT := spec_MakeTree code hl 40 9 (by decide) (by decide) (by decide)
  rw [ht] at hMT
  refine ⟨[], false, _, _, spec_MakeNum code hl 1 (by decide), List.nodup_nil, rfl, rfl, trivial, by decide, _, rfl, (d : Int), w64_eq hd.symm (by omega) (by omega), [], true, _, _, hMP, List.nodup_nil, rfl, rfl, trivial, ?_⟩
  refine ⟨[], false, _, _, spec_MakeNum code hl 3 (by decide), List.nodup_nil, rfl, rfl, trivial, by decide, _, rfl, (m : Int), w64_eq hm.symm (by omega) (by omega), [], true, _, _, hMC, List.nodup_nil, rfl, rfl, trivial, ?_⟩
  refine ⟨[], false, _, _, spec_MakeNum code hl 5 (by decide), List.nodup_nil, rfl, rfl, trivial, by decide, _, rfl, (n : Int), w64_eq hn.symm (by omega) (by omega), ?_⟩
  have h2p : (2 ^ cp n : Nat) ≤ 1024 := (by decide : ∀ n, n < 6 → 2 ^ cp n ≤ 1024) n (by omega)
  have h2q : 0 < 2 ^ cp n := Nat.pos_of_ne_zero (by simp)
  refine ⟨none, by kernel_rfl, _, _, spec_MakeNum code hl 7 (by decide), rfl, ((n - 1 : Nat) : Int), w64_eq (by omega) (by omega) (by omega), (n : Int) * ((n - 1 : Nat) : Int), w64_eq rfl (by omega) (by omega), by decide, ((cp n : Nat) : Int), w64_eq hmul.1.symm (by omega) (by omega), Int.natCast_nonneg _, ((2 ^ cp n : Nat) : Int), shl_eq _ (by omega), by omega, (g : Int), hg.symm, ?_⟩
  refine ⟨[], true, _, _, hMT, List.nodup_nil, rfl, rfl, trivial, ?_⟩
  refine ⟨[], false, _, _, impl_FormatPerm_ok true p hP.1, List.nodup_nil, rfl, rfl, trivial, [], true, _, _, impl_ParsePerm_ok p hP.1, List.nodup_nil, rfl, rfl, trivial, fun _ => ?_, nofun⟩
  refine ⟨[], false, _, _, impl_FormatWord true w hw64 (by omega), List.nodup_nil, rfl, rfl, trivial, [], true, _, _, hPW, List.nodup_nil, rfl, rfl, trivial, fun _ => ?_, nofun⟩
  refine ⟨[], false, _, _, impl_FormatGraph (n : Nat) (g : Nat), List.nodup_nil, rfl, rfl, trivial, [], false, _, _, hPG, List.nodup_nil, rfl, rfl, trivial, fun _ => ?_, nofun⟩
  refine ⟨[], false, _, _, impl_TreeCode true t (by omega), List.nodup_nil, rfl, rfl, trivial, [], true, _, _, hR, List.nodup_nil, rfl, rfl, trivial, fun _ => ?_, nofun⟩
  have hST := impl_SameTree true true u t (by omega) (by omega)
  rw [hS] at hST
  refine ⟨[], false, _, _, laws_same true true p (by omega), List.nodup_nil, rfl, rfl, trivial, fun _ => ?_, nofun⟩
  refine ⟨[], false, _, _, laws_same true true w (by omega), List.nodup_nil, rfl, rfl, trivial, fun _ => ?_, nofun⟩
  refine ⟨fun _ => ?_, fun h => (h rfl).elim⟩
  refine ⟨fun _ => ?_, fun h => (h (by omega)).elim⟩
  refine ⟨[], false, _, _, hST, List.nodup_nil, rfl, rfl, trivial, fun _ => ?_, nofun⟩
  exact ⟨none, ⟨rfl, trivial⟩, rfl, rfl⟩
end Go.Proofs.Ytigebaejdghmmaa
