/-
  Part 5 of the texts that the claim rests on: Wcl, Wxch, Worb, Wcur, Wdrw, Wcls, ShelfK, Wst, Wftm, Wcix, Wpln, Wfw, Wfws, Wnil, PlS0, Wtree, Wcode.
  No condition beyond the given program.
-/
import Derived.Test.YtacjiemkbhhhoaaGreatDoorHd
set_option linter.unusedVariables false
set_option linter.unusedSimpArgs false
set_option linter.unusedVariables false
set_option linter.unusedSimpArgs false
namespace Go.Proofs.YtacjiemkbhhhoaaGreatDoor
open Go Go.Proofs.YtacjiemkbhhhoaaGreatDoor.Ow
theorem pow_le {k c d : Nat} (hk : k ≤ 4) (hc : c ≤ d) (hd : d ≤ 10) : k ^ c ≤ 1048576 := by
  refine Nat.le_trans (Nat.pow_le_pow_left hk c) (Nat.le_trans (Nat.pow_le_pow_right (by decide) (show c ≤ 10 by omega)) (by decide))
/-- impl.power -/
theorem impl_power (k c : Nat) (hk : k ≤ 4) (hc : c ≤ 10) : AC Tryz.prog 269 [I (k : Nat), I (c : Nat)] [] [I (k ^ c : Nat)] [] := by
  refine AC_of tauOk 14 0 [4] Tryz.func269 rfl (by kernel_rfl) rfl rfl rfl rfl rfl ?_
  refine ⟨Nat, fun j => ⟨[(0, I (k : Nat)), (5, I (k ^ j : Nat)), (6, I (c : Nat)), (7, I (j : Nat))], []⟩, fun j => j ≤ c, fun j => c - j, 0, Nat.zero_le _,
    ⟨⟨rfl, rfl⟩, ⟨rfl, rfl, rfl, rfl, trivial⟩, trivial⟩, fun j hj => ?_⟩
  dsimp only at hj
  refine ⟨fun h2 => ?_, fun h2 => ?_⟩
  · have := pow_le hk (show j + 1 ≤ c by omega) hc
    refine ⟨((k ^ (j + 1) : Nat) : Int), w64_eq (by rw [Nat.pow_succ, Int.natCast_mul]) (Int.le_trans (by decide) (Int.natCast_nonneg _)) (by omega), ?_⟩
    exact ⟨((j + 1 : Nat) : Int), w64_eq (by omega) (by omega) (by omega), j + 1, by dsimp only; omega, by dsimp only; omega, ⟨rfl, rfl⟩, ⟨rfl, rfl, rfl, rfl, trivial⟩, trivial⟩
  · obtain rfl : j = c := by omega
    exact ⟨none, ⟨rfl, trivial⟩, rfl, rfl⟩
/-- impl.CountCycles -/
theorem impl_CountCycles (s : Bool) (q : List Int) (hq : PermP q) : AC Tryz.prog 270 [.d s (.sl .int) q] [] [I (cycL q).length] [] := by
  refine AC_of tauOk 6 0 [2] Tryz.func270 rfl (by kernel_rfl) rfl rfl rfl rfl rfl ?_
  refine ⟨[], true, _, _, impl_CyclesOf s q hq, List.nodup_nil, rfl, rfl, trivial, ?_⟩
  exact ⟨none, ⟨rfl, trivial⟩, rfl, rfl⟩
def sumC (g : List (List Int)) (k : Nat) : Nat → Nat
  | 0 => 0
  | a + 1 => sumC g k a + k ^ (cycL (g.getD a [])).length
theorem sumC_le (g : List (List Int)) (k : Nat) (hk : k ≤ 4) (hc : ∀ a, a < g.length → (cycL (g.getD a [])).length ≤ 10) : ∀ a, a ≤ g.length → sumC g k a ≤ a * 1048576
  | 0, _ => by simp [sumC]
  | a + 1, ha => by
    have h1 := sumC_le g k hk hc a (by omega)
    have h2 := pow_le hk (Nat.le_refl (cycL (g.getD a [])).length) (hc a (by omega))
    rw [sumC]; omega
/-- what is counted -/
def colI (g : List (List Int)) (k : Int) : Int := if gokB g = true ∧ 0 ≤ k ∧ k ≤ 4 then ((sumC g k.toNat g.length / g.length : Nat) : Int) else -1
structure ColOk (g : List (List Int)) : Prop where
  gr : GrpP g
  p : ∀ a, a < g.length → PermP (g.getD a [])
  c1 : ∀ a, a < g.length → (cycL (g.getD a [])).length ≤ 10
theorem col_ok {g : List (List Int)} (hg : gokB g = true) : ColOk g := by
  have hG := (gokB_iff g).1 hg
  have hp : ∀ a, a < g.length → PermP (g.getD a []) := fun a ha => (gok1_p (hG.o1 a ha)).1
  exact ⟨hG, hp, fun a ha => (cyc_small (hp a ha)).1⟩
/-- impl.CountColorings -/
theorem impl_CountColorings (sh : Bool) (g : List (List Int)) (k : Int) (hl : g.length ≤ 1048576) (hx : ∀ i, i < g.length → (g.getD i []).length ≤ 1048576) : AC Tryz.prog 174 [.d sh (.sl (.sl .int)) g, I k] [] [I (colI g k)] [] := by
  refine AC_of tauOk 36 0 [4] Tryz.func174 rfl (by kernel_rfl) rfl rfl rfl rfl rfl ?_
  refine ⟨[], false, _, _, impl_GroupOk sh g hl hx, List.nodup_nil, rfl, rfl, trivial, fun hg => ?_, fun hg => ?_⟩
  · refine ⟨fun hk => ?_, fun hk => ?_⟩
    · exact ⟨none, ⟨retI (by rw [colI, if_neg (fun e => by omega)]), trivial⟩, rfl, rfl⟩
    refine ⟨fun hk4 => ?_, fun hk4 => ?_⟩
    · exact ⟨none, ⟨retI (by rw [colI, if_neg (fun e => by omega)]), trivial⟩, rfl, rfl⟩
    have hk : 0 ≤ k ∧ k ≤ 4 := by omega
    obtain ⟨K, rfl⟩ : ∃ K : Nat, k = (K : Int) := ⟨k.toNat, by omega⟩
    have C := col_ok hg
    have hg1 := C.gr.l1
    have hg2 := C.gr.l2
    have hB := sumC_le g K (by omega) C.c1
    have eI : colI g (K : Int) = ((sumC g K g.length / g.length : Nat) : Int) := by rw [colI, if_pos ⟨hg, hk⟩, Int.toNat_natCast]
    rw [eI]
    refine ⟨Nat, fun a => ⟨[(0, .d sh (.sl (.sl .int)) g), (1, I (K : Nat)), (5, I (sumC g K a : Nat)), (19, .d sh (.sl (.sl .int)) g), (20, I g.length), (21, I (a : Nat))], []⟩, fun a => a ≤ g.length, fun a => g.length - a, 0, Nat.zero_le _,
      ⟨⟨rfl, rfl⟩, ⟨rfl, rfl, rfl, rfl, rfl, rfl, trivial⟩, trivial⟩, fun a ha => ?_⟩
    dsimp only at ha
    refine ⟨fun h2 => ?_, fun h2 => ?_⟩
    · have ha2 : a < g.length := by omega
      have hB1 := hB (a + 1) (by omega)
      refine ⟨a, rfl, ha2, [], false, _, _, impl_CountCycles sh (g.getD a []) (C.p a ha2), List.nodup_nil, rfl, rfl, trivial, [], false, _, _, impl_power K (cycL (g.getD a [])).length (by omega) (C.c1 a ha2), List.nodup_nil, rfl, rfl, trivial, ?_⟩
      refine ⟨((sumC g K (a + 1) : Nat) : Int), w64_eq (by rw [sumC]; omega) (by omega) (by omega), ?_⟩
      exact ⟨((a + 1 : Nat) : Int), w64_eq (by omega) (by omega) (by omega), a + 1, by dsimp only; omega, by dsimp only; omega, ⟨rfl, rfl⟩, ⟨rfl, rfl, rfl, rfl, rfl, rfl, trivial⟩, trivial⟩
    · obtain rfl : a = g.length := by omega
      have hBg := hB _ (Nat.le_refl _)
      have hd : sumC g K g.length / g.length ≤ sumC g K g.length := Nat.div_le_self _ _
      refine ⟨by omega, ((sumC g K g.length / g.length : Nat) : Int), w64_eq (Int.ofNat_tdiv _ _) (Int.le_trans (by decide) (Int.natCast_nonneg _)) (by omega), ?_⟩
      exact ⟨none, ⟨rfl, trivial⟩, rfl, rfl⟩
  · exact ⟨none, ⟨retI (by rw [colI, if_neg (fun e => by rw [hg] at e; cases e.1)]), trivial⟩, rfl, rfl⟩
theorem div_lt64 (x y B : Nat) (h : x ≤ B) (hB : B ≤ 9223372036854775807) : -9223372036854775808 ≤ ((x / y : Nat) : Int) ∧ ((x / y : Nat) : Int) ≤ 9223372036854775807 := by
  have : x / y ≤ x := Nat.div_le_self _ _
  exact ⟨Int.le_trans (by decide) (Int.natCast_nonneg _), by omega⟩
theorem colI_b (g : List (List Int)) (k : Int) : -9223372036854775808 ≤ colI g k ∧ colI g k ≤ 9223372036854775807 := by
  unfold colI
  split
  · rename_i h
    have C := col_ok h.1
    have hB := sumC_le g k.toNat (by omega) C.c1 g.length (Nat.le_refl _)
    exact div_lt64 _ _ 125829120 (by have := C.gr.l2; omega) (by omega)
  · omega
theorem cexI_b (g : List (List Int)) (k : Int) : -9223372036854775808 ≤ cexI g k ∧ cexI g k ≤ 9223372036854775807 := by
  unfold cexI
  split
  · rename_i h
    have C := cex_ok h.1 (k := k.toNat) (by omega) (by omega)
    have hB := sumG_le g (symL k.toNat) (fun b hb => by have := (C.s b hb).2; omega) C.sy.l2 C.c1 g.length (Nat.le_refl _)
    exact div_lt64 _ _ 15099494400 (by have := C.gr.l2; omega) (by omega)
  · omega
def clnS (g : List (List Int)) (k : Int) : List UInt8 := if gokB g = true ∧ 1 ≤ k ∧ k ≤ 4 then
  ((((([111, 114, 100, 101, 114, 32] ++ fmtI (g.length : Int)) ++ [32, 99, 111, 108, 111, 114, 105, 110, 103, 115, 32]) ++ fmtI (colI g k)) ++ [32, 101, 120, 99, 104, 97, 110, 103, 101, 100, 32]) ++ fmtI (cexI g k)) else [110, 111, 110, 101]
theorem fI_len (n : Int) (h : -9223372036854775808 ≤ n ∧ n ≤ 9223372036854775807) : (fmtI n).length ≤ 30 := Nat.le_trans (fmtI_len n h.1 h.2) (by decide)
/-- impl.CountLine -/
theorem impl_CountLine (sh : Bool) (g : List (List Int)) (k : Int) (hl : g.length ≤ 1048576) (hx : ∀ i, i < g.length → (g.getD i []).length ≤ 1048576) : AC Tryz.prog 81 [.d sh (.sl (.sl .int)) g, I k] [] [.d true .str (clnS g k)] [] := by
  have b1 := colI_b g k
  have b2 := cexI_b g k
  have l0 := fI_len (g.length : Int) (by omega)
  have l1 := fI_len (colI g k) b1
  have l2 := fI_len (cexI g k) b2
  refine AC_of tauOk 29 0 [4] Tryz.func81 rfl (by kernel_rfl) rfl rfl rfl rfl rfl ?_
  refine ⟨[], false, _, _, impl_GroupOk sh g hl hx, List.nodup_nil, rfl, rfl, trivial, fun hg => ?_, fun hg => ?_⟩
  · refine ⟨[], false, _, _, impl_isColors _, List.nodup_nil, rfl, rfl, trivial, fun hk => ?_, fun hk => ?_⟩
    · simp only [Bool.and_eq_true, decide_eq_true_eq] at hk
      refine ⟨[], false, _, _, impl_FormatInt (g.length : Int) (by omega) (by omega), List.nodup_nil, rfl, rfl, trivial, by simp only [List.length_append, List.length_cons, List.length_nil]; omega, by simp only [List.length_append, List.length_cons, List.length_nil]; omega, ?_⟩
      refine ⟨[], false, _, _, impl_CountColorings sh g k hl hx, List.nodup_nil, rfl, rfl, trivial, [], false, _, _, impl_FormatInt (colI g k) b1.1 b1.2, List.nodup_nil, rfl, rfl, trivial, by simp only [List.length_append, List.length_cons, List.length_nil]; omega, by simp only [List.length_append, List.length_cons, List.length_nil]; omega, ?_⟩
      refine ⟨[], false, _, _, impl_CountExchange sh g k hl hx, List.nodup_nil, rfl, rfl, trivial, [], false, _, _, impl_FormatInt (cexI g k) b2.1 b2.2, List.nodup_nil, rfl, rfl, trivial, by simp only [List.length_append, List.length_cons, List.length_nil]; omega, ?_⟩
      exact ⟨none, ⟨retS (by rw [clnS, if_pos ⟨hg, hk⟩]), trivial⟩, rfl, rfl⟩
    · simp only [Bool.and_eq_false_iff, decide_eq_false_iff_not] at hk
      exact ⟨none, ⟨retS (by rw [clnS, if_neg (fun e => by omega)]), trivial⟩, rfl, rfl⟩
  · exact ⟨none, ⟨retS (by rw [clnS, if_neg (fun e => by rw [hg] at e; cases e.1)]), trivial⟩, rfl, rfl⟩
end Go.Proofs.YtacjiemkbhhhoaaGreatDoor
set_option linter.unusedVariables false
namespace Go.Proofs.YtacjiemkbhhhoaaGreatDoor
open Go Go.Proofs.YtacjiemkbhhhoaaGreatDoor.Ow
/-- impl.act -/
theorem impl_act (s1 s2 : Bool) (p xs : List Int) (hP : PermP p) (hl : p.length = xs.length) : AC Tryz.prog 264 [.d s1 (.sl .int) p, .d s2 (.sl .int) xs] [] [.ow 0] [.sl 3 .int (actL p xs)] := by
  have h10 := hP.1
  refine AC_of tauOk 27 0 [4] Tryz.func264 rfl (by kernel_rfl) rfl rfl rfl rfl rfl ?_
  refine ⟨_, _, rfl, rfl, Nat.le_refl _, by omega, ?_⟩
  refine ⟨Nat, fun k => ⟨[(0, .d s1 (.sl .int) p), (5, .ow 0), (11, .d s2 (.sl .int) xs), (12, I xs.length), (13, I (k : Nat))], [.sl 3 .int (actS p xs k)]⟩, fun k => k ≤ xs.length, fun k => xs.length - k, 0, Nat.zero_le _,
    ⟨⟨rfl, rfl⟩, ⟨rfl, rfl, rfl, rfl, rfl, trivial⟩, rfl, trivial⟩, fun k hk => ?_⟩
  dsimp only at hk
  refine ⟨fun h1 => ?_, fun h1 => ?_⟩
  · have hk2 : k < xs.length := by omega
    have hb := (hP.2 k (by omega)).1
    refine ⟨k, rfl, hk2, k, rfl, by omega, (p.getD k 0).toNat, (show p.getD k 0 = (((p.getD k 0).toNat : Nat) : Int) by omega), (show (p.getD k 0).toNat < (actS p xs k).length by rw [actS_len]; omega), ?_⟩
    exact ⟨((k + 1 : Nat) : Int), w64_eq (by omega) (by omega) (by omega), k + 1, by dsimp only; omega, by dsimp only; omega, ⟨rfl, rfl⟩, ⟨rfl, rfl, rfl, rfl, rfl, trivial⟩, rowE rfl, trivial⟩
  · obtain rfl : k = xs.length := by omega
    exact ⟨some 0, ⟨⟨rfl, rfl⟩, trivial⟩, ⟨rfl, rfl⟩, rfl⟩
theorem retDc {b c : List Int} (h : b = c) : (AV.d true (.sl .int) b) = .d true (.sl .int) c := by rw [h]
theorem cexK_len {g : List (List Int)} {xs : List Int} (hg : ∀ i, i < g.length → PermP (g.getD i []) ∧ (g.getD i []).length = xs.length) (hc : ColP xs) : ∀ k, k ≤ g.length → (bstF (fun p => firstL (actL p xs)) (firstL xs) g k).length = xs.length := fun k hk => by
  rcases bst_mem (fun p => firstL (actL p xs)) (firstL xs) g k with h | ⟨i, hi, h⟩
  · rw [h, firstL_len _ hc]
  · obtain ⟨h1, h2⟩ := hg i (by omega)
    rw [h, firstL_len _ (act_col h1 h2 hc), actL_len]
/-- impl.canonExchange: the result as data -/
theorem impl_canonExchange_d (sh s2 : Bool) (g : List (List Int)) (xs : List Int) (hg : ∀ i, i < g.length → PermP (g.getD i []) ∧ (g.getD i []).length = xs.length) (hgl : g.length ≤ 1048576) (hc : ColP xs) :
    AC Tryz.prog 178 [.d sh (.sl (.sl .int)) g, .d s2 (.sl .int) xs] [] [.d true (.sl .int) (cexL g xs)] [] := by
  have hcl := hc.2
  have hbl := cexK_len hg hc
  refine AC_of tauOk 28 0 [4] Tryz.func178 rfl (by kernel_rfl) rfl rfl rfl rfl rfl ?_
  refine ⟨[], true, _, _, impl_leastExchange s2 xs hc, List.nodup_nil, rfl, rfl, trivial, ?_⟩
  refine ⟨Nat, fun k => ⟨[(1, .d s2 (.sl .int) xs), (5, .d true (.sl .int) (bstF (fun p => firstL (actL p xs)) (firstL xs) g k)), (11, .d sh (.sl (.sl .int)) g), (12, I g.length), (13, I (k : Nat))], []⟩, fun k => k ≤ g.length, fun k => g.length - k, 0, Nat.zero_le _,
    ⟨⟨rfl, rfl⟩, ⟨rfl, rfl, rfl, rfl, rfl, trivial⟩, trivial⟩, fun k hk => ?_⟩
  dsimp only at hk
  refine ⟨fun h1 => ?_, fun h1 => ?_⟩
  · have hk2 : k < g.length := by omega
    obtain ⟨hP, hl⟩ := hg k hk2
    have hbk := hbl k hk
    have hx1 := firstL_len _ (act_col hP hl hc)
    rw [actL_len] at hx1
    refine ⟨k, rfl, hk2, [], true, _, _, impl_act sh s2 (g.getD k []) xs hP hl, List.nodup_nil, rfl, rfl, trivial, [], true, _, _, impl_leastExchange true (actL (g.getD k []) xs) (act_col hP hl hc), List.nodup_nil, rfl, rfl, trivial, ?_⟩
    refine ⟨[], false, _, _, slices_Compare_int true true (firstL (actL (g.getD k []) xs)) (bstF (fun p => firstL (actL p xs)) (firstL xs) g k) (by omega) (by omega), List.nodup_nil, rfl, rfl, trivial, fun h2 => ?_, fun h2 => ?_⟩
    · have e : bstF (fun p => firstL (actL p xs)) (firstL xs) g (k + 1) = firstL (actL (g.getD k []) xs) := by rw [bstF, if_pos h2]
      exact ⟨((k + 1 : Nat) : Int), w64_eq (by omega) (by omega) (by omega), k + 1, by dsimp only; omega, by dsimp only; omega, ⟨rfl, rfl⟩, ⟨rfl, retDc e.symm, rfl, rfl, rfl, trivial⟩, trivial⟩
    · have e : bstF (fun p => firstL (actL p xs)) (firstL xs) g (k + 1) = bstF (fun p => firstL (actL p xs)) (firstL xs) g k := by rw [bstF, if_neg h2]
      exact ⟨((k + 1 : Nat) : Int), w64_eq (by omega) (by omega) (by omega), k + 1, by dsimp only; omega, by dsimp only; omega, ⟨rfl, rfl⟩, ⟨rfl, retDc e.symm, rfl, rfl, rfl, trivial⟩, trivial⟩
  · obtain rfl : k = g.length := by omega
    exact ⟨none, ⟨rfl, trivial⟩, rfl, rfl⟩
/-- there are at most 1024 words -/
def smallB (n : Nat) (k : Int) : Bool := (decide (1 ≤ k) && decide (k ≤ 4)) && decide (k.toNat ^ n ≤ 1024)
/-- impl.isSmall -/
theorem impl_isSmall (n : Nat) (k : Int) (hn : n ≤ 10) : AC Tryz.prog 176 [I (n : Nat), I k] [] [.d true .bool (smallB n k)] [] := by
  refine AC_of tauOk 17 0 [4] Tryz.func176 rfl (by kernel_rfl) rfl rfl rfl rfl rfl ?_
  refine ⟨fun h1 => ?_, fun h1 => ?_⟩
  · refine ⟨fun h2 => ?_, fun h2 => ?_⟩
    · obtain ⟨K, rfl⟩ : ∃ K : Nat, k = (K : Int) := ⟨k.toNat, by omega⟩
      refine ⟨[], false, _, _, impl_power K n (by omega) hn, List.nodup_nil, rfl, rfl, trivial, fun h3 => ?_, fun h3 => ?_⟩
      · exact ⟨none, ⟨retB (by rw [smallB, decide_eq_true h1, decide_eq_true h2, Int.toNat_natCast, decide_eq_true (by omega)]; rfl), trivial⟩, rfl, rfl⟩
      · exact ⟨none, ⟨retB (by rw [smallB, decide_eq_true h1, decide_eq_true h2, Int.toNat_natCast, decide_eq_false (by omega)]; rfl), trivial⟩, rfl, rfl⟩
    · exact ⟨none, ⟨retB (by rw [smallB, decide_eq_true h1, decide_eq_false h2]; rfl), trivial⟩, rfl, rfl⟩
  · exact ⟨none, ⟨retB (by rw [smallB, decide_eq_false h1]; rfl), trivial⟩, rfl, rfl⟩
/-- slices.Clone of no integers -/
theorem slices_Clone_no (sh : Bool) : AC Tryz.prog 57 [.d sh (.sl .int) []] [] [.x .emp] [] := by
  cases sh <;> (
  refine AC_of tauOk 8 0 [2] Tryz.func57 rfl (by kernel_rfl) rfl rfl rfl rfl rfl ?_
  refine ⟨fun h => ?_, fun _ => ?_⟩
  · exact ⟨none, ⟨trivial, trivial⟩, rfl, rfl⟩
  · refine ⟨rfl, by decide, .e, rfl, ?_⟩
    exact ⟨none, ⟨rfl, trivial⟩, rfl, rfl⟩)
/-- all words of a list with one more letter -/
def extW (k : Nat) (l : List (List Int)) : List (List Int) := l.flatMap fun w => (List.range k).map fun (x : Nat) => w ++ [(x : Int)]
theorem extW_len (k : Nat) (l : List (List Int)) : (extW k l).length = l.length * k := by
  induction l with
  | nil => simp [extW]
  | cons w l ih => rw [extW, List.flatMap_cons, List.length_append, List.length_map, List.length_range, ← extW, ih, List.length_cons, Nat.succ_mul]; omega
theorem extW_s (k : Nat) (l : List (List Int)) (i : Nat) (hi : i < l.length) : extW k (l.take (i + 1)) = extW k (l.take i) ++ (List.range k).map fun (x : Nat) => l.getD i [] ++ [(x : Int)] := by
  rw [L_succ l i [] hi, extW, List.flatMap_append]; simp [extW]
theorem rng_s (w : List Int) (x : Nat) : ((List.range (x + 1)).map fun (x : Nat) => w ++ [(x : Int)]) = ((List.range x).map fun (x : Nat) => w ++ [(x : Int)]) ++ [w ++ [(x : Int)]] := by
  rw [List.range_succ, List.map_append]; rfl
/-- impl.wordsOf -/
theorem impl_wordsOf (n k : Nat) (hn : n ≤ 10) (hk : k ≤ 4) : AC Tryz.prog 177 [I (n : Nat), I (k : Nat)] [] [.d true (.sl (.sl .int)) (wordsL k n)] [] := by
  have hp : ∀ j, j ≤ n → k ^ j ≤ 1048576 := fun j hj => pow_le hk (show j ≤ 10 by omega) (Nat.le_refl 10)
  refine AC_of tauOk 39 0 [4] Tryz.func177 rfl (by kernel_rfl) rfl rfl rfl rfl rfl ?_
  refine ⟨rfl, by decide, false, rfl, by decide, false, ?_⟩
  refine ⟨Nat, fun j => ⟨[(1, I (k : Nat)), (5, .d true (.sl (.sl .int)) (wordsL k j)), (12, I (n : Nat)), (13, I (j : Nat))], []⟩, fun j => j ≤ n, fun j => n - j, 0, Nat.zero_le _,
    ⟨⟨rfl, rfl⟩, ⟨rfl, rfl, rfl, rfl, trivial⟩, trivial⟩, fun j hj => ?_⟩
  dsimp only at hj
  have hwl := wordsL_len k j
  have hpj := hp j hj
  have hwg : ∀ i, i < (wordsL k j).length → ((wordsL k j).getD i []).length = j := fun i hi => by
    rw [hwl] at hi; rw [wordsL_get k j i hi, wrdN_len]
  have hws : wordsL k (j + 1) = extW k (wordsL k j) := rfl
  refine ⟨fun h1 => ?_, fun h1 => ?_⟩
  · refine ⟨rfl, by decide, true, ?_⟩
    refine ⟨Nat, fun i => ⟨[(1, I (k : Nat)), (6, .ow 0), (12, I (n : Nat)), (13, I (j : Nat)), (16, .d true (.sl (.sl .int)) (wordsL k j)), (17, I (wordsL k j).length), (18, I (i : Nat))], [.sl 29 (.sl .int) (extW k ((wordsL k j).take i))]⟩, fun i => i ≤ (wordsL k j).length, fun i => (wordsL k j).length - i, 0, Nat.zero_le _,
      ⟨⟨rfl, rfl⟩, ⟨rfl, rfl, rfl, rfl, rfl, rfl, rfl, trivial⟩, rfl, trivial⟩, fun i hi => ?_⟩
    dsimp only at hi
    have hel := extW_len k ((wordsL k j).take i)
    have hik : ((wordsL k j).take i).length * k ≤ 1048576 * 4 := Nat.mul_le_mul (by rw [List.length_take]; omega) hk
    refine ⟨fun h2 => ?_, fun h2 => ?_⟩
    · have hi2 : i < (wordsL k j).length := by omega
      refine ⟨i, rfl, hi2, ?_⟩
      have hwi := hwg i hi2
      have hes := extW_s k (wordsL k j) i hi2
      refine ⟨Nat, fun x => ⟨[(1, I (k : Nat)), (6, .ow 0), (8, .d true (.sl .int) ((wordsL k j).getD i [])), (12, I (n : Nat)), (13, I (j : Nat)), (16, .d true (.sl (.sl .int)) (wordsL k j)), (17, I (wordsL k j).length), (18, I (i : Nat)), (22, I (k : Nat)), (23, I (x : Nat))], [.sl 29 (.sl .int) (extW k ((wordsL k j).take i) ++ (List.range x).map fun (x : Nat) => ((wordsL k j).getD i []) ++ [(x : Int)])]⟩, fun x => x ≤ k, fun x => k - x, 0, Nat.zero_le _,
        ⟨⟨rfl, rfl⟩, ⟨rfl, rfl, rfl, rfl, rfl, rfl, rfl, rfl, rfl, rfl, trivial⟩, rowE (by simp), trivial⟩, fun x hx => ?_⟩
      dsimp only at hx
      refine ⟨fun h3 => ?_, fun h3 => ?_⟩
      · by_cases h0 : (wordsL k j).getD i [] = []
        · have hcn := slices_Clone_no true
          rw [← h0] at hcn
          refine ⟨[], false, _, _, hcn, List.nodup_nil, rfl, rfl, trivial, ?_⟩
          refine ⟨rfl, by decide, false, ?_⟩
          refine ⟨(by decide : 1 ≤ 1099511627776), ?_⟩
          refine ⟨rfl, rfl, by decide, false, ?_⟩
          refine ⟨rfl, Nat.zero_le _, rfl, ?_, rfl, ?_⟩
          · simp only [List.length_append, List.length_map, List.length_range, List.length_cons, List.length_nil]; omega
          · exact ⟨((x + 1 : Nat) : Int), w64_eq (by omega) (by omega) (by omega), x + 1, by dsimp only; omega, by dsimp only; omega, ⟨rfl, rfl⟩, ⟨rfl, rfl, rfl, rfl, rfl, rfl, rfl, rfl, rfl, rfl, trivial⟩, rowE (by rw [rng_s, List.append_assoc, h0]; rfl), trivial⟩
        · refine ⟨[], false, _, _, slices_Clone_int true ((wordsL k j).getD i []) (by omega) h0, List.nodup_nil, rfl, rfl, trivial, ?_⟩
          refine ⟨rfl, by decide, false, ?_⟩
          refine ⟨rfl, Nat.zero_le _, rfl, ?_, rfl, ?_⟩
          · simp only [List.length_cons, List.length_nil]; omega
          refine ⟨rfl, rfl, by decide, false, ?_⟩
          refine ⟨rfl, Nat.zero_le _, rfl, ?_, rfl, ?_⟩
          · simp only [List.length_append, List.length_map, List.length_range, List.length_cons, List.length_nil]; omega
          · exact ⟨((x + 1 : Nat) : Int), w64_eq (by omega) (by omega) (by omega), x + 1, by dsimp only; omega, by dsimp only; omega, ⟨rfl, rfl⟩, ⟨rfl, rfl, rfl, rfl, rfl, rfl, rfl, rfl, rfl, rfl, trivial⟩, rowE (by rw [rng_s, List.append_assoc]), trivial⟩
      · obtain rfl : x = k := by omega
        exact ⟨((i + 1 : Nat) : Int), w64_eq (by omega) (by omega) (by omega), i + 1, by dsimp only; omega, by dsimp only; omega, ⟨rfl, rfl⟩, ⟨rfl, rfl, rfl, rfl, rfl, rfl, rfl, trivial⟩, rowE hes.symm, trivial⟩
    · obtain rfl : i = (wordsL k j).length := by omega
      exact ⟨((j + 1 : Nat) : Int), w64_eq (by omega) (by omega) (by omega), j + 1, by dsimp only; omega, by dsimp only; omega, ⟨rfl, rfl⟩, ⟨rfl, ⟨rfl, rfl, by rw [hws, List.take_length]⟩, rfl, rfl, trivial⟩, trivial⟩
  · obtain rfl : j = n := by omega
    exact ⟨none, ⟨rfl, trivial⟩, rfl, rfl⟩
/-- the patterns among the first i words -/
def expS (g : List (List Int)) (k n i : Nat) : List (List Int) := ((wordsL k n).take i).filter fun w => decide (cexL g w = w)
theorem expS_y (g : List (List Int)) (k n i : Nat) (hi : i < (wordsL k n).length) (h : cexL g ((wordsL k n).getD i []) = (wordsL k n).getD i []) : expS g k n (i + 1) = expS g k n i ++ [(wordsL k n).getD i []] := by
  rw [expS, L_succ _ i [] hi, List.filter_append, List.filter_cons_of_pos (by rw [decide_eq_true_eq]; exact h)]; rfl
theorem expS_n (g : List (List Int)) (k n i : Nat) (hi : i < (wordsL k n).length) (h : ¬ cexL g ((wordsL k n).getD i []) = (wordsL k n).getD i []) : expS g k n (i + 1) = expS g k n i := by
  rw [expS, L_succ _ i [] hi, List.filter_append, List.filter_cons_of_neg (by rw [decide_eq_true_eq]; exact h)]; simp [expS]
theorem expS_le (g : List (List Int)) (k n i : Nat) : (expS g k n i).length ≤ i := Nat.le_trans (List.length_filter_le _ _) (by rw [List.length_take]; omega)
theorem wrd_col {k n i : Nat} (h1 : 1 ≤ n) (h2 : n ≤ 10) (h4 : k ≤ 4) (hi : i < (wordsL k n).length) : ColP ((wordsL k n).getD i []) := by
  rw [getD_get _ _ _ hi]
  exact col_of h1 h2 h4 (List.getElem_mem hi)
/-- impl.ExchangePatterns of a group and few colors -/
theorem impl_ExchangePatterns_d (sh : Bool) (g : List (List Int)) (K : Nat) (hl : g.length ≤ 1048576) (hx : ∀ i, i < g.length → (g.getD i []).length ≤ 1048576) (hB : gokB g = true) (hS : smallB (g.getD 0 []).length (K : Nat) = true) :
    AC Tryz.prog 83 [.d sh (.sl (.sl .int)) g, I (K : Nat)] [] [.ow 0, .d true .bool true] [.sl 29 (.sl .int) (expL g K (g.getD 0 []).length)] := by
  have hG := (gokB_iff g).1 hB
  have hg0 : 0 < g.length := by have := hG.l1; omega
  have hp0 := (gok1_p (hG.o1 0 hg0)).1.1
  have hgp : ∀ i, i < g.length → PermP (g.getD i []) ∧ (g.getD i []).length = (g.getD 0 []).length := fun i hi => ⟨(gok1_p (hG.o1 i hi)).1, (gok1_p (hG.o1 i hi)).2.1⟩
  have hK : K ≤ 4 := by
    unfold smallB at hS
    simp only [Bool.and_eq_true, decide_eq_true_eq] at hS
    omega
  have hSm := impl_isSmall (g.getD 0 []).length (K : Nat) hp0.2
  rw [hS] at hSm
  have hwl := wordsL_len K (g.getD 0 []).length
  have hpw : K ^ (g.getD 0 []).length ≤ 1048576 := pow_le hK hp0.2 (Nat.le_refl 10)
  have hwc : ∀ i, i < (wordsL K (g.getD 0 []).length).length → ColP ((wordsL K (g.getD 0 []).length).getD i []) ∧ ((wordsL K (g.getD 0 []).length).getD i []).length = (g.getD 0 []).length := fun i hi => by
    refine ⟨wrd_col hp0.1 hp0.2 hK hi, ?_⟩
    rw [hwl] at hi
    rw [wordsL_get _ _ _ hi, wrdN_len]
  have hye := expS_y g K (g.getD 0 []).length
  have hno := expS_n g K (g.getD 0 []).length
  have hle := expS_le g K (g.getD 0 []).length
  have h00 : expS g K (g.getD 0 []).length 0 = [] := by simp [expS]
  have hend : expS g K (g.getD 0 []).length (wordsL K (g.getD 0 []).length).length = expL g K (g.getD 0 []).length := by rw [expS, List.take_length]; rfl
  refine AC_of tauOk 44 0 [4, 5] Tryz.func83 rfl (by kernel_rfl) rfl rfl rfl rfl rfl ?_
  refine ⟨[], false, _, _, impl_GroupOk sh g hl hx, List.nodup_nil, rfl, rfl, trivial, fun _ => ?_, fun h => by rw [hB] at h; cases h⟩
  refine ⟨0, rfl, hg0, [], false, _, _, hSm, List.nodup_nil, rfl, rfl, trivial, fun _ => ?_, nofun⟩
  refine ⟨rfl, by decide, true, ?_⟩
  refine ⟨0, rfl, hg0, [], false, _, _, impl_wordsOf (g.getD 0 []).length K hp0.2 hK, List.nodup_nil, rfl, rfl, trivial, ?_⟩
  generalize wordsL K (g.getD 0 []).length = W at *
  refine ⟨Nat, fun i => ⟨[(0, .d sh (.sl (.sl .int)) g), (6, .ow 0), (27, .d true (.sl (.sl .int)) W), (28, I W.length), (29, I (i : Nat))], [.sl 29 (.sl .int) (expS g K (g.getD 0 []).length i)]⟩, fun i => i ≤ W.length, fun i => W.length - i, 0, Nat.zero_le _,
    ⟨⟨rfl, rfl⟩, ⟨rfl, rfl, rfl, rfl, rfl, trivial⟩, rowE h00.symm, trivial⟩, fun i hi => ?_⟩
  dsimp only at hi
  have hlei := hle i
  refine ⟨fun h2 => ?_, fun h2 => ?_⟩
  · have hi2 : i < W.length := by omega
    obtain ⟨hc, hcl⟩ := hwc i hi2
    have hy := hye i hi2
    have hn := hno i hi2
    have hl10 := hc.2
    refine ⟨i, rfl, hi2, ?_⟩
    have hgv : ∀ a, a < g.length → PermP (g.getD a []) ∧ (g.getD a []).length = (W.getD i []).length := fun a ha => by rw [hcl]; exact hgp a ha
    have hce := cexK_len hgv hc g.length (Nat.le_refl _)
    have hce : (cexL g (W.getD i [])).length = (W.getD i []).length := hce
    refine ⟨[], false, _, _, impl_canonExchange_d sh true g (W.getD i []) hgv hl hc, List.nodup_nil, rfl, rfl, trivial, ?_⟩
    refine ⟨[], false, _, _, slices_Equal_int true true (cexL g (W.getD i [])) (W.getD i []) (by omega) (by omega), List.nodup_nil, rfl, rfl, trivial, fun h3 => ?_, fun h3 => ?_⟩
    · have h3 := of_decide_eq_true h3
      refine ⟨rfl, by decide, false, ?_⟩
      refine ⟨rfl, Nat.zero_le _, rfl, ?_, rfl, ?_⟩
      · simp only [List.length_cons, List.length_nil]; omega
      · exact ⟨((i + 1 : Nat) : Int), w64_eq (by omega) (by omega) (by omega), i + 1, by dsimp only; omega, by dsimp only; omega, ⟨rfl, rfl⟩, ⟨rfl, rfl, rfl, rfl, rfl, trivial⟩, rowE (hy h3).symm, trivial⟩
    · have h3 := of_decide_eq_false h3
      exact ⟨((i + 1 : Nat) : Int), w64_eq (by omega) (by omega) (by omega), i + 1, by dsimp only; omega, by dsimp only; omega, ⟨rfl, rfl⟩, ⟨rfl, rfl, rfl, rfl, rfl, trivial⟩, rowE (hn h3).symm, trivial⟩
  · obtain rfl : i = W.length := by omega
    exact ⟨some 0, ⟨⟨rfl, rfl⟩, rfl, trivial⟩, ⟨rfl, rowsE hend⟩, rfl⟩
/-- impl.canon -/
theorem impl_canon (sh s2 : Bool) (g : List (List Int)) (xs : List Int) (hg : ∀ i, i < g.length → PermP (g.getD i []) ∧ (g.getD i []).length = xs.length) (hgl : g.length ≤ 1048576) (hc : ColP xs) :
    AC Tryz.prog 166 [.d sh (.sl (.sl .int)) g, .d s2 (.sl .int) xs] [] [.ow 0] [.sl 3 .int (canL g xs)] := by
  have hcl := hc.2
  have hbl : ∀ k, k ≤ g.length → (bstF (fun p => actL p xs) xs g k).length = xs.length := fun k hk => by
    rcases bst_mem (fun p => actL p xs) xs g k with h | ⟨i, hi, h⟩
    · rw [h]
    · rw [h, actL_len]
  refine AC_of tauOk 27 0 [4] Tryz.func166 rfl (by kernel_rfl) rfl rfl rfl rfl rfl ?_
  refine ⟨Bool × Nat, fun z => ⟨[(1, .d s2 (.sl .int) xs), (5, .d z.1 (.sl .int) (bstF (fun p => actL p xs) xs g z.2)), (10, .d sh (.sl (.sl .int)) g), (11, I g.length), (12, I (z.2 : Nat))], []⟩, fun z => z.2 ≤ g.length, fun z => g.length - z.2, (s2, 0), Nat.zero_le _,
    ⟨⟨rfl, rfl⟩, ⟨rfl, rfl, rfl, rfl, rfl, trivial⟩, trivial⟩, fun z hk => ?_⟩
  obtain ⟨b, k⟩ := z
  dsimp only at hk ⊢
  refine ⟨fun h1 => ?_, fun h1 => ?_⟩
  · have hk2 : k < g.length := by omega
    obtain ⟨hP, hl⟩ := hg k hk2
    have hbk := hbl k hk
    have hx1 := actL_len (g.getD k []) xs
    refine ⟨k, rfl, hk2, [], true, _, _, impl_act sh s2 (g.getD k []) xs hP hl, List.nodup_nil, rfl, rfl, trivial, ?_⟩
    refine ⟨[], false, _, _, slices_Compare_int true b (actL (g.getD k []) xs) (bstF (fun p => actL p xs) xs g k) (by omega) (by omega), List.nodup_nil, rfl, rfl, trivial, fun h2 => ?_, fun h2 => ?_⟩
    · have e : bstF (fun p => actL p xs) xs g (k + 1) = actL (g.getD k []) xs := by rw [bstF, if_pos h2]
      exact ⟨((k + 1 : Nat) : Int), w64_eq (by omega) (by omega) (by omega), (true, k + 1), by dsimp only; omega, by dsimp only; omega, ⟨rfl, rfl⟩, ⟨rfl, retDc e.symm, rfl, rfl, rfl, trivial⟩, trivial⟩
    · have e : bstF (fun p => actL p xs) xs g (k + 1) = bstF (fun p => actL p xs) xs g k := by rw [bstF, if_neg h2]
      exact ⟨((k + 1 : Nat) : Int), w64_eq (by omega) (by omega) (by omega), (b, k + 1), by dsimp only; omega, by dsimp only; omega, ⟨rfl, rfl⟩, ⟨rfl, by rw [e]; rfl, rfl, rfl, rfl, trivial⟩, trivial⟩
  · obtain rfl : k = g.length := by omega
    have hbk := hbl g.length hk
    refine ⟨[], false, _, _, slices_Clone_int b (bstF (fun p => actL p xs) xs g g.length) (by omega) (fun e => by rw [e] at hbk; simp at hbk; omega), List.nodup_nil, rfl, rfl, trivial, ?_⟩
    exact ⟨some 0, ⟨⟨rfl, rfl⟩, trivial⟩, ⟨rfl, rfl⟩, rfl⟩
/-- a group and a coloring fit -/
def fitB (g : List (List Int)) (xs : List Int) : Bool := gokB g && (colB xs && decide ((g.getD 0 []).length = xs.length))
structure FitP (g : List (List Int)) (xs : List Int) : Prop where
  gs : ∀ i, i < g.length → PermP (g.getD i []) ∧ (g.getD i []).length = xs.length
  x : ColP xs
  b : gokB g = true
  n : (g.getD 0 []).length = xs.length
theorem fit_of {g : List (List Int)} {xs : List Int} (h : fitB g xs = true) : FitP g xs := by
  unfold fitB at h
  simp only [Bool.and_eq_true, decide_eq_true_eq] at h
  obtain ⟨h1, h2, h3⟩ := h
  have hG := (gokB_iff g).1 h1
  exact ⟨fun i hi => ⟨(gok1_p (hG.o1 i hi)).1, by rw [(gok1_p (hG.o1 i hi)).2.1, h3]⟩, (colB_iff xs).1 h2, h1, h3⟩
/-- impl.CanonOf -/
theorem impl_CanonOf_both (s1 s2 : Bool) (g : List (List Int)) (xs : List Int) (hl : g.length ≤ 1048576) (hx : ∀ i, i < g.length → (g.getD i []).length ≤ 1048576) (hl2 : xs.length ≤ 1048576) (r : List AV) (rr : List Row)
    (hno : fitB g xs = false → r = [.nil, .d true .bool false] ∧ rr = []) (hyes : fitB g xs = true → r = [.ow 0, .d true .bool true] ∧ rr = [.sl 3 .int (canL g xs)]) :
    AC Tryz.prog 74 [.d s1 (.sl (.sl .int)) g, .d s2 (.sl .int) xs] [] r rr := by
  refine AC_of tauOk 26 0 [4, 5] Tryz.func74 rfl (by kernel_rfl) rfl rfl rfl rfl rfl ?_
  refine ⟨[], false, _, _, impl_GroupOk s1 g hl hx, List.nodup_nil, rfl, rfl, trivial, fun h1 => ?_, fun h1 => ?_⟩
  · have hg0 : 0 < g.length := by have := ((gokB_iff g).1 h1).l1; omega
    refine ⟨[], false, _, _, impl_ColoringOk s2 xs hl2, List.nodup_nil, rfl, rfl, trivial, fun h2 => ?_, fun h2 => ?_⟩
    · refine ⟨0, rfl, hg0, fun h3 => ?_, fun h3 => ?_⟩
      · obtain ⟨rfl, rfl⟩ := hno (by rw [fitB, h1, h2, decide_eq_false (by omega)]; rfl)
        exact ⟨none, ⟨rfl, rfl, trivial⟩, rfl, rfl⟩
      · have he : fitB g xs = true := by rw [fitB, h1, h2, decide_eq_true (by omega)]; rfl
        have hF := fit_of he
        obtain ⟨rfl, rfl⟩ := hyes he
        refine ⟨[], false, _, _, impl_canon s1 s2 g xs hF.gs hl hF.x, List.nodup_nil, rfl, rfl, trivial, ?_⟩
        exact ⟨some 0, ⟨⟨rfl, rfl⟩, rfl, trivial⟩, ⟨rfl, rfl⟩, rfl⟩
    · obtain ⟨rfl, rfl⟩ := hno (by rw [fitB, h2]; simp)
      exact ⟨none, ⟨rfl, rfl, trivial⟩, rfl, rfl⟩
  · obtain ⟨rfl, rfl⟩ := hno (by rw [fitB, h1]; simp)
    exact ⟨none, ⟨rfl, rfl, trivial⟩, rfl, rfl⟩
theorem impl_CanonOf (s1 s2 : Bool) (g : List (List Int)) (xs : List Int) (hl : g.length ≤ 1048576) (hx : ∀ i, i < g.length → (g.getD i []).length ≤ 1048576) (hl2 : xs.length ≤ 1048576) (hc : fitB g xs = true) :
    AC Tryz.prog 74 [.d s1 (.sl (.sl .int)) g, .d s2 (.sl .int) xs] [] [.ow 0, .d true .bool true] [.sl 3 .int (canL g xs)] :=
  impl_CanonOf_both s1 s2 g xs hl hx hl2 _ _ (fun h => by rw [hc] at h; cases h) (fun _ => ⟨rfl, rfl⟩)
theorem impl_CanonOf_no (s1 s2 : Bool) (g : List (List Int)) (xs : List Int) (hl : g.length ≤ 1048576) (hx : ∀ i, i < g.length → (g.getD i []).length ≤ 1048576) (hl2 : xs.length ≤ 1048576) (hc : fitB g xs = false) :
    AC Tryz.prog 74 [.d s1 (.sl (.sl .int)) g, .d s2 (.sl .int) xs] [] [.nil, .d true .bool false] [] :=
  impl_CanonOf_both s1 s2 g xs hl hx hl2 _ _ (fun _ => ⟨rfl, rfl⟩) (fun h => by rw [hc] at h; cases h)
end Go.Proofs.YtacjiemkbhhhoaaGreatDoor
set_option linter.unusedVariables false
namespace Go.Proofs.YtacjiemkbhhhoaaGreatDoor
open Go Go.Proofs.YtacjiemkbhhhoaaGreatDoor.Ow
theorem perm_bd {g : List (List Int)} (hB : gokB g = true) : (1 ≤ g.length ∧ g.length ≤ 120) ∧ ∀ i, i < g.length → PermP (g.getD i []) ∧ (g.getD i []).length = (g.getD 0 []).length := by
  have hG := (gokB_iff g).1 hB
  have h1 := hG.l1
  have h2 := hG.l2
  exact ⟨⟨by omega, by omega⟩, fun i hi => ⟨(gok1_p (hG.o1 i hi)).1, (gok1_p (hG.o1 i hi)).2.1⟩⟩
/-- impl.inverse -/
theorem impl_inverse (s1 : Bool) (p : List Int) (hP : PermP p) : AC Tryz.prog 159 [.d s1 (.sl .int) p] [] [.ow 0] [.sl 3 .int (actL p (idL p.length))] := by
  have h10 := hP.1
  have hil := idLlen p.length
  have hlen := actS_len p (idL p.length)
  have h0 : actS p (idL p.length) 0 = List.replicate p.length 0 := by rw [actS, hil]
  have hend : actS p (idL p.length) p.length = actL p (idL p.length) := by rw [actL, hil]
  have hs : ∀ k, k < p.length → actS p (idL p.length) (k + 1) = (actS p (idL p.length) k).set (p.getD k 0).toNat (k : Int) := fun k hk => by
    rw [actS, idL_at _ _ hk]
  refine AC_of tauOk 22 0 [2] Tryz.func159 rfl (by kernel_rfl) rfl rfl rfl rfl rfl ?_
  refine ⟨_, _, rfl, rfl, Nat.le_refl _, by omega, ?_⟩
  refine ⟨Nat, fun k => ⟨[(3, .ow 0), (9, .d s1 (.sl .int) p), (10, I p.length), (11, I (k : Nat))], [.sl 3 .int (actS p (idL p.length) k)]⟩, fun k => k ≤ p.length, fun k => p.length - k, 0, Nat.zero_le _,
    ⟨⟨rfl, rfl⟩, ⟨rfl, rfl, rfl, rfl, trivial⟩, rowE h0.symm, trivial⟩, fun k hk => ?_⟩
  dsimp only at hk
  refine ⟨fun h1 => ?_, fun h1 => ?_⟩
  · have hk2 : k < p.length := by omega
    have hb := (hP.2 k (by omega)).1
    have hlk := hlen k
    refine ⟨k, rfl, hk2, (p.getD k 0).toNat, (show p.getD k 0 = (((p.getD k 0).toNat : Nat) : Int) by omega), (by omega), ?_⟩
    exact ⟨((k + 1 : Nat) : Int), w64_eq (by omega) (by omega) (by omega), k + 1, by first | omega | (dsimp only; omega), by first | omega | (dsimp only; omega), ⟨rfl, rfl⟩, ⟨rfl, rfl, rfl, rfl, trivial⟩, rowE (hs k hk2).symm, trivial⟩
  · obtain rfl : k = p.length := by omega
    exact ⟨some 0, ⟨⟨rfl, rfl⟩, trivial⟩, ⟨rfl, rowsE hend⟩, rfl⟩
/-- how many fixed colorings there are in all -/
def ctsS (g : List (List Int)) (c : List Int) : Nat → Nat := sumTo fun a => waysN (cycL (g.getD a [])) c
def ctsN (g : List (List Int)) (c : List Int) : Nat := ctsS g c g.length / g.length
theorem ways_b {q c : List Int} (hq : PermP q) (hc : c.length = 2) : waysN (cycL q) c ≤ 1024 := by
  have h1 := waysN_le 2 (cycL q) c hc
  have h2 := (cyc_small hq).1
  exact Nat.le_trans h1 (Nat.le_trans (Nat.pow_le_pow_right (by decide) h2) (by decide))
/-- impl.CountContents of a group and two colors -/
theorem impl_CountContents (sh s2 : Bool) (g : List (List Int)) (c : List Int) (hB : gokB g = true) (hc : ConP c (g.getD 0 []).length) : AC Tryz.prog 160 [.d sh (.sl (.sl .int)) g, .d s2 (.sl .int) c] [] [I (ctsN g c : Nat)] [] := by
  obtain ⟨⟨hg1, hg2⟩, hgp⟩ := perm_bd hB
  have hx : ∀ i, i < g.length → (g.getD i []).length ≤ 1048576 := fun i hi => by have := (hgp i hi).1.1; omega
  have hG := impl_GroupOk sh g (by omega) hx
  rw [hB] at hG
  have hb : ∀ j, j ≤ g.length → ctsS g c j ≤ j * 1024 := fun j hj => sumTo_le _ _ _ fun i hi => ways_b (hgp i (by omega)).1 hc.l2
  refine AC_of tauOk 27 0 [4] Tryz.func160 rfl (by kernel_rfl) rfl rfl rfl rfl rfl ?_
  refine ⟨[], false, _, _, hG, List.nodup_nil, rfl, rfl, trivial, fun _ => ?_, nofun⟩
  refine ⟨Nat, fun k => ⟨[(0, .d sh (.sl (.sl .int)) g), (1, .d s2 (.sl .int) c), (5, I (ctsS g c k : Nat)), (11, .d sh (.sl (.sl .int)) g), (12, I g.length), (13, I (k : Nat))], []⟩, fun k => k ≤ g.length, fun k => g.length - k, 0, Nat.zero_le _,
    ⟨⟨rfl, rfl⟩, ⟨rfl, rfl, rfl, rfl, rfl, rfl, trivial⟩, trivial⟩, fun k hk => ?_⟩
  dsimp only at hk
  have hbk := hb k hk
  refine ⟨fun h1 => ?_, fun h1 => ?_⟩
  · have hk2 : k < g.length := by omega
    obtain ⟨hP, hl⟩ := hgp k hk2
    have hb1 := hb (k + 1) hk2
    refine ⟨k, rfl, hk2, [], false, _, _, impl_CountFixed sh s2 (g.getD k []) c hP (by rw [hl]; exact hc), List.nodup_nil, rfl, rfl, trivial, ?_⟩
    refine ⟨((ctsS g c (k + 1) : Nat) : Int), w64_eq (by rw [show ctsS g c (k + 1) = ctsS g c k + waysN (cycL (g.getD k [])) c from rfl]; omega) (by omega) (by omega), ?_⟩
    exact ⟨((k + 1 : Nat) : Int), w64_eq (by omega) (by omega) (by omega), k + 1, by first | omega | (dsimp only; omega), by first | omega | (dsimp only; omega), ⟨rfl, rfl⟩, ⟨rfl, rfl, rfl, rfl, rfl, rfl, trivial⟩, trivial⟩
  · obtain rfl : k = g.length := by omega
    have hd : ctsN g c ≤ ctsS g c g.length := Nat.div_le_self _ _
    refine ⟨by omega, ((ctsN g c : Nat) : Int), w64_eq (Int.ofNat_tdiv _ _) (by omega) (by omega), ?_⟩
    exact ⟨none, ⟨rfl, trivial⟩, rfl, rfl⟩
def twoS (g : List (List Int)) (k : Nat) : List Int := (List.range k).map fun e => (ctsN g [(((g.getD 0 []).length - e : Nat) : Int), (e : Int)] : Int)
def twoL (g : List (List Int)) : List Int := if gokB g then twoS g ((g.getD 0 []).length + 1) else []
theorem twoS_s (g : List (List Int)) (k : Nat) : twoS g (k + 1) = twoS g k ++ [(ctsN g [(((g.getD 0 []).length - k : Nat) : Int), (k : Int)] : Int)] := by
  rw [twoS, List.range_succ, List.map_append]; rfl
/-- impl.TwoColors -/
theorem impl_TwoColors (sh : Bool) (g : List (List Int)) (hgl : g.length ≤ 1048576) (hx : ∀ i, i < g.length → (g.getD i []).length ≤ 1048576) : AC Tryz.prog 67 [.d sh (.sl (.sl .int)) g] [] [.ow 0] [.sl 3 .int (twoL g)] := by
  refine AC_of tauOk 33 0 [2] Tryz.func67 rfl (by kernel_rfl) rfl rfl rfl rfl rfl ?_
  refine ⟨rfl, by decide, true, ?_⟩
  refine ⟨[], false, _, _, impl_GroupOk sh g hgl hx, List.nodup_nil, rfl, rfl, trivial, fun hB => ?_, fun hB => ?_⟩
  · obtain ⟨⟨hg1, hg2⟩, hgp⟩ := perm_bd hB
    have hn := (hgp 0 (by omega)).1.1
    have e : twoL g = twoS g ((g.getD 0 []).length + 1) := by rw [twoL, if_pos hB]
    rw [e]
    refine ⟨0, rfl, by omega, (((g.getD 0 []).length + 1 : Nat) : Int), w64_eq (by omega) (by omega) (by omega), ?_⟩
    refine ⟨Nat, fun k => ⟨[(0, .d sh (.sl (.sl .int)) g), (3, .ow 0), (14, I (((g.getD 0 []).length + 1 : Nat) : Int)), (15, I (k : Nat))], [.sl 3 .int (twoS g k)]⟩, fun k => k ≤ (g.getD 0 []).length + 1, fun k => (g.getD 0 []).length + 1 - k, 0, Nat.zero_le _,
      ⟨⟨rfl, rfl⟩, ⟨rfl, rfl, rfl, rfl, trivial⟩, rfl, trivial⟩, fun k hk => ?_⟩
    dsimp only at hk
    have htl : (twoS g k).length = k := by simp [twoS]
    refine ⟨fun h1 => ?_, fun h1 => ?_⟩
    · have hk2 : k ≤ (g.getD 0 []).length := by omega
      have hts := twoS_s g k
      have hC := con_of (g.getD 0 []).length k (by omega) hk2
      refine ⟨0, rfl, by omega, (((g.getD 0 []).length - k : Nat) : Int), w64_eq (by omega) (by omega) (by omega), ?_⟩
      refine ⟨rfl, by decide, false, ?_⟩
      refine ⟨[], false, _, _, impl_CountContents sh true g [(((g.getD 0 []).length - k : Nat) : Int), (k : Int)] hB hC, List.nodup_nil, rfl, rfl, trivial, ?_⟩
      refine ⟨rfl, by decide, false, ?_⟩
      refine ⟨rfl, Nat.zero_le _, rfl, by simp only [List.length_cons, List.length_nil]; omega, rfl, ?_⟩
      exact ⟨((k + 1 : Nat) : Int), w64_eq (by omega) (by omega) (by omega), k + 1, by first | omega | (dsimp only; omega), by first | omega | (dsimp only; omega), ⟨rfl, rfl⟩, ⟨rfl, rfl, rfl, rfl, trivial⟩, rowE hts.symm, trivial⟩
    · obtain rfl : k = (g.getD 0 []).length + 1 := by omega
      exact ⟨some 0, ⟨⟨rfl, rfl⟩, trivial⟩, ⟨rfl, rfl⟩, rfl⟩
  · have e : twoL g = [] := by rw [twoL, if_neg (by rw [hB]; decide)]
    rw [e]
    exact ⟨some 0, ⟨⟨rfl, rfl⟩, trivial⟩, ⟨rfl, rfl⟩, rfl⟩
/-- integers in ascending order -/
def srtI (l : List Int) : List Int := l.mergeSort fun x y => decide (x ≤ y)
theorem srtI_p (l : List Int) : (srtI l).Perm l := List.mergeSort_perm l _
theorem srtI_s (l : List Int) : (srtI l).Pairwise fun x y => x ≤ y := by
  have h := List.pairwise_mergeSort (le := fun x y : Int => decide (x ≤ y)) (fun a b c h1 h2 => by simp at *; omega) (fun a b => by simp; omega) l
  exact h.imp fun h => by simpa using h
/-- the points to which the first k elements carry i, that were not met -/
def orbI (g : List (List Int)) (i : Nat) (met : List Bool) : Nat → List Bool × List Int
  | 0 => (met, [])
  | k + 1 => if (orbI g i met k).1.getD ((g.getD k []).getD i 0).toNat false = true then orbI g i met k else ((orbI g i met k).1.set ((g.getD k []).getD i 0).toNat true, (orbI g i met k).2 ++ [(g.getD k []).getD i 0])
def orbS (g : List (List Int)) (n : Nat) : Nat → List Bool × List (List Int)
  | 0 => (List.replicate n false, [])
  | i + 1 => if (orbS g n i).1.getD i false = true then orbS g n i else ((orbI g i (orbS g n i).1 g.length).1, (orbS g n i).2 ++ [srtI (orbI g i (orbS g n i).1 g.length).2])
def orbL (g : List (List Int)) : List (List Int) := (orbS g (g.getD 0 []).length (g.getD 0 []).length).2
theorem orbI_ok (g : List (List Int)) (i : Nat) (met : List Bool) : ∀ k, (orbI g i met k).1.length = met.length ∧ (orbI g i met k).2.length ≤ k
  | 0 => ⟨rfl, Nat.le_refl _⟩
  | k + 1 => by
    have ih := orbI_ok g i met k
    rw [orbI]
    split
    · exact ⟨ih.1, by omega⟩
    · exact ⟨by rw [List.length_set]; exact ih.1, by simp; omega⟩
theorem orbS_ok (g : List (List Int)) (n : Nat) : ∀ i, (orbS g n i).1.length = n ∧ (orbS g n i).2.length ≤ i
  | 0 => ⟨by simp [orbS], Nat.le_refl _⟩
  | i + 1 => by
    have ih := orbS_ok g n i
    rw [orbS]
    split
    · exact ⟨ih.1, by omega⟩
    · exact ⟨by rw [(orbI_ok g i _ _).1]; exact ih.1, by simp; omega⟩
/-- impl.OrbitsOf of a group -/
theorem impl_OrbitsOf (sh : Bool) (g : List (List Int)) (hB : gokB g = true) : AC Tryz.prog 64 [.d sh (.sl (.sl .int)) g] [] [.ow 0] [.sl 29 (.sl .int) (orbL g)] := by
  obtain ⟨⟨hg1, hg2⟩, hgp⟩ := perm_bd hB
  have hx : ∀ i, i < g.length → (g.getD i []).length ≤ 1048576 := fun i hi => by have := (hgp i hi).1.1; omega
  have hG := impl_GroupOk sh g (by omega) hx
  rw [hB] at hG
  have hn := (hgp 0 (by omega)).1.1
  unfold orbL
  generalize hnn : (g.getD 0 []).length = n at *
  refine AC_of tauOk 64 0 [2] Tryz.func64 rfl (by kernel_rfl) rfl rfl rfl rfl rfl ?_
  refine ⟨[], false, _, _, hG, List.nodup_nil, rfl, rfl, trivial, fun _ => ?_, nofun⟩
  refine ⟨rfl, by decide, true, ?_⟩
  refine ⟨0, rfl, by omega, (g.getD 0 []).length, (g.getD 0 []).length, rfl, rfl, Nat.le_refl _, by omega, ?_⟩
  rw [hnn]
  refine ⟨Nat, fun k => ⟨[(0, .d sh (.sl (.sl .int)) g), (3, .ow 0), (4, .ow 1), (19, I (n : Nat)), (20, I (k : Nat))], [.sl 29 (.sl .int) (orbS g n k).2, .sl 4 .bool (orbS g n k).1]⟩, fun k => k ≤ n, fun k => n - k, 0, Nat.zero_le _,
    ⟨⟨rfl, rfl⟩, ⟨rfl, rfl, rfl, retI (by simp), rfl, trivial⟩, rfl, rfl, trivial⟩, fun k hk => ?_⟩
  dsimp only at hk
  obtain ⟨o1, o2⟩ := orbS_ok g n k
  refine ⟨fun h2 => ?_, fun h2 => ?_⟩
  · have hk2 : k < n := by omega
    refine ⟨k, rfl, by omega, fun h3 => ?_, fun h3 => ?_⟩
    · have e : orbS g n (k + 1) = orbS g n k := by rw [orbS, if_pos h3]
      exact ⟨((k + 1 : Nat) : Int), w64_eq (by omega) (by omega) (by omega), k + 1, by first | omega | (dsimp only; omega), by first | omega | (dsimp only; omega), ⟨rfl, rfl⟩, ⟨rfl, rfl, rfl, rfl, rfl, trivial⟩, rowE (by rw [e]), rowE (by rw [e]), trivial⟩
    · have e : orbS g n (k + 1) = ((orbI g k (orbS g n k).1 g.length).1, (orbS g n k).2 ++ [srtI (orbI g k (orbS g n k).1 g.length).2]) := by rw [orbS, if_neg (by rw [h3]; decide)]
      have hI := orbI_ok g k (orbS g n k).1
      rw [o1] at hI
      refine ⟨rfl, by decide, true, ?_⟩
      refine ⟨Nat, fun i => ⟨[(0, .d sh (.sl (.sl .int)) g), (3, .ow 0), (4, .ow 1), (5, I (k : Nat)), (6, .ow 2), (19, I (n : Nat)), (20, I (k : Nat)), (28, .d sh (.sl (.sl .int)) g), (29, I g.length), (30, I (i : Nat))], [.sl 29 (.sl .int) (orbS g n k).2, .sl 4 .bool (orbI g k (orbS g n k).1 i).1, .sl 3 .int (orbI g k (orbS g n k).1 i).2]⟩,
        fun i => i ≤ g.length, fun i => g.length - i, 0, Nat.zero_le _,
        ⟨⟨rfl, rfl⟩, ⟨rfl, rfl, rfl, rfl, rfl, rfl, rfl, rfl, rfl, rfl, trivial⟩, rfl, rfl, rfl, trivial⟩, fun i hi => ?_⟩
      dsimp only at hi
      obtain ⟨i1, i2⟩ := hI i
      refine ⟨fun h4 => ?_, fun h4 => ?_⟩
      · have hi2 : i < g.length := by omega
        obtain ⟨hP, hl⟩ := hgp i hi2
        have hb := (hP.2 k (by omega)).1
        have hv : (g.getD i []).getD k 0 = ((((g.getD i []).getD k 0).toNat : Nat) : Int) := by omega
        refine ⟨i, rfl, hi2, k, rfl, by omega, ((g.getD i []).getD k 0).toNat, hv, by omega, fun h5 => ?_, fun h5 => ?_⟩
        · have e2 : orbI g k (orbS g n k).1 (i + 1) = orbI g k (orbS g n k).1 i := by rw [orbI, if_pos h5]
          exact ⟨((i + 1 : Nat) : Int), w64_eq (by omega) (by omega) (by omega), i + 1, by first | omega | (dsimp only; omega), by first | omega | (dsimp only; omega), ⟨rfl, rfl⟩, ⟨rfl, rfl, rfl, rfl, rfl, rfl, rfl, rfl, rfl, rfl, trivial⟩, rfl, rowE (by rw [e2]), rowE (by rw [e2]), trivial⟩
        · have e2 : orbI g k (orbS g n k).1 (i + 1) = ((orbI g k (orbS g n k).1 i).1.set ((g.getD i []).getD k 0).toNat true, (orbI g k (orbS g n k).1 i).2 ++ [(g.getD i []).getD k 0]) := by rw [orbI, if_neg (by rw [h5]; decide)]
          refine ⟨k, rfl, by omega, ((g.getD i []).getD k 0).toNat, hv, by omega, ?_⟩
          refine ⟨k, rfl, by omega, ?_⟩
          refine ⟨rfl, by decide, false, ?_⟩
          refine ⟨rfl, Nat.zero_le _, rfl, by simp only [List.length_cons, List.length_nil]; omega, rfl, ?_⟩
          exact ⟨((i + 1 : Nat) : Int), w64_eq (by omega) (by omega) (by omega), i + 1, by first | omega | (dsimp only; omega), by first | omega | (dsimp only; omega), ⟨rfl, rfl⟩, ⟨rfl, rfl, rfl, rfl, rfl, rfl, rfl, rfl, rfl, rfl, trivial⟩, rfl, rowE (by rw [e2]), rowE (by rw [e2]), trivial⟩
      · obtain rfl : i = g.length := by omega
        dsimp only
        refine ⟨[2], false, _, _, slices_Sort_ints 3 _ _ (by omega) (srtI_p _) (srtI_s _), by decide, rfl, rfl, ⟨⟨(srtI_p _).length_eq, rfl, rfl⟩, trivial⟩, ?_⟩
        refine ⟨rfl, rfl, by decide, false, ?_⟩
        refine ⟨rfl, Nat.zero_le _, rfl, by simp only [List.length_cons, List.length_nil]; omega, rfl, ?_⟩
        exact ⟨((k + 1 : Nat) : Int), w64_eq (by omega) (by omega) (by omega), k + 1, by first | omega | (dsimp only; omega), by first | omega | (dsimp only; omega), ⟨rfl, rfl⟩, ⟨rfl, rfl, rfl, rfl, rfl, trivial⟩, rowE (by rw [e]), rowE (by rw [e]), trivial⟩
  · obtain rfl : k = n := by omega
    exact ⟨some 0, ⟨⟨rfl, rfl⟩, trivial⟩, ⟨rfl, rfl⟩, rfl⟩
/-- impl.copyLists: the result as data -/
theorem impl_copyLists_d (sh : Bool) (g : List (List Int)) (hgl : g.length ≤ 1048576) (hx : ∀ i, i < g.length → (g.getD i []).length ≤ 1048576) : AC Tryz.prog 28 [.d sh (.sl (.sl .int)) g] [] [.ow 0] [.sl 29 (.sl .int) g] := by
  refine AC_of tauOk 20 0 [2] Tryz.func28 rfl (by kernel_rfl) rfl rfl rfl rfl rfl ?_
  refine ⟨rfl, by decide, true, ?_⟩
  refine ⟨Nat, fun k => ⟨[(3, .ow 0), (7, .d sh (.sl (.sl .int)) g), (8, I g.length), (9, I (k : Nat))], [.sl 29 (.sl .int) (g.take k)]⟩, fun k => k ≤ g.length, fun k => g.length - k, 0, Nat.zero_le _,
    ⟨⟨rfl, rfl⟩, ⟨rfl, rfl, rfl, rfl, trivial⟩, rfl, trivial⟩, fun k hk => ?_⟩
  dsimp only at hk
  refine ⟨fun h1 => ?_, fun h1 => ?_⟩
  · have hk2 : k < g.length := by omega
    have hs := L_succ g k [] hk2
    have htl : (g.take k).length = k := by rw [List.length_take]; omega
    refine ⟨k, rfl, hk2, ?_⟩
    by_cases h0 : g.getD k [] = []
    · have hcn := slices_Clone_no sh
      rw [← h0] at hcn
      refine ⟨[], false, _, _, hcn, List.nodup_nil, rfl, rfl, trivial, ?_⟩
      refine ⟨rfl, by decide, false, ?_⟩
      refine ⟨rfl, Nat.zero_le _, rfl, by simp only [List.length_cons, List.length_nil]; omega, rfl, ?_⟩
      exact ⟨((k + 1 : Nat) : Int), w64_eq (by omega) (by omega) (by omega), k + 1, by first | omega | (dsimp only; omega), by first | omega | (dsimp only; omega), ⟨rfl, rfl⟩, ⟨rfl, rfl, rfl, rfl, trivial⟩, rowE (by rw [hs, h0]), trivial⟩
    · refine ⟨[], false, _, _, slices_Clone_int sh (g.getD k []) (hx k hk2) h0, List.nodup_nil, rfl, rfl, trivial, ?_⟩
      refine ⟨rfl, rfl, by decide, false, ?_⟩
      refine ⟨rfl, Nat.zero_le _, rfl, by simp only [List.length_cons, List.length_nil]; omega, rfl, ?_⟩
      exact ⟨((k + 1 : Nat) : Int), w64_eq (by omega) (by omega) (by omega), k + 1, by first | omega | (dsimp only; omega), by first | omega | (dsimp only; omega), ⟨rfl, rfl⟩, ⟨rfl, rfl, rfl, rfl, trivial⟩, rowE (by rw [hs]), trivial⟩
  · obtain rfl : k = g.length := by omega
    exact ⟨some 0, ⟨⟨rfl, rfl⟩, trivial⟩, ⟨rfl, rowsE (List.take_length ..)⟩, rfl⟩
/-- impl.ints -/
theorem impl_ints_both (sh : Bool) (ws : List (List UInt8)) (hl : ws.length ≤ 1048576) (hw : ∀ i, i < ws.length → (ws.getD i []).length ≤ 1048576) (r : List AV) (rr : List Row)
    (hno : ws.all prsB = false → r = [.nil, .d true .bool false] ∧ rr = []) (hyes : ws.all prsB = true → r = [.ow 0, .d true .bool true] ∧ rr = [.sl 3 .int (ws.map prsV)]) : AC Tryz.prog 33 [.d sh (.sl .str) ws] [] r rr := by
  refine AC_of tauOk 29 0 [2, 3] Tryz.func33 rfl (by kernel_rfl) rfl rfl rfl rfl rfl ?_
  refine ⟨rfl, by decide, true, ?_⟩
  refine ⟨Nat, fun k => ⟨[(4, .ow 0), (10, .d sh (.sl .str) ws), (11, I ws.length), (12, I (k : Nat))], [.sl 3 .int ((ws.take k).map prsV)]⟩, fun k => k ≤ ws.length ∧ (ws.take k).all prsB = true, fun k => ws.length - k, 0, ⟨Nat.zero_le _, rfl⟩,
    ⟨⟨rfl, rfl⟩, ⟨rfl, rfl, rfl, rfl, trivial⟩, rfl, trivial⟩, ?_⟩
  rintro k ⟨hk, hall⟩
  refine ⟨fun h1 => ?_, fun h1 => ?_⟩
  · have hk2 : k < ws.length := by omega
    have hs := L_succ ws k [] hk2
    have htl : (ws.take k).length = k := by rw [List.length_take]; omega
    have hI := impl_ParseInt (ws.getD k []) (hw k hk2)
    refine ⟨k, rfl, hk2, ?_⟩
    cases hp : prsB (ws.getD k [])
    · rw [prsR_no hp] at hI
      refine ⟨[], false, _, _, hI, List.nodup_nil, rfl, rfl, trivial, nofun, fun _ => ?_⟩
      obtain ⟨rfl, rfl⟩ := hno (by
        rw [Bool.eq_false_iff]
        intro h
        rw [List.all_eq_true] at h
        have := h (ws.getD k []) (by rw [getD_get _ _ _ hk2]; exact List.getElem_mem _)
        rw [hp] at this; cases this)
      exact ⟨none, ⟨rfl, rfl, trivial⟩, rfl, rfl⟩
    · rw [prsR_yes hp] at hI
      refine ⟨[], false, _, _, hI, List.nodup_nil, rfl, rfl, trivial, fun _ => ?_, nofun⟩
      refine ⟨rfl, by decide, false, ?_⟩
      refine ⟨rfl, Nat.zero_le _, rfl, by simp only [List.length_cons, List.length_nil, List.length_map]; omega, rfl, ?_⟩
      exact ⟨((k + 1 : Nat) : Int), w64_eq (by omega) (by omega) (by omega), k + 1, ⟨by omega, by rw [hs, List.all_append, hall, List.all_cons, hp]; rfl⟩, by first | omega | (dsimp only; omega), ⟨rfl, rfl⟩, ⟨rfl, rfl, rfl, rfl, trivial⟩, rowE (by rw [hs, List.map_append]; rfl), trivial⟩
  · obtain rfl : k = ws.length := by omega
    rw [List.take_length] at hall
    obtain ⟨rfl, rfl⟩ := hyes hall
    dsimp only
    exact ⟨some 0, ⟨⟨rfl, rfl⟩, rfl, trivial⟩, ⟨rfl, rowsE (by rw [List.take_length])⟩, rfl⟩
/-- impl.orNone -/
theorem impl_orNone (s : List UInt8) (ok : Bool) : AC Tryz.prog 75 [.d true .str s, .d true .bool ok] [] [.d true .str (if ok then s else [110, 111, 110, 101])] [] := by
  cases ok
  · refine AC_of tauOk 8 0 [4] Tryz.func75 rfl (by kernel_rfl) rfl rfl rfl rfl rfl ?_
    exact ⟨none, ⟨rfl, trivial⟩, rfl, rfl⟩
  · refine AC_of tauOk 8 0 [4] Tryz.func75 rfl (by kernel_rfl) rfl rfl rfl rfl rfl ?_
    exact ⟨none, ⟨rfl, trivial⟩, rfl, rfl⟩
/-- the lines of a text -/
def lnsL (t : List UInt8) : List (List UInt8) := if (wrdG (byB [10]) t).getD ((wrdG (byB [10]) t).length - 1) [] = [] then (wrdG (byB [10]) t).take ((wrdG (byB [10]) t).length - 1) else wrdG (byB [10]) t
theorem wrdG_pos (p : UInt8 → Bool) (t : List UInt8) : 1 ≤ (wrdG p t).length ∧ (wrdG p t).length ≤ t.length + 1 := by
  have := (spG_b p t t.length).1
  rw [wrdG, List.length_append]; simp; omega
/-- impl.SplitLines -/
theorem impl_SplitLines (t : List UInt8) (hl : t.length ≤ 1048576) : AC Tryz.prog 10 [.d true .str t] [] [.d true (.sl .str) (lnsL t)] [] := by
  obtain ⟨h1, h2⟩ := wrdG_pos (byB [10]) t
  have hS := impl_SplitBy t [10] hl
  have hL : lnsL t = if (wrdG (byB [10]) t).getD ((wrdG (byB [10]) t).length - 1) [] = [] then (wrdG (byB [10]) t).take ((wrdG (byB [10]) t).length - 1) else wrdG (byB [10]) t := rfl
  generalize wrdG (byB [10]) t = W at *
  rw [hL]
  refine AC_of tauOk 19 0 [2] Tryz.func10 rfl (by kernel_rfl) rfl rfl rfl rfl rfl ?_
  refine ⟨[], true, _, _, hS, List.nodup_nil, rfl, rfl, trivial, ?_⟩
  refine ⟨((W.length - 1 : Nat) : Int), w64_eq (by omega) (by omega) (by omega), W.length - 1, rfl, by omega, fun h3 => ?_, fun h3 => ?_⟩
  · refine ⟨((W.length - 1 : Nat) : Int), w64_eq (by omega) (by omega) (by omega), ?_⟩
    rw [if_pos h3]
    refine ⟨_, rfl, Nat.zero_le _, by omega, ?_⟩
    exact ⟨none, ⟨rfl, trivial⟩, rfl, rfl⟩
  · rw [if_neg h3]
    exact ⟨none, ⟨rfl, trivial⟩, rfl, rfl⟩
end Go.Proofs.YtacjiemkbhhhoaaGreatDoor
set_option linter.unusedVariables false
namespace Go.Proofs.YtacjiemkbhhhoaaGreatDoor
open Go Go.Proofs.YtacjiemkbhhhoaaGreatDoor.Ow
/-- the state behind k bytes -/
def hsN (code : List Int) : Nat → Int
  | 0 => w64 (2124 + (code.length : Nat))
  | k + 1 => w64 ((BitVec.ofInt 64 (w64 (w64 (w64 (hsN code k * 131) + w64 (code.getD k 0)) + 7)) &&& BitVec.ofInt 64 1073741823).toNat : Nat)
def hs0 (code : List Int) : Int := hsN code (min code.length 4000)
def curH (h : Int) : Int := w64 (w64 (h * 6364136223846793005) + 1442695040888963407)
def curX (h : Int) : Int := w64 ((BitVec.ofInt 64 (w64 ((BitVec.ofInt 64 (h.fdiv (2 ^ (min (33 : Int).toNat 64))) ^^^ BitVec.ofInt 64 (h.fdiv (2 ^ (min (45 : Int).toNat 64)))).toNat : Nat)) &&& BitVec.ofInt 64 255).toNat : Nat)
def curR (code : List Int) (i : Nat) (h : Int) : Int := if i < code.length then w64 ((BitVec.ofInt 64 (w64 (curX (curH h) + w64 (code.getD i 0))) &&& BitVec.ofInt 64 255).toNat : Nat) else curX (curH h)
def curI (code : List Int) (i : Nat) : Nat := if i < code.length then i + 1 else i
theorem and255 (x : BitVec 64) : 0 ≤ w64 ((x &&& BitVec.ofInt 64 255).toNat : Nat) ∧ w64 ((x &&& BitVec.ofInt 64 255).toNat : Nat) ≤ 255 := by
  have h : (x &&& BitVec.ofInt 64 255).toNat ≤ 255 := by
    rw [BitVec.toNat_and]
    exact Nat.and_le_right
  have e := w64_in ((x &&& BitVec.ofInt 64 255).toNat : Nat) (by omega) (by omega)
  rw [← e]; omega
theorem curR_b (code : List Int) (i : Nat) (h : Int) : 0 ≤ curR code i h ∧ curR code i h ≤ 255 := by
  unfold curR
  split
  · exact and255 _
  · exact and255 _
def cI (code : List Int) : Nat → Nat
  | 0 => 0
  | k + 1 => curI code (cI code k)
def cH (code : List Int) : Nat → Int
  | 0 => hs0 code
  | k + 1 => curH (cH code k)
def mkNum (code : List Int) (n : Nat) : Int := curR code (cI code n) (cH code n) * 256 + curR code (cI code (n + 1)) (cH code (n + 1))
theorem mkNum_b (code : List Int) (n : Nat) : 0 ≤ mkNum code n ∧ mkNum code n ≤ 65535 := by
  have h1 := curR_b code (cI code n) (cH code n)
  have h2 := curR_b code (cI code (n + 1)) (cH code (n + 1))
  unfold mkNum; omega
/-- spec.l01New -/
theorem spec_l01New (code : List Int) (hl : code.length ≤ 1048576) : AC Tryz.prog 26 [.d true (.sl .u8) code] [] [.ptr 0 0] [.sl 70 .mix [.u8s code, .int 0, .int (hs0 code)]] := by
  refine AC_of tauOk 32 0 [2] Tryz.func26 rfl (by kernel_rfl) rfl rfl rfl rfl rfl ?_
  refine ⟨_, rfl, ?_⟩
  refine ⟨Nat, fun k => ⟨[(0, .d true (.sl .u8) code), (3, I (hsN code k)), (4, I (k : Nat))], []⟩, fun k => k ≤ min code.length 4000, fun k => code.length - k, 0, Nat.zero_le _,
    ⟨⟨rfl, rfl⟩, ⟨rfl, rfl, rfl, trivial⟩, trivial⟩, fun k hk => ?_⟩
  dsimp only at hk
  have fin : ¬ (k < code.length ∧ k < 4000) → k = min code.length 4000 := by omega
  refine ⟨fun h1 => ?_, fun h1 => ?_⟩
  · refine ⟨fun h2 => ?_, fun h2 => ?_⟩
    · refine ⟨_, rfl, k, rfl, by omega, _, rfl, _, rfl, _, rfl, _, rfl, ?_⟩
      exact ⟨((k + 1 : Nat) : Int), w64_eq (by omega) (by omega) (by omega), k + 1, by dsimp only; omega, by dsimp only; omega, ⟨rfl, rfl⟩, ⟨rfl, rfl, rfl, trivial⟩, trivial⟩
    · obtain rfl := fin (by omega)
      refine ⟨Nat.zero_lt_succ _, (by decide : 3 ≤ 1000), ?_⟩
      exact ⟨some 0, ⟨⟨rfl, rfl⟩, trivial⟩, ⟨rfl, rfl⟩, rfl⟩
  · obtain rfl := fin (by omega)
    refine ⟨Nat.zero_lt_succ _, (by decide : 3 ≤ 1000), ?_⟩
    exact ⟨some 0, ⟨⟨rfl, rfl⟩, trivial⟩, ⟨rfl, rfl⟩, rfl⟩
/-- spec.l01Byte -/
theorem spec_l01Byte (code : List Int) (hl : code.length ≤ 1048576) (i : Nat) (h : Int) : AC Tryz.prog 23 [.ptr 0 0] [.sl 70 .mix [.u8s code, .int (i : Nat), .int h]] [I (curR code i h)] [.sl 70 .mix [.u8s code, .int (curI code i : Nat), .int (curH h)]] := by
  by_cases hi : i < code.length
  · rw [curR, if_pos hi, curI, if_pos hi]
    refine AC_of tauOk 58 1 [2] Tryz.func23 rfl (by kernel_rfl) rfl rfl rfl rfl rfl ?_
    refine ⟨(by decide : 2 < 3), (by decide : 2 < 3), _, rfl, _, rfl, (by decide : 2 < 3), (by decide : 2 < 3), ?_⟩
    refine ⟨none, by kernel_rfl, (by decide : 2 < 3), (by decide : 2 < 3), by decide, _, rfl, (by decide : 2 < 3), (by decide : 2 < 3), by decide, _, rfl, _, rfl, _, rfl, ?_⟩
    refine ⟨none, by kernel_rfl, (by decide : 1 < 3), (by decide : 1 < 3), (by decide : 0 < 3), (by decide : 0 < 3), fun h1 => ?_, fun h1 => ?_⟩
    · refine ⟨none, by kernel_rfl, (by decide : 0 < 3), (by decide : 0 < 3), (by decide : 1 < 3), (by decide : 1 < 3), i, rfl, hi, _, rfl, _, rfl, _, rfl, ?_⟩
      refine ⟨(by decide : 1 < 3), (by decide : 1 < 3), ((i + 1 : Nat) : Int), w64_eq (by omega) (by omega) (by omega), (by decide : 1 < 3), (by decide : 1 < 3), ?_⟩
      exact ⟨none, ⟨rfl, trivial⟩, rfl, rfl⟩
    · omega
  · rw [curR, if_neg hi, curI, if_neg hi]
    refine AC_of tauOk 58 1 [2] Tryz.func23 rfl (by kernel_rfl) rfl rfl rfl rfl rfl ?_
    refine ⟨(by decide : 2 < 3), (by decide : 2 < 3), _, rfl, _, rfl, (by decide : 2 < 3), (by decide : 2 < 3), ?_⟩
    refine ⟨none, by kernel_rfl, (by decide : 2 < 3), (by decide : 2 < 3), by decide, _, rfl, (by decide : 2 < 3), (by decide : 2 < 3), by decide, _, rfl, _, rfl, _, rfl, ?_⟩
    refine ⟨none, by kernel_rfl, (by decide : 1 < 3), (by decide : 1 < 3), (by decide : 0 < 3), (by decide : 0 < 3), fun h1 => ?_, fun h1 => ?_⟩
    · omega
    · exact ⟨none, ⟨rfl, trivial⟩, rfl, rfl⟩
/-- spec.l16New -/
theorem spec_l16New (code : List Int) (hl : code.length ≤ 1048576) (n : Nat) (hn : n ≤ 1000) : AC Tryz.prog 22 [.d true (.sl .u8) code, I (n : Nat)] [] [.ptr 0 0] [.sl 70 .mix [.u8s code, .int (cI code n : Nat), .int (cH code n)]] := by
  refine AC_of tauOk 17 0 [4] Tryz.func22 rfl (by kernel_rfl) rfl rfl rfl rfl rfl ?_
  refine ⟨[], false, _, _, spec_l01New code hl, List.nodup_nil, rfl, rfl, trivial, ?_⟩
  refine ⟨Nat, fun k => ⟨[(1, I (n : Nat)), (5, .ptr 0 0), (6, I (k : Nat))], [.sl 70 .mix [.u8s code, .int (cI code k : Nat), .int (cH code k)]]⟩, fun k => k ≤ n, fun k => n - k, 0, Nat.zero_le _,
    ⟨⟨rfl, rfl⟩, ⟨rfl, rfl, rfl, trivial⟩, rfl, trivial⟩, fun k hk => ?_⟩
  dsimp only at hk
  refine ⟨fun h1 => ?_, fun h1 => ?_⟩
  · refine ⟨[0], false, _, _, spec_l01Byte code hl (cI code k) (cH code k), by decide, rfl, rfl, ⟨⟨rfl, rfl, rfl⟩, trivial⟩, ?_⟩
    exact ⟨((k + 1 : Nat) : Int), w64_eq (by omega) (by omega) (by omega), k + 1, by dsimp only; omega, by dsimp only; omega, ⟨rfl, rfl⟩, ⟨rfl, rfl, rfl, trivial⟩, rfl, trivial⟩
  · obtain rfl : k = n := by omega
    exact ⟨some 0, ⟨⟨rfl, rfl⟩, trivial⟩, ⟨rfl, rfl⟩, rfl⟩
/-- spec.MakeNum -/
theorem spec_MakeNum (code : List Int) (hl : code.length ≤ 1048576) (n : Nat) (hn : n ≤ 1000) : AC Tryz.prog 7 [.d true (.sl .u8) code, I (n : Nat)] [] [I (mkNum code n)] [] := by
  have h1 := curR_b code (cI code n) (cH code n)
  have h2 := curR_b code (cI code (n + 1)) (cH code (n + 1))
  refine AC_of tauOk 15 0 [4] Tryz.func7 rfl (by kernel_rfl) rfl rfl rfl rfl rfl ?_
  refine ⟨[], false, _, _, spec_l16New code hl n hn, List.nodup_nil, rfl, rfl, trivial, ?_⟩
  refine ⟨[0], false, _, _, spec_l01Byte code hl (cI code n) (cH code n), by decide, rfl, rfl, ⟨⟨rfl, rfl, rfl⟩, trivial⟩, ?_⟩
  refine ⟨_, w64_in _ (by omega) (by omega), ?_⟩
  refine ⟨[0], false, _, _, spec_l01Byte code hl (cI code (n + 1)) (cH code (n + 1)), by decide, rfl, rfl, ⟨⟨rfl, rfl, rfl⟩, trivial⟩, ?_⟩
  refine ⟨mkNum code n, w64_eq rfl (by unfold mkNum; omega) (by unfold mkNum; omega), ?_⟩
  exact ⟨none, ⟨rfl, trivial⟩, rfl, rfl⟩
end Go.Proofs.YtacjiemkbhhhoaaGreatDoor
set_option linter.unusedVariables false
set_option linter.unusedSimpArgs false
namespace Go.Proofs.YtacjiemkbhhhoaaGreatDoor
open Go Go.Proofs.YtacjiemkbhhhoaaGreatDoor.Ow
def fndG (n : Nat) (gens : List (List Int)) : Option (List (List Int)) := bfsS n gens 200 0 [idL n] [idL n]
/-- a group of n points -/
def GrQ (n : Nat) (R : List (List Int)) : Prop := AscL R ∧ R.length ≤ 120 ∧ idL n ∈ R ∧ (∀ x ∈ R, PnP n x) ∧ ∀ x ∈ R, ∀ y ∈ R, exL x y ∈ R
theorem grq_gok {n : Nat} {R : List (List Int)} (h : GrQ n R) : gokB R = true := by
  obtain ⟨h1, h2, h3, h4, h5⟩ := h
  have hl : 1 ≤ R.length := List.length_pos_of_mem h3
  have hm : ∀ i, i < R.length → R.getD i [] ∈ R := fun i hi => by rw [getD_get _ _ _ hi]; exact List.getElem_mem _
  refine (gokB_iff R).2 ⟨hl, h2, fun i hi => gok1_of ((permB_iff _).2 (h4 _ (hm i hi)).1) (by rw [(h4 _ (hm i hi)).2, (h4 _ (hm 0 (by omega))).2]) ?_, fun i hi j hj => ?_⟩
  · rcases Nat.eq_zero_or_pos i with h | h
    · exact .inl h
    · exact .inr (asc_get h1 (by omega) hi)
  · exact decide_eq_true ((findI_mem h1 _).2 (h5 _ (hm i hi) _ (hm j hj)))
end Go.Proofs.YtacjiemkbhhhoaaGreatDoor
set_option linter.unusedVariables false
namespace Go.Proofs.YtacjiemkbhhhoaaGreatDoor
open Go Go.RowKit Go.Lib Go.Proofs.YtacjiemkbhhhoaaGreatDoor.Ow
theorem gok_asc {g : List (List Int)} (hB : gokB g = true) : AscL g := by
  have hG := (gokB_iff g).1 hB
  have h1 : ∀ i, i + 1 < g.length → cmpI (g.getD i []) (g.getD (i + 1) []) < 0 := fun i hi => by
    have := (gok1_p (hG.o1 (i + 1) hi)).2.2
    rcases this with h | h
    · omega
    · simpa using h
  have h2 : ∀ d i, i + d + 1 < g.length → cmpI (g.getD i []) (g.getD (i + d + 1) []) < 0 := fun d => by
    induction d with
    | zero => intro i hi; exact h1 i hi
    | succ d ih =>
      intro i hi
      exact cmpI_trans _ _ _ (ih i (by omega)) (h1 (i + d + 1) hi)
  refine List.pairwise_iff_getElem.2 fun i j hi hj hij => ?_
  have := h2 (j - i - 1) i (by omega)
  rw [show i + (j - i - 1) + 1 = j by omega, getD_get _ _ _ hi, getD_get _ _ _ hj] at this
  exact this
theorem gok_cl {g : List (List Int)} (hB : gokB g = true) : ∀ x ∈ g, ∀ y ∈ g, exL x y ∈ g := fun x hx y hy => by
  have hG := (gokB_iff g).1 hB
  obtain ⟨i, hi, rfl⟩ := List.getElem_of_mem hx
  obtain ⟨j, hj, rfl⟩ := List.getElem_of_mem hy
  have := of_decide_eq_true (hG.o2 i hi j hj)
  rw [getD_get _ _ _ hi, getD_get _ _ _ hj] at this
  exact (findI_mem (gok_asc hB) _).1 this
theorem gok_el {g : List (List Int)} (hB : gokB g = true) : ∀ x ∈ g, PnP (g.getD 0 []).length x := fun x hx => by
  obtain ⟨i, hi, rfl⟩ := List.getElem_of_mem hx
  have := (perm_bd hB).2 i hi
  rw [getD_get _ _ _ hi] at this
  exact this
theorem gok_grl {g : List (List Int)} (hB : gokB g = true) : GrL (g.getD 0 []).length g := by
  obtain ⟨⟨hg1, hg2⟩, hgp⟩ := perm_bd hB
  have h0 := hgp 0 (by omega)
  have hm : g.getD 0 [] ∈ g := by rw [getD_get _ _ _ (by omega)]; exact List.getElem_mem _
  have hel := gok_el hB
  have hp := perm_of_inj (asc_nodup (gok_asc hB)) (exL (g.getD 0 [])) (fun x hx => gok_cl hB _ hm x hx) fun x hx y hy e => ex_left_inj (hel _ hm) (hel x hx) (hel y hy) e
  obtain ⟨e, he, hxe⟩ := List.mem_map.1 (hp.symm.subset hm)
  have hid : e = idL (g.getD 0 []).length := ex_left_inj (hel _ hm) (hel e he) (id_perm h0.1.1.1 h0.1.1.2) (by rw [hxe, ex_id (hel _ hm)])
  exact ⟨h0.1.1.1, h0.1.1.2, gok_asc hB, hid ▸ he, hel, gok_cl hB⟩
theorem gok_inv {g : List (List Int)} (hB : gokB g = true) {x : List Int} (hx : x ∈ g) : actL x (idL x.length) ∈ g := by
  have hGr := gok_grl hB
  have hel := hGr.el
  have hp := perm_of_inj (asc_nodup hGr.a) (exL x) (fun y hy => hGr.cl x hx y hy) fun y hy z hz e => ex_left_inj (hel _ hx) (hel y hy) (hel z hz) e
  obtain ⟨y, hy, hxy⟩ := List.mem_map.1 (hp.symm.subset hGr.id)
  have hxP := hel x hx
  have hyP := hel y hy
  have : y = actL x (idL x.length) := by
    refine act_ext hxP.1 (by rw [hyP.2, hxP.2]) (by rw [actL_len, idLlen]) fun i hi => ?_
    rw [actL_get hxP.1 (idLlen _).symm i (by rw [idLlen]; exact hi), idL_at _ _ hi, ← exL_at x y i hi, hxy, idL_at _ _ (by rw [← hxP.2]; exact hi)]
  exact this ▸ hy
/-- math/bits.Mul -/
theorem bits_Mul (x y : Nat) (hx : x < 18446744073709551616) (hy : y < 18446744073709551616) : AC Tryz.prog 260 [.d true .u64 (x : Int), .d true .u64 (y : Int)] [] [.d true .u64 ((x * y / 18446744073709551616 : Nat) : Int), .d true .u64 ((x * y % 18446744073709551616 : Nat) : Int)] [] := by
  refine AC.flat2 ⟨_, _, Tryz.func260, rfl, by kernel_rfl⟩ fun w A vs hvs => ?_
  obtain ⟨v, r, rfl, h1, v2, r2, rfl, h2, h3⟩ := hvs
  cases h1; cases h2; cases h3
  exact Tryz.bits_Mul x y hx hy w
def rpL (c : Int) (n k : Nat) : List Int := List.replicate k c ++ List.replicate (n - k) 0
theorem rpL_len (c : Int) (n k : Nat) (h : k ≤ n) : (rpL c n k).length = n := by simp [rpL]; omega
theorem rp_step (c : Int) (n k : Nat) (hk : k ≤ n) (m : Nat) (hm : m ≤ k) (hm2 : m ≤ n - k) : cpyL (rpL c n k) k ((List.drop 0 (List.take k (rpL c n k))).take m) = rpL c n (k + m) := by
  have h1 : List.take k (rpL c n k) = List.replicate k c := by
    rw [rpL, List.take_append_of_le_length (by simp)]; simp
  have h2 : ((List.drop 0 (List.take k (rpL c n k))).take m) = List.replicate m c := by
    rw [h1, List.drop_zero, List.take_replicate, Nat.min_eq_left hm]
  have h3 : List.drop (k + m) (rpL c n k) = List.replicate (n - (k + m)) 0 := by
    rw [rpL, List.drop_append, List.drop_replicate, List.drop_replicate]
    simp; omega
  rw [cpyL, h2, h1, List.length_replicate, h3, rpL, List.replicate_append_replicate]
theorem rp_0 (c : Int) (n : Nat) (h : 1 ≤ n) : cpyL (List.replicate n (0 : Int)) 0 ([c].take 1) = rpL c n 1 := by
  simp [cpyL, rpL]
/-- slices.Repeat of one integer -/
theorem slices_Repeat_one (c : Int) (n : Nat) (h1 : 1 ≤ n) (hn : n ≤ 1048576) : AC Tryz.prog 157 [.d true (.sl .int) [c], I (n : Nat)] [] [.ow 0] [.sl 3 .int (List.replicate n c)] := by
  have hM := bits_Mul 1 n (by decide) (by omega)
  rw [Nat.one_mul, show n / 18446744073709551616 = 0 by omega, show n % 18446744073709551616 = n by omega] at hM
  refine AC_of tauOk 48 0 [4] Tryz.func157 rfl (by kernel_rfl) rfl rfl rfl rfl rfl ?_
  refine ⟨fun h => by omega, fun _ => ?_⟩
  refine ⟨((1 : Nat) : Int), u64w _ (by omega) (by omega), ((n : Nat) : Int), u64w _ (by omega) (by omega), [], false, _, _, hM, List.nodup_nil, rfl, rfl, trivial, ?_⟩
  refine ⟨fun h => by omega, fun _ => ?_⟩
  refine ⟨fun h => by omega, fun _ => ?_⟩
  refine ⟨((n : Nat) : Int), w64_in _ (by omega) (by omega), n, n, rfl, rfl, Nat.le_refl _, by omega, ?_⟩
  refine ⟨rfl, rfl, ?_⟩
  have h00 : cpyL (List.replicate n (0 : Int)) 0 ([c].take 1) = rpL c n 1 := rp_0 c n h1
  have hmin : min [c].length (List.replicate n (0 : Int)).length = 1 := by simp; omega
  refine ⟨Nat, fun k => ⟨[(7, .ow 0), (8, I (k : Nat))], [.sl 3 .int (rpL c n k)]⟩, fun k => 1 ≤ k ∧ k ≤ n, fun k => n - k, 1, ⟨Nat.le_refl _, h1⟩,
    ⟨⟨rfl, rfl⟩, ⟨rfl, retI (by rw [← hmin]; rfl), trivial⟩, rowE (by rw [← h00, ← hmin]; rfl), trivial⟩, ?_⟩
  rintro k ⟨hk1, hk⟩
  have hrl := rpL_len c n k hk
  refine ⟨fun h2 => ?_, fun h2 => ?_⟩
  · have hk2 : k < n := by omega
    have hst := rp_step c n k hk (min k (n - k)) (by omega) (by omega)
    have hml : min (List.drop 0 (List.take k (rpL c n k))).length ((rpL c n k).length - k) = min k (n - k) := by
      rw [hrl]; simp only [List.length_drop, List.length_take, hrl]; omega
    refine ⟨some 3000, .take 0 (.take 1 (.take 2 (.take 4 (.take 5 (.two 3 (.one 6 (.one 7 (.one 8 (.one 9 .done)))) 6 (.one 3 (.one 7 (.one 8 (.one 9 .done))))))))), by kernel_rfl, ?_, ?_⟩
    · exact ⟨k, rfl, by omega, Nat.le_refl _, k, rfl, Nat.zero_le _, by omega, rfl, rfl, by omega, ((k + min k (n - k) : Nat) : Int), w64_eq (by rw [hml]; omega) (by omega) (by omega), k + min k (n - k), ⟨by omega, by omega⟩, by dsimp only; omega, ⟨rfl, rfl⟩, ⟨rfl, rfl, trivial⟩, rowE (by rw [← hst, ← hml]), trivial⟩
    · exact ⟨k, rfl, Nat.zero_le _, by omega, k, rfl, by omega, Nat.le_refl _, rfl, rfl, by omega, ((k + min k (n - k) : Nat) : Int), w64_eq (by rw [hml]; omega) (by omega) (by omega), k + min k (n - k), ⟨by omega, by omega⟩, by dsimp only; omega, ⟨rfl, rfl⟩, ⟨rfl, rfl, trivial⟩, rowE (by rw [← hst, ← hml]), trivial⟩
  · obtain rfl : k = n := by omega
    exact ⟨some 0, ⟨⟨rfl, rfl⟩, trivial⟩, ⟨rfl, rowsE (by simp [rpL])⟩, rfl⟩
/-- the class of p gets the number z -/
def clsI (g : List (List Int)) (p : List Int) (z : Int) (out : List Int) : Nat → List Int
  | 0 => out
  | k + 1 => (clsI g p z out k).set (findI g (exL (exL (g.getD k []) p) (actL (g.getD k []) (idL (g.getD k []).length)))).toNat z
def clsS (g : List (List Int)) : Nat → List Int × Nat
  | 0 => (List.replicate g.length (-1), 0)
  | i + 1 => if 0 ≤ (clsS g i).1.getD i 0 then clsS g i else (clsI g (g.getD i []) ((clsS g i).2 : Nat) (clsS g i).1 g.length, (clsS g i).2 + 1)
def clsL (g : List (List Int)) : List Int := (clsS g g.length).1
theorem clsI_len (g : List (List Int)) (p : List Int) (z : Int) (out : List Int) : ∀ k, (clsI g p z out k).length = out.length
  | 0 => rfl
  | k + 1 => by rw [clsI, List.length_set, clsI_len g p z out k]
theorem clsS_ok (g : List (List Int)) : ∀ i, (clsS g i).1.length = g.length ∧ (clsS g i).2 ≤ i
  | 0 => ⟨by simp [clsS], Nat.le_refl _⟩
  | i + 1 => by
    have ih := clsS_ok g i
    rw [clsS]
    split
    · exact ⟨ih.1, by omega⟩
    · exact ⟨by rw [clsI_len]; exact ih.1, by dsimp only; omega⟩
/-- impl.ClassesOf of a group -/
theorem impl_ClassesOf (sh : Bool) (g : List (List Int)) (hB : gokB g = true) : AC Tryz.prog 66 [.d sh (.sl (.sl .int)) g] [] [.ow 0] [.sl 3 .int (clsL g)] := by
  obtain ⟨⟨hg1, hg2⟩, hgp⟩ := perm_bd hB
  have hx : ∀ i, i < g.length → (g.getD i []).length ≤ 1048576 := fun i hi => by have := (hgp i hi).1.1; omega
  have hG := impl_GroupOk sh g (by omega) hx
  rw [hB] at hG
  have hok := clsS_ok g
  have hgm : ∀ i, i < g.length → g.getD i [] ∈ g := fun i hi => by rw [getD_get _ _ _ hi]; exact List.getElem_mem hi
  have hGr := gok_grl hB
  have hfi : ∀ i, i < g.length → ∀ k, k < g.length → ∃ j : Nat, j < g.length ∧ findI g (exL (exL (g.getD k []) (g.getD i [])) (actL (g.getD k []) (idL (g.getD k []).length))) = (j : Int) := fun i hi k hk => by
    have h1 := hGr.cl _ (hGr.cl _ (hgm k hk) _ (hgm i hi)) _ (gok_inv hB (hgm k hk))
    have h2 := (findI_mem hGr.a _).2 h1
    rcases find_b g (exL (exL (g.getD k []) (g.getD i [])) (actL (g.getD k []) (idL (g.getD k []).length))) with h3 | ⟨j, h3, h4⟩
    · omega
    · exact ⟨j, h3, h4⟩
  refine AC_of tauOk 50 0 [2] Tryz.func66 rfl (by kernel_rfl) rfl rfl rfl rfl rfl ?_
  refine ⟨[], false, _, _, hG, List.nodup_nil, rfl, rfl, trivial, fun _ => ?_, nofun⟩
  refine ⟨rfl, by decide, false, ?_⟩
  refine ⟨[], false, _, _, slices_Repeat_one (-1) g.length hg1 (by omega), List.nodup_nil, rfl, rfl, trivial, ?_⟩
  refine ⟨Nat, fun i => ⟨[(0, .d sh (.sl (.sl .int)) g), (3, .ow 0), (4, I ((clsS g i).2 : Nat)), (16, .d sh (.sl (.sl .int)) g), (17, I g.length), (18, I (i : Nat))], [.sl 3 .int (clsS g i).1]⟩, fun i => i ≤ g.length, fun i => g.length - i, 0, Nat.zero_le _,
    ⟨⟨rfl, rfl⟩, ⟨rfl, rfl, rfl, rfl, rfl, rfl, trivial⟩, rfl, trivial⟩, fun i hi => ?_⟩
  dsimp only at hi
  obtain ⟨o1, o2⟩ := hok i
  refine ⟨fun h1 => ?_, fun h1 => ?_⟩
  · have hi2 : i < g.length := by omega
    obtain ⟨hPi, hli⟩ := hgp i hi2
    refine ⟨i, rfl, hi2, i, rfl, by omega, fun h2 => ?_, fun h2 => ?_⟩
    · have e : clsS g (i + 1) = clsS g i := by rw [clsS, if_pos h2]
      exact ⟨((i + 1 : Nat) : Int), w64_eq (by omega) (by omega) (by omega), i + 1, by dsimp only; omega, by dsimp only; omega, ⟨rfl, rfl⟩, ⟨rfl, rfl, retI (by rw [e]), rfl, rfl, rfl, trivial⟩, rowE (by rw [e]), trivial⟩
    · have e : clsS g (i + 1) = (clsI g (g.getD i []) ((clsS g i).2 : Nat) (clsS g i).1 g.length, (clsS g i).2 + 1) := by rw [clsS, if_neg h2]
      have hcl := clsI_len g (g.getD i []) ((clsS g i).2 : Nat) (clsS g i).1
      rw [o1] at hcl
      refine ⟨Nat, fun k => ⟨[(0, .d sh (.sl (.sl .int)) g), (3, .ow 0), (4, I ((clsS g i).2 : Nat)), (6, .d sh (.sl .int) (g.getD i [])), (16, .d sh (.sl (.sl .int)) g), (17, I g.length), (18, I (i : Nat)), (28, .d sh (.sl (.sl .int)) g), (29, I g.length), (30, I (k : Nat))], [.sl 3 .int (clsI g (g.getD i []) ((clsS g i).2 : Nat) (clsS g i).1 k)]⟩,
        fun k => k ≤ g.length, fun k => g.length - k, 0, Nat.zero_le _,
        ⟨⟨rfl, rfl⟩, ⟨rfl, rfl, rfl, rfl, rfl, rfl, rfl, rfl, rfl, rfl, trivial⟩, rfl, trivial⟩, fun k hk => ?_⟩
      dsimp only at hk
      have hlk := hcl k
      refine ⟨fun h3 => ?_, fun h3 => ?_⟩
      · have hk2 : k < g.length := by omega
        obtain ⟨hPk, hlk2⟩ := hgp k hk2
        have hvk := hPk.1
        have hvi := hPi.1
        have hel1 := exL_len (g.getD k []) (g.getD i [])
        have hil : (actL (g.getD k []) (idL (g.getD k []).length)).length = (g.getD k []).length := by rw [actL_len, idLlen]
        have hE := hGr.el _ (hGr.cl _ (hgm k hk2) _ (hgm i hi2))
        obtain ⟨j, hj, hfj⟩ := hfi i hi2 k hk2
        refine ⟨k, rfl, hk2, ?_⟩
        refine ⟨[], true, _, _, impl_compose sh sh (g.getD k []) (g.getD i []) (by omega) (fun a ha => by have := (hPk.2 a ha).1; omega), List.nodup_nil, rfl, rfl, trivial, ?_⟩
        refine ⟨[], true, _, _, impl_inverse sh (g.getD k []) hPk, List.nodup_nil, rfl, rfl, trivial, ?_⟩
        refine ⟨[], true, _, _, impl_compose true true (exL (g.getD k []) (g.getD i [])) (actL (g.getD k []) (idL (g.getD k []).length)) (by omega) (fun a ha => by have := (hE.1.2 a ha).1; omega), List.nodup_nil, rfl, rfl, trivial, ?_⟩
        refine ⟨[], false, _, _, impl_indexOf sh true g (exL (exL (g.getD k []) (g.getD i [])) (actL (g.getD k []) (idL (g.getD k []).length))) (by omega) hx (by rw [exL_len]; omega), List.nodup_nil, rfl, rfl, trivial, ?_⟩
        refine ⟨j, hfj, by omega, ?_⟩
        have es : clsI g (g.getD i []) ((clsS g i).2 : Nat) (clsS g i).1 (k + 1) = (clsI g (g.getD i []) ((clsS g i).2 : Nat) (clsS g i).1 k).set j ((clsS g i).2 : Nat) := by rw [clsI, hfj, Int.toNat_natCast]
        exact ⟨((k + 1 : Nat) : Int), w64_eq (by omega) (by omega) (by omega), k + 1, by dsimp only; omega, by dsimp only; omega, ⟨rfl, rfl⟩, ⟨rfl, rfl, rfl, rfl, rfl, rfl, rfl, rfl, rfl, rfl, trivial⟩, rowE es.symm, trivial⟩
      · obtain rfl : k = g.length := by omega
        refine ⟨(((clsS g i).2 + 1 : Nat) : Int), w64_eq (by omega) (by omega) (by omega), ?_⟩
        exact ⟨((i + 1 : Nat) : Int), w64_eq (by omega) (by omega) (by omega), i + 1, by dsimp only; omega, by dsimp only; omega, ⟨rfl, rfl⟩, ⟨rfl, rfl, retI (by rw [e]), rfl, rfl, rfl, trivial⟩, rowE (by rw [e]), trivial⟩
  · obtain rfl : i = g.length := by omega
    exact ⟨some 0, ⟨⟨rfl, rfl⟩, trivial⟩, ⟨rfl, rfl⟩, rfl⟩
end Go.Proofs.YtacjiemkbhhhoaaGreatDoor
namespace Go.Proofs
open Go.Shelf
def Tryz.laysTm_ren : Go.Shelf.Ren := ⟨fun | 6 => 257 | 15 => 243 | 14 => 321 | 28 => 313 | 29 => 314 | 20 => 345 | 21 => 346 | 22 => 347 | 23 => 348 | 24 => 349 | 25 => 350 | 26 => 351 | 27 => 352 | 46 => 368 | 47 => 340 | 48 => 341 | 49 => 369 | 50 => 370 | 57 => 376 | n => n, fun | 22 => 124 | 24 => 127 | 25 => 164 | 3 => 3 | 39 => 71 | 0 => 0 | 53 => 188 | 55 => 190 | 4 => 4 | 46 => 182 | 45 => 181 | 50 => 62 | 5 => 5 | 9 => 9 | 66 => 205 | 70 => 209 | 76 => 229 | 77 => 230 | n => n, fun | n => n⟩
theorem Tryz.laysTm : Go.Proofs.SlLaysF0.n6 Tryz.prog Tryz.laysTm_ren := {
  mixed := by kernel_rfl
  f6 := ⟨Tryz.f257.name, by decide, Tryz.func257.trans (congrArg some (by kernel_rfl))⟩
  f14 := ⟨Tryz.f321.name, by decide, Tryz.func321.trans (congrArg some (by kernel_rfl))⟩
  f15 := Tryz.func243.trans (congrArg some (by kernel_rfl))
  f20 := ⟨Tryz.f345.name, by decide, Tryz.func345.trans (congrArg some (by kernel_rfl))⟩
  f21 := ⟨Tryz.f346.name, by decide, Tryz.func346.trans (congrArg some (by kernel_rfl))⟩
  f22 := ⟨Tryz.f347.name, by decide, Tryz.func347.trans (congrArg some (by kernel_rfl))⟩
  f23 := ⟨Tryz.f348.name, by decide, Tryz.func348.trans (congrArg some (by kernel_rfl))⟩
  f24 := ⟨Tryz.f349.name, by decide, Tryz.func349.trans (congrArg some (by kernel_rfl))⟩
  f25 := ⟨Tryz.f350.name, by decide, Tryz.func350.trans (congrArg some (by kernel_rfl))⟩
  f26 := ⟨Tryz.f351.name, by decide, Tryz.func351.trans (congrArg some (by kernel_rfl))⟩
  f27 := ⟨Tryz.f352.name, by decide, Tryz.func352.trans (congrArg some (by kernel_rfl))⟩
  f28 := Tryz.func313.trans (congrArg some (by kernel_rfl))
  f29 := Tryz.func314.trans (congrArg some (by kernel_rfl))
  f46 := ⟨Tryz.f368.name, by decide, Tryz.func368.trans (congrArg some (by kernel_rfl))⟩
  f47 := Tryz.func340.trans (congrArg some (by kernel_rfl))
  f48 := Tryz.func341.trans (congrArg some (by kernel_rfl))
  f49 := ⟨Tryz.f369.name, by decide, Tryz.func369.trans (congrArg some (by kernel_rfl))⟩
  f50 := ⟨Tryz.f370.name, by decide, Tryz.func370.trans (congrArg some (by kernel_rfl))⟩
  f57 := ⟨Tryz.f376.name, by decide, Tryz.func376.trans (congrArg some (by kernel_rfl))⟩
  t0 := Tryz.underlying0
  a0 := Tryz.isAgg0
  z0 := Tryz.sizeOf0
  v0 := Tryz.zeroValue0
  t3 := Tryz.underlying3
  a3 := Tryz.isAgg3
  z3 := Tryz.sizeOf3
  v3 := Tryz.zeroValue3
  t4 := Tryz.underlying4
  a4 := Tryz.isAgg4
  z4 := Tryz.sizeOf4
  v4 := Tryz.zeroValue4
  t5 := Tryz.underlying5
  a5 := Tryz.isAgg5
  z5 := Tryz.sizeOf5
  v5 := Tryz.zeroValue5
  t9 := Tryz.underlying9
  a9 := Tryz.isAgg9
  z9 := Tryz.sizeOf9
  v9 := Tryz.zeroValue9
  t22 := Tryz.underlying124
  a22 := Tryz.isAgg124
  z22 := Tryz.sizeOf124
  v22 := Tryz.zeroValue124
  t25 := Tryz.underlying164
  a25 := Tryz.isAgg164
  z25 := Tryz.sizeOf164
  v25 := Tryz.zeroValue164
  t39 := Tryz.underlying71
  a39 := Tryz.isAgg71
  z39 := Tryz.sizeOf71
  v39 := Tryz.zeroValue71
  t45 := Tryz.underlying181
  a45 := Tryz.isAgg181
  z45 := Tryz.sizeOf181
  v45 := Tryz.zeroValue181
  t46 := Tryz.underlying182
  a46 := Tryz.isAgg182
  z46 := Tryz.sizeOf182
  v46 := Tryz.zeroValue182
  t50 := Tryz.underlying62
  a50 := Tryz.isAgg62
  z50 := Tryz.sizeOf62
  v50 := Tryz.zeroValue62
  t53 := Tryz.underlying188
  a53 := Tryz.isAgg188
  z53 := Tryz.sizeOf188
  v53 := Tryz.zeroValue188
  t55 := Tryz.underlying190
  a55 := Tryz.isAgg190
  z55 := Tryz.sizeOf190
  v55 := Tryz.zeroValue190
  t66 := Tryz.underlying205
  a66 := Tryz.isAgg205
  z66 := Tryz.sizeOf205
  v66 := Tryz.zeroValue205
  t70 := Tryz.underlying209
  a70 := Tryz.isAgg209
  z70 := Tryz.sizeOf209
  v70 := Tryz.zeroValue209
  t76 := Tryz.underlying229
  a76 := Tryz.isAgg229
  z76 := Tryz.sizeOf229
  v76 := Tryz.zeroValue229
  t77 := Tryz.underlying230
  a77 := Tryz.isAgg230
  z77 := Tryz.sizeOf230
  v77 := Tryz.zeroValue230 }
end Go.Proofs
set_option linter.unusedVariables false
namespace Go.Proofs.YtacjiemkbhhhoaaGreatDoor
open Go Go.RowKit Go.Sort Go.Lib Go.Proofs.YtacjiemkbhhhoaaGreatDoor.Ow
set_option maxHeartbeats 2000000 in
set_option maxRecDepth 100000 in
/-- the closure that compares terms -/
theorem cix2_go (b1 o1 n c b2 o2 m d : Nat) (z1 z2 : Int) (r : Int) (W : World) (h1 : b1 < W.heap.size) (h2 : b2 < W.heap.size)
    (hcon : ∀ W' : World, (∀ k, k < W.heap.size → W'.heap[k]? = W.heap[k]?) → Calls Tryz.prog 141 #[.slice (some ⟨b1, o1, none⟩) n c, .slice (some ⟨b2, o2, none⟩) m d] W' fun e w' => e = .returned (.int .i64 r) ∧ w' = W') :
    Calls Tryz.prog 258 #[.agg #[.slice (some ⟨b1, o1, none⟩) n c, .int .i64 z1], .agg #[.slice (some ⟨b2, o2, none⟩) m d, .int .i64 z2]] W fun e w' => e = .returned (.int .i64 r) ∧ ∃ q os', w' = grow (W.drewN q) os' := by
  go_enter Tryz.func258, Tryz.ntmps258
  go_wp2_with (go_at_call 141; go_loud (refine (hcon _ (by intro k hk; rw [alloc_eq_grow, alloc_eq_grow, grow_grow, heap_grow_old _ _ hk])).mono ?_); rintro e w' ⟨rfl, rfl⟩)
  go_ret
  exact ⟨rfl, 0, _, by rw [alloc_eq_grow, alloc_eq_grow, grow_grow]; rfl⟩
/-- a term that lies in memory -/
def Et (w : World) (A : Nat → Prop) : Type := { p : Value × Tm // (p.2.1 ≠ [] ∧ p.2.1.length ≤ 1048576) ∧ RdI w A .i64 p.2.1 p.1 }
def enT {w : World} {A : Nat → Prop} (x : Et w A) : List Value := [x.1.1, .int .i64 x.1.2.2]
def cfT {w : World} {A : Nat → Prop} (x y : Et w A) : Int := cmpI x.1.2.1 y.1.2.1
theorem et_cells {w : World} {A : Nat → Prop} (x : Et w A) : ∃ b o cap, x.1.1 = .slice (some ⟨b, o, none⟩) x.1.2.1.length cap ∧ A b ∧ b < w.heap.size ∧ ∀ j, j < x.1.2.1.length → w.cell? ⟨b, o + j, none⟩ = some (.int .i64 (x.1.2.1.getD j 0)) := by
  obtain ⟨a, cap, hv, hcap, hnn, hc⟩ := x.2.2
  rcases hc with h | ⟨b, o, rfl, hS, hc⟩
  · exact (x.2.1.1 h).elim
  · have h0 : 0 < x.1.2.1.length := List.length_pos_iff.2 x.2.1.1
    obtain ⟨cv, h1, _⟩ := hc 0 h0
    refine ⟨b, o, cap, hv, hS, cell_lt h1, fun j hj => ?_⟩
    obtain ⟨cv, h1, h2⟩ := hc j hj
    rw [h1, getD_get _ _ _ hj]
    exact congrArg some h2
theorem enT_one {w : World} {A : Nat → Prop} (x : Et w A) : ∀ v ∈ enT x, v.oneCell' = true := fun v hv => by
  obtain ⟨a, cap, hv1, _⟩ := x.2.2
  unfold enT at hv
  rw [hv1] at hv
  simp at hv
  rcases hv with rfl | rfl <;> rfl
theorem swoT2 {w : World} {A : Nat → Prop} : SWO (ltOf (cfT (w := w) (A := A))) where
  irrefl := fun x => decide_eq_false (by show ¬ cmpI x.1.2.1 x.1.2.1 < 0; rw [cmpI_refl]; decide)
  trans := fun x y z h1 h2 => decide_eq_true (cmpI_trans x.1.2.1 y.1.2.1 z.1.2.1 (of_decide_eq_true h1) (of_decide_eq_true h2))
  ntrans := fun x y z h1 h2 => by
    have h1 : ¬ cmpI x.1.2.1 y.1.2.1 < 0 := of_decide_eq_false h1
    have h2 : ¬ cmpI y.1.2.1 z.1.2.1 < 0 := of_decide_eq_false h2
    refine decide_eq_false fun h3 => ?_
    have h3 : cmpI x.1.2.1 z.1.2.1 < 0 := h3
    have e1 := cmpI_neg x.1.2.1 y.1.2.1
    by_cases h4 : cmpI y.1.2.1 x.1.2.1 < 0
    · exact h2 (cmpI_trans _ _ _ h4 h3)
    · have e : x.1.2.1 = y.1.2.1 := cmpI_eq _ _ (by omega)
      rw [e] at h3
      exact h2 h3
theorem swK_heap {α : Type} [Inhabited α] (enc : α → List Value) (w : World) (b m k : Nat) (dk : Array α) (os : Array Obj) (hk : k < w.heap.size) (hb : k ≠ b) : (sortWorldK enc 2 w b 0 m dk os).heap[k]? = w.heap[k]? := by
  unfold sortWorldK putRowK
  rw [heap_grow_old _ _ (by simpa using hk), putRow_other _ _ _ _ _ hb]
  rfl
theorem swK_size {α : Type} [Inhabited α] (enc : α → List Value) (w : World) (b m : Nat) (dk : Array α) (os : Array Obj) : w.heap.size ≤ (sortWorldK enc 2 w b 0 m dk os).heap.size := by
  simp [sortWorldK, putRowK]
theorem cmpLaysT2 {w : World} {A : Nat → Prop} [Inhabited (Et w A)] (b n : Nat) (hA : ¬ A b) : CmpLays Tryz.prog 258 #[] (enT (w := w) (A := A)) 2 cfT b 0 n w := by
  intro m os dk hdk x y
  obtain ⟨b1, o1, c1, e1, hS1, hl1, hc1⟩ := et_cells x
  obtain ⟨b2, o2, c2, e2, hS2, hl2, hc2⟩ := et_cells y
  have n1 : b1 ≠ b := fun e => hA (e ▸ hS1)
  have n2 : b2 ≠ b := fun e => hA (e ▸ hS2)
  have hsz := swK_size enT w b m dk os
  have key := cix2_go b1 o1 x.1.2.1.length c1 b2 o2 y.1.2.1.length c2 x.1.2.2 y.1.2.2 (cfT x y) (sortWorldK enT 2 w b 0 m dk os) (by omega) (by omega) fun W' hW =>
    compare_go b1 o1 x.1.2.1.length c1 b2 o2 y.1.2.1.length c2 x.1.2.1 y.1.2.1 W' rfl rfl x.2.1.2 y.2.1.2
      (fun j hj => (cell_of_block ((hW b1 (by omega)).trans (swK_heap enT w b m b1 dk os hl1 n1))).trans (hc1 j hj))
      (fun j hj => (cell_of_block ((hW b2 (by omega)).trans (swK_heap enT w b m b2 dk os hl2 n2))).trans (hc2 j hj))
  rw [← e1, ← e2] at key
  exact key
theorem run_cix2 (args : Array Value) (w : World) : (callFunc 258 args).run Tryz.prog w = .ok (.enter 258 args) w :=
  run_callFunc_enter ⟨_, _, Tryz.func258, rfl, by kernel_rfl⟩ args w
/-- slices.SortFunc over a row of terms: what it leaves is whatever sorted list has the same elements -/
theorem slices_SortFunc_tm (e : Nat) (xss yss : List Tm) (hl : xss.length ≤ 1048576) (h0 : xss ≠ []) (hne : ∀ x ∈ xss, x.1 ≠ [] ∧ x.1.length ≤ 1048576) (hp : yss.Perm xss) (hs : yss.Pairwise fun x y => cmpI x.1 y.1 < 0) :
    AC Tryz.prog 257 [.x (.oz 0), .fn 258 []] [.tz e xss] [] [.tz e yss] := by
  refine ⟨⟨_, _, Tryz.func257, rfl, by kernel_rfl⟩, fun w bs A vs hok hvs => ?_⟩
  obtain ⟨v, r, rfl, ⟨b, e', xs', cur, hb, hx, hc, rfl⟩, ⟨v2, r2, rfl, ⟨vs2, rfl, hvs2⟩, h3⟩⟩ := hvs
  cases h3
  cases hvs2
  cases hx
  have hrow := hok.row 0 b _ hb rfl
  obtain ⟨hA, cur2, c1, c2, c3, c4⟩ := hrow
  rw [hc] at c1; cases c1
  have hbl := hok.lt b (List.mem_of_getElem? hb)
  have hbs : bs = [b] := by
    have hlen := hok.len
    match bs, hb, hlen with
    | [x], hb, _ => simp at hb; rw [hb]
  subst hbs
  obtain ⟨l, hll, hlp⟩ := exList (α := Et w A) xss.length (fun j x => cur[2 * j]? = some x.1.1 ∧ cur[2 * j + 1]? = some (.int .i64 x.1.2.2) ∧ xss[j]? = some x.1.2) (fun j hj => by
    obtain ⟨cv, cv2, g1, g2, g3, rfl⟩ := c4 j hj
    rw [Nat.zero_add, cell_of_row w b _ cur e (0, 0) hc] at g1
    rw [Nat.zero_add, cell_of_row w b _ cur e (0, 0) hc] at g2
    exact ⟨⟨(cv, xss[j]), hne _ (List.getElem_mem hj), g3⟩, g1, g2, List.getElem?_eq_getElem hj⟩)
  have hl0 : 0 < l.length := by rw [hll]; exact List.length_pos_iff.2 h0
  haveI : Inhabited (Et w A) := ⟨l[0]⟩
  have hmap : l.map (fun x => x.1.2) = xss := by
    apply List.ext_getElem?
    intro j
    rw [List.getElem?_map]
    by_cases hj : j < l.length
    · rw [List.getElem?_eq_getElem hj, (hlp j hj).2.2]; rfl
    · rw [List.getElem?_eq_none (by omega), List.getElem?_eq_none (by omega)]; rfl
  have flat : ∀ (d : Array (Et w A)) (j : Nat) (hj : j < d.size), (flatK enT 2 d)[2 * j]! = d[j].1.1 ∧ (flatK enT 2 d)[2 * j + 1]! = .int .i64 d[j].1.2.2 := fun d j hj => by
    refine ⟨?_, ?_⟩
    · rw [get_flatK _ _ _ _ (by omega), show 2 * j / 2 = j by omega, show 2 * j % 2 = 0 by omega, getElem!_pos d j hj]; rfl
    · rw [get_flatK _ _ _ _ (by omega), show (2 * j + 1) / 2 = j by omega, show (2 * j + 1) % 2 = 1 by omega, getElem!_pos d j hj]; rfl
  have hH : HoldsK enT 2 w b 0 l.toArray := by
    intro t ht
    have ht' : t < l.length * 2 := by simpa using ht
    refine ⟨?_, frozen_row w b _ cur e hc⟩
    rw [Nat.zero_add, cell_of_row w b t cur e (0, 0) hc]
    have hj : t / 2 < l.length := by omega
    have hf := flat l.toArray (t / 2) (by simpa using hj)
    have hg := hlp (t / 2) hj
    rcases (by omega : t = 2 * (t / 2) ∨ t = 2 * (t / 2) + 1) with ht2 | ht2
    · rw [ht2, hf.1, hg.1]; simp
    · rw [ht2, hf.2, hg.2.1]; simp
  have key := AnyQ.slices_SortFunc Tryz.laysTm 2 Tryz.isAgg127 Tryz.sizeOf127 enT (fun _ => rfl) enT_one cfT swoT2 258 #[] b 0 (cur.size / 2) l.toArray w run_cix2 (cmpLaysT2 b _ hA) hH hbl (by simp; omega)
  change Calls Tryz.prog 257 _ _ _ at key
  rw [List.size_toArray, hll] at key
  refine key.mono ?_
  rintro ex w' ⟨rfl, d', n, os, hperm, hsort, rfl⟩
  have hsz' : d'.size = xss.length := by have := hperm.1; simpa [hll] using this
  have hys : d'.toList.map (fun x => x.1.2) = yss := by
    have hpp : d'.toList.Perm l := by
      have h1 := hperm.2.2
      have e1 : d'.extract 0 xss.length = d' := by rw [← hsz']; exact Array.extract_size
      have e2 : l.toArray.extract 0 xss.length = l.toArray := by rw [← hll, ← List.size_toArray]; exact Array.extract_size
      rw [e1, e2] at h1
      simpa using h1
    have hpm : (d'.toList.map (fun x : Et w A => x.1.2)).Perm yss := by
      have h1 := hpp.map (fun x : Et w A => x.1.2)
      rw [hmap] at h1
      exact h1.trans hp.symm
    refine List.Perm.eq_of_pairwise (le := fun x y => ¬ cmpI y.1 x.1 < 0) (fun a b ha hb h1 h2 => ?_) ?_ (hs.imp fun {a b} h => by have := cmpI_neg a.1 b.1; omega) hpm
    · have h3 := cmpI_neg a.1 b.1
      have h4 : cmpI a.1 b.1 = 0 := by omega
      obtain ⟨i, hi, rfl⟩ := List.getElem_of_mem (hpm.subset ha)
      obtain ⟨j, hj, rfl⟩ := List.getElem_of_mem hb
      rcases Nat.lt_trichotomy i j with h | h | h
      · have := List.pairwise_iff_getElem.1 hs i j hi hj h; omega
      · subst h; rfl
      · have := List.pairwise_iff_getElem.1 hs j i hj hi h; omega
    · rw [List.pairwise_map, List.pairwise_iff_getElem]
      intro i j hi hj hij
      have hi' : i < d'.size := by simpa using hi
      have hj' : j < d'.size := by simpa using hj
      have := hsort i j (Nat.zero_le _) hij (by omega)
      rw [getElem!_pos d' j hj', getElem!_pos d' i hi'] at this
      have this : ¬ cmpI d'[j].1.2.1 d'[i].1.2.1 < 0 := of_decide_eq_false this
      simpa using this
  have hyl : yss.length = xss.length := hp.length_eq
  have hold : ∀ k, k < w.heap.size → k ≠ b → (sortWorldK enT 2 w b 0 n d' os).heap[k]? = w.heap[k]? := fun k hk hkb => swK_heap enT w b n k d' os hk hkb
  have hnew : (sortWorldK enT 2 w b 0 n d' os).heap[b]? = some (.cells (putCells id 0 (flatK enT 2 d') cur) e (0, 0)) := by
    unfold sortWorldK putRowK
    rw [heap_grow_old _ _ (by simpa using hbl)]
    exact putRow_block id (Go.Sort.ahead w n) b _ cur e hc
  have hsz : (putCells id 0 (flatK enT 2 d') cur).size = cur.size := by simp [putCells]
  have hws := swK_size enT w b n d' os
  refine ⟨.tuple #[], [b], A, rfl, ⟨rfl, hok.nodup, fun x hx => ?_, fun x hx => ?_, ?_⟩, ⟨[], rfl, rfl⟩, ⟨rfl, rfl, rfl, hws, ?_, fun x hx => .inl hx, fun x hx => .inl hx⟩, ⟨[], rfl⟩, ?_, fun x hx => hx⟩
  · have := hok.lt x hx; omega
  · have := hok.old x hx; omega
  · intro i b2 r hb2 hr2
    match i, hb2, hr2 with
    | 0, hb2, hr2 =>
      simp at hb2 hr2
      subst hb2; subst hr2
      refine ⟨hA, _, hnew, by rw [hsz, hyl]; exact c2, by rw [hsz]; exact c3, fun j hj => ?_⟩
      have hj' : j < d'.size := by omega
      have hf := flat d' j hj'
      refine ⟨d'[j].1.1, .int .i64 d'[j].1.2.2, ?_, ?_, ?_⟩
      · rw [Nat.zero_add, cell_of_row _ _ _ _ e (0, 0) hnew, putCells_get _ _ _ _ (by simp; omega) (by simp; omega), hf.1]; rfl
      · rw [Nat.zero_add, cell_of_row _ _ _ _ e (0, 0) hnew, putCells_get _ _ _ _ (by simp; omega) (by simp; omega), hf.2]; rfl
      · have e3 : yss[j] = d'[j].1.2 := by simp [← hys]
        rw [e3]
        exact ⟨RdI.ext (fun k hk hlt => ⟨hold k hlt (fun e => hA (e ▸ hk)), hk⟩) d'[j].2.2, rfl⟩
    | i + 1, hb2, _ => simp at hb2
  · intro k hk hkb
    exact hold k hk (by simpa using hkb)
  · intro x hx cur2 e2 hc2
    simp at hx; subst hx
    rw [hc] at hc2; cases hc2
    exact ⟨_, hnew, hsz⟩
end Go.Proofs.YtacjiemkbhhhoaaGreatDoor
set_option linter.unusedVariables false
set_option linter.unusedSimpArgs false
namespace Go.Proofs.YtacjiemkbhhhoaaGreatDoor
open Go Go.Proofs.YtacjiemkbhhhoaaGreatDoor.Ow
theorem partT_len (i : Nat) (n : Int) (hi : i ≤ 10) (h0 : 0 ≤ n) (h1 : n ≤ 10) : (partT i n).length ≤ 50 := by
  have h2 := fmtI_len ((i : Int) + 1) (by omega) (by omega)
  have h3 := fmtI_len n (by omega) (by omega)
  unfold partT
  split
  · simp only [List.length_cons, List.length_append, List.length_nil]; omega
  · simp only [List.length_cons, List.length_append]; omega
theorem parT_mem (t : List Int) (hl : t.length ≤ 10) (ht : ∀ i, 0 ≤ t.getD i 0 ∧ t.getD i 0 ≤ 10) : ∀ k, k ≤ t.length → ∀ s ∈ parT t k, s.length ≤ 50
  | 0, _, s, hs => by simp [parT] at hs
  | k + 1, hk, s, hs => by
    rw [parT] at hs
    split at hs
    · exact parT_mem t hl ht k (by omega) s hs
    · rcases List.mem_append.1 hs with hs | hs
      · exact parT_mem t hl ht k (by omega) s hs
      · obtain rfl := List.mem_singleton.1 hs
        exact partT_len k _ (by omega) (ht k).1 (ht k).2
theorem join_len (xs : List (List UInt8)) (sep : List UInt8) (m : Nat) (h : ∀ s ∈ xs, s.length ≤ m) : (Lib.join xs sep).length ≤ xs.length * (sep.length + m) := by
  have := jn_len xs sep m (fun i hi => by rw [getD_get _ _ _ hi]; exact h _ (List.getElem_mem hi)) xs.length (Nat.le_refl _)
  rwa [jn_join] at this
theorem parT_join (t : List Int) (hl : t.length ≤ 10) (ht : ∀ i, 0 ≤ t.getD i 0 ∧ t.getD i 0 ≤ 10) (k : Nat) (hk : k ≤ t.length) : (Lib.join (parT t k) [32]).length ≤ 510 := by
  have h1 := join_len (parT t k) [32] 50 (parT_mem t hl ht k hk)
  have h2 := parT_le t k
  have h3 : (parT t k).length * ([32].length + 50) ≤ 10 * 51 := Nat.mul_le_mul (by omega) (Nat.le_refl _)
  omega
theorem fmtT_len {x : Tm} (h : TmOk x) : (fmtT x).length ≤ 600 := by
  have h1 := parT_join x.1 h.n1 h.t x.1.length (Nat.le_refl _)
  have hc := h.c
  have h2 := fmtI_len x.2 (by omega) (by omega)
  unfold fmtT jnT
  split
  · omega
  · simp only [List.length_append, List.length_cons, List.length_nil]; omega
/-- impl.FormatTerm -/
theorem impl_FormatTerm (x : Tm) (hx : TmOk x) : AC Tryz.prog 154 [.arr .mix [.ints x.1, .int x.2]] [] [.d true .str (fmtT x)] [] := by
  have hn := hx.n1
  have hc := hx.c
  refine AC_of tauOk 47 0 [2] Tryz.func154 rfl (by kernel_rfl) rfl rfl rfl rfl rfl ?_
  refine ⟨(by decide : 0 < 2), (by decide : 2 ≤ 1000), rfl, (by decide : 0 ≤ 1000), true, ?_⟩
  refine ⟨(by decide : 0 < 2), (by decide : 0 < 2), ?_⟩
  refine ⟨Nat, fun k => ⟨[(1, .ptr 0 0), (3, .ow 1), (9, .d true (.sl .int) x.1), (10, I x.1.length), (11, I (k : Nat))], [.sl 127 .mix [.ints x.1, .int x.2], .sl 9 .str (parT x.1 k)]⟩, fun k => k ≤ x.1.length, fun k => x.1.length - k, 0, Nat.zero_le _,
    ⟨⟨rfl, rfl⟩, ⟨rfl, rfl, rfl, rfl, rfl, trivial⟩, rfl, rfl, trivial⟩, fun k hk => ?_⟩
  dsimp only at hk
  have hpl := parT_le x.1 k
  refine ⟨fun h1 => ?_, fun h1 => ?_⟩
  · have hk2 : k < x.1.length := by omega
    have hb := hx.t k
    refine ⟨k, rfl, hk2, fun h2 => ?_, fun h2 => ?_⟩
    · exact ⟨((k + 1 : Nat) : Int), w64_eq (by omega) (by omega) (by omega), k + 1, by dsimp only; omega, by dsimp only; omega, ⟨rfl, rfl⟩, ⟨rfl, rfl, rfl, rfl, rfl, trivial⟩, rfl, rowE (by rw [parT, if_pos h2]), trivial⟩
    · refine ⟨((k : Int) + 1), w64_eq (by omega) (by omega) (by omega), [], false, _, _, impl_FormatInt ((k : Int) + 1) (by omega) (by omega), List.nodup_nil, rfl, rfl, trivial, ?_⟩
      have hf1 := fmtI_len ((k : Int) + 1) (by omega) (by omega)
      have hf2 := fmtI_len (x.1.getD k 0) (by omega) (by omega)
      refine ⟨by simp only [List.length_append, List.length_cons, List.length_nil]; omega, fun h3 => ?_, fun h3 => ?_⟩
      · refine ⟨[], false, _, _, impl_FormatInt (x.1.getD k 0) (by omega) (by omega), List.nodup_nil, rfl, rfl, trivial, ?_⟩
        refine ⟨by simp only [List.length_append, List.length_cons, List.length_nil]; omega, by simp only [List.length_append, List.length_cons, List.length_nil]; omega, ?_⟩
        refine ⟨rfl, by decide, false, ?_⟩
        refine ⟨rfl, Nat.zero_le _, rfl, by simp only [List.length_cons, List.length_nil]; omega, rfl, ?_⟩
        exact ⟨((k + 1 : Nat) : Int), w64_eq (by omega) (by omega) (by omega), k + 1, by dsimp only; omega, by dsimp only; omega, ⟨rfl, rfl⟩, ⟨rfl, rfl, rfl, rfl, rfl, trivial⟩, rfl, rowE (by rw [parT, if_neg h2, partT, if_neg h3]; rfl), trivial⟩
      · refine ⟨rfl, by decide, false, ?_⟩
        refine ⟨rfl, Nat.zero_le _, rfl, by simp only [List.length_cons, List.length_nil]; omega, rfl, ?_⟩
        exact ⟨((k + 1 : Nat) : Int), w64_eq (by omega) (by omega) (by omega), k + 1, by dsimp only; omega, by dsimp only; omega, ⟨rfl, rfl⟩, ⟨rfl, rfl, rfl, rfl, rfl, trivial⟩, rfl, rowE (by rw [parT, if_neg h2, partT, if_pos (Decidable.not_not.1 h3)]; simp), trivial⟩
  · obtain rfl : k = x.1.length := by omega
    have hj := parT_join x.1 hn hx.t x.1.length (Nat.le_refl _)
    have hf := fmtI_len x.2 (by omega) (by omega)
    refine ⟨fun h2 => ?_, fun h2 => ?_⟩
    · have e : parT x.1 x.1.length = [] := List.eq_nil_of_length_eq_zero (by omega)
      refine ⟨(by decide : 1 < 2), (by decide : 1 < 2), [], false, _, _, impl_FormatInt x.2 (by omega) (by omega), List.nodup_nil, rfl, rfl, trivial, ?_⟩
      exact ⟨none, ⟨retS (by rw [fmtT, jnT, if_pos e]), trivial⟩, rfl, rfl⟩
    · have e : parT x.1 x.1.length ≠ [] := fun e => h2 (by rw [e]; rfl)
      refine ⟨(by decide : 1 < 2), (by decide : 1 < 2), [], false, _, _, impl_FormatInt x.2 (by omega) (by omega), List.nodup_nil, rfl, rfl, trivial, ?_⟩
      refine ⟨by simp only [List.length_append, List.length_cons, List.length_nil]; omega, ?_⟩
      refine ⟨[], false, _, _, impl_Join false (parT x.1 x.1.length) [32] (by omega) (by omega), List.nodup_nil, rfl, rfl, trivial, ?_⟩
      refine ⟨by simp only [List.length_append, List.length_cons, List.length_nil]; omega, ?_⟩
      exact ⟨none, ⟨retS (by rw [fmtT, jnT, if_neg e]), trivial⟩, rfl, rfl⟩
end Go.Proofs.YtacjiemkbhhhoaaGreatDoor
set_option linter.unusedVariables false
set_option linter.unusedSimpArgs false
namespace Go.Proofs.YtacjiemkbhhhoaaGreatDoor
open Go Go.Proofs.YtacjiemkbhhhoaaGreatDoor.Ow
theorem tzE {e : Nat} {xs ys : List Tm} (h : xs = ys) : Row.tz e xs = .tz e ys := by rw [h]
/-- what is known of the cycles' lengths -/
theorem cyc_lens {p : List Int} (hP : PermP p) : (cycL p).length ≤ 10 ∧ ∀ k, k < (cycL p).length → 1 ≤ ((cycL p).getD k []).length ∧ ((cycL p).getD k []).length ≤ p.length := by
  obtain ⟨h1, h2, h3⟩ := cyc_ok p (permR hP) p.length (Nat.le_refl _)
  have hn := hP.1.2
  refine ⟨by show (cycS p p.length).2.length ≤ 10; omega, fun k hk => ?_⟩
  have hm : (cycL p).getD k [] ∈ (cycS p p.length).2 := by rw [getD_get _ _ _ hk]; exact List.getElem_mem _
  obtain ⟨g1, g2, g3⟩ := h3 _ hm
  exact ⟨g1, g2⟩
theorem typL_ok {p : List Int} (hP : PermP p) : (typL p).length = p.length ∧ ∀ j, 0 ≤ (typL p).getD j 0 ∧ (typL p).getD j 0 ≤ 10 := by
  have h1 := (cyc_lens hP).1
  refine ⟨typL_len p, fun j => ?_⟩
  have := typS_b p (cycL p).length j
  show 0 ≤ (typS p (cycL p).length).getD j 0 ∧ (typS p (cycL p).length).getD j 0 ≤ 10
  omega
/-- impl.CycleType -/
theorem impl_CycleType (sh : Bool) (p : List Int) (hP : PermP p) : AC Tryz.prog 254 [.d sh (.sl .int) p] [] [.ow 0] [.sl 3 .int (typL p)] := by
  have hlen := hP.1
  have hc := cyc_lens hP
  refine AC_of tauOk 29 0 [2] Tryz.func254 rfl (by kernel_rfl) rfl rfl rfl rfl rfl ?_
  refine ⟨[], false, _, _, impl_PermOk sh p (by omega), List.nodup_nil, rfl, rfl, trivial, fun _ => ?_, fun h => by rw [(permB_iff p).2 hP] at h; cases h⟩
  refine ⟨_, _, rfl, rfl, Nat.le_refl _, by omega, ?_⟩
  refine ⟨[], true, _, _, impl_CyclesOf sh p hP, List.nodup_nil, rfl, rfl, trivial, ?_⟩
  refine ⟨Nat, fun k => ⟨[(3, .ow 0), (13, .d true (.sl (.sl .int)) (cycL p)), (14, I (cycL p).length), (15, I (k : Nat))], [.sl 3 .int (typS p k)]⟩, fun k => k ≤ (cycL p).length, fun k => (cycL p).length - k, 0, Nat.zero_le _,
    ⟨⟨rfl, rfl⟩, ⟨rfl, rfl, rfl, rfl, trivial⟩, rfl, trivial⟩, fun k hk => ?_⟩
  dsimp only at hk
  refine ⟨fun h1 => ?_, fun h1 => ?_⟩
  · have hk2 : k < (cycL p).length := by omega
    obtain ⟨g1, g2⟩ := hc.2 k hk2
    have hb := typS_b p k (((cycL p).getD k []).length - 1)
    have hl := typS_len p k
    refine ⟨k, rfl, hk2, ?_⟩
    refine ⟨((((cycL p).getD k []).length - 1 : Nat) : Int), w64_eq (by omega) (by omega) (by omega), ((cycL p).getD k []).length - 1, rfl, by rw [hl]; omega, ?_⟩
    refine ⟨_, w64_in _ (by omega) (by omega), ((cycL p).getD k []).length - 1, rfl, by rw [hl]; omega, ?_⟩
    exact ⟨((k + 1 : Nat) : Int), w64_eq (by omega) (by omega) (by omega), k + 1, by dsimp only; omega, by dsimp only; omega, ⟨rfl, rfl⟩, ⟨rfl, rfl, rfl, rfl, trivial⟩, rowE rfl, trivial⟩
  · obtain rfl : k = (cycL p).length := by omega
    exact ⟨some 0, ⟨⟨rfl, rfl⟩, trivial⟩, ⟨rfl, rfl⟩, rfl⟩
/-- the closure that looks for a type -/
theorem impl_CycleIndex_1 (e : TypeId) (x : Tm) (t : List Int) (h1 : x.1.length ≤ 1048576) (h2 : t.length ≤ 1048576) : AC Tryz.prog 256 [.arr .mix [.ints x.1, .int x.2], .ptr 0 0] [.box e (.d true (.sl .int) t)] [.d true .bool (decide (x.1 = t))] [.box e (.d true (.sl .int) t)] := by
  refine AC_of tauOk 8 1 [3] Tryz.func256 rfl (by kernel_rfl) rfl rfl rfl rfl rfl ?_
  refine ⟨(by decide : 0 < 2), (by decide : 2 ≤ 1000), (by decide : 0 < 2), (by decide : 0 < 2), rfl, [], false, _, _, slices_Equal_int true true x.1 t h1 h2, List.nodup_nil, rfl, rfl, trivial, fun h => ?_, fun h => ?_⟩
  · exact ⟨none, ⟨retB h, trivial⟩, rfl, rfl⟩
  · exact ⟨none, ⟨retB h, trivial⟩, rfl, rfl⟩
/-- where a type is, or -1 -/
def posZ (l : List Tm) (t : List Int) : Int := if posT l t < l.length then (posT l t : Nat) else -1
theorem posT_is {l : List Tm} {t : List Int} {k : Nat} (hk : k < l.length) (h : (l.getD k ([], 0)).1 = t) (hy : ∀ j, j < k → (l.getD j ([], 0)).1 ≠ t) : posT l t = k := by
  unfold posT
  rw [List.findIdx_eq hk]
  rw [getD_get _ _ _ hk] at h
  refine ⟨decide_eq_true h, fun j hj => decide_eq_false ?_⟩
  have := hy j hj
  rwa [getD_get _ _ _ (by omega)] at this
theorem posT_none {l : List Tm} {t : List Int} (hy : ∀ j, j < l.length → (l.getD j ([], 0)).1 ≠ t) : ¬ posT l t < l.length := posT_no.2 fun x hx => by
  obtain ⟨j, hj, rfl⟩ := List.getElem_of_mem hx
  have := hy j hj
  rwa [getD_get _ _ _ hj] at this
/-- slices.IndexFunc of terms -/
theorem slices_IndexFunc_tm (e e2 : TypeId) (l : List Tm) (t : List Int) (hl : l.length ≤ 1048576) (h1 : ∀ x ∈ l, x.1.length ≤ 1048576) (h2 : t.length ≤ 1048576) :
    AC Tryz.prog 255 [.x (.oz 0), .fn 256 [.ptr 1 0]] [.tz e l, .box e2 (.d true (.sl .int) t)] [I (posZ l t)] [.tz e l, .box e2 (.d true (.sl .int) t)] := by
  refine AC_of tauOk 19 2 [4] Tryz.func255 rfl (by kernel_rfl) rfl rfl rfl rfl rfl ?_
  refine ⟨Nat, fun k => ⟨[(0, .x (.oz 0)), (1, .fn 256 [.ptr 1 0]), (7, I l.length), (8, I (k : Nat))], [.tz e l, .box e2 (.d true (.sl .int) t)]⟩, fun k => k ≤ l.length ∧ ∀ j, j < k → (l.getD j ([], 0)).1 ≠ t, fun k => l.length - k, 0, ⟨by omega, fun j hj => by omega⟩,
    ⟨⟨rfl, rfl⟩, ⟨rfl, rfl, rfl, rfl, trivial⟩, rfl, rfl, trivial⟩, fun k ⟨hk, hy⟩ => ?_⟩
  refine ⟨fun h3 => ?_, fun h3 => ?_⟩
  · have hk2 : k < l.length := by omega
    refine ⟨k, rfl, hk2, [1], false, _, _, impl_CycleIndex_1 e2 (l.getD k ([], 0)) t (by rw [getD_get _ _ _ hk2]; exact h1 _ (List.getElem_mem hk2)) h2, by decide, rfl, rfl, ⟨⟨rfl, trivial⟩, trivial⟩, fun h4 => ?_, fun h4 => ?_⟩
    · have hp := posT_is hk2 (of_decide_eq_true h4) hy
      exact ⟨none, ⟨retI (by rw [posZ, hp, if_pos hk2]), trivial⟩, rfl, rfl⟩
    · refine ⟨_, w64_in _ (by omega) (by omega), k + 1, ⟨by omega, fun i hi => ?_⟩, by dsimp only; omega, ⟨rfl, rfl⟩, ⟨rfl, rfl, rfl, rfl, trivial⟩, rfl, rfl, trivial⟩
      by_cases e : i = k
      · subst e; exact of_decide_eq_false h4
      · exact hy i (by omega)
  · exact ⟨none, ⟨retI (by rw [posZ, if_neg (posT_none fun j hj => hy j (by omega))]), trivial⟩, rfl, rfl⟩
/-- what is known of a group's terms on the way -/
theorem tms_ok {g : List (List Int)} (hG : GrpP g) : ∀ k, k ≤ g.length → TmsP (g.getD 0 []).length k (uS g k) ∧ TmsP (g.getD 0 []).length k (sS g k) := fun k hk => by
  have h := tms_u (n := (g.getD 0 []).length) g (fun i hi => by
    obtain ⟨h1, h2, _⟩ := gok1_p (hG.o1 i hi)
    have h3 := typL_ok h1
    exact ⟨h3.1.trans h2, h3.2⟩) k hk
  exact ⟨h, tms_perm h (s_perm g k)⟩
theorem cix_ne {g : List (List Int)} (h : 1 ≤ g.length) : cixL g ≠ [] := by
  have h1 := (s_perm g g.length).length_eq
  have h2 : 1 ≤ (uS g g.length).length := by
    obtain ⟨k, hk⟩ : ∃ k, g.length = k + 1 := ⟨g.length - 1, by omega⟩
    rw [hk, uS, addU]
    split
    next h => rw [incA, List.length_set]; omega
    next h => simp
  intro e
  rw [cixL] at e
  rw [e] at h1
  simp at h1
  omega
/-- impl.CycleIndex of a group -/
theorem impl_CycleIndex (sh : Bool) (g : List (List Int)) (hB : gokB g = true) (hl : g.length ≤ 1048576) (hx : ∀ i, i < g.length → (g.getD i []).length ≤ 1048576) : AC Tryz.prog 153 [.d sh (.sl (.sl .int)) g] [] [.x (.oz 0)] [.tz 127 (cixL g)] := by
  have hG := (gokB_iff g).1 hB
  have hl2 := hG.l2
  have hT := tms_ok hG
  refine AC_of tauOk 43 0 [2] Tryz.func153 rfl (by kernel_rfl) rfl rfl rfl rfl rfl ?_
  refine ⟨rfl, [], false, _, _, impl_GroupOk sh g hl hx, List.nodup_nil, rfl, rfl, trivial, fun _ => ?_, fun h => by rw [hB] at h; cases h⟩
  refine ⟨Nat, fun k => ⟨[(3, .x (.oz 0)), (13, .d sh (.sl (.sl .int)) g), (14, I g.length), (15, I (k : Nat))], [.tz 127 (uS g k)]⟩, fun k => k ≤ g.length, fun k => g.length - k, 0, Nat.zero_le _,
    ⟨⟨rfl, rfl⟩, ⟨rfl, rfl, rfl, rfl, trivial⟩, rfl, trivial⟩, fun k hk => ?_⟩
  dsimp only at hk
  refine ⟨fun h1 => ?_, fun h1 => ?_⟩
  · have hk2 : k < g.length := by omega
    obtain ⟨hP, he, _⟩ := gok1_p (hG.o1 k hk2)
    have ht := typL_ok hP
    have hU := (hT k hk).1
    have hpl := hP.1
    refine ⟨k, rfl, hk2, [], true, _, _, impl_CycleType sh (g.getD k []) hP, List.nodup_nil, rfl, rfl, trivial, ?_⟩
    refine ⟨rfl, rfl, [0, 1], false, _, _, slices_IndexFunc_tm 127 29 (uS g k) (typL (g.getD k [])) (by have := hU.n1; omega) (fun x hx => by have := hU.t x hx; omega) (by omega), by decide, rfl, rfl, ⟨⟨rfl, rfl⟩, ⟨rfl, trivial⟩, trivial⟩, ?_⟩
    by_cases hpos : posT (uS g k) (typL (g.getD k [])) < (uS g k).length
    · rw [show posZ (uS g k) (typL (g.getD k [])) = (posT (uS g k) (typL (g.getD k [])) : Nat) from if_pos hpos]
      refine ⟨fun h2 => by omega, fun h2 => ?_⟩
      have hc := hU.c _ (List.getElem_mem hpos)
      rw [← getD_get _ _ ([], 0) hpos] at hc
      refine ⟨_, rfl, hpos, rfl, (by decide : 1 < 2), ?_⟩
      refine ⟨_, w64_in _ (by omega) (by omega), _, rfl, hpos, rfl, (by decide : 1 < 2), ?_⟩
      exact ⟨((k + 1 : Nat) : Int), w64_eq (by omega) (by omega) (by omega), k + 1, by dsimp only; omega, by dsimp only; omega, ⟨rfl, rfl⟩, ⟨rfl, rfl, rfl, rfl, trivial⟩, tzE (by rw [uS, addU, if_pos hpos]; rfl), trivial⟩
    · rw [show posZ (uS g k) (typL (g.getD k [])) = -1 from if_neg hpos]
      refine ⟨fun h2 => ?_, fun h2 => by omega⟩
      refine ⟨rfl, rfl, Nat.zero_le _, rfl, by have := hU.n1; simp only [List.length_cons, List.length_nil]; omega, rfl, ?_⟩
      exact ⟨((k + 1 : Nat) : Int), w64_eq (by omega) (by omega) (by omega), k + 1, by dsimp only; omega, by dsimp only; omega, ⟨rfl, rfl⟩, ⟨rfl, rfl, rfl, rfl, trivial⟩, tzE (by rw [uS, addU, if_neg hpos]), trivial⟩
  · obtain rfl : k = g.length := by omega
    have hU := (hT g.length (Nat.le_refl _)).1
    have hl1 := hG.l1
    have hne : uS g g.length ≠ [] := fun e => cix_ne hl1 (by have := s_perm g g.length; rw [e] at this; exact this.eq_nil)
    refine ⟨[0], false, _, _, slices_SortFunc_tm 127 (uS g g.length) (cixL g) (by have := hU.n1; omega) hne (fun x hx => by
      have h := hU.t x hx
      have h2 := (gok1_p (hG.o1 0 (by omega))).1.1
      exact ⟨fun e => by have h3 := h.1; have h4 := congrArg List.length e; rw [List.length_nil] at h4; omega, by omega⟩) (s_perm g g.length) (sS_up g g.length), by decide, rfl, rfl, ⟨⟨(s_perm g g.length).length_eq, rfl⟩, trivial⟩, ?_⟩
    exact ⟨some 0, ⟨⟨rfl, rfl⟩, trivial⟩, ⟨rfl, rfl⟩, rfl⟩
/-- the text of a group's terms -/
def ixlS (g : List (List Int)) : List UInt8 := if gokB g = true then Lib.join ((cixL g).map fmtT).reverse [32, 43, 32] else [110, 111, 110, 101]
theorem cix_tm {g : List (List Int)} (hB : gokB g = true) : (cixL g).length ≤ 120 ∧ ∀ i, i < (cixL g).length → TmOk ((cixL g).getD i ([], 0)) := by
  have hG := (gokB_iff g).1 hB
  have h1 := hG.l1
  have h2 := hG.l2
  have hT := (tms_ok hG g.length (Nat.le_refl _)).2
  have hP := (gok1_p (hG.o1 0 (by omega))).1.1
  refine ⟨Nat.le_trans hT.n1 h2, fun i hi => ?_⟩
  rw [getD_get _ _ _ hi]
  have a1 := hT.t _ (List.getElem_mem hi)
  have a2 := hT.c _ (List.getElem_mem hi)
  exact ⟨by have := a1.1; omega, a1.2, a2.1, by omega⟩
theorem ixl_len {g : List (List Int)} (hB : gokB g = true) : (Lib.join ((cixL g).map fmtT).reverse [32, 43, 32]).length ≤ 100000 := by
  obtain ⟨h1, h2⟩ := cix_tm hB
  have h3 := join_len ((cixL g).map fmtT).reverse [32, 43, 32] 600 (fun s hs => by
    obtain ⟨x, hx, rfl⟩ := List.mem_map.1 (List.mem_reverse.1 hs)
    obtain ⟨i, hi, rfl⟩ := List.getElem_of_mem hx
    have := h2 i hi
    rw [getD_get _ _ _ hi] at this
    exact fmtT_len this)
  have h4 : ((cixL g).map fmtT).reverse.length * ([32, 43, 32].length + 600) ≤ 120 * 603 := Nat.mul_le_mul (by simp; omega) (Nat.le_refl _)
  omega
/-- impl.IndexLine -/
theorem impl_IndexLine (sh : Bool) (g : List (List Int)) (hl : g.length ≤ 1048576) (hx : ∀ i, i < g.length → (g.getD i []).length ≤ 1048576) : AC Tryz.prog 63 [.d sh (.sl (.sl .int)) g] [] [.d true .str (ixlS g)] [] := by
  cases hB : gokB g
  · have hGO := impl_GroupOk sh g hl hx
    rw [hB] at hGO
    refine AC_of tauOk 27 0 [2] Tryz.func63 rfl (by kernel_rfl) rfl rfl rfl rfl rfl ?_
    refine ⟨[], false, _, _, hGO, List.nodup_nil, rfl, rfl, trivial, nofun, fun _ => ?_⟩
    exact ⟨none, ⟨retS (by rw [ixlS, if_neg (by rw [hB]; decide)]), trivial⟩, rfl, rfl⟩
  · have hGO := impl_GroupOk sh g hl hx
    rw [hB] at hGO
    obtain ⟨h1, h2⟩ := cix_tm hB
    have hj := ixl_len hB
    refine AC_of tauOk 27 0 [2] Tryz.func63 rfl (by kernel_rfl) rfl rfl rfl rfl rfl ?_
    refine ⟨[], false, _, _, hGO, List.nodup_nil, rfl, rfl, trivial, fun _ => ?_, nofun⟩
    refine ⟨rfl, (by decide : 0 ≤ 1000), true, ?_⟩
    refine ⟨[], true, _, _, impl_CycleIndex sh g hB hl hx, List.nodup_nil, rfl, rfl, trivial, ?_⟩
    refine ⟨Nat, fun k => ⟨[(3, .ow 0), (11, .x (.dz true (cixL g))), (12, I (cixL g).length), (13, I (k : Nat))], [.sl 9 .str (((cixL g).take k).map fmtT)]⟩, fun k => k ≤ (cixL g).length, fun k => (cixL g).length - k, 0, Nat.zero_le _,
      ⟨⟨rfl, rfl⟩, ⟨rfl, rfl, rfl, rfl, trivial⟩, rfl, trivial⟩, fun k hk => ?_⟩
    dsimp only at hk
    refine ⟨fun h3 => ?_, fun h3 => ?_⟩
    · have hk2 : k < (cixL g).length := by omega
      refine ⟨k, rfl, hk2, (by decide : 0 < 2), (by decide : 2 ≤ 1000), rfl, rfl, rfl, rfl, ?_⟩
      refine ⟨rfl, [], false, _, _, impl_FormatTerm ((cixL g).getD k ([], 0)) (h2 k hk2), List.nodup_nil, rfl, rfl, trivial, ?_⟩
      refine ⟨rfl, by decide, false, ?_⟩
      refine ⟨rfl, Nat.zero_le _, rfl, by simp only [List.length_cons, List.length_nil, List.length_map, List.length_take]; omega, rfl, ?_⟩
      exact ⟨((k + 1 : Nat) : Int), w64_eq (by omega) (by omega) (by omega), k + 1, by dsimp only; omega, by dsimp only; omega, ⟨rfl, rfl⟩, ⟨rfl, rfl, rfl, rfl, trivial⟩, rowE (by rw [L_succ (cixL g) k ([], 0) hk2, List.map_append]; rfl), trivial⟩
    · obtain rfl : k = (cixL g).length := by omega
      dsimp only
      rw [List.take_length]
      refine ⟨[0], false, _, _, slices_Reverse_str 9 ((cixL g).map fmtT) (by simp; omega), by decide, rfl, rfl, ⟨⟨List.length_reverse, rfl, rfl⟩, trivial⟩, ?_⟩
      refine ⟨[], false, _, _, impl_Join false ((cixL g).map fmtT).reverse [32, 43, 32] (by simp; omega) (by omega), List.nodup_nil, rfl, rfl, trivial, ?_⟩
      exact ⟨none, ⟨retS (by rw [ixlS, if_pos hB]), trivial⟩, rfl, rfl⟩
end Go.Proofs.YtacjiemkbhhhoaaGreatDoor
set_option linter.unusedVariables false
namespace Go.Proofs.YtacjiemkbhhhoaaGreatDoor
open Go Go.Proofs.YtacjiemkbhhhoaaGreatDoor.Ow
theorem orbI_el {g : List (List Int)} (hB : gokB g = true) {i : Nat} (hi : i < (g.getD 0 []).length) (met : List Bool) : ∀ k, k ≤ g.length → ∀ x ∈ (orbI g i met k).2, 0 ≤ x ∧ x < 10
  | 0, _, x, hx => by simp [orbI] at hx
  | k + 1, hk, x, hx => by
    have ih := orbI_el hB hi met k (by omega)
    rw [orbI] at hx
    split at hx
    · exact ih x hx
    · rcases List.mem_append.1 hx with hx | hx
      · exact ih x hx
      · obtain ⟨hP, hl⟩ := (perm_bd hB).2 k (by omega)
        have h1 := (hP.2 i (by omega)).1
        have h2 := hP.1
        rw [List.mem_singleton.1 hx]; omega
theorem orbS_el {g : List (List Int)} (hB : gokB g = true) : ∀ i, i ≤ (g.getD 0 []).length → ∀ l ∈ (orbS g (g.getD 0 []).length i).2, l.length ≤ 120 ∧ ∀ x ∈ l, 0 ≤ x ∧ x < 10
  | 0, _, l, hl => by simp [orbS] at hl
  | i + 1, hi, l, hl => by
    have ih := orbS_el hB i (by omega)
    rw [orbS] at hl
    split at hl
    · exact ih l hl
    · rcases List.mem_append.1 hl with hl | hl
      · exact ih l hl
      · rw [List.mem_singleton.1 hl]
        have hp := srtI_p (orbI g i (orbS g (g.getD 0 []).length i).1 g.length).2
        have h1 := (orbI_ok g i (orbS g (g.getD 0 []).length i).1 g.length).2
        have h2 := (perm_bd hB).1
        exact ⟨by rw [hp.length_eq]; omega, fun x hx => orbI_el hB (by omega) _ _ (Nat.le_refl _) x (hp.subset hx)⟩
theorem in64_of {l : List Int} {B : Int} (hB : B ≤ 9223372036854775807) (h : ∀ x ∈ l, -1 ≤ x ∧ x ≤ B) : In64 l := fun i hi => by
  rw [getD_get _ _ _ hi]
  have := h _ (List.getElem_mem hi)
  omega
theorem fmtL_len {xs : List Int} (hx : In64 xs) : (fmtL xs).length ≤ xs.length * 21 + 1 := by
  unfold fmtL
  split
  · simp
  · rw [← jn_join]
    have h := jn_len (xs.map fmtI) [44] 20 (fun i hi => by
      have hi2 : i < xs.length := by simpa using hi
      rw [getD_get _ _ _ hi, List.getElem_map]
      have := hx i hi2
      rw [getD_get _ _ _ hi2] at this
      exact fmtI_len _ this.1 this.2) (xs.map fmtI).length (Nat.le_refl _)
    rw [List.length_map] at h ⊢
    simp at h
    omega
theorem clsI_el {g : List (List Int)} {p : List Int} {z : Int} {out : List Int} {B : Int} (hz : -1 ≤ z ∧ z ≤ B) (ho : ∀ x ∈ out, -1 ≤ x ∧ x ≤ B) : ∀ k, ∀ x ∈ clsI g p z out k, -1 ≤ x ∧ x ≤ B
  | 0, x, hx => ho x hx
  | k + 1, x, hx => by
    rw [clsI] at hx
    rcases List.mem_or_eq_of_mem_set hx with h | h
    · exact clsI_el hz ho k x h
    · rw [h]; exact hz
theorem clsS_el (g : List (List Int)) : ∀ i, i ≤ g.length → ∀ x ∈ (clsS g i).1, -1 ≤ x ∧ x ≤ (g.length : Int)
  | 0, _, x, hx => by
    rw [clsS] at hx
    have := List.eq_of_mem_replicate hx
    omega
  | i + 1, hi, x, hx => by
    have ih := clsS_el g i (by omega)
    have h2 := (clsS_ok g i).2
    rw [clsS] at hx
    split at hx
    · exact ih x hx
    · exact clsI_el (by omega) ih _ x hx
theorem two_el {g : List (List Int)} (hB : gokB g = true) : (twoL g).length ≤ 11 ∧ ∀ x ∈ twoL g, -1 ≤ x ∧ x ≤ 1000000 := by
  obtain ⟨⟨hg1, hg2⟩, hgp⟩ := perm_bd hB
  have hn := (hgp 0 (by omega)).1.1
  rw [twoL, if_pos hB, twoS]
  refine ⟨by rw [List.length_map, List.length_range]; omega, fun x hx => ?_⟩
  obtain ⟨e, he, rfl⟩ := List.mem_map.1 hx
  have h1 : ctsS g [(((g.getD 0 []).length - e : Nat) : Int), (e : Int)] g.length ≤ g.length * 1024 := sumTo_le _ _ _ fun i hi => ways_b (hgp i hi).1 rfl
  have h2 : ctsN g [(((g.getD 0 []).length - e : Nat) : Int), (e : Int)] ≤ ctsS g [(((g.getD 0 []).length - e : Nat) : Int), (e : Int)] g.length := Nat.div_le_self _ _
  omega
def unkS : List UInt8 := [117, 110, 107, 110, 111, 119, 110, 32, 99, 111, 109, 109, 97, 110, 100]
/-- the output of a command without arguments -/
def plnS (g : List (List Int)) (w : List UInt8) : List UInt8 :=
  if w = [105, 110, 100, 101, 120] then ixlS g
  else if w = [111, 114, 98, 105, 116, 115] then Lib.join ((orbL g).map fmtL) [32]
  else if w = [99, 108, 97, 115, 115, 101, 115] then fmtL (clsL g)
  else if w = [116, 119, 111] then fmtL (twoL g)
  else if w = [108, 105, 115, 116] then Lib.join (g.map fmtC) [32]
  else unkS
theorem join_bd (xs : List (List UInt8)) (m : Nat) (h : ∀ x ∈ xs, x.length ≤ m) : (Lib.join xs [32]).length ≤ xs.length * (1 + m) := by
  rw [← jn_join]
  exact jn_len xs [32] m (fun i hi => by rw [getD_get _ _ _ hi]; exact h _ (List.getElem_mem hi)) xs.length (Nat.le_refl _)
/-- impl.plainLine at a group -/
theorem impl_plainLine (sh : Bool) (g : List (List Int)) (w : List UInt8) (hB : gokB g = true) : AC Tryz.prog 31 [.d sh (.sl (.sl .int)) g, .d true .str w] [] [.d true .str (plnS g w)] [] := by
  obtain ⟨⟨hg1, hg2⟩, hgp⟩ := perm_bd hB
  have hx : ∀ i, i < g.length → (g.getD i []).length ≤ 1048576 := fun i hi => by have := (hgp i hi).1.1; omega
  have hn := (hgp 0 (by omega)).1.1
  have hol := (orbS_ok g (g.getD 0 []).length (g.getD 0 []).length).2
  have hoe : ∀ l ∈ orbL g, l.length ≤ 120 ∧ ∀ x ∈ l, 0 ≤ x ∧ x < 10 := orbS_el hB _ (Nat.le_refl _)
  have hol : (orbL g).length ≤ 10 := by show (orbS g (g.getD 0 []).length (g.getD 0 []).length).2.length ≤ 10; omega
  have ho64 : ∀ l ∈ orbL g, In64 l := fun l hl => in64_of (B := 10) (by decide) fun x hx => by have := (hoe l hl).2 x hx; omega
  have hc64 : In64 (clsL g) := in64_of (B := g.length) (by omega) (clsS_el g g.length (Nat.le_refl _))
  have hcl := (clsS_ok g g.length).1
  have hcl : (clsL g).length = g.length := hcl
  obtain ⟨htl, hte⟩ := two_el hB
  have ht64 : In64 (twoL g) := in64_of (B := 1000000) (by decide) hte
  have hom : ((orbL g).map fmtL).length = (orbL g).length := List.length_map ..
  have hoj := join_bd ((orbL g).map fmtL) 2600 (fun x hx => by
    obtain ⟨l, hl, rfl⟩ := List.mem_map.1 hx
    have := fmtL_len (ho64 l hl)
    have := (hoe l hl).1
    omega)
  have hgm : (g.map fmtC).length = g.length := List.length_map ..
  have hgj := join_bd (g.map fmtC) 4000 (fun x hx => by
    obtain ⟨l, hl, rfl⟩ := List.mem_map.1 hx
    obtain ⟨i, hi, rfl⟩ := List.getElem_of_mem hl
    have hP := (hgp i hi).1
    rw [getD_get _ _ _ hi] at hP
    unfold fmtC
    split
    · split
      · simp
      · exact fcyL_len hP _ (Nat.le_refl _)
    · simp)
  have hO := impl_OrbitsOf sh g hB
  have hC := impl_ClassesOf sh g hB
  have hT := impl_TwoColors sh g (by omega) hx
  unfold plnS
  generalize orbL g = O at *
  generalize clsL g = C at *
  generalize twoL g = T at *
  refine AC_of tauOk 59 0 [4] Tryz.func31 rfl (by kernel_rfl) rfl rfl rfl rfl rfl ?_
  refine ⟨rfl, by decide, true, ?_⟩
  refine ⟨fun h1 => ?_, fun h1 => ?_⟩
  · rw [if_pos h1]
    refine ⟨[], false, _, _, impl_IndexLine sh g (by omega) hx, List.nodup_nil, rfl, rfl, trivial, ?_⟩
    exact ⟨none, ⟨rfl, trivial⟩, rfl, rfl⟩
  · rw [if_neg h1]
    refine ⟨fun h2 => ?_, fun h2 => ?_⟩
    · rw [if_pos h2]
      refine ⟨[], true, _, _, hO, List.nodup_nil, rfl, rfl, trivial, ?_⟩
      refine ⟨Nat, fun k => ⟨[(5, .ow 0), (19, .d true (.sl (.sl .int)) O), (20, I O.length), (21, I (k : Nat))], [.sl 9 .str ((O.take k).map fmtL)]⟩, fun k => k ≤ O.length, fun k => O.length - k, 0, Nat.zero_le _,
        ⟨⟨rfl, rfl⟩, ⟨rfl, rfl, rfl, rfl, trivial⟩, rfl, trivial⟩, fun k hk => ?_⟩
      dsimp only at hk
      refine ⟨fun h3 => ?_, fun h3 => ?_⟩
      · have hk2 : k < O.length := by omega
        have hm : O.getD k [] ∈ O := by rw [getD_get _ _ _ hk2]; exact List.getElem_mem _
        have hl := (hoe _ hm).1
        refine ⟨k, rfl, hk2, [], false, _, _, impl_FormatInts true (O.getD k []) (ho64 _ hm) (by omega), List.nodup_nil, rfl, rfl, trivial, ?_⟩
        refine ⟨rfl, by decide, false, ?_⟩
        refine ⟨rfl, Nat.zero_le _, rfl, by simp only [List.length_cons, List.length_nil, List.length_map, List.length_take]; omega, rfl, ?_⟩
        exact ⟨((k + 1 : Nat) : Int), w64_eq (by omega) (by omega) (by omega), k + 1, by dsimp only; omega, by dsimp only; omega, ⟨rfl, rfl⟩, ⟨rfl, rfl, rfl, rfl, trivial⟩, rowE (by rw [L_succ O k [] hk2, List.map_append]; rfl), trivial⟩
      · obtain rfl : k = O.length := by omega
        dsimp only
        rw [List.take_length]
        refine ⟨[], false, _, _, impl_Join false (O.map fmtL) [32] (by omega) (by omega), List.nodup_nil, rfl, rfl, trivial, ?_⟩
        exact ⟨none, ⟨rfl, trivial⟩, rfl, rfl⟩
    · rw [if_neg h2]
      refine ⟨fun h3 => ?_, fun h3 => ?_⟩
      · rw [if_pos h3]
        refine ⟨[], true, _, _, hC, List.nodup_nil, rfl, rfl, trivial, [], false, _, _, impl_FormatInts true C hc64 (by omega), List.nodup_nil, rfl, rfl, trivial, ?_⟩
        exact ⟨none, ⟨rfl, trivial⟩, rfl, rfl⟩
      · rw [if_neg h3]
        refine ⟨fun h4 => ?_, fun h4 => ?_⟩
        · rw [if_pos h4]
          refine ⟨[], true, _, _, hT, List.nodup_nil, rfl, rfl, trivial, [], false, _, _, impl_FormatInts true T ht64 (by omega), List.nodup_nil, rfl, rfl, trivial, ?_⟩
          exact ⟨none, ⟨rfl, trivial⟩, rfl, rfl⟩
        · rw [if_neg h4]
          refine ⟨fun h5 => ?_, fun h5 => ?_⟩
          · rw [if_pos h5]
            refine ⟨Nat, fun k => ⟨[(5, .ow 0), (45, .d sh (.sl (.sl .int)) g), (46, I g.length), (47, I (k : Nat))], [.sl 9 .str ((g.take k).map fmtC)]⟩, fun k => k ≤ g.length, fun k => g.length - k, 0, Nat.zero_le _,
              ⟨⟨rfl, rfl⟩, ⟨rfl, rfl, rfl, rfl, trivial⟩, rfl, trivial⟩, fun k hk => ?_⟩
            dsimp only at hk
            refine ⟨fun h6 => ?_, fun h6 => ?_⟩
            · have hk2 : k < g.length := by omega
              refine ⟨k, rfl, hk2, [], false, _, _, impl_FormatCycles sh (g.getD k []) (hx k hk2), List.nodup_nil, rfl, rfl, trivial, ?_⟩
              refine ⟨rfl, by decide, false, ?_⟩
              refine ⟨rfl, Nat.zero_le _, rfl, by simp only [List.length_cons, List.length_nil, List.length_map, List.length_take]; omega, rfl, ?_⟩
              exact ⟨((k + 1 : Nat) : Int), w64_eq (by omega) (by omega) (by omega), k + 1, by dsimp only; omega, by dsimp only; omega, ⟨rfl, rfl⟩, ⟨rfl, rfl, rfl, rfl, trivial⟩, rowE (by rw [L_succ g k [] hk2, List.map_append]; rfl), trivial⟩
            · obtain rfl : k = g.length := by omega
              dsimp only
              rw [List.take_length]
              refine ⟨[], false, _, _, impl_Join false (g.map fmtC) [32] (by omega) (by omega), List.nodup_nil, rfl, rfl, trivial, ?_⟩
              exact ⟨none, ⟨rfl, trivial⟩, rfl, rfl⟩
          · rw [if_neg h5]
            exact ⟨none, ⟨rfl, trivial⟩, rfl, rfl⟩
end Go.Proofs.YtacjiemkbhhhoaaGreatDoor
set_option linter.unusedVariables false
namespace Go.Proofs.YtacjiemkbhhhoaaGreatDoor
open Go Go.Proofs.YtacjiemkbhhhoaaGreatDoor.Ow
theorem join_nil : ∀ l : List (List UInt8), Lib.join l [] = l.flatten := by
  intro l
  cases l with
  | nil => rfl
  | cons x r =>
    rw [Lib.join_cons, List.flatten_cons]
    congr 1
    induction r with
    | nil => rfl
    | cons y r ih => simp [Lib.joinTail] at ih ⊢ <;> exact ih
theorem word_join (xs : List Int) (h : ColP xs) : Lib.join (xs.map fmtI) [] = wordS xs := by
  rw [join_nil]
  have h1 : ∀ x ∈ xs, fmtI x = [dg x.toNat] := by
    intro x hx
    obtain ⟨i, hi, rfl⟩ := List.getElem_of_mem hx
    have h2 := h.1 i hi
    rw [getD_get _ _ _ hi] at h2
    have h3 : ¬ xs[i] < 0 := by omega
    have e : xs[i].natAbs = xs[i].toNat := by omega
    rw [fmtI, if_neg h3, e, fmtN_lt _ (by omega)]
  rw [List.map_congr_left h1]
  clear h1 h
  induction xs with
  | nil => rfl
  | cons x r ih => simp [wordS] at ih ⊢; exact ih
/-- impl.FormatWord -/
theorem impl_FormatWord (sh : Bool) (xs : List Int) (hx : In64 xs) (hl : xs.length ≤ 1048576) : AC Tryz.prog 76 [.d sh (.sl .int) xs] [] [.d true .str (formatW xs)] [] := by
  refine AC_of tauOk 8 0 [2] Tryz.func76 rfl (by kernel_rfl) rfl rfl rfl rfl rfl ?_
  refine ⟨[], false, _, _, impl_ColoringOk sh xs hl, List.nodup_nil, rfl, rfl, trivial, fun h1 => ?_, fun h1 => ?_⟩
  · refine ⟨[], false, _, _, impl_commas sh xs [] hx hl (by decide), List.nodup_nil, rfl, rfl, trivial, ?_⟩
    exact ⟨none, ⟨retS (by rw [formatW, if_pos h1, word_join xs ((colB_iff xs).1 h1)]), trivial⟩, rfl, rfl⟩
  · exact ⟨none, ⟨retS (by rw [formatW, if_neg (by rw [h1]; decide)]), trivial⟩, rfl, rfl⟩
end Go.Proofs.YtacjiemkbhhhoaaGreatDoor
set_option linter.unusedVariables false
namespace Go.Proofs.YtacjiemkbhhhoaaGreatDoor
open Go Go.Proofs.YtacjiemkbhhhoaaGreatDoor.Ow
theorem formatW_len (xs : List Int) : (formatW xs).length ≤ 10 := by
  unfold formatW
  split
  · rename_i h
    have := ((colB_iff xs).1 h).2
    simp [wordS]; omega
  · simp
theorem mapS_succ (xss : List (List Int)) (f : List Int → List UInt8) (k : Nat) (h : k < xss.length) : (xss.take (k + 1)).map f = (xss.take k).map f ++ [f (xss.getD k [])] := by
  rw [L_succ xss k [] h, List.map_append]; rfl
theorem fws_len (xss : List (List Int)) (hs : xss.length ≤ 1048576) : (Lib.join (xss.map formatW) [32]).length ≤ 140737488355328 := by
  have h := jn_len (xss.map formatW) [32] 10 (fun i hi => by
    have hi' : i < xss.length := by simpa using hi
    rw [getD_get _ _ _ hi, List.getElem_map]
    exact formatW_len _) (xss.map formatW).length (Nat.le_refl _)
  rw [jn_join] at h
  simp only [List.length_map, List.length_cons, List.length_nil] at h
  omega
/-- a list of words as text -/
def fmtWs (xss : List (List Int)) : List UInt8 := if xss.length = 0 then [45] else Lib.join (xss.map formatW) [32]
/-- impl.FormatWords -/
theorem impl_FormatWords (sh : Bool) (xss : List (List Int)) (hx : ∀ i, i < xss.length → In64 (xss.getD i [])) (hs : Short xss) : AC Tryz.prog 79 [.d sh (.sl (.sl .int)) xss] [] [.d true .str (fmtWs xss)] [] := by
  have hl := hs.1
  refine AC_of tauOk 24 0 [2] Tryz.func79 rfl (by kernel_rfl) rfl rfl rfl rfl rfl ?_
  refine ⟨rfl, by decide, true, ?_⟩
  refine ⟨Nat, fun k => ⟨[(3, .ow 0), (7, .d sh (.sl (.sl .int)) xss), (8, I xss.length), (9, I (k : Nat))], [.sl 9 .str ((xss.take k).map formatW)]⟩, fun k => k ≤ xss.length, fun k => xss.length - k, 0, Nat.zero_le _,
    ⟨⟨rfl, rfl⟩, ⟨rfl, rfl, rfl, rfl, trivial⟩, rfl, trivial⟩, fun k hk => ?_⟩
  dsimp only at hk
  refine ⟨fun h1 => ?_, fun h1 => ?_⟩
  · have hk2 : k < xss.length := by omega
    have hle : ((xss.take k).map formatW).length ≤ 1048576 := by simp; omega
    refine ⟨k, rfl, hk2, [], false, _, _, impl_FormatWord sh (xss.getD k []) (hx k hk2) (hs.2 k hk2), List.nodup_nil, rfl, rfl, trivial, ?_⟩
    refine ⟨rfl, by decide, false, ?_⟩
    refine ⟨rfl, Nat.zero_le _, rfl, by simp only [List.length_cons, List.length_nil]; omega, rfl, ?_⟩
    exact ⟨((k + 1 : Nat) : Int), w64_eq (by omega) (by omega) (by omega), k + 1, by dsimp only; omega, by dsimp only; omega, ⟨rfl, rfl⟩, ⟨rfl, rfl, rfl, rfl, trivial⟩, rowE (mapS_succ xss formatW k hk2).symm, trivial⟩
  · obtain rfl : k = xss.length := by omega
    dsimp only; rw [List.take_length]
    have hlm : (xss.map formatW).length = xss.length := List.length_map ..
    refine ⟨fun h2 => ?_, fun h2 => ?_⟩
    · exact ⟨none, ⟨retS (by rw [fmtWs, if_pos (by omega)]), trivial⟩, rfl, rfl⟩
    · refine ⟨[], false, _, _, impl_Join false (xss.map formatW) [32] (by omega) (fws_len xss hl), List.nodup_nil, rfl, rfl, trivial, ?_⟩
      exact ⟨none, ⟨retS (by rw [fmtWs, if_neg (by omega)]), trivial⟩, rfl, rfl⟩
end Go.Proofs.YtacjiemkbhhhoaaGreatDoor
set_option linter.unusedVariables false
namespace Go.Proofs.YtacjiemkbhhhoaaGreatDoor
open Go Go.Proofs.YtacjiemkbhhhoaaGreatDoor.Ow
theorem impl_FormatWord_nil : AC Tryz.prog 76 [.nil] [] [.d true .str (formatW [])] [] :=
  (impl_FormatWord true [] (fun i hi => by simp at hi) (by decide)).weak fun w bs A vs => by
    rintro ⟨v, r, rfl, h1, h2⟩
    exact ⟨v, _, rfl, V_nil h1, h2⟩
theorem impl_FormatWords_nil : AC Tryz.prog 79 [.nil] [] [.d true .str (fmtWs [])] [] :=
  (impl_FormatWords true [] (fun i hi => by simp at hi) ⟨by decide, fun i hi => by simp at hi⟩).weak fun w bs A vs => by
    rintro ⟨v, r, rfl, h1, h2⟩
    exact ⟨v, _, rfl, V_nil h1, h2⟩
end Go.Proofs.YtacjiemkbhhhoaaGreatDoor
set_option linter.unusedVariables false
namespace Go.Proofs.YtacjiemkbhhhoaaGreatDoor
open Go Go.Proofs.YtacjiemkbhhhoaaGreatDoor.Ow
def treeCode (xs : List Int) : List UInt8 := if treeB xs = true then codeF xs 12 0 else []
/-- the text ahead of the k-th; the empty one ahead of the first -/
def lastS (l : List (List UInt8)) : Nat → List UInt8
  | 0 => []
  | j + 1 => l.getD j []
/-- the length of the run that ends behind the k-th text -/
def rz (l : List (List UInt8)) : Nat → Nat
  | 0 => 0
  | k + 1 => if l.getD k [] = lastS l k then rz l k + 1 else 1
theorem rz_s (l : List (List UInt8)) (k : Nat) : rz l (k + 1) = if l.getD k [] = lastS l k then rz l k + 1 else 1 := rfl
theorem rz_le (l : List (List UInt8)) : ∀ k, rz l k ≤ k
  | 0 => Nat.le_refl _
  | k + 1 => by
    have := rz_le l k
    rw [rz_s]
    split <;> omega
/-- a number times the lengths of the runs up to the k-th text -/
def pz (l : List (List UInt8)) (n : Int) : Nat → Int
  | 0 => n
  | k + 1 => w64 (pz l n k * (rz l (k + 1) : Nat))
theorem pz_s (l : List (List UInt8)) (n : Int) (k : Nat) : pz l n (k + 1) = w64 (pz l n k * (rz l (k + 1) : Nat)) := rfl
/-- the renamings of a tree, from its first v vertices -/
def tz (xs : List Int) : Nat → Int
  | 0 => 1
  | v + 1 => pz (kidsF xs 11 v) (tz xs v) (kidsF xs 11 v).length
def treeRen (xs : List Int) : Int := if treeB xs = true then tz xs xs.length else 0
def rdStep (s : List Int × Int) (c : UInt8) : List Int × Int := if ((c.toNat : Nat) : Int) = 40 then (s.1 ++ [s.2], ((s.1.length : Nat) : Int)) else if 0 ≤ s.2 then (s.1, s.1.getD s.2.toNat 0) else s
def rdT (code : List UInt8) : List Int × Int := code.foldl rdStep ([], -1)
def readB (code : List UInt8) : Bool := decide (code.length ≤ 24) && (treeB (rdT code).1 && decide (treeCode (rdT code).1 = code))
end Go.Proofs.YtacjiemkbhhhoaaGreatDoor
set_option linter.unusedVariables false
namespace Go.Proofs.YtacjiemkbhhhoaaGreatDoor
open Go Go.Proofs.YtacjiemkbhhhoaaGreatDoor.Ow
/-- impl.TreeOk -/
theorem impl_TreeOk (sh : Bool) (xs : List Int) (hl : xs.length ≤ 1048576) : AC Tryz.prog 163 [.d sh (.sl .int) xs] [] [.d true .bool (treeB xs)] [] := by
  refine AC_of tauOk 35 0 [2] Tryz.func163 rfl (by kernel_rfl) rfl rfl rfl rfl rfl ?_
  refine ⟨fun h1 => ?_, fun h1 => ?_⟩
  · exact ⟨none, ⟨retB (treeB_false fun h => by have := h.1; omega), trivial⟩, rfl, rfl⟩
  refine ⟨fun h2 => ?_, fun h2 => ?_⟩
  · exact ⟨none, ⟨retB (treeB_false fun h => by have := h.1; omega), trivial⟩, rfl, rfl⟩
  refine ⟨0, rfl, by omega, fun h3 => ?_, fun h3 => ?_⟩
  · exact ⟨none, ⟨retB (treeB_false fun h => h3 h.2.1), trivial⟩, rfl, rfl⟩
  refine ⟨1, rfl, by omega, Nat.le_refl _, ?_⟩
  have hlen : (List.drop 1 (List.take xs.length xs)).length = xs.length - 1 := by simp
  have hget : ∀ j, (List.drop 1 (List.take xs.length xs)).getD j 0 = xs.getD (j + 1) 0 := fun j => by rw [L_drop, List.take_length, Nat.add_comm]
  generalize List.drop 1 (List.take xs.length xs) = ys at *
  refine ⟨Nat, fun k => ⟨[(20, .d sh (.sl .int) ys), (21, I ys.length), (22, I (k : Nat))], []⟩, fun k => k ≤ ys.length ∧ ∀ i, 1 ≤ i → i < k + 1 → 0 ≤ xs.getD i 0 ∧ xs.getD i 0 < (i : Int), fun k => ys.length - k, 0, ⟨by omega, fun j hj => by omega⟩,
    ⟨⟨rfl, rfl⟩, ⟨rfl, rfl, rfl, trivial⟩, trivial⟩, fun k ⟨hk, hy⟩ => ?_⟩
  refine ⟨fun h4 => ?_, fun h4 => ?_⟩
  · refine ⟨k, rfl, by omega, fun h5 => ?_, fun h5 => ?_⟩
    · refine ⟨none, ⟨retB (treeB_false fun h => ?_), trivial⟩, rfl, rfl⟩
      have := h.2.2 (k + 1) (by omega) (by omega)
      rw [hget] at h5
      omega
    · refine ⟨fun h6 => ?_, fun h6 => ?_⟩
      · refine ⟨none, ⟨retB (treeB_false fun h => ?_), trivial⟩, rfl, rfl⟩
        have := h.2.2 (k + 1) (by omega) (by omega)
        rw [hget] at h6
        omega
      · refine ⟨_, w64_in _ (by omega) (by omega), k + 1, ⟨by omega, fun i hi1 hi2 => ?_⟩, by dsimp only; omega, ⟨rfl, rfl⟩, ⟨rfl, rfl, rfl, trivial⟩, trivial⟩
        rw [hget] at h5 h6
        by_cases e : i = k + 1
        · subst e; omega
        · exact hy i hi1 (by omega)
  · exact ⟨none, ⟨retB ((treeB_iff xs).2 ⟨by omega, by omega, fun i hi1 hi2 => hy i hi1 (by omega)⟩), trivial⟩, rfl, rfl⟩
end Go.Proofs.YtacjiemkbhhhoaaGreatDoor
set_option linter.unusedVariables false
namespace Go.Proofs.YtacjiemkbhhhoaaGreatDoor
open Go Go.Proofs.YtacjiemkbhhhoaaGreatDoor.Ow
theorem kid_lt {xs : List Int} (hT : TreeP xs) {i at_ : Nat} (hi : i < xs.length) (e : xs.getD i 0 = (at_ : Int)) : at_ < i := by
  by_cases h0 : i = 0
  · subst h0
    have := hT.2.1; omega
  · have := hT.2.2 i (by omega) hi; omega
/-- impl.children -/
theorem impl_children (sh : Bool) (xs : List Int) (hl : xs.length ≤ 12) (b at_ : Nat)
    (ih : ∀ i, i < xs.length → xs.getD i 0 = (at_ : Int) → AC Tryz.prog 262 [.d sh (.sl .int) xs, I (i : Nat)] [] [.d true .str (codeF xs b i)] []) :
    AC Tryz.prog 164 [.d sh (.sl .int) xs, I (at_ : Nat)] [] [.ow 0] [.sl 9 .str (kidsF xs b at_)] := by
  refine AC_of tauOk 31 0 [4] Tryz.func164 rfl (by kernel_rfl) rfl rfl rfl rfl rfl ?_
  refine ⟨rfl, by decide, true, ?_⟩
  refine ⟨Nat, fun k => ⟨[(0, .d sh (.sl .int) xs), (1, I (at_ : Nat)), (5, .ow 0), (9, .d sh (.sl .int) xs), (10, I xs.length), (11, I (k : Nat))], [.sl 9 .str (kidsP xs b at_ k)]⟩, fun k => k ≤ xs.length, fun k => xs.length - k, 0, Nat.zero_le _,
    ⟨⟨rfl, rfl⟩, ⟨rfl, rfl, rfl, rfl, rfl, rfl, trivial⟩, rfl, trivial⟩, fun k hk => ?_⟩
  dsimp only at hk
  have hkl := kidsP_len xs b at_ k
  refine ⟨fun h1 => ?_, fun h1 => ?_⟩
  · have hk2 : k < xs.length := by omega
    refine ⟨k, rfl, hk2, fun h2 => ?_, fun h2 => ?_⟩
    · refine ⟨[], false, _, _, ih k hk2 h2, List.nodup_nil, rfl, rfl, trivial, ?_⟩
      refine ⟨rfl, by decide, false, ?_⟩
      refine ⟨rfl, Nat.zero_le _, rfl, by simp only [List.length_cons, List.length_nil]; omega, rfl, ?_⟩
      exact ⟨((k + 1 : Nat) : Int), w64_eq (by omega) (by omega) (by omega), k + 1, by dsimp only; omega, by dsimp only; omega, ⟨rfl, rfl⟩, ⟨rfl, rfl, rfl, rfl, rfl, rfl, trivial⟩, rowE (kidsP_yes xs b at_ k h2).symm, trivial⟩
    · exact ⟨((k + 1 : Nat) : Int), w64_eq (by omega) (by omega) (by omega), k + 1, by dsimp only; omega, by dsimp only; omega, ⟨rfl, rfl⟩, ⟨rfl, rfl, rfl, rfl, rfl, rfl, trivial⟩, rowE (kidsP_no xs b at_ k h2).symm, trivial⟩
  · obtain rfl : k = xs.length := by omega
    refine ⟨[0], false, _, _, slices_Sort_str 9 (kidsP xs b at_ xs.length) (by omega), by decide, rfl, rfl, ⟨⟨List.length_mergeSort _, rfl, rfl⟩, trivial⟩, ?_⟩
    refine ⟨[0], false, _, _, slices_Reverse_str 9 ((kidsP xs b at_ xs.length).mergeSort fun x y => decide (x ≤ y)) (by rw [List.length_mergeSort]; omega), by decide, rfl, rfl, ⟨⟨List.length_reverse, rfl, rfl⟩, trivial⟩, ?_⟩
    exact ⟨some 0, ⟨⟨rfl, rfl⟩, trivial⟩, ⟨rfl, rowsE (sortD_merge _)⟩, rfl⟩
/-- impl.codeOf -/
theorem impl_codeOf (sh : Bool) (xs : List Int) (hT : TreeP xs) : ∀ (b at_ : Nat), at_ < xs.length → xs.length - at_ ≤ b → b ≤ 12 → AC Tryz.prog 262 [.d sh (.sl .int) xs, I (at_ : Nat)] [] [.d true .str (codeF xs b at_)] []
  | 0, at_, h1, h2, _ => by omega
  | b + 1, at_, h1, h2, h3 => by
    have hl : xs.length ≤ 12 := hT.1.2
    have ih := impl_codeOf sh xs hT b
    have hj := kidsF_join xs hl b at_ (by omega)
    refine AC_of tauOk 11 0 [4] Tryz.func262 rfl (by kernel_rfl) rfl rfl rfl rfl rfl ?_
    refine ⟨[], false, _, _, impl_children sh xs hl b at_ (fun i hi e => ih i hi (by have := kid_lt hT hi e; omega) (by omega)), List.nodup_nil, rfl, rfl, trivial, ?_⟩
    refine ⟨[], false, _, _, impl_Join false (kidsF xs b at_) [] (by omega) (by omega), List.nodup_nil, rfl, rfl, trivial, ?_⟩
    refine ⟨by simp only [List.length_cons, List.length_nil]; omega, by simp only [List.length_append, List.length_cons, List.length_nil]; omega, ?_⟩
    exact ⟨none, ⟨retS (by rw [codeF_s]; rfl), trivial⟩, rfl, rfl⟩
/-- impl.TreeCode -/
theorem impl_TreeCode (sh : Bool) (xs : List Int) (hl : xs.length ≤ 1048576) : AC Tryz.prog 162 [.d sh (.sl .int) xs] [] [.d true .str (treeCode xs)] [] := by
  refine AC_of tauOk 8 0 [2] Tryz.func162 rfl (by kernel_rfl) rfl rfl rfl rfl rfl ?_
  refine ⟨[], false, _, _, impl_TreeOk sh xs hl, List.nodup_nil, rfl, rfl, trivial, fun h1 => ?_, fun h1 => ?_⟩
  · have hT := (treeB_iff xs).1 h1
    refine ⟨[], false, _, _, impl_codeOf sh xs hT 12 0 hT.1.1 (by have := hT.1.2; omega) (by decide), List.nodup_nil, rfl, rfl, trivial, ?_⟩
    exact ⟨none, ⟨retS (by rw [treeCode, if_pos h1]), trivial⟩, rfl, rfl⟩
  · exact ⟨none, ⟨retS (by rw [treeCode, if_neg (by rw [h1]; decide)]), trivial⟩, rfl, rfl⟩
/-- impl.TreeRenamings -/
theorem impl_TreeRenamings (sh : Bool) (xs : List Int) (hl : xs.length ≤ 1048576) : AC Tryz.prog 71 [.d sh (.sl .int) xs] [] [I (treeRen xs)] [] := by
  refine AC_of tauOk 46 0 [2] Tryz.func71 rfl (by kernel_rfl) rfl rfl rfl rfl rfl ?_
  refine ⟨[], false, _, _, impl_TreeOk sh xs hl, List.nodup_nil, rfl, rfl, trivial, fun h1 => ?_, fun h1 => ?_⟩
  · have hT := (treeB_iff xs).1 h1
    have hl12 : xs.length ≤ 12 := hT.1.2
    refine ⟨Nat, fun v => ⟨[(0, .d sh (.sl .int) xs), (3, I (tz xs v)), (13, I xs.length), (14, I (v : Nat))], []⟩, fun v => v ≤ xs.length, fun v => xs.length - v, 0, Nat.zero_le _,
      ⟨⟨rfl, rfl⟩, ⟨rfl, rfl, rfl, rfl, trivial⟩, trivial⟩, fun v hv => ?_⟩
    dsimp only at hv
    refine ⟨fun h2 => ?_, fun h2 => ?_⟩
    · have hv2 : v < xs.length := by omega
      have hj := kidsF_join xs hl12 11 v (by decide)
      refine ⟨[], false, _, _, impl_children sh xs hl12 11 v (fun i hi e => impl_codeOf sh xs hT 11 i hi (by have := kid_lt hT hi e; omega) (by omega)), List.nodup_nil, rfl, rfl, trivial, ?_⟩
      refine ⟨Nat, fun k => ⟨[(0, .d sh (.sl .int) xs), (3, I (pz (kidsF xs 11 v) (tz xs v) k)), (13, I xs.length), (14, I (v : Nat)), (5, I (rz (kidsF xs 11 v) k : Nat)), (6, .ow 0), (20, .ow 0), (21, I (kidsF xs 11 v).length), (22, I (k : Nat))], [.sl 9 .str (kidsF xs 11 v)]⟩,
        fun k => k ≤ (kidsF xs 11 v).length, fun k => (kidsF xs 11 v).length - k, 0, Nat.zero_le _,
        ⟨⟨rfl, rfl⟩, ⟨rfl, rfl, rfl, rfl, rfl, rfl, rfl, rfl, rfl, trivial⟩, rfl, trivial⟩, fun k hk => ?_⟩
      dsimp only at hk
      have hrz := rz_le (kidsF xs 11 v) k
      refine ⟨fun h3 => ?_, fun h3 => ?_⟩
      · have hk2 : k < (kidsF xs 11 v).length := by omega
        refine ⟨k, rfl, hk2, ?_⟩
        refine ⟨((rz (kidsF xs 11 v) k + 1 : Nat) : Int), w64_eq (by omega) (by omega) (by omega), ?_⟩
        refine ⟨fun h4 => ?_, fun h4 => ?_⟩
        · obtain ⟨j, rfl⟩ : ∃ j, k = j + 1 := ⟨k - 1, by omega⟩
          refine ⟨((j : Nat) : Int), w64_eq (by omega) (by omega) (by omega), ?_⟩
          refine ⟨j, rfl, by omega, fun h5 => ?_, fun h5 => ?_⟩
          · have e : rz (kidsF xs 11 v) (j + 1 + 1) = 1 := by rw [rz_s]; exact if_neg h5
            refine ⟨_, rfl, ?_⟩
            exact ⟨((j + 1 + 1 : Nat) : Int), w64_eq (by omega) (by omega) (by omega), j + 1 + 1, by dsimp only; omega, by dsimp only; omega, ⟨rfl, rfl⟩, ⟨rfl, retI (by rw [pz_s _ _ (j + 1), e]; rfl), rfl, rfl, retI (by rw [e]; rfl), rfl, rfl, rfl, rfl, trivial⟩, rfl, trivial⟩
          · have h5' := Classical.not_not.1 h5
            have e : rz (kidsF xs 11 v) (j + 1 + 1) = rz (kidsF xs 11 v) (j + 1) + 1 := by rw [rz_s]; exact if_pos h5'
            refine ⟨_, rfl, ?_⟩
            exact ⟨((j + 1 + 1 : Nat) : Int), w64_eq (by omega) (by omega) (by omega), j + 1 + 1, by dsimp only; omega, by dsimp only; omega, ⟨rfl, rfl⟩, ⟨rfl, retI (by rw [pz_s _ _ (j + 1), e]), rfl, rfl, retI (by rw [e]), rfl, rfl, rfl, rfl, trivial⟩, rfl, trivial⟩
        · obtain rfl : k = 0 := by omega
          have e : rz (kidsF xs 11 v) (0 + 1) = rz (kidsF xs 11 v) 0 + 1 := by rw [rz_s]; split <;> rfl
          refine ⟨_, rfl, ?_⟩
          exact ⟨((0 + 1 : Nat) : Int), w64_eq (by omega) (by omega) (by omega), 0 + 1, by dsimp only; omega, by dsimp only; omega, ⟨rfl, rfl⟩, ⟨rfl, retI (by rw [pz_s, e]), rfl, rfl, retI (by rw [e]), rfl, rfl, rfl, rfl, trivial⟩, rfl, trivial⟩
      · obtain rfl : k = (kidsF xs 11 v).length := by omega
        exact ⟨((v + 1 : Nat) : Int), w64_eq (by omega) (by omega) (by omega), v + 1, by dsimp only; omega, by dsimp only; omega, ⟨rfl, rfl⟩, ⟨rfl, rfl, rfl, rfl, trivial⟩, trivial⟩
    · obtain rfl : v = xs.length := by omega
      exact ⟨none, ⟨retI (by rw [treeRen, if_pos h1]), trivial⟩, rfl, rfl⟩
  · exact ⟨none, ⟨retI (by rw [treeRen, if_neg (by rw [h1]; decide)]), trivial⟩, rfl, rfl⟩
end Go.Proofs.YtacjiemkbhhhoaaGreatDoor
