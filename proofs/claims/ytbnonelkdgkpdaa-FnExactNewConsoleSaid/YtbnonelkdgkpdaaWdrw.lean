/-
  Contracts of the functions that make the arguments of the laws: numbers, permutations, colorings, trees, groups.
-/
import Derived.Test.YtbnonelkdgkpdaaPls
import Derived.Test.YtbnonelkdgkpdaaWcur
import Derived.Test.YtbnonelkdgkpdaaWgok
set_option linter.unusedVariables false
set_option linter.unusedSimpArgs false
namespace Go.Proofs.Ytbnonelkdgkpdaa
open Go Go.Proofs.Ytbnonelkdgkpdaa.Ow
/-- where the cursor stands -/
abbrev Cu := Nat × Int
def nxt (code : List Int) (c : Cu) : Cu := (curI code c.1, curH c.2)
def cu0 (code : List Int) (n : Nat) : Cu := (cI code n, cH code n)
/-- the cursor's cells -/
def cuR (code : List Int) (c : Cu) : List Mix := [.u8s code, .int (c.1 : Nat), .int c.2]
/-- a number below n -/
def belR (code : List Int) (c : Cu) (n : Nat) : Nat := (curR code c.1 c.2).toNat % n
theorem belR_lt (code : List Int) (c : Cu) {n : Nat} (h : 1 ≤ n) : belR code c n < n := Nat.mod_lt _ (by omega)
/-- spec.l01Below -/
theorem spec_l01Below (code : List Int) (hl : code.length ≤ 1048576) (c : Cu) (n : Nat) (h1 : 1 ≤ n) (h2 : n ≤ 256) :
    AC Try.prog 81 [.ptr 0 0, I (n : Nat)] [.sl 82 .mix (cuR code c)] [I (belR code c n : Nat)] [.sl 82 .mix (cuR code (nxt code c))] := by
  have hb := curR_b code c.1 c.2
  refine AC_of tauOk 37 1 [4] Try.func81 rfl (by kernel_rfl) rfl rfl rfl rfl rfl ?_
  refine ⟨fun h => by omega, fun _ => ?_⟩
  refine ⟨fun _ => ?_, fun h => by omega⟩
  refine ⟨[0], false, _, _, spec_l01Byte code hl c.1 c.2, by decide, rfl, rfl, ⟨⟨rfl, rfl, rfl⟩, trivial⟩, ?_⟩
  refine ⟨by omega, ((belR code c n : Nat) : Int), ?_, ?_⟩
  · obtain ⟨x, hx⟩ : ∃ x : Nat, curR code c.1 c.2 = x := ⟨(curR code c.1 c.2).toNat, by omega⟩
    rw [belR, hx, Int.toNat_natCast]; exact Int.ofNat_tmod x n
  · exact ⟨none, ⟨rfl, trivial⟩, rfl, rfl⟩
/-- two places change -/
def swL (p : List Int) (i k : Nat) : List Int := (p.set i (p.getD k 0)).set k (p.getD i 0)
/-- a permutation is drawn -/
def drwP (code : List Int) : Nat → Cu → List Int → Cu × List Int
  | 0, c, p => (c, p)
  | k + 1, c, p => drwP code k (nxt code c) (swL p (belR code c (k + 2)) (k + 1))
def mkPerm (code : List Int) (c : Cu) (n : Nat) : Cu × List Int := drwP code (n - 1) c (idL n)
theorem swL_len (p : List Int) (i k : Nat) : (swL p i k).length = p.length := by simp [swL]
theorem swL_at (p : List Int) {i k x : Nat} (hi : i < p.length) (hk : k < p.length) (hx : x < p.length) : (swL p i k).getD x 0 = p.getD (if x = k then i else if x = i then k else x) 0 := by
  unfold swL
  rw [List.getD_eq_getElem?_getD, List.getElem?_set]
  by_cases h1 : k = x
  · subst h1
    rw [if_pos rfl, if_pos (by simp; omega), if_pos rfl]; rfl
  · rw [if_neg h1, if_neg (fun e => h1 e.symm), List.getElem?_set]
    by_cases h2 : i = x
    · subst h2; rw [if_pos rfl, if_pos hi, if_pos rfl]; rfl
    · rw [if_neg h2, if_neg (fun e => h2 e.symm), ← List.getD_eq_getElem?_getD]
theorem swL_perm {n : Nat} {p : List Int} (h : PnP n p) {i k : Nat} (hi : i < n) (hk : k < n) : PnP n (swL p i k) := by
  obtain ⟨h1, h2⟩ := h
  have hl := swL_len p i k
  have hsw : ∀ x, x < n → (if x = k then i else if x = i then k else x) < n := fun x hx => by
    split
    · exact hi
    · split
      · exact hk
      · exact hx
  refine ⟨⟨by rw [hl]; exact h1.1, fun x hx => ?_⟩, by rw [hl]; exact h2⟩
  rw [hl] at hx
  have b := hsw x (by omega)
  rw [swL_at p (by omega) (by omega) hx]
  have h3 := (h1.2 (if x = k then i else if x = i then k else x) (by omega)).1
  refine ⟨by rw [hl]; exact h3, fun j hj e => ?_⟩
  rw [swL_at p (by omega) (by omega) (by omega)] at e
  have b2 := hsw j (by omega)
  have h4 := perm_inj h1 (i := (if j = k then i else if j = i then k else j)) (j := (if x = k then i else if x = i then k else x)) (by omega) (by omega) (by rw [e])
  split at h4 <;> split at h4 <;> (try split at h4) <;> (try split at h4) <;> omega
theorem drwP_perm (code : List Int) {n : Nat} : ∀ k c p, k < n → PnP n p → PnP n (drwP code k c p).2
  | 0, c, p, _, h => h
  | k + 1, c, p, hk, h => by
    rw [drwP]
    exact drwP_perm code k _ _ (by omega) (swL_perm h (by have := belR_lt code c (show 1 ≤ k + 2 by omega); omega) hk)
theorem mkPerm_ok (code : List Int) (c : Cu) {n : Nat} (h1 : 1 ≤ n) (h2 : n ≤ 10) : PnP n (mkPerm code c n).2 := drwP_perm code _ _ _ (by omega) (id_perm h1 h2)
/-- spec.l02Draw -/
theorem spec_l02Draw (code : List Int) (hl : code.length ≤ 1048576) (c : Cu) (n : Nat) (h1 : 1 ≤ n) (h2 : n ≤ 10) :
    AC Try.prog 56 [.ptr 0 0, I (n : Nat)] [.sl 82 .mix (cuR code c)] [.ow 1] [.sl 82 .mix (cuR code (mkPerm code c n).1), .sl 3 .int (mkPerm code c n).2] := by
  refine AC_of tauOk 37 1 [4] Try.func56 rfl (by kernel_rfl) rfl rfl rfl rfl rfl ?_
  refine ⟨[], false, _, _, spec_IdentityPerm n h1 (by omega), List.nodup_nil, rfl, rfl, trivial, ?_⟩
  refine ⟨((n - 1 : Nat) : Int), w64_eq (by omega) (by omega) (by omega), ?_⟩
  refine ⟨Nat × Cu × List Int, fun i => ⟨[(0, .ptr 0 0), (5, .ow 1), (6, I (i.1 : Nat))], [.sl 82 .mix (cuR code i.2.1), .sl 3 .int i.2.2]⟩,
    fun i => i.1 < n ∧ i.2.2.length = n ∧ drwP code i.1 i.2.1 i.2.2 = mkPerm code c n, fun i => i.1, (n - 1, c, idL n), ⟨by dsimp only; omega, idL_len n, rfl⟩,
    ⟨⟨rfl, rfl⟩, ⟨rfl, rfl, rfl, trivial⟩, rfl, rfl, trivial⟩, ?_⟩
  rintro ⟨k, c', p⟩ ⟨hk, hp, hd⟩
  dsimp only at hk hp hd
  refine ⟨fun h3 => ?_, fun h3 => ?_⟩
  · dsimp only at h3
    obtain ⟨k, rfl⟩ : ∃ k', k = k' + 1 := ⟨k - 1, by omega⟩
    have hb := belR_lt code c' (show 1 ≤ k + 2 by omega)
    refine ⟨((k + 2 : Nat) : Int), w64_eq (by dsimp only; omega) (by omega) (by omega), ?_⟩
    refine ⟨[0], false, _, _, spec_l01Below code hl c' (k + 2) (by omega) (by omega), by decide, rfl, rfl, ⟨⟨rfl, rfl, rfl⟩, trivial⟩, ?_⟩
    refine ⟨belR code c' (k + 2), rfl, (show belR code c' (k + 2) < p.length by omega), ?_⟩
    refine ⟨k + 1, rfl, (show k + 1 < p.length by omega), ?_⟩
    refine ⟨belR code c' (k + 2), rfl, (show belR code c' (k + 2) < p.length by omega), ?_⟩
    refine ⟨k + 1, rfl, (show k + 1 < (p.set (belR code c' (k + 2)) (p.getD (k + 1) 0)).length by rw [List.length_set]; omega), ?_⟩
    exact ⟨((k : Nat) : Int), w64_eq (by dsimp only; omega) (by omega) (by omega), (k, nxt code c', swL p (belR code c' (k + 2)) (k + 1)), ⟨by dsimp only; omega, by dsimp only; rw [swL_len]; exact hp, hd⟩, by dsimp only; omega, ⟨rfl, rfl⟩, ⟨rfl, rfl, rfl, trivial⟩, rfl, rfl, trivial⟩
  · dsimp only at h3
    obtain rfl : k = 0 := by omega
    have e : mkPerm code c n = (c', p) := hd.symm
    rw [e]
    exact ⟨some 1, ⟨⟨rfl, rfl⟩, trivial⟩, ⟨rfl, rfl⟩, rfl⟩
theorem clampI (n b : Int) (h1 : 1 ≤ n) (h2 : n ≤ b) : (if (1 : Int) < (if b < n then b else n) then (if b < n then b else n) else 1) = n := by
  rw [if_neg (show ¬ b < n by omega)]
  split <;> omega
/-- spec.MakePerm -/
theorem spec_MakePerm (code : List Int) (hl : code.length ≤ 1048576) (m n : Nat) (hm : m ≤ 1000) (h1 : 1 ≤ n) (h2 : n ≤ 10) :
    AC Try.prog 14 [.d true (.sl .u8) code, I (m : Nat), I (n : Nat)] [] [.ow 0] [.sl 3 .int (mkPerm code (cu0 code m) n).2] := by
  have hD := spec_l02Draw code hl (cu0 code m) n h1 h2
  rw [← clampI (n : Int) 10 (by omega) (by omega)] at hD
  refine AC_of tauOk 14 0 [6] Try.func14 rfl (by kernel_rfl) rfl rfl rfl rfl rfl ?_
  refine ⟨[], false, _, _, spec_l16New code hl m hm, List.nodup_nil, rfl, rfl, trivial, ?_⟩
  refine ⟨[0], false, _, _, hD, by decide, rfl, rfl, ⟨⟨rfl, rfl, rfl⟩, trivial⟩, ?_⟩
  exact ⟨some 1, ⟨⟨rfl, rfl⟩, trivial⟩, ⟨rfl, rfl⟩, rfl⟩
/-- colors are drawn -/
def drwC (code : List Int) (k : Nat) (c : Cu) : Nat → Cu × List Int
  | 0 => (c, [])
  | i + 1 => (nxt code (drwC code k c i).1, (drwC code k c i).2 ++ [((belR code (drwC code k c i).1 k : Nat) : Int)])
theorem drwC_len (code : List Int) (k : Nat) (c : Cu) : ∀ i, (drwC code k c i).2.length = i
  | 0 => rfl
  | i + 1 => by rw [drwC, List.length_append, drwC_len code k c i]; rfl
theorem drwC_b (code : List Int) {k : Nat} (hk : 1 ≤ k) (c : Cu) : ∀ i, ∀ x ∈ (drwC code k c i).2, 0 ≤ x ∧ x < (k : Int)
  | 0, x, hx => by simp [drwC] at hx
  | i + 1, x, hx => by
    rw [drwC] at hx
    rcases List.mem_append.1 hx with hx | hx
    · exact drwC_b code hk c i x hx
    · rw [List.mem_singleton.1 hx]
      have := belR_lt code (drwC code k c i).1 hk
      omega
/-- spec.l04Colors -/
theorem spec_l04Colors (code : List Int) (hl : code.length ≤ 1048576) (c : Cu) (n k : Nat) (h2 : n ≤ 10) (h1 : 1 ≤ k) (h4 : k ≤ 4) :
    AC Try.prog 55 [.ptr 0 0, I (n : Nat), I (k : Nat)] [.sl 82 .mix (cuR code c)] [.ow 1] [.sl 82 .mix (cuR code (drwC code k c n).1), .sl 3 .int (drwC code k c n).2] := by
  refine AC_of tauOk 22 1 [6] Try.func55 rfl (by kernel_rfl) rfl rfl rfl rfl rfl ?_
  refine ⟨rfl, (by decide : 0 ≤ 1000), true, ?_⟩
  refine ⟨Nat, fun i => ⟨[(0, .ptr 0 0), (1, I (n : Nat)), (2, I (k : Nat)), (7, .ow 1), (8, I (i : Nat))], [.sl 82 .mix (cuR code (drwC code k c i).1), .sl 3 .int (drwC code k c i).2]⟩,
    fun i => i ≤ n, fun i => n - i, 0, Nat.zero_le _,
    ⟨⟨rfl, rfl⟩, ⟨rfl, rfl, rfl, rfl, rfl, trivial⟩, rfl, rfl, trivial⟩, fun i hi => ?_⟩
  dsimp only at hi
  have hil := drwC_len code k c i
  refine ⟨fun h3 => ?_, fun h3 => ?_⟩
  · refine ⟨[0], false, _, _, spec_l01Below code hl (drwC code k c i).1 k h1 (by omega), by decide, rfl, rfl, ⟨⟨rfl, rfl, rfl⟩, trivial⟩, ?_⟩
    refine ⟨rfl, by decide, false, ?_⟩
    refine ⟨rfl, (by decide : 1 ≤ 1), rfl, by simp only [List.length_cons, List.length_nil]; omega, rfl, ?_⟩
    exact ⟨((i + 1 : Nat) : Int), w64_eq (by omega) (by omega) (by omega), i + 1, by dsimp only; omega, by dsimp only; omega, ⟨rfl, rfl⟩, ⟨rfl, rfl, rfl, rfl, rfl, trivial⟩, rfl, rfl, trivial⟩
  · obtain rfl : i = n := by omega
    exact ⟨some 1, ⟨⟨rfl, rfl⟩, trivial⟩, ⟨rfl, rfl⟩, rfl⟩
/-- spec.MakeColors -/
theorem spec_MakeColors (code : List Int) (hl : code.length ≤ 1048576) (m n k : Nat) (hm : m ≤ 1000) (h1 : 1 ≤ n) (h2 : n ≤ 10) (h3 : 1 ≤ k) (h4 : k ≤ 4) :
    AC Try.prog 13 [.d true (.sl .u8) code, I (m : Nat), I (n : Nat), I (k : Nat)] [] [.ow 0] [.sl 3 .int (drwC code k (cu0 code m) n).2] := by
  have hD := spec_l04Colors code hl (cu0 code m) n k h2 h3 h4
  have e1 := clampI (n : Int) 10 (by omega) (by omega)
  have e2 := clampI (k : Int) 4 (by omega) (by omega)
  have hD2 : AC Try.prog 55 [.ptr 0 0, I (if (1 : Int) < (if (10 : Int) < (n : Int) then 10 else (n : Int)) then (if (10 : Int) < (n : Int) then 10 else (n : Int)) else 1), I (if (1 : Int) < (if (4 : Int) < (k : Int) then 4 else (k : Int)) then (if (4 : Int) < (k : Int) then 4 else (k : Int)) else 1)] [.sl 82 .mix (cuR code (cu0 code m))] [.ow 1] [.sl 82 .mix (cuR code (drwC code k (cu0 code m) n).1), .sl 3 .int (drwC code k (cu0 code m) n).2] := by
    rw [e1, e2]; exact hD
  refine AC_of tauOk 19 0 [8] Try.func13 rfl (by kernel_rfl) rfl rfl rfl rfl rfl ?_
  refine ⟨[], false, _, _, spec_l16New code hl m hm, List.nodup_nil, rfl, rfl, trivial, ?_⟩
  refine ⟨[0], false, _, _, hD2, by decide, rfl, rfl, ⟨⟨rfl, rfl, rfl⟩, trivial⟩, ?_⟩
  exact ⟨some 1, ⟨⟨rfl, rfl⟩, trivial⟩, ⟨rfl, rfl⟩, rfl⟩
/-- a tree is drawn -/
def drwT (code : List Int) : Nat → Cu → List Int → Cu × List Int
  | 0, c, l => (c, l)
  | n + 1, c, l => drwT code n (nxt code c) (l ++ [((belR code c l.length : Nat) : Int)])
def mkTree (code : List Int) (c : Cu) (most : Nat) : Cu × List Int := drwT code (belR code c most) (nxt code c) [-1]
/-- what GroupOf returns -/
def grpR : Option (List (List Int)) → List AV
  | some R => [.d true (.sl (.sl .int)) R, .d true .bool true]
  | none => [.nil, .d true .bool false]
theorem genQ_of {n : Nat} {gens : List (List Int)} (h : GenP n gens) : GenQ n gens := fun s hs => by
  obtain ⟨i, hi, rfl⟩ := List.getElem_of_mem hs
  have := h.2 i hi
  rw [getD_get _ _ _ hi] at this
  exact ⟨(permB_iff _).1 this.1, this.2⟩
/-- the inner loop, then the rest -/
def bfsJ (n : Nat) (gens : List (List Int)) (a : Nat) (gs out q : List (List Int)) : Option (List (List Int)) :=
  match innS n a gs out q with | none => none | some o => bfsS n gens (199 - a) (a + 1) o.1 o.2
/-- spec.GroupOf, whatever the generators -/
theorem spec_GroupOf_any (sh : Bool) (n : Nat) (gens : List (List Int)) (r : Option (List (List Int))) (h1 : 1 ≤ n) (hn : n < 11) (hg : GenP n gens) (hr : bfsS n gens 200 0 [idL n] [idL n] = r) :
    AC Try.prog 83 [I (n : Nat), .d sh (.sl (.sl .int)) gens] [] (grpR r) [] := by
  have hgl := hg.1
  have hgq := genQ_of hg
  cases r with
  | some R => exact spec_GroupOf sh n gens R h1 hn hg hr
  | none =>
  refine AC_of tauOk 73 0 [4, 5] Try.func83 rfl (by kernel_rfl) rfl rfl rfl rfl rfl ?_
  refine ⟨[], false, _, _, spec_l01In _ _ _, List.nodup_nil, rfl, rfl, trivial, fun _ => ?_, fun h => by simp only [Bool.and_eq_false_iff, decide_eq_false_iff_not] at h; omega⟩
  refine ⟨Nat, fun k => ⟨[(0, I (n : Nat)), (1, .d sh (.sl (.sl .int)) gens), (17, .d sh (.sl (.sl .int)) gens), (18, I gens.length), (19, I (k : Nat))], []⟩, fun k => k ≤ gens.length, fun k => gens.length - k, 0, Nat.zero_le _,
    ⟨⟨rfl, rfl⟩, ⟨rfl, rfl, rfl, rfl, rfl, trivial⟩, trivial⟩, fun k hk => ?_⟩
  dsimp only at hk
  refine ⟨fun h2 => ?_, fun h2 => ?_⟩
  · have hk2 : k < gens.length := by omega
    have hp := hg.2 k hk2
    refine ⟨k, rfl, hk2, [], false, _, _, spec_PermOk sh (gens.getD k []) (by omega), List.nodup_nil, rfl, rfl, trivial, fun h3 => ?_, fun h3 => by rw [hp.1] at h3; cases h3⟩
    refine ⟨fun h4 => (h4 (by omega)).elim, fun _ => ?_⟩
    exact ⟨((k + 1 : Nat) : Int), w64_eq (by omega) (by omega) (by omega), k + 1, by dsimp only; omega, by dsimp only; omega, ⟨rfl, rfl⟩, ⟨rfl, rfl, rfl, rfl, rfl, trivial⟩, trivial⟩
  · clear h2
    refine ⟨[], true, _, _, spec_IdentityPerm n h1 (by omega), List.nodup_nil, rfl, rfl, trivial, ?_⟩
    refine ⟨rfl, by decide, false, ?_⟩
    refine ⟨[], true, _, _, spec_IdentityPerm n h1 (by omega), List.nodup_nil, rfl, rfl, trivial, ?_⟩
    refine ⟨rfl, by decide, true, ?_⟩
    refine ⟨Nat × List (List Int) × List (List Int), fun i => ⟨[(0, I (n : Nat)), (1, .d sh (.sl (.sl .int)) gens), (8, .d true (.sl (.sl .int)) i.2.1), (9, .ow 0), (10, I (i.1 : Nat))], [.sl 25 (.sl .int) i.2.2]⟩,
      fun i => i.1 ≤ i.2.2.length ∧ BfP n gens i.2.1 i.2.2 ∧ bfsS n gens (200 - i.1) i.1 i.2.1 i.2.2 = none, fun i => 200 - i.1, (0, [idL n], [idL n]), ⟨Nat.zero_le _, bf_start gens, hr⟩,
      ⟨⟨rfl, rfl⟩, ⟨rfl, rfl, rfl, rfl, rfl, trivial⟩, rfl, trivial⟩, ?_⟩
    rintro ⟨a, g, q⟩ ⟨ha, hB, hb⟩
    dsimp only at ha hb hB
    have hql := bf_len hB
    have hl120 := hB.l
    have hstart : a < q.length → bfsJ n gens a (gens.drop 0) g q = none := fun haq => by
      rw [show 200 - a = (199 - a) + 1 by omega, bfsS, if_pos haq] at hb
      exact hb
    refine ⟨fun h3 => ?_, fun h3 => ?_⟩
    · dsimp only at h3
      have haq : a < q.length := by omega
      refine ⟨Nat × List (List Int) × List (List Int), fun i => ⟨[(0, I (n : Nat)), (1, .d sh (.sl (.sl .int)) gens), (8, .d true (.sl (.sl .int)) i.2.1), (9, .ow 0), (10, I (a : Nat)), (45, .d sh (.sl (.sl .int)) gens), (46, I gens.length), (47, I (i.1 : Nat))], [.sl 25 (.sl .int) i.2.2]⟩,
          fun i => i.1 ≤ gens.length ∧ a < i.2.2.length ∧ BfP n gens i.2.1 i.2.2 ∧ bfsJ n gens a (gens.drop i.1) i.2.1 i.2.2 = none, fun i => gens.length - i.1, (0, g, q), ⟨Nat.zero_le _, haq, hB, hstart haq⟩,
          ⟨⟨rfl, rfl⟩, ⟨rfl, rfl, rfl, rfl, rfl, rfl, rfl, rfl, trivial⟩, rfl, trivial⟩, ?_⟩
      rintro ⟨j, g', q'⟩ ⟨hj, haq', hB', hin⟩
      dsimp only at hj hin haq' hB'
      have hql' := bf_len hB'
      have hl' := hB'.l
      refine ⟨fun h4 => ?_, fun h4 => ?_⟩
      · dsimp only at h4
        have hj2 : j < gens.length := by omega
        have hp := hg.2 j hj2
        have hs : gens.getD j [] ∈ gens := by rw [getD_get _ _ _ hj2]; exact List.getElem_mem _
        have hw : Wd n gens (q'.getD a []) := by rw [getD_get _ _ _ haq']; exact hB'.w _ (List.getElem_mem haq')
        have hpw := wd_perm h1 (by omega) hgq hw
        rw [drop_c gens j [] hj2, bfsJ, innS_step h1 (by omega) hgq hB' haq'] at hin
        have hel := exL_len (q'.getD a []) (gens.getD j [])
        refine ⟨j, rfl, hj2, a, rfl, haq', ?_⟩
        refine ⟨[], true, _, _, spec_l02Compose true sh (q'.getD a []) (gens.getD j []) (by have := hpw.2; omega) (fun i hi => by rw [hp.2]; have := (hpw.1.2 i hi).1; have := hpw.2; omega), List.nodup_nil, rfl, rfl, trivial, ?_⟩
        have hel2 : ∀ i, i < g'.length → (g'.getD i []).length = (exL (q'.getD a []) (gens.getD j [])).length := fun i hi => by
          have hm : g'.getD i [] ∈ g' := by rw [getD_get _ _ _ hi]; exact List.getElem_mem _
          have := (wd_perm h1 (by omega) hgq (hB'.w _ (hB'.p.mem_iff.1 hm))).2
          have := hpw.2
          omega
        have hpl := hpw.2
        refine ⟨[], false, _, _, spec_l03Find true true g' (exL (q'.getD a []) (gens.getD j [])) (by omega) (by omega) hel2, List.nodup_nil, rfl, rfl, trivial, fun h5 => ?_, fun h5 => ?_⟩
        · have hm := hB'.p.mem_iff.1 ((findI_mem hB'.a _).1 h5)
          rw [if_pos hm] at hin
          exact ⟨((j + 1 : Nat) : Int), w64_eq (by omega) (by omega) (by omega), (j + 1, g', q'), ⟨by dsimp only; omega, haq', hB', hin⟩, by dsimp only; omega, ⟨rfl, rfl⟩, ⟨rfl, rfl, rfl, rfl, rfl, rfl, rfl, rfl, trivial⟩, rfl, trivial⟩
        · have hm : exL (q'.getD a []) (gens.getD j []) ∉ q' := fun hm => h5 ((findI_mem hB'.a _).2 (hB'.p.mem_iff.2 hm))
          rw [if_neg hm] at hin
          refine ⟨fun h6 => ?_, fun h6 => ?_⟩
          · exact ⟨none, ⟨rfl, rfl, trivial⟩, rfl, rfl⟩
          · dsimp only at h6
            have h120 : g'.length ≠ 120 := by omega
            rw [if_neg h120] at hin
            have hB2 := bf_add hB' haq' hs hm h120
            refine ⟨[], true, _, _, spec_l03Put g' (exL (q'.getD a []) (gens.getD j [])) hl' (by omega) hel2, List.nodup_nil, rfl, rfl, trivial, ?_⟩
            refine ⟨rfl, by decide, false, ?_⟩
            refine ⟨rfl, Nat.zero_le _, rfl, by simp only [List.length_cons, List.length_nil]; omega, rfl, ?_⟩
            exact ⟨((j + 1 : Nat) : Int), w64_eq (by omega) (by omega) (by omega), (j + 1, putS g' (exL (q'.getD a []) (gens.getD j [])), q' ++ [exL (q'.getD a []) (gens.getD j [])]), ⟨by dsimp only; omega, by dsimp only; rw [List.length_append]; omega, hB2, hin⟩, by dsimp only; omega, ⟨rfl, rfl⟩, ⟨rfl, rfl, rfl, rfl, rfl, rfl, rfl, rfl, trivial⟩, rfl, trivial⟩
      · dsimp only at h4
        obtain rfl : j = gens.length := by omega
        rw [List.drop_length, bfsJ, innS] at hin
        exact ⟨((a + 1 : Nat) : Int), w64_eq (by omega) (by omega) (by omega), (a + 1, g', q'), ⟨by dsimp only; omega, hB', by dsimp only; rw [show 200 - (a + 1) = 199 - a from by omega]; exact hin⟩, by dsimp only; omega, ⟨rfl, rfl⟩, ⟨rfl, rfl, rfl, rfl, rfl, trivial⟩, rfl, trivial⟩
    · dsimp only at h3
      rw [show 200 - a = (199 - a) + 1 by omega, bfsS, if_neg (by omega)] at hb
      cases hb
/-- the mirror -/
def mirL (n : Nat) : List Int := (List.range n).map fun (x : Nat) => ((n - 1 - x : Nat) : Int)
def miF (n k : Nat) : List Int := (List.range k).map fun (x : Nat) => ((n - 1 - x : Nat) : Int)
theorem miF_s (n k : Nat) : miF n (k + 1) = miF n k ++ [((n - 1 - k : Nat) : Int)] := by simp [miF, List.range_succ]
theorem miF_len (n k : Nat) : (miF n k).length = k := by simp [miF]
def fndG (n : Nat) (gens : List (List Int)) : Option (List (List Int)) := bfsS n gens 200 0 [idL n] [idL n]
def cycG (n : Nat) : List (List Int) := (fndG n [turnL n]).getD []
def dihG (n : Nat) : List (List Int) := (fndG n [turnL n, mirL n]).getD []
set_option maxRecDepth 100000 in
theorem small_grps : ∀ n, n < 7 → 1 ≤ n → ((fndG n [turnL n]).isSome = true ∧ (fndG n [turnL n, mirL n]).isSome = true) ∧ (permB (turnL n) = true ∧ (turnL n).length = n) ∧ permB (mirL n) = true ∧ (mirL n).length = n := by decide +kernel
theorem fnd_some {n : Nat} {gens : List (List Int)} (h : (fndG n gens).isSome = true) : fndG n gens = some ((fndG n gens).getD []) := by
  cases h2 : fndG n gens with
  | none => rw [h2] at h; cases h
  | some R => rfl
theorem cycG_ok {n : Nat} (h1 : 1 ≤ n) (h2 : n ≤ 6) : fndG n [turnL n] = some (cycG n) ∧ GenP n [turnL n] := by
  have h := small_grps n (by omega) h1
  refine ⟨fnd_some h.1.1, by show 1 ≤ 1000; decide, fun i hi => ?_⟩
  obtain rfl : i = 0 := by have hi : i < 1 := hi; omega
  exact h.2.1
theorem dihG_ok {n : Nat} (h1 : 1 ≤ n) (h2 : n ≤ 6) : fndG n [turnL n, mirL n] = some (dihG n) ∧ GenP n [turnL n, mirL n] := by
  have h := small_grps n (by omega) h1
  refine ⟨fnd_some h.1.2, by show 2 ≤ 1000; decide, fun i hi => ?_⟩
  have hi : i < 2 := hi
  match i, hi with
  | 0, _ => exact h.2.1
  | 1, _ => exact h.2.2
/-- spec.l03Mirror -/
theorem spec_l03Mirror (n : Nat) (h1 : 1 ≤ n) (hn : n < 11) : AC Try.prog 110 [I (n : Nat)] [] [.ow 0] [.sl 3 .int (mirL n)] := by
  refine AC_of tauOk 19 0 [2] Try.func110 rfl (by kernel_rfl) rfl rfl rfl rfl rfl ?_
  refine ⟨rfl, by decide, true, ?_⟩
  refine ⟨Nat, fun k => ⟨[(0, I (n : Nat)), (3, .ow 0), (4, I (k : Nat))], [.sl 3 .int (miF n k)]⟩, fun k => k ≤ n, fun k => n - k, 0, Nat.zero_le _,
    ⟨⟨rfl, rfl⟩, ⟨rfl, rfl, rfl, trivial⟩, rfl, trivial⟩, fun k hk => ?_⟩
  dsimp only at hk
  have hil := miF_len n k
  refine ⟨fun h2 => ?_, fun h2 => ?_⟩
  · refine ⟨((n - 1 : Nat) : Int), w64_eq (by omega) (by omega) (by omega), ((n - 1 - k : Nat) : Int), w64_eq (by omega) (by omega) (by omega), ?_⟩
    refine ⟨rfl, by decide, false, ?_⟩
    refine ⟨rfl, Nat.zero_le _, rfl, by simp only [List.length_cons, List.length_nil]; omega, rfl, ?_⟩
    exact ⟨((k + 1 : Nat) : Int), w64_eq (by omega) (by omega) (by omega), k + 1, by dsimp only; omega, by dsimp only; omega, ⟨rfl, rfl⟩, ⟨rfl, rfl, rfl, trivial⟩, rowE (miF_s n k).symm, trivial⟩
  · obtain rfl : k = n := by omega
    exact ⟨some 0, ⟨⟨rfl, rfl⟩, trivial⟩, ⟨rfl, rfl⟩, rfl⟩
/-- spec.CyclicGroup -/
theorem spec_CyclicGroup (n : Nat) (h1 : 1 ≤ n) (hn : n ≤ 6) : AC Try.prog 79 [I (n : Nat)] [] [.d true (.sl (.sl .int)) (cycG n), .d true .bool true] [] := by
  obtain ⟨hR, hg⟩ := cycG_ok h1 hn
  have hG := spec_GroupOf true n [turnL n] (cycG n) h1 (by omega) hg hR
  refine AC_of tauOk 14 0 [2, 3] Try.func79 rfl (by kernel_rfl) rfl rfl rfl rfl rfl ?_
  refine ⟨[], false, _, _, spec_l01In _ _ _, List.nodup_nil, rfl, rfl, trivial, fun _ => ?_, fun h => by simp only [Bool.and_eq_false_iff, decide_eq_false_iff_not] at h; omega⟩
  refine ⟨[], true, _, _, spec_l03Turn n h1 (by omega), List.nodup_nil, rfl, rfl, trivial, ?_⟩
  refine ⟨rfl, by decide, false, ?_⟩
  refine ⟨[], false, _, _, hG, List.nodup_nil, rfl, rfl, trivial, fun _ => ?_, nofun⟩
  exact ⟨none, ⟨rfl, rfl, trivial⟩, rfl, rfl⟩
/-- spec.DihedralGroup -/
theorem spec_DihedralGroup (n : Nat) (h1 : 1 ≤ n) (hn : n ≤ 6) : AC Try.prog 82 [I (n : Nat)] [] [.d true (.sl (.sl .int)) (dihG n), .d true .bool true] [] := by
  obtain ⟨hR, hg⟩ := dihG_ok h1 hn
  have hG := spec_GroupOf true n [turnL n, mirL n] (dihG n) h1 (by omega) hg hR
  refine AC_of tauOk 16 0 [2, 3] Try.func82 rfl (by kernel_rfl) rfl rfl rfl rfl rfl ?_
  refine ⟨[], false, _, _, spec_l01In _ _ _, List.nodup_nil, rfl, rfl, trivial, fun _ => ?_, fun h => by simp only [Bool.and_eq_false_iff, decide_eq_false_iff_not] at h; omega⟩
  refine ⟨[], true, _, _, spec_l03Turn n h1 (by omega), List.nodup_nil, rfl, rfl, trivial, ?_⟩
  refine ⟨[], true, _, _, spec_l03Mirror n h1 (by omega), List.nodup_nil, rfl, rfl, trivial, ?_⟩
  refine ⟨rfl, by decide, false, ?_⟩
  refine ⟨[], false, _, _, hG, List.nodup_nil, rfl, rfl, trivial, fun _ => ?_, nofun⟩
  exact ⟨none, ⟨rfl, rfl, trivial⟩, rfl, rfl⟩
/-- the group of one drawn permutation -/
def oneG (code : List Int) (c : Cu) (n : Nat) : Cu × List (List Int) := ((mkPerm code c n).1, (fndG n [(mkPerm code c n).2]).getD [])
/-- the group of two -/
def twoG (code : List Int) (c : Cu) (n : Nat) : Cu × List (List Int) :=
  match fndG n [(mkPerm code c n).2, (mkPerm code (mkPerm code c n).1 n).2] with
  | some R => if 24 < R.length then oneG code (mkPerm code (mkPerm code c n).1 n).1 n else ((mkPerm code (mkPerm code c n).1 n).1, R)
  | none => oneG code (mkPerm code (mkPerm code c n).1 n).1 n
def drwG (code : List Int) (c : Cu) (n w : Nat) : Cu × List (List Int) :=
  if w = 0 then (c, cycG n) else if w = 1 then (c, dihG n) else if w = 2 then (c, symL (min n 4)) else twoG code c n
/-- the degree of the drawn group -/
def degD (code : List Int) (c : Cu) : Nat := 1 + belR code c 6
def mkGrp (code : List Int) (c : Cu) : Cu × List (List Int) := drwG code (nxt code (nxt code c)) (degD code c) (belR code (nxt code c) 5)
/-- a group of n points -/
def GrQ (n : Nat) (R : List (List Int)) : Prop := AscL R ∧ R.length ≤ 120 ∧ idL n ∈ R ∧ (∀ x ∈ R, PnP n x) ∧ ∀ x ∈ R, ∀ y ∈ R, exL x y ∈ R
theorem genP_one {n : Nat} {p : List Int} (h : PnP n p) : GenP n [p] := by
  refine ⟨by show 1 ≤ 1000; decide, fun i hi => ?_⟩
  obtain rfl : i = 0 := by have hi : i < 1 := hi; omega
  exact ⟨(permB_iff _).2 h.1, h.2⟩
theorem genP_two {n : Nat} {p q : List Int} (h : PnP n p) (h2 : PnP n q) : GenP n [p, q] := by
  refine ⟨by show 2 ≤ 1000; decide, fun i hi => ?_⟩
  have hi : i < 2 := hi
  match i, hi with
  | 0, _ => exact ⟨(permB_iff _).2 h.1, h.2⟩
  | 1, _ => exact ⟨(permB_iff _).2 h2.1, h2.2⟩
theorem one_some {n : Nat} {p : List Int} (h1 : 1 ≤ n) (h2 : n ≤ 6) (h : PnP n p) : fndG n [p] = some ((fndG n [p]).getD []) := by
  obtain ⟨R, hR⟩ := bfs_one h1 h2 h 200 0 _ _ (bf_start [p]) (by omega) (Nat.zero_le _)
  exact fnd_some (by unfold fndG; rw [hR]; rfl)
theorem oneG_ok (code : List Int) (c : Cu) {n : Nat} (h1 : 1 ≤ n) (h2 : n ≤ 6) : GrQ n (oneG code c n).2 := by
  have hp := mkPerm_ok code c h1 (show n ≤ 10 by omega)
  exact bfs_closed h1 (by omega) (genQ_of (genP_one hp)) (one_some h1 h2 hp)
theorem twoG_ok (code : List Int) (c : Cu) {n : Nat} (h1 : 1 ≤ n) (h2 : n ≤ 6) : GrQ n (twoG code c n).2 := by
  have hp := mkPerm_ok code c h1 (show n ≤ 10 by omega)
  have hq := mkPerm_ok code (mkPerm code c n).1 h1 (show n ≤ 10 by omega)
  unfold twoG
  split
  next R hR =>
    split
    · exact oneG_ok code _ h1 h2
    · exact bfs_closed h1 (by omega) (genQ_of (genP_two hp hq)) hR
  next => exact oneG_ok code _ h1 h2
theorem mkGrp_ok (code : List Int) (c : Cu) : ∃ n, 1 ≤ n ∧ n ≤ 6 ∧ GrQ n (mkGrp code c).2 := by
  have hb := belR_lt code c (show 1 ≤ 6 by omega)
  have h1 : 1 ≤ degD code c := by unfold degD; omega
  have h2 : degD code c ≤ 6 := by unfold degD; omega
  unfold mkGrp drwG
  split
  · exact ⟨_, h1, h2, bfs_closed h1 (by omega) (genQ_of (cycG_ok h1 h2).2) (cycG_ok h1 h2).1⟩
  split
  · exact ⟨_, h1, h2, bfs_closed h1 (by omega) (genQ_of (dihG_ok h1 h2).2) (dihG_ok h1 h2).1⟩
  split
  · have g1 : 1 ≤ min (degD code c) 4 := by omega
    have g2 : min (degD code c) 4 < 6 := by omega
    exact ⟨_, g1, by omega, bfs_closed g1 (by omega) (genQ_of (gens_ok _ g1 g2)) (sym_ok _ g2 g1).s⟩
  · exact ⟨_, h1, h2, twoG_ok code _ h1 h2⟩
theorem grq_gok {n : Nat} {R : List (List Int)} (h : GrQ n R) : gokB R = true := by
  obtain ⟨h1, h2, h3, h4, h5⟩ := h
  have hl : 1 ≤ R.length := List.length_pos_of_mem h3
  have hm : ∀ i, i < R.length → R.getD i [] ∈ R := fun i hi => by rw [getD_get _ _ _ hi]; exact List.getElem_mem _
  refine (gokB_iff R).2 ⟨hl, h2, fun i hi => gok1_of ((permB_iff _).2 (h4 _ (hm i hi)).1) (by rw [(h4 _ (hm i hi)).2, (h4 _ (hm 0 (by omega))).2]) ?_, fun i hi j hj => ?_⟩
  · rcases Nat.eq_zero_or_pos i with h | h
    · exact .inl h
    · exact .inr (asc_get h1 (by omega) hi)
  · exact decide_eq_true ((findI_mem h1 _).2 (h5 _ (hm i hi) _ (hm j hj)))
/-- spec.l03Draw -/
theorem spec_l03Draw (code : List Int) (hl : code.length ≤ 1048576) (c : Cu) :
    AC Try.prog 40 [.ptr 0 0] [.sl 82 .mix (cuR code c)] [.d true (.sl (.sl .int)) (mkGrp code c).2] [.sl 82 .mix (cuR code (mkGrp code c).1)] := by
  have hb := belR_lt code c (show 1 ≤ 6 by omega)
  have hb2 := belR_lt code (nxt code c) (show 1 ≤ 5 by omega)
  have h1 : 1 ≤ degD code c := by unfold degD; omega
  have h2 : degD code c ≤ 6 := by unfold degD; omega
  have hm := mkGrp.eq_1 code c
  have hD := drwG.eq_1 code (nxt code (nxt code c)) (degD code c) (belR code (nxt code c) 5)
  rw [hD] at hm
  generalize hw : belR code (nxt code c) 5 = w at *
  refine AC_of tauOk 71 1 [2] Try.func40 rfl (by kernel_rfl) rfl rfl rfl rfl rfl ?_
  refine ⟨[0], false, _, _, spec_l01Below code hl c 6 (by omega) (by omega), by decide, rfl, rfl, ⟨⟨rfl, rfl, rfl⟩, trivial⟩, ?_⟩
  refine ⟨((degD code c : Nat) : Int), w64_eq (by unfold degD; omega) (by omega) (by omega), ?_⟩
  refine ⟨[0], false, _, _, spec_l01Below code hl (nxt code c) 5 (by omega) (by omega), by decide, rfl, rfl, ⟨⟨rfl, rfl, rfl⟩, trivial⟩, ?_⟩
  rw [hw]
  refine ⟨fun h3 => ?_, fun h3 => ?_⟩
  · refine ⟨[], false, _, _, spec_CyclicGroup (degD code c) h1 h2, List.nodup_nil, rfl, rfl, trivial, fun _ => ?_, nofun⟩
    rw [if_pos (by omega)] at hm
    rw [hm]
    exact ⟨none, ⟨rfl, trivial⟩, rfl, rfl⟩
  rw [if_neg (by omega)] at hm
  refine ⟨fun h4 => ?_, fun h4 => ?_⟩
  · refine ⟨[], false, _, _, spec_DihedralGroup (degD code c) h1 h2, List.nodup_nil, rfl, rfl, trivial, fun _ => ?_, nofun⟩
    rw [if_pos (by omega)] at hm
    rw [hm]
    exact ⟨none, ⟨rfl, trivial⟩, rfl, rfl⟩
  rw [if_neg (by omega)] at hm
  refine ⟨fun h5 => ?_, fun h5 => ?_⟩
  · have hS := spec_SymmetricGroup (min (degD code c) 4) (by omega) (by omega)
    rw [show (((min (degD code c) 4 : Nat)) : Int) = if (4 : Int) < ((degD code c : Nat) : Int) then 4 else ((degD code c : Nat) : Int) by split <;> omega] at hS
    refine ⟨[], false, _, _, hS, List.nodup_nil, rfl, rfl, trivial, fun _ => ?_, nofun⟩
    rw [if_pos (by omega)] at hm
    rw [hm]
    exact ⟨none, ⟨rfl, trivial⟩, rfl, rfl⟩
  rw [if_neg (by omega)] at hm
  have hp := mkPerm_ok code (nxt code (nxt code c)) h1 (show degD code c ≤ 10 by omega)
  have hq := mkPerm_ok code (mkPerm code (nxt code (nxt code c)) (degD code c)).1 h1 (show degD code c ≤ 10 by omega)
  have hr := mkPerm_ok code (mkPerm code (mkPerm code (nxt code (nxt code c)) (degD code c)).1 (degD code c)).1 h1 (show degD code c ≤ 10 by omega)
  refine ⟨[0], true, _, _, spec_l02Draw code hl (nxt code (nxt code c)) (degD code c) h1 (by omega), by decide, rfl, rfl, ⟨⟨rfl, rfl, rfl⟩, trivial⟩, ?_⟩
  refine ⟨[0], true, _, _, spec_l02Draw code hl (mkPerm code (nxt code (nxt code c)) (degD code c)).1 (degD code c) h1 (by omega), by decide, rfl, rfl, ⟨⟨rfl, rfl, rfl⟩, trivial⟩, ?_⟩
  refine ⟨rfl, by decide, false, ?_⟩
  cases hR : fndG (degD code c) [(mkPerm code (nxt code (nxt code c)) (degD code c)).2, (mkPerm code (mkPerm code (nxt code (nxt code c)) (degD code c)).1 (degD code c)).2] with
  | none =>
    rw [twoG, hR] at hm
    have hm : mkGrp code c = oneG code (mkPerm code (mkPerm code (nxt code (nxt code c)) (degD code c)).1 (degD code c)).1 (degD code c) := hm
    refine ⟨[], false, _, _, spec_GroupOf_any true (degD code c) [(mkPerm code (nxt code (nxt code c)) (degD code c)).2, (mkPerm code (mkPerm code (nxt code (nxt code c)) (degD code c)).1 (degD code c)).2] none h1 (by omega) (genP_two hp hq) hR, List.nodup_nil, rfl, rfl, trivial, nofun, fun _ => ?_⟩
    refine ⟨[0], true, _, _, spec_l02Draw code hl (mkPerm code (mkPerm code (nxt code (nxt code c)) (degD code c)).1 (degD code c)).1 (degD code c) h1 (by omega), by decide, rfl, rfl, ⟨⟨rfl, rfl, rfl⟩, trivial⟩, ?_⟩
    refine ⟨rfl, by decide, false, ?_⟩
    refine ⟨[], false, _, _, spec_GroupOf_any true (degD code c) [(mkPerm code (mkPerm code (mkPerm code (nxt code (nxt code c)) (degD code c)).1 (degD code c)).1 (degD code c)).2] (some (oneG code (mkPerm code (mkPerm code (nxt code (nxt code c)) (degD code c)).1 (degD code c)).1 (degD code c)).2) h1 (by omega) (genP_one hr) (one_some h1 h2 hr), List.nodup_nil, rfl, rfl, trivial, fun _ => ?_, nofun⟩
    rw [hm]
    exact ⟨none, ⟨rfl, trivial⟩, rfl, rfl⟩
  | some R =>
    rw [twoG, hR] at hm
    have hm : mkGrp code c = if 24 < R.length then oneG code (mkPerm code (mkPerm code (nxt code (nxt code c)) (degD code c)).1 (degD code c)).1 (degD code c) else ((mkPerm code (mkPerm code (nxt code (nxt code c)) (degD code c)).1 (degD code c)).1, R) := hm
    refine ⟨[], false, _, _, spec_GroupOf_any true (degD code c) [(mkPerm code (nxt code (nxt code c)) (degD code c)).2, (mkPerm code (mkPerm code (nxt code (nxt code c)) (degD code c)).1 (degD code c)).2] (some R) h1 (by omega) (genP_two hp hq) hR, List.nodup_nil, rfl, rfl, trivial, fun _ => ?_, nofun⟩
    refine ⟨fun h6 => ?_, fun h6 => ?_⟩
    · rw [if_pos (by omega)] at hm
      refine ⟨[0], true, _, _, spec_l02Draw code hl (mkPerm code (mkPerm code (nxt code (nxt code c)) (degD code c)).1 (degD code c)).1 (degD code c) h1 (by omega), by decide, rfl, rfl, ⟨⟨rfl, rfl, rfl⟩, trivial⟩, ?_⟩
      refine ⟨rfl, by decide, false, ?_⟩
      refine ⟨[], false, _, _, spec_GroupOf_any true (degD code c) [(mkPerm code (mkPerm code (mkPerm code (nxt code (nxt code c)) (degD code c)).1 (degD code c)).1 (degD code c)).2] (some (oneG code (mkPerm code (mkPerm code (nxt code (nxt code c)) (degD code c)).1 (degD code c)).1 (degD code c)).2) h1 (by omega) (genP_one hr) (one_some h1 h2 hr), List.nodup_nil, rfl, rfl, trivial, fun _ => ?_, nofun⟩
      rw [hm]
      exact ⟨none, ⟨rfl, trivial⟩, rfl, rfl⟩
    · rw [if_neg (by omega)] at hm
      rw [hm]
      exact ⟨none, ⟨rfl, trivial⟩, rfl, rfl⟩
/-- the group that is drawn -/
def grpD (code : List Int) (m : Nat) : List (List Int) := (mkGrp code (cu0 code m)).2
/-- spec.MakeGroup -/
theorem spec_MakeGroup (code : List Int) (hl : code.length ≤ 1048576) (m : Nat) (hm : m ≤ 1000) :
    AC Try.prog 8 [.d true (.sl .u8) code, I (m : Nat)] [] [.d true (.sl (.sl .int)) (grpD code m)] [] := by
  refine AC_of tauOk 9 0 [4] Try.func8 rfl (by kernel_rfl) rfl rfl rfl rfl rfl ?_
  refine ⟨[], false, _, _, spec_l16New code hl m hm, List.nodup_nil, rfl, rfl, trivial, ?_⟩
  refine ⟨[0], false, _, _, spec_l03Draw code hl (cu0 code m), by decide, rfl, rfl, ⟨⟨rfl, rfl, rfl⟩, trivial⟩, ?_⟩
  exact ⟨none, ⟨rfl, trivial⟩, rfl, rfl⟩
theorem grpD_ok (code : List Int) (m : Nat) : ∃ n, 1 ≤ n ∧ n ≤ 6 ∧ GrQ n (grpD code m) := mkGrp_ok code _
end Go.Proofs.Ytbnonelkdgkpdaa
