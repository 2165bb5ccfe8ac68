/-
  Contracts of the library's functions on lists of integers: compared, equal, copied, turned.
-/
import Derived.Test.YtbnonelkdgkpdaaPls
import Derived.Test.YtbnonelkdgkpdaaWcom
import Derived.Test.YtbnonelkdgkpdaaWsort
set_option linter.unusedVariables false
namespace Go.Proofs.Ytbnonelkdgkpdaa
open Go Go.RowKit Go.Sort Go.Proofs.Ytbnonelkdgkpdaa.Ow
theorem holds_rowI {w : World} {b e : Nat} {cur : Array Value} {xs : List Int} {A : Nat → Prop} (h1 : w.heap[b]? = some (.cells cur e (0, 0))) (h2 : ∀ (j : Nat) (h : j < xs.length), ∃ cv, cur[j]? = some cv ∧ Rd w A .int xs[j] cv) : Holds (Value.int .i64) w b 0 xs.toArray := by
  intro j hj
  have hj' : j < xs.length := by simpa using hj
  obtain ⟨cv, g1, g2⟩ := h2 j hj'
  refine ⟨?_, frozen_row w b _ cur e h1⟩
  rw [Nat.zero_add, cell_of_row w b j cur e (0, 0) h1, g1]
  cases g2
  simp [hj']
/-- a callee that puts another list of integers of the same length into the row that was handed over -/
theorem AC_rowI {f : FuncId} {e : Nat} {xs ys : List Int} (hl : ys.length = xs.length) (hr : Runs Try.prog f)
    (h : ∀ (b cap : Nat) (w : World), Holds (Value.int .i64) w b 0 xs.toArray → b < w.heap.size → Calls Try.prog f #[.slice (some ⟨b, 0, none⟩) xs.length cap] w fun ex w' => ex = .returned (.tuple #[]) ∧ ∃ n os, w' = grow (putRow (Value.int .i64) (Go.Sort.ahead w n) b 0 ys.toArray) os) :
    AC Try.prog f [.ow 0] [.sl e .int xs] [] [.sl e .int ys] := by
  refine ⟨hr, fun w bs A vs hok hvs => ?_⟩
  obtain ⟨v, r, rfl, ⟨b, e', t, xs', cur, hb, hx, hc, rfl⟩, h3⟩ := hvs
  cases h3
  cases hx
  have hrow := hok.row 0 b _ hb rfl
  obtain ⟨hA, cur2, c1, c2, c3, c4⟩ := hrow
  rw [hc] at c1; cases c1
  have hbl := hok.lt b (List.mem_of_getElem? hb)
  have hbs : bs = [b] := by
    have hlen := hok.len
    match bs, hb, hlen with
    | [x], hb, _ => simp at hb; rw [hb]
  subst hbs
  refine (h b cur.size w (holds_rowI hc c4) hbl).mono ?_
  rintro ex w' ⟨rfl, n, os, rfl⟩
  have hold : ∀ k, k < w.heap.size → k ≠ b → (grow (putRow (Value.int .i64) (Go.Sort.ahead w n) b 0 ys.toArray) os).heap[k]? = w.heap[k]? := by
    intro k hk hkb
    rw [heap_grow_old _ _ (by simpa using hk), putRow_other _ _ _ _ _ hkb]; rfl
  have hnew : (grow (putRow (Value.int .i64) (Go.Sort.ahead w n) b 0 ys.toArray) os).heap[b]? = some (.cells (putCells (Value.int .i64) 0 ys.toArray cur) e (0, 0)) := by
    rw [heap_grow_old _ _ (by simpa using hbl)]
    exact putRow_block (Value.int .i64) (Go.Sort.ahead w n) b _ cur e hc
  have hsz : (putCells (Value.int .i64) 0 ys.toArray cur).size = cur.size := by simp [putCells]
  refine ⟨.tuple #[], [b], A, rfl, ⟨rfl, hok.nodup, fun x hx => ?_, fun x hx => ?_, ?_⟩, ⟨[], rfl, rfl⟩, ⟨rfl, rfl, rfl, ?_, ?_, fun x hx => .inl hx, fun x hx => .inl hx⟩, ⟨[], rfl⟩, ?_, fun x hx => hx⟩
  · have := hok.lt x hx; simp; omega
  · have := hok.old x hx; simp; omega
  · intro i b2 r hb2 hr2
    match i, hb2, hr2 with
    | 0, hb2, hr2 =>
      simp at hb2 hr2
      subst hb2; subst hr2
      refine ⟨hA, _, hnew, by rw [hsz, hl]; exact c2, by rw [hsz]; exact c3, fun j hj => ?_, trivial⟩
      refine ⟨.int .i64 ys[j], ?_, rfl⟩
      rw [putCells_get _ _ _ _ (by simpa using hj) (by simp; omega)]
      simp [hj]
    | i + 1, hb2, _ => simp at hb2
  · simp
  · intro k hk hkb
    exact hold k hk (by simpa using hkb)
  · intro x hx cur2 e2 hc2
    simp at hx; subst hx
    rw [hc] at hc2; cases hc2
    exact ⟨_, hnew, hsz⟩

theorem cmp_isNaN_int (x : Int) : AC Try.prog 123 [I x] [] [.d true .bool false] [] := by
  refine AC_of tauOk 6 0 [2] Try.func123 rfl (by kernel_rfl) rfl rfl rfl rfl rfl ?_
  refine ⟨fun h => (h rfl).elim, fun _ => ?_⟩
  exact ⟨none, ⟨rfl, trivial⟩, rfl, rfl⟩
/-- cmp.Compare of integers -/
theorem cmp_Compare_int (x y : Int) : AC Try.prog 115 [I x, I y] [] [I (if x < y then -1 else if y < x then 1 else 0)] [] := by
  refine AC_of tauOk 20 0 [4] Try.func115 rfl (by kernel_rfl) rfl rfl rfl rfl rfl ?_
  refine ⟨[], false, _, _, cmp_isNaN_int x, List.nodup_nil, rfl, rfl, trivial, nofun, fun _ => ?_⟩
  refine ⟨[], false, _, _, cmp_isNaN_int y, List.nodup_nil, rfl, rfl, trivial, nofun, fun _ => ?_⟩
  refine ⟨fun h => ?_, fun h => ?_⟩
  · exact ⟨none, ⟨retI (by rw [if_pos h]), trivial⟩, rfl, rfl⟩
  refine ⟨fun h2 => ?_, fun h2 => ?_⟩
  · exact ⟨none, ⟨retI (by rw [if_neg h, if_pos h2]), trivial⟩, rfl, rfl⟩
  · exact ⟨none, ⟨retI (by rw [if_neg h, if_neg h2]), trivial⟩, rfl, rfl⟩
/-- slices.Compare of integers -/
theorem slices_Compare_int (s1 s2 : Bool) (xs ys : List Int) (hl : xs.length ≤ 1048576) (hl2 : ys.length ≤ 1048576) : AC Try.prog 85 [.d s1 (.sl .int) xs, .d s2 (.sl .int) ys] [] [I (cmpI xs ys)] [] := by
  refine AC_of tauOk 36 0 [4] Try.func85 rfl (by kernel_rfl) rfl rfl rfl rfl rfl ?_
  refine ⟨Nat, fun k => ⟨[(0, .d s1 (.sl .int) xs), (1, .d s2 (.sl .int) ys), (9, .d s1 (.sl .int) xs), (10, I xs.length), (11, I (k : Nat))], []⟩, fun k => k ≤ xs.length ∧ k ≤ ys.length ∧ cmpI (xs.drop k) (ys.drop k) = cmpI xs ys, fun k => xs.length - k, 0, ⟨Nat.zero_le _, Nat.zero_le _, rfl⟩,
    ⟨⟨rfl, rfl⟩, ⟨rfl, rfl, rfl, rfl, rfl, trivial⟩, trivial⟩, fun k ⟨hk, hk2, hc⟩ => ?_⟩
  refine ⟨fun h1 => ?_, fun h1 => ?_⟩
  · have hx : k < xs.length := by omega
    refine ⟨k, rfl, hx, fun h2 => ?_, fun h2 => ?_⟩
    · obtain rfl : k = ys.length := by omega
      rw [List.drop_length, List.drop_eq_getElem_cons hx] at hc
      exact ⟨none, ⟨retI hc.symm, trivial⟩, rfl, rfl⟩
    · have hy : k < ys.length := by omega
      have hd := cmpI_drop xs ys k hx hy
      refine ⟨k, rfl, hy, [], false, _, _, cmp_Compare_int (xs.getD k 0) (ys.getD k 0), List.nodup_nil, rfl, rfl, trivial, fun h3 => ?_, fun h3 => ?_⟩
      · refine ⟨none, ⟨retI ?_, trivial⟩, rfl, rfl⟩
        rw [← hc, hd]
        split
        · rfl
        · rename_i h4
          rw [if_neg h4] at h3
          split
          · rfl
          · rename_i h5
            rw [if_neg h5] at h3
            exact (h3 rfl).elim
      · have h3' := Classical.not_not.1 h3
        refine ⟨((k + 1 : Nat) : Int), w64_eq (by omega) (by omega) (by omega), k + 1, ⟨hx, hy, ?_⟩, by dsimp only; omega, ⟨rfl, rfl⟩, ⟨rfl, rfl, rfl, rfl, rfl, trivial⟩, trivial⟩
        rw [← hc, hd]
        split at h3'
        · omega
        · rename_i h4
          split at h3'
          · omega
          · rename_i h5
            rw [if_neg h4, if_neg h5]
  · obtain rfl : k = xs.length := by omega
    rw [List.drop_length] at hc
    refine ⟨fun h2 => ?_, fun h2 => ?_⟩
    · rw [List.drop_eq_getElem_cons (show xs.length < ys.length by omega)] at hc
      exact ⟨none, ⟨retI hc.symm, trivial⟩, rfl, rfl⟩
    · rw [List.drop_eq_nil_of_le (by omega)] at hc
      exact ⟨none, ⟨retI hc.symm, trivial⟩, rfl, rfl⟩
/-- slices.Equal[[]int,int] -/
theorem slices_Equal_int (s1 s2 : Bool) (xs ys : List Int) (hl : xs.length ≤ 1048576) (hl2 : ys.length ≤ 1048576) : AC Try.prog 46 [.d s1 (.sl .int) xs, .d s2 (.sl .int) ys] [] [.d true .bool (decide (xs = ys))] [] := by
  refine AC_of tauOk 26 0 [4] Try.func46 rfl (by kernel_rfl) rfl rfl rfl rfl rfl ?_
  refine ⟨fun h1 => ?_, fun h1 => ?_⟩
  · exact ⟨none, ⟨retB (by rw [decide_eq_false]; intro e; subst e; exact h1 rfl), trivial⟩, rfl, rfl⟩
  refine ⟨Nat, fun k => ⟨[(0, .d s1 (.sl .int) xs), (1, .d s2 (.sl .int) ys), (12, I xs.length), (13, I (k : Nat))], []⟩, fun k => k ≤ xs.length ∧ ∀ j, j < k → xs.getD j 0 = ys.getD j 0, fun k => xs.length - k, 0, ⟨by omega, fun j hj => by omega⟩,
    ⟨⟨rfl, rfl⟩, ⟨rfl, rfl, rfl, rfl, trivial⟩, trivial⟩, fun k ⟨hk, hy⟩ => ?_⟩
  have hll : xs.length = ys.length := by omega
  refine ⟨fun h1 => ?_, fun h1 => ?_⟩
  · refine ⟨none, by kernel_rfl, k, rfl, by omega, k, rfl, by omega, fun h2 => ?_, fun h2 => ?_⟩
    · exact ⟨none, ⟨retB (by rw [decide_eq_false]; intro e; subst e; exact h2 rfl), trivial⟩, rfl, rfl⟩
    · refine ⟨_, w64_in _ (by omega) (by omega), k + 1, ⟨by omega, fun j hj => ?_⟩, by dsimp only; omega, ⟨rfl, rfl⟩, ⟨rfl, rfl, rfl, rfl, trivial⟩, trivial⟩
      by_cases e : j = k
      · subst e; omega
      · exact hy j (by omega)
  · exact ⟨none, ⟨retB (by rw [decide_eq_true]; exact ext_getD 0 hll (fun j hj => hy j (by omega))), trivial⟩, rfl, rfl⟩
/-- spec.l03Same -/
theorem spec_l03Same (s1 s2 : Bool) (xs ys : List Int) (hl : xs.length ≤ 1048576) (hl2 : ys.length ≤ 1048576) : AC Try.prog 78 [.d s1 (.sl .int) xs, .d s2 (.sl .int) ys] [] [.d true .bool (decide (xs = ys))] [] := by
  refine AC_of tauOk 26 0 [4] Try.func78 rfl (by kernel_rfl) rfl rfl rfl rfl rfl ?_
  refine ⟨fun h1 => ?_, fun h1 => ?_⟩
  · exact ⟨none, ⟨retB (by rw [decide_eq_false]; intro e; subst e; exact h1 rfl), trivial⟩, rfl, rfl⟩
  refine ⟨Nat, fun k => ⟨[(1, .d s2 (.sl .int) ys), (12, .d s1 (.sl .int) xs), (13, I xs.length), (14, I (k : Nat))], []⟩, fun k => k ≤ xs.length ∧ ∀ j, j < k → xs.getD j 0 = ys.getD j 0, fun k => xs.length - k, 0, ⟨by omega, fun j hj => by omega⟩,
    ⟨⟨rfl, rfl⟩, ⟨rfl, rfl, rfl, rfl, trivial⟩, trivial⟩, fun k ⟨hk, hy⟩ => ?_⟩
  have hll : xs.length = ys.length := by omega
  refine ⟨fun h1 => ?_, fun h1 => ?_⟩
  · refine ⟨k, rfl, by omega, k, rfl, by omega, fun h2 => ?_, fun h2 => ?_⟩
    · exact ⟨none, ⟨retB (by rw [decide_eq_false]; intro e; subst e; exact h2 rfl), trivial⟩, rfl, rfl⟩
    · refine ⟨_, w64_in _ (by omega) (by omega), k + 1, ⟨by omega, fun j hj => ?_⟩, by dsimp only; omega, ⟨rfl, rfl⟩, ⟨rfl, rfl, rfl, rfl, trivial⟩, trivial⟩
      by_cases e : j = k
      · subst e; omega
      · exact hy j (by omega)
  · exact ⟨none, ⟨retB (by rw [decide_eq_true]; exact ext_getD 0 hll (fun j hj => hy j (by omega))), trivial⟩, rfl, rfl⟩
/-- slices.Clone of integers, at least one -/
theorem slices_Clone_int (sh : Bool) (xs : List Int) (hl : xs.length ≤ 1048576) (h0 : xs ≠ []) : AC Try.prog 87 [.d sh (.sl .int) xs] [] [.ow 0] [.sl 3 .int xs] := by
  cases sh <;> (
  refine AC_of tauOk 8 0 [2] Try.func87 rfl (by kernel_rfl) rfl rfl rfl rfl rfl ?_
  refine ⟨fun h => (h0 h).elim, fun _ => ?_⟩
  refine ⟨rfl, by decide, true, ?_⟩
  refine ⟨rfl, Nat.zero_le _, rfl, by simp only [List.length_nil]; omega, rfl, ?_⟩
  exact ⟨some 0, ⟨⟨rfl, rfl⟩, trivial⟩, ⟨rfl, rowsE (List.nil_append xs)⟩, rfl⟩)
/-- spec.l03Less of lists of one length -/
theorem spec_l03Less (s1 s2 : Bool) (xs ys : List Int) (hl : xs.length ≤ 1048576) (he : ys.length = xs.length) : AC Try.prog 105 [.d s1 (.sl .int) xs, .d s2 (.sl .int) ys] [] [.d true .bool (decide (cmpI xs ys < 0))] [] := by
  refine AC_of tauOk 27 0 [4] Try.func105 rfl (by kernel_rfl) rfl rfl rfl rfl rfl ?_
  refine ⟨Nat, fun k => ⟨[(1, .d s2 (.sl .int) ys), (7, .d s1 (.sl .int) xs), (8, I xs.length), (9, I (k : Nat))], []⟩, fun k => k ≤ xs.length ∧ cmpI (xs.drop k) (ys.drop k) = cmpI xs ys, fun k => xs.length - k, 0, ⟨Nat.zero_le _, rfl⟩,
    ⟨⟨rfl, rfl⟩, ⟨rfl, rfl, rfl, rfl, trivial⟩, trivial⟩, fun k ⟨hk, hc⟩ => ?_⟩
  refine ⟨fun h1 => ?_, fun h1 => ?_⟩
  · have hx : k < xs.length := by omega
    have hy : k < ys.length := by omega
    have hd := cmpI_drop xs ys k hx hy
    refine ⟨k, rfl, hx, k, rfl, hy, fun h3 => ?_, fun h3 => ?_⟩
    · refine ⟨k, rfl, hy, fun h4 => ?_, fun h4 => ?_⟩
      · exact ⟨none, ⟨retB (by rw [decide_eq_true]; rw [← hc, hd, if_pos h4]; decide), trivial⟩, rfl, rfl⟩
      · exact ⟨none, ⟨retB (by rw [decide_eq_false]; rw [← hc, hd, if_neg h4, if_pos (by omega)]; decide), trivial⟩, rfl, rfl⟩
    · refine ⟨((k + 1 : Nat) : Int), w64_eq (by omega) (by omega) (by omega), k + 1, ⟨hx, ?_⟩, by dsimp only; omega, ⟨rfl, rfl⟩, ⟨rfl, rfl, rfl, rfl, trivial⟩, trivial⟩
      rw [← hc, hd, if_neg (by omega), if_neg (by omega)]
  · obtain rfl : k = xs.length := by omega
    rw [List.drop_length, List.drop_eq_nil_of_le (by omega)] at hc
    exact ⟨none, ⟨retB (by rw [← hc]; rfl), trivial⟩, rfl, rfl⟩
end Go.Proofs.Ytbnonelkdgkpdaa
