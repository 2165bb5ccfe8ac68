/-
  Contracts of the library's sorting and turning of lists of texts, over a row that the caller owns.
-/
import Derived.Test.YtbnonelkdgkpdaaPls
import Derived.Test.YtbnonelkdgkpdaaTy
import Derived.Test.YtbnonelkdgkpdaaShelf
set_option linter.unusedVariables false
namespace Go.Proofs.Ytbnonelkdgkpdaa
open Go Go.RowKit Go.Sort Go.Proofs.Ytbnonelkdgkpdaa.Ow

theorem putRow_block {α : Type} [Inhabited α] (enc : α → Value) (w : World) (b : Nat) (d : Array α) (cur : Array Value) (e : TypeId) (h : w.heap[b]? = some (.cells cur e (0, 0))) :
    (putRow enc w b 0 d).heap[b]? = some (.cells (putCells enc 0 d cur) e (0, 0)) := by
  simp only [putRow, mapBlock, Array.getElem?_modify, if_pos, h, Option.map_some, onCells]
theorem putRow_other {α : Type} [Inhabited α] (enc : α → Value) (w : World) (b k : Nat) (d : Array α) (h : k ≠ b) : (putRow enc w b 0 d).heap[k]? = w.heap[k]? := by
  simp only [putRow, mapBlock, Array.getElem?_modify, if_neg (Ne.symm h)]
theorem putCells_get {α : Type} [Inhabited α] (enc : α → Value) (d : Array α) (cur : Array Value) (j : Nat) (h : j < d.size) (h2 : d.size ≤ cur.size) : (putCells enc 0 d cur)[j]? = some (enc d[j]!) := by
  simp only [putCells, Array.getElem?_mapIdx]
  rw [Array.getElem?_eq_getElem (by omega)]
  simp [h]
theorem frozen_row (w : World) (b j : Nat) (cur : Array Value) (e : TypeId) (h : w.heap[b]? = some (.cells cur e (0, 0))) : w.frozen? ⟨b, j, none⟩ = false := by
  simp [World.frozen?, h]
theorem holds_row {w : World} {b e : Nat} {cur : Array Value} {xs : List (List UInt8)} {A : Nat → Prop} (h1 : w.heap[b]? = some (.cells cur e (0, 0))) (h2 : ∀ (j : Nat) (h : j < xs.length), ∃ cv, cur[j]? = some cv ∧ Rd w A .str xs[j] cv) : Holds encStr w b 0 xs.toArray := by
  intro j hj
  have hj' : j < xs.length := by simpa using hj
  obtain ⟨cv, g1, g2⟩ := h2 j hj'
  refine ⟨?_, frozen_row w b _ cur e h1⟩
  rw [Nat.zero_add, cell_of_row w b j cur e (0, 0) h1, g1]
  cases g2
  simp [hj', encStr]
/-- a callee that puts another list of texts of the same length into the row that was handed over -/
theorem AC_row {f : FuncId} {e : Nat} {xs ys : List (List UInt8)} (hl : ys.length = xs.length) (hr : Runs Try.prog f)
    (h : ∀ (b cap : Nat) (w : World), Holds encStr w b 0 xs.toArray → b < w.heap.size → Calls Try.prog f #[.slice (some ⟨b, 0, none⟩) xs.length cap] w fun ex w' => ex = .returned (.tuple #[]) ∧ ∃ n os, w' = grow (putRow encStr (Go.Sort.ahead w n) b 0 ys.toArray) os) :
    AC Try.prog f [.ow 0] [.sl e .str xs] [] [.sl e .str ys] := by
  refine ⟨hr, fun w bs A vs hok hvs => ?_⟩
  obtain ⟨v, r, rfl, ⟨b, e', t, xs', cur, hb, hx, hc, rfl⟩, h3⟩ := hvs
  cases h3
  cases hx
  have hrow := hok.row 0 b _ hb rfl
  obtain ⟨hA, cur2, c1, c2, c3, c4⟩ := hrow
  rw [hc] at c1; cases c1
  have hbl := hok.lt b (List.mem_of_getElem? hb)
  have hbs : bs = [b] := by
    have hlen := hok.len
    match bs, hb, hlen with
    | [x], hb, _ => simp at hb; rw [hb]
  subst hbs
  refine (h b cur.size w (holds_row hc c4) hbl).mono ?_
  rintro ex w' ⟨rfl, n, os, rfl⟩
  have hold : ∀ k, k < w.heap.size → k ≠ b → (grow (putRow encStr (Go.Sort.ahead w n) b 0 ys.toArray) os).heap[k]? = w.heap[k]? := by
    intro k hk hkb
    rw [heap_grow_old _ _ (by simpa using hk), putRow_other _ _ _ _ _ hkb]; rfl
  have hnew : (grow (putRow encStr (Go.Sort.ahead w n) b 0 ys.toArray) os).heap[b]? = some (.cells (putCells encStr 0 ys.toArray cur) e (0, 0)) := by
    rw [heap_grow_old _ _ (by simpa using hbl)]
    exact putRow_block encStr (Go.Sort.ahead w n) b _ cur e hc
  have hsz : (putCells encStr 0 ys.toArray cur).size = cur.size := by simp [putCells]
  refine ⟨.tuple #[], [b], A, rfl, ⟨rfl, hok.nodup, fun x hx => ?_, fun x hx => ?_, ?_⟩, ⟨[], rfl, rfl⟩, ⟨rfl, rfl, rfl, ?_, ?_, fun x hx => .inl hx, fun x hx => .inl hx⟩, ⟨[], rfl⟩, ?_, fun x hx => hx⟩
  · have := hok.lt x hx; simp; omega
  · have := hok.old x hx; simp; omega
  · intro i b2 r hb2 hr2
    match i, hb2, hr2 with
    | 0, hb2, hr2 =>
      simp at hb2 hr2
      subst hb2; subst hr2
      refine ⟨hA, _, hnew, by rw [hsz, hl]; exact c2, by rw [hsz]; exact c3, fun j hj => ?_, trivial⟩
      refine ⟨encStr ys[j], ?_, rfl⟩
      rw [putCells_get _ _ _ _ (by simpa using hj) (by simp; omega)]
      simp [hj]
    | i + 1, hb2, _ => simp at hb2
  · simp
  · intro k hk hkb
    exact hold k hk (by simpa using hkb)
  · intro x hx cur2 e2 hc2
    simp at hx; subst hx
    rw [hc] at hc2; cases hc2
    exact ⟨_, hnew, hsz⟩
end Go.Proofs.Ytbnonelkdgkpdaa
