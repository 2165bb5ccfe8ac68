/-
  Contracts of small functions on lists of texts: compared, marked, sorted by strings.Compare, runs struck.
-/
import Derived.Test.YtcamhpknmbohnaaWsort
import Derived.Test.YtcamhpknmbohnaaPlP
set_option linter.unusedVariables false
namespace Go.Proofs.Ytcamhpknmbohnaa
open Go Go.RowKit Go.Sort Go.Lib Go.Proofs.Ytcamhpknmbohnaa.Ow
/-- slices.Compact of texts -/
theorem slices_Compact_str (e : Nat) (xs : List Tx) (hl : xs.length ≤ 1048576) : AC Try.prog 133 [.ow 0] [.sl e .str xs] [.x (.sb 0 0 (Lib.compact xs).length)] [.sl e .str (Lib.compact xs ++ List.replicate (xs.length - (Lib.compact xs).length) [])] := by
  refine ⟨⟨_, _, Try.func133, rfl, by kernel_rfl⟩, fun w bs A vs hok hvs => ?_⟩
  obtain ⟨v, r, rfl, ⟨b, e', t, xs', cur, hb, hx, hc, rfl⟩, h3⟩ := hvs
  cases h3
  cases hx
  have hrow := hok.row 0 b _ hb rfl
  obtain ⟨hA, cur2, c1, c2, c3, c4⟩ := hrow
  rw [hc] at c1; cases c1
  have hbl := hok.lt b (List.mem_of_getElem? hb)
  have hbs : bs = [b] := by
    have hlen := hok.len
    match bs, hb, hlen with
    | [x], hb, _ => simp at hb; rw [hb]
  subst hbs
  have hcl : (Lib.compact xs).length ≤ xs.length := by
    have : ∀ (d : Array Tx) m, (Lib.compactUpTo d m).length ≤ m := by
      intro d m
      induction m with
      | zero => simp [Lib.compactUpTo]
      | succ m ih =>
        rw [Lib.compactUpTo_succ]
        split <;> simp <;> omega
    have h := this xs.toArray xs.length
    exact h
  have hyl : (Lib.compact xs ++ List.replicate (xs.length - (Lib.compact xs).length) ([] : Tx)).length = xs.length := by simp; omega
  generalize hys : Lib.compact xs ++ List.replicate (xs.length - (Lib.compact xs).length) ([] : Tx) = ys at *
  refine (Try.slices_Compact_string b 0 cur.size xs w (holds_row hc c4) (by omega) c2).mono ?_
  rintro ex w' ⟨rfl, q, hw⟩
  rw [hys] at hw
  subst hw
  have hold : ∀ k, k < w.heap.size → k ≠ b → (putRow encStr (Go.Sort.ahead w q) b 0 ys.toArray).heap[k]? = w.heap[k]? := by
    intro k hk hkb
    rw [putRow_other _ _ _ _ _ hkb]; rfl
  have hnew : (putRow encStr (Go.Sort.ahead w q) b 0 ys.toArray).heap[b]? = some (.cells (putCells encStr 0 ys.toArray cur) e (0, 0)) := putRow_block encStr (Go.Sort.ahead w q) b _ cur e hc
  have hsz : (putCells encStr 0 ys.toArray cur).size = cur.size := by simp [putCells]
  have hws : w.heap.size ≤ (putRow encStr (Go.Sort.ahead w q) b 0 ys.toArray).heap.size := by simp
  refine ⟨_, [b], A, rfl, ⟨rfl, hok.nodup, fun x hx => ?_, fun x hx => ?_, ?_⟩, ⟨b, e, .str, ys, _, 0, rfl, rfl, hnew, Nat.zero_le _, by omega, by rw [hsz]; rfl, .inr rfl⟩, ⟨rfl, rfl, rfl, hws, ?_, fun x hx => .inl hx, fun x hx => .inl hx⟩, ⟨[], rfl⟩, ?_, fun x hx => hx⟩
  · have := hok.lt x hx; omega
  · have := hok.old x hx; omega
  · intro i b2 r hb2 hr2
    match i, hb2, hr2 with
    | 0, hb2, hr2 =>
      simp at hb2 hr2
      subst hb2; subst hr2
      refine ⟨hA, _, hnew, by rw [hsz]; omega, by rw [hsz]; exact c3, fun j hj => ?_⟩
      refine ⟨encStr ys[j], ?_, rfl⟩
      rw [putCells_get _ _ _ _ (by simpa using hj) (by simp; omega)]
      simp [hj]
    | i + 1, hb2, _ => simp at hb2
  · intro k hk hkb
    exact hold k hk (by simpa using hkb)
  · intro x hx cur2 e2 hc2
    simp at hx; subst hx
    rw [hc] at hc2; cases hc2
    exact ⟨_, hnew, hsz⟩
theorem swoT : SWO (ltOf (fun x y : Tx => Lib.compareBytes x y)) where
  irrefl := fun x => decide_eq_false fun h => ltS_irrefl x ((cmpB_lt x x).1 h)
  trans := fun x y z h1 h2 => decide_eq_true ((cmpB_lt x z).2 (ltS_trans ((cmpB_lt x y).1 (of_decide_eq_true h1)) ((cmpB_lt y z).1 (of_decide_eq_true h2))))
  ntrans := fun x y z h1 h2 => by
    have h1 : ¬ x < y := fun h => of_decide_eq_false h1 ((cmpB_lt x y).2 h)
    have h2 : ¬ y < z := fun h => of_decide_eq_false h2 ((cmpB_lt y z).2 h)
    refine decide_eq_false fun h3 => ?_
    have h3 := (cmpB_lt x z).1 h3
    by_cases h4 : y < x
    · exact h2 (ltS_trans h4 h3)
    · rw [ltS_tri h1 h4] at h3; exact h2 h3
theorem cmpLaysT (w : World) (b n : Nat) : CmpLays1 Try.prog 132 #[] encStr (fun x y : Tx => Lib.compareBytes x y) b 0 n w := by
  intro m os dk hdk x y
  have key := Try.strings_Compare ⟨x.toArray⟩ ⟨y.toArray⟩ (sortWorld encStr w b 0 m dk os)
  simp only at key
  refine key.mono ?_
  rintro e w' ⟨he, hw⟩
  exact ⟨he, 0, #[], by rw [hw, grow_empty]; rfl⟩
theorem run_cmpT (args : Array Value) (w : World) : (callFunc 132 args).run Try.prog w = .ok (.enter 132 args) w :=
  run_callFunc_enter ⟨_, _, Try.func132, rfl, by kernel_rfl⟩ args w
/-- slices.SortFunc over a row of texts, by strings.Compare -/
theorem slices_SortFunc_str (e : Nat) (xs ys : List Tx) (hl : xs.length ≤ 1048576) (hp : ys.Perm xs) (hs : ys.Pairwise fun x y => ¬ y < x) :
    AC Try.prog 131 [.ow 0, .fn 132 []] [.sl e .str xs] [] [.sl e .str ys] := by
  refine ⟨⟨_, _, Try.func131, rfl, by kernel_rfl⟩, fun w bs A vs hok hvs => ?_⟩
  obtain ⟨v, r, rfl, ⟨b, e', t, xs', cur, hb, hx, hc, rfl⟩, ⟨v2, r2, rfl, ⟨vs2, rfl, hvs2⟩, h3⟩⟩ := hvs
  cases h3
  cases hvs2
  cases hx
  have hrow := hok.row 0 b _ hb rfl
  obtain ⟨hA, cur2, c1, c2, c3, c4⟩ := hrow
  rw [hc] at c1; cases c1
  have hbl := hok.lt b (List.mem_of_getElem? hb)
  have hbs : bs = [b] := by
    have hlen := hok.len
    match bs, hb, hlen with
    | [x], hb, _ => simp at hb; rw [hb]
  subst hbs
  have key := Try.slices_SortFunc_f131 encStr (fun x => rfl) (fun x y : Tx => Lib.compareBytes x y) swoT 132 #[] b 0 cur.size xs.toArray w run_cmpT (cmpLaysT w b _) (holds_row hc c4) hbl (by simp; omega)
  rw [List.size_toArray] at key
  refine key.mono ?_
  rintro ex w' ⟨rfl, d', n, os, hperm, hsort, rfl⟩
  have hsz' : d'.size = xs.length := by have := hperm.1; simpa using this
  have hys : d'.toList = ys := by
    have hpp : d'.toList.Perm xs := by
      have h1 := hperm.2.2
      have e1 : d'.extract 0 xs.length = d' := by rw [← hsz']; exact Array.extract_size
      have e2 : xs.toArray.extract 0 xs.length = xs.toArray := by
        have := Array.extract_size (xs := xs.toArray)
        rwa [List.size_toArray] at this
      rw [e1, e2] at h1
      simpa using h1
    refine List.Perm.eq_of_pairwise (le := fun x y => ¬ y < x) (fun a b _ _ h1 h2 => ltS_tri h2 h1) ?_ hs (hpp.trans hp.symm)
    rw [List.pairwise_iff_getElem]
    intro i j hi hj hij
    have hi' : i < d'.size := by simpa using hi
    have hj' : j < d'.size := by simpa using hj
    have := hsort i j (Nat.zero_le _) hij (by omega)
    rw [getElem!_pos d' j hj', getElem!_pos d' i hi'] at this
    have this := of_decide_eq_false this
    exact fun h => this ((cmpB_lt _ _).2 (by simpa using h))
  have hyl : ys.length = xs.length := hp.length_eq
  have hold : ∀ k, k < w.heap.size → k ≠ b → (sortWorld encStr w b 0 n d' os).heap[k]? = w.heap[k]? := by
    intro k hk hkb
    unfold sortWorld
    rw [heap_grow_old _ _ (by simpa using hk), putRow_other _ _ _ _ _ hkb]; rfl
  have hnew : (sortWorld encStr w b 0 n d' os).heap[b]? = some (.cells (putCells encStr 0 d' cur) e (0, 0)) := by
    unfold sortWorld
    rw [heap_grow_old _ _ (by simpa using hbl)]
    exact putRow_block encStr (Go.Sort.ahead w n) b _ cur e hc
  have hsz : (putCells encStr 0 d' cur).size = cur.size := by simp [putCells]
  have hws : w.heap.size ≤ (sortWorld encStr w b 0 n d' os).heap.size := by simp [sortWorld]
  refine ⟨.tuple #[], [b], A, rfl, ⟨rfl, hok.nodup, fun x hx => ?_, fun x hx => ?_, ?_⟩, ⟨[], rfl, rfl⟩, ⟨rfl, rfl, rfl, hws, ?_, fun x hx => .inl hx, fun x hx => .inl hx⟩, ⟨[], rfl⟩, ?_, fun x hx => hx⟩
  · have := hok.lt x hx; omega
  · have := hok.old x hx; omega
  · intro i b2 r hb2 hr2
    match i, hb2, hr2 with
    | 0, hb2, hr2 =>
      simp at hb2 hr2
      subst hb2; subst hr2
      refine ⟨hA, _, hnew, by rw [hsz, hyl]; exact c2, by rw [hsz]; exact c3, fun j hj => ?_⟩
      have hj' : j < d'.size := by omega
      refine ⟨encStr d'[j], ?_, ?_⟩
      · rw [putCells_get _ _ _ _ hj' (by omega), getElem!_pos d' j hj']
      · have e3 : ys[j] = d'[j] := by simp [← hys]
        rw [e3]; rfl
    | i + 1, hb2, _ => simp at hb2
  · intro k hk hkb
    exact hold k hk (by simpa using hkb)
  · intro x hx cur2 e2 hc2
    simp at hx; subst hx
    rw [hc] at hc2; cases hc2
    exact ⟨_, hnew, hsz⟩
end Go.Proofs.Ytcamhpknmbohnaa
