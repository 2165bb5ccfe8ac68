/-
  Part 8 of the texts that the claim rests on: Wrln, Wcon, Wcns.
  No condition beyond the given program.
-/
import Derived.Test.YtacjiemkbhhhoaaGreatDoorGg
set_option linter.unusedVariables false
set_option linter.unusedSimpArgs false
set_option linter.unusedVariables false
namespace Go.Proofs.YtacjiemkbhhhoaaGreatDoor
open Go Go.RowKit Go.Proofs.YtacjiemkbhhhoaaGreatDoor.Ow
/-- a new row of lists that is handed back with two bools, as data -/
theorem AC.frzw3 {P : Program} {f : FuncId} {args : List AV} {E : TypeId} {e : Nat} {d : Bool} {G : List (List Int)} {b1 b2 : Bool} (h : AC P f args [] [.ow 0, .d true .bool b1, .d true .bool b2] [.sl E (.sw e d) G]) :
    AC P f args [] [.d true (.sl (.sl .int)) G, .d true .bool b1, .d true .bool b2] [] := by
  refine ⟨h.1, fun w bs A vs hr hv => (h.2 w bs A vs hr hv).mono ?_⟩
  rintro ex w' ⟨rv, bs', A', rfl, hrok, ⟨vs', hvs, v1, r1, rfl, hx, hrest⟩, hstep, ⟨new, rfl⟩, hstay, hup⟩
  have hbs : bs = [] := List.eq_nil_of_length_eq_zero (by rw [hr.len]; rfl)
  subst hbs
  obtain ⟨b, e2, t2, xs2, cur, h1, h2, h3, h4⟩ := hx
  cases h2
  obtain ⟨hA, cur2, c1, c2, c3, c4⟩ := hrok.row 0 b _ h1 rfl
  rw [h3] at c1; cases c1
  have hb := List.mem_of_getElem? h1
  have hnew : w.heap.size ≤ b := by
    rcases hstep.sbs b hb with h | h
    · simp at h
    · exact h
  refine ⟨rv, [], fun x => A' x ∨ x = b, rfl, ⟨rfl, List.nodup_nil, fun b hb => by simp at hb, fun x hx => ?_, fun i b r hb => by simp at hb⟩, ⟨_, hvs, v1, r1, rfl, ?_, hrest⟩, ⟨hstep.os, hstep.tape, hstep.output, hstep.size, fun k hk _ => hstep.block k hk (by simp), fun b hb => by simp at hb, fun x hx => ?_⟩, ⟨[], rfl⟩, fun b hb => by simp at hb, fun x hx => .inl (hup x hx)⟩
  · rcases hx with hx | hx
    · exact hrok.old x hx
    · rw [hx]; exact hrok.lt b hb
  · refine ⟨some ⟨b, 0, none⟩, cur.size, h4, c2, (fun hh => by simp at hh), .inr ⟨b, 0, rfl, .inr rfl, fun j hj => ?_⟩⟩
    obtain ⟨cv, k1, k2⟩ := c4 j hj
    exact ⟨cv, by rw [Nat.zero_add, cell_of_row w' b j cur _ (0, 0) h3]; exact k1, Rd.ext (fun b hb _ => ⟨rfl, .inl hb⟩) (.sl .int) _ _ (RdW.rd k2)⟩
  · rcases hx with hx | hx
    · rcases hstep.sA x hx with h | h | h
      · exact .inl h
      · exact .inr (.inl h)
      · simp at h
    · exact .inr (.inl (by rw [hx]; exact hnew))
/-- a new row of lists that is handed back, as data -/
theorem AC.frzwd {P : Program} {f : FuncId} {args : List AV} {E : TypeId} {e : Nat} {d : Bool} {G : List (List Int)} (h : AC P f args [] [.ow 0] [.sl E (.sw e d) G]) :
    AC P f args [] [.d true (.sl (.sl .int)) G] [] := by
  refine ⟨h.1, fun w bs A vs hr hv => (h.2 w bs A vs hr hv).mono ?_⟩
  rintro ex w' ⟨rv, bs', A', rfl, hrok, hx, hstep, ⟨new, rfl⟩, hstay, hup⟩
  have hbs : bs = [] := List.eq_nil_of_length_eq_zero (by rw [hr.len]; rfl)
  subst hbs
  obtain ⟨b, e2, t2, xs2, cur, h1, h2, h3, h4⟩ := hx
  cases h2
  obtain ⟨hA, cur2, c1, c2, c3, c4⟩ := hrok.row 0 b _ h1 rfl
  rw [h3] at c1; cases c1
  have hb := List.mem_of_getElem? h1
  have hnew : w.heap.size ≤ b := by
    rcases hstep.sbs b hb with h | h
    · simp at h
    · exact h
  refine ⟨rv, [], fun x => A' x ∨ x = b, rfl, ⟨rfl, List.nodup_nil, fun b hb => by simp at hb, fun x hx => ?_, fun i b r hb => by simp at hb⟩, ?_, ⟨hstep.os, hstep.tape, hstep.output, hstep.size, fun k hk _ => hstep.block k hk (by simp), fun b hb => by simp at hb, fun x hx => ?_⟩, ⟨[], rfl⟩, fun b hb => by simp at hb, fun x hx => .inl (hup x hx)⟩
  · rcases hx with hx | hx
    · exact hrok.old x hx
    · rw [hx]; exact hrok.lt b hb
  · refine ⟨some ⟨b, 0, none⟩, cur.size, h4, c2, (fun hh => by simp at hh), .inr ⟨b, 0, rfl, .inr rfl, fun j hj => ?_⟩⟩
    obtain ⟨cv, k1, k2⟩ := c4 j hj
    exact ⟨cv, by rw [Nat.zero_add, cell_of_row w' b j cur _ (0, 0) h3]; exact k1, Rd.ext (fun b hb _ => ⟨rfl, .inl hb⟩) (.sl .int) _ _ (RdW.rd k2)⟩
  · rcases hx with hx | hx
    · rcases hstep.sA x hx with h | h | h
      · exact .inl h
      · exact .inr (.inl h)
      · simp at h
    · exact .inr (.inl (by rw [hx]; exact hnew))
/-- a line that says nothing -/
def rlB (line : List UInt8) : Bool := decide (line = []) || decide (((line.getD 0 0).toNat : Int) = 35)
def rlW (line : List UInt8) : List UInt8 := (wrdG (byB [32]) line).getD 0 []
def rlA (line : List UInt8) : List (List UInt8) := (wrdG (byB [32]) line).drop 1
def ordS : List UInt8 := [111, 114, 100, 101, 114, 32]
/-- the output of a line that asks for no group -/
def tlT (g : List (List Int)) (w : List UInt8) (args : List (List UInt8)) : List UInt8 :=
  if (args.length : Int) = 0 then plnS g w
  else if (args.length : Int) = 1 ∧ wlnS g w (args.getD 0 []) ≠ unkS then wlnS g w (args.getD 0 [])
  else if args.all prsB = true then nlnS g w (args.map prsV) else unkS
/-- the group behind a line, and its output -/
def rlG (g : List (List Int)) (line : List UInt8) : List (List Int) := if rlB line = true then g else match ngO (rlW line) (rlA line) with | some (some G) => G | _ => g
def rlT (g : List (List Int)) (line : List UInt8) : List UInt8 := if rlB line = true then [] else match ngO (rlW line) (rlA line) with | some (some G) => ordS ++ fmtI (G.length : Nat) | some none => nonS | none => tlT g (rlW line) (rlA line)
theorem sol_gok (k : Nat) (h1 : 1 ≤ k) (h4 : k < 5) (mir : Bool) : gokB (solL k mir) = true := by
  obtain ⟨c1, c2, c3⟩ := sol_chk k h4 h1 mir
  have hn : 1 ≤ solN k ∧ solN k < 11 := by unfold solN; split <;> decide
  exact gG_gok hn.1 (by omega) (genP_of c1 c2) c3
theorem ng_gok {w : List UInt8} {args : List (List UInt8)} {G : List (List Int)} (h : ngO w args = some (some G)) : gokB G = true := by
  unfold ngO at h
  split at h
  · split at h
    · rename_i hp
      have h3 := Option.some.inj h
      unfold genO at h3
      split at h3
      · rename_i hl
        have p1 := prp_perm hp.1
        have p2 := prp_perm hp.2
        have b1 := ((permB_iff _).1 p1).1
        exact grpO_gok (by omega) (by omega) (gen_q (gens2 ⟨p1, rfl⟩ ⟨p2, hl.symm⟩)) h3
      · cases h3
    · cases h
  · split at h
    · split at h
      · have h3 := Option.some.inj h
        unfold cycO at h3
        split at h3
        · cases h3
          obtain ⟨⟨c1, c2⟩, c3, c4⟩ := grp_chk (prsV (args.getD 0 [])).toNat (by omega) (by omega)
          exact gG_gok (by omega) (by omega) (gens1 c1) c3
        · cases h3
      · split at h
        · have h3 := Option.some.inj h
          unfold dihO at h3
          split at h3
          · cases h3
            obtain ⟨⟨c1, c2⟩, c3, c4⟩ := grp_chk (prsV (args.getD 0 [])).toNat (by omega) (by omega)
            exact gG_gok (by omega) (by omega) (gens2 c1 c2) c4
          · cases h3
        · split at h
          · have h3 := Option.some.inj h
            unfold symO at h3
            split at h3
            · cases h3
              obtain ⟨o, ho, _⟩ := (sym_ok (prsV (args.getD 0 [])).toNat (by omega) (by omega)).i
              exact gG_gok (by omega) (by omega) (gens_ok _ (by omega) (by omega)) (by rw [ho]; rfl)
            · cases h3
          · split at h
            · have h3 := Option.some.inj h
              unfold solO at h3
              split at h3
              · cases h3
                exact sol_gok _ (by omega) (by omega) _
              · cases h3
            · cases h
    · cases h
theorem rlG_gok {g : List (List Int)} (hB : gokB g = true) (line : List UInt8) : gokB (rlG g line) = true := by
  unfold rlG
  split
  · exact hB
  · split
    · rename_i h; exact ng_gok h
    · exact hB
theorem wrd_bd (line : List UInt8) (hl : line.length ≤ 1048575) : (∀ i, i < (rlA line).length → ((rlA line).getD i []).length ≤ 1048575) ∧ (rlA line).length ≤ 1048576 := by
  have h1 := (wrdG_pos (byB [32]) line).2
  have h2 := wrdG_el (byB [32]) line
  unfold rlA
  refine ⟨fun i hi => ?_, by rw [List.length_drop]; omega⟩
  have := h2 (((wrdG (byB [32]) line).drop 1).getD i []) (List.mem_of_mem_drop (by rw [getD_get _ _ _ hi]; exact List.getElem_mem _))
  omega
theorem rlT_len {g : List (List Int)} (hB : gokB g = true) (line : List UInt8) : (rlT g line).length ≤ 140737488355328 := by
  have hgl := (perm_bd hB).1
  unfold rlT
  split
  · decide
  · split
    · rename_i G h
      have := (perm_bd (ng_gok h)).1
      have := fI_len (G.length : Int) (by omega)
      unfold ordS
      simp only [List.length_append, List.length_cons, List.length_nil]; omega
    · decide
    · unfold tlT
      split
      · exact plnS_len hB _
      split
      · exact wlnS_len g _ _
      split
      · exact nlnS_len g _ _ (by omega)
      · decide
theorem impl_newGroup_d (s2 : Bool) (w : List UInt8) (args : List (List UInt8)) (hl : args.length ≤ 1048576) (hw : ∀ i, i < args.length → (args.getD i []).length ≤ 1048575) (r : List AV)
    (h0 : ngO w args = none → r = [.nil, .d true .bool false, .d true .bool false]) (h1 : ngO w args = some none → r = [.nil, .d true .bool true, .d true .bool false])
    (h2 : ∀ G, ngO w args = some (some G) → r = [.d true (.sl (.sl .int)) G, .d true .bool true, .d true .bool true]) :
    AC Tryz.prog 30 [.arr .mix [.str w, .int (args.length : Nat)], .d s2 (.sl .str) args] [] r [] := by
  have h := impl_newGroup s2 w args hl hw
  cases hO : ngO w args with
  | none => rw [h0 hO]; exact h _ _ (fun _ => ⟨rfl, rfl⟩) (fun e => by rw [hO] at e; cases e) (fun G e => by rw [hO] at e; cases e)
  | some o =>
    cases o with
    | none => rw [h1 hO]; exact h _ _ (fun e => by rw [hO] at e; cases e) (fun _ => ⟨rfl, rfl⟩) (fun G e => by rw [hO] at e; cases e)
    | some G => rw [h2 G hO]; exact AC.frzw3 (h _ _ (fun e => by rw [hO] at e; cases e) (fun e => by rw [hO] at e; cases e) (fun G2 e => by rw [hO] at e; cases e; exact ⟨rfl, rfl⟩))
/-- impl.RunLine at a group -/
theorem impl_RunLine (sh : Bool) (g : List (List Int)) (line : List UInt8) (hB : gokB g = true) (hll : line.length ≤ 1048575) :
    AC Tryz.prog 13 [.d sh (.sl (.sl .int)) g, .d true .str line] [] [.d true (.sl (.sl .int)) (rlG g line), .d true .str (rlT g line)] [] := by
  obtain ⟨⟨hg1, hg2⟩, hgp⟩ := perm_bd hB
  have hx : ∀ i, i < g.length → (g.getD i []).length ≤ 1048576 := fun i hi => by have := (hgp i hi).1.1; omega
  have hgl : g.length ≤ 1048576 := by omega
  have q0 : 0 < 2 := by decide
  have q1 : 2 ≤ 1000 := by decide
  have hS := strings_Split line 32 (by omega)
  have hP := wrdG_pos (byB [32]) line
  obtain ⟨ha1, ha2⟩ := wrd_bd line hll
  have hN := impl_newGroup_d true (rlW line) (rlA line) ha2 ha1
  have hA : rlA line = (wrdG (byB [32]) line).drop 1 := rfl
  have hW : rlW line = (wrdG (byB [32]) line).getD 0 [] := rfl
  have hwl := impl_wordLine sh g (rlW line) ((rlA line).getD 0 []) ((rlA line).length : Nat) hgl hx
  have hml : ((rlA line).map prsV).length = (rlA line).length := List.length_map ..
  have hnl := impl_numberLine sh true g (rlW line) ((rlA line).map prsV) hgl hx
  rw [hml] at hnl
  have hin := impl_ints_both true (rlA line) ha2 (fun i hi => by have := ha1 i hi; omega)
  have hpl := impl_plainLine sh g (rlW line) hB
  unfold rlG rlT
  have hng := fun G => ng_gok (w := rlW line) (args := rlA line) (G := G)
  unfold tlT
  generalize rlA line = args at *
  generalize rlW line = w at *
  generalize wrdG (byB [32]) line = ws at *
  refine AC_of tauOk 86 0 [4, 5] Tryz.func13 rfl (by kernel_rfl) rfl rfl rfl rfl rfl ?_
  refine ⟨[], true, _, _, impl_copyLists_d sh g hgl hx, List.nodup_nil, rfl, rfl, trivial, fun h1 => ?_, fun h1 => ?_⟩
  · rw [if_pos (show rlB line = true by unfold rlB; rw [decide_eq_true h1]; rfl), if_pos (show rlB line = true by unfold rlB; rw [decide_eq_true h1]; rfl)]
    exact ⟨none, ⟨rfl, rfl, trivial⟩, rfl, rfl⟩
  have h0 : 0 < line.length := List.length_pos_iff.2 h1
  refine ⟨0, rfl, h0, fun h2 => ?_, fun h2 => ?_⟩
  · rw [if_pos (show rlB line = true by unfold rlB; rw [decide_eq_true h2, Bool.or_true]), if_pos (show rlB line = true by unfold rlB; rw [decide_eq_true h2, Bool.or_true])]
    exact ⟨none, ⟨rfl, rfl, trivial⟩, rfl, rfl⟩
  have hb : ¬ rlB line = true := by unfold rlB; rw [decide_eq_false h1, decide_eq_false h2]; decide
  rw [if_neg hb, if_neg hb]
  refine ⟨[], true, _, _, hS, List.nodup_nil, rfl, rfl, trivial, 1, rfl, by omega, Nat.le_refl _, ?_⟩
  rw [List.take_length, ← hA]
  refine ⟨0, rfl, by omega, by decide, by decide, rfl, rfl, rfl, rfl, rfl, ?_⟩
  rw [← hW]
  cases hO : ngO w args with
  | some o =>
    cases o with
    | none =>
      refine ⟨[], false, _, _, hN [.nil, .d true .bool true, .d true .bool false] (fun e => by rw [hO] at e; cases e) (fun _ => rfl) (fun G e => by rw [hO] at e; cases e), List.nodup_nil, rfl, rfl, trivial, fun _ => ⟨nofun, fun _ => ?_⟩, nofun⟩
      exact ⟨none, ⟨rfl, rfl, trivial⟩, rfl, rfl⟩
    | some G =>
      have hGl := (perm_bd (hng G hO)).1.2
      refine ⟨[], false, _, _, hN [.d true (.sl (.sl .int)) G, .d true .bool true, .d true .bool true] (fun e => by rw [hO] at e; cases e) (fun e => by rw [hO] at e; cases e) (fun G2 e => by rw [hO] at e; cases e; rfl), List.nodup_nil, rfl, rfl, trivial, fun _ => ⟨fun _ => ?_, nofun⟩, nofun⟩
      have hfl := fI_len (G.length : Int) (by omega)
      refine ⟨[], false, _, _, impl_FormatInt _ (by omega) (by omega), List.nodup_nil, rfl, rfl, trivial, by simp only [List.length_cons, List.length_nil]; omega, ?_⟩
      exact ⟨none, ⟨rfl, rfl, trivial⟩, rfl, rfl⟩
  | none =>
    dsimp only
    refine ⟨[], false, _, _, hN [.nil, .d true .bool false, .d true .bool false] (fun _ => rfl) (fun e => by rw [hO] at e; cases e) (fun G e => by rw [hO] at e; cases e), List.nodup_nil, rfl, rfl, trivial, nofun, fun _ => ⟨nofun, fun _ => ?_⟩⟩
    refine ⟨fun h3 => ?_, fun h3 => ?_⟩
    · rw [if_pos h3]
      refine ⟨q0, q0, [], false, _, _, hpl, List.nodup_nil, rfl, rfl, trivial, ?_⟩
      exact ⟨none, ⟨rfl, rfl, trivial⟩, rfl, rfl⟩
    rw [if_neg h3]
    refine ⟨fun h4 => ?_, fun h4 => ?_⟩
    · have i0 : 0 < args.length := by omega
      refine ⟨some 2000, [0, 2, 3, 4], [1, 5, 6], by kernel_rfl, rfl, ?_⟩
      refine ⟨0, rfl, i0, rfl, [], false, _, _, hwl (by have := ha1 0 i0; omega), List.nodup_nil, rfl, rfl, trivial, fun h5 => ?_, fun h5 => ?_⟩
      · rw [if_pos ⟨h4, h5⟩]
        exact ⟨none, ⟨rfl, rfl, trivial⟩, rfl, rfl⟩
      rw [if_neg (fun e => h5 e.2)]
      cases hp : args.all prsB
      · refine ⟨[], false, _, _, hin _ _ (fun _ => ⟨rfl, rfl⟩) (fun h => by rw [hp] at h; cases h), List.nodup_nil, rfl, rfl, trivial, nofun, fun _ => ?_⟩
        exact ⟨none, ⟨rfl, rfl, trivial⟩, rfl, rfl⟩
      · refine ⟨[], true, _, _, hin _ _ (fun h => by rw [hp] at h; cases h) (fun _ => ⟨rfl, rfl⟩), List.nodup_nil, rfl, rfl, trivial, fun _ => ?_, nofun⟩
        refine ⟨rfl, [], false, _, _, hnl, List.nodup_nil, rfl, rfl, trivial, ?_⟩
        exact ⟨none, ⟨rfl, rfl, trivial⟩, rfl, rfl⟩
    · rw [if_neg (fun e => h4 e.1)]
      cases hp : args.all prsB
      · refine ⟨[], false, _, _, hin _ _ (fun _ => ⟨rfl, rfl⟩) (fun h => by rw [hp] at h; cases h), List.nodup_nil, rfl, rfl, trivial, nofun, fun _ => ?_⟩
        exact ⟨none, ⟨rfl, rfl, trivial⟩, rfl, rfl⟩
      · refine ⟨[], true, _, _, hin _ _ (fun h => by rw [hp] at h; cases h) (fun _ => ⟨rfl, rfl⟩), List.nodup_nil, rfl, rfl, trivial, fun _ => ?_, nofun⟩
        refine ⟨rfl, [], false, _, _, hnl, List.nodup_nil, rfl, rfl, trivial, ?_⟩
        exact ⟨none, ⟨rfl, rfl, trivial⟩, rfl, rfl⟩
/-- a session's group and output behind its first k lines -/
def rsF (ls : List (List UInt8)) : Nat → List (List Int) × List UInt8
  | 0 => (gG 4 [turnL 4], [])
  | k + 1 => (rlG (rsF ls k).1 (ls.getD k []), if rlT (rsF ls k).1 (ls.getD k []) ≠ [] then (rsF ls k).2 ++ (rlT (rsF ls k).1 (ls.getD k []) ++ [10]) else (rsF ls k).2)
theorem rsF_gok (ls : List (List UInt8)) : ∀ k, gokB (rsF ls k).1 = true
  | 0 => by
    obtain ⟨⟨c1, c2⟩, c3, c4⟩ := grp_chk 4 (by decide) (by decide)
    exact gG_gok (by decide) (by decide) (gens1 c1) c3
  | k + 1 => rlG_gok (rsF_gok ls k) _
theorem rsF_len (ls : List (List UInt8)) (B : Nat) (hB : 140737488355328 ≤ B) : ∀ k, (rsF ls k).2.length ≤ k * (B + 1)
  | 0 => Nat.zero_le _
  | k + 1 => by
    have ih := rsF_len ls B hB k
    have h := Nat.le_trans (rlT_len (rsF_gok ls k) (ls.getD k [])) hB
    rw [Nat.add_mul, Nat.one_mul, rsF]
    dsimp only
    split
    · simp only [List.length_append, List.length_cons, List.length_nil]; omega
    · omega
def rsT (t : List UInt8) : List UInt8 := if (lnsL t).length > 40 then [] else (rsF (lnsL t) (lnsL t).length).2
def rsN (t : List UInt8) : Int := if (lnsL t).length > 40 then -1 else ((lnsL t).length : Nat)
theorem lns_bd (t : List UInt8) : (lnsL t).length ≤ t.length + 1 ∧ ∀ i, i < (lnsL t).length → ((lnsL t).getD i []).length ≤ t.length := by
  have h1 := (wrdG_pos (byB [10]) t).2
  have h2 := wrdG_el (byB [10]) t
  have hs : ∀ x ∈ lnsL t, x ∈ wrdG (byB [10]) t := fun x hx => by
    unfold lnsL at hx
    split at hx
    · exact List.mem_of_mem_take hx
    · exact hx
  refine ⟨?_, fun i hi => h2 _ (hs _ (by rw [getD_get _ _ _ hi]; exact List.getElem_mem _))⟩
  unfold lnsL
  split
  · rw [List.length_take]; omega
  · exact h1
theorem impl_NewConsole_d : AC Tryz.prog 12 [] [] [.d true (.sl (.sl .int)) (gG 4 [turnL 4])] [] := by
  refine AC.frzwd (E := 29) (e := 3) (d := true) ?_
  refine AC_of tauOk 8 0 [0] Tryz.func12 rfl (by kernel_rfl) rfl rfl rfl rfl rfl ?_
  refine ⟨[], false, _, _, impl_CyclicGroup_s 4 (by decide) (by decide), List.nodup_nil, rfl, rfl, trivial, fun _ => ?_, nofun⟩
  exact ⟨some 0, ⟨⟨rfl, rfl⟩, trivial⟩, ⟨rfl, rfl⟩, rfl⟩
/-- impl.RunSession -/
theorem impl_RunSession (t : List UInt8) (hl : t.length ≤ 1048575) : AC Tryz.prog 8 [.d true .str t] [] [.d true .str (rsT t), I (rsN t)] [] := by
  obtain ⟨hb1, hb2⟩ := lns_bd t
  have hL := impl_SplitLines t (by omega)
  unfold rsT rsN
  generalize lnsL t = ls at *
  refine AC_of tauOk 40 0 [2, 3] Tryz.func8 rfl (by kernel_rfl) rfl rfl rfl rfl rfl ?_
  refine ⟨[], false, _, _, hL, List.nodup_nil, rfl, rfl, trivial, fun h1 => ?_, fun h1 => ?_⟩
  · rw [if_pos (show ls.length > 40 by omega), if_pos (show ls.length > 40 by omega)]
    exact ⟨none, ⟨rfl, rfl, trivial⟩, rfl, rfl⟩
  · rw [if_neg (show ¬ ls.length > 40 by omega), if_neg (show ¬ ls.length > 40 by omega)]
    refine ⟨[], false, _, _, impl_NewConsole_d, List.nodup_nil, rfl, rfl, trivial, ?_⟩
    refine ⟨Nat, fun k => ⟨[(4, .d true (.sl .str) ls), (5, .d true (.sl (.sl .int)) (rsF ls k).1), (6, .d true .str (rsF ls k).2), (17, .d true (.sl .str) ls), (18, I ls.length), (19, I (k : Nat))], []⟩, fun k => k ≤ ls.length, fun k => ls.length - k, 0, Nat.zero_le _,
      ⟨⟨rfl, rfl⟩, ⟨rfl, rfl, rfl, rfl, rfl, rfl, trivial⟩, trivial⟩, fun k hk => ?_⟩
    dsimp only at hk
    refine ⟨fun h2 => ?_, fun h2 => ?_⟩
    · have hk2 : k < ls.length := by omega
      have hR := impl_RunLine true (rsF ls k).1 (ls.getD k []) (rsF_gok ls k) (by have := hb2 k hk2; omega)
      have e1 : (rsF ls (k + 1)).1 = rlG (rsF ls k).1 (ls.getD k []) := rfl
      have e2 : (rsF ls (k + 1)).2 = if rlT (rsF ls k).1 (ls.getD k []) ≠ [] then (rsF ls k).2 ++ (rlT (rsF ls k).1 (ls.getD k []) ++ [10]) else (rsF ls k).2 := rfl
      refine ⟨k, rfl, hk2, [], false, _, _, hR, List.nodup_nil, rfl, rfl, trivial, fun h3 => ?_, fun h3 => ?_⟩
      · rw [if_pos h3] at e2
        have l1 := rsF_len ls _ (Nat.le_refl _) k
        have l2 := rlT_len (rsF_gok ls k) (ls.getD k [])
        have l3 : k * (140737488355328 + 1) ≤ 40 * (140737488355328 + 1) := Nat.mul_le_mul_right _ (by omega)
        refine ⟨by simp only [List.length_cons, List.length_nil]; omega, by simp only [List.length_append, List.length_cons, List.length_nil]; omega, ?_⟩
        refine ⟨((k + 1 : Nat) : Int), w64_eq (by omega) (by omega) (by omega), k + 1, by dsimp only; omega, by dsimp only; omega, ⟨rfl, rfl⟩, ⟨rfl, rfl, ?_, rfl, rfl, rfl, trivial⟩, trivial⟩
        rw [e2]; rfl
      · rw [if_neg h3] at e2
        refine ⟨((k + 1 : Nat) : Int), w64_eq (by omega) (by omega) (by omega), k + 1, by dsimp only; omega, by dsimp only; omega, ⟨rfl, rfl⟩, ⟨rfl, rfl, ?_, rfl, rfl, rfl, trivial⟩, trivial⟩
        rw [e2]; rfl
    · obtain rfl : k = ls.length := by omega
      exact ⟨none, ⟨rfl, rfl, trivial⟩, rfl, rfl⟩
end Go.Proofs.YtacjiemkbhhhoaaGreatDoor
set_option linter.unusedVariables false
namespace Go.Proofs.YtacjiemkbhhhoaaGreatDoor
open Go Go.Proofs.YtacjiemkbhhhoaaGreatDoor.Ow
def scrL : List (List UInt8) := [[99, 121, 99, 108, 105, 99, 32, 52], [100, 105, 104, 101, 100, 114, 97, 108, 32, 52], [115, 121, 109, 109, 101, 116, 114, 105, 99, 32, 51], [115, 111, 108, 105, 100, 32, 49, 32, 48]]
def ln0 : List (List UInt8) := [[99, 121, 99, 108, 105, 99, 32, 53], [100, 105, 104, 101, 100, 114, 97, 108, 32, 52], [115, 121, 109, 109, 101, 116, 114, 105, 99, 32, 51], [115, 111, 108, 105, 100, 32, 51, 32, 48], [115, 111, 108, 105, 100, 32, 49, 32, 49], [103, 101, 110, 101, 114, 97, 116, 101, 32, 49, 44, 48, 44, 50, 32, 48, 44, 50, 44, 49], [103, 101, 110, 101, 114, 97, 116, 101, 32, 49, 44, 50, 44, 51, 44, 48, 32, 49, 44, 48, 44, 51, 44, 50], [105, 110, 100, 101, 120], [111, 114, 98, 105, 116, 115], [99, 108, 97, 115, 115, 101, 115], [116, 119, 111], [108, 105, 115, 116]]
def ln1 : List (List UInt8) := [[99, 111, 117, 110, 116, 32, 50], [99, 111, 117, 110, 116, 32, 51], [112, 97, 116, 116, 101, 114, 110, 115, 32, 50], [101, 120, 99, 104, 97, 110, 103, 101, 100, 32, 50], [99, 97, 110, 111, 110, 32, 49, 48, 48, 48], [99, 97, 110, 111, 110, 32, 48, 49, 48], [99, 97, 110, 111, 110, 32, 48, 49, 49, 48], [119, 111, 114, 100, 32, 48, 49, 48, 49], [119, 111, 114, 100, 32, 48, 48, 49, 48, 49, 49], [102, 97, 99, 116, 111, 114, 115, 32, 49, 48, 49, 49, 48], [102, 97, 99, 116, 111, 114, 115, 32, 48, 48, 49, 48]]
def ln2 : List (List UInt8) := [[110, 101, 99, 107, 108, 97, 99, 101, 115, 32, 54, 32, 50], [110, 101, 99, 107, 108, 97, 99, 101, 115, 32, 53, 32, 51], [110, 101, 99, 107, 108, 97, 99, 101, 32, 52, 32, 50, 32, 51], [97, 108, 108, 32, 51, 32, 50], [97, 108, 108, 32, 50, 32, 51], [103, 114, 97, 112, 104, 115, 32, 52], [103, 114, 97, 112, 104, 115, 32, 52, 32, 51], [116, 114, 101, 101, 115, 32, 54], [116, 114, 101, 101, 32, 40, 40, 41, 40, 41, 41], [116, 114, 101, 101, 32, 40, 40, 40, 41, 41, 40, 41, 41]]
def ln3 : List (List UInt8) := [[], [35, 32, 110, 111, 116, 101], [119, 104, 97, 116], [99, 121, 99, 108, 105, 99, 32, 48], [99, 121, 99, 108, 105, 99, 32, 49, 49], [115, 121, 109, 109, 101, 116, 114, 105, 99, 32, 54], [115, 111, 108, 105, 100, 32, 57, 32, 48], [103, 101, 110, 101, 114, 97, 116, 101, 32, 49, 44, 48, 32, 48, 44, 49, 44, 50], [103, 101, 110, 101, 114, 97, 116, 101, 32, 49, 44, 49, 32, 48, 44, 49], [99, 111, 117, 110, 116, 32, 48], [99, 111, 117, 110, 116, 32, 120], [112, 97, 116, 116, 101, 114, 110, 115, 32, 57], [99, 97, 110, 111, 110, 32, 57], [119, 111, 114, 100], [119, 111, 114, 100, 32, 53], [110, 101, 99, 107, 108, 97, 99, 101, 115, 32, 48, 32, 50], [110, 101, 99, 107, 108, 97, 99, 101, 32, 52, 32, 50, 32, 54], [97, 108, 108, 32, 49, 49, 32, 50], [103, 114, 97, 112, 104, 115, 32, 57], [116, 114, 101, 101, 115, 32, 48], [116, 114, 101, 101, 32, 40, 41, 41], [105, 110, 100, 101, 120, 32, 49]]
def lnT (t : Nat) : List (List UInt8) := match t with | 0 => ln0 | 1 => ln1 | 2 => ln2 | _ => ln3
/-- a line is drawn -/
def drwL (code : List Int) (c : Cu) : Cu × List UInt8 := (nxt code (nxt code c), (lnT (belR code c 4)).getD (belR code (nxt code c) (lnT (belR code c 4)).length) [])
/-- k more lines -/
def drwS (code : List Int) (c : Cu) (l : List (List UInt8)) : Nat → Cu × List (List UInt8)
  | 0 => (c, l)
  | k + 1 => ((drwL code (drwS code c l k).1).1, (drwS code c l k).2 ++ [(drwL code (drwS code c l k).1).2])
def scrS (code : List Int) (c : Cu) (m : Nat) : Cu × List (List UInt8) := drwS code (nxt code (nxt code c)) [scrL.getD (belR code c 4) []] (1 + belR code (nxt code c) m)
def mkLns (code : List Int) : List (List UInt8) := (scrS code (cu0 code 0) 8).2
theorem drwS_len (code : List Int) (c : Cu) (l : List (List UInt8)) : ∀ k, (drwS code c l k).2.length = l.length + k
  | 0 => rfl
  | k + 1 => by rw [drwS, List.length_append, drwS_len code c l k]; rfl
theorem lnT_b : ∀ t, t < 4 → 1 ≤ (lnT t).length ∧ (lnT t).length ≤ 256 := by decide
/-- spec.l01Str -/
theorem spec_l01Str (code : List Int) (hl : code.length ≤ 1048576) (c : Cu) (L : List (List UInt8)) (h1 : 1 ≤ L.length) (h2 : L.length ≤ 256) :
    AC Tryz.prog 52 [.ptr 0 0, .d true (.sl .str) L] [.sl 70 .mix (cuR code c)] [.d true .str (L.getD (belR code c L.length) [])] [.sl 70 .mix (cuR code (nxt code c))] := by
  have hb := belR_lt code c h1
  refine AC_of tauOk 12 1 [4] Tryz.func52 rfl (by kernel_rfl) rfl rfl rfl rfl rfl ?_
  refine ⟨[0], false, _, _, spec_l01Below code hl c L.length h1 h2, by decide, rfl, rfl, ⟨⟨rfl, rfl, rfl⟩, trivial⟩, ?_⟩
  refine ⟨belR code c L.length, rfl, hb, ?_⟩
  exact ⟨none, ⟨rfl, trivial⟩, rfl, rfl⟩
/-- spec.l15Line -/
theorem spec_l15Line (code : List Int) (hl : code.length ≤ 1048576) (c : Cu) :
    AC Tryz.prog 54 [.ptr 0 0] [.sl 70 .mix (cuR code c)] [.d true .str (drwL code c).2] [.sl 70 .mix (cuR code (drwL code c).1)] := by
  have hb := belR_lt code c (show 1 ≤ 4 by decide)
  unfold drwL
  have hB := spec_l01Below code hl c 4 (by decide) (by decide)
  have hS := fun t (ht : t < 4) => spec_l01Str code hl (nxt code c) (lnT t) (lnT_b t ht).1 (lnT_b t ht).2
  generalize belR code c 4 = t at *
  refine AC_of tauOk 23 1 [2] Tryz.func54 rfl (by kernel_rfl) rfl rfl rfl rfl rfl ?_
  refine ⟨[0], false, _, _, hB, by decide, rfl, rfl, ⟨⟨rfl, rfl, rfl⟩, trivial⟩, ?_⟩
  refine ⟨fun h1 => ?_, fun h1 => ?_⟩
  · obtain rfl : t = 0 := by omega
    refine ⟨rfl, by decide, false, ?_⟩
    refine ⟨[0], false, _, _, hS 0 (by decide), by decide, rfl, rfl, ⟨⟨rfl, rfl, rfl⟩, trivial⟩, ?_⟩
    exact ⟨none, ⟨rfl, trivial⟩, rfl, rfl⟩
  refine ⟨fun h2 => ?_, fun h2 => ?_⟩
  · obtain rfl : t = 1 := by omega
    refine ⟨rfl, by decide, false, ?_⟩
    refine ⟨[0], false, _, _, hS 1 (by decide), by decide, rfl, rfl, ⟨⟨rfl, rfl, rfl⟩, trivial⟩, ?_⟩
    exact ⟨none, ⟨rfl, trivial⟩, rfl, rfl⟩
  refine ⟨fun h3 => ?_, fun h3 => ?_⟩
  · obtain rfl : t = 2 := by omega
    refine ⟨rfl, by decide, false, ?_⟩
    refine ⟨[0], false, _, _, hS 2 (by decide), by decide, rfl, rfl, ⟨⟨rfl, rfl, rfl⟩, trivial⟩, ?_⟩
    exact ⟨none, ⟨rfl, trivial⟩, rfl, rfl⟩
  · obtain rfl : t = 3 := by omega
    refine ⟨rfl, by decide, false, ?_⟩
    refine ⟨[0], false, _, _, hS 3 (by decide), by decide, rfl, rfl, ⟨⟨rfl, rfl, rfl⟩, trivial⟩, ?_⟩
    exact ⟨none, ⟨rfl, trivial⟩, rfl, rfl⟩
/-- spec.l15Script -/
theorem spec_l15Script (code : List Int) (hl : code.length ≤ 1048576) (c : Cu) :
    AC Tryz.prog 25 [.ptr 0 0, I 8] [.sl 70 .mix (cuR code c)] [.ow 1] [.sl 70 .mix (cuR code (scrS code c 8).1), .sl 9 .str (scrS code c 8).2] := by
  have hb := belR_lt code (nxt code c) (show 1 ≤ 8 by decide)
  have hB := spec_l01Below code hl (nxt code c) 8 (by decide) (by decide)
  have hS := spec_l01Str code hl c scrL (by decide) (by decide)
  unfold scrS
  have e4 : scrL.length = 4 := rfl
  rw [e4] at hS
  have hlen := drwS_len code (nxt code (nxt code c)) [scrL.getD (belR code c 4) []]
  refine AC_of tauOk 25 1 [4] Tryz.func25 rfl (by kernel_rfl) rfl rfl rfl rfl rfl ?_
  refine ⟨rfl, by decide, false, ?_⟩
  refine ⟨[0], false, _, _, hS, by decide, rfl, rfl, ⟨⟨rfl, rfl, rfl⟩, trivial⟩, ?_⟩
  refine ⟨rfl, by decide, true, ?_⟩
  refine ⟨[0], false, _, _, hB, by decide, rfl, rfl, ⟨⟨rfl, rfl, rfl⟩, trivial⟩, ?_⟩
  generalize belR code (nxt code c) 8 = m at *
  refine ⟨((1 + m : Nat) : Int), w64_eq (by omega) (by omega) (by omega), ?_⟩
  refine ⟨Nat, fun k => ⟨[(0, .ptr 0 0), (5, .ow 1), (6, I ((1 + m - k : Nat) : Int))], [.sl 70 .mix (cuR code (drwS code (nxt code (nxt code c)) [scrL.getD (belR code c 4) []] k).1), .sl 9 .str (drwS code (nxt code (nxt code c)) [scrL.getD (belR code c 4) []] k).2]⟩, fun k => k ≤ 1 + m, fun k => 1 + m - k, 0, Nat.zero_le _,
    ⟨⟨rfl, rfl⟩, ⟨rfl, rfl, rfl, trivial⟩, rfl, rfl, trivial⟩, fun k hk => ?_⟩
  dsimp only at hk
  have hlk := hlen k
  refine ⟨fun h1 => ?_, fun h1 => ?_⟩
  · have hk2 : k < 1 + m := by omega
    refine ⟨[0], false, _, _, spec_l15Line code hl _, by decide, rfl, rfl, ⟨⟨rfl, rfl, rfl⟩, trivial⟩, ?_⟩
    refine ⟨rfl, by decide, false, ?_⟩
    refine ⟨rfl, Nat.le_refl 1, rfl, by simp only [List.length_cons, List.length_nil] at hlk ⊢; omega, rfl, ?_⟩
    exact ⟨((1 + m - (k + 1) : Nat) : Int), w64_eq (by omega) (by omega) (by omega), k + 1, by dsimp only; omega, by dsimp only; omega, ⟨rfl, rfl⟩, ⟨rfl, rfl, rfl, trivial⟩, rfl, rfl, trivial⟩
  · obtain rfl : k = 1 + m := by omega
    exact ⟨some 1, ⟨⟨rfl, rfl⟩, trivial⟩, ⟨rfl, rfl⟩, rfl⟩
/-- spec.MakeLines -/
theorem spec_MakeLines (code : List Int) (hl : code.length ≤ 1048576) : AC Tryz.prog 11 [.d true (.sl .u8) code] [] [.ow 0] [.sl 9 .str (mkLns code)] := by
  refine AC_of tauOk 6 0 [2] Tryz.func11 rfl (by kernel_rfl) rfl rfl rfl rfl rfl ?_
  refine ⟨[], false, _, _, spec_l01New code hl, List.nodup_nil, rfl, rfl, trivial, ?_⟩
  refine ⟨[0], false, _, _, spec_l15Script code hl (cu0 code 0), by decide, rfl, rfl, ⟨⟨rfl, rfl, rfl⟩, trivial⟩, ?_⟩
  exact ⟨some 1, ⟨⟨rfl, rfl⟩, trivial⟩, ⟨rfl, rfl⟩, rfl⟩
end Go.Proofs.YtacjiemkbhhhoaaGreatDoor
set_option linter.unusedVariables false
namespace Go.Proofs.YtacjiemkbhhhoaaGreatDoor
open Go Go.Proofs.YtacjiemkbhhhoaaGreatDoor.Ow
def okL (x : List UInt8) : Bool := x.all (fun c => decide (c ≠ 10)) && decide (x.length ≤ 40)
theorem scr_ok : ∀ x ∈ scrL, okL x = true ∧ rlB x = false ∧ (ngO (rlW x) (rlA x)).isSome = true := by decide +kernel
theorem lnT_ok : ∀ t, t < 4 → ∀ x ∈ lnT t, okL x = true := by decide +kernel
theorem drwL_ok (code : List Int) (c : Cu) : okL (drwL code c).2 = true := by
  have hb := belR_lt code c (show 1 ≤ 4 by decide)
  have h2 := belR_lt code (nxt code c) (lnT_b _ hb).1
  refine lnT_ok _ hb _ ?_
  show (lnT (belR code c 4)).getD (belR code (nxt code c) (lnT (belR code c 4)).length) [] ∈ _
  rw [getD_get _ _ _ h2]
  exact List.getElem_mem _
theorem drwS_ok (code : List Int) (c : Cu) (l : List (List UInt8)) (hl : ∀ x ∈ l, okL x = true) : ∀ k, (∀ x ∈ (drwS code c l k).2, okL x = true) ∧ ∃ r, (drwS code c l k).2 = l ++ r
  | 0 => ⟨hl, [], (List.append_nil _).symm⟩
  | k + 1 => by
    obtain ⟨h1, r, h2⟩ := drwS_ok code c l hl k
    refine ⟨fun x hx => ?_, r ++ [(drwL code (drwS code c l k).1).2], by rw [drwS, h2, List.append_assoc]⟩
    rw [drwS] at hx
    rcases List.mem_append.1 hx with hx | hx
    · exact h1 x hx
    · rw [List.mem_singleton.1 hx]; exact drwL_ok code _
theorem mkLns_ok (code : List Int) : 2 ≤ (mkLns code).length ∧ (mkLns code).length ≤ 9 ∧ (mkLns code).getD 0 [] ∈ scrL ∧ ∀ x ∈ mkLns code, okL x = true := by
  have h0 := belR_lt code (cu0 code 0) (show 1 ≤ 4 by decide)
  have h8 := belR_lt code (nxt code (cu0 code 0)) (show 1 ≤ 8 by decide)
  have hm : scrL.getD (belR code (cu0 code 0) 4) [] ∈ scrL := by
    rw [getD_get _ _ _ (show belR code (cu0 code 0) 4 < scrL.length from h0)]
    exact List.getElem_mem _
  obtain ⟨h1, r, h2⟩ := drwS_ok code (nxt code (nxt code (cu0 code 0))) [scrL.getD (belR code (cu0 code 0) 4) []] (fun x hx => by rw [List.mem_singleton.1 hx]; exact (scr_ok _ hm).1) (1 + belR code (nxt code (cu0 code 0)) 8)
  have hl := drwS_len code (nxt code (nxt code (cu0 code 0))) [scrL.getD (belR code (cu0 code 0) 4) []] (1 + belR code (nxt code (cu0 code 0)) 8)
  have e : mkLns code = (drwS code (nxt code (nxt code (cu0 code 0))) [scrL.getD (belR code (cu0 code 0) 4) []] (1 + belR code (nxt code (cu0 code 0)) 8)).2 := rfl
  rw [e]
  refine ⟨by rw [hl]; simp; omega, by rw [hl]; simp; omega, ?_, h1⟩
  rw [h2]
  exact hm
theorem rlT_ne {g : List (List Int)} {line : List UInt8} (h1 : rlB line = false) (h2 : (ngO (rlW line) (rlA line)).isSome = true) : rlT g line ≠ [] := by
  unfold rlT
  rw [if_neg (by rw [h1]; decide)]
  cases h : ngO (rlW line) (rlA line) with
  | none => rw [h] at h2; cases h2
  | some o => cases o <;> simp [nonS, ordS]
theorem rsF_ne {ls : List (List UInt8)} (h : (rsF ls 1).2 ≠ []) : ∀ k, (rsF ls (k + 1)).2 ≠ []
  | 0 => h
  | k + 1 => by
    have ih := rsF_ne h k
    rw [rsF]
    dsimp only
    split
    · simp
    · exact ih
theorem rsF_congr {ls ls' : List (List UInt8)} : ∀ k, (∀ i, i < k → ls.getD i [] = ls'.getD i []) → rsF ls k = rsF ls' k
  | 0, _ => rfl
  | k + 1, h => by
    have ih := rsF_congr k fun i hi => h i (by omega)
    rw [rsF, rsF, ih, h k (by omega)]
theorem rlT_nil (g : List (List Int)) : rlT g [] = [] := rfl
/-- a session of lines that are joined -/
theorem ses_join {ls : List (List UInt8)} (h1 : 1 ≤ ls.length) (h2 : ls.length ≤ 40) (hx : ∀ x ∈ ls, okL x = true) :
    rsT (Lib.join ls [10]) = (rsF ls ls.length).2 ∧ ((ls.length - 1 : Nat) : Int) ≤ rsN (Lib.join ls [10]) ∧ rsN (Lib.join ls [10]) ≤ (ls.length : Nat) := by
  have hw : wrdG (byB [10]) (Lib.join ls [10]) = ls := by
    rw [wrdG_eq]
    refine spl_join (byB [10]) 10 (by rw [byB_one]; rfl) ls (fun e => by rw [e] at h1; simp at h1) fun w hw x hxw => ?_
    have := hx w hw
    unfold okL at this
    simp only [Bool.and_eq_true, List.all_eq_true, decide_eq_true_eq] at this
    rw [byB_one]
    simpa using this.1 x hxw
  have hL : lnsL (Lib.join ls [10]) = if ls.getD (ls.length - 1) [] = [] then ls.take (ls.length - 1) else ls := by unfold lnsL; rw [hw]
  unfold rsT rsN
  rw [hL]
  by_cases hl : ls.getD (ls.length - 1) [] = []
  · rw [if_pos hl]
    have hlt : (ls.take (ls.length - 1)).length = ls.length - 1 := by rw [List.length_take]; omega
    rw [hlt, if_neg (by omega), if_neg (by omega)]
    refine ⟨?_, by omega, by omega⟩
    have e : rsF (ls.take (ls.length - 1)) (ls.length - 1) = rsF ls (ls.length - 1) := rsF_congr _ fun i hi => L_take _ _ _ _ hi
    rw [e]
    obtain ⟨m, hm⟩ : ∃ m, ls.length = m + 1 := ⟨ls.length - 1, by omega⟩
    rw [hm, Nat.add_sub_cancel] at hl ⊢
    rw [rsF]
    dsimp only
    rw [hl, rlT_nil, if_neg (fun h => h rfl)]
  · rw [if_neg hl, if_neg (by omega), if_neg (by omega)]
    exact ⟨rfl, by omega, by omega⟩
theorem join_ln {ls : List (List UInt8)} (hx : ∀ x ∈ ls, okL x = true) : (Lib.join ls [10]).length ≤ ls.length * 41 := by
  rw [← jn_join]
  have := jn_len ls [10] 40 (fun i hi => by
    have := hx _ (List.getElem_mem hi)
    unfold okL at this
    simp only [Bool.and_eq_true, decide_eq_true_eq] at this
    rw [getD_get _ _ _ hi]; exact this.2) ls.length (Nat.le_refl _)
  simpa using this
/-- laws.FnConsole -/
theorem laws_FnConsole (code : List Int) : AC Tryz.prog 4 [.d true (.sl .u8) code] [] [.d true .bool true] [] := by
  obtain ⟨m1, m2, m3, m4⟩ := mkLns_ok code
  obtain ⟨_, k1, k2⟩ := scr_ok _ m3
  have hM := spec_MakeLines code
  generalize mkLns code = L at *
  have hS := ses_join (show 1 ≤ L.length by omega) (by omega) m4
  have hj := join_ln m4
  have hne : (rsF L L.length).2 ≠ [] := by
    have h1 : (rsF L 1).2 ≠ [] := by
      rw [rsF]
      dsimp only
      rw [if_pos (rlT_ne k1 k2)]
      simp
    have := rsF_ne h1 (L.length - 1)
    rwa [show L.length - 1 + 1 = L.length by omega] at this
  refine AC_of tauOk 64 0 [2] Tryz.func4 rfl (by kernel_rfl) rfl rfl rfl rfl rfl ?_
  refine ⟨fun h => ?_, fun hl => ?_⟩
  · exact ⟨none, ⟨rfl, trivial⟩, rfl, rfl⟩
  refine ⟨[], true, _, _, hM (by omega), List.nodup_nil, rfl, rfl, trivial, [], false, _, _, impl_NewConsole_d, List.nodup_nil, rfl, rfl, trivial, ?_⟩
  refine ⟨Nat, fun k => ⟨[(3, .d true (.sl .str) L), (4, .d true (.sl (.sl .int)) (rsF L k).1), (5, .d true .str (rsF L k).2), (18, .d true (.sl .str) L), (19, I L.length), (20, I (k : Nat))], []⟩, fun k => k ≤ L.length, fun k => L.length - k, 0, Nat.zero_le _,
    ⟨⟨rfl, rfl⟩, ⟨rfl, rfl, rfl, rfl, rfl, rfl, trivial⟩, trivial⟩, fun k hk => ?_⟩
  dsimp only at hk
  refine ⟨fun h2 => ?_, fun h2 => ?_⟩
  · have hk2 : k < L.length := by omega
    have hlen : (L.getD k []).length ≤ 1048575 := by
      have := m4 (L.getD k []) (by rw [getD_get _ _ _ hk2]; exact List.getElem_mem _)
      unfold okL at this
      simp only [Bool.and_eq_true, decide_eq_true_eq] at this
      omega
    have hR := impl_RunLine true (rsF L k).1 (L.getD k []) (rsF_gok L k) hlen
    have e2 : (rsF L (k + 1)).2 = if rlT (rsF L k).1 (L.getD k []) ≠ [] then (rsF L k).2 ++ (rlT (rsF L k).1 (L.getD k []) ++ [10]) else (rsF L k).2 := rfl
    have l1 := rsF_len L _ (Nat.le_refl _) k
    have l2 := rlT_len (rsF_gok L k) (L.getD k [])
    have l3 : k * (140737488355328 + 1) ≤ 40 * (140737488355328 + 1) := Nat.mul_le_mul_right _ (by omega)
    refine ⟨k, rfl, hk2, [], false, _, _, hR, List.nodup_nil, rfl, rfl, trivial, fun h3 => ?_, fun h3 => ?_⟩
    · rw [if_pos h3] at e2
      refine ⟨by omega, by simp only [List.length_append, List.length_cons, List.length_nil]; omega, ?_⟩
      refine ⟨((k + 1 : Nat) : Int), w64_eq (by omega) (by omega) (by omega), k + 1, by dsimp only; omega, by dsimp only; omega, ⟨rfl, rfl⟩, ⟨rfl, rfl, ?_, rfl, rfl, rfl, trivial⟩, trivial⟩
      rw [e2, ← List.append_assoc]; rfl
    · rw [if_neg h3] at e2
      refine ⟨((k + 1 : Nat) : Int), w64_eq (by omega) (by omega) (by omega), k + 1, by dsimp only; omega, by dsimp only; omega, ⟨rfl, rfl⟩, ⟨rfl, rfl, ?_, rfl, rfl, rfl, trivial⟩, trivial⟩
      rw [e2]; rfl
  · obtain rfl : k = L.length := by omega
    refine ⟨[], false, _, _, impl_Join true L [10] (by omega) (by omega), List.nodup_nil, rfl, rfl, trivial, [], false, _, _, impl_RunSession _ (by omega), List.nodup_nil, rfl, rfl, trivial, ?_⟩
    refine ⟨fun _ => ?_, fun h => (h hne).elim⟩
    refine ⟨fun _ => ?_, fun h => (h hS.1).elim⟩
    refine ⟨((L.length - 1 : Nat) : Int), w64_eq (by omega) (by omega) (by omega), fun _ => ?_, fun h => (h hS.2.1).elim⟩
    refine ⟨fun _ => ?_, fun h => (h hS.2.2).elim⟩
    exact ⟨none, ⟨rfl, trivial⟩, rfl, rfl⟩
end Go.Proofs.YtacjiemkbhhhoaaGreatDoor
