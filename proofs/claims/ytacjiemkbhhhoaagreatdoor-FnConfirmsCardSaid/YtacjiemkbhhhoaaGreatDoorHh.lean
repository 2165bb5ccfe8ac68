/-
  Part 8 of the texts that the claim rests on: Wspt, Wgbf, Wrln, Wcns, Wcfm.
  No condition beyond the given program.
-/
import Derived.Test.YtacjiemkbhhhoaaGreatDoorHg
set_option linter.unusedVariables false
set_option linter.unusedSimpArgs false
set_option linter.unusedVariables false
namespace Go.Proofs.YtacjiemkbhhhoaaGreatDoor
open Go Go.Proofs.YtacjiemkbhhhoaaGreatDoor.Ow
theorem idx_some {c : UInt8} {p : UInt8 → Bool} (hp : ∀ b, p b = (b == c)) : ∀ {s : List UInt8}, 0 < s.count c → ∃ m : Nat, Lib.indexByte s c = (m : Int) ∧ m < s.length ∧ (s.drop (m + 1)).count c + 1 = s.count c ∧ splR p s = s.take m :: splR p (s.drop (m + 1))
  | [], h => by simp at h
  | b :: s, h => by
    cases hb : (b == c) with
    | true =>
      refine ⟨0, by rw [Lib.indexByte, hb]; rfl, by simp, ?_, ?_⟩
      · rw [List.count_cons, if_pos hb]; rfl
      · rw [splR, if_pos (by rw [hp]; exact hb)]; rfl
    | false =>
      have hc : (b :: s).count c = s.count c := by rw [List.count_cons, if_neg (by rw [hb]; decide)]; rfl
      rw [hc] at h
      obtain ⟨m, h1, h2, h3, h4⟩ := idx_some hp h
      refine ⟨m + 1, ?_, by simp; omega, by rw [hc]; exact h3, ?_⟩
      · rw [Lib.indexByte, hb, h1, if_neg (by decide), if_neg (by
          intro e
          have : ((m : Int)) = -1 := beq_iff_eq.1 e
          omega)]
        omega
      · rw [splR_no p b s (by rw [hp]; exact hb), h4]; rfl
theorem splR_none {c : UInt8} {p : UInt8 → Bool} (hp : ∀ b, p b = (b == c)) : ∀ {s : List UInt8}, s.count c = 0 → splR p s = [s]
  | [], _ => rfl
  | b :: s, h => by
    have hb : (b == c) = false := by
      rw [Bool.eq_false_iff]
      intro e
      rw [List.count_cons, if_pos e] at h
      omega
    have h2 : s.count c = 0 := by rw [List.count_cons, if_neg (by rw [hb]; decide)] at h; omega
    rw [splR_no p b s (by rw [hp]; exact hb), splR_none hp h2]; rfl
/-- what is left behind i separators -/
def rstL (c : UInt8) (s : List UInt8) : Nat → List UInt8
  | 0 => s
  | i + 1 => (rstL c s i).drop ((Lib.indexByte (rstL c s i) c).toNat + 1)
theorem take_mid {α : Type} {W A R : List α} {x : α} {i : Nat} (hA : A.length = i) (h : A ++ x :: R = W) : W.take (i + 1) = A ++ [x] := by
  rw [← h, List.take_append, List.take_of_length_le (by omega), hA, show i + 1 - i = 1 by omega]; rfl
theorem rst_spl {c : UInt8} {p : UInt8 → Bool} (hp : ∀ b, p b = (b == c)) (s : List UInt8) : ∀ i, i ≤ s.count c → (rstL c s i).count c = s.count c - i ∧ (rstL c s i).length ≤ s.length ∧ (splR p s).take i ++ splR p (rstL c s i) = splR p s ∧ ((splR p s).take i).length = i
  | 0, _ => ⟨rfl, Nat.le_refl _, rfl, rfl⟩
  | i + 1, hi => by
    obtain ⟨h1, h2, h3, h4⟩ := rst_spl hp s i (by omega)
    obtain ⟨m, g1, g2, g3, g4⟩ := idx_some hp (s := rstL c s i) (by omega)
    have e : rstL c s (i + 1) = (rstL c s i).drop (m + 1) := by rw [rstL, g1, Int.toNat_natCast]
    have h5 : (splR p s).take (i + 1) = (splR p s).take i ++ [(rstL c s i).take m] := take_mid h4 (by rw [← g4]; exact h3)
    rw [e]
    refine ⟨by omega, by rw [List.length_drop]; omega, ?_, by rw [h5, List.length_append, h4]; rfl⟩
    rw [h5, List.append_assoc]
    show (splR p s).take i ++ ((rstL c s i).take m :: splR p ((rstL c s i).drop (m + 1))) = _
    rw [← g4, h3]
theorem spl_cnt {c : UInt8} {p : UInt8 → Bool} (hp : ∀ b, p b = (b == c)) (s : List UInt8) : splR p s = (splR p s).take (s.count c) ++ [rstL c s (s.count c)] ∧ (splR p s).length = s.count c + 1 := by
  obtain ⟨h1, h2, h3, h4⟩ := rst_spl hp s (s.count c) (Nat.le_refl _)
  rw [splR_none hp (s := rstL c s (s.count c)) (by omega)] at h3
  refine ⟨h3.symm, ?_⟩
  have := congrArg List.length h3
  rw [List.length_append, h4] at this
  exact this.symm
theorem byB_one (c : UInt8) (b : UInt8) : byB [c] b = (b == c) := by
  unfold byB
  show decide (0 ≤ if (c == b) = true then (0 : Int) else if (Lib.indexByte [] b == -1) = true then -1 else Lib.indexByte [] b + 1) = _
  by_cases h : b = c
  · subst h; simp
  · have h2 : (c == b) = false := by simp; exact fun e => h e.symm
    have h3 : (b == c) = false := by simp; exact h
    rw [h2, h3]; rfl
theorem set_mid {α : Type} (a b : List α) (x z : α) {i : Nat} (h : a.length = i) : (a ++ z :: b).set i x = a ++ x :: b := by
  rw [List.set_append_right _ _ (by omega), h, Nat.sub_self]; rfl
/-- strings.Index of one byte -/
theorem strings_Index1 (s : List UInt8) (c : UInt8) : AC Tryz.prog 144 [.d true .str s, .d true .str [c]] [] [I (Lib.indexByte s c)] [] := by
  refine AC.flat (v := .int .i64 (Lib.indexByte s c)) (fun w A => rfl) ⟨_, _, Tryz.func144, rfl, by kernel_rfl⟩ fun w A vs hold hvs => ?_
  obtain ⟨v, r, rfl, h1, v2, r2, rfl, h2, h3⟩ := hvs
  cases h1
  cases h2
  cases h3
  exact (Tryz.strings_Index_one ⟨s.toArray⟩ c w).mono fun e w' ⟨he, hw⟩ => ⟨he, hw ▸ RowKit.Below.refl _ _⟩
/-- strings.Count of one byte -/
theorem strings_Count1 (s : List UInt8) (c : UInt8) : AC Tryz.prog 143 [.d true .str s, .d true .str [c]] [] [I ((s.count c : Nat) : Int)] [] := by
  refine AC.flat (v := .int .i64 ((s.count c : Nat) : Int)) (fun w A => rfl) ⟨_, _, Tryz.func143, rfl, by kernel_rfl⟩ fun w A vs hold hvs => ?_
  obtain ⟨v, r, rfl, h1, v2, r2, rfl, h2, h3⟩ := hvs
  cases h1
  cases h2
  cases h3
  exact (Tryz.strings_Count_one ⟨s.toArray⟩ c w).mono fun e w' ⟨he, hw⟩ => ⟨he, hw ▸ RowKit.Below.refl _ _⟩
/-- strings.genSplit with one separator, without a limit -/
theorem strings_genSplit (s : List UInt8) (c : UInt8) (hl : s.length ≤ 1048576) : AC Tryz.prog 58 [.d true .str s, .d true .str [c], I 0, I (-1)] [] [.ow 0] [.sl 9 .str (wrdG (byB [c]) s)] := by
  have hp := byB_one c
  rw [wrdG_eq]
  obtain ⟨e1, e2⟩ := spl_cnt hp s
  have hR := rst_spl hp s
  have hn : s.count c ≤ s.length := List.count_le_length
  have hI := fun i => strings_Index1 (rstL c s i) c
  have hx := fun i => idx_some hp (s := rstL c s i)
  have hr0 : rstL c s 0 = s := rfl
  have hrS : ∀ i, rstL c s (i + 1) = (rstL c s i).drop ((Lib.indexByte (rstL c s i) c).toNat + 1) := fun i => rfl
  generalize rstL c s = rs at *
  have hcut : (splR (byB [c]) s).take (s.count c + 1) = splR (byB [c]) s := List.take_of_length_le (by omega)
  have hC := strings_Count1 s c
  generalize splR (byB [c]) s = W at *
  generalize s.count c = n at *
  have hmin : (if ((s.length : Nat) : Int) + 1 < (n : Int) + 1 then ((s.length : Nat) : Int) + 1 else (n : Int) + 1) = ((n + 1 : Nat) : Int) := by
    rw [if_neg (show ¬ ((s.length : Nat) : Int) + 1 < (n : Int) + 1 by omega)]; omega
  suffices h : AC Tryz.prog 58 [.d true .str s, .d true .str [c], I 0, I (-1)] [] [.x (.sb 0 0 (n + 1))] [.sl 9 .str W] by
    have := AC.cut0 h
    rwa [hcut] at this
  refine AC_of tauOk 66 0 [8] Tryz.func58 rfl (by kernel_rfl) rfl rfl rfl rfl rfl ?_
  refine ⟨fun h => by omega, fun _ => ?_⟩
  refine ⟨fun h => (by cases h), fun _ => ?_⟩
  refine ⟨fun _ => ?_, fun h => (h (by omega)).elim⟩
  refine ⟨[], false, _, _, hC, List.nodup_nil, rfl, rfl, trivial, _, w64_in _ (by omega) (by omega), _, w64_in _ (by omega) (by omega), ?_⟩
  refine ⟨n + 1, n + 1, hmin, hmin, Nat.le_refl _, by omega, ?_⟩
  refine ⟨(n : Int), w64_eq (show (n : Int) = (if ((s.length : Nat) : Int) + 1 < (n : Int) + 1 then ((s.length : Nat) : Int) + 1 else (n : Int) + 1) - 1 by rw [hmin]; omega) (by omega) (by omega), ?_⟩
  refine ⟨Nat, fun i => ⟨[(0, .d true .str (rs i)), (1, .d true .str [c]), (2, I 0), (3, I (n : Nat)), (9, .ow 0), (10, I (i : Nat))], [.sl 9 .str (W.take i ++ List.replicate (n + 1 - i) [])]⟩, fun i => i ≤ n, fun i => n - i, 0, Nat.zero_le _,
    ⟨⟨rfl, rfl⟩, ⟨by rw [hr0]; rfl, rfl, rfl, rfl, rfl, rfl, trivial⟩, rfl, trivial⟩, fun i hi => ?_⟩
  dsimp only at hi
  obtain ⟨r1, r2, r3, r4⟩ := hR i hi
  have hwl : (W.take i ++ List.replicate (n + 1 - i) ([] : List UInt8)).length = n + 1 := by rw [List.length_append, r4, List.length_replicate]; omega
  have hset : ∀ x : List UInt8, (W.take i ++ List.replicate (n + 1 - i) ([] : List UInt8)).set i x = W.take i ++ x :: List.replicate (n - i) [] := fun x => by
    rw [show n + 1 - i = (n - i) + 1 by omega, List.replicate_succ]
    exact set_mid _ _ x [] r4
  refine ⟨fun h1 => ?_, fun h1 => ?_⟩
  · have hi2 : i < n := by omega
    obtain ⟨m, g1, g2, g3, g4⟩ := hx i (by omega)
    have hIi := hI i
    rw [g1] at hIi
    have hSi := hrS i
    rw [g1, Int.toNat_natCast] at hSi
    have hW : W.take (i + 1) = W.take i ++ [(rs i).take m] := take_mid r4 (by rw [← g4]; exact r3)
    refine ⟨[], false, _, _, hIi, List.nodup_nil, rfl, rfl, trivial, fun h2 => by omega, fun _ => ?_⟩
    refine ⟨(m : Int), w64_eq (by omega) (by omega) (by omega), m, rfl, Nat.zero_le _, by omega, i, rfl, by omega, ?_⟩
    refine ⟨((m + 1 : Nat) : Int), w64_eq (by show ((m + 1 : Nat) : Int) = (m : Int) + 1; omega) (by omega) (by omega), m + 1, rfl, by omega, Nat.le_refl _, ?_⟩
    refine ⟨((i + 1 : Nat) : Int), w64_eq (by omega) (by omega) (by omega), i + 1, by dsimp only; omega, by dsimp only; omega, ⟨rfl, rfl⟩, ⟨?_, rfl, rfl, rfl, rfl, rfl, trivial⟩, rowE ?_, trivial⟩
    · rw [hSi, List.take_length]; rfl
    · rw [hset, hW, List.drop_zero, show n + 1 - (i + 1) = n - i by omega, List.append_assoc]; rfl
  · obtain rfl : i = n := by omega
    refine ⟨i, rfl, by omega, _, w64_in _ (by omega) (by omega), ?_⟩
    refine ⟨i + 1, rfl, Nat.zero_le _, by rw [List.length_set]; omega, ?_⟩
    refine ⟨some 0, ⟨⟨rfl, rfl⟩, trivial⟩, ⟨rfl, rowsE ?_⟩, rfl⟩
    rw [hset, Nat.sub_self]
    exact e1.symm
/-- strings.Split with one separator -/
theorem strings_Split (s : List UInt8) (c : UInt8) (hl : s.length ≤ 1048576) : AC Tryz.prog 29 [.d true .str s, .d true .str [c]] [] [.ow 0] [.sl 9 .str (wrdG (byB [c]) s)] := by
  refine AC_of tauOk 8 0 [4] Tryz.func29 rfl (by kernel_rfl) rfl rfl rfl rfl rfl ?_
  refine ⟨[], false, _, _, strings_genSplit s c hl, List.nodup_nil, rfl, rfl, trivial, ?_⟩
  exact ⟨some 0, ⟨⟨rfl, rfl⟩, trivial⟩, ⟨rfl, rfl⟩, rfl⟩
end Go.Proofs.YtacjiemkbhhhoaaGreatDoor
set_option linter.unusedVariables false
namespace Go.Proofs.YtacjiemkbhhhoaaGreatDoor
open Go Go.Proofs.YtacjiemkbhhhoaaGreatDoor.Ow
theorem qi_of {n : Nat} {gens out q : List (List Int)} (h1 : 1 ≤ n) (h2 : n ≤ 10) (hg : GenQ n gens) (h : BfP n gens out q) : QI n q :=
  ⟨List.length_pos_of_mem h.id, by have := bf_len h; have := h.l; omega, fun x hx => wd_perm h1 h2 hg (h.w x hx)⟩
theorem innSI {n a : Nat} {gens : List (List Int)} (h1 : 1 ≤ n) (h2 : n ≤ 10) (hg : GenQ n gens) : ∀ (gs out q : List (List Int)), (∀ s ∈ gs, s ∈ gens) → BfP n gens out q → a < q.length → innI n a gs q = (innS n a gs out q).map Prod.snd
  | [], out, q, _, h, ha => by rw [innI, innS]; rfl
  | s :: gs, out, q, hs, h, ha => by
    have hl := bf_len h
    rw [innI_step (qi_of h1 h2 hg h) ha, innS_step h1 h2 hg h ha]
    have hs2 : ∀ s ∈ gs, s ∈ gens := fun x hx => hs x (by simp [hx])
    by_cases hm : exL (q.getD a []) s ∈ q
    · rw [if_pos (List.any_eq_true.2 ⟨_, hm, decide_eq_true rfl⟩), if_pos hm]
      exact innSI h1 h2 hg gs out q hs2 h ha
    · have hm2 : ¬ (q.any fun x => decide (x = exL (q.getD a []) s)) = true := fun e => by
        obtain ⟨x, hx, e⟩ := List.any_eq_true.1 e
        rw [← of_decide_eq_true e] at hm
        exact hm hx
      rw [if_neg hm2, if_neg hm]
      by_cases h120 : out.length = 120
      · rw [if_pos (by omega), if_pos h120]; rfl
      · rw [if_neg (by omega), if_neg h120]
        exact innSI h1 h2 hg gs _ _ hs2 (bf_add h ha (hs s (by simp)) hm h120) (by simp; omega)
theorem bfsSI {n : Nat} {gens : List (List Int)} (h1 : 1 ≤ n) (h2 : n ≤ 10) (hg : GenQ n gens) : ∀ (f a : Nat) (out q : List (List Int)), BfP n gens out q →
    (bfsS n gens f a out q = none ∧ bfsI n gens f a q = none) ∨ ∃ R Q, bfsS n gens f a out q = some R ∧ bfsI n gens f a q = some Q ∧ BfP n gens R Q
  | 0, a, out, q, h => .inl ⟨rfl, rfl⟩
  | f + 1, a, out, q, h => by
    rw [bfsS, bfsI]
    by_cases ha : a < q.length
    · rw [if_pos ha, if_pos ha, innSI h1 h2 hg gens out q (fun _ hx => hx) h ha]
      cases ho : innS n a gens out q with
      | none => exact .inl ⟨rfl, rfl⟩
      | some o =>
        obtain ⟨g1, _, _⟩ := innS_ok h1 h2 hg gens out q o (fun _ hx => hx) h ha ho
        exact bfsSI h1 h2 hg f (a + 1) o.1 o.2 g1
    · rw [if_neg ha, if_neg ha]
      exact .inr ⟨out, q, rfl, rfl, h⟩
theorem srt_uniq {R Q : List (List Int)} (ha : AscL R) (hp : R.Perm Q) : srtL Q = R := by
  refine List.Perm.eq_of_pairwise (le := fun x y => ¬ cmpI y x < 0) (fun a b _ _ h1 h2 => ?_) (srtL_s Q) (ha.imp fun {a b} h => ?_) ((srtL_p Q).trans hp.symm)
  · have := cmpI_neg a b
    exact cmpI_eq _ _ (by omega)
  · have := cmpI_neg a b
    omega
theorem grpO_fnd {n : Nat} {gens : List (List Int)} (h1 : 1 ≤ n) (h2 : n ≤ 10) (hg : GenQ n gens) : grpO n gens = fndG n gens := by
  unfold grpO fndG
  rcases bfsSI h1 h2 hg 200 0 _ _ (bf_start gens) with ⟨e1, e2⟩ | ⟨R, Q, e1, e2, hB⟩
  · rw [e1, e2]; rfl
  · rw [e1, e2]
    show some (srtL Q) = some R
    rw [srt_uniq hB.a hB.p]
theorem grpO_gok {n : Nat} {gens G : List (List Int)} (h1 : 1 ≤ n) (h2 : n ≤ 10) (hg : GenQ n gens) (h : grpO n gens = some G) : gokB G = true := by
  rw [grpO_fnd h1 h2 hg] at h
  exact grq_gok (bfs_closed h1 h2 hg h)
theorem gG_gok {n : Nat} {gens : List (List Int)} (h1 : 1 ≤ n) (h2 : n ≤ 10) (hg : GenP n gens) (hs : (bfsI n gens 200 0 [idL n]).isSome = true) : gokB (gG n gens) = true :=
  grpO_gok h1 h2 (gen_q hg) (gG_some hs)
end Go.Proofs.YtacjiemkbhhhoaaGreatDoor
set_option linter.unusedVariables false
namespace Go.Proofs.YtacjiemkbhhhoaaGreatDoor
open Go Go.RowKit Go.Proofs.YtacjiemkbhhhoaaGreatDoor.Ow
/-- a new row of lists that is handed back with two bools, as data -/
theorem AC.frzw3 {P : Program} {f : FuncId} {args : List AV} {E : TypeId} {e : Nat} {d : Bool} {G : List (List Int)} {b1 b2 : Bool} (h : AC P f args [] [.ow 0, .d true .bool b1, .d true .bool b2] [.sl E (.sw e d) G]) :
    AC P f args [] [.d true (.sl (.sl .int)) G, .d true .bool b1, .d true .bool b2] [] := by
  refine ⟨h.1, fun w bs A vs hr hv => (h.2 w bs A vs hr hv).mono ?_⟩
  rintro ex w' ⟨rv, bs', A', rfl, hrok, ⟨vs', hvs, v1, r1, rfl, hx, hrest⟩, hstep, ⟨new, rfl⟩, hstay, hup⟩
  have hbs : bs = [] := List.eq_nil_of_length_eq_zero (by rw [hr.len]; rfl)
  subst hbs
  obtain ⟨b, e2, t2, xs2, cur, h1, h2, h3, h4⟩ := hx
  cases h2
  obtain ⟨hA, cur2, c1, c2, c3, c4⟩ := hrok.row 0 b _ h1 rfl
  rw [h3] at c1; cases c1
  have hb := List.mem_of_getElem? h1
  have hnew : w.heap.size ≤ b := by
    rcases hstep.sbs b hb with h | h
    · simp at h
    · exact h
  refine ⟨rv, [], fun x => A' x ∨ x = b, rfl, ⟨rfl, List.nodup_nil, fun b hb => by simp at hb, fun x hx => ?_, fun i b r hb => by simp at hb⟩, ⟨_, hvs, v1, r1, rfl, ?_, hrest⟩, ⟨hstep.os, hstep.tape, hstep.output, hstep.size, fun k hk _ => hstep.block k hk (by simp), fun b hb => by simp at hb, fun x hx => ?_⟩, ⟨[], rfl⟩, fun b hb => by simp at hb, fun x hx => .inl (hup x hx)⟩
  · rcases hx with hx | hx
    · exact hrok.old x hx
    · rw [hx]; exact hrok.lt b hb
  · refine ⟨some ⟨b, 0, none⟩, cur.size, h4, c2, (fun hh => by simp at hh), .inr ⟨b, 0, rfl, .inr rfl, fun j hj => ?_⟩⟩
    obtain ⟨cv, k1, k2⟩ := c4 j hj
    exact ⟨cv, by rw [Nat.zero_add, cell_of_row w' b j cur _ (0, 0) h3]; exact k1, Rd.ext (fun b hb _ => ⟨rfl, .inl hb⟩) (.sl .int) _ _ (RdW.rd k2)⟩
  · rcases hx with hx | hx
    · rcases hstep.sA x hx with h | h | h
      · exact .inl h
      · exact .inr (.inl h)
      · simp at h
    · exact .inr (.inl (by rw [hx]; exact hnew))
/-- a new row of lists that is handed back, as data -/
theorem AC.frzwd {P : Program} {f : FuncId} {args : List AV} {E : TypeId} {e : Nat} {d : Bool} {G : List (List Int)} (h : AC P f args [] [.ow 0] [.sl E (.sw e d) G]) :
    AC P f args [] [.d true (.sl (.sl .int)) G] [] := by
  refine ⟨h.1, fun w bs A vs hr hv => (h.2 w bs A vs hr hv).mono ?_⟩
  rintro ex w' ⟨rv, bs', A', rfl, hrok, hx, hstep, ⟨new, rfl⟩, hstay, hup⟩
  have hbs : bs = [] := List.eq_nil_of_length_eq_zero (by rw [hr.len]; rfl)
  subst hbs
  obtain ⟨b, e2, t2, xs2, cur, h1, h2, h3, h4⟩ := hx
  cases h2
  obtain ⟨hA, cur2, c1, c2, c3, c4⟩ := hrok.row 0 b _ h1 rfl
  rw [h3] at c1; cases c1
  have hb := List.mem_of_getElem? h1
  have hnew : w.heap.size ≤ b := by
    rcases hstep.sbs b hb with h | h
    · simp at h
    · exact h
  refine ⟨rv, [], fun x => A' x ∨ x = b, rfl, ⟨rfl, List.nodup_nil, fun b hb => by simp at hb, fun x hx => ?_, fun i b r hb => by simp at hb⟩, ?_, ⟨hstep.os, hstep.tape, hstep.output, hstep.size, fun k hk _ => hstep.block k hk (by simp), fun b hb => by simp at hb, fun x hx => ?_⟩, ⟨[], rfl⟩, fun b hb => by simp at hb, fun x hx => .inl (hup x hx)⟩
  · rcases hx with hx | hx
    · exact hrok.old x hx
    · rw [hx]; exact hrok.lt b hb
  · refine ⟨some ⟨b, 0, none⟩, cur.size, h4, c2, (fun hh => by simp at hh), .inr ⟨b, 0, rfl, .inr rfl, fun j hj => ?_⟩⟩
    obtain ⟨cv, k1, k2⟩ := c4 j hj
    exact ⟨cv, by rw [Nat.zero_add, cell_of_row w' b j cur _ (0, 0) h3]; exact k1, Rd.ext (fun b hb _ => ⟨rfl, .inl hb⟩) (.sl .int) _ _ (RdW.rd k2)⟩
  · rcases hx with hx | hx
    · rcases hstep.sA x hx with h | h | h
      · exact .inl h
      · exact .inr (.inl h)
      · simp at h
    · exact .inr (.inl (by rw [hx]; exact hnew))
/-- a line that says nothing -/
def rlB (line : List UInt8) : Bool := decide (line = []) || decide (((line.getD 0 0).toNat : Int) = 35)
def rlW (line : List UInt8) : List UInt8 := (wrdG (byB [32]) line).getD 0 []
def rlA (line : List UInt8) : List (List UInt8) := (wrdG (byB [32]) line).drop 1
def ordS : List UInt8 := [111, 114, 100, 101, 114, 32]
/-- the output of a line that asks for no group -/
def tlT (g : List (List Int)) (w : List UInt8) (args : List (List UInt8)) : List UInt8 :=
  if (args.length : Int) = 0 then plnS g w
  else if (args.length : Int) = 1 ∧ wlnS g w (args.getD 0 []) ≠ unkS then wlnS g w (args.getD 0 [])
  else if args.all prsB = true then nlnS g w (args.map prsV) else unkS
/-- the group behind a line, and its output -/
def rlG (g : List (List Int)) (line : List UInt8) : List (List Int) := if rlB line = true then g else match ngO (rlW line) (rlA line) with | some (some G) => G | _ => g
def rlT (g : List (List Int)) (line : List UInt8) : List UInt8 := if rlB line = true then [] else match ngO (rlW line) (rlA line) with | some (some G) => ordS ++ fmtI (G.length : Nat) | some none => nonS | none => tlT g (rlW line) (rlA line)
theorem sol_gok (k : Nat) (h1 : 1 ≤ k) (h4 : k < 5) (mir : Bool) : gokB (solL k mir) = true := by
  obtain ⟨c1, c2, c3⟩ := sol_chk k h4 h1 mir
  have hn : 1 ≤ solN k ∧ solN k < 11 := by unfold solN; split <;> decide
  exact gG_gok hn.1 (by omega) (genP_of c1 c2) c3
theorem ng_gok {w : List UInt8} {args : List (List UInt8)} {G : List (List Int)} (h : ngO w args = some (some G)) : gokB G = true := by
  unfold ngO at h
  split at h
  · split at h
    · rename_i hp
      have h3 := Option.some.inj h
      unfold genO at h3
      split at h3
      · rename_i hl
        have p1 := prp_perm hp.1
        have p2 := prp_perm hp.2
        have b1 := ((permB_iff _).1 p1).1
        exact grpO_gok (by omega) (by omega) (gen_q (gens2 ⟨p1, rfl⟩ ⟨p2, hl.symm⟩)) h3
      · cases h3
    · cases h
  · split at h
    · split at h
      · have h3 := Option.some.inj h
        unfold cycO at h3
        split at h3
        · cases h3
          obtain ⟨⟨c1, c2⟩, c3, c4⟩ := grp_chk (prsV (args.getD 0 [])).toNat (by omega) (by omega)
          exact gG_gok (by omega) (by omega) (gens1 c1) c3
        · cases h3
      · split at h
        · have h3 := Option.some.inj h
          unfold dihO at h3
          split at h3
          · cases h3
            obtain ⟨⟨c1, c2⟩, c3, c4⟩ := grp_chk (prsV (args.getD 0 [])).toNat (by omega) (by omega)
            exact gG_gok (by omega) (by omega) (gens2 c1 c2) c4
          · cases h3
        · split at h
          · have h3 := Option.some.inj h
            unfold symO at h3
            split at h3
            · cases h3
              obtain ⟨o, ho, _⟩ := (sym_ok (prsV (args.getD 0 [])).toNat (by omega) (by omega)).i
              exact gG_gok (by omega) (by omega) (gens_ok _ (by omega) (by omega)) (by rw [ho]; rfl)
            · cases h3
          · split at h
            · have h3 := Option.some.inj h
              unfold solO at h3
              split at h3
              · cases h3
                exact sol_gok _ (by omega) (by omega) _
              · cases h3
            · cases h
    · cases h
theorem rlG_gok {g : List (List Int)} (hB : gokB g = true) (line : List UInt8) : gokB (rlG g line) = true := by
  unfold rlG
  split
  · exact hB
  · split
    · rename_i h; exact ng_gok h
    · exact hB
theorem wrd_bd (line : List UInt8) (hl : line.length ≤ 1048575) : (∀ i, i < (rlA line).length → ((rlA line).getD i []).length ≤ 1048575) ∧ (rlA line).length ≤ 1048576 := by
  have h1 := (wrdG_pos (byB [32]) line).2
  have h2 := wrdG_el (byB [32]) line
  unfold rlA
  refine ⟨fun i hi => ?_, by rw [List.length_drop]; omega⟩
  have := h2 (((wrdG (byB [32]) line).drop 1).getD i []) (List.mem_of_mem_drop (by rw [getD_get _ _ _ hi]; exact List.getElem_mem _))
  omega
theorem rlT_len {g : List (List Int)} (hB : gokB g = true) (line : List UInt8) : (rlT g line).length ≤ 140737488355328 := by
  have hgl := (perm_bd hB).1
  unfold rlT
  split
  · decide
  · split
    · rename_i G h
      have := (perm_bd (ng_gok h)).1
      have := fI_len (G.length : Int) (by omega)
      unfold ordS
      simp only [List.length_append, List.length_cons, List.length_nil]; omega
    · decide
    · unfold tlT
      split
      · exact plnS_len hB _
      split
      · exact wlnS_len g _ _
      split
      · exact nlnS_len g _ _ (by omega)
      · decide
theorem impl_newGroup_d (s2 : Bool) (w : List UInt8) (args : List (List UInt8)) (hl : args.length ≤ 1048576) (hw : ∀ i, i < args.length → (args.getD i []).length ≤ 1048575) (r : List AV)
    (h0 : ngO w args = none → r = [.nil, .d true .bool false, .d true .bool false]) (h1 : ngO w args = some none → r = [.nil, .d true .bool true, .d true .bool false])
    (h2 : ∀ G, ngO w args = some (some G) → r = [.d true (.sl (.sl .int)) G, .d true .bool true, .d true .bool true]) :
    AC Tryz.prog 30 [.arr .mix [.str w, .int (args.length : Nat)], .d s2 (.sl .str) args] [] r [] := by
  have h := impl_newGroup s2 w args hl hw
  cases hO : ngO w args with
  | none => rw [h0 hO]; exact h _ _ (fun _ => ⟨rfl, rfl⟩) (fun e => by rw [hO] at e; cases e) (fun G e => by rw [hO] at e; cases e)
  | some o =>
    cases o with
    | none => rw [h1 hO]; exact h _ _ (fun e => by rw [hO] at e; cases e) (fun _ => ⟨rfl, rfl⟩) (fun G e => by rw [hO] at e; cases e)
    | some G => rw [h2 G hO]; exact AC.frzw3 (h _ _ (fun e => by rw [hO] at e; cases e) (fun e => by rw [hO] at e; cases e) (fun G2 e => by rw [hO] at e; cases e; exact ⟨rfl, rfl⟩))
/-- impl.RunLine at a group -/
theorem impl_RunLine (sh : Bool) (g : List (List Int)) (line : List UInt8) (hB : gokB g = true) (hll : line.length ≤ 1048575) :
    AC Tryz.prog 13 [.d sh (.sl (.sl .int)) g, .d true .str line] [] [.d true (.sl (.sl .int)) (rlG g line), .d true .str (rlT g line)] [] := by
  obtain ⟨⟨hg1, hg2⟩, hgp⟩ := perm_bd hB
  have hx : ∀ i, i < g.length → (g.getD i []).length ≤ 1048576 := fun i hi => by have := (hgp i hi).1.1; omega
  have hgl : g.length ≤ 1048576 := by omega
  have q0 : 0 < 2 := by decide
  have q1 : 2 ≤ 1000 := by decide
  have hS := strings_Split line 32 (by omega)
  have hP := wrdG_pos (byB [32]) line
  obtain ⟨ha1, ha2⟩ := wrd_bd line hll
  have hN := impl_newGroup_d true (rlW line) (rlA line) ha2 ha1
  have hA : rlA line = (wrdG (byB [32]) line).drop 1 := rfl
  have hW : rlW line = (wrdG (byB [32]) line).getD 0 [] := rfl
  have hwl := impl_wordLine sh g (rlW line) ((rlA line).getD 0 []) ((rlA line).length : Nat) hgl hx
  have hml : ((rlA line).map prsV).length = (rlA line).length := List.length_map ..
  have hnl := impl_numberLine sh true g (rlW line) ((rlA line).map prsV) hgl hx
  rw [hml] at hnl
  have hin := impl_ints_both true (rlA line) ha2 (fun i hi => by have := ha1 i hi; omega)
  have hpl := impl_plainLine sh g (rlW line) hB
  unfold rlG rlT
  have hng := fun G => ng_gok (w := rlW line) (args := rlA line) (G := G)
  unfold tlT
  generalize rlA line = args at *
  generalize rlW line = w at *
  generalize wrdG (byB [32]) line = ws at *
  refine AC_of tauOk 86 0 [4, 5] Tryz.func13 rfl (by kernel_rfl) rfl rfl rfl rfl rfl ?_
  refine ⟨[], true, _, _, impl_copyLists_d sh g hgl hx, List.nodup_nil, rfl, rfl, trivial, fun h1 => ?_, fun h1 => ?_⟩
  · rw [if_pos (show rlB line = true by unfold rlB; rw [decide_eq_true h1]; rfl), if_pos (show rlB line = true by unfold rlB; rw [decide_eq_true h1]; rfl)]
    exact ⟨none, ⟨rfl, rfl, trivial⟩, rfl, rfl⟩
  have h0 : 0 < line.length := List.length_pos_iff.2 h1
  refine ⟨0, rfl, h0, fun h2 => ?_, fun h2 => ?_⟩
  · rw [if_pos (show rlB line = true by unfold rlB; rw [decide_eq_true h2, Bool.or_true]), if_pos (show rlB line = true by unfold rlB; rw [decide_eq_true h2, Bool.or_true])]
    exact ⟨none, ⟨rfl, rfl, trivial⟩, rfl, rfl⟩
  have hb : ¬ rlB line = true := by unfold rlB; rw [decide_eq_false h1, decide_eq_false h2]; decide
  rw [if_neg hb, if_neg hb]
  refine ⟨[], true, _, _, hS, List.nodup_nil, rfl, rfl, trivial, 1, rfl, by omega, Nat.le_refl _, ?_⟩
  rw [List.take_length, ← hA]
  refine ⟨0, rfl, by omega, by decide, by decide, rfl, rfl, rfl, rfl, rfl, ?_⟩
  rw [← hW]
  cases hO : ngO w args with
  | some o =>
    cases o with
    | none =>
      refine ⟨[], false, _, _, hN [.nil, .d true .bool true, .d true .bool false] (fun e => by rw [hO] at e; cases e) (fun _ => rfl) (fun G e => by rw [hO] at e; cases e), List.nodup_nil, rfl, rfl, trivial, fun _ => ⟨nofun, fun _ => ?_⟩, nofun⟩
      exact ⟨none, ⟨rfl, rfl, trivial⟩, rfl, rfl⟩
    | some G =>
      have hGl := (perm_bd (hng G hO)).1.2
      refine ⟨[], false, _, _, hN [.d true (.sl (.sl .int)) G, .d true .bool true, .d true .bool true] (fun e => by rw [hO] at e; cases e) (fun e => by rw [hO] at e; cases e) (fun G2 e => by rw [hO] at e; cases e; rfl), List.nodup_nil, rfl, rfl, trivial, fun _ => ⟨fun _ => ?_, nofun⟩, nofun⟩
      have hfl := fI_len (G.length : Int) (by omega)
      refine ⟨[], false, _, _, impl_FormatInt _ (by omega) (by omega), List.nodup_nil, rfl, rfl, trivial, by simp only [List.length_cons, List.length_nil]; omega, ?_⟩
      exact ⟨none, ⟨rfl, rfl, trivial⟩, rfl, rfl⟩
  | none =>
    dsimp only
    refine ⟨[], false, _, _, hN [.nil, .d true .bool false, .d true .bool false] (fun _ => rfl) (fun e => by rw [hO] at e; cases e) (fun G e => by rw [hO] at e; cases e), List.nodup_nil, rfl, rfl, trivial, nofun, fun _ => ⟨nofun, fun _ => ?_⟩⟩
    refine ⟨fun h3 => ?_, fun h3 => ?_⟩
    · rw [if_pos h3]
      refine ⟨q0, q0, [], false, _, _, hpl, List.nodup_nil, rfl, rfl, trivial, ?_⟩
      exact ⟨none, ⟨rfl, rfl, trivial⟩, rfl, rfl⟩
    rw [if_neg h3]
    refine ⟨fun h4 => ?_, fun h4 => ?_⟩
    · have i0 : 0 < args.length := by omega
      refine ⟨some 2000, [0, 2, 3, 4], [1, 5, 6], by kernel_rfl, rfl, ?_⟩
      refine ⟨0, rfl, i0, rfl, [], false, _, _, hwl (by have := ha1 0 i0; omega), List.nodup_nil, rfl, rfl, trivial, fun h5 => ?_, fun h5 => ?_⟩
      · rw [if_pos ⟨h4, h5⟩]
        exact ⟨none, ⟨rfl, rfl, trivial⟩, rfl, rfl⟩
      rw [if_neg (fun e => h5 e.2)]
      cases hp : args.all prsB
      · refine ⟨[], false, _, _, hin _ _ (fun _ => ⟨rfl, rfl⟩) (fun h => by rw [hp] at h; cases h), List.nodup_nil, rfl, rfl, trivial, nofun, fun _ => ?_⟩
        exact ⟨none, ⟨rfl, rfl, trivial⟩, rfl, rfl⟩
      · refine ⟨[], true, _, _, hin _ _ (fun h => by rw [hp] at h; cases h) (fun _ => ⟨rfl, rfl⟩), List.nodup_nil, rfl, rfl, trivial, fun _ => ?_, nofun⟩
        refine ⟨rfl, [], false, _, _, hnl, List.nodup_nil, rfl, rfl, trivial, ?_⟩
        exact ⟨none, ⟨rfl, rfl, trivial⟩, rfl, rfl⟩
    · rw [if_neg (fun e => h4 e.1)]
      cases hp : args.all prsB
      · refine ⟨[], false, _, _, hin _ _ (fun _ => ⟨rfl, rfl⟩) (fun h => by rw [hp] at h; cases h), List.nodup_nil, rfl, rfl, trivial, nofun, fun _ => ?_⟩
        exact ⟨none, ⟨rfl, rfl, trivial⟩, rfl, rfl⟩
      · refine ⟨[], true, _, _, hin _ _ (fun h => by rw [hp] at h; cases h) (fun _ => ⟨rfl, rfl⟩), List.nodup_nil, rfl, rfl, trivial, fun _ => ?_, nofun⟩
        refine ⟨rfl, [], false, _, _, hnl, List.nodup_nil, rfl, rfl, trivial, ?_⟩
        exact ⟨none, ⟨rfl, rfl, trivial⟩, rfl, rfl⟩
/-- a session's group and output behind its first k lines -/
def rsF (ls : List (List UInt8)) : Nat → List (List Int) × List UInt8
  | 0 => (gG 4 [turnL 4], [])
  | k + 1 => (rlG (rsF ls k).1 (ls.getD k []), if rlT (rsF ls k).1 (ls.getD k []) ≠ [] then (rsF ls k).2 ++ (rlT (rsF ls k).1 (ls.getD k []) ++ [10]) else (rsF ls k).2)
theorem rsF_gok (ls : List (List UInt8)) : ∀ k, gokB (rsF ls k).1 = true
  | 0 => by
    obtain ⟨⟨c1, c2⟩, c3, c4⟩ := grp_chk 4 (by decide) (by decide)
    exact gG_gok (by decide) (by decide) (gens1 c1) c3
  | k + 1 => rlG_gok (rsF_gok ls k) _
theorem rsF_len (ls : List (List UInt8)) (B : Nat) (hB : 140737488355328 ≤ B) : ∀ k, (rsF ls k).2.length ≤ k * (B + 1)
  | 0 => Nat.zero_le _
  | k + 1 => by
    have ih := rsF_len ls B hB k
    have h := Nat.le_trans (rlT_len (rsF_gok ls k) (ls.getD k [])) hB
    rw [Nat.add_mul, Nat.one_mul, rsF]
    dsimp only
    split
    · simp only [List.length_append, List.length_cons, List.length_nil]; omega
    · omega
def rsT (t : List UInt8) : List UInt8 := if (lnsL t).length > 40 then [] else (rsF (lnsL t) (lnsL t).length).2
def rsN (t : List UInt8) : Int := if (lnsL t).length > 40 then -1 else ((lnsL t).length : Nat)
theorem lns_bd (t : List UInt8) : (lnsL t).length ≤ t.length + 1 ∧ ∀ i, i < (lnsL t).length → ((lnsL t).getD i []).length ≤ t.length := by
  have h1 := (wrdG_pos (byB [10]) t).2
  have h2 := wrdG_el (byB [10]) t
  have hs : ∀ x ∈ lnsL t, x ∈ wrdG (byB [10]) t := fun x hx => by
    unfold lnsL at hx
    split at hx
    · exact List.mem_of_mem_take hx
    · exact hx
  refine ⟨?_, fun i hi => h2 _ (hs _ (by rw [getD_get _ _ _ hi]; exact List.getElem_mem _))⟩
  unfold lnsL
  split
  · rw [List.length_take]; omega
  · exact h1
theorem impl_NewConsole_d : AC Tryz.prog 12 [] [] [.d true (.sl (.sl .int)) (gG 4 [turnL 4])] [] := by
  refine AC.frzwd (E := 29) (e := 3) (d := true) ?_
  refine AC_of tauOk 8 0 [0] Tryz.func12 rfl (by kernel_rfl) rfl rfl rfl rfl rfl ?_
  refine ⟨[], false, _, _, impl_CyclicGroup_s 4 (by decide) (by decide), List.nodup_nil, rfl, rfl, trivial, fun _ => ?_, nofun⟩
  exact ⟨some 0, ⟨⟨rfl, rfl⟩, trivial⟩, ⟨rfl, rfl⟩, rfl⟩
/-- impl.RunSession -/
theorem impl_RunSession (t : List UInt8) (hl : t.length ≤ 1048575) : AC Tryz.prog 8 [.d true .str t] [] [.d true .str (rsT t), I (rsN t)] [] := by
  obtain ⟨hb1, hb2⟩ := lns_bd t
  have hL := impl_SplitLines t (by omega)
  unfold rsT rsN
  generalize lnsL t = ls at *
  refine AC_of tauOk 40 0 [2, 3] Tryz.func8 rfl (by kernel_rfl) rfl rfl rfl rfl rfl ?_
  refine ⟨[], false, _, _, hL, List.nodup_nil, rfl, rfl, trivial, fun h1 => ?_, fun h1 => ?_⟩
  · rw [if_pos (show ls.length > 40 by omega), if_pos (show ls.length > 40 by omega)]
    exact ⟨none, ⟨rfl, rfl, trivial⟩, rfl, rfl⟩
  · rw [if_neg (show ¬ ls.length > 40 by omega), if_neg (show ¬ ls.length > 40 by omega)]
    refine ⟨[], false, _, _, impl_NewConsole_d, List.nodup_nil, rfl, rfl, trivial, ?_⟩
    refine ⟨Nat, fun k => ⟨[(4, .d true (.sl .str) ls), (5, .d true (.sl (.sl .int)) (rsF ls k).1), (6, .d true .str (rsF ls k).2), (17, .d true (.sl .str) ls), (18, I ls.length), (19, I (k : Nat))], []⟩, fun k => k ≤ ls.length, fun k => ls.length - k, 0, Nat.zero_le _,
      ⟨⟨rfl, rfl⟩, ⟨rfl, rfl, rfl, rfl, rfl, rfl, trivial⟩, trivial⟩, fun k hk => ?_⟩
    dsimp only at hk
    refine ⟨fun h2 => ?_, fun h2 => ?_⟩
    · have hk2 : k < ls.length := by omega
      have hR := impl_RunLine true (rsF ls k).1 (ls.getD k []) (rsF_gok ls k) (by have := hb2 k hk2; omega)
      have e1 : (rsF ls (k + 1)).1 = rlG (rsF ls k).1 (ls.getD k []) := rfl
      have e2 : (rsF ls (k + 1)).2 = if rlT (rsF ls k).1 (ls.getD k []) ≠ [] then (rsF ls k).2 ++ (rlT (rsF ls k).1 (ls.getD k []) ++ [10]) else (rsF ls k).2 := rfl
      refine ⟨k, rfl, hk2, [], false, _, _, hR, List.nodup_nil, rfl, rfl, trivial, fun h3 => ?_, fun h3 => ?_⟩
      · rw [if_pos h3] at e2
        have l1 := rsF_len ls _ (Nat.le_refl _) k
        have l2 := rlT_len (rsF_gok ls k) (ls.getD k [])
        have l3 : k * (140737488355328 + 1) ≤ 40 * (140737488355328 + 1) := Nat.mul_le_mul_right _ (by omega)
        refine ⟨by simp only [List.length_cons, List.length_nil]; omega, by simp only [List.length_append, List.length_cons, List.length_nil]; omega, ?_⟩
        refine ⟨((k + 1 : Nat) : Int), w64_eq (by omega) (by omega) (by omega), k + 1, by dsimp only; omega, by dsimp only; omega, ⟨rfl, rfl⟩, ⟨rfl, rfl, ?_, rfl, rfl, rfl, trivial⟩, trivial⟩
        rw [e2]; rfl
      · rw [if_neg h3] at e2
        refine ⟨((k + 1 : Nat) : Int), w64_eq (by omega) (by omega) (by omega), k + 1, by dsimp only; omega, by dsimp only; omega, ⟨rfl, rfl⟩, ⟨rfl, rfl, ?_, rfl, rfl, rfl, trivial⟩, trivial⟩
        rw [e2]; rfl
    · obtain rfl : k = ls.length := by omega
      exact ⟨none, ⟨rfl, rfl, trivial⟩, rfl, rfl⟩
end Go.Proofs.YtacjiemkbhhhoaaGreatDoor
set_option linter.unusedVariables false
namespace Go.Proofs.YtacjiemkbhhhoaaGreatDoor
open Go Go.Proofs.YtacjiemkbhhhoaaGreatDoor.Ow
def okL (x : List UInt8) : Bool := x.all (fun c => decide (c ≠ 10)) && decide (x.length ≤ 40)
theorem rsF_congr {ls ls' : List (List UInt8)} : ∀ k, (∀ i, i < k → ls.getD i [] = ls'.getD i []) → rsF ls k = rsF ls' k
  | 0, _ => rfl
  | k + 1, h => by
    have ih := rsF_congr k fun i hi => h i (by omega)
    rw [rsF, rsF, ih, h k (by omega)]
theorem rlT_nil (g : List (List Int)) : rlT g [] = [] := rfl
/-- a session of lines that are joined -/
theorem ses_join {ls : List (List UInt8)} (h1 : 1 ≤ ls.length) (h2 : ls.length ≤ 40) (hx : ∀ x ∈ ls, okL x = true) :
    rsT (Lib.join ls [10]) = (rsF ls ls.length).2 ∧ ((ls.length - 1 : Nat) : Int) ≤ rsN (Lib.join ls [10]) ∧ rsN (Lib.join ls [10]) ≤ (ls.length : Nat) := by
  have hw : wrdG (byB [10]) (Lib.join ls [10]) = ls := by
    rw [wrdG_eq]
    refine spl_join (byB [10]) 10 (by rw [byB_one]; rfl) ls (fun e => by rw [e] at h1; simp at h1) fun w hw x hxw => ?_
    have := hx w hw
    unfold okL at this
    simp only [Bool.and_eq_true, List.all_eq_true, decide_eq_true_eq] at this
    rw [byB_one]
    simpa using this.1 x hxw
  have hL : lnsL (Lib.join ls [10]) = if ls.getD (ls.length - 1) [] = [] then ls.take (ls.length - 1) else ls := by unfold lnsL; rw [hw]
  unfold rsT rsN
  rw [hL]
  by_cases hl : ls.getD (ls.length - 1) [] = []
  · rw [if_pos hl]
    have hlt : (ls.take (ls.length - 1)).length = ls.length - 1 := by rw [List.length_take]; omega
    rw [hlt, if_neg (by omega), if_neg (by omega)]
    refine ⟨?_, by omega, by omega⟩
    have e : rsF (ls.take (ls.length - 1)) (ls.length - 1) = rsF ls (ls.length - 1) := rsF_congr _ fun i hi => L_take _ _ _ _ hi
    rw [e]
    obtain ⟨m, hm⟩ : ∃ m, ls.length = m + 1 := ⟨ls.length - 1, by omega⟩
    rw [hm, Nat.add_sub_cancel] at hl ⊢
    rw [rsF]
    dsimp only
    rw [hl, rlT_nil, if_neg (fun h => h rfl)]
  · rw [if_neg hl, if_neg (by omega), if_neg (by omega)]
    exact ⟨rfl, by omega, by omega⟩
end Go.Proofs.YtacjiemkbhhhoaaGreatDoor
set_option linter.unusedVariables false
namespace Go.Proofs.YtacjiemkbhhhoaaGreatDoor
open Go Go.Proofs.YtacjiemkbhhhoaaGreatDoor.Ow
def C4L : List (List Int) := [[0, 1, 2, 3], [1, 2, 3, 0], [2, 3, 0, 1], [3, 0, 1, 2]]
def CubL : List (List Int) := [[0, 1, 2, 3, 4, 5], [0, 1, 3, 2, 5, 4], [0, 1, 4, 5, 3, 2], [0, 1, 5, 4, 2, 3], [1, 0, 2, 3, 5, 4], [1, 0, 3, 2, 4, 5], [1, 0, 4, 5, 2, 3], [1, 0, 5, 4, 3, 2], [2, 3, 0, 1, 5, 4], [2, 3, 1, 0, 4, 5], [2, 3, 4, 5, 0, 1], [2, 3, 5, 4, 1, 0], [3, 2, 0, 1, 4, 5], [3, 2, 1, 0, 5, 4], [3, 2, 4, 5, 1, 0], [3, 2, 5, 4, 0, 1],
  [4, 5, 0, 1, 2, 3], [4, 5, 1, 0, 3, 2], [4, 5, 2, 3, 1, 0], [4, 5, 3, 2, 0, 1], [5, 4, 0, 1, 3, 2], [5, 4, 1, 0, 2, 3], [5, 4, 2, 3, 0, 1], [5, 4, 3, 2, 1, 0]]
set_option maxRecDepth 100000
theorem c4_f : (fndG 4 [turnL 4]).getD [] = C4L := by decide +kernel
theorem cub_f : (fndG 6 (solG 3 false)).getD [] = CubL := by decide +kernel
theorem c4_g : gG 4 [turnL 4] = C4L := by
  obtain ⟨⟨c1, c2⟩, c3, c4⟩ := grp_chk 4 (by decide) (by decide)
  unfold gG
  rw [grpO_fnd (by decide) (by decide) (gen_q (gens1 c1))]
  exact c4_f
theorem cub_g : solL 3 false = CubL := by
  obtain ⟨c1, c2, c3⟩ := sol_chk 3 (by decide) (by decide) false
  show gG 6 (solG 3 false) = _
  unfold gG
  have h := grpO_fnd (n := 6) (gens := solG 3 false) (by decide) (by decide) (gen_q (genP_of (n := 6) c1 c2))
  rw [h]
  exact cub_f
theorem g_id (g : List (List Int)) {line : List UInt8} (h : (ngO (rlW line) (rlA line)).isNone = true) : rlG g line = g := by
  unfold rlG
  split
  · rfl
  · cases h2 : ngO (rlW line) (rlA line) with
    | none => rfl
    | some x => rw [h2] at h; cases h
theorem woa_32 : woaL 3 2 = [0, 0, 0, 1, 0, 1, 1, 1] := by
  unfold woaL
  rw [srt_uniq (R := [[0], [0, 0, 1], [0, 1, 1], [1]]) (Q := woaS 3 2 3) (by unfold AscL; decide +kernel) (by decide +kernel)]
  rfl
theorem srt_0123 : srtI [0, 1, 2, 3] = [0, 1, 2, 3] :=
  List.Perm.eq_of_pairwise (le := fun x y : Int => x ≤ y) (fun a b _ _ h1 h2 => by omega) (srtI_s _) (by decide) (srtI_p _)
theorem orb_c4 : orbL C4L = [[0, 1, 2, 3]] := by
  have h : orbL C4L = [srtI [0, 1, 2, 3]] := by kernel_rfl
  rw [h, srt_0123]
theorem cf0 : rlT C4L [105, 110, 100, 101, 120] = [49, 42, 115, 49, 94, 52, 32, 43, 32, 49, 42, 115, 50, 94, 50, 32, 43, 32, 50, 42, 115, 52] := by decide +kernel
theorem cf1 : rlT C4L [99, 111, 117, 110, 116, 32, 50] = [111, 114, 100, 101, 114, 32, 52, 32, 99, 111, 108, 111, 114, 105, 110, 103, 115, 32, 54, 32, 101, 120, 99, 104, 97, 110, 103, 101, 100, 32, 52] := by decide +kernel
theorem cf2 : rlT C4L [112, 97, 116, 116, 101, 114, 110, 115, 32, 50] = [48, 48, 48, 48, 32, 48, 48, 48, 49, 32, 48, 48, 49, 49, 32, 48, 49, 48, 49, 32, 48, 49, 49, 49, 32, 49, 49, 49, 49] := by decide +kernel
theorem cf3 : rlT C4L [101, 120, 99, 104, 97, 110, 103, 101, 100, 32, 50] = [48, 48, 48, 48, 32, 48, 48, 48, 49, 32, 48, 48, 49, 49, 32, 48, 49, 48, 49] := by decide +kernel
theorem cf4 : rlT C4L [99, 97, 110, 111, 110, 32, 49, 48, 48, 48] = [48, 48, 48, 49] := by decide +kernel
theorem cf5 : rlT C4L [116, 119, 111] = [49, 44, 49, 44, 50, 44, 49, 44, 49] := by decide +kernel
theorem cf6 : rlT C4L [111, 114, 98, 105, 116, 115] = [48, 44, 49, 44, 50, 44, 51] := by
  have h : rlT C4L [111, 114, 98, 105, 116, 115] = Lib.join ((orbL C4L).map fmtL) [32] := by kernel_rfl
  rw [h, orb_c4]; decide +kernel
theorem cg0 : rlT CubL [99, 111, 117, 110, 116, 32, 50] = [111, 114, 100, 101, 114, 32, 50, 52, 32, 99, 111, 108, 111, 114, 105, 110, 103, 115, 32, 49, 48, 32, 101, 120, 99, 104, 97, 110, 103, 101, 100, 32, 54] := by decide +kernel
theorem cg1 : rlT CubL [119, 111, 114, 100, 32, 48, 48, 49, 48, 49, 49] = [48, 48, 49, 48, 49, 49, 32, 112, 101, 114, 105, 111, 100, 32, 54, 32, 108, 121, 110, 100, 111, 110] := by decide +kernel
theorem cg2 : rlT CubL [102, 97, 99, 116, 111, 114, 115, 32, 49, 48, 49, 49, 48] = [49, 32, 48, 49, 49, 32, 48] := by decide +kernel
theorem cg3 : rlT CubL [110, 101, 99, 107, 108, 97, 99, 101, 115, 32, 54, 32, 50] = [49, 52, 32, 49, 51, 32, 57] := by decide +kernel
theorem cg4 : rlT CubL [97, 108, 108, 32, 51, 32, 50] = [48, 48, 48, 49, 48, 49, 49, 49] := by
  have h : rlT CubL [97, 108, 108, 32, 51, 32, 50] = formatW ((woaL 3 2).take 10) := by kernel_rfl
  rw [h, woa_32]; decide +kernel
theorem cg5 : rlT CubL [110, 101, 99, 107, 108, 97, 99, 101, 32, 52, 32, 50, 32, 51] = [48, 49, 48, 49] := by decide +kernel
theorem cg6 : rlT CubL [103, 114, 97, 112, 104, 115, 32, 52] = [49, 49] := by decide +kernel
theorem cg7 : rlT CubL [103, 114, 97, 112, 104, 115, 32, 52, 32, 51] = [51] := by decide +kernel
theorem ch0 : rlT CubL [116, 114, 101, 101, 32, 40, 40, 41, 40, 41, 41] = [50, 32, 49] := by decide +kernel
theorem ch1 : rlT CubL [119, 104, 97, 116] = [117, 110, 107, 110, 111, 119, 110, 32, 99, 111, 109, 109, 97, 110, 100] := by decide +kernel
theorem nn_all : [[105, 110, 100, 101, 120], [99, 111, 117, 110, 116, 32, 50], [112, 97, 116, 116, 101, 114, 110, 115, 32, 50], [101, 120, 99, 104, 97, 110, 103, 101, 100, 32, 50], [99, 97, 110, 111, 110, 32, 49, 48, 48, 48], [116, 119, 111], [111, 114, 98, 105, 116, 115], [99, 111, 117, 110, 116, 32, 50], [119, 111, 114, 100, 32, 48, 48, 49, 48, 49, 49], [102, 97, 99, 116, 111, 114, 115, 32, 49, 48, 49, 49, 48], [110, 101, 99, 107, 108, 97, 99, 101, 115, 32, 54, 32, 50], [97, 108, 108, 32, 51, 32, 50], [110, 101, 99, 107, 108, 97, 99, 101, 32, 52, 32, 50, 32, 51], [103, 114, 97, 112, 104, 115, 32, 52], [103, 114, 97, 112, 104, 115, 32, 52, 32, 51], [116, 114, 101, 101, 32, 40, 40, 41, 40, 41, 41], [119, 104, 97, 116]].all (fun x => (ngO (rlW x) (rlA x)).isNone) = true := by decide +kernel
def t1L : List Int := [0, 1, 1, 2, 4, 9, 20, 48, 115]
def t2L : List Int := [0, 1, 1, 1, 2, 3, 6, 11, 23]
def treS (a : Nat) : List UInt8 := (fmtI (t1L.getD a 0) ++ [32]) ++ fmtI (t2L.getD a 0)
def lnA (a : Nat) : List UInt8 := [116, 114, 101, 101, 115, 32] ++ fmtI (a : Nat)
theorem tre_ok : ∀ a, a < 9 → 1 ≤ a → rlT CubL (lnA a) = treS a ∧ (ngO (rlW (lnA a)) (rlA (lnA a))).isNone = true ∧ okL (lnA a) = true := by decide +kernel
def inL (a : Nat) : List (List UInt8) := [[99, 121, 99, 108, 105, 99, 32, 52], [105, 110, 100, 101, 120], [99, 111, 117, 110, 116, 32, 50], [112, 97, 116, 116, 101, 114, 110, 115, 32, 50], [101, 120, 99, 104, 97, 110, 103, 101, 100, 32, 50], [99, 97, 110, 111, 110, 32, 49, 48, 48, 48], [116, 119, 111], [111, 114, 98, 105, 116, 115], [115, 111, 108, 105, 100, 32, 51, 32, 48], [99, 111, 117, 110, 116, 32, 50], [119, 111, 114, 100, 32, 48, 48, 49, 48, 49, 49], [102, 97, 99, 116, 111, 114, 115, 32, 49, 48, 49, 49, 48], [110, 101, 99, 107, 108, 97, 99, 101, 115, 32, 54, 32, 50], [97, 108, 108, 32, 51, 32, 50], [110, 101, 99, 107, 108, 97, 99, 101, 32, 52, 32, 50, 32, 51], [103, 114, 97, 112, 104, 115, 32, 52], [103, 114, 97, 112, 104, 115, 32, 52, 32, 51], lnA a, [116, 114, 101, 101, 32, 40, 40, 41, 40, 41, 41], [119, 104, 97, 116]]
def ouL (a : Nat) : List (List UInt8) := [[111, 114, 100, 101, 114, 32, 52], [49, 42, 115, 49, 94, 52, 32, 43, 32, 49, 42, 115, 50, 94, 50, 32, 43, 32, 50, 42, 115, 52], [111, 114, 100, 101, 114, 32, 52, 32, 99, 111, 108, 111, 114, 105, 110, 103, 115, 32, 54, 32, 101, 120, 99, 104, 97, 110, 103, 101, 100, 32, 52], [48, 48, 48, 48, 32, 48, 48, 48, 49, 32, 48, 48, 49, 49, 32, 48, 49, 48, 49, 32, 48, 49, 49, 49, 32, 49, 49, 49, 49], [48, 48, 48, 48, 32, 48, 48, 48, 49, 32, 48, 48, 49, 49, 32, 48, 49, 48, 49], [48, 48, 48, 49], [49, 44, 49, 44, 50, 44, 49, 44, 49], [48, 44, 49, 44, 50, 44, 51], [111, 114, 100, 101, 114, 32, 50, 52], [111, 114, 100, 101, 114, 32, 50, 52, 32, 99, 111, 108, 111, 114, 105, 110, 103, 115, 32, 49, 48, 32, 101, 120, 99, 104, 97, 110, 103, 101, 100, 32, 54], [48, 48, 49, 48, 49, 49, 32, 112, 101, 114, 105, 111, 100, 32, 54, 32, 108, 121, 110, 100, 111, 110], [49, 32, 48, 49, 49, 32, 48], [49, 52, 32, 49, 51, 32, 57], [48, 48, 48, 49, 48, 49, 49, 49], [48, 49, 48, 49], [49, 49], [51], treS a, [50, 32, 49], [117, 110, 107, 110, 111, 119, 110, 32, 99, 111, 109, 109, 97, 110, 100]]
def preL : List UInt8 := [99, 121, 99, 108, 105, 99, 32, 52, 10, 105, 110, 100, 101, 120, 10, 99, 111, 117, 110, 116, 32, 50, 10, 112, 97, 116, 116, 101, 114, 110, 115, 32, 50, 10, 101, 120, 99, 104, 97, 110, 103, 101, 100, 32, 50, 10, 99, 97, 110, 111, 110, 32, 49, 48, 48, 48, 10, 116, 119, 111, 10, 111, 114, 98, 105, 116, 115, 10, 115, 111, 108, 105, 100, 32, 51, 32, 48, 10, 99, 111, 117, 110, 116, 32, 50, 10, 119, 111, 114, 100, 32, 48, 48, 49, 48, 49, 49, 10, 102, 97, 99, 116, 111, 114, 115, 32, 49, 48, 49, 49, 48, 10, 110, 101, 99, 107, 108, 97, 99, 101, 115, 32, 54, 32, 50, 10, 97, 108, 108, 32, 51, 32, 50, 10, 110, 101, 99, 107, 108, 97, 99, 101, 32, 52, 32, 50, 32, 51, 10, 103, 114, 97, 112, 104, 115, 32, 52, 10, 103, 114, 97, 112, 104, 115, 32, 52, 32, 51, 10, 116, 114, 101, 101, 115, 32]
def sufL : List UInt8 := [10, 116, 114, 101, 101, 32, 40, 40, 41, 40, 41, 41, 10, 119, 104, 97, 116]
theorem txt_eq : ∀ a, a < 9 → 1 ≤ a → (preL ++ fmtI (a : Nat)) ++ sufL = Lib.join (inL a) [10] := by decide +kernel
theorem lns_out : ∀ a, a < 9 → 1 ≤ a → lnsL ((ouL a).flatMap fun x => x ++ [10]) = ouL a := by decide +kernel
theorem out_len : ∀ a, a < 9 → 1 ≤ a → ((ouL a).flatMap fun x => x ++ [10]).length ≤ 10000 := by decide +kernel
theorem t_b : ∀ a, a < 9 → (0 ≤ t1L.getD a 0 ∧ t1L.getD a 0 ≤ 200) ∧ 0 ≤ t2L.getD a 0 ∧ t2L.getD a 0 ≤ 200 := by decide
theorem cyc4 : ngO (rlW [99, 121, 99, 108, 105, 99, 32, 52]) (rlA [99, 121, 99, 108, 105, 99, 32, 52]) = some (some (gG 4 [turnL 4])) := by kernel_rfl
theorem sol3 : ngO (rlW [115, 111, 108, 105, 100, 32, 51, 32, 48]) (rlA [115, 111, 108, 105, 100, 32, 51, 32, 48]) = some (some (solL 3 false)) := by kernel_rfl
theorem rl_some {g G : List (List Int)} {line : List UInt8} (hb : rlB line = false) (h : ngO (rlW line) (rlA line) = some (some G)) : rlG g line = G ∧ rlT g line = ordS ++ fmtI (G.length : Nat) := by
  unfold rlG rlT
  rw [if_neg (by rw [hb]; decide), if_neg (by rw [hb]; decide), h]
  exact ⟨rfl, rfl⟩
theorem ses_cfm (a : Nat) (h9 : a < 9) (h1 : 1 ≤ a) : (rsF (inL a) 20).2 = (ouL a).flatMap fun x => x ++ [10] := by
  have hn := nn_all
  rw [List.all_eq_true] at hn
  have step : ∀ (k : Nat) (G G' : List (List Int)) (O x line : List UInt8), rsF (inL a) k = (G, O) → (inL a).getD k [] = line → rlG G line = G' → rlT G line = x → x ≠ [] → rsF (inL a) (k + 1) = (G', O ++ (x ++ [10])) := by
    intro k G G' O x line e1 e2 e3 e4 e5
    rw [rsF, e1, e2]
    dsimp only
    rw [e3, e4, if_pos e5]
  obtain ⟨q1, q2, q3⟩ := tre_ok a h9 h1
  obtain ⟨r1, r2⟩ := rl_some (g := C4L) (line := [99, 121, 99, 108, 105, 99, 32, 52]) (by decide +kernel) cyc4
  obtain ⟨r3, r4⟩ := rl_some (g := C4L) (line := [115, 111, 108, 105, 100, 32, 51, 32, 48]) (by decide +kernel) sol3
  rw [c4_g] at r1 r2
  rw [cub_g] at r3 r4
  rw [show ordS ++ fmtI (C4L.length : Nat) = [111, 114, 100, 101, 114, 32, 52] by decide +kernel] at r2
  rw [show ordS ++ fmtI (CubL.length : Nat) = [111, 114, 100, 101, 114, 32, 50, 52] by decide +kernel] at r4
  have e0 : rsF (inL a) 0 = (C4L, []) := by rw [rsF, c4_g]
  have e1 := step 0 _ _ _ _ _ e0 rfl r1 r2 (by simp)
  have e2 := step 1 _ _ _ _ _ e1 rfl (g_id C4L (hn [105, 110, 100, 101, 120] (by simp))) cf0 (by simp)
  have e3 := step 2 _ _ _ _ _ e2 rfl (g_id C4L (hn [99, 111, 117, 110, 116, 32, 50] (by simp))) cf1 (by simp)
  have e4 := step 3 _ _ _ _ _ e3 rfl (g_id C4L (hn [112, 97, 116, 116, 101, 114, 110, 115, 32, 50] (by simp))) cf2 (by simp)
  have e5 := step 4 _ _ _ _ _ e4 rfl (g_id C4L (hn [101, 120, 99, 104, 97, 110, 103, 101, 100, 32, 50] (by simp))) cf3 (by simp)
  have e6 := step 5 _ _ _ _ _ e5 rfl (g_id C4L (hn [99, 97, 110, 111, 110, 32, 49, 48, 48, 48] (by simp))) cf4 (by simp)
  have e7 := step 6 _ _ _ _ _ e6 rfl (g_id C4L (hn [116, 119, 111] (by simp))) cf5 (by simp)
  have e8 := step 7 _ _ _ _ _ e7 rfl (g_id C4L (hn [111, 114, 98, 105, 116, 115] (by simp))) cf6 (by simp)
  have e9 := step 8 _ _ _ _ _ e8 rfl r3 r4 (by simp)
  have e10 := step 9 _ _ _ _ _ e9 rfl (g_id CubL (hn [99, 111, 117, 110, 116, 32, 50] (by simp))) cg0 (by simp)
  have e11 := step 10 _ _ _ _ _ e10 rfl (g_id CubL (hn [119, 111, 114, 100, 32, 48, 48, 49, 48, 49, 49] (by simp))) cg1 (by simp)
  have e12 := step 11 _ _ _ _ _ e11 rfl (g_id CubL (hn [102, 97, 99, 116, 111, 114, 115, 32, 49, 48, 49, 49, 48] (by simp))) cg2 (by simp)
  have e13 := step 12 _ _ _ _ _ e12 rfl (g_id CubL (hn [110, 101, 99, 107, 108, 97, 99, 101, 115, 32, 54, 32, 50] (by simp))) cg3 (by simp)
  have e14 := step 13 _ _ _ _ _ e13 rfl (g_id CubL (hn [97, 108, 108, 32, 51, 32, 50] (by simp))) cg4 (by simp)
  have e15 := step 14 _ _ _ _ _ e14 rfl (g_id CubL (hn [110, 101, 99, 107, 108, 97, 99, 101, 32, 52, 32, 50, 32, 51] (by simp))) cg5 (by simp)
  have e16 := step 15 _ _ _ _ _ e15 rfl (g_id CubL (hn [103, 114, 97, 112, 104, 115, 32, 52] (by simp))) cg6 (by simp)
  have e17 := step 16 _ _ _ _ _ e16 rfl (g_id CubL (hn [103, 114, 97, 112, 104, 115, 32, 52, 32, 51] (by simp))) cg7 (by simp)
  have e18 := step 17 _ _ _ _ _ e17 rfl (g_id CubL q2) q1 (by unfold treS; simp)
  have e19 := step 18 _ _ _ _ _ e18 rfl (g_id CubL (hn [116, 114, 101, 101, 32, 40, 40, 41, 40, 41, 41] (by simp))) ch0 (by simp)
  have e20 := step 19 _ _ _ _ _ e19 rfl (g_id CubL (hn [119, 104, 97, 116] (by simp))) ch1 (by simp)
  rw [e20]
  simp only [ouL, List.flatMap_cons, List.flatMap_nil, List.append_assoc, List.nil_append, List.append_nil]
  all_goals rfl
/-- laws.FnConfirms -/
theorem laws_FnConfirms (code : List Int) : AC Tryz.prog 3 [.d true (.sl .u8) code] [] [.d true .bool true] [] := by
  have hb := mkNum_b code 1
  obtain ⟨m, hm⟩ : ∃ m : Nat, mkNum code 1 = (m : Int) := ⟨(mkNum code 1).toNat, by omega⟩
  obtain ⟨a, ha, h9, h1⟩ : ∃ a : Nat, a = 1 + m % 8 ∧ a < 9 ∧ 1 ≤ a := ⟨1 + m % 8, rfl, by omega, by omega⟩
  have hM := spec_MakeNum code
  have hp : preL.length ≤ 1000 := by decide
  have hs : sufL.length ≤ 1000 := by decide
  have hfa := fI_len (a : Int) (by omega)
  have hj := txt_eq a h9 h1
  have hok : ∀ x ∈ inL a, okL x = true := by
    have hq := (tre_ok a h9 h1).2.2
    intro x hx
    simp only [inL, List.mem_cons, List.not_mem_nil, or_false] at hx
    rcases hx with rfl | rfl | rfl | rfl | rfl | rfl | rfl | rfl | rfl | rfl | rfl | rfl | rfl | rfl | rfl | rfl | rfl | rfl | rfl | rfl
    all_goals first | exact hq | decide
  have hS := (ses_join (ls := inL a) (by show 1 ≤ 20; decide) (by show 20 ≤ 40; decide) hok).1
  have hS2 := ses_cfm a h9 h1
  have hlo := lns_out a h9 h1
  have hol := out_len a h9 h1
  obtain ⟨⟨b1, b2⟩, b3, b4⟩ := t_b a h9
  have hl1 := fI_len (t1L.getD a 0) (by omega)
  have hl2 := fI_len (t2L.getD a 0) (by omega)
  have F1 := impl_FormatInt (t1L.getD a 0) (by omega) (by omega)
  have F2 := impl_FormatInt (t2L.getD a 0) (by omega) (by omega)
  have d9 : 9 ≤ 1000 := by decide
  have lb1 : (fmtI (t1L.getD a 0)).length + [32].length ≤ 4611686018427387904 := by simp only [List.length_cons, List.length_nil]; omega
  have lb2 : (fmtI (t1L.getD a 0) ++ [32]).length + (fmtI (t2L.getD a 0)).length ≤ 4611686018427387904 := by simp only [List.length_append, List.length_cons, List.length_nil]; omega
  have hR := impl_RunSession ((preL ++ fmtI (a : Nat)) ++ sufL) (by simp only [List.length_append]; omega)
  have e1 : rsT ((preL ++ fmtI (a : Nat)) ++ sufL) = (ouL a).flatMap fun x => x ++ [10] := by rw [hj, hS, ← hS2]; rfl
  rw [e1] at hR
  have hL := impl_SplitLines ((ouL a).flatMap fun x => x ++ [10]) (by omega)
  rw [hlo] at hL
  generalize ((ouL a).flatMap fun x => x ++ [10]) = OT at *
  refine AC_of tauOk 161 0 [2] Tryz.func3 rfl (by kernel_rfl) rfl rfl rfl rfl rfl ?_
  refine ⟨fun h => ?_, fun hl => ?_⟩
  · exact ⟨none, ⟨rfl, trivial⟩, rfl, rfl⟩
  refine ⟨[], false, _, _, hM (by omega) 1 (by decide), List.nodup_nil, rfl, rfl, trivial, ?_⟩
  rw [hm]
  refine ⟨by decide, ((m % 8 : Nat) : Int), Int.ofNat_tmod m 8, (a : Int), w64_eq (by omega) (by omega) (by omega), ?_⟩
  refine ⟨[], false, _, _, impl_FormatInt (a : Nat) (by omega) (by omega), List.nodup_nil, rfl, rfl, trivial, (show preL.length + (fmtI (a : Nat)).length ≤ 4611686018427387904 by omega), (show (preL ++ fmtI (a : Nat)).length + sufL.length ≤ 4611686018427387904 by rw [List.length_append]; omega), ?_⟩
  refine ⟨[], false, _, _, hR, List.nodup_nil, rfl, rfl, trivial, [], false, _, _, hL, List.nodup_nil, rfl, rfl, trivial, ?_⟩
  refine ⟨some 5000, .take 1 (.take 7 (.two 0 (.two 2 (.two 3 (.two 4 (.two 5 (.one 6 (.one 8 (.one 9 (.one 10 (.one 11 (.one 12 (.done))))))) 6 (.two 5 (.one 8 (.one 9 (.one 10 (.one 11 (.one 12 (.done)))))) 8 (.two 5 (.one 9 (.one 10 (.one 11 (.one 12 (.done))))) 9 (.two 5 (.one 10 (.one 11 (.one 12 (.done)))) 10 (.one 5 (.one 11 (.one 12 (.done)))))))) 6 (.two 4 (.two 5 (.one 8 (.one 9 (.one 10 (.one 11 (.one 12 (.done)))))) 8 (.two 5 (.one 9 (.one 10 (.one 11 (.one 12 (.done))))) 9 (.two 5 (.one 10 (.one 11 (.one 12 (.done)))) 10 (.one 5 (.one 11 (.one 12 (.done))))))) 8 (.two 4 (.two 5 (.one 9 (.one 10 (.one 11 (.one 12 (.done))))) 9 (.two 5 (.one 10 (.one 11 (.one 12 (.done)))) 10 (.one 5 (.one 11 (.one 12 (.done)))))) 9 (.one 4 (.two 5 (.one 10 (.one 11 (.one 12 (.done)))) 10 (.one 5 (.one 11 (.one 12 (.done))))))))) 6 (.two 3 (.two 4 (.two 5 (.one 8 (.one 9 (.one 10 (.one 11 (.one 12 (.done)))))) 8 (.two 5 (.one 9 (.one 10 (.one 11 (.one 12 (.done))))) 9 (.two 5 (.one 10 (.one 11 (.one 12 (.done)))) 10 (.one 5 (.one 11 (.one 12 (.done))))))) 8 (.two 4 (.two 5 (.one 9 (.one 10 (.one 11 (.one 12 (.done))))) 9 (.two 5 (.one 10 (.one 11 (.one 12 (.done)))) 10 (.one 5 (.one 11 (.one 12 (.done)))))) 9 (.one 4 (.two 5 (.one 10 (.one 11 (.one 12 (.done)))) 10 (.one 5 (.one 11 (.one 12 (.done)))))))) 8 (.two 3 (.two 4 (.two 5 (.one 9 (.one 10 (.one 11 (.one 12 (.done))))) 9 (.two 5 (.one 10 (.one 11 (.one 12 (.done)))) 10 (.one 5 (.one 11 (.one 12 (.done)))))) 9 (.one 4 (.two 5 (.one 10 (.one 11 (.one 12 (.done)))) 10 (.one 5 (.one 11 (.one 12 (.done))))))) 9 (.one 3 (.one 4 (.two 5 (.one 10 (.one 11 (.one 12 (.done)))) 10 (.one 5 (.one 11 (.one 12 (.done)))))))))) 6 (.two 2 (.two 3 (.two 4 (.two 5 (.one 8 (.one 9 (.one 10 (.one 11 (.one 12 (.done)))))) 8 (.two 5 (.one 9 (.one 10 (.one 11 (.one 12 (.done))))) 9 (.two 5 (.one 10 (.one 11 (.one 12 (.done)))) 10 (.one 5 (.one 11 (.one 12 (.done))))))) 8 (.two 4 (.two 5 (.one 9 (.one 10 (.one 11 (.one 12 (.done))))) 9 (.two 5 (.one 10 (.one 11 (.one 12 (.done)))) 10 (.one 5 (.one 11 (.one 12 (.done)))))) 9 (.one 4 (.two 5 (.one 10 (.one 11 (.one 12 (.done)))) 10 (.one 5 (.one 11 (.one 12 (.done)))))))) 8 (.two 3 (.two 4 (.two 5 (.one 9 (.one 10 (.one 11 (.one 12 (.done))))) 9 (.two 5 (.one 10 (.one 11 (.one 12 (.done)))) 10 (.one 5 (.one 11 (.one 12 (.done)))))) 9 (.one 4 (.two 5 (.one 10 (.one 11 (.one 12 (.done)))) 10 (.one 5 (.one 11 (.one 12 (.done))))))) 9 (.one 3 (.one 4 (.two 5 (.one 10 (.one 11 (.one 12 (.done)))) 10 (.one 5 (.one 11 (.one 12 (.done))))))))) 8 (.two 2 (.two 3 (.two 4 (.two 5 (.one 9 (.one 10 (.one 11 (.one 12 (.done))))) 9 (.two 5 (.one 10 (.one 11 (.one 12 (.done)))) 10 (.one 5 (.one 11 (.one 12 (.done)))))) 9 (.one 4 (.two 5 (.one 10 (.one 11 (.one 12 (.done)))) 10 (.one 5 (.one 11 (.one 12 (.done))))))) 9 (.one 3 (.one 4 (.two 5 (.one 10 (.one 11 (.one 12 (.done)))) 10 (.one 5 (.one 11 (.one 12 (.done)))))))) 9 (.one 2 (.one 3 (.one 4 (.two 5 (.one 10 (.one 11 (.one 12 (.done)))) 10 (.one 5 (.one 11 (.one 12 (.done))))))))))) 6 (.two 0 (.two 2 (.two 3 (.two 4 (.two 5 (.one 8 (.one 9 (.one 10 (.one 11 (.one 12 (.done)))))) 8 (.two 5 (.one 9 (.one 10 (.one 11 (.one 12 (.done))))) 9 (.two 5 (.one 10 (.one 11 (.one 12 (.done)))) 10 (.one 5 (.one 11 (.one 12 (.done))))))) 8 (.two 4 (.two 5 (.one 9 (.one 10 (.one 11 (.one 12 (.done))))) 9 (.two 5 (.one 10 (.one 11 (.one 12 (.done)))) 10 (.one 5 (.one 11 (.one 12 (.done)))))) 9 (.one 4 (.two 5 (.one 10 (.one 11 (.one 12 (.done)))) 10 (.one 5 (.one 11 (.one 12 (.done)))))))) 8 (.two 3 (.two 4 (.two 5 (.one 9 (.one 10 (.one 11 (.one 12 (.done))))) 9 (.two 5 (.one 10 (.one 11 (.one 12 (.done)))) 10 (.one 5 (.one 11 (.one 12 (.done)))))) 9 (.one 4 (.two 5 (.one 10 (.one 11 (.one 12 (.done)))) 10 (.one 5 (.one 11 (.one 12 (.done))))))) 9 (.one 3 (.one 4 (.two 5 (.one 10 (.one 11 (.one 12 (.done)))) 10 (.one 5 (.one 11 (.one 12 (.done))))))))) 8 (.two 2 (.two 3 (.two 4 (.two 5 (.one 9 (.one 10 (.one 11 (.one 12 (.done))))) 9 (.two 5 (.one 10 (.one 11 (.one 12 (.done)))) 10 (.one 5 (.one 11 (.one 12 (.done)))))) 9 (.one 4 (.two 5 (.one 10 (.one 11 (.one 12 (.done)))) 10 (.one 5 (.one 11 (.one 12 (.done))))))) 9 (.one 3 (.one 4 (.two 5 (.one 10 (.one 11 (.one 12 (.done)))) 10 (.one 5 (.one 11 (.one 12 (.done)))))))) 9 (.one 2 (.one 3 (.one 4 (.two 5 (.one 10 (.one 11 (.one 12 (.done)))) 10 (.one 5 (.one 11 (.one 12 (.done)))))))))) 8 (.two 0 (.two 2 (.two 3 (.two 4 (.two 5 (.one 9 (.one 10 (.one 11 (.one 12 (.done))))) 9 (.two 5 (.one 10 (.one 11 (.one 12 (.done)))) 10 (.one 5 (.one 11 (.one 12 (.done)))))) 9 (.one 4 (.two 5 (.one 10 (.one 11 (.one 12 (.done)))) 10 (.one 5 (.one 11 (.one 12 (.done))))))) 9 (.one 3 (.one 4 (.two 5 (.one 10 (.one 11 (.one 12 (.done)))) 10 (.one 5 (.one 11 (.one 12 (.done)))))))) 9 (.one 2 (.one 3 (.one 4 (.two 5 (.one 10 (.one 11 (.one 12 (.done)))) 10 (.one 5 (.one 11 (.one 12 (.done))))))))) 9 (.one 0 (.one 2 (.one 3 (.one 4 (.two 5 (.one 10 (.one 11 (.one 12 (.done)))) 10 (.one 5 (.one 11 (.one 12 (.done))))))))))))), ⟨[(6, .d true (.sl .str) (ouL a)), (7, .d true .str (treS a))], []⟩, by kernel_rfl, ⟨⟨rfl, d9, false, ⟨a, rfl, h9, ⟨⟨[], false, _, _, F1, List.nodup_nil, rfl, rfl, trivial, ⟨lb1, rfl, d9, false, a, rfl, h9, [], false, _, _, F2, List.nodup_nil, rfl, rfl, trivial, lb2, ⟨⟨rfl, rfl⟩, ⟨rfl, rfl, trivial⟩, trivial⟩⟩, ⟨rfl, d9, false, ⟨lb1, a, rfl, h9, [], false, _, _, F2, List.nodup_nil, rfl, rfl, trivial, lb2, ⟨⟨rfl, rfl⟩, ⟨rfl, rfl, trivial⟩, trivial⟩⟩, ⟨a, rfl, h9, ⟨lb1, [], false, _, _, F2, List.nodup_nil, rfl, rfl, trivial, lb2, ⟨⟨rfl, rfl⟩, ⟨rfl, rfl, trivial⟩, trivial⟩⟩, ⟨⟨lb1, [], false, _, _, F2, List.nodup_nil, rfl, rfl, trivial, lb2, ⟨⟨rfl, rfl⟩, ⟨rfl, rfl, trivial⟩, trivial⟩⟩, ⟨[], false, _, _, F2, List.nodup_nil, rfl, rfl, trivial, lb1, lb2, ⟨⟨rfl, rfl⟩, ⟨rfl, rfl, trivial⟩, trivial⟩⟩⟩⟩⟩⟩, ⟨rfl, d9, false, ⟨[], false, _, _, F1, List.nodup_nil, rfl, rfl, trivial, ⟨lb1, a, rfl, h9, [], false, _, _, F2, List.nodup_nil, rfl, rfl, trivial, lb2, ⟨⟨rfl, rfl⟩, ⟨rfl, rfl, trivial⟩, trivial⟩⟩, ⟨a, rfl, h9, ⟨lb1, [], false, _, _, F2, List.nodup_nil, rfl, rfl, trivial, lb2, ⟨⟨rfl, rfl⟩, ⟨rfl, rfl, trivial⟩, trivial⟩⟩, ⟨⟨lb1, [], false, _, _, F2, List.nodup_nil, rfl, rfl, trivial, lb2, ⟨⟨rfl, rfl⟩, ⟨rfl, rfl, trivial⟩, trivial⟩⟩, ⟨[], false, _, _, F2, List.nodup_nil, rfl, rfl, trivial, lb1, lb2, ⟨⟨rfl, rfl⟩, ⟨rfl, rfl, trivial⟩, trivial⟩⟩⟩⟩⟩, ⟨a, rfl, h9, ⟨[], false, _, _, F1, List.nodup_nil, rfl, rfl, trivial, ⟨lb1, [], false, _, _, F2, List.nodup_nil, rfl, rfl, trivial, lb2, ⟨⟨rfl, rfl⟩, ⟨rfl, rfl, trivial⟩, trivial⟩⟩, ⟨⟨lb1, [], false, _, _, F2, List.nodup_nil, rfl, rfl, trivial, lb2, ⟨⟨rfl, rfl⟩, ⟨rfl, rfl, trivial⟩, trivial⟩⟩, ⟨[], false, _, _, F2, List.nodup_nil, rfl, rfl, trivial, lb1, lb2, ⟨⟨rfl, rfl⟩, ⟨rfl, rfl, trivial⟩, trivial⟩⟩⟩⟩, ⟨[], false, _, _, F1, List.nodup_nil, rfl, rfl, trivial, ⟨lb1, [], false, _, _, F2, List.nodup_nil, rfl, rfl, trivial, lb2, ⟨⟨rfl, rfl⟩, ⟨rfl, rfl, trivial⟩, trivial⟩⟩, ⟨[], false, _, _, F2, List.nodup_nil, rfl, rfl, trivial, lb1, lb2, ⟨⟨rfl, rfl⟩, ⟨rfl, rfl, trivial⟩, trivial⟩⟩⟩⟩⟩⟩, ⟨rfl, d9, false, ⟨⟨[], false, _, _, F1, List.nodup_nil, rfl, rfl, trivial, ⟨lb1, a, rfl, h9, [], false, _, _, F2, List.nodup_nil, rfl, rfl, trivial, lb2, ⟨⟨rfl, rfl⟩, ⟨rfl, rfl, trivial⟩, trivial⟩⟩, ⟨a, rfl, h9, ⟨lb1, [], false, _, _, F2, List.nodup_nil, rfl, rfl, trivial, lb2, ⟨⟨rfl, rfl⟩, ⟨rfl, rfl, trivial⟩, trivial⟩⟩, ⟨⟨lb1, [], false, _, _, F2, List.nodup_nil, rfl, rfl, trivial, lb2, ⟨⟨rfl, rfl⟩, ⟨rfl, rfl, trivial⟩, trivial⟩⟩, ⟨[], false, _, _, F2, List.nodup_nil, rfl, rfl, trivial, lb1, lb2, ⟨⟨rfl, rfl⟩, ⟨rfl, rfl, trivial⟩, trivial⟩⟩⟩⟩⟩, ⟨a, rfl, h9, ⟨[], false, _, _, F1, List.nodup_nil, rfl, rfl, trivial, ⟨lb1, [], false, _, _, F2, List.nodup_nil, rfl, rfl, trivial, lb2, ⟨⟨rfl, rfl⟩, ⟨rfl, rfl, trivial⟩, trivial⟩⟩, ⟨⟨lb1, [], false, _, _, F2, List.nodup_nil, rfl, rfl, trivial, lb2, ⟨⟨rfl, rfl⟩, ⟨rfl, rfl, trivial⟩, trivial⟩⟩, ⟨[], false, _, _, F2, List.nodup_nil, rfl, rfl, trivial, lb1, lb2, ⟨⟨rfl, rfl⟩, ⟨rfl, rfl, trivial⟩, trivial⟩⟩⟩⟩, ⟨[], false, _, _, F1, List.nodup_nil, rfl, rfl, trivial, ⟨lb1, [], false, _, _, F2, List.nodup_nil, rfl, rfl, trivial, lb2, ⟨⟨rfl, rfl⟩, ⟨rfl, rfl, trivial⟩, trivial⟩⟩, ⟨[], false, _, _, F2, List.nodup_nil, rfl, rfl, trivial, lb1, lb2, ⟨⟨rfl, rfl⟩, ⟨rfl, rfl, trivial⟩, trivial⟩⟩⟩⟩⟩, ⟨a, rfl, h9, ⟨⟨[], false, _, _, F1, List.nodup_nil, rfl, rfl, trivial, ⟨lb1, [], false, _, _, F2, List.nodup_nil, rfl, rfl, trivial, lb2, ⟨⟨rfl, rfl⟩, ⟨rfl, rfl, trivial⟩, trivial⟩⟩, ⟨⟨lb1, [], false, _, _, F2, List.nodup_nil, rfl, rfl, trivial, lb2, ⟨⟨rfl, rfl⟩, ⟨rfl, rfl, trivial⟩, trivial⟩⟩, ⟨[], false, _, _, F2, List.nodup_nil, rfl, rfl, trivial, lb1, lb2, ⟨⟨rfl, rfl⟩, ⟨rfl, rfl, trivial⟩, trivial⟩⟩⟩⟩, ⟨[], false, _, _, F1, List.nodup_nil, rfl, rfl, trivial, ⟨lb1, [], false, _, _, F2, List.nodup_nil, rfl, rfl, trivial, lb2, ⟨⟨rfl, rfl⟩, ⟨rfl, rfl, trivial⟩, trivial⟩⟩, ⟨[], false, _, _, F2, List.nodup_nil, rfl, rfl, trivial, lb1, lb2, ⟨⟨rfl, rfl⟩, ⟨rfl, rfl, trivial⟩, trivial⟩⟩⟩⟩, ⟨[], false, _, _, F1, List.nodup_nil, rfl, rfl, trivial, ⟨lb1, [], false, _, _, F2, List.nodup_nil, rfl, rfl, trivial, lb2, ⟨⟨rfl, rfl⟩, ⟨rfl, rfl, trivial⟩, trivial⟩⟩, ⟨[], false, _, _, F2, List.nodup_nil, rfl, rfl, trivial, lb1, lb2, ⟨⟨rfl, rfl⟩, ⟨rfl, rfl, trivial⟩, trivial⟩⟩⟩⟩⟩⟩, ⟨rfl, d9, false, ⟨a, rfl, h9, ⟨⟨[], false, _, _, F1, List.nodup_nil, rfl, rfl, trivial, ⟨lb1, a, rfl, h9, [], false, _, _, F2, List.nodup_nil, rfl, rfl, trivial, lb2, ⟨⟨rfl, rfl⟩, ⟨rfl, rfl, trivial⟩, trivial⟩⟩, ⟨a, rfl, h9, ⟨lb1, [], false, _, _, F2, List.nodup_nil, rfl, rfl, trivial, lb2, ⟨⟨rfl, rfl⟩, ⟨rfl, rfl, trivial⟩, trivial⟩⟩, ⟨⟨lb1, [], false, _, _, F2, List.nodup_nil, rfl, rfl, trivial, lb2, ⟨⟨rfl, rfl⟩, ⟨rfl, rfl, trivial⟩, trivial⟩⟩, ⟨[], false, _, _, F2, List.nodup_nil, rfl, rfl, trivial, lb1, lb2, ⟨⟨rfl, rfl⟩, ⟨rfl, rfl, trivial⟩, trivial⟩⟩⟩⟩⟩, ⟨a, rfl, h9, ⟨[], false, _, _, F1, List.nodup_nil, rfl, rfl, trivial, ⟨lb1, [], false, _, _, F2, List.nodup_nil, rfl, rfl, trivial, lb2, ⟨⟨rfl, rfl⟩, ⟨rfl, rfl, trivial⟩, trivial⟩⟩, ⟨⟨lb1, [], false, _, _, F2, List.nodup_nil, rfl, rfl, trivial, lb2, ⟨⟨rfl, rfl⟩, ⟨rfl, rfl, trivial⟩, trivial⟩⟩, ⟨[], false, _, _, F2, List.nodup_nil, rfl, rfl, trivial, lb1, lb2, ⟨⟨rfl, rfl⟩, ⟨rfl, rfl, trivial⟩, trivial⟩⟩⟩⟩, ⟨[], false, _, _, F1, List.nodup_nil, rfl, rfl, trivial, ⟨lb1, [], false, _, _, F2, List.nodup_nil, rfl, rfl, trivial, lb2, ⟨⟨rfl, rfl⟩, ⟨rfl, rfl, trivial⟩, trivial⟩⟩, ⟨[], false, _, _, F2, List.nodup_nil, rfl, rfl, trivial, lb1, lb2, ⟨⟨rfl, rfl⟩, ⟨rfl, rfl, trivial⟩, trivial⟩⟩⟩⟩⟩, ⟨a, rfl, h9, ⟨⟨[], false, _, _, F1, List.nodup_nil, rfl, rfl, trivial, ⟨lb1, [], false, _, _, F2, List.nodup_nil, rfl, rfl, trivial, lb2, ⟨⟨rfl, rfl⟩, ⟨rfl, rfl, trivial⟩, trivial⟩⟩, ⟨⟨lb1, [], false, _, _, F2, List.nodup_nil, rfl, rfl, trivial, lb2, ⟨⟨rfl, rfl⟩, ⟨rfl, rfl, trivial⟩, trivial⟩⟩, ⟨[], false, _, _, F2, List.nodup_nil, rfl, rfl, trivial, lb1, lb2, ⟨⟨rfl, rfl⟩, ⟨rfl, rfl, trivial⟩, trivial⟩⟩⟩⟩, ⟨[], false, _, _, F1, List.nodup_nil, rfl, rfl, trivial, ⟨lb1, [], false, _, _, F2, List.nodup_nil, rfl, rfl, trivial, lb2, ⟨⟨rfl, rfl⟩, ⟨rfl, rfl, trivial⟩, trivial⟩⟩, ⟨[], false, _, _, F2, List.nodup_nil, rfl, rfl, trivial, lb1, lb2, ⟨⟨rfl, rfl⟩, ⟨rfl, rfl, trivial⟩, trivial⟩⟩⟩⟩, ⟨[], false, _, _, F1, List.nodup_nil, rfl, rfl, trivial, ⟨lb1, [], false, _, _, F2, List.nodup_nil, rfl, rfl, trivial, lb2, ⟨⟨rfl, rfl⟩, ⟨rfl, rfl, trivial⟩, trivial⟩⟩, ⟨[], false, _, _, F2, List.nodup_nil, rfl, rfl, trivial, lb1, lb2, ⟨⟨rfl, rfl⟩, ⟨rfl, rfl, trivial⟩, trivial⟩⟩⟩⟩⟩, ⟨a, rfl, h9, ⟨a, rfl, h9, ⟨⟨[], false, _, _, F1, List.nodup_nil, rfl, rfl, trivial, ⟨lb1, [], false, _, _, F2, List.nodup_nil, rfl, rfl, trivial, lb2, ⟨⟨rfl, rfl⟩, ⟨rfl, rfl, trivial⟩, trivial⟩⟩, ⟨⟨lb1, [], false, _, _, F2, List.nodup_nil, rfl, rfl, trivial, lb2, ⟨⟨rfl, rfl⟩, ⟨rfl, rfl, trivial⟩, trivial⟩⟩, ⟨[], false, _, _, F2, List.nodup_nil, rfl, rfl, trivial, lb1, lb2, ⟨⟨rfl, rfl⟩, ⟨rfl, rfl, trivial⟩, trivial⟩⟩⟩⟩, ⟨[], false, _, _, F1, List.nodup_nil, rfl, rfl, trivial, ⟨lb1, [], false, _, _, F2, List.nodup_nil, rfl, rfl, trivial, lb2, ⟨⟨rfl, rfl⟩, ⟨rfl, rfl, trivial⟩, trivial⟩⟩, ⟨[], false, _, _, F2, List.nodup_nil, rfl, rfl, trivial, lb1, lb2, ⟨⟨rfl, rfl⟩, ⟨rfl, rfl, trivial⟩, trivial⟩⟩⟩⟩, ⟨[], false, _, _, F1, List.nodup_nil, rfl, rfl, trivial, ⟨lb1, [], false, _, _, F2, List.nodup_nil, rfl, rfl, trivial, lb2, ⟨⟨rfl, rfl⟩, ⟨rfl, rfl, trivial⟩, trivial⟩⟩, ⟨[], false, _, _, F2, List.nodup_nil, rfl, rfl, trivial, lb1, lb2, ⟨⟨rfl, rfl⟩, ⟨rfl, rfl, trivial⟩, trivial⟩⟩⟩⟩, ⟨a, rfl, h9, [], false, _, _, F1, List.nodup_nil, rfl, rfl, trivial, ⟨lb1, [], false, _, _, F2, List.nodup_nil, rfl, rfl, trivial, lb2, ⟨⟨rfl, rfl⟩, ⟨rfl, rfl, trivial⟩, trivial⟩⟩, ⟨[], false, _, _, F2, List.nodup_nil, rfl, rfl, trivial, lb1, lb2, ⟨⟨rfl, rfl⟩, ⟨rfl, rfl, trivial⟩, trivial⟩⟩⟩⟩⟩⟩, ⟨rfl, d9, false, ⟨rfl, d9, false, ⟨a, rfl, h9, ⟨⟨[], false, _, _, F1, List.nodup_nil, rfl, rfl, trivial, ⟨lb1, a, rfl, h9, [], false, _, _, F2, List.nodup_nil, rfl, rfl, trivial, lb2, ⟨⟨rfl, rfl⟩, ⟨rfl, rfl, trivial⟩, trivial⟩⟩, ⟨a, rfl, h9, ⟨lb1, [], false, _, _, F2, List.nodup_nil, rfl, rfl, trivial, lb2, ⟨⟨rfl, rfl⟩, ⟨rfl, rfl, trivial⟩, trivial⟩⟩, ⟨⟨lb1, [], false, _, _, F2, List.nodup_nil, rfl, rfl, trivial, lb2, ⟨⟨rfl, rfl⟩, ⟨rfl, rfl, trivial⟩, trivial⟩⟩, ⟨[], false, _, _, F2, List.nodup_nil, rfl, rfl, trivial, lb1, lb2, ⟨⟨rfl, rfl⟩, ⟨rfl, rfl, trivial⟩, trivial⟩⟩⟩⟩⟩, ⟨a, rfl, h9, ⟨[], false, _, _, F1, List.nodup_nil, rfl, rfl, trivial, ⟨lb1, [], false, _, _, F2, List.nodup_nil, rfl, rfl, trivial, lb2, ⟨⟨rfl, rfl⟩, ⟨rfl, rfl, trivial⟩, trivial⟩⟩, ⟨⟨lb1, [], false, _, _, F2, List.nodup_nil, rfl, rfl, trivial, lb2, ⟨⟨rfl, rfl⟩, ⟨rfl, rfl, trivial⟩, trivial⟩⟩, ⟨[], false, _, _, F2, List.nodup_nil, rfl, rfl, trivial, lb1, lb2, ⟨⟨rfl, rfl⟩, ⟨rfl, rfl, trivial⟩, trivial⟩⟩⟩⟩, ⟨[], false, _, _, F1, List.nodup_nil, rfl, rfl, trivial, ⟨lb1, [], false, _, _, F2, List.nodup_nil, rfl, rfl, trivial, lb2, ⟨⟨rfl, rfl⟩, ⟨rfl, rfl, trivial⟩, trivial⟩⟩, ⟨[], false, _, _, F2, List.nodup_nil, rfl, rfl, trivial, lb1, lb2, ⟨⟨rfl, rfl⟩, ⟨rfl, rfl, trivial⟩, trivial⟩⟩⟩⟩⟩, ⟨a, rfl, h9, ⟨⟨[], false, _, _, F1, List.nodup_nil, rfl, rfl, trivial, ⟨lb1, [], false, _, _, F2, List.nodup_nil, rfl, rfl, trivial, lb2, ⟨⟨rfl, rfl⟩, ⟨rfl, rfl, trivial⟩, trivial⟩⟩, ⟨⟨lb1, [], false, _, _, F2, List.nodup_nil, rfl, rfl, trivial, lb2, ⟨⟨rfl, rfl⟩, ⟨rfl, rfl, trivial⟩, trivial⟩⟩, ⟨[], false, _, _, F2, List.nodup_nil, rfl, rfl, trivial, lb1, lb2, ⟨⟨rfl, rfl⟩, ⟨rfl, rfl, trivial⟩, trivial⟩⟩⟩⟩, ⟨[], false, _, _, F1, List.nodup_nil, rfl, rfl, trivial, ⟨lb1, [], false, _, _, F2, List.nodup_nil, rfl, rfl, trivial, lb2, ⟨⟨rfl, rfl⟩, ⟨rfl, rfl, trivial⟩, trivial⟩⟩, ⟨[], false, _, _, F2, List.nodup_nil, rfl, rfl, trivial, lb1, lb2, ⟨⟨rfl, rfl⟩, ⟨rfl, rfl, trivial⟩, trivial⟩⟩⟩⟩, ⟨[], false, _, _, F1, List.nodup_nil, rfl, rfl, trivial, ⟨lb1, [], false, _, _, F2, List.nodup_nil, rfl, rfl, trivial, lb2, ⟨⟨rfl, rfl⟩, ⟨rfl, rfl, trivial⟩, trivial⟩⟩, ⟨[], false, _, _, F2, List.nodup_nil, rfl, rfl, trivial, lb1, lb2, ⟨⟨rfl, rfl⟩, ⟨rfl, rfl, trivial⟩, trivial⟩⟩⟩⟩⟩, ⟨a, rfl, h9, ⟨a, rfl, h9, ⟨⟨[], false, _, _, F1, List.nodup_nil, rfl, rfl, trivial, ⟨lb1, [], false, _, _, F2, List.nodup_nil, rfl, rfl, trivial, lb2, ⟨⟨rfl, rfl⟩, ⟨rfl, rfl, trivial⟩, trivial⟩⟩, ⟨⟨lb1, [], false, _, _, F2, List.nodup_nil, rfl, rfl, trivial, lb2, ⟨⟨rfl, rfl⟩, ⟨rfl, rfl, trivial⟩, trivial⟩⟩, ⟨[], false, _, _, F2, List.nodup_nil, rfl, rfl, trivial, lb1, lb2, ⟨⟨rfl, rfl⟩, ⟨rfl, rfl, trivial⟩, trivial⟩⟩⟩⟩, ⟨[], false, _, _, F1, List.nodup_nil, rfl, rfl, trivial, ⟨lb1, [], false, _, _, F2, List.nodup_nil, rfl, rfl, trivial, lb2, ⟨⟨rfl, rfl⟩, ⟨rfl, rfl, trivial⟩, trivial⟩⟩, ⟨[], false, _, _, F2, List.nodup_nil, rfl, rfl, trivial, lb1, lb2, ⟨⟨rfl, rfl⟩, ⟨rfl, rfl, trivial⟩, trivial⟩⟩⟩⟩, ⟨[], false, _, _, F1, List.nodup_nil, rfl, rfl, trivial, ⟨lb1, [], false, _, _, F2, List.nodup_nil, rfl, rfl, trivial, lb2, ⟨⟨rfl, rfl⟩, ⟨rfl, rfl, trivial⟩, trivial⟩⟩, ⟨[], false, _, _, F2, List.nodup_nil, rfl, rfl, trivial, lb1, lb2, ⟨⟨rfl, rfl⟩, ⟨rfl, rfl, trivial⟩, trivial⟩⟩⟩⟩, ⟨a, rfl, h9, [], false, _, _, F1, List.nodup_nil, rfl, rfl, trivial, ⟨lb1, [], false, _, _, F2, List.nodup_nil, rfl, rfl, trivial, lb2, ⟨⟨rfl, rfl⟩, ⟨rfl, rfl, trivial⟩, trivial⟩⟩, ⟨[], false, _, _, F2, List.nodup_nil, rfl, rfl, trivial, lb1, lb2, ⟨⟨rfl, rfl⟩, ⟨rfl, rfl, trivial⟩, trivial⟩⟩⟩⟩⟩, ⟨a, rfl, h9, ⟨rfl, d9, false, ⟨a, rfl, h9, ⟨⟨[], false, _, _, F1, List.nodup_nil, rfl, rfl, trivial, ⟨lb1, [], false, _, _, F2, List.nodup_nil, rfl, rfl, trivial, lb2, ⟨⟨rfl, rfl⟩, ⟨rfl, rfl, trivial⟩, trivial⟩⟩, ⟨⟨lb1, [], false, _, _, F2, List.nodup_nil, rfl, rfl, trivial, lb2, ⟨⟨rfl, rfl⟩, ⟨rfl, rfl, trivial⟩, trivial⟩⟩, ⟨[], false, _, _, F2, List.nodup_nil, rfl, rfl, trivial, lb1, lb2, ⟨⟨rfl, rfl⟩, ⟨rfl, rfl, trivial⟩, trivial⟩⟩⟩⟩, ⟨[], false, _, _, F1, List.nodup_nil, rfl, rfl, trivial, ⟨lb1, [], false, _, _, F2, List.nodup_nil, rfl, rfl, trivial, lb2, ⟨⟨rfl, rfl⟩, ⟨rfl, rfl, trivial⟩, trivial⟩⟩, ⟨[], false, _, _, F2, List.nodup_nil, rfl, rfl, trivial, lb1, lb2, ⟨⟨rfl, rfl⟩, ⟨rfl, rfl, trivial⟩, trivial⟩⟩⟩⟩, ⟨[], false, _, _, F1, List.nodup_nil, rfl, rfl, trivial, ⟨lb1, [], false, _, _, F2, List.nodup_nil, rfl, rfl, trivial, lb2, ⟨⟨rfl, rfl⟩, ⟨rfl, rfl, trivial⟩, trivial⟩⟩, ⟨[], false, _, _, F2, List.nodup_nil, rfl, rfl, trivial, lb1, lb2, ⟨⟨rfl, rfl⟩, ⟨rfl, rfl, trivial⟩, trivial⟩⟩⟩⟩, ⟨a, rfl, h9, [], false, _, _, F1, List.nodup_nil, rfl, rfl, trivial, ⟨lb1, [], false, _, _, F2, List.nodup_nil, rfl, rfl, trivial, lb2, ⟨⟨rfl, rfl⟩, ⟨rfl, rfl, trivial⟩, trivial⟩⟩, ⟨[], false, _, _, F2, List.nodup_nil, rfl, rfl, trivial, lb1, lb2, ⟨⟨rfl, rfl⟩, ⟨rfl, rfl, trivial⟩, trivial⟩⟩⟩⟩, ⟨rfl, d9, false, a, rfl, h9, [], false, _, _, F1, List.nodup_nil, rfl, rfl, trivial, ⟨lb1, [], false, _, _, F2, List.nodup_nil, rfl, rfl, trivial, lb2, ⟨⟨rfl, rfl⟩, ⟨rfl, rfl, trivial⟩, trivial⟩⟩, ⟨[], false, _, _, F2, List.nodup_nil, rfl, rfl, trivial, lb1, lb2, ⟨⟨rfl, rfl⟩, ⟨rfl, rfl, trivial⟩, trivial⟩⟩⟩⟩⟩⟩, ?_⟩
  refine ⟨fun _ => ?_, fun h => (h rfl).elim⟩
  refine ⟨0, rfl, (show 0 < 20 by decide), fun _ => ?_, fun h => (h rfl).elim⟩
  refine ⟨1, rfl, (show 1 < 20 by decide), fun _ => ?_, fun h => (h rfl).elim⟩
  refine ⟨2, rfl, (show 2 < 20 by decide), fun _ => ?_, fun h => (h rfl).elim⟩
  refine ⟨3, rfl, (show 3 < 20 by decide), fun _ => ?_, fun h => (h rfl).elim⟩
  refine ⟨4, rfl, (show 4 < 20 by decide), fun _ => ?_, fun h => (h rfl).elim⟩
  refine ⟨5, rfl, (show 5 < 20 by decide), fun _ => ?_, fun h => (h rfl).elim⟩
  refine ⟨6, rfl, (show 6 < 20 by decide), fun _ => ?_, fun h => (h rfl).elim⟩
  refine ⟨7, rfl, (show 7 < 20 by decide), fun _ => ?_, fun h => (h rfl).elim⟩
  refine ⟨8, rfl, (show 8 < 20 by decide), fun _ => ?_, fun h => (h rfl).elim⟩
  refine ⟨9, rfl, (show 9 < 20 by decide), fun _ => ?_, fun h => (h rfl).elim⟩
  refine ⟨10, rfl, (show 10 < 20 by decide), fun _ => ?_, fun h => (h rfl).elim⟩
  refine ⟨11, rfl, (show 11 < 20 by decide), fun _ => ?_, fun h => (h rfl).elim⟩
  refine ⟨12, rfl, (show 12 < 20 by decide), fun _ => ?_, fun h => (h rfl).elim⟩
  refine ⟨13, rfl, (show 13 < 20 by decide), fun _ => ?_, fun h => (h rfl).elim⟩
  refine ⟨14, rfl, (show 14 < 20 by decide), fun _ => ?_, fun h => (h rfl).elim⟩
  refine ⟨15, rfl, (show 15 < 20 by decide), fun _ => ?_, fun h => (h rfl).elim⟩
  refine ⟨16, rfl, (show 16 < 20 by decide), fun _ => ?_, fun h => (h rfl).elim⟩
  refine ⟨17, rfl, (show 17 < 20 by decide), fun _ => ?_, fun h => (h rfl).elim⟩
  refine ⟨18, rfl, (show 18 < 20 by decide), fun _ => ?_, fun h => (h rfl).elim⟩
  refine ⟨19, rfl, (show 19 < 20 by decide), fun _ => ?_, fun h => (h rfl).elim⟩
  exact ⟨none, ⟨rfl, trivial⟩, rfl, rfl⟩
end Go.Proofs.YtacjiemkbhhhoaaGreatDoor
