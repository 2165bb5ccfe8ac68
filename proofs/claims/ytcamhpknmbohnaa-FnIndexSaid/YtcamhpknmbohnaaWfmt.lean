/-
  Contracts of the functions that write integers as text, for all integers.
-/
import Derived.Test.YtcamhpknmbohnaaWint
import Derived.Test.YtcamhpknmbohnaaWjoin
import Derived.Deep.RegionWith
import Derived.Deep.Cut
import Derived.Below
set_option linter.unusedVariables false
namespace Go.Proofs.Ytcamhpknmbohnaa
open Go Go.RowKit Go.Proofs.Ytcamhpknmbohnaa.Ow
/-- a contract's word at one text argument's result -/
theorem calls_str {P : Program} {f : FuncId} {x : Int} {s : List UInt8} (h : AC P f [I x] [] [.d true .str s] []) (w : World) : Calls P f #[.int .i64 x] w fun e w' => e = .returned (.string ⟨s.toArray⟩) ∧ Below w.heap.size w w' := by
  refine (h.2 w [] (fun _ => False) [.int .i64 x] ⟨rfl, List.nodup_nil, fun b hb => by simp at hb, fun b hb => hb.elim, fun i b r hb => by simp at hb⟩ ⟨_, _, rfl, rfl, rfl⟩).mono ?_
  rintro e w' ⟨rv, bs', A', rfl, _, hres, hstep, _, _, _⟩
  have hr : rv = .string ⟨s.toArray⟩ := hres
  subst hr
  exact ⟨rfl, hstep.os, hstep.tape, hstep.output, hstep.size, fun k hk => hstep.block k hk (by simp)⟩
set_option maxRecDepth 100000 in
/-- spec.FormatInt, one step at a negative integer of two digits or more (its statement draws its order) -/
theorem fi_neg (n : Nat) (s : List UInt8) (hsl : s.length ≤ 40) (hn1 : 10 ≤ n) (hn : n ≤ 9223372036854775808)
    (IH : ∀ w, Calls Try.prog 124 #[.int .i64 (-((n : Int) / 10))] w fun e w' => e = .returned (.string ⟨s.toArray⟩) ∧ Below w.heap.size w w') (w : World) :
    Calls Try.prog 124 #[.int .i64 (-(n:Int))] w fun e w' => e = .returned (.string ⟨(s ++ [dg (n % 10)]).toArray⟩) ∧ Below w.heap.size w w' := by
  have h1 : (-(n:Int)).tdiv 10 = -((n : Int) / 10) := by rw [Int.neg_tdiv]; rfl
  have h2 : (-(n:Int)).tmod 10 = -((n : Int) % 10) := by rw [Int.neg_tmod]; rfl
  have hw1 : IntKind.i64.wrap (-((n:Int) / 10)) = -((n : Int) / 10) := IntWalk.i64_in _ ⟨by omega, by omega⟩
  have hw2 : IntKind.i64.wrap (48 + (n:Int) % 10) = 48 + (n:Int) % 10 := IntWalk.i64_in _ ⟨by omega, by omega⟩
  have hw3 : IntKind.u8.wrap (48 + (n:Int) % 10) = 48 + (n:Int) % 10 := IntWalk.u8_in _ ⟨by omega, by omega⟩
  have h3 : -(n:Int) < 0 := by omega
  have h4 : ¬ (-((n : Int) / 10) = 0) := by omega
  have hcv : ∀ (w' : World) (b : Nat), w'.cell? ⟨b, 0, none⟩ = some (.int .u8 (48 + (n:Int) % 10)) → (convert 22 9 (.slice (some ⟨b, 0, none⟩) 1 1)).run Try.prog w' = .ok (.string ⟨#[dg (n % 10)]⟩) w' := by
    intro w' b hc
    have hcell : ∀ i, i < 1 → w'.cell? ⟨b, 0 + i, none⟩ = some (.int .u8 ([48 + (n:Int) % 10].getD i 0)) := by
      intro i hi
      cases i with
      | zero => exact hc
      | succ i => exact absurd hi (by simp)
    have h := run_convert_bytes_arg (P := Try.prog) w' 22 5 Try.underlying22 Try.underlying5 b 0 1 1 [48 + (n:Int) % 10] rfl hcell 9 Try.underlying9
    rw [h]
    have : strOfNums [48 + (n:Int) % 10] = ⟨#[dg (n % 10)]⟩ := by
      rw [show 48 + (n:Int) % 10 = ((48 + n % 10 : Nat) : Int) by omega]; rfl
    rw [this]
  have hcv1 : ∀ (w' : World), (convert 22 9 (.slice (some ⟨w'.heap.size, 0, none⟩) 1 1)).run Try.prog (w'.alloc (.cells #[.int .u8 (48 + (n:Int) % 10)] 5)) = .ok (.string ⟨#[dg (n % 10)]⟩) (w'.alloc (.cells #[.int .u8 (48 + (n:Int) % 10)] 5)) := by
    intro w'
    exact hcv _ _ (by rw [World.cell?_alloc_at (hn := by simp)]; rfl)
  have hcv2 : ∀ (w1 w' : World), Below (w1.alloc (.cells #[.int .u8 (48 + (n:Int) % 10)] 5)).drew.heap.size (w1.alloc (.cells #[.int .u8 (48 + (n:Int) % 10)] 5)).drew w' →
      (convert 22 9 (.slice (some ⟨w1.heap.size, 0, none⟩) 1 1)).run Try.prog w' = .ok (.string ⟨#[dg (n % 10)]⟩) w' := by
    intro w1 w' hb
    refine hcv _ _ ?_
    rw [hb.cell (p := ⟨w1.heap.size, 0, none⟩) (by simp), World.cell?_drew, World.cell?_alloc_at (hn := by simp)]
    rfl
  have hadd : (⟨s.toArray⟩ : ByteArray) ++ (⟨#[dg (n % 10)]⟩ : ByteArray) = ⟨(s ++ [dg (n % 10)]).toArray⟩ := by
    apply ByteArray.ext; simp
  have hsz : (⟨s.toArray⟩ : ByteArray).size + (⟨#[dg (n % 10)]⟩ : ByteArray).size ≤ 4611686018427387904 := by
    show s.toArray.size + 1 ≤ _
    simp; omega
  go_enter Try.func124, Try.ntmps124
  go_wp2_with (go_at_call 124; fail)
  go_region_with (go_at_call 124; refine (IH _).mono ?_; rintro e w' ⟨rfl, hb⟩; try (have hcx := hcv2 _ _ hb))
  all_goals go_wp2
  all_goals go_ret
  all_goals refine ⟨rfl, ?_⟩
  all_goals first
    | exact ((Below.refl _ w).drew.trans hb).alloc hb.size _
    | exact ((Below.refl _ w).alloc (Nat.le_refl _) _).drew.trans (hb.mono (by simp))

/-- spec.FormatInt of a negative integer -/
theorem spec_FormatInt_neg : ∀ (b n : Nat), n < b → 1 ≤ n → n ≤ 9223372036854775808 → AC Try.prog 124 [I (-(n : Int))] [] [.d true .str (45 :: fmtN n)] []
  | b + 1, n, hb, h1, hn => by
    by_cases h10 : 10 ≤ n
    · have IH := spec_FormatInt_neg b (n / 10) (by omega) (by omega) (by omega)
      have hl := fmtN_len64 (n / 10) (by omega)
      have e : 45 :: fmtN n = (45 :: fmtN (n / 10)) ++ [dg (n % 10)] := by rw [fmtN_ge n (by omega)]; rfl
      rw [e]
      refine AC.flat (v := .string ⟨((45 :: fmtN (n / 10)) ++ [dg (n % 10)]).toArray⟩) (fun w A => rfl) ⟨_, _, Try.func124, rfl, by kernel_rfl⟩ fun w A vs _ hvs => ?_
      obtain ⟨v, r, rfl, h2, h3⟩ := hvs
      cases h2
      cases h3
      exact fi_neg n (45 :: fmtN (n / 10)) (by simp; omega) h10 hn (fun w => calls_str IH w) w
    · refine AC_of tauOk 44 0 [2] Try.func124 rfl (by kernel_rfl) rfl rfl rfl rfl rfl ?_
      refine ⟨fun h2 => ?_, fun h2 => by omega⟩
      refine ⟨by decide, 0, w64_eq (by rw [Int.neg_tdiv]; show 0 = -((n / 10 : Nat) : Int); omega) (by omega) (by omega), fun h3 => ?_, fun h3 => (h3 rfl).elim⟩
      refine ⟨((48 + n : Nat) : Int), w64_eq (by omega) (by omega) (by omega), ?_⟩
      refine ⟨((48 + n : Nat) : Int), u8w _ (by omega) (by omega), ?_⟩
      refine ⟨rfl, by decide, false, ?_⟩
      refine ⟨by rw [strOf_dg]; exact (by decide : 1 + 1 ≤ 4611686018427387904), ?_⟩
      exact ⟨none, ⟨retS (by rw [strOf_dg, fmtN_lt n (by omega)]; rfl), trivial⟩, rfl, rfl⟩
/-- spec.FormatInt -/
theorem spec_FormatInt (n : Int) (h1 : -9223372036854775808 ≤ n) (h2 : n ≤ 9223372036854775807) : AC Try.prog 124 [I n] [] [.d true .str (fmtI n)] [] := by
  by_cases h : n < 0
  · have := spec_FormatInt_neg (n.natAbs + 1) n.natAbs (by omega) (by omega) (by omega)
    rw [show -((n.natAbs : Nat) : Int) = n by omega] at this
    rw [fmtI, if_pos h]; exact this
  · have := spec_FormatInt_nat n.natAbs (by omega)
    rw [show ((n.natAbs : Nat) : Int) = n by omega] at this
    rw [fmtI, if_neg h]; exact this

/-- impl.FormatInt of a negative integer -/
theorem impl_FormatInt_neg : ∀ (b n : Nat), n < b → 1 ≤ n → n ≤ 9223372036854775808 → AC Try.prog 126 [I (-(n : Int))] [] [.d true .str (45 :: fmtN n)] []
  | b + 1, n, hb, h1, hn => by
    refine AC_of tauOk 36 0 [2] Try.func126 rfl (by kernel_rfl) rfl rfl rfl rfl rfl ?_
    refine ⟨fun h2 => by omega, fun h2 => ?_⟩
    refine ⟨fun h3 => ?_, fun h3 => by omega⟩
    have hl := fmtN_len64 n (by omega)
    refine ⟨fun h4 => ?_, fun h4 => ?_⟩
    · refine ⟨((n : Nat) : Int), w64_eq (by omega) (by omega) (by omega), ?_⟩
      refine ⟨[], false, _, _, impl_FormatInt_nat (n + 1) n (by omega) (by omega), List.nodup_nil, rfl, rfl, trivial, ?_⟩
      refine ⟨by simp; omega, ?_⟩
      exact ⟨none, ⟨rfl, trivial⟩, rfl, rfl⟩
    · have e := fmtN_ge n (by omega)
      refine ⟨by decide, -((n / 10 : Nat) : Int), w64_eq (by rw [Int.neg_tdiv]; rfl) (by omega) (by omega), ?_⟩
      refine ⟨[], false, _, _, impl_FormatInt_neg b (n / 10) (by omega) (by omega) (by omega), List.nodup_nil, rfl, rfl, trivial, ?_⟩
      refine ⟨by decide, -((n % 10 : Nat) : Int), by rw [Int.neg_tmod]; rfl, ?_⟩
      refine ⟨((n % 10 : Nat) : Int), w64_eq (by omega) (by omega) (by omega), ?_⟩
      refine ⟨[], false, _, _, impl_FormatInt_nat (n % 10 + 1) (n % 10) (by omega) (by omega), List.nodup_nil, rfl, rfl, trivial, ?_⟩
      have e2 : (45 :: fmtN (n / 10)) ++ fmtN (n % 10) = 45 :: fmtN n := by rw [e, fmtN_lt (n % 10) (by omega)]; rfl
      refine ⟨by rw [← List.length_append, e2]; simp; omega, ?_⟩
      exact ⟨none, ⟨retS e2.symm, trivial⟩, rfl, rfl⟩
/-- impl.FormatInt -/
theorem impl_FormatInt (n : Int) (h1 : -9223372036854775808 ≤ n) (h2 : n ≤ 9223372036854775807) : AC Try.prog 126 [I n] [] [.d true .str (fmtI n)] [] := by
  by_cases h : n < 0
  · have := impl_FormatInt_neg (n.natAbs + 1) n.natAbs (by omega) (by omega) (by omega)
    rw [show -((n.natAbs : Nat) : Int) = n by omega] at this
    rw [fmtI, if_pos h]; exact this
  · have := impl_FormatInt_nat (n.natAbs + 1) n.natAbs (by omega) (by omega)
    rw [show ((n.natAbs : Nat) : Int) = n by omega] at this
    rw [fmtI, if_neg h]; exact this

end Go.Proofs.Ytcamhpknmbohnaa
