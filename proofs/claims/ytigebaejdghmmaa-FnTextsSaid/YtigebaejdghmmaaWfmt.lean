/-
  Contracts of the functions that write integers as text, for all integers.
-/
import Derived.Test.YtigebaejdghmmaaWint
import Derived.Test.YtigebaejdghmmaaWjoin
import Derived.Deep.RegionWith
import Derived.Deep.Cut
import Derived.Below
set_option linter.unusedVariables false
namespace Go.Proofs.Ytigebaejdghmmaa
open Go Go.RowKit Go.Proofs.Ytigebaejdghmmaa.Ow
/-- a contract's word at one text argument's result -/
theorem calls_str {P : Program} {f : FuncId} {x : Int} {s : List UInt8} (h : AC P f [I x] [] [.d true .str s] []) (w : World) : Calls P f #[.int .i64 x] w fun e w' => e = .returned (.string ⟨s.toArray⟩) ∧ Below w.heap.size w w' := by
  refine (h.2 w [] (fun _ => False) [.int .i64 x] ⟨rfl, List.nodup_nil, fun b hb => by simp at hb, fun b hb => hb.elim, fun i b r hb => by simp at hb⟩ ⟨_, _, rfl, rfl, rfl⟩).mono ?_
  rintro e w' ⟨rv, bs', A', rfl, _, hres, hstep, _, _, _⟩
  have hr : rv = .string ⟨s.toArray⟩ := hres
  subst hr
  exact ⟨rfl, hstep.os, hstep.tape, hstep.output, hstep.size, fun k hk => hstep.block k hk (by simp)⟩

/-- impl.FormatInt of a negative integer -/
theorem impl_FormatInt_neg : ∀ (b n : Nat), n < b → 1 ≤ n → n ≤ 9223372036854775808 → AC Try.prog 30 [I (-(n : Int))] [] [.d true .str (45 :: fmtN n)] []
  | b + 1, n, hb, h1, hn => by
    refine AC_of tauOk 36 0 [2] Try.func30 rfl (by kernel_rfl) rfl rfl rfl rfl rfl ?_
    refine ⟨fun h2 => by omega, fun h2 => ?_⟩
    refine ⟨fun h3 => ?_, fun h3 => by omega⟩
    have hl := fmtN_len64 n (by omega)
    refine ⟨fun h4 => ?_, fun h4 => ?_⟩
    · refine ⟨((n : Nat) : Int), w64_eq (by omega) (by omega) (by omega), ?_⟩
      refine ⟨[], false, _, _, impl_FormatInt_nat (n + 1) n (by omega) (by omega), List.nodup_nil, rfl, rfl, trivial, ?_⟩
      refine ⟨by simp; omega, ?_⟩
      exact ⟨none, ⟨rfl, trivial⟩, rfl, rfl⟩
    · have e := fmtN_ge n (by omega)
      refine ⟨by decide, -((n / 10 : Nat) : Int), w64_eq (by rw [Int.neg_tdiv]; rfl) (by omega) (by omega), ?_⟩
      refine ⟨[], false, _, _, impl_FormatInt_neg b (n / 10) (by omega) (by omega) (by omega), List.nodup_nil, rfl, rfl, trivial, ?_⟩
      refine ⟨by decide, -((n % 10 : Nat) : Int), by rw [Int.neg_tmod]; rfl, ?_⟩
      refine ⟨((n % 10 : Nat) : Int), w64_eq (by omega) (by omega) (by omega), ?_⟩
      refine ⟨[], false, _, _, impl_FormatInt_nat (n % 10 + 1) (n % 10) (by omega) (by omega), List.nodup_nil, rfl, rfl, trivial, ?_⟩
      have e2 : (45 :: fmtN (n / 10)) ++ fmtN (n % 10) = 45 :: fmtN n := by rw [e, fmtN_lt (n % 10) (by omega)]; rfl
      refine ⟨by rw [← List.length_append, e2]; simp; omega, ?_⟩
      exact ⟨none, ⟨retS e2.symm, trivial⟩, rfl, rfl⟩
/-- impl.FormatInt -/
theorem impl_FormatInt (n : Int) (h1 : -9223372036854775808 ≤ n) (h2 : n ≤ 9223372036854775807) : AC Try.prog 30 [I n] [] [.d true .str (fmtI n)] [] := by
  by_cases h : n < 0
  · have := impl_FormatInt_neg (n.natAbs + 1) n.natAbs (by omega) (by omega) (by omega)
    rw [show -((n.natAbs : Nat) : Int) = n by omega] at this
    rw [fmtI, if_pos h]; exact this
  · have := impl_FormatInt_nat (n.natAbs + 1) n.natAbs (by omega) (by omega)
    rw [show ((n.natAbs : Nat) : Int) = n by omega] at this
    rw [fmtI, if_neg h]; exact this

end Go.Proofs.Ytigebaejdghmmaa
