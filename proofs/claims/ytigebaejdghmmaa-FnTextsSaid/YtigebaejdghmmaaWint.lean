/-
  Contracts of the functions that write integers as text.
-/
import Derived.Test.YtigebaejdghmmaaWcol
import Derived.Test.YtigebaejdghmmaaPl5
set_option linter.unusedVariables false
namespace Go.Proofs.Ytigebaejdghmmaa
open Go Go.Proofs.Ytigebaejdghmmaa.Ow

/-- impl.FormatInt of a natural number -/
theorem impl_FormatInt_nat : ∀ (b n : Nat), n < b → n ≤ 9223372036854775807 → AC Try.prog 30 [I (n : Nat)] [] [.d true .str (fmtN n)] []
  | b + 1, n, hb, hn => by
    refine AC_of tauOk 36 0 [2] Try.func30 rfl (by kernel_rfl) rfl rfl rfl rfl rfl ?_
    refine ⟨fun h1 => ?_, fun h1 => by omega⟩
    refine ⟨fun h2 => ?_, fun h2 => ?_⟩
    · refine ⟨((48 + n : Nat) : Int), w64_eq (by omega) (by omega) (by omega), ?_⟩
      refine ⟨((48 + n : Nat) : Int), i32w _ (by omega) (by omega), ?_⟩
      refine ⟨_, enc_dg n (by omega), ?_⟩
      exact ⟨none, ⟨retS (by rw [fmtN_lt n (by omega)]), trivial⟩, rfl, rfl⟩
    refine ⟨fun h3 => by omega, fun h3 => ?_⟩
    have hl := fmtN_len64 n (by omega)
    have e := fmtN_ge n (by omega)
    refine ⟨by decide, ((n / 10 : Nat) : Int), w64_eq (Int.ofNat_tdiv n 10) (by omega) (by omega), ?_⟩
    refine ⟨[], false, _, _, impl_FormatInt_nat b (n / 10) (by omega) (by omega), List.nodup_nil, rfl, rfl, trivial, ?_⟩
    refine ⟨by decide, ((n % 10 : Nat) : Int), Int.ofNat_tmod n 10, ?_⟩
    refine ⟨[], false, _, _, impl_FormatInt_nat b (n % 10) (by omega) (by omega), List.nodup_nil, rfl, rfl, trivial, ?_⟩
    have e2 : fmtN (n / 10) ++ fmtN (n % 10) = fmtN n := by rw [e, fmtN_lt (n % 10) (by omega)]
    refine ⟨by rw [← List.length_append, e2]; omega, ?_⟩
    exact ⟨none, ⟨retS e2.symm, trivial⟩, rfl, rfl⟩



theorem impl_ParseWord_loop (s : List UInt8) (hl : s.length ≤ 1048576) (r : List AV) (rr : List Row)
    (hno : colB (psL s) = false → r = [.nil, .d true .bool false] ∧ rr = []) (hyes : colB (psL s) = true → r = [.ow 0, .d true .bool true] ∧ rr = [.sl 3 .int (psL s)]) :
    AC Try.prog 44 [.d true .str s] [] r rr := by
  refine AC_of tauOk 28 0 [2, 3] Try.func44 rfl (by kernel_rfl) rfl rfl rfl rfl rfl ?_
  refine ⟨fun h1 => ?_, fun h1 => ?_⟩
  · obtain ⟨rfl, rfl⟩ := hno (colB_false fun h => by have := h.2; rw [psL_len] at this; omega)
    exact ⟨none, ⟨rfl, rfl, trivial⟩, rfl, rfl⟩
  refine ⟨rfl, by decide, true, ?_⟩
  refine ⟨Nat, fun k => ⟨[(0, .d true .str s), (4, .ow 0), (10, .d true .str s), (11, I s.length), (12, I (k : Nat))], [.sl 3 .int (psL (s.take k))]⟩, fun k => k ≤ s.length, fun k => s.length - k, 0, Nat.zero_le _,
    ⟨⟨rfl, rfl⟩, ⟨rfl, rfl, rfl, rfl, rfl, trivial⟩, rfl, trivial⟩, fun k hk => ?_⟩
  dsimp only at hk
  refine ⟨fun h2 => ?_, fun h2 => ?_⟩
  · have hk2 : k < s.length := by omega
    have hs := psL_succ s k hk2
    have hb := (s.getD k 0).toNat_lt
    have hle : (psL (s.take k)).length ≤ 1048576 := by rw [psL_len]; simp; omega
    refine ⟨k, rfl, by omega, ?_⟩
    refine ⟨(((s.getD k 0).toNat : Nat) : Int), w64_eq rfl (by omega) (by omega), ?_⟩
    refine ⟨(((s.getD k 0).toNat : Nat) : Int) - 48, w64_eq rfl (by omega) (by omega), ?_⟩
    refine ⟨rfl, by decide, false, ?_⟩
    refine ⟨rfl, Nat.zero_le _, rfl, by simp at hle ⊢; omega, rfl, ?_⟩
    exact ⟨((k + 1 : Nat) : Int), w64_eq (by omega) (by omega) (by omega), k + 1, by dsimp only; omega, by dsimp only; omega, ⟨rfl, rfl⟩, ⟨rfl, rfl, rfl, rfl, rfl, trivial⟩, rowE hs.symm, trivial⟩
  · obtain rfl : k = s.length := by omega
    dsimp only; rw [List.take_length]
    refine ⟨[], false, _, _, impl_ColoringOk false (psL s) (by rw [psL_len]; exact hl), List.nodup_nil, rfl, rfl, trivial, fun h3 => ?_, fun h3 => ?_⟩
    · obtain ⟨rfl, rfl⟩ := hyes h3
      exact ⟨some 0, ⟨⟨rfl, rfl⟩, rfl, trivial⟩, ⟨rfl, rfl⟩, rfl⟩
    · obtain ⟨rfl, rfl⟩ := hno h3
      exact ⟨none, ⟨rfl, rfl, trivial⟩, rfl, rfl⟩
theorem impl_ParseWord (s : List UInt8) (hl : s.length ≤ 1048576) (hc : colB (psL s) = true) : AC Try.prog 44 [.d true .str s] [] [.ow 0, .d true .bool true] [.sl 3 .int (psL s)] :=
  impl_ParseWord_loop s hl _ _ (fun h => by rw [hc] at h; cases h) (fun _ => ⟨rfl, rfl⟩)
theorem impl_ParseWord_no (s : List UInt8) (hl : s.length ≤ 1048576) (hc : colB (psL s) = false) : AC Try.prog 44 [.d true .str s] [] [.nil, .d true .bool false] [] :=
  impl_ParseWord_loop s hl _ _ (fun _ => ⟨rfl, rfl⟩) (fun h => by rw [hc] at h; cases h)


end Go.Proofs.Ytigebaejdghmmaa
