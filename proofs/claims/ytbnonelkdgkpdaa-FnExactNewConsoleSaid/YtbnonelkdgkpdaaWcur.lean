/-
  Contracts of the functions that draw numbers from a text of bytes.
-/
import Derived.Test.YtbnonelkdgkpdaaWcom
set_option linter.unusedVariables false
namespace Go.Proofs.Ytbnonelkdgkpdaa
open Go Go.Proofs.Ytbnonelkdgkpdaa.Ow
/-- the state behind k bytes -/
def hsN (code : List Int) : Nat → Int
  | 0 => w64 (2124 + (code.length : Nat))
  | k + 1 => w64 ((BitVec.ofInt 64 (w64 (w64 (w64 (hsN code k * 131) + w64 (code.getD k 0)) + 7)) &&& BitVec.ofInt 64 1073741823).toNat : Nat)
def hs0 (code : List Int) : Int := hsN code (min code.length 4000)
def curH (h : Int) : Int := w64 (w64 (h * 6364136223846793005) + 1442695040888963407)
def curX (h : Int) : Int := w64 ((BitVec.ofInt 64 (w64 ((BitVec.ofInt 64 (h.fdiv (2 ^ (min (33 : Int).toNat 64))) ^^^ BitVec.ofInt 64 (h.fdiv (2 ^ (min (45 : Int).toNat 64)))).toNat : Nat)) &&& BitVec.ofInt 64 255).toNat : Nat)
def curR (code : List Int) (i : Nat) (h : Int) : Int := if i < code.length then w64 ((BitVec.ofInt 64 (w64 (curX (curH h) + w64 (code.getD i 0))) &&& BitVec.ofInt 64 255).toNat : Nat) else curX (curH h)
def curI (code : List Int) (i : Nat) : Nat := if i < code.length then i + 1 else i
theorem and255 (x : BitVec 64) : 0 ≤ w64 ((x &&& BitVec.ofInt 64 255).toNat : Nat) ∧ w64 ((x &&& BitVec.ofInt 64 255).toNat : Nat) ≤ 255 := by
  have h : (x &&& BitVec.ofInt 64 255).toNat ≤ 255 := by
    rw [BitVec.toNat_and]
    exact Nat.and_le_right
  have e := w64_in ((x &&& BitVec.ofInt 64 255).toNat : Nat) (by omega) (by omega)
  rw [← e]; omega
theorem curR_b (code : List Int) (i : Nat) (h : Int) : 0 ≤ curR code i h ∧ curR code i h ≤ 255 := by
  unfold curR
  split
  · exact and255 _
  · exact and255 _
theorem curI_le (code : List Int) (i : Nat) (h : i ≤ code.length) : curI code i ≤ code.length := by unfold curI; split <;> omega
def cI (code : List Int) : Nat → Nat
  | 0 => 0
  | k + 1 => curI code (cI code k)
def cH (code : List Int) : Nat → Int
  | 0 => hs0 code
  | k + 1 => curH (cH code k)
theorem cI_le (code : List Int) : ∀ k, cI code k ≤ code.length
  | 0 => Nat.zero_le _
  | k + 1 => curI_le code _ (cI_le code k)
def mkNum (code : List Int) (n : Nat) : Int := curR code (cI code n) (cH code n) * 256 + curR code (cI code (n + 1)) (cH code (n + 1))
theorem mkNum_b (code : List Int) (n : Nat) : 0 ≤ mkNum code n ∧ mkNum code n ≤ 65535 := by
  have h1 := curR_b code (cI code n) (cH code n)
  have h2 := curR_b code (cI code (n + 1)) (cH code (n + 1))
  unfold mkNum; omega
/-- spec.l01New -/
theorem spec_l01New (code : List Int) (hl : code.length ≤ 1048576) : AC Try.prog 84 [.d true (.sl .u8) code] [] [.ptr 0 0] [.sl 82 .mix [.u8s code, .int 0, .int (hs0 code)]] := by
  refine AC_of tauOk 32 0 [2] Try.func84 rfl (by kernel_rfl) rfl rfl rfl rfl rfl ?_
  refine ⟨_, rfl, ?_⟩
  refine ⟨Nat, fun k => ⟨[(0, .d true (.sl .u8) code), (3, I (hsN code k)), (4, I (k : Nat))], []⟩, fun k => k ≤ min code.length 4000, fun k => code.length - k, 0, Nat.zero_le _,
    ⟨⟨rfl, rfl⟩, ⟨rfl, rfl, rfl, trivial⟩, trivial⟩, fun k hk => ?_⟩
  dsimp only at hk
  have fin : ¬ (k < code.length ∧ k < 4000) → k = min code.length 4000 := by omega
  refine ⟨fun h1 => ?_, fun h1 => ?_⟩
  · refine ⟨fun h2 => ?_, fun h2 => ?_⟩
    · refine ⟨_, rfl, k, rfl, by omega, _, rfl, _, rfl, _, rfl, _, rfl, ?_⟩
      exact ⟨((k + 1 : Nat) : Int), w64_eq (by omega) (by omega) (by omega), k + 1, by dsimp only; omega, by dsimp only; omega, ⟨rfl, rfl⟩, ⟨rfl, rfl, rfl, trivial⟩, trivial⟩
    · obtain rfl := fin (by omega)
      refine ⟨Nat.zero_lt_succ _, (by decide : 3 ≤ 1000), ?_⟩
      exact ⟨some 0, ⟨⟨rfl, rfl⟩, trivial⟩, ⟨rfl, rfl⟩, rfl⟩
  · obtain rfl := fin (by omega)
    refine ⟨Nat.zero_lt_succ _, (by decide : 3 ≤ 1000), ?_⟩
    exact ⟨some 0, ⟨⟨rfl, rfl⟩, trivial⟩, ⟨rfl, rfl⟩, rfl⟩
/-- spec.l01Byte -/
theorem spec_l01Byte (code : List Int) (hl : code.length ≤ 1048576) (i : Nat) (h : Int) : AC Try.prog 42 [.ptr 0 0] [.sl 82 .mix [.u8s code, .int (i : Nat), .int h]] [I (curR code i h)] [.sl 82 .mix [.u8s code, .int (curI code i : Nat), .int (curH h)]] := by
  by_cases hi : i < code.length
  · rw [curR, if_pos hi, curI, if_pos hi]
    refine AC_of tauOk 58 1 [2] Try.func42 rfl (by kernel_rfl) rfl rfl rfl rfl rfl ?_
    refine ⟨(by decide : 2 < 3), (by decide : 2 < 3), _, rfl, _, rfl, (by decide : 2 < 3), (by decide : 2 < 3), ?_⟩
    refine ⟨none, by kernel_rfl, (by decide : 2 < 3), (by decide : 2 < 3), by decide, _, rfl, (by decide : 2 < 3), (by decide : 2 < 3), by decide, _, rfl, _, rfl, _, rfl, ?_⟩
    refine ⟨none, by kernel_rfl, (by decide : 1 < 3), (by decide : 1 < 3), (by decide : 0 < 3), (by decide : 0 < 3), fun h1 => ?_, fun h1 => ?_⟩
    · refine ⟨none, by kernel_rfl, (by decide : 0 < 3), (by decide : 0 < 3), (by decide : 1 < 3), (by decide : 1 < 3), i, rfl, hi, _, rfl, _, rfl, _, rfl, ?_⟩
      refine ⟨(by decide : 1 < 3), (by decide : 1 < 3), ((i + 1 : Nat) : Int), w64_eq (by omega) (by omega) (by omega), (by decide : 1 < 3), (by decide : 1 < 3), ?_⟩
      exact ⟨none, ⟨rfl, trivial⟩, rfl, rfl⟩
    · omega
  · rw [curR, if_neg hi, curI, if_neg hi]
    refine AC_of tauOk 58 1 [2] Try.func42 rfl (by kernel_rfl) rfl rfl rfl rfl rfl ?_
    refine ⟨(by decide : 2 < 3), (by decide : 2 < 3), _, rfl, _, rfl, (by decide : 2 < 3), (by decide : 2 < 3), ?_⟩
    refine ⟨none, by kernel_rfl, (by decide : 2 < 3), (by decide : 2 < 3), by decide, _, rfl, (by decide : 2 < 3), (by decide : 2 < 3), by decide, _, rfl, _, rfl, _, rfl, ?_⟩
    refine ⟨none, by kernel_rfl, (by decide : 1 < 3), (by decide : 1 < 3), (by decide : 0 < 3), (by decide : 0 < 3), fun h1 => ?_, fun h1 => ?_⟩
    · omega
    · exact ⟨none, ⟨rfl, trivial⟩, rfl, rfl⟩
/-- spec.l16New -/
theorem spec_l16New (code : List Int) (hl : code.length ≤ 1048576) (n : Nat) (hn : n ≤ 1000) : AC Try.prog 41 [.d true (.sl .u8) code, I (n : Nat)] [] [.ptr 0 0] [.sl 82 .mix [.u8s code, .int (cI code n : Nat), .int (cH code n)]] := by
  refine AC_of tauOk 17 0 [4] Try.func41 rfl (by kernel_rfl) rfl rfl rfl rfl rfl ?_
  refine ⟨[], false, _, _, spec_l01New code hl, List.nodup_nil, rfl, rfl, trivial, ?_⟩
  refine ⟨Nat, fun k => ⟨[(1, I (n : Nat)), (5, .ptr 0 0), (6, I (k : Nat))], [.sl 82 .mix [.u8s code, .int (cI code k : Nat), .int (cH code k)]]⟩, fun k => k ≤ n, fun k => n - k, 0, Nat.zero_le _,
    ⟨⟨rfl, rfl⟩, ⟨rfl, rfl, rfl, trivial⟩, rfl, trivial⟩, fun k hk => ?_⟩
  dsimp only at hk
  refine ⟨fun h1 => ?_, fun h1 => ?_⟩
  · refine ⟨[0], false, _, _, spec_l01Byte code hl (cI code k) (cH code k), by decide, rfl, rfl, ⟨⟨rfl, rfl, rfl⟩, trivial⟩, ?_⟩
    exact ⟨((k + 1 : Nat) : Int), w64_eq (by omega) (by omega) (by omega), k + 1, by dsimp only; omega, by dsimp only; omega, ⟨rfl, rfl⟩, ⟨rfl, rfl, rfl, trivial⟩, rfl, trivial⟩
  · obtain rfl : k = n := by omega
    exact ⟨some 0, ⟨⟨rfl, rfl⟩, trivial⟩, ⟨rfl, rfl⟩, rfl⟩
/-- spec.MakeNum -/
theorem spec_MakeNum (code : List Int) (hl : code.length ≤ 1048576) (n : Nat) (hn : n ≤ 1000) : AC Try.prog 9 [.d true (.sl .u8) code, I (n : Nat)] [] [I (mkNum code n)] [] := by
  have h1 := curR_b code (cI code n) (cH code n)
  have h2 := curR_b code (cI code (n + 1)) (cH code (n + 1))
  refine AC_of tauOk 15 0 [4] Try.func9 rfl (by kernel_rfl) rfl rfl rfl rfl rfl ?_
  refine ⟨[], false, _, _, spec_l16New code hl n hn, List.nodup_nil, rfl, rfl, trivial, ?_⟩
  refine ⟨[0], false, _, _, spec_l01Byte code hl (cI code n) (cH code n), by decide, rfl, rfl, ⟨⟨rfl, rfl, rfl⟩, trivial⟩, ?_⟩
  refine ⟨_, w64_in _ (by omega) (by omega), ?_⟩
  refine ⟨[0], false, _, _, spec_l01Byte code hl (cI code (n + 1)) (cH code (n + 1)), by decide, rfl, rfl, ⟨⟨rfl, rfl, rfl⟩, trivial⟩, ?_⟩
  refine ⟨mkNum code n, w64_eq rfl (by unfold mkNum; omega) (by unfold mkNum; omega), ?_⟩
  exact ⟨none, ⟨rfl, trivial⟩, rfl, rfl⟩
end Go.Proofs.Ytbnonelkdgkpdaa
