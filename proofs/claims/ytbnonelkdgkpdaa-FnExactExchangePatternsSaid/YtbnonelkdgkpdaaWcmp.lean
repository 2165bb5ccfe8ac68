/-
  slices.Compare of integers, as the library's sort asks for it: the world is as it was.
-/
import Derived.Test.YtbnonelkdgkpdaaWlst
import Derived.Shelf.RegionOpenPlain
import Derived.WalkKit
import Derived.Deep.LoopGhost
import Derived.Deep.Draws
import Derived.Lib.Walk
set_option linter.unusedVariables false
namespace Go.Proofs.Ytbnonelkdgkpdaa
open Go Go.RowKit Go.Lib Go.Proofs.Ytbnonelkdgkpdaa.Ow
set_option maxHeartbeats 2000000 in
set_option maxRecDepth 100000 in
theorem compare_go (b1 o1 n c b2 o2 m d : Nat) (xs ys : List Int) (w : World) (hx : xs.length = n) (hy : ys.length = m) (hbig : n ≤ 1048576) (hbig2 : m ≤ 1048576)
    (hc1 : ∀ j, j < n → w.cell? ⟨b1, o1 + j, none⟩ = some (.int .i64 (xs.getD j 0))) (hc2 : ∀ j, j < m → w.cell? ⟨b2, o2 + j, none⟩ = some (.int .i64 (ys.getD j 0))) :
    Calls Try.prog 85 #[.slice (some ⟨b1, o1, none⟩) n c, .slice (some ⟨b2, o2, none⟩) m d] w fun e w' => e = .returned (.int .i64 (cmpI xs ys)) ∧ w' = w := by
  have P0 : Aside (xs.length = n ∧ ys.length = m) := ⟨hx, hy⟩
  clear hx hy
  go_enter Try.func85, Try.ntmps85
  go_wp2
  go_loopg [11] n (fun g s11 wr => ∃ k : Nat, k ≤ n ∧ k ≤ m ∧ n - k ≤ g ∧ s11 = .int .i64 k ∧ wr = w ∧ Aside (cmpI (xs.drop k) (ys.drop k) = cmpI xs ys))
  case atStart => exact ⟨0, Nat.zero_le _, Nat.zero_le _, by omega, rfl, rfl, (rfl : cmpI (xs.drop 0) (ys.drop 0) = cmpI xs ys)⟩
  case round =>
    obtain ⟨k, hk, hkm, hg, rfl, rfl, heq⟩ := hrel
    by_cases hlt : k < n
    · have g1 := hc1 k hlt
      by_cases hlm : k < m
      · have g2 := hc2 k hlm
        have hd : Aside (cmpI (xs.drop k) (ys.drop k) = if xs.getD k 0 < ys.getD k 0 then -1 else if ys.getD k 0 < xs.getD k 0 then 1 else cmpI (xs.drop (k + 1)) (ys.drop (k + 1))) := cmpI_drop xs ys k (by have := P0.out; omega) (by have := P0.out; omega)
        clear hc1 hc2
        generalize hxk : xs.getD k 0 = x at g1
        generalize hyk : ys.getD k 0 = y at g2
        have B : Aside (xs.getD k 0 = x ∧ ys.getD k 0 = y) := ⟨hxk, hyk⟩
        clear hxk hyk
        have hci : Lib.compareInt x y = if x < y then -1 else if y < x then 1 else 0 := rfl
        have hcall : ∀ w', Calls Try.prog 115 #[.int .i64 x, .int .i64 y] w' fun e w'' => e = .returned (.int .i64 (if x < y then -1 else if y < x then 1 else 0)) ∧ w'' = w' := fun w' => Try.cmp_Compare_int x y w'
        by_cases h1 : x < y
        · simp only [if_pos h1] at hcall
          go_wp2_with (go_at_call 115; refine (hcall _).mono ?_; rintro e w' ⟨rfl, rfl⟩)
          go_ret
          refine ⟨?_, rfl⟩
          rw [← heq.out, hd.out, B.out.1, B.out.2, if_pos h1]
          rfl
        · by_cases h2 : y < x
          · have H : Aside (¬ x < y ∧ y < x) := ⟨h1, h2⟩
            simp only [if_neg h1, if_pos h2] at hcall
            go_wp2_with (go_at_call 115; refine (hcall _).mono ?_; rintro e w' ⟨rfl, rfl⟩)
            go_ret
            refine ⟨?_, rfl⟩
            rw [← heq.out, hd.out, B.out.1, B.out.2, if_neg (show ¬ x < y by have := H.out.1; omega), if_pos (show y < x by have := H.out.2; omega)]
            rfl
          · have H : Aside (¬ x < y ∧ ¬ y < x) := ⟨h1, h2⟩
            simp only [if_neg h1, if_neg h2] at hcall
            go_wp2_with (go_at_call 115; refine (hcall _).mono ?_; rintro e w' ⟨rfl, rfl⟩)
            go_roundg (n - (k + 1))
            case measure => omega
            case rel =>
              refine ⟨k + 1, by omega, by omega, by omega, by go_num, rfl, ?_⟩
              have := hd.out
              rw [B.out.1, B.out.2, if_neg (show ¬ x < y by have := H.out.1; omega), if_neg (show ¬ y < x by have := H.out.2; omega)] at this
              exact this.symm.trans heq.out
      · obtain rfl : k = m := by omega
        have hr := heq.out
        rw [show ys.drop k = [] from List.drop_eq_nil_of_le (by have := P0.out; omega), List.drop_eq_getElem_cons (show k < xs.length by have := P0.out; omega)] at hr
        have hr' : Aside (cmpI xs ys = 1) := hr.symm
        clear hc1 hc2 hr
        go_wp2
        go_ret
        exact ⟨by rw [hr'.out]; rfl, rfl⟩
    · obtain rfl : k = n := by omega
      have hr := heq.out
      rw [show xs.drop k = [] from List.drop_eq_nil_of_le (by have := P0.out; omega)] at hr
      by_cases hnm : k < m
      · rw [List.drop_eq_getElem_cons (show k < ys.length by have := P0.out; omega)] at hr
        have hr' : Aside (cmpI xs ys = -1) := hr.symm
        clear hc1 hc2 hr
        go_wp2
        go_ret
        exact ⟨by rw [hr'.out]; rfl, rfl⟩
      · rw [show ys.drop k = [] from List.drop_eq_nil_of_le (by have := P0.out; omega)] at hr
        have hr' : Aside (cmpI xs ys = 0) := hr.symm
        clear hc1 hc2 hr
        go_wp2
        go_ret
        exact ⟨by rw [hr'.out]; rfl, rfl⟩
end Go.Proofs.Ytbnonelkdgkpdaa
