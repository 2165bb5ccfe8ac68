/-
  What is drawn as a tree is a tree.
-/
import Derived.Test.YtigebaejdghmmaaWdrw
import Derived.Test.YtigebaejdghmmaaPlP
set_option linter.unusedVariables false
namespace Go.Proofs.Ytigebaejdghmmaa
open Go Go.Proofs.Ytigebaejdghmmaa.Ow
theorem drwT_ok (code : List Int) : ∀ n c l, TreeP l → n + l.length ≤ 9 → TreeP (drwT code n c l).2 ∧ (drwT code n c l).2.length ≤ 9
  | 0, c, l, h, hl => ⟨h, by show l.length ≤ 9; omega⟩
  | n + 1, c, l, h, hl => by
    rw [drwT]
    exact drwT_ok code n _ _ (treeP_ext h (by omega) (belR_lt code c h.1.1)) (by rw [List.length_append, List.length_singleton]; omega)
theorem one_tree : TreeP [-1] := (treeB_iff _).1 (by decide)
theorem mkTree_ok (code : List Int) (c : Cu) : TreeP (mkTree code c 9).2 ∧ (mkTree code c 9).2.length ≤ 9 := by
  have := belR_lt code c (show 1 ≤ 9 by decide)
  exact drwT_ok code _ _ _ one_tree (by simp; omega)
end Go.Proofs.Ytigebaejdghmmaa
