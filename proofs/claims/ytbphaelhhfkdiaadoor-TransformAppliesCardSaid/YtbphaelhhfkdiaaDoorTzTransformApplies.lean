/- TransformApplies. -/
import Derived.Test.YtbphaelhhfkdiaaDoorTy7
import Derived.Test.YtbphaelhhfkdiaaDoorRows
set_option linter.unusedVariables false
set_option linter.unusedSimpArgs false
set_option linter.unusedSectionVars false
set_option maxRecDepth 20000
namespace Go.Proofs.YtbphaelhhfkdiaaDoor
open Go.GAM Go.RowKit

section
variable {s : List UInt8} {h0 : AHeap} {Q : AV → AHeap → Prop}

/-! ### TransformApplies -/

theorem applies_c {k : Int} {h : AHeap} : C G_law26_TransformApplies.id [.i .i64 k, .s s] h Yes := by
  refine G_law26_TransformApplies.call ?_
  simp only [G_law26_TransformApplies.t, G_law26_TransformApplies.j0]
  have fin : ∀ h', G_law26_TransformApplies.p0 (kRet h Yes) true h' := by
    intro h'
    refine G_law26_TransformApplies.i0 ?_
    simp only [G_law26_TransformApplies.t0]
    exact kRet_yes
  refine long_c (st_asB ?_)
  refine bif_both (fun e => awake_c (st_asB (bif_t rfl (fin _)))) fun e => ?_
  simp only [decide_eq_false_iff_not] at e
  refine apply_c (by omega) (st_asS (Rapply_c (by omega) (st_asS ?_)))
  exact bif_t (by simp) (awake_c (st_asB (fin _)))

theorem walk_TransformApplies {k : Int} {s : ByteArray} (W : World) (hL : laidMet Tryd.prog Rows.transformAppliesRow.laid W) (w0 : (Lit.int .i64 k).wf = true) (w1 : s.size ≤ maxLen) :
    Calls Tryd.prog 3 #[.int .i64 k, .string s] W fun e w' => e = .returned (.bool true) ∧ Below W.heap.size W w' :=
  law_calls mixedOK sizeOK soundX (by kernel_rfl) (szOf := fun _ => 1) (.cons _ _ _ _ (.i _ _) (.cons _ _ _ _ (.s _ _ rfl) .nil)) applies_c

end
end Go.Proofs.YtbphaelhhfkdiaaDoor
