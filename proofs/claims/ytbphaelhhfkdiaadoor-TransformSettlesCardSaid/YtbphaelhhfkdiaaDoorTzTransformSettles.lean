/- TransformSettles. -/
import Derived.Test.YtbphaelhhfkdiaaDoorTy8
import Derived.Test.YtbphaelhhfkdiaaDoorRows
import Derived.Test.YtbphaelhhfkdiaaDoorTlTransformSettles
set_option linter.unusedVariables false
set_option linter.unusedSimpArgs false
set_option linter.unusedSectionVars false
set_option maxRecDepth 20000
namespace Go.Proofs.YtbphaelhhfkdiaaDoor
open Go.GAM Go.RowKit

section
variable {s : List UInt8} {h0 : AHeap} {Q : AV → AHeap → Prop}

theorem settles_c {h : AHeap} : C G_law26_TransformSettles.id [.s s] h Yes := by
  refine G_law26_TransformSettles.call ?_
  simp only [G_law26_TransformSettles.t, G_law26_TransformSettles.j0]
  refine long_c (st_asB ?_)
  refine bif_both (fun e => awake_c (st_asB kRet_yes)) fun e => ?_
  simp only [decide_eq_false_iff_not] at e
  have l1 := apply_len 1 s
  have l2 := apply_len 2 s
  have l5 := apply_len 5 s
  refine apply_c (by omega) (st_asS (apply_c (by omega) (st_asS (apply_c (by omega) (st_asS ?_)))))
  refine apply_c (by omega) (st_asS (bif_t (decide_eq_true (lowS_idem s)) ?_))
  refine apply_c (by omega) (st_asS (bif_t (decide_eq_true (stripS_idem s)) ?_))
  refine apply_c (by omega) (st_asS (bif_t (decide_eq_true (path_idem s)) ?_))
  refine bif_t (decide_eq_true ?_) (awake_c (st_asB ?_))
  · show ((lowS s).length : Int) = _
    simp [lowS]
  refine G_law26_TransformSettles.i0 ?_
  simp only [G_law26_TransformSettles.t0]
  exact kRet_yes

theorem walk_TransformSettles {s : ByteArray} (W : World) (hL : laidMet Tryd.prog Rows.transformSettlesRow.laid W) (w0 : s.size ≤ maxLen) :
    Calls Tryd.prog 4 #[.string s] W fun e w' => e = .returned (.bool true) ∧ Below W.heap.size W w' :=
  law_calls mixedOK sizeOK soundX (by kernel_rfl) (szOf := fun _ => 1) (.cons _ _ _ _ (.s _ _ rfl) .nil) settles_c

end
end Go.Proofs.YtbphaelhhfkdiaaDoor
