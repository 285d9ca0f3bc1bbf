/- TransformEncodes. -/
import Derived.Test.YtbphaelhhfkdiaaDoorTyb
import Derived.Test.YtbphaelhhfkdiaaDoorRows
import Derived.Test.YtbphaelhhfkdiaaDoorTlTransformEncodes
set_option linter.unusedVariables false
set_option linter.unusedSimpArgs false
set_option linter.unusedSectionVars false
set_option maxRecDepth 20000
namespace Go.Proofs.YtbphaelhhfkdiaaDoor
open Go.GAM Go.RowKit

theorem encodes_c {s : List UInt8} {h : AHeap} (p : PadOK h) : C G_law26_TransformEncodes.id [.s s] h Yes := by
  refine G_law26_TransformEncodes.call ?_
  simp only [G_law26_TransformEncodes.t, G_law26_TransformEncodes.j0]
  refine long_c (st_asB ?_)
  refine bif_both (fun e => awake_c (st_asB kRet_yes)) fun e => ?_
  simp only [decide_eq_false_iff_not] at e
  refine ep_c (by omega) (st_asS (Rep_c (by omega) (st_asS (bif_t (by simp) ?_))))
  refine eb_c p (by omega) (st_asS (Reb_c (by omega) (st_asS (bif_t (by simp) ?_))))
  refine eh_c (by omega) (st_asS (Reh_c (by omega) (st_asS (bif_t (by simp) ?_))))
  refine awake_c (st_asB ?_)
  refine G_law26_TransformEncodes.i0 ?_
  simp only [G_law26_TransformEncodes.t0]
  exact kRet_yes

theorem walk_TransformEncodes {s : ByteArray} (W : World) (hL : laidMet Tryd.prog Rows.transformEncodesRow.laid W) (w0 : s.size ≤ maxLen) :
    Calls Tryd.prog 8 #[.string s] W fun e w' => e = .returned (.bool true) ∧ Below W.heap.size W w' :=
  law_calls mixedOK sizeOK soundX (by kernel_rfl) (szOf := fun _ => 1) (.cons _ _ _ _ (.s _ _ rfl) .nil) (encodes_c (pads_ok (.tail _ (.head _)) hL))

end Go.Proofs.YtbphaelhhfkdiaaDoor
