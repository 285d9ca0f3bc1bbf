/- DerEncodes. -/
import Derived.Test.YtffgchcidkapjaaDoorTye
import Derived.Test.YtffgchcidkapjaaDoorTlDerEncodes
set_option linter.unusedVariables false
set_option linter.unusedSimpArgs false
set_option linter.unusedSectionVars false
set_option maxRecDepth 20000
namespace Go.Proofs.YtffgchcidkapjaaDoor
open Go.GAM Go.RowKit

theorem encodes_c {d : Der} {cs : List AV} {F : Nat → Prop} {h : AHeap} (D : DV h F d cs) (hF : ∀ i, F i → i < h.length) : C G_law33_DerEncodes.id [.ag cs] h Yes := by
  refine G_law33_DerEncodes.call ?_
  simp only [G_law33_DerEncodes.t, G_law33_DerEncodes.j0]
  refine D.box fun h1 hl1 U1 B D1 => st_loadN B D.len.symm (few_c D1 (fun i hi => by have := hF i hi; omega) (st_asB ?_))
  refine bif_both (fun e => lives_c fun h' _ => st_asB kRet_yes) fun e => ?_
  have hf : d.few = true := by simpa using e
  have hsm := few_small hf
  have fin : ∀ hx, G_law33_DerEncodes.p0 (kRet h Yes) true hx := by
    intro hx
    refine G_law33_DerEncodes.i0 ?_
    simp only [G_law33_DerEncodes.t0]
    exact kRet_yes
  refine st_loadN B D.len.symm (encode_c (by omega) (by omega) D1 (fun i hi => by have := hF i hi; omega) ?_)
  cases he : encS d with
  | error x =>
    refine st_ext0 (st_asS (st_ext1 (st_asI (st_loadN B D.len.symm (Rencode_c (by omega) (by omega) D1 (fun i hi => by have := hF i hi; omega) ?_)))))
    rw [he]
    refine st_ext0 (st_asS (st_ext1 (st_asI (bif_t (by simp) (bif_t (by simp) (lives_c fun h' _ => st_asB (fin _)))))))
  | ok l =>
    refine st_ext0 (st_asS (st_ext1 (st_asI (st_loadN B D.len.symm (Rencode_c (by omega) (by omega) D1 (fun i hi => by have := hF i hi; omega) ?_)))))
    rw [he]
    refine st_ext0 (st_asS (st_ext1 (st_asI (bif_t (by simp) (bif_t (by simp) (lives_c fun h' _ => st_asB (fin _)))))))

theorem walk_DerEncodes {H : Type} {enc : TypeId × Value → H} {v : Value} {d : DataW H} {p : List MemPlace} (W : World) (hL : laidMet Tryd.prog Rows.derEncodesRow.laid W) (k : DataW.Trod enc Tryd.prog W 0 (fun _ => true) true 25 v d p) :
    Calls Tryd.prog 4 #[v] W fun e w' => e = .returned (.bool true) ∧ Below W.heap.size W w' := by
  obtain ⟨cs, x, hv, hD⟩ := der_arg k
  exact law_calls mixedOK sizeOK soundX (by kernel_rfl) (szOf := fun _ => 5) (.cons _ _ _ _ hv .nil) (encodes_c hD fun i hi => by rw [heapC_len]; exact hi)

end Go.Proofs.YtffgchcidkapjaaDoor
