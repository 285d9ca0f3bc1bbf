/- DerNumbers. -/
import Derived.Test.YtffgchcidkapjaaDoorTye
import Derived.Test.YtffgchcidkapjaaDoorTlDerNumbers
set_option linter.unusedVariables false
set_option linter.unusedSimpArgs false
set_option linter.unusedSectionVars false
set_option maxRecDepth 20000
namespace Go.Proofs.YtffgchcidkapjaaDoor
open Go.GAM Go.RowKit

theorem numbers_c {d : Der} {cs : List AV} {F : Nat → Prop} {n : Int} {h : AHeap} (D : DV h F d cs) (hF : ∀ i, F i → i < h.length) : C G_law33_DerNumbers.id [.ag cs, .i .i64 n] h Yes := by
  refine G_law33_DerNumbers.call ?_
  simp only [G_law33_DerNumbers.t, G_law33_DerNumbers.j0]
  refine D.box fun h1 hl1 U1 B D1 => st_loadN B D.len.symm (few_c D1 (fun i hi => by have := hF i hi; omega) (st_asB ?_))
  refine bif_both (fun e => lives_c fun h' _ => st_asB kRet_yes) fun e => ?_
  have hf : d.few = true := by simpa using e
  have hsm := few_small hf
  have fin : ∀ hx, G_law33_DerNumbers.p0 (kRet h Yes) true hx := by
    intro hx
    refine G_law33_DerNumbers.i0 ?_
    simp only [G_law33_DerNumbers.t0]
    exact kRet_yes
  refine st_loadN B D.len.symm (int_c D1 (by omega) (st_ext0 (st_asI (st_ext1 (st_asB (st_loadN B D.len.symm (Rint_c D1 (by omega) (st_ext0 (st_asI (st_ext1 (st_asB ?_))))))))))) 
  refine bif_t (by simp) (bif_t (by simp) (intOf_c (RintOf_c ?_)))
  unfold intOfS
  split
  · exact same_c (d := .mk 0 0 false [] []) (by decide) (DV.leaf h1 (fun _ => True) _ _ _ _) (DV.leaf h1 (fun _ => True) _ _ _ _) (st_asB (bif_t rfl (lives_c fun h' _ => st_asB (fin _))))
  · exact same_c (d := .mk 0 2 false (beI (kI n) n) []) (by simp [Der.sz, szs]) (DV.leaf h1 (fun _ => True) _ _ _ _) (DV.leaf h1 (fun _ => True) _ _ _ _) (st_asB (bif_t rfl (lives_c fun h' _ => st_asB (fin _))))

theorem walk_DerNumbers {H : Type} {enc : TypeId × Value → H} {v : Value} {n : Int} {d : DataW H} {p : List MemPlace} (W : World) (hL : laidMet Tryd.prog Rows.derNumbersRow.laid W) (k : DataW.Trod enc Tryd.prog W 0 (fun _ => true) true 25 v d p) (w1 : (Lit.int .i64 n).wf = true) :
    Calls Tryd.prog 5 #[v, .int .i64 n] W fun e w' => e = .returned (.bool true) ∧ Below W.heap.size W w' := by
  obtain ⟨cs, x, hv, hD⟩ := der_arg k
  exact law_calls mixedOK sizeOK soundX (by kernel_rfl) (szOf := fun _ => 5) (.cons _ _ _ _ hv (.cons _ _ _ _ (.i _ _) .nil)) (numbers_c hD fun i hi => by rw [heapC_len]; exact hi)

end Go.Proofs.YtffgchcidkapjaaDoor
