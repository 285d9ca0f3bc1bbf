/- DerDecodes. -/
import Derived.Test.YtffgchcidkapjaaDoorTye
import Derived.Test.YtffgchcidkapjaaDoorTlDerDecodes
set_option linter.unusedVariables false
set_option linter.unusedSimpArgs false
set_option linter.unusedSectionVars false
set_option maxRecDepth 20000
namespace Go.Proofs.YtffgchcidkapjaaDoor
open Go.GAM Go.RowKit

theorem decodes_c {s : List UInt8} {h : AHeap} : C G_law33_DerDecodes.id [.s s] h Yes := by
  refine G_law33_DerDecodes.call ?_
  simp only [G_law33_DerDecodes.t, G_law33_DerDecodes.j0]
  refine bif_both (fun e => lives_c fun h' _ => st_asB kRet_yes) fun e => ?_
  simp only [decide_eq_false_iff_not] at e
  have fin : ∀ hx, G_law33_DerDecodes.p0 (kRet h Yes) true hx := by
    intro hx
    refine G_law33_DerDecodes.i0 ?_
    simp only [G_law33_DerDecodes.t0]
    exact kRet_yes
  refine decode_c ?_
  cases hd : decS s with
  | error x =>
    intro h1 U1
    refine st_ext0 (st_ext1 (st_asI (st_alloc fun h2 hl2 U2 R2 => st_storeN R2 rfl rfl rfl fun h3 hl3 U3 R3 => Rdecode_c ?_)))
    rw [hd]
    intro h4 U4
    have R3 := R3.upd U4 fun h => h
    refine st_ext0 (st_ext1 (st_asI (st_alloc fun h5 hl5 U5 R5 => st_storeN R5 rfl rfl rfl fun h6 hl6 U6 R6 => ?_)))
    have := R3.lt
    have R3 := (R3.upd U5 fun h => h).upd U6 (by omega)
    refine st_loadN R3 rfl (st_loadN R6 rfl (same_c (d := .zero) (by decide) (DV.zero h6 fun _ => True) (DV.zero h6 fun _ => True) (st_asB ?_)))
    exact bif_t rfl (bif_t (by simp) (lives_c fun h' _ => st_asB (fin _)))
  | ok d =>
    intro cs1 h1 U1 D1
    refine st_ext0 (st_ext1 (st_asI (st_alloc fun h2 hl2 U2 R2 => st_storeN R2 rfl D1.len D1.cells fun h3 hl3 U3 R3 => Rdecode_c ?_)))
    rw [hd]
    intro cs2 h4 U4 D2
    have D1 := ((D1.upd (F' := fun i => i < h1.length) U2 fun i hi hl => ⟨fun h => h, hl⟩).upd (F' := fun i => i < h1.length) U3 fun i hi _ => ⟨by omega, hi⟩).upd (F' := fun i => i < h1.length) U4 fun i hi _ => ⟨fun h => h, hi⟩
    have R3 := R3.upd U4 fun h => h
    refine st_ext0 (st_ext1 (st_asI (st_alloc fun h5 hl5 U5 R5 => st_storeN R5 rfl D2.len D2.cells fun h6 hl6 U6 R6 => ?_)))
    have hlt := R3.lt
    have h14 := U4.1
    have R3 := (R3.upd U5 fun h => h).upd U6 (by omega)
    have D1 := (D1.upd (F' := fun i => i < h1.length) U5 fun i hi _ => ⟨fun h => h, hi⟩).upd (F' := fun i => i < h1.length) U6 fun i hi _ => ⟨by omega, hi⟩
    have D2 := (D2.upd (F' := fun i => i < h4.length) U5 fun i hi hl => ⟨fun h => h, hl⟩).upd (F' := fun i => i < h4.length) U6 fun i hi _ => ⟨by omega, hi⟩
    have hsz : d.sz ≤ 1000000 := by
      unfold decS at hd
      rw [if_neg (by omega)] at hd
      split at hd
      · cases hd
      · rename_i d' r n hv
        split at hd
        · cases hd
          have := ((dec_short _).1 _ _ _ _ _ _ hv).2.2
          omega
        · cases hd
    refine st_loadN R3 D1.len.symm (st_loadN R6 D2.len.symm (same_c hsz D1 D2 (st_asB ?_)))
    exact bif_t rfl (bif_t (by simp) (lives_c fun h' _ => st_asB (fin _)))

theorem walk_DerDecodes {s : ByteArray} (W : World) (hL : laidMet Tryd.prog Rows.derDecodesRow.laid W) (w0 : s.size ≤ maxLen) :
    Calls Tryd.prog 3 #[.string s] W fun e w' => e = .returned (.bool true) ∧ Below W.heap.size W w' :=
  law_calls mixedOK sizeOK soundX (by kernel_rfl) (szOf := fun _ => 5) (.cons _ _ _ _ (.s _ _ rfl) .nil) decodes_c

end Go.Proofs.YtffgchcidkapjaaDoor
