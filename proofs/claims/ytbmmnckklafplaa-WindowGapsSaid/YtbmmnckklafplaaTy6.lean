/- The laws in the model: WindowPlays. -/
import Derived.Test.YtbmmnckklafplaaTy5
import Derived.Test.YtbmmnckklafplaaAm20
import Derived.KernelRfl
set_option linter.unusedVariables false
set_option linter.unusedSimpArgs false
set_option linter.unusedSectionVars false
namespace Go.Proofs.Ytbmmnckklafplaa
open Go.GAM Go.RowKit

theorem mixedOK : prog.follows .mixedOrders = true := by kernel_rfl
theorem sizeOK : prog.funcs.size ≤ yid0 := Nat.le_of_ble_eq_true (by kernel_rfl)
theorem soundX : Sound prog (@X xr1) := aFR_sound mixedOK sizeOK (acall_sound mixedOK sizeOK Sound.none) fun w0 Fz μb Y hY => acall_soundAt mixedOK sizeOK hY

theorem step_row {H : Type} {enc : TypeId × Value → H} {w : World} {szOf : Nat → Nat} (r : List Value) (n : Nat) (y : DataW H × List MemPlace) (h : DataW.trod enc prog w 0 (fun _ => true) true n 41 r = some y) : ∃ x : Int × Int, r.map (absV w szOf) = encStep x := by
  obtain ⟨xs, m, _, _, hl, hs, hf⟩ := DataW.trod_struct Try.underlying41 h
  have hc : prog.cellsOf 41 = 2 := by kernel_rfl
  rw [hc] at hl
  match r, hl with
  | [c0, c1], _ =>
    have hc3 : Try.prog.cellsOf 3 = 1 := by kernel_rfl
    have h0 := hf 0 _ rfl
    have h1 := hf 1 _ rfl
    rw [List.getElem?_eq_getElem (by rw [hs]; decide)] at h0 h1
    obtain ⟨a, e0, _, _⟩ := DataW.trod_int Try.underlying3 h0
    obtain ⟨b, e1, _, _⟩ := DataW.trod_int Try.underlying3 h1
    simp [hc3] at e0 e1
    subst e0; subst e1
    exact ⟨(a, b), rfl⟩

theorem walk_WindowPlays {H : Type} {enc : TypeId × Value → H} {a0 a1 : Int} {b : Option Addr} {len cap : Nat} {d : DataW H} {p : List MemPlace} (W : World) (w0 : (Lit.int .i64 a0).wf = true) (w1 : (Lit.int .i64 a1).wf = true) (k : DataW.Trod enc prog W 0 (fun _ => true) true 37 (.slice b len cap) d p) :
    Calls prog 5 #[.int .i64 a0, .int .i64 a1, .slice b len cap] W fun e w' => e = .returned (.bool true) ∧ Below W.heap.size W w' := by
  obtain ⟨av, l, hv, hs⟩ := row_arg (szOf := fun _ => 2) encStep Try.underlying37 (by kernel_rfl) (by decide) (fun _ => rfl) step_row k
  exact law_calls mixedOK sizeOK soundX (by kernel_rfl) (szOf := fun _ => 2) (.cons _ _ _ _ (.i _ _) (.cons _ _ _ _ (.i _ _) (.cons _ _ _ _ hv .nil))) (WindowPlays_c hs)

end Go.Proofs.Ytbmmnckklafplaa
