/- The table of pads, laid. -/
import Derived.Test.YtbphaelhhfkdiaaDoorTya
import Derived.Test.YtbphaelhhfkdiaaDoorRows
import Derived.OpenShut
set_option linter.unusedVariables false
set_option linter.unusedSimpArgs false
set_option linter.unusedSectionVars false
set_option maxRecDepth 20000
namespace Go.Proofs.YtbphaelhhfkdiaaDoor
open Go.GAM Go.RowKit Go.ChangeShapes

theorem pads_ok {W : World} {l : List (String × DataW Unit)} (hm : ("intrusion/transform.pads", Rows.laid_intrusion_transform_pads) ∈ l) (hL : laidMet Tryd.prog l W) : PadOK (heapC W fun _ => 1) := by
  obtain ⟨g, t, cs, fuel, p, hg, ht, hv, hd⟩ := laid_shape hm hL
  obtain rfl := Option.some.inj ((show Tryd.prog.globalNamed "intrusion/transform.pads" = some 0 by kernel_rfl).symm.trans hg)
  obtain rfl := Option.some.inj ((show (Tryd.prog.globals[0]?).map (·.type) = some 38 by kernel_rfl).symm.trans ht)
  obtain ⟨t', fr, hh⟩ := var_shape hg hv
  obtain ⟨xs, m, _, ex, hlen, hl, hel⟩ := DataW.trod_array Tryd.underlying38 hd
  have c1 : Tryd.prog.cellsOf 9 = 1 := by kernel_rfl
  have hx : xs.map (·.1) = [(.lit (.string []) : DataW Unit), .lit (.string [61, 61]), .lit (.string [61])] := (DataW.agg.inj (Prod.mk.inj ex).1).symm
  have hxl : xs.length = 3 := by simpa using congrArg List.length hx
  have each : ∀ (i : Nat) (b : List UInt8), (xs.map (·.1))[i]? = some (DataW.lit (Lit.string b)) → ∃ s : ByteArray, cs.toList[i]? = some (Value.string s) ∧ s.data.toList = b := by
    intro i b hb
    have hi : i < xs.length := by have := lt_of_some hb; simpa using this
    have hE := hel i (by omega)
    rw [c1, Nat.mul_one, List.getElem?_eq_getElem hi] at hE
    obtain ⟨s, e1, e2, _⟩ := DataW.trod_string Tryd.underlying9 hE
    rw [List.getElem?_map, List.getElem?_eq_getElem hi, e2] at hb
    simp only [Option.map_some, Option.some.injEq, DataW.lit.injEq, Lit.string.injEq] at hb
    have h0 : ((cs.toList.drop i).take 1)[0]? = some (.string s) := by rw [e1]; rfl
    exact ⟨s, by simpa using h0, hb⟩
  obtain ⟨s0, a0, b0⟩ := each 0 _ (by rw [hx]; rfl)
  obtain ⟨s1, a1, b1⟩ := each 1 _ (by rw [hx]; rfl)
  obtain ⟨s2, a2, b2⟩ := each 2 _ (by rw [hx]; rfl)
  have hcl : cs.toList.length = 3 := by
    rw [hlen]; kernel_rfl
  have hcs : cs.toList = [Value.string s0, Value.string s1, Value.string s2] := by
    apply List.ext_getElem?
    intro i
    have : i = 0 ∨ i = 1 ∨ i = 2 ∨ 3 ≤ i := by omega
    rcases this with rfl | rfl | rfl | h
    · exact a0
    · exact a1
    · exact a2
    · rw [List.getElem?_eq_none (by omega), List.getElem?_eq_none (by simpa using h)]
  have hlt : 0 < W.heap.size := (Array.getElem?_eq_some_iff.1 hh).1
  refine ⟨blkC W _ 0, heapC_at hlt, ?_, ?_, ?_⟩
  · unfold blkC; rw [hh]
  · unfold blkC; rw [hh]; simp
  · unfold blkC; rw [hh]
    simp only [hcs, List.map_cons, List.map_nil, absV, absV1, b0, b1, b2]

end Go.Proofs.YtbphaelhhfkdiaaDoor
