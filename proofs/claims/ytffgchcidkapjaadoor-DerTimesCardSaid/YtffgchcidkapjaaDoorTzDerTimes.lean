/- DerTimes. -/
import Derived.Test.YtffgchcidkapjaaDoorTye
import Derived.Test.YtffgchcidkapjaaDoorTlDerTimes
set_option linter.unusedVariables false
set_option linter.unusedSimpArgs false
set_option linter.unusedSectionVars false
set_option maxRecDepth 20000
namespace Go.Proofs.YtffgchcidkapjaaDoor
open Go.GAM Go.RowKit

theorem times_c {d : Der} {cs : List AV} {F : Nat → Prop} {n : Int} {h : AHeap} (D : DV h F d cs) (hF : ∀ i, F i → i < h.length) (n0 : -9223372036854775808 ≤ n ∧ n < 9223372036854775808) : C G_law33_DerTimes.id [.ag cs, .i .i64 n] h Yes := by
  refine G_law33_DerTimes.call ?_
  simp only [G_law33_DerTimes.t, G_law33_DerTimes.j0]
  refine D.box fun h1 hl1 U1 B D1 => st_loadN B D.len.symm (few_c D1 (fun i hi => by have := hF i hi; omega) (st_asB ?_))
  refine bif_both (fun e => lives_c fun h' _ => st_asB kRet_yes) fun e => ?_
  have hf : d.few = true := by simpa using e
  have hsm := few_small hf
  have fin : ∀ hx, G_law33_DerTimes.p0 (kRet h Yes) true hx := by
    intro hx
    refine G_law33_DerTimes.i0 ?_
    simp only [G_law33_DerTimes.t0]
    exact kRet_yes
  refine st_loadN B D.len.symm (time_c D1 (by omega) (st_ext0 (st_asI (st_ext1 (st_asB (st_loadN B D.len.symm (Rtime_c D1 (by omega) (st_ext0 (st_asI (st_ext1 (st_asB ?_)))))))))))
  refine st_loadN B D.len.symm (text_c D1 (by omega) (st_ext0 (st_asS (st_ext1 (st_asB (st_loadN B D.len.symm (Rtext_c D1 (by omega) (st_ext0 (st_asS (st_ext1 (st_asB ?_)))))))))))
  refine bif_t (by simp) (bif_t (by simp) (bif_t (by simp) (bif_t (by simp) ?_)))
  have leaf : ∀ (t : Int) (s : List UInt8) (K : AV → AHeap → Prop), K (.b true) h1 → C G_ref33_Same.id [.ag (leafC 0 t false s), .ag (leafC 0 t false s)] h1 K := fun t s K hK =>
    same_c (d := .mk 0 t false s []) (by simp [Der.sz, szs]) (DV.leaf h1 (fun _ => True) _ _ _ _) (DV.leaf h1 (fun _ => True) _ _ _ _) hK
  by_cases hn : n < 0 ∨ 253402300799 < n
  · refine timeOf_zero hn (by omega) (by omega) (RtimeOf_zero hn ?_)
    exact leaf _ _ _ (st_asB (bif_t rfl (lives_c fun h' _ => st_asB (fin _))))
  · obtain ⟨k, rfl⟩ : ∃ k : Nat, n = k := ⟨n.toNat, by omega⟩
    obtain ⟨y, m, dd, hD⟩ := date_is (k / 86400)
    refine timeOf_c (by omega) hD (RtimeOf_c (by omega) hD ?_)
    unfold timeOfS
    split
    · exact leaf _ _ _ (st_asB (bif_t rfl (lives_c fun h' _ => st_asB (fin _))))
    · exact leaf _ _ _ (st_asB (bif_t rfl (lives_c fun h' _ => st_asB (fin _))))

theorem walk_DerTimes {H : Type} {enc : TypeId × Value → H} {v : Value} {n : Int} {d : DataW H} {p : List MemPlace} (W : World) (hL : laidMet Tryd.prog Rows.derTimesRow.laid W) (k : DataW.Trod enc Tryd.prog W 0 (fun _ => true) true 25 v d p) (w1 : (Lit.int .i64 n).wf = true) :
    Calls Tryd.prog 6 #[v, .int .i64 n] W fun e w' => e = .returned (.bool true) ∧ Below W.heap.size W w' := by
  obtain ⟨cs, x, hv, hD⟩ := der_arg k
  exact law_calls mixedOK sizeOK soundX (by kernel_rfl) (szOf := fun _ => 5) (.cons _ _ _ _ hv (.cons _ _ _ _ (.i _ _) .nil)) (times_c hD (fun i hi => by rw [heapC_len]; exact hi) (i64_bd w1))

end Go.Proofs.YtffgchcidkapjaaDoor
