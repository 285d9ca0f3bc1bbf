/- TransformLengths. -/
import Derived.Test.YtbphaelhhfkdiaaDoorTy8
import Derived.Test.YtbphaelhhfkdiaaDoorRows
import Derived.Test.YtbphaelhhfkdiaaDoorTlTransformLengths
set_option linter.unusedVariables false
set_option linter.unusedSimpArgs false
set_option linter.unusedSectionVars false
set_option maxRecDepth 20000
namespace Go.Proofs.YtbphaelhhfkdiaaDoor
open Go.GAM Go.RowKit

section
variable {s : List UInt8} {h0 : AHeap} {Q : AV → AHeap → Prop}

theorem Len_p1 {h : AHeap} : G_law26_TransformLengths.p1 (kRet h0 Yes) true h := by
  refine G_law26_TransformLengths.i1 ?_
  simp only [G_law26_TransformLengths.t1]
  exact kRet_yes
theorem Len_p2 {h : AHeap} : G_law26_TransformLengths.p2 (kRet h0 Yes) true h := by
  refine G_law26_TransformLengths.i2 ?_
  simp only [G_law26_TransformLengths.t2]
  exact kRet_yes
theorem Len_p3 {h : AHeap} : G_law26_TransformLengths.p3 (kRet h0 Yes) true h := by
  refine G_law26_TransformLengths.i3 ?_
  simp only [G_law26_TransformLengths.t3]
  exact kRet_yes

theorem Len_p0 {k : Int} {b : Bool} {h : AHeap} (hs : s.length ≤ 3000) (hb : b = decide (k < 1 ∨ 6 < k)) : G_law26_TransformLengths.p0 (kRet h0 Yes) k s (applyS k s) b h := by
  refine G_law26_TransformLengths.i0 ?_
  simp only [G_law26_TransformLengths.t0, G_law26_TransformLengths.j2, G_law26_TransformLengths.j3, G_law26_TransformLengths.j1]
  refine bif_both (fun e => ?_) fun e => ?_
  · subst e
    have hk : k < 1 ∨ 6 < k := by simpa using hb.symm
    refine bif_t (decide_eq_true ?_) (awake_c (st_asB Len_p1))
    unfold applyS
    repeat rw [if_neg (by omega)]
  · subst e
    have hk : ¬ (k < 1 ∨ 6 < k) := by simpa using hb.symm
    refine bif_both (fun e => ?_) fun e => ?_
    · have h5 : k = 5 := by simpa using e
      subst h5
      have hne : applyS 5 s ≠ [] := by
        show pathS s ≠ []
        unfold pathS
        simp [body_ne]
      have hlen : (applyS 5 s).length ≤ s.length ∨ (applyS 5 s = 47 :: s ∧ (s = [] ∨ ∃ t, s = 63 :: t)) := path_len s
      rcases hlen with h1 | ⟨h1, h2⟩
      · refine bif_t (decide_eq_true (by omega)) (bif_t (by simp [hne]) (awake_c (st_asB Len_p2)))
      · refine bif_f (by rw [h1]; simp; omega) ?_
        refine bif_both (fun e => ?_) fun e => ?_
        · exact ⟨by simp; omega, bif_t (by rw [h1]; simp) (bif_t (by simp [hne]) (awake_c (st_asB Len_p2)))⟩
        · have hs0 : s ≠ [] := by simpa using e
          obtain ⟨t, rfl⟩ := h2.resolve_left hs0
          refine st_at (l := 63 :: t) (i := 0) rfl (bif_t rfl ?_)
          exact ⟨by simp at hs ⊢; omega, bif_t (by rw [h1]; simp) (bif_t (by simp [hne]) (awake_c (st_asB Len_p2)))⟩
    · have h5 : k ≠ 5 := by simpa using e
      refine bif_t (decide_eq_true ?_) (awake_c (st_asB Len_p3))
      have h2 := strip_len s
      have h3 := pct_len s
      have h4 := b64_len s 0 0
      have h6 := hex_len s (-1)
      unfold applyS
      repeat' split
      · simp [lowS]
      · omega
      · omega
      · omega
      · omega
      · omega

theorem lengths_c {k : Int} {h : AHeap} : C G_law26_TransformLengths.id [.i .i64 k, .s s] h Yes := by
  refine G_law26_TransformLengths.call ?_
  simp only [G_law26_TransformLengths.t, G_law26_TransformLengths.j0]
  refine long_c (st_asB ?_)
  refine bif_both (fun e => awake_c (st_asB kRet_yes)) fun e => ?_
  simp only [decide_eq_false_iff_not] at e
  refine apply_c (by omega) (st_asS ?_)
  refine bif_both (fun e1 => Len_p0 (by omega) ?_) fun e1 => Len_p0 (by omega) ?_
  · simp only [decide_eq_true_eq] at e1
    simp [e1]
  · simp only [decide_eq_false_iff_not] at e1
    simp [e1]

theorem walk_TransformLengths {k : Int} {s : ByteArray} (W : World) (hL : laidMet Tryd.prog Rows.transformLengthsRow.laid W) (w0 : (Lit.int .i64 k).wf = true) (w1 : s.size ≤ maxLen) :
    Calls Tryd.prog 5 #[.int .i64 k, .string s] W fun e w' => e = .returned (.bool true) ∧ Below W.heap.size W w' :=
  law_calls mixedOK sizeOK soundX (by kernel_rfl) (szOf := fun _ => 1) (.cons _ _ _ _ (.i _ _) (.cons _ _ _ _ (.s _ _ rfl) .nil)) lengths_c

end
end Go.Proofs.YtbphaelhhfkdiaaDoor
