/- TransformInverts. -/
import Derived.Test.YtbphaelhhfkdiaaDoorTyb
import Derived.Test.YtbphaelhhfkdiaaDoorRows
import Derived.Test.YtbphaelhhfkdiaaDoorTlTransformInverts
set_option linter.unusedVariables false
set_option linter.unusedSimpArgs false
set_option linter.unusedSectionVars false
set_option maxRecDepth 20000
namespace Go.Proofs.YtbphaelhhfkdiaaDoor
open Go.GAM Go.RowKit

def lines (l : List UInt8) : List UInt8 := l.flatMap fun c => [c, 13, 10]
theorem lines_len : ∀ l, (lines l).length = 3 * l.length
  | [] => rfl
  | c :: l => by have := lines_len l; unfold lines at *; simp [this]; omega

section
variable {s : List UInt8} {h h0 : AHeap}

theorem Inv_p1 (hs : s.length ≤ 1000) : ∀ (r : List UInt8) (i : Nat), (enc64 s).drop i = r → i ≤ (enc64 s).length → G_law26_TransformInverts.p1 (kRet h0 Yes) s (enc64 s) (s.flatMap encH) (lines ((enc64 s).take i)) i h := by
  obtain ⟨hm, hl⟩ := enc64_len s
  intro r
  induction r with
  | nil =>
    intro i hr hi
    have hle := drop_end hr
    refine G_law26_TransformInverts.i1 ?_
    simp only [G_law26_TransformInverts.t1, G_law26_TransformInverts.j2]
    refine bif_f (by simp; omega) ?_
    rw [List.take_of_length_le hle]
    have hll := lines_len (enc64 s)
    refine apply_c (by omega) (st_asS (bif_t (decide_eq_true ?_) ?_))
    · show b64S 0 0 (lines (enc64 s)) = s
      unfold lines
      rw [b64_lines, b64_inverts]
    refine st_rem (n := 0) (by omega) (by rw [Int.tmod_eq_emod_of_nonneg (by omega)]; omega) (bif_t rfl ?_)
    have hhl : (s.flatMap encH).length = 2 * s.length := by
      clear hr hi hle hll hm hl hs
      induction s with
      | nil => rfl
      | cons c s ih => rw [List.flatMap_cons, List.length_append, ih]; simp [encH]; omega
    refine withI_is (n := ((2 * s.length : Nat) : Int)) (by rw [wrap_i64 (by omega) (by omega)]; omega) (bif_t (by rw [hhl]; simp) (awake_c (st_asB ?_)))
    refine G_law26_TransformInverts.i2 ?_
    simp only [G_law26_TransformInverts.t2]
    exact kRet_yes
  | cons c r ih =>
    intro i hr hi
    have hlt := drop_lt hr
    have hn := drop_next hr
    have hci : (enc64 s)[i]? = some c := by
      have : ((enc64 s).drop i)[0]? = some c := by rw [hr]; rfl
      simpa using this
    refine G_law26_TransformInverts.i1 ?_
    simp only [G_law26_TransformInverts.t1, G_law26_TransformInverts.j2]
    have htl := lines_len ((enc64 s).take i)
    rw [List.length_take] at htl
    refine bif_t (by simp; omega) (inc (by omega) (st_subs2 (by omega) (by omega) ?_))
    have e1 : ((enc64 s).take (i + 1)).drop i = [c] := by
      rw [List.take_add_one, hci, List.drop_append_of_le_length (by simp; omega), List.drop_eq_nil_of_le (by simp; omega)]; rfl
    rw [e1]
    refine ⟨by simp; omega, by simp; omega, inc (by omega) ?_⟩
    have e2 : lines ((enc64 s).take i) ++ [c] ++ [13, 10] = lines ((enc64 s).take (i + 1)) := by
      rw [List.take_add_one, hci]; simp [lines]
    rw [e2]
    exact ih (i + 1) hn (by omega)

theorem inverts_c (p : PadOK h) : C G_law26_TransformInverts.id [.s s] h Yes := by
  refine G_law26_TransformInverts.call ?_
  simp only [G_law26_TransformInverts.t, G_law26_TransformInverts.j0]
  refine bif_both (fun e => awake_c (st_asB kRet_yes)) fun e => ?_
  simp only [decide_eq_false_iff_not] at e
  have hs : s.length ≤ 1000 := by omega
  have l1 : (s.flatMap encP).length ≤ 3 * s.length := by
    clear hs e
    induction s with
    | nil => simp
    | cons c s ih => have := encP_len c; rw [List.flatMap_cons, List.length_append, List.length_cons]; omega
  have l3 : (s.flatMap encH).length ≤ 2 * s.length := by
    clear hs e l1
    induction s with
    | nil => simp
    | cons c s ih =>
      have e : (encH c).length = 2 := rfl
      rw [List.flatMap_cons, List.length_append, List.length_cons]; omega
  have l2 := (enc64_len s).2
  refine ep_c (by omega) (st_asS (eb_c p (by omega) (st_asS (eh_c (by omega) (st_asS ?_)))))
  have e3 : applyS 3 (s.flatMap encP) = s := pct_inverts s
  have e4 : applyS 4 (enc64 s) = s := b64_inverts s
  have e6 : applyS 6 (s.flatMap encH) = s := hex_inverts s
  refine apply_c (by omega) (st_asS (bif_f (by rw [e3]; simp) ?_))
  refine apply_c (by omega) (st_asS (bif_f (by rw [e4]; simp) ?_))
  refine apply_c (by omega) (st_asS ?_)
  rw [e6]
  refine G_law26_TransformInverts.i0 ?_
  simp only [G_law26_TransformInverts.t0, G_law26_TransformInverts.j2]
  refine bif_f (by simp) ?_
  exact Inv_p1 hs _ 0 rfl (by omega)
end

theorem walk_TransformInverts {s : ByteArray} (W : World) (hL : laidMet Tryd.prog Rows.transformInvertsRow.laid W) (w0 : s.size ≤ maxLen) :
    Calls Tryd.prog 9 #[.string s] W fun e w' => e = .returned (.bool true) ∧ Below W.heap.size W w' :=
  law_calls mixedOK sizeOK soundX (by kernel_rfl) (szOf := fun _ => 1) (.cons _ _ _ _ (.s _ _ rfl) .nil) (inverts_c (pads_ok (.tail _ (.head _)) hL))

end Go.Proofs.YtbphaelhhfkdiaaDoor
