/- The rules for the library's functions; lower; base64's decoding. -/
import Derived.Test.YtbphaelhhfkdiaaDoorTy2
import Derived.Test.YtbphaelhhfkdiaaDoorSh
set_option linter.unusedVariables false
set_option linter.unusedSimpArgs false
set_option linter.unusedSectionVars false
set_option maxRecDepth 20000
namespace Go.Proofs.YtbphaelhhfkdiaaDoor
open Go.GAM Go.RowKit

/-- strings.IndexByte, strings.Index and strings.Count at one byte, strings.Join: by the shelf's contracts. -/
instance xr1 : XR := ⟨fun f args h K =>
  (f = G_strings_IndexByte.id ∧ ∃ (l : List UInt8) (c : UInt8), args = [.s l, .i .u8 (c.toNat : Int)] ∧ K (.i .i64 (Lib.indexByte l c)) h) ∨
  (f = G_strings_Index.id ∧ ∃ (l : List UInt8) (c : UInt8), args = [.s l, .s [c]] ∧ K (.i .i64 (Lib.indexByte l c)) h) ∨
  (f = G_strings_Count.id ∧ ∃ (l : List UInt8) (c : UInt8), args = [.s l, .s [c]] ∧ K (.i .i64 (Lib.countByte l c : Nat)) h) ∨
  (f = G_strings_Join.id ∧ ∃ (v : AV) (ls : List (List UInt8)) (sep : List UInt8), args = [v, .s sep] ∧ Rd 1 h v (ls.map .s) ls.length ∧ ls.length ≤ 100000000 ∧ (Lib.join ls sep).length ≤ 100000000 ∧ K (.s (Lib.join ls sep)) h)⟩

theorem mixedOK : prog.follows .mixedOrders = true := by kernel_rfl
theorem sizeOK : prog.funcs.size ≤ yid0 := Nat.le_of_ble_eq_true (by kernel_rfl)
theorem okIB : bodyOK prog G_strings_IndexByte.id = true := by kernel_rfl
theorem okIx : bodyOK prog G_strings_Index.id = true := by kernel_rfl
theorem okCt : bodyOK prog G_strings_Count.id = true := by kernel_rfl
theorem okJn : bodyOK prog G_strings_Join.id = true := by kernel_rfl

theorem one_str {μ : Mu} {v : Value} {c : UInt8} (h : VRel μ (.s [c]) v) : v = .string ⟨#[c]⟩ := by
  cases h with
  | s l x hx =>
    obtain ⟨d⟩ := x
    have : d = #[c] := by apply Array.ext'; simpa using hx
    rw [this]

theorem strs_of {μ : Mu} {w : World} {l : GAM.Loc} : ∀ (ls : List (List UInt8)) (o : Nat), (∀ j, j < ls.length → ∃ cv, w.cell? ⟨l.B, l.base + (o + j), none⟩ = some cv ∧ VRel μ ((ls.map AV.s).getD j .u) cv) →
    ∃ xs : List ByteArray, xs.map (·.data.toList) = ls ∧ ∀ j x, xs[j]? = some x → w.cell? ⟨l.B, l.base + (o + j), none⟩ = some (.string x)
  | [], o, _ => ⟨[], rfl, fun j x h => by simp at h⟩
  | a :: ls, o, h => by
    obtain ⟨cv, h1, h2⟩ := h 0 (by simp)
    cases h2 with
    | s l' x hx =>
      obtain ⟨xs, h3, h4⟩ := strs_of ls (o + 1) fun j hj => by
        obtain ⟨cv, h5, h6⟩ := h (j + 1) (by simpa using hj)
        refine ⟨cv, ?_, by simpa using h6⟩
        rw [show o + 1 + j = o + (j + 1) by omega]; exact h5
      refine ⟨x :: xs, by simp [h3, hx], fun j y hy => ?_⟩
      cases j with
      | zero => simp at hy; subst hy; simpa using h1
      | succ j =>
        have := h4 j y (by simpa using hy)
        rw [show o + (j + 1) = o + 1 + j by omega]; exact this

theorem soundX : Sound prog X := by
  rintro w0 Fz μb f args h K (⟨rfl, l, c, rfl, hk⟩ | ⟨rfl, l, c, rfl, hk⟩ | ⟨rfl, l, c, rfl, hk⟩ | ⟨rfl, v, ls, sep, rfl, hr, hn, hj, hk⟩) μ own w cargs hsb R hc
  · rw [if_pos (by decide)]
    obtain ⟨v1, _, rfl, hc1, h2⟩ : ∃ v1 vs, cargs = v1 :: vs ∧ VRel μ (.s l) v1 ∧ VRels μ [.i .u8 (c.toNat : Int)] vs := by cases hc with | cons _ _ _ _ a b => exact ⟨_, _, rfl, a, b⟩
    cases hc1 with
    | s _ x hx =>
      cases h2 with
      | cons _ _ _ _ a b =>
        cases a; cases b
        refine x_calls okIB R ((Tryd.strings_IndexByte x (c.toNat : Int) w).mono fun e w' ⟨he, hw⟩ => ⟨he, hw ▸ Below.refl _ _⟩) ?_ hk
        have e : ((c.toNat : Int)).toNat.toUInt8 = c := by simp
        rw [e, hx]; exact .i _ _
  · rw [if_pos (by decide)]
    obtain ⟨v1, _, rfl, hc1, h2⟩ : ∃ v1 vs, cargs = v1 :: vs ∧ VRel μ (.s l) v1 ∧ VRels μ [.s [c]] vs := by cases hc with | cons _ _ _ _ a b => exact ⟨_, _, rfl, a, b⟩
    cases hc1 with
    | s _ x hx =>
      cases h2 with
      | cons _ _ _ _ a b =>
        have := one_str a
        subst this
        cases b
        refine x_calls okIx R ((Tryd.strings_Index_one x c w).mono fun e w' ⟨he, hw⟩ => ⟨he, hw ▸ Below.refl _ _⟩) ?_ hk
        rw [hx]; exact .i _ _
  · rw [if_pos (by decide)]
    obtain ⟨v1, _, rfl, hc1, h2⟩ : ∃ v1 vs, cargs = v1 :: vs ∧ VRel μ (.s l) v1 ∧ VRels μ [.s [c]] vs := by cases hc with | cons _ _ _ _ a b => exact ⟨_, _, rfl, a, b⟩
    cases hc1 with
    | s _ x hx =>
      cases h2 with
      | cons _ _ _ _ a b =>
        have := one_str a
        subst this
        cases b
        refine x_calls okCt R ((Tryd.strings_Count_one x c w).mono fun e w' ⟨he, hw⟩ => ⟨he, hw ▸ Below.refl _ _⟩) ?_ hk
        rw [hx]; exact .i _ _
  · rw [if_pos (by decide)]
    obtain ⟨v1, _, rfl, hc1, h2⟩ : ∃ v1 vs, cargs = v1 :: vs ∧ VRel μ v v1 ∧ VRels μ [.s sep] vs := by cases hc with | cons _ _ _ _ a b => exact ⟨_, _, rfl, a, b⟩
    cases h2 with
    | cons _ _ _ _ a b =>
      cases b
      cases a with
      | s _ sp hsp =>
        rcases hr with ⟨rfl, hl0, hnil⟩ | ⟨id, ver, off, cap, blk, rfl, h2, h3, h4, h5, h6, h7⟩
        · have : ls = [] := by simpa using hnil
          subst this
          cases hc1
          refine x_calls okJn R ((Tryd.strings_Join_none none 0 sp w).mono fun e w' ⟨he, hw⟩ => ⟨he, hw ▸ Below.refl _ _⟩) (.s _ _ ?_) hk
          simp [Lib.join_nil]
        · cases hc1 with
          | sl _ _ _ cc addr l hmu hlc hf hcap hsome haddr =>
            by_cases hl0 : ls.length = 0
            · have : ls = [] := List.eq_nil_of_length_eq_zero hl0
              subst this
              refine x_calls okJn R ((Tryd.strings_Join_none (some addr) cc sp w).mono fun e w' ⟨he, hw⟩ => ⟨he, hw ▸ Below.refl _ _⟩) (.s _ _ ?_) hk
              simp [Lib.join_nil]
            · have haddr := haddr (by omega)
              subst haddr
              obtain ⟨l0, k0⟩ := R.blk id blk h2 (by omega)
              have hv := k0.vers ver h4 h5 l hmu
              obtain ⟨xs, hx1, hx2⟩ := strs_of (w := w) (μ := μ) (l := l) ls off fun j hj => by
                obtain ⟨cv, c1, c2⟩ := hv.cells (off + j) (by omega)
                refine ⟨cv, c1, ?_⟩
                rw [← h7]
                have e : ((blk.cells.drop off).take (ls.length * 1)).getD j .u = blk.cells.getD (off + j) .u := by
                  rw [List.getD_eq_getElem?_getD, List.getD_eq_getElem?_getD, List.getElem?_take_of_lt (by omega), List.getElem?_drop]
                rw [e]; exact c2
              have hxl : xs.length = ls.length := by rw [← hx1]; simp
              have hcell0 : ∃ x, xs[0]? = some x := by
                cases xs with
                | nil => simp at hxl; omega
                | cons x xs => exact ⟨x, rfl⟩
              obtain ⟨x0, hx0⟩ := hcell0
              have hbk : l.B < w.heap.size := by
                have := hx2 0 x0 hx0
                unfold World.cell? at this
                split at this
                · rename_i hh; exact (Array.getElem?_eq_some_iff.1 hh).1
                · cases this
              have hJ := Tryd.strings_Join l.B (l.base + off) cc xs sp w (fun j x hj => by have := hx2 j x hj; rw [← Nat.add_assoc] at this; exact this) hbk (by omega) (by omega) (by rw [hx1, hsp]; omega)
              rw [hxl] at hJ
              refine x_calls okJn R hJ (.s _ _ ?_) hk
              rw [hx1, hsp]

theorem ib_c {l : List UInt8} {c : UInt8} {h : AHeap} {K : AV → AHeap → Prop} (hk : K (.i .i64 (Lib.indexByte l c)) h) : C G_strings_IndexByte.id [.s l, .i .u8 (c.toNat : Int)] h K := acall_x (.inl ⟨rfl, l, c, rfl, hk⟩)
theorem ix_c {l : List UInt8} {c : UInt8} {h : AHeap} {K : AV → AHeap → Prop} (hk : K (.i .i64 (Lib.indexByte l c)) h) : C G_strings_Index.id [.s l, .s [c]] h K := acall_x (.inr (.inl ⟨rfl, l, c, rfl, hk⟩))
theorem ct_c {l : List UInt8} {c : UInt8} {h : AHeap} {K : AV → AHeap → Prop} (hk : K (.i .i64 (Lib.countByte l c : Nat)) h) : C G_strings_Count.id [.s l, .s [c]] h K := acall_x (.inr (.inr (.inl ⟨rfl, l, c, rfl, hk⟩)))
theorem jn_c {v : AV} {ls : List (List UInt8)} {sep : List UInt8} {h : AHeap} {K : AV → AHeap → Prop} (hr : Rd 1 h v (ls.map .s) ls.length) (hn : ls.length ≤ 100000000) (hj : (Lib.join ls sep).length ≤ 100000000) (hk : K (.s (Lib.join ls sep)) h) : C G_strings_Join.id [v, .s sep] h K :=
  acall_x (.inr (.inr (.inr ⟨rfl, v, ls, sep, rfl, hr, hn, hj, hk⟩)))

end Go.Proofs.YtbphaelhhfkdiaaDoor
