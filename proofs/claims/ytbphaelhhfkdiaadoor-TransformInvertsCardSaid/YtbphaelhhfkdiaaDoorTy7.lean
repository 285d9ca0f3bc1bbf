/- Apply; the percent encoding; the small examples. -/
import Derived.Test.YtbphaelhhfkdiaaDoorTy6
set_option linter.unusedVariables false
set_option linter.unusedSimpArgs false
set_option linter.unusedSectionVars false
set_option maxRecDepth 20000
namespace Go.Proofs.YtbphaelhhfkdiaaDoor
open Go.GAM Go.RowKit

def applyS (k : Int) (s : List UInt8) : List UInt8 :=
  if k = 1 then lowS s else if k = 2 then stripS s else if k = 3 then pctS s else if k = 4 then b64S 0 0 s else if k = 5 then pathS s else if k = 6 then hexS (-1) s else s

section
variable {s : List UInt8} {h0 : AHeap} {Q : AV → AHeap → Prop}

theorem callV_c {f : Nat} {vs : List AV} {h : AHeap} {K : AV → AHeap → Prop} (hf : Nat.blt f yid0 = true) (hk : C f vs h K) : pCallV C (.fn (.func f) [] []) vs h K := by
  unfold pCallV
  simp only
  unfold pCall
  rw [List.nil_append, List.append_nil]
  exact bif_t hf hk

theorem same_c {h : AHeap} (hk : Q (.s s) h) : C G_transform_text_same.id [.s s] h Q := by
  refine G_transform_text_same.call ?_
  simp only [G_transform_text_same.t]
  exact .inl hk

theorem apply_c {k : Int} {h : AHeap} (hs : s.length ≤ 100000) (hk : Q (.s (applyS k s)) h) : C G_transform_Apply.id [.i .i64 k, .s s] h Q := by
  refine G_transform_Apply.call ?_
  simp only [G_transform_Apply.t]
  refine G_transform_of.call ?_
  simp only [G_transform_of.t]
  unfold applyS at hk
  refine bif_both (fun e => ?_) fun e => ?_
  · simp only [decide_eq_true_eq] at e
    rw [if_pos e] at hk
    exact .inl (callV_c rfl (lower_c hs (st_asS (.inl hk))))
  simp only [decide_eq_false_iff_not] at e
  rw [if_neg e] at hk
  refine bif_both (fun e => ?_) fun e => ?_
  · simp only [decide_eq_true_eq] at e
    rw [if_pos e] at hk
    exact .inl (callV_c rfl (strip_c hs (st_asS (.inl hk))))
  simp only [decide_eq_false_iff_not] at e
  rw [if_neg e] at hk
  refine bif_both (fun e => ?_) fun e => ?_
  · simp only [decide_eq_true_eq] at e
    rw [if_pos e] at hk
    exact .inl (callV_c rfl (pct_c hs (st_asS (.inl hk))))
  simp only [decide_eq_false_iff_not] at e
  rw [if_neg e] at hk
  refine bif_both (fun e => ?_) fun e => ?_
  · simp only [decide_eq_true_eq] at e
    rw [if_pos e] at hk
    exact .inl (callV_c rfl (b64_c hs (st_asS (.inl hk))))
  simp only [decide_eq_false_iff_not] at e
  rw [if_neg e] at hk
  refine bif_both (fun e => ?_) fun e => ?_
  · simp only [decide_eq_true_eq] at e
    rw [if_pos e] at hk
    exact .inl (callV_c rfl (path_c hs (st_asS (.inl hk))))
  simp only [decide_eq_false_iff_not] at e
  rw [if_neg e] at hk
  refine bif_both (fun e => ?_) fun e => ?_
  · simp only [decide_eq_true_eq] at e
    rw [if_pos e] at hk
    exact .inl (callV_c rfl (hex_c hs (st_asS (.inl hk))))
  simp only [decide_eq_false_iff_not] at e
  rw [if_neg e] at hk
  exact .inl (callV_c rfl (same_c (st_asS (.inl hk))))

theorem Rapply_c {k : Int} {h : AHeap} (hs : s.length ≤ 100000) (hk : Q (.s (applyS k s)) h) : C G_ref26_Apply.id [.i .i64 k, .s s] h Q := by
  refine G_ref26_Apply.call ?_
  simp only [G_ref26_Apply.t]
  unfold applyS at hk
  refine bif_both (fun e => ?_) fun e => ?_
  · simp only [decide_eq_true_eq] at e
    rw [if_pos e] at hk
    exact Rlower_c hs (st_asS (.inl hk))
  simp only [decide_eq_false_iff_not] at e
  rw [if_neg e] at hk
  refine bif_both (fun e => ?_) fun e => ?_
  · simp only [decide_eq_true_eq] at e
    rw [if_pos e] at hk
    exact Rstrip_c hs (st_asS (.inl hk))
  simp only [decide_eq_false_iff_not] at e
  rw [if_neg e] at hk
  refine bif_both (fun e => ?_) fun e => ?_
  · simp only [decide_eq_true_eq] at e
    rw [if_pos e] at hk
    exact Rpct_c hs (st_asS (.inl hk))
  simp only [decide_eq_false_iff_not] at e
  rw [if_neg e] at hk
  refine bif_both (fun e => ?_) fun e => ?_
  · simp only [decide_eq_true_eq] at e
    rw [if_pos e] at hk
    exact Rb64_c hs (st_asS (.inl hk))
  simp only [decide_eq_false_iff_not] at e
  rw [if_neg e] at hk
  refine bif_both (fun e => ?_) fun e => ?_
  · simp only [decide_eq_true_eq] at e
    rw [if_pos e] at hk
    exact Rpath_c hs (st_asS (.inl hk))
  simp only [decide_eq_false_iff_not] at e
  rw [if_neg e] at hk
  refine bif_both (fun e => ?_) fun e => ?_
  · simp only [decide_eq_true_eq] at e
    rw [if_pos e] at hk
    exact Rhex_c hs (st_asS (.inl hk))
  simp only [decide_eq_false_iff_not] at e
  rw [if_neg e] at hk
  exact .inl hk

/-! ### EncodePercent -/

def plainP (c : UInt8) : Prop := 97 ≤ c.toNat ∧ c.toNat ≤ 122 ∨ 65 ≤ c.toNat ∧ c.toNat ≤ 90 ∨ 48 ≤ c.toNat ∧ c.toNat ≤ 57 ∨ c.toNat = 45 ∨ c.toNat = 46 ∨ c.toNat = 95 ∨ c.toNat = 126
instance (c : UInt8) : Decidable (plainP c) := by unfold plainP; infer_instance
def HU : List UInt8 := [48, 49, 50, 51, 52, 53, 54, 55, 56, 57, 65, 66, 67, 68, 69, 70]
def HL : List UInt8 := [48, 49, 50, 51, 52, 53, 54, 55, 56, 57, 97, 98, 99, 100, 101, 102]
def encP (c : UInt8) : List UInt8 := if plainP c then [c] else [37, HU.getD (c.toNat / 16) 0, HU.getD (c.toNat % 16) 0]

theorem ib4 (c : UInt8) : decide (0 ≤ Lib.indexByte [45, 46, 95, 126] c) = decide (c.toNat = 45 ∨ c.toNat = 46 ∨ c.toNat = 95 ∨ c.toNat = 126) := by
  have h : ∀ n, n < 256 → decide (0 ≤ Lib.indexByte [45, 46, 95, 126] (UInt8.ofNat n)) = decide (n = 45 ∨ n = 46 ∨ n = 95 ∨ n = 126) := by decide +kernel
  have := h c.toNat c.toNat_lt
  rwa [UInt8.ofNat_toNat] at this

theorem plain_c {c : UInt8} {h : AHeap} (hk : Q (.b (decide (plainP c))) h) : C G_transform_plain.id [.i .u8 (c.toNat : Int)] h Q := by
  refine G_transform_plain.call ?_
  simp only [G_transform_plain.t, G_transform_plain.j0]
  have fin : ∀ b, b = decide (plainP c) → G_transform_plain.p0 (kRet h Q) b h := by
    intro b hb
    refine G_transform_plain.i0 ?_
    simp only [G_transform_plain.t0]
    subst hb
    exact .inl hk
  have leaf1 : (97 ≤ c.toNat ∧ c.toNat ≤ 122 ∨ 65 ≤ c.toNat ∧ c.toNat ≤ 90 ∨ 48 ≤ c.toNat ∧ c.toNat ≤ 57) → G_transform_plain.p0 (kRet h Q) true h := fun hp => fin _ (by
    symm; rw [decide_eq_true_eq]; unfold plainP; omega)
  have leaf2 : ¬ (97 ≤ c.toNat ∧ c.toNat ≤ 122 ∨ 65 ≤ c.toNat ∧ c.toNat ≤ 90 ∨ 48 ≤ c.toNat ∧ c.toNat ≤ 57) → C G_strings_IndexByte.id [(AV.s [45, 46, 95, 126]), (AV.i .u8 (c.toNat : Int))] h fun v4 h5 => asI .i64 v4 fun n6 => G_transform_plain.p0 (kRet h Q) (decide ((0 : Int) ≤ n6)) h5 := fun hp =>
    ib_c (st_asI64 (fin _ (by rw [ib4, decide_eq_decide]; unfold plainP; omega)))
  repeat' first
    | refine bif_both (fun e => ?_) fun e => ?_
    | (refine leaf1 ?_; simp only [decide_eq_true_eq, decide_eq_false_iff_not] at *; omega)
    | (refine leaf2 ?_; simp only [decide_eq_true_eq, decide_eq_false_iff_not] at *; omega)

theorem getHU {n : Nat} (h : n < 16) : HU[n]? = some (HU.getD n 0) := by
  rw [List.getD_eq_getElem?_getD, List.getElem?_eq_getElem (show n < HU.length from h)]; rfl
theorem getHL {n : Nat} (h : n < 16) : HL[n]? = some (HL.getD n 0) := by
  rw [List.getD_eq_getElem?_getD, List.getElem?_eq_getElem (show n < HL.length from h)]; rfl
theorem and15 (c : UInt8) : bitsOp .and .u8 (c.toNat : Int) 15 = ((c.toNat % 16 : Nat) : Int) := by
  have := bits_and8 (x := c.toNat) (y := 15) c.toNat_lt (by omega)
  rw [show ((15 : Nat) : Int) = 15 from rfl] at this
  rw [this, show 15 = 2 ^ 4 - 1 from rfl, Nat.and_two_pow_sub_one_eq_mod]

theorem ep_p1 {v : AV} {i : Nat} {h : AHeap} (hi : i ≤ 1000000) (hk : G_transform_EncodePercent.p0 (kRet h0 Q) s v s.length (i + 1 : Nat) h) : G_transform_EncodePercent.p1 (kRet h0 Q) s v s.length i h := by
  refine G_transform_EncodePercent.i1 ?_
  simp only [G_transform_EncodePercent.t1, G_transform_EncodePercent.j0]
  exact inc (by omega) hk

theorem encP_len (c : UInt8) : (encP c).length ≤ 3 := by unfold encP; split <;> simp

theorem ep_p0 (hs : s.length ≤ 100000) : ∀ (r : List UInt8) (i : Nat) (v : AV) (l : List UInt8) (h : AHeap), s.drop i = r → l.length ≤ 3 * i → Tx h0 h v l → Q (.s (l ++ r.flatMap encP)) h0 → G_transform_EncodePercent.p0 (kRet h0 Q) s v s.length i h := by
  intro r
  induction r with
  | nil =>
    intro i v l h hr hl T hq
    have := drop_end hr
    refine G_transform_EncodePercent.i0 ?_
    simp only [G_transform_EncodePercent.t0, G_transform_EncodePercent.j1]
    exact bif_f (by simp; omega) (T.ret (by simpa using hq))
  | cons c r ih =>
    intro i v l h hr hl T hq
    have hlt := drop_lt hr
    have hn := drop_next hr
    have hc := c.toNat_lt
    have hel := encP_len c
    have hnext : ∀ v' h', Tx h0 h' v' (l ++ encP c) → G_transform_EncodePercent.p1 (kRet h0 Q) s v' s.length i h' := fun v' h' T' => ep_p1 (by omega) (ih (i + 1) v' _ h' hn (by simp; omega) T' (by simpa using hq))
    refine G_transform_EncodePercent.i0 ?_
    simp only [G_transform_EncodePercent.t0, G_transform_EncodePercent.j1]
    refine bif_t (by simp; omega) (st_at hr (plain_c (st_asB ?_)))
    unfold encP at hnext
    refine bif_both (fun e => ?_) fun e => ?_
    · simp only [decide_eq_true_eq] at e
      rw [if_pos e] at hnext
      exact T.push (by omega) hnext
    · simp only [decide_eq_false_iff_not] at e
      rw [if_neg e] at hnext
      refine st_shr (k := .u8) (b := 4) (by decide) ?_
      rw [and15]
      refine idxStr (l := HU) (getHU (by omega)) (idxStr (l := HU) (getHU (by omega)) ?_)
      exact T.push3 (c := 37) (by omega) hnext

theorem ep_c {h : AHeap} (hs : s.length ≤ 100000) (hk : Q (.s (s.flatMap encP)) h) : C G_transform_EncodePercent.id [.s s] h Q := by
  refine G_transform_EncodePercent.call ?_
  simp only [G_transform_EncodePercent.t, G_transform_EncodePercent.j0]
  exact ep_p0 hs s 0 _ [] h rfl (by simp) (Tx.start h) hk

/-! ### the small examples -/

theorem awake_c {h : AHeap} (hk : Q (.b true) h) : C G_law26_awake.id [] h Q := by
  refine G_law26_awake.call ?_
  simp only [G_law26_awake.t, G_law26_awake.j0]
  refine apply_c (by decide) (st_asS (bif_t (by decide +kernel) ?_))
  refine apply_c (by decide) (st_asS (bif_t (by decide +kernel) ?_))
  refine apply_c (by decide) (st_asS (bif_t (by decide +kernel) ?_))
  refine apply_c (by decide) (st_asS (bif_t (by decide +kernel) ?_))
  refine apply_c (by decide) (st_asS (bif_t (by decide +kernel) ?_))
  refine apply_c (by decide) (st_asS (withB_is (n := true) (by decide +kernel) (bif_t rfl ?_)))
  refine ep_c (by decide) (st_asS (bif_t (by decide +kernel) ?_))
  refine apply_c (by decide) (st_asS ?_)
  rw [show decide (applyS 1 [97, 66] = [97, 98]) = true by decide +kernel]
  refine G_law26_awake.i0 ?_
  simp only [G_law26_awake.t0]
  exact .inl hk

theorem long_c {h : AHeap} (hk : Q (.b (decide ((3000 : Int) < (s.length : Int)))) h) : C G_law26_long.id [.s s] h Q := by
  refine G_law26_long.call ?_
  simp only [G_law26_long.t]
  exact .inl hk

end
end Go.Proofs.YtbphaelhhfkdiaaDoor
