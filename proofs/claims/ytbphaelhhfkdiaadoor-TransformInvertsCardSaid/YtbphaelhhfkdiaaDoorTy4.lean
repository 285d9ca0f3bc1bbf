/- lower; base64's decoding. -/
import Derived.Test.YtbphaelhhfkdiaaDoorTy3
set_option linter.unusedVariables false
set_option linter.unusedSimpArgs false
set_option linter.unusedSectionVars false
set_option maxRecDepth 20000
namespace Go.Proofs.YtbphaelhhfkdiaaDoor
open Go.GAM Go.RowKit

section
variable {s : List UInt8} {h0 : AHeap} {Q : AV → AHeap → Prop}

/-! ### lower -/

theorem lowC_up {c : UInt8} (h : 65 ≤ c.toNat ∧ c.toNat ≤ 90) : ((lowC c).toNat : Int) = (c.toNat : Int) + 32 := by
  unfold lowC; rw [if_pos h, UInt8.toNat_add]
  show (((c.toNat + 32) % 256 : Nat) : Int) = _
  omega
theorem lowC_no {c : UInt8} (h : ¬ (65 ≤ c.toNat ∧ c.toNat ≤ 90)) : lowC c = c := by unfold lowC; rw [if_neg h]

theorem lower_p2 {v : AV} {i : Nat} {h : AHeap} (hi : i ≤ 1000000) (hk : G_transform_text_lower.p0 (kRet h0 Q) v v s.length (i + 1 : Nat) h) : G_transform_text_lower.p2 (kRet h0 Q) v v s.length i h := by
  refine G_transform_text_lower.i2 ?_
  simp only [G_transform_text_lower.t2, G_transform_text_lower.j0]
  exact inc (by omega) hk

theorem lower_p0 (hs : s.length ≤ 100000) : ∀ (r : List UInt8) (i : Nat) (v : AV) (h : AHeap), s.drop i = r → Tx h0 h v (lowS (s.take i) ++ r) → Q (.s (lowS s)) h0 → G_transform_text_lower.p0 (kRet h0 Q) v v s.length i h := by
  intro r
  induction r with
  | nil =>
    intro i v h hr T hq
    have hl := drop_end hr
    refine G_transform_text_lower.i0 ?_
    simp only [G_transform_text_lower.t0, G_transform_text_lower.j1]
    rw [List.append_nil, List.take_of_length_le hl] at T
    exact bif_f (by simp; omega) (T.ret hq)
  | cons c r ih =>
    intro i v h hr T hq
    have hlt := drop_lt hr
    have hn := drop_next hr
    have hc := c.toNat_lt
    have hti : (lowS (s.take i)).length = i := by simp [lowS]; omega
    have hat : (lowS (s.take i) ++ c :: r)[i]? = some c := by rw [List.getElem?_append_right (by omega), hti]; simp
    have hci : s[i]? = some c := by
      have : (s.drop i)[0]? = some c := by rw [hr]; rfl
      simpa using this
    have htk : lowS (s.take (i + 1)) = lowS (s.take i) ++ [lowC c] := by
      rw [List.take_add_one, hci]; simp [lowS]
    have key : ∀ b, b = decide (65 ≤ c.toNat ∧ c.toNat ≤ 90) → G_transform_text_lower.p1 (kRet h0 Q) v i (c.toNat : Int) v s.length i b h := by
      intro b hb
      refine G_transform_text_lower.i1 ?_
      simp only [G_transform_text_lower.t1, G_transform_text_lower.j2]
      refine bif_both (fun e => ?_) fun e => ?_
      · subst e
        have hu : 65 ≤ c.toNat ∧ c.toNat ≤ 90 := by simpa using hb.symm
        refine withI_is (wrap_u8 (by omega) (by omega)) ?_
        refine withI_is (n := ((lowC c).toNat : Int)) (by rw [lowC_up hu, wrap_u8 (by omega) (by omega)]; omega) ?_
        refine T.store (by rw [List.length_append]; simp [hti]) fun h' T' => lower_p2 (by omega) (ih (i + 1) v h' hn ?_ hq)
        rw [htk, List.append_assoc]
        rw [List.set_append_right _ _ (by omega), hti, Nat.sub_self] at T'
        exact T'
      · subst e
        have hu : ¬ (65 ≤ c.toNat ∧ c.toNat ≤ 90) := by simpa using hb.symm
        refine lower_p2 (by omega) (ih (i + 1) v h hn ?_ hq)
        rw [htk, lowC_no hu, List.append_assoc]; exact T
    refine G_transform_text_lower.i0 ?_
    simp only [G_transform_text_lower.t0, G_transform_text_lower.j1]
    refine bif_t (by simp; omega) (T.load hat (st_asI ?_))
    refine bif_both (fun e => key _ ?_) fun e => key _ ?_
    · simp only [decide_eq_true_eq] at e
      rw [decide_eq_decide]; omega
    · simp only [decide_eq_false_iff_not] at e
      symm; simp; omega

theorem lower_c {h : AHeap} (hs : s.length ≤ 100000) (hk : Q (.s (lowS s)) h) : C G_transform_text_lower.id [.s s] h Q := by
  refine G_transform_text_lower.call ?_
  simp only [G_transform_text_lower.t, G_transform_text_lower.j0]
  exact Tx.ofStr fun v h' T => T.arr.rd.len (lower_p0 hs s 0 v h' rfl (by simpa [lowS] using T) hk)

theorem Rlower_p2 (hs : s.length ≤ 100000) {c d : UInt8} {r l : List UInt8} {i : Nat} {v : AV} {h : AHeap} (hi : i < s.length) (hl : l.length ≤ i) (T : Tx h0 h v l) (hd : d = lowC c)
    (hk : ∀ v' h', Tx h0 h' v' (l ++ [lowC c]) → G_ref26_lower.p0 (kRet h0 Q) s v' (i + 1 : Nat) h') : G_ref26_lower.p2 (kRet h0 Q) s v i (d.toNat : Int) h := by
  refine G_ref26_lower.i2 ?_
  simp only [G_ref26_lower.t2, G_ref26_lower.j0]
  subst hd
  exact T.push (by omega) fun v' h' T' => inc (by omega) (hk v' h' T')

theorem Rlower_p0 (hs : s.length ≤ 100000) : ∀ (r : List UInt8) (i : Nat) (v : AV) (l : List UInt8) (h : AHeap), s.drop i = r → l.length ≤ i → Tx h0 h v l → Q (.s (l ++ lowS r)) h0 → G_ref26_lower.p0 (kRet h0 Q) s v i h := by
  intro r
  induction r with
  | nil =>
    intro i v l h hr hl T hq
    have := drop_end hr
    refine G_ref26_lower.i0 ?_
    simp only [G_ref26_lower.t0, G_ref26_lower.j1]
    exact bif_f (by simp; omega) (T.ret (by simpa [lowS] using hq))
  | cons c r ih =>
    intro i v l h hr hl T hq
    have hlt := drop_lt hr
    have hn := drop_next hr
    have hc := c.toNat_lt
    have hnext : ∀ v' h', Tx h0 h' v' (l ++ [lowC c]) → G_ref26_lower.p0 (kRet h0 Q) s v' (i + 1 : Nat) h' := fun v' h' T' => ih (i + 1) v' _ h' hn (by simp; omega) T' (by simpa [lowS] using hq)
    have key : ∀ b, b = decide (65 ≤ c.toNat ∧ c.toNat ≤ 90) → G_ref26_lower.p1 (kRet h0 Q) s v i (c.toNat : Int) b h := by
      intro b hb
      refine G_ref26_lower.i1 ?_
      simp only [G_ref26_lower.t1, G_ref26_lower.j2]
      refine bif_both (fun e => ?_) fun e => ?_
      · subst e
        have hu : 65 ≤ c.toNat ∧ c.toNat ≤ 90 := by simpa using hb.symm
        refine withI_is (n := ((lowC c).toNat : Int)) (by rw [lowC_up hu, wrap_u8 (by omega) (by omega)]) ?_
        exact Rlower_p2 hs (r := r) hlt hl T rfl hnext
      · subst e
        have hu : ¬ (65 ≤ c.toNat ∧ c.toNat ≤ 90) := by simpa using hb.symm
        exact Rlower_p2 hs (r := r) hlt hl T (lowC_no hu).symm hnext
    refine G_ref26_lower.i0 ?_
    simp only [G_ref26_lower.t0, G_ref26_lower.j1]
    refine bif_t (by simp; omega) (st_at hr ?_)
    refine bif_both (fun e => key _ ?_) fun e => key _ ?_
    · simp only [decide_eq_true_eq] at e
      rw [decide_eq_decide]; omega
    · simp only [decide_eq_false_iff_not] at e
      symm; simp; omega

theorem Rlower_c {h : AHeap} (hs : s.length ≤ 100000) (hk : Q (.s (lowS s)) h) : C G_ref26_lower.id [.s s] h Q := by
  refine G_ref26_lower.call ?_
  simp only [G_ref26_lower.t, G_ref26_lower.j0]
  exact Tx.empty fun v h' T => Rlower_p0 hs s 0 _ [] h' rfl (by simp) T hk

/-! ### base64 -/

def alph : List UInt8 := [65, 66, 67, 68, 69, 70, 71, 72, 73, 74, 75, 76, 77, 78, 79, 80, 81, 82, 83, 84, 85, 86, 87, 88, 89, 90, 97, 98, 99, 100, 101, 102, 103, 104, 105, 106, 107, 108, 109, 110, 111, 112, 113, 114, 115, 116, 117, 118, 119, 120, 121, 122, 48, 49, 50, 51, 52, 53, 54, 55, 56, 57, 43, 47]
def b64S : Nat → Nat → List UInt8 → List UInt8
  | _, _, [] => []
  | b, n, c :: r => if c = 61 then [] else if Lib.indexByte alph c < 0 then b64S b n r else
      if 2 ≤ n then UInt8.ofNat ((b * 64 + (Lib.indexByte alph c).toNat) / 2 ^ (n - 2)) :: b64S ((b * 64 + (Lib.indexByte alph c).toNat) % 2 ^ (n - 2)) (n - 2) r
      else b64S (b * 64 + (Lib.indexByte alph c).toNat) (n + 6) r

theorem idx_lt (l : List UInt8) (c : UInt8) : Lib.indexByte l c < max l.length 1 := by
  induction l with
  | nil => simp [Lib.indexByte]
  | cons b l ih =>
    unfold Lib.indexByte
    split
    · simp
    · split
      · simp; omega
      · rename_i h1 h2
        simp only [List.length_cons]
        have := Lib.indexByte_ge l c
        have : Lib.indexByte l c ≠ -1 := by simpa using h2
        cases l with
        | nil => simp [Lib.indexByte] at *
        | cons d l => simp at ih ⊢; omega
theorem alph_bd (c : UInt8) : Lib.indexByte alph c < 64 := by have := idx_lt alph c; simpa [alph] using this

theorem small_pow {n : Nat} (h : n ≤ 7) : 2 ^ n ≤ 128 := by
  have : (2 : Nat) ^ n ≤ 2 ^ 7 := Nat.pow_le_pow_right (by omega) h
  simpa using this

theorem b64_num {b n v : Nat} (hb : b < 2 ^ n) (hn : n ≤ 7) (hn2 : 2 ≤ n) (hv : v < 64) : (b * 64 + v) / 2 ^ (n - 2) < 256 := by
  rw [Nat.div_lt_iff_lt_mul (Nat.two_pow_pos _)]
  have e : 2 ^ n = 4 * 2 ^ (n - 2) := by
    conv => lhs; rw [show n = (n - 2) + 2 by omega, Nat.pow_add]
    omega
  omega

theorem eq61 (c : UInt8) : decide ((c.toNat : Int) = 61) = decide (c = 61) := by
  rw [decide_eq_decide]
  constructor
  · intro h; exact UInt8.toNat_inj.1 (by show c.toNat = 61; omega)
  · rintro rfl; rfl

theorem b64_p2 {v : AV} {l : List UInt8} {h : AHeap} (T : Tx h0 h v l) (hq : Q (.s l) h0) : G_transform_text_base64.p2 (kRet h0 Q) v h := by
  refine G_transform_text_base64.i2 ?_
  simp only [G_transform_text_base64.t2]
  exact T.ret hq
theorem b64_p1 {v : AV} {b n : Nat} {i : Nat} {h : AHeap} (hi : i ≤ 1000000) (hk : G_transform_text_base64.p0 (kRet h0 Q) s v b n s.length (i + 1 : Nat) h) : G_transform_text_base64.p1 (kRet h0 Q) s v b n s.length i h := by
  refine G_transform_text_base64.i1 ?_
  simp only [G_transform_text_base64.t1, G_transform_text_base64.j0]
  exact inc (by omega) hk

theorem b64_p0 (hs : s.length ≤ 100000) : ∀ (r : List UInt8) (i b n : Nat) (v : AV) (l : List UInt8) (h : AHeap), s.drop i = r → n ≤ 7 → b < 2 ^ n → l.length ≤ i → Tx h0 h v l → Q (.s (l ++ b64S b n r)) h0 → G_transform_text_base64.p0 (kRet h0 Q) s v b n s.length i h := by
  intro r
  induction r with
  | nil =>
    intro i b n v l h hr hn hb hl T hq
    have := drop_end hr
    refine G_transform_text_base64.i0 ?_
    simp only [G_transform_text_base64.t0, G_transform_text_base64.j1, G_transform_text_base64.j2]
    exact bif_f (by simp; omega) (b64_p2 T (by simpa [b64S] using hq))
  | cons c r ih =>
    intro i b n v l h hr hn hb hl T hq
    have hlt := drop_lt hr
    have hnx := drop_next hr
    have hp := small_pow hn
    refine G_transform_text_base64.i0 ?_
    simp only [G_transform_text_base64.t0, G_transform_text_base64.j1, G_transform_text_base64.j2]
    refine bif_t (by simp; omega) (st_at hr ?_)
    rw [eq61]
    refine bif_both (fun e => ?_) fun e => ?_
    · simp only [decide_eq_true_eq] at e
      exact b64_p2 T (by simpa [b64S, e] using hq)
    · simp only [decide_eq_false_iff_not] at e
      refine st_at hr (ib_c (l := alph) (st_asI64 ?_))
      have hv1 := alph_bd c
      rw [b64S, if_neg e] at hq
      refine bif_both (fun e2 => ?_) fun e2 => ?_
      · simp only [decide_eq_true_eq] at e2
        rw [if_pos e2] at hq
        exact b64_p1 (by omega) (ih (i + 1) b n v l h hnx hn hb (by omega) T hq)
      · simp only [decide_eq_false_iff_not] at e2
        rw [if_neg e2] at hq
        obtain ⟨k, hk⟩ : ∃ k : Nat, Lib.indexByte alph c = k := ⟨(Lib.indexByte alph c).toNat, by omega⟩
        rw [hk] at hq hv1 ⊢
        rw [Int.toNat_natCast] at hq
        have hk64 : k < 64 := by omega
        refine st_shl (a := b) (b := 6) (by omega) (by omega) ?_
        have hor : b * 2 ^ 6 ||| k = b * 64 + k := by
          rw [Nat.mul_comm b, ← Nat.two_pow_add_eq_or_of_lt (show k < 2 ^ 6 by omega)]
        refine withI_is (n := ((b * 64 + k : Nat) : Int)) (by rw [bits_or (by omega) (by omega), hor]) ?_
        refine withI_is (n := ((n + 6 : Nat) : Int)) (by rw [wrap_i64 (by omega) (by omega)]; omega) ?_
        by_cases hn2 : 2 ≤ n
        · rw [if_pos hn2] at hq
          refine bif_t (by simp; omega) ?_
          refine withI_is (n := ((n - 2 : Nat) : Int)) (by rw [wrap_i64 (by omega) (by omega)]; omega) ?_
          refine st_shr (k := .i64) (by show n - 2 ≤ 64; omega) ?_
          have hx := b64_num hb hn hn2 hk64
          obtain ⟨y, hy⟩ : ∃ y, (b * 64 + k) / 2 ^ (n - 2) = y := ⟨_, rfl⟩
          rw [hy] at hx hq ⊢
          rw [wrap_u8 (by omega) (by omega), u8_of (n := (y : Int)) (by omega) (by omega)]
          refine T.push (by omega) fun v' h' T' => ?_
          have hp2 : 2 ^ (n - 2) ≤ 128 := small_pow (by omega)
          have hp3 : 0 < 2 ^ (n - 2) := Nat.two_pow_pos _
          refine st_shl (a := 1) (b := n - 2) (by omega) (by omega) ?_
          refine withI_is (n := ((2 ^ (n - 2) - 1 : Nat) : Int)) (by rw [Nat.one_mul, wrap_i64 (by omega) (by omega)]; omega) ?_
          refine withI_is (n := (((b * 64 + k) % 2 ^ (n - 2) : Nat) : Int)) (by rw [bits_and (by omega) (by omega), Nat.and_two_pow_sub_one_eq_mod]) ?_
          refine b64_p1 (by omega) (ih (i + 1) _ (n - 2) v' _ h' hnx (by omega) (Nat.mod_lt _ hp3) (by simp; omega) T' ?_)
          rw [Int.toNat_natCast, List.append_assoc]; exact hq
        · rw [if_neg hn2] at hq
          refine bif_f (by simp; omega) ?_
          refine b64_p1 (by omega) (ih (i + 1) _ (n + 6) v l h hnx (by omega) ?_ (by omega) T hq)
          rw [Nat.pow_add]; omega

theorem b64_c {h : AHeap} (hs : s.length ≤ 100000) (hk : Q (.s (b64S 0 0 s)) h) : C G_transform_text_base64.id [.s s] h Q := by
  refine G_transform_text_base64.call ?_
  simp only [G_transform_text_base64.t, G_transform_text_base64.j0]
  exact b64_p0 hs s 0 0 0 _ [] h rfl (by omega) (by simp) (by simp) (Tx.start h) hk

def lastI (c : UInt8) : Nat → Int
  | 0 => -1
  | k + 1 => if alph.getD k 0 = c then k else lastI c k
theorem lastI_all (c : UInt8) : lastI c 64 = Lib.indexByte alph c := by
  have h : ∀ n, n < 256 → lastI (UInt8.ofNat n) 64 = Lib.indexByte alph (UInt8.ofNat n) := by decide +kernel
  have := h c.toNat c.toNat_lt
  rwa [UInt8.ofNat_toNat] at this

theorem Rb64_p4 {v : AV} {b n : Nat} {i : Nat} {h : AHeap} (hi : i ≤ 1000000) (hk : G_ref26_base64.p0 (kRet h0 Q) s v b n (i + 1 : Nat) h) : G_ref26_base64.p4 (kRet h0 Q) s v b n i h := by
  refine G_ref26_base64.i4 ?_
  simp only [G_ref26_base64.t4, G_ref26_base64.j0]
  exact inc (by omega) hk

theorem Rb64_p2 {v : AV} {b n : Nat} {i : Nat} {c : UInt8} {r : List UInt8} {h : AHeap} (hr : s.drop i = c :: r) (hk : G_ref26_base64.p2 (kRet h0 Q) s v b n i (Lib.indexByte alph c) (64 : Nat) h) :
    ∀ m k, k + m = 64 → G_ref26_base64.p2 (kRet h0 Q) s v b n i (lastI c k) k h := by
  intro m
  induction m with
  | zero =>
    intro k hkm
    have : k = 64 := by omega
    subst this
    rw [lastI_all]; exact hk
  | succ m ih =>
    intro k hkm
    refine G_ref26_base64.i2 ?_
    simp only [G_ref26_base64.t2, G_ref26_base64.j3, G_ref26_base64.j4]
    refine bif_t (by simp; omega) ?_
    have hkl : alph[k]? = some (alph.getD k 0) := by
      rw [List.getD_eq_getElem?_getD, List.getElem?_eq_getElem (show k < alph.length by show k < 64; omega)]; rfl
    refine idxStr (l := alph) hkl (st_at hr ?_)
    have hp3 : ∀ x : Int, x = lastI c (k + 1) → G_ref26_base64.p3 (kRet h0 Q) s v b n i x k h := by
      intro x hx
      subst hx
      refine G_ref26_base64.i3 ?_
      simp only [G_ref26_base64.t3, G_ref26_base64.j2]
      exact inc (by omega) (ih (k + 1) (by omega))
    refine bif_both (fun e => hp3 _ ?_) fun e => hp3 _ ?_
    · simp only [decide_eq_true_eq] at e
      rw [lastI, if_pos (UInt8.toNat_inj.1 (by omega))]
    · simp only [decide_eq_false_iff_not] at e
      rw [lastI, if_neg fun h => e (by rw [h])]

theorem Rb64_p1 {v : AV} {b n : Nat} {i : Nat} {l : List UInt8} {h : AHeap} (T : Tx h0 h v l) (hq : Q (.s l) h0) : G_ref26_base64.p1 (kRet h0 Q) s v b n i false h := by
  refine G_ref26_base64.i1 ?_
  simp only [G_ref26_base64.t1, G_ref26_base64.j2]
  exact bif_f rfl (T.ret hq)

theorem Rb64_p0 (hs : s.length ≤ 100000) : ∀ (r : List UInt8) (i b n : Nat) (v : AV) (l : List UInt8) (h : AHeap), s.drop i = r → n ≤ 7 → b < 2 ^ n → l.length ≤ i → Tx h0 h v l → Q (.s (l ++ b64S b n r)) h0 → G_ref26_base64.p0 (kRet h0 Q) s v b n i h := by
  intro r
  induction r with
  | nil =>
    intro i b n v l h hr hn hb hl T hq
    have := drop_end hr
    refine G_ref26_base64.i0 ?_
    simp only [G_ref26_base64.t0, G_ref26_base64.j1]
    exact bif_f (by simp; omega) (Rb64_p1 T (by simpa [b64S] using hq))
  | cons c r ih =>
    intro i b n v l h hr hn hb hl T hq
    have hlt := drop_lt hr
    have hnx := drop_next hr
    have hp := small_pow hn
    refine G_ref26_base64.i0 ?_
    simp only [G_ref26_base64.t0, G_ref26_base64.j1]
    refine bif_t (by simp; omega) (st_at hr ?_)
    rw [eq61]
    by_cases e : c = 61
    · rw [decide_eq_true e]
      exact Rb64_p1 T (by simpa [b64S, e] using hq)
    · rw [decide_eq_false e]
      rw [b64S, if_neg e] at hq
      refine G_ref26_base64.i1 ?_
      simp only [G_ref26_base64.t1, G_ref26_base64.j2]
      refine bif_t rfl ?_
      refine Rb64_p2 hr ?_ 64 0 (by omega)
      have hv1 := alph_bd c
      refine G_ref26_base64.i2 ?_
      simp only [G_ref26_base64.t2, G_ref26_base64.j3, G_ref26_base64.j4]
      refine bif_f (by simp) ?_
      refine bif_both (fun e2 => ?_) fun e2 => ?_
      · simp only [decide_eq_true_eq] at e2
        rw [if_pos e2] at hq
        exact Rb64_p4 (by omega) (ih (i + 1) b n v l h hnx hn hb (by omega) T hq)
      · simp only [decide_eq_false_iff_not] at e2
        rw [if_neg e2] at hq
        obtain ⟨k, hk⟩ : ∃ k : Nat, Lib.indexByte alph c = k := ⟨(Lib.indexByte alph c).toNat, by omega⟩
        rw [hk] at hq hv1 ⊢
        rw [Int.toNat_natCast] at hq
        have hk64 : k < 64 := by omega
        refine withI_is (n := ((b * 64 : Nat) : Int)) (by rw [wrap_i64 (by omega) (by omega)]; omega) ?_
        refine withI_is (n := ((b * 64 + k : Nat) : Int)) (by rw [wrap_i64 (by omega) (by omega)]; omega) ?_
        refine withI_is (n := ((n + 6 : Nat) : Int)) (by rw [wrap_i64 (by omega) (by omega)]; omega) ?_
        by_cases hn2 : 2 ≤ n
        · rw [if_pos hn2] at hq
          refine bif_t (by simp; omega) ?_
          refine withI_is (n := ((n - 2 : Nat) : Int)) (by rw [wrap_i64 (by omega) (by omega)]; omega) ?_
          refine st_shr (k := .i64) (by show n - 2 ≤ 64; omega) ?_
          have hx := b64_num hb hn hn2 hk64
          obtain ⟨y, hy⟩ : ∃ y, (b * 64 + k) / 2 ^ (n - 2) = y := ⟨_, rfl⟩
          rw [hy] at hx hq ⊢
          rw [wrap_u8 (by omega) (by omega), u8_of (n := (y : Int)) (by omega) (by omega)]
          refine T.push (by omega) fun v' h' T' => ?_
          have hp2 : 2 ^ (n - 2) ≤ 128 := small_pow (by omega)
          have hp3 : 0 < 2 ^ (n - 2) := Nat.two_pow_pos _
          refine st_shl (a := 1) (b := n - 2) (by omega) (by omega) ?_
          refine st_rem (n := (((b * 64 + k) % 2 ^ (n - 2) : Nat) : Int)) (by omega) (by rw [Nat.one_mul, Int.tmod_eq_emod_of_nonneg (by omega)]; rfl) ?_
          refine Rb64_p4 (by omega) (ih (i + 1) _ (n - 2) v' _ h' hnx (by omega) (Nat.mod_lt _ hp3) (by simp; omega) T' ?_)
          rw [Int.toNat_natCast, List.append_assoc]; exact hq
        · rw [if_neg hn2] at hq
          refine bif_f (by simp; omega) ?_
          refine Rb64_p4 (by omega) (ih (i + 1) _ (n + 6) v l h hnx (by omega) ?_ (by omega) T hq)
          rw [Nat.pow_add]; omega

theorem Rb64_c {h : AHeap} (hs : s.length ≤ 100000) (hk : Q (.s (b64S 0 0 s)) h) : C G_ref26_base64.id [.s s] h Q := by
  refine G_ref26_base64.call ?_
  simp only [G_ref26_base64.t, G_ref26_base64.j0]
  exact Tx.empty fun v h' T => Rb64_p0 hs s 0 0 0 _ [] h' rfl (by omega) (by simp) (by simp) T hk

end
end Go.Proofs.YtbphaelhhfkdiaaDoor
