/- The encoders. -/
import Derived.Test.YtbphaelhhfkdiaaDoorTy8
import Derived.Test.YtbphaelhhfkdiaaDoorAm23
set_option linter.unusedVariables false
set_option linter.unusedSimpArgs false
set_option linter.unusedSectionVars false
set_option maxRecDepth 20000
namespace Go.Proofs.YtbphaelhhfkdiaaDoor
open Go.GAM Go.RowKit

def encH (c : UInt8) : List UInt8 := [HL.getD (c.toNat / 16) 0, HL.getD (c.toNat % 16) 0]
def al (n : Nat) : UInt8 := alph.getD n 0
def encG : Nat → Nat → List UInt8 → List UInt8
  | b, n, [] => if n = 0 then [] else [al (b * 2 ^ (6 - n))]
  | b, n, c :: r => if n = 4 then al ((b * 256 + c.toNat) / 64) :: al ((b * 256 + c.toNat) % 64) :: encG 0 0 r
      else al ((b * 256 + c.toNat) / 2 ^ (n + 2)) :: encG ((b * 256 + c.toNat) % 2 ^ (n + 2)) (n + 2) r
def padS (n : Nat) : List UInt8 := if n % 3 = 0 then [] else if n % 3 = 1 then [61, 61] else [61]
def enc64 (s : List UInt8) : List UInt8 := encG 0 0 s ++ padS s.length

theorem getAl {n : Nat} (h : n < 64) : alph[n]? = some (al n) := by
  unfold al
  rw [List.getD_eq_getElem?_getD, List.getElem?_eq_getElem (show n < alph.length from h)]; rfl

/-- The table of pads, in block 0. -/
def PadOK (h : AHeap) : Prop := ∃ b, h[0]? = some b ∧ b.gl = true ∧ b.floor ≤ b.cells.length ∧ b.cells = [.s [], .s [61, 61], .s [61]]
theorem PadOK.ext {h h' : AHeap} (p : PadOK h) (E : Upd (fun _ => False) h h') : PadOK h' := by
  obtain ⟨b, h1, h2⟩ := p
  exact ⟨b, (E.2 0 (lt_of_some h1) fun h => h).trans h1, h2⟩
theorem PadOK.at {h : AHeap} (p : PadOK h) {n : Nat} {K : List UInt8 → Prop} (hk : K (padS n)) : pIdxAddrArr 3 1 (gvar h 0) (.i .i64 ((n % 3 : Nat) : Int)) fun v44 => pLoad1 v44 h fun v45 => asS v45 K := by
  obtain ⟨b, h1, h2, h3, h4⟩ := p
  have hm : n % 3 < 3 := Nat.mod_lt _ (by omega)
  have hg : gvar h 0 = .p (some ⟨0, 3, 0⟩) := by
    unfold gvar
    rw [h1]
    have hl : b.cells.length = 3 := by rw [h4]; rfl
    simp only
    rw [h2, hl, show Nat.ble b.floor 3 = true from Nat.ble_eq_true_of_le (by omega)]; rfl
  rw [hg]
  refine ⟨by omega, by omega, ?_⟩
  refine ⟨b, h1, ⟨by rw [h4] at h3; exact h3, by rw [h4]; exact Nat.le_refl _, by simp only [Int.toNat_natCast]; omega⟩, ?_⟩
  rw [h4]
  simp only [Int.toNat_natCast, Nat.mul_one, Nat.zero_add]
  unfold padS at hk
  have : n % 3 = 0 ∨ n % 3 = 1 ∨ n % 3 = 2 := by omega
  rcases this with e | e | e <;> rw [e] at hk ⊢ <;> exact st_asS hk

section
variable {s : List UInt8} {h0 : AHeap} {Q : AV → AHeap → Prop}

/-! ### EncodeHex -/

theorem eh_p0 (hs : s.length ≤ 100000) : ∀ (r : List UInt8) (i : Nat) (v : AV) (l : List UInt8) (h : AHeap), s.drop i = r → l.length ≤ 2 * i → Tx h0 h v l → Q (.s (l ++ r.flatMap encH)) h0 → G_transform_EncodeHex.p0 (kRet h0 Q) s v s.length i h := by
  intro r
  induction r with
  | nil =>
    intro i v l h hr hl T hq
    have := drop_end hr
    refine G_transform_EncodeHex.i0 ?_
    simp only [G_transform_EncodeHex.t0]
    exact bif_f (by simp; omega) (T.ret (by simpa using hq))
  | cons c r ih =>
    intro i v l h hr hl T hq
    have hlt := drop_lt hr
    have hn := drop_next hr
    have hc := c.toNat_lt
    refine G_transform_EncodeHex.i0 ?_
    simp only [G_transform_EncodeHex.t0, G_transform_EncodeHex.j0]
    refine bif_t (by simp; omega) (st_at hr (st_shr (k := .u8) (b := 4) (by decide) ?_))
    refine idxStr (l := HL) (getHL (by omega)) (st_at hr ?_)
    rw [and15]
    refine idxStr (l := HL) (getHL (by omega)) ?_
    exact T.push2 (by omega) fun v' h' T' => inc (by omega) (ih (i + 1) v' _ h' hn (by simp; omega) T' (by simpa [encH] using hq))
theorem eh_c {h : AHeap} (hs : s.length ≤ 100000) (hk : Q (.s (s.flatMap encH)) h) : C G_transform_EncodeHex.id [.s s] h Q := by
  refine G_transform_EncodeHex.call ?_
  simp only [G_transform_EncodeHex.t, G_transform_EncodeHex.j0]
  exact eh_p0 hs s 0 _ [] h rfl (by simp) (Tx.start h) hk

theorem Reh_p0 (hs : s.length ≤ 100000) : ∀ (r : List UInt8) (i : Nat) (v : AV) (l : List UInt8) (h : AHeap), s.drop i = r → l.length ≤ 2 * i → Tx h0 h v l → Q (.s (l ++ r.flatMap encH)) h0 → G_ref26_EncodeHex.p0 (kRet h0 Q) s v i h := by
  intro r
  induction r with
  | nil =>
    intro i v l h hr hl T hq
    have := drop_end hr
    refine G_ref26_EncodeHex.i0 ?_
    simp only [G_ref26_EncodeHex.t0]
    exact bif_f (by simp; omega) (T.ret (by simpa using hq))
  | cons c r ih =>
    intro i v l h hr hl T hq
    have hlt := drop_lt hr
    have hn := drop_next hr
    have hc := c.toNat_lt
    refine G_ref26_EncodeHex.i0 ?_
    simp only [G_ref26_EncodeHex.t0, G_ref26_EncodeHex.j0]
    refine bif_t (by simp; omega) (st_at hr ?_)
    refine st_quo (n := ((c.toNat / 16 : Nat) : Int)) (by omega) (by rw [Int.tdiv_eq_ediv_of_nonneg (by omega), wrap_u8 (by omega) (by omega)]; omega) ?_
    refine idxStr (l := HL) (getHL (by omega)) (st_at hr ?_)
    refine st_rem (n := ((c.toNat % 16 : Nat) : Int)) (by omega) (by rw [Int.tmod_eq_emod_of_nonneg (by omega)]; rfl) ?_
    refine idxStr (l := HL) (getHL (by omega)) ?_
    exact T.push2 (by omega) fun v' h' T' => inc (by omega) (ih (i + 1) v' _ h' hn (by simp; omega) T' (by simpa [encH] using hq))
theorem Reh_c {h : AHeap} (hs : s.length ≤ 100000) (hk : Q (.s (s.flatMap encH)) h) : C G_ref26_EncodeHex.id [.s s] h Q := by
  refine G_ref26_EncodeHex.call ?_
  simp only [G_ref26_EncodeHex.t, G_ref26_EncodeHex.j0]
  exact Tx.empty fun v h' T => Reh_p0 hs s 0 _ [] h' rfl (by simp) T hk

/-! ### the reference's EncodePercent -/

theorem Rep_p2 {v : AV} {i : Nat} {h : AHeap} (hi : i ≤ 1000000) (hk : G_ref26_EncodePercent.p0 (kRet h0 Q) s v (i + 1 : Nat) h) : G_ref26_EncodePercent.p2 (kRet h0 Q) s v i h := by
  refine G_ref26_EncodePercent.i2 ?_
  simp only [G_ref26_EncodePercent.t2, G_ref26_EncodePercent.j0]
  exact inc (by omega) hk

theorem Rep_p0 (hs : s.length ≤ 100000) : ∀ (r : List UInt8) (i : Nat) (v : AV) (l : List UInt8) (h : AHeap), s.drop i = r → l.length ≤ 3 * i → Tx h0 h v l → Q (.s (l ++ r.flatMap encP)) h0 → G_ref26_EncodePercent.p0 (kRet h0 Q) s v i h := by
  intro r
  induction r with
  | nil =>
    intro i v l h hr hl T hq
    have := drop_end hr
    refine G_ref26_EncodePercent.i0 ?_
    simp only [G_ref26_EncodePercent.t0, G_ref26_EncodePercent.j1]
    exact bif_f (by simp; omega) (T.ret (by simpa using hq))
  | cons c r ih =>
    intro i v l h hr hl T hq
    have hlt := drop_lt hr
    have hn := drop_next hr
    have hc := c.toNat_lt
    have hel := encP_len c
    have hnext : ∀ v' h', Tx h0 h' v' (l ++ encP c) → G_ref26_EncodePercent.p2 (kRet h0 Q) s v' i h' := fun v' h' T' => Rep_p2 (by omega) (ih (i + 1) v' _ h' hn (by simp; omega) T' (by simpa using hq))
    have fin : ∀ b, b = decide (plainP c) → G_ref26_EncodePercent.p1 (kRet h0 Q) s v i (c.toNat : Int) b h := by
      intro b hb
      refine G_ref26_EncodePercent.i1 ?_
      simp only [G_ref26_EncodePercent.t1, G_ref26_EncodePercent.j2]
      unfold encP at hnext
      refine bif_both (fun e => ?_) fun e => ?_
      · subst e
        rw [if_pos (by simpa using hb.symm)] at hnext
        exact T.push (by omega) hnext
      · subst e
        rw [if_neg (by simpa using hb.symm)] at hnext
        refine st_quo (n := ((c.toNat / 16 : Nat) : Int)) (by omega) (by rw [Int.tdiv_eq_ediv_of_nonneg (by omega), wrap_u8 (by omega) (by omega)]; omega) ?_
        refine idxStr (l := HU) (getHU (by omega)) ?_
        refine st_rem (n := ((c.toNat % 16 : Nat) : Int)) (by omega) (by rw [Int.tmod_eq_emod_of_nonneg (by omega)]; rfl) ?_
        refine idxStr (l := HU) (getHU (by omega)) ?_
        exact T.push3 (c := 37) (by omega) hnext
    have leaf1 : plainP c → G_ref26_EncodePercent.p1 (kRet h0 Q) s v i (c.toNat : Int) true h := fun hp => fin _ (decide_eq_true hp).symm
    have leaf2 : (plainP c ↔ c.toNat = 126) → G_ref26_EncodePercent.p1 (kRet h0 Q) s v i (c.toNat : Int) (decide ((c.toNat : Int) = 126)) h := fun hp => fin _ (by rw [decide_eq_decide, hp]; omega)
    clear fin hnext ih hq
    unfold plainP at leaf1 leaf2
    refine G_ref26_EncodePercent.i0 ?_
    simp only [G_ref26_EncodePercent.t0, G_ref26_EncodePercent.j1]
    refine bif_t (by simp; omega) (st_at hr ?_)
    repeat' first
      | with_reducible refine bif_both (fun e => ?_) fun e => ?_
      | (with_reducible refine leaf1 ?_; simp only [decide_eq_true_eq, decide_eq_false_iff_not] at *; omega)
      | (with_reducible refine leaf2 ?_; simp only [decide_eq_true_eq, decide_eq_false_iff_not] at *; omega)
theorem Rep_c {h : AHeap} (hs : s.length ≤ 100000) (hk : Q (.s (s.flatMap encP)) h) : C G_ref26_EncodePercent.id [.s s] h Q := by
  refine G_ref26_EncodePercent.call ?_
  simp only [G_ref26_EncodePercent.t, G_ref26_EncodePercent.j0]
  exact Tx.empty fun v h' T => Rep_p0 hs s 0 _ [] h' rfl (by simp) T hk

/-! ### EncodeBase64 -/

theorem p2_le {n : Nat} (h : n ≤ 12) : 0 < 2 ^ n ∧ 2 ^ n ≤ 4096 := by
  have : (2 : Nat) ^ n ≤ 2 ^ 12 := Nat.pow_le_pow_right (by omega) h
  exact ⟨Nat.two_pow_pos _, by simpa using this⟩

theorem eb_out {v : AV} {x m i : Nat} {l : List UInt8} {h : AHeap} (hm : m ≤ 6) (hx : x < 64 * 2 ^ m) (hl : l.length ≤ 1000000) (T : Tx h0 h v l)
    (hk : ∀ v' h', Tx h0 h' v' (l ++ [al (x / 2 ^ m)]) → G_transform_EncodeBase64.p1 (kRet h0 Q) s v' (x % 2 ^ m : Nat) m s.length i h') : G_transform_EncodeBase64.p1 (kRet h0 Q) s v x (m + 6 : Nat) s.length i h := by
  have hp := p2_le (n := m) (by omega)
  have hd : x / 2 ^ m < 64 := by rw [Nat.div_lt_iff_lt_mul hp.1]; exact hx
  refine G_transform_EncodeBase64.i1 ?_
  simp only [G_transform_EncodeBase64.t1, G_transform_EncodeBase64.j1]
  refine bif_t (by simp; omega) ?_
  refine withI_is (n := (m : Int)) (by rw [wrap_i64 (by omega) (by omega)]; omega) ?_
  refine st_shr (k := .i64) (by show m ≤ 64; omega) ?_
  obtain ⟨y, hy⟩ : ∃ y, x / 2 ^ m = y := ⟨_, rfl⟩
  rw [hy] at hd hk ⊢
  refine withI_is (n := (y : Int)) ?_ ?_
  · have := bits_and (x := y) (y := 63) (by omega) (by omega)
    rw [show ((63 : Nat) : Int) = 63 from rfl] at this
    rw [this, show 63 = 2 ^ 6 - 1 from rfl, Nat.and_two_pow_sub_one_eq_mod, Nat.mod_eq_of_lt hd]
  refine idxStr (l := alph) (getAl hd) ?_
  refine T.push (by omega) fun v' h' T' => ?_
  refine st_shl (a := 1) (b := m) (by omega) (by omega) ?_
  refine withI_is (n := ((2 ^ m - 1 : Nat) : Int)) (by rw [Nat.one_mul, wrap_i64 (by omega) (by omega)]; omega) ?_
  refine withI_is (n := ((x % 2 ^ m : Nat) : Int)) (by rw [bits_and (by omega) (by omega), Nat.and_two_pow_sub_one_eq_mod]) ?_
  exact hk v' h' T'
theorem eb_end {v : AV} {x m i : Nat} {h : AHeap} (hm : m < 6) (hi : i ≤ 1000000) (hk : G_transform_EncodeBase64.p0 (kRet h0 Q) s v x m s.length (i + 1 : Nat) h) : G_transform_EncodeBase64.p1 (kRet h0 Q) s v x m s.length i h := by
  refine G_transform_EncodeBase64.i1 ?_
  simp only [G_transform_EncodeBase64.t1, G_transform_EncodeBase64.j0]
  exact bif_f (by simp; omega) (inc (by omega) hk)
theorem eb_p2 {v : AV} {l : List UInt8} {h : AHeap} (p : PadOK h0) (hl : l.length ≤ 1000000) (T : Tx h0 h v l) (hq : Q (.s (l ++ padS s.length)) h0) : G_transform_EncodeBase64.p2 (kRet h0 Q) s v h := by
  refine G_transform_EncodeBase64.i2 ?_
  simp only [G_transform_EncodeBase64.t2]
  refine T.str (st_rem (n := ((s.length % 3 : Nat) : Int)) (by omega) (by rw [Int.tmod_eq_emod_of_nonneg (by omega)]; rfl) ?_)
  refine (p.ext T.upd).at ⟨?_, kRet_pure rfl T.upd.ext hq⟩
  have : (padS s.length).length ≤ 2 := by
    unfold padS
    split
    · simp
    · split <;> simp
  omega

theorem eb_p0 (p : PadOK h0) (hs : s.length ≤ 100000) : ∀ (r : List UInt8) (i b n : Nat) (v : AV) (l : List UInt8) (h : AHeap), s.drop i = r → i ≤ s.length → (n = 0 ∨ n = 2 ∨ n = 4) → b < 2 ^ n → l.length ≤ 2 * i → Tx h0 h v l → Q (.s (l ++ encG b n r ++ padS s.length)) h0 → G_transform_EncodeBase64.p0 (kRet h0 Q) s v b n s.length i h := by
  intro r
  induction r with
  | nil =>
    intro i b n v l h hr hi hn hb hl T hq
    have := drop_end hr
    refine G_transform_EncodeBase64.i0 ?_
    simp only [G_transform_EncodeBase64.t0, G_transform_EncodeBase64.j1, G_transform_EncodeBase64.j2]
    refine bif_f (by simp; omega) ?_
    unfold encG at hq
    refine bif_both (fun e => ?_) fun e => ?_
    · have hn0 : n ≠ 0 := by simp at e; omega
      rw [if_neg hn0] at hq
      refine withI_is (n := ((6 - n : Nat) : Int)) (by rw [wrap_i64 (by omega) (by omega)]; omega) ?_
      have hlt : b * 2 ^ (6 - n) < 64 := by
        rcases hn with rfl | rfl | rfl
        · omega
        · omega
        · omega
      refine st_shl (by omega) (by omega) ?_
      refine idxStr (l := alph) (getAl hlt) ?_
      exact T.push (by omega) fun v' h' T' => eb_p2 p (by simp; omega) T' hq
    · have hn0 : n = 0 := by simp at e; omega
      rw [if_pos hn0, List.append_nil] at hq
      exact eb_p2 p (by omega) T hq
  | cons c r ih =>
    intro i b n v l h hr hi hn hb hl T hq
    have hlt := drop_lt hr
    have hnx := drop_next hr
    have hc := c.toNat_lt
    have hb16 : b < 16 := by rcases hn with rfl | rfl | rfl <;> omega
    refine G_transform_EncodeBase64.i0 ?_
    simp only [G_transform_EncodeBase64.t0, G_transform_EncodeBase64.j1, G_transform_EncodeBase64.j2]
    refine bif_t (by simp; omega) ?_
    refine st_shl (a := b) (b := 8) (by omega) (by omega) (st_at hr ?_)
    refine withI_is (n := ((b * 256 + c.toNat : Nat) : Int)) ?_ ?_
    · rw [wrap_i64 (by omega) (by omega), bits_or (by omega) (by omega), Nat.mul_comm b, ← Nat.two_pow_add_eq_or_of_lt (show c.toNat < 2 ^ 8 by omega)]
    refine withI_is (n := ((n + 2 + 6 : Nat) : Int)) (by rw [wrap_i64 (by omega) (by omega)]; omega) ?_
    unfold encG at hq
    have hx : b * 256 + c.toNat < 64 * 2 ^ (n + 2) := by rcases hn with rfl | rfl | rfl <;> omega
    have hmod : (b * 256 + c.toNat) % 2 ^ (n + 2) < 2 ^ (n + 2) := Nat.mod_lt _ (Nat.two_pow_pos _)
    refine eb_out (by omega) hx (by omega) T fun v1 h1 T1 => ?_
    by_cases h4 : n = 4
    · subst h4
      rw [if_pos rfl] at hq
      have e6 : ((4 + 2 : Nat) : Int) = ((0 + 6 : Nat) : Int) := rfl
      rw [e6]
      refine eb_out (m := 0) (by omega) (by omega) (by simp; omega) T1 fun v2 h2 T2 => ?_
      refine eb_end (by omega) (by omega) ?_
      rw [show (b * 256 + c.toNat) % 2 ^ (4 + 2) % 2 ^ 0 = 0 by rw [Nat.pow_zero]; omega]
      refine ih (i + 1) 0 0 v2 _ h2 hnx (by omega) (.inl rfl) (by simp) (by simp; omega) T2 ?_
      rw [show (b * 256 + c.toNat) % 2 ^ (4 + 2) / 2 ^ 0 = (b * 256 + c.toNat) % 64 by rw [Nat.pow_zero]; omega]
      simpa using hq
    · rw [if_neg h4] at hq
      refine eb_end (by omega) (by omega) ?_
      refine ih (i + 1) _ (n + 2) v1 _ h1 hnx (by omega) (by omega) hmod (by simp; omega) T1 ?_
      simpa using hq

end
end Go.Proofs.YtbphaelhhfkdiaaDoor
