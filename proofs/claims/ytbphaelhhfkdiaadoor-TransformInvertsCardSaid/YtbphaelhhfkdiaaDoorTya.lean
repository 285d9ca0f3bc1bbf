/- The reference's EncodeBase64; decoding inverts encoding. -/
import Derived.Test.YtbphaelhhfkdiaaDoorTy9
set_option linter.unusedVariables false
set_option linter.unusedSimpArgs false
set_option linter.unusedSectionVars false
set_option maxRecDepth 20000
namespace Go.Proofs.YtbphaelhhfkdiaaDoor
open Go.GAM Go.RowKit

/-! ### groups of three -/

theorem padS_add (n : Nat) : padS (n + 3) = padS n := by unfold padS; rw [Nat.add_mod_right]
theorem enc64_3 (a b c : UInt8) (r : List UInt8) : enc64 (a :: b :: c :: r) = [al ((a.toNat * 65536 + b.toNat * 256 + c.toNat) / 262144), al ((a.toNat * 65536 + b.toNat * 256 + c.toNat) / 4096 % 64), al ((a.toNat * 65536 + b.toNat * 256 + c.toNat) / 64 % 64), al ((a.toNat * 65536 + b.toNat * 256 + c.toNat) % 64)] ++ enc64 r := by
  have ha := a.toNat_lt
  have hb := b.toNat_lt
  have hc := c.toNat_lt
  unfold enc64
  rw [List.length_cons, List.length_cons, List.length_cons, padS_add]
  simp only [encG]
  simp only [Nat.zero_ne_add_one, if_false, if_true, show ¬ (0 = 4) by omega, show ¬ (0 + 2 = 4) by omega, show 0 + 2 + 2 = 4 by omega]
  rw [show (0 * 256 + a.toNat) / 2 ^ (0 + 2) = (a.toNat * 65536 + b.toNat * 256 + c.toNat) / 262144 by omega]
  rw [show ((0 * 256 + a.toNat) % 2 ^ (0 + 2) * 256 + b.toNat) / 2 ^ (0 + 2 + 2) = (a.toNat * 65536 + b.toNat * 256 + c.toNat) / 4096 % 64 by omega]
  rw [show (((0 * 256 + a.toNat) % 2 ^ (0 + 2) * 256 + b.toNat) % 2 ^ 4 * 256 + c.toNat) / 64 = (a.toNat * 65536 + b.toNat * 256 + c.toNat) / 64 % 64 by omega]
  rw [show (((0 * 256 + a.toNat) % 2 ^ (0 + 2) * 256 + b.toNat) % 2 ^ 4 * 256 + c.toNat) % 64 = (a.toNat * 65536 + b.toNat * 256 + c.toNat) % 64 by omega]
  simp
theorem enc64_2 (a b : UInt8) : enc64 [a, b] = [al ((a.toNat * 65536 + b.toNat * 256) / 262144), al ((a.toNat * 65536 + b.toNat * 256) / 4096 % 64), al ((a.toNat * 65536 + b.toNat * 256) / 64 % 64), 61] := by
  have ha := a.toNat_lt
  have hb := b.toNat_lt
  unfold enc64
  simp only [encG]
  simp only [if_false, show ¬ (0 = 4) by omega, show ¬ (0 + 2 = 4) by omega, show ¬ (0 + 2 + 2 = 0) by omega]
  rw [show (0 * 256 + a.toNat) / 2 ^ (0 + 2) = (a.toNat * 65536 + b.toNat * 256) / 262144 by omega]
  rw [show ((0 * 256 + a.toNat) % 2 ^ (0 + 2) * 256 + b.toNat) / 2 ^ (0 + 2 + 2) = (a.toNat * 65536 + b.toNat * 256) / 4096 % 64 by omega]
  rw [show ((0 * 256 + a.toNat) % 2 ^ (0 + 2) * 256 + b.toNat) % 2 ^ (0 + 2 + 2) * 2 ^ (6 - (0 + 2 + 2)) = (a.toNat * 65536 + b.toNat * 256) / 64 % 64 by omega]
  rfl
theorem enc64_1 (a : UInt8) : enc64 [a] = [al ((a.toNat * 65536) / 262144), al ((a.toNat * 65536) / 4096 % 64), 61, 61] := by
  have ha := a.toNat_lt
  unfold enc64
  simp only [encG]
  simp only [if_false, show ¬ (0 = 4) by omega, show ¬ (0 + 2 = 0) by omega]
  rw [show (0 * 256 + a.toNat) / 2 ^ (0 + 2) = (a.toNat * 65536) / 262144 by omega]
  rw [show (0 * 256 + a.toNat) % 2 ^ (0 + 2) * 2 ^ (6 - (0 + 2)) = (a.toNat * 65536) / 4096 % 64 by omega]
  rfl

theorem enc64_len : ∀ s : List UInt8, (enc64 s).length % 4 = 0 ∧ (enc64 s).length ≤ 2 * s.length + 4
  | [] => by decide
  | [a] => by rw [enc64_1]; simp
  | [a, b] => by rw [enc64_2]; simp
  | a :: b :: c :: r => by
    have := enc64_len r
    rw [enc64_3, List.length_append]
    simp only [List.length_cons, List.length_nil]
    omega

section
variable {s : List UInt8} {h0 : AHeap} {Q : AV → AHeap → Prop}

theorem eb_c {h : AHeap} (p : PadOK h) (hs : s.length ≤ 100000) (hk : Q (.s (enc64 s)) h) : C G_transform_EncodeBase64.id [.s s] h Q := by
  refine G_transform_EncodeBase64.call ?_
  simp only [G_transform_EncodeBase64.t, G_transform_EncodeBase64.j0]
  exact eb_p0 p hs s 0 0 0 _ [] h rfl (by omega) (.inl rfl) (by simp) (by simp) (Tx.start h) hk

theorem Reb_p3 {v : AV} {l : List UInt8} {x i : Nat} {c3 : UInt8} {h : AHeap} (hi : i ≤ 1000000) (hs : s.length ≤ 100000) (hl : l.length ≤ 1000000) (T : Tx h0 h v (l ++ [61]))
    (hk : ∀ h', Tx h0 h' v (l ++ [if i + 2 < s.length then al (x % 64) else 61]) → G_ref26_EncodeBase64.p0 (kRet h0 Q) s v (i + 3 : Nat) h') : G_ref26_EncodeBase64.p3 (kRet h0 Q) s v i x h := by
  have p4 : ∀ h', Tx h0 h' v (l ++ [if i + 2 < s.length then al (x % 64) else 61]) → G_ref26_EncodeBase64.p4 (kRet h0 Q) s v i h' := by
    intro h' T'
    refine G_ref26_EncodeBase64.i4 ?_
    simp only [G_ref26_EncodeBase64.t4, G_ref26_EncodeBase64.j0]
    exact withI_is (n := ((i + 3 : Nat) : Int)) (by rw [wrap_i64 (by omega) (by omega)]; omega) (hk h' T')
  refine G_ref26_EncodeBase64.i3 ?_
  simp only [G_ref26_EncodeBase64.t3, G_ref26_EncodeBase64.j4]
  refine inc2 (by omega) ?_
  by_cases h2 : i + 2 < s.length
  · rw [if_pos h2] at p4
    refine bif_t (by simp; omega) (T.arr.rd.len ?_)
    rw [List.length_append]
    refine withI_is (n := ((l.length : Nat) : Int)) (by rw [wrap_i64 (by simp) (by simp; omega)]; simp) ?_
    have hm : x % 64 < 64 := Nat.mod_lt _ (by omega)
    refine st_rem (n := ((x % 64 : Nat) : Int)) (by omega) (by rw [Int.tmod_eq_emod_of_nonneg (by omega)]; rfl) ?_
    refine idxStr (l := alph) (getAl hm) ?_
    refine T.store (by simp) fun h' T' => p4 h' ?_
    rw [List.set_append_right _ _ (by omega), Nat.sub_self] at T'
    exact T'
  · rw [if_neg h2] at p4
    exact bif_f (by simp; omega) (p4 h T)

theorem Reb_p2 {v : AV} {l : List UInt8} {x i : Nat} {h : AHeap} (hx : x < 2 ^ 24) (hi : i ≤ 1000000) (hs : s.length ≤ 100000) (hl : l.length ≤ 500000) (T : Tx h0 h v l)
    (hk : ∀ v' h', Tx h0 h' v' (l ++ [al (x / 262144), al (x / 4096 % 64), if i + 1 < s.length then al (x / 64 % 64) else 61, if i + 2 < s.length then al (x % 64) else 61]) → G_ref26_EncodeBase64.p0 (kRet h0 Q) s v' (i + 3 : Nat) h') : G_ref26_EncodeBase64.p2 (kRet h0 Q) s v i x h := by
  refine G_ref26_EncodeBase64.i2 ?_
  simp only [G_ref26_EncodeBase64.t2, G_ref26_EncodeBase64.j3]
  refine st_shr (k := .i64) (b := 18) (by decide) ?_
  have h1 : x / 2 ^ 18 < 64 := by omega
  refine idxStr (l := alph) (getAl h1) ?_
  refine st_shr (k := .i64) (b := 12) (by decide) ?_
  have h2 : x / 2 ^ 12 % 64 < 64 := Nat.mod_lt _ (by omega)
  refine st_rem (n := ((x / 2 ^ 12 % 64 : Nat) : Int)) (by omega) (by rw [Int.tmod_eq_emod_of_nonneg (by omega)]; rfl) ?_
  refine idxStr (l := alph) (getAl h2) ?_
  refine T.push4 (e := 61) (f := 61) (by omega) fun v' h' T' => inc (by omega) ?_
  rw [show x / 2 ^ 18 = x / 262144 by omega, show x / 2 ^ 12 % 64 = x / 4096 % 64 by omega] at T'
  have p3 : ∀ h', Tx h0 h' v' ((l ++ [al (x / 262144), al (x / 4096 % 64), if i + 1 < s.length then al (x / 64 % 64) else 61]) ++ [61]) → G_ref26_EncodeBase64.p3 (kRet h0 Q) s v' i x h' := by
    intro h' T'
    exact Reb_p3 (c3 := 0) hi hs (by simp; omega) T' fun h'' T'' => hk v' h'' (by simpa using T'')
  by_cases hc : i + 1 < s.length
  · rw [if_pos hc] at p3
    refine bif_t (by simp; omega) (T'.arr.rd.len ?_)
    rw [List.length_append]
    refine withI_is (n := ((l.length + 2 : Nat) : Int)) (by rw [wrap_i64 (by simp; omega) (by simp; omega)]; simp; omega) ?_
    refine st_shr (k := .i64) (b := 6) (by decide) ?_
    have h3 : x / 2 ^ 6 % 64 < 64 := Nat.mod_lt _ (by omega)
    refine st_rem (n := ((x / 2 ^ 6 % 64 : Nat) : Int)) (by omega) (by rw [Int.tmod_eq_emod_of_nonneg (by omega)]; rfl) ?_
    refine idxStr (l := alph) (getAl h3) ?_
    refine T'.store (by simp) fun h'' T'' => p3 h'' ?_
    rw [List.set_append_right _ _ (by omega), show l.length + 2 - l.length = 2 by omega, show x / 2 ^ 6 % 64 = x / 64 % 64 by omega] at T''
    simpa using T''
  · rw [if_neg hc] at p3
    exact bif_f (by simp; omega) (p3 h' (by simpa using T'))

theorem Reb_p1 {v : AV} {l : List UInt8} {x i d : Nat} {h : AHeap} (hx : x + d < 2 ^ 24) (hi : i ≤ 1000000) (hs : s.length ≤ 100000) (hl : l.length ≤ 500000) (hd : i + 2 < s.length ∧ (∃ c, s[i + 2]? = some c ∧ c.toNat = d) ∨ ¬ (i + 2 < s.length) ∧ d = 0) (T : Tx h0 h v l)
    (hk : ∀ v' h', Tx h0 h' v' (l ++ [al ((x + d) / 262144), al ((x + d) / 4096 % 64), if i + 1 < s.length then al ((x + d) / 64 % 64) else 61, if i + 2 < s.length then al ((x + d) % 64) else 61]) → G_ref26_EncodeBase64.p0 (kRet h0 Q) s v' (i + 3 : Nat) h') : G_ref26_EncodeBase64.p1 (kRet h0 Q) s v i x h := by
  refine G_ref26_EncodeBase64.i1 ?_
  simp only [G_ref26_EncodeBase64.t1, G_ref26_EncodeBase64.j2]
  refine inc2 (by omega) ?_
  rcases hd with ⟨h1, c, h2, rfl⟩ | ⟨h1, rfl⟩
  · have hc := c.toNat_lt
    refine bif_t (by simp; omega) (inc2 (by omega) (idxStr h2 ?_))
    refine withI_is (n := ((x + c.toNat : Nat) : Int)) (by rw [wrap_i64 (n := (c.toNat : Int)) (by omega) (by omega), wrap_i64 (by omega) (by omega)]; omega) ?_
    exact Reb_p2 hx hi hs hl T hk
  · exact bif_f (by simp; omega) (Reb_p2 hx hi hs hl T hk)

theorem Reb_p0 (hs : s.length ≤ 100000) : ∀ (n : Nat) (r : List UInt8) (i : Nat) (v : AV) (l : List UInt8) (h : AHeap), r.length ≤ n → s.drop i = r → i ≤ s.length + 3 → l.length ≤ 4 * i → Tx h0 h v l → Q (.s (l ++ enc64 r)) h0 → G_ref26_EncodeBase64.p0 (kRet h0 Q) s v i h := by
  intro n
  induction n with
  | zero =>
    intro r i v l h hn hr hi hl T hq
    have : r = [] := List.eq_nil_of_length_eq_zero (by omega)
    subst this
    have := drop_end hr
    refine G_ref26_EncodeBase64.i0 ?_
    simp only [G_ref26_EncodeBase64.t0]
    exact bif_f (by simp; omega) (T.ret (by simpa [enc64, encG, padS] using hq))
  | succ n ih =>
    intro r i v l h hn hr hi hl T hq
    have hlen := congrArg List.length hr
    rw [List.length_drop] at hlen
    cases r with
    | nil => exact ih [] i v l h (by simp) hr hi hl T hq
    | cons a r =>
      have ha := a.toNat_lt
      have hd1 := drop_next hr
      refine G_ref26_EncodeBase64.i0 ?_
      simp only [G_ref26_EncodeBase64.t0, G_ref26_EncodeBase64.j1]
      refine bif_t (by simp at hlen ⊢; omega) (st_at hr ?_)
      rw [wrap_i64 (by omega) (by omega)]
      refine st_shl (b := 16) (by omega) (by omega) (inc (by simp at hlen; omega) ?_)
      cases r with
      | nil =>
        simp at hlen
        refine bif_f (by simp; omega) ?_
        refine Reb_p1 (d := 0) (by omega) (by omega) hs (by omega) (.inr ⟨by omega, rfl⟩) T fun v' h' T' => ?_
        rw [if_neg (by omega), if_neg (by omega)] at T'
        refine ih [] (i + 3) v' _ h' (by simp) (List.drop_eq_nil_of_le (by omega)) (by omega) (by simp; omega) T' ?_
        rw [enc64_1] at hq
        simpa [enc64, encG, padS] using hq
      | cons b r =>
        have hb := b.toNat_lt
        have hd2 := drop_next hd1
        simp at hlen
        refine bif_t (by simp; omega) (inc (by omega) (st_at hd1 ?_))
        rw [wrap_i64 (by omega) (by omega)]
        refine st_shl (b := 8) (by omega) (by omega) ?_
        refine withI_is (n := ((a.toNat * 65536 + b.toNat * 256 : Nat) : Int)) (by rw [wrap_i64 (by omega) (by omega)]; omega) ?_
        cases r with
        | nil =>
          simp at hlen
          refine Reb_p1 (d := 0) (by omega) (by omega) hs (by omega) (.inr ⟨by omega, rfl⟩) T fun v' h' T' => ?_
          rw [if_pos (by omega), if_neg (by omega)] at T'
          refine ih [] (i + 3) v' _ h' (by simp) (List.drop_eq_nil_of_le (by omega)) (by omega) (by simp; omega) T' ?_
          rw [enc64_2] at hq
          simpa [enc64, encG, padS] using hq
        | cons c r =>
          have hc := c.toNat_lt
          have hd3 := drop_next hd2
          simp at hlen
          have hci : s[i + 1 + 1]? = some c := by
            have : (s.drop (i + 1 + 1))[0]? = some c := by rw [hd2]; rfl
            simpa using this
          refine Reb_p1 (d := c.toNat) (by omega) (by omega) hs (by omega) (.inl ⟨by omega, c, hci, rfl⟩) T fun v' h' T' => ?_
          rw [if_pos (by omega), if_pos (by omega)] at T'
          refine ih r (i + 3) v' _ h' (by simp at hn; omega) hd3 (by omega) (by simp; omega) T' ?_
          rw [enc64_3] at hq
          simpa using hq
theorem Reb_c {h : AHeap} (hs : s.length ≤ 100000) (hk : Q (.s (enc64 s)) h) : C G_ref26_EncodeBase64.id [.s s] h Q := by
  refine G_ref26_EncodeBase64.call ?_
  simp only [G_ref26_EncodeBase64.t, G_ref26_EncodeBase64.j0]
  exact Tx.empty fun v h' T => Reb_p0 hs s.length s 0 _ [] h' (Nat.le_refl _) rfl (by omega) (by simp) T hk

end

/-! ### decoding inverts encoding -/

theorem al_ix {n : Nat} (h : n < 64) : al n ≠ 61 ∧ Lib.indexByte alph (al n) = (n : Int) := by
  have : ∀ n, n < 64 → al n ≠ 61 ∧ Lib.indexByte alph (al n) = (n : Int) := by decide +kernel
  exact this n h
theorem b64_step {b n v : Nat} {r : List UInt8} (hv : v < 64) : b64S b n (al v :: r) = if 2 ≤ n then UInt8.ofNat ((b * 64 + v) / 2 ^ (n - 2)) :: b64S ((b * 64 + v) % 2 ^ (n - 2)) (n - 2) r else b64S (b * 64 + v) (n + 6) r := by
  obtain ⟨h1, h2⟩ := al_ix hv
  conv => lhs; rw [b64S]
  rw [if_neg h1, h2, if_neg (by omega), Int.toNat_natCast]
theorem b64_pad {b n : Nat} {P : List UInt8} (h : P = [] ∨ ∃ t, P = 61 :: t) : b64S b n P = [] := by
  rcases h with rfl | ⟨t, rfl⟩
  · rfl
  · simp [b64S]

theorem b64_inv {P : List UInt8} (hP : P = [] ∨ ∃ t, P = 61 :: t) : ∀ r : List UInt8,
    b64S 0 0 (encG 0 0 r ++ P) = r ∧ (∀ b b', b < 4 → b' < 64 → b64S b' 6 (encG b 2 r ++ P) = UInt8.ofNat (b' * 4 + b) :: r) ∧ ∀ b b', b < 16 → b' < 16 → b64S b' 4 (encG b 4 r ++ P) = UInt8.ofNat (b' * 16 + b) :: r
  | [] => by
    refine ⟨?_, fun b b' hb hb' => ?_, fun b b' hb hb' => ?_⟩
    · simp only [encG, if_true, List.nil_append]; exact b64_pad hP
    · simp only [encG, if_neg (show ¬ (2 = 0) by omega), List.cons_append, List.nil_append]
      rw [b64_step (by omega), if_pos (by omega), b64_pad hP]
      rw [show (b' * 64 + b * 2 ^ (6 - 2)) / 2 ^ (6 - 2) = b' * 4 + b by omega]
    · simp only [encG, if_neg (show ¬ (4 = 0) by omega), List.cons_append, List.nil_append]
      rw [b64_step (by omega), if_pos (by omega), b64_pad hP]
      rw [show (b' * 64 + b * 2 ^ (6 - 4)) / 2 ^ (4 - 2) = b' * 16 + b by omega]
  | c :: r => by
    obtain ⟨i0, i2, i4⟩ := b64_inv hP r
    have hc := c.toNat_lt
    refine ⟨?_, fun b b' hb hb' => ?_, fun b b' hb hb' => ?_⟩
    · rw [encG, if_neg (by omega), List.cons_append, b64_step (by omega), if_neg (by omega)]
      show b64S (0 * 64 + (0 * 256 + c.toNat) / 2 ^ (0 + 2)) 6 (encG ((0 * 256 + c.toNat) % 2 ^ (0 + 2)) 2 r ++ P) = c :: r
      rw [i2 _ _ (by omega) (by omega)]
      rw [show (0 * 64 + (0 * 256 + c.toNat) / 2 ^ (0 + 2)) * 4 + (0 * 256 + c.toNat) % 2 ^ (0 + 2) = c.toNat by omega, UInt8.ofNat_toNat]
    · rw [encG, if_neg (by omega), List.cons_append, b64_step (by omega), if_pos (by omega)]
      show UInt8.ofNat ((b' * 64 + (b * 256 + c.toNat) / 2 ^ (2 + 2)) / 2 ^ (6 - 2)) :: b64S ((b' * 64 + (b * 256 + c.toNat) / 2 ^ (2 + 2)) % 2 ^ (6 - 2)) 4 (encG ((b * 256 + c.toNat) % 2 ^ (2 + 2)) 4 r ++ P) = _
      rw [i4 _ _ (by omega) (by omega)]
      rw [show (b' * 64 + (b * 256 + c.toNat) / 2 ^ (2 + 2)) / 2 ^ (6 - 2) = b' * 4 + b by omega]
      rw [show (b' * 64 + (b * 256 + c.toNat) / 2 ^ (2 + 2)) % 2 ^ (6 - 2) * 16 + (b * 256 + c.toNat) % 2 ^ (2 + 2) = c.toNat by omega, UInt8.ofNat_toNat]
    · rw [encG, if_pos rfl, List.cons_append, List.cons_append, b64_step (by omega), if_pos (by omega), b64_step (by omega), if_pos (by omega)]
      rw [show (b' * 64 + (b * 256 + c.toNat) / 64) / 2 ^ (4 - 2) = b' * 16 + b by omega]
      rw [show ((b' * 64 + (b * 256 + c.toNat) / 64) % 2 ^ (4 - 2) * 64 + (b * 256 + c.toNat) % 64) / 2 ^ (4 - 2 - 2) = c.toNat by rw [Nat.pow_zero]; omega]
      rw [show ((b' * 64 + (b * 256 + c.toNat) / 64) % 2 ^ (4 - 2) * 64 + (b * 256 + c.toNat) % 64) % 2 ^ (4 - 2 - 2) = 0 by rw [Nat.pow_zero]; omega]
      rw [show 4 - 2 - 2 = 0 from rfl, i0, UInt8.ofNat_toNat]
theorem padS_form (n : Nat) : padS n = [] ∨ ∃ t, padS n = 61 :: t := by
  unfold padS
  split
  · exact .inl rfl
  · split
    · exact .inr ⟨_, rfl⟩
    · exact .inr ⟨_, rfl⟩
theorem b64_inverts (s : List UInt8) : b64S 0 0 (enc64 s) = s := (b64_inv (padS_form _) s).1
theorem b64_lines : ∀ (l : List UInt8) (b n : Nat), b64S b n (l.flatMap fun c => [c, 13, 10]) = b64S b n l
  | [], b, n => rfl
  | c :: l, b, n => by
    have h13 : ∀ b n r, b64S b n (13 :: 10 :: r) = b64S b n r := fun b n r => by
      rw [b64S, if_neg (by decide), if_pos (by decide), b64S, if_neg (by decide), if_pos (by decide)]
    rw [List.flatMap_cons, List.cons_append, b64S]
    conv => rhs; rw [b64S]
    simp only [List.cons_append, List.nil_append, h13, b64_lines l]

theorem digS_HL {n : Nat} (h : n < 16) : digS (HL.getD n 0) = n := by
  have : ∀ n, n < 16 → digS (HL.getD n 0) = (n : Int) := by decide +kernel
  exact this n h
theorem digS_HU {n : Nat} (h : n < 16) : digS (HU.getD n 0) = n := by
  have : ∀ n, n < 16 → digS (HU.getD n 0) = (n : Int) := by decide +kernel
  exact this n h
theorem two_digits (c : UInt8) : UInt8.ofNat (16 * ((c.toNat / 16 : Nat) : Int) + ((c.toNat % 16 : Nat) : Int)).toNat = c := by
  rw [show (16 * ((c.toNat / 16 : Nat) : Int) + ((c.toNat % 16 : Nat) : Int)).toNat = c.toNat by omega, UInt8.ofNat_toNat]
theorem hex_inverts : ∀ s : List UInt8, hexS (-1) (s.flatMap encH) = s
  | [] => rfl
  | c :: s => by
    have hc := c.toNat_lt
    have h1 := digS_HL (n := c.toNat / 16) (by omega)
    have h2 := digS_HL (n := c.toNat % 16) (by omega)
    rw [List.flatMap_cons]
    show hexS (-1) (HL.getD (c.toNat / 16) 0 :: HL.getD (c.toNat % 16) 0 :: s.flatMap encH) = _
    rw [hexS, h1, if_neg (by omega), if_pos (by omega), hexS, h2, if_neg (by omega), if_neg (by omega), hex_inverts s, two_digits]
theorem pct_inverts : ∀ s : List UInt8, pctS (s.flatMap encP) = s
  | [] => rfl
  | c :: s => by
    have hc := c.toNat_lt
    have ih := pct_inverts s
    rw [List.flatMap_cons]
    by_cases hp : plainP c
    · rw [show encP c = [c] by unfold encP; rw [if_pos hp]]
      have h37 : c ≠ 37 := fun e => by
        subst e
        revert hp
        decide
      show pctS (c :: s.flatMap encP) = _
      generalize s.flatMap encP = r at ih
      rw [← ih]
      match r with
      | [] => rfl
      | [a] => rfl
      | a :: b :: r => rw [pctS, if_neg (fun h => h37 h.1)]
    · rw [show encP c = [37, HU.getD (c.toNat / 16) 0, HU.getD (c.toNat % 16) 0] by unfold encP; rw [if_neg hp]]
      show pctS (37 :: HU.getD (c.toNat / 16) 0 :: HU.getD (c.toNat % 16) 0 :: s.flatMap encP) = _
      have h1 := digS_HU (n := c.toNat / 16) (by omega)
      have h2 := digS_HU (n := c.toNat % 16) (by omega)
      rw [pctS, h1, h2, if_pos ⟨rfl, by omega, by omega⟩, ih, two_digits]

end Go.Proofs.YtbphaelhhfkdiaaDoor
