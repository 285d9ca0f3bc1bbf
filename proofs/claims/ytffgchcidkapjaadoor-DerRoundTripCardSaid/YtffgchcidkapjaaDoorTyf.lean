/- Decoding inverts encoding, and encodings are canonical. -/
import Derived.Test.YtffgchcidkapjaaDoorTye
set_option linter.unusedVariables false
set_option linter.unusedSimpArgs false
set_option linter.unusedSectionVars false
set_option maxRecDepth 20000
namespace Go.Proofs.YtffgchcidkapjaaDoor
open Go.GAM Go.RowKit

theorem numS_1 (a : UInt8) : numS [a] = a.toNat := by simp [numS]
theorem numS_2 (a b : UInt8) : numS [a, b] = a.toNat * 256 + b.toNat := by simp [numS]
theorem numS_3 (a b c : UInt8) : numS [a, b, c] = (a.toNat * 256 + b.toNat) * 256 + c.toNat := by simp [numS]
theorem toNat_of {n : Nat} (h : n < 256) : (UInt8.ofNat n).toNat = n := by rw [UInt8.toNat_ofNat']; omega

theorem lenS_lenB {n : Nat} (h : n < 65536) (r : List UInt8) : lenS (lenB n ++ r) = .ok (n, r) := by
  unfold lenB
  split
  · rename_i h1
    rw [List.singleton_append, lenS, toNat_of (by omega), if_pos h1]
  · split
    · rename_i h1 h2
      show lenS (129 :: UInt8.ofNat n :: r) = _
      rw [lenS, if_neg (by decide), if_neg (by decide), if_neg (by show ¬ (r.length + 1) < 1; omega)]
      have e : (UInt8.ofNat n :: r).take ((129 : UInt8).toNat - 128) = [UInt8.ofNat n] := rfl
      rw [e, numS_1, toNat_of (by omega), if_neg (by
        rw [show 8 * ((129 : UInt8).toNat - 128 - 1) = 0 from rfl, Nat.pow_zero]; omega)]
      rfl
    · rename_i h1 h2
      show lenS (130 :: UInt8.ofNat (n / 256) :: UInt8.ofNat n :: r) = _
      rw [lenS, if_neg (by decide), if_neg (by decide), if_neg (by show ¬ (r.length + 1 + 1) < 2; omega)]
      have e : (UInt8.ofNat (n / 256) :: UInt8.ofNat n :: r).take ((130 : UInt8).toNat - 128) = [UInt8.ofNat (n / 256), UInt8.ofNat n] := rfl
      have e2 : (UInt8.ofNat (n / 256)).toNat * 256 + (UInt8.ofNat n).toNat = n := by
        rw [UInt8.toNat_ofNat', UInt8.toNat_ofNat']; omega
      rw [e, numS_2, e2, if_neg (by
        rw [show 8 * ((130 : UInt8).toNat - 128 - 1) = 8 from rfl]; omega)]
      rfl

theorem lenS_inv {s r : List UInt8} {n : Nat} (h : lenS s = .ok (n, r)) (hn : n < 65536) : s = lenB n ++ r := by
  cases s with
  | nil => cases h
  | cons c s =>
    have hc := c.toNat_lt
    rw [lenS] at h
    split at h
    · rename_i h1
      cases h
      unfold lenB
      rw [if_pos h1, UInt8.ofNat_toNat]; rfl
    · rename_i h1
      split at h
      · cases h
      · rename_i h2
        split at h
        · cases h
        · rename_i h3
          split at h
          · cases h
          · rename_i h4
            cases h
            have hk : c.toNat - 128 = 1 ∨ c.toNat - 128 = 2 ∨ c.toNat - 128 = 3 := by omega
            rcases hk with hk | hk | hk
            · rw [hk] at h3 h4 hn ⊢
              obtain ⟨a, s', rfl⟩ : ∃ a s', s = a :: s' := by
                cases s with
                | nil => simp at h3
                | cons a s' => exact ⟨a, s', rfl⟩
              have e : (a :: s').take 1 = [a] := rfl
              rw [e, numS_1] at h4 hn ⊢
              have ha := a.toNat_lt
              have hc2 : c = 129 := UInt8.toNat_inj.1 (by show c.toNat = 129; omega)
              unfold lenB
              rw [if_neg (by omega), if_pos (by omega), UInt8.ofNat_toNat, hc2]; rfl
            · rw [hk] at h3 h4 hn ⊢
              obtain ⟨a, b, s', rfl⟩ : ∃ a b s', s = a :: b :: s' := by
                match s, h3 with
                | [], h3 => simp at h3
                | [a], h3 => simp at h3
                | a :: b :: s', _ => exact ⟨a, b, s', rfl⟩
              have e : (a :: b :: s').take 2 = [a, b] := rfl
              rw [e, numS_2] at h4 hn ⊢
              have ha := a.toNat_lt
              have hb := b.toNat_lt
              have hc2 : c = 130 := UInt8.toNat_inj.1 (by show c.toNat = 130; omega)
              rw [show 8 * (2 - 1) = 8 from rfl] at h4
              have e1 : UInt8.ofNat ((a.toNat * 256 + b.toNat) / 256) = a := by
                rw [show (a.toNat * 256 + b.toNat) / 256 = a.toNat by omega, UInt8.ofNat_toNat]
              have e2 : UInt8.ofNat (a.toNat * 256 + b.toNat) = b := UInt8.toNat_inj.1 (by rw [UInt8.toNat_ofNat']; omega)
              unfold lenB
              rw [if_neg (by omega), if_neg (by omega), e1, e2, hc2]; rfl
            · exfalso
              rw [hk] at h3 h4 hn
              rw [show 8 * (3 - 1) = 16 from rfl] at h4
              omega

theorem hdB_nat {c t : Int} {m : Bool} (hc : 0 ≤ c ∧ c ≤ 3) (ht : 0 ≤ t ∧ t ≤ 30) : (hdB c t m).toNat = c.toNat * 64 + t.toNat + if m = true then 32 else 0 := by
  unfold hdB
  rw [toNat_of]
  split <;> omega

theorem dec_enc : ∀ m,
    (∀ (d : Der) (lvl n f : Nat) (rest : List UInt8), d.sz ≤ m → 2 * (bytesS d).length + 1 ≤ f → (bytesS d).length ≤ 65535 → (chkV lvl n d).1 = 0 → decV f lvl n (bytesS d ++ rest) = .ok (d, rest, (chkV lvl n d).2)) ∧
    (∀ (ks : List Der) (lvl n f : Nat), szs ks ≤ m → 2 * (bytesK ks).length + 2 ≤ f → (bytesK ks).length ≤ 65535 → (chkK (lvl + 1) n ks).1 = 0 → decK f lvl n (bytesK ks) = .ok (ks, (chkK (lvl + 1) n ks).2)) := by
  intro m
  induction m with
  | zero =>
    refine ⟨fun d lvl n f rest hd => absurd hd (by have := szs_pos d; omega), fun ks lvl n f hk hf _ _ => ?_⟩
    cases ks with
    | nil =>
      obtain ⟨f, rfl⟩ : ∃ g, f = g + 1 := ⟨f - 1, by omega⟩
      unfold decK chkK bytesK; rfl
    | cons k r => have := szs_pos k; unfold szs at hk; omega
  | succ m ih =>
    have hV : ∀ (d : Der) (lvl n f : Nat) (rest : List UInt8), d.sz ≤ m + 1 → 2 * (bytesS d).length + 1 ≤ f → (bytesS d).length ≤ 65535 → (chkV lvl n d).1 = 0 → decV f lvl n (bytesS d ++ rest) = .ok (d, rest, (chkV lvl n d).2) := by
      intro d lvl n f rest hd hf hl hc
      obtain ⟨c, t, mm, s, ks⟩ := d
      obtain ⟨f, rfl⟩ : ∃ g, f = g + 1 := ⟨f - 1, by omega⟩
      unfold Der.sz at hd
      unfold chkV at hc ⊢
      split at hc
      · cases hc
      rename_i c1
      split at hc
      · cases hc
      rename_i c2
      split at hc
      · cases hc
      rename_i c3
      split at hc
      · cases hc
      rename_i c4
      rw [if_neg c1, if_neg c2, if_neg c3, if_neg c4]
      have hh := hdB_nat (c := c) (t := t) (m := mm) (by omega) (by omega)
      unfold bytesS at hf hl ⊢
      generalize hct : s ++ bytesK ks = content at *
      simp only [List.cons_append, List.length_cons, List.length_append] at hf hl
      have hcl : content.length < 65536 := by omega
      rw [List.cons_append, List.cons_append, List.append_assoc]
      unfold decV
      simp only
      have e32 : (hdB c t mm).toNat % 32 = t.toNat := by rw [hh]; split <;> omega
      have e64 : (hdB c t mm).toNat / 64 = c.toNat := by rw [hh]; split <;> omega
      rw [if_neg (by rw [e32]; omega), if_neg c3, if_neg c4, lenS_lenB hcl]
      simp only
      rw [if_neg (by rw [List.length_append]; omega), List.take_left' rfl, List.drop_left' rfl, e32, e64, Int.toNat_of_nonneg (by omega), Int.toNat_of_nonneg (by omega)]
      cases mm with
      | false =>
        have hks : ks = [] := Classical.byContradiction fun h => c2 (.inr ⟨rfl, h⟩)
        subst hks
        rw [if_pos (by rw [hh]; simp; omega)]
        have : content = s := by rw [← hct]; simp [bytesK]
        rw [this]
        unfold chkK; rfl
      | true =>
        have hs : s = [] := Classical.byContradiction fun h => c2 (.inl ⟨rfl, h⟩)
        subst hs
        rw [if_neg (by rw [hh]; simp; omega)]
        have : content = bytesK ks := by rw [← hct]; rfl
        rw [this] at hf hcl ⊢
        rw [ih.2 ks lvl (n + 1) f (by omega) (by omega) (by omega) hc]
    refine ⟨hV, fun ks => ?_⟩
    induction ks with
    | nil =>
      intro lvl n f _ hf _ _
      obtain ⟨f, rfl⟩ : ∃ g, f = g + 1 := ⟨f - 1, by omega⟩
      unfold decK chkK bytesK; rfl
    | cons k r ihr =>
      intro lvl n f hk hf hl hc
      obtain ⟨f, rfl⟩ : ∃ g, f = g + 1 := ⟨f - 1, by omega⟩
      unfold szs at hk
      have hbk : bytesK (k :: r) = bytesS k ++ bytesK r := by rw [bytesK]
      rw [hbk, List.length_append] at hf hl
      rw [hbk]
      rw [chk_step] at hc ⊢
      split at hc
      · rename_i h1; exact absurd hc h1
      rename_i h1
      rw [if_neg h1]
      have h1 : (chkV (lvl + 1) n k).1 = 0 := by simpa using h1
      have hv := hV k (lvl + 1) n f (bytesK r) (by omega) (by omega) (by omega) h1
      obtain ⟨x, b, hb⟩ : ∃ x b, bytesS k = x :: b := by
        obtain ⟨c, t, mm, s, ks⟩ := k
        unfold bytesS
        exact ⟨_, _, rfl⟩
      have hlen : 0 < (bytesS k).length := by rw [hb]; simp
      rw [hb] at hv ⊢
      unfold decK
      simp only [List.cons_append] at hv ⊢
      rw [hv]
      simp only
      rw [ihr lvl _ f (by omega) (by omega) (by omega) hc]

theorem enc_dec : ∀ f,
    (∀ (lvl n : Nat) (s : List UInt8) (d : Der) (r : List UInt8) (n' : Nat), s.length ≤ 65535 → decV f lvl n s = .ok (d, r, n') → s = bytesS d ++ r ∧ chkV lvl n d = (0, n')) ∧
    (∀ (lvl n : Nat) (s : List UInt8) (ks : List Der) (n' : Nat), s.length ≤ 65535 → decK f lvl n s = .ok (ks, n') → s = bytesK ks ∧ chkK (lvl + 1) n ks = (0, n')) := by
  intro f
  induction f with
  | zero =>
    refine ⟨fun lvl n s d r n' _ h => ?_, fun lvl n s ks n' _ h => ?_⟩
    · unfold decV at h; cases h
    · unfold decK at h; cases h
  | succ f ih =>
    refine ⟨fun lvl n s d r n' hs h => ?_, fun lvl n s ks n' hs h => ?_⟩
    · unfold decV at h
      cases s with
      | nil => cases h
      | cons c s =>
        have hc := c.toNat_lt
        simp only [List.length_cons] at hs
        simp only at h
        split at h
        · cases h
        rename_i e31
        split at h
        · cases h
        rename_i e24
        split at h
        · cases h
        rename_i e256
        split at h
        · cases h
        · rename_i k t hl
          have hsh := lenS_short hl
          split at h
          · cases h
          · rename_i hk
            have hinv := lenS_inv hl (by omega)
            have htk : (t.take k).length = k := by rw [List.length_take]; omega
            have hhd : ∀ mm : Bool, (mm = true ↔ c.toNat / 32 % 2 ≠ 0) → hdB (c.toNat / 64 : Nat) (c.toNat % 32 : Nat) mm = c := by
              intro mm hm
              unfold hdB
              rw [Int.toNat_natCast, Int.toNat_natCast]
              apply UInt8.toNat_inj.1
              rw [UInt8.toNat_ofNat']
              cases mm with
              | true => have := hm.1 rfl; simp; omega
              | false =>
                have : ¬ c.toNat / 32 % 2 ≠ 0 := fun hh => by have := hm.2 hh; cases this
                simp; omega
            split at h
            · rename_i hm
              cases h
              refine ⟨?_, ?_⟩
              · unfold bytesS
                rw [hhd false (by simp [hm]), bytesK, List.append_nil, htk, List.cons_append, List.cons_append, List.append_assoc, List.take_append_drop, ← hinv]
              · unfold chkV
                rw [if_neg (by omega), if_neg (by simp), if_neg e24, if_neg e256]
                unfold chkK; rfl
            · rename_i hm
              split at h
              · cases h
              · rename_i ks n2 hd
                cases h
                obtain ⟨g1, g2⟩ := ih.2 lvl (n + 1) (t.take k) ks n' (by omega) hd
                refine ⟨?_, ?_⟩
                · unfold bytesS
                  rw [hhd true (by simp [hm]), List.nil_append, ← g1, htk, List.cons_append, List.cons_append, List.append_assoc, List.take_append_drop, ← hinv]
                · unfold chkV
                  rw [if_neg (by omega), if_neg (by simp), if_neg e24, if_neg e256, g2]
    · unfold decK at h
      cases s with
      | nil => cases h; unfold bytesK chkK; exact ⟨rfl, rfl⟩
      | cons c s =>
        simp only at h
        split at h
        · cases h
        · rename_i d t n2 hv
          have hsh := (dec_short f).1 _ _ _ _ _ _ hv
          obtain ⟨g1, g2⟩ := ih.1 (lvl + 1) n (c :: s) d t n2 hs hv
          split at h
          · cases h
          · rename_i ks2 n3 hk
            cases h
            obtain ⟨g3, g4⟩ := ih.2 lvl n2 t ks2 n' (by omega) hk
            refine ⟨?_, ?_⟩
            · rw [g1, g3, bytesK]
            · rw [chk_step, g2, if_neg (by simp), g4]

/-- What is encoded is decoded. -/
theorem dec_of_enc {d : Der} {t : List UInt8} (h : encS d = .ok t) : t = bytesS d ∧ t.length ≤ 65535 ∧ decS t = .ok d ∧ 2 ≤ t.length ∧ (∀ x, x.length + t.length ≤ 65535 → x ≠ [] → decS (t ++ x) = .error 2) := by
  unfold encS at h
  split at h
  · cases h
  rename_i h1
  split at h
  · cases h
  rename_i h2
  cases h
  have h1 : (chkV 1 0 d).1 = 0 := by simpa using h1
  have key := fun f rest hf => (dec_enc d.sz).1 d 1 0 f rest (Nat.le_refl _) hf (by omega) h1
  refine ⟨rfl, by omega, ?_, ?_, ?_⟩
  · unfold decS
    rw [if_neg h2]
    have := key (2 * (bytesS d).length + 1) [] (Nat.le_refl _)
    rw [List.append_nil] at this
    rw [this]; rfl
  · obtain ⟨c, t, mm, s, ks⟩ := d
    unfold bytesS
    have : 1 ≤ (lenB (s ++ bytesK ks).length).length := by unfold lenB; split <;> (try split) <;> simp
    simp only [List.length_cons, List.length_append] at *
    omega
  · intro x hx hne
    unfold decS
    rw [if_neg (by rw [List.length_append]; omega), key _ x (by rw [List.length_append]; omega)]
    simp only
    rw [if_neg hne]
/-- What is decoded is the encoding of its value. -/
theorem enc_of_dec {s : List UInt8} {y : Der} (h : decS s = .ok y) : encS y = .ok s := by
  unfold decS at h
  split at h
  · cases h
  rename_i hl
  split at h
  · cases h
  · rename_i d r n hv
    split at h
    · rename_i hr
      cases h
      subst hr
      obtain ⟨g1, g2⟩ := (enc_dec _).1 _ _ _ _ _ _ (by omega) hv
      rw [List.append_nil] at g1
      unfold encS
      rw [g2, if_neg (by simp), ← g1, if_neg hl]
    · cases h
/-- A byte less can't be decoded. -/
theorem dec_less {d : Der} {t : List UInt8} (h : encS d = .ok t) : ∃ e, decS t.dropLast = .error e := by
  obtain ⟨h1, h2, h3, h4, h5⟩ := dec_of_enc h
  cases hd : decS t.dropLast with
  | error e => exact ⟨e, rfl⟩
  | ok y =>
    exfalso
    obtain ⟨g1, g2, g3, g4, g5⟩ := dec_of_enc (enc_of_dec hd)
    have hne : t ≠ [] := fun h => by rw [h] at h4; simp at h4
    have := g5 [t.getLast hne] (by rw [List.length_dropLast]; simp; omega) (by simp)
    rw [List.dropLast_concat_getLast hne, h3] at this
    cases this
theorem decS_err {s : List UInt8} {e : Int} (h : decS s = .error e) : e ≠ 0 := by
  unfold decS at h
  split at h
  · cases h; decide
  split at h
  · rename_i hv; cases h; exact (dec_err _).1 _ _ _ _ (Nat.le_refl _) hv
  · split at h
    · cases h
    · cases h; decide

theorem dsum_bytes : ∀ m, (∀ d : Der, d.sz ≤ m → dsum d ≤ 5 * (bytesS d).length) ∧ ∀ ks : List Der, szs ks ≤ m → dsums ks ≤ 5 * (bytesK ks).length := by
  intro m
  induction m with
  | zero =>
    refine ⟨fun d hd => absurd hd (by have := szs_pos d; omega), fun ks hk => ?_⟩
    cases ks with
    | nil => simp [dsums]
    | cons k r => have := szs_pos k; unfold szs at hk; omega
  | succ m ih =>
    have hV : ∀ d : Der, d.sz ≤ m + 1 → dsum d ≤ 5 * (bytesS d).length := by
      intro d hd
      obtain ⟨c, t, mm, s, ks⟩ := d
      unfold Der.sz at hd
      have := ih.2 ks (by omega)
      have : 1 ≤ (lenB (s ++ bytesK ks).length).length := by unfold lenB; split <;> (try split) <;> simp
      unfold dsum bytesS
      simp only [List.length_cons, List.length_append] at *
      omega
    refine ⟨hV, fun ks => ?_⟩
    induction ks with
    | nil => intro _; simp [dsums]
    | cons k r ihr =>
      intro hk
      unfold szs at hk
      have := hV k (by omega)
      have := ihr (by omega)
      unfold dsums bytesK
      rw [List.length_append]; omega
theorem dec_dsum {s : List UInt8} {y : Der} (h : decS s = .ok y) : dsum y ≤ 5 * s.length ∧ y.sz ≤ 5 * s.length := by
  obtain ⟨g1, _⟩ := dec_of_enc (enc_of_dec h)
  have h1 := (dsum_bytes y.sz).1 y (Nat.le_refl _)
  have h2 := (sz_dsum y.sz).1 y (Nat.le_refl _)
  rw [← g1] at h1
  omega

end Go.Proofs.YtffgchcidkapjaaDoor
