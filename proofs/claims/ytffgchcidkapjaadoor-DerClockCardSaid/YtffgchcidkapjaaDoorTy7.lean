/- Writing values; Encode. -/
import Derived.Test.YtffgchcidkapjaaDoorTy6
set_option linter.unusedVariables false
set_option linter.unusedSimpArgs false
set_option linter.unusedSectionVars false
set_option maxRecDepth 20000
namespace Go.Proofs.YtffgchcidkapjaaDoor
open Go.GAM Go.RowKit

mutual
def wfV : Der → Prop
  | .mk c t m s ks => (0 ≤ c ∧ c ≤ 3 ∧ 0 ≤ t ∧ t ≤ 30) ∧ (m = true → s = []) ∧ (m = false → ks = []) ∧ wfK ks
def wfK : List Der → Prop
  | [] => True
  | k :: r => wfV k ∧ wfK r
end
mutual
def dsum : Der → Nat
  | .mk _ _ _ s ks => s.length + 10 + dsums ks
def dsums : List Der → Nat
  | [] => 0
  | k :: r => dsum k + dsums r
end
def lenB (n : Nat) : List UInt8 := if n < 128 then [UInt8.ofNat n] else if n < 256 then [129, UInt8.ofNat n] else [130, UInt8.ofNat (n / 256), UInt8.ofNat n]
def hdB (c t : Int) (m : Bool) : UInt8 := UInt8.ofNat (c.toNat * 64 + t.toNat + if m = true then 32 else 0)
mutual
def bytesS : Der → List UInt8
  | .mk c t m s ks => hdB c t m :: lenB (s ++ bytesK ks).length ++ (s ++ bytesK ks)
def bytesK : List Der → List UInt8
  | [] => []
  | k :: r => bytesS k ++ bytesK r
end
def encS (d : Der) : Except Int (List UInt8) :=
  if (chkV 1 0 d).1 ≠ 0 then .error (chkV 1 0 d).1 else if 65535 < (bytesS d).length then .error 3 else .ok (bytesS d)

theorem lenB_len (n : Nat) : (lenB n).length ≤ 3 := by unfold lenB; split <;> (try split) <;> simp
theorem bytes_n : ∀ m, (∀ d : Der, d.sz ≤ m → (bytesS d).length ≤ dsum d) ∧ ∀ ks : List Der, szs ks ≤ m → (bytesK ks).length ≤ dsums ks := by
  intro m
  induction m with
  | zero =>
    refine ⟨fun d hd => absurd hd (by have := szs_pos d; omega), fun ks hk => ?_⟩
    cases ks with
    | nil => simp [bytesK]
    | cons k r => have := szs_pos k; unfold szs at hk; omega
  | succ m ih =>
    have hV : ∀ d : Der, d.sz ≤ m + 1 → (bytesS d).length ≤ dsum d := by
      intro d hd
      obtain ⟨c, t, mm, s, ks⟩ := d
      unfold Der.sz at hd
      have := ih.2 ks (by omega)
      have := lenB_len (s ++ bytesK ks).length
      unfold bytesS dsum
      simp only [List.length_cons, List.length_append] at *
      omega
    refine ⟨hV, fun ks => ?_⟩
    induction ks with
    | nil => intro _; simp [bytesK]
    | cons k r ihr =>
      intro hk
      unfold szs at hk
      have := hV k (by omega)
      have := ihr (by omega)
      unfold bytesK dsums
      rw [List.length_append]; omega
theorem bytes_len (d : Der) : (bytesS d).length ≤ dsum d := (bytes_n d.sz).1 d (Nat.le_refl _)
theorem bytesK_len (ks : List Der) : (bytesK ks).length ≤ dsums ks := (bytes_n (szs ks)).2 ks (Nat.le_refl _)
theorem bytesK_app : ∀ (a b : List Der), bytesK (a ++ b) = bytesK a ++ bytesK b
  | [], b => by simp [bytesK]
  | k :: a, b => by simp [bytesK, bytesK_app a b]
theorem dsums_app : ∀ (a b : List Der), dsums (a ++ b) = dsums a + dsums b
  | [], b => by simp [dsums]
  | k :: a, b => by simp [dsums, dsums_app a b]; omega
theorem dsums_take (ks : List Der) (i : Nat) : dsums (ks.take i) ≤ dsums ks := by
  have := dsums_app (ks.take i) (ks.drop i)
  rw [List.take_append_drop] at this; omega
theorem dsums_mem : ∀ {ks : List Der} {k : Der}, k ∈ ks → dsum k ≤ dsums ks
  | [], k, h => by cases h
  | a :: r, k, h => by
    unfold dsums
    rcases List.mem_cons.1 h with rfl | h
    · omega
    · have := dsums_mem h; omega
theorem wfK_mem : ∀ {ks : List Der} {k : Der}, wfK ks → k ∈ ks → wfV k
  | [], k, _, h => by cases h
  | a :: r, k, hw, h => by
    unfold wfK at hw
    rcases List.mem_cons.1 h with rfl | h
    · exact hw.1
    · exact wfK_mem hw.2 h

theorem chk_wf : ∀ m, (∀ (d : Der) (lvl n : Nat), d.sz ≤ m → (chkV lvl n d).1 = 0 → wfV d) ∧ (∀ (ks : List Der) (lvl n : Nat), szs ks ≤ m → (chkK lvl n ks).1 = 0 → wfK ks) := by
  intro m
  induction m with
  | zero =>
    refine ⟨fun d lvl n hd => absurd hd (by have := szs_pos d; omega), fun ks lvl n hk _ => ?_⟩
    cases ks with
    | nil => unfold wfK; trivial
    | cons k r => have := szs_pos k; unfold szs at hk; omega
  | succ m ih =>
    have hV : ∀ (d : Der) (lvl n : Nat), d.sz ≤ m + 1 → (chkV lvl n d).1 = 0 → wfV d := by
      intro d lvl n hd h
      obtain ⟨c, t, mm, s, ks⟩ := d
      unfold Der.sz at hd
      unfold chkV at h
      split at h
      · cases h
      rename_i c1
      split at h
      · cases h
      rename_i c2
      split at h
      · cases h
      split at h
      · cases h
      unfold wfV
      refine ⟨by omega, fun hm => ?_, fun hm => ?_, ih.2 ks _ _ (by omega) h⟩
      · exact Classical.byContradiction fun hs => c2 (.inl ⟨hm, hs⟩)
      · exact Classical.byContradiction fun hs => c2 (.inr ⟨hm, hs⟩)
    refine ⟨hV, fun ks => ?_⟩
    induction ks with
    | nil => intro lvl n _ _; unfold wfK; trivial
    | cons k r ihr =>
      intro lvl n hk h
      unfold szs at hk
      unfold chkK at h
      unfold wfK
      split at h
      · rename_i h1; exact absurd h h1
      · rename_i h1
        exact ⟨hV k lvl n (by omega) (by simpa using h1), ihr _ _ (by omega) h⟩

theorem hd_or {c t : Nat} (hc : c < 4) (ht : t < 31) : c * 64 ||| t = c * 64 + t ∧ (c * 64 + t) ||| 32 = c * 64 + t + 32 := by
  have : ∀ c, c < 4 → ∀ t, t < 31 → c * 64 ||| t = c * 64 + t ∧ (c * 64 + t) ||| 32 = c * 64 + t + 32 := by decide +kernel
  exact this c hc t ht

section
variable {h0 : AHeap} {Q : AV → AHeap → Prop}

/-! ### the program's -/

theorem write_p3 {acc l : List UInt8} {v : AV} {h : AHeap} (T : Tx h0 h v l) (hl : l.length + acc.length ≤ 1000000) (hq : Q (.s (l ++ acc)) h0) : G_der_write.p3 (kRet h0 Q) acc v h := by
  refine G_der_write.i3 ?_
  simp only [G_der_write.t3]
  exact T.str ⟨by omega, kRet_pure rfl T.upd.ext hq⟩
theorem write_p2 {acc : List UInt8} {x : Nat} {h : AHeap} (U : Upd (fun _ => False) h0 h) (hx : x < 256) (hl : acc.length < 65536) (hq : Q (.s (UInt8.ofNat x :: lenB acc.length ++ acc)) h0) : G_der_write.p2 (kRet h0 Q) acc x h := by
  refine G_der_write.i2 ?_
  simp only [G_der_write.t2, G_der_write.j3]
  rw [wrap_u8_nat x, Nat.mod_eq_of_lt hx, show ((x : Nat) : Int) = ((UInt8.ofNat x).toNat : Int) by rw [UInt8.toNat_ofNat']; omega]
  refine Tx.one U fun v h1 T U1 => ?_
  unfold lenB at hq
  by_cases h1 : acc.length < 128
  · rw [if_pos h1] at hq
    refine bif_t (by simp; omega) (withI_is (wrap_u8_nat _) ?_)
    rw [byte_mod]
    exact T.push (by simp) fun v' h' T' => write_p3 T' (by simp; omega) (by simpa using hq)
  rw [if_neg h1] at hq
  refine bif_f (by simp; omega) ?_
  by_cases h2 : acc.length < 256
  · rw [if_pos h2] at hq
    refine bif_t (by simp; omega) (withI_is (wrap_u8_nat _) ?_)
    rw [byte_mod]
    exact T.push2 (c := 129) (by simp) fun v' h' T' => write_p3 T' (by simp; omega) (by simpa using hq)
  rw [if_neg h2] at hq
  refine bif_f (by simp; omega) ?_
  have h3 : decide ((acc.length : Int) < 65536) = true := by
    rw [decide_eq_true_eq]; omega
  rw [h3, cond_true]
  refine st_shr (k := .i64) (b := 8) (by decide) (withI_is (wrap_u8_nat _) ?_)
  rw [wrap_u8_nat, byte_mod, byte_mod]
  exact T.push3 (c := 130) (by simp) fun v' h' T' => write_p3 T' (by simp; omega) (by simpa using hq)

theorem write_n : ∀ m, m ≤ 1000000 → ∀ (d : Der) (cs : List AV) (F : Nat → Prop) (h : AHeap) (Q : AV → AHeap → Prop), d.sz ≤ m → wfV d → dsum d ≤ 60000 → DV h F d cs → Q (.s (bytesS d)) h → C G_der_write.id [.ag cs] h Q := by
  intro m
  induction m with
  | zero => intro _ d cs F h Q hd; have := szs_pos d; omega
  | succ m ih =>
    intro hm d cs F h Q hd hw hs D hq
    cases D with
    | @mk c t mm s ks v rows Dk sv fv ov =>
    unfold Der.sz at hd
    have hkl := szs_len ks
    have hln := Dk.length
    unfold wfV at hw
    obtain ⟨⟨hc0, hc3, ht0, ht30⟩, hw1, hw2, hw3⟩ := hw
    unfold dsum at hs
    obtain ⟨cn, rfl⟩ : ∃ n : Nat, c = n := ⟨c.toNat, by omega⟩
    obtain ⟨tn, rfl⟩ : ∃ n : Nat, t = n := ⟨t.toNat, by omega⟩
    refine G_der_write.call ?_
    simp only [G_der_write.t, G_der_write.j0]
    refine st_box rfl fun h1 hl1 U1 B => st_fld (st_load B rfl rfl (st_asS (st_fld (st_load B rfl rfl ?_))))
    have S1 := sv.upd U1 fun _ _ _ h => h
    refine S1.len ?_
    rw [← hln]
    have hbl := bytesK_len ks
    have fin : ∀ hh, Upd (fun _ => False) h hh → RecAt hh h.length [.i .i64 (cn : Int), .i .i64 (tn : Int), .b mm, .s s, v] → G_der_write.p1 (kRet h Q) (.p (some ⟨h.length, 5, 0⟩)) (s ++ bytesK ks) hh := by
      intro hh U B
      refine G_der_write.i1 ?_
      simp only [G_der_write.t1, G_der_write.j2]
      obtain ⟨o1, o2⟩ := hd_or (c := cn) (t := tn) (by omega) (by omega)
      refine st_fld (st_load B rfl rfl (st_asI (st_shl (b := 6) (by omega) (by omega) ?_)))
      refine st_fld (st_load B rfl rfl (st_asI (withI_is (n := ((cn * 64 + tn : Nat) : Int)) ?_ ?_)))
      · rw [bits_or (by omega) (by omega), show cn * 2 ^ 6 = cn * 64 from rfl, o1]
      refine st_fld (st_load B rfl rfl (st_asB ?_))
      unfold bytesS hdB at hq
      rw [Int.toNat_natCast, Int.toNat_natCast] at hq
      have hcl : (s ++ bytesK ks).length < 65536 := by rw [List.length_append]; omega
      cases mm with
      | true =>
        refine bif_t rfl ?_
        have := bits_or (x := cn * 64 + tn) (y := 32) (by omega) (by omega)
        rw [o2] at this
        rw [show bitsOp .or .i64 ((cn * 64 + tn : Nat) : Int) 32 = ((cn * 64 + tn + 32 : Nat) : Int) from this]
        exact write_p2 U (by omega) hcl hq
      | false =>
        exact bif_f rfl (write_p2 U (by omega) hcl hq)
    have loop : ∀ (r : List Der) (i : Nat) (hh : AHeap), ks.drop i = r → i ≤ ks.length → Upd (fun _ => False) h hh → RecAt hh h.length [.i .i64 (cn : Int), .i .i64 (tn : Int), .b mm, .s s, v] → G_der_write.p0 (kRet h Q) (.p (some ⟨h.length, 5, 0⟩)) (s ++ bytesK (ks.take i)) v ks.length i hh := by
      intro r
      induction r with
      | nil =>
        intro i hh hr hi U B
        have hle := drop_end hr
        refine G_der_write.i0 ?_
        simp only [G_der_write.t0, G_der_write.j1]
        rw [List.take_of_length_le hle]
        exact bif_f (by simp; omega) (fin hh U B)
      | cons k r ihr =>
        intro i hh hr hi U B
        have hlt := drop_lt hr
        have hn' := drop_next hr
        have hki := at_of_drop hr
        have S2 := sv.upd U fun _ _ _ h => h
        obtain ⟨r1, g1, e1⟩ := (Dk.upd (F' := F) U fun i hi _ => ⟨fun h => h, hi⟩).get hki
        obtain ⟨id1, ver1, off1, cap1, b1, rfl, A1⟩ := S2.at (by omega)
        have q1 := rows_get rows i r1 Dk.len5 g1
        have hk0 := List.mem_of_getElem? hki
        have hsz := szs_mem hk0
        have hds := dsums_mem hk0
        have hbt := bytesK_len (ks.take i)
        have hdt := dsums_take ks i
        have hbk := bytes_len k
        refine G_der_write.i0 ?_
        simp only [G_der_write.t0, G_der_write.j0, G_der_write.j1]
        refine bif_t (by simp; omega) (st_idx A1 (by omega) (st_elemN A1 (by omega) q1 ?_))
        refine st_alloc fun g1 gl1 V1 RK => st_storeN RK rfl e1.len e1.cells fun g2 gl2 V2 RK => st_loadN RK e1.len.symm ?_
        have V12 : Upd (fun _ => False) hh g2 := (V1.mono (M' := fun i => i = hh.length) fun _ _ h => h.elim).trans V2 (fun _ _ h => h) |>.mono fun i hi he => by omega
        refine ih (by omega) k r1 F g2 _ (by omega) (wfK_mem hw3 hk0) (by omega) (e1.ext V12) (st_asS ⟨by rw [List.length_append]; omega, ?_⟩)
        have e : s ++ bytesK (ks.take i) ++ bytesS k = s ++ bytesK (ks.take (i + 1)) := by
          rw [take_snoc hki, bytesK_app, List.append_assoc]
          simp [bytesK]
        rw [e]
        have hbt2 := bytesK_len (ks.take (i + 1))
        have hdt2 := dsums_take ks (i + 1)
        refine bif_f (by rw [List.length_append]; simp; omega) (inc (by omega) ?_)
        exact ihr (i + 1) g2 hn' (by omega) (U.trans V12 fun _ _ h => h) (B.upd V12 fun h => h)
    have := loop ks 0 h1 rfl (by omega) U1 B
    rw [List.take_zero, bytesK, List.append_nil] at this
    exact this

/-! ### the reference's -/

theorem lengthR_c {n : Nat} {h : AHeap} (hn : n < 65536) (hq : Q (.s (lenB n)) h) : C G_ref33_length.id [.i .i64 (n : Int)] h Q := by
  refine G_ref33_length.call ?_
  simp only [G_ref33_length.t, G_ref33_length.j0]
  unfold lenB at hq
  have last : ∀ (v : AV) (l : List UInt8) (hh : AHeap), l.length ≤ 10 → Tx h hh v l → Q (.s (UInt8.ofNat (128 + l.length) :: l)) h → G_ref33_length.p0 (kRet h Q) v 0 hh := by
    intro v l hh hl T hq
    refine G_ref33_length.i0 ?_
    simp only [G_ref33_length.t0]
    refine bif_f rfl (T.arr.rd.len ?_)
    refine withI_is (n := ((128 + l.length : Nat) : Int)) (by rw [wrap_i64 (by omega) (by omega)]; omega) ?_
    rw [wrap_u8_nat, byte_mod]
    refine Tx.one T.upd fun v2 h2 T2 U2 => T2.str ((T.ext U2).str ⟨by simp; omega, kRet_pure rfl T2.upd.ext ?_⟩)
    simpa using hq
  have step : ∀ (v : AV) (l : List UInt8) (x : Nat) (hh : AHeap), 0 < x → x < 65536 → l.length ≤ 10 → Tx h hh v l → (∀ v' h', Tx h h' v' (UInt8.ofNat x :: l) → G_ref33_length.p0 (kRet h Q) v' ((x / 256 : Nat) : Int) h') → G_ref33_length.p0 (kRet h Q) v x hh := by
    intro v l x hh hx0 hx hl T hk
    refine G_ref33_length.i0 ?_
    simp only [G_ref33_length.t0, G_ref33_length.j0]
    refine bif_t (by simp; omega) ?_
    rw [wrap_u8_nat, byte_mod]
    refine Tx.one T.upd fun v2 h2 T2 U2 => ?_
    refine T2.app (T.ext U2).byt (by simp; omega) fun v3 h3 T3 _ => st_shr (k := .i64) (b := 8) (by decide) ?_
    exact hk v3 h3 (by simpa using T3)
  by_cases h1 : n < 128
  · rw [if_pos h1] at hq
    refine bif_t (by simp; omega) ?_
    rw [wrap_u8_nat, byte_mod]
    refine Tx.one (Upd.refl _ _) fun v2 h2 T2 U2 => T2.ret hq
  rw [if_neg h1] at hq
  refine bif_f (by simp; omega) ?_
  refine step _ [] n h (by omega) hn (by simp) (Tx.start h) fun v1 h1 T1 => ?_
  by_cases h2 : n < 256
  · rw [if_pos h2] at hq
    rw [show n / 256 = 0 by omega]
    exact last v1 _ h1 (by simp) T1 hq
  · rw [if_neg h2] at hq
    refine step _ _ (n / 256) h1 (by omega) (by omega) (by simp) T1 fun v2 h2 T2 => ?_
    rw [show n / 256 / 256 = 0 by omega]
    exact last v2 _ h2 (by simp) T2 hq

theorem bytes_p2 {l : List UInt8} {h : AHeap} (E : Ext h0 h) (hq : Q (.s l) h0) : G_ref33_bytes.p2 (kRet h0 Q) l h := by
  refine G_ref33_bytes.i2 ?_
  simp only [G_ref33_bytes.t2]
  exact kRet_pure rfl E hq
theorem bytes_p1 {acc : List UInt8} {x : Nat} {h : AHeap} (U : Upd (fun _ => False) h0 h) (hx : x < 256) (hl : acc.length < 65536) (hq : Q (.s (UInt8.ofNat x :: lenB acc.length ++ acc)) h0) : G_ref33_bytes.p1 (kRet h0 Q) x acc h := by
  have h3 := lenB_len acc.length
  refine G_ref33_bytes.i1 ?_
  simp only [G_ref33_bytes.t1, G_ref33_bytes.j2]
  rw [wrap_u8_nat x, Nat.mod_eq_of_lt hx, show ((x : Nat) : Int) = ((UInt8.ofNat x).toNat : Int) by rw [UInt8.toNat_ofNat']; omega]
  refine ⟨?_, ?_⟩
  · refine Tx.one U fun v h1 T U1 => T.str (lengthR_c hl (st_asS (T.str ⟨rfl, ⟨by simp; omega, ⟨by simp; omega, bytes_p2 T.upd.ext ?_⟩⟩⟩)))
    simpa using hq
  · refine lengthR_c hl (st_asS (Tx.one U fun v h1 T U1 => T.str ⟨by simp; omega, ⟨by simp; omega, bytes_p2 T.upd.ext ?_⟩⟩))
    simpa using hq

theorem Rbytes_n : ∀ m, m ≤ 1000000 → ∀ (d : Der) (cs : List AV) (F : Nat → Prop) (h : AHeap) (Q : AV → AHeap → Prop), d.sz ≤ m → wfV d → dsum d ≤ 60000 → DV h F d cs → Q (.s (bytesS d)) h → C G_ref33_bytes.id [.ag cs] h Q := by
  intro m
  induction m with
  | zero => intro _ d cs F h Q hd; have := szs_pos d; omega
  | succ m ih =>
    intro hm d cs F h Q hd hw hs D hq
    cases D with
    | @mk c t mm s ks v rows Dk sv fv ov =>
    unfold Der.sz at hd
    have hkl := szs_len ks
    have hln := Dk.length
    unfold wfV at hw
    obtain ⟨⟨hc0, hc3, ht0, ht30⟩, hw1, hw2, hw3⟩ := hw
    unfold dsum at hs
    obtain ⟨cn, rfl⟩ : ∃ n : Nat, c = n := ⟨c.toNat, by omega⟩
    obtain ⟨tn, rfl⟩ : ∃ n : Nat, t = n := ⟨t.toNat, by omega⟩
    have hbl := bytesK_len ks
    have hcl : (s ++ bytesK ks).length < 65536 := by rw [List.length_append]; omega
    unfold bytesS hdB at hq
    rw [Int.toNat_natCast, Int.toNat_natCast] at hq
    refine G_ref33_bytes.call ?_
    simp only [G_ref33_bytes.t, G_ref33_bytes.j0, G_ref33_bytes.j1]
    refine st_box rfl fun h1 hl1 U1 B => st_fld (st_load B rfl rfl (st_asI ?_))
    refine withI_is (n := ((64 * cn : Nat) : Int)) (by rw [wrap_i64 (by omega) (by omega)]; omega) (st_fld (st_load B rfl rfl (st_asI ?_)))
    refine withI_is (n := ((cn * 64 + tn : Nat) : Int)) (by rw [wrap_i64 (by omega) (by omega)]; omega) (st_fld (st_load B rfl rfl (st_asS (st_fld (st_load B rfl rfl (st_asB ?_))))))
    cases mm with
    | false =>
      have : ks = [] := hw2 rfl
      subst this
      refine bif_f rfl (bytes_p1 U1 (by omega) ?_ ?_)
      · simpa [bytesK] using hcl
      · simpa [bytesK] using hq
    | true =>
      refine bif_t rfl (withI_is (n := ((cn * 64 + tn + 32 : Nat) : Int)) (by rw [wrap_i64 (by omega) (by omega)]; omega) ?_)
      have loop : ∀ (r : List Der) (i : Nat), ks.drop i = r → i ≤ ks.length → G_ref33_bytes.p0 (kRet h Q) (.p (some ⟨h.length, 5, 0⟩)) ((cn * 64 + tn + 32 : Nat) : Int) (s ++ bytesK (ks.take i)) i h1 := by
        intro r
        induction r with
        | nil =>
          intro i hr hi
          have hle := drop_end hr
          have S1 := sv.upd U1 fun _ _ _ h => h
          refine G_ref33_bytes.i0 ?_
          simp only [G_ref33_bytes.t0, G_ref33_bytes.j1]
          rw [List.take_of_length_le hle]
          refine st_fld (st_load B rfl rfl (S1.len (bif_f (by simp; omega) ?_)))
          exact bytes_p1 U1 (by omega) hcl hq
        | cons k r ihr =>
          intro i hr hi
          have hlt := drop_lt hr
          have hn' := drop_next hr
          have hki := at_of_drop hr
          have S2 := sv.upd U1 fun _ _ _ h => h
          obtain ⟨r1, g1, e1⟩ := (Dk.upd (F' := F) U1 fun i hi _ => ⟨fun h => h, hi⟩).get hki
          obtain ⟨id1, ver1, off1, cap1, b1, rfl, A1⟩ := S2.at (by omega)
          have q1 := rows_get rows i r1 Dk.len5 g1
          have hk0 := List.mem_of_getElem? hki
          have hsz := szs_mem hk0
          have hds := dsums_mem hk0
          have hbt := bytesK_len (ks.take i)
          have hdt := dsums_take ks i
          have hbk := bytes_len k
          refine G_ref33_bytes.i0 ?_
          simp only [G_ref33_bytes.t0, G_ref33_bytes.j0]
          refine st_fld (st_load B rfl rfl (S2.len (bif_t (by simp; omega) ?_)))
          refine st_fld (st_load B rfl rfl (st_idx A1 (by omega) (st_elemN A1 (by omega) q1 ?_)))
          refine ih (by omega) k r1 F h1 _ (by omega) (wfK_mem hw3 hk0) (by omega) e1 (st_asS ⟨by rw [List.length_append]; omega, inc (by omega) ?_⟩)
          have e : s ++ bytesK (ks.take i) ++ bytesS k = s ++ bytesK (ks.take (i + 1)) := by
            rw [take_snoc hki, bytesK_app, List.append_assoc]
            simp [bytesK]
          rw [e]
          exact ihr (i + 1) hn' (by omega)
      have := loop ks 0 rfl (by omega)
      rw [List.take_zero, bytesK, List.append_nil] at this
      exact this

/-! ### Encode -/

def encR : Except Int (List UInt8) → AV
  | .error e => .tu [.s [], .i .i64 e]
  | .ok l => .tu [.s l, .i .i64 0]

theorem encode_c {d : Der} {cs : List AV} {F : Nat → Prop} {h : AHeap} {Q : AV → AHeap → Prop} (hsz : d.sz ≤ 100000) (hs : dsum d ≤ 60000) (D : DV h F d cs) (hF : ∀ i, F i → i < h.length) (hq : Q (encR (encS d)) h) : C G_der_Encode.id [.ag cs] h Q := by
  refine G_der_Encode.call ?_
  simp only [G_der_Encode.t]
  refine st_box rfl fun h1 hl1 U1 B => st_box rfl fun h2 hl2 U2 R => ?_
  have B : RecAt h1 h.length cs := B
  have B2 := B.upd U2 fun h => h
  have hp : (AV.ag cs).parts.length = 5 := D.len
  rw [hp]
  have D2 := (D.ext U1).ext U2
  unfold encS at hq
  refine st_loadN B2 D.len.symm (check_n d.sz (by omega) d cs F 1 0 h1.length h2 _ (Nat.le_refl _) (by omega) (by omega) R D2 (fun i hi => by have := hF i hi; omega) fun h3 U3 R3 => st_asI ?_)
  have E : Ext h h3 := ((((U1.mono (M' := fun i => h.length ≤ i) fun _ _ h => h.elim).trans U2 fun _ _ h => h.elim).trans U3 fun i hi he => by omega).mono (M' := fun i => False) fun i hi he => by omega).ext
  by_cases he : (chkV 1 0 d).1 ≠ 0
  · rw [if_pos he] at hq
    exact bif_t (by simp [he]) (kRet_pure rfl E hq)
  · rw [if_neg he] at hq
    have he0 : (chkV 1 0 d).1 = 0 := by simpa using he
    have hw := (chk_wf d.sz).1 d 1 0 (Nat.le_refl _) he0
    have D3 := D2.upd (F' := F) U3 fun i hi _ => ⟨by have := hF i hi; omega, hi⟩
    have B3 := B2.upd U3 (by omega)
    have hbl := bytes_len d
    refine bif_f (by simp [he0]) (st_loadN B3 D.len.symm (write_n d.sz (by omega) d cs F h3 _ (Nat.le_refl _) hw hs D3 (st_asS ?_)))
    rw [if_neg (by omega)] at hq
    exact bif_f (by simp; omega) (kRet_pure rfl E hq)
theorem Rencode_c {d : Der} {cs : List AV} {F : Nat → Prop} {h : AHeap} {Q : AV → AHeap → Prop} (hsz : d.sz ≤ 100000) (hs : dsum d ≤ 60000) (D : DV h F d cs) (hF : ∀ i, F i → i < h.length) (hq : Q (encR (encS d)) h) : C G_ref33_Encode.id [.ag cs] h Q := by
  refine G_ref33_Encode.call ?_
  simp only [G_ref33_Encode.t]
  refine st_box rfl fun h1 hl1 U1 B => st_box rfl fun h2 hl2 U2 R => ?_
  have B : RecAt h1 h.length cs := B
  have B2 := B.upd U2 fun h => h
  have hp : (AV.ag cs).parts.length = 5 := D.len
  rw [hp]
  have D2 := (D.ext U1).ext U2
  unfold encS at hq
  refine st_loadN B2 D.len.symm (Rcheck_n d.sz (by omega) d cs F 1 0 h1.length h2 _ (Nat.le_refl _) (by omega) (by omega) R D2 (fun i hi => by have := hF i hi; omega) fun h3 U3 R3 => st_asI ?_)
  have E : Ext h h3 := ((((U1.mono (M' := fun i => h.length ≤ i) fun _ _ h => h.elim).trans U2 fun _ _ h => h.elim).trans U3 fun i hi he => by omega).mono (M' := fun i => False) fun i hi he => by omega).ext
  by_cases he : (chkV 1 0 d).1 ≠ 0
  · rw [if_pos he] at hq
    exact bif_t (by simp [he]) (kRet_pure rfl E hq)
  · rw [if_neg he] at hq
    have he0 : (chkV 1 0 d).1 = 0 := by simpa using he
    have hw := (chk_wf d.sz).1 d 1 0 (Nat.le_refl _) he0
    have D3 := D2.upd (F' := F) U3 fun i hi _ => ⟨by have := hF i hi; omega, hi⟩
    have B3 := B2.upd U3 (by omega)
    have hbl := bytes_len d
    refine bif_f (by simp [he0]) (st_loadN B3 D.len.symm (Rbytes_n d.sz (by omega) d cs F h3 _ (Nat.le_refl _) hw hs D3 (st_asS ?_)))
    rw [if_neg (by omega)] at hq
    exact bif_f (by simp; omega) (kRet_pure rfl E hq)

end
end Go.Proofs.YtffgchcidkapjaaDoor
