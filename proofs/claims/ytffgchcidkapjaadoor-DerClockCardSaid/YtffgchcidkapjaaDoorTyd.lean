/- OidOf, the program's. -/
import Derived.Test.YtffgchcidkapjaaDoorTyc
set_option linter.unusedVariables false
set_option linter.unusedSimpArgs false
set_option linter.unusedSectionVars false
set_option maxRecDepth 20000
namespace Go.GAM
theorem RdAt.drop {sz : Nat} {h : AHeap} {id ver off : Nat} {b : ABlk} {cs : List AV} {len lo : Nat} {cap : Option Nat} {K : AV → Prop} (A : RdAt sz h id ver off b cs len) (hz : 0 < sz) (h1 : lo ≤ len) (hk : K (.sl (some ⟨id, ver, off + lo * sz⟩) (len - lo) (cap.map (· - lo)))) : pSliceSl sz (.sl (some ⟨id, ver, off⟩) len cap) (some (.i .i64 (lo : Int))) none none h K := by
  refine ⟨hz, fun h => by simp at h, by omega, by simpa using h1, b, A.blk, by have := A.flo; have := A.vle; omega, A.flo, A.siz, .inl (Nat.le_refl _), by simpa using hk⟩
theorem RdAt.dropRd {sz : Nat} {h : AHeap} {id ver off : Nat} {b : ABlk} {cs : List AV} {len lo : Nat} (A : RdAt sz h id ver off b cs len) (h1 : lo ≤ len) (cap : Option Nat) : Rd sz h (.sl (some ⟨id, ver, off + lo * sz⟩) (len - lo) cap) (cs.drop (lo * sz)) (len - lo) := by
  have e1 : lo * sz ≤ len * sz := Nat.mul_le_mul_right _ h1
  have e3 : (len - lo) * sz = len * sz - lo * sz := Nat.sub_mul _ _ _
  have e4 := A.end_
  refine .inr ⟨id, ver, off + lo * sz, cap, b, rfl, A.blk, A.siz, A.flo, A.vle, by omega, ?_⟩
  rw [← A.cel, List.drop_take, List.drop_drop, e3]
/-- An array of one element that is made. -/
theorem NewA.one {h0 h : AHeap} (U : Upd (fun _ => False) h0 h) {x : AV} {zeros : List AV} (hf : fillA zeros [(0, 1, x)] = some [x]) {K : AV → AHeap → Prop} (hk : ∀ v h', NewA 1 h0 h' v [x] 1 → Upd (fun _ => False) h h' → (∀ i, SlAt v i → h.length ≤ i) → K v h') : pBuildSl 1 1 zeros [(0, 1, x)] h K := by
  unfold pBuildSl
  rw [hf]
  refine ⟨rfl, hk _ _ ⟨U.trans (Upd.app _ _) fun _ _ h => h, .inr ⟨h.length, newBlk [x] 1 true, rfl, by simp, rfl, rfl, rfl, Nat.le_refl _, rfl, rfl⟩, fun i hi => ?_⟩ (Upd.app _ _) fun i hi => ?_⟩
  · cases hi; exact U.1
  · cases hi; exact Nat.le_refl _
end Go.GAM
namespace Go.Proofs.YtffgchcidkapjaaDoor
open Go.GAM Go.RowKit

def nat10 (l : List UInt8) : Nat := l.foldl (fun n c => n * 10 + (c.toNat - 48)) 0
theorem nat10_snoc (l : List UInt8) (c : UInt8) : nat10 (l ++ [c]) = nat10 l * 10 + (c.toNat - 48) := by simp [nat10]
theorem nat10_bd : ∀ n (l : List UInt8), l.length = n → l.all digB = true → nat10 l < 10 ^ n := by
  intro n
  induction n with
  | zero => intro l hl _; rw [List.eq_nil_of_length_eq_zero hl]; decide
  | succ n ih =>
    intro l hl ha
    have hne : l ≠ [] := fun h => by rw [h] at hl; simp at hl
    have e := List.dropLast_concat_getLast hne
    rw [← e, List.all_append, Bool.and_eq_true] at ha
    have h1 := ih l.dropLast (by rw [List.length_dropLast]; omega) ha.1
    have h2 := ha.2
    simp only [List.all_cons, List.all_nil, Bool.and_true] at h2
    have h2 := digB_bd h2
    rw [← e, nat10_snoc, Nat.pow_succ]
    omega
def lead0 (s : List UInt8) : Prop := s.getD 0 0 = 48 ∧ 1 < s.length
instance (s : List UInt8) : Decidable (lead0 s) := by unfold lead0; infer_instance
def decN (s : List UInt8) : Option Nat := if s ≠ [] ∧ s.length ≤ 9 ∧ ¬ lead0 s ∧ s.all digB = true ∧ nat10 s < 268435456 then some (nat10 s) else none

/-- The bytes of a number to the base 128: k that go on, then the last. -/
def arcK : Nat → Nat → List UInt8
  | 0, n => [UInt8.ofNat (n % 128)]
  | k + 1, n => UInt8.ofNat (n / 2 ^ (7 * (k + 1)) % 128 + 128) :: arcK k n
def arcN (n : Nat) : Nat := if n < 128 then 0 else if n < 16384 then 1 else if n < 2097152 then 2 else 3
def arcS (n : Nat) : List UInt8 := arcK (arcN n) n

def decAll : List (List UInt8) → Option (List Nat)
  | [] => some []
  | w :: r => match decN w with
    | none => none
    | some n => match decAll r with
      | none => none
      | some l => some (n :: l)
def oidL (l : List Nat) : Except Int (List UInt8) := match l with
  | a :: b :: r => if 2 < a ∨ (a < 2 ∧ 40 ≤ b) ∨ 268435456 ≤ 40 * a + b then .error 2 else .ok (((40 * a + b) :: r).flatMap arcS)
  | _ => .error 2
def oidOfS (s : List UInt8) : Except Int (List UInt8) :=
  if 256 < s.length then .error 3 else match decAll (splitS 46 s) with
    | none => .error 2
    | some l => oidL l

theorem decAll_cons (w : List UInt8) (r : List (List UInt8)) : decAll (w :: r) = match decN w with
    | none => none
    | some n => match decAll r with
      | none => none
      | some l => some (n :: l) := by rw [decAll]
theorem oidL_short {l : List Nat} (h : l.length < 2) : oidL l = .error 2 := by
  match l, h with
  | [], _ => rfl
  | [a], _ => rfl
theorem two_of {l : List Nat} (h : ¬ l.length < 2) : ∃ a b r, l = a :: b :: r := by
  match l, h with
  | [], h => simp at h
  | [a], h => simp at h
  | a :: b :: r, _ => exact ⟨a, b, r, rfl⟩
theorem decN_bd {s : List UInt8} {n : Nat} (h : decN s = some n) : n < 268435456 := by
  unfold decN at h
  split at h
  · rename_i hc; cases h; exact hc.2.2.2.2
  · cases h
theorem decAll_bd : ∀ {ws : List (List UInt8)} {l : List Nat}, decAll ws = some l → (∀ n ∈ l, n < 268435456) ∧ l.length = ws.length
  | [], l, h => by cases h; simp
  | w :: r, l, h => by
    unfold decAll at h
    split at h
    · cases h
    · rename_i n hn
      split at h
      · cases h
      · rename_i l' hl
        cases h
        have := decAll_bd hl
        refine ⟨fun m hm => ?_, by simp [this.2]⟩
        rcases List.mem_cons.1 hm with rfl | hm
        · exact decN_bd hn
        · exact this.1 m hm

section
variable {h0 : AHeap} {Q : AV → AHeap → Prop}

def NOut (h : AHeap) (Q : AV → AHeap → Prop) : Option Nat → Prop
  | some n => Q (.tu [.i .i64 (n : Int), .b true]) h
  | none => ∀ x, Q (.tu [.i .i64 x, .b false]) h

theorem number_c {s : List UInt8} {h : AHeap} (hq : NOut h Q (decN s)) : C G_der_number.id [.s s] h Q := by
  refine G_der_number.call ?_
  simp only [G_der_number.t, G_der_number.j0]
  have p0bad : decN s = none → G_der_number.p0 (kRet h Q) s true h := by
    intro hn
    rw [hn] at hq
    refine G_der_number.i0 ?_
    simp only [G_der_number.t0]
    exact bif_t rfl (.inl (hq 0))
  have p0ok : s ≠ [] → s.length ≤ 9 → ¬ lead0 s → G_der_number.p0 (kRet h Q) s false h := by
    intro hne hl h48
    have go : ∀ (r : List UInt8) (i : Nat), s.drop i = r → i ≤ s.length → (s.take i).all digB = true → G_der_number.p1 (kRet h Q) s (nat10 (s.take i) : Nat) s.length i h := by
      intro r
      induction r with
      | nil =>
        intro i hr hi ha
        have hle := drop_end hr
        rw [List.take_of_length_le hle] at ha ⊢
        have hb := nat10_bd s.length s rfl ha
        have hp : 10 ^ s.length ≤ 10 ^ 9 := Nat.pow_le_pow_right (by omega) hl
        refine G_der_number.i1 ?_
        simp only [G_der_number.t1]
        refine bif_f (by simp; omega) (.inl ?_)
        unfold decN at hq
        by_cases h28 : nat10 s < 268435456
        · rw [if_pos ⟨hne, hl, h48, ha, h28⟩] at hq
          rw [decide_eq_true (by omega)]; exact hq
        · rw [if_neg (fun hh => h28 hh.2.2.2.2)] at hq
          rw [decide_eq_false (by omega)]; exact hq _
      | cons c r ih =>
        intro i hr hi ha
        have hlt := drop_lt hr
        have hn := drop_next hr
        have hci := at_of_drop hr
        have hb := nat10_bd i (s.take i) (by rw [List.length_take]; omega) ha
        have hp : 10 ^ i ≤ 10 ^ 9 := Nat.pow_le_pow_right (by omega) (by omega)
        have p2 : ∀ b, b = !digB c → G_der_number.p2 (kRet h Q) s (nat10 (s.take i) : Nat) i s.length i b h := by
          intro b hb2
          refine G_der_number.i2 ?_
          simp only [G_der_number.t2, G_der_number.j1]
          cases hd : digB c with
          | false =>
            rw [hd] at hb2
            have : decN s = none := by
              unfold decN
              rw [if_neg (fun hh => ?_)]
              have h3 := hh.2.2.2.1
              rw [← List.take_append_drop i s, List.all_append, hr, List.all_cons, hd] at h3
              simp at h3
            rw [this] at hq
            exact bif_t hb2 (.inl (hq 0))
          | true =>
            rw [hd] at hb2
            have hdb := digB_bd hd
            refine bif_f hb2 ?_
            refine withI_is (n := ((nat10 (s.take i) * 10 : Nat) : Int)) (by rw [wrap_i64 (by omega) (by omega)]; omega) (st_at hr ?_)
            refine withI_is (n := ((c.toNat - 48 : Nat) : Int)) (by rw [wrap_u8 (by omega) (by omega)]; omega) ?_
            refine withI_is (n := ((nat10 (s.take (i + 1)) : Nat) : Int)) ?_ (inc (by omega) (ih (i + 1) hn (by omega) ?_))
            · rw [take_snoc hci, nat10_snoc, wrap_i64 (n := ((c.toNat - 48 : Nat) : Int)) (by omega) (by omega), wrap_i64 (by omega) (by omega)]; omega
            · rw [take_snoc hci, List.all_append, ha]; simp [hd]
        unfold digB at p2
        refine G_der_number.i1 ?_
        simp only [G_der_number.t1, G_der_number.j2]
        refine bif_t (by simp; omega) (st_at hr ?_)
        refine bif_both (fun e => p2 _ ?_) fun e => st_at hr (p2 _ ?_)
        · simp only [decide_eq_true_eq] at e
          rw [decide_eq_false (by omega : ¬ 48 ≤ c.toNat)]; rfl
        · simp only [decide_eq_false_iff_not] at e
          rw [decide_eq_true (by omega : 48 ≤ c.toNat), Bool.true_and, ← decide_not, decide_eq_decide]; omega
    refine G_der_number.i0 ?_
    simp only [G_der_number.t0, G_der_number.j1]
    exact bif_f rfl (go s 0 rfl (by omega) rfl)
  by_cases hne : s = []
  · exact bif_t (by simp [hne]) (p0bad (by unfold decN; rw [if_neg (fun hh => hh.1 hne)]))
  refine bif_f (by simp [hne]) ?_
  by_cases hl : 9 < s.length
  · exact bif_t (by simp; omega) (p0bad (by unfold decN; rw [if_neg (fun hh => by have := hh.2.1; omega)]))
  refine bif_f (by simp; omega) ?_
  obtain ⟨c, hc⟩ : ∃ c, s[0]? = some c := ⟨_, List.getElem?_eq_getElem (List.length_pos_iff.2 hne)⟩
  have hg : s.getD 0 0 = c := getD_some hc
  refine idxStr (i := 0) hc ?_
  rw [show (48 : Int) = (((48 : UInt8).toNat : Nat) : Int) from rfl, eq_byte]
  by_cases h48 : c = 48
  · refine bif_t (by simp [h48]) ?_
    by_cases h1 : 1 < s.length
    · rw [decide_eq_true (by omega)]
      refine p0bad ?_
      unfold decN
      rw [if_neg (fun hh => hh.2.2.1 ⟨by rw [hg, h48], h1⟩)]
    · rw [decide_eq_false (by omega)]
      exact p0ok hne (by omega) (fun hh => h1 hh.2)
  · refine bif_f (by simp [h48]) (p0ok hne (by omega) (fun hh => h48 (by rw [← hg]; exact hh.1)))

/-! ### OidOf -/

/-- What OidOf hands back. -/
def oidR : Except Int (List UInt8) → AV
  | .error e => .tu [.ag z5, .i .i64 e]
  | .ok l => .tu [.ag (leafC 0 6 false l), .i .i64 0]

theorem and127 {x : Nat} (hx : x < 2 ^ 62) : bitsOp .and .i64 (x : Int) 127 = ((x % 128 : Nat) : Int) := bits_and_mod (n := 7) hx (by omega)
theorem or128 {x : Nat} (hx : x < 128) : bitsOp .or .i64 (x : Int) 128 = ((x + 128 : Nat) : Int) := by
  have h : ∀ x, x < 128 → x ||| 128 = x + 128 := by decide +kernel
  have := bits_or (x := x) (y := 128) (by omega) (by omega)
  rw [h x hx] at this
  exact this

/-- A value is stored and handed back in a tuple. -/
theorem ret_tu {h h1 hx : AHeap} {id : Nat} {z : List AV} {c t e : Int} {s : List UInt8} (hz : z.length = 5) (R : RecAt hx id z) (hid : h.length ≤ id) (U : Upd (fun _ => False) h hx) (hq : ∀ h', Upd (fun _ => False) h h' → Q (.tu [.ag (leafC c t false s), .i .i64 e]) h') :
    pStore 5 (.p (some ⟨id, 5, 0⟩)) (.ag [.i .i64 c, .i .i64 t, .b false, .s s, .sl none 0 none]) hx fun h5 => pLoadN 5 (.p (some ⟨id, 5, 0⟩)) h5 fun v7 => kRet h Q (.tu [v7, .i .i64 e]) h5 := by
  refine st_storeN R hz.symm rfl rfl fun h5 hl5 U5 R5 => st_loadN R5 rfl (.inl (hq h5 ?_))
  exact (U.trans U5 fun i hi he => absurd he (by omega))

theorem oid_p2 {h h1 h2 : AHeap} {id : Nat} {w : AV} {l : List Nat} (hid : h.length ≤ id) (U1 : Upd (fun _ => False) h h1) (U2 : Upd (fun _ => False) h h2) (R : RecAt h2 id z5) (W : Rd 1 h2 w (l.map num) l.length) (hll : l.length ≤ 1000) (hb : ∀ n ∈ l, n < 268435456)
    (hq : ∀ h', Upd (fun _ => False) h h' → Q (.tu [.ag (leafC 0 6 false (l.flatMap arcS)), .i .i64 0]) h') :
    ∀ (r : List Nat) (i : Nat) (v : AV) (o : List UInt8) (hx : AHeap), l.drop i = r → i ≤ l.length → o.length ≤ 4 * i → o ++ r.flatMap arcS = l.flatMap arcS → Tx h2 hx v o → G_der_OidOf.p2 (kRet h Q) (.p (some ⟨id, 5, 0⟩)) v w l.length i hx := by
  intro r
  induction r with
  | nil =>
    intro i v o hx hr hi hol ho T
    have hle := drop_end hr
    refine G_der_OidOf.i2 ?_
    simp only [G_der_OidOf.t2]
    rw [List.flatMap_nil, List.append_nil] at ho
    subst ho
    exact bif_f (by simp; omega) (T.str (ret_tu (h1 := h1) rfl (R.upd T.upd fun h => h) hid (U2.trans T.upd fun _ _ h => h) hq))
  | cons n r ih =>
    intro i v o hx hr hi hol ho T
    have hlt := drop_lt hr
    have hn := drop_next hr
    have hni := at_of_drop hr
    have hnb := hb n (List.mem_of_getElem? hni)
    have W' := W.upd T.upd fun _ _ h => h
    rw [List.flatMap_cons] at ho
    -- the bytes
    have p4 : ∀ (k : Nat) (v : AV) (o' : List UInt8) (hx : AHeap), k ≤ 3 → o'.length + k ≤ 4 * i + 3 → o' ++ arcK k n = o ++ arcS n → Tx h2 hx v o' → G_der_OidOf.p4 (kRet h Q) (.p (some ⟨id, 5, 0⟩)) v n k w l.length i hx := by
      intro k
      induction k with
      | zero =>
        intro v o' hx hk hol' ho' T
        refine G_der_OidOf.i4 ?_
        simp only [G_der_OidOf.t4, G_der_OidOf.j2]
        refine bif_f (by simp) (withI_is (and127 (by omega)) ?_)
        rw [wrap_u8_nat, Nat.mod_eq_of_lt (show n % 128 < 256 by omega)]
        have e : ((n % 128 : Nat) : Int) = ((UInt8.ofNat (n % 128)).toNat : Int) := by rw [UInt8.toNat_ofNat']; omega
        rw [e]
        refine T.push (by omega) fun v' h' T' => inc (by omega) (ih (i + 1) v' _ h' hn (by omega) (by simp; omega) ?_ T')
        rw [show o' ++ [UInt8.ofNat (n % 128)] = o ++ arcS n from ho', List.append_assoc]
        exact ho
      | succ k ihk =>
        intro v o' hx hk hol' ho' T
        refine G_der_OidOf.i4 ?_
        simp only [G_der_OidOf.t4, G_der_OidOf.j4]
        refine bif_t (by simp) ?_
        refine withI_is (n := ((7 * (k + 1) : Nat) : Int)) (by rw [wrap_i64 (by omega) (by omega)]; omega) (st_shr (k := .i64) (by show 7 * (k + 1) ≤ 64; omega) ?_)
        have hd : n / 2 ^ (7 * (k + 1)) ≤ n := Nat.div_le_self _ _
        unfold arcK at ho'
        generalize n / 2 ^ (7 * (k + 1)) = y at hd ho'
        refine withI_is (and127 (by omega)) (withI_is (or128 (Nat.mod_lt _ (by omega))) ?_)
        have hm : y % 128 < 128 := Nat.mod_lt _ (by omega)
        rw [wrap_u8_nat, Nat.mod_eq_of_lt (show y % 128 + 128 < 256 by omega)]
        have e : ((y % 128 + 128 : Nat) : Int) = ((UInt8.ofNat (y % 128 + 128)).toNat : Int) := by rw [UInt8.toNat_ofNat']; omega
        rw [e]
        refine T.push (by omega) fun v' h' T' => withI_is (n := (k : Int)) (by rw [wrap_i64 (by omega) (by omega)]; omega) (ihk v' _ h' (by omega) (by simp; omega) ?_ T')
        rw [← ho']; simp
    have hk3 : arcN n ≤ 3 := by unfold arcN; repeat' split
                                all_goals omega
    have p3 : ∀ m k, k + m = arcN n → G_der_OidOf.p3 (kRet h Q) (.p (some ⟨id, 5, 0⟩)) v n k w l.length i hx := by
      intro m
      induction m with
      | zero =>
        intro k hk
        have hk : k = arcN n := by omega
        refine G_der_OidOf.i3 ?_
        simp only [G_der_OidOf.t3, G_der_OidOf.j4]
        refine inc (by omega) (withI_is (n := ((7 * (k + 1) : Nat) : Int)) (by rw [wrap_i64 (by omega) (by omega)]; omega) (st_shr (k := .i64) (by show 7 * (k + 1) ≤ 64; omega) ?_))
        have : n / 2 ^ (7 * (k + 1)) = 0 := by
          apply Nat.div_eq_of_lt
          rw [hk]
          unfold arcN
          repeat' split
          all_goals omega
        rw [this]
        refine bif_f rfl (p4 k v o hx (by omega) (by omega) ?_ T)
        unfold arcS; rw [hk]
      | succ m ihm =>
        intro k hk
        refine G_der_OidOf.i3 ?_
        simp only [G_der_OidOf.t3, G_der_OidOf.j3]
        refine inc (by omega) (withI_is (n := ((7 * (k + 1) : Nat) : Int)) (by rw [wrap_i64 (by omega) (by omega)]; omega) (st_shr (k := .i64) (by show 7 * (k + 1) ≤ 64; omega) ?_))
        have : 0 < n / 2 ^ (7 * (k + 1)) := by
          apply Nat.div_pos _ (Nat.two_pow_pos _)
          have hk' : k < arcN n := by omega
          unfold arcN at hk'
          have : k = 0 ∨ k = 1 ∨ k = 2 := by
            revert hk'
            repeat' split
            all_goals omega
          rcases this with rfl | rfl | rfl
          · split at hk' <;> omega
          · split at hk'
            · omega
            · split at hk' <;> omega
          · split at hk'
            · omega
            · split at hk'
              · omega
              · split at hk' <;> omega
        refine bif_t (by rw [decide_eq_true_eq]; generalize n / 2 ^ (7 * (k + 1)) = y at this; omega) (inc (by omega) (ihm (k + 1) (by omega)))
    refine G_der_OidOf.i2 ?_
    simp only [G_der_OidOf.t2, G_der_OidOf.j3]
    exact bif_t (by simp; omega) (W'.nat hlt hni (p3 (arcN n) 0 (by omega)))

theorem oidOf_c {s : List UInt8} {h : AHeap} (hq : ∀ h', Upd (fun _ => False) h h' → Q (oidR (oidOfS s)) h') : C G_der_OidOf.id [.s s] h Q := by
  refine G_der_OidOf.call ?_
  simp only [G_der_OidOf.t, G_der_OidOf.j0]
  refine st_alloc fun h1 hl1 U1 R => ?_
  unfold oidOfS at hq
  by_cases hl : 256 < s.length
  · rw [if_pos hl] at hq
    exact bif_t (by simp; omega) (ret_tu (h1 := h1) rfl R (Nat.le_refl _) U1 hq)
  rw [if_neg hl] at hq
  refine bif_f (by simp; omega) (split_c (sp := 46) (by omega) fun w h2 S => ?_)
  have hsl := split_len (sp := 46) s
  have hcb : Lib.countByte s 46 ≤ s.length := List.count_le_length
  have W := S.stk.rd
  rw [List.length_map] at W
  have R2 := R.upd S.upd fun h => h
  have U2 := U1.trans S.upd fun _ _ h => h
  refine W.len ?_
  generalize splitS 46 s = ws at *
  have bad : ∀ hx, Upd (fun _ => False) h2 hx → decAll ws = none → pStore 5 (.p (some ⟨h.length, 5, 0⟩)) (.ag [.i .i64 0, .i .i64 0, .b false, .s [], .sl none 0 none]) hx fun h5 => pLoadN 5 (.p (some ⟨h.length, 5, 0⟩)) h5 fun v7 => kRet h Q (.tu [v7, .i .i64 2]) h5 := by
    intro hx U hd
    rw [hd] at hq
    exact ret_tu (h1 := h1) rfl (R2.upd U fun h => h) (Nat.le_refl _) (U2.trans U fun _ _ h => h) hq
  have go : ∀ (r : List (List UInt8)) (i : Nat) (done : List Nat) (v : AV) (hx : AHeap), ws.drop i = r → i ≤ ws.length → done.length = i → (decAll ws = match decAll r with | none => none | some l => some (done ++ l)) → NewA 1 h2 hx v (done.map num) done.length → G_der_OidOf.p0 (kRet h Q) (.p (some ⟨h.length, 5, 0⟩)) v w ws.length i hx := by
    intro r
    induction r with
    | nil =>
      intro i done v hx hr hi hdl hd A
      have hle := drop_end hr
      have hd : decAll ws = some done := by rw [hd]; simp [decAll]
      rw [hd] at hq
      have hbd := (decAll_bd hd).1
      have R3 := R2.upd A.upd fun h => h
      have U3 := U2.trans A.upd fun _ _ h => h
      refine G_der_OidOf.i0 ?_
      simp only [G_der_OidOf.t0, G_der_OidOf.j1]
      refine bif_f (by simp; omega) (A.arr.rd.len ?_)
      -- a wrong list
      have p1bad : oidL done = .error 2 → G_der_OidOf.p1 (kRet h Q) (.p (some ⟨h.length, 5, 0⟩)) v true hx := by
        intro he
        have hq : ∀ h', Upd (fun _ => False) h h' → Q (oidR (oidL done)) h' := hq
        rw [he] at hq
        refine G_der_OidOf.i1 ?_
        simp only [G_der_OidOf.t1]
        exact bif_t rfl (ret_tu (h1 := h1) rfl R3 (Nat.le_refl _) U3 hq)
      have p1ok : ∀ a b l, done = a :: b :: l → ¬ (2 < a ∨ (a < 2 ∧ 40 ≤ b) ∨ 268435456 ≤ 40 * a + b) → G_der_OidOf.p1 (kRet h Q) (.p (some ⟨h.length, 5, 0⟩)) v false hx := by
        intro a b l hdone hg
        have ha := hbd a (by rw [hdone]; simp)
        have hb := hbd b (by rw [hdone]; simp)
        have hq : ∀ h', Upd (fun _ => False) h h' → Q (oidR (oidL done)) h' := hq
        have he : oidL done = .ok (((40 * a + b) :: l).flatMap arcS) := by
          rw [hdone]; unfold oidL; simp only; rw [if_neg hg]
        rw [he] at hq
        obtain ⟨id, ver, off, cap, blk, hv, RA⟩ := A.arr.rd.at (by rw [hdone]; simp)
        have hidv : h2.length ≤ id := A.new id (by rw [hv]; rfl)
        have h0' : done[0]? = some a := by rw [hdone]; rfl
        have h1' : done[1]? = some b := by rw [hdone]; rfl
        have hlen2 : 2 ≤ done.length := by rw [hdone]; simp
        rw [hv]
        refine G_der_OidOf.i1 ?_
        simp only [G_der_OidOf.t1, G_der_OidOf.j2]
        refine bif_f rfl (st_idx RA (i := 0) (by omega) (st_num RA (by omega) h0' ?_))
        refine withI_is (n := ((40 * a : Nat) : Int)) (by rw [wrap_i64 (by omega) (by omega)]; omega) (st_idx RA (i := 1) (by omega) (st_num RA (by omega) h1' ?_))
        refine withI_is (n := ((40 * a + b : Nat) : Int)) (by rw [wrap_i64 (by omega) (by omega)]; omega) ?_
        refine RA.drop Nat.one_pos (lo := 2) hlen2 ?_
        refine NewA.one (Upd.refl _ _) (x := num (40 * a + b)) rfl fun v2 h3 A2 Ux Fx => ?_
        have RA3 := RA.upd Ux fun h => h
        refine RA3.drop Nat.one_pos (lo := 2) hlen2 ⟨rfl, st_num RA3 (by omega) h1' ⟨rfl, st_idx RA3 (i := 1) (by omega) ⟨rfl, st_num RA3 (by omega) h0' ⟨rfl, st_idx RA3 (i := 0) (by omega) ⟨rfl, ?_⟩⟩⟩⟩⟩
        have RD := RA3.dropRd (lo := 2) hlen2 (cap.map (· - 2))
        have hdr : (done.map num).drop (2 * 1) = l.map num := by rw [hdone]; rfl
        rw [hdr] at RD
        refine A2.append Nat.one_pos (ns := l.map num) (k := done.length - 2) (fun K hK => RD.news hK) (by rw [hdone]; simp) (by simp [num, AV.cellOK]) (by omega) (by omega) fun v3 h4 A3 Uy => ?_
        have RA4 := RA3.upd Uy fun hs => by have := Fx id hs; have := RA.lt; omega
        refine st_num RA4 (by omega) h1' ⟨rfl, st_idx RA4 (i := 1) (by omega) ⟨rfl, st_num RA4 (by omega) h0' ⟨rfl, st_idx RA4 (i := 0) (by omega) ⟨rfl, A3.arr.rd.len ?_⟩⟩⟩⟩
        have U4 := A3.upd
        have e : 1 + (done.length - 2) = ((40 * a + b) :: l).length := by rw [hdone]; simp; omega
        rw [e]
        refine oid_p2 (l := (40 * a + b) :: l) (h1 := h1) (Nat.le_refl _) U1 (U3.trans U4 fun _ _ h => h) (R3.upd U4 fun h => h) ?_ ?_ ?_ hq _ 0 _ [] h4 rfl (by omega) (by simp) rfl (Tx.start h4)
        · have := A3.arr.rd
          rw [e] at this
          exact this
        · rw [← e]; omega
        · intro n hn
          rcases List.mem_cons.1 hn with rfl | hn
          · omega
          · exact hbd n (by rw [hdone]; simp [hn])
      by_cases hl2 : done.length < 2
      · exact bif_t (by simp; omega) (p1bad (oidL_short hl2))
      refine bif_f (by simp; omega) ?_
      obtain ⟨a, b, l, hdone⟩ := two_of hl2
      have h0' : done[0]? = some a := by rw [hdone]; rfl
      have h1' : done[1]? = some b := by rw [hdone]; rfl
      have ha := hbd a (by rw [hdone]; simp)
      have hb := hbd b (by rw [hdone]; simp)
      have p1 : ∀ bb : Bool, (bb = true ↔ (2 < a ∨ (a < 2 ∧ 40 ≤ b) ∨ 268435456 ≤ 40 * a + b)) → G_der_OidOf.p1 (kRet h Q) (.p (some ⟨h.length, 5, 0⟩)) v bb hx := by
        intro bb hbb
        cases bb with
        | true =>
          refine p1bad ?_
          rw [hdone]; unfold oidL; simp only
          rw [if_pos (hbb.1 rfl)]
        | false => exact p1ok a b l hdone (fun hh => by have := hbb.2 hh; cases this)
      have RV := A.arr.rd
      refine RV.nat (i := 0) (by omega) h0' ?_
      refine bif_both (fun e1 => p1 _ ?_) fun e1 => RV.nat (i := 0) (by omega) h0' ?_
      · simp only [decide_eq_true_eq] at e1; simp; omega
      simp only [decide_eq_false_iff_not] at e1
      have fin : ∀ K : Int → Prop, K ((40 * a + b : Nat) : Int) → pIdxAddrSl 1 v (.i .i64 0) hx fun v52 => pLoad1 v52 hx fun v53 => asI .i64 v53 fun n54 => withI (IntKind.wrap .i64 (40 * n54)) fun n55 => pIdxAddrSl 1 v (.i .i64 1) hx fun v56 => pLoad1 v56 hx fun v57 => asI .i64 v57 fun n58 => withI (IntKind.wrap .i64 (n55 + n58)) K := by
        intro K hK
        refine RV.nat (i := 0) (by omega) h0' ?_
        refine withI_is (n := ((40 * a : Nat) : Int)) (by rw [wrap_i64 (by omega) (by omega)]; omega) (RV.nat (i := 1) (by omega) h1' ?_)
        exact withI_is (n := ((40 * a + b : Nat) : Int)) (by rw [wrap_i64 (by omega) (by omega)]; omega) hK
      refine bif_both (fun e2 => RV.nat (i := 1) (by omega) h1' ?_) fun e2 => fin _ (p1 _ ?_)
      · simp only [decide_eq_true_eq] at e2
        refine bif_both (fun e3 => p1 _ ?_) fun e3 => fin _ (p1 _ ?_)
        · simp only [decide_eq_true_eq] at e3; simp; omega
        · simp only [decide_eq_false_iff_not] at e3
          rw [decide_eq_true_eq]; omega
      · simp only [decide_eq_false_iff_not] at e2
        rw [decide_eq_true_eq]; omega
    | cons x r ih =>
      intro i done v hx hr hi hdl hd A
      have hlt := drop_lt hr
      have hn := drop_next hr
      have hxi := at_of_drop hr
      have W' := W.upd A.upd fun _ _ h => h
      refine G_der_OidOf.i0 ?_
      simp only [G_der_OidOf.t0, G_der_OidOf.j0]
      refine bif_t (by simp; omega) (W'.str hxi (number_c ?_))
      rw [decAll_cons] at hd
      cases hx2 : decN x with
      | none =>
        rw [hx2] at hd
        intro y
        show pExtract 0 (.tu [.i .i64 y, .b false]) _
        refine st_ext0 (st_asI (st_ext1 (st_asB (bif_t rfl (bad hx A.upd (by rw [hd]))))))
      | some n =>
        rw [hx2] at hd
        simp only at hd
        unfold NOut
        show pExtract 0 (.tu [.i .i64 (n : Int), .b true]) _
        refine st_ext0 (st_asI (st_ext1 (st_asB (bif_f rfl ?_))))
        refine NewA.build A (by decide) (ns := [num n]) rfl rfl rfl (by omega) (by omega) fun v' h' A' => inc (by omega) (ih (i + 1) (done ++ [n]) v' h' hn (by omega) (by simp [hdl]) ?_ ?_)
        · rw [hd]
          cases decAll r with
          | none => rfl
          | some l => simp
        · rw [List.map_append, List.length_append]; exact A'
  exact go ws 0 [] _ h2 rfl (by omega) rfl (by cases decAll ws <;> simp) (NewA.start 1 h2)

end
end Go.Proofs.YtffgchcidkapjaaDoor
