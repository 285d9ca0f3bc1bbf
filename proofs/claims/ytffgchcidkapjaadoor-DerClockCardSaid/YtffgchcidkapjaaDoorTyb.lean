/- Time. -/
import Derived.Test.YtffgchcidkapjaaDoorTya
set_option linter.unusedVariables false
set_option linter.unusedSimpArgs false
set_option linter.unusedSectionVars false
set_option maxRecDepth 20000
namespace Go.GAM
/-- x[lo:] of a slice that is read. -/
theorem Rd.dropAt {sz : Nat} {h : AHeap} {v : AV} {cs : List AV} {len : Nat} (R : Rd sz h v cs len) (hz : 0 < sz) {lo : Nat} (h1 : lo ≤ len) {K : AV → Prop} (hk : ∀ v', Rd sz h v' (cs.drop (lo * sz)) (len - lo) → K v') : pSliceSl sz v (some (.i .i64 (lo : Int))) none none h K := by
  rcases R with ⟨rfl, h0, rfl⟩ | ⟨id, ver, off, cap, b, rfl, g2, g3, g4, g5, g6, g7⟩
  · have : lo = 0 := by omega
    subst this
    exact ⟨by simp, rfl, rfl, rfl, fun h => by simp at h, hk _ (.inl ⟨rfl, by omega, by simp⟩)⟩
  · have e1 : lo * sz ≤ len * sz := Nat.mul_le_mul_right _ h1
    have e3 : (len - lo) * sz = len * sz - lo * sz := Nat.sub_mul _ _ _
    refine ⟨hz, fun h => by simp at h, by omega, by simpa using h1, b, g2, by omega, g4, g3, .inl (Nat.le_refl _), ?_⟩
    refine hk _ (.inr ⟨id, ver, off + lo * sz, cap.map (· - lo), b, by simp, g2, g3, g4, g5, by omega, ?_⟩)
    rw [← g7, List.drop_take, List.drop_drop, e3]
theorem Rd.at {sz : Nat} {h : AHeap} {v : AV} {cs : List AV} {len : Nat} (R : Rd sz h v cs len) (hl : len ≠ 0) : ∃ id ver off cap b, v = .sl (some ⟨id, ver, off⟩) len cap ∧ RdAt sz h id ver off b cs len := by
  rcases R with ⟨_, h0, _⟩ | ⟨id, ver, off, cap, b, h1, h2, h3, h4, h5, h6, h7⟩
  · exact absurd h0 hl
  · exact ⟨id, ver, off, cap, b, h1, h2, h3, h4, h5, h6, h7⟩
/-- A number. -/
def num (n : Nat) : AV := .i .i64 (n : Int)
theorem st_num {h : AHeap} {id ver off : Nat} {b : ABlk} {l : List Nat} {len i n : Nat} {K : Int → Prop} (R : RdAt 1 h id ver off b (l.map num) len) (hi : i < len) (hn : l[i]? = some n) (hk : K (n : Int)) : pLoad1 (.p (some ⟨id, ver, off + i * 1⟩)) h fun y => asI .i64 y K :=
  st_elem (o := 0) R hi Nat.one_pos (c := num n) (by rw [Nat.mul_one, Nat.add_zero, List.getElem?_map, hn]; rfl) (st_asI hk)
theorem Rd.nat {h : AHeap} {v : AV} {l : List Nat} {len i n : Nat} {k : IntKind} {K : Int → Prop} (R : Rd 1 h v (l.map num) len) (hi : i < len) (hn : l[i]? = some n) (hk : K (n : Int)) : pIdxAddrSl 1 v (.i k (i : Int)) h fun a => pLoad1 a h fun y => asI .i64 y K :=
  R.cell Nat.one_pos hi (c := num n) (by rw [Nat.mul_one, List.getElem?_map, hn]; rfl) (st_asI hk)
end Go.GAM
namespace Go.Proofs.YtffgchcidkapjaaDoor
open Go.GAM Go.RowKit

def digB (c : UInt8) : Bool := decide (48 ≤ c.toNat) && decide (c.toNat ≤ 57)
def pairsN : List UInt8 → List Nat
  | a :: b :: r => ((a.toNat - 48) * 10 + (b.toNat - 48)) :: pairsN r
  | _ => []
def secN (y mo da h mi s : Nat) : Nat := (befN y + monN y mo + da - 1) * 86400 + h * 3600 + mi * 60 + s
def badT (y mo da h mi s : Nat) : Prop := y < 1970 ∨ mo < 1 ∨ 12 < mo ∨ da < 1 ∨ daysN y mo < da ∨ 23 < h ∨ 59 < mi ∨ 59 < s
instance (y mo da h mi s : Nat) : Decidable (badT y mo da h mi s) := by unfold badT; infer_instance
def finT (y mo da h mi s : Nat) : Int × Bool := if badT y mo da h mi s then (0, false) else ((secN y mo da h mi s : Nat), true)
def finL (p : List Nat) : Int × Bool := match p with
  | [a, b, mo, da, h, mi, s] => finT (100 * a + b) mo da h mi s
  | _ => (0, false)
/-- A text with the whole year. -/
def fullS (d : Der) : Option (List UInt8) :=
  if dPlain 24 d = true then (if d.data.length = 15 then some d.data else none) else
  if dPlain 23 d = true then (if d.data.length = 13 then some ((if 53 ≤ (d.data.getD 0 0).toNat then [49, 57] else [50, 48]) ++ d.data) else none) else none
def timeS (d : Der) : Int × Bool := match fullS d with
  | none => (0, false)
  | some s => if s.getD 14 0 = 90 ∧ (s.take 14).all digB = true then finL (pairsN (s.take 14)) else (0, false)

theorem monN_bd (y m : Nat) : monN y m ≤ 31 * m := by
  induction m with
  | zero => simp [monN]
  | succ k ih =>
    have := daysN_bd y k
    show monN y k + (if k = 0 then 0 else daysN y k) ≤ _
    split <;> omega
theorem bef_bd {y : Nat} (h : 1970 ≤ y) (h2 : y ≤ 89999) : befN y ≤ 40000000 := by
  have := bef_up (a := 1970) (b := y) (by omega) h
  rw [bef_0] at this; omega

section
variable {h0 : AHeap} {Q : AV → AHeap → Prop}

theorem time1_c (c : UInt8) (h : AHeap) (K : AV → AHeap → Prop) (hk : K (.b (digB c)) h) : C G_der_Time_1.id [.i .u8 (c.toNat : Int)] h K := by
  refine G_der_Time_1.call ?_
  simp only [G_der_Time_1.t, G_der_Time_1.j0]
  have p0 : ∀ b, b = digB c → G_der_Time_1.p0 (kRet h K) b h := by
    intro b hb
    refine G_der_Time_1.i0 ?_
    simp only [G_der_Time_1.t0]
    subst hb
    exact .inl hk
  unfold digB at p0
  refine bif_both (fun e => p0 _ ?_) fun e => p0 _ ?_
  · simp only [decide_eq_true_eq] at e
    rw [decide_eq_true (by omega : 48 ≤ c.toNat), Bool.true_and, decide_eq_decide]; omega
  · simp only [decide_eq_false_iff_not] at e
    rw [decide_eq_false (by omega : ¬ 48 ≤ c.toNat)]; rfl

/-! ### the program's -/

def timeR (x : Int × Bool) : AV := .tu [.i .i64 x.1, .b x.2]

theorem time_p5 {h hx : AHeap} {v : AV} {y x mo da hh mi s : Nat} (E : Ext h hx) (R : Rd 1 hx v ([x, mo, da, hh, mi, s].map num) 6) (hy : 1970 ≤ y) (hy2 : y ≤ 89999) (hmo : mo ≤ 12) (hda : 1 ≤ da ∧ da ≤ 31) (h23 : hh ≤ 99) (h59 : mi ≤ 99) (h60 : s ≤ 99)
    (hq : Q (.tu [.i .i64 (secN y mo da hh mi s : Nat), .b true]) h) : ∀ k m', m' + k = mo → 1 ≤ m' → G_der_Time.p5 (kRet h Q) v y ((befN y + monN y m' + da - 1 : Nat) : Int) m' hx := by
  have hb := bef_bd hy hy2
  intro k
  induction k with
  | zero =>
    intro m' hm h1
    have : m' = mo := by omega
    subst this
    have hm := monN_bd y m'
    refine G_der_Time.i5 ?_
    simp only [G_der_Time.t5]
    refine R.nat (i := 1) (by omega) rfl (bif_f (by rw [decide_eq_false_iff_not]; omega) ?_)
    unfold secN at hq
    refine withI_is (n := (((befN y + monN y m' + da - 1) * 86400 : Nat) : Int)) (by rw [wrap_i64 (by omega) (by omega)]; omega) (R.nat (i := 3) (by omega) rfl ?_)
    refine withI_is (n := ((hh * 3600 : Nat) : Int)) (by rw [wrap_i64 (by omega) (by omega)]; omega) ?_
    refine withI_is (n := (((befN y + monN y m' + da - 1) * 86400 + hh * 3600 : Nat) : Int)) (by rw [wrap_i64 (by omega) (by omega)]; omega) (R.nat (i := 4) (by omega) rfl ?_)
    refine withI_is (n := ((mi * 60 : Nat) : Int)) (by rw [wrap_i64 (by omega) (by omega)]; omega) ?_
    refine withI_is (n := (((befN y + monN y m' + da - 1) * 86400 + hh * 3600 + mi * 60 : Nat) : Int)) (by rw [wrap_i64 (by omega) (by omega)]; omega) (R.nat (i := 5) (by omega) rfl ?_)
    refine withI_is (n := (((befN y + monN y m' + da - 1) * 86400 + hh * 3600 + mi * 60 + s : Nat) : Int)) (by rw [wrap_i64 (by omega) (by omega)]; omega) (kRet_pure rfl E hq)
  | succ k ih =>
    intro m' hm h1
    have hms := mon_succ (y := y) h1
    have hmb := monN_bd y m'
    have hdb := daysN_bd y m'
    refine G_der_Time.i5 ?_
    simp only [G_der_Time.t5, G_der_Time.j5]
    refine R.nat (i := 1) (by omega) rfl (bif_t (by rw [decide_eq_true_eq]; omega) (days_c (st_asI ?_)))
    refine withI_is (n := ((befN y + monN y (m' + 1) + da - 1 : Nat) : Int)) (by rw [wrap_i64 (by omega) (by omega)]; omega) (inc (by omega) ?_)
    exact ih (m' + 1) (by omega) (by omega)

theorem time_p3 {h hx : AHeap} {v : AV} {y x mo da hh mi s : Nat} (E : Ext h hx) (R : Rd 1 hx v ([x, mo, da, hh, mi, s].map num) 6) (hy2 : y ≤ 89999) (hmo2 : mo ≤ 99) (hda2 : da ≤ 99) (h23 : hh ≤ 99) (h59 : mi ≤ 99) (h60 : s ≤ 99)
    (hq : Q (timeR (finT y mo da hh mi s)) h) : G_der_Time.p3 (kRet h Q) v y hx := by
  obtain ⟨id, ver, off, cap, b, rfl, A⟩ := R.at (by omega)
  have R := A.rd cap
  unfold finT timeR at hq
  have p4 : ∀ b : Bool, (b = true ↔ badT y mo da hh mi s) → G_der_Time.p4 (kRet h Q) (.sl (some ⟨id, ver, off⟩) 6 cap) y b hx := by
    intro b hb
    refine G_der_Time.i4 ?_
    simp only [G_der_Time.t4, G_der_Time.j5]
    refine bif_both (fun e => ?_) fun e => ?_
    · rw [if_pos (hb.1 e)] at hq
      exact kRet_pure rfl E hq
    · have hg : ¬ badT y mo da hh mi s := fun hh => by have := hb.2 hh; rw [e] at this; cases this
      rw [if_neg hg] at hq
      unfold badT at hg
      have hdd := daysN_bd y mo
      have hbb := bef_bd (y := y) (by omega) hy2
      refine st_idx A (i := 2) (by omega) (st_num A (by omega) rfl (before_c (by omega) (by omega) (st_asI (st_num A (by omega) rfl ⟨rfl, st_idx A (i := 2) (by omega) ⟨rfl, ?_⟩⟩))))
      refine withI_is (n := ((befN y + da : Nat) : Int)) (by rw [wrap_i64 (by omega) (by omega)]; omega) ?_
      refine withI_is (n := ((befN y + monN y 1 + da - 1 : Nat) : Int)) (by rw [mon_1, wrap_i64 (by omega) (by omega)]; omega) ?_
      exact time_p5 E R (by omega) hy2 (by omega) (by omega) h23 h59 h60 hq (mo - 1) 1 (by omega) (by omega)
  have hdd := daysN_bd y mo
  unfold badT at p4
  refine G_der_Time.i3 ?_
  simp only [G_der_Time.t3, G_der_Time.j4]
  refine bif_both (fun e1 => p4 _ ?_) fun e1 => st_idx A (i := 1) (by omega) (st_num A (by omega) rfl ?_)
  · simp only [decide_eq_true_eq] at e1; simp; omega
  refine bif_both (fun e2 => p4 _ ?_) fun e2 => st_idx A (i := 1) (by omega) (st_num A (by omega) rfl ?_)
  · simp only [decide_eq_true_eq] at e2; simp; omega
  refine bif_both (fun e3 => p4 _ ?_) fun e3 => st_idx A (i := 2) (by omega) (st_num A (by omega) rfl ?_)
  · simp only [decide_eq_true_eq] at e3; simp; omega
  refine bif_both (fun e4 => p4 _ ?_) fun e4 => st_idx A (i := 2) (by omega) (st_num A (by omega) rfl (st_idx A (i := 1) (by omega) (st_num A (by omega) rfl (days_c (st_asI ?_)))))
  · simp only [decide_eq_true_eq] at e4; simp; omega
  simp only [decide_eq_false_iff_not] at e1 e2 e3 e4
  refine st_idx A (i := 1) (by omega) ⟨rfl, st_num A (by omega) rfl ⟨rfl, st_idx A (i := 2) (by omega) ⟨rfl, st_num A (by omega) rfl ⟨rfl, st_idx A (i := 2) (by omega) ⟨rfl, st_num A (by omega) rfl ⟨rfl, st_idx A (i := 1) (by omega) ⟨rfl, st_num A (by omega) rfl ⟨rfl, st_idx A (i := 1) (by omega) ⟨rfl, ?_⟩⟩⟩⟩⟩⟩⟩⟩⟩
  refine bif_both (fun e5 => p4 _ ?_) fun e5 => R.nat (i := 3) (by omega) rfl ?_
  · simp only [decide_eq_true_eq] at e5; simp; omega
  refine bif_both (fun e6 => p4 _ ?_) fun e6 => R.nat (i := 4) (by omega) rfl ?_
  · simp only [decide_eq_true_eq] at e6; simp; omega
  refine bif_both (fun e7 => p4 _ ?_) fun e7 => R.nat (i := 5) (by omega) rfl (p4 _ ?_)
  · simp only [decide_eq_true_eq] at e7; simp; omega
  simp only [decide_eq_false_iff_not] at e5 e6 e7
  rw [decide_eq_true_eq]; omega

theorem digB_bd {c : UInt8} (h : digB c = true) : 48 ≤ c.toNat ∧ c.toNat ≤ 57 := by
  unfold digB at h; simpa using h
theorem pairsN_bd : ∀ (l : List UInt8), l.all digB = true → ∀ n ∈ pairsN l, n ≤ 99
  | [], _, n, hn => by simp [pairsN] at hn
  | [a], _, n, hn => by simp [pairsN] at hn
  | a :: b :: r, h, n, hn => by
    simp only [List.all_cons, Bool.and_eq_true] at h
    have := digB_bd h.1
    have := digB_bd h.2.1
    simp only [pairsN, List.mem_cons] at hn
    rcases hn with rfl | hn
    · omega
    · exact pairsN_bd r h.2.2 n hn

theorem pairsN_len : ∀ l : List UInt8, (pairsN l).length = l.length / 2
  | [] => by simp [pairsN]
  | [a] => by simp [pairsN]
  | a :: b :: r => by
    have := pairsN_len r
    simp only [pairsN, List.length_cons, this]; omega
theorem list7 {α : Type} {l : List α} (h : l.length = 7) : ∃ a b c d e f g, l = [a, b, c, d, e, f, g] := by
  match l, h with
  | [a, b, c, d, e, f, g], _ => exact ⟨a, b, c, d, e, f, g, rfl⟩
theorem list6 {α : Type} {l : List α} (h : l.length = 6) : ∃ a b c d e f, l = [a, b, c, d, e, f] := by
  match l, h with
  | [a, b, c, d, e, f], _ => exact ⟨a, b, c, d, e, f, rfl⟩

/-- The digits, two by two. -/
theorem time_p2 {h hx0 : AHeap} {sz : Nat} : ∀ (k : Nat) (ds : List UInt8) (done : List Nat) (v : AV) (hx : AHeap), ds.length = 2 * k → k ≤ 100 → done.length + k ≤ 100 → ds.all digB = true → NewS hx0 hx v (done.map num) →
    (∀ v hx, NewS hx0 hx v ((done ++ pairsN ds).map num) → G_der_Time.p2 (kRet h Q) sz [] v hx) → G_der_Time.p2 (kRet h Q) sz ds v hx := by
  intro k
  induction k with
  | zero =>
    intro ds done v hx hl _ _ _ S fin
    have : ds = [] := List.eq_nil_of_length_eq_zero (by omega)
    subst this
    exact fin v hx (by simpa [pairsN] using S)
  | succ k ih =>
    intro ds done v hx hl hk hd hall S fin
    match ds, hl with
    | [], hl => simp at hl
    | [a], hl => simp at hl; omega
    | a :: b :: r, hl =>
      simp only [List.all_cons, Bool.and_eq_true] at hall
      have ha := digB_bd hall.1
      have hb := digB_bd hall.2.1
      refine G_der_Time.i2 ?_
      simp only [G_der_Time.t2, G_der_Time.j2]
      refine bif_t (by simp) (st_at (i := 0) rfl ?_)
      refine withI_is (n := ((a.toNat - 48 : Nat) : Int)) (by rw [wrap_u8 (by omega) (by omega)]; omega) ?_
      refine withI_is (n := (((a.toNat - 48) * 10 : Nat) : Int)) (by rw [wrap_i64 (n := ((a.toNat - 48 : Nat) : Int)) (by omega) (by omega), wrap_i64 (by omega) (by omega)]; omega) (st_at (i := 1) rfl ?_)
      refine withI_is (n := ((b.toNat - 48 : Nat) : Int)) (by rw [wrap_u8 (by omega) (by omega)]; omega) ?_
      refine withI_is (n := (((a.toNat - 48) * 10 + (b.toNat - 48) : Nat) : Int)) (by rw [wrap_i64 (n := ((b.toNat - 48 : Nat) : Int)) (by omega) (by omega), wrap_i64 (by omega) (by omega)]; omega) ?_
      refine S.push rfl rfl (by simp; omega) (by simp; omega) fun v' h' S' _ _ => st_subs (lo := 2) (by simp) ?_
      refine ih r (done ++ [(a.toNat - 48) * 10 + (b.toNat - 48)]) v' h' (by simp at hl; omega) (by omega) (by simp; omega) hall.2.2 (by rw [List.map_append]; exact S') fun v2 h2 S2 => fin v2 h2 ?_
      simpa [pairsN] using S2

theorem getD_last {l : List UInt8} {n : Nat} (h : l.length = n + 1) : ∃ c, l[n]? = some c ∧ l.getD n 0 = c := by
  obtain ⟨c, hc⟩ : ∃ c, l[n]? = some c := ⟨_, List.getElem?_eq_getElem (by omega)⟩
  exact ⟨c, hc, getD_some hc⟩

theorem time_c {d : Der} {cs : List AV} {F : Nat → Prop} {h : AHeap} (D : DV h F d cs) (hs : d.data.length ≤ 100000) (hq : Q (timeR (timeS d)) h) : C G_der_Time.id [.ag cs] h Q := by
  refine G_der_Time.call ?_
  simp only [G_der_Time.t, G_der_Time.j0]
  refine D.box fun h1 hl1 U1 B D1 => st_loadN B D.len.symm (plain_c D1 (st_asB ?_))
  -- a size: what follows
  have p1bad : ∀ sz : Nat, timeS d = (0, false) → G_der_Time.p1 (kRet h Q) (.p (some ⟨h.length, 5, 0⟩)) sz true h1 := by
    intro sz he
    rw [he] at hq
    refine G_der_Time.i1 ?_
    simp only [G_der_Time.t1]
    exact bif_t rfl (kRet_pure rfl U1.ext hq)
  have p1 : ∀ n : Nat, (n = 12 ∨ n = 14) → d.data.length = n + 1 →
      (timeS d = if (d.data.take n).all digB = true then (if n = 14 then finL (pairsN (d.data.take 14)) else finL ((if 50 ≤ (pairsN (d.data.take 12)).getD 0 0 then 19 else 20) :: pairsN (d.data.take 12))) else (0, false)) →
      G_der_Time.p1 (kRet h Q) (.p (some ⟨h.length, 5, 0⟩)) ((n + 1 : Nat) : Int) false h1 := by
    intro n hn hl he
    rw [he] at hq
    refine G_der_Time.i1 ?_
    simp only [G_der_Time.t1, G_der_Time.j2]
    refine bif_f rfl (st_fld (st_load B D.len.symm D.dat (st_asS ?_)))
    refine withI_is (n := (n : Int)) (by rw [wrap_i64 (by omega) (by omega)]; omega) (st_subs1 (by omega) (Tx.ofStr fun v h2 T => ?_))
    have E2 := (U1.trans T.upd fun _ _ h => h)
    refine all_byte_c (p := digB) rfl time1_c T.byt (by simp; omega) (st_asB ?_)
    cases ha : (d.data.take n).all digB with
    | false =>
      rw [ha, if_neg (by simp)] at hq
      exact bif_t rfl (kRet_pure rfl E2.ext hq)
    | true =>
      rw [ha, if_pos rfl] at hq
      refine bif_f rfl ?_
      have hbd := pairsN_bd _ ha
      have hpl := pairsN_len (d.data.take n)
      rw [List.length_take, Nat.min_eq_left (by omega)] at hpl
      refine time_p2 (sz := n + 1) (n / 2) (d.data.take n) [] _ h2 (by rw [List.length_take]; omega) (by omega) (by simp; omega) ha (NewS.start h2) fun v hx S => ?_
      rw [List.nil_append] at S
      have E : Ext h hx := (E2.trans S.upd fun _ _ h => h).ext
      have R := S.stk.rd
      rw [List.length_map] at R
      refine G_der_Time.i2 ?_
      simp only [G_der_Time.t2, G_der_Time.j3]
      refine bif_f (by simp) ?_
      rcases hn with rfl | rfl
      · rw [if_neg (by omega)] at hq
        obtain ⟨b, mo, da, hh, mi, s, hp⟩ := list6 hpl
        rw [hp] at hq R hbd
        have bb := hbd b (by simp)
        refine R.nat (i := 0) (by simp) rfl ?_
        refine withI_is (n := ((b + 2000 : Nat) : Int)) (by rw [wrap_i64 (by omega) (by omega)]; omega) (bif_f (by simp) (R.nat (i := 0) (by simp) rfl ?_))
        have hq : Q (timeR (finT ((if 50 ≤ b then 1900 else 2000) + b) mo da hh mi s)) h := by
          have e : finL ((if 50 ≤ b then 19 else 20) :: [b, mo, da, hh, mi, s]) = finT ((if 50 ≤ b then 1900 else 2000) + b) mo da hh mi s := by
            unfold finL
            simp only
            congr 1
            split <;> omega
          rw [← e]; exact hq
        refine bif_both (fun e => R.nat (i := 0) (by simp) rfl ?_) fun e => ?_
        · rw [if_pos (by simp only [decide_eq_true_eq] at e; omega)] at hq
          refine withI_is (n := ((1900 + b : Nat) : Int)) (by rw [wrap_i64 (by omega) (by omega)]; omega) ?_
          exact time_p3 E R (by omega) (hbd _ (by simp)) (hbd _ (by simp)) (hbd _ (by simp)) (hbd _ (by simp)) (hbd _ (by simp)) hq
        · rw [if_neg (by simp only [decide_eq_false_iff_not] at e; omega)] at hq
          rw [Nat.add_comm]
          exact time_p3 E R (by omega) (hbd _ (by simp)) (hbd _ (by simp)) (hbd _ (by simp)) (hbd _ (by simp)) (hbd _ (by simp)) hq
      · rw [if_pos rfl] at hq
        obtain ⟨a, b, mo, da, hh, mi, s, hp⟩ := list7 hpl
        rw [hp] at hq R hbd
        have ba := hbd a (by simp)
        have bb := hbd b (by simp)
        refine R.nat (i := 0) (by simp) rfl ?_
        refine withI_is (n := ((a + 2000 : Nat) : Int)) (by rw [wrap_i64 (by omega) (by omega)]; omega) (bif_t (by simp) (R.nat (i := 0) (by simp) rfl ?_))
        refine withI_is (n := ((100 * a : Nat) : Int)) (by rw [wrap_i64 (by omega) (by omega)]; omega) (R.nat (i := 1) (by simp) rfl ?_)
        refine withI_is (n := ((100 * a + b : Nat) : Int)) (by rw [wrap_i64 (by omega) (by omega)]; omega) (R.dropAt Nat.one_pos (lo := 1) (by simp) fun v' R' => ?_)
        exact time_p3 E R' (by omega) (hbd _ (by simp)) (hbd _ (by simp)) (hbd _ (by simp)) (hbd _ (by simp)) (hbd _ (by simp)) hq
  have p0 : ∀ n : Nat, (n = 12 ∨ n = 14) → (d.data.length ≠ n + 1 → timeS d = (0, false)) →
      (d.data.length = n + 1 → timeS d = if d.data.getD n 0 = 90 ∧ (d.data.take n).all digB = true then (if n = 14 then finL (pairsN (d.data.take 14)) else finL ((if 50 ≤ (pairsN (d.data.take 12)).getD 0 0 then 19 else 20) :: pairsN (d.data.take 12))) else (0, false)) →
      G_der_Time.p0 (kRet h Q) (.p (some ⟨h.length, 5, 0⟩)) ((n + 1 : Nat) : Int) h1 := by
    intro n hn he1 he2
    refine G_der_Time.i0 ?_
    simp only [G_der_Time.t0, G_der_Time.j1]
    refine st_fld (st_load B D.len.symm D.dat (st_asS ?_))
    by_cases hl : d.data.length = n + 1
    · refine bif_f (by rw [hl]; simp) (st_fld (st_load B D.len.symm D.dat (st_asS ?_)))
      refine withI_is (n := (n : Int)) (by rw [wrap_i64 (by omega) (by omega)]; omega) ?_
      obtain ⟨c, hc1, hc2⟩ := getD_last hl
      have he2 := he2 hl
      rw [hc2] at he2
      refine idxStr hc1 ?_
      rw [show (90 : Int) = (((90 : UInt8).toNat : Nat) : Int) from rfl, eq_byte]
      by_cases h90 : c = 90
      · rw [decide_eq_true h90]
        refine p1 n hn hl ?_
        rw [he2]
        simp [h90]
      · rw [decide_eq_false h90]
        refine p1bad _ ?_
        rw [he2, if_neg (fun hh => h90 hh.1)]
    · refine bif_t (by simp; omega) (p1bad _ (he1 hl))
  refine bif_both (fun e => p0 14 (.inr rfl) (fun hl => ?_) fun hl => ?_) fun e => st_loadN B D.len.symm (plain_c D1 (st_asB ?_))
  · unfold timeS fullS
    rw [if_pos e, if_neg hl]
  · unfold timeS fullS
    rw [if_pos e, if_pos hl]
    simp only [if_true]
  · refine bif_both (fun e2 => ?_) fun e2 => p0 12 (.inl rfl) (fun hl => ?_) fun hl => ?_
    · have : timeS d = (0, false) := by
        unfold timeS fullS
        rw [if_neg (by rw [e]; simp), if_neg (by have := e2; simp at this; rw [this]; simp)]
      rw [this] at hq
      exact kRet_pure rfl U1.ext hq
    · unfold timeS fullS
      rw [if_neg (by rw [e]; simp), if_pos (by simpa using e2), if_neg hl]
    · have hp : dPlain 23 d = true := by simpa using e2
      obtain ⟨c0, r, hd⟩ : ∃ c0 r, d.data = c0 :: r := by
        cases hd : d.data with
        | nil => rw [hd] at hl; cases hl
        | cons a r => exact ⟨a, r, rfl⟩
      obtain ⟨c1, r', hr⟩ : ∃ c1 r', r = c1 :: r' := by
        cases r with
        | nil => rw [hd] at hl; cases hl
        | cons a r => exact ⟨a, r, rfl⟩
      unfold timeS fullS
      rw [if_neg (by rw [e]; simp), if_pos hp, if_pos hl]
      simp only
      have h0 : d.data.getD 0 0 = c0 := by rw [hd]; rfl
      have t12 : d.data.take 12 = c0 :: c1 :: r'.take 10 := by rw [hd, hr]; rfl
      rw [h0]
      have key : ∀ x y : UInt8, digB x = true → digB y = true → (([x, y] ++ d.data).getD 14 0 = d.data.getD 12 0) ∧ (([x, y] ++ d.data).take 14).all digB = (d.data.take 12).all digB ∧ pairsN (([x, y] ++ d.data).take 14) = ((x.toNat - 48) * 10 + (y.toNat - 48)) :: pairsN (d.data.take 12) := by
        intro x y hx hy
        exact ⟨rfl, by simp [hx, hy], rfl⟩
      by_cases h53 : 53 ≤ c0.toNat
      · rw [if_pos h53]
        obtain ⟨k1, k2, k3⟩ := key 49 57 (by decide) (by decide)
        rw [k1, k2, k3]
        by_cases hc : d.data.getD 12 0 = 90 ∧ (d.data.take 12).all digB = true
        · rw [if_pos hc, if_pos hc]
          simp only [if_neg (show ¬ (12 = 14) by omega)]
          have hg : (pairsN (d.data.take 12)).getD 0 0 = (c0.toNat - 48) * 10 + (c1.toNat - 48) := by rw [t12]; rfl
          rw [hg, if_pos (by omega)]; rfl
        · rw [if_neg hc, if_neg hc]
      · rw [if_neg h53]
        obtain ⟨k1, k2, k3⟩ := key 50 48 (by decide) (by decide)
        rw [k1, k2, k3]
        by_cases hc : d.data.getD 12 0 = 90 ∧ (d.data.take 12).all digB = true
        · rw [if_pos hc, if_pos hc]
          simp only [if_neg (show ¬ (12 = 14) by omega)]
          have hg : (pairsN (d.data.take 12)).getD 0 0 = (c0.toNat - 48) * 10 + (c1.toNat - 48) := by rw [t12]; rfl
          have hall := hc.2
          rw [t12] at hall
          simp only [List.all_cons, Bool.and_eq_true] at hall
          have := digB_bd hall.1
          have := digB_bd hall.2.1
          rw [hg, if_neg (by omega)]; rfl
        · rw [if_neg hc, if_neg hc]

end
end Go.Proofs.YtffgchcidkapjaaDoor
