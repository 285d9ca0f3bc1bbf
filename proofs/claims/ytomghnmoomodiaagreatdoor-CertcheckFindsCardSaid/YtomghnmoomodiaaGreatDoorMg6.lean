/- Lemmas (several texts in one). -/
import Derived.Test.YtomghnmoomodiaaGreatDoorRows
import Derived.Test.YtomghnmoomodiaaGreatDoorMg5
/- The reference: named. -/
set_option linter.unusedVariables false
set_option linter.unusedSimpArgs false
set_option linter.unusedSectionVars false
set_option maxRecDepth 20000
namespace Go.Proofs.YtomghnmoomodiaaGreatDoor
open Go.GAM Go.RowKit

/-- What is known of the reference's Common at a text. -/
def RCommonAt (hb : AHeap) (cm : List UInt8 → List UInt8) (s : List UInt8) : Prop := (cm s).length ≤ 140737488351232 ∧ ∀ (h : AHeap) (Q : AV → AHeap → Prop), Upd (fun _ => False) hb h → (∀ h', Upd (fun _ => False) h h' → Q (.s (cm s)) h') → C G_ref34_Common.id [.s s] h Q

section
variable {h : AHeap} {Q : AV → AHeap → Prop} {c : Cert} {cs : List AV} {x : List UInt8} {cm : List UInt8 → List UInt8}

theorem Rnamed_p0 {h0 h1 : AHeap} {w : AV} {id : Nat} (R : RecAt h1 id (certC c w)) (hw : RdI 1 h1 w (c.names.map .s) c.names.length) (hl : c.names.length ≤ 9223372036854775807) (hn : ∀ n ∈ c.names, n.length ≤ 140737488351232) (hx : x.length ≤ 140737488351232) (E : Ext h0 h1) (hq : Q (.b (c.names.any fun n => matchS n x)) h0) : ∀ (r : List (List UInt8)) (i : Nat), c.names.drop i = r → (r.any fun n => matchS n x) = (c.names.any fun n => matchS n x) →
    G_ref35_named.p0 (kRet h0 Q) x (.p (some ⟨id, 8, 0⟩)) i h1 := by
  intro r
  induction r with
  | nil =>
    intro i hr hb
    have := drop_end hr
    refine G_ref35_named.i0 ?_
    simp only [G_ref35_named.t0]
    rw [← hb] at hq
    exact st_fld (st_load R rfl rfl (hw.len (bif_f (by simp; omega) (kRet_pure rfl E hq))))
  | cons t r ih =>
    intro i hr hb
    have hlt := drop_lt hr
    have hnx := drop_next hr
    have hci := at_of_drop hr
    refine G_ref35_named.i0 ?_
    simp only [G_ref35_named.t0, G_ref35_named.j0]
    refine st_fld (st_load R rfl rfl (hw.len (bif_t (by simp; omega) (st_fld (st_load R rfl rfl (hw.str (Upd.refl _ _) hci (Rmatch_c (hn t (List.mem_of_getElem? hci)) hx (st_asB ?_))))))))
    rw [List.any_cons] at hb
    cases hm : matchS t x with
    | true => rw [hm, Bool.true_or] at hb; rw [← hb] at hq; exact bif_t rfl (kRet_pure rfl E hq)
    | false => rw [hm, Bool.false_or] at hb; exact bif_f rfl (inc (by omega) (ih (i + 1) hnx hb))

theorem Rnamed_c (A : CV h c cs) (hl : c.names.length ≤ 9223372036854775807) (hn : ∀ n ∈ c.names, n.length ≤ 140737488351232) (hx : x.length ≤ 140737488351232) (hcm : c.names = [] → RCommonAt h cm c.subject) (hq : Q (.b (nmS cm c x)) h) : C G_ref35_named.id [.ag cs, .s x] h Q := by
  obtain ⟨w, rfl, hw⟩ := A
  obtain ⟨a, n, k, rfl⟩ := hw.isSl
  refine G_ref35_named.call ?_
  simp only [G_ref35_named.t, G_ref35_named.j0]
  refine st_box rfl fun h1 hl1 U1 R => ?_
  have hw := hw.ext U1
  unfold nmS at hq
  refine st_fld (st_load R rfl rfl (hw.len (bif_both (fun e => ?_) fun e => ?_)))
  · have e := of_decide_eq_true e
    have e : c.names = [] := List.eq_nil_of_length_eq_zero (by omega)
    rw [if_pos e] at hq
    refine st_fld (st_load R rfl rfl (st_asS ((hcm e).2 h1 _ U1 fun h2 U2 => st_asS ?_)))
    exact Rmatch_c (hcm e).1 hx (st_asB (kRet_pure rfl (U1.trans U2 fun _ _ h => h).ext hq))
  · have e := of_decide_eq_false e
    have e : c.names ≠ [] := fun h => e (by rw [h]; rfl)
    rw [if_neg e] at hq
    exact Rnamed_p0 R hw hl hn hx U1.ext hq c.names 0 rfl rfl
end
end Go.Proofs.YtomghnmoomodiaaGreatDoor

/- The reference: Check's loop over the chain (under way). -/
set_option linter.unusedVariables false
set_option linter.unusedSimpArgs false
set_option linter.unusedSectionVars false
set_option maxRecDepth 20000
namespace Go.GAM
theorem NewA.put {h0 h : AHeap} {v : AV} {cs : List AV} {n : Nat} (A : NewA 1 h0 h v cs n) {k : IntKind} {i : Nat} (hi : i < n) {b : Bool} {K : AHeap → Prop}
    (hk : ∀ h', Upd (SlAt v) h h' → NewA 1 h0 h' v (cs.set i (.b b)) n → K h') : pIdxAddrSl 1 v (.i k (i : Int)) h fun p => pStore 1 p (.b b) h K :=
  A.arr.store hi rfl rfl rfl fun h' U A' => hk h' U ⟨A.upd.trans U fun i hi e => by have := A.new i e; omega, A', A.new⟩
theorem NewA.get {h0 h : AHeap} {v : AV} {cs : List AV} {n : Nat} (A : NewA 1 h0 h v cs n) {k : IntKind} {i : Nat} (hi : i < n) {b : Bool} (hc : cs[i]? = some (.b b)) {K : Bool → Prop}
    (hk : K b) : pIdxAddrSl 1 v (.i k (i : Int)) h fun p => pLoad1 p h fun x => asB x K :=
  A.arr.rd.cell Nat.one_pos hi (by rw [Nat.mul_one]; exact hc) (st_asB hk)
end Go.GAM
namespace Go.Proofs.YtomghnmoomodiaaGreatDoor
open Go.GAM Go.RowKit

section
variable {h0 h hq : AHeap} {Q : AV → AHeap → Prop} {v vc vt w : AV} {ch tr : List Cert} {c : Cert} {x : List UInt8} {at' : Int} {id : Nat} {f0 b1 b2 f3 b4 f5 b6 b7 : Bool}

def fl8 (f0 b1 b2 f3 b4 f5 b6 b7 : Bool) : List AV := [.b f0, .b b1, .b b2, .b f3, .b b4, .b f5, .b b6, .b b7]

theorem fAt_1' {i : Nat} (h : ch[i]? = some c) : fAt tr at' ch 1 i = decide (c.til < at') := by unfold fAt; rw [h]; rfl
theorem fAt_2' {i : Nat} (h : ch[i]? = some c) : fAt tr at' ch 2 i = decide (at' < c.frm) := by unfold fAt; rw [h]; rfl
theorem fAt_4' {i : Nat} (h : ch[i]? = some c) : fAt tr at' ch 4 i = (decide (c.issuer = c.subject) && !hasS tr c) := by unfold fAt; rw [h]; rfl
theorem fAt_6' {d : Cert} {i : Nat} (h : ch[i]? = some c) (h2 : ch[i + 1]? = some d) : fAt tr at' ch 6 i = !decide (c.issuer = d.subject) := by unfold fAt; rw [h, h2]; rfl
theorem fAt_60 {i : Nat} (h : ch[i]? = some c) (h2 : ch[i + 1]? = none) : fAt tr at' ch 6 i = false := by unfold fAt; rw [h, h2]; rfl
theorem fAt_7' {i : Nat} (h : ch[i]? = some c) : fAt tr at' ch 7 i = (decide (0 < i) && !c.auth) := by unfold fAt; rw [h]; rfl

theorem RC_p1 {i : Nat} (A : NewA 1 h0 h v (fl8 f0 b1 b2 f3 b4 f5 b6 b7) 8) (R : RecAt h id (certC c w)) (hd : ¬ SlAt v id)
    (hk : ∀ h', Upd (SlAt v) h h' → NewA 1 h0 h' v (fl8 f0 b1 (b2 || decide (at' < c.frm)) f3 b4 f5 b6 b7) 8 → G_ref35_Check.p2 Q vc x at' vt v i (.p (some ⟨id, 8, 0⟩)) h') :
    G_ref35_Check.p1 Q vc x at' vt v i (.p (some ⟨id, 8, 0⟩)) h := by
  refine G_ref35_Check.i1 ?_
  simp only [G_ref35_Check.t1, G_ref35_Check.j2]
  refine A.get (i := 2) (by omega) rfl (bif_both (fun e => ?_) fun e => ?_)
  · subst e
    exact A.put (i := 2) (by omega) fun h' U A' => hk h' U (by simpa [fl8] using A')
  · subst e
    refine st_fld (st_load R rfl rfl (st_asI ?_))
    exact A.put (i := 2) (by omega) fun h' U A' => hk h' U (by simpa [fl8] using A')

theorem RC_p3 {i : Nat} (A : NewA 1 h0 h v (fl8 f0 b1 b2 f3 b4 f5 b6 b7) 8) (R : RecAt h id (certC c w)) (hd : ¬ SlAt v id)
    (hk : ∀ h', Upd (SlAt v) h h' → NewA 1 h0 h' v (fl8 f0 b1 b2 f3 b4 f5 b6 (b7 || (decide (0 < i) && !c.auth))) 8 → G_ref35_Check.p4 Q vc x at' vt v i (.p (some ⟨id, 8, 0⟩)) h') :
    G_ref35_Check.p3 Q vc x at' vt v i (.p (some ⟨id, 8, 0⟩)) h := by
  refine G_ref35_Check.i3 ?_
  simp only [G_ref35_Check.t3, G_ref35_Check.j4]
  refine A.get (i := 7) (by omega) rfl (bif_both (fun e => ?_) fun e => ?_)
  · subst e
    exact A.put (i := 7) (by omega) fun h' U A' => hk h' U (by simpa [fl8] using A')
  · subst e
    refine bif_both (fun e => ?_) fun e => ?_
    · have e : 0 < i := by have := of_decide_eq_true e; omega
      refine st_fld (st_load R rfl rfl (st_asB ?_))
      exact A.put (i := 7) (by omega) fun h' U A' => hk h' U (by simpa [fl8, e] using A')
    · have e : ¬ 0 < i := by have := of_decide_eq_false e; omega
      exact A.put (i := 7) (by omega) fun h' U A' => hk h' U (by simpa [fl8, e] using A')

theorem RC_p2 {i : Nat} (LT : CL h0 vt tr) (ht : tr.length ≤ 30) (hw : RdI 1 h w (c.names.map .s) c.names.length) (A : NewA 1 h0 h v (fl8 f0 b1 b2 f3 b4 f5 b6 b7) 8) (R : RecAt h id (certC c w))
    (hk : ∀ h', Upd (SlAt v) h h' → NewA 1 h0 h' v (fl8 f0 b1 b2 f3 (b4 || (decide (c.issuer = c.subject) && !hasS tr c)) f5 b6 b7) 8 → G_ref35_Check.p3 Q vc x at' vt v i (.p (some ⟨id, 8, 0⟩)) h') :
    G_ref35_Check.p2 Q vc x at' vt v i (.p (some ⟨id, 8, 0⟩)) h := by
  refine G_ref35_Check.i2 ?_
  simp only [G_ref35_Check.t2, G_ref35_Check.j3]
  refine A.get (i := 4) (by omega) rfl (bif_both (fun e => ?_) fun e => ?_)
  · subst e
    exact A.put (i := 4) (by omega) fun h' U A' => hk h' U (by simpa [fl8] using A')
  · subst e
    refine st_fld (st_load R rfl rfl (st_asS (st_fld (st_load R rfl rfl (st_asS ?_)))))
    refine bif_both (fun e => ?_) fun e => ?_
    · refine st_loadN R rfl (Rtrusts_c (LT.ext A.upd) (by omega) ⟨w, rfl, hw⟩ (st_asB ?_))
      exact A.put (i := 4) (by omega) fun h' U A' => hk h' U (by rw [e, Bool.true_and, Bool.false_or]; exact A')
    · exact A.put (i := 4) (by omega) fun h' U A' => hk h' U (by rw [e, Bool.false_and, Bool.false_or]; exact A')

theorem RC_p4 {i : Nat} (L : CL h0 vc ch) (hl : ch.length ≤ 30) (hci : ch[i]? = some c) (A : NewA 1 h0 h v (fl8 f0 b1 b2 f3 b4 f5 b6 b7) 8) (R : RecAt h id (certC c w))
    (hk : ∀ h', Upd (SlAt v) h h' → NewA 1 h0 h' v (fl8 f0 b1 b2 f3 b4 f5 (b6 || fAt tr at' ch 6 i) b7) 8 → G_ref35_Check.p0 Q vc x at' vt v (i + 1 : Nat) h') :
    G_ref35_Check.p4 Q vc x at' vt v i (.p (some ⟨id, 8, 0⟩)) h := by
  have hlt := lt_of_some hci
  have nxt : ∀ h', Upd (SlAt v) h h' → NewA 1 h0 h' v (fl8 f0 b1 b2 f3 b4 f5 (b6 || fAt tr at' ch 6 i) b7) 8 → G_ref35_Check.p5 Q vc x at' vt v i h' := by
    intro h' U A'
    refine G_ref35_Check.i5 ?_
    simp only [G_ref35_Check.t5, G_ref35_Check.j0]
    exact inc (by omega) (hk h' U A')
  refine G_ref35_Check.i4 ?_
  simp only [G_ref35_Check.t4, G_ref35_Check.j5]
  refine A.get (i := 6) (by omega) rfl (bif_both (fun e => ?_) fun e => ?_)
  · subst e
    exact A.put (i := 6) (by omega) fun h' U A' => nxt h' U (by rw [Bool.true_or]; exact A')
  · subst e
    refine inc (by omega) ((L.ext A.upd).len (bif_both (fun e => ?_) fun e => ?_))
    · have e : i + 1 < ch.length := by have := of_decide_eq_true e; omega
      have hci2 : ch[i + 1]? = some ch[i + 1] := List.getElem?_eq_getElem e
      generalize ch[i + 1] = d at hci2
      obtain ⟨p, rw_, B1, B, hp⟩ := (L.ext A.upd).at hci2
      obtain ⟨w', rfl, hw'⟩ := B1
      refine st_fld (st_load R rfl rfl (st_asS (inc (by omega) (hp _ h _ (Upd.refl _ _) (B.fld (o := 2) rfl (st_asS ?_))))))
      exact A.put (i := 6) (by omega) fun h' U A' => nxt h' U (by rw [fAt_6' hci hci2, Bool.false_or]; exact A')
    · have e : ¬ i + 1 < ch.length := by have := of_decide_eq_false e; omega
      exact A.put (i := 6) (by omega) fun h' U A' => nxt h' U (by rw [fAt_60 hci (List.getElem?_eq_none (by omega)), Bool.false_or]; exact A')

def gS (tr : List Cert) (at' : Int) (ch : List Cert) (f i : Nat) : Bool := (List.range i).any (fAt tr at' ch f)
theorem gS_succ (f i : Nat) : gS tr at' ch f (i + 1) = (gS tr at' ch f i || fAt tr at' ch f i) := by
  unfold gS; rw [List.range_succ, List.any_append]; simp
def stS (tr : List Cert) (at' : Int) (ch : List Cert) (i : Nat) : List AV := fl8 false (gS tr at' ch 1 i) (gS tr at' ch 2 i) false (gS tr at' ch 4 i) false (gS tr at' ch 6 i) (gS tr at' ch 7 i)

theorem RC_p0 (L : CL h0 vc ch) (hl : ch.length ≤ 30) (LT : CL h0 vt tr) (ht : tr.length ≤ 30) (hend : ∀ h, NewA 1 h0 h v (stS tr at' ch ch.length) 8 → G_ref35_Check.p0 Q vc x at' vt v ch.length h) : ∀ (r : List Cert) (i : Nat) (h : AHeap), ch.drop i = r → i ≤ ch.length → NewA 1 h0 h v (stS tr at' ch i) 8 → G_ref35_Check.p0 Q vc x at' vt v i h := by
  intro r
  induction r with
  | nil =>
    intro i h hr hle A
    have h1 := drop_end hr
    obtain rfl : i = ch.length := by omega
    exact hend h A
  | cons c r ih =>
    intro i h hr hle A
    have hlt := drop_lt hr
    have hn := drop_next hr
    have hci := at_of_drop hr
    obtain ⟨p, rw_, B1, B, hp⟩ := L.at hci
    have hok := B1.ok
    obtain ⟨w, rfl, hw⟩ := B1
    refine G_ref35_Check.i0 ?_
    simp only [G_ref35_Check.t0, G_ref35_Check.j1]
    refine (L.ext A.upd).len (bif_t (by simp; omega) (hp _ h _ A.upd ((B.ext A.upd).loadN (st_alloc fun h2 hl2 U2 Rc => st_storeN Rc rfl rfl hok fun h3 hl3 U3 Rc => ?_))))
    have U03 : Upd (fun _ => False) h h3 := U2.own U3 (Nat.le_refl _)
    have hold : ∀ j, SlAt v j → j < h.length := fun j e => by
      rcases A.arr with ⟨rfl, _⟩ | ⟨jd, b, rfl, g, _⟩
      · exact e.elim
      · cases e; exact lt_of_some g
    have hd : ¬ SlAt v h.length := fun e => by have := hold _ e; omega
    have A3 : NewA 1 h0 h3 v (stS tr at' ch i) 8 := ⟨A.upd.trans U03 fun _ _ h => h, A.arr.upd U03 fun _ _ h => h, A.new⟩
    have go : ∀ h4, Upd (SlAt v) h3 h4 → NewA 1 h0 h4 v (fl8 false (gS tr at' ch 1 (i + 1)) (gS tr at' ch 2 i) false (gS tr at' ch 4 i) false (gS tr at' ch 6 i) (gS tr at' ch 7 i)) 8 → G_ref35_Check.p1 Q vc x at' vt v i (.p (some ⟨h.length, 8, 0⟩)) h4 := by
      intro h4 U4 A4
      have R4 := Rc.upd U4 hd
      refine RC_p1 A4 R4 hd fun h5 U5 A5 => ?_
      have R5 := R4.upd U5 hd
      refine RC_p2 LT ht (hw.ext A5.upd) A5 R5 fun h6 U6 A6 => ?_
      have R6 := R5.upd U6 hd
      refine RC_p3 A6 R6 hd fun h7 U7 A7 => ?_
      refine RC_p4 (tr := tr) (at' := at') L hl hci A7 (R6.upd U7 hd) fun h8 U8 A8 => ih (i + 1) h8 hn (by omega) ?_
      unfold stS
      rw [gS_succ 2 i, gS_succ 4 i, gS_succ 6 i, gS_succ 7 i, fAt_2' hci, fAt_4' hci, fAt_7' hci]
      exact A8
    refine A3.get (i := 1) (by omega) rfl (bif_both (fun e => ?_) fun e => ?_)
    · exact A3.put (i := 1) (by omega) fun h' U A' => go h' U (by rw [gS_succ, e]; exact A')
    · refine st_fld (st_load Rc rfl rfl (st_asI ?_))
      exact A3.put (i := 1) (by omega) fun h' U A' => go h' U (by rw [gS_succ, e, fAt_1' hci]; exact A')
end
end Go.Proofs.YtomghnmoomodiaaGreatDoor

/- The reference: Check's answer. -/
set_option linter.unusedVariables false
set_option linter.unusedSimpArgs false
set_option linter.unusedSectionVars false
set_option maxRecDepth 20000
namespace Go.Proofs.YtomghnmoomodiaaGreatDoor
open Go.GAM Go.RowKit

section
variable {h0 : AHeap} {Q : AV → AHeap → Prop} {v : AV} {fin : List Bool}
def outL (fin : List Bool) (i : Nat) : List Nat := (List.range i).filter fun f => fin.getD f false
theorem outL_succ (i : Nat) : outL fin (i + 1) = outL fin i ++ if fin.getD i false = true then [i] else [] := by
  unfold outL
  rw [List.range_succ, List.filter_append, List.filter_cons, List.filter_nil]
theorem outL_len (i : Nat) : (outL fin i).length ≤ i := by
  have := List.length_filter_le (fun f => fin.getD f false) (List.range i)
  simpa [outL] using this

theorem RC_p8 (hfl : fin.length = 8) (hq : ∀ w h', NewS h0 h' w ((outL fin 8).map num) → Q w h') : ∀ (n i : Nat) (w : AV) (h : AHeap), 8 - i = n → i ≤ 8 → NewA 1 h0 h v (fin.map .b) 8 → NewS h0 h w ((outL fin i).map num) → (∀ j, SlAt w j → ¬ SlAt v j) → (∀ j, SlAt v j → j < h.length) → G_ref35_Check.p8 Q v w i h := by
  intro n
  induction n with
  | zero =>
    intro i w h hi hle A S D V
    obtain rfl : i = 8 := by omega
    refine G_ref35_Check.i8 ?_
    simp only [G_ref35_Check.t8]
    exact A.arr.rd.len (bif_f (by decide) (hq w h S))
  | succ n ih =>
    intro i w h hi hle A S D V
    have hlt : i < 8 := by omega
    have nxt : ∀ w' h', NewA 1 h0 h' v (fin.map .b) 8 → NewS h0 h' w' ((outL fin (i + 1)).map num) → (∀ j, SlAt w' j → ¬ SlAt v j) → (∀ j, SlAt v j → j < h'.length) → G_ref35_Check.p9 Q v w' i h' := by
      intro w' h' A' S' D' V'
      refine G_ref35_Check.i9 ?_
      simp only [G_ref35_Check.t9, G_ref35_Check.j8]
      exact inc (by omega) (ih (i + 1) w' h' (by omega) (by omega) A' S' D' V')
    refine G_ref35_Check.i8 ?_
    simp only [G_ref35_Check.t8, G_ref35_Check.j9]
    have hc : (fin.map AV.b)[i]? = some (.b (fin.getD i false)) := by
      rw [List.getElem?_map, List.getElem?_eq_getElem (by omega), List.getD_eq_getElem?_getD, List.getElem?_eq_getElem (by omega)]; rfl
    have hs := outL_succ (fin := fin) i
    refine A.arr.rd.len (bif_t (by simp; omega) (A.get hlt hc (bif_both (fun e => ?_) fun e => ?_)))
    · have hl := outL_len (fin := fin) i
      refine S.push (x := num i) rfl rfl (by rw [List.length_map]; omega) (by rw [List.length_map]; omega) fun w' h' S' U F => ?_
      refine nxt w' h' ⟨A.upd.trans U fun j hj e => by have := S.new j e; omega, A.arr.upd U fun j e1 e2 => D j e2 e1, A.new⟩ ?_ ?_ ?_
      · rw [hs, if_pos e, List.map_append]; exact S'
      · intro j e1 e2
        rcases F j e1 with g | g
        · exact D j g e2
        · have := V j e2; omega
      · intro j e; exact Nat.lt_of_lt_of_le (V j e) U.1
    · refine nxt w h A ?_ D V
      rw [hs, if_neg (by rw [e]; decide), List.append_nil]; exact S

theorem RC_p7 {h : AHeap} (hfl : fin.length = 8) (A : NewA 1 h0 h v (fin.map .b) 8) (V : ∀ j, SlAt v j → j < h.length) (hq : ∀ w h', NewS h0 h' w ((outL fin 8).map num) → Q w h') : G_ref35_Check.p7 Q v h := by
  refine G_ref35_Check.i7 ?_
  simp only [G_ref35_Check.t7, G_ref35_Check.j8]
  refine NewS.empty A.upd fun w h' S U F => ?_
  exact RC_p8 hfl hq 8 0 w h' rfl (by omega) ⟨A.upd.trans U fun _ _ h => h, A.arr.upd U fun _ _ h => h, A.new⟩ S (fun j e1 e2 => by have := F j e1; have := V j e2; omega) fun j e => Nat.lt_of_lt_of_le (V j e) U.1
end
end Go.Proofs.YtomghnmoomodiaaGreatDoor

/- The reference: Check. -/
set_option linter.unusedVariables false
set_option linter.unusedSimpArgs false
set_option linter.unusedSectionVars false
set_option maxRecDepth 20000
namespace Go.Proofs.YtomghnmoomodiaaGreatDoor
open Go.GAM Go.RowKit

theorem RCommonAt.ext {hb h' : AHeap} {cm : List UInt8 → List UInt8} {s : List UInt8} (C : RCommonAt hb cm s) (U : Upd (fun _ => False) hb h') : RCommonAt h' cm s := ⟨C.1, fun h Q U' hq => C.2 h Q (U.trans U' fun _ _ h => h) hq⟩

section
variable {h0 h : AHeap} {Q : AV → AHeap → Prop} {v vc vt w : AV} {ch tr : List Cert} {last : Cert} {x : List UInt8} {at' : Int} {id : Nat} {f0 b1 b2 f3 b4 f5 b6 b7 : Bool} {cm : List UInt8 → List UInt8}

theorem RC_p6 (LT : CL h0 vt tr) (ht : tr.length ≤ 30) (hw : RdI 1 h0 w (last.names.map .s) last.names.length) (A : NewA 1 h0 h v (fl8 f0 b1 b2 f3 b4 f5 b6 b7) 8) (R : RecAt h id (certC last w))
    (hk : ∀ h', Upd (SlAt v) h h' → NewA 1 h0 h' v (fl8 f0 b1 b2 f3 b4 (!hasS tr last && !autS tr last.issuer) b6 b7) 8 → G_ref35_Check.p7 Q v h') :
    G_ref35_Check.p6 Q vt v (.p (some ⟨id, 8, 0⟩)) h := by
  refine G_ref35_Check.i6 ?_
  simp only [G_ref35_Check.t6, G_ref35_Check.j7]
  refine st_loadN R rfl (Rtrusts_c (LT.ext A.upd) (by omega) ⟨w, rfl, hw.ext A.upd⟩ (st_asB (bif_both (fun e => ?_) fun e => ?_)))
  · refine st_loadN R rfl (Rissued_c (LT.ext A.upd) (by omega) ⟨w, rfl, hw.ext A.upd⟩ (st_asB ?_))
    exact A.put (i := 5) (by omega) fun h' U A' => hk h' U (by rw [e, Bool.true_and]; exact A')
  · exact A.put (i := 5) (by omega) fun h' U A' => hk h' U (by rw [e, Bool.false_and]; exact A')

theorem RC_end (L : CL h0 vc ch) (hl : ch.length ≤ 30) (hne : ch ≠ []) (LT : CL h0 vt tr) (ht : tr.length ≤ 30) (hn : ∀ c ∈ ch, c.names.length ≤ 9223372036854775807 ∧ ∀ n ∈ c.names, n.length ≤ 140737488351232) (hx : x.length ≤ 140737488351232)
    (hcm : ∀ c, ch[0]? = some c → c.names = [] → RCommonAt h0 cm c.subject) (A : NewA 1 h0 h v (fl8 f0 b1 b2 f3 b4 f5 b6 b7) 8)
    (hk : ∀ h', h.length ≤ h'.length → NewA 1 h0 h' v (fl8 f0 b1 b2 (holdS cm tr x ch 3) b4 (holdS cm tr x ch 5) b6 b7) 8 → G_ref35_Check.p7 Q v h') :
    G_ref35_Check.p0 Q vc x at' vt v ch.length h := by
  have hpos : 0 < ch.length := List.length_pos_iff.2 hne
  have hci : ch[ch.length - 1]? = some ch[ch.length - 1] := List.getElem?_eq_getElem (by omega)
  generalize ch[ch.length - 1] = last at hci
  have hc0 : ch[0]? = some ch[0] := List.getElem?_eq_getElem (by omega)
  generalize ch[0] = c0 at hc0
  obtain ⟨p, rw_, B1, B, hp⟩ := L.at hci
  have hok := B1.ok
  obtain ⟨w, rfl, hw⟩ := B1
  obtain ⟨p0, rw0, B10, B0, hp0⟩ := L.at hc0
  refine G_ref35_Check.i0 ?_
  simp only [G_ref35_Check.t0, G_ref35_Check.j6]
  refine (L.ext A.upd).len (bif_f (by simp) ((L.ext A.upd).len ?_))
  refine withI_is (n := ((ch.length - 1 : Nat) : Int)) (by rw [wrap_i64 (by omega) (by omega)]; omega) ?_
  refine hp _ h _ A.upd ((B.ext A.upd).loadN (st_alloc fun h2 hl2 U2 Rc => st_storeN Rc rfl rfl hok fun h3 hl3 U3 Rc => ?_))
  have U03 : Upd (fun _ => False) h h3 := U2.own U3 (Nat.le_refl _)
  have hold : ∀ j, SlAt v j → j < h.length := fun j e => by
    rcases A.arr with ⟨rfl, _⟩ | ⟨jd, b, rfl, g, _⟩
    · exact e.elim
    · cases e; exact lt_of_some g
  have hd : ¬ SlAt v h.length := fun e => by have := hold _ e; omega
  have A3 : NewA 1 h0 h3 v (fl8 f0 b1 b2 f3 b4 f5 b6 b7) 8 := ⟨A.upd.trans U03 fun _ _ h => h, A.arr.upd U03 fun _ _ h => h, A.new⟩
  have e5 : holdS cm tr x ch 5 = (!hasS tr last && !autS tr last.issuer) := by unfold holdS; rw [hci]; rfl
  have go : ∀ h4, Upd (SlAt v) h3 h4 → NewA 1 h0 h4 v (fl8 f0 b1 b2 (holdS cm tr x ch 3) b4 f5 b6 b7) 8 → G_ref35_Check.p6 Q vt v (.p (some ⟨h.length, 8, 0⟩)) h4 := by
    intro h4 U4 A4
    refine RC_p6 LT ht hw A4 (Rc.upd U4 hd) fun h5 U5 A5 => hk h5 ?_ (by rw [e5]; exact A5)
    exact Nat.le_trans (Nat.le_trans U03.1 U4.1) U5.1
  refine bif_both (fun e => ?_) fun e => ?_
  · refine hp0 _ h3 _ A3.upd ((B0.ext A3.upd).loadN (Rnamed_c (cm := cm) (B10.ext A3.upd) (hn c0 (List.mem_of_getElem? hc0)).1 (hn c0 (List.mem_of_getElem? hc0)).2 hx (fun h => (hcm c0 hc0 h).ext A3.upd) (st_asB ?_)))
    have e3 : holdS cm tr x ch 3 = !nmS cm c0 x := by
      unfold holdS; rw [hc0, if_pos rfl, e, Bool.true_and]
    exact A3.put (i := 3) (by omega) fun h' U A' => go h' U (by rw [e3]; exact A')
  · have e3 : holdS cm tr x ch 3 = false := by
      unfold holdS; rw [if_pos rfl, e, Bool.false_and]
    exact A3.put (i := 3) (by omega) fun h' U A' => go h' U (by rw [e3]; exact A')
end
end Go.Proofs.YtomghnmoomodiaaGreatDoor

/- The reference: Check, as a whole. -/
set_option linter.unusedVariables false
set_option linter.unusedSimpArgs false
set_option linter.unusedSectionVars false
set_option maxRecDepth 20000
namespace Go.Proofs.YtomghnmoomodiaaGreatDoor
open Go.GAM Go.RowKit

section
variable {cm : List UInt8 → List UInt8} {tr ch : List Cert} {x : List UInt8} {at' : Int}

def finS (cm : List UInt8 → List UInt8) (tr : List Cert) (x : List UInt8) (at' : Int) (ch : List Cert) : List Bool :=
  [false, gS tr at' ch 1 ch.length, gS tr at' ch 2 ch.length, holdS cm tr x ch 3, gS tr at' ch 4 ch.length, holdS cm tr x ch 5, gS tr at' ch 6 ch.length, gS tr at' ch 7 ch.length]
theorem fAt_35 (f i : Nat) (hf : f = 3 ∨ f = 5) : fAt tr at' ch f i = false := by
  unfold fAt
  split
  · rfl
  · rcases hf with rfl | rfl <;> rfl
theorem fAny_35 (f : Nat) (hf : f = 3 ∨ f = 5) : fAny tr at' ch f = false := by
  unfold fAny
  rw [List.any_eq_false]
  intro i _
  rw [fAt_35 f i hf]; decide
theorem fin_found (f : Nat) (hf : f < 7) : (finS cm tr x at' ch).getD (f + 1) false = foundS cm tr x at' ch (f + 1) := by
  unfold foundS
  match f, hf with
  | 0, _ => rfl
  | 1, _ => rfl
  | 2, _ => rw [fAny_35 (2 + 1) (.inl rfl), Bool.or_false]; rfl
  | 3, _ => rfl
  | 4, _ => rw [fAny_35 (4 + 1) (.inr rfl), Bool.or_false]; rfl
  | 5, _ => rfl
  | 6, _ => rfl
theorem fin_out : outL (finS cm tr x at' ch) 8 = outS cm tr x at' ch 7 := by
  unfold outL outS
  rw [show List.range 8 = 0 :: (List.range 7).map (· + 1) from rfl, List.filter_cons, if_neg (by show ¬ (false = true); decide)]
  refine List.filter_congr fun f hf => ?_
  obtain ⟨g, hg, rfl⟩ := List.mem_map.1 hf
  exact fin_found g (List.mem_range.1 hg)

variable {h : AHeap} {Q : AV → AHeap → Prop} {vc vt : AV}
theorem Rcheck_c (L : CL h vc ch) (hl : ch.length ≤ 30) (LT : CL h vt tr) (ht : tr.length ≤ 30) (hn : ∀ c ∈ ch, c.names.length ≤ 9223372036854775807 ∧ ∀ n ∈ c.names, n.length ≤ 140737488351232) (hx : x.length ≤ 140737488351232)
    (hcm : ∀ c, ch[0]? = some c → c.names = [] → RCommonAt h cm c.subject) (hq : ∀ w h', Upd (fun _ => False) h h' → Rd 1 h' w ((checkS cm tr x at' ch).map num) (checkS cm tr x at' ch).length → Q w h') : C G_ref35_Check.id [vc, .s x, .i .i64 at', vt] h Q := by
  obtain ⟨a, n, k, rfl⟩ : ∃ a n c, vc = .sl a n c := by obtain ⟨_, R, _⟩ := L; exact R.isSl
  obtain ⟨a2, n2, k2, rfl⟩ : ∃ a n c, vt = .sl a n c := by obtain ⟨_, R, _⟩ := LT; exact R.isSl
  refine G_ref35_Check.call ?_
  simp only [G_ref35_Check.t, G_ref35_Check.j0]
  refine L.len (bif_both (fun e => ?_) fun e => ?_)
  · have e := of_decide_eq_true e
    have e : ch = [] := List.eq_nil_of_length_eq_zero (by omega)
    refine st_build (cs := [num 5]) (len := 1) rfl rfl fun v1 h1 hl1 U1 R1 F1 => .inl (hq v1 h1 U1 ?_)
    unfold checkS; rw [if_pos e]; exact R1
  · have e := of_decide_eq_false e
    have e : ch ≠ [] := fun h => e (by rw [h]; rfl)
    refine st_make (n := 8) (by omega) (by omega) fun v h' A => ?_
    refine RC_p0 (tr := tr) (at' := at') L hl LT ht (fun h2 A2 => ?_) ch 0 h' rfl (by omega) A
    refine RC_end (cm := cm) L hl e LT ht hn hx hcm A2 fun h3 hl3 A3 => ?_
    refine RC_p7 (fin := finS cm tr x at' ch) rfl A3 (fun j e => ?_) fun w h4 S => .inl (hq w h4 S.upd ?_)
    · rcases A3.arr with ⟨rfl, _⟩ | ⟨jd, b, rfl, g, _⟩
      · exact e.elim
      · cases e; exact lt_of_some g
    · have := S.stk.rd
      rw [fin_out, List.length_map] at this
      unfold checkS; rw [if_neg e]; exact this
end
end Go.Proofs.YtomghnmoomodiaaGreatDoor

/- The reference of names: identifier. -/
set_option linter.unusedVariables false
set_option linter.unusedSimpArgs false
set_option linter.unusedSectionVars false
set_option maxRecDepth 20000
namespace Go.Proofs.YtomghnmoomodiaaGreatDoor
open Go.GAM Go.RowKit

section
variable {h : AHeap} {Q : AV → AHeap → Prop}
def attB (t : List UInt8) : Bool := decide (t = [67, 78]) || (decide (t = [79]) || (decide (t = [79, 85]) || decide (t = [67])))
theorem ident_c {t : List UInt8} (hq : ∀ r, Q (.tu [.s r, .b (attB t)]) h) : C G_ref34_identifier.id [.s t] h Q := by
  refine G_ref34_identifier.call ?_
  simp only [G_ref34_identifier.t]
  have fin : ∀ r b, b = attB t → kRet h Q (.tu [.s r, .b b]) h := by
    intro r b hb
    subst hb
    exact kRet_pure rfl (Ext.refl _) (hq r)
  unfold attB at fin
  refine bif_both (fun e => fin _ _ (by rw [e]; rfl)) fun e => bif_both (fun e1 => fin _ _ (by rw [e, e1]; rfl)) fun e1 => bif_both (fun e2 => fin _ _ (by rw [e, e1, e2]; rfl)) fun e2 => bif_both (fun e3 => fin _ _ (by rw [e, e1, e2, e3]; rfl)) fun e3 => fin _ _ (by rw [e, e1, e2, e3]; rfl)
end
end Go.Proofs.YtomghnmoomodiaaGreatDoor

/- The reference of names: Common, with Attributes as it is. -/
set_option linter.unusedVariables false
set_option linter.unusedSimpArgs false
set_option linter.unusedSectionVars false
set_option maxRecDepth 20000
namespace Go.Proofs.YtomghnmoomodiaaGreatDoor
open Go.GAM Go.RowKit

section
variable {h : AHeap} {Q : AV → AHeap → Prop}
def cnS : List (List UInt8 × List UInt8) → List UInt8
  | [] => []
  | a :: r => if a.1 = [67, 78] then a.2 else cnS r
def prs (l : List (List UInt8 × List UInt8)) : List AV := l.flatMap fun a => [.s a.1, .s a.2]
theorem prs_at : ∀ (l : List (List UInt8 × List UInt8)) (i : Nat) (a), l[i]? = some a → ((prs l).drop (i * 2)).take 2 = [.s a.1, .s a.2]
  | b :: l, 0, a, h => by cases h; rfl
  | b :: l, i + 1, a, h => by
    rw [show (i + 1) * 2 = 2 + i * 2 by omega, ← List.drop_drop]
    exact prs_at l i a (by simpa using h)

theorem Rcommon_p0 {h0 h1 : AHeap} {w : AV} {l : List (List UInt8 × List UInt8)} (R : RdI 2 h1 w (prs l) l.length) (hl : l.length ≤ 1000) (E : Ext h0 h1) (hq : Q (.s (cnS l)) h0) : ∀ (r : List (List UInt8 × List UInt8)) (i : Nat), l.drop i = r → cnS r = cnS l → G_ref34_Common.p0 (kRet h0 Q) w i h1 := by
  intro r
  induction r with
  | nil =>
    intro i hr hb
    have := drop_end hr
    refine G_ref34_Common.i0 ?_
    simp only [G_ref34_Common.t0]
    rw [← hb] at hq
    exact R.len (bif_f (by simp; omega) (kRet_pure rfl E hq))
  | cons a r ih =>
    intro i hr hb
    have hlt := drop_lt hr
    have hn := drop_next hr
    obtain ⟨p, A, hp⟩ := R.at (i := i) hlt
    rw [prs_at l i a (at_of_drop hr)] at A
    refine G_ref34_Common.i0 ?_
    simp only [G_ref34_Common.t0, G_ref34_Common.j0]
    refine R.len (bif_t (by simp; omega) (hp _ h1 _ (Upd.refl _ _) (A.fld (o := 0) rfl (st_asS (bif_both (fun e => ?_) fun e => ?_)))))
    · have e := of_decide_eq_true e
      refine hp _ h1 _ (Upd.refl _ _) (A.fld (o := 1) rfl (st_asS (kRet_pure rfl E ?_)))
      rw [show cnS (a :: r) = a.2 from if_pos e] at hb
      rw [hb]; exact hq
    · have e := of_decide_eq_false e
      rw [show cnS (a :: r) = cnS r from if_neg e] at hb
      exact inc (by omega) (ih (i + 1) hn hb)

theorem Rcommon_c {s : List UInt8} {l : List (List UInt8 × List UInt8)} {ok : Bool} (hA : s.length ≤ 512 → ∀ (Q : AV → AHeap → Prop), (∀ w h', Upd (fun _ => False) h h' → RdI 2 h' w (prs l) l.length → Q (.tu [w, .b ok]) h') → C G_ref34_Attributes.id [.s s] h Q) (hl : l.length ≤ 1000)
    (hq : Q (.s (if s.length ≤ 512 then cnS l else [])) h) : C G_ref34_Common.id [.s s] h Q := by
  refine G_ref34_Common.call ?_
  simp only [G_ref34_Common.t, G_ref34_Common.j0]
  refine bif_both (fun e => ?_) fun e => ?_
  · have e := of_decide_eq_true e
    rw [if_neg (by omega)] at hq
    exact kRet_pure rfl (Ext.refl _) hq
  · have e := of_decide_eq_false e
    have e : s.length ≤ 512 := by omega
    rw [if_pos e] at hq
    refine hA e _ fun w h' U R => st_ext0 (st_ext1 (st_asB ?_))
    exact Rcommon_p0 R hl U.ext hq l 0 rfl rfl
end
end Go.Proofs.YtomghnmoomodiaaGreatDoor

/- The plain law of names: what the reference reads is what the program writes. -/
set_option linter.unusedVariables false
set_option linter.unusedSimpArgs false
set_option linter.unusedSectionVars false
set_option maxRecDepth 20000
namespace Go.Proofs.YtomghnmoomodiaaGreatDoor
open Go.GAM Go.RowKit

abbrev Att := List UInt8 × List UInt8
/-- A byte that no value holds. -/
def badC (c : UInt8) : Bool := decide (c = 61) || !textB c
/-- A value, up to a comma or the end. -/
def scanV : List UInt8 → Option (List UInt8 × List UInt8)
  | [] => some ([], [])
  | [c] => if c = 44 then some ([], [c]) else if badC c = true ∨ c = 92 then none else some ([c], [])
  | c :: d :: r => if c = 44 then some ([], c :: d :: r) else if badC c = true then none else
      if c = 92 then (if d ∈ sps then (scanV r).map fun p => (d :: p.1, p.2) else none) else (scanV (d :: r)).map fun p => (c :: p.1, p.2)
def scanA : Nat → List UInt8 → Option (List Att)
  | 0, _ => none
  | n + 1, s => if attB (s.takeWhile (· ≠ 61)) = false ∨ s.dropWhile (· ≠ 61) = [] then none else match scanV ((s.dropWhile (· ≠ 61)).drop 1) with
    | none => none
    | some (v, []) => some [(s.takeWhile (· ≠ 61), v)]
    | some (v, _ :: r) => (scanA n r).map ((s.takeWhile (· ≠ 61), v) :: ·)
def attrsS (s : List UInt8) : Option (List Att) := if s = [] then some [] else scanA (s.length + 1) s
def rend1 (a : Att) : List UInt8 := (a.1 ++ [61]) ++ escS sps a.2
def okA (a : Att) : Prop := attB a.1 = true ∧ a.2.all textB = true
def rendJ (l : List Att) : List UInt8 := Lib.join (l.map rend1) [44]

theorem rendJ_one (a : Att) : rendJ [a] = rend1 a := by unfold rendJ; simp [Lib.join_cons, Lib.joinTail]
theorem rendJ_cons (a b : Att) (l : List Att) : rendJ (a :: b :: l) = rend1 a ++ 44 :: rendJ (b :: l) := by
  unfold rendJ; simp [Lib.join_cons, Lib.joinTail]

theorem sps_text {c : UInt8} (h : c ∈ sps) : textB c = true := by
  simp only [sps, List.mem_cons, List.not_mem_nil, or_false] at h
  rcases h with rfl | rfl | rfl <;> rfl
theorem sps_mem {c : UInt8} : c ∈ sps ↔ c = 92 ∨ c = 44 ∨ c = 61 := by simp [sps]
theorem escS_cons (c : UInt8) (v : List UInt8) : escS sps (c :: v) = (if c ∈ sps then [92, c] else [c]) ++ escS sps v := rfl

theorem scanV_good (c : UInt8) (X : List UInt8) (h : c ∉ sps) (ht : textB c = true) : scanV (c :: X) = (scanV X).map fun p => (c :: p.1, p.2) := by
  rw [sps_mem] at h
  have h1 : c ≠ 92 := fun e => h (.inl e)
  have h2 : c ≠ 44 := fun e => h (.inr (.inl e))
  have h3 : c ≠ 61 := fun e => h (.inr (.inr e))
  have hb : badC c = false := by unfold badC; rw [decide_eq_false h3, ht]; rfl
  cases X with
  | nil => unfold scanV; rw [if_neg h2, if_neg (by rw [hb]; simp [h1])]; rfl
  | cons d r => rw [scanV, if_neg h2, if_neg (by rw [hb]; simp), if_neg h1]
theorem scanV_esc (c : UInt8) (X : List UInt8) (h : c ∈ sps) : scanV (92 :: c :: X) = (scanV X).map fun p => (c :: p.1, p.2) := by
  rw [scanV, if_neg (by decide), if_neg (by decide), if_pos rfl, if_pos h]

theorem scanV_rend : ∀ (v r : List UInt8), v.all textB = true → (r = [] ∨ ∃ r', r = 44 :: r') → scanV (escS sps v ++ r) = some (v, r)
  | [], r, _, hr => by
    rcases hr with rfl | ⟨r', rfl⟩
    · rfl
    · cases r' <;> rfl
  | c :: v, r, hv, hr => by
    simp only [List.all_cons, Bool.and_eq_true] at hv
    rw [escS_cons]
    by_cases h : c ∈ sps
    · rw [if_pos h]
      show scanV (92 :: c :: (escS sps v ++ r)) = _
      rw [scanV_esc c _ h, scanV_rend v r hv.2 hr]; rfl
    · rw [if_neg h]
      show scanV (c :: (escS sps v ++ r)) = _
      rw [scanV_good c _ h hv.1, scanV_rend v r hv.2 hr]; rfl

theorem scanV_is : ∀ (s : List UInt8) (v r : List UInt8), scanV s = some (v, r) → s = escS sps v ++ r ∧ v.all textB = true ∧ (r = [] ∨ ∃ r', r = 44 :: r')
  | [], v, r, h => by
    unfold scanV at h; cases h
    exact ⟨rfl, rfl, .inl rfl⟩
  | [c], v, r, h => by
    unfold scanV at h
    split at h
    · rename_i e; subst e; cases h
      exact ⟨rfl, rfl, .inr ⟨[], rfl⟩⟩
    · rename_i e
      split at h
      · cases h
      · rename_i e2
        cases h
        have hb : ¬ badC c = true := fun e => e2 (.inl e)
        have h92 : c ≠ 92 := fun e => e2 (.inr e)
        unfold badC at hb
        simp only [Bool.or_eq_true, decide_eq_true_eq, Bool.not_eq_true', not_or] at hb
        have ht : textB c = true := by simpa using hb.2
        have hs : c ∉ sps := fun h => by
          rcases sps_mem.1 h with h | h | h
          · exact h92 h
          · exact e h
          · exact hb.1 h
        refine ⟨?_, by simp [ht], .inl rfl⟩
        rw [escS_cons, if_neg hs]; rfl
  | c :: d :: r0, v, r, h => by
    rw [scanV] at h
    split at h
    · rename_i e; subst e; cases h
      exact ⟨rfl, rfl, .inr ⟨_, rfl⟩⟩
    · rename_i e
      split at h
      · cases h
      · rename_i hb
        unfold badC at hb
        simp only [Bool.or_eq_true, decide_eq_true_eq, Bool.not_eq_true', not_or] at hb
        have ht : textB c = true := by simpa using hb.2
        split at h
        · rename_i e92
          subst e92
          split at h
          · rename_i hd
            cases hs : scanV r0 with
            | none => rw [hs] at h; cases h
            | some p =>
              obtain ⟨v', r'⟩ := p
              rw [hs] at h; cases h
              obtain ⟨h1, h2, h3⟩ := scanV_is r0 v' r' hs
              refine ⟨?_, by simp [h2, sps_text hd], h3⟩
              rw [escS_cons, if_pos hd]
              show 92 :: d :: r0 = 92 :: d :: (escS sps v' ++ r')
              rw [h1]
          · cases h
        · rename_i h92
          cases hs : scanV (d :: r0) with
          | none => rw [hs] at h; cases h
          | some p =>
            obtain ⟨v', r'⟩ := p
            rw [hs] at h; cases h
            obtain ⟨h1, h2, h3⟩ := scanV_is (d :: r0) v' r' hs
            have hns : c ∉ sps := fun h => by
              rcases sps_mem.1 h with h | h | h
              · exact h92 h
              · exact e h
              · exact hb.1 h
            refine ⟨?_, by simp [h2, ht], h3⟩
            rw [escS_cons, if_neg hns]
            show c :: d :: r0 = c :: (escS sps v' ++ r')
            rw [h1]

theorem attB_cases {t : List UInt8} (h : attB t = true) : t = [67, 78] ∨ t = [79] ∨ t = [79, 85] ∨ t = [67] := by
  unfold attB at h
  simp only [Bool.or_eq_true, decide_eq_true_eq] at h
  exact h
theorem att_take {t X : List UInt8} (h : attB t = true) : (t ++ 61 :: X).takeWhile (· ≠ 61) = t ∧ (t ++ 61 :: X).dropWhile (· ≠ 61) = 61 :: X := by
  rcases attB_cases h with rfl | rfl | rfl | rfl <;> exact ⟨by simp [List.takeWhile], by simp [List.dropWhile]⟩

theorem scanA_is : ∀ (n : Nat) (s : List UInt8) (l : List Att), scanA n s = some l → s = rendJ l ∧ (∀ a ∈ l, okA a) ∧ l ≠ []
  | 0, s, l, h => by cases h
  | n + 1, s, l, h => by
    unfold scanA at h
    split at h
    · cases h
    · rename_i e
      rw [not_or] at e
      obtain ⟨e1, e2⟩ := e
      have e1 : attB (s.takeWhile (· ≠ 61)) = true := by simpa using e1
      have hs : s.takeWhile (· ≠ 61) ++ s.dropWhile (· ≠ 61) = s := List.takeWhile_append_dropWhile
      obtain ⟨c, X, hX⟩ : ∃ c X, s.dropWhile (· ≠ 61) = c :: X := by
        cases hd : s.dropWhile (· ≠ 61) with
        | nil => exact absurd hd e2
        | cons c X => exact ⟨c, X, rfl⟩
      have hc : c = 61 := by
        have := List.head?_dropWhile_not (fun x : UInt8 => decide (x ≠ 61)) s
        rw [hX] at this
        simpa using this
      subst hc
      generalize ht : s.takeWhile (· ≠ 61) = t at *
      rw [hX] at h hs
      have one : ∀ v : List UInt8, rend1 (t, v) = t ++ 61 :: escS sps v := fun v => by simp [rend1]
      split at h
      · cases h
      · rename_i v hv
        cases h
        obtain ⟨h1, h2, h3⟩ := scanV_is _ _ _ hv
        refine ⟨?_, fun a ha => by cases List.mem_singleton.1 ha; exact ⟨e1, h2⟩, by simp⟩
        rw [rendJ_one, one, ← hs]
        have h1 : X = escS sps v ++ [] := h1
        rw [h1, List.append_nil]
      · rename_i v c r hv
        obtain ⟨h1, h2, h3⟩ := scanV_is _ _ _ hv
        have h3 : c = 44 := by rcases h3 with h | ⟨r', h⟩ <;> cases h; rfl
        subst h3
        cases hr : scanA n r with
        | none => rw [hr] at h; cases h
        | some l' =>
          rw [hr] at h; cases h
          obtain ⟨g1, g2, g3⟩ := scanA_is n r l' hr
          refine ⟨?_, fun a ha => ?_, by simp⟩
          · cases l' with
            | nil => exact absurd rfl g3
            | cons b l' =>
              rw [rendJ_cons, one, ← g1, ← hs]
              have h1 : X = escS sps v ++ 44 :: r := h1
              rw [h1, List.append_assoc]; rfl
          · rcases List.mem_cons.1 ha with rfl | ha
            · exact ⟨e1, h2⟩
            · exact g2 a ha

theorem scanA_rend : ∀ (l : List Att) (n : Nat), (∀ a ∈ l, okA a) → l ≠ [] → l.length ≤ n → scanA n (rendJ l) = some l
  | [], n, _, h, _ => absurd rfl h
  | [a], n, ha, _, hn => by
    obtain ⟨n, rfl⟩ : ∃ m, n = m + 1 := ⟨n - 1, by simp at hn; omega⟩
    obtain ⟨h1, h2⟩ := ha a (by simp)
    have hv := scanV_rend a.2 [] h2 (.inl rfl)
    rw [List.append_nil] at hv
    rw [rendJ_one, show rend1 a = a.1 ++ 61 :: escS sps a.2 by simp [rend1]]
    unfold scanA
    rw [(att_take h1).1, (att_take h1).2, if_neg (by rw [h1]; simp)]
    show (match scanV (escS sps a.2) with
      | none => none
      | some (v, []) => some [(a.1, v)]
      | some (v, _ :: r) => (scanA n r).map ((a.1, v) :: ·)) = _
    rw [hv]
  | a :: b :: l, n, ha, _, hn => by
    obtain ⟨n, rfl⟩ : ∃ m, n = m + 1 := ⟨n - 1, by simp at hn; omega⟩
    obtain ⟨h1, h2⟩ := ha a (by simp)
    have ih := scanA_rend (b :: l) n (fun x hx => ha x (by simp [List.mem_cons.1 hx])) (by simp) (by simp at hn ⊢; omega)
    have hv := scanV_rend a.2 (44 :: rendJ (b :: l)) h2 (.inr ⟨_, rfl⟩)
    rw [rendJ_cons, show rend1 a ++ 44 :: rendJ (b :: l) = a.1 ++ 61 :: (escS sps a.2 ++ 44 :: rendJ (b :: l)) by simp [rend1]]
    unfold scanA
    rw [(att_take h1).1, (att_take h1).2, if_neg (by rw [h1]; simp)]
    show (match scanV (escS sps a.2 ++ 44 :: rendJ (b :: l)) with
      | none => none
      | some (v, []) => some [(a.1, v)]
      | some (v, _ :: r) => (scanA n r).map ((a.1, v) :: ·)) = _
    rw [hv]
    show (scanA n (rendJ (b :: l))).map ((a.1, a.2) :: ·) = _
    rw [ih]; rfl

/-! ### the program's split -/

theorem splitE_plain (c : UInt8) (cur X : List UInt8) (h1 : c ≠ 92) (h2 : c ≠ 44) : splitE cur (c :: X) = splitE (cur ++ [c]) X := by
  cases X with
  | nil => unfold splitE; rw [if_neg h2]
  | cons d r => conv => lhs; unfold splitE
                rw [if_neg h1, if_neg h2]
theorem splitE_esc (c : UInt8) (cur X : List UInt8) : splitE cur (92 :: c :: X) = splitE (cur ++ [92, c]) X := by
  conv => lhs; unfold splitE
  rw [if_pos rfl]
theorem splitE_comma (cur X : List UInt8) : splitE cur (44 :: X) = cur :: splitE [] X := by
  cases X with
  | nil => rfl
  | cons d r => conv => lhs; unfold splitE
                rw [if_neg (by decide), if_pos rfl]
theorem splitE_val : ∀ (v cur X : List UInt8), splitE cur (escS sps v ++ X) = splitE (cur ++ escS sps v) X
  | [], cur, X => by simp [escS_nil]
  | c :: v, cur, X => by
    rw [escS_cons]
    by_cases h : c ∈ sps
    · rw [if_pos h]
      show splitE cur (92 :: c :: (escS sps v ++ X)) = _
      rw [splitE_esc, splitE_val v, List.append_assoc]
    · rw [if_neg h]
      show splitE cur (c :: (escS sps v ++ X)) = _
      rw [sps_mem, not_or, not_or] at h
      rw [splitE_plain c _ _ h.1 h.2.1, splitE_val v, List.append_assoc]
theorem splitE_one {a : Att} (h : attB a.1 = true) (X : List UInt8) : splitE [] (rend1 a ++ X) = splitE (rend1 a) X := by
  obtain ⟨t, v⟩ := a
  show splitE [] (((t ++ [61]) ++ escS sps v) ++ X) = splitE ((t ++ [61]) ++ escS sps v) X
  rcases attB_cases h with rfl | rfl | rfl | rfl
  · show splitE [] (67 :: 78 :: 61 :: (escS sps v ++ X)) = _
    rw [splitE_plain _ _ _ (by decide) (by decide), splitE_plain _ _ _ (by decide) (by decide), splitE_plain _ _ _ (by decide) (by decide), splitE_val]; rfl
  · show splitE [] (79 :: 61 :: (escS sps v ++ X)) = _
    rw [splitE_plain _ _ _ (by decide) (by decide), splitE_plain _ _ _ (by decide) (by decide), splitE_val]; rfl
  · show splitE [] (79 :: 85 :: 61 :: (escS sps v ++ X)) = _
    rw [splitE_plain _ _ _ (by decide) (by decide), splitE_plain _ _ _ (by decide) (by decide), splitE_plain _ _ _ (by decide) (by decide), splitE_val]; rfl
  · show splitE [] (67 :: 61 :: (escS sps v ++ X)) = _
    rw [splitE_plain _ _ _ (by decide) (by decide), splitE_plain _ _ _ (by decide) (by decide), splitE_val]; rfl
theorem splitE_rend : ∀ l : List Att, (∀ a ∈ l, okA a) → l ≠ [] → splitE [] (rendJ l) = l.map rend1
  | [], _, h => absurd rfl h
  | [a], ha, _ => by
    have := splitE_one (ha a (by simp)).1 []
    rw [List.append_nil] at this
    rw [rendJ_one, this]; rfl
  | a :: b :: l, ha, _ => by
    rw [rendJ_cons, splitE_one (ha a (by simp)).1, splitE_comma, splitE_rend (b :: l) (fun x hx => ha x (by simp [List.mem_cons.1 hx])) (by simp)]; rfl
theorem plainE_esc : ∀ v : List UInt8, plainE (escS sps v) = v
  | [] => rfl
  | c :: v => by
    have ih := plainE_esc v
    rw [escS_cons]
    by_cases h : c ∈ sps
    · rw [if_pos h]
      show plainE (92 :: c :: escS sps v) = _
      rw [plainE, if_pos rfl, ih]
    · rw [if_neg h]
      show plainE (c :: escS sps v) = _
      rw [sps_mem, not_or] at h
      cases hX : escS sps v with
      | nil => rw [hX] at ih; rw [← ih]; rfl
      | cons d r => rw [plainE, if_neg h.1, ← hX, ih]

theorem cut_att {a : Att} (h : attB a.1 = true) : cutS (rend1 a) 61 = (a.1, escS sps a.2, true) := by
  obtain ⟨t, v⟩ := a
  have key : Lib.indexByte (rend1 (t, v)) 61 = (t.length : Int) := by
    show Lib.indexByte ((t ++ [61]) ++ escS sps v) 61 = _
    rcases attB_cases h with rfl | rfl | rfl | rfl <;> simp [Lib.indexByte]
  unfold cutS
  rw [key, if_pos (by omega)]
  have e : rend1 (t, v) = t ++ 61 :: escS sps v := by simp [rend1]
  rw [e]
  simp

/-- The attribute's object identifier. -/
def oidNm (t : List UInt8) : List UInt8 := attrs.foldr (fun x n => if x.1 = t then x.2 else n) []
theorem att_mem {t : List UInt8} (h : attB t = true) : (t, oidNm t) ∈ attrs := by
  rcases attB_cases h with rfl | rfl | rfl | rfl <;> decide +kernel
theorem att_is {x : Att} (h : x ∈ attrs) : attB x.1 = true := by
  simp only [attrs, List.mem_cons, List.not_mem_nil, or_false] at h
  rcases h with rfl | rfl | rfl | rfl <;> rfl
theorem att_oid {x : Att} (h : x ∈ attrs) : (oidS (.mk 0 6 false (oidDat x.2) [])).2 = true ∧ attrOf (oidS (.mk 0 6 false (oidDat x.2) [])).1 = x.1 := by
  simp only [attrs, List.mem_cons, List.not_mem_nil, or_false] at h
  rcases h with rfl | rfl | rfl | rfl <;> exact ⟨by kernel_rfl, by kernel_rfl⟩
theorem kids_at : ∀ t : List UInt8, attB t = true → ∀ X, (attrs.flatMap fun x => if x.1 = t then [kidOf x.2 X] else []) = [kidOf (oidNm t) X] := by
  intro t ht X
  rcases attB_cases ht with rfl | rfl | rfl | rfl <;> rfl
theorem kids_rend {a : Att} (h : attB a.1 = true) : kidsOf (rend1 a) = [kidOf (oidNm a.1) (escS sps a.2)] := by
  unfold kidsOf
  rw [cut_att h]
  exact kids_at a.1 h _
theorem set_kid {x : Att} (h : x ∈ attrs) (X : List UInt8) : setS (kidOf x.2 X) = if (plainE X).all textB = true then some (rend1 (x.1, plainE X)) else none := by
  obtain ⟨h1, h2⟩ := att_oid h
  show pairS (.mk 0 6 false (oidDat x.2) []) (.mk 0 12 false (plainE X) []) = _
  unfold pairS
  rw [h1, h2]
  have hd : dtxtS (.mk 0 12 false (plainE X) []) = if (plainE X).all textB = true then (plainE X, true) else ([], false) := by
    unfold dtxtS
    show (if (true || _) = true ∧ (plainE X).all textB = true then _ else _) = _
    rw [Bool.true_or]
    simp only [true_and]
    rfl
  rw [hd]
  have hne : x.1 ≠ [] := by
    simp only [attrs, List.mem_cons, List.not_mem_nil, or_false] at h
    rcases h with rfl | rfl | rfl | rfl <;> decide
  split
  · rw [if_pos ⟨rfl, rfl, hne⟩]; rfl
  · rw [if_neg (by rintro ⟨_, h, _⟩; cases h)]
theorem nameK_rend : ∀ l : List Att, (∀ a ∈ l, okA a) → nameK ((l.map rend1).flatMap kidsOf) = some (l.map rend1)
  | [], _ => rfl
  | a :: l, ha => by
    have ih := nameK_rend l fun x hx => ha x (by simp [hx])
    obtain ⟨h1, h2⟩ := ha a (by simp)
    rw [List.map_cons, List.flatMap_cons, kids_rend h1]
    show nameK (kidOf (oidNm a.1) (escS sps a.2) :: (l.map rend1).flatMap kidsOf) = _
    unfold nameK
    have := set_kid (att_mem h1) (escS sps a.2)
    rw [plainE_esc, if_pos h2] at this
    rw [show setS (kidOf (oidNm a.1) (escS sps a.2)) = some (rend1 a) from this, ih]
theorem nameS_rend {l : List Att} (h : ∀ a ∈ l, okA a) : nameS (outOf ((l.map rend1).flatMap kidsOf)) = some (rendJ l) := by
  unfold nameS
  show (if true = true then (nameK ((l.map rend1).flatMap kidsOf)).map (fun l => Lib.join l [44]) else none) = _
  rw [if_pos rfl, nameK_rend l h]; rfl
theorem nameK_is : ∀ (ks : List Der) (xs : List (List UInt8)), nameK ks = some xs → (∀ k ∈ ks, ∃ x X, x ∈ attrs ∧ k = kidOf x.2 X) → ∃ l : List Att, xs = l.map rend1 ∧ ∀ a ∈ l, okA a
  | [], xs, h, _ => by unfold nameK at h; cases h; exact ⟨[], rfl, by simp⟩
  | k :: ks, xs, h, hk => by
    obtain ⟨x, X, hx, rfl⟩ := hk k (by simp)
    unfold nameK at h
    rw [set_kid hx] at h
    split at h
    · cases h
    · rename_i y hy
      split at hy
      · rename_i ht
        cases hy
        split at h
        · cases h
        · rename_i l' hl'
          cases h
          obtain ⟨l, rfl, hl⟩ := nameK_is ks l' hl' fun k hk' => hk k (by simp [hk'])
          refine ⟨(x.1, plainE X) :: l, rfl, fun a ha => ?_⟩
          rcases List.mem_cons.1 ha with rfl | ha
          · exact ⟨att_is (x := x) hx, ht⟩
          · exact hl a ha
      · cases hy

/-- The texts of names, in both words. -/
theorem names_are {s : List UInt8} (hne : s ≠ []) (hl : s.length ≤ 512) : (∃ l, scanA (s.length + 1) s = some l ∧ s = rendJ l ∧ (∀ a ∈ l, okA a) ∧ l ≠ [] ∧ (nameOfS s).2 = 0) ∨ (scanA (s.length + 1) s = none ∧ (nameOfS s).2 = 5) := by
  cases hs : scanA (s.length + 1) s with
  | some l =>
    obtain ⟨h1, h2, h3⟩ := scanA_is _ _ _ hs
    refine .inl ⟨l, rfl, h1, h2, h3, ?_⟩
    unfold nameOfS
    rw [if_neg (by omega), if_neg hne, if_pos (by rw [h1, splitE_rend l h2 h3]; exact nameS_rend h2)]
  | none =>
    refine .inr ⟨rfl, ?_⟩
    unfold nameOfS
    rw [if_neg (by omega), if_neg hne]
    split
    · rename_i h
      exfalso
      unfold nameS at h
      have h : ((nameK ((splitE [] s).flatMap kidsOf)).map fun l => Lib.join l [44]) = some s := h
      cases hk : nameK ((splitE [] s).flatMap kidsOf) with
      | none => rw [hk] at h; cases h
      | some xs =>
        rw [hk] at h
        have h : Lib.join xs [44] = s := Option.some.inj h
        obtain ⟨l, rfl, hl'⟩ := nameK_is _ _ hk fun k hk' => by
          obtain ⟨p, hp, hp2⟩ := List.mem_flatMap.1 hk'
          unfold kidsOf at hp2
          obtain ⟨x, hx, hx2⟩ := List.mem_flatMap.1 hp2
          split at hx2
          · exact ⟨x, _, hx, List.mem_singleton.1 hx2⟩
          · cases hx2
        have hl0 : l ≠ [] := by
          rintro rfl
          exact hne (by rw [← h]; exact Lib.join_nil _)
        have h : rendJ l = s := h
        have hlen : l.length ≤ s.length + 1 := by
          have := splitE_len [] s
          rw [← h, splitE_rend l hl' hl0] at this
          rw [← h]; simpa using this
        have := scanA_rend l (s.length + 1) hl' hl0 hlen
        rw [h, hs] at this
        cases this
    · rfl

theorem commonK_rend : ∀ l : List Att, (∀ a ∈ l, okA a) → commonK (l.map rend1) = cnS l
  | [], _ => rfl
  | a :: l, ha => by
    have ih := commonK_rend l fun x hx => ha x (by simp [hx])
    obtain ⟨h1, _⟩ := ha a (by simp)
    obtain ⟨t, v⟩ := a
    rw [List.map_cons]
    unfold commonK cnS
    show (if hasPre ((t ++ [61]) ++ escS sps v) [67, 78, 61] = true then _ else _) = if t = [67, 78] then v else _
    rcases attB_cases h1 with h | h | h | h
    · have h : t = [67, 78] := h
      subst h
      rw [if_pos (by simp [hasPre]), if_pos rfl]
      exact plainE_esc v
    all_goals
      have h : t = _ := h
      subst h
      rw [if_neg (by simp [hasPre]), if_neg (by decide), ih]

theorem cn_common (s : List UInt8) : (if s.length ≤ 512 then cnS ((attrsS s).getD []) else []) = commonS s := by
  unfold commonS
  split
  · rename_i hl
    unfold attrsS
    split
    · rename_i h; subst h
      rfl
    · rename_i hne
      rcases names_are hne hl with ⟨l, h1, h2, h3, h4, h5⟩ | ⟨h1, h5⟩
      · rw [h1, if_pos h5]
        show cnS l = _
        rw [h2, splitE_rend l h3 h4, commonK_rend l h3]
      · rw [h1, if_neg (by rw [h5]; decide)]; rfl
  · rename_i hl
    rw [if_neg]
    unfold nameOfS
    rw [if_pos (by omega)]; decide
end Go.Proofs.YtomghnmoomodiaaGreatDoor

/- The reference of names: Attributes. -/
set_option linter.unusedVariables false
set_option linter.unusedSimpArgs false
set_option linter.unusedSectionVars false
set_option maxRecDepth 20000
namespace Go.Proofs.YtomghnmoomodiaaGreatDoor
open Go.GAM Go.RowKit

theorem scanV_bad {c : UInt8} (X : List UInt8) (h : c ≠ 44) (hb : badC c = true) : scanV (c :: X) = none := by
  cases X with
  | nil => unfold scanV; rw [if_neg h, if_pos (.inl hb)]
  | cons d r => rw [scanV, if_neg h, if_pos hb]
theorem scanV_escBad {d : UInt8} (X : List UInt8) (h : d ∉ sps) : scanV (92 :: d :: X) = none := by
  rw [scanV, if_neg (by decide), if_neg (by decide), if_pos rfl, if_neg h]
theorem byte_eq {c : UInt8} {n : Nat} (hn : n < 256) : decide ((c.toNat : Int) = (n : Int)) = decide (c = UInt8.ofNat n) := by
  rw [decide_eq_decide]
  constructor
  · intro h
    have : c.toNat = n := by omega
    rw [← this]; simp
  · rintro rfl
    simp; omega
theorem prs_app (a b : List Att) : prs (a ++ b) = prs a ++ prs b := by unfold prs; rw [List.flatMap_append]

section
variable {h0 : AHeap} {Q : AV → AHeap → Prop} {s : List UInt8} {x4 : AV} {done : List Att} {t : List UInt8} {h : AHeap}

theorem at_p8 {j : Nat} {v r : List UInt8} {c : UInt8} (hs : s.length ≤ 512) (hj : s.drop j = c :: r) (hv : v.length ≤ 512) (hk : G_ref34_Attributes.p4 Q s x4 (j + 1 : Nat) t (v ++ [c]) h) : G_ref34_Attributes.p8 Q s x4 j t v h := by
  have hlt := drop_lt hj
  refine G_ref34_Attributes.i8 ?_
  simp only [G_ref34_Attributes.t8, G_ref34_Attributes.j4]
  refine inc (by omega) (st_subs2 (lo := j) (hi := j + 1) (by omega) (by omega) ?_)
  have e : (s.take (j + 1)).drop j = [c] := by
    rw [take_snoc (at_of_drop hj), List.drop_left' (by rw [List.length_take]; omega)]
  rw [e]
  refine ⟨by simp; omega, ?_⟩
  exact inc (by omega) hk

theorem at_p4 (hs : s.length ≤ 512) : ∀ (k : Nat) (r : List UInt8) (j : Nat) (v : List UInt8), r.length ≤ k → s.drop j = r → j ≤ s.length → v.length ≤ j →
    (scanV r = none → Q (.tu [.sl none 0 none, .b false]) h) → (∀ v' r', scanV r = some (v', r') → r' = s.drop (s.length - r'.length) → G_ref34_Attributes.p5 Q s x4 (s.length - r'.length : Nat) t (v ++ v') false h) → G_ref34_Attributes.p4 Q s x4 j t v h := by
  intro k
  induction k with
  | zero =>
    intro r j v hr hd hj hv hf hk
    have : r = [] := List.eq_nil_of_length_eq_zero (by omega)
    subst this
    have hlen := drop_end hd
    obtain rfl : j = s.length := by omega
    refine G_ref34_Attributes.i4 ?_
    simp only [G_ref34_Attributes.t4, G_ref34_Attributes.j5]
    have := hk [] [] rfl (by simp)
    rw [List.append_nil] at this
    exact bif_f (by simp) this
  | succ k ih =>
    intro r j v hr hd hj hv hf hk
    cases r with
    | nil =>
      have hlen := drop_end hd
      obtain rfl : j = s.length := by omega
      refine G_ref34_Attributes.i4 ?_
      simp only [G_ref34_Attributes.t4, G_ref34_Attributes.j5]
      have := hk [] [] rfl (by simp)
      rw [List.append_nil] at this
      exact bif_f (by simp) this
    | cons c r =>
      have hlt := drop_lt hd
      have hn := drop_next hd
      have hlr : r.length = s.length - (j + 1) := by rw [← hn, List.length_drop]
      refine G_ref34_Attributes.i4 ?_
      simp only [G_ref34_Attributes.t4, G_ref34_Attributes.j5]
      refine bif_t (by simp; omega) (st_at hd ?_)
      rw [show ((44 : Int)) = ((44 : Nat) : Int) from rfl, byte_eq (by omega)]
      by_cases h44 : c = 44
      · subst h44
        have e1 : scanV (44 :: r) = some ([], 44 :: r) := by cases r <;> rfl
        have := hk [] (44 :: r) e1 (by rw [List.length_cons, hlr, show s.length - (s.length - (j + 1) + 1) = j by omega, hd])
        rw [List.append_nil, List.length_cons, hlr, show s.length - (s.length - (j + 1) + 1) = j by omega] at this
        exact this
      · rw [decide_eq_false (show ¬ c = UInt8.ofNat 44 from h44)]
        show G_ref34_Attributes.p5 Q s x4 j t v true h
        have bad : badC c = true → G_ref34_Attributes.p6 Q s x4 j t v c.toNat true h := fun hb => by
          refine G_ref34_Attributes.i6 ?_
          simp only [G_ref34_Attributes.t6]
          exact bif_t rfl (hf (scanV_bad r h44 hb))
        refine G_ref34_Attributes.i5 ?_
        simp only [G_ref34_Attributes.t5, G_ref34_Attributes.j6]
        refine bif_t rfl (st_at hd ?_)
        rw [show ((61 : Int)) = ((61 : Nat) : Int) from rfl, byte_eq (by omega)]
        refine bif_both (fun e => bad (by unfold badC; rw [show decide (c = 61) = true from e]; rfl)) fun e61 => bif_both (fun e => bad ?_) fun e32 => ?_
        · have e := of_decide_eq_true e
          unfold badC textB
          rw [decide_eq_false (show ¬ 32 ≤ c.toNat by omega)]; simp
        · have e32 := of_decide_eq_false e32
          by_cases h126 : 126 < c.toNat
          · rw [decide_eq_true (show (126 : Int) < (c.toNat : Int) by omega)]
            refine bad ?_
            unfold badC textB
            rw [decide_eq_false (show ¬ c.toNat ≤ 126 by omega)]; simp
          · rw [decide_eq_false (show ¬ (126 : Int) < (c.toNat : Int) by omega)]
            have ht : textB c = true := by
              unfold textB
              rw [decide_eq_true (show 32 ≤ c.toNat by omega), decide_eq_true (show c.toNat ≤ 126 by omega)]; rfl
            have h61 : c ≠ 61 := of_decide_eq_false e61
            refine G_ref34_Attributes.i6 ?_
            simp only [G_ref34_Attributes.t6, G_ref34_Attributes.j7, G_ref34_Attributes.j8]
            refine bif_f rfl ?_
            rw [show ((92 : Int)) = ((92 : Nat) : Int) from rfl, byte_eq (by omega)]
            refine bif_both (fun e => ?_) fun e => ?_
            · have e : c = 92 := of_decide_eq_true e
              subst e
              have fail : scanV (92 :: r) = none → G_ref34_Attributes.p7 Q s x4 (j + 1 : Nat) t v true h := fun hb => by
                refine G_ref34_Attributes.i7 ?_
                simp only [G_ref34_Attributes.t7]
                exact bif_t rfl (hf hb)
              refine inc (by omega) (bif_both (fun e => fail ?_) fun e => ?_)
              · have e := of_decide_eq_true e
                have : r = [] := List.eq_nil_of_length_eq_zero (by omega)
                subst this; rfl
              · have e := of_decide_eq_false e
                cases r with
                | nil => simp at hlr; omega
                | cons d r =>
                  have hn2 := drop_next hn
                  have good : d ∈ sps → G_ref34_Attributes.p7 Q s x4 (j + 1 : Nat) t v false h := fun hd2 => by
                    refine G_ref34_Attributes.i7 ?_
                    simp only [G_ref34_Attributes.t7, G_ref34_Attributes.j8]
                    refine bif_f rfl (at_p8 hs hn (by omega) ?_)
                    refine ih r (j + 2) (v ++ [d]) (by simp at hr; omega) hn2 (by omega) (by simp; omega) (fun hx => hf ?_) fun v' r' hx hr' => ?_
                    · rw [scanV_esc d r hd2, hx]; rfl
                    · have := hk (d :: v') r' (by rw [scanV_esc d r hd2, hx]; rfl) hr'
                      rw [List.append_assoc]; exact this
                  have badE : d ∉ sps → G_ref34_Attributes.p7 Q s x4 (j + 1 : Nat) t v true h := fun hd2 => fail (scanV_escBad r hd2)
                  refine st_at hn ?_
                  rw [show ((44 : Int)) = ((44 : Nat) : Int) from rfl, byte_eq (by omega)]
                  refine bif_both (fun e1 => ?_) fun e1 => ?_
                  · refine st_at hn ?_
                    rw [show ((61 : Int)) = ((61 : Nat) : Int) from rfl, byte_eq (by omega)]
                    refine bif_both (fun e2 => ?_) fun e2 => ?_
                    · refine st_at hn ?_
                      rw [byte_eq (by omega)]
                      have e1 : d ≠ 44 := by simpa using e1
                      have e2 : d ≠ 61 := by simpa using e2
                      by_cases h92 : d = 92
                      · rw [decide_eq_true (show d = UInt8.ofNat 92 from h92)]
                        exact good (sps_mem.2 (.inl h92))
                      · rw [decide_eq_false (show ¬ d = UInt8.ofNat 92 from h92)]
                        refine badE fun h => ?_
                        rcases sps_mem.1 h with h | h | h
                        · exact h92 h
                        · exact e1 h
                        · exact e2 h
                    · have e2 : d = 61 := by simpa using e2
                      exact good (sps_mem.2 (.inr (.inr e2)))
                  · have e1 : d = 44 := by simpa using e1
                    exact good (sps_mem.2 (.inr (.inl e1)))
            · have e : c ≠ 92 := of_decide_eq_false e
              have hns : c ∉ sps := fun h => by
                rcases sps_mem.1 h with h | h | h
                · exact e h
                · exact h44 h
                · exact h61 h
              refine at_p8 hs hd (by omega) (ih r (j + 1) (v ++ [c]) (by simp at hr; omega) hn (by omega) (by simp; omega) (fun hx => hf ?_) fun v' r' hx hr' => ?_)
              · rw [scanV_good c r hns ht, hx]; rfl
              · have := hk (c :: v') r' (by rw [scanV_good c r hns ht, hx]; rfl) hr'
                rw [List.append_assoc]; exact this

theorem at_p1 {a : Nat} (hs : s.length ≤ 512) : ∀ (r : List UInt8) (e : Nat), s.drop e = r → e ≤ s.length → G_ref34_Attributes.p2 Q s x4 a (e + (r.takeWhile (· ≠ 61)).length : Nat) false h → G_ref34_Attributes.p1 Q s x4 a e h := by
  intro r
  induction r with
  | nil =>
    intro e hr he hk
    have := drop_end hr
    refine G_ref34_Attributes.i1 ?_
    simp only [G_ref34_Attributes.t1, G_ref34_Attributes.j2]
    exact bif_f (by simp; omega) hk
  | cons c r ih =>
    intro e hr he hk
    have hlt := drop_lt hr
    refine G_ref34_Attributes.i1 ?_
    simp only [G_ref34_Attributes.t1, G_ref34_Attributes.j2]
    refine bif_t (by simp; omega) (st_at hr ?_)
    rw [show ((61 : Int)) = ((61 : Nat) : Int) from rfl, byte_eq (by omega)]
    by_cases h61 : c = 61
    · rw [decide_eq_true (show c = UInt8.ofNat 61 from h61)]
      rw [List.takeWhile_cons_of_neg (by simpa using h61)] at hk
      exact hk
    · rw [decide_eq_false (show ¬ c = UInt8.ofNat 61 from h61)]
      rw [List.takeWhile_cons_of_pos (by simpa using h61)] at hk
      refine G_ref34_Attributes.i2 ?_
      simp only [G_ref34_Attributes.t2, G_ref34_Attributes.j1]
      refine bif_t rfl (inc (by omega) (ih (e + 1) (drop_next hr) (by omega) ?_))
      rw [List.length_cons] at hk
      rw [show e + 1 + (r.takeWhile (· ≠ 61)).length = e + ((r.takeWhile (· ≠ 61)).length + 1) by omega]
      exact hk

theorem at_p0 (hs : s.length ≤ 512) : ∀ (n a : Nat) (done : List Att) (x4 : AV) (h : AHeap), s.length - a < n → a ≤ s.length → done.length ≤ a → NewA 2 h0 h x4 (prs done) done.length →
    (∀ l, scanA n (s.drop a) = some l → ∀ w h', Upd (fun _ => False) h0 h' → RdI 2 h' w (prs (done ++ l)) (done ++ l).length → Q (.tu [w, .b true]) h') →
    (scanA n (s.drop a) = none → ∀ h', Upd (fun _ => False) h0 h' → Q (.tu [.sl none 0 none, .b false]) h') → G_ref34_Attributes.p0 Q s x4 a h := by
  intro n
  induction n with
  | zero => intro a done x4 h hn; omega
  | succ n ih =>
    intro a done x4 h hn ha hdl A hok hf
    refine G_ref34_Attributes.i0 ?_
    simp only [G_ref34_Attributes.t0, G_ref34_Attributes.j1]
    refine at_p1 hs (s.drop a) a rfl ha ?_
    have hTR : (s.drop a).takeWhile (· ≠ 61) ++ (s.drop a).dropWhile (· ≠ 61) = s.drop a := List.takeWhile_append_dropWhile
    unfold scanA at hok hf
    generalize hT : (s.drop a).takeWhile (· ≠ 61) = T at *
    generalize hR : (s.drop a).dropWhile (· ≠ 61) = R at *
    have hR2 : R = s.drop (a + T.length) := by
      rw [← List.drop_drop, ← hTR]; simp
    have hTl : a + T.length ≤ s.length := by
      have := congrArg List.length hTR
      simp at this; omega
    have hT2 : (s.take (a + T.length)).drop a = T := by
      rw [List.drop_take, show a + T.length - a = T.length by omega, ← hTR]; simp
    have fail : (attB T = false ∨ R = []) → ∀ x6 : Int, G_ref34_Attributes.p3 Q s x4 x6 T true h := fun hb x6 => by
      refine G_ref34_Attributes.i3 ?_
      simp only [G_ref34_Attributes.t3]
      rw [if_pos hb] at hf
      exact bif_t rfl (hf rfl h A.upd)
    refine G_ref34_Attributes.i2 ?_
    simp only [G_ref34_Attributes.t2, G_ref34_Attributes.j3]
    refine bif_f rfl (st_subs2 (lo := a) (hi := a + T.length) (by omega) hTl ?_)
    rw [hT2]
    refine ident_c fun o => st_ext0 (st_asS (st_ext1 (st_asB ?_)))
    cases hb : attB T with
    | false => exact fail (.inl hb) _
    | true =>
      show G_ref34_Attributes.p3 Q s x4 (a + T.length : Nat) T (decide ((s.length : Int) ≤ ((a + T.length : Nat) : Int))) h
      by_cases hend : s.length ≤ a + T.length
      · rw [decide_eq_true (show (s.length : Int) ≤ ((a + T.length : Nat) : Int) by omega)]
        exact fail (.inr (by rw [hR2, List.drop_of_length_le hend])) _
      · rw [decide_eq_false (show ¬ (s.length : Int) ≤ ((a + T.length : Nat) : Int) by omega)]
        have hRne : R ≠ [] := fun h => by
          rw [hR2] at h
          have := drop_end h
          omega
        rw [if_neg (by rw [hb]; simp [hRne]), hR2, List.drop_drop] at hok hf
        refine G_ref34_Attributes.i3 ?_
        simp only [G_ref34_Attributes.t3, G_ref34_Attributes.j4]
        refine bif_f rfl (inc (by omega) (at_p4 hs (s.length + 1) (s.drop (a + T.length + 1)) (a + T.length + 1) [] (by simp; omega) rfl (by omega) (by simp) (fun hx => ?_) fun v' r' hx hr' => ?_))
        · rw [hx] at hf
          exact hf rfl h A.upd
        · have hd1 : done.length + 1 ≤ 1000 := by omega
          refine G_ref34_Attributes.i5 ?_
          simp only [G_ref34_Attributes.t5, G_ref34_Attributes.j0]
          refine bif_f rfl (A.build (ns := [.s T, .s ([] ++ v')]) (n := 1) (by omega) rfl rfl rfl (by omega) (by omega) fun w h' A' => ?_)
          have A' : NewA 2 h0 h' w (prs (done ++ [(T, v')])) (done ++ [(T, v')]).length := by
            rw [prs_app, List.length_append]; exact A'
          rw [hx] at hok hf
          have hl' := scanV_is _ _ _ hx
          have hrl : r'.length ≤ s.length - (a + T.length + 1) := by
            have := congrArg List.length hl'.1
            simp at this; omega
          cases r' with
          | nil =>
            refine bif_t (by simp) ?_
            exact hok _ rfl w h' A'.upd A'.arr.rd.i
          | cons c r =>
            refine bif_f (by simp at hrl ⊢; omega) ?_
            have hpos : s.length - (c :: r).length + 1 = s.length - r.length := by simp at hrl ⊢; omega
            refine inc (by simp; omega) ?_
            have hdrop : s.drop (s.length - (c :: r).length + 1) = r := drop_next hr'.symm
            refine ih _ (done ++ [(T, v')]) w h' (by simp at hrl ⊢; omega) (by simp at hrl ⊢; omega) (by simp at hrl ⊢; omega) A' (fun l hl w2 h2 U2 R2 => ?_) fun hl h2 U2 => ?_
            · rw [hdrop] at hl
              refine hok ((T, v') :: l) ?_ w2 h2 U2 (by rw [List.append_assoc] at R2; exact R2)
              show (scanA n r).map ((T, v') :: ·) = _
              rw [hl]; rfl
            · rw [hdrop] at hl
              refine hf ?_ h2 U2
              show (scanA n r).map ((T, v') :: ·) = _
              rw [hl]; rfl

theorem attributes_c (hs : s.length ≤ 512) (hq : ∀ w h', Upd (fun _ => False) h0 h' → RdI 2 h' w (prs ((attrsS s).getD [])) ((attrsS s).getD []).length → Q (.tu [w, .b (attrsS s).isSome]) h') : C G_ref34_Attributes.id [.s s] h0 Q := by
  refine G_ref34_Attributes.call ?_
  simp only [G_ref34_Attributes.t, G_ref34_Attributes.j0]
  refine bif_both (fun e => ?_) fun e => ?_
  · have e := of_decide_eq_true e
    subst e
    exact .inl (hq _ _ (Upd.refl _ _) (.inl ⟨rfl, rfl, rfl⟩))
  · have e := of_decide_eq_false e
    have ha : attrsS s = scanA (s.length + 1) s := if_neg e
    rw [ha] at hq
    refine at_p0 (h0 := h0) (Q := kRet h0 Q) hs (s.length + 1) 0 [] _ h0 (by omega) (by omega) (by simp) (NewA.start 2 h0) (fun l hl w h' U R => .inl ?_) fun hl h' U => .inl ?_
    · rw [List.drop_zero] at hl
      rw [hl] at hq
      exact hq w h' U R
    · rw [List.drop_zero] at hl
      rw [hl] at hq
      exact hq _ h' U (.inl ⟨rfl, rfl, rfl⟩)
end
theorem scanA_len : ∀ (n : Nat) (s : List UInt8) (l : List Att), scanA n s = some l → l.length ≤ n
  | 0, _, _, h => by cases h
  | n + 1, s, l, h => by
    unfold scanA at h
    split at h
    · cases h
    · split at h
      · cases h
      · cases h; simp
      · rename_i v c r hv
        cases hr : scanA n r with
        | none => rw [hr] at h; cases h
        | some l' =>
          rw [hr] at h; cases h
          have := scanA_len n r l' hr
          simp; omega
theorem attrsS_len (s : List UInt8) : ((attrsS s).getD []).length ≤ s.length + 1 := by
  unfold attrsS
  split
  · simp
  · cases h : scanA (s.length + 1) s with
    | none => simp
    | some l => exact scanA_len _ _ _ h
theorem Rcommon_all {s : List UInt8} {h : AHeap} {Q : AV → AHeap → Prop} (hq : Q (.s (commonS s)) h) : C G_ref34_Common.id [.s s] h Q := by
  by_cases hl : s.length ≤ 512
  · refine Rcommon_c (l := (attrsS s).getD []) (ok := (attrsS s).isSome) (fun _ Q hQ => attributes_c hl hQ) (by have := attrsS_len s; omega) ?_
    rw [cn_common]; exact hq
  · refine Rcommon_c (l := []) (ok := true) (fun h => absurd h hl) (by simp) ?_
    rw [← cn_common, if_neg hl] at hq
    rw [if_neg hl]; exact hq
theorem commonS_512 (s : List UInt8) : (commonS s).length ≤ 512 := by
  by_cases hl : s.length ≤ 512
  · exact Nat.le_trans (commonS_len s) hl
  · rw [← cn_common, if_neg hl]; simp
theorem RcommonAt {h : AHeap} {s : List UInt8} : RCommonAt h commonS s :=
  ⟨Nat.le_trans (commonS_512 s) (by omega), fun h' Q U hq => Rcommon_all (hq h' (Upd.refl _ _))⟩
end Go.Proofs.YtomghnmoomodiaaGreatDoor

/- Arguments within a machine's reach. -/
set_option linter.unusedVariables false
set_option linter.unusedSimpArgs false
set_option linter.unusedSectionVars false
set_option maxRecDepth 20000
namespace Go.Proofs.YtomghnmoomodiaaGreatDoor
open Go.GAM Go.RowKit Go.ChangeShapes

section
variable {H : Type} {enc : TypeId × Value → H} {w : World}

def wfR (c : Cert) : Prop := c.names.length ≤ maxLen ∧ (∀ n ∈ c.names, n.length ≤ 140737488351232) ∧ c.subject.length ≤ maxLen ∧ c.issuer.length ≤ maxLen
theorem wfR.c {c : Cert} (h : wfR c) : wfC c := ⟨h.1, fun n hn => by have := h.2.1 n hn; rw [maxLen_is]; omega, h.2.2⟩

theorem certR {cs : List Value} (h : InW enc prog w 36 cs) : cs.length = 8 ∧ ∃ c : Cert, CV (hW w) c (cs.map (absV w fun _ => 1)) ∧ wfR c := by
  obtain ⟨hlen, hf⟩ := h.struct Tryz.underlying36
  have c36 : prog.cellsOf 36 = 8 := by kernel_rfl
  have c3 : prog.cellsOf 3 = 1 := by kernel_rfl
  have c4 : prog.cellsOf 4 = 1 := by kernel_rfl
  have c9 : prog.cellsOf 9 = 1 := by kernel_rfl
  have c34 : prog.cellsOf 34 = 1 := by kernel_rfl
  rw [c36] at hlen
  refine ⟨hlen, ?_⟩
  match cs, hlen with
  | [v0, v1, v2, v3, v4, v5, v6, v7], _ =>
    have f0 : InW enc prog w 9 (([v0, v1, v2, v3, v4, v5, v6, v7].drop 0).take (prog.cellsOf 9)) := hf 0 _ rfl
    have f1 : InW enc prog w 9 (([v0, v1, v2, v3, v4, v5, v6, v7].drop 1).take (prog.cellsOf 9)) := hf 1 _ rfl
    have f2 : InW enc prog w 9 (([v0, v1, v2, v3, v4, v5, v6, v7].drop 2).take (prog.cellsOf 9)) := hf 2 _ rfl
    have f3 : InW enc prog w 3 (([v0, v1, v2, v3, v4, v5, v6, v7].drop 3).take (prog.cellsOf 3)) := hf 3 _ rfl
    have f4 : InW enc prog w 3 (([v0, v1, v2, v3, v4, v5, v6, v7].drop 4).take (prog.cellsOf 3)) := hf 4 _ rfl
    have f5 : InW enc prog w 34 (([v0, v1, v2, v3, v4, v5, v6, v7].drop 5).take (prog.cellsOf 34)) := hf 5 _ rfl
    have f6 : InW enc prog w 4 (([v0, v1, v2, v3, v4, v5, v6, v7].drop 6).take (prog.cellsOf 4)) := hf 6 _ rfl
    have f7 : InW enc prog w 9 (([v0, v1, v2, v3, v4, v5, v6, v7].drop 7).take (prog.cellsOf 9)) := hf 7 _ rfl
    rw [c9] at f0 f1 f2 f7
    rw [c3] at f3 f4
    rw [c4] at f6
    rw [c34] at f5
    obtain ⟨s0, e0, b0⟩ := f0.str Tryz.underlying9
    obtain ⟨s1, e1, b1⟩ := f1.str Tryz.underlying9
    obtain ⟨s2, e2, b2⟩ := f2.str Tryz.underlying9
    obtain ⟨i3, e3, _⟩ := f3.int (show prog.underlying 3 = some (.int .i64) by kernel_rfl)
    obtain ⟨i4, e4, _⟩ := f4.int (show prog.underlying 3 = some (.int .i64) by kernel_rfl)
    obtain ⟨v5', l, e5, hr, hnl, _, hn, _⟩ := f5.strs Tryz.underlying34 Tryz.underlying9 c9
    obtain ⟨m6, e6⟩ := f6.bool Tryz.underlying4
    obtain ⟨s7, e7, b7⟩ := f7.str Tryz.underlying9
    have g0 : v0 = .string s0 := List.singleton_inj.1 e0
    have g1 : v1 = .string s1 := List.singleton_inj.1 e1
    have g2 : v2 = .string s2 := List.singleton_inj.1 e2
    have g3 : v3 = .int .i64 i3 := List.singleton_inj.1 e3
    have g4 : v4 = .int .i64 i4 := List.singleton_inj.1 e4
    have g5 : v5 = v5' := List.singleton_inj.1 e5
    have g6 : v6 = .bool m6 := List.singleton_inj.1 e6
    have g7 : v7 = .string s7 := List.singleton_inj.1 e7
    subst g0 g1 g2 g3 g4 g5 g6 g7
    exact ⟨⟨s0.data.toList, s1.data.toList, s2.data.toList, i3, i4, l, m6, s7.data.toList⟩, ⟨_, rfl, hr⟩, hnl, hn, by rw [maxLen_is]; simp only; omega, by rw [maxLen_is]; simp only; omega⟩

theorem certsR {cs : List Value} (h : InW enc prog w 24 cs) :
    ∃ (v : Value) (l : List Cert), cs = [v] ∧ CL (hW w) (absV w (fun _ => 1) v) l ∧ (∀ c ∈ l, wfR c) ∧ VRel (muC w fun _ => 1) (absV w (fun _ => 1) v) v := by
  obtain ⟨v, rows, rfl, hr, _, _, hrow, hv⟩ := h.slice Tryz.underlying24 (show prog.cellsOf 36 = 8 by kernel_rfl) (by decide)
  have : ∀ rows : List (List Value), (∀ r ∈ rows, r.length = 8 ∧ InW enc prog w 36 r) → ∃ l : List Cert, CVs (hW w) l (rows.map (·.map (absV w fun _ => 1))) ∧ rows.length = l.length ∧ ∀ c ∈ l, wfR c := by
    intro rows
    induction rows with
    | nil => intro _; exact ⟨[], trivial, rfl, fun n hn => by cases hn⟩
    | cons r rows ih =>
      intro hr
      obtain ⟨l, h1, h2, h3⟩ := ih fun r hr' => hr r (by simp [hr'])
      obtain ⟨_, hy⟩ := hr r (by simp)
      obtain ⟨_, c, g1, g2⟩ := certR hy
      refine ⟨c :: l, ⟨g1, h1⟩, by simp [h2], fun d hd => ?_⟩
      rcases List.mem_cons.1 hd with rfl | hd
      · exact g2
      · exact h3 d hd
  obtain ⟨l, h1, h2, h3⟩ := this rows hrow
  rw [h2] at hr
  refine ⟨v, l, rfl, ⟨rows.map (·.map (absV w fun _ => 1)), ?_, h1⟩, h3, hv⟩
  rw [List.map_flatten] at hr; exact hr

def wfQR (q : Que) : Prop := (∀ c ∈ q.ch, wfR c) ∧ (∀ c ∈ q.tr, wfR c) ∧ q.host.length ≤ 140737488351232
theorem wfQR.q {q : Que} (h : wfQR q) : wfQ q := ⟨fun c hc => (h.1 c hc).c, fun c hc => (h.2.1 c hc).c, by have := h.2.2; rw [maxLen_is]; omega⟩

theorem queR {v : Value} (h : InW enc prog w 26 v.cells.toList) : ∃ (cs : List AV) (q : Que), VRel (muC w fun _ => 1) (.ag cs) v ∧ QV (hW w) q cs ∧ wfQR q := by
  obtain ⟨hlen, hf⟩ := h.struct Tryz.underlying26
  have c26 : prog.cellsOf 26 = 4 := by kernel_rfl
  have c3 : prog.cellsOf 3 = 1 := by kernel_rfl
  have c9 : prog.cellsOf 9 = 1 := by kernel_rfl
  have c24 : prog.cellsOf 24 = 1 := by kernel_rfl
  rw [c26] at hlen
  cases v with
  | agg vs =>
    have hcells : (Value.agg vs).cells.toList = vs.toList := rfl
    rw [hcells] at hlen hf
    have hrel : VRel (muC w fun _ => 1) (.ag (vs.toList.map (absV w fun _ => 1))) (.agg vs) := .ag _ _ (absVs_rel _)
    refine ⟨vs.toList.map (absV w fun _ => 1), ?_⟩
    revert hf hrel
    generalize vs.toList = cs at hlen
    intro hf hrel
    match cs, hlen with
    | [v0, v1, v2, v3], _ =>
      have f0 : InW enc prog w 24 (([v0, v1, v2, v3].drop 0).take (prog.cellsOf 24)) := hf 0 _ rfl
      have f1 : InW enc prog w 9 (([v0, v1, v2, v3].drop 1).take (prog.cellsOf 9)) := hf 1 _ rfl
      have f2 : InW enc prog w 3 (([v0, v1, v2, v3].drop 2).take (prog.cellsOf 3)) := hf 2 _ rfl
      have f3 : InW enc prog w 24 (([v0, v1, v2, v3].drop 3).take (prog.cellsOf 24)) := hf 3 _ rfl
      rw [c24] at f0 f3
      rw [c9] at f1
      rw [c3] at f2
      obtain ⟨u0, l0, e0, r0, w0, _⟩ := certsR f0
      obtain ⟨s1, e1, b1⟩ := f1.str Tryz.underlying9
      obtain ⟨i2, e2, _⟩ := f2.int (show prog.underlying 3 = some (.int .i64) by kernel_rfl)
      obtain ⟨u3, l3, e3, r3, w3, _⟩ := certsR f3
      have g0 : v0 = u0 := List.singleton_inj.1 e0
      have g1 : v1 = .string s1 := List.singleton_inj.1 e1
      have g2 : v2 = .int .i64 i2 := List.singleton_inj.1 e2
      have g3 : v3 = u3 := List.singleton_inj.1 e3
      subst g0 g1 g2 g3
      exact ⟨⟨l0, s1.data.toList, i2, l3⟩, hrel, ⟨_, _, rfl, r0, r3⟩, w0, w3, b1⟩
  | _ => simp [Value.cells] at hlen
end
end Go.Proofs.YtomghnmoomodiaaGreatDoor

/- The law's text in the abstract machine: printed by Gen.lean, checked by Lean's kernel. -/
set_option linter.unusedVariables false
set_option linter.unusedSectionVars false
set_option maxRecDepth 100000
namespace Go.Proofs.YtomghnmoomodiaaGreatDoor
open Go.GAM
variable [XR]
--@@ G_law35_CertcheckFinds
/-! ### 4: intrusion/intrusionlaw35.CertcheckFinds -/
noncomputable def G_law35_CertcheckFinds.body : Code := (Tryz.f4.body).getD .skip
def G_law35_CertcheckFinds.ann : Ann := (.seq 0 [1] .leaf (.seq 0 [1] (.seq 0 [1, 7] .leaf (.br (.seq 0 [2] .leaf .leaf) .leaf)) (.seq 1 [2] (.ord (.neu 0 (.neu 1 (.neu 2 (.neu 3 (.neu 4 (.neu 5 (.neu 6 (.neu 7 (.neu 9 (.neu 10 (.neu 11 (.neu 12 (.neu 13 (.neu 14 (.neu 15 (.neu 16 (.eff 8 (.eff 17 (.eff 18 (.neu 19 (.eff 20 (.neu 21 (.neu 22 .done)) .stop)) .stop) .stop) .stop)))))))))))))))))) .leaf)))
theorem G_law35_CertcheckFinds.body_eq : Tryz.f4.body = some G_law35_CertcheckFinds.body := by kernel_rfl
theorem G_law35_CertcheckFinds.dist : noTwice (places G_law35_CertcheckFinds.ann G_law35_CertcheckFinds.body) = true := by kernel_rfl
noncomputable def G_law35_CertcheckFinds.J (Q : AV → AHeap → Prop) : JT := funJ prog C Tryz.f4 G_law35_CertcheckFinds.ann G_law35_CertcheckFinds.body Q
theorem G_law35_CertcheckFinds.goR {Q : AV → AHeap → Prop} {k : Nat} {p : List Nat} (hl : lookJ (places G_law35_CertcheckFinds.ann G_law35_CertcheckFinds.body) k = some (p, false)) {e : Env} {h : AHeap} (hk : atJ prog C 31 (G_law35_CertcheckFinds.J Q) false p G_law35_CertcheckFinds.ann G_law35_CertcheckFinds.body e h (kFun prog Tryz.f4 Q)) : G_law35_CertcheckFinds.J Q k e h := goJ_run (P := prog) (fn := Tryz.f4) (ann := G_law35_CertcheckFinds.ann) (body := G_law35_CertcheckFinds.body) (Q := Q) (k := k) (p := p) (e := e) (h := h) (acall_le X) G_law35_CertcheckFinds.dist hl hk
theorem G_law35_CertcheckFinds.goH {Q : AV → AHeap → Prop} {k : Nat} {p : List Nat} (hl : lookJ (places G_law35_CertcheckFinds.ann G_law35_CertcheckFinds.body) k = some (p, true)) {e : Env} {h : AHeap} (hk : atJ prog C 31 (G_law35_CertcheckFinds.J Q) true p G_law35_CertcheckFinds.ann G_law35_CertcheckFinds.body e h (kFun prog Tryz.f4 Q)) : G_law35_CertcheckFinds.J Q k e h := goJ_head (P := prog) (fn := Tryz.f4) (ann := G_law35_CertcheckFinds.ann) (body := G_law35_CertcheckFinds.body) (Q := Q) (k := k) (p := p) (e := e) (h := h) (acall_le X) G_law35_CertcheckFinds.dist hl hk
def G_law35_CertcheckFinds.p0 (Q : AV → AHeap → Prop) (x2 : Bool) (h : AHeap) : Prop := G_law35_CertcheckFinds.J Q 1 [(2, (AV.b x2))] h
theorem G_law35_CertcheckFinds.j0 (Q : AV → AHeap → Prop) (x2 : Bool) (h : AHeap) : G_law35_CertcheckFinds.J Q 1 [(2, (AV.b x2))] h = G_law35_CertcheckFinds.p0 Q x2 h := rfl
def G_law35_CertcheckFinds.t0 (J : JT) (Q : AV → AHeap → Prop) (x2 : Bool) (h : AHeap) : Prop :=
Q (AV.b x2) h
theorem G_law35_CertcheckFinds.t0_eq (J : JT) (Q : AV → AHeap → Prop) (x2 : Bool) (h : AHeap) : G_law35_CertcheckFinds.t0 J Q x2 h = atJ prog C 31 J false [1, 1, 1] G_law35_CertcheckFinds.ann G_law35_CertcheckFinds.body [(2, (AV.b x2))] h (kFun prog Tryz.f4 Q) := by kernel_rfl
theorem G_law35_CertcheckFinds.i0 {Q : AV → AHeap → Prop} {x2 : Bool} {h : AHeap} (H : G_law35_CertcheckFinds.t0 (G_law35_CertcheckFinds.J Q) Q x2 h) : G_law35_CertcheckFinds.p0 Q x2 h := G_law35_CertcheckFinds.goR (k := 1) (p := [1, 1, 1]) (by kernel_rfl) ((G_law35_CertcheckFinds.t0_eq (G_law35_CertcheckFinds.J Q) Q x2 h).mp H)
def G_law35_CertcheckFinds.t (J : JT) (Q : AV → AHeap → Prop) (x0 : AV) (h : AHeap) : Prop :=
pBox (some 26) x0 h fun v0 h1 =>
pFieldAddr 0 v0 fun v3 =>
pLoad1 v3 h1 fun v4 =>
pFieldAddr 3 v0 fun v5 =>
pLoad1 v5 h1 fun v6 =>
C G_law35_large.id [v4, v6] h1 fun v7 h8 =>
asB v7 fun c9 =>
(bif c9 then
(C G_law35_awake.id [] h8 fun v11 h12 =>
asB v11 fun c13 =>
Q (AV.b c13) h12)
else
(pFieldAddr 0 v0 fun v16 =>
pLoad1 v16 h8 fun v17 =>
pFieldAddr 1 v0 fun v18 =>
pLoad1 v18 h8 fun v19 =>
asS v19 fun l20 =>
pFieldAddr 2 v0 fun v21 =>
pLoad1 v21 h8 fun v22 =>
asI .i64 v22 fun n23 =>
pFieldAddr 3 v0 fun v24 =>
pLoad1 v24 h8 fun v25 =>
pFieldAddr 0 v0 fun v26 =>
pLoad1 v26 h8 fun v27 =>
pFieldAddr 1 v0 fun v28 =>
pLoad1 v28 h8 fun v29 =>
asS v29 fun l30 =>
pFieldAddr 2 v0 fun v31 =>
pLoad1 v31 h8 fun v32 =>
asI .i64 v32 fun n33 =>
pFieldAddr 3 v0 fun v34 =>
pLoad1 v34 h8 fun v35 =>
C G_certcheck_Check.id [v17, (AV.s l20), (AV.i .i64 n23), v25] h8 fun v36 h37 =>
pLoad1 v34 h37 fun v38 =>
(v35 = v38 ∧
(pLoad1 v31 h37 fun v39 =>
asI .i64 v39 fun n40 =>
((AV.i .i64 n33) = (AV.i .i64 n40) ∧
(pLoad1 v28 h37 fun v41 =>
asS v41 fun l42 =>
((AV.s l30) = (AV.s l42) ∧
(pLoad1 v26 h37 fun v43 =>
(v27 = v43 ∧
(C G_ref35_Check.id [v27, (AV.s l30), (AV.i .i64 n33), v35] h37 fun v44 h45 =>
pLoad1 v24 h45 fun v46 =>
(v25 = v46 ∧
(pLoad1 v21 h45 fun v47 =>
asI .i64 v47 fun n48 =>
((AV.i .i64 n23) = (AV.i .i64 n48) ∧
(pLoad1 v18 h45 fun v49 =>
asS v49 fun l50 =>
((AV.s l20) = (AV.s l50) ∧
(pLoad1 v16 h45 fun v51 =>
(v17 = v51 ∧
(C G_law35_ints.id [v36, v44] h45 fun v52 h53 =>
asB v52 fun c54 =>
pLoad1 v34 h53 fun v55 =>
(v35 = v55 ∧
(pLoad1 v31 h53 fun v56 =>
asI .i64 v56 fun n57 =>
((AV.i .i64 n33) = (AV.i .i64 n57) ∧
(pLoad1 v28 h53 fun v58 =>
asS v58 fun l59 =>
((AV.s l30) = (AV.s l59) ∧
(pLoad1 v26 h53 fun v60 =>
(v27 = v60 ∧
(pLoad1 v24 h53 fun v61 =>
(v25 = v61 ∧
(pLoad1 v21 h53 fun v62 =>
asI .i64 v62 fun n63 =>
((AV.i .i64 n23) = (AV.i .i64 n63) ∧
(pLoad1 v18 h53 fun v64 =>
asS v64 fun l65 =>
((AV.s l20) = (AV.s l65) ∧
(pLoad1 v16 h53 fun v66 =>
(v17 = v66 ∧
((bif c54 then
(C G_law35_awake.id [] h53 fun v67 h68 =>
asB v67 fun c69 =>
pLoad1 v34 h68 fun v70 =>
(v35 = v70 ∧
(pLoad1 v31 h68 fun v71 =>
asI .i64 v71 fun n72 =>
((AV.i .i64 n33) = (AV.i .i64 n72) ∧
(pLoad1 v28 h68 fun v73 =>
asS v73 fun l74 =>
((AV.s l30) = (AV.s l74) ∧
(pLoad1 v26 h68 fun v75 =>
(v27 = v75 ∧
(pLoad1 v24 h68 fun v76 =>
(v25 = v76 ∧
(pLoad1 v21 h68 fun v77 =>
asI .i64 v77 fun n78 =>
((AV.i .i64 n23) = (AV.i .i64 n78) ∧
(pLoad1 v18 h68 fun v79 =>
asS v79 fun l80 =>
((AV.s l20) = (AV.s l80) ∧
(pLoad1 v16 h68 fun v81 =>
(v17 = v81 ∧
(J 1 [(2, (AV.b c69))] h68)))))))))))))))))
else
(J 1 [(2, (AV.b false))] h53))))))))))))))))))))))))))))))))))))
theorem G_law35_CertcheckFinds.t_eq (J : JT) (Q : AV → AHeap → Prop) (x0 : AV) (h : AHeap) : G_law35_CertcheckFinds.t J Q x0 h = exJ prog C 31 J G_law35_CertcheckFinds.ann G_law35_CertcheckFinds.body (initEnv 0 [x0]) h (kFun prog Tryz.f4 Q) := by kernel_rfl
theorem G_law35_CertcheckFinds.call {K : AV → AHeap → Prop} {x0 : AV} {h : AHeap} (H : G_law35_CertcheckFinds.t (G_law35_CertcheckFinds.J (kRet h K)) (kRet h K) x0 h) : C G_law35_CertcheckFinds.id [x0] h K :=
  callJ (P := prog) (fn := Tryz.f4) (ann := G_law35_CertcheckFinds.ann) (body := G_law35_CertcheckFinds.body) Tryz.func4 G_law35_CertcheckFinds.body_eq (by kernel_rfl) G_law35_CertcheckFinds.dist (by kernel_rfl) ((G_law35_CertcheckFinds.t_eq (G_law35_CertcheckFinds.J (kRet h K)) (kRet h K) x0 h).mp H)


end Go.Proofs.YtomghnmoomodiaaGreatDoor

/- CertcheckFinds. -/
set_option linter.unusedVariables false
set_option linter.unusedSimpArgs false
set_option linter.unusedSectionVars false
set_option maxRecDepth 20000
namespace Go.Proofs.YtomghnmoomodiaaGreatDoor
open Go.GAM Go.RowKit Go.ChangeShapes

theorem finds_c {q : Que} {cs : List AV} {h : AHeap} (G : CG h) (V : QV h q cs) (hw : wfQR q) : C G_law35_CertcheckFinds.id [.ag cs] h Yes := by
  obtain ⟨vc, vt, rfl, L, LT⟩ := V
  obtain ⟨ac, nc, kc, rfl⟩ : ∃ a n c, vc = .sl a n c := by obtain ⟨_, R, _⟩ := L; exact R.isSl
  obtain ⟨at_, nt, kt, rfl⟩ : ∃ a n c, vt = .sl a n c := by obtain ⟨_, R, _⟩ := LT; exact R.isSl
  refine G_law35_CertcheckFinds.call ?_
  simp only [G_law35_CertcheckFinds.t, G_law35_CertcheckFinds.j0]
  refine st_box rfl fun h1 hl1 U1 R => ?_
  have L := L.ext U1
  have LT := LT.ext U1
  refine st_fld (st_load R rfl rfl (st_fld (st_load R rfl rfl (large_c L LT (st_asB ?_)))))
  refine bif_both (fun e => awake_c fun h' _ => st_asB kRet_yes) fun e => ?_
  simp only [Bool.or_eq_false_iff, decide_eq_false_iff_not] at e
  refine st_fld (st_load R rfl rfl (st_fld (st_load R rfl rfl (st_asS (st_fld (st_load R rfl rfl (st_asI (st_fld (st_load R rfl rfl ?_)))))))))
  refine st_fld (st_load R rfl rfl (st_fld (st_load R rfl rfl (st_asS (st_fld (st_load R rfl rfl (st_asI (st_fld (st_load R rfl rfl ?_)))))))))
  refine checkQ_c (G.ext U1) L LT hw.q (by omega) (by omega) fun w h2 U2 W => ?_
  have R2 := R.upd U2 fun h => h
  refine st_load R2 rfl rfl ⟨rfl, st_load R2 rfl rfl (st_asI ⟨rfl, st_load R2 rfl rfl (st_asS ⟨rfl, st_load R2 rfl rfl ⟨rfl, ?_⟩⟩)⟩)⟩
  refine Rcheck_c (cm := commonS) (L.ext U2) (by omega) (LT.ext U2) (by omega) (fun c hc => ⟨by have := (hw.1 c hc).1; rw [maxLen_is] at this; exact this, (hw.1 c hc).2.1⟩) hw.2.2 (fun c hc _ => RcommonAt) fun w2 h3 U3 W2 => ?_
  have R3 := R2.upd U3 fun h => h
  refine st_load R3 rfl rfl ⟨rfl, st_load R3 rfl rfl (st_asI ⟨rfl, st_load R3 rfl rfl (st_asS ⟨rfl, st_load R3 rfl rfl ⟨rfl, ?_⟩⟩)⟩)⟩
  refine ints_c (W.upd U3 fun _ _ h => h) W2 (by
    unfold checkS; split
    · simp
    · have := outS_len commonS q.tr q.host q.at' q.ch 7; omega) (st_asB ?_)
  refine st_load R3 rfl rfl ⟨rfl, st_load R3 rfl rfl (st_asI ⟨rfl, st_load R3 rfl rfl (st_asS ⟨rfl, st_load R3 rfl rfl ⟨rfl, ?_⟩⟩)⟩)⟩
  refine st_load R3 rfl rfl ⟨rfl, st_load R3 rfl rfl (st_asI ⟨rfl, st_load R3 rfl rfl (st_asS ⟨rfl, st_load R3 rfl rfl ⟨rfl, ?_⟩⟩)⟩)⟩
  refine bif_t (by simp) (awake_c fun h4 U4 => st_asB ?_)
  have R4 := R3.upd U4 fun h => h
  refine st_load R4 rfl rfl ⟨rfl, st_load R4 rfl rfl (st_asI ⟨rfl, st_load R4 rfl rfl (st_asS ⟨rfl, st_load R4 rfl rfl ⟨rfl, ?_⟩⟩)⟩)⟩
  refine st_load R4 rfl rfl ⟨rfl, st_load R4 rfl rfl (st_asI ⟨rfl, st_load R4 rfl rfl (st_asS ⟨rfl, st_load R4 rfl rfl ⟨rfl, ?_⟩⟩)⟩)⟩
  refine G_law35_CertcheckFinds.i0 ?_
  simp only [G_law35_CertcheckFinds.t0]
  exact kRet_yes

theorem walk_CertcheckFinds {H : Type} {enc : TypeId × Value → H} {v : Value} (W : World) (hL : laidMet Tryz.prog Rows.certcheckFindsRow.laid W) (r0 : InW enc Tryz.prog W 26 v.cells.toList) :
    Calls Tryz.prog G_law35_CertcheckFinds.id #[v] W fun e w' => e = .returned (.bool true) ∧ Below W.heap.size W w' := by
  obtain ⟨cs, q, hv, hq, hw⟩ := queR r0
  exact law_callsAt mixedOK sizeOK (soundX (tab_ok (l := Rows.certcheckFindsRow.laid) (List.mem_of_getElem? (i := 2) rfl) hL)) (by kernel_rfl) (szOf := fun _ => 1) (.cons _ _ _ _ hv .nil) (finds_c (cg_of (l := Rows.certcheckFindsRow.laid) (List.mem_of_getElem? (i := 5) rfl) (List.mem_of_getElem? (i := 4) rfl) (List.mem_of_getElem? (i := 6) rfl) hL) hq hw)

end Go.Proofs.YtomghnmoomodiaaGreatDoor

