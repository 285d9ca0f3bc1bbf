/- WindowCovers. -/
import Derived.Test.YtbmmnckklafplaaTy7
set_option linter.unusedVariables false
set_option linter.unusedSimpArgs false
set_option linter.unusedSectionVars false
set_option maxRecDepth 20000
namespace Go.Proofs.Ytbmmnckklafplaa
open Go.GAM Go.RowKit

/-- The windows' number. -/
def cnt (n : Nat) : Nat := nw n + (if 0 < n ∧ (nw n = 0 ∨ nw n * 512 + 512 < n) then 1 else 0)
def winB (s : List UInt8) (i : Nat) : Bf := (1, 2, (i : Int), (s.drop (i * 512)).take 1024)

theorem allL_wins (s : List UInt8) : allL 1 2 s = (List.range (cnt s.length)).map (winB s) := by
  unfold allL cnt gapL
  have e1 : outsL 1 2 s 0 0 (nw s.length) = (List.range (nw s.length)).map (winB s) := by simp [outsL, winB]
  have hc : (0 < (s.drop (nw s.length * 512)).length ∧ (nw s.length = 0 ∨ 512 < (s.drop (nw s.length * 512)).length)) ↔ (0 < s.length ∧ (nw s.length = 0 ∨ nw s.length * 512 + 512 < s.length)) := by
    rw [List.length_drop]
    have := nw_le s.length
    have := @nw_pos s.length
    constructor <;> intro h <;> refine ⟨by omega, by omega⟩
  rw [e1]
  by_cases h : 0 < s.length ∧ (nw s.length = 0 ∨ nw s.length * 512 + 512 < s.length)
  · rw [if_pos (hc.2 h), if_pos h, List.range_succ, List.map_append]
    congr 1
    have : (s.drop (nw s.length * 512)).take 1024 = s.drop (nw s.length * 512) := List.take_of_length_le (by rw [List.length_drop]; unfold nw; omega)
    simp [winB, this]
  · rw [if_neg (fun h2 => h (hc.1 h2)), if_neg h]
    simp

theorem encs_cell {l : List Bf} {j : Nat} {b : Bf} (h : l[j]? = some b) : (encs l)[j * 4 + 2]? = some (.i .i64 b.2.2.1) ∧ (encs l)[j * 4 + 3]? = some (.s b.2.2.2) := by
  have h4 := encs_at h
  have e : ∀ o, o < 4 → (encs l)[j * 4 + o]? = (encB b)[o]? := fun o ho => by rw [← h4, List.getElem?_take_of_lt ho, List.getElem?_drop]
  rw [e 2 (by omega), e 3 (by omega)]
  exact ⟨rfl, rfl⟩

section
variable {s : List UInt8} {h0 : AHeap} {got : AV}

theorem Cov_p8 {h : AHeap} : G_law40_WindowCovers.p8 (kRet h0 Yes) true h := by
  refine G_law40_WindowCovers.i8 ?_
  simp only [G_law40_WindowCovers.t8]
  exact kRet_yes
theorem Cov_p3 {h : AHeap} : G_law40_WindowCovers.p3 (kRet h0 Yes) true h := by
  refine G_law40_WindowCovers.i3 ?_
  simp only [G_law40_WindowCovers.t3]
  exact kRet_yes

theorem Cov_p7 {f t i : Nat} {fd : Bool} {h : AHeap} (hi : i ≤ 100) (hk : G_law40_WindowCovers.p5 (kRet h0 Yes) s got f t fd (i + 1 : Nat) h) : G_law40_WindowCovers.p7 (kRet h0 Yes) s got f t fd i h := by
  refine G_law40_WindowCovers.i7 ?_
  simp only [G_law40_WindowCovers.t7, G_law40_WindowCovers.j5]
  exact withI_is (n := ((i + 1 : Nat) : Int)) (by rw [wrap_i64 (by omega) (by omega)]; omega) hk

theorem Cov_p6 {f t i : Nat} {fd : Bool} {d : List UInt8} {h : AHeap} (hi : i ≤ 100) (hd : d.length ≤ 5000) (hk : G_law40_WindowCovers.p5 (kRet h0 Yes) s got f t (fd || (decide (512 * i ≤ f) && decide (t ≤ 512 * i + d.length))) (i + 1 : Nat) h) : G_law40_WindowCovers.p6 (kRet h0 Yes) s got f t fd i d false h := by
  refine G_law40_WindowCovers.i6 ?_
  simp only [G_law40_WindowCovers.t6, G_law40_WindowCovers.j7]
  refine bif_f rfl ?_
  refine bif_both (fun e => ?_) fun e => ?_
  · subst e
    exact Cov_p7 hi (by simpa using hk)
  · subst e
    refine withI_is (n := ((512 * i : Nat) : Int)) (by rw [wrap_i64 (by omega) (by omega)]; omega) ?_
    refine bif_both (fun e => ?_) fun e => ?_
    · simp only [decide_eq_true_eq] at e
      refine withI_is (n := ((512 * i : Nat) : Int)) (by rw [wrap_i64 (by omega) (by omega)]; omega) ?_
      refine withI_is (n := ((512 * i + d.length : Nat) : Int)) (by rw [wrap_i64 (by omega) (by omega)]; omega) ?_
      refine Cov_p7 hi ?_
      have e2 : decide ((t : Int) ≤ ((512 * i + d.length : Nat) : Int)) = (false || (decide (512 * i ≤ f) && decide (t ≤ 512 * i + d.length))) := by
        rw [decide_eq_true (by omega : 512 * i ≤ f), Bool.false_or, Bool.true_and, decide_eq_decide]; omega
      rw [e2]; exact hk
    · simp only [decide_eq_false_iff_not] at e
      refine Cov_p7 hi ?_
      rw [decide_eq_false (by omega : ¬ 512 * i ≤ f)] at hk
      simpa using hk

/-- Whether one of the first i windows holds the string. -/
def held (s : List UInt8) (f t i : Nat) : Bool := (List.range i).any fun j => decide (512 * j ≤ f) && decide (t ≤ 512 * j + ((s.drop (j * 512)).take 1024).length)

theorem held_all {f : Nat} (hf : f < s.length) : held s f (min (f + 513) s.length) (cnt s.length) = true := by
  unfold held
  rw [List.any_eq_true]
  have hnl := nw_le s.length
  have hnw : nw s.length = (s.length - 512) / 512 := rfl
  have hcw : nw s.length ≤ cnt s.length := by unfold cnt; omega
  by_cases h1 : f / 512 < nw s.length
  · refine ⟨f / 512, List.mem_range.2 (by omega), ?_⟩
    simp only [Bool.and_eq_true, decide_eq_true_eq, List.length_take, List.length_drop]
    omega
  · by_cases h2 : 0 < s.length ∧ (nw s.length = 0 ∨ nw s.length * 512 + 512 < s.length)
    · have hc : cnt s.length = nw s.length + 1 := by unfold cnt; rw [if_pos h2]
      refine ⟨nw s.length, List.mem_range.2 (by omega), ?_⟩
      simp only [Bool.and_eq_true, decide_eq_true_eq, List.length_take, List.length_drop]
      omega
    · refine ⟨nw s.length - 1, List.mem_range.2 (by omega), ?_⟩
      simp only [Bool.and_eq_true, decide_eq_true_eq, List.length_take, List.length_drop]
      omega

theorem cnt_le {n : Nat} (h : n ≤ 5000) : cnt n ≤ 12 := by unfold cnt nw; split <;> omega

theorem Cov_p5 (hs : s.length ≤ 5000) {f : Nat} (hf : f < s.length) {h : AHeap} (R : Rd 4 h got (encs (allL 1 2 s)) (allL 1 2 s).length) : ∀ m i, i + m = cnt s.length → G_law40_WindowCovers.p5 (kRet h0 Yes) s got f (min (f + 513) s.length : Nat) (held s f (min (f + 513) s.length) i) i h := by
  have hlen : (allL 1 2 s).length = cnt s.length := by rw [allL_wins]; simp
  have hcl := cnt_le hs
  have hnl := nw_le s.length
  have hnp := @nw_pos s.length
  intro m
  induction m with
  | zero =>
    intro i hi
    have hii : i = cnt s.length := by omega
    subst hii
    refine G_law40_WindowCovers.i5 ?_
    simp only [G_law40_WindowCovers.t5, G_law40_WindowCovers.j6, G_law40_WindowCovers.j8]
    refine R.len (bif_f (by simp; omega) ?_)
    exact bif_t (held_all hf) (awake_c (st_asB Cov_p8))
  | succ m ih =>
    intro i hi
    have hlt : i < cnt s.length := by omega
    have hat : (allL 1 2 s)[i]? = some (winB s i) := by rw [allL_wins, List.getElem?_map, List.getElem?_range hlt]; rfl
    obtain ⟨c2, c3⟩ := encs_cell hat
    have hil : i * 512 ≤ s.length := by unfold cnt at hlt; split at hlt <;> omega
    have hdl : ((s.drop (i * 512)).take 1024).length ≤ 1024 := by simp; omega
    have hdl2 : ((s.drop (i * 512)).take 1024).length ≤ s.length - i * 512 := by simp; omega
    refine G_law40_WindowCovers.i5 ?_
    simp only [G_law40_WindowCovers.t5, G_law40_WindowCovers.j6, G_law40_WindowCovers.j8]
    refine R.len (bif_t (by simp; omega) ?_)
    refine R.fld (by omega) (by decide) c3 (st_asS ?_)
    refine R.fld (by omega) (by decide) c2 (st_asI64 ?_)
    refine bif_f (by simp [winB]) ?_
    refine bif_f (decide_eq_false (by show ¬ (1024 : Int) < (((s.drop (i * 512)).take 1024).length : Int); omega)) ?_
    refine withI_is (n := ((i * 512 : Nat) : Int)) (by rw [wrap_i64 (by omega) (by omega)]; omega) ?_
    refine bif_f (decide_eq_false (by omega)) ?_
    refine withI_is (n := ((i * 512 : Nat) : Int)) (by rw [wrap_i64 (by omega) (by omega)]; omega) ?_
    refine withI_is (n := ((s.length - i * 512 : Nat) : Int)) (by rw [wrap_i64 (by omega) (by omega)]; omega) ?_
    refine bif_f (decide_eq_false (by show ¬ ((s.length - i * 512 : Nat) : Int) < (((s.drop (i * 512)).take 1024).length : Int); omega)) ?_
    refine withI_is (n := ((i * 512 : Nat) : Int)) (by rw [wrap_i64 (by omega) (by omega)]; omega) ?_
    refine withI_is (n := ((i * 512 : Nat) : Int)) (by rw [wrap_i64 (by omega) (by omega)]; omega) ?_
    refine withI_is (n := ((i * 512 + ((s.drop (i * 512)).take 1024).length : Nat) : Int)) (by simp only [winB]; rw [wrap_i64 (by omega) (by omega)]; omega) ?_
    refine st_subs2 (by omega) (by omega) ?_
    have hsub : (s.take (i * 512 + ((s.drop (i * 512)).take 1024).length)).drop (i * 512) = (s.drop (i * 512)).take 1024 := by
      rw [List.drop_take, Nat.add_sub_cancel_left, List.length_take, ← List.take_take]
      congr 1
      rw [List.take_of_length_le (Nat.le_refl _)]
    rw [hsub]
    have e0 : (!decide ((s.drop (i * 512)).take 1024 = (winB s i).2.2.2)) = false := by simp [winB]
    rw [e0]
    refine Cov_p6 (by omega) (by simp only [winB]; omega) ?_
    have := ih (i + 1) (by omega)
    have e3 : held s f (min (f + 513) s.length) (i + 1) = (held s f (min (f + 513) s.length) i || (decide (512 * i ≤ f) && decide (min (f + 513) s.length ≤ 512 * i + ((winB s i).2.2.2).length))) := by
      unfold held
      rw [List.range_succ, List.any_append]
      simp [winB]
    rw [e3] at this
    exact this

theorem Cov_p4 (hs : s.length ≤ 5000) {f : Nat} (hf : f < s.length) {h : AHeap} (R : Rd 4 h got (encs (allL 1 2 s)) (allL 1 2 s).length) : G_law40_WindowCovers.p4 (kRet h0 Yes) s got f (min (f + 513) s.length : Nat) h := by
  refine G_law40_WindowCovers.i4 ?_
  simp only [G_law40_WindowCovers.t4, G_law40_WindowCovers.j5]
  exact Cov_p5 hs hf R (cnt s.length) 0 (by omega)

/-- The state while the pieces are fed: c bytes are. -/
structure CInv (s : List UInt8) (h0 : AHeap) (wid : Nat) (c : Nat) (got : AV) (h : AHeap) : Prop where
  win : WIN (SlAt got) h wid 1 2 (nw c) (nw (s.take c).length) ((s.take c).drop (nw (s.take c).length * 512))
  arr : Arr 4 h got (encs (outsL 1 2 s 0 0 (nw c))) (nw c)
  new : ∀ i, SlAt got i → wid < i
  le : c ≤ s.length
  old : h0.length ≤ wid
  upd : Upd (fun _ => False) h0 h

theorem outsL_take {k d : Int} {c dn ix m : Nat} (h : dn + m ≤ nw c) : outsL k d (s.take c) dn ix m = outsL k d s dn ix m := by
  unfold outsL
  refine List.map_congr_left fun i hi => ?_
  have := List.mem_range.1 hi
  have hw : (dn + i) * 512 + 1024 ≤ c := by unfold nw at h; omega
  have : ((s.take c).drop ((dn + i) * 512)).take 1024 = (s.drop ((dn + i) * 512)).take 1024 := by
    rw [List.drop_take, List.take_take, Nat.min_eq_left (by omega)]
  rw [this]
theorem outsL_split (k d : Int) (S : List UInt8) (a b : Nat) (hab : a ≤ b) : outsL k d S 0 0 a ++ outsL k d S a a (b - a) = outsL k d S 0 0 b := by
  obtain ⟨m, rfl⟩ : ∃ m, b = a + m := ⟨b - a, by omega⟩
  rw [Nat.add_sub_cancel_left]
  unfold outsL
  rw [List.range_add, List.map_append, List.map_map]
  congr 1
  refine List.map_congr_left fun i _ => ?_
  simp

theorem Cov_feed (hs : s.length ≤ 5000) {wid c k : Nat} {h : AHeap} (I : CInv s h0 wid c got h) (hk : c + k ≤ s.length) {Q : AV → AHeap → Prop} (hq : ∀ v h', CInv s h0 wid (c + k) v h' → Q v h') :
    C G_window_Window_Feed.id [.p (some ⟨wid, 5, 0⟩), .s ((s.drop c).take k)] h fun v h1 => pAppend 4 40 got v h1 Q := by
  have hc : (s.take c).length = c := by rw [List.length_take]; have := I.le; omega
  have hcat : s.take c ++ (s.drop c).take k = s.take (c + k) := by rw [List.take_add]
  have hck : (s.take (c + k)).length = c + k := by rw [List.length_take]; omega
  have hm : nw c ≤ nw (c + k) := by unfold nw; exact Nat.div_le_div_right (by omega)
  have hb : nw (c + k) ≤ 10 := by unfold nw; omega
  have hwl : wid < h.length := by obtain ⟨bv, R, _⟩ := I.win; exact R.lt
  refine Feed_c I.win (by omega) (by rw [hc, List.length_take]; omega) fun v h1 U W A F => ?_
  rw [hcat, hck] at W
  rw [hcat, hck] at A
  rw [hc] at W A
  have A2 := I.arr.upd U fun i hi e => by have := I.new i hi; omega
  refine A2.append (by decide) (fun K hK => A.rd.news hK) (by rw [encs_len, outsL_len]) (encs_ok _) (by omega) (by omega) fun v' h2 U2 A3 F3 => hq v' h2 ?_
  have hgl : ∀ i, SlAt got i → i < h.length := fun i hi => Rd.lt I.arr.rd hi
  refine ⟨?_, ?_, fun i hi => ?_, by omega, I.old, ?_⟩
  · rw [hck]
    rw [show nw c + (nw (c + k) - nw c) = nw (c + k) by omega] at W
    refine (W.fresh U2 (fun hs => by have := I.new _ hs; omega) (fun i hi hs => .inl ⟨hgl i hs, hs⟩) fun i hi => ?_)
    rcases F3 i hi with h | h
    · exact .inl (.inl ⟨hgl i h, h⟩)
    · exact .inr h
  · rw [outsL_take (by omega), ← encs_app, outsL_split 1 2 s (nw c) (nw (c + k)) hm, show nw c + (nw (c + k) - nw c) = nw (c + k) by omega] at A3
    exact A3
  · rcases F3 i hi with h | h
    · exact I.new i h
    · have := U.1; omega
  · exact (I.upd.trans U fun i hi e => by have := I.old; omega).trans U2 fun i hi hs => by have := I.new i hs; have := I.old; omega

end

/-! ### the pieces -/

section
variable {s : List UInt8} {h0 : AHeap} {cap : Option Nat} {id ver off wid : Nat} {b : ABlk} {l : List { n : Int // (Lit.int .u16 n).wf = true }} {at_ : Int}

def encU (x : { n : Int // (Lit.int .u16 n).wf = true }) : List AV := [.i .u16 x.1]
theorem encU_at {l : List { n : Int // (Lit.int .u16 n).wf = true }} {j : Nat} {x : { n : Int // (Lit.int .u16 n).wf = true }} (h : l[j]? = some x) : (l.flatMap encU)[j * 1 + 0]? = some (.i .u16 x.1) := by
  have : l.flatMap encU = l.map fun x => AV.i .u16 x.1 := by
    clear h
    induction l with
    | nil => rfl
    | cons a l ih => rw [List.flatMap_cons, ih]; rfl
  rw [this]
  simp [h]
theorem u16_bd (x : { n : Int // (Lit.int .u16 n).wf = true }) : 0 ≤ x.1 ∧ x.1 ≤ 65535 := by
  have := x.2
  simp [Lit.wf, IntKind.min, IntKind.max, IntKind.signed, IntKind.bits] at this
  omega

theorem Cov_p2 (hs : s.length ≤ 5000) {c k i : Nat} {got : AV} {h : AHeap} (hi : i ≤ 40) (I : CInv s h0 wid c got h) (hk : c + k ≤ s.length)
    (hnext : ∀ v h', CInv s h0 wid (c + k) v h' → G_law40_WindowCovers.p1 (kRet h0 Yes) (.sl (some ⟨id, ver, off⟩) l.length cap) at_ s (.p (some ⟨wid, 5, 0⟩)) v (s.drop (c + k)) (i + 1 : Nat) h') :
    G_law40_WindowCovers.p2 (kRet h0 Yes) (.sl (some ⟨id, ver, off⟩) l.length cap) at_ s (.p (some ⟨wid, 5, 0⟩)) got (s.drop c) i k h := by
  refine G_law40_WindowCovers.i2 ?_
  simp only [G_law40_WindowCovers.t2, G_law40_WindowCovers.j1]
  refine st_subs1 (by rw [List.length_drop]; omega) ?_
  refine Cov_feed hs I hk fun v h' I' => ?_
  refine st_subs (by rw [List.length_drop]; omega) ?_
  rw [List.drop_drop]
  exact withI_is (n := ((i + 1 : Nat) : Int)) (by rw [wrap_i64 (by omega) (by omega)]; omega) (hnext v h' I')

theorem Cov_end (hs : s.length ≤ 5000) (ha : 0 ≤ at_ ∧ at_ ≤ 65535) {c : Nat} {got : AV} {h : AHeap} (I : CInv s h0 wid c got h) :
    C G_window_Window_Feed.id [.p (some ⟨wid, 5, 0⟩), .s (s.drop c)] h fun v46 h47 =>
    pAppend 4 40 got v46 h47 fun v48 h49 =>
    C G_window_Window_Close.id [.p (some ⟨wid, 5, 0⟩)] h49 fun v51 h52 =>
    pAppend 4 40 v48 v51 h52 fun v53 h54 =>
    C G_window_All.id [(AV.i .i64 1), (AV.i .i64 2), (AV.s s)] h54 fun v56 h57 =>
    C G_ref40_Same.id [v53, v56] h57 fun v58 h59 =>
    asB v58 fun c60 =>
    (bif (!c60) then
    (kRet h0 Yes (AV.b false) h59)
    else
    ((bif (decide (((s.length : Int) : Int) = 0)) then
    (pLenSl v53 fun n65 =>
    (bif (decide ((n65 : Int) = 0)) then
    (C G_law40_awake.id [] h59 fun v66 h67 =>
    asB v66 fun c68 =>
    G_law40_WindowCovers.p3 (kRet h0 Yes) c68 h67)
    else
    (G_law40_WindowCovers.p3 (kRet h0 Yes) false h59)))
    else
    (pRem (IntKind.wrap .i64 at_) (s.length : Int) fun n72 =>
    withI (IntKind.wrap .i64 (n72 + 513)) fun n74 =>
    (bif (decide (((s.length : Int) : Int) < n74)) then
    (G_law40_WindowCovers.p4 (kRet h0 Yes) s v53 n72 (s.length : Int) h59)
    else
    (G_law40_WindowCovers.p4 (kRet h0 Yes) s v53 n72 n74 h59)))))) := by
  have hfull : (s.drop c).take (s.length - c) = s.drop c := List.take_of_length_le (by rw [List.length_drop]; omega)
  have hcl := I.le
  have hb : nw s.length ≤ 10 := by unfold nw; omega
  rw [← hfull]
  refine Cov_feed hs I (by omega) fun v48 h49 I2 => ?_
  rw [show c + (s.length - c) = s.length by omega] at I2
  have W := I2.win
  rw [List.take_length] at W
  have hwl : wid < h49.length := by obtain ⟨bv, R, _⟩ := W; exact R.lt
  refine Close_c W (by omega) (by rw [List.length_drop]; omega) fun v51 h52 U R A F => ?_
  have hg := gapL_len 1 2 (nw s.length) (nw s.length) (s.drop (nw s.length * 512))
  have A2 := I2.arr.upd U fun i hi e => by have := I2.new i hi; omega
  refine A2.append (by decide) (fun K hK => A.rd.news hK) (encs_len _) (encs_ok _) (by omega) (by omega) fun v53 h54 U3 A3 F3 => ?_
  have hall : allL 1 2 s = outsL 1 2 s 0 0 (nw s.length) ++ gapL 1 2 (nw s.length) (nw s.length) (s.drop (nw s.length * 512)) := rfl
  have A3' : Arr 4 h54 v53 (encs (allL 1 2 s)) (allL 1 2 s).length := by rw [hall, encs_app, List.length_append, outsL_len]; exact A3
  refine All_c (by omega) fun v56 h57 U4 A4 F4 => ?_
  have A34 := A3'.upd U4 fun _ _ h => h
  have hcn := cnt_le hs
  have hlen : (allL 1 2 s).length = cnt s.length := by rw [allL_wins]; simp
  refine Same_c A34.rd A4.rd (by omega) (st_asB (bif_f rfl ?_))
  refine bif_both (fun e => ?_) fun e => ?_
  · simp only [decide_eq_true_eq] at e
    have e0 : s.length = 0 := by omega
    refine A34.rd.len (bif_t (by rw [hlen, e0]; rfl) ?_)
    exact awake_c (st_asB Cov_p3)
  · simp only [decide_eq_false_iff_not] at e
    rw [wrap_i64 (by omega) (by omega)]
    obtain ⟨a, rfl⟩ : ∃ a : Nat, at_ = a := ⟨at_.toNat, by omega⟩
    refine st_rem (n := ((a % s.length : Nat) : Int)) (by omega) (by rw [Int.tmod_eq_emod_of_nonneg (by omega)]; omega) ?_
    have hlt : a % s.length < s.length := Nat.mod_lt _ (by omega)
    refine withI_is (n := ((a % s.length + 513 : Nat) : Int)) (by rw [wrap_i64 (by omega) (by omega)]; omega) ?_
    refine bif_both (fun e2 => ?_) fun e2 => ?_
    · simp only [decide_eq_true_eq] at e2
      have := Cov_p4 (h0 := h0) hs hlt A34.rd
      rw [Nat.min_eq_right (by omega)] at this
      exact this
    · simp only [decide_eq_false_iff_not] at e2
      have := Cov_p4 (h0 := h0) hs hlt A34.rd
      rw [Nat.min_eq_left (by omega)] at this
      exact this

theorem Cov_p1 (hs : s.length ≤ 5000) (ha : 0 ≤ at_ ∧ at_ ≤ 65535) (hn : l.length ≤ 40) (hid : id < h0.length) (A0 : RdAt 1 h0 id ver off b (l.flatMap encU) l.length) : ∀ (m i c : Nat) (got : AV) (h : AHeap), i + m = l.length → CInv s h0 wid c got h →
    G_law40_WindowCovers.p1 (kRet h0 Yes) (.sl (some ⟨id, ver, off⟩) l.length cap) at_ s (.p (some ⟨wid, 5, 0⟩)) got (s.drop c) i h := by
  intro m
  induction m with
  | zero =>
    intro i c got h hi I
    refine G_law40_WindowCovers.i1 ?_
    simp only [G_law40_WindowCovers.t1, G_law40_WindowCovers.j2, G_law40_WindowCovers.j3, G_law40_WindowCovers.j4]
    exact st_len (bif_f (by simp; omega) (Cov_end hs ha I))
  | succ m ih =>
    intro i c got h hi I
    have hlt : i < l.length := by omega
    have A := A0.upd I.upd fun h => h
    obtain ⟨b0, b1⟩ := u16_bd l[i]
    have hcl := I.le
    refine G_law40_WindowCovers.i1 ?_
    simp only [G_law40_WindowCovers.t1, G_law40_WindowCovers.j2, G_law40_WindowCovers.j3, G_law40_WindowCovers.j4]
    refine st_len (bif_t (by simp; omega) ?_)
    refine st_idx A hlt (st_elem (o := 0) A hlt (by decide) (encU_at (List.getElem?_eq_getElem hlt)) ?_)
    obtain ⟨k, hk⟩ : ∃ k : Nat, (l[i]).1 = k := ⟨(l[i]).1.toNat, by omega⟩
    rw [hk] at b0 b1 ⊢
    refine st_asI ?_
    rw [wrap_i64 (by omega) (by omega)]
    refine withB_is rfl ?_
    refine bif_both (fun e => ?_) fun e => ?_
    · simp only [decide_eq_true_eq] at e
      refine Cov_p2 hs (by omega) I (k := (s.drop c).length) (by rw [List.length_drop]; omega) fun v h' I' => ih (i + 1) _ v h' (by omega) I'
    · simp only [decide_eq_false_iff_not, List.length_drop] at e
      refine Cov_p2 hs (by omega) I (k := k) (by omega) fun v h' I' => ih (i + 1) _ v h' (by omega) I'
end

theorem Cov_p0t {h0 h : AHeap} {a c : Int} {v : AV} : G_law40_WindowCovers.p0 (kRet h0 Yes) a v c true h := by
  refine G_law40_WindowCovers.i0 ?_
  simp only [G_law40_WindowCovers.t0, G_law40_WindowCovers.j1]
  exact bif_t rfl (awake_c (st_asB kRet_yes))

theorem WindowCovers_c {h : AHeap} {a c : Int} {v : AV} {l : List { n : Int // (Lit.int .u16 n).wf = true }} (ha : 0 ≤ a) (hc : 0 ≤ c ∧ c ≤ 65535) (R : SArg 1 h v (l.flatMap encU) l.length) : C G_law40_WindowCovers.id [.i .u16 a, v, .i .u16 c] h Yes := by
  refine G_law40_WindowCovers.call ?_
  simp only [G_law40_WindowCovers.t, G_law40_WindowCovers.j0]
  refine bif_both (fun e => Cov_p0t) fun e => R.len ?_
  by_cases h40 : (40 : Int) < l.length
  · rw [decide_eq_true h40]; exact Cov_p0t
  rw [decide_eq_false h40]
  simp only [decide_eq_false_iff_not] at e
  obtain ⟨n, rfl⟩ : ∃ n : Nat, a = n := ⟨a.toNat, by omega⟩
  refine G_law40_WindowCovers.i0 ?_
  simp only [G_law40_WindowCovers.t0, G_law40_WindowCovers.j1]
  refine bif_f rfl ?_
  rw [wrap_i64 (by omega) (by omega)]
  refine text_c (n := n) (s := 5) (by omega) (by omega) (by omega) (st_asS ?_)
  have hl := textS_len n 5
  generalize textS n 5 = s at hl ⊢
  refine New_c fun h1 hl1 U1 R1 => eqNil26 (st_asB (bif_f rfl ?_))
  have I : CInv s h h.length 0 (.sl none 0 none) h1 := ⟨by rw [List.take_zero]; exact ⟨_, R1, .inl ⟨rfl, rfl, rfl⟩, fun _ h => h.elim⟩, Arr.nil _ _, fun _ h => h.elim, by omega, Nat.le_refl _, U1⟩
  rcases R with (⟨rfl, hl0, _⟩ | ⟨id, ver, off, cap, b, rfl, g1, g2, g3, g4, g5, g6⟩) | ⟨hl0, _, a0, c0, rfl⟩
  · refine G_law40_WindowCovers.i1 ?_
    simp only [G_law40_WindowCovers.t1, G_law40_WindowCovers.j2, G_law40_WindowCovers.j3, G_law40_WindowCovers.j4]
    exact st_len (bif_f (by simp) (Cov_end (by omega) hc I))
  · have A : RdAt 1 h id ver off b (l.flatMap encU) l.length := ⟨g1, g2, g3, g4, g5, g6⟩
    exact Cov_p1 (b := b) (by omega) hc (by omega) A.lt A l.length 0 0 _ h1 (by omega) I
  · refine G_law40_WindowCovers.i1 ?_
    simp only [G_law40_WindowCovers.t1, G_law40_WindowCovers.j2, G_law40_WindowCovers.j3, G_law40_WindowCovers.j4]
    exact st_len (bif_f (by simp) (Cov_end (by omega) hc I))

theorem walk_WindowCovers {H : Type} {enc : TypeId × Value → H} {a c : Int} {b : Option Addr} {len cap : Nat} {d : DataW H} {p : List MemPlace} (W : World) (w0 : (Lit.int .u16 a).wf = true) (k : DataW.Trod enc prog W 0 (fun _ => true) true 23 (.slice b len cap) d p) (w2 : (Lit.int .u16 c).wf = true) :
    Calls prog 3 #[.int .u16 a, .slice b len cap, .int .u16 c] W fun e w' => e = .returned (.bool true) ∧ Below W.heap.size W w' := by
  have f0 := u16_bd ⟨a, w0⟩
  have f2 := u16_bd ⟨c, w2⟩
  obtain ⟨av, l, hv, hs⟩ := row_arg (szOf := fun _ => 1) encU Try.underlying23 (by kernel_rfl) (by decide) (fun _ => rfl) (fun r n y h => row_int Try.underlying22 r n y h) k
  exact law_calls mixedOK sizeOK soundX (by kernel_rfl) (szOf := fun _ => 1) (.cons _ _ _ _ (.i _ _) (.cons _ _ _ _ hv (.cons _ _ _ _ (.i _ _) .nil))) (WindowCovers_c f0.1 f2 hs)

end Go.Proofs.Ytbmmnckklafplaa
