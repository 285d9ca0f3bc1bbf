/- Paths. -/
import Derived.Test.YtbphaelhhfkdiaaDoorTy5
set_option linter.unusedVariables false
set_option linter.unusedSimpArgs false
set_option linter.unusedSectionVars false
set_option maxRecDepth 20000
namespace Go.Proofs.YtbphaelhhfkdiaaDoor
open Go.GAM Go.RowKit

def qpos : List UInt8 → Nat
  | [] => 0
  | c :: r => if c = 63 then 0 else qpos r + 1
def stepP (l : List (List UInt8)) (x : List UInt8) : List (List UInt8) :=
  if x = [] ∨ x = [46] then l else if x = [46, 46] then l.dropLast else l ++ [x]
def pre (p : List UInt8) : List UInt8 := if p.take 1 = [47] then [47] else []
def lastS (p : List UInt8) : List UInt8 := (splitS p).getLastD []
def special (x : List UInt8) : Prop := x = [] ∨ x = [46] ∨ x = [46, 46]
instance (x : List UInt8) : Decidable (special x) := by unfold special; infer_instance
def keptS (p : List UInt8) : List (List UInt8) := (splitS p).foldl stepP []
def orRoot (o : List UInt8) : List UInt8 := if o = [] then [47] else o
def bodyS (p : List UInt8) : List UInt8 := orRoot (pre p ++ Lib.join (keptS p) [47] ++ (if keptS p ≠ [] ∧ special (lastS p) then [47] else []))
def pathS (s : List UInt8) : List UInt8 := bodyS (s.take (qpos s)) ++ s.drop (qpos s)

/-! ### sizes -/

def wt : List (List UInt8) → Nat
  | [] => 0
  | a :: l => a.length + 1 + wt l
theorem wt_append : ∀ a b, wt (a ++ b) = wt a + wt b
  | [], b => by simp [wt]
  | x :: a, b => by simp [wt, wt_append a b]; omega
theorem wt_len : ∀ l, l.length ≤ wt l
  | [] => by simp
  | x :: a => by have := wt_len a; simp [wt]; omega
theorem wt_take : ∀ (l) (n : Nat), wt (l.take n) ≤ wt l
  | [], n => by simp
  | x :: a, 0 => by simp [wt]
  | x :: a, n + 1 => by have := wt_take a n; simp [wt]; omega
theorem wt_prep (a : List UInt8) {l : List (List UInt8)} (h : l ≠ []) : wt (prep a l) = a.length + wt l := by
  cases l with
  | nil => exact absurd rfl h
  | cons b l => simp [prep, wt]; omega
theorem wt_split : ∀ s, wt (splitS s) = s.length + 1
  | [] => rfl
  | c :: r => by
    have := wt_split r
    unfold splitS
    split
    · simp [wt, this]; omega
    · rw [wt_prep _ (splitS_ne r), this]; simp; omega
theorem wt_step (l : List (List UInt8)) (x : List UInt8) : wt (stepP l x) ≤ wt l + (x.length + 1) := by
  unfold stepP
  split
  · omega
  · split
    · rw [List.dropLast_eq_take]; have := wt_take l (l.length - 1); omega
    · rw [wt_append]; simp [wt]
theorem wt_fold : ∀ (r l : List (List UInt8)), wt (r.foldl stepP l) ≤ wt l + wt r
  | [], l => by simp [wt]
  | x :: r, l => by
    have := wt_fold r (stepP l x)
    have := wt_step l x
    simp [wt]; omega
theorem wt_tail : ∀ r : List (List UInt8), (Lib.joinTail [47] r).length = wt r
  | [] => rfl
  | x :: r => by
    have := wt_tail r
    simp [Lib.joinTail, wt] at this ⊢
    omega
theorem wt_join (l : List (List UInt8)) : (Lib.join l [47]).length ≤ wt l := by
  cases l with
  | nil => simp [Lib.join_nil]
  | cons a l => rw [Lib.join_cons, List.length_append, wt_tail]; simp [wt]
theorem kept_wt (p : List UInt8) : wt (keptS p) ≤ p.length + 1 := by
  have := wt_fold (splitS p) []
  rw [wt_split] at this
  have e : wt ([] : List (List UInt8)) = 0 := rfl
  rw [e, Nat.zero_add] at this
  exact this
theorem step_ne {l : List (List UInt8)} {x : List UInt8} (h : ∀ a ∈ l, a ≠ []) : ∀ a ∈ stepP l x, a ≠ [] := by
  unfold stepP
  split
  · exact h
  · rename_i h1
    split
    · exact fun a ha => h a (List.dropLast_subset _ ha)
    · intro a ha
      rcases List.mem_append.1 ha with h2 | h2
      · exact h a h2
      · simp at h2; subst h2; exact fun e => h1 (.inl e)
theorem fold_ne : ∀ (r l : List (List UInt8)), (∀ a ∈ l, a ≠ []) → ∀ a ∈ r.foldl stepP l, a ≠ []
  | [], l, h => h
  | x :: r, l, h => fold_ne r _ (step_ne h)
theorem kept_ne (p : List UInt8) : ∀ a ∈ keptS p, a ≠ [] := fold_ne _ _ (by simp)

theorem qpos_le : ∀ s : List UInt8, qpos s ≤ s.length
  | [] => by simp [qpos]
  | c :: r => by have := qpos_le r; unfold qpos; split <;> simp <;> omega
theorem qpos_ix : ∀ s : List UInt8, (Lib.indexByte s 63 < 0 → qpos s = s.length) ∧ (0 ≤ Lib.indexByte s 63 → Lib.indexByte s 63 = (qpos s : Int))
  | [] => by simp [qpos, Lib.indexByte]
  | c :: r => by
    obtain ⟨h1, h2⟩ := qpos_ix r
    unfold qpos Lib.indexByte
    by_cases hc : c = 63
    · subst hc; simp
    · rw [if_neg (by simpa using hc), if_neg hc]
      have h3 := Lib.indexByte_ge r 63
      split
      · rename_i h4
        simp at h4
        simp [h1 (by omega)]
      · rename_i h4
        simp at h4
        have := h2 (by omega)
        refine ⟨fun h => by omega, fun _ => by omega⟩

/-! ### the walk of strings.HasPrefix -/

section
variable {s : List UInt8} {h0 : AHeap} {Q : AV → AHeap → Prop}

theorem hp_c {h : AHeap} (hs : s.length ≤ 100000) (hq : Q (.b (decide (s.take 1 = [47]))) h) : C G_strings_HasPrefix.id [.s s, .s [47]] h Q := by
  refine G_strings_HasPrefix.call ?_
  simp only [G_strings_HasPrefix.t]
  refine G_i_stringslite_HasPrefix.call ?_
  simp only [G_i_stringslite_HasPrefix.t, G_i_stringslite_HasPrefix.j0]
  have fin : ∀ b, b = decide (s.take 1 = [47]) → G_i_stringslite_HasPrefix.p0 (kRet h fun v1 h2 => asB v1 fun c3 => kRet h Q (.b c3) h2) b h := by
    intro b hb
    refine G_i_stringslite_HasPrefix.i0 ?_
    simp only [G_i_stringslite_HasPrefix.t0]
    subst hb
    exact .inl (st_asB (.inl hq))
  refine bif_both (fun e => ?_) fun e => fin _ ?_
  · have hl : 1 ≤ s.length := by simp at e; omega
    exact st_subs1 (hi := 1) hl (fin _ rfl)
  · have hl : s = [] := by
      simp at e
      exact List.eq_nil_of_length_eq_zero (by omega)
    subst hl; rfl

/-! ### the program's path -/

structure KP (h0 h : AHeap) (v w : AV) (l segs : List (List UInt8)) : Prop where
  st : NewS h0 h v (l.map .s)
  sg : Rd 1 h w (segs.map .s) segs.length
  sep : ∀ i, SlAt v i → SlAt w i → False

theorem KP.seg {h : AHeap} {v w : AV} {l segs r : List (List UInt8)} {x : List UInt8} {i : Nat} (k : KP h0 h v w l segs) (hr : segs.drop i = x :: r) {K : List UInt8 → Prop} (hk : K x) :
    pIdxAddrSl 1 w (.i .i64 (i : Int)) h fun a => pLoad1 a h fun x => asS x K := by
  have hi := drop_lt hr
  have hx : segs[i]? = some x := by
    have : (segs.drop i)[0]? = some x := by rw [hr]; rfl
    simpa using this
  exact Rd.cell k.sg Nat.one_pos hi (c := .s x) (by rw [Nat.mul_one, List.getElem?_map, hx]; rfl) (st_asS hk)
theorem KP.push {h : AHeap} {v w : AV} {l segs : List (List UInt8)} {x : List UInt8} (k : KP h0 h v w l segs) (hl : l.length ≤ 1000000) {K : AV → AHeap → Prop} (hk : ∀ v' h', KP h0 h' v' w (l ++ [x]) segs → K v' h') :
    pBuildSl 1 1 [.s []] [(0, 1, .s x)] h fun y h' => pAppend 1 16 v y h' K := by
  refine k.st.push rfl rfl (by simp; omega) (by simp; omega) fun v' h' S U F => hk v' h' ⟨by rw [List.map_append]; exact S, k.sg.upd U fun i hi hv => k.sep i hv hi, fun i h1 h2 => ?_⟩
  rcases F i h1 with h3 | h3
  · exact k.sep i h3 h2
  · have := k.sg.lt h2; omega
theorem KP.pop {h : AHeap} {v w : AV} {l segs : List (List UInt8)} (k : KP h0 h v w l segs) {n : Nat} (hn : n = l.length - 1) {K : AV → Prop} (hk : ∀ v', KP h0 h v' w l.dropLast segs → K v') : pSliceSl 1 v none (some (.i .i64 (n : Int))) none h K := by
  subst hn
  refine k.st.cut (by simp) fun v' S F => hk v' ⟨?_, k.sg, fun i h1 h2 => k.sep i (F i h1) h2⟩
  rw [List.dropLast_eq_take, List.map_take]; exact S

theorem path_p3 {p q : List UInt8} {v w : AV} {n i : Nat} {h : AHeap} (hi : i ≤ 1000000) (hk : G_transform_text_path.p1 (kRet h0 Q) p q v w w n (i + 1 : Nat) h) : G_transform_text_path.p3 (kRet h0 Q) p q v w w n i h := by
  refine G_transform_text_path.i3 ?_
  simp only [G_transform_text_path.t3, G_transform_text_path.j1]
  exact inc (by omega) hk

theorem path_p7 {q o : List UInt8} {h : AHeap} (ho : o.length + q.length ≤ 1000000) (E : Ext h0 h) (hq : Q (.s (o ++ q)) h0) : G_transform_text_path.p7 (kRet h0 Q) q o h := by
  refine G_transform_text_path.i7 ?_
  simp only [G_transform_text_path.t7]
  exact ⟨by omega, kRet_pure rfl E hq⟩
theorem path_p6 {q o : List UInt8} {h : AHeap} (ho : o.length + q.length ≤ 900000) (E : Ext h0 h) (hq : Q (.s (orRoot o ++ q)) h0) : G_transform_text_path.p6 (kRet h0 Q) q o h := by
  refine G_transform_text_path.i6 ?_
  simp only [G_transform_text_path.t6, G_transform_text_path.j7]
  refine bif_both (fun e => ?_) fun e => ?_
  · have : o = [] := by simpa using e
    subst this
    exact path_p7 (by simp at ho ⊢; omega) E hq
  · have : o ≠ [] := by simpa using e
    exact path_p7 (by omega) E (by simpa [orRoot, this] using hq)
theorem path_p5 {q o : List UInt8} {b : Bool} {h : AHeap} (ho : o.length + q.length ≤ 800000) (E : Ext h0 h) (hq : Q (.s (orRoot (o ++ (if b = true then [47] else [])) ++ q)) h0) : G_transform_text_path.p5 (kRet h0 Q) q o b h := by
  refine G_transform_text_path.i5 ?_
  simp only [G_transform_text_path.t5, G_transform_text_path.j6]
  refine bif_both (fun e => ?_) fun e => ?_
  · subst e
    exact ⟨by simp; omega, path_p6 (by simp; omega) E hq⟩
  · subst e
    exact path_p6 (by omega) E (by simpa using hq)

theorem last_get (p : List UInt8) : ∃ k, (splitS p).length = k + 1 ∧ (splitS p).drop k = [lastS p] := by
  have h := splitS_ne p
  unfold lastS
  generalize splitS p = l at *
  refine ⟨l.length - 1, ?_, ?_⟩
  · have := List.length_pos_iff.2 h; omega
  · rw [List.getLastD_eq_getLast?, List.getLast?_eq_some_getLast h]
    have hp := List.length_pos_iff.2 h
    rw [List.drop_eq_getElem_cons (by omega), List.drop_eq_nil_of_le (by omega), List.getLast_eq_getElem]; rfl

theorem path_p4 {p q : List UInt8} {v w : AV} {h : AHeap} (hp : p.length + q.length ≤ 100000) (k : KP h0 h v w (keptS p) (splitS p)) (hq : Q (.s (bodyS p ++ q)) h0) : G_transform_text_path.p4 (kRet h0 Q) q v w (pre p) h := by
  refine G_transform_text_path.i4 ?_
  simp only [G_transform_text_path.t4, G_transform_text_path.j5]
  have E := k.st.upd.ext
  have hw := kept_wt p
  have hl := wt_len (keptS p)
  have hj := wt_join (keptS p)
  have hpre : (pre p).length ≤ 1 := by unfold pre; split <;> simp
  refine jn_c (by have := k.st.stk.rd; rwa [List.length_map] at this) (by omega) (by omega) (st_asS ⟨by omega, ?_⟩)
  refine k.sg.len ?_
  obtain ⟨m, hm1, hm2⟩ := last_get p
  rw [hm1]
  have hsl := split_len p
  have : Lib.countByte p 47 ≤ p.length := List.count_le_length
  refine withI_is (n := (m : Int)) (by rw [wrap_i64 (by omega) (by omega)]; omega) (k.seg hm2 ?_)
  refine k.st.stk.rd.len ?_
  rw [List.length_map]
  have fin : ∀ b, b = decide (keptS p ≠ [] ∧ special (lastS p)) → G_transform_text_path.p5 (kRet h0 Q) q (pre p ++ Lib.join (keptS p) [47]) b h := by
    intro b hb
    refine path_p5 (by simp; omega) E ?_
    have e : (if b = true then [47] else []) = (if keptS p ≠ [] ∧ special (lastS p) then ([47] : List UInt8) else []) := by subst hb; simp
    rw [e]; exact hq
  refine bif_both (fun e => ?_) fun e => fin _ ?_
  · have hn : keptS p ≠ [] := fun h => by rw [h] at e; simp at e
    refine bif_both (fun e1 => fin _ ?_) fun e1 => ?_
    · have : lastS p = [] := by simpa using e1
      simp [hn, special, this]
    · have n1 : lastS p ≠ [] := by simpa using e1
      refine bif_both (fun e2 => fin _ ?_) fun e2 => fin _ ?_
      · have : lastS p = [46] := by simpa using e2
        simp [hn, special, this]
      · have n2 : lastS p ≠ [46] := by simpa using e2
        simp [hn, special, n1, n2]
  · have : keptS p = [] := by simpa using e
    simp [this]

theorem path_p1 {p q : List UInt8} (hp : p.length + q.length ≤ 100000) {w : AV} : ∀ (r : List (List UInt8)) (i : Nat) (v : AV) (l : List (List UInt8)) (h : AHeap), (splitS p).drop i = r → r.foldl stepP l = keptS p → l.length ≤ i → i ≤ (splitS p).length → KP h0 h v w l (splitS p) → Q (.s (bodyS p ++ q)) h0 →
    G_transform_text_path.p1 (kRet h0 Q) p q v w w (splitS p).length i h := by
  have hsl := split_len p
  have hcb : Lib.countByte p 47 ≤ p.length := List.count_le_length
  intro r
  induction r with
  | nil =>
    intro i v l h hr hf hl hi k hq
    have hle := drop_end hr
    have hf : l = keptS p := hf
    subst hf
    refine G_transform_text_path.i1 ?_
    simp only [G_transform_text_path.t1, G_transform_text_path.j2, G_transform_text_path.j3, G_transform_text_path.j4]
    refine bif_f (by simp; omega) (hp_c (by omega) (st_asB ?_))
    have e : ∀ b : Bool, b = decide (p.take 1 = [47]) → pre p = (if b = true then [47] else []) := by intro b hb; subst hb; simp [pre]
    refine bif_both (fun e1 => ?_) fun e1 => ?_
    · have := path_p4 hp k hq
      rwa [e _ rfl, if_pos e1] at this
    · have := path_p4 hp k hq
      rwa [e _ rfl, if_neg (by rw [e1]; simp)] at this
  | cons x r ih =>
    intro i v l h hr hf hl hi k hq
    have hlt := drop_lt hr
    have hn := drop_next hr
    have hf : r.foldl stepP (stepP l x) = keptS p := hf
    refine G_transform_text_path.i1 ?_
    simp only [G_transform_text_path.t1, G_transform_text_path.j2, G_transform_text_path.j3, G_transform_text_path.j4]
    refine bif_t (by simp; omega) (k.seg hr ?_)
    have key : ∀ b, b = decide (x = [] ∨ x = [46]) → G_transform_text_path.p2 (kRet h0 Q) p q v w x w (splitS p).length i x b h := by
      intro b hb
      refine G_transform_text_path.i2 ?_
      simp only [G_transform_text_path.t2, G_transform_text_path.j3]
      refine bif_both (fun e => ?_) fun e => ?_
      · subst e
        have hx : x = [] ∨ x = [46] := by simpa using hb.symm
        rw [show stepP l x = l by unfold stepP; rw [if_pos hx]] at hf
        exact path_p3 (by omega) (ih (i + 1) v l h hn hf (by omega) (by omega) k hq)
      · subst e
        have hx : ¬ (x = [] ∨ x = [46]) := by simpa using hb.symm
        refine bif_both (fun e => ?_) fun e => ?_
        · have hd : x = [46, 46] := by simpa using e
          rw [show stepP l x = l.dropLast by unfold stepP; rw [if_neg hx, if_pos hd]] at hf
          refine k.st.stk.rd.len ?_
          rw [List.length_map]
          refine withI_is (n := (l.length : Int) - 1) (wrap_i64 (by omega) (by omega)) ?_
          have hm : mmI true ((l.length : Int) - 1) 0 = ((l.length - 1 : Nat) : Int) := by
            unfold mmI
            rw [cond_true]
            split <;> omega
          rw [hm]
          refine k.pop rfl fun v' k' => path_p3 (by omega) (ih (i + 1) v' _ h hn hf (by simp; omega) (by omega) k' hq)
        · have hd : x ≠ [46, 46] := by simpa using e
          rw [show stepP l x = l ++ [x] by unfold stepP; rw [if_neg hx, if_neg hd]] at hf
          refine k.push (by omega) fun v' h' k' => path_p3 (by omega) (ih (i + 1) v' _ h' hn hf (by simp; omega) (by omega) k' hq)
    refine bif_both (fun e => key _ ?_) fun e => key _ ?_
    · have : x = [] := by simpa using e
      simp [this]
    · have : x ≠ [] := by simpa using e
      simp [this]

theorem path_c {h : AHeap} (hs : s.length ≤ 100000) (hk : Q (.s (pathS s)) h) : C G_transform_text_path.id [.s s] h Q := by
  refine G_transform_text_path.call ?_
  simp only [G_transform_text_path.t, G_transform_text_path.j0]
  obtain ⟨h1, h2⟩ := qpos_ix s
  have hle := qpos_le s
  have fin : ∀ p q, p.length + q.length ≤ 100000 → pathS s = bodyS p ++ q → G_transform_text_path.p0 (kRet h Q) p q h := by
    intro p q hpq he
    refine G_transform_text_path.i0 ?_
    simp only [G_transform_text_path.t0, G_transform_text_path.j1]
    refine split_c (by omega) fun v h' S => ?_
    have R := S.stk.rd
    rw [List.length_map] at R
    refine R.len (path_p1 hpq (splitS p) 0 _ [] h' rfl rfl (by simp) (by omega) ⟨⟨S.upd, .inl ⟨rfl, rfl⟩, fun _ h => h.elim⟩, R, fun _ h => h.elim⟩ (by rw [← he]; exact hk))
  refine ib_c (c := 63) (st_asI64 ?_)
  refine bif_both (fun e => ?_) fun e => ?_
  · simp only [decide_eq_true_eq] at e
    rw [h2 e]
    exact st_subs1 hle (st_subs hle (fin _ _ (by simp; omega) rfl))
  · simp only [decide_eq_false_iff_not] at e
    have := h1 (by omega)
    exact fin s [] (by simpa using hs) (by unfold pathS; rw [this]; simp)

/-! ### the reference's path -/

def outS (pr : List UInt8) : List (List UInt8) → List UInt8
  | [] => []
  | a :: r => pr ++ a ++ Lib.joinTail [47] r
theorem outS_succ {pr : List UInt8} {l : List (List UInt8)} {j : Nat} {x : List UInt8} (h : l[j]? = some x) : outS pr (l.take (j + 1)) = outS pr (l.take j) ++ (if j = 0 then pr else [47]) ++ x := by
  cases l with
  | nil => simp at h
  | cons a r =>
    cases j with
    | zero => simp at h; subst h; simp [outS, Lib.joinTail]
    | succ j =>
      rw [List.take_succ_cons, List.take_succ_cons, outS, outS, Lib.joinTail_take_succ _ _ _ x (by simpa using h)]
      simp
theorem outS_len {pr : List UInt8} (l : List (List UInt8)) : (outS pr l).length ≤ pr.length + wt l := by
  cases l with
  | nil => simp [outS]
  | cons a r => have := wt_tail r; simp [outS, wt]; omega
theorem outS_eq (p : List UInt8) : (if outS (pre p) (keptS p) = [] ∨ special (lastS p) then outS (pre p) (keptS p) ++ [47] else outS (pre p) (keptS p)) = bodyS p := by
  have h := kept_ne p
  unfold bodyS
  cases hk : keptS p with
  | nil =>
    simp only [outS, Lib.join_nil]
    simp only [true_or, if_true, List.nil_append, ne_eq, not_true_eq_false, false_and, if_false, List.append_nil]
    unfold pre orRoot
    split <;> simp
  | cons a r =>
    rw [hk] at h
    have ha := h a (by simp)
    have hj : Lib.join (a :: r) [47] = a ++ Lib.joinTail [47] r := Lib.join_cons _ _ _
    have ho : outS (pre p) (a :: r) = pre p ++ Lib.join (a :: r) [47] := by rw [hj]; simp [outS]
    rw [ho]
    have hne : pre p ++ Lib.join (a :: r) [47] ≠ [] := by rw [hj]; simp [ha]
    by_cases hs : special (lastS p)
    · rw [if_pos (.inr hs), if_pos ⟨by simp, hs⟩]
      unfold orRoot
      rw [if_neg (by simp)]
    · rw [if_neg (by simp [hne, hs]), if_neg (by simp [hs]), List.append_nil]
      unfold orRoot
      rw [if_neg hne]

theorem pre_at {c : UInt8} {r : List UInt8} : pre ((c :: r).take (qpos (c :: r))) = if c = 47 then [47] else [] := by
  unfold pre qpos
  by_cases h : c = 63
  · subst h; simp
  · rw [if_neg h]; simp

theorem Rpath_p11 {x : List UInt8} {n : Nat} {h : AHeap} (hn : n ≤ s.length) (hs : s.length ≤ 100000) (hx : x.length ≤ 800000) (E : Ext h0 h) (hq : Q (.s (x ++ s.drop n)) h0) : G_ref26_path.p11 (kRet h0 Q) s n x h := by
  refine G_ref26_path.i11 ?_
  simp only [G_ref26_path.t11]
  exact st_subs hn ⟨by simp; omega, kRet_pure rfl E hq⟩
theorem Rpath_p10 {x : List UInt8} {b : Bool} {n : Nat} {h : AHeap} (hn : n ≤ s.length) (hs : s.length ≤ 100000) (hx : x.length ≤ 700000) (E : Ext h0 h) (hq : Q (.s ((if b = true then x ++ [47] else x) ++ s.drop n)) h0) : G_ref26_path.p10 (kRet h0 Q) s n x b h := by
  refine G_ref26_path.i10 ?_
  simp only [G_ref26_path.t10, G_ref26_path.j11]
  refine bif_both (fun e => ?_) fun e => ?_
  · subst e
    exact ⟨by simp; omega, Rpath_p11 hn hs (by simp; omega) E hq⟩
  · subst e
    exact Rpath_p11 hn hs (by omega) E (by simpa using hq)

theorem Rpath_p7 (hs : s.length ≤ 100000) {p : List UInt8} (hpe : p = s.take (qpos s)) {v w : AV} {h : AHeap} (k : KP h0 h v w (keptS p) (splitS p)) (hq : Q (.s (pathS s)) h0) :
    ∀ (r : List (List UInt8)) (j : Nat), (keptS p).drop j = r → j ≤ (keptS p).length → G_ref26_path.p7 (kRet h0 Q) s (qpos s) w v (outS (pre p) ((keptS p).take j)) j h := by
  have hw := kept_wt p
  have hpl : p.length ≤ s.length := by rw [hpe, List.length_take]; omega
  have hl := wt_len (keptS p)
  have hqp := qpos_le s
  have hpre : (pre p).length ≤ 1 := by unfold pre; split <;> simp
  have hout : ∀ j, (outS (pre p) ((keptS p).take j)).length ≤ 300000 := fun j => by
    have := outS_len (pr := pre p) ((keptS p).take j)
    have := wt_take (keptS p) j
    omega
  have E := k.st.upd.ext
  intro r
  induction r with
  | nil =>
    intro j hr hj
    have hle := drop_end hr
    have ho := hout j
    refine G_ref26_path.i7 ?_
    simp only [G_ref26_path.t7, G_ref26_path.j8, G_ref26_path.j9, G_ref26_path.j10, G_ref26_path.j11]
    refine k.st.stk.rd.len ?_
    rw [List.length_map]
    refine bif_f (by simp; omega) (k.sg.len ?_)
    obtain ⟨m, hm1, hm2⟩ := last_get p
    rw [hm1]
    have hsl := split_len p
    have : Lib.countByte p 47 ≤ p.length := List.count_le_length
    refine withI_is (n := (m : Int)) (by rw [wrap_i64 (by omega) (by omega)]; omega) (k.seg hm2 ?_)
    have fin : ∀ b, b = decide (outS (pre p) ((keptS p).take j) = [] ∨ special (lastS p)) → G_ref26_path.p10 (kRet h0 Q) s (qpos s) (outS (pre p) ((keptS p).take j)) b h := by
      intro b hb
      refine Rpath_p10 hqp hs (by omega) E ?_
      have e : (if b = true then outS (pre p) ((keptS p).take j) ++ [47] else outS (pre p) ((keptS p).take j)) = bodyS p := by
        rw [← outS_eq p]
        have : (keptS p).take j = keptS p := List.take_of_length_le hle
        rw [this] at hb ⊢
        subst hb; simp
      rw [e]
      unfold pathS at hq
      rw [← hpe] at hq
      exact hq
    refine bif_both (fun e0 => fin _ ?_) fun e0 => ?_
    · have h0 : outS (pre p) ((keptS p).take j) = [] := by simpa using e0
      simp [h0]
    · have n0 : outS (pre p) ((keptS p).take j) ≠ [] := by simpa using e0
      refine bif_both (fun e1 => fin _ ?_) fun e1 => ?_
      · have : lastS p = [] := by simpa using e1
        simp [special, this]
      · have n1 : lastS p ≠ [] := by simpa using e1
        refine bif_both (fun e2 => fin _ ?_) fun e2 => fin _ ?_
        · have : lastS p = [46] := by simpa using e2
          simp [special, this]
        · have n2 : lastS p ≠ [46] := by simpa using e2
          simp [special, n0, n1, n2]
  | cons x r ih =>
    intro j hr hj
    have hlt := drop_lt hr
    have hn := drop_next hr
    have ho := hout j
    have ho1 := hout (j + 1)
    have hx : (keptS p)[j]? = some x := by
      have : ((keptS p).drop j)[0]? = some x := by rw [hr]; rfl
      simpa using this
    have hsucc := outS_succ (pr := pre p) hx
    have p9 : ∀ y, y = outS (pre p) ((keptS p).take j) ++ (if j = 0 then pre p else [47]) → G_ref26_path.p9 (kRet h0 Q) s (qpos s) w v y j h := by
      intro y hy
      refine G_ref26_path.i9 ?_
      simp only [G_ref26_path.t9, G_ref26_path.j8]
      refine Rd.cell k.st.stk.rd Nat.one_pos (by simpa using hlt) (c := .s x) (by rw [Nat.mul_one, List.getElem?_map, hx]; rfl) (st_asS ?_)
      rw [← hy] at hsucc
      have hl2 := congrArg List.length hsucc
      rw [List.length_append] at hl2
      refine ⟨by omega, inc (by omega) ?_⟩
      rw [← hsucc]
      exact ih (j + 1) hn (by omega)
    have p8 : ∀ b : Bool, (if b = true then [47] else []) = (if j = 0 then pre p else [47]) → G_ref26_path.p8 (kRet h0 Q) s (qpos s) w v (outS (pre p) ((keptS p).take j)) j b h := by
      intro b hb
      refine G_ref26_path.i8 ?_
      simp only [G_ref26_path.t8, G_ref26_path.j10]
      refine bif_both (fun e => ?_) fun e => ?_
      · subst e
        exact ⟨by simp; omega, p9 _ (by rw [← hb]; rfl)⟩
      · subst e
        exact p9 _ (by rw [← hb]; simp)
    refine G_ref26_path.i7 ?_
    simp only [G_ref26_path.t7, G_ref26_path.j8, G_ref26_path.j9, G_ref26_path.j10, G_ref26_path.j11]
    refine k.st.stk.rd.len ?_
    rw [List.length_map]
    refine bif_t (by simp; omega) ?_
    refine bif_both (fun e => ?_) fun e => ?_
    · have : j ≠ 0 := by simp at e; omega
      exact p8 _ (by simp [this])
    · have hj0 : j = 0 := by simp at e; omega
      subst hj0
      cases hsc : s with
      | nil =>
        exfalso
        rw [hsc] at hpe
        have : p = [] := by rw [hpe]; rfl
        subst this
        simp [keptS, splitS, stepP] at hlt
      | cons c t =>
        rw [← hsc]
        refine st_at (l := s) (i := 0) (by rw [hsc]; rfl) (p8 _ ?_)
        rw [if_pos rfl, hpe, hsc, pre_at]
        by_cases hc : c = 47
        · subst hc; rfl
        · rw [if_neg hc, if_neg]
          simp only [decide_eq_true_eq]
          intro h; exact hc (UInt8.toNat_inj.1 (by show c.toNat = 47; omega))

theorem Rpath_p6 {v w : AV} {n i : Nat} {h : AHeap} (hi : i ≤ 1000000) (hk : G_ref26_path.p2 (kRet h0 Q) s n w v (i + 1 : Nat) h) : G_ref26_path.p6 (kRet h0 Q) s n w v i h := by
  refine G_ref26_path.i6 ?_
  simp only [G_ref26_path.t6, G_ref26_path.j3]
  exact inc (by omega) hk

theorem Rpath_p2 (hs : s.length ≤ 100000) {p : List UInt8} (hpe : p = s.take (qpos s)) {w : AV} (hq : Q (.s (pathS s)) h0) : ∀ (r : List (List UInt8)) (i : Nat) (v : AV) (l : List (List UInt8)) (h : AHeap), (splitS p).drop i = r → r.foldl stepP l = keptS p → l.length ≤ i → i ≤ (splitS p).length → KP h0 h v w l (splitS p) →
    G_ref26_path.p2 (kRet h0 Q) s (qpos s) w v i h := by
  have hsl := split_len p
  have hcb : Lib.countByte p 47 ≤ p.length := List.count_le_length
  have hpl : p.length ≤ s.length := by rw [hpe, List.length_take]; omega
  intro r
  induction r with
  | nil =>
    intro i v l h hr hf hl hi k
    have hle := drop_end hr
    have hf : l = keptS p := hf
    subst hf
    refine G_ref26_path.i2 ?_
    simp only [G_ref26_path.t2, G_ref26_path.j4, G_ref26_path.j8]
    refine k.sg.len (bif_f (by simp; omega) ?_)
    exact Rpath_p7 hs hpe k hq (keptS p) 0 rfl (by omega)
  | cons x r ih =>
    intro i v l h hr hf hl hi k
    have hlt := drop_lt hr
    have hn := drop_next hr
    have hf : r.foldl stepP (stepP l x) = keptS p := hf
    have p5 : ∀ v b, KP h0 h v w (if x = [46, 46] then l.dropLast else l) (splitS p) → b = decide (x ≠ [] ∧ x ≠ [46] ∧ x ≠ [46, 46]) → G_ref26_path.p5 (kRet h0 Q) s (qpos s) w v i b h := by
      intro v b k hb
      refine G_ref26_path.i5 ?_
      simp only [G_ref26_path.t5, G_ref26_path.j7]
      refine bif_both (fun e => ?_) fun e => ?_
      · subst e
        have hx : x ≠ [] ∧ x ≠ [46] ∧ x ≠ [46, 46] := by simpa using hb.symm
        rw [show stepP l x = l ++ [x] by unfold stepP; rw [if_neg (by simp [hx]), if_neg hx.2.2]] at hf
        rw [if_neg hx.2.2] at k
        refine k.seg hr ?_
        refine k.push (by omega) fun v' h' k' => Rpath_p6 (by omega) (ih (i + 1) v' _ h' hn hf (by simp; omega) (by omega) k')
      · subst e
        have hx : ¬ (x ≠ [] ∧ x ≠ [46] ∧ x ≠ [46, 46]) := by
          intro hx
          have := hb.symm
          simp [hx] at this
        have hst : stepP l x = if x = [46, 46] then l.dropLast else l := by
          unfold stepP
          by_cases h1 : x = [46, 46]
          · subst h1; simp
          · rw [if_neg h1, if_neg h1, if_pos]
            rcases Classical.em (x = []) with h2 | h2
            · exact .inl h2
            · rcases Classical.em (x = [46]) with h3 | h3
              · exact .inr h3
              · exact absurd ⟨h2, h3, h1⟩ hx
        rw [hst] at hf
        refine Rpath_p6 (by omega) (ih (i + 1) v _ h hn hf ?_ (by omega) k)
        split
        · simp; omega
        · omega
    have p4 : ∀ v, KP h0 h v w (if x = [46, 46] then l.dropLast else l) (splitS p) → G_ref26_path.p4 (kRet h0 Q) s (qpos s) w v i h := by
      intro v k
      refine G_ref26_path.i4 ?_
      simp only [G_ref26_path.t4, G_ref26_path.j6]
      refine k.seg hr ?_
      refine bif_both (fun e1 => k.seg hr ?_) fun e1 => p5 _ _ k ?_
      · have n1 : x ≠ [] := by simpa using e1
        refine bif_both (fun e2 => k.seg hr (p5 _ _ k ?_)) fun e2 => p5 _ _ k ?_
        · have n2 : x ≠ [46] := by simpa using e2
          simp [n1, n2]
        · have : x = [46] := by simpa using e2
          simp [this]
      · have : x = [] := by simpa using e1
        simp [this]
    have p3 : ∀ b, b = decide (x = [46, 46] ∧ l ≠ []) → G_ref26_path.p3 (kRet h0 Q) s (qpos s) w v i b h := by
      intro b hb
      refine G_ref26_path.i3 ?_
      simp only [G_ref26_path.t3, G_ref26_path.j5]
      refine bif_both (fun e => ?_) fun e => ?_
      · subst e
        have hx : x = [46, 46] ∧ l ≠ [] := by simpa using hb.symm
        have := List.length_pos_iff.2 hx.2
        refine k.st.stk.rd.len ?_
        rw [List.length_map]
        refine withI_is (n := ((l.length - 1 : Nat) : Int)) (by rw [wrap_i64 (by omega) (by omega)]; omega) ?_
        exact k.pop rfl fun v' k' => p4 v' (by rw [if_pos hx.1]; exact k')
      · subst e
        refine p4 v ?_
        split
        · rename_i h1
          have : l = [] := by
            rcases Classical.em (l = []) with h2 | h2
            · exact h2
            · simp [h1, h2] at hb
          subst this
          exact k
        · exact k
    refine G_ref26_path.i2 ?_
    simp only [G_ref26_path.t2, G_ref26_path.j4, G_ref26_path.j8]
    refine k.sg.len (bif_t (by simp; omega) (k.seg hr ?_))
    refine bif_both (fun e => ?_) fun e => p3 _ ?_
    · have hx : x = [46, 46] := by simpa using e
      refine k.st.stk.rd.len (p3 _ ?_)
      rw [List.length_map, decide_eq_decide]
      constructor
      · intro h
        exact ⟨hx, fun h1 => by rw [h1] at h; simp at h⟩
      · intro h
        have := List.length_pos_iff.2 h.2; omega
    · have hx : x ≠ [46, 46] := by simpa using e
      simp [hx]

theorem Rpath_p0 (hs : s.length ≤ 100000) {h : AHeap} (hq : Q (.s (pathS s)) h) : ∀ (n : Nat), n ≤ s.length → G_ref26_path.p0 (kRet h Q) s ((n + qpos (s.drop n) : Nat) : Int) ((n : Int) - 1) h := by
  intro n
  induction n with
  | zero =>
    intro hn
    refine G_ref26_path.i0 ?_
    simp only [G_ref26_path.t0, G_ref26_path.j2, G_ref26_path.j3]
    refine bif_f (by simp) ?_
    have hqp := qpos_le s
    rw [Nat.zero_add, List.drop_zero]
    refine st_subs1 hqp (seg_c (by simp; omega) fun v h' S => ?_)
    have R := S.stk.rd
    rw [List.length_map] at R
    refine NewS.empty S.upd fun v2 h2 S2 U F => ?_
    exact Rpath_p2 hs rfl hq _ 0 v2 [] h2 rfl rfl (by simp) (by omega) ⟨S2, R.upd U fun _ _ h => h, fun i h1 h3 => by have := F i h1; have := R.lt h3; omega⟩
  | succ n ih =>
    intro hn
    refine G_ref26_path.i0 ?_
    simp only [G_ref26_path.t0, G_ref26_path.j2, G_ref26_path.j3]
    refine bif_t (by simp) ?_
    obtain ⟨c, hc⟩ : ∃ c, s[n]? = some c := ⟨_, List.getElem?_eq_getElem (by omega)⟩
    have hd : s.drop n = c :: s.drop (n + 1) := by
      rw [List.drop_eq_getElem_cons (by omega)]
      rw [List.getElem?_eq_getElem (by omega)] at hc
      simp only [Option.some.injEq] at hc
      rw [hc]
    have e1 : ((n + 1 : Nat) : Int) - 1 = (n : Int) := by omega
    rw [e1]
    refine st_at hd ?_
    have p1 : ∀ a : Nat, a = n + qpos (s.drop n) → G_ref26_path.p1 (kRet h Q) s a n h := by
      intro a ha
      refine G_ref26_path.i1 ?_
      simp only [G_ref26_path.t1, G_ref26_path.j1]
      subst ha
      exact withI_is (wrap_i64 (by omega) (by omega)) (ih (by omega))
    refine bif_both (fun e => p1 _ ?_) fun e => ?_
    · have : c = 63 := UInt8.toNat_inj.1 (by simp at e; show c.toNat = 63; omega)
      rw [hd, this]; simp [qpos]
    · have : c ≠ 63 := fun h => by rw [h] at e; simp at e
      refine p1 _ ?_
      rw [hd]
      conv => rhs; rw [qpos, if_neg this]
      omega

theorem Rpath_c {h : AHeap} (hs : s.length ≤ 100000) (hk : Q (.s (pathS s)) h) : C G_ref26_path.id [.s s] h Q := by
  refine G_ref26_path.call ?_
  simp only [G_ref26_path.t, G_ref26_path.j0]
  refine withI_is (wrap_i64 (by omega) (by omega)) ?_
  have := Rpath_p0 hs hk s.length (by omega)
  simpa [qpos] using this

end
end Go.Proofs.YtbphaelhhfkdiaaDoor
