/- Plain laws of the transforms: settling, lengths. -/
import Derived.Test.YtbphaelhhfkdiaaDoorTy7
set_option linter.unusedVariables false
set_option linter.unusedSimpArgs false
set_option linter.unusedSectionVars false
set_option maxRecDepth 20000
namespace Go.Proofs.YtbphaelhhfkdiaaDoor
open Go.GAM Go.RowKit

theorem lowC_idem (c : UInt8) : lowC (lowC c) = lowC c := by
  have h : ∀ n, n < 256 → lowC (lowC (UInt8.ofNat n)) = lowC (UInt8.ofNat n) := by decide +kernel
  have := h c.toNat c.toNat_lt
  rwa [UInt8.ofNat_toNat] at this
theorem lowS_idem (s : List UInt8) : lowS (lowS s) = lowS s := by
  unfold lowS; rw [List.map_map]
  exact List.map_congr_left fun c _ => lowC_idem c
theorem stripS_idem (s : List UInt8) : stripS (stripS s) = stripS s := by
  unfold stripS; rw [List.filter_filter]; simp

/-! ### paths -/

def clean (a : List UInt8) : Prop := a ≠ [] ∧ a ≠ [46] ∧ a ≠ [46, 46] ∧ 47 ∉ a

theorem prep_mem {a : List UInt8} {l : List (List UInt8)} {x : List UInt8} {c : UInt8} (hx : x ∈ prep a l) (hc : c ∈ x) : c ∈ a ∨ ∃ y ∈ l, c ∈ y := by
  cases l with
  | nil => simp [prep] at hx; subst hx; exact .inl hc
  | cons b l =>
    simp only [prep, List.mem_cons] at hx
    rcases hx with rfl | hx
    · rcases List.mem_append.1 hc with h | h
      · exact .inl h
      · exact .inr ⟨b, by simp, h⟩
    · exact .inr ⟨x, by simp [hx], hc⟩
theorem split_mem : ∀ (s : List UInt8) (x : List UInt8), x ∈ splitS s → ∀ c ∈ x, c ∈ s ∧ c ≠ 47
  | [], x, hx, c, hc => by simp [splitS] at hx; subst hx; simp at hc
  | d :: r, x, hx, c, hc => by
    unfold splitS at hx
    split at hx
    · rcases List.mem_cons.1 hx with rfl | h
      · simp at hc
      · have := split_mem r x h c hc
        exact ⟨by simp [this.1], this.2⟩
    · rename_i hd
      rcases prep_mem hx hc with h | ⟨y, hy, h⟩
      · simp at h; subst h; exact ⟨by simp, hd⟩
      · have := split_mem r y hy c h
        exact ⟨by simp [this.1], this.2⟩
theorem fold_mem : ∀ (r l : List (List UInt8)) (x : List UInt8), x ∈ r.foldl stepP l → x ∈ l ∨ (x ∈ r ∧ x ≠ [] ∧ x ≠ [46] ∧ x ≠ [46, 46])
  | [], l, x, h => .inl h
  | y :: r, l, x, h => by
    rcases fold_mem r _ x h with h1 | h1
    · unfold stepP at h1
      split at h1
      · exact .inl h1
      · rename_i h2
        split at h1
        · exact .inl (List.dropLast_subset _ h1)
        · rename_i h3
          rcases List.mem_append.1 h1 with h4 | h4
          · exact .inl h4
          · simp at h4; subst h4
            exact .inr ⟨by simp, fun e => h2 (.inl e), fun e => h2 (.inr e), h3⟩
    · exact .inr ⟨by simp [h1.1], h1.2⟩
theorem kept_clean (p : List UInt8) : ∀ a ∈ keptS p, clean a ∧ ∀ c ∈ a, c ∈ p := by
  intro a ha
  rcases fold_mem _ _ _ ha with h | ⟨h1, h2, h3, h4⟩
  · simp at h
  · exact ⟨⟨h2, h3, h4, fun h => (split_mem p a h1 47 h).2 rfl⟩, fun c hc => (split_mem p a h1 c hc).1⟩

theorem split_one : ∀ (a : List UInt8), 47 ∉ a → splitS a = [a]
  | [], _ => rfl
  | c :: a, h => by
    simp at h
    rw [splitS, if_neg (fun e => h.1 e.symm), split_one a h.2]; rfl
theorem split_app : ∀ (a r : List UInt8), 47 ∉ a → splitS (a ++ 47 :: r) = a :: splitS r
  | [], r, _ => by simp [splitS]
  | c :: a, r, h => by
    simp at h
    rw [List.cons_append, splitS, if_neg (fun e => h.1 e.symm), split_app a r h.2]; rfl
theorem split_join : ∀ (r : List (List UInt8)) (a : List UInt8) (t : Bool), 47 ∉ a → (∀ x ∈ r, 47 ∉ x) → splitS (a ++ Lib.joinTail [47] r ++ (if t = true then [47] else [])) = a :: r ++ (if t = true then [[]] else [])
  | [], a, t, ha, _ => by
    cases t with
    | false => simpa [Lib.joinTail] using split_one a ha
    | true => simpa [Lib.joinTail, splitS] using split_app a [] ha
  | x :: r, a, t, ha, h => by
    have := split_join r x t (h x (by simp)) (fun y hy => h y (by simp [hy]))
    have e : a ++ Lib.joinTail [47] (x :: r) ++ (if t = true then [47] else []) = a ++ 47 :: (x ++ Lib.joinTail [47] r ++ (if t = true then [47] else [])) := by simp [Lib.joinTail]
    rw [e, split_app _ _ ha, this]; rfl
theorem step_clean {l : List (List UInt8)} {a : List UInt8} (h : clean a) : stepP l a = l ++ [a] := by
  unfold stepP; rw [if_neg (by simp [h.1, h.2.1]), if_neg h.2.2.1]
theorem fold_clean : ∀ (r l : List (List UInt8)), (∀ a ∈ r, clean a) → r.foldl stepP l = l ++ r
  | [], l, _ => by simp
  | a :: r, l, h => by
    rw [List.foldl_cons, step_clean (h a (by simp)), fold_clean r _ fun x hx => h x (by simp [hx])]; simp
theorem step_nil (l : List (List UInt8)) : stepP l [] = l := by simp [stepP]

/-- A body of clean segments is its own body. -/
theorem body_fix {a : List UInt8} {r : List (List UInt8)} (pr t : Bool) (h : ∀ x ∈ a :: r, clean x) :
    bodyS ((if pr = true then [47] else []) ++ (a ++ Lib.joinTail [47] r ++ (if t = true then [47] else []))) = (if pr = true then [47] else []) ++ (a ++ Lib.joinTail [47] r ++ (if t = true then [47] else [])) := by
  have ha := h a (by simp)
  have hsp := split_join r a t ha.2.2.2 fun x hx => (h x (by simp [hx])).2.2.2
  generalize hb : a ++ Lib.joinTail [47] r ++ (if t = true then [47] else []) = b at hsp
  have hsplit : splitS ((if pr = true then [47] else []) ++ b) = (if pr = true then [[]] else []) ++ (a :: r ++ (if t = true then [[]] else [])) := by
    cases pr with
    | false => simpa using hsp
    | true => simp [splitS, hsp]
  have hkept : keptS ((if pr = true then [47] else []) ++ b) = a :: r := by
    unfold keptS
    rw [hsplit, List.foldl_append, List.foldl_append]
    have e1 : (if pr = true then [[]] else []).foldl stepP [] = [] := by cases pr <;> rfl
    rw [e1, fold_clean _ _ h, List.nil_append]
    cases t <;> simp [step_nil]
  have hlast : special (lastS ((if pr = true then [47] else []) ++ b)) ↔ t = true := by
    unfold lastS
    rw [hsplit]
    cases t with
    | true =>
      have e : ((if pr = true then [[]] else []) ++ (a :: r ++ (if true = true then [[]] else []))).getLastD ([] : List UInt8) = [] := by
        rw [if_pos rfl, List.getLastD_eq_getLast?, ← List.append_assoc, List.getLast?_concat]; rfl
      rw [e]; simp [special]
    | false =>
      have hm : ∀ x ∈ (a :: r).getLast?, clean x := fun x hx => h x (List.mem_of_getLast? hx)
      have e : ((if pr = true then [[]] else []) ++ (a :: r ++ (if false = true then [[]] else []))).getLastD [] = (a :: r).getLastD [] := by
        rw [List.getLastD_eq_getLast?, List.getLastD_eq_getLast?, show (if false = true then [[]] else ([] : List (List UInt8))) = [] from rfl, List.append_nil, List.getLast?_append, List.getLast?_eq_some_getLast (show a :: r ≠ [] by simp)]; rfl
      rw [e, List.getLastD_eq_getLast?]
      obtain ⟨y, hy⟩ : ∃ y, (a :: r).getLast? = some y := ⟨_, List.getLast?_eq_some_getLast (by simp)⟩
      have := hm y hy
      rw [hy]
      simp [special, this.1, this.2.1, this.2.2.1]
  have hpre : pre ((if pr = true then [47] else []) ++ b) = (if pr = true then [47] else []) := by
    cases pr with
    | true => simp [pre]
    | false =>
      rw [← hb]
      cases a with
      | nil => exact absurd rfl ha.1
      | cons c a' =>
        have : c ≠ 47 := fun e => ha.2.2.2 (by simp [e])
        simp [pre, this]
  unfold bodyS
  rw [hkept, hpre, Lib.join_cons]
  have e2 : (if a :: r ≠ [] ∧ special (lastS ((if pr = true then [47] else []) ++ b)) then ([47] : List UInt8) else []) = (if t = true then [47] else []) := by
    by_cases ht : t = true
    · rw [if_pos ⟨by simp, hlast.2 ht⟩, if_pos ht]
    · rw [if_neg (fun hh => ht (hlast.1 hh.2)), if_neg ht]
  rw [e2, List.append_assoc, hb]
  unfold orRoot
  rw [if_neg]
  rw [← hb]
  simp [ha.1]

theorem body_root {p : List UInt8} (h : keptS p = []) : bodyS p = [47] := by
  unfold bodyS
  rw [h, Lib.join_nil]
  unfold pre orRoot
  split <;> simp
theorem body_form (p : List UInt8) (h : keptS p ≠ []) : ∃ (a : List UInt8) (r : List (List UInt8)) (pr t : Bool), keptS p = a :: r ∧ pre p = (if pr = true then [47] else []) ∧ (t = true ↔ special (lastS p)) ∧ bodyS p = (if pr = true then [47] else []) ++ (a ++ Lib.joinTail [47] r ++ (if t = true then [47] else [])) := by
  cases hk : keptS p with
  | nil => exact absurd hk h
  | cons a r =>
    have ha := (kept_clean p a (by rw [hk]; simp)).1
    refine ⟨a, r, decide (p.take 1 = [47]), decide (special (lastS p)), rfl, by simp [pre], by simp, ?_⟩
    unfold bodyS
    rw [hk, Lib.join_cons]
    have e2 : (if a :: r ≠ [] ∧ special (lastS p) then ([47] : List UInt8) else []) = (if decide (special (lastS p)) = true then [47] else []) := by simp
    rw [e2]
    have e3 : pre p = (if decide (p.take 1 = [47]) = true then [47] else []) := by simp [pre]
    rw [e3]
    unfold orRoot
    rw [if_neg (by simp [ha.1]), List.append_assoc]
theorem body_idem (p : List UInt8) : bodyS (bodyS p) = bodyS p := by
  by_cases h : keptS p = []
  · rw [body_root h]; decide
  · obtain ⟨a, r, pr, t, h1, h2, h3, h4⟩ := body_form p h
    rw [h4]
    exact body_fix pr t fun x hx => (kept_clean p x (by rw [h1]; exact hx)).1

theorem mem_joinTail {r : List (List UInt8)} {c : UInt8} (h : c ∈ Lib.joinTail [47] r) : c = 47 ∨ ∃ x ∈ r, c ∈ x := by
  unfold Lib.joinTail at h
  obtain ⟨y, hy, hc⟩ := List.mem_flatten.1 h
  obtain ⟨x, hx, rfl⟩ := List.mem_map.1 hy
  simp at hc
  rcases hc with h | h
  · exact .inl h
  · exact .inr ⟨x, hx, h⟩
theorem body_mem (p : List UInt8) : ∀ c ∈ bodyS p, c = 47 ∨ c ∈ p := by
  intro c hc
  by_cases h : keptS p = []
  · rw [body_root h] at hc; simp at hc; exact .inl hc
  · obtain ⟨a, r, pr, t, h1, h2, h3, h4⟩ := body_form p h
    rw [h4] at hc
    simp only [List.mem_append] at hc
    rcases hc with h | (h | h) | h
    · split at h <;> simp at h; exact .inl h
    · exact .inr ((kept_clean p a (by rw [h1]; simp)).2 c h)
    · rcases mem_joinTail h with h | ⟨x, hx, h⟩
      · exact .inl h
      · exact .inr ((kept_clean p x (by rw [h1]; simp [hx])).2 c h)
    · split at h <;> simp at h; exact .inl h

theorem qpos_take : ∀ s : List UInt8, 63 ∉ s.take (qpos s)
  | [] => by simp
  | c :: r => by
    unfold qpos
    split
    · simp
    · rename_i h
      have := qpos_take r
      rw [List.take_succ_cons]
      simp only [List.mem_cons, not_or]
      exact ⟨fun e => h e.symm, this⟩
theorem qpos_drop : ∀ s : List UInt8, s.drop (qpos s) = [] ∨ ∃ t, s.drop (qpos s) = 63 :: t
  | [] => .inl rfl
  | c :: r => by
    unfold qpos
    split
    · rename_i h; subst h; exact .inr ⟨r, rfl⟩
    · exact qpos_drop r
theorem qpos_app : ∀ (a q : List UInt8), 63 ∉ a → (q = [] ∨ ∃ t, q = 63 :: t) → qpos (a ++ q) = a.length
  | [], q, _, h => by
    rcases h with rfl | ⟨t, rfl⟩
    · rfl
    · simp [qpos]
  | c :: a, q, ha, h => by
    simp at ha
    rw [List.cons_append, qpos, if_neg (fun e => ha.1 e.symm), qpos_app a q ha.2 h]; rfl
theorem path_app {a q : List UInt8} (ha : 63 ∉ a) (hq : q = [] ∨ ∃ t, q = 63 :: t) : pathS (a ++ q) = bodyS a ++ q := by
  unfold pathS
  rw [qpos_app a q ha hq]
  simp
theorem path_idem (s : List UInt8) : pathS (pathS s) = pathS s := by
  have h1 := qpos_take s
  have h2 := qpos_drop s
  conv => lhs; rw [show pathS s = bodyS (s.take (qpos s)) ++ s.drop (qpos s) from rfl]
  rw [path_app (fun h => ?_) h2, body_idem]; rfl
  rcases body_mem _ 63 h with e | e
  · cases e
  · exact h1 e

/-! ### lengths -/

theorem b64_len : ∀ (s : List UInt8) (b n : Nat), (b64S b n s).length ≤ s.length
  | [], b, n => by simp [b64S]
  | c :: r, b, n => by
    unfold b64S
    split
    · simp
    · split
      · have := b64_len r b n; simp; omega
      · split
        · have := b64_len r ((b * 64 + (Lib.indexByte alph c).toNat) % 2 ^ (n - 2)) (n - 2); simp; omega
        · have := b64_len r (b * 64 + (Lib.indexByte alph c).toNat) (n + 6); simp; omega
theorem hex_len : ∀ (s : List UInt8) (hi : Int), (hexS hi s).length ≤ s.length
  | [], hi => by simp [hexS]
  | c :: r, hi => by
    unfold hexS
    split
    · have := hex_len r hi; simp; omega
    · split
      · have := hex_len r (digS c); simp; omega
      · have := hex_len r (-1); simp; omega
theorem pct_len (s : List UInt8) : (pctS s).length ≤ s.length := by
  fun_induction pctS s <;> simp at * <;> omega
theorem strip_len (s : List UInt8) : (stripS s).length ≤ s.length := List.length_filter_le _ _

theorem wt_spec {l : List (List UInt8)} {x : List UInt8} (h : special x) : wt (stepP l x) ≤ wt l := by
  unfold stepP
  split
  · omega
  · split
    · rw [List.dropLast_eq_take]; exact wt_take _ _
    · rename_i h1 h2
      unfold special at h
      rcases h with h | h | h
      · exact absurd (.inl h) h1
      · exact absurd (.inr h) h1
      · exact absurd h h2
theorem wt_last {r : List (List UInt8)} (h : r ≠ []) (l : List (List UInt8)) : wt (r.foldl stepP l) + (if special (r.getLastD []) then 1 else 0) ≤ wt l + wt r := by
  obtain ⟨r', x, rfl⟩ : ∃ r' x, r = r' ++ [x] := ⟨r.dropLast, r.getLast h, (List.dropLast_concat_getLast h).symm⟩
  rw [List.foldl_append, wt_append]
  have h1 := wt_fold r' l
  have h3 : wt [x] = x.length + 1 := by simp [wt]
  have e : (r' ++ [x]).getLastD [] = x := by simp
  rw [e]
  simp only [List.foldl_cons, List.foldl_nil]
  split
  · rename_i hs
    have := wt_spec (l := r'.foldl stepP l) hs
    omega
  · have := wt_step (r'.foldl stepP l) x
    omega
theorem body_len {p : List UInt8} (hp : p ≠ []) : (bodyS p).length ≤ p.length := by
  by_cases h : keptS p = []
  · rw [body_root h]
    have := List.length_pos_iff.2 hp
    exact this
  · obtain ⟨a, r, pr, t, h1, h2, h3, h4⟩ := body_form p h
    rw [h4]
    have hw := wt_split p
    have ht := wt_tail r
    have hk : wt (keptS p) = a.length + 1 + wt r := by rw [h1]; rfl
    have hT : (if t = true then ([47] : List UInt8) else []).length = (if special (lastS p) then 1 else 0) := by
      by_cases h : t = true
      · rw [if_pos h, if_pos (h3.1 h)]; rfl
      · rw [if_neg h, if_neg (fun hh => h (h3.2 hh))]; rfl
    simp only [List.length_append, ht, hT]
    by_cases hpr : pr = true
    · rw [if_pos hpr] at h2 ⊢
      have : ∃ t, p = 47 :: t := by
        cases p with
        | nil => exact absurd rfl hp
        | cons c t =>
          refine ⟨t, ?_⟩
          unfold pre at h2
          split at h2
          · rename_i h5; simp at h5; rw [h5]
          · cases h2
      obtain ⟨t', rfl⟩ := this
      have e : splitS (47 :: t') = [] :: splitS t' := by simp [splitS]
      have e1 : keptS (47 :: t') = (splitS t').foldl stepP [] := by unfold keptS; rw [e]; rfl
      have e2 : lastS (47 :: t') = (splitS t').getLastD [] := by
        unfold lastS
        rw [e, List.getLastD_eq_getLast?, List.getLastD_eq_getLast?, List.getLast?_cons_of_ne_nil (splitS_ne t')]
      have := wt_last (splitS_ne t') []
      have hw2 := wt_split t'
      rw [← e1, ← e2, hk] at this
      simp only [wt, List.length_cons, List.length_nil] at this ⊢
      omega
    · rw [if_neg hpr] at h2 ⊢
      have := wt_last (splitS_ne p) []
      rw [show (splitS p).foldl stepP [] = keptS p from rfl, show (splitS p).getLastD [] = lastS p from rfl, hk] at this
      simp only [wt, List.length_nil] at this ⊢
      omega
theorem body_ne (p : List UInt8) : bodyS p ≠ [] := by
  unfold bodyS orRoot
  generalize pre p ++ Lib.join (keptS p) [47] ++ (if keptS p ≠ [] ∧ special (lastS p) then [47] else []) = o
  split
  · simp
  · assumption
theorem path_len (s : List UInt8) : (pathS s).length ≤ s.length ∨ (pathS s = 47 :: s ∧ (s = [] ∨ ∃ t, s = 63 :: t)) := by
  by_cases h : s.take (qpos s) = []
  · right
    have h0 : s.drop (qpos s) = s := by
      have := List.take_append_drop (qpos s) s
      rw [h] at this
      simpa using this
    have hb : bodyS ([] : List UInt8) = [47] := by decide
    refine ⟨by unfold pathS; rw [h, h0, hb]; rfl, ?_⟩
    have := qpos_drop s
    rwa [h0] at this
  · left
    have := body_len h
    unfold pathS
    have hl := congrArg List.length (List.take_append_drop (qpos s) s)
    rw [List.length_append] at hl ⊢
    omega
theorem apply_len (k : Int) (s : List UInt8) : (applyS k s).length ≤ s.length + 1 := by
  unfold applyS
  have h2 := strip_len s
  have h3 := pct_len s
  have h4 := b64_len s 0 0
  have h6 := hex_len s (-1)
  have h5 := path_len s
  repeat' split
  · simp [lowS]
  · omega
  · omega
  · omega
  · rcases h5 with h | ⟨h, _⟩
    · omega
    · rw [h]; simp
  · omega
  · omega

end Go.Proofs.YtbphaelhhfkdiaaDoor
