/- Lemmas (several texts in one). -/
import Derived.Test.YtomghnmoomodiaaGreatDoorRows
import Derived.Test.YtomghnmoomodiaaGreatDoorMg5
/- The reference of names: Attributes. -/
set_option linter.unusedVariables false
set_option linter.unusedSimpArgs false
set_option linter.unusedSectionVars false
set_option maxRecDepth 20000
namespace Go.Proofs.YtomghnmoomodiaaGreatDoor
open Go.GAM Go.RowKit

theorem scanV_bad {c : UInt8} (X : List UInt8) (h : c ≠ 44) (hb : badC c = true) : scanV (c :: X) = none := by
  cases X with
  | nil => unfold scanV; rw [if_neg h, if_pos (.inl hb)]
  | cons d r => rw [scanV, if_neg h, if_pos hb]
theorem scanV_escBad {d : UInt8} (X : List UInt8) (h : d ∉ sps) : scanV (92 :: d :: X) = none := by
  rw [scanV, if_neg (by decide), if_neg (by decide), if_pos rfl, if_neg h]
theorem byte_eq {c : UInt8} {n : Nat} (hn : n < 256) : decide ((c.toNat : Int) = (n : Int)) = decide (c = UInt8.ofNat n) := by
  rw [decide_eq_decide]
  constructor
  · intro h
    have : c.toNat = n := by omega
    rw [← this]; simp
  · rintro rfl
    simp; omega
theorem prs_app (a b : List Att) : prs (a ++ b) = prs a ++ prs b := by unfold prs; rw [List.flatMap_append]

section
variable {h0 : AHeap} {Q : AV → AHeap → Prop} {s : List UInt8} {x4 : AV} {done : List Att} {t : List UInt8} {h : AHeap}

theorem at_p8 {j : Nat} {v r : List UInt8} {c : UInt8} (hs : s.length ≤ 512) (hj : s.drop j = c :: r) (hv : v.length ≤ 512) (hk : G_ref34_Attributes.p4 Q s x4 (j + 1 : Nat) t (v ++ [c]) h) : G_ref34_Attributes.p8 Q s x4 j t v h := by
  have hlt := drop_lt hj
  refine G_ref34_Attributes.i8 ?_
  simp only [G_ref34_Attributes.t8, G_ref34_Attributes.j4]
  refine inc (by omega) (st_subs2 (lo := j) (hi := j + 1) (by omega) (by omega) ?_)
  have e : (s.take (j + 1)).drop j = [c] := by
    rw [take_snoc (at_of_drop hj), List.drop_left' (by rw [List.length_take]; omega)]
  rw [e]
  refine ⟨by simp; omega, ?_⟩
  exact inc (by omega) hk

theorem at_p4 (hs : s.length ≤ 512) : ∀ (k : Nat) (r : List UInt8) (j : Nat) (v : List UInt8), r.length ≤ k → s.drop j = r → j ≤ s.length → v.length ≤ j →
    (scanV r = none → Q (.tu [.sl none 0 none, .b false]) h) → (∀ v' r', scanV r = some (v', r') → r' = s.drop (s.length - r'.length) → G_ref34_Attributes.p5 Q s x4 (s.length - r'.length : Nat) t (v ++ v') false h) → G_ref34_Attributes.p4 Q s x4 j t v h := by
  intro k
  induction k with
  | zero =>
    intro r j v hr hd hj hv hf hk
    have : r = [] := List.eq_nil_of_length_eq_zero (by omega)
    subst this
    have hlen := drop_end hd
    obtain rfl : j = s.length := by omega
    refine G_ref34_Attributes.i4 ?_
    simp only [G_ref34_Attributes.t4, G_ref34_Attributes.j5]
    have := hk [] [] rfl (by simp)
    rw [List.append_nil] at this
    exact bif_f (by simp) this
  | succ k ih =>
    intro r j v hr hd hj hv hf hk
    cases r with
    | nil =>
      have hlen := drop_end hd
      obtain rfl : j = s.length := by omega
      refine G_ref34_Attributes.i4 ?_
      simp only [G_ref34_Attributes.t4, G_ref34_Attributes.j5]
      have := hk [] [] rfl (by simp)
      rw [List.append_nil] at this
      exact bif_f (by simp) this
    | cons c r =>
      have hlt := drop_lt hd
      have hn := drop_next hd
      have hlr : r.length = s.length - (j + 1) := by rw [← hn, List.length_drop]
      refine G_ref34_Attributes.i4 ?_
      simp only [G_ref34_Attributes.t4, G_ref34_Attributes.j5]
      refine bif_t (by simp; omega) (st_at hd ?_)
      rw [show ((44 : Int)) = ((44 : Nat) : Int) from rfl, byte_eq (by omega)]
      by_cases h44 : c = 44
      · subst h44
        have e1 : scanV (44 :: r) = some ([], 44 :: r) := by cases r <;> rfl
        have := hk [] (44 :: r) e1 (by rw [List.length_cons, hlr, show s.length - (s.length - (j + 1) + 1) = j by omega, hd])
        rw [List.append_nil, List.length_cons, hlr, show s.length - (s.length - (j + 1) + 1) = j by omega] at this
        exact this
      · rw [decide_eq_false (show ¬ c = UInt8.ofNat 44 from h44)]
        show G_ref34_Attributes.p5 Q s x4 j t v true h
        have bad : badC c = true → G_ref34_Attributes.p6 Q s x4 j t v c.toNat true h := fun hb => by
          refine G_ref34_Attributes.i6 ?_
          simp only [G_ref34_Attributes.t6]
          exact bif_t rfl (hf (scanV_bad r h44 hb))
        refine G_ref34_Attributes.i5 ?_
        simp only [G_ref34_Attributes.t5, G_ref34_Attributes.j6]
        refine bif_t rfl (st_at hd ?_)
        rw [show ((61 : Int)) = ((61 : Nat) : Int) from rfl, byte_eq (by omega)]
        refine bif_both (fun e => bad (by unfold badC; rw [show decide (c = 61) = true from e]; rfl)) fun e61 => bif_both (fun e => bad ?_) fun e32 => ?_
        · have e := of_decide_eq_true e
          unfold badC textB
          rw [decide_eq_false (show ¬ 32 ≤ c.toNat by omega)]; simp
        · have e32 := of_decide_eq_false e32
          by_cases h126 : 126 < c.toNat
          · rw [decide_eq_true (show (126 : Int) < (c.toNat : Int) by omega)]
            refine bad ?_
            unfold badC textB
            rw [decide_eq_false (show ¬ c.toNat ≤ 126 by omega)]; simp
          · rw [decide_eq_false (show ¬ (126 : Int) < (c.toNat : Int) by omega)]
            have ht : textB c = true := by
              unfold textB
              rw [decide_eq_true (show 32 ≤ c.toNat by omega), decide_eq_true (show c.toNat ≤ 126 by omega)]; rfl
            have h61 : c ≠ 61 := of_decide_eq_false e61
            refine G_ref34_Attributes.i6 ?_
            simp only [G_ref34_Attributes.t6, G_ref34_Attributes.j7, G_ref34_Attributes.j8]
            refine bif_f rfl ?_
            rw [show ((92 : Int)) = ((92 : Nat) : Int) from rfl, byte_eq (by omega)]
            refine bif_both (fun e => ?_) fun e => ?_
            · have e : c = 92 := of_decide_eq_true e
              subst e
              have fail : scanV (92 :: r) = none → G_ref34_Attributes.p7 Q s x4 (j + 1 : Nat) t v true h := fun hb => by
                refine G_ref34_Attributes.i7 ?_
                simp only [G_ref34_Attributes.t7]
                exact bif_t rfl (hf hb)
              refine inc (by omega) (bif_both (fun e => fail ?_) fun e => ?_)
              · have e := of_decide_eq_true e
                have : r = [] := List.eq_nil_of_length_eq_zero (by omega)
                subst this; rfl
              · have e := of_decide_eq_false e
                cases r with
                | nil => simp at hlr; omega
                | cons d r =>
                  have hn2 := drop_next hn
                  have good : d ∈ sps → G_ref34_Attributes.p7 Q s x4 (j + 1 : Nat) t v false h := fun hd2 => by
                    refine G_ref34_Attributes.i7 ?_
                    simp only [G_ref34_Attributes.t7, G_ref34_Attributes.j8]
                    refine bif_f rfl (at_p8 hs hn (by omega) ?_)
                    refine ih r (j + 2) (v ++ [d]) (by simp at hr; omega) hn2 (by omega) (by simp; omega) (fun hx => hf ?_) fun v' r' hx hr' => ?_
                    · rw [scanV_esc d r hd2, hx]; rfl
                    · have := hk (d :: v') r' (by rw [scanV_esc d r hd2, hx]; rfl) hr'
                      rw [List.append_assoc]; exact this
                  have badE : d ∉ sps → G_ref34_Attributes.p7 Q s x4 (j + 1 : Nat) t v true h := fun hd2 => fail (scanV_escBad r hd2)
                  refine st_at hn ?_
                  rw [show ((44 : Int)) = ((44 : Nat) : Int) from rfl, byte_eq (by omega)]
                  refine bif_both (fun e1 => ?_) fun e1 => ?_
                  · refine st_at hn ?_
                    rw [show ((61 : Int)) = ((61 : Nat) : Int) from rfl, byte_eq (by omega)]
                    refine bif_both (fun e2 => ?_) fun e2 => ?_
                    · refine st_at hn ?_
                      rw [byte_eq (by omega)]
                      have e1 : d ≠ 44 := by simpa using e1
                      have e2 : d ≠ 61 := by simpa using e2
                      by_cases h92 : d = 92
                      · rw [decide_eq_true (show d = UInt8.ofNat 92 from h92)]
                        exact good (sps_mem.2 (.inl h92))
                      · rw [decide_eq_false (show ¬ d = UInt8.ofNat 92 from h92)]
                        refine badE fun h => ?_
                        rcases sps_mem.1 h with h | h | h
                        · exact h92 h
                        · exact e1 h
                        · exact e2 h
                    · have e2 : d = 61 := by simpa using e2
                      exact good (sps_mem.2 (.inr (.inr e2)))
                  · have e1 : d = 44 := by simpa using e1
                    exact good (sps_mem.2 (.inr (.inl e1)))
            · have e : c ≠ 92 := of_decide_eq_false e
              have hns : c ∉ sps := fun h => by
                rcases sps_mem.1 h with h | h | h
                · exact e h
                · exact h44 h
                · exact h61 h
              refine at_p8 hs hd (by omega) (ih r (j + 1) (v ++ [c]) (by simp at hr; omega) hn (by omega) (by simp; omega) (fun hx => hf ?_) fun v' r' hx hr' => ?_)
              · rw [scanV_good c r hns ht, hx]; rfl
              · have := hk (c :: v') r' (by rw [scanV_good c r hns ht, hx]; rfl) hr'
                rw [List.append_assoc]; exact this

theorem at_p1 {a : Nat} (hs : s.length ≤ 512) : ∀ (r : List UInt8) (e : Nat), s.drop e = r → e ≤ s.length → G_ref34_Attributes.p2 Q s x4 a (e + (r.takeWhile (· ≠ 61)).length : Nat) false h → G_ref34_Attributes.p1 Q s x4 a e h := by
  intro r
  induction r with
  | nil =>
    intro e hr he hk
    have := drop_end hr
    refine G_ref34_Attributes.i1 ?_
    simp only [G_ref34_Attributes.t1, G_ref34_Attributes.j2]
    exact bif_f (by simp; omega) hk
  | cons c r ih =>
    intro e hr he hk
    have hlt := drop_lt hr
    refine G_ref34_Attributes.i1 ?_
    simp only [G_ref34_Attributes.t1, G_ref34_Attributes.j2]
    refine bif_t (by simp; omega) (st_at hr ?_)
    rw [show ((61 : Int)) = ((61 : Nat) : Int) from rfl, byte_eq (by omega)]
    by_cases h61 : c = 61
    · rw [decide_eq_true (show c = UInt8.ofNat 61 from h61)]
      rw [List.takeWhile_cons_of_neg (by simpa using h61)] at hk
      exact hk
    · rw [decide_eq_false (show ¬ c = UInt8.ofNat 61 from h61)]
      rw [List.takeWhile_cons_of_pos (by simpa using h61)] at hk
      refine G_ref34_Attributes.i2 ?_
      simp only [G_ref34_Attributes.t2, G_ref34_Attributes.j1]
      refine bif_t rfl (inc (by omega) (ih (e + 1) (drop_next hr) (by omega) ?_))
      rw [List.length_cons] at hk
      rw [show e + 1 + (r.takeWhile (· ≠ 61)).length = e + ((r.takeWhile (· ≠ 61)).length + 1) by omega]
      exact hk

theorem at_p0 (hs : s.length ≤ 512) : ∀ (n a : Nat) (done : List Att) (x4 : AV) (h : AHeap), s.length - a < n → a ≤ s.length → done.length ≤ a → NewA 2 h0 h x4 (prs done) done.length →
    (∀ l, scanA n (s.drop a) = some l → ∀ w h', Upd (fun _ => False) h0 h' → RdI 2 h' w (prs (done ++ l)) (done ++ l).length → Q (.tu [w, .b true]) h') →
    (scanA n (s.drop a) = none → ∀ h', Upd (fun _ => False) h0 h' → Q (.tu [.sl none 0 none, .b false]) h') → G_ref34_Attributes.p0 Q s x4 a h := by
  intro n
  induction n with
  | zero => intro a done x4 h hn; omega
  | succ n ih =>
    intro a done x4 h hn ha hdl A hok hf
    refine G_ref34_Attributes.i0 ?_
    simp only [G_ref34_Attributes.t0, G_ref34_Attributes.j1]
    refine at_p1 hs (s.drop a) a rfl ha ?_
    have hTR : (s.drop a).takeWhile (· ≠ 61) ++ (s.drop a).dropWhile (· ≠ 61) = s.drop a := List.takeWhile_append_dropWhile
    unfold scanA at hok hf
    generalize hT : (s.drop a).takeWhile (· ≠ 61) = T at *
    generalize hR : (s.drop a).dropWhile (· ≠ 61) = R at *
    have hR2 : R = s.drop (a + T.length) := by
      rw [← List.drop_drop, ← hTR]; simp
    have hTl : a + T.length ≤ s.length := by
      have := congrArg List.length hTR
      simp at this; omega
    have hT2 : (s.take (a + T.length)).drop a = T := by
      rw [List.drop_take, show a + T.length - a = T.length by omega, ← hTR]; simp
    have fail : (attB T = false ∨ R = []) → ∀ x6 : Int, G_ref34_Attributes.p3 Q s x4 x6 T true h := fun hb x6 => by
      refine G_ref34_Attributes.i3 ?_
      simp only [G_ref34_Attributes.t3]
      rw [if_pos hb] at hf
      exact bif_t rfl (hf rfl h A.upd)
    refine G_ref34_Attributes.i2 ?_
    simp only [G_ref34_Attributes.t2, G_ref34_Attributes.j3]
    refine bif_f rfl (st_subs2 (lo := a) (hi := a + T.length) (by omega) hTl ?_)
    rw [hT2]
    refine ident_c fun o => st_ext0 (st_asS (st_ext1 (st_asB ?_)))
    cases hb : attB T with
    | false => exact fail (.inl hb) _
    | true =>
      show G_ref34_Attributes.p3 Q s x4 (a + T.length : Nat) T (decide ((s.length : Int) ≤ ((a + T.length : Nat) : Int))) h
      by_cases hend : s.length ≤ a + T.length
      · rw [decide_eq_true (show (s.length : Int) ≤ ((a + T.length : Nat) : Int) by omega)]
        exact fail (.inr (by rw [hR2, List.drop_of_length_le hend])) _
      · rw [decide_eq_false (show ¬ (s.length : Int) ≤ ((a + T.length : Nat) : Int) by omega)]
        have hRne : R ≠ [] := fun h => by
          rw [hR2] at h
          have := drop_end h
          omega
        rw [if_neg (by rw [hb]; simp [hRne]), hR2, List.drop_drop] at hok hf
        refine G_ref34_Attributes.i3 ?_
        simp only [G_ref34_Attributes.t3, G_ref34_Attributes.j4]
        refine bif_f rfl (inc (by omega) (at_p4 hs (s.length + 1) (s.drop (a + T.length + 1)) (a + T.length + 1) [] (by simp; omega) rfl (by omega) (by simp) (fun hx => ?_) fun v' r' hx hr' => ?_))
        · rw [hx] at hf
          exact hf rfl h A.upd
        · have hd1 : done.length + 1 ≤ 1000 := by omega
          refine G_ref34_Attributes.i5 ?_
          simp only [G_ref34_Attributes.t5, G_ref34_Attributes.j0]
          refine bif_f rfl (A.build (ns := [.s T, .s ([] ++ v')]) (n := 1) (by omega) rfl rfl rfl (by omega) (by omega) fun w h' A' => ?_)
          have A' : NewA 2 h0 h' w (prs (done ++ [(T, v')])) (done ++ [(T, v')]).length := by
            rw [prs_app, List.length_append]; exact A'
          rw [hx] at hok hf
          have hl' := scanV_is _ _ _ hx
          have hrl : r'.length ≤ s.length - (a + T.length + 1) := by
            have := congrArg List.length hl'.1
            simp at this; omega
          cases r' with
          | nil =>
            refine bif_t (by simp) ?_
            exact hok _ rfl w h' A'.upd A'.arr.rd.i
          | cons c r =>
            refine bif_f (by simp at hrl ⊢; omega) ?_
            have hpos : s.length - (c :: r).length + 1 = s.length - r.length := by simp at hrl ⊢; omega
            refine inc (by simp; omega) ?_
            have hdrop : s.drop (s.length - (c :: r).length + 1) = r := drop_next hr'.symm
            refine ih _ (done ++ [(T, v')]) w h' (by simp at hrl ⊢; omega) (by simp at hrl ⊢; omega) (by simp at hrl ⊢; omega) A' (fun l hl w2 h2 U2 R2 => ?_) fun hl h2 U2 => ?_
            · rw [hdrop] at hl
              refine hok ((T, v') :: l) ?_ w2 h2 U2 (by rw [List.append_assoc] at R2; exact R2)
              show (scanA n r).map ((T, v') :: ·) = _
              rw [hl]; rfl
            · rw [hdrop] at hl
              refine hf ?_ h2 U2
              show (scanA n r).map ((T, v') :: ·) = _
              rw [hl]; rfl

theorem attributes_c (hs : s.length ≤ 512) (hq : ∀ w h', Upd (fun _ => False) h0 h' → RdI 2 h' w (prs ((attrsS s).getD [])) ((attrsS s).getD []).length → Q (.tu [w, .b (attrsS s).isSome]) h') : C G_ref34_Attributes.id [.s s] h0 Q := by
  refine G_ref34_Attributes.call ?_
  simp only [G_ref34_Attributes.t, G_ref34_Attributes.j0]
  refine bif_both (fun e => ?_) fun e => ?_
  · have e := of_decide_eq_true e
    subst e
    exact .inl (hq _ _ (Upd.refl _ _) (.inl ⟨rfl, rfl, rfl⟩))
  · have e := of_decide_eq_false e
    have ha : attrsS s = scanA (s.length + 1) s := if_neg e
    rw [ha] at hq
    refine at_p0 (h0 := h0) (Q := kRet h0 Q) hs (s.length + 1) 0 [] _ h0 (by omega) (by omega) (by simp) (NewA.start 2 h0) (fun l hl w h' U R => .inl ?_) fun hl h' U => .inl ?_
    · rw [List.drop_zero] at hl
      rw [hl] at hq
      exact hq w h' U R
    · rw [List.drop_zero] at hl
      rw [hl] at hq
      exact hq _ h' U (.inl ⟨rfl, rfl, rfl⟩)
end
end Go.Proofs.YtomghnmoomodiaaGreatDoor

/- Arguments within a machine's reach. -/
set_option linter.unusedVariables false
set_option linter.unusedSimpArgs false
set_option linter.unusedSectionVars false
set_option maxRecDepth 20000
namespace Go.Proofs.YtomghnmoomodiaaGreatDoor
open Go.GAM Go.RowKit Go.ChangeShapes

section
variable {H : Type} {enc : TypeId × Value → H} {w : World}

def wfR (c : Cert) : Prop := c.names.length ≤ maxLen ∧ (∀ n ∈ c.names, n.length ≤ 140737488351232) ∧ c.subject.length ≤ maxLen ∧ c.issuer.length ≤ maxLen
theorem wfR.c {c : Cert} (h : wfR c) : wfC c := ⟨h.1, fun n hn => by have := h.2.1 n hn; rw [maxLen_is]; omega, h.2.2⟩

theorem certR {cs : List Value} (h : InW enc prog w 36 cs) : cs.length = 8 ∧ ∃ c : Cert, CV (hW w) c (cs.map (absV w fun _ => 1)) ∧ wfR c := by
  obtain ⟨hlen, hf⟩ := h.struct Tryz.underlying36
  have c36 : prog.cellsOf 36 = 8 := by kernel_rfl
  have c3 : prog.cellsOf 3 = 1 := by kernel_rfl
  have c4 : prog.cellsOf 4 = 1 := by kernel_rfl
  have c9 : prog.cellsOf 9 = 1 := by kernel_rfl
  have c34 : prog.cellsOf 34 = 1 := by kernel_rfl
  rw [c36] at hlen
  refine ⟨hlen, ?_⟩
  match cs, hlen with
  | [v0, v1, v2, v3, v4, v5, v6, v7], _ =>
    have f0 : InW enc prog w 9 (([v0, v1, v2, v3, v4, v5, v6, v7].drop 0).take (prog.cellsOf 9)) := hf 0 _ rfl
    have f1 : InW enc prog w 9 (([v0, v1, v2, v3, v4, v5, v6, v7].drop 1).take (prog.cellsOf 9)) := hf 1 _ rfl
    have f2 : InW enc prog w 9 (([v0, v1, v2, v3, v4, v5, v6, v7].drop 2).take (prog.cellsOf 9)) := hf 2 _ rfl
    have f3 : InW enc prog w 3 (([v0, v1, v2, v3, v4, v5, v6, v7].drop 3).take (prog.cellsOf 3)) := hf 3 _ rfl
    have f4 : InW enc prog w 3 (([v0, v1, v2, v3, v4, v5, v6, v7].drop 4).take (prog.cellsOf 3)) := hf 4 _ rfl
    have f5 : InW enc prog w 34 (([v0, v1, v2, v3, v4, v5, v6, v7].drop 5).take (prog.cellsOf 34)) := hf 5 _ rfl
    have f6 : InW enc prog w 4 (([v0, v1, v2, v3, v4, v5, v6, v7].drop 6).take (prog.cellsOf 4)) := hf 6 _ rfl
    have f7 : InW enc prog w 9 (([v0, v1, v2, v3, v4, v5, v6, v7].drop 7).take (prog.cellsOf 9)) := hf 7 _ rfl
    rw [c9] at f0 f1 f2 f7
    rw [c3] at f3 f4
    rw [c4] at f6
    rw [c34] at f5
    obtain ⟨s0, e0, b0⟩ := f0.str Tryz.underlying9
    obtain ⟨s1, e1, b1⟩ := f1.str Tryz.underlying9
    obtain ⟨s2, e2, b2⟩ := f2.str Tryz.underlying9
    obtain ⟨i3, e3, _⟩ := f3.int (show prog.underlying 3 = some (.int .i64) by kernel_rfl)
    obtain ⟨i4, e4, _⟩ := f4.int (show prog.underlying 3 = some (.int .i64) by kernel_rfl)
    obtain ⟨v5', l, e5, hr, hnl, _, hn, _⟩ := f5.strs Tryz.underlying34 Tryz.underlying9 c9
    obtain ⟨m6, e6⟩ := f6.bool Tryz.underlying4
    obtain ⟨s7, e7, b7⟩ := f7.str Tryz.underlying9
    have g0 : v0 = .string s0 := List.singleton_inj.1 e0
    have g1 : v1 = .string s1 := List.singleton_inj.1 e1
    have g2 : v2 = .string s2 := List.singleton_inj.1 e2
    have g3 : v3 = .int .i64 i3 := List.singleton_inj.1 e3
    have g4 : v4 = .int .i64 i4 := List.singleton_inj.1 e4
    have g5 : v5 = v5' := List.singleton_inj.1 e5
    have g6 : v6 = .bool m6 := List.singleton_inj.1 e6
    have g7 : v7 = .string s7 := List.singleton_inj.1 e7
    subst g0 g1 g2 g3 g4 g5 g6 g7
    exact ⟨⟨s0.data.toList, s1.data.toList, s2.data.toList, i3, i4, l, m6, s7.data.toList⟩, ⟨_, rfl, hr⟩, hnl, hn, by rw [maxLen_is]; simp only; omega, by rw [maxLen_is]; simp only; omega⟩

theorem certsR {cs : List Value} (h : InW enc prog w 24 cs) :
    ∃ (v : Value) (l : List Cert), cs = [v] ∧ CL (hW w) (absV w (fun _ => 1) v) l ∧ (∀ c ∈ l, wfR c) ∧ VRel (muC w fun _ => 1) (absV w (fun _ => 1) v) v := by
  obtain ⟨v, rows, rfl, hr, _, _, hrow, hv⟩ := h.slice Tryz.underlying24 (show prog.cellsOf 36 = 8 by kernel_rfl) (by decide)
  have : ∀ rows : List (List Value), (∀ r ∈ rows, r.length = 8 ∧ InW enc prog w 36 r) → ∃ l : List Cert, CVs (hW w) l (rows.map (·.map (absV w fun _ => 1))) ∧ rows.length = l.length ∧ ∀ c ∈ l, wfR c := by
    intro rows
    induction rows with
    | nil => intro _; exact ⟨[], trivial, rfl, fun n hn => by cases hn⟩
    | cons r rows ih =>
      intro hr
      obtain ⟨l, h1, h2, h3⟩ := ih fun r hr' => hr r (by simp [hr'])
      obtain ⟨_, hy⟩ := hr r (by simp)
      obtain ⟨_, c, g1, g2⟩ := certR hy
      refine ⟨c :: l, ⟨g1, h1⟩, by simp [h2], fun d hd => ?_⟩
      rcases List.mem_cons.1 hd with rfl | hd
      · exact g2
      · exact h3 d hd
  obtain ⟨l, h1, h2, h3⟩ := this rows hrow
  rw [h2] at hr
  refine ⟨v, l, rfl, ⟨rows.map (·.map (absV w fun _ => 1)), ?_, h1⟩, h3, hv⟩
  rw [List.map_flatten] at hr; exact hr

def wfQR (q : Que) : Prop := (∀ c ∈ q.ch, wfR c) ∧ (∀ c ∈ q.tr, wfR c) ∧ q.host.length ≤ 140737488351232
theorem wfQR.q {q : Que} (h : wfQR q) : wfQ q := ⟨fun c hc => (h.1 c hc).c, fun c hc => (h.2.1 c hc).c, by have := h.2.2; rw [maxLen_is]; omega⟩

theorem queR {v : Value} (h : InW enc prog w 26 v.cells.toList) : ∃ (cs : List AV) (q : Que), VRel (muC w fun _ => 1) (.ag cs) v ∧ QV (hW w) q cs ∧ wfQR q := by
  obtain ⟨hlen, hf⟩ := h.struct Tryz.underlying26
  have c26 : prog.cellsOf 26 = 4 := by kernel_rfl
  have c3 : prog.cellsOf 3 = 1 := by kernel_rfl
  have c9 : prog.cellsOf 9 = 1 := by kernel_rfl
  have c24 : prog.cellsOf 24 = 1 := by kernel_rfl
  rw [c26] at hlen
  cases v with
  | agg vs =>
    have hcells : (Value.agg vs).cells.toList = vs.toList := rfl
    rw [hcells] at hlen hf
    have hrel : VRel (muC w fun _ => 1) (.ag (vs.toList.map (absV w fun _ => 1))) (.agg vs) := .ag _ _ (absVs_rel _)
    refine ⟨vs.toList.map (absV w fun _ => 1), ?_⟩
    revert hf hrel
    generalize vs.toList = cs at hlen
    intro hf hrel
    match cs, hlen with
    | [v0, v1, v2, v3], _ =>
      have f0 : InW enc prog w 24 (([v0, v1, v2, v3].drop 0).take (prog.cellsOf 24)) := hf 0 _ rfl
      have f1 : InW enc prog w 9 (([v0, v1, v2, v3].drop 1).take (prog.cellsOf 9)) := hf 1 _ rfl
      have f2 : InW enc prog w 3 (([v0, v1, v2, v3].drop 2).take (prog.cellsOf 3)) := hf 2 _ rfl
      have f3 : InW enc prog w 24 (([v0, v1, v2, v3].drop 3).take (prog.cellsOf 24)) := hf 3 _ rfl
      rw [c24] at f0 f3
      rw [c9] at f1
      rw [c3] at f2
      obtain ⟨u0, l0, e0, r0, w0, _⟩ := certsR f0
      obtain ⟨s1, e1, b1⟩ := f1.str Tryz.underlying9
      obtain ⟨i2, e2, _⟩ := f2.int (show prog.underlying 3 = some (.int .i64) by kernel_rfl)
      obtain ⟨u3, l3, e3, r3, w3, _⟩ := certsR f3
      have g0 : v0 = u0 := List.singleton_inj.1 e0
      have g1 : v1 = .string s1 := List.singleton_inj.1 e1
      have g2 : v2 = .int .i64 i2 := List.singleton_inj.1 e2
      have g3 : v3 = u3 := List.singleton_inj.1 e3
      subst g0 g1 g2 g3
      exact ⟨⟨l0, s1.data.toList, i2, l3⟩, hrel, ⟨_, _, rfl, r0, r3⟩, w0, w3, b1⟩
  | _ => simp [Value.cells] at hlen
end
end Go.Proofs.YtomghnmoomodiaaGreatDoor

/- has; lists of certificates, joined and cut. -/
set_option linter.unusedVariables false
set_option linter.unusedSimpArgs false
set_option linter.unusedSectionVars false
set_option maxRecDepth 20000
namespace Go.Proofs.YtomghnmoomodiaaGreatDoor
open Go.GAM Go.RowKit Go.ChangeShapes

section
variable {h : AHeap} {Q : AV → AHeap → Prop}

theorem has_p0 {v : AV} {l : List Nat} {m : Nat} {h0 : AHeap} (R : Rd 1 h v (l.map num) l.length) (hl : l.length ≤ 1000) : ∀ (r : List Nat) (i : Nat), l.drop i = r → kRet h0 Q (.b (r.contains m)) h → G_law35_has.p0 (kRet h0 Q) v m l.length i h := by
  intro r
  induction r with
  | nil =>
    intro i hr hq
    have := drop_end hr
    refine G_law35_has.i0 ?_
    simp only [G_law35_has.t0]
    exact bif_f (by simp; omega) hq
  | cons x r ih =>
    intro i hr hq
    have hlt := drop_lt hr
    refine G_law35_has.i0 ?_
    simp only [G_law35_has.t0, G_law35_has.j0]
    refine bif_t (by simp; omega) (rd_num R (at_of_drop hr) ?_)
    by_cases hxm : x = m
    · subst hxm
      refine bif_t (by simp) ?_
      simpa using hq
    · refine bif_f (by simp; omega) (inc (by omega) (ih (i + 1) (drop_next hr) ?_))
      rw [List.contains_cons, show (m == x) = false by simp; omega, Bool.false_or] at hq
      exact hq
theorem lhas_c {v : AV} {l : List Nat} {m : Nat} (R : Rd 1 h v (l.map num) l.length) (hl : l.length ≤ 1000) (hq : Q (.b (l.contains m)) h) : C G_law35_has.id [v, num m] h Q := by
  refine G_law35_has.call ?_
  simp only [G_law35_has.t, G_law35_has.j0]
  exact R.len (has_p0 R hl l 0 rfl (.inl hq))

theorem CVs.app {h : AHeap} : ∀ {a b : List Cert} {ra rb : List (List AV)}, CVs h a ra → CVs h b rb → CVs h (a ++ b) (ra ++ rb)
  | [], _, [], _, _, hb => hb
  | _ :: _, _, _ :: _, _, ⟨h1, h2⟩, hb => ⟨h1, CVs.app h2 hb⟩
theorem CVs.cells {h : AHeap} : ∀ {a : List Cert} {ra : List (List AV)}, CVs h a ra → ra.flatten.all AV.cellOK = true ∧ ra.flatten.length = a.length * 8 ∧ ra.length = a.length
  | [], [], _ => ⟨rfl, rfl, rfl⟩
  | _ :: _, _ :: _, ⟨h1, h2⟩ => by
    obtain ⟨g1, g2, g3⟩ := CVs.cells h2
    refine ⟨?_, ?_, by simp [g3]⟩
    · rw [List.flatten_cons, List.all_append, h1.ok, g1]; rfl
    · rw [List.flatten_cons, List.length_append, h1.len, g2, List.length_cons, Nat.add_mul]; omega
theorem CVs.take {h : AHeap} : ∀ {a : List Cert} {ra : List (List AV)} (n : Nat), CVs h a ra → CVs h (a.take n) (ra.take n) ∧ (ra.take n).flatten = ra.flatten.take (n * 8)
  | [], [], n, _ => ⟨by simp [CVs], by simp⟩
  | _ :: _, _ :: _, 0, _ => ⟨trivial, by simp⟩
  | _ :: _, r :: ra, n + 1, ⟨h1, h2⟩ => by
    obtain ⟨g1, g2⟩ := CVs.take n h2
    refine ⟨⟨h1, g1⟩, ?_⟩
    rw [List.take_succ_cons, List.flatten_cons, List.flatten_cons, g2, List.take_append, h1.len, List.take_of_length_le (l := r) (by rw [h1.len]; omega), show (n + 1) * 8 - 8 = n * 8 by omega]

end

/-! ### findings: which lists they come from -/

section
variable {cm : List UInt8 → List UInt8} {tr ch : List Cert} {x : List UInt8} {at' : Int}
theorem out_contains {n : Nat} (h1 : 1 ≤ n) (h7 : n ≤ 7) : (outS cm tr x at' ch 7).contains n = foundS cm tr x at' ch n := by
  rw [Bool.eq_iff_iff, List.contains_iff_mem]
  unfold outS
  rw [List.mem_filter, List.mem_map]
  constructor
  · exact fun h => h.2
  · exact fun h => ⟨⟨n - 1, List.mem_range.2 (by omega), by omega⟩, h⟩
theorem hasS_app (a b : List Cert) (c : Cert) : hasS (a ++ b) c = (hasS a c || hasS b c) := by unfold hasS; rw [List.any_append]
theorem autS_app (a b : List Cert) (s : List UInt8) : autS (a ++ b) s = (autS a s || autS b s) := by unfold autS; rw [List.any_append]
theorem fAt_grow (more : List Cert) (f i : Nat) (h : fAt (tr ++ more) at' ch f i = true) : fAt tr at' ch f i = true := by
  unfold fAt at *
  cases hc : ch[i]? with
  | none => rw [hc] at h; cases h
  | some c =>
    rw [hc] at h
    simp only at h ⊢
    by_cases h1 : f = 1
    · rw [if_pos h1] at *; exact h
    by_cases h2 : f = 2
    · rw [if_neg h1, if_pos h2] at *; exact h
    by_cases h4 : f = 4
    · rw [if_neg h1, if_neg h2, if_pos h4] at *
      rw [hasS_app, Bool.and_eq_true, Bool.not_eq_true', Bool.or_eq_false_iff] at h
      rw [h.1, h.2.1]; rfl
    · rw [if_neg h1, if_neg h2, if_neg h4] at *; exact h
theorem found_grow (more : List Cert) (f : Nat) (h : foundS cm (tr ++ more) x at' ch f = true) : foundS cm tr x at' ch f = true := by
  unfold foundS at *
  rw [Bool.or_eq_true] at *
  rcases h with h | h
  · left
    unfold holdS at *
    by_cases h3 : f = 3
    · rw [if_pos h3] at *; exact h
    by_cases h5 : f = 5
    · rw [if_neg h3, if_pos h5] at *
      cases hc : ch[ch.length - 1]? with
      | none => rw [hc] at h; cases h
      | some c =>
        rw [hc] at h
        simp only at h ⊢
        rw [hasS_app, autS_app, Bool.and_eq_true, Bool.not_eq_true', Bool.not_eq_true', Bool.or_eq_false_iff, Bool.or_eq_false_iff] at h
        rw [h.1.1, h.2.1]; rfl
    · rw [if_neg h3, if_neg h5] at *; exact h
  · right
    unfold fAny at *
    rw [List.any_eq_true] at *
    obtain ⟨i, h1, h2⟩ := h
    exact ⟨i, h1, fAt_grow more f i h2⟩
theorem found_host (y : List UInt8) (f : Nat) (hf : f ≠ 3) : foundS cm tr x at' ch f = foundS cm tr y at' ch f := by
  unfold foundS holdS
  rw [if_neg hf, if_neg hf]
theorem check_grow (more : List Cert) {n : Nat} (h1 : 1 ≤ n) (h7 : n ≤ 7) (h : (checkS cm (tr ++ more) x at' ch).contains n = true) : (checkS cm tr x at' ch).contains n = true := by
  unfold checkS at *
  by_cases e : ch = []
  · rw [if_pos e] at *; exact h
  · rw [if_neg e] at *
    rw [out_contains h1 h7] at *
    exact found_grow more n h
theorem check_host (y : List UInt8) {n : Nat} (h1 : 1 ≤ n) (h7 : n ≤ 7) (h3 : n ≠ 3) : (checkS cm tr x at' ch).contains n = (checkS cm tr y at' ch).contains n := by
  unfold checkS
  split
  · rfl
  · rw [out_contains h1 h7, out_contains h1 h7]
    exact found_host y n h3
theorem check_len : (checkS cm tr x at' ch).length ≤ 7 := by
  unfold checkS
  split
  · simp
  · exact outS_len cm tr x at' ch 7
end
end Go.Proofs.YtomghnmoomodiaaGreatDoor
namespace Go.GAM
theorem NewA.empty {sz : Nat} {h0 h : AHeap} (U : Upd (fun _ => False) h0 h) {K : AV → AHeap → Prop} (hk : ∀ v h', NewA sz h0 h' v [] 0 → Upd (fun _ => False) h h' → K v h') : pBuildSl sz 0 [] [] h K := by
  refine ⟨by simp, ?_⟩
  refine hk _ _ ⟨U.trans (Upd.app _ _) fun _ _ h => h, .inr ⟨h.length, newBlk [] sz true, rfl, by simp, rfl, by simp, rfl, Nat.le_refl _, rfl, rfl⟩, fun i hi => ?_⟩ (Upd.app _ _)
  cases hi; exact U.1
end Go.GAM

/- The law's text in the abstract machine: printed by Gen.lean, checked by Lean's kernel. -/
set_option linter.unusedVariables false
set_option linter.unusedSectionVars false
set_option maxRecDepth 100000
namespace Go.Proofs.YtomghnmoomodiaaGreatDoor
open Go.GAM
variable [XR]
--@@ G_law35_CertcheckGrows
/-! ### 7: intrusion/intrusionlaw35.CertcheckGrows -/
noncomputable def G_law35_CertcheckGrows.body : Code := (Tryz.f7.body).getD .skip
def G_law35_CertcheckGrows.ann : Ann := (.seq 0 [1, 2, 3] .leaf (.seq 0 [1, 2, 3] (.seq 1 [1, 2, 3, 20] .leaf (.br (.seq 0 [6] .leaf .leaf) .leaf)) (.seq 0 [1, 2, 3, 7] .leaf (.seq 0 [2, 3, 7, 8] (.ord (.neu 0 (.neu 1 (.neu 2 (.neu 3 (.neu 4 (.neu 5 (.neu 7 (.neu 8 (.neu 10 (.eff 6 (.eff 9 (.eff 11 (.eff 12 (.neu 13 .done) .stop) .stop) .stop) .stop))))))))))) (.seq 0 [7, 8, 9] .leaf (.seq 0 [] (.seq 0 [7, 8, 9, 10] .leaf (.one (.loop 2 [7, 8, 9, 10] (.seq 0 [7, 8, 9, 10] (.seq 0 [7, 8, 9, 10, 53] .leaf (.br .leaf .leaf)) (.seq 0 [7, 8, 9, 10] (.one (.seq 3 [7, 8, 9, 10, 77] .leaf (.br (.seq 0 [6] .leaf .leaf) .leaf))) .leaf))))) (.seq 0 [6] .leaf .leaf)))))))
theorem G_law35_CertcheckGrows.body_eq : Tryz.f7.body = some G_law35_CertcheckGrows.body := by kernel_rfl
theorem G_law35_CertcheckGrows.dist : noTwice (places G_law35_CertcheckGrows.ann G_law35_CertcheckGrows.body) = true := by kernel_rfl
noncomputable def G_law35_CertcheckGrows.J (Q : AV → AHeap → Prop) : JT := funJ prog C Tryz.f7 G_law35_CertcheckGrows.ann G_law35_CertcheckGrows.body Q
theorem G_law35_CertcheckGrows.goR {Q : AV → AHeap → Prop} {k : Nat} {p : List Nat} (hl : lookJ (places G_law35_CertcheckGrows.ann G_law35_CertcheckGrows.body) k = some (p, false)) {e : Env} {h : AHeap} (hk : atJ prog C 79 (G_law35_CertcheckGrows.J Q) false p G_law35_CertcheckGrows.ann G_law35_CertcheckGrows.body e h (kFun prog Tryz.f7 Q)) : G_law35_CertcheckGrows.J Q k e h := goJ_run (P := prog) (fn := Tryz.f7) (ann := G_law35_CertcheckGrows.ann) (body := G_law35_CertcheckGrows.body) (Q := Q) (k := k) (p := p) (e := e) (h := h) (acall_le X) G_law35_CertcheckGrows.dist hl hk
theorem G_law35_CertcheckGrows.goH {Q : AV → AHeap → Prop} {k : Nat} {p : List Nat} (hl : lookJ (places G_law35_CertcheckGrows.ann G_law35_CertcheckGrows.body) k = some (p, true)) {e : Env} {h : AHeap} (hk : atJ prog C 79 (G_law35_CertcheckGrows.J Q) true p G_law35_CertcheckGrows.ann G_law35_CertcheckGrows.body e h (kFun prog Tryz.f7 Q)) : G_law35_CertcheckGrows.J Q k e h := goJ_head (P := prog) (fn := Tryz.f7) (ann := G_law35_CertcheckGrows.ann) (body := G_law35_CertcheckGrows.body) (Q := Q) (k := k) (p := p) (e := e) (h := h) (acall_le X) G_law35_CertcheckGrows.dist hl hk
def G_law35_CertcheckGrows.p0 (Q : AV → AHeap → Prop) (x1 : AV) (x2 : List UInt8) (x3 : AV) (x20 : Bool) (h : AHeap) : Prop := G_law35_CertcheckGrows.J Q 1 [(1, x1), (2, (AV.s x2)), (3, x3), (20, (AV.b x20))] h
theorem G_law35_CertcheckGrows.j0 (Q : AV → AHeap → Prop) (x1 : AV) (x2 : List UInt8) (x3 : AV) (x20 : Bool) (h : AHeap) : G_law35_CertcheckGrows.J Q 1 [(1, x1), (2, (AV.s x2)), (3, x3), (20, (AV.b x20))] h = G_law35_CertcheckGrows.p0 Q x1 x2 x3 x20 h := rfl
def G_law35_CertcheckGrows.p2 (Q : AV → AHeap → Prop) (x7 : AV) (x8 : AV) (x9 : AV) (x10 : Int) (x77 : Bool) (h : AHeap) : Prop := G_law35_CertcheckGrows.J Q 3 [(7, x7), (8, x8), (9, x9), (10, (AV.i .i64 x10)), (77, (AV.b x77))] h
theorem G_law35_CertcheckGrows.j2 (Q : AV → AHeap → Prop) (x7 : AV) (x8 : AV) (x9 : AV) (x10 : Int) (x77 : Bool) (h : AHeap) : G_law35_CertcheckGrows.J Q 3 [(7, x7), (8, x8), (9, x9), (10, (AV.i .i64 x10)), (77, (AV.b x77))] h = G_law35_CertcheckGrows.p2 Q x7 x8 x9 x10 x77 h := rfl
def G_law35_CertcheckGrows.p1 (Q : AV → AHeap → Prop) (x7 : AV) (x8 : AV) (x9 : AV) (x10 : Int) (h : AHeap) : Prop := G_law35_CertcheckGrows.J Q 2 [(7, x7), (8, x8), (9, x9), (10, (AV.i .i64 x10))] h
theorem G_law35_CertcheckGrows.j1 (Q : AV → AHeap → Prop) (x7 : AV) (x8 : AV) (x9 : AV) (x10 : Int) (h : AHeap) : G_law35_CertcheckGrows.J Q 2 [(7, x7), (8, x8), (9, x9), (10, (AV.i .i64 x10))] h = G_law35_CertcheckGrows.p1 Q x7 x8 x9 x10 h := rfl
def G_law35_CertcheckGrows.t0 (J : JT) (Q : AV → AHeap → Prop) (x1 : AV) (x2 : List UInt8) (x3 : AV) (x20 : Bool) (h : AHeap) : Prop :=
(bif x20 then
(C G_law35_awake.id [] h fun v13 h14 =>
asB v13 fun c15 =>
Q (AV.b c15) h14)
else
(pFieldAddr 0 x3 fun v18 =>
pLoad1 v18 h fun v19 =>
pFieldAddr 1 x3 fun v20 =>
pLoad1 v20 h fun v21 =>
asS v21 fun l22 =>
pFieldAddr 2 x3 fun v23 =>
pLoad1 v23 h fun v24 =>
asI .i64 v24 fun n25 =>
pFieldAddr 3 x3 fun v26 =>
pLoad1 v26 h fun v27 =>
C G_certcheck_Check.id [v19, (AV.s l22), (AV.i .i64 n25), v27] h fun v28 h29 =>
pFieldAddr 0 x3 fun v31 =>
pLoad1 v31 h29 fun v32 =>
pFieldAddr 1 x3 fun v33 =>
pLoad1 v33 h29 fun v34 =>
asS v34 fun l35 =>
pFieldAddr 2 x3 fun v36 =>
pLoad1 v36 h29 fun v37 =>
asI .i64 v37 fun n38 =>
pFieldAddr 3 x3 fun v39 =>
pLoad1 v39 h29 fun v40 =>
pBuildSl 8 0 [] [] h29 fun v41 h42 =>
pLoad1 v39 h42 fun v43 =>
(v40 = v43 ∧
(pLoad1 v36 h42 fun v44 =>
asI .i64 v44 fun n45 =>
((AV.i .i64 n38) = (AV.i .i64 n45) ∧
(pLoad1 v33 h42 fun v46 =>
asS v46 fun l47 =>
((AV.s l35) = (AV.s l47) ∧
(pLoad1 v31 h42 fun v48 =>
(v32 = v48 ∧
(pAppend none 8 112 v41 v40 h42 fun v49 h50 =>
pLoad1 v36 h50 fun v51 =>
asI .i64 v51 fun n52 =>
((AV.i .i64 n38) = (AV.i .i64 n52) ∧
(pLoad1 v33 h50 fun v53 =>
asS v53 fun l54 =>
((AV.s l35) = (AV.s l54) ∧
(pLoad1 v31 h50 fun v55 =>
(v32 = v55 ∧
(pAppend none 8 112 v49 x1 h50 fun v56 h57 =>
pLoad1 v39 h57 fun v58 =>
(v40 = v58 ∧
(pLoad1 v36 h57 fun v59 =>
asI .i64 v59 fun n60 =>
((AV.i .i64 n38) = (AV.i .i64 n60) ∧
(pLoad1 v33 h57 fun v61 =>
asS v61 fun l62 =>
((AV.s l35) = (AV.s l62) ∧
(pLoad1 v31 h57 fun v63 =>
(v32 = v63 ∧
(C G_certcheck_Check.id [v32, (AV.s l35), (AV.i .i64 n38), v56] h57 fun v64 h65 =>
pLoad1 v39 h65 fun v66 =>
(v40 = v66 ∧
(pFieldAddr 0 x3 fun v68 =>
pLoad1 v68 h65 fun v69 =>
pFieldAddr 2 x3 fun v70 =>
pLoad1 v70 h65 fun v71 =>
asI .i64 v71 fun n72 =>
pFieldAddr 3 x3 fun v73 =>
pLoad1 v73 h65 fun v74 =>
C G_certcheck_Check.id [v69, (AV.s x2), (AV.i .i64 n72), v74] h65 fun v75 h76 =>
J 2 [(7, v28), (8, v64), (9, v75), (10, (AV.i .i64 1))] h76))))))))))))))))))))))))))
theorem G_law35_CertcheckGrows.t0_eq (J : JT) (Q : AV → AHeap → Prop) (x1 : AV) (x2 : List UInt8) (x3 : AV) (x20 : Bool) (h : AHeap) : G_law35_CertcheckGrows.t0 J Q x1 x2 x3 x20 h = atJ prog C 79 J false [1, 0, 1] G_law35_CertcheckGrows.ann G_law35_CertcheckGrows.body [(1, x1), (2, (AV.s x2)), (3, x3), (20, (AV.b x20))] h (kFun prog Tryz.f7 Q) := by kernel_rfl
theorem G_law35_CertcheckGrows.i0 {Q : AV → AHeap → Prop} {x1 : AV} {x2 : List UInt8} {x3 : AV} {x20 : Bool} {h : AHeap} (H : G_law35_CertcheckGrows.t0 (G_law35_CertcheckGrows.J Q) Q x1 x2 x3 x20 h) : G_law35_CertcheckGrows.p0 Q x1 x2 x3 x20 h := G_law35_CertcheckGrows.goR (k := 1) (p := [1, 0, 1]) (by kernel_rfl) ((G_law35_CertcheckGrows.t0_eq (G_law35_CertcheckGrows.J Q) Q x1 x2 x3 x20 h).mp H)
def G_law35_CertcheckGrows.t2 (J : JT) (Q : AV → AHeap → Prop) (x7 : AV) (x8 : AV) (x9 : AV) (x10 : Int) (x77 : Bool) (h : AHeap) : Prop :=
(bif x77 then
(Q (AV.b false) h)
else
(withI (IntKind.wrap .i64 (x10 + 1)) fun n107 =>
J 2 [(7, x7), (8, x8), (9, x9), (10, (AV.i .i64 n107))] h))
theorem G_law35_CertcheckGrows.t2_eq (J : JT) (Q : AV → AHeap → Prop) (x7 : AV) (x8 : AV) (x9 : AV) (x10 : Int) (x77 : Bool) (h : AHeap) : G_law35_CertcheckGrows.t2 J Q x7 x8 x9 x10 x77 h = atJ prog C 79 J false [1, 1, 1, 1, 1, 0, 1, 0, 0, 1, 0, 0, 1] G_law35_CertcheckGrows.ann G_law35_CertcheckGrows.body [(7, x7), (8, x8), (9, x9), (10, (AV.i .i64 x10)), (77, (AV.b x77))] h (kFun prog Tryz.f7 Q) := by kernel_rfl
theorem G_law35_CertcheckGrows.i2 {Q : AV → AHeap → Prop} {x7 : AV} {x8 : AV} {x9 : AV} {x10 : Int} {x77 : Bool} {h : AHeap} (H : G_law35_CertcheckGrows.t2 (G_law35_CertcheckGrows.J Q) Q x7 x8 x9 x10 x77 h) : G_law35_CertcheckGrows.p2 Q x7 x8 x9 x10 x77 h := G_law35_CertcheckGrows.goR (k := 3) (p := [1, 1, 1, 1, 1, 0, 1, 0, 0, 1, 0, 0, 1]) (by kernel_rfl) ((G_law35_CertcheckGrows.t2_eq (G_law35_CertcheckGrows.J Q) Q x7 x8 x9 x10 x77 h).mp H)
def G_law35_CertcheckGrows.t1 (J : JT) (Q : AV → AHeap → Prop) (x7 : AV) (x8 : AV) (x9 : AV) (x10 : Int) (h : AHeap) : Prop :=
(bif (decide ((x10 : Int) ≤ 7)) then
(C G_law35_has.id [x8, (AV.i .i64 x10)] h fun v82 h83 =>
asB v82 fun c84 =>
(bif c84 then
(C G_law35_has.id [x7, (AV.i .i64 x10)] h83 fun v85 h86 =>
asB v85 fun c87 =>
(bif (!c87) then
(J 3 [(7, x7), (8, x8), (9, x9), (10, (AV.i .i64 x10)), (77, (AV.b true))] h86)
else
((bif (!decide ((x10 : Int) = 3)) then
(C G_law35_has.id [x7, (AV.i .i64 x10)] h86 fun v89 h90 =>
asB v89 fun c91 =>
C G_law35_has.id [x9, (AV.i .i64 x10)] h90 fun v92 h93 =>
asB v92 fun c94 =>
J 3 [(7, x7), (8, x8), (9, x9), (10, (AV.i .i64 x10)), (77, (AV.b (!(c91 == c94))))] h93)
else
(J 3 [(7, x7), (8, x8), (9, x9), (10, (AV.i .i64 x10)), (77, (AV.b false))] h86)))))
else
((bif (!decide ((x10 : Int) = 3)) then
(C G_law35_has.id [x7, (AV.i .i64 x10)] h83 fun v97 h98 =>
asB v97 fun c99 =>
C G_law35_has.id [x9, (AV.i .i64 x10)] h98 fun v100 h101 =>
asB v100 fun c102 =>
J 3 [(7, x7), (8, x8), (9, x9), (10, (AV.i .i64 x10)), (77, (AV.b (!(c99 == c102))))] h101)
else
(J 3 [(7, x7), (8, x8), (9, x9), (10, (AV.i .i64 x10)), (77, (AV.b false))] h83)))))
else
(C G_law35_awake.id [] h fun v109 h110 =>
asB v109 fun c111 =>
Q (AV.b c111) h110))
theorem G_law35_CertcheckGrows.t1_eq (J : JT) (Q : AV → AHeap → Prop) (x7 : AV) (x8 : AV) (x9 : AV) (x10 : Int) (h : AHeap) : G_law35_CertcheckGrows.t1 J Q x7 x8 x9 x10 h = atJ prog C 79 J true [1, 1, 1, 1, 1, 0, 1, 0] G_law35_CertcheckGrows.ann G_law35_CertcheckGrows.body [(7, x7), (8, x8), (9, x9), (10, (AV.i .i64 x10))] h (kFun prog Tryz.f7 Q) := by kernel_rfl
theorem G_law35_CertcheckGrows.i1 {Q : AV → AHeap → Prop} {x7 : AV} {x8 : AV} {x9 : AV} {x10 : Int} {h : AHeap} (H : G_law35_CertcheckGrows.t1 (G_law35_CertcheckGrows.J Q) Q x7 x8 x9 x10 h) : G_law35_CertcheckGrows.p1 Q x7 x8 x9 x10 h := G_law35_CertcheckGrows.goH (k := 2) (p := [1, 1, 1, 1, 1, 0, 1, 0]) (by kernel_rfl) ((G_law35_CertcheckGrows.t1_eq (G_law35_CertcheckGrows.J Q) Q x7 x8 x9 x10 h).mp H)
def G_law35_CertcheckGrows.t (J : JT) (Q : AV → AHeap → Prop) (x0 : AV) (x1 : AV) (x2 : List UInt8) (h : AHeap) : Prop :=
pBox (some 26) x0 h fun v0 h1 =>
pFieldAddr 0 v0 fun v3 =>
pLoad1 v3 h1 fun v4 =>
pFieldAddr 3 v0 fun v5 =>
pLoad1 v5 h1 fun v6 =>
C G_law35_large.id [v4, v6] h1 fun v7 h8 =>
asB v7 fun c9 =>
(bif c9 then
(J 1 [(1, x1), (2, (AV.s x2)), (3, v0), (20, (AV.b true))] h8)
else
(pLenSl x1 fun n11 =>
J 1 [(1, x1), (2, (AV.s x2)), (3, v0), (20, (AV.b (decide ((30 : Int) < n11))))] h8))
theorem G_law35_CertcheckGrows.t_eq (J : JT) (Q : AV → AHeap → Prop) (x0 : AV) (x1 : AV) (x2 : List UInt8) (h : AHeap) : G_law35_CertcheckGrows.t J Q x0 x1 x2 h = exJ prog C 79 J G_law35_CertcheckGrows.ann G_law35_CertcheckGrows.body (initEnv 0 [x0, x1, (AV.s x2)]) h (kFun prog Tryz.f7 Q) := by kernel_rfl
theorem G_law35_CertcheckGrows.call {K : AV → AHeap → Prop} {x0 : AV} {x1 : AV} {x2 : List UInt8} {h : AHeap} (H : G_law35_CertcheckGrows.t (G_law35_CertcheckGrows.J (kRet h K)) (kRet h K) x0 x1 x2 h) : C G_law35_CertcheckGrows.id [x0, x1, (AV.s x2)] h K :=
  callJ (P := prog) (fn := Tryz.f7) (ann := G_law35_CertcheckGrows.ann) (body := G_law35_CertcheckGrows.body) Tryz.func7 G_law35_CertcheckGrows.body_eq (by kernel_rfl) G_law35_CertcheckGrows.dist (by kernel_rfl) ((G_law35_CertcheckGrows.t_eq (G_law35_CertcheckGrows.J (kRet h K)) (kRet h K) x0 x1 x2 h).mp H)


end Go.Proofs.YtomghnmoomodiaaGreatDoor

/- CertcheckGrows. -/
set_option linter.unusedVariables false
set_option linter.unusedSimpArgs false
set_option linter.unusedSectionVars false
set_option maxRecDepth 20000
namespace Go.Proofs.YtomghnmoomodiaaGreatDoor
open Go.GAM Go.RowKit Go.ChangeShapes

theorem grows_p1 {va vb vc : AV} {la lb lc : List Nat} {h h0 : AHeap} (A : Rd 1 h va (la.map num) la.length) (B : Rd 1 h vb (lb.map num) lb.length) (D : Rd 1 h vc (lc.map num) lc.length) (ha : la.length ≤ 1000) (hb : lb.length ≤ 1000) (hc : lc.length ≤ 1000)
    (h1 : ∀ n, 1 ≤ n → n ≤ 7 → lb.contains n = true → la.contains n = true) (h2 : ∀ n, 1 ≤ n → n ≤ 7 → n ≠ 3 → la.contains n = lc.contains n) : ∀ (k n : Nat), n + k = 8 → 1 ≤ n → G_law35_CertcheckGrows.p1 (kRet h0 Yes) va vb vc n h := by
  intro k
  induction k with
  | zero =>
    intro n hn hn1
    refine G_law35_CertcheckGrows.i1 ?_
    simp only [G_law35_CertcheckGrows.t1]
    exact bif_f (by simp; omega) (awake_c fun h' _ => st_asB kRet_yes)
  | succ k ih =>
    intro n hn hn1
    have nxt : G_law35_CertcheckGrows.p2 (kRet h0 Yes) va vb vc n false h := by
      refine G_law35_CertcheckGrows.i2 ?_
      simp only [G_law35_CertcheckGrows.t2, G_law35_CertcheckGrows.j1]
      exact bif_f rfl (inc (by omega) (ih (n + 1) (by omega) (by omega)))
    have rest : (bif (!decide ((n : Int) = 3)) then (C G_law35_has.id [va, (AV.i .i64 n)] h fun v97 h98 => asB v97 fun c99 => C G_law35_has.id [vc, (AV.i .i64 n)] h98 fun v100 h101 => asB v100 fun c102 => G_law35_CertcheckGrows.p2 (kRet h0 Yes) va vb vc n (!(c99 == c102)) h101) else (G_law35_CertcheckGrows.p2 (kRet h0 Yes) va vb vc n false h)) := by
      refine bif_both (fun e => ?_) fun e => nxt
      have e : n ≠ 3 := by intro h; subst h; simp at e
      refine lhas_c A ha (st_asB (lhas_c D hc (st_asB ?_)))
      rw [h2 n hn1 (by omega) e]
      simpa using nxt
    refine G_law35_CertcheckGrows.i1 ?_
    simp only [G_law35_CertcheckGrows.t1, G_law35_CertcheckGrows.j2]
    refine bif_t (by simp; omega) (lhas_c B hb (st_asB (bif_both (fun e => ?_) fun e => rest)))
    refine lhas_c A ha (st_asB (bif_f ?_ rest))
    rw [h1 n hn1 (by omega) e]; rfl

theorem grows_c {q : Que} {more : List Cert} {y : List UInt8} {vm : AV} {cs : List AV} {h : AHeap} (G : CG h) (V : QV h q cs) (M : CL h vm more) (hw : wfQR q) (hm : ∀ c ∈ more, wfR c) (hy : y.length ≤ 140737488351232) : C G_law35_CertcheckGrows.id [.ag cs, vm, .s y] h Yes := by
  obtain ⟨vc, vt, rfl, L, LT⟩ := V
  obtain ⟨ac, nc, kc, rfl⟩ : ∃ a n c, vc = .sl a n c := by obtain ⟨_, R, _⟩ := L; exact R.isSl
  obtain ⟨at_, nt, kt, rfl⟩ : ∃ a n c, vt = .sl a n c := by obtain ⟨_, R, _⟩ := LT; exact R.isSl
  obtain ⟨am, nm, km, rfl⟩ : ∃ a n c, vm = .sl a n c := by obtain ⟨_, R, _⟩ := M; exact R.isSl
  refine G_law35_CertcheckGrows.call ?_
  simp only [G_law35_CertcheckGrows.t, G_law35_CertcheckGrows.j0]
  refine st_box rfl fun h1 hl1 U1 R => ?_
  have L := L.ext U1
  have LT := LT.ext U1
  have M := M.ext U1
  have G := G.ext U1
  have big : G_law35_CertcheckGrows.p0 (kRet h Yes) (.sl am nm km) y (.p (some ⟨h.length, 4, 0⟩)) true h1 := by
    refine G_law35_CertcheckGrows.i0 ?_
    simp only [G_law35_CertcheckGrows.t0]
    exact bif_t rfl (awake_c fun h' _ => st_asB kRet_yes)
  refine st_fld (st_load R rfl rfl (st_fld (st_load R rfl rfl (large_c L LT (st_asB ?_)))))
  refine bif_both (fun e => big) fun e => ?_
  simp only [Bool.or_eq_false_iff, decide_eq_false_iff_not] at e
  refine M.len ?_
  by_cases hml : 30 < more.length
  · rw [decide_eq_true (show (30 : Int) < (more.length : Int) by omega)]; exact big
  rw [decide_eq_false (show ¬ (30 : Int) < (more.length : Int) by omega)]
  refine G_law35_CertcheckGrows.i0 ?_
  simp only [G_law35_CertcheckGrows.t0, G_law35_CertcheckGrows.j1]
  refine bif_f rfl (st_fld (st_load R rfl rfl (st_fld (st_load R rfl rfl (st_asS (st_fld (st_load R rfl rfl (st_asI (st_fld (st_load R rfl rfl ?_))))))))))
  refine checkQ_c G L LT hw.q (by omega) (by omega) fun wa h2 U2 A => ?_
  have R2 := R.upd U2 fun h => h
  refine st_fld (st_load R2 rfl rfl (st_fld (st_load R2 rfl rfl (st_asS (st_fld (st_load R2 rfl rfl (st_asI (st_fld (st_load R2 rfl rfl ?_)))))))))
  refine NewA.empty (Upd.refl _ _) fun v3 h3 N3 U3 => ?_
  have R3 := R2.upd U3 fun h => h
  refine st_load R3 rfl rfl ⟨rfl, st_load R3 rfl rfl (st_asI ⟨rfl, st_load R3 rfl rfl (st_asS ⟨rfl, st_load R3 rfl rfl ⟨rfl, ?_⟩⟩)⟩)⟩
  have LT2 := LT.ext U2
  obtain ⟨rt, T1, T2⟩ := LT2
  obtain ⟨ct1, ct2, ct3⟩ := CVs.cells T2
  refine N3.append (ns := rt.flatten) (k := q.tr.length) (by decide) (fun K hK => (T1.ext N3.upd).news hK) ct2 ct1 (by omega) (by omega) fun v4 h4 N4 _ => ?_
  have R4 := R2.upd N4.upd fun h => h
  refine st_load R4 rfl rfl (st_asI ⟨rfl, st_load R4 rfl rfl (st_asS ⟨rfl, st_load R4 rfl rfl ⟨rfl, ?_⟩⟩)⟩)
  have M2 := M.ext U2
  obtain ⟨rm, M1, M2⟩ := M2
  obtain ⟨cm1, cm2, cm3⟩ := CVs.cells M2
  refine N4.append (ns := rm.flatten) (k := more.length) (by decide) (fun K hK => (M1.ext N4.upd).news hK) cm2 cm1 (by omega) (by omega) fun v5 h5 N5 _ => ?_
  have R5 := R2.upd N5.upd fun h => h
  refine st_load R5 rfl rfl ⟨rfl, st_load R5 rfl rfl (st_asI ⟨rfl, st_load R5 rfl rfl (st_asS ⟨rfl, st_load R5 rfl rfl ⟨rfl, ?_⟩⟩)⟩)⟩
  have U15 : Upd (fun _ => False) h1 h5 := U2.trans N5.upd fun _ _ h => h
  have LJ : CL h5 v5 (q.tr ++ more) := by
    refine ⟨rt ++ rm, ?_, CVs.app (T2.ext N5.upd) (M2.ext N5.upd)⟩
    have := N5.arr.rd.i
    rw [List.nil_append] at this
    rw [List.flatten_append, List.length_append]
    simpa using this
  have hmx := maxLen_is
  have hw' := hw.q
  refine check_c (cm := commonS) (L.ext U15) LJ (by omega) (by rw [List.length_append]; omega) (fun c hc => wf_short (hw'.1 c hc)) (by have := hw.2.2; omega) (fun c hc _ => commonAt (G.ext U15) (by have := (hw'.1 c (List.mem_of_getElem? hc)).2.2.1; omega)) fun wb h6 U6 B => ?_
  have R6 := R5.upd U6 fun h => h
  refine st_load R6 rfl rfl ⟨rfl, ?_⟩
  refine st_fld (st_load R6 rfl rfl (st_fld (st_load R6 rfl rfl (st_asI (st_fld (st_load R6 rfl rfl ?_))))))
  have U16 : Upd (fun _ => False) h1 h6 := U15.trans U6 fun _ _ h => h
  refine check_c (cm := commonS) (L.ext U16) (LT.ext U16) (by omega) (by omega) (fun c hc => wf_short (hw'.1 c hc)) (by omega) (fun c hc _ => commonAt (G.ext U16) (by have := (hw'.1 c (List.mem_of_getElem? hc)).2.2.1; omega)) fun wc h7 U7 D => ?_
  have A7 := ((A.upd N5.upd fun _ _ h => h).upd U6 fun _ _ h => h).upd U7 fun _ _ h => h
  have B7 := B.upd U7 fun _ _ h => h
  exact grows_p1 A7 B7 D (by have := check_len (cm := commonS) (tr := q.tr) (x := q.host) (at' := q.at') (ch := q.ch); omega) (by have := check_len (cm := commonS) (tr := q.tr ++ more) (x := q.host) (at' := q.at') (ch := q.ch); omega) (by have := check_len (cm := commonS) (tr := q.tr) (x := y) (at' := q.at') (ch := q.ch); omega)
    (fun n h1 h7 => check_grow more h1 h7) (fun n h1 h7 h3 => check_host y h1 h7 h3) 7 1 rfl (Nat.le_refl _)

theorem walk_CertcheckGrows {H : Type} {enc : TypeId × Value → H} {v0 : Value} {a1 : Option Addr} {n1 c1 : Nat} {s2 : ByteArray} (W : World) (hL : laidMet Tryz.prog Rows.certcheckGrowsRow.laid W) (r0 : InW enc Tryz.prog W 26 v0.cells.toList) (r1 : InW enc Tryz.prog W 24 (Value.slice a1 n1 c1).cells.toList) (r2 : InW enc Tryz.prog W 9 (Value.string s2).cells.toList) :
    Calls Tryz.prog G_law35_CertcheckGrows.id #[v0, .slice a1 n1 c1, .string s2] W fun e w' => e = .returned (.bool true) ∧ Below W.heap.size W w' := by
  obtain ⟨cs, q, hv, hq, hw⟩ := queR r0
  obtain ⟨u1, l, e1, hl, hlw, hlv⟩ := certsR r1
  obtain ⟨s, e2, hs⟩ := r2.str Tryz.underlying9
  have g1 : Value.slice a1 n1 c1 = u1 := List.singleton_inj.1 e1
  have g2 : Value.string s2 = .string s := List.singleton_inj.1 e2
  cases g2
  subst g1
  exact law_callsAt mixedOK sizeOK (soundX (tab_ok (l := Rows.certcheckGrowsRow.laid) (List.mem_of_getElem? (i := 2) rfl) hL)) (by kernel_rfl) (szOf := fun _ => 1) (.cons _ _ _ _ hv (.cons _ _ _ _ hlv (.cons _ _ _ _ (.s _ _ rfl) .nil)))
    (grows_c (cg_of (l := Rows.certcheckGrowsRow.laid) (List.mem_of_getElem? (i := 5) rfl) (List.mem_of_getElem? (i := 4) rfl) (List.mem_of_getElem? (i := 6) rfl) hL) hq hl hw hlw hs)

end Go.Proofs.YtomghnmoomodiaaGreatDoor

