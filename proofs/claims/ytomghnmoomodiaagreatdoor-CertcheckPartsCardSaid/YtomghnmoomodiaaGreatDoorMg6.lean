/- Lemmas (several texts in one). -/
import Derived.Test.YtomghnmoomodiaaGreatDoorRows
import Derived.Test.YtomghnmoomodiaaGreatDoorMg5
/- The reference of names: Attributes. -/
set_option linter.unusedVariables false
set_option linter.unusedSimpArgs false
set_option linter.unusedSectionVars false
set_option maxRecDepth 20000
namespace Go.Proofs.YtomghnmoomodiaaGreatDoor
open Go.GAM Go.RowKit

theorem scanV_bad {c : UInt8} (X : List UInt8) (h : c ≠ 44) (hb : badC c = true) : scanV (c :: X) = none := by
  cases X with
  | nil => unfold scanV; rw [if_neg h, if_pos (.inl hb)]
  | cons d r => rw [scanV, if_neg h, if_pos hb]
theorem scanV_escBad {d : UInt8} (X : List UInt8) (h : d ∉ sps) : scanV (92 :: d :: X) = none := by
  rw [scanV, if_neg (by decide), if_neg (by decide), if_pos rfl, if_neg h]
theorem byte_eq {c : UInt8} {n : Nat} (hn : n < 256) : decide ((c.toNat : Int) = (n : Int)) = decide (c = UInt8.ofNat n) := by
  rw [decide_eq_decide]
  constructor
  · intro h
    have : c.toNat = n := by omega
    rw [← this]; simp
  · rintro rfl
    simp; omega
theorem prs_app (a b : List Att) : prs (a ++ b) = prs a ++ prs b := by unfold prs; rw [List.flatMap_append]

section
variable {h0 : AHeap} {Q : AV → AHeap → Prop} {s : List UInt8} {x4 : AV} {done : List Att} {t : List UInt8} {h : AHeap}

theorem at_p8 {j : Nat} {v r : List UInt8} {c : UInt8} (hs : s.length ≤ 512) (hj : s.drop j = c :: r) (hv : v.length ≤ 512) (hk : G_ref34_Attributes.p4 Q s x4 (j + 1 : Nat) t (v ++ [c]) h) : G_ref34_Attributes.p8 Q s x4 j t v h := by
  have hlt := drop_lt hj
  refine G_ref34_Attributes.i8 ?_
  simp only [G_ref34_Attributes.t8, G_ref34_Attributes.j4]
  refine inc (by omega) (st_subs2 (lo := j) (hi := j + 1) (by omega) (by omega) ?_)
  have e : (s.take (j + 1)).drop j = [c] := by
    rw [take_snoc (at_of_drop hj), List.drop_left' (by rw [List.length_take]; omega)]
  rw [e]
  refine ⟨by simp; omega, ?_⟩
  exact inc (by omega) hk

theorem at_p4 (hs : s.length ≤ 512) : ∀ (k : Nat) (r : List UInt8) (j : Nat) (v : List UInt8), r.length ≤ k → s.drop j = r → j ≤ s.length → v.length ≤ j →
    (scanV r = none → Q (.tu [.sl none 0 none, .b false]) h) → (∀ v' r', scanV r = some (v', r') → r' = s.drop (s.length - r'.length) → G_ref34_Attributes.p5 Q s x4 (s.length - r'.length : Nat) t (v ++ v') false h) → G_ref34_Attributes.p4 Q s x4 j t v h := by
  intro k
  induction k with
  | zero =>
    intro r j v hr hd hj hv hf hk
    have : r = [] := List.eq_nil_of_length_eq_zero (by omega)
    subst this
    have hlen := drop_end hd
    obtain rfl : j = s.length := by omega
    refine G_ref34_Attributes.i4 ?_
    simp only [G_ref34_Attributes.t4, G_ref34_Attributes.j5]
    have := hk [] [] rfl (by simp)
    rw [List.append_nil] at this
    exact bif_f (by simp) this
  | succ k ih =>
    intro r j v hr hd hj hv hf hk
    cases r with
    | nil =>
      have hlen := drop_end hd
      obtain rfl : j = s.length := by omega
      refine G_ref34_Attributes.i4 ?_
      simp only [G_ref34_Attributes.t4, G_ref34_Attributes.j5]
      have := hk [] [] rfl (by simp)
      rw [List.append_nil] at this
      exact bif_f (by simp) this
    | cons c r =>
      have hlt := drop_lt hd
      have hn := drop_next hd
      have hlr : r.length = s.length - (j + 1) := by rw [← hn, List.length_drop]
      refine G_ref34_Attributes.i4 ?_
      simp only [G_ref34_Attributes.t4, G_ref34_Attributes.j5]
      refine bif_t (by simp; omega) (st_at hd ?_)
      rw [show ((44 : Int)) = ((44 : Nat) : Int) from rfl, byte_eq (by omega)]
      by_cases h44 : c = 44
      · subst h44
        have e1 : scanV (44 :: r) = some ([], 44 :: r) := by cases r <;> rfl
        have := hk [] (44 :: r) e1 (by rw [List.length_cons, hlr, show s.length - (s.length - (j + 1) + 1) = j by omega, hd])
        rw [List.append_nil, List.length_cons, hlr, show s.length - (s.length - (j + 1) + 1) = j by omega] at this
        exact this
      · rw [decide_eq_false (show ¬ c = UInt8.ofNat 44 from h44)]
        show G_ref34_Attributes.p5 Q s x4 j t v true h
        have bad : badC c = true → G_ref34_Attributes.p6 Q s x4 j t v c.toNat true h := fun hb => by
          refine G_ref34_Attributes.i6 ?_
          simp only [G_ref34_Attributes.t6]
          exact bif_t rfl (hf (scanV_bad r h44 hb))
        refine G_ref34_Attributes.i5 ?_
        simp only [G_ref34_Attributes.t5, G_ref34_Attributes.j6]
        refine bif_t rfl (st_at hd ?_)
        rw [show ((61 : Int)) = ((61 : Nat) : Int) from rfl, byte_eq (by omega)]
        refine bif_both (fun e => bad (by unfold badC; rw [show decide (c = 61) = true from e]; rfl)) fun e61 => bif_both (fun e => bad ?_) fun e32 => ?_
        · have e := of_decide_eq_true e
          unfold badC textB
          rw [decide_eq_false (show ¬ 32 ≤ c.toNat by omega)]; simp
        · have e32 := of_decide_eq_false e32
          by_cases h126 : 126 < c.toNat
          · rw [decide_eq_true (show (126 : Int) < (c.toNat : Int) by omega)]
            refine bad ?_
            unfold badC textB
            rw [decide_eq_false (show ¬ c.toNat ≤ 126 by omega)]; simp
          · rw [decide_eq_false (show ¬ (126 : Int) < (c.toNat : Int) by omega)]
            have ht : textB c = true := by
              unfold textB
              rw [decide_eq_true (show 32 ≤ c.toNat by omega), decide_eq_true (show c.toNat ≤ 126 by omega)]; rfl
            have h61 : c ≠ 61 := of_decide_eq_false e61
            refine G_ref34_Attributes.i6 ?_
            simp only [G_ref34_Attributes.t6, G_ref34_Attributes.j7, G_ref34_Attributes.j8]
            refine bif_f rfl ?_
            rw [show ((92 : Int)) = ((92 : Nat) : Int) from rfl, byte_eq (by omega)]
            refine bif_both (fun e => ?_) fun e => ?_
            · have e : c = 92 := of_decide_eq_true e
              subst e
              have fail : scanV (92 :: r) = none → G_ref34_Attributes.p7 Q s x4 (j + 1 : Nat) t v true h := fun hb => by
                refine G_ref34_Attributes.i7 ?_
                simp only [G_ref34_Attributes.t7]
                exact bif_t rfl (hf hb)
              refine inc (by omega) (bif_both (fun e => fail ?_) fun e => ?_)
              · have e := of_decide_eq_true e
                have : r = [] := List.eq_nil_of_length_eq_zero (by omega)
                subst this; rfl
              · have e := of_decide_eq_false e
                cases r with
                | nil => simp at hlr; omega
                | cons d r =>
                  have hn2 := drop_next hn
                  have good : d ∈ sps → G_ref34_Attributes.p7 Q s x4 (j + 1 : Nat) t v false h := fun hd2 => by
                    refine G_ref34_Attributes.i7 ?_
                    simp only [G_ref34_Attributes.t7, G_ref34_Attributes.j8]
                    refine bif_f rfl (at_p8 hs hn (by omega) ?_)
                    refine ih r (j + 2) (v ++ [d]) (by simp at hr; omega) hn2 (by omega) (by simp; omega) (fun hx => hf ?_) fun v' r' hx hr' => ?_
                    · rw [scanV_esc d r hd2, hx]; rfl
                    · have := hk (d :: v') r' (by rw [scanV_esc d r hd2, hx]; rfl) hr'
                      rw [List.append_assoc]; exact this
                  have badE : d ∉ sps → G_ref34_Attributes.p7 Q s x4 (j + 1 : Nat) t v true h := fun hd2 => fail (scanV_escBad r hd2)
                  refine st_at hn ?_
                  rw [show ((44 : Int)) = ((44 : Nat) : Int) from rfl, byte_eq (by omega)]
                  refine bif_both (fun e1 => ?_) fun e1 => ?_
                  · refine st_at hn ?_
                    rw [show ((61 : Int)) = ((61 : Nat) : Int) from rfl, byte_eq (by omega)]
                    refine bif_both (fun e2 => ?_) fun e2 => ?_
                    · refine st_at hn ?_
                      rw [byte_eq (by omega)]
                      have e1 : d ≠ 44 := by simpa using e1
                      have e2 : d ≠ 61 := by simpa using e2
                      by_cases h92 : d = 92
                      · rw [decide_eq_true (show d = UInt8.ofNat 92 from h92)]
                        exact good (sps_mem.2 (.inl h92))
                      · rw [decide_eq_false (show ¬ d = UInt8.ofNat 92 from h92)]
                        refine badE fun h => ?_
                        rcases sps_mem.1 h with h | h | h
                        · exact h92 h
                        · exact e1 h
                        · exact e2 h
                    · have e2 : d = 61 := by simpa using e2
                      exact good (sps_mem.2 (.inr (.inr e2)))
                  · have e1 : d = 44 := by simpa using e1
                    exact good (sps_mem.2 (.inr (.inl e1)))
            · have e : c ≠ 92 := of_decide_eq_false e
              have hns : c ∉ sps := fun h => by
                rcases sps_mem.1 h with h | h | h
                · exact e h
                · exact h44 h
                · exact h61 h
              refine at_p8 hs hd (by omega) (ih r (j + 1) (v ++ [c]) (by simp at hr; omega) hn (by omega) (by simp; omega) (fun hx => hf ?_) fun v' r' hx hr' => ?_)
              · rw [scanV_good c r hns ht, hx]; rfl
              · have := hk (c :: v') r' (by rw [scanV_good c r hns ht, hx]; rfl) hr'
                rw [List.append_assoc]; exact this

theorem at_p1 {a : Nat} (hs : s.length ≤ 512) : ∀ (r : List UInt8) (e : Nat), s.drop e = r → e ≤ s.length → G_ref34_Attributes.p2 Q s x4 a (e + (r.takeWhile (· ≠ 61)).length : Nat) false h → G_ref34_Attributes.p1 Q s x4 a e h := by
  intro r
  induction r with
  | nil =>
    intro e hr he hk
    have := drop_end hr
    refine G_ref34_Attributes.i1 ?_
    simp only [G_ref34_Attributes.t1, G_ref34_Attributes.j2]
    exact bif_f (by simp; omega) hk
  | cons c r ih =>
    intro e hr he hk
    have hlt := drop_lt hr
    refine G_ref34_Attributes.i1 ?_
    simp only [G_ref34_Attributes.t1, G_ref34_Attributes.j2]
    refine bif_t (by simp; omega) (st_at hr ?_)
    rw [show ((61 : Int)) = ((61 : Nat) : Int) from rfl, byte_eq (by omega)]
    by_cases h61 : c = 61
    · rw [decide_eq_true (show c = UInt8.ofNat 61 from h61)]
      rw [List.takeWhile_cons_of_neg (by simpa using h61)] at hk
      exact hk
    · rw [decide_eq_false (show ¬ c = UInt8.ofNat 61 from h61)]
      rw [List.takeWhile_cons_of_pos (by simpa using h61)] at hk
      refine G_ref34_Attributes.i2 ?_
      simp only [G_ref34_Attributes.t2, G_ref34_Attributes.j1]
      refine bif_t rfl (inc (by omega) (ih (e + 1) (drop_next hr) (by omega) ?_))
      rw [List.length_cons] at hk
      rw [show e + 1 + (r.takeWhile (· ≠ 61)).length = e + ((r.takeWhile (· ≠ 61)).length + 1) by omega]
      exact hk

theorem at_p0 (hs : s.length ≤ 512) : ∀ (n a : Nat) (done : List Att) (x4 : AV) (h : AHeap), s.length - a < n → a ≤ s.length → done.length ≤ a → NewA 2 h0 h x4 (prs done) done.length →
    (∀ l, scanA n (s.drop a) = some l → ∀ w h', Upd (fun _ => False) h0 h' → RdI 2 h' w (prs (done ++ l)) (done ++ l).length → Q (.tu [w, .b true]) h') →
    (scanA n (s.drop a) = none → ∀ h', Upd (fun _ => False) h0 h' → Q (.tu [.sl none 0 none, .b false]) h') → G_ref34_Attributes.p0 Q s x4 a h := by
  intro n
  induction n with
  | zero => intro a done x4 h hn; omega
  | succ n ih =>
    intro a done x4 h hn ha hdl A hok hf
    refine G_ref34_Attributes.i0 ?_
    simp only [G_ref34_Attributes.t0, G_ref34_Attributes.j1]
    refine at_p1 hs (s.drop a) a rfl ha ?_
    have hTR : (s.drop a).takeWhile (· ≠ 61) ++ (s.drop a).dropWhile (· ≠ 61) = s.drop a := List.takeWhile_append_dropWhile
    unfold scanA at hok hf
    generalize hT : (s.drop a).takeWhile (· ≠ 61) = T at *
    generalize hR : (s.drop a).dropWhile (· ≠ 61) = R at *
    have hR2 : R = s.drop (a + T.length) := by
      rw [← List.drop_drop, ← hTR]; simp
    have hTl : a + T.length ≤ s.length := by
      have := congrArg List.length hTR
      simp at this; omega
    have hT2 : (s.take (a + T.length)).drop a = T := by
      rw [List.drop_take, show a + T.length - a = T.length by omega, ← hTR]; simp
    have fail : (attB T = false ∨ R = []) → ∀ x6 : Int, G_ref34_Attributes.p3 Q s x4 x6 T true h := fun hb x6 => by
      refine G_ref34_Attributes.i3 ?_
      simp only [G_ref34_Attributes.t3]
      rw [if_pos hb] at hf
      exact bif_t rfl (hf rfl h A.upd)
    refine G_ref34_Attributes.i2 ?_
    simp only [G_ref34_Attributes.t2, G_ref34_Attributes.j3]
    refine bif_f rfl (st_subs2 (lo := a) (hi := a + T.length) (by omega) hTl ?_)
    rw [hT2]
    refine ident_c fun o => st_ext0 (st_asS (st_ext1 (st_asB ?_)))
    cases hb : attB T with
    | false => exact fail (.inl hb) _
    | true =>
      show G_ref34_Attributes.p3 Q s x4 (a + T.length : Nat) T (decide ((s.length : Int) ≤ ((a + T.length : Nat) : Int))) h
      by_cases hend : s.length ≤ a + T.length
      · rw [decide_eq_true (show (s.length : Int) ≤ ((a + T.length : Nat) : Int) by omega)]
        exact fail (.inr (by rw [hR2, List.drop_of_length_le hend])) _
      · rw [decide_eq_false (show ¬ (s.length : Int) ≤ ((a + T.length : Nat) : Int) by omega)]
        have hRne : R ≠ [] := fun h => by
          rw [hR2] at h
          have := drop_end h
          omega
        rw [if_neg (by rw [hb]; simp [hRne]), hR2, List.drop_drop] at hok hf
        refine G_ref34_Attributes.i3 ?_
        simp only [G_ref34_Attributes.t3, G_ref34_Attributes.j4]
        refine bif_f rfl (inc (by omega) (at_p4 hs (s.length + 1) (s.drop (a + T.length + 1)) (a + T.length + 1) [] (by simp; omega) rfl (by omega) (by simp) (fun hx => ?_) fun v' r' hx hr' => ?_))
        · rw [hx] at hf
          exact hf rfl h A.upd
        · have hd1 : done.length + 1 ≤ 1000 := by omega
          refine G_ref34_Attributes.i5 ?_
          simp only [G_ref34_Attributes.t5, G_ref34_Attributes.j0]
          refine bif_f rfl (A.build (ns := [.s T, .s ([] ++ v')]) (n := 1) (by omega) rfl rfl rfl (by omega) (by omega) fun w h' A' => ?_)
          have A' : NewA 2 h0 h' w (prs (done ++ [(T, v')])) (done ++ [(T, v')]).length := by
            rw [prs_app, List.length_append]; exact A'
          rw [hx] at hok hf
          have hl' := scanV_is _ _ _ hx
          have hrl : r'.length ≤ s.length - (a + T.length + 1) := by
            have := congrArg List.length hl'.1
            simp at this; omega
          cases r' with
          | nil =>
            refine bif_t (by simp) ?_
            exact hok _ rfl w h' A'.upd A'.arr.rd.i
          | cons c r =>
            refine bif_f (by simp at hrl ⊢; omega) ?_
            have hpos : s.length - (c :: r).length + 1 = s.length - r.length := by simp at hrl ⊢; omega
            refine inc (by simp; omega) ?_
            have hdrop : s.drop (s.length - (c :: r).length + 1) = r := drop_next hr'.symm
            refine ih _ (done ++ [(T, v')]) w h' (by simp at hrl ⊢; omega) (by simp at hrl ⊢; omega) (by simp at hrl ⊢; omega) A' (fun l hl w2 h2 U2 R2 => ?_) fun hl h2 U2 => ?_
            · rw [hdrop] at hl
              refine hok ((T, v') :: l) ?_ w2 h2 U2 (by rw [List.append_assoc] at R2; exact R2)
              show (scanA n r).map ((T, v') :: ·) = _
              rw [hl]; rfl
            · rw [hdrop] at hl
              refine hf ?_ h2 U2
              show (scanA n r).map ((T, v') :: ·) = _
              rw [hl]; rfl

theorem attributes_c (hs : s.length ≤ 512) (hq : ∀ w h', Upd (fun _ => False) h0 h' → RdI 2 h' w (prs ((attrsS s).getD [])) ((attrsS s).getD []).length → Q (.tu [w, .b (attrsS s).isSome]) h') : C G_ref34_Attributes.id [.s s] h0 Q := by
  refine G_ref34_Attributes.call ?_
  simp only [G_ref34_Attributes.t, G_ref34_Attributes.j0]
  refine bif_both (fun e => ?_) fun e => ?_
  · have e := of_decide_eq_true e
    subst e
    exact .inl (hq _ _ (Upd.refl _ _) (.inl ⟨rfl, rfl, rfl⟩))
  · have e := of_decide_eq_false e
    have ha : attrsS s = scanA (s.length + 1) s := if_neg e
    rw [ha] at hq
    refine at_p0 (h0 := h0) (Q := kRet h0 Q) hs (s.length + 1) 0 [] _ h0 (by omega) (by omega) (by simp) (NewA.start 2 h0) (fun l hl w h' U R => .inl ?_) fun hl h' U => .inl ?_
    · rw [List.drop_zero] at hl
      rw [hl] at hq
      exact hq w h' U R
    · rw [List.drop_zero] at hl
      rw [hl] at hq
      exact hq _ h' U (.inl ⟨rfl, rfl, rfl⟩)
end
end Go.Proofs.YtomghnmoomodiaaGreatDoor

/- Arguments within a machine's reach. -/
set_option linter.unusedVariables false
set_option linter.unusedSimpArgs false
set_option linter.unusedSectionVars false
set_option maxRecDepth 20000
namespace Go.Proofs.YtomghnmoomodiaaGreatDoor
open Go.GAM Go.RowKit Go.ChangeShapes

section
variable {H : Type} {enc : TypeId × Value → H} {w : World}

def wfR (c : Cert) : Prop := c.names.length ≤ maxLen ∧ (∀ n ∈ c.names, n.length ≤ 140737488351232) ∧ c.subject.length ≤ maxLen ∧ c.issuer.length ≤ maxLen
theorem wfR.c {c : Cert} (h : wfR c) : wfC c := ⟨h.1, fun n hn => by have := h.2.1 n hn; rw [maxLen_is]; omega, h.2.2⟩

theorem certR {cs : List Value} (h : InW enc prog w 36 cs) : cs.length = 8 ∧ ∃ c : Cert, CV (hW w) c (cs.map (absV w fun _ => 1)) ∧ wfR c := by
  obtain ⟨hlen, hf⟩ := h.struct Tryz.underlying36
  have c36 : prog.cellsOf 36 = 8 := by kernel_rfl
  have c3 : prog.cellsOf 3 = 1 := by kernel_rfl
  have c4 : prog.cellsOf 4 = 1 := by kernel_rfl
  have c9 : prog.cellsOf 9 = 1 := by kernel_rfl
  have c34 : prog.cellsOf 34 = 1 := by kernel_rfl
  rw [c36] at hlen
  refine ⟨hlen, ?_⟩
  match cs, hlen with
  | [v0, v1, v2, v3, v4, v5, v6, v7], _ =>
    have f0 : InW enc prog w 9 (([v0, v1, v2, v3, v4, v5, v6, v7].drop 0).take (prog.cellsOf 9)) := hf 0 _ rfl
    have f1 : InW enc prog w 9 (([v0, v1, v2, v3, v4, v5, v6, v7].drop 1).take (prog.cellsOf 9)) := hf 1 _ rfl
    have f2 : InW enc prog w 9 (([v0, v1, v2, v3, v4, v5, v6, v7].drop 2).take (prog.cellsOf 9)) := hf 2 _ rfl
    have f3 : InW enc prog w 3 (([v0, v1, v2, v3, v4, v5, v6, v7].drop 3).take (prog.cellsOf 3)) := hf 3 _ rfl
    have f4 : InW enc prog w 3 (([v0, v1, v2, v3, v4, v5, v6, v7].drop 4).take (prog.cellsOf 3)) := hf 4 _ rfl
    have f5 : InW enc prog w 34 (([v0, v1, v2, v3, v4, v5, v6, v7].drop 5).take (prog.cellsOf 34)) := hf 5 _ rfl
    have f6 : InW enc prog w 4 (([v0, v1, v2, v3, v4, v5, v6, v7].drop 6).take (prog.cellsOf 4)) := hf 6 _ rfl
    have f7 : InW enc prog w 9 (([v0, v1, v2, v3, v4, v5, v6, v7].drop 7).take (prog.cellsOf 9)) := hf 7 _ rfl
    rw [c9] at f0 f1 f2 f7
    rw [c3] at f3 f4
    rw [c4] at f6
    rw [c34] at f5
    obtain ⟨s0, e0, b0⟩ := f0.str Tryz.underlying9
    obtain ⟨s1, e1, b1⟩ := f1.str Tryz.underlying9
    obtain ⟨s2, e2, b2⟩ := f2.str Tryz.underlying9
    obtain ⟨i3, e3, _⟩ := f3.int (show prog.underlying 3 = some (.int .i64) by kernel_rfl)
    obtain ⟨i4, e4, _⟩ := f4.int (show prog.underlying 3 = some (.int .i64) by kernel_rfl)
    obtain ⟨v5', l, e5, hr, hnl, _, hn, _⟩ := f5.strs Tryz.underlying34 Tryz.underlying9 c9
    obtain ⟨m6, e6⟩ := f6.bool Tryz.underlying4
    obtain ⟨s7, e7, b7⟩ := f7.str Tryz.underlying9
    have g0 : v0 = .string s0 := List.singleton_inj.1 e0
    have g1 : v1 = .string s1 := List.singleton_inj.1 e1
    have g2 : v2 = .string s2 := List.singleton_inj.1 e2
    have g3 : v3 = .int .i64 i3 := List.singleton_inj.1 e3
    have g4 : v4 = .int .i64 i4 := List.singleton_inj.1 e4
    have g5 : v5 = v5' := List.singleton_inj.1 e5
    have g6 : v6 = .bool m6 := List.singleton_inj.1 e6
    have g7 : v7 = .string s7 := List.singleton_inj.1 e7
    subst g0 g1 g2 g3 g4 g5 g6 g7
    exact ⟨⟨s0.data.toList, s1.data.toList, s2.data.toList, i3, i4, l, m6, s7.data.toList⟩, ⟨_, rfl, hr⟩, hnl, hn, by rw [maxLen_is]; simp only; omega, by rw [maxLen_is]; simp only; omega⟩

theorem certsR {cs : List Value} (h : InW enc prog w 24 cs) :
    ∃ (v : Value) (l : List Cert), cs = [v] ∧ CL (hW w) (absV w (fun _ => 1) v) l ∧ (∀ c ∈ l, wfR c) ∧ VRel (muC w fun _ => 1) (absV w (fun _ => 1) v) v := by
  obtain ⟨v, rows, rfl, hr, _, _, hrow, hv⟩ := h.slice Tryz.underlying24 (show prog.cellsOf 36 = 8 by kernel_rfl) (by decide)
  have : ∀ rows : List (List Value), (∀ r ∈ rows, r.length = 8 ∧ InW enc prog w 36 r) → ∃ l : List Cert, CVs (hW w) l (rows.map (·.map (absV w fun _ => 1))) ∧ rows.length = l.length ∧ ∀ c ∈ l, wfR c := by
    intro rows
    induction rows with
    | nil => intro _; exact ⟨[], trivial, rfl, fun n hn => by cases hn⟩
    | cons r rows ih =>
      intro hr
      obtain ⟨l, h1, h2, h3⟩ := ih fun r hr' => hr r (by simp [hr'])
      obtain ⟨_, hy⟩ := hr r (by simp)
      obtain ⟨_, c, g1, g2⟩ := certR hy
      refine ⟨c :: l, ⟨g1, h1⟩, by simp [h2], fun d hd => ?_⟩
      rcases List.mem_cons.1 hd with rfl | hd
      · exact g2
      · exact h3 d hd
  obtain ⟨l, h1, h2, h3⟩ := this rows hrow
  rw [h2] at hr
  refine ⟨v, l, rfl, ⟨rows.map (·.map (absV w fun _ => 1)), ?_, h1⟩, h3, hv⟩
  rw [List.map_flatten] at hr; exact hr

def wfQR (q : Que) : Prop := (∀ c ∈ q.ch, wfR c) ∧ (∀ c ∈ q.tr, wfR c) ∧ q.host.length ≤ 140737488351232
theorem wfQR.q {q : Que} (h : wfQR q) : wfQ q := ⟨fun c hc => (h.1 c hc).c, fun c hc => (h.2.1 c hc).c, by have := h.2.2; rw [maxLen_is]; omega⟩

theorem queR {v : Value} (h : InW enc prog w 26 v.cells.toList) : ∃ (cs : List AV) (q : Que), VRel (muC w fun _ => 1) (.ag cs) v ∧ QV (hW w) q cs ∧ wfQR q := by
  obtain ⟨hlen, hf⟩ := h.struct Tryz.underlying26
  have c26 : prog.cellsOf 26 = 4 := by kernel_rfl
  have c3 : prog.cellsOf 3 = 1 := by kernel_rfl
  have c9 : prog.cellsOf 9 = 1 := by kernel_rfl
  have c24 : prog.cellsOf 24 = 1 := by kernel_rfl
  rw [c26] at hlen
  cases v with
  | agg vs =>
    have hcells : (Value.agg vs).cells.toList = vs.toList := rfl
    rw [hcells] at hlen hf
    have hrel : VRel (muC w fun _ => 1) (.ag (vs.toList.map (absV w fun _ => 1))) (.agg vs) := .ag _ _ (absVs_rel _)
    refine ⟨vs.toList.map (absV w fun _ => 1), ?_⟩
    revert hf hrel
    generalize vs.toList = cs at hlen
    intro hf hrel
    match cs, hlen with
    | [v0, v1, v2, v3], _ =>
      have f0 : InW enc prog w 24 (([v0, v1, v2, v3].drop 0).take (prog.cellsOf 24)) := hf 0 _ rfl
      have f1 : InW enc prog w 9 (([v0, v1, v2, v3].drop 1).take (prog.cellsOf 9)) := hf 1 _ rfl
      have f2 : InW enc prog w 3 (([v0, v1, v2, v3].drop 2).take (prog.cellsOf 3)) := hf 2 _ rfl
      have f3 : InW enc prog w 24 (([v0, v1, v2, v3].drop 3).take (prog.cellsOf 24)) := hf 3 _ rfl
      rw [c24] at f0 f3
      rw [c9] at f1
      rw [c3] at f2
      obtain ⟨u0, l0, e0, r0, w0, _⟩ := certsR f0
      obtain ⟨s1, e1, b1⟩ := f1.str Tryz.underlying9
      obtain ⟨i2, e2, _⟩ := f2.int (show prog.underlying 3 = some (.int .i64) by kernel_rfl)
      obtain ⟨u3, l3, e3, r3, w3, _⟩ := certsR f3
      have g0 : v0 = u0 := List.singleton_inj.1 e0
      have g1 : v1 = .string s1 := List.singleton_inj.1 e1
      have g2 : v2 = .int .i64 i2 := List.singleton_inj.1 e2
      have g3 : v3 = u3 := List.singleton_inj.1 e3
      subst g0 g1 g2 g3
      exact ⟨⟨l0, s1.data.toList, i2, l3⟩, hrel, ⟨_, _, rfl, r0, r3⟩, w0, w3, b1⟩
  | _ => simp [Value.cells] at hlen
end
end Go.Proofs.YtomghnmoomodiaaGreatDoor

/- has; lists of certificates, joined and cut. -/
set_option linter.unusedVariables false
set_option linter.unusedSimpArgs false
set_option linter.unusedSectionVars false
set_option maxRecDepth 20000
namespace Go.Proofs.YtomghnmoomodiaaGreatDoor
open Go.GAM Go.RowKit Go.ChangeShapes

section
variable {h : AHeap} {Q : AV → AHeap → Prop}

theorem has_p0 {v : AV} {l : List Nat} {m : Nat} {h0 : AHeap} (R : Rd 1 h v (l.map num) l.length) (hl : l.length ≤ 1000) : ∀ (r : List Nat) (i : Nat), l.drop i = r → kRet h0 Q (.b (r.contains m)) h → G_law35_has.p0 (kRet h0 Q) v m l.length i h := by
  intro r
  induction r with
  | nil =>
    intro i hr hq
    have := drop_end hr
    refine G_law35_has.i0 ?_
    simp only [G_law35_has.t0]
    exact bif_f (by simp; omega) hq
  | cons x r ih =>
    intro i hr hq
    have hlt := drop_lt hr
    refine G_law35_has.i0 ?_
    simp only [G_law35_has.t0, G_law35_has.j0]
    refine bif_t (by simp; omega) (rd_num R (at_of_drop hr) ?_)
    by_cases hxm : x = m
    · subst hxm
      refine bif_t (by simp) ?_
      simpa using hq
    · refine bif_f (by simp; omega) (inc (by omega) (ih (i + 1) (drop_next hr) ?_))
      rw [List.contains_cons, show (m == x) = false by simp; omega, Bool.false_or] at hq
      exact hq
theorem lhas_c {v : AV} {l : List Nat} {m : Nat} (R : Rd 1 h v (l.map num) l.length) (hl : l.length ≤ 1000) (hq : Q (.b (l.contains m)) h) : C G_law35_has.id [v, num m] h Q := by
  refine G_law35_has.call ?_
  simp only [G_law35_has.t, G_law35_has.j0]
  exact R.len (has_p0 R hl l 0 rfl (.inl hq))

theorem CVs.app {h : AHeap} : ∀ {a b : List Cert} {ra rb : List (List AV)}, CVs h a ra → CVs h b rb → CVs h (a ++ b) (ra ++ rb)
  | [], _, [], _, _, hb => hb
  | _ :: _, _, _ :: _, _, ⟨h1, h2⟩, hb => ⟨h1, CVs.app h2 hb⟩
theorem CVs.cells {h : AHeap} : ∀ {a : List Cert} {ra : List (List AV)}, CVs h a ra → ra.flatten.all AV.cellOK = true ∧ ra.flatten.length = a.length * 8 ∧ ra.length = a.length
  | [], [], _ => ⟨rfl, rfl, rfl⟩
  | _ :: _, _ :: _, ⟨h1, h2⟩ => by
    obtain ⟨g1, g2, g3⟩ := CVs.cells h2
    refine ⟨?_, ?_, by simp [g3]⟩
    · rw [List.flatten_cons, List.all_append, h1.ok, g1]; rfl
    · rw [List.flatten_cons, List.length_append, h1.len, g2, List.length_cons, Nat.add_mul]; omega
theorem CVs.take {h : AHeap} : ∀ {a : List Cert} {ra : List (List AV)} (n : Nat), CVs h a ra → CVs h (a.take n) (ra.take n) ∧ (ra.take n).flatten = ra.flatten.take (n * 8)
  | [], [], n, _ => ⟨by simp [CVs], by simp⟩
  | _ :: _, _ :: _, 0, _ => ⟨trivial, by simp⟩
  | _ :: _, r :: ra, n + 1, ⟨h1, h2⟩ => by
    obtain ⟨g1, g2⟩ := CVs.take n h2
    refine ⟨⟨h1, g1⟩, ?_⟩
    rw [List.take_succ_cons, List.flatten_cons, List.flatten_cons, g2, List.take_append, h1.len, List.take_of_length_le (l := r) (by rw [h1.len]; omega), show (n + 1) * 8 - 8 = n * 8 by omega]

end

/-! ### findings: which lists they come from -/

section
variable {cm : List UInt8 → List UInt8} {tr ch : List Cert} {x : List UInt8} {at' : Int}
theorem out_contains {n : Nat} (h1 : 1 ≤ n) (h7 : n ≤ 7) : (outS cm tr x at' ch 7).contains n = foundS cm tr x at' ch n := by
  rw [Bool.eq_iff_iff, List.contains_iff_mem]
  unfold outS
  rw [List.mem_filter, List.mem_map]
  constructor
  · exact fun h => h.2
  · exact fun h => ⟨⟨n - 1, List.mem_range.2 (by omega), by omega⟩, h⟩
theorem check_len : (checkS cm tr x at' ch).length ≤ 7 := by
  unfold checkS
  split
  · simp
  · exact outS_len cm tr x at' ch 7
theorem found_part {k f : Nat} (hk : 0 < k) (hf : f = 1 ∨ f = 2 ∨ f = 3 ∨ f = 4) (h : foundS cm tr x at' (ch.take k) f = true) : foundS cm tr x at' ch f = true := by
  unfold foundS at *
  rw [Bool.or_eq_true] at *
  rcases h with h | h
  · left
    unfold holdS at *
    by_cases h3 : f = 3
    · rw [if_pos h3] at *
      rw [List.getElem?_take_of_lt hk] at h; exact h
    · rw [if_neg h3, if_neg (by omega)] at h; cases h
  · right
    unfold fAny at *
    rw [List.any_eq_true] at *
    obtain ⟨i, g1, g2⟩ := h
    have hi : i < (ch.take k).length := List.mem_range.1 g1
    rw [List.length_take] at hi
    refine ⟨i, List.mem_range.2 (by omega), ?_⟩
    unfold fAt at *
    rw [List.getElem?_take_of_lt (by omega)] at g2
    cases hc : ch[i]? with
    | none => rw [hc] at g2; cases g2
    | some c =>
      rw [hc] at g2
      rcases hf with rfl | rfl | rfl | rfl <;> exact g2
theorem check_part {k n : Nat} (hk : 0 < k) (hn : n = 1 ∨ n = 2 ∨ n = 4 ∨ n = 3) (hne : ch ≠ []) (h : (checkS cm tr x at' (ch.take k)).contains n = true) : (checkS cm tr x at' ch).contains n = true := by
  unfold checkS at *
  rw [if_neg (by
    intro h
    have h8 := congrArg List.length h
    have h9 := List.length_pos_iff.2 hne
    rw [List.length_take, List.length_nil] at h8; omega)] at h
  rw [if_neg hne]
  rw [out_contains (by omega) (by omega)] at *
  exact found_part hk (by omega) h
theorem out_asc {i a b : Nat} (h1 : (checkS cm tr x at' ch)[i]? = some a) (h2 : (checkS cm tr x at' ch)[i + 1]? = some b) : a < b := by
  have key : List.Pairwise (· < ·) (checkS cm tr x at' ch) := by
    unfold checkS
    split
    · simp
    · unfold outS
      refine List.Pairwise.filter _ ?_
      rw [List.pairwise_map]
      exact List.Pairwise.imp (fun h => by omega) List.pairwise_lt_range
  obtain ⟨g1, g2⟩ := List.getElem?_eq_some_iff.1 h1
  obtain ⟨g3, g4⟩ := List.getElem?_eq_some_iff.1 h2
  have := List.pairwise_iff_getElem.1 key i (i + 1) g1 g3 (by omega)
  omega
theorem out_range {n : Nat} (h : n ∈ checkS cm tr x at' ch) : 1 ≤ n ∧ n ≤ 7 := by
  unfold checkS at h
  split at h
  · rw [List.mem_singleton] at h; omega
  · unfold outS at h
    rw [List.mem_filter, List.mem_map] at h
    obtain ⟨⟨k, h1, h2⟩, _⟩ := h
    have := List.mem_range.1 h1
    omega
end
end Go.Proofs.YtomghnmoomodiaaGreatDoor
namespace Go.GAM
theorem NewA.empty {sz : Nat} {h0 h : AHeap} (U : Upd (fun _ => False) h0 h) {K : AV → AHeap → Prop} (hk : ∀ v h', NewA sz h0 h' v [] 0 → Upd (fun _ => False) h h' → K v h') : pBuildSl sz 0 [] [] h K := by
  refine ⟨by simp, ?_⟩
  refine hk _ _ ⟨U.trans (Upd.app _ _) fun _ _ h => h, .inr ⟨h.length, newBlk [] sz true, rfl, by simp, rfl, by simp, rfl, Nat.le_refl _, rfl, rfl⟩, fun i hi => ?_⟩ (Upd.app _ _)
  cases hi; exact U.1
end Go.GAM

/- The law's text in the abstract machine: printed by Gen.lean, checked by Lean's kernel. -/
set_option linter.unusedVariables false
set_option linter.unusedSectionVars false
set_option maxRecDepth 100000
namespace Go.Proofs.YtomghnmoomodiaaGreatDoor
open Go.GAM
variable [XR]
--@@ G_law35_CertcheckParts
/-! ### 8: intrusion/intrusionlaw35.CertcheckParts -/
noncomputable def G_law35_CertcheckParts.body : Code := (Tryz.f8.body).getD .skip
def G_law35_CertcheckParts.ann : Ann := (.seq 0 [1, 2] .leaf (.seq 0 [1, 2] (.seq 1 [1, 2, 19] .leaf (.br (.seq 0 [4] .leaf .leaf) .leaf)) (.seq 0 [1, 2, 5] .leaf (.seq 0 [5, 6] (.ord (.neu 0 (.neu 1 (.neu 2 (.neu 3 (.neu 4 (.neu 5 (.neu 6 (.neu 7 (.neu 8 (.neu 9 (.neu 10 (.neu 11 (.neu 12 (.neu 13 (.neu 14 (.neu 15 (.eff 16 (.neu 17 .done) .stop)))))))))))))))))) (.seq 0 [5, 6] (.seq 0 [5, 6, 48, 49] .leaf (.one (.loop 2 [5, 6, 48, 49] (.seq 0 [5, 6, 48, 49, 50] .leaf (.seq 0 [5, 6, 48, 49] (.br .leaf .leaf) (.seq 0 [5, 6, 48, 49] (.one (.seq 0 [5, 6, 7, 48, 49] .leaf (.seq 3 [5, 6, 48, 49, 79] (.ord (.neu 0 (.neu 1 (.neu 2 (.neu 3 (.neu 4 (.neu 5 (.neu 6 (.neu 7 (.neu 8 (.neu 9 (.neu 10 (.neu 11 (.neu 12 (.neu 13 (.neu 14 (.neu 15 (.neu 16 (.neu 17 (.neu 18 (.neu 19 (.neu 20 (.neu 21 (.neu 22 (.neu 23 (.neu 24 (.neu 25 (.neu 26 (.neu 27 .done))))))))))))))))))))))))))))) (.br (.seq 0 [4] .leaf .leaf) .leaf)))) .leaf)))))) (.seq 0 [] (.seq 0 [5, 6, 82, 83] .leaf (.one (.loop 4 [5, 6, 82, 83] (.seq 0 [5, 6, 82, 83, 84] .leaf (.seq 0 [5, 6, 82, 83] (.br .leaf .leaf) (.seq 0 [5, 6, 82, 83] (.one (.seq 0 [5, 6, 8, 82, 83] .leaf (.seq 5 [5, 6, 82, 83, 120] .leaf (.br (.seq 0 [4] .leaf .leaf) .leaf)))) .leaf)))))) (.seq 0 [4] .leaf .leaf)))))))
theorem G_law35_CertcheckParts.body_eq : Tryz.f8.body = some G_law35_CertcheckParts.body := by kernel_rfl
theorem G_law35_CertcheckParts.dist : noTwice (places G_law35_CertcheckParts.ann G_law35_CertcheckParts.body) = true := by kernel_rfl
noncomputable def G_law35_CertcheckParts.J (Q : AV → AHeap → Prop) : JT := funJ prog C Tryz.f8 G_law35_CertcheckParts.ann G_law35_CertcheckParts.body Q
theorem G_law35_CertcheckParts.goR {Q : AV → AHeap → Prop} {k : Nat} {p : List Nat} (hl : lookJ (places G_law35_CertcheckParts.ann G_law35_CertcheckParts.body) k = some (p, false)) {e : Env} {h : AHeap} (hk : atJ prog C 123 (G_law35_CertcheckParts.J Q) false p G_law35_CertcheckParts.ann G_law35_CertcheckParts.body e h (kFun prog Tryz.f8 Q)) : G_law35_CertcheckParts.J Q k e h := goJ_run (P := prog) (fn := Tryz.f8) (ann := G_law35_CertcheckParts.ann) (body := G_law35_CertcheckParts.body) (Q := Q) (k := k) (p := p) (e := e) (h := h) (acall_le X) G_law35_CertcheckParts.dist hl hk
theorem G_law35_CertcheckParts.goH {Q : AV → AHeap → Prop} {k : Nat} {p : List Nat} (hl : lookJ (places G_law35_CertcheckParts.ann G_law35_CertcheckParts.body) k = some (p, true)) {e : Env} {h : AHeap} (hk : atJ prog C 123 (G_law35_CertcheckParts.J Q) true p G_law35_CertcheckParts.ann G_law35_CertcheckParts.body e h (kFun prog Tryz.f8 Q)) : G_law35_CertcheckParts.J Q k e h := goJ_head (P := prog) (fn := Tryz.f8) (ann := G_law35_CertcheckParts.ann) (body := G_law35_CertcheckParts.body) (Q := Q) (k := k) (p := p) (e := e) (h := h) (acall_le X) G_law35_CertcheckParts.dist hl hk
def G_law35_CertcheckParts.p0 (Q : AV → AHeap → Prop) (x1 : Int) (x2 : AV) (x19 : Bool) (h : AHeap) : Prop := G_law35_CertcheckParts.J Q 1 [(1, (AV.i .u8 x1)), (2, x2), (19, (AV.b x19))] h
theorem G_law35_CertcheckParts.j0 (Q : AV → AHeap → Prop) (x1 : Int) (x2 : AV) (x19 : Bool) (h : AHeap) : G_law35_CertcheckParts.J Q 1 [(1, (AV.i .u8 x1)), (2, x2), (19, (AV.b x19))] h = G_law35_CertcheckParts.p0 Q x1 x2 x19 h := rfl
def G_law35_CertcheckParts.p2 (Q : AV → AHeap → Prop) (x5 : AV) (x6 : AV) (x48 : Int) (x49 : Int) (x79 : Bool) (h : AHeap) : Prop := G_law35_CertcheckParts.J Q 3 [(5, x5), (6, x6), (48, (AV.i .i64 x48)), (49, (AV.i .i64 x49)), (79, (AV.b x79))] h
theorem G_law35_CertcheckParts.j2 (Q : AV → AHeap → Prop) (x5 : AV) (x6 : AV) (x48 : Int) (x49 : Int) (x79 : Bool) (h : AHeap) : G_law35_CertcheckParts.J Q 3 [(5, x5), (6, x6), (48, (AV.i .i64 x48)), (49, (AV.i .i64 x49)), (79, (AV.b x79))] h = G_law35_CertcheckParts.p2 Q x5 x6 x48 x49 x79 h := rfl
def G_law35_CertcheckParts.p1 (Q : AV → AHeap → Prop) (x5 : AV) (x6 : AV) (x48 : Int) (x49 : Int) (h : AHeap) : Prop := G_law35_CertcheckParts.J Q 2 [(5, x5), (6, x6), (48, (AV.i .i64 x48)), (49, (AV.i .i64 x49))] h
theorem G_law35_CertcheckParts.j1 (Q : AV → AHeap → Prop) (x5 : AV) (x6 : AV) (x48 : Int) (x49 : Int) (h : AHeap) : G_law35_CertcheckParts.J Q 2 [(5, x5), (6, x6), (48, (AV.i .i64 x48)), (49, (AV.i .i64 x49))] h = G_law35_CertcheckParts.p1 Q x5 x6 x48 x49 h := rfl
def G_law35_CertcheckParts.p4 (Q : AV → AHeap → Prop) (x5 : AV) (x6 : AV) (x82 : Int) (x83 : Int) (x120 : Bool) (h : AHeap) : Prop := G_law35_CertcheckParts.J Q 5 [(5, x5), (6, x6), (82, (AV.i .i64 x82)), (83, (AV.i .i64 x83)), (120, (AV.b x120))] h
theorem G_law35_CertcheckParts.j4 (Q : AV → AHeap → Prop) (x5 : AV) (x6 : AV) (x82 : Int) (x83 : Int) (x120 : Bool) (h : AHeap) : G_law35_CertcheckParts.J Q 5 [(5, x5), (6, x6), (82, (AV.i .i64 x82)), (83, (AV.i .i64 x83)), (120, (AV.b x120))] h = G_law35_CertcheckParts.p4 Q x5 x6 x82 x83 x120 h := rfl
def G_law35_CertcheckParts.p3 (Q : AV → AHeap → Prop) (x5 : AV) (x6 : AV) (x82 : Int) (x83 : Int) (h : AHeap) : Prop := G_law35_CertcheckParts.J Q 4 [(5, x5), (6, x6), (82, (AV.i .i64 x82)), (83, (AV.i .i64 x83))] h
theorem G_law35_CertcheckParts.j3 (Q : AV → AHeap → Prop) (x5 : AV) (x6 : AV) (x82 : Int) (x83 : Int) (h : AHeap) : G_law35_CertcheckParts.J Q 4 [(5, x5), (6, x6), (82, (AV.i .i64 x82)), (83, (AV.i .i64 x83))] h = G_law35_CertcheckParts.p3 Q x5 x6 x82 x83 h := rfl
def G_law35_CertcheckParts.t0 (J : JT) (Q : AV → AHeap → Prop) (x1 : Int) (x2 : AV) (x19 : Bool) (h : AHeap) : Prop :=
(bif x19 then
(C G_law35_awake.id [] h fun v15 h16 =>
asB v15 fun c17 =>
Q (AV.b c17) h16)
else
(pFieldAddr 0 x2 fun v20 =>
pLoad1 v20 h fun v21 =>
pFieldAddr 1 x2 fun v22 =>
pLoad1 v22 h fun v23 =>
asS v23 fun l24 =>
pFieldAddr 2 x2 fun v25 =>
pLoad1 v25 h fun v26 =>
asI .i64 v26 fun n27 =>
pFieldAddr 3 x2 fun v28 =>
pLoad1 v28 h fun v29 =>
C G_certcheck_Check.id [v21, (AV.s l24), (AV.i .i64 n27), v29] h fun v30 h31 =>
pFieldAddr 0 x2 fun v33 =>
pLoad1 v33 h31 fun v34 =>
pFieldAddr 0 x2 fun v35 =>
pLoad1 v35 h31 fun v36 =>
pLenSl v36 fun n37 =>
pRem (IntKind.wrap .i64 x1) n37 fun n38 =>
withI (IntKind.wrap .i64 (n38 + 1)) fun n39 =>
pSliceSl 8 v34 none (some (AV.i .i64 n39)) none h31 fun v40 =>
pFieldAddr 1 x2 fun v41 =>
pLoad1 v41 h31 fun v42 =>
asS v42 fun l43 =>
pFieldAddr 2 x2 fun v44 =>
pLoad1 v44 h31 fun v45 =>
asI .i64 v45 fun n46 =>
pFieldAddr 3 x2 fun v47 =>
pLoad1 v47 h31 fun v48 =>
C G_certcheck_Check.id [v40, (AV.s l43), (AV.i .i64 n46), v48] h31 fun v49 h50 =>
pLoad1 v35 h50 fun v51 =>
(v36 = v51 ∧
(pLoad1 v33 h50 fun v52 =>
(v34 = v52 ∧
(pLenSl v30 fun n54 =>
J 2 [(5, v30), (6, v49), (48, (AV.i .i64 n54)), (49, (AV.i .i64 0))] h50))))))
theorem G_law35_CertcheckParts.t0_eq (J : JT) (Q : AV → AHeap → Prop) (x1 : Int) (x2 : AV) (x19 : Bool) (h : AHeap) : G_law35_CertcheckParts.t0 J Q x1 x2 x19 h = atJ prog C 123 J false [1, 0, 1] G_law35_CertcheckParts.ann G_law35_CertcheckParts.body [(1, (AV.i .u8 x1)), (2, x2), (19, (AV.b x19))] h (kFun prog Tryz.f8 Q) := by kernel_rfl
theorem G_law35_CertcheckParts.i0 {Q : AV → AHeap → Prop} {x1 : Int} {x2 : AV} {x19 : Bool} {h : AHeap} (H : G_law35_CertcheckParts.t0 (G_law35_CertcheckParts.J Q) Q x1 x2 x19 h) : G_law35_CertcheckParts.p0 Q x1 x2 x19 h := G_law35_CertcheckParts.goR (k := 1) (p := [1, 0, 1]) (by kernel_rfl) ((G_law35_CertcheckParts.t0_eq (G_law35_CertcheckParts.J Q) Q x1 x2 x19 h).mp H)
def G_law35_CertcheckParts.t2 (J : JT) (Q : AV → AHeap → Prop) (x5 : AV) (x6 : AV) (x48 : Int) (x49 : Int) (x79 : Bool) (h : AHeap) : Prop :=
(bif x79 then
(Q (AV.b false) h)
else
(withI (IntKind.wrap .i64 (x49 + 1)) fun n79 =>
J 2 [(5, x5), (6, x6), (48, (AV.i .i64 x48)), (49, (AV.i .i64 n79))] h))
theorem G_law35_CertcheckParts.t2_eq (J : JT) (Q : AV → AHeap → Prop) (x5 : AV) (x6 : AV) (x48 : Int) (x49 : Int) (x79 : Bool) (h : AHeap) : G_law35_CertcheckParts.t2 J Q x5 x6 x48 x49 x79 h = atJ prog C 123 J false [1, 1, 1, 1, 0, 1, 0, 0, 1, 1, 0, 0, 1, 1] G_law35_CertcheckParts.ann G_law35_CertcheckParts.body [(5, x5), (6, x6), (48, (AV.i .i64 x48)), (49, (AV.i .i64 x49)), (79, (AV.b x79))] h (kFun prog Tryz.f8 Q) := by kernel_rfl
theorem G_law35_CertcheckParts.i2 {Q : AV → AHeap → Prop} {x5 : AV} {x6 : AV} {x48 : Int} {x49 : Int} {x79 : Bool} {h : AHeap} (H : G_law35_CertcheckParts.t2 (G_law35_CertcheckParts.J Q) Q x5 x6 x48 x49 x79 h) : G_law35_CertcheckParts.p2 Q x5 x6 x48 x49 x79 h := G_law35_CertcheckParts.goR (k := 3) (p := [1, 1, 1, 1, 0, 1, 0, 0, 1, 1, 0, 0, 1, 1]) (by kernel_rfl) ((G_law35_CertcheckParts.t2_eq (G_law35_CertcheckParts.J Q) Q x5 x6 x48 x49 x79 h).mp H)
def G_law35_CertcheckParts.t1 (J : JT) (Q : AV → AHeap → Prop) (x5 : AV) (x6 : AV) (x48 : Int) (x49 : Int) (h : AHeap) : Prop :=
(bif (decide ((x49 : Int) < x48)) then
(pIdxAddrSl 1 x5 (AV.i .i64 x49) h fun v60 =>
pLoad1 v60 h fun v61 =>
asI .i64 v61 fun n62 =>
(bif (decide ((n62 : Int) < 1)) then
(J 3 [(5, x5), (6, x6), (48, (AV.i .i64 x48)), (49, (AV.i .i64 x49)), (79, (AV.b true))] h)
else
(pIdxAddrSl 1 x5 (AV.i .i64 x49) h fun v64 =>
pLoad1 v64 h fun v65 =>
asI .i64 v65 fun n66 =>
(bif (decide ((7 : Int) < n66)) then
(J 3 [(5, x5), (6, x6), (48, (AV.i .i64 x48)), (49, (AV.i .i64 x49)), (79, (AV.b true))] h)
else
((bif (decide ((0 : Int) < x49)) then
(pIdxAddrSl 1 x5 (AV.i .i64 x49) h fun v68 =>
pLoad1 v68 h fun v69 =>
asI .i64 v69 fun n70 =>
withI (IntKind.wrap .i64 (x49 - 1)) fun n71 =>
pIdxAddrSl 1 x5 (AV.i .i64 n71) h fun v72 =>
pLoad1 v72 h fun v73 =>
asI .i64 v73 fun n74 =>
J 3 [(5, x5), (6, x6), (48, (AV.i .i64 x48)), (49, (AV.i .i64 x49)), (79, (AV.b (decide ((n70 : Int) ≤ n74))))] h)
else
(J 3 [(5, x5), (6, x6), (48, (AV.i .i64 x48)), (49, (AV.i .i64 x49)), (79, (AV.b false))] h)))))))
else
(pLenSl x6 fun n81 =>
J 4 [(5, x5), (6, x6), (82, (AV.i .i64 n81)), (83, (AV.i .i64 0))] h))
theorem G_law35_CertcheckParts.t1_eq (J : JT) (Q : AV → AHeap → Prop) (x5 : AV) (x6 : AV) (x48 : Int) (x49 : Int) (h : AHeap) : G_law35_CertcheckParts.t1 J Q x5 x6 x48 x49 h = atJ prog C 123 J true [1, 1, 1, 1, 0, 1, 0] G_law35_CertcheckParts.ann G_law35_CertcheckParts.body [(5, x5), (6, x6), (48, (AV.i .i64 x48)), (49, (AV.i .i64 x49))] h (kFun prog Tryz.f8 Q) := by kernel_rfl
theorem G_law35_CertcheckParts.i1 {Q : AV → AHeap → Prop} {x5 : AV} {x6 : AV} {x48 : Int} {x49 : Int} {h : AHeap} (H : G_law35_CertcheckParts.t1 (G_law35_CertcheckParts.J Q) Q x5 x6 x48 x49 h) : G_law35_CertcheckParts.p1 Q x5 x6 x48 x49 h := G_law35_CertcheckParts.goH (k := 2) (p := [1, 1, 1, 1, 0, 1, 0]) (by kernel_rfl) ((G_law35_CertcheckParts.t1_eq (G_law35_CertcheckParts.J Q) Q x5 x6 x48 x49 h).mp H)
def G_law35_CertcheckParts.t4 (J : JT) (Q : AV → AHeap → Prop) (x5 : AV) (x6 : AV) (x82 : Int) (x83 : Int) (x120 : Bool) (h : AHeap) : Prop :=
(bif x120 then
(Q (AV.b false) h)
else
(withI (IntKind.wrap .i64 (x83 + 1)) fun n130 =>
J 4 [(5, x5), (6, x6), (82, (AV.i .i64 x82)), (83, (AV.i .i64 n130))] h))
theorem G_law35_CertcheckParts.t4_eq (J : JT) (Q : AV → AHeap → Prop) (x5 : AV) (x6 : AV) (x82 : Int) (x83 : Int) (x120 : Bool) (h : AHeap) : G_law35_CertcheckParts.t4 J Q x5 x6 x82 x83 x120 h = atJ prog C 123 J false [1, 1, 1, 1, 1, 0, 1, 0, 0, 1, 1, 0, 0, 1, 1] G_law35_CertcheckParts.ann G_law35_CertcheckParts.body [(5, x5), (6, x6), (82, (AV.i .i64 x82)), (83, (AV.i .i64 x83)), (120, (AV.b x120))] h (kFun prog Tryz.f8 Q) := by kernel_rfl
theorem G_law35_CertcheckParts.i4 {Q : AV → AHeap → Prop} {x5 : AV} {x6 : AV} {x82 : Int} {x83 : Int} {x120 : Bool} {h : AHeap} (H : G_law35_CertcheckParts.t4 (G_law35_CertcheckParts.J Q) Q x5 x6 x82 x83 x120 h) : G_law35_CertcheckParts.p4 Q x5 x6 x82 x83 x120 h := G_law35_CertcheckParts.goR (k := 5) (p := [1, 1, 1, 1, 1, 0, 1, 0, 0, 1, 1, 0, 0, 1, 1]) (by kernel_rfl) ((G_law35_CertcheckParts.t4_eq (G_law35_CertcheckParts.J Q) Q x5 x6 x82 x83 x120 h).mp H)
def G_law35_CertcheckParts.t3 (J : JT) (Q : AV → AHeap → Prop) (x5 : AV) (x6 : AV) (x82 : Int) (x83 : Int) (h : AHeap) : Prop :=
(bif (decide ((x83 : Int) < x82)) then
(pIdxAddrSl 1 x6 (AV.i .i64 x83) h fun v87 =>
pLoad1 v87 h fun v88 =>
asI .i64 v88 fun n89 =>
(bif (decide ((n89 : Int) = 1)) then
(pIdxAddrSl 1 x6 (AV.i .i64 x83) h fun v90 =>
pLoad1 v90 h fun v91 =>
asI .i64 v91 fun n92 =>
C G_law35_has.id [x5, (AV.i .i64 n92)] h fun v93 h94 =>
asB v93 fun c95 =>
J 5 [(5, x5), (6, x6), (82, (AV.i .i64 x82)), (83, (AV.i .i64 x83)), (120, (AV.b (!c95)))] h94)
else
(pIdxAddrSl 1 x6 (AV.i .i64 x83) h fun v97 =>
pLoad1 v97 h fun v98 =>
asI .i64 v98 fun n99 =>
(bif (decide ((n99 : Int) = 2)) then
(pIdxAddrSl 1 x6 (AV.i .i64 x83) h fun v100 =>
pLoad1 v100 h fun v101 =>
asI .i64 v101 fun n102 =>
C G_law35_has.id [x5, (AV.i .i64 n102)] h fun v103 h104 =>
asB v103 fun c105 =>
J 5 [(5, x5), (6, x6), (82, (AV.i .i64 x82)), (83, (AV.i .i64 x83)), (120, (AV.b (!c105)))] h104)
else
(pIdxAddrSl 1 x6 (AV.i .i64 x83) h fun v107 =>
pLoad1 v107 h fun v108 =>
asI .i64 v108 fun n109 =>
(bif (decide ((n109 : Int) = 4)) then
(pIdxAddrSl 1 x6 (AV.i .i64 x83) h fun v110 =>
pLoad1 v110 h fun v111 =>
asI .i64 v111 fun n112 =>
C G_law35_has.id [x5, (AV.i .i64 n112)] h fun v113 h114 =>
asB v113 fun c115 =>
J 5 [(5, x5), (6, x6), (82, (AV.i .i64 x82)), (83, (AV.i .i64 x83)), (120, (AV.b (!c115)))] h114)
else
(pIdxAddrSl 1 x6 (AV.i .i64 x83) h fun v117 =>
pLoad1 v117 h fun v118 =>
asI .i64 v118 fun n119 =>
(bif (decide ((n119 : Int) = 3)) then
(pIdxAddrSl 1 x6 (AV.i .i64 x83) h fun v120 =>
pLoad1 v120 h fun v121 =>
asI .i64 v121 fun n122 =>
C G_law35_has.id [x5, (AV.i .i64 n122)] h fun v123 h124 =>
asB v123 fun c125 =>
J 5 [(5, x5), (6, x6), (82, (AV.i .i64 x82)), (83, (AV.i .i64 x83)), (120, (AV.b (!c125)))] h124)
else
(J 5 [(5, x5), (6, x6), (82, (AV.i .i64 x82)), (83, (AV.i .i64 x83)), (120, (AV.b false))] h)))))))))
else
(C G_law35_awake.id [] h fun v132 h133 =>
asB v132 fun c134 =>
Q (AV.b c134) h133))
theorem G_law35_CertcheckParts.t3_eq (J : JT) (Q : AV → AHeap → Prop) (x5 : AV) (x6 : AV) (x82 : Int) (x83 : Int) (h : AHeap) : G_law35_CertcheckParts.t3 J Q x5 x6 x82 x83 h = atJ prog C 123 J true [1, 1, 1, 1, 1, 0, 1, 0] G_law35_CertcheckParts.ann G_law35_CertcheckParts.body [(5, x5), (6, x6), (82, (AV.i .i64 x82)), (83, (AV.i .i64 x83))] h (kFun prog Tryz.f8 Q) := by kernel_rfl
theorem G_law35_CertcheckParts.i3 {Q : AV → AHeap → Prop} {x5 : AV} {x6 : AV} {x82 : Int} {x83 : Int} {h : AHeap} (H : G_law35_CertcheckParts.t3 (G_law35_CertcheckParts.J Q) Q x5 x6 x82 x83 h) : G_law35_CertcheckParts.p3 Q x5 x6 x82 x83 h := G_law35_CertcheckParts.goH (k := 4) (p := [1, 1, 1, 1, 1, 0, 1, 0]) (by kernel_rfl) ((G_law35_CertcheckParts.t3_eq (G_law35_CertcheckParts.J Q) Q x5 x6 x82 x83 h).mp H)
def G_law35_CertcheckParts.t (J : JT) (Q : AV → AHeap → Prop) (x0 : AV) (x1 : Int) (h : AHeap) : Prop :=
pBox (some 26) x0 h fun v0 h1 =>
pFieldAddr 0 v0 fun v3 =>
pLoad1 v3 h1 fun v4 =>
pFieldAddr 3 v0 fun v5 =>
pLoad1 v5 h1 fun v6 =>
C G_law35_large.id [v4, v6] h1 fun v7 h8 =>
asB v7 fun c9 =>
(bif c9 then
(J 1 [(1, (AV.i .u8 x1)), (2, v0), (19, (AV.b true))] h8)
else
(pFieldAddr 0 v0 fun v11 =>
pLoad1 v11 h8 fun v12 =>
pLenSl v12 fun n13 =>
J 1 [(1, (AV.i .u8 x1)), (2, v0), (19, (AV.b (decide ((n13 : Int) = 0))))] h8))
theorem G_law35_CertcheckParts.t_eq (J : JT) (Q : AV → AHeap → Prop) (x0 : AV) (x1 : Int) (h : AHeap) : G_law35_CertcheckParts.t J Q x0 x1 h = exJ prog C 123 J G_law35_CertcheckParts.ann G_law35_CertcheckParts.body (initEnv 0 [x0, (AV.i .u8 x1)]) h (kFun prog Tryz.f8 Q) := by kernel_rfl
theorem G_law35_CertcheckParts.call {K : AV → AHeap → Prop} {x0 : AV} {x1 : Int} {h : AHeap} (H : G_law35_CertcheckParts.t (G_law35_CertcheckParts.J (kRet h K)) (kRet h K) x0 x1 h) : C G_law35_CertcheckParts.id [x0, (AV.i .u8 x1)] h K :=
  callJ (P := prog) (fn := Tryz.f8) (ann := G_law35_CertcheckParts.ann) (body := G_law35_CertcheckParts.body) Tryz.func8 G_law35_CertcheckParts.body_eq (by kernel_rfl) G_law35_CertcheckParts.dist (by kernel_rfl) ((G_law35_CertcheckParts.t_eq (G_law35_CertcheckParts.J (kRet h K)) (kRet h K) x0 x1 h).mp H)


end Go.Proofs.YtomghnmoomodiaaGreatDoor

/- CertcheckParts. -/
set_option linter.unusedVariables false
set_option linter.unusedSimpArgs false
set_option linter.unusedSectionVars false
set_option maxRecDepth 20000
namespace Go.Proofs.YtomghnmoomodiaaGreatDoor
open Go.GAM Go.RowKit Go.ChangeShapes

theorem parts_p3 {va vb : AV} {la lb : List Nat} {h h0 : AHeap} (A : Rd 1 h va (la.map num) la.length) (B : Rd 1 h vb (lb.map num) lb.length) (ha : la.length ≤ 1000) (hb : lb.length ≤ 1000)
    (hp : ∀ n ∈ lb, (n = 1 ∨ n = 2 ∨ n = 4 ∨ n = 3) → la.contains n = true) : ∀ (r : List Nat) (i : Nat), lb.drop i = r → G_law35_CertcheckParts.p3 (kRet h0 Yes) va vb lb.length i h := by
  intro r
  induction r with
  | nil =>
    intro i hr
    have := drop_end hr
    refine G_law35_CertcheckParts.i3 ?_
    simp only [G_law35_CertcheckParts.t3]
    exact bif_f (by simp; omega) (awake_c fun h' _ => st_asB kRet_yes)
  | cons n r ih =>
    intro i hr
    have hlt := drop_lt hr
    have hc := at_of_drop hr
    have hm := List.mem_of_getElem? hc
    have nxt : ∀ b, b = false → G_law35_CertcheckParts.p4 (kRet h0 Yes) va vb lb.length i b h := by
      intro b hb
      subst hb
      refine G_law35_CertcheckParts.i4 ?_
      simp only [G_law35_CertcheckParts.t4, G_law35_CertcheckParts.j3]
      exact bif_f rfl (inc (by omega) (ih (i + 1) (drop_next hr)))
    refine G_law35_CertcheckParts.i3 ?_
    simp only [G_law35_CertcheckParts.t3, G_law35_CertcheckParts.j4]
    refine bif_t (by simp; omega) (rd_num B hc ?_)
    have yes : (n = 1 ∨ n = 2 ∨ n = 4 ∨ n = 3) → (!la.contains n) = false := fun h => by rw [hp n hm h]; rfl
    refine bif_both (fun e => rd_num B hc (lhas_c A ha (st_asB (nxt _ (yes (by simp at e; omega)))))) fun e => rd_num B hc ?_
    refine bif_both (fun e => rd_num B hc (lhas_c A ha (st_asB (nxt _ (yes (by simp at e; omega)))))) fun e => rd_num B hc ?_
    refine bif_both (fun e => rd_num B hc (lhas_c A ha (st_asB (nxt _ (yes (by simp at e; omega)))))) fun e => rd_num B hc ?_
    exact bif_both (fun e => rd_num B hc (lhas_c A ha (st_asB (nxt _ (yes (by simp at e; omega)))))) fun e => nxt _ rfl

theorem parts_p1 {va vb : AV} {la lb : List Nat} {h h0 : AHeap} (A : Rd 1 h va (la.map num) la.length) (B : Rd 1 h vb (lb.map num) lb.length) (ha : la.length ≤ 1000) (hb : lb.length ≤ 1000)
    (hr7 : ∀ n ∈ la, 1 ≤ n ∧ n ≤ 7) (hasc : ∀ i a b, la[i]? = some a → la[i + 1]? = some b → a < b) (hp : ∀ n ∈ lb, (n = 1 ∨ n = 2 ∨ n = 4 ∨ n = 3) → la.contains n = true) : ∀ (r : List Nat) (i : Nat), la.drop i = r → G_law35_CertcheckParts.p1 (kRet h0 Yes) va vb la.length i h := by
  intro r
  induction r with
  | nil =>
    intro i hr
    have := drop_end hr
    refine G_law35_CertcheckParts.i1 ?_
    simp only [G_law35_CertcheckParts.t1, G_law35_CertcheckParts.j3]
    exact bif_f (by simp; omega) (B.len (parts_p3 A B ha hb hp lb 0 rfl))
  | cons n r ih =>
    intro i hr
    have hlt := drop_lt hr
    have hc := at_of_drop hr
    obtain ⟨g1, g7⟩ := hr7 n (List.mem_of_getElem? hc)
    have nxt : ∀ b, b = false → G_law35_CertcheckParts.p2 (kRet h0 Yes) va vb la.length i b h := by
      intro b hb
      subst hb
      refine G_law35_CertcheckParts.i2 ?_
      simp only [G_law35_CertcheckParts.t2, G_law35_CertcheckParts.j1]
      exact bif_f rfl (inc (by omega) (ih (i + 1) (drop_next hr)))
    refine G_law35_CertcheckParts.i1 ?_
    simp only [G_law35_CertcheckParts.t1, G_law35_CertcheckParts.j2]
    refine bif_t (by simp; omega) (rd_num A hc (bif_f (by simp; omega) (rd_num A hc (bif_f (by simp; omega) ?_))))
    refine bif_both (fun e => rd_num A hc ?_) fun e => nxt _ rfl
    have e : 0 < i := by have := of_decide_eq_true e; omega
    have hc' : la[i - 1]? = some la[i - 1] := List.getElem?_eq_getElem (by omega)
    generalize la[i - 1] = m at hc'
    have hlt2 := hasc (i - 1) m n hc' (by rw [show i - 1 + 1 = i by omega]; exact hc)
    refine withI_is (n := ((i - 1 : Nat) : Int)) (by rw [wrap_i64 (by omega) (by omega)]; omega) (rd_num A hc' (nxt _ ?_))
    simp; omega

theorem parts_c {q : Que} {n : Nat} (hn : n < 256) {cs : List AV} {h : AHeap} (G : CG h) (V : QV h q cs) (hw : wfQR q) : C G_law35_CertcheckParts.id [.ag cs, .i .u8 n] h Yes := by
  obtain ⟨vc, vt, rfl, L, LT⟩ := V
  obtain ⟨ac, nc, kc, rfl⟩ : ∃ a n c, vc = .sl a n c := by obtain ⟨_, R, _⟩ := L; exact R.isSl
  obtain ⟨at_, nt, kt, rfl⟩ : ∃ a n c, vt = .sl a n c := by obtain ⟨_, R, _⟩ := LT; exact R.isSl
  refine G_law35_CertcheckParts.call ?_
  simp only [G_law35_CertcheckParts.t, G_law35_CertcheckParts.j0]
  refine st_box rfl fun h1 hl1 U1 R => ?_
  have L := L.ext U1
  have LT := LT.ext U1
  have G := G.ext U1
  have big : G_law35_CertcheckParts.p0 (kRet h Yes) n (.p (some ⟨h.length, 4, 0⟩)) true h1 := by
    refine G_law35_CertcheckParts.i0 ?_
    simp only [G_law35_CertcheckParts.t0]
    exact bif_t rfl (awake_c fun h' _ => st_asB kRet_yes)
  refine st_fld (st_load R rfl rfl (st_fld (st_load R rfl rfl (large_c L LT (st_asB ?_)))))
  refine bif_both (fun e => big) fun e => ?_
  simp only [Bool.or_eq_false_iff, decide_eq_false_iff_not] at e
  refine st_fld (st_load R rfl rfl (L.len ?_))
  by_cases hne : q.ch = []
  · rw [hne]; exact big
  have hpos : 0 < q.ch.length := List.length_pos_iff.2 hne
  rw [decide_eq_false (show ¬ (q.ch.length : Int) = 0 by omega)]
  refine G_law35_CertcheckParts.i0 ?_
  simp only [G_law35_CertcheckParts.t0, G_law35_CertcheckParts.j1]
  refine bif_f rfl (st_fld (st_load R rfl rfl (st_fld (st_load R rfl rfl (st_asS (st_fld (st_load R rfl rfl (st_asI (st_fld (st_load R rfl rfl ?_))))))))))
  refine checkQ_c G L LT hw.q (by omega) (by omega) fun wa h2 U2 A => ?_
  have R2 := R.upd U2 fun h => h
  have L2 := L.ext U2
  refine st_fld (st_load R2 rfl rfl (st_fld (st_load R2 rfl rfl (L2.len ?_))))
  refine st_rem (n := ((n % q.ch.length : Nat) : Int)) (by omega) (by rw [wrap_i64 (by omega) (by omega)]; exact (Int.ofNat_tmod n q.ch.length).symm ▸ rfl) ?_
  have hmod : n % q.ch.length < q.ch.length := Nat.mod_lt _ hpos
  refine inc (by omega) ?_
  obtain ⟨rs, L3, L4⟩ := L2
  refine L3.front (by decide) (by omega) (by omega) fun v' L5 => ?_
  have LP : CL h2 v' (q.ch.take (n % q.ch.length + 1)) := by
    obtain ⟨g1, g2⟩ := L4.take (n % q.ch.length + 1)
    refine ⟨_, ?_, g1⟩
    rw [g2, List.length_take, Nat.min_eq_left (by omega)]; exact L5
  refine st_fld (st_load R2 rfl rfl (st_asS (st_fld (st_load R2 rfl rfl (st_asI (st_fld (st_load R2 rfl rfl ?_)))))))
  have hmx := maxLen_is
  have hw' := hw.q
  refine check_c (cm := commonS) LP (LT.ext U2) (by rw [List.length_take]; omega) (by omega) (fun c hc => wf_short (hw'.1 c (List.mem_of_mem_take hc))) (by have := hw.2.2; omega) (fun c hc _ => commonAt (G.ext U2) (by
    have := (hw'.1 c (List.mem_of_mem_take (List.mem_of_getElem? hc))).2.2.1; omega)) fun wb h3 U3 B => ?_
  have R3 := R2.upd U3 fun h => h
  have A3 := A.upd U3 fun _ _ h => h
  refine st_load R3 rfl rfl ⟨rfl, st_load R3 rfl rfl ⟨rfl, A3.len ?_⟩⟩
  exact parts_p1 A3 B (by have := check_len (cm := commonS) (tr := q.tr) (x := q.host) (at' := q.at') (ch := q.ch); omega) (by have := check_len (cm := commonS) (tr := q.tr) (x := q.host) (at' := q.at') (ch := q.ch.take (n % q.ch.length + 1)); omega)
    (fun m hm => out_range hm) (fun i a b h1 h2 => out_asc h1 h2) (fun m hm hs => check_part (by omega) hs hne (List.contains_iff_mem.2 hm)) _ 0 rfl

theorem walk_CertcheckParts {H : Type} {enc : TypeId × Value → H} {v0 : Value} {n1 : Int} (W : World) (hL : laidMet Tryz.prog Rows.certcheckPartsRow.laid W) (r0 : InW enc Tryz.prog W 26 v0.cells.toList) (r1 : InW enc Tryz.prog W 5 (Value.int .u8 n1).cells.toList) :
    Calls Tryz.prog G_law35_CertcheckParts.id #[v0, .int .u8 n1] W fun e w' => e = .returned (.bool true) ∧ Below W.heap.size W w' := by
  obtain ⟨cs, q, hv, hq, hw⟩ := queR r0
  obtain ⟨m, e1, hm⟩ := r1.int (show Tryz.prog.underlying 5 = some (.int .u8) by kernel_rfl)
  cases List.singleton_inj.1 e1
  have hb := u8_bd hm
  obtain ⟨n, rfl⟩ : ∃ n : Nat, n1 = (n : Int) := ⟨n1.toNat, by omega⟩
  exact law_callsAt mixedOK sizeOK (soundX (tab_ok (l := Rows.certcheckPartsRow.laid) (List.mem_of_getElem? (i := 2) rfl) hL)) (by kernel_rfl) (szOf := fun _ => 1) (.cons _ _ _ _ hv (.cons _ _ _ _ (.i _ _) .nil))
    (parts_c (by omega) (cg_of (l := Rows.certcheckPartsRow.laid) (List.mem_of_getElem? (i := 5) rfl) (List.mem_of_getElem? (i := 4) rfl) (List.mem_of_getElem? (i := 6) rfl) hL) hq hw)

end Go.Proofs.YtomghnmoomodiaaGreatDoor

