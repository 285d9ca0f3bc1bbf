/- Regions of open order, the run: what is taken in one order holds for all. -/
import Derived.Test.YtffgchcidkapjaaDoorAmO2
set_option linter.unusedVariables false
set_option linter.unusedSimpArgs false
namespace Go.GAM

section
variable {ds : List Deferred} {rd : Option Nat} {P : Program} {w0 : World} {Fz : Nat → Prop} {nt : Nat} {ops : Array Oper}

def Ordered (ops : Array Oper) : List Nat → Prop
  | [] => True
  | k :: D => (∃ o, ops[k]? = some o ∧ ∀ ed ∈ o.after, Region.binds .any ed = true → ed.on ∈ D) ∧ Ordered ops D

structure JInv (ds : List Deferred) (P : Program) (w0 : World) (Fz : Nat → Prop) (nt : Nat) (ops : Array Oper) (μ0 : Mu) (listed : Array Bool) (a : Act) (w : World) (μ : Mu) (own : Nat → Option Nat) (e : Env) (h : AHeap) (D U : List Nat) : Prop where
  rel : Rel w0 Fz μ own h w
  sub : Sub μ0 μ
  env : EnvOut ds μ nt (fun t => ∃ k ∈ U, dstAt ops k = some t) e a
  size : listed.size = ops.size
  list : ∀ j, j < ops.size → (listed.getD j false = true ↔ (j ∈ D ∧ j ∉ U))
  inD : ∀ k ∈ U, k ∈ D
  pend : ∀ k ∈ U, ∃ o, ops[k]? = some o ∧ dstOK nt o = true ∧ isEff P o = false ∧ Pend P ops o e h
  apart : ∀ k ∈ U, ∀ j ∈ U, clash ops j k = true → waits ops k j = true
  ordd : Ordered ops D

theorem ready_waits {listed : Array Bool} {x k : Nat} (hr : x ∈ Region.ready .any ops listed) (hw : waits ops x k = true) : listed.getD k false = true := by
  obtain ⟨_, o, ho, hall⟩ := mem_ready.1 hr
  obtain ⟨o', ho', e, he, hb, rfl⟩ := Region.waitsFor_spec hw
  rw [ho] at ho'
  injection ho' with ho'
  subst ho'
  exact hall e he hb

theorem ready_lt {listed : Array Bool} {x : Nat} (hr : x ∈ Region.ready .any ops listed) : x < ops.size := by
  obtain ⟨_, o, ho, _⟩ := mem_ready.1 hr
  exact (Array.getElem?_eq_some_iff.1 ho).1

theorem clash_of {x y : Nat} {o o' : Oper} (ho : ops[x]? = some o) (ho' : ops[y]? = some o') {d : Nat} (hd : o.dst = some d) (hm : d ∈ o'.looksAt ops) : clash ops x y = true := by
  unfold clash dstAt looksO
  simp [ho, ho', hd, hm]

theorem clash_not {x y : Nat} {o o' : Oper} (ho : ops[x]? = some o) (ho' : ops[y]? = some o') (hc : clash ops x y = false) {t : Nat} (ht : t ∈ o'.looksAt ops) : o.dst ≠ some t := by
  intro hd
  rw [clash_of ho ho' hd ht] at hc
  cases hc

theorem sameDst_not {x y : Nat} {o o' : Oper} (ho : ops[x]? = some o) (ho' : ops[y]? = some o') (hc : sameDst ops x y = false) {t : Nat} (ht : o'.dst = some t) : o.dst ≠ some t := by
  intro hd
  unfold sameDst dstAt at hc
  simp [ho, ho', hd, ht] at hc

variable {μ0 : Mu} {listed : Array Bool} {a : Act} {w : World} {μ : Mu} {own : Nat → Option Nat} {e : Env} {h : AHeap} {D U : List Nat}

theorem getD_set_self {listed : Array Bool} {i : Nat} (h : i < listed.size) : (listed.setIfInBounds i true).getD i false = true := by simp [h]

theorem JInv.unlisted (J : JInv ds P w0 Fz nt ops μ0 listed a w μ own e h D U) {k : Nat} (hk : k ∈ U) : listed.getD k false = false := by
  obtain ⟨o, ho, _⟩ := J.pend k hk
  cases hl : listed.getD k false with
  | false => rfl
  | true => exact absurd hk ((J.list k (Array.getElem?_eq_some_iff.1 ho).1).1 hl).2

/-- What a ready operation looks at is there. -/
theorem JInv.seen (J : JInv ds P w0 Fz nt ops μ0 listed a w μ own e h D U) {x : Nat} {o : Oper} (ho : ops[x]? = some o) (hr : x ∈ Region.ready .any ops listed)
    (hc : ∀ j ∈ U, clash ops j x = true → waits ops x j = true) : EnvRel ds μ nt (restr (o.looksAt ops) e) a := by
  refine J.env.restr fun t ht ⟨k, hk, hd⟩ => ?_
  unfold dstAt at hd
  obtain ⟨ok, hok, hd⟩ := Option.bind_eq_some_iff.1 hd
  have h1 := ready_waits hr (hc k hk (clash_of hok ho hd ht))
  rw [J.unlisted hk] at h1
  cases h1

theorem JInv.take {R : CallR} {μb : Mu} (hR : SoundAt P w0 Fz μb R) (hsb : Sub μb μ0) (J : JInv ds P w0 Fz nt ops μ0 listed a w μ own e h D U) {x : Nat} (hx : x ∈ U) (hr : x ∈ Region.ready .any ops listed)
    {next : Act → World → Prop} {Q : Exit → Act → World → Prop}
    (hn : ∀ a' w' μ' own', JInv ds P w0 Fz nt ops μ0 (listed.setIfInBounds x true) a' w' μ' own' e h D (U.filter (· != x)) → next a' w') : wpOpIn (FR rd) 0 P ops Q x next a w := by
  obtain ⟨o, ho, hd, hne, hp⟩ := J.pend x hx
  have hE := J.seen ho hr (J.apart x hx)
  have hxs := ready_lt hr
  have key : ∀ cv μ' own' w', Rel w0 Fz μ' own' h w' → Sub μ μ' → (∀ d, o.dst = some d → VRel μ' (lk e d) cv) →
      JInv ds P w0 Fz nt ops μ0 (listed.setIfInBounds x true) (a.put o.dst cv) w' μ' own' e h D (U.filter (· != x)) := by
    intro cv μ' own' w' g1 g2 g3
    have hmem : ∀ k, k ∈ U.filter (· != x) ↔ k ∈ U ∧ k ≠ x := by intro k; simp
    refine ⟨g1, J.sub.trans g2, ?_, by simp [J.size], fun j hj => ?_, fun k hk => J.inD k ((hmem k).1 hk).1, fun k hk => ?_, fun k hk j hj => J.apart k ((hmem k).1 hk).1 j ((hmem j).1 hj).1, J.ordd⟩
    · refine (J.env.mono g2).put hd fun t ht => ?_
      by_cases hdt : o.dst = some t
      · exact .inl ⟨t, hdt, rfl, g3 t hdt⟩
      · refine .inr ⟨hdt, fun ⟨k, hk, hkd⟩ => ?_, rfl⟩
        by_cases hkx : k = x
        · subst hkx
          unfold dstAt at hkd
          rw [ho] at hkd
          exact hdt hkd
        · exact ht ⟨k, (hmem k).2 ⟨hk, hkx⟩, hkd⟩
    · by_cases hjx : j = x
      · subst hjx
        rw [getD_set_self (by rw [J.size]; exact hxs)]
        simp only [true_iff]
        exact ⟨J.inD j hx, fun hm => ((hmem j).1 hm).2 rfl⟩
      · rw [getD_set_ne false (Ne.symm hjx), J.list j hj, hmem]
        exact ⟨fun ⟨h1, h2⟩ => ⟨h1, fun h3 => h2 h3.1⟩, fun ⟨h1, h2⟩ => ⟨h1, fun h3 => h2 ⟨h3, hjx⟩⟩⟩
    · exact J.pend k ((hmem k).1 hk).1
  unfold wpOpIn
  simp only [ho]
  rcases hp with ⟨hw, hk⟩ | ⟨hw, hs⟩
  · rw [if_pos (wantE_sound hE hw)]
    refine aop_wp hR (hsb.trans J.sub) J.rel hE (K := fun v h' => h' = h ∧ shapeO P o v fun v => sameAt e o.dst v) ?_ fun v cv μ' own' h' w' h1 h2 h3 h4 => ?_
    · unfold aop
      rw [hne]
      simp only [cond_false]
      obtain ⟨v, h1, h2⟩ := aopN_det hk
      exact h2 (fun v => True ∧ shapeO P o v fun v => sameAt e o.dst v) ⟨trivial, h1⟩
    · obtain ⟨rfl, h1⟩ := h1
      have h1 := shapeO_sound h2 h1
      refine hn _ _ _ _ (key cv μ' own' w' h3 h4 fun d hd' => ?_)
      simp only [sameAt, hd'] at h1
      rw [h1]; exact h2
  · rw [if_neg (by simp [wantE_sound hE hw])]
    refine ⟨fun _ _ => trivial, ?_⟩
    refine hn _ _ _ _ (key undef μ own w J.rel (Sub.refl _) fun d hd' => ?_)
    simp only [sameAt, hd'] at hs
    rw [hs]; exact .tu [] #[] .nil

theorem fits_spec {eff : Bool} {x : Nat} (hf : fits ops eff D x = true) :
    (∀ j ∈ D, (clash ops j x = true → waits ops x j = true) ∧ ((clash ops x j = false ∧ sameDst ops x j = false) ∨ (eff = true ∧ waits ops x j = true))) ∧
    (∃ o, ops[x]? = some o ∧ ∀ ed ∈ o.after, Region.binds .any ed = true → ed.on ∈ D) ∧ x ∉ D ∧ (eff = false → clash ops x x = false) := by
  unfold fits at hf
  simp only [Bool.and_eq_true, List.all_eq_true, Bool.or_eq_true, Bool.not_eq_true', Bool.not_eq_eq_eq_not, Bool.not_true] at hf
  obtain ⟨⟨⟨h1, h2⟩, h3⟩, h4⟩ := hf
  refine ⟨fun j hj => ⟨fun hc => ?_, ?_⟩, ?_, ?_, ?_⟩
  · rcases (h1 j hj).1 with h | h
    · rw [h] at hc; cases hc
    · exact h
  · exact (h1 j hj).2
  · cases ho : ops[x]? with
    | none => rw [ho] at h2; cases h2
    | some o =>
      rw [ho] at h2
      refine ⟨o, rfl, fun ed he hb => ?_⟩
      simp only [Array.all_eq_true_iff_forall_mem, Bool.or_eq_true, Bool.not_eq_true'] at h2
      rcases h2 ed he with h | h
      · rw [h] at hb; cases hb
      · simpa using h
  · simpa using h3
  · intro he
    rcases h4 with h | h
    · rw [h] at he; cases he
    · exact h

/-- An operation that changes nothing is taken, at once or later. -/
theorem JInv.neu (J : JInv ds P w0 Fz nt ops μ0 listed a w μ own e h D U) {x : Nat} {o : Oper} (ho : ops[x]? = some o) (hf : fits ops false D x = true) (hd : dstOK nt o = true) (hne : isEff P o = false)
    {e1 : Env} (he1 : ∀ t, lk e1 t = lk e t) {v : AV} (hp : (wantE ops o e = some true ∧ ∀ K' : AV → Prop, K' v → aopN P o (restr (o.looksAt ops) e1) h fun v => shapeO P o v K') ∨ (wantE ops o e = some false ∧ v = .tu [])) :
    JInv ds P w0 Fz nt ops μ0 listed a w μ own (put e1 o.dst v) h (x :: D) (x :: U) := by
  obtain ⟨hD, hE, hxD, hxx⟩ := fits_spec hf
  have hxx := hxx rfl
  have hl : ∀ t, o.dst ≠ some t → lk (put e1 o.dst v) t = lk e t := fun t ht => by rw [lk_put, if_neg ht, he1]
  have hfree : ∀ j ∈ D, clash ops x j = false ∧ sameDst ops x j = false := fun j hj => ((hD j hj).2).resolve_right (by simp)
  refine ⟨J.rel, J.sub, ?_, J.size, fun j hj => ?_, fun k hk => ?_, fun k hk => ?_, fun k hk j hj hc => ?_, ⟨hE, J.ordd⟩⟩
  · refine ⟨J.env.1, J.env.2, fun t ht => ?_⟩
    have h1 : o.dst ≠ some t := fun hd => ht ⟨x, by simp, by unfold dstAt; rw [ho]; exact hd⟩
    rw [hl t h1]
    exact J.env.3 t fun ⟨k, hk, hkd⟩ => ht ⟨k, by simp [hk], hkd⟩
  · rw [J.list j hj]
    by_cases hjx : j = x
    · subst hjx; simp [hxD]
    · simp [hjx]
  · rcases List.mem_cons.1 hk with rfl | hk
    · simp
    · exact List.mem_cons_of_mem _ (J.inD k hk)
  · rcases List.mem_cons.1 hk with rfl | hk
    · refine ⟨o, ho, hd, hne, ?_⟩
      have hs : sameAt (put e1 o.dst v) o.dst v := by
        unfold sameAt
        cases hd' : o.dst with
        | none => trivial
        | some d => simp only [lk_put, if_true]
      have hlk : ∀ t ∈ o.looksAt ops, lk (put e1 o.dst v) t = lk e1 t := fun t ht => by rw [lk_put, if_neg (clash_not ho ho hxx ht)]
      have hlk2 : ∀ t ∈ o.looksAt ops, lk (put e1 o.dst v) t = lk e t := fun t ht => by rw [hlk t ht, he1]
      unfold Pend
      rw [wantE_congr hlk2, restr_congr hlk]
      rcases hp with ⟨h1, h2⟩ | ⟨h1, h2⟩
      · exact .inl ⟨h1, h2 _ hs⟩
      · exact .inr ⟨h1, h2 ▸ hs⟩
    · obtain ⟨ok, hok, h1, h2, h3⟩ := J.pend k hk
      have hf := hfree k (J.inD k hk)
      exact ⟨ok, hok, h1, h2, h3.congr (fun t ht => (hl t (clash_not ho hok hf.1 ht)).symm) fun d hd => (hl d (sameDst_not ho hok hf.2 hd)).symm⟩
  · rcases List.mem_cons.1 hk with hkx | hk'
    · rcases List.mem_cons.1 hj with hjx | hj'
      · rw [hkx, hjx, hxx] at hc; cases hc
      · rw [hkx] at hc ⊢; exact (hD j (J.inD j hj')).1 hc
    · rcases List.mem_cons.1 hj with hjx | hj'
      · rw [hjx, (hfree k (J.inD k hk')).1] at hc; cases hc
      · exact J.apart k hk' j hj' hc

end
end Go.GAM
