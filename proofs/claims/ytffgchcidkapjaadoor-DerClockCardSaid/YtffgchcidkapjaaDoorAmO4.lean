/- Regions of open order, joined. -/
import Derived.Test.YtffgchcidkapjaaDoorAmO3
set_option linter.unusedVariables false
set_option linter.unusedSimpArgs false
namespace Go.GAM

section
variable {ds : List Deferred} {rd : Option Nat} {P : Program} {w0 : World} {Fz : Nat → Prop} {nt : Nat} {ops : Array Oper}
variable {μ0 : Mu} {listed : Array Bool} {a : Act} {w : World} {μ : Mu} {own : Nat → Option Nat} {e : Env} {h : AHeap} {D U : List Nat}

theorem Rel.same (R : Rel w0 Fz μ own h w) {w' : World} (hs : Same w w') (hsz : w.heap.size ≤ w'.heap.size) (h1 : w'.os = w.os) (h2 : w'.tape = w.tape) (h3 : w'.output = w.output) : Rel w0 Fz μ own h w' :=
  R.step h1 h2 h3 hsz (fun B hB => hs B (Nat.lt_of_lt_of_le (R.fz B hB).1 R.size0)) (fun B id hB => Nat.lt_of_lt_of_le (R.ownlt B id hB) hsz) (Sub.refl _) R.mulen
    fun id b hb hl => .inl ⟨hb, fun _ => rfl, fun B hB => ⟨hB, hs B (R.ownlt B id hB)⟩⟩

/-- What an operation that must come just here asks. -/
def nowA (P : Program) (R : CallR) (nt : Nat) (ops : Array Oper) (i : Nat) (o : Oper) (r : Ord) (D : List Nat) (e : Env) (h : AHeap) (K : Env → AHeap → Prop) : Prop :=
  guardA ops o e (fun e => aop P R o (restr (o.looksAt ops) e) h fun v h' => shapeO P o v fun v =>
      bif isEff P o then againA P ops i (put e o.dst v) h' (aOrd P R nt ops r (i :: D) (put e o.dst v) h' K) D else aOrd P R nt ops r (i :: D) (put e o.dst v) h' K)
    (fun e => aOrd P R nt ops r (i :: D) (put e o.dst (.tu [])) h K)

theorem JInv.eff {R : CallR} {μb : Mu} (hR : SoundAt P w0 Fz μb R) (hsb : Sub μb μ0) {K : Env → AHeap → Prop} (J : JInv ds P w0 Fz nt ops μ0 listed a w μ own e h D U) {x : Nat} {o : Oper} {r : Ord} (ho : ops[x]? = some o) (hr : x ∈ Region.ready .any ops listed)
    (hf : fits ops true D x = true) (hd : dstOK nt o = true) (hk : nowA P R nt ops x o r D e h K) {next : Act → World → Prop} {Q : Exit → Act → World → Prop}
    (hn : ∀ a' w' μ' own' e' h', JInv ds P w0 Fz nt ops μ0 (listed.setIfInBounds x true) a' w' μ' own' e' h' (x :: D) U → aOrd P R nt ops r (x :: D) e' h' K → next a' w') : wpOpIn (FR rd) 0 P ops Q x next a w := by
  obtain ⟨hD, hEd, hxD, _⟩ := fits_spec hf
  have hxs := ready_lt hr
  have hxU : x ∉ U := fun hm => hxD (J.inD x hm)
  have hE0 := J.seen ho hr fun j hj => (hD j (J.inD j hj)).1
  obtain ⟨e1, he1, hk⟩ := guardA_split hk
  have hre : restr (o.looksAt ops) e1 = restr (o.looksAt ops) e := restr_congr fun t _ => he1 t
  have hl : ∀ v t, o.dst ≠ some t → lk (put e1 o.dst v) t = lk e t := fun v t ht => by rw [lk_put, if_neg ht, he1]
  have hfree : ∀ k ∈ U, clash ops x k = false ∧ sameDst ops x k = false ∧ waits ops x k = false := by
    intro k hk
    have hw : waits ops x k = false := by
      cases hw : waits ops x k with
      | false => rfl
      | true => have := ready_waits hr hw; rw [J.unlisted hk] at this; cases this
    rcases (hD k (J.inD k hk)).2 with ⟨h1, h2⟩ | ⟨_, h2⟩
    · exact ⟨h1, h2, hw⟩
    · rw [hw] at h2; cases h2
  have key : ∀ v cv μ' own' h' w', Rel w0 Fz μ' own' h' w' → Sub μ μ' → VRel μ' v cv → (∀ k ∈ U, ∀ ok, ops[k]? = some ok → isEff P ok = false → Pend P ops ok e h → Pend P ops ok (put e1 o.dst v) h') →
      JInv ds P w0 Fz nt ops μ0 (listed.setIfInBounds x true) (a.put o.dst cv) w' μ' own' (put e1 o.dst v) h' (x :: D) U := by
    intro v cv μ' own' h' w' g1 g2 g3 g4
    refine ⟨g1, J.sub.trans g2, ?_, by simp [J.size], fun j hj => ?_, fun k hk => List.mem_cons_of_mem _ (J.inD k hk), fun k hk => ?_, J.apart, ⟨hEd, J.ordd⟩⟩
    · refine (J.env.mono g2).put hd fun t ht => ?_
      by_cases hdt : o.dst = some t
      · exact .inl ⟨t, hdt, rfl, by rw [lk_put, if_pos hdt]; exact g3⟩
      · exact .inr ⟨hdt, ht, hl v t hdt⟩
    · by_cases hjx : j = x
      · subst hjx
        rw [getD_set_self (by rw [J.size]; exact hxs)]
        simp [hxU]
      · rw [getD_set_ne false (Ne.symm hjx), J.list j hj]
        simp [hjx]
    · obtain ⟨ok, hok, h1, h2, h3⟩ := J.pend k hk
      exact ⟨ok, hok, h1, h2, g4 k hk ok hok h2 h3⟩
  have same : ∀ v k, k ∈ U → ∀ ok, ops[k]? = some ok → ∀ h', Pend P ops ok e h' → Pend P ops ok (put e1 o.dst v) h' := by
    intro v k hk ok hok h' hp
    have hf := hfree k hk
    exact hp.congr (fun t ht => (hl v t (clash_not ho hok hf.1 ht)).symm) fun d hd => (hl v d (sameDst_not ho hok hf.2.1 hd)).symm
  unfold wpOpIn
  simp only [ho]
  rcases hk with ⟨hw, hk⟩ | ⟨hw, hk⟩
  · rw [if_pos (wantE_sound hE0 hw)]
    rw [hre] at hk
    cases hne : isEff P o with
    | false =>
      refine aop_wp hR (hsb.trans J.sub) J.rel hE0 (K := fun v h' => h' = h ∧ shapeO P o v fun v => aOrd P R nt ops r (x :: D) (put e1 o.dst v) h K) ?_ fun v cv μ' own' h' w' h1 h2 h3 h4 => ?_
      · unfold aop at hk ⊢
        rw [hne] at hk ⊢
        simp only [cond_false] at hk ⊢
        obtain ⟨v, h1, h2⟩ := aopN_det hk
        exact h2 (fun v => True ∧ shapeO P o v fun v => aOrd P R nt ops r (x :: D) (put e1 o.dst v) h K) ⟨trivial, h1⟩
      · obtain ⟨rfl, h1⟩ := h1
        have h1 := shapeO_sound h2 h1
        exact hn _ _ _ _ _ _ (key v cv μ' own' _ w' h3 h4 h2 fun k hk ok hok hke hp => same v k hk ok hok _ hp) h1
    | true =>
      refine aop_wp hR (hsb.trans J.sub) J.rel hE0 hk fun v cv μ' own' h' w' h1 h2 h3 h4 => ?_
      simp only [hne, cond_true] at h1
      have h1 := shapeO_sound h2 h1
      obtain ⟨h1, hag⟩ := againA_split h1
      refine hn _ _ _ _ _ _ (key v cv μ' own' h' w' h3 h4 h2 fun k hk ok hok hke hp => ?_) h1
      cases hrd : readsA P ok with
      | true => exact hag k (J.inD k hk) ok hok hrd hke (hfree k hk).2.2
      | false => exact (same v k hk ok hok _ hp).heap hrd
  · rw [if_neg (by simp [wantE_sound hE0 hw])]
    refine ⟨fun _ _ => trivial, ?_⟩
    exact hn _ _ _ _ _ _ (key (.tu []) undef μ own h w J.rel (Sub.refl _) (.tu [] #[] .nil) fun k hk ok hok hke hp => same _ k hk ok hok _ hp) hk

end
end Go.GAM
