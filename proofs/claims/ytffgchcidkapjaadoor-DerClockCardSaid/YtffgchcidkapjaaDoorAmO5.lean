/- Regions of open order: one order for all. -/
import Derived.Test.YtffgchcidkapjaaDoorAmO4
set_option linter.unusedVariables false
set_option linter.unusedSimpArgs false
namespace Go.GAM

section
variable {ds : List Deferred} {rd : Option Nat} {P : Program} {w0 : World} {Fz : Nat → Prop} {nt : Nat} {ops : Array Oper}
variable {μ0 : Mu} {listed : Array Bool} {a : Act} {w : World} {μ : Mu} {own : Nat → Option Nat} {e : Env} {h : AHeap} {D U : List Nat}

def unl (listed : Array Bool) (n : Nat) : Nat := ((List.range n).filter fun j => !listed.getD j true).length

theorem unl_set {n x : Nat} (hx : x < n) (hu : listed.getD x true = false) (hs : listed.size = n) : unl (listed.setIfInBounds x true) n < unl listed n := by
  unfold unl
  have h1 : (List.range n).filter (fun j => !(listed.setIfInBounds x true).getD j true) = ((List.range n).filter fun j => !listed.getD j true).filter (fun j => decide (j ≠ x)) := by
    rw [List.filter_filter]
    refine List.filter_congr fun j hj => ?_
    by_cases hjx : x = j
    · subst hjx
      have : (listed.setIfInBounds x true).getD x true = true := by simp [hs, hx]
      rw [this]; simp
    · rw [getD_set_ne true hjx]
      have : j ≠ x := fun e => hjx e.symm
      simp [this]
  rw [h1]
  refine List.length_filter_lt_length_iff_exists.2 ⟨x, ?_, by simp⟩
  rw [List.mem_filter]
  exact ⟨List.mem_range.2 hx, by rw [hu]; rfl⟩

theorem unl_zero {n x : Nat} (hx : x < n) (hu : listed.getD x true = false) : 0 < unl listed n := by
  unfold unl
  refine List.length_pos_of_mem (a := x) ?_
  rw [List.mem_filter]
  exact ⟨List.mem_range.2 hx, by rw [hu]; rfl⟩

theorem Ordered.lt : ∀ {D : List Nat}, Ordered ops D → ∀ k ∈ D, k < ops.size
  | k :: D, hO, k', hk => by
    rcases List.mem_cons.1 hk with rfl | hk
    · obtain ⟨⟨o, ho, _⟩, _⟩ := hO; exact (Array.getElem?_eq_some_iff.1 ho).1
    · exact Ordered.lt hO.2 k' hk

theorem Ordered.first : ∀ {D : List Nat}, Ordered ops D → (∃ k ∈ D, k ∈ U) → ∃ k ∈ U, ∃ o, ops[k]? = some o ∧ ∀ ed ∈ o.after, Region.binds .any ed = true → ed.on ∈ D ∧ ed.on ∉ U
  | [], _, ⟨k, hk, _⟩ => by cases hk
  | k :: D, hO, hex => by
    by_cases hD : ∃ k' ∈ D, k' ∈ U
    · obtain ⟨k', hk', o, ho, hall⟩ := Ordered.first hO.2 hD
      exact ⟨k', hk', o, ho, fun ed he hb => ⟨List.mem_cons_of_mem _ (hall ed he hb).1, (hall ed he hb).2⟩⟩
    · obtain ⟨⟨o, ho, hall⟩, _⟩ := hO
      obtain ⟨k', hk', hu⟩ := hex
      rcases List.mem_cons.1 hk' with rfl | hk'
      · exact ⟨k', hu, o, ho, fun ed he hb => ⟨List.mem_cons_of_mem _ (hall ed he hb), fun hm => hD ⟨_, hall ed he hb, hm⟩⟩⟩
      · exact absurd ⟨k', hk', hu⟩ hD

theorem JInv.getD (J : JInv ds P w0 Fz nt ops μ0 listed a w μ own e h D U) {x : Nat} (hx : x < ops.size) (hl : listed.getD x false = false) : listed.getD x true = false :=
  getD_in (by rw [J.size]; exact hx) hl

theorem JInv.some_ready (J : JInv ds P w0 Fz nt ops μ0 listed a w μ own e h D U) (hU : ∃ k, k ∈ U) : Region.ready .any ops listed ≠ [] := by
  obtain ⟨k, hk⟩ := hU
  obtain ⟨k, hk, o, ho, hall⟩ := J.ordd.first ⟨k, J.inD k hk, hk⟩
  have hlt := (Array.getElem?_eq_some_iff.1 ho).1
  have : k ∈ Region.ready .any ops listed := mem_ready.2 ⟨J.getD hlt (J.unlisted hk), o, ho, fun ed he hb => by
    have h1 := hall ed he hb
    exact (J.list _ (J.ordd.lt _ h1.1)).2 h1⟩
  intro h0; rw [h0] at this; cases this

theorem JInv.head_ready (J : JInv ds P w0 Fz nt ops μ0 listed a w μ own e h D []) {x : Nat} (hf : fits ops true D x = true) : x ∈ Region.ready .any ops listed := by
  obtain ⟨_, ⟨o, ho, hall⟩, hxD, _⟩ := fits_spec hf
  have hlt := (Array.getElem?_eq_some_iff.1 ho).1
  refine mem_ready.2 ⟨J.getD hlt ?_, o, ho, fun ed he hb => ?_⟩
  · cases hl : listed.getD x false with
    | false => rfl
    | true => exact absurd ((J.list x hlt).1 hl).1 hxD
  · exact (J.list _ (J.ordd.lt _ (hall ed he hb))).2 ⟨hall ed he hb, by simp⟩

section
variable (ds rd P w0 Fz nt ops μ0)
def GoalO (R : CallR) (K : Env → AHeap → Prop) (Q : Exit → Act → World → Prop) (ord : Ord) : Prop :=
  ∀ (fuel : Nat) (listed : Array Bool) (a : Act) (w : World) (μ : Mu) (own : Nat → Option Nat) (e : Env) (h : AHeap) (D U : List Nat), JInv ds P w0 Fz nt ops μ0 listed a w μ own e h D U → ordOK ops true ord D = true →
    aOrd P R nt ops ord D e h K → unl listed ops.size ≤ fuel → wpAnyIn (FR rd) 0 P .any ops Q fuel listed a w

def HeadsO (R : CallR) (K : Env → AHeap → Prop) (Q : Exit → Act → World → Prop) (ord : Ord) : Prop :=
  ∀ (b : Bool) (D : List Nat) (e : Env) (h : AHeap) (x : Nat), x ∈ heads ord → ordOK ops b ord D = true → aOrd P R nt ops ord D e h K →
    ∃ o r, ops[x]? = some o ∧ GoalO ds rd P w0 Fz nt ops μ0 R K Q r ∧ fits ops true D x = true ∧ dstOK nt o = true ∧ ordOK ops true r (x :: D) = true ∧ nowA P R nt ops x o r D e h K
end

theorem any_step {R : CallR} {μb : Mu} (hR : SoundAt P w0 Fz μb R) (hsb : Sub μb μ0) {K : Env → AHeap → Prop} {Q : Exit → Act → World → Prop} {e : Env} {h : AHeap} {D : List Nat}
    (hnode : ∀ listed a w μ own U, JInv ds P w0 Fz nt ops μ0 listed a w μ own e h D U → Region.ready .any ops listed = [] → Q .normal a w)
    (hhead : ∀ listed a w μ own U, JInv ds P w0 Fz nt ops μ0 listed a w μ own e h D U → ∀ x ∈ Region.ready .any ops listed, x ∉ U →
      ∃ o r, ops[x]? = some o ∧ GoalO ds rd P w0 Fz nt ops μ0 R K Q r ∧ fits ops true D x = true ∧ dstOK nt o = true ∧ ordOK ops true r (x :: D) = true ∧ nowA P R nt ops x o r D e h K) :
    ∀ (fuel : Nat) (listed : Array Bool) (a : Act) (w : World) (μ : Mu) (own : Nat → Option Nat) (U : List Nat), JInv ds P w0 Fz nt ops μ0 listed a w μ own e h D U → unl listed ops.size ≤ fuel → wpAnyIn (FR rd) 0 P .any ops Q fuel listed a w := by
  intro fuel
  induction fuel with
  | zero =>
    intro listed a w μ own U J hu
    have h0 : Region.ready .any ops listed = [] := by
      cases hr : Region.ready .any ops listed with
      | nil => rfl
      | cons x l =>
        have hx : x ∈ Region.ready .any ops listed := by rw [hr]; simp
        have := unl_zero (ready_lt hx) (mem_ready.1 hx).1
        omega
    exact ⟨h0, hnode _ _ _ _ _ _ J h0⟩
  | succ fuel ih =>
    intro listed a w μ own U J hu
    refine ⟨hnode _ _ _ _ _ _ J, fun x hx => ?_⟩
    have hlt := unl_set (ready_lt hx) (mem_ready.1 hx).1 J.size
    by_cases hxU : x ∈ U
    · exact J.take hR hsb hxU hx fun a' w' μ' own' J' => ih _ _ _ _ _ _ J' (by omega)
    · obtain ⟨o, r, ho, hG, hf, hd, hok, hk⟩ := hhead _ _ _ _ _ _ J x hx hxU
      exact J.eff hR hsb ho hx hf hd hk fun a' w' μ' own' e' h' J' hk' => hG fuel _ _ _ _ _ _ _ _ _ J' hok hk' (by omega)

theorem aOrd_any {R : CallR} {μb : Mu} (hR : SoundAt P w0 Fz μb R) (hsb : Sub μb μ0) {K : Env → AHeap → Prop} {Q : Exit → Act → World → Prop}
    (hQ : ∀ e h a w μ own, K e h → Rel w0 Fz μ own h w → EnvRel ds μ nt e a → Sub μ0 μ → Q .normal a w) :
    ∀ ord : Ord, GoalO ds rd P w0 Fz nt ops μ0 R K Q ord ∧ HeadsO ds rd P w0 Fz nt ops μ0 R K Q ord := by
  intro ord
  induction ord with
  | stop =>
    refine ⟨fun fuel listed a w μ own e h D U J hok => ?_, fun b D e h x hx => by cases hx⟩
    simp [ordOK] at hok
  | done =>
    refine ⟨fun fuel listed a w μ own e h D U J hok hk hu => ?_, fun b D e h x hx => by cases hx⟩
    simp only [ordOK, List.all_eq_true, List.mem_range] at hok
    have hall : ∀ j < ops.size, j ∈ D := fun j hj => by simpa using hok j hj
    refine any_step hR hsb (K := K) (fun listed a w μ own U J h0 => ?_) (fun listed a w μ own U J x hx hxU => ?_) fuel listed a w μ own U J hu
    · have hU : ¬ ∃ k, k ∈ U := fun h1 => J.some_ready h1 h0
      refine hQ e h a w μ own hk J.rel ⟨J.env.1, J.env.2, fun t => J.env.3 t fun ⟨k, hk, _⟩ => hU ⟨k, hk⟩⟩ J.sub
    · have hlt := ready_lt hx
      have h1 := (J.list x hlt).2 ⟨hall x hlt, hxU⟩
      have h2 := getD_both (mem_ready.1 hx).1
      rw [h1] at h2; cases h2
  | neu i r ih =>
    refine ⟨fun fuel listed a w μ own e h D U J hok hk hu => ?_, fun b D e h x hx => by cases hx⟩
    simp only [ordOK, Bool.true_and, Bool.and_eq_true] at hok
    obtain ⟨hf, hok⟩ := hok
    unfold aOrd at hk
    cases ho : ops[i]? with
    | none => rw [ho] at hk; exact hk.elim
    | some o =>
      rw [ho] at hk
      obtain ⟨hd, hk⟩ := bif_true hk
      simp only [Bool.and_eq_true, Bool.not_eq_true'] at hd
      obtain ⟨e1, he1, hk⟩ := guardA_split hk
      rcases hk with ⟨hw, hk⟩ | ⟨hw, hk⟩
      · obtain ⟨v, h1, h2⟩ := aopN_det hk
        obtain ⟨v', h3, h4⟩ := shapeO_det h1
        exact ih.1 fuel _ _ _ _ _ _ _ _ _ (J.neu ho hf hd.1 hd.2 he1 (v := v') (.inl ⟨hw, fun K' hK' => h2 _ (h4 _ hK')⟩)) hok h3 hu
      · exact ih.1 fuel _ _ _ _ _ _ _ _ _ (J.neu ho hf hd.1 hd.2 he1 (v := .tu []) (.inr ⟨hw, rfl⟩)) hok hk hu
  | eff i r alt ihr iha =>
    have HH : HeadsO ds rd P w0 Fz nt ops μ0 R K Q (.eff i r alt) := by
      intro b D e h x hx hok hk
      simp only [ordOK, Bool.and_eq_true] at hok
      obtain ⟨⟨⟨_, hf⟩, hr⟩, ha⟩ := hok
      unfold aOrd at hk
      cases ho : ops[i]? with
      | none => rw [ho] at hk; exact hk.elim
      | some o =>
        rw [ho] at hk
        obtain ⟨hd, hk⟩ := bif_true hk
        have hk' : nowA P R nt ops i o r D e h K ∧ (alt.isStop = false → aOrd P R nt ops alt D e h K) := by
          cases hs : alt.isStop with
          | true => rw [hs] at hk; exact ⟨hk, fun h => by cases h⟩
          | false => rw [hs] at hk; exact ⟨hk.1, fun _ => hk.2⟩
        simp only [heads, List.mem_cons] at hx
        rcases hx with rfl | hx
        · exact ⟨o, r, ho, ihr.1, hf, hd, hr, hk'.1⟩
        · refine iha.2 false D e h x hx ha (hk'.2 ?_)
          cases alt <;> first | rfl | (simp [heads] at hx)
    refine ⟨fun fuel listed a w μ own e h D U J hok hk hu => ?_, HH⟩
    have hok0 := hok
    simp only [ordOK, Bool.and_eq_true, Bool.not_true, Bool.false_or] at hok
    obtain ⟨⟨⟨hB, hf⟩, hr⟩, ha⟩ := hok
    refine any_step hR hsb (K := K) (fun listed a w μ own U J h0 => ?_) (fun listed a w μ own U J x hx hxU => ?_) fuel listed a w μ own U J hu
    · exfalso
      have hU : ¬ ∃ k, k ∈ U := fun h1 => J.some_ready h1 h0
      have : U = [] := by
        cases U with
        | nil => rfl
        | cons k U => exact absurd ⟨k, by simp⟩ hU
      subst this
      have := J.head_ready hf
      rw [h0] at this; cases this
    · refine HH true D e h x ?_ hok0 hk
      have hlt := ready_lt hx
      simp only [onlyB, List.all_eq_true, List.mem_range, Bool.or_eq_true, List.any_eq_true, Bool.and_eq_true, Bool.not_eq_true'] at hB
      rcases hB x hlt with (h1 | h1) | ⟨j, hj, h1, h2⟩
      · have hxD : x ∈ D := by simpa using h1
        have h1 := (J.list x hlt).2 ⟨hxD, hxU⟩
        have h2 := getD_both (mem_ready.1 hx).1
        rw [h1] at h2; cases h2
      · simpa [heads] using h1
      · have h3 := ready_waits hx h1
        have := ((J.list j hj).1 h3).1
        simp [this] at h2

theorem region_ord {R : CallR} (hm : P.follows .mixedOrders = true) {μb : Mu} (hR : SoundAt P w0 Fz μb R) (hsb : Sub μb μ) {K : Env → AHeap → Prop} {Q : Exit → Act → World → Prop} {id : Nat} {ord : Ord} (Rl : Rel w0 Fz μ own h w) (hE : EnvRel ds μ nt e a)
    (hok : ordOK ops true ord [] = true) (hk : aOrd P R nt ops ord [] e h K)
    (hQ : ∀ e' h' a' w' μ' own', K e' h' → Rel w0 Fz μ' own' h' w' → EnvRel ds μ' nt e' a' → Sub μ μ' → Q .normal a' w') : (Code.region id ops true).wpIn (FR rd) 0 P Q a w := by
  refine wpIn_region_any hm ((aOrd_any hR (μ0 := μ) hsb hQ ord).1 ops.size _ _ _ μ own e h [] [] ?_ hok hk ?_)
  · refine ⟨Rl.same (fun _ _ => rfl) (Nat.le_refl _) rfl rfl rfl, Sub.refl _, ⟨hE.1, hE.2, fun t _ => hE.3 t⟩, by simp, fun j hj => ?_, by simp, by simp, by simp, trivial⟩
    rw [getD_replicate_false]; simp
  · unfold unl
    exact Nat.le_trans (List.length_filter_le _ _) (by simp)

end
end Go.GAM
