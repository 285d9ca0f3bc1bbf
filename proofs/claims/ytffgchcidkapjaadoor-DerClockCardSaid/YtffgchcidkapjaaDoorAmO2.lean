/- Regions of open order: what the abstract machine takes in one order holds for all. -/
import Derived.Test.YtffgchcidkapjaaDoorAmO1
set_option linter.unusedVariables false
set_option linter.unusedSimpArgs false
namespace Go.GAM

section
variable {ds : List Deferred} {rd : Option Nat} {P : Program} {w0 : World} {Fz : Nat → Prop} {μ : Mu} {own : Nat → Option Nat} {h : AHeap} {w : World}

theorem EnvRel.upd {nt : Nat} {e : Env} {a : Act} (hE : EnvRel ds μ nt e a) {t : Nat} {v : AV} (hv : lk e t = v) : EnvRel ds μ nt (GAM.put e (some t) v) a := by
  refine ⟨hE.1, hE.2, fun t' => ?_⟩
  rw [lk_put]
  split
  · rename_i h
    simp only [Option.some.injEq] at h
    subst h
    rw [← hv]; exact hE.3 t
  · exact hE.3 t'

theorem pGuard_sound {want x : Bool} {A B : Prop} (h : pGuard want x A B) : (x = want ∧ A) ∨ (x = (!want) ∧ B) := by
  cases want <;> cases x <;> first | exact .inl ⟨rfl, h⟩ | exact .inr ⟨rfl, h⟩

theorem guardA_sound {nt : Nat} {ops : Array Oper} {o : Oper} {e : Env} {a : Act} {A B : Env → Prop} (hE : EnvRel ds μ nt e a) (hk : guardA ops o e A B) :
    (Region.wanted o (yielded ops a.tmps) = true ∧ ∃ e', EnvRel ds μ nt e' a ∧ A e') ∨ (Region.wanted o (yielded ops a.tmps) = false ∧ ∃ e', EnvRel ds μ nt e' a ∧ B e') := by
  unfold guardA at hk
  unfold Region.wanted
  cases hg : o.guard with
  | none => rw [hg] at hk; exact .inl ⟨rfl, e, hE, hk⟩
  | some g =>
    obtain ⟨j, want⟩ := g
    rw [hg] at hk
    simp only at hk ⊢
    cases hd : (ops[j]?).bind (·.dst) with
    | none =>
      rw [hd] at hk
      refine .inr ⟨?_, e, hE, hk⟩
      simp [yielded, hd]
    | some t =>
      rw [hd] at hk
      simp only at hk
      have hv := hE.val t
      have hgd : a.tmps.getD t undef = (a.tmps[t]?).getD undef := by
        by_cases ht : t < a.tmps.size
        · simp [Array.getD, ht]
        · simp [Array.getD, ht]
      rw [hgd] at hv
      have hy : yielded ops a.tmps j = match a.tmps[t]? with | some (.bool b) => some b | _ => none := by
        unfold yielded
        rw [hd]
        rfl
      rw [hy]
      cases hl : lk e t with
      | b x =>
        rw [hl] at hk hv
        simp only at hk
        have hc : a.tmps[t]? = some (.bool x) := by
          cases hoc : a.tmps[t]? with
          | none => rw [hoc] at hv; cases hv
          | some cv => rw [hoc] at hv; cases hv; rfl
        rw [hc]
        rcases pGuard_sound hk with ⟨rfl, hA⟩ | ⟨rfl, hB⟩
        · exact .inl ⟨by simp, _, hE.upd hl, hA⟩
        · exact .inr ⟨by cases want <;> rfl, _, hE.upd hl, hB⟩
      | tu vs =>
        rw [hl] at hk hv
        refine .inr ⟨?_, e, hE, hk⟩
        cases hoc : a.tmps[t]? with
        | none => rfl
        | some cv => rw [hoc] at hv; cases hv; rfl
      | _ => rw [hl] at hk; exact hk.elim

theorem shapeO_sound {o : Oper} {v : AV} {cv : Value} {K : AV → Prop} (hv : VRel μ v cv) (hk : shapeO P o v K) : K v := by
  unfold shapeO at hk
  split at hk
  · exact shape_sound hv hk
  · exact hk

theorem lk_restr_mem (e : Env) {t : Nat} : ∀ {L : List Nat}, t ∈ L → lk (restr L e) t = lk e t
  | x :: L, hm => by
    simp only [restr, List.map_cons, lk]
    by_cases h : x = t
    · subst h; simp
    · have : Nat.beq x t = false := nbeq h
      simp only [this, cond_false]
      rcases List.mem_cons.1 hm with h' | h'
      · exact absurd h'.symm h
      · exact lk_restr_mem e h'

theorem restr_congr {e e' : Env} {L : List Nat} (h : ∀ t ∈ L, lk e t = lk e' t) : restr L e = restr L e' := by
  unfold restr
  exact List.map_congr_left fun t ht => by rw [h t ht]

structure EnvOut (ds : List Deferred) (μ : Mu) (nt : Nat) (U : Nat → Prop) (e : Env) (a : Act) : Prop where
  size : a.tmps.size = nt
  defers : a.defers = ds
  val : ∀ t, ¬ U t → VRel μ (lk e t) (a.tmps.getD t undef)

theorem EnvOut.restr {nt : Nat} {U : Nat → Prop} {e : Env} {a : Act} (h : EnvOut ds μ nt U e a) {L : List Nat} (hL : ∀ t ∈ L, ¬ U t) : EnvRel ds μ nt (GAM.restr L e) a := by
  refine ⟨h.1, h.2, fun t => ?_⟩
  by_cases ht : t ∈ L
  · rw [lk_restr_mem e ht]; exact h.3 t (hL t ht)
  · have : lk (GAM.restr L e) t = .u := by
      clear hL
      induction L with
      | nil => rfl
      | cons x L ih =>
        simp only [GAM.restr, List.map_cons, lk]
        have h1 : x ≠ t := fun e => ht (by simp [e])
        have : Nat.beq x t = false := nbeq h1
        simp only [this, cond_false]
        exact ih fun h' => ht (by simp [h'])
    rw [this]; exact .u _

theorem EnvOut.mono {μ' : Mu} (hs : Sub μ μ') {nt : Nat} {U : Nat → Prop} {e : Env} {a : Act} (h : EnvOut ds μ nt U e a) : EnvOut ds μ' nt U e a := ⟨h.1, h.2, fun t ht => (h.3 t ht).mono hs⟩

theorem EnvOut.put {nt : Nat} {U U' : Nat → Prop} {e e' : Env} {a : Act} (h : EnvOut ds μ nt U e a) {o : Oper} (ho : dstOK nt o = true) {cv : Value}
    (hU : ∀ t, ¬ U' t → (∃ d, o.dst = some d ∧ d = t ∧ VRel μ (lk e' t) cv) ∨ (o.dst ≠ some t ∧ ¬ U t ∧ lk e' t = lk e t)) : EnvOut ds μ nt U' e' (a.put o.dst cv) := by
  refine ⟨?_, ?_, fun t ht => ?_⟩
  · cases hd : o.dst <;> simp [Act.put, h.1]
  · cases hd : o.dst <;> simp [Act.put, h.2]
  · rcases hU t ht with ⟨d, hd, rfl, hv⟩ | ⟨hd, hu, hl⟩
    · have hlt : d < nt := by
        simp only [dstOK, hd] at ho
        exact Nat.le_of_ble_eq_true ho
      simp [hd, Act.put, h.1, hlt, hv]
    · rw [hl]
      have := h.3 t hu
      cases hd' : o.dst with
      | none => simpa [Act.put] using this
      | some d =>
        have hne : d ≠ t := fun e => hd (by rw [hd', e])
        simpa [Act.put, Array.getElem?_setIfInBounds_ne hne] using this

/-! ### Guards -/

def wantE (ops : Array Oper) (o : Oper) (e : Env) : Option Bool :=
  match o.guard with
  | none => some true
  | some (j, want) =>
    match (ops[j]?).bind (·.dst) with
    | none => some false
    | some t => match lk e t with
      | .b x => some (x == want)
      | .tu _ => some false
      | _ => none

theorem guardA_split {ops : Array Oper} {o : Oper} {e : Env} {A B : Env → Prop} (hk : guardA ops o e A B) :
    ∃ e', (∀ t, lk e' t = lk e t) ∧ ((wantE ops o e = some true ∧ A e') ∨ (wantE ops o e = some false ∧ B e')) := by
  unfold guardA at hk
  unfold wantE
  cases hg : o.guard with
  | none => rw [hg] at hk; exact ⟨e, fun _ => rfl, .inl ⟨rfl, hk⟩⟩
  | some g =>
    obtain ⟨j, want⟩ := g
    rw [hg] at hk
    simp only at hk ⊢
    cases hd : (ops[j]?).bind (·.dst) with
    | none => rw [hd] at hk; exact ⟨e, fun _ => rfl, .inr ⟨rfl, hk⟩⟩
    | some t =>
      rw [hd] at hk
      simp only at hk ⊢
      cases hl : lk e t with
      | b x =>
        rw [hl] at hk
        simp only at hk
        have up : ∀ y, x = y → ∀ t', lk (GAM.put e (some t) (.b y)) t' = lk e t' := by
          intro y hy t'
          rw [lk_put]
          split
          · rename_i h1; injection h1 with h1; subst h1; subst hy; exact hl.symm
          · rfl
        rcases pGuard_sound hk with ⟨h1, hA⟩ | ⟨h1, hB⟩
        · exact ⟨_, up _ h1, .inl ⟨by simp [h1], hA⟩⟩
        · exact ⟨_, up _ h1, .inr ⟨by subst h1; cases want <;> rfl, hB⟩⟩
      | tu vs => rw [hl] at hk; exact ⟨e, fun _ => rfl, .inr ⟨rfl, hk⟩⟩
      | _ => rw [hl] at hk; exact hk.elim

theorem wantE_sound {nt : Nat} {ops : Array Oper} {o : Oper} {e : Env} {a : Act} {b : Bool} (hE : EnvRel ds μ nt (restr (o.looksAt ops) e) a) (hw : wantE ops o e = some b) : Region.wanted o (yielded ops a.tmps) = b := by
  unfold wantE at hw
  unfold Region.wanted
  cases hg : o.guard with
  | none => rw [hg] at hw; injection hw
  | some g =>
    obtain ⟨j, want⟩ := g
    rw [hg] at hw
    simp only at hw ⊢
    cases hd : (ops[j]?).bind (·.dst) with
    | none =>
      rw [hd] at hw
      injection hw with hw
      subst hw
      simp [yielded, hd]
    | some t =>
      rw [hd] at hw
      simp only at hw
      have hm : t ∈ o.looksAt ops := by unfold Oper.looksAt; simp [hg, hd]
      have hv := hE.val t
      rw [lk_restr_mem e hm] at hv
      have hgd : a.tmps.getD t undef = (a.tmps[t]?).getD undef := by
        by_cases ht : t < a.tmps.size
        · simp [Array.getD, ht]
        · simp [Array.getD, ht]
      rw [hgd] at hv
      have hy : yielded ops a.tmps j = match a.tmps[t]? with | some (.bool b) => some b | _ => none := by
        unfold yielded
        rw [hd]
        rfl
      rw [hy]
      cases hl : lk e t with
      | b x =>
        rw [hl] at hw hv
        simp only at hw
        injection hw with hw
        have hc : a.tmps[t]? = some (.bool x) := by
          cases hoc : a.tmps[t]? with
          | none => rw [hoc] at hv; cases hv
          | some cv => rw [hoc] at hv; cases hv; rfl
        rw [hc]
        subst hw
        simp
      | tu vs =>
        rw [hl] at hw hv
        injection hw with hw
        subst hw
        cases hoc : a.tmps[t]? with
        | none => rfl
        | some cv => rw [hoc] at hv; cases hv; rfl
      | _ => rw [hl] at hw; cases hw

theorem wantE_congr {ops : Array Oper} {o : Oper} {e e' : Env} (h : ∀ t ∈ o.looksAt ops, lk e t = lk e' t) : wantE ops o e = wantE ops o e' := by
  unfold wantE
  cases hg : o.guard with
  | none => rfl
  | some g =>
    obtain ⟨j, want⟩ := g
    simp only
    cases hd : (ops[j]?).bind (·.dst) with
    | none => rfl
    | some t =>
      have hm : t ∈ o.looksAt ops := by unfold Oper.looksAt; simp [hg, hd]
      simp only [h t hm]

/-- The operation would yield what the environment has. -/
def Pend (P : Program) (ops : Array Oper) (o : Oper) (e : Env) (h : AHeap) : Prop :=
  (wantE ops o e = some true ∧ aopN P o (restr (o.looksAt ops) e) h fun v => shapeO P o v fun v => sameAt e o.dst v) ∨ (wantE ops o e = some false ∧ sameAt e o.dst (.tu []))

theorem Pend.congr {ops : Array Oper} {o : Oper} {e e' : Env} (hl : ∀ t ∈ o.looksAt ops, lk e t = lk e' t) (hd : ∀ d, o.dst = some d → lk e d = lk e' d) (hp : Pend P ops o e h) : Pend P ops o e' h := by
  have hs : ∀ v, sameAt e o.dst v = sameAt e' o.dst v := by
    intro v
    unfold sameAt
    cases hd' : o.dst with
    | none => rfl
    | some d => simp only [hd d hd']
  unfold Pend at *
  rw [← wantE_congr hl, ← restr_congr hl]
  simpa only [hs] using hp

theorem Pend.heap {ops : Array Oper} {o : Oper} {e : Env} {h' : AHeap} (hr : readsA P o = false) (hp : Pend P ops o e h) : Pend P ops o e h' :=
  hp.imp (fun ⟨h1, h2⟩ => ⟨h1, aopN_heap hr h2⟩) id

theorem pendA_split {ops : Array Oper} {o : Oper} {e : Env} {A : Prop} (hk : pendA P ops o e h A) : Pend P ops o e h ∧ A := by
  have go : (aopN P o (restr (o.looksAt ops) e) h fun v => shapeO P o v fun v => sameAt e o.dst v ∧ A) → (aopN P o (restr (o.looksAt ops) e) h fun v => shapeO P o v fun v => sameAt e o.dst v) ∧ A := by
    intro hk
    obtain ⟨v, h1, h2⟩ := aopN_det hk
    obtain ⟨v', h3, h4⟩ := shapeO_det h1
    exact ⟨h2 _ (h4 _ h3.1), h3.2⟩
  unfold pendA at hk
  unfold Pend wantE
  cases hg : o.guard with
  | none => rw [hg] at hk; obtain ⟨h1, h2⟩ := go hk; exact ⟨.inl ⟨rfl, h1⟩, h2⟩
  | some g =>
    obtain ⟨j, want⟩ := g
    rw [hg] at hk
    simp only at hk ⊢
    cases hd : (ops[j]?).bind (·.dst) with
    | none => rw [hd] at hk; exact ⟨.inr ⟨rfl, hk.1⟩, hk.2⟩
    | some t =>
      rw [hd] at hk
      simp only at hk ⊢
      cases hl : lk e t with
      | b x =>
        rw [hl] at hk
        rcases pGuard_sound hk with ⟨h1, hA⟩ | ⟨h1, hB⟩
        · obtain ⟨h3, h4⟩ := go hA; exact ⟨.inl ⟨by simp [h1], h3⟩, h4⟩
        · exact ⟨.inr ⟨by subst h1; cases want <;> rfl, hB.1⟩, hB.2⟩
      | tu vs => rw [hl] at hk; exact ⟨.inr ⟨rfl, hk.1⟩, hk.2⟩
      | _ => rw [hl] at hk; exact hk.elim

theorem againA_split {ops : Array Oper} {i : Nat} {e : Env} {A : Prop} : ∀ {D : List Nat}, againA P ops i e h A D → A ∧ ∀ k ∈ D, ∀ o, ops[k]? = some o → readsA P o = true → isEff P o = false → waits ops i k = false → Pend P ops o e h
  | [], hk => ⟨hk, fun _ h => by cases h⟩
  | k :: D, hk => by
    unfold againA at hk
    cases ho : ops[k]? with
    | none =>
      rw [ho] at hk
      obtain ⟨h1, h2⟩ := againA_split hk
      refine ⟨h1, fun k' hm o ho' => ?_⟩
      rcases List.mem_cons.1 hm with rfl | hm
      · rw [ho] at ho'; cases ho'
      · exact h2 k' hm o ho'
    | some o =>
      rw [ho] at hk
      simp only at hk
      cases hc : readsA P o && !isEff P o && !Region.waitsFor .any ops i k with
      | true =>
        rw [hc] at hk
        obtain ⟨h0, hk⟩ := pendA_split hk
        obtain ⟨h1, h2⟩ := againA_split hk
        refine ⟨h1, fun k' hm o' ho' => ?_⟩
        rcases List.mem_cons.1 hm with rfl | hm
        · rw [ho] at ho'; injection ho' with ho'; subst ho'; exact fun _ _ _ => h0
        · exact h2 k' hm o' ho'
      | false =>
        rw [hc] at hk
        obtain ⟨h1, h2⟩ := againA_split hk
        refine ⟨h1, fun k' hm o' ho' => ?_⟩
        rcases List.mem_cons.1 hm with rfl | hm
        · rw [ho] at ho'; injection ho' with ho'; subst ho'
          intro g1 g2 g3
          unfold waits at g3
          rw [g1, g2, g3] at hc
          cases hc
        · exact h2 k' hm o' ho'

end
end Go.GAM
