/- Functions; the calls of a program; what may be used in a proof. -/
import Derived.Test.YtffgchcidkapjaaDoorAm12
set_option linter.unusedVariables false
set_option linter.unusedSimpArgs false
namespace Go.GAM

section
variable {ds : List Deferred} {rd : Option Nat} {P : Program} {w0 : World} {Fz : Nat → Prop} {μ : Mu} {own : Nat → Option Nat} {h : AHeap} {w : World}

def resV (a : Act) : ResultVar → Sem Value
  | .tmp t => pure (a.tmps.getD t undef)
  | .cell x t => do loadVar t (← asAddr (a.tmps.getD x undef))

theorem resA_sound (R : Rel w0 Fz μ own h w) {nt : Nat} {e : Env} {a : Act} (hE : EnvRel ds μ nt e a) {r : ResultVar} {K : AV → Prop} (hk : resA P h e r K) :
    ∃ v cv, K v ∧ VRel μ v cv ∧ (resV a r).run P w = .ok cv w := by
  cases r with
  | tmp t => exact ⟨_, _, hk, hE.val t, rfl⟩
  | cell x t =>
    simp only [resA] at hk
    have hx := hE.val x
    have conv : ∀ cv, (Instr.loadAt t (a.tmps.getD x undef)).run P w = .ok cv w → (do loadVar t (← asAddr (a.tmps.getD x undef)) : Sem Value).run P w = .ok cv w := fun cv hc => by
      revert hc
      generalize a.tmps.getD x undef = c
      intro hc
      cases c <;> simp [Instr.loadAt, Instr.sureAddr, asAddr] at hc ⊢
      case pointer o => cases o with
        | none => simp [Instr.sureAddr] at hc
        | some o => simpa [Instr.sureAddr, asAddr] using hc
    cases ht : isAggT P t with
    | none => rw [ht] at hk; exact hk.elim
    | some r =>
      rw [ht] at hk
      cases r with
      | true =>
        obtain ⟨v, cv, h1, h2, h3⟩ := loadN_sound R ht hx hk
        exact ⟨v, cv, h1, h2, conv cv (h3 w (Same.refl w))⟩
      | false =>
        obtain ⟨v, cv, h1, h2, h3⟩ := load1_sound R ht hx hk
        exact ⟨v, cv, h1, h2, conv cv (h3 w (Same.refl w))⟩

theorem resAll_sound (R : Rel w0 Fz μ own h w) {nt : Nat} {e : Env} {a : Act} (hE : EnvRel ds μ nt e a) : ∀ {rs : List ResultVar} {K : List AV → Prop}, resAll P h e rs K →
    ∃ vs cvs, K vs ∧ VRels μ vs cvs ∧ (rs.mapM (resV a)).run P w = .ok cvs w
  | [], K, hk => ⟨[], [], hk, .nil, rfl⟩
  | r :: rs, K, hk => by
    obtain ⟨v, cv, h1, h2, h3⟩ := resA_sound (P := P) R hE hk
    obtain ⟨vs, cvs, g1, g2, g3⟩ := resAll_sound R hE h1
    refine ⟨_, cv :: cvs, g1, .cons _ _ _ _ h2 g2, ?_⟩
    rw [List.mapM_cons, Sem.run_bind, h3]
    simp only [Result.andThen_ok, Sem.run_bind]
    rw [g3]; rfl

theorem tup_rel {vs : List AV} {cvs : List Value} (h : VRels μ vs cvs) : VRel μ (tup vs) (if hs : cvs.toArray.size = 1 then cvs.toArray[0] else .tuple cvs.toArray) := by
  have hl := h.length
  match vs, cvs, h with
  | [], [], h => simp [tup]; exact .tu _ _ h
  | [v], [c], .cons _ _ _ _ h _ => simpa [tup] using h
  | v :: v2 :: vs, c :: c2 :: cs, h =>
    have : ¬ ((c :: c2 :: cs).toArray.size = 1) := by simp
    rw [dif_neg this]
    exact .tu _ _ (by simpa using h)

theorem init_lk : ∀ (args : List AV) (k t : Nat), lk (initEnv k args) t = if k ≤ t then (args[t - k]?).getD .u else .u
  | [], k, t => by simp [initEnv, lk]
  | v :: r, k, t => by
    simp only [initEnv, lk]
    by_cases h : k = t
    · subst h; simp
    · rw [nbeq h]
      simp only [cond_false]
      rw [init_lk r (k + 1) t]
      by_cases h2 : k + 1 ≤ t
      · rw [if_pos h2, if_pos (by omega), show t - k = (t - (k + 1)) + 1 by omega, List.getElem?_cons_succ]
      · rw [if_neg h2, if_neg (by omega)]

theorem init_rel {args : List AV} {cargs : List Value} (h : VRels μ args cargs) {nt : Nat} (hn : args.length ≤ nt) : EnvRel [] μ nt (initEnv 0 args) { tmps := cargs.toArray ++ Array.replicate (nt - cargs.toArray.size) undef, defers := [] } := by
  have hl := h.length
  refine ⟨by simp; omega, rfl, fun t => ?_⟩
  rw [init_lk]
  simp only [Nat.zero_le, if_true, Nat.sub_zero]
  by_cases ht : t < args.length
  · obtain ⟨v, h1, h2⟩ := h.get? ht
    have hc : t < cargs.length := by omega
    have e : (cargs.toArray ++ Array.replicate (nt - cargs.toArray.size) undef).getD t undef = v := by
      rw [List.getElem?_eq_getElem hc] at h1
      have h3 : t < (cargs.toArray ++ Array.replicate (nt - cargs.toArray.size) undef).size := by simp; omega
      simp only [Array.getD, h3, dite_true]
      rw [Array.getInternal_eq_getElem, Array.getElem_append_left (by simpa using hc)]
      simpa using h1
    rw [e]
    simpa [List.getD_eq_getElem?_getD] using h2
  · rw [List.getElem?_eq_none (by omega)]
    exact .u _

/-- One call of a function with a body. -/
theorem aF_sound {R : CallR} (hm : P.follows .mixedOrders = true) (hsz : P.funcs.size ≤ yid0) {μb : Mu} (hR : SoundAt P w0 Fz μb R) {f : FuncId} {args : List AV} {h : AHeap} {K : AV → AHeap → Prop} (hk : aF P R f args h K) : SimAt P w0 Fz μb f args h K := by
  obtain ⟨fn, body, ann, hf, hb, hname, hn, hk⟩ := hk
  intro μ own w cargs hsb Rl hc
  rw [if_pos (Nat.lt_of_lt_of_le (Array.getElem?_eq_some_iff.1 hf).1 hsz)]
  refine .inl ⟨f, cargs.toArray, ?_, ?_⟩
  · have hbs : fn.body.isNone = false := by simp [hb]
    simp only [callFunc, Sem.run_bind, run_program, Result.andThen_ok, hf, hname, Bool.false_eq_true, if_false, hbs, Sem.run_pure]
  · refine callsIn_wide.1 (callsIn_of_wp (F := FR none) (n := 0) hf hb trivial (wpIn_mono (aexec_wp hm hR body ann μ own _ h _ _ w hsb Rl (init_rel hc hn) hk) ?_))
    rintro ex a' w' ⟨e', h', μ', own', g1, g2, g3, g4⟩
    have fin : resAll P h' e' fn.results.toList (fun vs => kRet h K (tup vs) h') → a'.defers = [] ∧ ∃ v, (results fn a'.tmps).run P w' = .ok v w' ∧ ∃ v', Ending.returned v = .returned v' ∧ PostOf w0 Fz μ K v' w' := by
      intro hk
      obtain ⟨vs, cvs, k1, k2, k3⟩ := resAll_sound g2 g3 hk
      have hres : (results fn a'.tmps).run P w' = .ok (if hs : cvs.toArray.size = 1 then cvs.toArray[0] else .tuple cvs.toArray) w' := by
        have e : results fn a'.tmps = (do let vs ← fn.results.mapM (resV a'); pure (if h : vs.size = 1 then vs[0] else .tuple vs)) := rfl
        rw [e, Array.mapM_eq_mapM_toList, Sem.run_bind, Sem.run_map, k3]
        rfl
      refine ⟨g3.defers, _, hres, _, rfl, ?_⟩
      · have ht := tup_rel k2
        rcases k1 with k1 | ⟨keep, c1, c2, c3, c4, c5, k1⟩
        · exact ⟨_, μ', own', h', k1, ht, g2, g4⟩
        · obtain ⟨t1, t2⟩ := Rel.trim Rl g2 g4 c1 c3 c4 c5
          exact ⟨_, _, _, _, k1, ren_rel (fun k hk => (c3 k hk).1) ht c2, t1, t2⟩
    cases ex with
    | normal => exact fin g1
    | ret => exact fin g1
    | exit id => exact g1.elim
    | goto l => exact g1.elim
    | panic ch => exact g1.elim
    | outgrown => exact g1.elim

theorem acall_soundAt {X : CallR} (hm : P.follows .mixedOrders = true) (hsz : P.funcs.size ≤ yid0) {μb : Mu} (hX : SoundAt P w0 Fz μb X) : SoundAt P w0 Fz μb (acall P X) := by
  intro f args h K hk
  refine hk (SimAt P w0 Fz μb) (fun f args h K K' hK hs μ own w cargs hsb Rl hc => ?_) hX fun f args h K hF => ?_
  · have hp : ∀ cv w', PostOf w0 Fz μ K cv w' → PostOf w0 Fz μ K' cv w' := fun cv w' ⟨v, μ', own', h', h1, h2, h3, h4⟩ => ⟨v, μ', own', h', hK _ _ h1, h2, h3, h4⟩
    have hs := hs μ own w cargs hsb Rl hc
    by_cases hlt : f < yid0
    · rw [if_pos hlt] at hs ⊢
      rcases hs with ⟨g, as, h1, h2⟩ | ⟨v, h1, h2⟩
      · exact .inl ⟨g, as, h1, h2.mono fun e w' ⟨v, he, hv⟩ => ⟨v, he, hp _ _ hv⟩⟩
      · exact .inr ⟨v, h1, hp _ _ h2⟩
    · rw [if_neg hlt] at hs ⊢
      obtain ⟨g, tmps, as, body, h1, h2⟩ := hs
      exact ⟨g, tmps, as, body, h1, h2.mono fun e w' ⟨v, he, hv⟩ => ⟨v, he, hp _ _ hv⟩⟩
  exact aF_sound hm hsz (fun f args h K hs => hs) hF

theorem acall_sound {X : CallR} (hm : P.follows .mixedOrders = true) (hsz : P.funcs.size ≤ yid0) (hX : Sound P X) : Sound P (acall P X) := fun w0 Fz μb => acall_soundAt hm hsz (hX w0 Fz μb)

end
end Go.GAM
