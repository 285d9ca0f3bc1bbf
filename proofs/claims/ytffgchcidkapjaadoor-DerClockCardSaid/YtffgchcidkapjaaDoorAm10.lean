/- One operation; regions; code; functions; calls. -/
import Derived.Test.YtffgchcidkapjaaDoorAm9
set_option linter.unusedVariables false
set_option linter.unusedSimpArgs false
namespace Go.GAM

section
variable {ds : List Deferred} {rd : Option Nat} {P : Program} {w0 : World} {Fz : Nat → Prop} {μ : Mu} {own : Nat → Option Nat} {h : AHeap} {w : World}

def SoundAt (P : Program) (w0 : World) (Fz : Nat → Prop) (μb : Mu) (R : CallR) : Prop := ∀ f args h K, R f args h K → SimAt P w0 Fz μb f args h K
def Sound (P : Program) (R : CallR) : Prop := ∀ w0 Fz μb, SoundAt P w0 Fz μb R

theorem semAt_ne {rd : Option Nat} {ρ : Operand → Value} {o : Oper} (h : ∀ c, o.op ≠ .defer c) : o.semAt rd ρ = execOp ρ o := by
  cases rd with
  | none => rfl
  | some l => exact Oper.semAt_some l ρ o h

theorem upon_call {o : Oper} {a : Act} {next : Act → World → Prop} {Q : Exit → Act → World → Prop} {f : FuncId} {cargs : List Value} {post : Value → World → Prop} (hc : CallOK P f cargs w post)
    (hn : ∀ v w', post v w' → next (a.put o.dst v) w') (hnd : ∀ c, o.op ≠ .defer c) (he : ∀ w', (execOp a.eval o).run P w' = (callFunc f cargs.toArray).run P w') : o.wpIn (FR rd) 0 P a w next Q := by
  refine ⟨fun _ _ => trivial, ?_⟩
  rw [semAt_ne hnd, he]
  rcases hc with ⟨g, as, h1, h2⟩ | ⟨v, h1, h2⟩
  · rw [h1, Oper.uponIn_enter]
    refine ⟨(fun h => by cases h), ?_⟩
    have h3 : CallsIn (FR rd) 0 P g as w _ := callsIn_wide.2 h2
    exact h3.mono fun e w' ⟨v, he, hp⟩ => by subst he; exact hn v w' hp
  · rw [h1, Oper.uponIn_value]
    exact hn v w h2

theorem upon_yield {o : Oper} {a : Act} {next : Act → World → Prop} {Q : Exit → Act → World → Prop} {l : Nat} {cargs : List Value} {post : Value → World → Prop} (hc : YieldOK P l cargs w post)
    (hn : ∀ v w', post v w' → next (a.put o.dst v) w') (hnd : ∀ c, o.op ≠ .defer c) (he : ∀ w', (execOp a.eval o).run P w' = (Instr.yield l cargs.toArray).run P w') : o.wpIn (FR rd) 0 P a w next Q := by
  refine ⟨fun _ _ => trivial, ?_⟩
  rw [semAt_ne hnd, he]
  obtain ⟨f, tmps, assign, body, h1, h2⟩ := hc
  rw [h1, Oper.uponIn_round]
  refine ⟨(fun h => by cases h), ?_⟩
  have h3 : RoundIn (FR rd) 0 P l f tmps assign body w _ := h2
  exact h3.mono fun e w' ⟨v, he, hp⟩ => by subst he; exact hn v w' hp

theorem wp_of_after {o : Oper} {a : Act} {next : Act → World → Prop} {Q : Exit → Act → World → Prop} {K : AV → AHeap → Prop} {s : Sem Value} (hA : After P w0 Fz μ w K s)
    (hn : ∀ v cv μ' own' h' w', K v h' → VRel μ' v cv → Rel w0 Fz μ' own' h' w' → Sub μ μ' → next (a.put o.dst cv) w') (he : execOp a.eval o = (do pure (.value (← s)))) (hnd : ∀ c, o.op ≠ .defer c := by intro c hc; cases hc) : o.wpIn (FR rd) 0 P a w next Q := by
  obtain ⟨v, cv, μ', own', h', w', h1, h2, h3, h4, h5⟩ := hA
  refine ⟨fun _ _ => trivial, ?_⟩
  rw [semAt_ne hnd, he]
  simp only [Sem.run_bind, h5, Result.andThen_ok, Sem.run_pure, Oper.uponIn_value]
  exact hn v cv μ' own' h' w' h1 h2 h3 h4

theorem aop_wp {R : CallR} {μb : Mu} (hR : SoundAt P w0 Fz μb R) (hsb : Sub μb μ) (Rl : Rel w0 Fz μ own h w) {nt : Nat} {e : Env} {a : Act} (hE : EnvRel ds μ nt e a) {o : Oper} {K : AV → AHeap → Prop} (hk : aop P R o e h K)
    {next : Act → World → Prop} {Q : Exit → Act → World → Prop} (hn : ∀ v cv μ' own' h' w', K v h' → VRel μ' v cv → Rel w0 Fz μ' own' h' w' → Sub μ μ' → next (a.put o.dst cv) w') : o.wpIn (FR rd) 0 P a w next Q := by
  unfold aop at hk
  cases hb : isEff P o with
  | false =>
    rw [hb] at hk
    simp only [cond_false] at hk
    obtain ⟨v, cv, h1, h2, h3⟩ := aopN_sound Rl hE hk
    refine ⟨fun _ _ => trivial, ?_⟩
    rw [semAt_ne (fun c hc => by obtain ⟨dst, op, type, pos, after, guard⟩ := o; cases hc; exact hk.elim), h3 w (Same.refl w), Oper.uponIn_value]
    exact hn v cv μ own h w h1 h2 Rl (Sub.refl _)
  | true =>
    rw [hb] at hk
    simp only [cond_true] at hk
    obtain ⟨dst, op, type, pos, after, guard⟩ := o
    cases op <;> first | exact False.elim hk | skip
    case alloc t =>
      simp only [aopE] at hk
      cases hz : zeroO P t with
      | none => rw [hz] at hk; exact hk.elim
      | some zs => rw [hz] at hk; exact wp_of_after (alloc_sound Rl hz hk) hn rfl
    case box t x => exact wp_of_after (box_sound Rl (Rl.ev hE x) hk) hn rfl
    case buildSlice t len parts =>
      simp only [aopE] at hk
      split at hk
      · rename_i el ht
        cases hz : zeroO P el with
        | none => rw [hz] at hk; exact hk.elim
        | some zs =>
          rw [hz] at hk
          simp only at hk
          obtain ⟨hc, hk⟩ := bif_true hk
          simp only [Bool.and_eq_true] at hc
          obtain ⟨⟨c1, c2⟩, c3⟩ := hc
          obtain ⟨l1, l2⟩ := build_parts Rl hE parts
          refine wp_of_after (buildSl_sound Rl ht hz (Nat.le_of_ble_eq_true c1) (Nat.le_of_ble_eq_true c2) (Nat.eq_of_beq_eq_true c3) l1 l2 ?_) hn rfl
          simpa [List.map_map, Function.comp_def] using hk
      · exact hk.elim
    case store t x v =>
      simp only [aopE] at hk
      split at hk
      · rename_i r ht
        obtain ⟨h', w', h1, h2, h3⟩ := store_sound (P := P) Rl ht (Rl.ev hE x) (Rl.ev hE v) hk
        refine ⟨fun _ _ => trivial, ?_⟩
        rw [semAt_ne (fun c hc => by cases hc)]
        simp only [execOp, Sem.run_bind, h3, Result.andThen_ok, Sem.run_pure, Oper.uponIn_skip]
        exact hn _ undef μ own h' w' h1 (.tu [] #[] .nil) h2 (Sub.refl _)
      · exact hk.elim
    case convert src dst' x =>
      simp only [aopE] at hk
      split at hk
      · rename_i el h1 h2
        split at hk
        · rename_i h3
          exact wp_of_after (strBytes_sound Rl h1 h2 h3 (Rl.ev hE x) hk) hn rfl
        · exact hk.elim
      · exact hk.elim
    case makeSlice t l c =>
      simp only [aopE] at hk
      split at hk
      · rename_i el ht
        cases hz : zeroO P el with
        | none => rw [hz] at hk; exact hk.elim
        | some zs => rw [hz] at hk; exact wp_of_after (make_sound Rl ht hz (Rl.ev hE l) (Rl.ev hE c) hk) hn rfl
      · exact hk.elim
    case call c =>
      obtain ⟨callee, args, argTypes⟩ := c
      cases callee with
      | invoke r m => exact False.elim hk
      | builtin b =>
        cases b <;> first | exact False.elim hk | skip
        case append =>
          simp only [aopE] at hk
          have fin : ∀ {el t tx : TypeId} {x y : Operand}, argTypes[0]? = some t → argTypes[1]? = some tx → P.underlying t = some (.slice el) → ((∃ e, P.underlying tx = some (.slice e)) ∨ P.underlying tx = some .string) → args = #[x, y] →
              (bif zeroOK P el then pAppend (P.cellsOf el) (P.bytesOf el) (ev e h x) (ev e h y) h K else False) → Oper.wpIn (FR rd) 0 P ⟨dst, .call ⟨.builtin .append, args, argTypes⟩, type, pos, after, guard⟩ a w next Q := by
            intro el t tx x y h0 h1 ht htx hargs hq
            subst hargs
            obtain ⟨hz, hq⟩ := bif_true hq
            have hA := app_sound (ty := type) Rl ht htx hz (Rl.ev hE x) (Rl.ev hE y) hq
            refine wp_of_after (s := Builtin.append_ #[t, tx] type #[a.eval x, a.eval y]) hA hn ?_
            have e2 : ∀ s : Array Value, Builtin.append_ argTypes type s = Builtin.append_ #[t, tx] type s := fun s => by
              simp only [Builtin.append_, h0, h1]; simp
            simp [execOp, resolve, invoke, builtin, e2]
          split at hk
          · rename_i el e' x y h1 h2 hargs
            obtain ⟨t, ht0, ht⟩ := Option.bind_eq_some_iff.1 h1
            obtain ⟨tx, htx0, htx⟩ := Option.bind_eq_some_iff.1 h2
            exact fin ht0 htx0 ht (.inl ⟨_, htx⟩) (Array.ext' hargs) hk
          · rename_i el x y h1 h2 hargs
            obtain ⟨t, ht0, ht⟩ := Option.bind_eq_some_iff.1 h1
            obtain ⟨tx, htx0, htx⟩ := Option.bind_eq_some_iff.1 h2
            exact fin ht0 htx0 ht (.inr htx) (Array.ext' hargs) hk
          · exact hk.elim
        case copy =>
          simp only [aopE] at hk
          split at hk
          · rename_i el x y h1 hargs
            obtain ⟨t, ht0, ht⟩ := Option.bind_eq_some_iff.1 h1
            obtain rfl : args = #[x, y] := Array.ext' hargs
            obtain ⟨hz, hk⟩ := bif_true hk
            exact wp_of_after (s := Builtin.copy_ argTypes type #[a.eval x, a.eval y]) (copy_sound (ty := type) Rl ht0 ht hz (Rl.ev hE x) (Rl.ev hE y) hk) hn (by simp [execOp, resolve, invoke, builtin])
          · exact hk.elim
      | value f =>
        have toList : (args.map a.eval).toList = args.toList.map a.eval := Array.toList_map ..
        have hcall : ∀ {g : FuncId} {first cap : List AV} {cf ccap : Array Value}, a.eval f = .func (.func g) cf ccap → VRels μ first cf.toList → VRels μ cap ccap.toList → pCall R g (first ++ args.toList.map (ev e h) ++ cap) h K →
            Oper.wpIn (FR rd) 0 P ⟨dst, .call ⟨.value f, args, argTypes⟩, type, pos, after, guard⟩ a w next Q := by
          intro g first cap cf ccap hf h1 h2 hk
          obtain ⟨hlt, hk⟩ := bif_true hk
          have hc := hR _ _ _ _ hk μ own w (cf.toList ++ args.toList.map a.eval ++ ccap.toList) hsb Rl ((h1.append (Rl.evs hE _)).append h2)
          rw [if_pos (show g < yid0 from Nat.le_of_ble_eq_true hlt)] at hc
          refine upon_call hc (fun v w' ⟨v', μ', own', h', g1, g2, g3, g4⟩ => hn v' v μ' own' h' w' g1 g2 g3 g4) (fun c hc => by cases hc) fun w' => ?_
          have e1 : (cf.toList ++ args.toList.map a.eval ++ ccap.toList).toArray = cf ++ args.map a.eval ++ ccap := by
            apply Array.ext'; simp
          rw [e1]
          simp [execOp, resolve, invoke, hf, Deferred.ofValue]
        have hyield : ∀ {l : Nat} {first cap : List AV} {cf ccap : Array Value}, a.eval f = .func (.yield l) cf ccap → VRels μ first cf.toList → VRels μ cap ccap.toList → pCallV R (.fn (.yield l) first cap) (args.toList.map (ev e h)) h K →
            Oper.wpIn (FR rd) 0 P ⟨dst, .call ⟨.value f, args, argTypes⟩, type, pos, after, guard⟩ a w next Q := by
          intro l first cap cf ccap hf h1 h2 hk
          unfold pCallV at hk
          split at hk
          · rename_i heq; cases heq
          · rename_i heq
            cases heq
            have hc := hR _ _ _ _ hk μ own w (args.toList.map a.eval) hsb Rl (Rl.evs hE _)
            rw [if_neg (Nat.not_lt.2 (Nat.le_add_right _ _)), Nat.add_sub_cancel_left] at hc
            have e1 : cf = #[] := by have := h1.length; simpa [eq_comm] using this
            have e2 : ccap = #[] := by have := h2.length; simpa [eq_comm] using this
            refine upon_yield hc (fun v w' ⟨v', μ', own', h', g1, g2, g3, g4⟩ => hn v' v μ' own' h' w' g1 g2 g3 g4) (fun c hc => by cases hc) fun w' => ?_
            subst e1; subst e2
            have e3 : (args.toList.map a.eval).toArray = args.map a.eval := by rw [← toList]
            rw [e3]
            simp [execOp, resolve, invoke, hf, Deferred.ofValue]
          · exact hk.elim
        cases f with
        | func g =>
          exact hcall (g := g) (first := []) (cap := []) (cf := #[]) (ccap := #[]) rfl .nil .nil (by simpa [aopE, pCall] using hk)
        | tmp t =>
          have hv := Rl.ev hE (.tmp t)
          simp only [aopE] at hk
          generalize hcf : a.eval (.tmp t) = cf at *
          generalize GAM.ev e h (.tmp t) = af at *
          cases hv <;> first | exact hk.elim | skip
          rename_i ff fa fb ca cb r1 r2
          cases ff <;> first | exact hk.elim | skip
          · exact hcall rfl r1 r2 hk
          · exact hyield rfl r1 r2 hk
        | const c =>
          have hv := Rl.ev hE (.const c)
          simp only [aopE] at hk
          generalize hcf : a.eval (.const c) = cf at *
          generalize GAM.ev e h (.const c) = af at *
          cases hv <;> first | exact hk.elim | skip
          rename_i ff fa fb ca cb r1 r2
          cases ff <;> first | exact hk.elim | skip
          · exact hcall rfl r1 r2 hk
          · exact hyield rfl r1 r2 hk
        | global c =>
          have hv := Rl.ev hE (.global c)
          simp only [aopE] at hk
          generalize hcf : a.eval (.global c) = cf at *
          generalize GAM.ev e h (.global c) = af at *
          cases hv <;> first | exact hk.elim | skip
          rename_i ff fa fb ca cb r1 r2
          cases ff <;> first | exact hk.elim | skip
          · exact hcall rfl r1 r2 hk
          · exact hyield rfl r1 r2 hk

end
end Go.GAM
