/- What is asked of the rest may be more: everything is monotone; so a body's text gives a call. -/
import Derived.Test.YtffgchcidkapjaaDoorAm13
set_option linter.unusedVariables false
set_option linter.unusedSimpArgs false
namespace Go.GAM

section
variable {P : Program}

def RLe (R R' : CallR) : Prop := ∀ f args h K K', (∀ v h, K v h → K' v h) → R f args h K → R' f args h K'

theorem aIf_mono {c : AV} {A B A' B' : Prop} (hA : A → A') (hB : B → B') (h : aIf c A B) : aIf c A' B' := by
  unfold aIf at *; split at h <;> first | exact hA h | exact hB h | exact h

theorem eqOut_mono {op : BinOp} {r : Bool} {K K' : AV → Prop} (hK : ∀ v, K v → K' v) (h : eqOut op r K) : eqOut op r K' := by
  cases op <;> first | exact h.elim | exact hK _ h

theorem slCells_mono {sz : Nat} {x : AV} {h : AHeap} {K K' : List AV → Prop} (hK : ∀ v, K v → K' v) (hk : slCells sz x h K) : slCells sz x h K' := by
  unfold slCells at *
  split at hk
  · exact hK _ hk
  · obtain ⟨b, h1, h2, h3, h4⟩ := hk; exact ⟨b, h1, h2, h3, hK _ h4⟩
  · exact hk

theorem bound_mono {x : Option AV} {d : Nat} {K K' : Nat → Prop} (hK : ∀ v, K v → K' v) (hk : bound x d K) : bound x d K' := by
  unfold bound at *
  split at hk
  · exact hK _ hk
  · exact ⟨hk.1, hK _ hk.2⟩
  · exact hk

theorem bif_mono {c : Bool} {A A' : Prop} (hA : A → A') (h : bif c then A else False) : bif c then A' else False := by
  cases c
  · exact h
  · exact hA h

theorem pBin_mono {op : BinOp} {t : TypeId} {x y : AV} {K K' : AV → Prop} (hK : ∀ v, K v → K' v) (hk : pBin P op t x y K) : pBin P op t x y K' := by
  unfold pBin at *
  split at hk
  case h_1 => cases op <;> first | exact ⟨hk.1, hK _ hk.2⟩ | exact bif_mono (fun h => ⟨h.1, hK _ h.2⟩) hk | exact bif_mono (hK _) hk
  case h_2 => cases op <;> first | exact hk.elim | exact ⟨hk.1, hK _ hk.2⟩ | exact hK _ hk
  case h_3 => split at hk <;> first | exact eqOut_mono hK hk | exact hk
  case h_15 =>
    cases hg : P.eqGuardType P.depth t with
    | true => rw [hg] at hk; exact hk.elim
    | false =>
      rw [hg] at hk
      simp only [cond_false] at hk ⊢
      split at hk <;> first | exact eqOut_mono hK hk | exact hk
  all_goals first | exact bif_mono (eqOut_mono hK) hk | exact hk

theorem asB_mono {v : AV} {K K' : Bool → Prop} (hK : ∀ v, K v → K' v) (hk : asB v K) : asB v K' := by
  unfold asB at *; split at hk <;> first | exact hK _ hk | exact hk
theorem asI_mono {k : IntKind} {v : AV} {K K' : Int → Prop} (hK : ∀ v, K v → K' v) (hk : asI k v K) : asI k v K' := by
  unfold asI at *; split at hk <;> first | exact bif_mono (hK _) hk | exact hk
theorem asS_mono {v : AV} {K K' : List UInt8 → Prop} (hK : ∀ v, K v → K' v) (hk : asS v K) : asS v K' := by
  unfold asS at *; split at hk <;> first | exact hK _ hk | exact hk

theorem shapeO_mono {o : Oper} {v : AV} {K K' : AV → Prop} (hK : ∀ v, K v → K' v) (hk : shapeO P o v K) : shapeO P o v K' := by
  unfold shapeO at *
  split at hk
  · unfold shape at *
    split at hk
    · exact asB_mono (fun _ => hK _) hk
    · exact asI_mono (fun _ => hK _) hk
    · exact asS_mono (fun _ => hK _) hk
    · exact hK _ hk
  · exact hK _ hk

theorem newsOf_mono {sz : Nat} {x : AV} {h : AHeap} {K K' : List AV → Nat → Prop} (hK : ∀ v n, K v n → K' v n) (hk : newsOf sz x h K) : newsOf sz x h K' := by
  unfold newsOf at *
  split at hk
  · exact hK _ _ hk
  · exact slCells_mono (fun v hv => hK _ _ hv) hk
  · exact ⟨hk.1, hK _ _ hk.2⟩
  · exact hk

theorem pSliceSl_mono {sz : Nat} {x : AV} {lo hi mx : Option AV} {h : AHeap} {K K' : AV → Prop} (hK : ∀ v, K v → K' v) (hk : pSliceSl sz x lo hi mx h K) : pSliceSl sz x lo hi mx h K' := by
  unfold pSliceSl at *
  split at hk
  · exact bound_mono (fun m hm => bound_mono (fun j hj => bound_mono (fun i hi => ⟨hi.1, hi.2.1, hi.2.2.1, hi.2.2.2.1, hK _ hi.2.2.2.2⟩) hj) hm) hk
  · refine ⟨hk.1, hk.2.1, bound_mono (fun j hj => bound_mono (fun i hi => ⟨hi.1, ?_⟩) hj) hk.2.2⟩
    obtain ⟨b, h1, h2, h3, h4, h5⟩ := hi.2
    refine ⟨b, h1, h2, h3, h4, ?_⟩
    cases mx with
    | none => exact ⟨h5.1, hK _ h5.2⟩
    | some m => exact bound_mono (fun m hm => ⟨hm.1, hm.2.1, hK _ hm.2.2⟩) h5
  · exact hk

theorem aopN_mono {o : Oper} {e : Env} {h : AHeap} {K K' : AV → Prop} (hK : ∀ v, K v → K' v) (hk : aopN P o e h K) : aopN P o e h K' := by
  obtain ⟨dst, op, type, pos, after, guard⟩ := o
  cases op with
  | move x => exact hK _ hk
  | assign x => exact hK _ hk
  | pick c x y => exact aIf_mono (hK _) (hK _) hk
  | load t x =>
    simp only [aopN] at *
    split at hk
    · unfold pLoadN at *
      split at hk
      · obtain ⟨b, h1, h2, h3⟩ := hk; exact ⟨b, h1, h2, hK _ h3⟩
      · exact hk
    · unfold pLoad1 at *
      split at hk
      · obtain ⟨b, h1, h2, h3⟩ := hk; exact ⟨b, h1, h2, hK _ h3⟩
      · exact hk
    · exact hk
  | nilCheck x =>
    simp only [aopN] at *
    unfold pNil at *
    split at hk <;> first | exact hk | exact hK _ hk
  | binOp op t x y yt => exact pBin_mono hK hk
  | unOp op t x =>
    simp only [aopN] at *
    unfold pUn at *
    split at hk <;> first | exact hk | exact hK _ hk
  | convert src dst' x =>
    simp only [aopN] at *
    split at hk
    · unfold pConvInt at *
      split at hk <;> first | exact hk | exact hK _ hk
    · unfold pConvStr at *
      split at hk <;> first | exact hk | exact hK _ hk
    · split at hk
      · exact slCells_mono (fun cs hc => ⟨hc.1, hK _ hc.2⟩) hk
      · exact hk
    · exact hk
  | makeInterface t x =>
    simp only [aopN] at *
    split at hk <;> first | exact hk | exact hK _ hk
  | makeFunc f a b => exact hK _ hk
  | slice t x lo hi mx =>
    simp only [aopN] at *
    split at hk
    · split at hk
      · unfold pSliceStr at *
        split at hk
        · exact bound_mono (fun m hm => bound_mono (fun n hn => ⟨hn.1, hn.2.1, hK _ hn.2.2⟩) hm) hk
        · exact hk
      · exact hk
    · obtain ⟨h1, h2⟩ := bif_true hk
      simp only [h1, cond_true]
      exact pSliceSl_mono hK h2
    · split at hk
      · obtain ⟨h1, h2⟩ := bif_true hk
        simp only [h1, cond_true]
        unfold pSliceArr at *
        split at h2
        · exact ⟨h2.1, bound_mono (fun j hj => bound_mono (fun i hi => by
            obtain ⟨g1, g2, b, g3, g4, g5, g6⟩ := hi
            exact ⟨g1, g2, b, g3, g4, g5, hK _ g6⟩) hj) h2.2⟩
        · exact h2
      · exact hk
    · exact hk
  | fieldAddr t x f =>
    simp only [aopN] at *
    split at hk
    · split at hk
      · rename_i fl _
        cases hz : Nat.beq (P.cellsOf fl.type) 0 with
        | true => rw [hz] at hk; exact hk.elim
        | false =>
          rw [hz] at hk
          simp only [cond_false] at hk ⊢
          unfold pFieldAddr at *
          split at hk <;> first | exact hk | exact hK _ hk
      · exact hk
    · exact hk
  | field t x f =>
    simp only [aopN] at *
    split at hk
    · split at hk
      · split at hk
        · unfold pFieldN at *
          split at hk <;> first | exact hk | exact hK _ hk
        · unfold pField1 at *
          split at hk <;> first | exact hk | exact ⟨hk.1, hK _ hk.2⟩
        · exact hk
      · exact hk
    · exact hk
  | indexAddr t x ix =>
    simp only [aopN] at *
    split at hk
    · obtain ⟨h1, h2⟩ := bif_true hk
      simp only [h1, cond_true]
      unfold pIdxAddrSl at *
      split at h2
      · exact ⟨h2.1, h2.2.1, h2.2.2.1, hK _ h2.2.2.2⟩
      · exact h2
    · obtain ⟨h1, h2⟩ := bif_true hk
      simp only [h1, cond_true]
      unfold pIdxAddrArr at *
      split at h2
      · exact ⟨h2.1, h2.2.1, hK _ h2.2.2⟩
      · exact h2
    · exact hk
  | index t x ix =>
    simp only [aopN] at *
    split at hk
    · unfold pIdxStr at *
      split at hk
      · exact ⟨hk.1, hk.2.1, hK _ hk.2.2⟩
      · exact hk
    · split at hk
      · obtain ⟨h1, h2⟩ := bif_true hk
        simp only [h1, cond_true]
        unfold pIdxArr1 at *
        split at h2
        · exact ⟨h2.1, h2.2.1, h2.2.2.1, hK _ h2.2.2.2⟩
        · exact h2
      · exact hk
    · exact hk
  | build t parts =>
    simp only [aopN] at *
    split at hk
    · unfold pBuild at *
      split at hk <;> first | exact hk | exact hK _ hk
    · exact hk
  | extract x i =>
    simp only [aopN] at *
    unfold pExtract at *
    split at hk
    · exact ⟨hk.1, hK _ hk.2⟩
    · exact hk
  | call c =>
    obtain ⟨callee, args, argTypes⟩ := c
    cases callee with
    | builtin b =>
      cases b <;> first | exact False.elim hk | skip
      case len =>
        simp only [aopN] at *
        split at hk
        · split at hk
          · unfold pLenStr at *
            split at hk <;> first | exact hk | exact hK _ hk
          · exact hk
        · split at hk
          · unfold pLenSl at *
            split at hk <;> first | exact hk | exact hK _ hk
          · exact hk
        · split at hk <;> first | exact hk | exact hK _ hk
        · exact hk
      case min =>
        simp only [aopN] at *
        unfold pMM at *
        split at hk <;> first | exact hk | exact hK _ hk
      case max =>
        simp only [aopN] at *
        unfold pMM at *
        split at hk <;> first | exact hk | exact hK _ hk
    | _ => exact False.elim hk
  | _ => exact False.elim hk

theorem pAppend_mono {sz bytes : Nat} {s x : AV} {h : AHeap} {K K' : AV → AHeap → Prop} (hK : ∀ v h, K v h → K' v h) (hk : pAppend sz bytes s x h K) : pAppend sz bytes s x h K' := by
  refine ⟨hk.1, newsOf_mono (fun news k hk => ?_) hk.2⟩
  split at hk
  · refine ⟨hk.1, hk.2.1, ?_⟩
    have := hk.2.2
    split at this
    · rename_i h0; rw [if_pos h0]; exact hK _ _ this
    · rename_i h0; rw [if_neg h0]; exact hK _ _ this
  · obtain ⟨h1, h2, b, h3, h4, h5, h6⟩ := hk
    refine ⟨h1, h2, b, h3, h4, h5, ?_⟩
    rcases h6 with h | h | h | h | h
    · exact .inl ⟨h.1, hK _ _ h.2⟩
    · exact .inr (.inl ⟨h.1, h.2.1, hK _ _ h.2.2⟩)
    · obtain ⟨a1, a2, a3, a4, a5, a6, a7⟩ := h
      exact .inr (.inr (.inl ⟨a1, a2, a3, a4, a5, a6, hK _ _ a7⟩))
    · obtain ⟨a1, a2, a3, a4, a5, a6, a7, a8, a9, a10⟩ := h
      exact .inr (.inr (.inr (.inl ⟨a1, a2, a3, a4, a5, a6, a7, a8, a9, hK _ _ a10⟩)))
    · obtain ⟨a1, a2, a3, a4, a5, a6, a7⟩ := h
      exact .inr (.inr (.inr (.inr ⟨a1, a2, a3, a4, a5, a6, hK _ _ a7⟩)))
  · exact hk

theorem pCopy_mono {sz : Nat} {s x : AV} {h : AHeap} {K K' : AV → AHeap → Prop} (hK : ∀ v h, K v h → K' v h) (hk : pCopy sz s x h K) : pCopy sz s x h K' := by
  refine ⟨hk.1, newsOf_mono (fun news k hk => ?_) hk.2⟩
  split at hk
  · exact hK _ _ hk
  · obtain ⟨b, h1, h2, h3, h4, h5, h6, h7⟩ := hk
    exact ⟨b, h1, h2, h3, h4, h5, h6, hK _ _ h7⟩
  · exact hk

theorem aopE_mono {R R' : CallR} (hR : RLe R R') {o : Oper} {e : Env} {h : AHeap} {K K' : AV → AHeap → Prop} (hK : ∀ v h, K v h → K' v h) (hk : aopE P R o e h K) : aopE P R' o e h K' := by
  obtain ⟨dst, op, type, pos, after, guard⟩ := o
  cases op <;> first | exact False.elim hk | skip
  case alloc t =>
    simp only [aopE] at *
    split at hk <;> first | exact hk | exact hK _ _ hk
  case box t x => exact ⟨hk.1, hK _ _ hk.2⟩
  case buildSlice t len parts =>
    simp only [aopE] at *
    split at hk
    · split at hk
      · obtain ⟨h1, h2⟩ := bif_true hk
        simp only [h1, cond_true]
        unfold pBuildSl at *
        split at h2
        · exact ⟨h2.1, hK _ _ h2.2⟩
        · exact h2
      · exact hk
    · exact hk
  case store t a x =>
    simp only [aopE] at *
    split at hk
    · unfold pStore at *
      split at hk
      · obtain ⟨b, h1, h2, h3, h4, h5, h6, h7, h8, h9⟩ := hk
        exact ⟨b, h1, h2, h3, h4, h5, h6, h7, h8, hK _ _ h9⟩
      · exact hk
    · exact hk
  case convert src dst' x =>
    simp only [aopE] at *
    split at hk
    · split at hk
      · unfold pStrBytes at *
        split at hk <;> first | exact hk | exact hK _ _ hk
      · exact hk
    · exact hk
  case makeSlice t l c =>
    simp only [aopE] at *
    split at hk
    · split at hk
      · unfold pMake at *
        split at hk
        · obtain ⟨h1, h2, h3, h4, h5, h6, h7⟩ := hk
          exact ⟨h1, h2, h3, h4, h5, h6, hK _ _ h7⟩
        · exact hk
      · exact hk
    · exact hk
  case call c =>
    obtain ⟨callee, args, argTypes⟩ := c
    cases callee with
    | invoke r m => exact False.elim hk
    | builtin b =>
      cases b <;> first | exact False.elim hk | skip
      case append =>
        simp only [aopE] at *
        split at hk
        · obtain ⟨h1, h2⟩ := bif_true hk
          simp only [h1, cond_true]
          exact pAppend_mono hK h2
        · obtain ⟨h1, h2⟩ := bif_true hk
          simp only [h1, cond_true]
          exact pAppend_mono hK h2
        · exact hk
      case copy =>
        simp only [aopE] at *
        split at hk
        · obtain ⟨h1, h2⟩ := bif_true hk
          simp only [h1, cond_true]
          exact pCopy_mono hK h2
        · exact hk
    | value f =>
      have c : ∀ {g : FuncId} {l : List AV}, pCall R g l h K → pCall R' g l h K' := fun {g l} hk => by
        obtain ⟨h1, h2⟩ := bif_true hk
        unfold pCall
        rw [h1]
        exact hR _ _ _ _ _ hK h2
      have v : ∀ {g : AV}, pCallV R g (args.toList.map (ev e h)) h K → pCallV R' g (args.toList.map (ev e h)) h K' := fun {g} hk => by
        unfold pCallV at hk
        split at hk
        · exact c hk
        · exact hR _ _ _ _ _ hK hk
        · exact hk.elim
      cases f with
      | func g => exact c hk
      | tmp t => exact v hk
      | const c => exact v hk
      | global c => exact v hk

theorem aop_mono {R R' : CallR} (hR : RLe R R') {o : Oper} {e : Env} {h : AHeap} {K K' : AV → AHeap → Prop} (hK : ∀ v h, K v h → K' v h) (hk : aop P R o e h K) : aop P R' o e h K' := by
  unfold aop at *
  cases hb : isEff P o with
  | true => rw [hb] at hk; exact aopE_mono hR hK hk
  | false => rw [hb] at hk; exact aopN_mono (K := fun v => K v h) (fun v hv => hK _ _ hv) hk

theorem pGuard_mono {want x : Bool} {A B A' B' : Prop} (hA : A → A') (hB : B → B') (h : pGuard want x A B) : pGuard want x A' B' := by
  cases want <;> cases x <;> first | exact hA h | exact hB h

theorem guardA_mono {ops : Array Oper} {o : Oper} {e : Env} {A B A' B' : Env → Prop} (hA : ∀ e, A e → A' e) (hB : ∀ e, B e → B' e) (h : guardA ops o e A B) : guardA ops o e A' B' := by
  unfold guardA at *
  split at h
  · exact hA _ h
  · split at h
    · exact hB _ h
    · split at h
      · exact pGuard_mono (hA _) (hB _) h
      · exact hB _ h
      · exact h

theorem aOps_mono {R R' : CallR} (hR : RLe R R') {nt : Nat} {ops : Array Oper} {K K' : Env → AHeap → Prop} (hK : ∀ e h, K e h → K' e h) : ∀ (l : List Oper) (e : Env) (h : AHeap), aOps P R nt ops l e h K → aOps P R' nt ops l e h K'
  | [], e, h, hk => hK _ _ hk
  | o :: l, e, h, hk => by
    obtain ⟨h1, h2⟩ := bif_true hk
    simp only [aOps, h1, cond_true]
    exact guardA_mono (fun e => aop_mono hR fun v h hv => shapeO_mono (fun v hv => aOps_mono hR hK l _ _ hv) hv) (fun e => aOps_mono hR hK l _ _) h2

theorem sameAnd_mono {X A A' : Prop} (hA : A → A') (h : X ∧ A) : X ∧ A' := ⟨h.1, hA h.2⟩

theorem pendA_mono {ops : Array Oper} {o : Oper} {e : Env} {h : AHeap} {A A' : Prop} (hA : A → A') (hk : pendA P ops o e h A) : pendA P ops o e h A' := by
  have go : (aopN P o (restr (o.looksAt ops) e) h fun v => shapeO P o v fun v => sameAt e o.dst v ∧ A) → (aopN P o (restr (o.looksAt ops) e) h fun v => shapeO P o v fun v => sameAt e o.dst v ∧ A') :=
    aopN_mono fun v hv => shapeO_mono (fun v hv => sameAnd_mono hA hv) hv
  unfold pendA at *
  split at hk
  · exact go hk
  · split at hk
    · exact sameAnd_mono hA hk
    · split at hk
      · exact pGuard_mono go (sameAnd_mono hA) hk
      · exact sameAnd_mono hA hk
      · exact hk

theorem againA_mono {ops : Array Oper} {i : Nat} {e : Env} {h : AHeap} {A A' : Prop} (hA : A → A') : ∀ {D : List Nat}, againA P ops i e h A D → againA P ops i e h A' D
  | [], hk => hA hk
  | k :: D, hk => by
    unfold againA at *
    split at hk
    · exact againA_mono hA hk
    · rename_i o _
      cases hc : readsA P o && !isEff P o && !Region.waitsFor .any ops i k with
      | true => rw [hc] at hk; exact pendA_mono (againA_mono hA) hk
      | false => rw [hc] at hk; exact againA_mono hA hk

theorem aOrd_mono {R R' : CallR} (hR : RLe R R') {nt : Nat} {ops : Array Oper} {K K' : Env → AHeap → Prop} (hK : ∀ e h, K e h → K' e h) : ∀ (ord : Ord) (D : List Nat) (e : Env) (h : AHeap), aOrd P R nt ops ord D e h K → aOrd P R' nt ops ord D e h K' := by
  intro ord
  induction ord with
  | done => intro D e h hk; exact hK _ _ hk
  | stop => intro D e h hk; trivial
  | neu i r ih =>
    intro D e h hk
    unfold aOrd at hk ⊢
    split at hk
    · exact hk
    · exact bif_mono (guardA_mono (fun e => aopN_mono fun v hv => shapeO_mono (fun v hv => ih _ _ _ hv) hv) (fun e => ih _ _ _)) hk
  | eff i r alt ihr iha =>
    intro D e h hk
    unfold aOrd at hk ⊢
    split at hk
    · exact hk
    · rename_i o _
      refine bif_mono ?_ hk
      have now : nowA P R nt ops i o r D e h K → nowA P R' nt ops i o r D e h K' := by
        refine guardA_mono (fun e => aop_mono hR fun v h' hv => shapeO_mono (fun v hv => ?_) hv) (fun e => ihr _ _ _)
        revert hv
        cases isEff P o with
        | true => exact againA_mono (ihr _ _ _)
        | false => exact ihr _ _ _
      intro hk
      cases hs : alt.isStop with
      | true => rw [hs] at hk; exact now hk
      | false => rw [hs] at hk; exact ⟨now hk.1, iha _ _ _ hk.2⟩

theorem aLoop_mono {F F' : (Env → AHeap → Prop) → Env → AHeap → Prop} (hF : ∀ I e h, F I e h → F' I e h) {e : Env} {h : AHeap} (hk : aLoop F e h) : aLoop F' e h :=
  fun I hI => hk I fun e h hx => hI e h (hF I e h hx)

theorem aexec_mono {R R' : CallR} (hR : RLe R R') {nt : Nat} : ∀ (c : Code) (ann : Ann) (e : Env) (h : AHeap) (K K' : Kx), (∀ x e h, K x e h → K' x e h) → aexec P R nt ann c e h K → aexec P R' nt ann c e h K' := by
  intro c
  induction c with
  | skip => intro ann e h K K' hK hk; exact hK _ _ _ hk
  | region id ops draw =>
    intro ann e h K K' hK hk
    simp only [aexec] at *
    cases draw with
    | false => exact aOps_mono hR (hK _) _ _ _ hk
    | true =>
      simp only [cond_true] at *
      obtain ⟨h1, h2⟩ := bif_true hk
      simp only [h1, cond_true]
      exact aOrd_mono hR (fun e h he => hK _ _ _ he) _ _ _ _ h2
  | seq x y ihx ihy =>
    intro ann e h K K' hK hk
    simp only [aexec] at *
    refine ihx _ _ _ _ _ (fun ex e h hx => ?_) hk
    cases ex with
    | normal => exact ihy _ _ _ _ _ hK hx
    | _ => exact hK _ _ _ hx
  | cond c x y ihx ihy =>
    intro ann e h K K' hK hk
    exact aIf_mono (ihx _ _ _ _ _ hK) (ihy _ _ _ _ _ hK) hk
  | block id x ih =>
    intro ann e h K K' hK hk
    simp only [aexec] at *
    refine ih _ _ _ _ _ (fun ex e h hx => ?_) hk
    cases ex with
    | exit id' =>
      simp only [kBlock] at *
      revert hx
      cases Nat.beq id' id <;> exact hK _ _ _
    | _ => exact hK _ _ _ hx
  | loop x ih =>
    intro ann e h K K' hK hk
    simp only [aexec] at *
    refine aLoop_mono (fun I e h hx => ih _ _ _ _ _ (fun ex e h hx => ?_) hx) hk
    cases ex with
    | normal => exact hx
    | _ => exact hK _ _ _ hx
  | exit id => intro ann e h K K' hK hk; exact hK _ _ _ hk
  | label l => intro ann e h K K' hK hk; exact hK _ _ _ hk
  | ret => intro ann e h K K' hK hk; exact hK _ _ _ hk
  | _ => intro ann e h K K' hK hk; exact False.elim hk

theorem resA_mono {h : AHeap} {e : Env} {r : ResultVar} {K K' : AV → Prop} (hK : ∀ v, K v → K' v) (hk : resA P h e r K) : resA P h e r K' := by
  cases r with
  | tmp t => exact hK _ hk
  | cell x t =>
    simp only [resA] at *
    split at hk
    · unfold pLoadN at *
      split at hk
      · obtain ⟨b, h1, h2, h3⟩ := hk; exact ⟨b, h1, h2, hK _ h3⟩
      · exact hk
    · unfold pLoad1 at *
      split at hk
      · obtain ⟨b, h1, h2, h3⟩ := hk; exact ⟨b, h1, h2, hK _ h3⟩
      · exact hk
    · exact hk

theorem resAll_mono {h : AHeap} {e : Env} : ∀ {rs : List ResultVar} {K K' : List AV → Prop}, (∀ v, K v → K' v) → resAll P h e rs K → resAll P h e rs K'
  | [], _, _, hK, hk => hK _ hk
  | r :: rs, _, _, hK, hk => resA_mono (fun v hv => resAll_mono (fun vs hvs => hK _ hvs) hv) hk

theorem kRet_mono {h0 : AHeap} {K K' : AV → AHeap → Prop} (hK : ∀ v h, K v h → K' v h) {r : AV} {h : AHeap} (hk : kRet h0 K r h) : kRet h0 K' r h := by
  rcases hk with hk | ⟨keep, h1, h2, h3, h4, h5, h6⟩
  · exact .inl (hK _ _ hk)
  · exact .inr ⟨keep, h1, h2, h3, h4, h5, hK _ _ h6⟩

theorem kFun_mono {fn : Func} {K K' : AV → AHeap → Prop} (hK : ∀ v h, K v h → K' v h) {x : Exit} {e : Env} {h : AHeap} (hk : kFun P fn K x e h) : kFun P fn K' x e h := by
  cases x <;> first | exact resAll_mono (fun vs hv => hK _ _ hv) hk | exact hk.elim

theorem aF_mono {R R' : CallR} (hR : RLe R R') {f : FuncId} {args : List AV} {h : AHeap} {K K' : AV → AHeap → Prop} (hK : ∀ v h, K v h → K' v h) (hk : aF P R f args h K) : aF P R' f args h K' := by
  obtain ⟨fn, body, ann, h1, h2, h3, h4, h5⟩ := hk
  exact ⟨fn, body, ann, h1, h2, h3, h4, aexec_mono hR _ _ _ _ _ _ (fun x e h hx => kFun_mono (fun v h hv => kRet_mono hK hv) hx) h5⟩

theorem acall_mono {X : CallR} {f : FuncId} {args : List AV} {h : AHeap} {K K' : AV → AHeap → Prop} (hK : ∀ v h, K v h → K' v h) (hk : acall P X f args h K) : acall P X f args h K' :=
  fun R hm hX hF => hm _ _ _ _ _ hK (hk R hm hX hF)

/-- A function's body gives its calls. -/
theorem acall_body {X : CallR} {f : FuncId} {args : List AV} {h : AHeap} {K : AV → AHeap → Prop} (hk : aF P (acall P X) f args h K) : acall P X f args h K := by
  intro R hm hX hF
  refine hF _ _ _ _ (aF_mono (fun f args h K K' hK hk => hm _ _ _ _ _ hK (hk R hm hX hF)) (fun v h hv => hv) hk)

theorem acall_given {X : CallR} {f : FuncId} {args : List AV} {h : AHeap} {K : AV → AHeap → Prop} (hk : X f args h K) : acall P X f args h K :=
  fun R hm hX hF => hX _ _ _ _ hk

theorem loopF_mono {R : CallR} (hR : RLe R R) {nt : Nat} {ann : Ann} {x : Code} {K K' : Kx} (hK : ∀ x e h, K x e h → K' x e h) {I I' : Env → AHeap → Prop} (hI : ∀ e h, I e h → I' e h) {e : Env} {h : AHeap}
    (hk : loopF P R nt ann x K I e h) : loopF P R nt ann x K' I' e h := by
  refine aexec_mono hR _ _ _ _ _ _ (fun x e h hx => ?_) hk
  cases x with
  | normal => exact hI _ _ hx
  | _ => exact hK _ _ _ hx

/-- One round of a loop. -/
theorem aLoop_step {R : CallR} (hR : RLe R R) {nt : Nat} {ann : Ann} {x : Code} {K : Kx} {e : Env} {h : AHeap} (hk : loopF P R nt ann x K (aLoop (loopF P R nt ann x K)) e h) : aLoop (loopF P R nt ann x K) e h := by
  intro I hI
  exact hI _ _ (loopF_mono hR (fun _ _ _ h => h) (fun e h hx => hx I hI) hk)

theorem aAt_round {R : CallR} (hR : RLe R R) {nt : Nat} : ∀ (path : List Nat) (ann : Ann) (c : Code) (e : Env) (h : AHeap) (K : Kx), aAt P R nt .round path ann c e h K → aAt P R nt .head path ann c e h K
  | [], ann, c, e, h, K, hk => by
    unfold aAt at *
    cases c <;> first | exact hk.elim | exact aLoop_step hR hk
  | d :: path, ann, c, e, h, K, hk => by
    unfold aAt at *
    cases c <;> first | exact hk.elim | skip
    case seq x y =>
      revert hk
      simp only
      cases Nat.beq d 0 <;> exact aAt_round hR path _ _ _ _ _
    case cond c x y =>
      revert hk
      simp only
      cases Nat.beq d 0 <;> exact aAt_round hR path _ _ _ _ _
    case block id x => exact aAt_round hR path _ _ _ _ _ hk
    case loop x => exact aAt_round hR path _ _ _ _ _ hk

theorem acall_le (X : CallR) : RLe (acall P X) (acall P X) := fun f args h K K' hK hk => acall_mono hK hk

end
end Go.GAM
