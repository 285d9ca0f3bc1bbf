/- An operation that changes nothing has one outcome, and, if it reads nothing, the same one on any heap. -/
import Derived.Test.YtffgchcidkapjaaDoorAm10
set_option linter.unusedVariables false
set_option linter.unusedSimpArgs false
namespace Go.GAM

section
variable {P : Program}

theorem aIf_det {α : Type} {c : AV} {A B : (α → Prop) → Prop} {K : α → Prop} (hA : A K → ∃ v, K v ∧ ∀ K', K' v → A K') (hB : B K → ∃ v, K v ∧ ∀ K', K' v → B K') (h : aIf c (A K) (B K)) : ∃ v, K v ∧ ∀ K', K' v → aIf c (A K') (B K') := by
  unfold aIf at *
  split at h <;> first | exact hA h | exact hB h | exact h.elim

theorem eqOut_det {op : BinOp} {r : Bool} {K : AV → Prop} (h : eqOut op r K) : ∃ v, K v ∧ ∀ K' : AV → Prop, K' v → eqOut op r K' := by
  cases op <;> first | exact h.elim | exact ⟨_, h, fun _ h => h⟩

theorem slCells_det {sz : Nat} {x : AV} {h : AHeap} {K : List AV → Prop} (hk : slCells sz x h K) : ∃ v, K v ∧ ∀ K' : List AV → Prop, K' v → slCells sz x h K' := by
  unfold slCells at *
  split at hk
  · exact ⟨_, hk, fun _ h => h⟩
  · obtain ⟨b, h1, h2, h3, h4⟩ := hk; exact ⟨_, h4, fun _ h => ⟨b, h1, h2, h3, h⟩⟩
  · exact hk.elim

theorem bound_det {x : Option AV} {d : Nat} {K : Nat → Prop} (hk : bound x d K) : ∃ v, K v ∧ ∀ K' : Nat → Prop, K' v → bound x d K' := by
  unfold bound at *
  split at hk
  · exact ⟨_, hk, fun _ h => h⟩
  · exact ⟨_, hk.2, fun _ h => ⟨hk.1, h⟩⟩
  · exact hk.elim

theorem bif_det {α : Type} {c : Bool} {A : (α → Prop) → Prop} {K : α → Prop} (hA : A K → ∃ v, K v ∧ ∀ K', K' v → A K') (h : bif c then A K else False) : ∃ v, K v ∧ ∀ K', K' v → bif c then A K' else False := by
  cases c
  · exact h.elim
  · exact hA h

theorem and_det {α : Type} {B : Prop} {A : (α → Prop) → Prop} {K : α → Prop} (hA : A K → ∃ v, K v ∧ ∀ K', K' v → A K') (h : B ∧ A K) : ∃ v, K v ∧ ∀ K', K' v → B ∧ A K' := by
  obtain ⟨v, h1, h2⟩ := hA h.2
  exact ⟨v, h1, fun K' hK => ⟨h.1, h2 K' hK⟩⟩

theorem pBin_det {op : BinOp} {t : TypeId} {x y : AV} {K : AV → Prop} (hk : pBin P op t x y K) : ∃ v, K v ∧ ∀ K' : AV → Prop, K' v → pBin P op t x y K' := by
  unfold pBin at *
  split at hk
  case h_1 => cases op <;> first | exact ⟨_, hk.2, fun _ h => ⟨hk.1, h⟩⟩ | exact ⟨_, hk, fun _ h => h⟩ | exact bif_det (A := fun K => _ ∧ K _) (fun hk => ⟨_, hk.2, fun _ h => ⟨hk.1, h⟩⟩) hk | exact bif_det (A := fun K => K _) (fun hk => ⟨_, hk, fun _ h => h⟩) hk
  case h_2 => cases op <;> first | exact hk.elim | exact ⟨_, hk.2, fun _ h => ⟨hk.1, h⟩⟩ | exact ⟨_, hk, fun _ h => h⟩
  case h_3 => split at hk <;> first | exact eqOut_det hk | exact hk.elim
  case h_15 =>
    cases hg : P.eqGuardType P.depth t with
    | true => rw [hg] at hk; exact hk.elim
    | false =>
      rw [hg] at hk
      simp only [cond_false] at hk ⊢
      split at hk <;> first | exact eqOut_det hk | exact hk.elim
  all_goals first | exact bif_det (A := fun K => eqOut _ _ K) eqOut_det hk | exact hk.elim

theorem asB_det {v : AV} {K : Bool → Prop} (hk : asB v K) : ∃ c, K c ∧ ∀ K' : Bool → Prop, K' c → asB v K' := by
  unfold asB at *; split at hk <;> first | exact ⟨_, hk, fun _ h => h⟩ | exact hk.elim
theorem asI_det {k : IntKind} {v : AV} {K : Int → Prop} (hk : asI k v K) : ∃ c, K c ∧ ∀ K' : Int → Prop, K' c → asI k v K' := by
  unfold asI at *; split at hk <;> first | exact bif_det (A := fun K => K _) (fun hk => ⟨_, hk, fun _ h => h⟩) hk | exact hk.elim
theorem asS_det {v : AV} {K : List UInt8 → Prop} (hk : asS v K) : ∃ c, K c ∧ ∀ K' : List UInt8 → Prop, K' c → asS v K' := by
  unfold asS at *; split at hk <;> first | exact ⟨_, hk, fun _ h => h⟩ | exact hk.elim

theorem shapeO_det {o : Oper} {v : AV} {K : AV → Prop} (hk : shapeO P o v K) : ∃ c, K c ∧ ∀ K' : AV → Prop, K' c → shapeO P o v K' := by
  unfold shapeO at *
  split at hk
  · unfold shape at *
    split at hk
    · obtain ⟨c, h1, h2⟩ := asB_det hk; exact ⟨_, h1, fun K' h => h2 (fun c => K' (.b c)) h⟩
    · obtain ⟨c, h1, h2⟩ := asI_det hk; exact ⟨_, h1, fun K' h => h2 (fun c => K' (.i _ c)) h⟩
    · obtain ⟨c, h1, h2⟩ := asS_det hk; exact ⟨_, h1, fun K' h => h2 (fun c => K' (.s c)) h⟩
    · exact ⟨_, hk, fun _ h => h⟩
  · exact ⟨_, hk, fun _ h => h⟩

theorem pSliceSl_det {sz : Nat} {x : AV} {lo hi mx : Option AV} {h : AHeap} {K : AV → Prop} (hk : pSliceSl sz x lo hi mx h K) : ∃ v, K v ∧ ∀ K' : AV → Prop, K' v → pSliceSl sz x lo hi mx h K' := by
  unfold pSliceSl at *
  split at hk
  · obtain ⟨m, hm, em⟩ := bound_det hk
    obtain ⟨j, hj, ej⟩ := bound_det hm
    obtain ⟨i, hi, ei⟩ := bound_det hj
    exact ⟨_, hi.2.2.2.2, fun K' h => em _ (ej _ (ei _ ⟨hi.1, hi.2.1, hi.2.2.1, hi.2.2.2.1, h⟩))⟩
  · obtain ⟨g1, g2, hk⟩ := hk
    obtain ⟨j, hj, ej⟩ := bound_det hk
    obtain ⟨i, hi, ei⟩ := bound_det hj
    obtain ⟨k1, b, h1, h2, h3, h4, h5⟩ := hi
    cases mx with
    | none => exact ⟨_, h5.2, fun K' h => ⟨g1, g2, ej _ (ei _ ⟨k1, b, h1, h2, h3, h4, h5.1, h⟩)⟩⟩
    | some m =>
      obtain ⟨n, hn, en⟩ := bound_det h5
      exact ⟨_, hn.2.2, fun K' h => ⟨g1, g2, ej _ (ei _ ⟨k1, b, h1, h2, h3, h4, en _ ⟨hn.1, hn.2.1, h⟩⟩)⟩⟩
  · exact hk.elim

theorem aopN_det {o : Oper} {e : Env} {h : AHeap} {K : AV → Prop} (hk : aopN P o e h K) : ∃ v, K v ∧ ∀ K' : AV → Prop, K' v → aopN P o e h K' := by
  obtain ⟨dst, op, type, pos, after, guard⟩ := o
  cases op with
  | move x => exact ⟨_, hk, fun _ h => h⟩
  | assign x => exact ⟨_, hk, fun _ h => h⟩
  | pick c x y => exact aIf_det (A := fun K => K _) (B := fun K => K _) (fun hk => ⟨_, hk, fun _ h => h⟩) (fun hk => ⟨_, hk, fun _ h => h⟩) hk
  | load t x =>
    simp only [aopN] at *
    split at hk
    · unfold pLoadN at *
      split at hk
      · obtain ⟨b, h1, h2, h3⟩ := hk; exact ⟨_, h3, fun _ h => ⟨b, h1, h2, h⟩⟩
      · exact hk.elim
    · unfold pLoad1 at *
      split at hk
      · obtain ⟨b, h1, h2, h3⟩ := hk; exact ⟨_, h3, fun _ h => ⟨b, h1, h2, h⟩⟩
      · exact hk.elim
    · exact hk.elim
  | nilCheck x =>
    simp only [aopN] at *
    unfold pNil at *
    split at hk <;> first | exact hk.elim | exact ⟨_, hk, fun _ h => h⟩
  | binOp op t x y yt => exact pBin_det hk
  | unOp op t x =>
    simp only [aopN] at *
    unfold pUn at *
    split at hk <;> first | exact hk.elim | exact ⟨_, hk, fun _ h => h⟩
  | convert src dst' x =>
    simp only [aopN] at *
    split at hk
    · unfold pConvInt at *
      split at hk <;> first | exact hk.elim | exact ⟨_, hk, fun _ h => h⟩
    · unfold pConvStr at *
      split at hk <;> first | exact hk.elim | exact ⟨_, hk, fun _ h => h⟩
    · split at hk
      · unfold pBytesStr at *
        obtain ⟨cs, h1, h2⟩ := slCells_det hk
        exact ⟨_, h1.2, fun K' h => h2 _ ⟨h1.1, h⟩⟩
      · exact hk.elim
    · exact hk.elim
  | makeInterface t x =>
    simp only [aopN] at *
    split at hk <;> first | exact hk.elim | exact ⟨_, hk, fun _ h => h⟩
  | makeFunc f a b => exact ⟨_, hk, fun _ h => h⟩
  | slice t x lo hi mx =>
    simp only [aopN] at *
    split at hk
    · split at hk
      · unfold pSliceStr at *
        split at hk
        · obtain ⟨m, hm, em⟩ := bound_det hk
          obtain ⟨n, hn, en⟩ := bound_det hm
          exact ⟨_, hn.2.2, fun K' h => em _ (en _ ⟨hn.1, hn.2.1, h⟩)⟩
        · exact hk.elim
      · exact hk.elim
    · obtain ⟨h1, h2⟩ := bif_true hk
      simp only [h1, cond_true]
      exact pSliceSl_det h2
    · split at hk
      · obtain ⟨h1, h2⟩ := bif_true hk
        simp only [h1, cond_true]
        unfold pSliceArr at *
        split at h2
        · obtain ⟨g0, h2⟩ := h2
          obtain ⟨j, hj, ej⟩ := bound_det h2
          obtain ⟨i, hi, ei⟩ := bound_det hj
          obtain ⟨g1, g2, b, g3, g4, g5, g6⟩ := hi
          exact ⟨_, g6, fun K' h => ⟨g0, ej _ (ei _ ⟨g1, g2, b, g3, g4, g5, h⟩)⟩⟩
        · exact h2.elim
      · exact hk.elim
    · exact hk.elim
  | fieldAddr t x f =>
    simp only [aopN] at *
    split at hk
    · split at hk
      · rename_i fl _
        cases hz : Nat.beq (P.cellsOf fl.type) 0 with
        | true => rw [hz] at hk; exact hk.elim
        | false =>
          rw [hz] at hk
          simp only [cond_false] at hk ⊢
          unfold pFieldAddr at *
          split at hk <;> first | exact hk.elim | exact ⟨_, hk, fun _ h => h⟩
      · exact hk.elim
    · exact hk.elim
  | field t x f =>
    simp only [aopN] at *
    split at hk
    · split at hk
      · split at hk
        · unfold pFieldN at *
          split at hk <;> first | exact hk.elim | exact ⟨_, hk, fun _ h => h⟩ | exact ⟨_, hk.2, fun _ h => ⟨hk.1, h⟩⟩
        · unfold pField1 at *
          split at hk <;> first | exact hk.elim | exact ⟨_, hk.2, fun _ h => ⟨hk.1, h⟩⟩
        · exact hk.elim
      · exact hk.elim
    · exact hk.elim
  | indexAddr t x ix =>
    simp only [aopN] at *
    split at hk
    · obtain ⟨h1, h2⟩ := bif_true hk
      simp only [h1, cond_true]
      unfold pIdxAddrSl at *
      split at h2
      · exact ⟨_, h2.2.2.2, fun _ h => ⟨h2.1, h2.2.1, h2.2.2.1, h⟩⟩
      · exact h2.elim
    · obtain ⟨h1, h2⟩ := bif_true hk
      simp only [h1, cond_true]
      unfold pIdxAddrArr at *
      split at h2
      · exact ⟨_, h2.2.2, fun _ h => ⟨h2.1, h2.2.1, h⟩⟩
      · exact h2.elim
    · exact hk.elim
  | index t x ix =>
    simp only [aopN] at *
    split at hk
    · unfold pIdxStr at *
      split at hk
      · exact ⟨_, hk.2.2, fun _ h => ⟨hk.1, hk.2.1, h⟩⟩
      · exact hk.elim
    · split at hk
      · obtain ⟨h1, h2⟩ := bif_true hk
        simp only [h1, cond_true]
        unfold pIdxArr1 at *
        split at h2
        · exact ⟨_, h2.2.2.2, fun _ h => ⟨h2.1, h2.2.1, h2.2.2.1, h⟩⟩
        · exact h2.elim
      · exact hk.elim
    · exact hk.elim
  | build t parts =>
    simp only [aopN] at *
    split at hk
    · unfold pBuild at *
      split at hk <;> first | exact hk.elim | exact ⟨_, hk, fun _ h => h⟩
    · exact hk.elim
  | extract x i =>
    simp only [aopN] at *
    unfold pExtract at *
    split at hk
    · exact ⟨_, hk.2, fun _ h => ⟨hk.1, h⟩⟩
    · exact hk.elim
  | call c =>
    obtain ⟨callee, args, argTypes⟩ := c
    cases callee with
    | builtin b =>
      cases b <;> first | exact False.elim hk | skip
      case len =>
        simp only [aopN] at *
        split at hk
        · split at hk
          · unfold pLenStr at *
            split at hk <;> first | exact hk.elim | exact ⟨_, hk, fun _ h => h⟩
          · exact hk.elim
        · split at hk
          · unfold pLenSl at *
            split at hk <;> first | exact hk.elim | exact ⟨_, hk, fun _ h => h⟩
          · exact hk.elim
        · split at hk <;> first | exact hk.elim | exact ⟨_, hk, fun _ h => h⟩
        · exact hk.elim
      case min =>
        simp only [aopN] at *
        unfold pMM at *
        split at hk <;> first | exact hk.elim | exact ⟨_, hk, fun _ h => h⟩
      case max =>
        simp only [aopN] at *
        unfold pMM at *
        split at hk <;> first | exact hk.elim | exact ⟨_, hk, fun _ h => h⟩
    | _ => exact False.elim hk
  | _ => exact False.elim hk

theorem ev_heap {e : Env} {h h' : AHeap} {x : Operand} (hx : (match x with | .global _ => true | _ => false) = false) : ev e h x = ev e h' x := by
  cases x <;> first | rfl | cases hx

theorem evs_heap {e : Env} {h h' : AHeap} : ∀ {xs : List Operand}, (∀ x ∈ xs, ev e h x = ev e h' x) → xs.map (ev e h) = xs.map (ev e h')
  | [], _ => rfl
  | x :: xs, H => by rw [List.map_cons, List.map_cons, H x (by simp), evs_heap fun y hy => H y (by simp [hy])]

theorem aopN_heap {o : Oper} {e : Env} {h h' : AHeap} {K : AV → Prop} (hr : readsA P o = false) (hk : aopN P o e h K) : aopN P o e h' K := by
  have hg : ∀ x ∈ o.op.operands.toList, ev e h x = ev e h' x := by
    intro x hx
    unfold readsA at hr
    simp only [Bool.or_eq_false_iff] at hr
    refine ev_heap ?_
    have := hr.1
    rw [List.any_eq_false] at this
    have := this x hx
    revert this
    cases x <;> simp
  obtain ⟨dst, op, type, pos, after, guard⟩ := o
  simp only [readsA, Bool.or_eq_false_iff] at hr
  have hr := hr.2
  cases op with
  | move x => simpa only [aopN, hg x (by simp [Op.operands])] using hk
  | assign x => simpa only [aopN, hg x (by simp [Op.operands])] using hk
  | pick c x y => simpa only [aopN, hg c (by simp [Op.operands]), hg x (by simp [Op.operands]), hg y (by simp [Op.operands])] using hk
  | load t x => cases hr
  | nilCheck x => simpa only [aopN, hg x (by simp [Op.operands])] using hk
  | binOp op t x y yt => simpa only [aopN, hg x (by simp [Op.operands]), hg y (by simp [Op.operands])] using hk
  | unOp op t x => simpa only [aopN, hg x (by simp [Op.operands])] using hk
  | convert src dst' x =>
    simp only at hr
    simp only [aopN, hg x (by simp [Op.operands])] at hk ⊢
    split at hk
    · exact hk
    · exact hk
    · rename_i h1 h2; rw [h1] at hr; cases hr
    · exact hk
  | makeInterface t x => simpa only [aopN, hg x (by simp [Op.operands])] using hk
  | makeFunc f a b =>
    have h1 := evs_heap (xs := a.toList) fun x hx => hg x (by simp [Op.operands]; simp at hx; simp [hx])
    have h2 := evs_heap (xs := b.toList) fun x hx => hg x (by simp [Op.operands]; simp at hx; simp [hx])
    simpa only [aopN, h1, h2] using hk
  | slice t x lo hi mx =>
    simp only at hr
    simp only [aopN] at hk ⊢
    split at hk
    · have h1 : lo.map (ev e h) = lo.map (ev e h') := by
        cases lo with
        | none => rfl
        | some y => simp only [Option.map_some]; rw [hg y (by simp [Op.operands])]
      have h2 : hi.map (ev e h) = hi.map (ev e h') := by
        cases hi with
        | none => rfl
        | some y => simp only [Option.map_some]; rw [hg y (by simp [Op.operands])]
      simpa only [hg x (by simp [Op.operands]), h1, h2] using hk
    · rename_i h1; rw [h1] at hr; cases hr
    · rename_i h1; rw [h1] at hr; cases hr
    · exact hk
  | fieldAddr t x f => simpa only [aopN, hg x (by simp [Op.operands])] using hk
  | field t x f => simpa only [aopN, hg x (by simp [Op.operands])] using hk
  | indexAddr t x ix =>
    simp only at hr
    simp only [aopN] at hk ⊢
    split at hk
    · rename_i h1; rw [h1] at hr; cases hr
    · simpa only [hg x (by simp [Op.operands]), hg ix (by simp [Op.operands])] using hk
    · exact hk
  | index t x ix => simpa only [aopN, hg x (by simp [Op.operands]), hg ix (by simp [Op.operands])] using hk
  | build t parts =>
    have h1 : (parts.toList.map fun (i, x) => (i, ev e h x)) = parts.toList.map fun (i, x) => (i, ev e h' x) := by
      apply List.map_congr_left
      rintro ⟨i, x⟩ hx
      simp only
      rw [hg x (by simp [Op.operands]; simp at hx; exact ⟨i, hx⟩)]
    simpa only [aopN, h1] using hk
  | extract x i => simpa only [aopN, hg x (by simp [Op.operands])] using hk
  | call c =>
    obtain ⟨callee, args, argTypes⟩ := c
    cases callee with
    | builtin b =>
      have h1 := evs_heap (xs := args.toList) fun x hx => hg x (by simp [Op.operands, Call.operands]; simp at hx; simp [hx])
      cases b <;> first | exact False.elim hk | skip
      case len =>
        simp only [aopN] at hk ⊢
        split at hk
        · split at hk
          · rename_i x hx
            have : ev e h x = ev e h' x := hg x (by simp [Op.operands, Call.operands]; rw [← Array.mem_toList_iff, hx]; simp)
            rw [← this]; exact hk
          · exact hk
        · split at hk
          · rename_i x hx
            have : ev e h x = ev e h' x := hg x (by simp [Op.operands, Call.operands]; rw [← Array.mem_toList_iff, hx]; simp)
            rw [← this]; exact hk
          · exact hk
        · exact hk
        · exact hk
      case min => simpa only [aopN, h1] using hk
      case max => simpa only [aopN, h1] using hk
    | _ => exact False.elim hk
  | _ => exact False.elim hk

end
end Go.GAM
