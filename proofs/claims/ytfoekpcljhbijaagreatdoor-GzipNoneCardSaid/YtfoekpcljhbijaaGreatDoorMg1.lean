/- Lemmas (several texts in one). -/
import Derived.Scope
import Derived.RangeFuncOwn
import Derived.DefersIn
import Derived.Test.YtfoekpcljhbijaaGreatDoorProg
import Derived.KernelRfl
import Derived.Below
import Derived.ChangeArms
import Derived.ChangeSlices
import Derived.DataElems
import Derived.LaidMore
import Derived.Test.YtfoekpcljhbijaaGreatDoorMg0
/- An operation that changes nothing has one outcome, and, if it reads nothing, the same one on any heap. -/
set_option linter.unusedVariables false
set_option linter.unusedSimpArgs false
namespace Go.GAM

section
variable {P : Program}

theorem aIf_det {α : Type} {c : AV} {A B : (α → Prop) → Prop} {K : α → Prop} (hA : A K → ∃ v, K v ∧ ∀ K', K' v → A K') (hB : B K → ∃ v, K v ∧ ∀ K', K' v → B K') (h : aIf c (A K) (B K)) : ∃ v, K v ∧ ∀ K', K' v → aIf c (A K') (B K') := by
  unfold aIf at *
  split at h <;> first | exact hA h | exact hB h | exact h.elim

theorem eqOut_det {op : BinOp} {r : Bool} {K : AV → Prop} (h : eqOut op r K) : ∃ v, K v ∧ ∀ K' : AV → Prop, K' v → eqOut op r K' := by
  cases op <;> first | exact h.elim | exact ⟨_, h, fun _ h => h⟩

theorem slCells_det {sz : Nat} {x : AV} {h : AHeap} {K : List AV → Prop} (hk : slCells sz x h K) : ∃ v, K v ∧ ∀ K' : List AV → Prop, K' v → slCells sz x h K' := by
  unfold slCells at *
  split at hk
  · exact ⟨_, hk, fun _ h => h⟩
  · rcases hk with ⟨h0, hk⟩ | ⟨b, h1, h3, h4⟩
    · exact ⟨_, hk, fun _ h => .inl ⟨h0, h⟩⟩
    · exact ⟨_, h4, fun _ h => .inr ⟨b, h1, h3, h⟩⟩
  · exact hk.elim

theorem bound_det {x : Option AV} {d : Nat} {K : Nat → Prop} (hk : bound x d K) : ∃ v, K v ∧ ∀ K' : Nat → Prop, K' v → bound x d K' := by
  unfold bound at *
  split at hk
  · exact ⟨_, hk, fun _ h => h⟩
  · exact ⟨_, hk.2, fun _ h => ⟨hk.1, h⟩⟩
  · exact hk.elim

theorem bif_det {α : Type} {c : Bool} {A : (α → Prop) → Prop} {K : α → Prop} (hA : A K → ∃ v, K v ∧ ∀ K', K' v → A K') (h : bif c then A K else False) : ∃ v, K v ∧ ∀ K', K' v → bif c then A K' else False := by
  cases c
  · exact h.elim
  · exact hA h

theorem pBin_det {op : BinOp} {t : TypeId} {x y : AV} {K : AV → Prop} (hk : pBin P op t x y K) : ∃ v, K v ∧ ∀ K' : AV → Prop, K' v → pBin P op t x y K' := by
  unfold pBin at *
  split at hk
  case h_1 => cases op <;> first | exact ⟨_, hk.2, fun _ h => ⟨hk.1, h⟩⟩ | exact ⟨_, hk, fun _ h => h⟩ | exact bif_det (A := fun K => _ ∧ K _) (fun hk => ⟨_, hk.2, fun _ h => ⟨hk.1, h⟩⟩) hk | exact bif_det (A := fun K => K _) (fun hk => ⟨_, hk, fun _ h => h⟩) hk
  case h_2 => cases op <;> first | exact hk.elim | exact ⟨_, hk.2, fun _ h => ⟨hk.1, h⟩⟩ | exact ⟨_, hk, fun _ h => h⟩
  case h_3 => split at hk <;> first | exact eqOut_det hk | exact hk.elim
  case h_16 =>
    cases hg : P.eqGuardType P.depth t with
    | true => rw [hg] at hk; exact hk.elim
    | false =>
      rw [hg] at hk
      simp only [cond_false] at hk ⊢
      split at hk <;> first | exact eqOut_det hk | exact hk.elim
  all_goals first | exact bif_det (A := fun K => eqOut _ _ K) eqOut_det hk | exact hk.elim

theorem asB_det {v : AV} {K : Bool → Prop} (hk : asB v K) : ∃ c, K c ∧ ∀ K' : Bool → Prop, K' c → asB v K' := by
  unfold asB at *; split at hk <;> first | exact ⟨_, hk, fun _ h => h⟩ | exact hk.elim
theorem asI_det {k : IntKind} {v : AV} {K : Int → Prop} (hk : asI k v K) : ∃ c, K c ∧ ∀ K' : Int → Prop, K' c → asI k v K' := by
  unfold asI at *; split at hk <;> first | exact bif_det (A := fun K => K _) (fun hk => ⟨_, hk, fun _ h => h⟩) hk | exact hk.elim
theorem asS_det {v : AV} {K : List UInt8 → Prop} (hk : asS v K) : ∃ c, K c ∧ ∀ K' : List UInt8 → Prop, K' c → asS v K' := by
  unfold asS at *; split at hk <;> first | exact ⟨_, hk, fun _ h => h⟩ | exact hk.elim

theorem shapeO_det {o : Oper} {v : AV} {K : AV → Prop} (hk : shapeO P o v K) : ∃ c, K c ∧ ∀ K' : AV → Prop, K' c → shapeO P o v K' := by
  unfold shapeO at *
  split at hk
  · unfold shape at *
    split at hk
    · obtain ⟨c, h1, h2⟩ := asB_det hk; exact ⟨_, h1, fun K' h => h2 (fun c => K' (.b c)) h⟩
    · obtain ⟨c, h1, h2⟩ := asI_det hk; exact ⟨_, h1, fun K' h => h2 (fun c => K' (.i _ c)) h⟩
    · obtain ⟨c, h1, h2⟩ := asS_det hk; exact ⟨_, h1, fun K' h => h2 (fun c => K' (.s c)) h⟩
    · exact ⟨_, hk, fun _ h => h⟩
  · exact ⟨_, hk, fun _ h => h⟩

theorem pSliceSl_det {sz : Nat} {x : AV} {lo hi mx : Option AV} {h : AHeap} {K : AV → Prop} (hk : pSliceSl sz x lo hi mx h K) : ∃ v, K v ∧ ∀ K' : AV → Prop, K' v → pSliceSl sz x lo hi mx h K' := by
  unfold pSliceSl at *
  split at hk
  · obtain ⟨m, hm, em⟩ := bound_det hk
    obtain ⟨j, hj, ej⟩ := bound_det hm
    obtain ⟨i, hi, ei⟩ := bound_det hj
    exact ⟨_, hi.2.2.2.2, fun K' h => em _ (ej _ (ei _ ⟨hi.1, hi.2.1, hi.2.2.1, hi.2.2.2.1, h⟩))⟩
  · obtain ⟨g1, g2, hk⟩ := hk
    obtain ⟨j, hj, ej⟩ := bound_det hk
    obtain ⟨i, hi, ei⟩ := bound_det hj
    obtain ⟨k1, b, h1, h2, h3, h4, h5⟩ := hi
    cases mx with
    | none => exact ⟨_, h5.2, fun K' h => ⟨g1, g2, ej _ (ei _ ⟨k1, b, h1, h2, h3, h4, h5.1, h⟩)⟩⟩
    | some m =>
      obtain ⟨n, hn, en⟩ := bound_det h5
      exact ⟨_, hn.2.2, fun K' h => ⟨g1, g2, ej _ (ei _ ⟨k1, b, h1, h2, h3, h4, en _ ⟨hn.1, hn.2.1, h⟩⟩)⟩⟩
  · exact hk.elim

theorem aopN_det {o : Oper} {e : Env} {h : AHeap} {K : AV → Prop} (hk : aopN P o e h K) : ∃ v, K v ∧ ∀ K' : AV → Prop, K' v → aopN P o e h K' := by
  obtain ⟨dst, op, type, pos, after, guard⟩ := o
  cases op with
  | move x => exact ⟨_, hk, fun _ h => h⟩
  | assign x => exact ⟨_, hk, fun _ h => h⟩
  | pick c x y => exact aIf_det (A := fun K => K _) (B := fun K => K _) (fun hk => ⟨_, hk, fun _ h => h⟩) (fun hk => ⟨_, hk, fun _ h => h⟩) hk
  | load t x =>
    simp only [aopN] at *
    split at hk
    · unfold pLoadN at *
      split at hk
      · obtain ⟨b, h1, h2, h3⟩ := hk; exact ⟨_, h3, fun _ h => ⟨b, h1, h2, h⟩⟩
      · exact hk.elim
    · unfold pLoad1 at *
      split at hk
      · obtain ⟨b, h1, h2, h3⟩ := hk; exact ⟨_, h3, fun _ h => ⟨b, h1, h2, h⟩⟩
      · exact hk.elim
    · exact hk.elim
  | nilCheck x =>
    simp only [aopN] at *
    unfold pNil at *
    split at hk <;> first | exact hk.elim | exact ⟨_, hk, fun _ h => h⟩
  | binOp op t x y yt => exact pBin_det hk
  | unOp op t x =>
    simp only [aopN] at *
    unfold pUn at *
    split at hk <;> first | exact hk.elim | exact ⟨_, hk, fun _ h => h⟩
  | convert src dst' x =>
    simp only [aopN] at *
    split at hk
    · unfold pConvInt at *
      split at hk <;> first | exact hk.elim | exact ⟨_, hk, fun _ h => h⟩
    · unfold pConvStr at *
      split at hk <;> first | exact hk.elim | exact ⟨_, hk, fun _ h => h⟩
    · split at hk
      · unfold pBytesStr at *
        obtain ⟨cs, h1, h2⟩ := slCells_det hk
        exact ⟨_, h1.2, fun K' h => h2 _ ⟨h1.1, h⟩⟩
      · exact hk.elim
    · rename_i t h1 h2
      cases hz : Nat.beq (P.cellsOf t) 0 with
      | true => rw [hz] at hk; exact hk.elim
      | false =>
        rw [hz] at hk
        simp only [cond_false] at hk ⊢
        unfold pUnsafe at *
        split at hk
        · exact ⟨_, hk, fun _ h => h⟩
        · obtain ⟨b, h1, h2, h3⟩ := hk; exact ⟨_, h3, fun _ h => ⟨b, h1, h2, h⟩⟩
        · exact hk.elim
    · rename_i u h1 h2
      obtain ⟨hu, hk⟩ := bif_true hk
      simp only [hu, cond_true]
      unfold pFromUnsafe at *
      split at hk
      · exact ⟨_, hk, fun _ h => h⟩
      · obtain ⟨b, t, g1, g2, g3, g4, g5, g6⟩ := hk; exact ⟨_, g6, fun _ h => ⟨b, t, g1, g2, g3, g4, g5, h⟩⟩
      · exact hk.elim
    · exact hk.elim
  | makeInterface t x =>
    simp only [aopN] at *
    split at hk <;> first | exact hk.elim | exact ⟨_, hk, fun _ h => h⟩
  | makeFunc f a b => exact ⟨_, hk, fun _ h => h⟩
  | lookup t x ix ok =>
    simp only [aopN] at *
    split at hk
    · obtain ⟨h1, h2⟩ := bif_true hk
      simp only [h1, cond_true]
      unfold pLookup at *
      obtain ⟨h3, h2⟩ := h2
      split at h2
      · exact h2.elim
      · split at h2
        · exact ⟨_, h2, fun _ h => ⟨h3, h⟩⟩
        · split at h2
          · exact ⟨_, h2, fun _ h => ⟨h3, h⟩⟩
          · exact h2.elim
        · exact h2.elim
    · exact hk.elim
  | slice t x lo hi mx =>
    simp only [aopN] at *
    split at hk
    · split at hk
      · unfold pSliceStr at *
        split at hk
        · obtain ⟨m, hm, em⟩ := bound_det hk
          obtain ⟨n, hn, en⟩ := bound_det hm
          exact ⟨_, hn.2.2, fun K' h => em _ (en _ ⟨hn.1, hn.2.1, h⟩)⟩
        · exact hk.elim
      · exact hk.elim
    · obtain ⟨h1, h2⟩ := bif_true hk
      simp only [h1, cond_true]
      exact pSliceSl_det h2
    · split at hk
      · obtain ⟨h1, h2⟩ := bif_true hk
        simp only [h1, cond_true]
        unfold pSliceArr at *
        split at h2
        · obtain ⟨g0, h2⟩ := h2
          obtain ⟨j, hj, ej⟩ := bound_det h2
          obtain ⟨i, hi, ei⟩ := bound_det hj
          obtain ⟨g1, g2, b, g3, g4, g5, g6⟩ := hi
          exact ⟨_, g6, fun K' h => ⟨g0, ej _ (ei _ ⟨g1, g2, b, g3, g4, g5, h⟩)⟩⟩
        · exact h2.elim
      · exact hk.elim
    · exact hk.elim
  | fieldAddr t x f =>
    simp only [aopN] at *
    split at hk
    · split at hk
      · rename_i fl _
        cases hz : Nat.beq (P.cellsOf fl.type) 0 with
        | true => rw [hz] at hk; exact hk.elim
        | false =>
          rw [hz] at hk
          simp only [cond_false] at hk ⊢
          unfold pFieldAddr at *
          split at hk <;> first | exact hk.elim | exact ⟨_, hk, fun _ h => h⟩
      · exact hk.elim
    · exact hk.elim
  | field t x f =>
    simp only [aopN] at *
    split at hk
    · split at hk
      · split at hk
        · unfold pFieldN at *
          split at hk <;> first | exact hk.elim | exact ⟨_, hk, fun _ h => h⟩ | exact ⟨_, hk.2, fun _ h => ⟨hk.1, h⟩⟩
        · unfold pField1 at *
          split at hk <;> first | exact hk.elim | exact ⟨_, hk.2, fun _ h => ⟨hk.1, h⟩⟩
        · exact hk.elim
      · exact hk.elim
    · exact hk.elim
  | indexAddr t x ix =>
    simp only [aopN] at *
    split at hk
    · obtain ⟨h1, h2⟩ := bif_true hk
      simp only [h1, cond_true]
      unfold pIdxAddrSl at *
      split at h2
      · exact ⟨_, h2.2.2.2, fun _ h => ⟨h2.1, h2.2.1, h2.2.2.1, h⟩⟩
      · exact h2.elim
    · obtain ⟨h1, h2⟩ := bif_true hk
      simp only [h1, cond_true]
      unfold pIdxAddrArr at *
      split at h2
      · exact ⟨_, h2.2.2, fun _ h => ⟨h2.1, h2.2.1, h⟩⟩
      · exact h2.elim
    · exact hk.elim
  | index t x ix =>
    simp only [aopN] at *
    split at hk
    · unfold pIdxStr at *
      split at hk
      · exact ⟨_, hk.2.2, fun _ h => ⟨hk.1, hk.2.1, h⟩⟩
      · exact hk.elim
    · split at hk
      · obtain ⟨h1, h2⟩ := bif_true hk
        simp only [h1, cond_true]
        unfold pIdxArr1 at *
        split at h2
        · exact ⟨_, h2.2.2.2, fun _ h => ⟨h2.1, h2.2.1, h2.2.2.1, h⟩⟩
        · exact h2.elim
      · exact hk.elim
    · exact hk.elim
  | build t parts =>
    simp only [aopN] at *
    split at hk
    · unfold pBuild at *
      split at hk <;> first | exact hk.elim | exact ⟨_, hk, fun _ h => h⟩
    · exact hk.elim
  | extract x i =>
    simp only [aopN] at *
    unfold pExtract at *
    split at hk
    · exact ⟨_, hk.2, fun _ h => ⟨hk.1, h⟩⟩
    · exact hk.elim
  | call c =>
    obtain ⟨callee, args, argTypes⟩ := c
    cases callee with
    | builtin b =>
      cases b <;> first | exact False.elim hk | skip
      case len =>
        simp only [aopN] at *
        split at hk
        · split at hk
          · unfold pLenStr at *
            split at hk <;> first | exact hk.elim | exact ⟨_, hk, fun _ h => h⟩
          · exact hk.elim
        · split at hk
          · unfold pLenSl at *
            split at hk <;> first | exact hk.elim | exact ⟨_, hk, fun _ h => h⟩
          · exact hk.elim
        · split at hk <;> first | exact hk.elim | exact ⟨_, hk, fun _ h => h⟩
        · exact hk.elim
      case min =>
        simp only [aopN] at *
        unfold pMM at *
        split at hk <;> first | exact hk.elim | exact ⟨_, hk, fun _ h => h⟩
      case max =>
        simp only [aopN] at *
        unfold pMM at *
        split at hk <;> first | exact hk.elim | exact ⟨_, hk, fun _ h => h⟩
    | _ => exact False.elim hk
  | _ => exact False.elim hk

theorem ev_heap {e : Env} {h h' : AHeap} {x : Operand} (hx : (match x with | .global _ => true | _ => false) = false) : ev e h x = ev e h' x := by
  cases x <;> first | rfl | cases hx

theorem evs_heap {e : Env} {h h' : AHeap} : ∀ {xs : List Operand}, (∀ x ∈ xs, ev e h x = ev e h' x) → xs.map (ev e h) = xs.map (ev e h')
  | [], _ => rfl
  | x :: xs, H => by rw [List.map_cons, List.map_cons, H x (by simp), evs_heap fun y hy => H y (by simp [hy])]

theorem aopN_heap {o : Oper} {e : Env} {h h' : AHeap} {K : AV → Prop} (hr : readsA P o = false) (hk : aopN P o e h K) : aopN P o e h' K := by
  have hg : ∀ x ∈ o.op.operands.toList, ev e h x = ev e h' x := by
    intro x hx
    unfold readsA at hr
    simp only [Bool.or_eq_false_iff] at hr
    refine ev_heap ?_
    have := hr.1
    rw [List.any_eq_false] at this
    have := this x hx
    revert this
    cases x <;> simp
  obtain ⟨dst, op, type, pos, after, guard⟩ := o
  simp only [readsA, Bool.or_eq_false_iff] at hr
  have hr := hr.2
  cases op with
  | move x => simpa only [aopN, hg x (by simp [Op.operands])] using hk
  | assign x => simpa only [aopN, hg x (by simp [Op.operands])] using hk
  | pick c x y => simpa only [aopN, hg c (by simp [Op.operands]), hg x (by simp [Op.operands]), hg y (by simp [Op.operands])] using hk
  | load t x => cases hr
  | lookup t x ix ok => cases hr
  | nilCheck x => simpa only [aopN, hg x (by simp [Op.operands])] using hk
  | binOp op t x y yt => simpa only [aopN, hg x (by simp [Op.operands]), hg y (by simp [Op.operands])] using hk
  | unOp op t x => simpa only [aopN, hg x (by simp [Op.operands])] using hk
  | convert src dst' x =>
    simp only at hr
    simp only [aopN, hg x (by simp [Op.operands])] at hk ⊢
    split at hk
    · exact hk
    · exact hk
    · rename_i h1 h2; rw [h1] at hr; cases hr
    · rename_i h1 h2; rw [h1] at hr; cases hr
    · rename_i h1 h2; rw [h1] at hr; cases hr
    · exact hk
  | makeInterface t x => simpa only [aopN, hg x (by simp [Op.operands])] using hk
  | makeFunc f a b =>
    have h1 := evs_heap (xs := a.toList) fun x hx => hg x (by simp [Op.operands]; simp at hx; simp [hx])
    have h2 := evs_heap (xs := b.toList) fun x hx => hg x (by simp [Op.operands]; simp at hx; simp [hx])
    simpa only [aopN, h1, h2] using hk
  | slice t x lo hi mx =>
    simp only at hr
    simp only [aopN] at hk ⊢
    split at hk
    · have h1 : lo.map (ev e h) = lo.map (ev e h') := by
        cases lo with
        | none => rfl
        | some y => simp only [Option.map_some]; rw [hg y (by simp [Op.operands])]
      have h2 : hi.map (ev e h) = hi.map (ev e h') := by
        cases hi with
        | none => rfl
        | some y => simp only [Option.map_some]; rw [hg y (by simp [Op.operands])]
      simpa only [hg x (by simp [Op.operands]), h1, h2] using hk
    · rename_i h1; rw [h1] at hr; cases hr
    · rename_i h1; rw [h1] at hr; cases hr
    · exact hk
  | fieldAddr t x f => simpa only [aopN, hg x (by simp [Op.operands])] using hk
  | field t x f => simpa only [aopN, hg x (by simp [Op.operands])] using hk
  | indexAddr t x ix =>
    simp only at hr
    simp only [aopN] at hk ⊢
    split at hk
    · rename_i h1; rw [h1] at hr; cases hr
    · simpa only [hg x (by simp [Op.operands]), hg ix (by simp [Op.operands])] using hk
    · exact hk
  | index t x ix => simpa only [aopN, hg x (by simp [Op.operands]), hg ix (by simp [Op.operands])] using hk
  | build t parts =>
    have h1 : (parts.toList.map fun (i, x) => (i, ev e h x)) = parts.toList.map fun (i, x) => (i, ev e h' x) := by
      apply List.map_congr_left
      rintro ⟨i, x⟩ hx
      simp only
      rw [hg x (by simp [Op.operands]; simp at hx; exact ⟨i, hx⟩)]
    simpa only [aopN, h1] using hk
  | extract x i => simpa only [aopN, hg x (by simp [Op.operands])] using hk
  | call c =>
    obtain ⟨callee, args, argTypes⟩ := c
    cases callee with
    | builtin b =>
      have h1 := evs_heap (xs := args.toList) fun x hx => hg x (by simp [Op.operands, Call.operands]; simp at hx; simp [hx])
      cases b <;> first | exact False.elim hk | skip
      case len =>
        simp only [aopN] at hk ⊢
        split at hk
        · split at hk
          · rename_i x hx
            have : ev e h x = ev e h' x := hg x (by simp [Op.operands, Call.operands]; rw [← Array.mem_toList_iff, hx]; simp)
            rw [← this]; exact hk
          · exact hk
        · split at hk
          · rename_i x hx
            have : ev e h x = ev e h' x := hg x (by simp [Op.operands, Call.operands]; rw [← Array.mem_toList_iff, hx]; simp)
            rw [← this]; exact hk
          · exact hk
        · exact hk
        · exact hk
      case min => simpa only [aopN, h1] using hk
      case max => simpa only [aopN, h1] using hk
    | _ => exact False.elim hk
  | _ => exact False.elim hk

end
end Go.GAM

/- Regions of open order: what the abstract machine takes in one order holds for all. -/
set_option linter.unusedVariables false
set_option linter.unusedSimpArgs false
namespace Go.GAM

section
variable {ds : List Deferred} {rd : Option Nat} {P : Program} {w0 : World} {Fz : Nat → Prop} {μ : Mu} {own : Nat → Option Nat} {h : AHeap} {w : World}

theorem EnvRel.upd {nt : Nat} {e : Env} {a : Act} (hE : EnvRel ds μ nt e a) {t : Nat} {v : AV} (hv : lk e t = v) : EnvRel ds μ nt (GAM.put e (some t) v) a := by
  refine ⟨hE.1, hE.2, fun t' => ?_⟩
  rw [lk_put]
  split
  · rename_i h
    simp only [Option.some.injEq] at h
    subst h
    rw [← hv]; exact hE.3 t
  · exact hE.3 t'

theorem pGuard_sound {want x : Bool} {A B : Prop} (h : pGuard want x A B) : (x = want ∧ A) ∨ (x = (!want) ∧ B) := by
  cases want <;> cases x <;> first | exact .inl ⟨rfl, h⟩ | exact .inr ⟨rfl, h⟩

theorem guardA_sound {nt : Nat} {ops : Array Oper} {o : Oper} {e : Env} {a : Act} {A B : Env → Prop} (hE : EnvRel ds μ nt e a) (hk : guardA ops o e A B) :
    (Region.wanted o (yielded ops a.tmps) = true ∧ ∃ e', EnvRel ds μ nt e' a ∧ A e') ∨ (Region.wanted o (yielded ops a.tmps) = false ∧ ∃ e', EnvRel ds μ nt e' a ∧ B e') := by
  unfold guardA at hk
  unfold Region.wanted
  cases hg : o.guard with
  | none => rw [hg] at hk; exact .inl ⟨rfl, e, hE, hk⟩
  | some g =>
    obtain ⟨j, want⟩ := g
    rw [hg] at hk
    simp only at hk ⊢
    cases hd : (ops[j]?).bind (·.dst) with
    | none =>
      rw [hd] at hk
      refine .inr ⟨?_, e, hE, hk⟩
      simp [yielded, hd]
    | some t =>
      rw [hd] at hk
      simp only at hk
      have hv := hE.val t
      have hgd : a.tmps.getD t undef = (a.tmps[t]?).getD undef := by
        by_cases ht : t < a.tmps.size
        · simp [Array.getD, ht]
        · simp [Array.getD, ht]
      rw [hgd] at hv
      have hy : yielded ops a.tmps j = match a.tmps[t]? with | some (.bool b) => some b | _ => none := by
        unfold yielded
        rw [hd]
        rfl
      rw [hy]
      cases hl : lk e t with
      | b x =>
        rw [hl] at hk hv
        simp only at hk
        have hc : a.tmps[t]? = some (.bool x) := by
          cases hoc : a.tmps[t]? with
          | none => rw [hoc] at hv; cases hv
          | some cv => rw [hoc] at hv; cases hv; rfl
        rw [hc]
        rcases pGuard_sound hk with ⟨rfl, hA⟩ | ⟨rfl, hB⟩
        · exact .inl ⟨by simp, _, hE.upd hl, hA⟩
        · exact .inr ⟨by cases want <;> rfl, _, hE.upd hl, hB⟩
      | tu vs =>
        rw [hl] at hk hv
        refine .inr ⟨?_, e, hE, hk⟩
        cases hoc : a.tmps[t]? with
        | none => rfl
        | some cv => rw [hoc] at hv; cases hv; rfl
      | _ => rw [hl] at hk; exact hk.elim

theorem shapeO_sound {o : Oper} {v : AV} {cv : Value} {K : AV → Prop} (hv : VRel μ v cv) (hk : shapeO P o v K) : K v := by
  unfold shapeO at hk
  split at hk
  · exact shape_sound hv hk
  · exact hk

theorem lk_restr_mem (e : Env) {t : Nat} : ∀ {L : List Nat}, t ∈ L → lk (restr L e) t = lk e t
  | x :: L, hm => by
    simp only [restr, List.map_cons, lk]
    by_cases h : x = t
    · subst h; simp
    · have : Nat.beq x t = false := nbeq h
      simp only [this, cond_false]
      rcases List.mem_cons.1 hm with h' | h'
      · exact absurd h'.symm h
      · exact lk_restr_mem e h'

theorem restr_congr {e e' : Env} {L : List Nat} (h : ∀ t ∈ L, lk e t = lk e' t) : restr L e = restr L e' := by
  unfold restr
  exact List.map_congr_left fun t ht => by rw [h t ht]

structure EnvOut (ds : List Deferred) (μ : Mu) (nt : Nat) (U : Nat → Prop) (e : Env) (a : Act) : Prop where
  size : a.tmps.size = nt
  defers : a.defers = ds
  val : ∀ t, ¬ U t → VRel μ (lk e t) (a.tmps.getD t undef)

theorem EnvOut.restr {nt : Nat} {U : Nat → Prop} {e : Env} {a : Act} (h : EnvOut ds μ nt U e a) {L : List Nat} (hL : ∀ t ∈ L, ¬ U t) : EnvRel ds μ nt (GAM.restr L e) a := by
  refine ⟨h.1, h.2, fun t => ?_⟩
  by_cases ht : t ∈ L
  · rw [lk_restr_mem e ht]; exact h.3 t (hL t ht)
  · have : lk (GAM.restr L e) t = .u := by
      clear hL
      induction L with
      | nil => rfl
      | cons x L ih =>
        simp only [GAM.restr, List.map_cons, lk]
        have h1 : x ≠ t := fun e => ht (by simp [e])
        have : Nat.beq x t = false := nbeq h1
        simp only [this, cond_false]
        exact ih fun h' => ht (by simp [h'])
    rw [this]; exact .u _

theorem EnvOut.mono {μ' : Mu} (hs : Sub μ μ') {nt : Nat} {U : Nat → Prop} {e : Env} {a : Act} (h : EnvOut ds μ nt U e a) : EnvOut ds μ' nt U e a := ⟨h.1, h.2, fun t ht => (h.3 t ht).mono hs⟩

theorem EnvOut.put {nt : Nat} {U U' : Nat → Prop} {e e' : Env} {a : Act} (h : EnvOut ds μ nt U e a) {o : Oper} (ho : dstOK nt o = true) {cv : Value}
    (hU : ∀ t, ¬ U' t → (∃ d, o.dst = some d ∧ d = t ∧ VRel μ (lk e' t) cv) ∨ (o.dst ≠ some t ∧ ¬ U t ∧ lk e' t = lk e t)) : EnvOut ds μ nt U' e' (a.put o.dst cv) := by
  refine ⟨?_, ?_, fun t ht => ?_⟩
  · cases hd : o.dst <;> simp [Act.put, h.1]
  · cases hd : o.dst <;> simp [Act.put, h.2]
  · rcases hU t ht with ⟨d, hd, rfl, hv⟩ | ⟨hd, hu, hl⟩
    · have hlt : d < nt := by
        simp only [dstOK, hd] at ho
        exact Nat.le_of_ble_eq_true ho
      simp [hd, Act.put, h.1, hlt, hv]
    · rw [hl]
      have := h.3 t hu
      cases hd' : o.dst with
      | none => simpa [Act.put] using this
      | some d =>
        have hne : d ≠ t := fun e => hd (by rw [hd', e])
        simpa [Act.put, Array.getElem?_setIfInBounds_ne hne] using this

/-! ### Guards -/

def wantE (ops : Array Oper) (o : Oper) (e : Env) : Option Bool :=
  match o.guard with
  | none => some true
  | some (j, want) =>
    match (ops[j]?).bind (·.dst) with
    | none => some false
    | some t => match lk e t with
      | .b x => some (x == want)
      | .tu _ => some false
      | _ => none

theorem guardA_split {ops : Array Oper} {o : Oper} {e : Env} {A B : Env → Prop} (hk : guardA ops o e A B) :
    ∃ e', (∀ t, lk e' t = lk e t) ∧ ((wantE ops o e = some true ∧ A e') ∨ (wantE ops o e = some false ∧ B e')) := by
  unfold guardA at hk
  unfold wantE
  cases hg : o.guard with
  | none => rw [hg] at hk; exact ⟨e, fun _ => rfl, .inl ⟨rfl, hk⟩⟩
  | some g =>
    obtain ⟨j, want⟩ := g
    rw [hg] at hk
    simp only at hk ⊢
    cases hd : (ops[j]?).bind (·.dst) with
    | none => rw [hd] at hk; exact ⟨e, fun _ => rfl, .inr ⟨rfl, hk⟩⟩
    | some t =>
      rw [hd] at hk
      simp only at hk ⊢
      cases hl : lk e t with
      | b x =>
        rw [hl] at hk
        simp only at hk
        have up : ∀ y, x = y → ∀ t', lk (GAM.put e (some t) (.b y)) t' = lk e t' := by
          intro y hy t'
          rw [lk_put]
          split
          · rename_i h1; injection h1 with h1; subst h1; subst hy; exact hl.symm
          · rfl
        rcases pGuard_sound hk with ⟨h1, hA⟩ | ⟨h1, hB⟩
        · exact ⟨_, up _ h1, .inl ⟨by simp [h1], hA⟩⟩
        · exact ⟨_, up _ h1, .inr ⟨by subst h1; cases want <;> rfl, hB⟩⟩
      | tu vs => rw [hl] at hk; exact ⟨e, fun _ => rfl, .inr ⟨rfl, hk⟩⟩
      | _ => rw [hl] at hk; exact hk.elim

theorem wantE_sound {nt : Nat} {ops : Array Oper} {o : Oper} {e : Env} {a : Act} {b : Bool} (hE : EnvRel ds μ nt (restr (o.looksAt ops) e) a) (hw : wantE ops o e = some b) : Region.wanted o (yielded ops a.tmps) = b := by
  unfold wantE at hw
  unfold Region.wanted
  cases hg : o.guard with
  | none => rw [hg] at hw; injection hw
  | some g =>
    obtain ⟨j, want⟩ := g
    rw [hg] at hw
    simp only at hw ⊢
    cases hd : (ops[j]?).bind (·.dst) with
    | none =>
      rw [hd] at hw
      injection hw with hw
      subst hw
      simp [yielded, hd]
    | some t =>
      rw [hd] at hw
      simp only at hw
      have hm : t ∈ o.looksAt ops := by unfold Oper.looksAt; simp [hg, hd]
      have hv := hE.val t
      rw [lk_restr_mem e hm] at hv
      have hgd : a.tmps.getD t undef = (a.tmps[t]?).getD undef := by
        by_cases ht : t < a.tmps.size
        · simp [Array.getD, ht]
        · simp [Array.getD, ht]
      rw [hgd] at hv
      have hy : yielded ops a.tmps j = match a.tmps[t]? with | some (.bool b) => some b | _ => none := by
        unfold yielded
        rw [hd]
        rfl
      rw [hy]
      cases hl : lk e t with
      | b x =>
        rw [hl] at hw hv
        simp only at hw
        injection hw with hw
        have hc : a.tmps[t]? = some (.bool x) := by
          cases hoc : a.tmps[t]? with
          | none => rw [hoc] at hv; cases hv
          | some cv => rw [hoc] at hv; cases hv; rfl
        rw [hc]
        subst hw
        simp
      | tu vs =>
        rw [hl] at hw hv
        injection hw with hw
        subst hw
        cases hoc : a.tmps[t]? with
        | none => rfl
        | some cv => rw [hoc] at hv; cases hv; rfl
      | _ => rw [hl] at hw; cases hw

theorem wantE_congr {ops : Array Oper} {o : Oper} {e e' : Env} (h : ∀ t ∈ o.looksAt ops, lk e t = lk e' t) : wantE ops o e = wantE ops o e' := by
  unfold wantE
  cases hg : o.guard with
  | none => rfl
  | some g =>
    obtain ⟨j, want⟩ := g
    simp only
    cases hd : (ops[j]?).bind (·.dst) with
    | none => rfl
    | some t =>
      have hm : t ∈ o.looksAt ops := by unfold Oper.looksAt; simp [hg, hd]
      simp only [h t hm]

/-- The operation would yield what the environment has. -/
def Pend (P : Program) (ops : Array Oper) (o : Oper) (e : Env) (h : AHeap) : Prop :=
  (wantE ops o e = some true ∧ aopN P o (restr (o.looksAt ops) e) h fun v => shapeO P o v fun v => sameAt e o.dst v) ∨ (wantE ops o e = some false ∧ sameAt e o.dst (.tu []))

theorem Pend.congr {ops : Array Oper} {o : Oper} {e e' : Env} (hl : ∀ t ∈ o.looksAt ops, lk e t = lk e' t) (hd : ∀ d, o.dst = some d → lk e d = lk e' d) (hp : Pend P ops o e h) : Pend P ops o e' h := by
  have hs : ∀ v, sameAt e o.dst v = sameAt e' o.dst v := by
    intro v
    unfold sameAt
    cases hd' : o.dst with
    | none => rfl
    | some d => simp only [hd d hd']
  unfold Pend at *
  rw [← wantE_congr hl, ← restr_congr hl]
  simpa only [hs] using hp

theorem Pend.heap {ops : Array Oper} {o : Oper} {e : Env} {h' : AHeap} (hr : readsA P o = false) (hp : Pend P ops o e h) : Pend P ops o e h' :=
  hp.imp (fun ⟨h1, h2⟩ => ⟨h1, aopN_heap hr h2⟩) id

theorem pendA_split {ops : Array Oper} {o : Oper} {e : Env} {A : Prop} (hk : pendA P ops o e h A) : Pend P ops o e h ∧ A := by
  have go : (aopN P o (restr (o.looksAt ops) e) h fun v => shapeO P o v fun v => sameAt e o.dst v ∧ A) → (aopN P o (restr (o.looksAt ops) e) h fun v => shapeO P o v fun v => sameAt e o.dst v) ∧ A := by
    intro hk
    obtain ⟨v, h1, h2⟩ := aopN_det hk
    obtain ⟨v', h3, h4⟩ := shapeO_det h1
    exact ⟨h2 _ (h4 _ h3.1), h3.2⟩
  unfold pendA at hk
  unfold Pend wantE
  cases hg : o.guard with
  | none => rw [hg] at hk; obtain ⟨h1, h2⟩ := go hk; exact ⟨.inl ⟨rfl, h1⟩, h2⟩
  | some g =>
    obtain ⟨j, want⟩ := g
    rw [hg] at hk
    simp only at hk ⊢
    cases hd : (ops[j]?).bind (·.dst) with
    | none => rw [hd] at hk; exact ⟨.inr ⟨rfl, hk.1⟩, hk.2⟩
    | some t =>
      rw [hd] at hk
      simp only at hk ⊢
      cases hl : lk e t with
      | b x =>
        rw [hl] at hk
        rcases pGuard_sound hk with ⟨h1, hA⟩ | ⟨h1, hB⟩
        · obtain ⟨h3, h4⟩ := go hA; exact ⟨.inl ⟨by simp [h1], h3⟩, h4⟩
        · exact ⟨.inr ⟨by subst h1; cases want <;> rfl, hB.1⟩, hB.2⟩
      | tu vs => rw [hl] at hk; exact ⟨.inr ⟨rfl, hk.1⟩, hk.2⟩
      | _ => rw [hl] at hk; exact hk.elim

theorem againA_split {ops : Array Oper} {i : Nat} {e : Env} {A : Prop} : ∀ {D : List Nat}, againA P ops i e h A D → A ∧ ∀ k ∈ D, ∀ o, ops[k]? = some o → readsA P o = true → isEff P o = false → waits ops i k = false → Pend P ops o e h
  | [], hk => ⟨hk, fun _ h => by cases h⟩
  | k :: D, hk => by
    unfold againA at hk
    cases ho : ops[k]? with
    | none =>
      rw [ho] at hk
      obtain ⟨h1, h2⟩ := againA_split hk
      refine ⟨h1, fun k' hm o ho' => ?_⟩
      rcases List.mem_cons.1 hm with rfl | hm
      · rw [ho] at ho'; cases ho'
      · exact h2 k' hm o ho'
    | some o =>
      rw [ho] at hk
      simp only at hk
      cases hc : readsA P o && !isEff P o && !Region.waitsFor .any ops i k with
      | true =>
        rw [hc] at hk
        obtain ⟨h0, hk⟩ := pendA_split hk
        obtain ⟨h1, h2⟩ := againA_split hk
        refine ⟨h1, fun k' hm o' ho' => ?_⟩
        rcases List.mem_cons.1 hm with rfl | hm
        · rw [ho] at ho'; injection ho' with ho'; subst ho'; exact fun _ _ _ => h0
        · exact h2 k' hm o' ho'
      | false =>
        rw [hc] at hk
        obtain ⟨h1, h2⟩ := againA_split hk
        refine ⟨h1, fun k' hm o' ho' => ?_⟩
        rcases List.mem_cons.1 hm with rfl | hm
        · rw [ho] at ho'; injection ho' with ho'; subst ho'
          intro g1 g2 g3
          unfold waits at g3
          rw [g1, g2, g3] at hc
          cases hc
        · exact h2 k' hm o' ho'

end
end Go.GAM

/- Regions of open order, the run: what is taken in one order holds for all. -/
set_option linter.unusedVariables false
set_option linter.unusedSimpArgs false
namespace Go.GAM

section
variable {ds : List Deferred} {rd : Option Nat} {P : Program} {w0 : World} {Fz : Nat → Prop} {nt : Nat} {ops : Array Oper}

def Ordered (ops : Array Oper) : List Nat → Prop
  | [] => True
  | k :: D => (∃ o, ops[k]? = some o ∧ ∀ ed ∈ o.after, Region.binds .any ed = true → ed.on ∈ D) ∧ Ordered ops D

structure JInv (ds : List Deferred) (P : Program) (w0 : World) (Fz : Nat → Prop) (nt : Nat) (ops : Array Oper) (μ0 : Mu) (listed : Array Bool) (a : Act) (w : World) (μ : Mu) (own : Nat → Option Nat) (e : Env) (h : AHeap) (D U : List Nat) : Prop where
  rel : Rel w0 Fz μ own h w
  sub : Sub μ0 μ
  env : EnvOut ds μ nt (fun t => ∃ k ∈ U, dstAt ops k = some t) e a
  size : listed.size = ops.size
  list : ∀ j, j < ops.size → (listed.getD j false = true ↔ (j ∈ D ∧ j ∉ U))
  inD : ∀ k ∈ U, k ∈ D
  pend : ∀ k ∈ U, ∃ o, ops[k]? = some o ∧ dstOK nt o = true ∧ isEff P o = false ∧ Pend P ops o e h
  apart : ∀ k ∈ U, ∀ j ∈ U, clash ops j k = true → waits ops k j = true
  ordd : Ordered ops D

theorem ready_waits {listed : Array Bool} {x k : Nat} (hr : x ∈ Region.ready .any ops listed) (hw : waits ops x k = true) : listed.getD k false = true := by
  obtain ⟨_, o, ho, hall⟩ := mem_ready.1 hr
  obtain ⟨o', ho', e, he, hb, rfl⟩ := Region.waitsFor_spec hw
  rw [ho] at ho'
  injection ho' with ho'
  subst ho'
  exact hall e he hb

theorem ready_lt {listed : Array Bool} {x : Nat} (hr : x ∈ Region.ready .any ops listed) : x < ops.size := by
  obtain ⟨_, o, ho, _⟩ := mem_ready.1 hr
  exact (Array.getElem?_eq_some_iff.1 ho).1

theorem clash_of {x y : Nat} {o o' : Oper} (ho : ops[x]? = some o) (ho' : ops[y]? = some o') {d : Nat} (hd : o.dst = some d) (hm : d ∈ o'.looksAt ops) : clash ops x y = true := by
  unfold clash dstAt looksO
  simp [ho, ho', hd, hm]

theorem clash_not {x y : Nat} {o o' : Oper} (ho : ops[x]? = some o) (ho' : ops[y]? = some o') (hc : clash ops x y = false) {t : Nat} (ht : t ∈ o'.looksAt ops) : o.dst ≠ some t := by
  intro hd
  rw [clash_of ho ho' hd ht] at hc
  cases hc

theorem sameDst_not {x y : Nat} {o o' : Oper} (ho : ops[x]? = some o) (ho' : ops[y]? = some o') (hc : sameDst ops x y = false) {t : Nat} (ht : o'.dst = some t) : o.dst ≠ some t := by
  intro hd
  unfold sameDst dstAt at hc
  simp [ho, ho', hd, ht] at hc

variable {μ0 : Mu} {listed : Array Bool} {a : Act} {w : World} {μ : Mu} {own : Nat → Option Nat} {e : Env} {h : AHeap} {D U : List Nat}

theorem getD_set_self {listed : Array Bool} {i : Nat} (h : i < listed.size) : (listed.setIfInBounds i true).getD i false = true := by simp [h]

theorem JInv.unlisted (J : JInv ds P w0 Fz nt ops μ0 listed a w μ own e h D U) {k : Nat} (hk : k ∈ U) : listed.getD k false = false := by
  obtain ⟨o, ho, _⟩ := J.pend k hk
  cases hl : listed.getD k false with
  | false => rfl
  | true => exact absurd hk ((J.list k (Array.getElem?_eq_some_iff.1 ho).1).1 hl).2

/-- What a ready operation looks at is there. -/
theorem JInv.seen (J : JInv ds P w0 Fz nt ops μ0 listed a w μ own e h D U) {x : Nat} {o : Oper} (ho : ops[x]? = some o) (hr : x ∈ Region.ready .any ops listed)
    (hc : ∀ j ∈ U, clash ops j x = true → waits ops x j = true) : EnvRel ds μ nt (restr (o.looksAt ops) e) a := by
  refine J.env.restr fun t ht ⟨k, hk, hd⟩ => ?_
  unfold dstAt at hd
  obtain ⟨ok, hok, hd⟩ := Option.bind_eq_some_iff.1 hd
  have h1 := ready_waits hr (hc k hk (clash_of hok ho hd ht))
  rw [J.unlisted hk] at h1
  cases h1

theorem JInv.take {R : CallR} {μb : Mu} (hR : SoundAt P w0 Fz μb R) (hsb : Sub μb μ0) (J : JInv ds P w0 Fz nt ops μ0 listed a w μ own e h D U) {x : Nat} (hx : x ∈ U) (hr : x ∈ Region.ready .any ops listed)
    {next : Act → World → Prop} {Q : Exit → Act → World → Prop}
    (hn : ∀ a' w' μ' own', JInv ds P w0 Fz nt ops μ0 (listed.setIfInBounds x true) a' w' μ' own' e h D (U.filter (· != x)) → next a' w') : wpOpIn (FR rd) 0 P ops Q x next a w := by
  obtain ⟨o, ho, hd, hne, hp⟩ := J.pend x hx
  have hE := J.seen ho hr (J.apart x hx)
  have hxs := ready_lt hr
  have key : ∀ cv μ' own' w', Rel w0 Fz μ' own' h w' → Sub μ μ' → (∀ d, o.dst = some d → VRel μ' (lk e d) cv) →
      JInv ds P w0 Fz nt ops μ0 (listed.setIfInBounds x true) (a.put o.dst cv) w' μ' own' e h D (U.filter (· != x)) := by
    intro cv μ' own' w' g1 g2 g3
    have hmem : ∀ k, k ∈ U.filter (· != x) ↔ k ∈ U ∧ k ≠ x := by intro k; simp
    refine ⟨g1, J.sub.trans g2, ?_, by simp [J.size], fun j hj => ?_, fun k hk => J.inD k ((hmem k).1 hk).1, fun k hk => ?_, fun k hk j hj => J.apart k ((hmem k).1 hk).1 j ((hmem j).1 hj).1, J.ordd⟩
    · refine (J.env.mono g2).put hd fun t ht => ?_
      by_cases hdt : o.dst = some t
      · exact .inl ⟨t, hdt, rfl, g3 t hdt⟩
      · refine .inr ⟨hdt, fun ⟨k, hk, hkd⟩ => ?_, rfl⟩
        by_cases hkx : k = x
        · subst hkx
          unfold dstAt at hkd
          rw [ho] at hkd
          exact hdt hkd
        · exact ht ⟨k, (hmem k).2 ⟨hk, hkx⟩, hkd⟩
    · by_cases hjx : j = x
      · subst hjx
        rw [getD_set_self (by rw [J.size]; exact hxs)]
        simp only [true_iff]
        exact ⟨J.inD j hx, fun hm => ((hmem j).1 hm).2 rfl⟩
      · rw [getD_set_ne false (Ne.symm hjx), J.list j hj, hmem]
        exact ⟨fun ⟨h1, h2⟩ => ⟨h1, fun h3 => h2 h3.1⟩, fun ⟨h1, h2⟩ => ⟨h1, fun h3 => h2 ⟨h3, hjx⟩⟩⟩
    · exact J.pend k ((hmem k).1 hk).1
  unfold wpOpIn
  simp only [ho]
  rcases hp with ⟨hw, hk⟩ | ⟨hw, hs⟩
  · rw [if_pos (wantE_sound hE hw)]
    refine aop_wp hR (hsb.trans J.sub) J.rel hE (K := fun v h' => h' = h ∧ shapeO P o v fun v => sameAt e o.dst v) ?_ fun v cv μ' own' h' w' h1 h2 h3 h4 => ?_
    · unfold aop
      rw [hne]
      simp only [cond_false]
      obtain ⟨v, h1, h2⟩ := aopN_det hk
      exact h2 (fun v => True ∧ shapeO P o v fun v => sameAt e o.dst v) ⟨trivial, h1⟩
    · obtain ⟨rfl, h1⟩ := h1
      have h1 := shapeO_sound h2 h1
      refine hn _ _ _ _ (key cv μ' own' w' h3 h4 fun d hd' => ?_)
      simp only [sameAt, hd'] at h1
      rw [h1]; exact h2
  · rw [if_neg (by simp [wantE_sound hE hw])]
    refine ⟨fun _ _ => trivial, ?_⟩
    refine hn _ _ _ _ (key undef μ own w J.rel (Sub.refl _) fun d hd' => ?_)
    simp only [sameAt, hd'] at hs
    rw [hs]; exact .tu [] #[] .nil

theorem fits_spec {eff : Bool} {x : Nat} (hf : fits ops eff D x = true) :
    (∀ j ∈ D, (clash ops j x = true → waits ops x j = true) ∧ ((clash ops x j = false ∧ sameDst ops x j = false) ∨ (eff = true ∧ waits ops x j = true))) ∧
    (∃ o, ops[x]? = some o ∧ ∀ ed ∈ o.after, Region.binds .any ed = true → ed.on ∈ D) ∧ x ∉ D ∧ (eff = false → clash ops x x = false) := by
  unfold fits at hf
  simp only [Bool.and_eq_true, List.all_eq_true, Bool.or_eq_true, Bool.not_eq_true', Bool.not_eq_eq_eq_not, Bool.not_true] at hf
  obtain ⟨⟨⟨h1, h2⟩, h3⟩, h4⟩ := hf
  refine ⟨fun j hj => ⟨fun hc => ?_, ?_⟩, ?_, ?_, ?_⟩
  · rcases (h1 j hj).1 with h | h
    · rw [h] at hc; cases hc
    · exact h
  · exact (h1 j hj).2
  · cases ho : ops[x]? with
    | none => rw [ho] at h2; cases h2
    | some o =>
      rw [ho] at h2
      refine ⟨o, rfl, fun ed he hb => ?_⟩
      simp only [Array.all_eq_true_iff_forall_mem, Bool.or_eq_true, Bool.not_eq_true'] at h2
      rcases h2 ed he with h | h
      · rw [h] at hb; cases hb
      · simpa using h
  · simpa using h3
  · intro he
    rcases h4 with h | h
    · rw [h] at he; cases he
    · exact h

/-- An operation that changes nothing is taken, at once or later. -/
theorem JInv.neu (J : JInv ds P w0 Fz nt ops μ0 listed a w μ own e h D U) {x : Nat} {o : Oper} (ho : ops[x]? = some o) (hf : fits ops false D x = true) (hd : dstOK nt o = true) (hne : isEff P o = false)
    {e1 : Env} (he1 : ∀ t, lk e1 t = lk e t) {v : AV} (hp : (wantE ops o e = some true ∧ ∀ K' : AV → Prop, K' v → aopN P o (restr (o.looksAt ops) e1) h fun v => shapeO P o v K') ∨ (wantE ops o e = some false ∧ v = .tu [])) :
    JInv ds P w0 Fz nt ops μ0 listed a w μ own (put e1 o.dst v) h (x :: D) (x :: U) := by
  obtain ⟨hD, hE, hxD, hxx⟩ := fits_spec hf
  have hxx := hxx rfl
  have hl : ∀ t, o.dst ≠ some t → lk (put e1 o.dst v) t = lk e t := fun t ht => by rw [lk_put, if_neg ht, he1]
  have hfree : ∀ j ∈ D, clash ops x j = false ∧ sameDst ops x j = false := fun j hj => ((hD j hj).2).resolve_right (by simp)
  refine ⟨J.rel, J.sub, ?_, J.size, fun j hj => ?_, fun k hk => ?_, fun k hk => ?_, fun k hk j hj hc => ?_, ⟨hE, J.ordd⟩⟩
  · refine ⟨J.env.1, J.env.2, fun t ht => ?_⟩
    have h1 : o.dst ≠ some t := fun hd => ht ⟨x, by simp, by unfold dstAt; rw [ho]; exact hd⟩
    rw [hl t h1]
    exact J.env.3 t fun ⟨k, hk, hkd⟩ => ht ⟨k, by simp [hk], hkd⟩
  · rw [J.list j hj]
    by_cases hjx : j = x
    · subst hjx; simp [hxD]
    · simp [hjx]
  · rcases List.mem_cons.1 hk with rfl | hk
    · simp
    · exact List.mem_cons_of_mem _ (J.inD k hk)
  · rcases List.mem_cons.1 hk with rfl | hk
    · refine ⟨o, ho, hd, hne, ?_⟩
      have hs : sameAt (put e1 o.dst v) o.dst v := by
        unfold sameAt
        cases hd' : o.dst with
        | none => trivial
        | some d => simp only [lk_put, if_true]
      have hlk : ∀ t ∈ o.looksAt ops, lk (put e1 o.dst v) t = lk e1 t := fun t ht => by rw [lk_put, if_neg (clash_not ho ho hxx ht)]
      have hlk2 : ∀ t ∈ o.looksAt ops, lk (put e1 o.dst v) t = lk e t := fun t ht => by rw [hlk t ht, he1]
      unfold Pend
      rw [wantE_congr hlk2, restr_congr hlk]
      rcases hp with ⟨h1, h2⟩ | ⟨h1, h2⟩
      · exact .inl ⟨h1, h2 _ hs⟩
      · exact .inr ⟨h1, h2 ▸ hs⟩
    · obtain ⟨ok, hok, h1, h2, h3⟩ := J.pend k hk
      have hf := hfree k (J.inD k hk)
      exact ⟨ok, hok, h1, h2, h3.congr (fun t ht => (hl t (clash_not ho hok hf.1 ht)).symm) fun d hd => (hl d (sameDst_not ho hok hf.2 hd)).symm⟩
  · rcases List.mem_cons.1 hk with hkx | hk'
    · rcases List.mem_cons.1 hj with hjx | hj'
      · rw [hkx, hjx, hxx] at hc; cases hc
      · rw [hkx] at hc ⊢; exact (hD j (J.inD j hj')).1 hc
    · rcases List.mem_cons.1 hj with hjx | hj'
      · rw [hjx, (hfree k (J.inD k hk')).1] at hc; cases hc
      · exact J.apart k hk' j hj' hc

end
end Go.GAM

/- Regions of open order, joined. -/
set_option linter.unusedVariables false
set_option linter.unusedSimpArgs false
namespace Go.GAM

section
variable {ds : List Deferred} {rd : Option Nat} {P : Program} {w0 : World} {Fz : Nat → Prop} {nt : Nat} {ops : Array Oper}
variable {μ0 : Mu} {listed : Array Bool} {a : Act} {w : World} {μ : Mu} {own : Nat → Option Nat} {e : Env} {h : AHeap} {D U : List Nat}

theorem Rel.same (R : Rel w0 Fz μ own h w) {w' : World} (hs : Same w w') (hsz : w.heap.size ≤ w'.heap.size) (h1 : w'.os = w.os) (h2 : w'.tape = w.tape) (h3 : w'.output = w.output) : Rel w0 Fz μ own h w' :=
  R.step h1 h2 h3 hsz (fun B hB => hs B (Nat.lt_of_lt_of_le (R.fz B hB).1 R.size0)) (fun B id hB => Nat.lt_of_lt_of_le (R.ownlt B id hB) hsz) (Sub.refl _) R.mulen
    fun id b hb => .inl ⟨hb, fun _ => rfl, fun B hB => ⟨hB, hs B (R.ownlt B id hB)⟩⟩

/-- What an operation that must come just here asks. -/
def nowA (P : Program) (R : CallR) (nt : Nat) (ops : Array Oper) (i : Nat) (o : Oper) (r : Ord) (D : List Nat) (e : Env) (h : AHeap) (K : Env → AHeap → Prop) : Prop :=
  guardA ops o e (fun e => aop P R o (restr (o.looksAt ops) e) h fun v h' => shapeO P o v fun v =>
      bif isEff P o then againA P ops i (put e o.dst v) h' (aOrd P R nt ops r (i :: D) (put e o.dst v) h' K) D else aOrd P R nt ops r (i :: D) (put e o.dst v) h' K)
    (fun e => aOrd P R nt ops r (i :: D) (put e o.dst (.tu [])) h K)

theorem JInv.eff {R : CallR} {μb : Mu} (hR : SoundAt P w0 Fz μb R) (hsb : Sub μb μ0) {K : Env → AHeap → Prop} (J : JInv ds P w0 Fz nt ops μ0 listed a w μ own e h D U) {x : Nat} {o : Oper} {r : Ord} (ho : ops[x]? = some o) (hr : x ∈ Region.ready .any ops listed)
    (hf : fits ops true D x = true) (hd : dstOK nt o = true) (hk : nowA P R nt ops x o r D e h K) {next : Act → World → Prop} {Q : Exit → Act → World → Prop}
    (hn : ∀ a' w' μ' own' e' h', JInv ds P w0 Fz nt ops μ0 (listed.setIfInBounds x true) a' w' μ' own' e' h' (x :: D) U → aOrd P R nt ops r (x :: D) e' h' K → next a' w') : wpOpIn (FR rd) 0 P ops Q x next a w := by
  obtain ⟨hD, hEd, hxD, _⟩ := fits_spec hf
  have hxs := ready_lt hr
  have hxU : x ∉ U := fun hm => hxD (J.inD x hm)
  have hE0 := J.seen ho hr fun j hj => (hD j (J.inD j hj)).1
  obtain ⟨e1, he1, hk⟩ := guardA_split hk
  have hre : restr (o.looksAt ops) e1 = restr (o.looksAt ops) e := restr_congr fun t _ => he1 t
  have hl : ∀ v t, o.dst ≠ some t → lk (put e1 o.dst v) t = lk e t := fun v t ht => by rw [lk_put, if_neg ht, he1]
  have hfree : ∀ k ∈ U, clash ops x k = false ∧ sameDst ops x k = false ∧ waits ops x k = false := by
    intro k hk
    have hw : waits ops x k = false := by
      cases hw : waits ops x k with
      | false => rfl
      | true => have := ready_waits hr hw; rw [J.unlisted hk] at this; cases this
    rcases (hD k (J.inD k hk)).2 with ⟨h1, h2⟩ | ⟨_, h2⟩
    · exact ⟨h1, h2, hw⟩
    · rw [hw] at h2; cases h2
  have key : ∀ v cv μ' own' h' w', Rel w0 Fz μ' own' h' w' → Sub μ μ' → VRel μ' v cv → (∀ k ∈ U, ∀ ok, ops[k]? = some ok → isEff P ok = false → Pend P ops ok e h → Pend P ops ok (put e1 o.dst v) h') →
      JInv ds P w0 Fz nt ops μ0 (listed.setIfInBounds x true) (a.put o.dst cv) w' μ' own' (put e1 o.dst v) h' (x :: D) U := by
    intro v cv μ' own' h' w' g1 g2 g3 g4
    refine ⟨g1, J.sub.trans g2, ?_, by simp [J.size], fun j hj => ?_, fun k hk => List.mem_cons_of_mem _ (J.inD k hk), fun k hk => ?_, J.apart, ⟨hEd, J.ordd⟩⟩
    · refine (J.env.mono g2).put hd fun t ht => ?_
      by_cases hdt : o.dst = some t
      · exact .inl ⟨t, hdt, rfl, by rw [lk_put, if_pos hdt]; exact g3⟩
      · exact .inr ⟨hdt, ht, hl v t hdt⟩
    · by_cases hjx : j = x
      · subst hjx
        rw [getD_set_self (by rw [J.size]; exact hxs)]
        simp [hxU]
      · rw [getD_set_ne false (Ne.symm hjx), J.list j hj]
        simp [hjx]
    · obtain ⟨ok, hok, h1, h2, h3⟩ := J.pend k hk
      exact ⟨ok, hok, h1, h2, g4 k hk ok hok h2 h3⟩
  have same : ∀ v k, k ∈ U → ∀ ok, ops[k]? = some ok → ∀ h', Pend P ops ok e h' → Pend P ops ok (put e1 o.dst v) h' := by
    intro v k hk ok hok h' hp
    have hf := hfree k hk
    exact hp.congr (fun t ht => (hl v t (clash_not ho hok hf.1 ht)).symm) fun d hd => (hl v d (sameDst_not ho hok hf.2.1 hd)).symm
  unfold wpOpIn
  simp only [ho]
  rcases hk with ⟨hw, hk⟩ | ⟨hw, hk⟩
  · rw [if_pos (wantE_sound hE0 hw)]
    rw [hre] at hk
    cases hne : isEff P o with
    | false =>
      refine aop_wp hR (hsb.trans J.sub) J.rel hE0 (K := fun v h' => h' = h ∧ shapeO P o v fun v => aOrd P R nt ops r (x :: D) (put e1 o.dst v) h K) ?_ fun v cv μ' own' h' w' h1 h2 h3 h4 => ?_
      · unfold aop at hk ⊢
        rw [hne] at hk ⊢
        simp only [cond_false] at hk ⊢
        obtain ⟨v, h1, h2⟩ := aopN_det hk
        exact h2 (fun v => True ∧ shapeO P o v fun v => aOrd P R nt ops r (x :: D) (put e1 o.dst v) h K) ⟨trivial, h1⟩
      · obtain ⟨rfl, h1⟩ := h1
        have h1 := shapeO_sound h2 h1
        exact hn _ _ _ _ _ _ (key v cv μ' own' _ w' h3 h4 h2 fun k hk ok hok hke hp => same v k hk ok hok _ hp) h1
    | true =>
      refine aop_wp hR (hsb.trans J.sub) J.rel hE0 hk fun v cv μ' own' h' w' h1 h2 h3 h4 => ?_
      simp only [hne, cond_true] at h1
      have h1 := shapeO_sound h2 h1
      obtain ⟨h1, hag⟩ := againA_split h1
      refine hn _ _ _ _ _ _ (key v cv μ' own' h' w' h3 h4 h2 fun k hk ok hok hke hp => ?_) h1
      cases hrd : readsA P ok with
      | true => exact hag k (J.inD k hk) ok hok hrd hke (hfree k hk).2.2
      | false => exact (same v k hk ok hok _ hp).heap hrd
  · rw [if_neg (by simp [wantE_sound hE0 hw])]
    refine ⟨fun _ _ => trivial, ?_⟩
    exact hn _ _ _ _ _ _ (key (.tu []) undef μ own h w J.rel (Sub.refl _) (.tu [] #[] .nil) fun k hk ok hok hke hp => same _ k hk ok hok _ hp) hk

end
end Go.GAM

/- Regions of open order: one order for all. -/
set_option linter.unusedVariables false
set_option linter.unusedSimpArgs false
namespace Go.GAM

section
variable {ds : List Deferred} {rd : Option Nat} {P : Program} {w0 : World} {Fz : Nat → Prop} {nt : Nat} {ops : Array Oper}
variable {μ0 : Mu} {listed : Array Bool} {a : Act} {w : World} {μ : Mu} {own : Nat → Option Nat} {e : Env} {h : AHeap} {D U : List Nat}

def unl (listed : Array Bool) (n : Nat) : Nat := ((List.range n).filter fun j => !listed.getD j true).length

theorem unl_set {n x : Nat} (hx : x < n) (hu : listed.getD x true = false) (hs : listed.size = n) : unl (listed.setIfInBounds x true) n < unl listed n := by
  unfold unl
  have h1 : (List.range n).filter (fun j => !(listed.setIfInBounds x true).getD j true) = ((List.range n).filter fun j => !listed.getD j true).filter (fun j => decide (j ≠ x)) := by
    rw [List.filter_filter]
    refine List.filter_congr fun j hj => ?_
    by_cases hjx : x = j
    · subst hjx
      have : (listed.setIfInBounds x true).getD x true = true := by simp [hs, hx]
      rw [this]; simp
    · rw [getD_set_ne true hjx]
      have : j ≠ x := fun e => hjx e.symm
      simp [this]
  rw [h1]
  refine List.length_filter_lt_length_iff_exists.2 ⟨x, ?_, by simp⟩
  rw [List.mem_filter]
  exact ⟨List.mem_range.2 hx, by rw [hu]; rfl⟩

theorem unl_zero {n x : Nat} (hx : x < n) (hu : listed.getD x true = false) : 0 < unl listed n := by
  unfold unl
  refine List.length_pos_of_mem (a := x) ?_
  rw [List.mem_filter]
  exact ⟨List.mem_range.2 hx, by rw [hu]; rfl⟩

theorem Ordered.lt : ∀ {D : List Nat}, Ordered ops D → ∀ k ∈ D, k < ops.size
  | k :: D, hO, k', hk => by
    rcases List.mem_cons.1 hk with rfl | hk
    · obtain ⟨⟨o, ho, _⟩, _⟩ := hO; exact (Array.getElem?_eq_some_iff.1 ho).1
    · exact Ordered.lt hO.2 k' hk

theorem Ordered.first : ∀ {D : List Nat}, Ordered ops D → (∃ k ∈ D, k ∈ U) → ∃ k ∈ U, ∃ o, ops[k]? = some o ∧ ∀ ed ∈ o.after, Region.binds .any ed = true → ed.on ∈ D ∧ ed.on ∉ U
  | [], _, ⟨k, hk, _⟩ => by cases hk
  | k :: D, hO, hex => by
    by_cases hD : ∃ k' ∈ D, k' ∈ U
    · obtain ⟨k', hk', o, ho, hall⟩ := Ordered.first hO.2 hD
      exact ⟨k', hk', o, ho, fun ed he hb => ⟨List.mem_cons_of_mem _ (hall ed he hb).1, (hall ed he hb).2⟩⟩
    · obtain ⟨⟨o, ho, hall⟩, _⟩ := hO
      obtain ⟨k', hk', hu⟩ := hex
      rcases List.mem_cons.1 hk' with rfl | hk'
      · exact ⟨k', hu, o, ho, fun ed he hb => ⟨List.mem_cons_of_mem _ (hall ed he hb), fun hm => hD ⟨_, hall ed he hb, hm⟩⟩⟩
      · exact absurd ⟨k', hk', hu⟩ hD

theorem JInv.getD (J : JInv ds P w0 Fz nt ops μ0 listed a w μ own e h D U) {x : Nat} (hx : x < ops.size) (hl : listed.getD x false = false) : listed.getD x true = false :=
  getD_in (by rw [J.size]; exact hx) hl

theorem JInv.some_ready (J : JInv ds P w0 Fz nt ops μ0 listed a w μ own e h D U) (hU : ∃ k, k ∈ U) : Region.ready .any ops listed ≠ [] := by
  obtain ⟨k, hk⟩ := hU
  obtain ⟨k, hk, o, ho, hall⟩ := J.ordd.first ⟨k, J.inD k hk, hk⟩
  have hlt := (Array.getElem?_eq_some_iff.1 ho).1
  have : k ∈ Region.ready .any ops listed := mem_ready.2 ⟨J.getD hlt (J.unlisted hk), o, ho, fun ed he hb => by
    have h1 := hall ed he hb
    exact (J.list _ (J.ordd.lt _ h1.1)).2 h1⟩
  intro h0; rw [h0] at this; cases this

theorem JInv.head_ready (J : JInv ds P w0 Fz nt ops μ0 listed a w μ own e h D []) {x : Nat} (hf : fits ops true D x = true) : x ∈ Region.ready .any ops listed := by
  obtain ⟨_, ⟨o, ho, hall⟩, hxD, _⟩ := fits_spec hf
  have hlt := (Array.getElem?_eq_some_iff.1 ho).1
  refine mem_ready.2 ⟨J.getD hlt ?_, o, ho, fun ed he hb => ?_⟩
  · cases hl : listed.getD x false with
    | false => rfl
    | true => exact absurd ((J.list x hlt).1 hl).1 hxD
  · exact (J.list _ (J.ordd.lt _ (hall ed he hb))).2 ⟨hall ed he hb, by simp⟩

section
variable (ds rd P w0 Fz nt ops μ0)
def GoalO (R : CallR) (K : Env → AHeap → Prop) (Q : Exit → Act → World → Prop) (ord : Ord) : Prop :=
  ∀ (fuel : Nat) (listed : Array Bool) (a : Act) (w : World) (μ : Mu) (own : Nat → Option Nat) (e : Env) (h : AHeap) (D U : List Nat), JInv ds P w0 Fz nt ops μ0 listed a w μ own e h D U → ordOK ops true ord D = true →
    aOrd P R nt ops ord D e h K → unl listed ops.size ≤ fuel → wpAnyIn (FR rd) 0 P .any ops Q fuel listed a w

def HeadsO (R : CallR) (K : Env → AHeap → Prop) (Q : Exit → Act → World → Prop) (ord : Ord) : Prop :=
  ∀ (b : Bool) (D : List Nat) (e : Env) (h : AHeap) (x : Nat), x ∈ heads ord → ordOK ops b ord D = true → aOrd P R nt ops ord D e h K →
    ∃ o r, ops[x]? = some o ∧ GoalO ds rd P w0 Fz nt ops μ0 R K Q r ∧ fits ops true D x = true ∧ dstOK nt o = true ∧ ordOK ops true r (x :: D) = true ∧ nowA P R nt ops x o r D e h K
end

theorem any_step {R : CallR} {μb : Mu} (hR : SoundAt P w0 Fz μb R) (hsb : Sub μb μ0) {K : Env → AHeap → Prop} {Q : Exit → Act → World → Prop} {e : Env} {h : AHeap} {D : List Nat}
    (hnode : ∀ listed a w μ own U, JInv ds P w0 Fz nt ops μ0 listed a w μ own e h D U → Region.ready .any ops listed = [] → Q .normal a w)
    (hhead : ∀ listed a w μ own U, JInv ds P w0 Fz nt ops μ0 listed a w μ own e h D U → ∀ x ∈ Region.ready .any ops listed, x ∉ U →
      ∃ o r, ops[x]? = some o ∧ GoalO ds rd P w0 Fz nt ops μ0 R K Q r ∧ fits ops true D x = true ∧ dstOK nt o = true ∧ ordOK ops true r (x :: D) = true ∧ nowA P R nt ops x o r D e h K) :
    ∀ (fuel : Nat) (listed : Array Bool) (a : Act) (w : World) (μ : Mu) (own : Nat → Option Nat) (U : List Nat), JInv ds P w0 Fz nt ops μ0 listed a w μ own e h D U → unl listed ops.size ≤ fuel → wpAnyIn (FR rd) 0 P .any ops Q fuel listed a w := by
  intro fuel
  induction fuel with
  | zero =>
    intro listed a w μ own U J hu
    have h0 : Region.ready .any ops listed = [] := by
      cases hr : Region.ready .any ops listed with
      | nil => rfl
      | cons x l =>
        have hx : x ∈ Region.ready .any ops listed := by rw [hr]; simp
        have := unl_zero (ready_lt hx) (mem_ready.1 hx).1
        omega
    exact ⟨h0, hnode _ _ _ _ _ _ J h0⟩
  | succ fuel ih =>
    intro listed a w μ own U J hu
    refine ⟨hnode _ _ _ _ _ _ J, fun x hx => ?_⟩
    have hlt := unl_set (ready_lt hx) (mem_ready.1 hx).1 J.size
    by_cases hxU : x ∈ U
    · exact J.take hR hsb hxU hx fun a' w' μ' own' J' => ih _ _ _ _ _ _ J' (by omega)
    · obtain ⟨o, r, ho, hG, hf, hd, hok, hk⟩ := hhead _ _ _ _ _ _ J x hx hxU
      exact J.eff hR hsb ho hx hf hd hk fun a' w' μ' own' e' h' J' hk' => hG fuel _ _ _ _ _ _ _ _ _ J' hok hk' (by omega)

theorem aOrd_any {R : CallR} {μb : Mu} (hR : SoundAt P w0 Fz μb R) (hsb : Sub μb μ0) {K : Env → AHeap → Prop} {Q : Exit → Act → World → Prop}
    (hQ : ∀ e h a w μ own, K e h → Rel w0 Fz μ own h w → EnvRel ds μ nt e a → Sub μ0 μ → Q .normal a w) :
    ∀ ord : Ord, GoalO ds rd P w0 Fz nt ops μ0 R K Q ord ∧ HeadsO ds rd P w0 Fz nt ops μ0 R K Q ord := by
  intro ord
  induction ord with
  | stop =>
    refine ⟨fun fuel listed a w μ own e h D U J hok => ?_, fun b D e h x hx => by cases hx⟩
    simp [ordOK] at hok
  | done =>
    refine ⟨fun fuel listed a w μ own e h D U J hok hk hu => ?_, fun b D e h x hx => by cases hx⟩
    simp only [ordOK, List.all_eq_true, List.mem_range] at hok
    have hall : ∀ j < ops.size, j ∈ D := fun j hj => by simpa using hok j hj
    refine any_step hR hsb (K := K) (fun listed a w μ own U J h0 => ?_) (fun listed a w μ own U J x hx hxU => ?_) fuel listed a w μ own U J hu
    · have hU : ¬ ∃ k, k ∈ U := fun h1 => J.some_ready h1 h0
      refine hQ e h a w μ own hk J.rel ⟨J.env.1, J.env.2, fun t => J.env.3 t fun ⟨k, hk, _⟩ => hU ⟨k, hk⟩⟩ J.sub
    · have hlt := ready_lt hx
      have h1 := (J.list x hlt).2 ⟨hall x hlt, hxU⟩
      have h2 := getD_both (mem_ready.1 hx).1
      rw [h1] at h2; cases h2
  | neu i r ih =>
    refine ⟨fun fuel listed a w μ own e h D U J hok hk hu => ?_, fun b D e h x hx => by cases hx⟩
    simp only [ordOK, Bool.true_and, Bool.and_eq_true] at hok
    obtain ⟨hf, hok⟩ := hok
    unfold aOrd at hk
    cases ho : ops[i]? with
    | none => rw [ho] at hk; exact hk.elim
    | some o =>
      rw [ho] at hk
      obtain ⟨hd, hk⟩ := bif_true hk
      simp only [Bool.and_eq_true, Bool.not_eq_true'] at hd
      obtain ⟨e1, he1, hk⟩ := guardA_split hk
      rcases hk with ⟨hw, hk⟩ | ⟨hw, hk⟩
      · obtain ⟨v, h1, h2⟩ := aopN_det hk
        obtain ⟨v', h3, h4⟩ := shapeO_det h1
        exact ih.1 fuel _ _ _ _ _ _ _ _ _ (J.neu ho hf hd.1 hd.2 he1 (v := v') (.inl ⟨hw, fun K' hK' => h2 _ (h4 _ hK')⟩)) hok h3 hu
      · exact ih.1 fuel _ _ _ _ _ _ _ _ _ (J.neu ho hf hd.1 hd.2 he1 (v := .tu []) (.inr ⟨hw, rfl⟩)) hok hk hu
  | eff i r alt ihr iha =>
    have HH : HeadsO ds rd P w0 Fz nt ops μ0 R K Q (.eff i r alt) := by
      intro b D e h x hx hok hk
      simp only [ordOK, Bool.and_eq_true] at hok
      obtain ⟨⟨⟨_, hf⟩, hr⟩, ha⟩ := hok
      unfold aOrd at hk
      cases ho : ops[i]? with
      | none => rw [ho] at hk; exact hk.elim
      | some o =>
        rw [ho] at hk
        obtain ⟨hd, hk⟩ := bif_true hk
        have hk' : nowA P R nt ops i o r D e h K ∧ (alt.isStop = false → aOrd P R nt ops alt D e h K) := by
          cases hs : alt.isStop with
          | true => rw [hs] at hk; exact ⟨hk, fun h => by cases h⟩
          | false => rw [hs] at hk; exact ⟨hk.1, fun _ => hk.2⟩
        simp only [heads, List.mem_cons] at hx
        rcases hx with rfl | hx
        · exact ⟨o, r, ho, ihr.1, hf, hd, hr, hk'.1⟩
        · refine iha.2 false D e h x hx ha (hk'.2 ?_)
          cases alt <;> first | rfl | (simp [heads] at hx)
    refine ⟨fun fuel listed a w μ own e h D U J hok hk hu => ?_, HH⟩
    have hok0 := hok
    simp only [ordOK, Bool.and_eq_true, Bool.not_true, Bool.false_or] at hok
    obtain ⟨⟨⟨hB, hf⟩, hr⟩, ha⟩ := hok
    refine any_step hR hsb (K := K) (fun listed a w μ own U J h0 => ?_) (fun listed a w μ own U J x hx hxU => ?_) fuel listed a w μ own U J hu
    · exfalso
      have hU : ¬ ∃ k, k ∈ U := fun h1 => J.some_ready h1 h0
      have : U = [] := by
        cases U with
        | nil => rfl
        | cons k U => exact absurd ⟨k, by simp⟩ hU
      subst this
      have := J.head_ready hf
      rw [h0] at this; cases this
    · refine HH true D e h x ?_ hok0 hk
      have hlt := ready_lt hx
      simp only [onlyB, List.all_eq_true, List.mem_range, Bool.or_eq_true, List.any_eq_true, Bool.and_eq_true, Bool.not_eq_true'] at hB
      rcases hB x hlt with (h1 | h1) | ⟨j, hj, h1, h2⟩
      · have hxD : x ∈ D := by simpa using h1
        have h1 := (J.list x hlt).2 ⟨hxD, hxU⟩
        have h2 := getD_both (mem_ready.1 hx).1
        rw [h1] at h2; cases h2
      · simpa [heads] using h1
      · have h3 := ready_waits hx h1
        have := ((J.list j hj).1 h3).1
        simp [this] at h2

theorem region_ord {R : CallR} (hm : P.follows .mixedOrders = true) {μb : Mu} (hR : SoundAt P w0 Fz μb R) (hsb : Sub μb μ) {K : Env → AHeap → Prop} {Q : Exit → Act → World → Prop} {id : Nat} {ord : Ord} (Rl : Rel w0 Fz μ own h w) (hE : EnvRel ds μ nt e a)
    (hok : ordOK ops true ord [] = true) (hk : aOrd P R nt ops ord [] e h K)
    (hQ : ∀ e' h' a' w' μ' own', K e' h' → Rel w0 Fz μ' own' h' w' → EnvRel ds μ' nt e' a' → Sub μ μ' → Q .normal a' w') : (Code.region id ops true).wpIn (FR rd) 0 P Q a w := by
  refine wpIn_region_any hm ((aOrd_any hR (μ0 := μ) hsb hQ ord).1 ops.size _ _ _ μ own e h [] [] ?_ hok hk ?_)
  · refine ⟨Rl.same (fun _ _ => rfl) (Nat.le_refl _) rfl rfl rfl, Sub.refl _, ⟨hE.1, hE.2, fun t _ => hE.3 t⟩, by simp, fun j hj => ?_, by simp, by simp, by simp, trivial⟩
    rw [getD_replicate_false]; simp
  · unfold unl
    exact Nat.le_trans (List.length_filter_le _ _) (by simp)

end
end Go.GAM

/- Regions and code. -/
set_option linter.unusedVariables false
set_option linter.unusedSimpArgs false
namespace Go.GAM

section
variable {ds : List Deferred} {rd : Option Nat} {P : Program} {w0 : World} {Fz : Nat → Prop} {μ : Mu} {own : Nat → Option Nat} {h : AHeap} {w : World}

/-- What holds behind a run: the abstract continuation, and the relation. -/
def QK (ds : List Deferred) (w0 : World) (Fz : Nat → Prop) (nt : Nat) (μ : Mu) (K : Kx) : Exit → Act → World → Prop :=
  fun x a' w' => ∃ e' h' μ' own', K x e' h' ∧ Rel w0 Fz μ' own' h' w' ∧ EnvRel ds μ' nt e' a' ∧ Sub μ μ'

theorem aOps_wp {R : CallR} {μb : Mu} (hR : SoundAt P w0 Fz μb R) {nt : Nat} {ops : Array Oper} {K : Env → AHeap → Prop} {Q : Exit → Act → World → Prop} : ∀ (l : List Oper) (μ : Mu) (own : Nat → Option Nat) (e : Env) (h : AHeap) (a : Act) (w : World),
    Sub μb μ → Rel w0 Fz μ own h w → EnvRel ds μ nt e a → aOps P R nt ops l e h K →
    (∀ e' h' a' w' μ' own', K e' h' → Rel w0 Fz μ' own' h' w' → EnvRel ds μ' nt e' a' → Sub μ μ' → Q .normal a' w') → wpListIn (FR rd) 0 P ops Q l a w
  | [], μ, own, e, h, a, w, hsb, Rl, hE, hk, hQ => hQ e h a w μ own hk Rl hE (Sub.refl _)
  | o :: l, μ, own, e, h, a, w, hsb, Rl, hE, hk, hQ => by
    obtain ⟨hd, hk⟩ := bif_true hk
    unfold wpListIn
    rcases guardA_sound hE hk with ⟨hw, e, hE, hk⟩ | ⟨hw, e, hE, hk⟩
    · rw [if_pos hw]
      refine aop_wp hR hsb Rl hE hk fun v cv μ' own' h' w' h1 h2 h3 h4 => ?_
      have h1 := shapeO_sound h2 h1
      exact aOps_wp hR l μ' own' _ h' _ w' (hsb.trans h4) h3 ((hE.mono h4).put hd h2) h1 fun e2 h2 a2 w2 μ2 own2 g1 g2 g3 g4 => hQ e2 h2 a2 w2 μ2 own2 g1 g2 g3 (h4.trans g4)
    · rw [if_neg (by simp [hw])]
      exact ⟨fun _ _ => trivial, aOps_wp hR l μ own _ h _ w hsb Rl (hE.put hd (.tu [] #[] .nil)) hk hQ⟩

theorem stepR_scope {b : Frame} {a : Act} {k : List Item} {cs : List Frame} {w : World} {c : Code} : step P (lone (b.atR a (.code (.scope c) :: k)) cs w) = .next (lone (b.atR a (.code c :: .inScope c :: k)) cs w) :=
  step_lone_go (by simp [stepG, stepG.exec, Frame.atR])
theorem stepR_inScope {b : Frame} {a : Act} {k : List Item} {cs : List Frame} {w : World} {c : Code} : step P (lone (b.atR a (.inScope c :: k)) cs w) = .next (lone (b.atR a k) cs w) :=
  step_lone_go (by simp [stepG, stepG.exec, Frame.atR])

/-- A scope through which the run goes without a goto. -/
theorem wpIn_scope {F : Fence} {n : Nat} {c : Code} {a : Act} {w : World} {Q : Exit → Act → World → Prop} (h : c.wpIn F n P (Exit.noGoto Q) a w) : (Code.scope c).wpIn F n P Q a w := by
  intro b k cs hro hb hr
  have h0 : (lone (b.atR a (.code (.scope c) :: k)) cs w).fenced P F := fenced_calm hb hr rfl
  obtain ⟨e, a₁, w₁, hq, harr⟩ := h b (.inScope c :: k) cs hro hb hr
  cases e with
  | normal => exact ⟨.normal, a₁, w₁, hq, .head h0 stepR_scope (StepsIn.trans harr (.one (fenced_calm hb hr rfl) stepR_inScope))⟩
  | exit id =>
    have hx : exitTo id (.inScope c :: k) = exitTo id k := by simp [exitTo]
    exact ⟨_, a₁, w₁, hq, fun k' hk => .head h0 stepR_scope (harr.1 k' (by rw [hx]; exact hk)),
      fun hr' hk => let ⟨k₁, h1, h2⟩ := harr.2 hr' (by rw [hx]; exact hk); ⟨k₁, h1, .head h0 stepR_scope h2⟩⟩
  | goto l => exact hq.elim
  | ret => exact ⟨_, a₁, w₁, hq, .of_steps (.one h0 stepR_scope) harr⟩
  | panic ch => exact ⟨_, a₁, w₁, hq, .of_steps (.one h0 stepR_scope) harr⟩
  | outgrown => exact ⟨_, a₁, w₁, hq, .of_steps (.one h0 stepR_scope) harr⟩

theorem Rel.empty (w : World) : Rel w (fun B => B < w.heap.size) (fun _ _ => none) (fun _ => none) [] w where
  os := rfl
  tape := rfl
  output := rfl
  size0 := Nat.le_refl _
  fz := fun B hB => ⟨hB, rfl⟩
  ownlt := fun B id h => by cases h
  mulen := fun id ver l h => by cases h
  blk := fun id b h => by simp at h
  maps := fun id b es h => by simp at h

theorem hasL_find : ∀ (c : Code) (l : Nat), hasL c l = (findLabel c l).isSome := by
  intro c
  induction c with
  | seq a b iha ihb =>
    intro l
    simp only [hasL, findLabel, iha, ihb]
    cases findLabel a l <;> simp
  | label l' =>
    intro l
    simp only [hasL, findLabel]
    by_cases h : l' = l
    · subst h; simp
    · rw [nbeq h]; simp [h]
  | _ => intro l; simp [hasL, findLabel]

theorem aexec_wp2 {R : CallR} (hm : P.follows .mixedOrders = true) {μb : Mu} (hR : SoundAt P w0 Fz μb R) {nt : Nat} : ∀ (c : Code),
    (∀ (ann : Ann) (μ : Mu) (own : Nat → Option Nat) (e : Env) (h : AHeap) (K : Kx) (a : Act) (w : World),
      Sub μb μ → Rel w0 Fz μ own h w → EnvRel ds μ nt e a → aexec P R nt ann c e h K → c.wpIn (FR rd) 0 P (QK ds w0 Fz nt μ K) a w) ∧
    (∀ (l : Nat) (rest : Code) (ann : Ann) (μ : Mu) (own : Nat → Option Nat) (e : Env) (h : AHeap) (K : Kx) (a : Act) (w : World), findLabel c l = some rest →
      Sub μb μ → Rel w0 Fz μ own h w → EnvRel ds μ nt e a → aFrom P R nt ann c l e h K → rest.wpIn (FR rd) 0 P (QK ds w0 Fz nt μ K) a w) := by
  intro c
  induction c with
  | skip =>
    refine ⟨?_, ?_⟩
    · intro ann μ own e h K a w hsb Rl hE hk; exact wpIn_skip ⟨e, h, μ, own, hk, Rl, hE, Sub.refl _⟩
    · intro l rest ann μ own e h K a w hf; simp [findLabel] at hf
  | region id ops draw =>
    refine ⟨?_, ?_⟩
    · intro ann μ own e h K a w hsb Rl hE hk
      simp only [aexec] at hk
      cases draw with
      | false =>
        exact wpIn_region_list (aOps_wp hR _ μ own e h a w hsb Rl hE hk fun e' h' a' w' μ' own' g1 g2 g3 g4 => ⟨e', h', μ', own', g1, g2, g3, g4⟩)
      | true =>
        simp only [cond_true] at hk
        obtain ⟨hB, hk⟩ := bif_true hk
        exact region_ord hm hR hsb Rl hE hB hk fun e' h' a' w' μ' own' g1 g2 g3 g4 => ⟨e', h', μ', own', g1, g2, g3, g4⟩
    · intro l rest ann μ own e h K a w hf; simp [findLabel] at hf
  | seq x y ihx ihy =>
    refine ⟨?_, ?_⟩
    · intro ann μ own e h K a w hsb Rl hE hk
      simp only [aexec] at hk
      refine wpIn_seq (wpIn_mono (ihx.1 _ μ own e h _ a w hsb Rl hE hk) ?_)
      rintro ex a' w' ⟨e', h', μ', own', g1, g2, g3, g4⟩
      cases ex with
      | normal =>
        exact wpIn_mono (ihy.1 _ μ' own' _ h' K a' w' (hsb.trans g4) g2 (g3.restr _) g1) fun ex a2 w2 ⟨e2, h2, μ2, own2, k1, k2, k3, k4⟩ => ⟨e2, h2, μ2, own2, k1, k2, k3, g4.trans k4⟩
      | _ => exact ⟨e', h', μ', own', g1, g2, g3, g4⟩
    · intro l rest ann μ own e h K a w hf hsb Rl hE hk
      simp only [aFrom] at hk
      have hl := hasL_find x l
      cases hx : findLabel x l with
      | none =>
        rw [hx, Option.isSome_none] at hl
        rw [hl, cond_false] at hk
        simp only [findLabel, hx] at hf
        exact ihy.2 l rest _ μ own e h K a w hf hsb Rl hE hk
      | some r =>
        rw [hx, Option.isSome_some] at hl
        rw [hl, cond_true] at hk
        simp only [findLabel, hx, Option.some.injEq] at hf
        subst hf
        refine wpIn_seq (wpIn_mono (ihx.2 l r _ μ own e h _ a w hx hsb Rl hE hk) ?_)
        rintro ex a' w' ⟨e', h', μ', own', g1, g2, g3, g4⟩
        cases ex with
        | normal =>
          exact wpIn_mono (ihy.1 _ μ' own' _ h' K a' w' (hsb.trans g4) g2 (g3.restr _) g1) fun ex a2 w2 ⟨e2, h2, μ2, own2, k1, k2, k3, k4⟩ => ⟨e2, h2, μ2, own2, k1, k2, k3, g4.trans k4⟩
        | _ => exact ⟨e', h', μ', own', g1, g2, g3, g4⟩
  | cond c x y ihx ihy =>
    refine ⟨?_, ?_⟩
    · intro ann μ own e h K a w hsb Rl hE hk
      simp only [aexec] at hk
      rcases aIf_sound hk (Rl.ev hE c) with ⟨h1, h2⟩ | ⟨h1, h2⟩
      · exact wpIn_cond_true h1 (ihx.1 _ μ own e h K a w hsb Rl hE h2)
      · exact wpIn_cond_false h1 (ihy.1 _ μ own e h K a w hsb Rl hE h2)
    · intro l rest ann μ own e h K a w hf; simp [findLabel] at hf
  | block id x ih =>
    refine ⟨?_, ?_⟩
    · intro ann μ own e h K a w hsb Rl hE hk
      simp only [aexec] at hk
      refine wpIn_block (wpIn_mono (ih.1 _ μ own e h _ a w hsb Rl hE hk) ?_)
      rintro ex a' w' ⟨e', h', μ', own', g1, g2, g3, g4⟩
      cases ex with
      | exit id' =>
        simp only [kBlock] at g1
        simp only [Exit.inBlock]
        by_cases hid : id' = id
        · subst hid
          simp at g1
          rw [if_pos rfl]
          exact ⟨e', h', μ', own', g1, g2, g3, g4⟩
        · rw [nbeq hid] at g1
          rw [if_neg hid]
          exact ⟨e', h', μ', own', g1, g2, g3, g4⟩
      | _ => exact ⟨e', h', μ', own', g1, g2, g3, g4⟩
    · intro l rest ann μ own e h K a w hf; simp [findLabel] at hf
  | scope x ih =>
    refine ⟨?_, ?_⟩
    · intro ann μ own e h K a w hsb Rl hE hk
      simp only [aexec] at hk
      cases hg : goes x with
      | false =>
        rw [hg] at hk
        refine wpIn_scope (wpIn_mono (ih.1 ann.a μ own e h (kScope K) a w hsb Rl hE hk) ?_)
        rintro ex a' w' ⟨e', h', μ', own', g1, g2, g3, g4⟩
        cases ex <;> first | exact g1.elim | exact ⟨e', h', μ', own', g1, g2, g3, g4⟩
      | true =>
        rw [hg, cond_true] at hk
        let S : Nat → Env → AHeap → Prop := fun l e h => ∀ (μ' : Mu) (own' : Nat → Option Nat) (a : Act) (w : World), Sub μ μ' → Rel w0 Fz μ' own' h w → EnvRel ds μ' nt e a → ∀ (rest : Code), findLabel x l = some rest → ∀ (b : Frame) (k : List Item) (cs : List Frame), b.roundOf = rd → (FR rd).room (cs.length + 1 + 0) →
          ∃ ex a' w', QK ds w0 Fz nt μ K ex a' w' ∧ ArrivesIn (Machine.fenced P (FR rd)) P (lone (b.atR a (.code rest :: .inScope x :: k)) cs w) b k cs ex a' w'
        have leave : ∀ (I : Nat → Env → AHeap → Prop), (∀ l e h, I l e h → S l e h) → ∀ (ex : Exit) (e1 : Env) (h1 : AHeap) (μ1 : Mu) (own1 : Nat → Option Nat) (a1 : Act) (w1 : World) (m : Machine), kJump x I K ex e1 h1 → Sub μ μ1 → Rel w0 Fz μ1 own1 h1 w1 → EnvRel ds μ1 nt e1 a1 →
            ∀ (b : Frame) (k : List Item) (cs : List Frame), b.roundOf = rd → (FR rd).room (cs.length + 1 + 0) → ArrivesIn (Machine.fenced P (FR rd)) P m b (.inScope x :: k) cs ex a1 w1 → ∃ ex a' w', QK ds w0 Fz nt μ K ex a' w' ∧ ArrivesIn (Machine.fenced P (FR rd)) P m b k cs ex a' w' := by
          intro I hI ex e1 h1 μ1 own1 a1 w1 m g1 g4 g2 g3 b k cs hro hb harr
          cases ex with
          | normal => exact ⟨.normal, a1, w1, ⟨e1, h1, μ1, own1, g1, g2, g3, g4⟩, StepsIn.trans harr (.one (fenced_calm (n := 0) trivial hb rfl) stepR_inScope)⟩
          | exit id =>
            have hx : exitTo id (.inScope x :: k) = exitTo id k := by simp [exitTo]
            exact ⟨.exit id, a1, w1, ⟨e1, h1, μ1, own1, g1, g2, g3, g4⟩, fun k' hk => harr.1 k' (by rw [hx]; exact hk), fun hr' hk => harr.2 hr' (by rw [hx]; exact hk)⟩
          | goto l =>
            have hl := hasL_find x l
            cases hf : findLabel x l with
            | some rest =>
              rw [hf, Option.isSome_some] at hl
              simp only [kJump, hl, cond_true] at g1
              have hgo : gotoIn l (.inScope x :: k) = some (.code rest :: .inScope x :: k) := by simp [gotoIn, hf]
              obtain ⟨ex2, a2, w2, q2, arr2⟩ := hI _ _ _ g1 μ1 own1 a1 w1 g4 g2 g3 rest hf b k cs hro hb
              exact ⟨ex2, a2, w2, q2, .of_steps (harr.1 _ hgo) arr2⟩
            | none =>
              rw [hf, Option.isSome_none] at hl
              simp only [kJump, hl, cond_false] at g1
              have hx : gotoIn l (.inScope x :: k) = gotoIn l k := by simp [gotoIn, hf]
              exact ⟨.goto l, a1, w1, ⟨e1, h1, μ1, own1, g1, g2, g3, g4⟩, fun k' hk => harr.1 k' (by rw [hx]; exact hk), fun hr' hk => harr.2 hr' (by rw [hx]; exact hk)⟩
          | ret => exact ⟨_, a1, w1, ⟨e1, h1, μ1, own1, g1, g2, g3, g4⟩, harr⟩
          | panic ch => exact ⟨_, a1, w1, ⟨e1, h1, μ1, own1, g1, g2, g3, g4⟩, harr⟩
          | outgrown => exact ⟨_, a1, w1, ⟨e1, h1, μ1, own1, g1, g2, g3, g4⟩, harr⟩
        have key : ∀ l e h, aJumps (fun I l e h => aFrom P R nt ann.a x l e h (kJump x I K)) l e h → S l e h := by
          intro l e h hJ
          refine hJ S fun l e h hF μ' own' a w hs Rl hE rest hf b k cs hro hb => ?_
          obtain ⟨ex, a1, w1, ⟨e1, h1, μ1, own1, g1, g2, g3, g4⟩, harr⟩ := ih.2 l rest ann.a μ' own' e h _ a w hf (hsb.trans hs) Rl hE hF b (.inScope x :: k) cs hro trivial hb
          exact leave S (fun _ _ _ h => h) ex e1 h1 μ1 own1 a1 w1 _ g1 (hs.trans g4) g2 g3 b k cs hro hb harr
        intro b k cs hro hbt hb
        obtain ⟨ex, a1, w1, ⟨e1, h1, μ1, own1, g1, g2, g3, g4⟩, harr⟩ := ih.1 ann.a μ own e h _ a w hsb Rl hE hk b (.inScope x :: k) cs hro trivial hb
        obtain ⟨ex2, a2, w2, q2, arr2⟩ := leave _ key ex e1 h1 μ1 own1 a1 w1 _ g1 g4 g2 g3 b k cs hro hb harr
        exact ⟨ex2, a2, w2, q2, .of_steps (.one (fenced_calm (n := 0) trivial hb rfl) stepR_scope) arr2⟩
    · intro l rest ann μ own e h K a w hf; simp [findLabel] at hf
  | loop x ih =>
    refine ⟨?_, ?_⟩
    · intro ann μ own e h K a w hsb Rl hE hk
      simp only [aexec] at hk
      have key := hk (fun e h => ∀ (μ' : Mu) (own' : Nat → Option Nat) (a : Act) (w : World), Sub μ μ' → Rel w0 Fz μ' own' h w → EnvRel ds μ' nt e a → ∀ (b : Frame) (k : List Item) (cs : List Frame), b.roundOf = rd → (FR rd).room (cs.length + 1 + 0) →
          ∃ ex a' w', QK ds w0 Fz nt μ K ex a' w' ∧ ArrivesIn (Machine.fenced P (FR rd)) P (lone (b.atR a (.code x :: .inLoop x :: k)) cs w) b k cs ex a' w') (by
        intro e h hF μ' own' a w hs Rl hE b k cs hro hb
        obtain ⟨ex, a1, w1, ⟨e1, h1, μ1, own1, g1, g2, g3, g4⟩, harr⟩ := ih.1 _ μ' own' e h _ a w (hsb.trans hs) Rl hE hF b (.inLoop x :: k) cs hro trivial hb
        cases ex with
        | normal =>
          obtain ⟨ex2, a2, w2, q2, arr2⟩ := g1 μ1 own1 a1 w1 (hs.trans g4) g2 (g3.restr _) b k cs hro hb
          exact ⟨ex2, a2, w2, q2, .of_steps (StepsIn.trans harr (.one (fenced_calm (n := 0) trivial hb rfl) stepR_inLoop)) arr2⟩
        | exit id => exact ⟨_, a1, w1, ⟨e1, h1, μ1, own1, g1, g2, g3, hs.trans g4⟩, .pass (x := .inLoop x) rfl (fun _ _ => .inl (by simp)) harr⟩
        | goto l => exact ⟨_, a1, w1, ⟨e1, h1, μ1, own1, g1, g2, g3, hs.trans g4⟩, .pass (x := .inLoop x) rfl (fun _ _ => .inl (by simp)) harr⟩
        | ret => exact ⟨_, a1, w1, ⟨e1, h1, μ1, own1, g1, g2, g3, hs.trans g4⟩, .pass (x := .inLoop x) rfl (fun _ _ => .inl (by simp)) harr⟩
        | panic ch => exact ⟨_, a1, w1, ⟨e1, h1, μ1, own1, g1, g2, g3, hs.trans g4⟩, .pass (x := .inLoop x) rfl (fun _ _ => .inl (by simp)) harr⟩
        | outgrown => exact ⟨_, a1, w1, ⟨e1, h1, μ1, own1, g1, g2, g3, hs.trans g4⟩, .pass (x := .inLoop x) rfl (fun _ _ => .inl (by simp)) harr⟩)
      intro b k cs hro hbt hb
      obtain ⟨ex, a', w', hq, harr⟩ := key μ own a w (Sub.refl _) Rl (hE.restr _) b k cs hro hb
      exact ⟨ex, a', w', hq, .of_steps (.one (fenced_calm (n := 0) trivial hb rfl) stepR_loop) harr⟩
    · intro l rest ann μ own e h K a w hf; simp [findLabel] at hf
  | exit id =>
    refine ⟨?_, ?_⟩
    · intro ann μ own e h K a w hsb Rl hE hk; exact wpIn_exit ⟨e, h, μ, own, hk, Rl, hE, Sub.refl _⟩
    · intro l rest ann μ own e h K a w hf; simp [findLabel] at hf
  | label l =>
    refine ⟨?_, ?_⟩
    · intro ann μ own e h K a w hsb Rl hE hk; exact wpIn_label ⟨e, h, μ, own, hk, Rl, hE, Sub.refl _⟩
    · intro l1 rest ann μ own e h K a w hf hsb Rl hE hk
      simp only [findLabel] at hf
      split at hf
      · rename_i hll
        cases hf
        have : l = l1 := by simpa using hll
        subst this
        simp only [aFrom, Nat.beq_refl, cond_true] at hk
        exact wpIn_skip ⟨e, h, μ, own, hk, Rl, hE, Sub.refl _⟩
      · cases hf
  | ret =>
    refine ⟨?_, ?_⟩
    · intro ann μ own e h K a w hsb Rl hE hk; exact wpIn_ret ⟨e, h, μ, own, hk, Rl, hE, Sub.refl _⟩
    · intro l rest ann μ own e h K a w hf; simp [findLabel] at hf
  | goto l =>
    refine ⟨?_, ?_⟩
    · intro ann μ own e h K a w hsb Rl hE hk; exact wpIn_goto ⟨e, h, μ, own, hk, Rl, hE, Sub.refl _⟩
    · intro l rest ann μ own e h K a w hf; simp [findLabel] at hf
  | _ =>
    refine ⟨?_, ?_⟩
    · intro ann μ own e h K a w hsb Rl hE hk; exact False.elim hk
    · intro l rest ann μ own e h K a w hf; simp [findLabel] at hf

theorem aexec_wp {R : CallR} (hm : P.follows .mixedOrders = true) {μb : Mu} (hR : SoundAt P w0 Fz μb R) {nt : Nat} (c : Code) (ann : Ann) (μ : Mu) (own : Nat → Option Nat) (e : Env) (h : AHeap) (K : Kx) (a : Act) (w : World) :
    Sub μb μ → Rel w0 Fz μ own h w → EnvRel ds μ nt e a → aexec P R nt ann c e h K → c.wpIn (FR rd) 0 P (QK ds w0 Fz nt μ K) a w :=
  (aexec_wp2 hm hR c).1 ann μ own e h K a w

end
end Go.GAM

/- Functions and calls. -/
set_option linter.unusedVariables false
set_option linter.unusedSimpArgs false
namespace Go.GAM

section
variable {P : Program} {w0 : World} {Fz : Nat → Prop} {μ : Mu} {own : Nat → Option Nat} {h : AHeap} {w : World}

/-! ### renaming -/

def MuLt (μ : Mu) (n : Nat) : Prop := ∀ id ver l, μ id ver = some l → id < n
def Agree (μ μ' : Mu) (n : Nat) : Prop := ∀ id ver, id < n → μ' id ver = μ id ver

mutual
/-- A value that was there before keeps its reading. -/
theorem VRel.old {μ0 μ μ' : Mu} {n : Nat} (hlt : MuLt μ0 n) (hag : Agree μ μ' n) : ∀ {v : AV} {c0 c : Value}, VRel μ0 v c0 → VRel μ v c → VRel μ' v c
  | _, _, _, .u _, _ => .u _
  | _, _, _, .b _, .b _ => .b _
  | _, _, _, .i _ _, .i _ _ => .i _ _
  | _, _, _, .s _ _ _, .s _ _ h => .s _ _ h
  | _, _, _, .pn, .pn => .pn
  | _, _, _, .p a l o h ho, .p _ l' o' h' ho' => .p a l' o' ((hag _ _ (hlt _ _ _ h)).trans h') ho'
  | _, _, _, .sn, .sn => .sn
  | _, _, _, .sl a len capo c addr l h _ _ _ _ _, .sl _ _ _ c' addr' l' h' g1 g2 g3 g4 g5 => .sl a len capo c' addr' l' ((hag _ _ (hlt _ _ _ h)).trans h') g1 g2 g3 g4 g5
  | _, _, _, .ag _ _ h, .ag _ _ h' => .ag _ _ (VRels.old hlt hag h h')
  | _, _, _, .tu _ _ h, .tu _ _ h' => .tu _ _ (VRels.old hlt hag h h')
  | _, _, _, .fn _ _ _ _ _ h k, .fn _ _ _ _ _ h' k' => .fn _ _ _ _ _ (VRels.old hlt hag h h') (VRels.old hlt hag k k')
  | _, _, _, .nf, .nf => .nf
  | _, _, _, .ifc _ _ _ h, .ifc _ _ _ h' => .ifc _ _ _ (VRel.old hlt hag h h')
  | _, _, _, .ni, .ni => .ni
  | _, _, _, .mpn, .mpn => .mpn
  | _, _, _, .mp id l h, .mp _ l' h' => .mp id l' ((hag _ _ (hlt _ _ _ h)).trans h')
theorem VRels.old {μ0 μ μ' : Mu} {n : Nat} (hlt : MuLt μ0 n) (hag : Agree μ μ' n) : ∀ {v : List AV} {c0 c : List Value}, VRels μ0 v c0 → VRels μ v c → VRels μ' v c
  | _, _, _, .nil, .nil => .nil
  | _, _, _, .cons _ _ _ _ h t, .cons _ _ _ _ h' t' => .cons _ _ _ _ (VRel.old hlt hag h h') (VRels.old hlt hag t t')
end

def muRen (μ : Mu) (n : Nat) (keep : List Nat) : Mu := fun id ver => if id < n then μ id ver else match keep[id - n]? with
  | some k => μ k ver
  | none => none
def ownRen (own : Nat → Option Nat) (n : Nat) (keep : List Nat) : Nat → Option Nat := fun B => match own B with
  | some id => if okId n keep id then some (renId n keep id) else none
  | none => none

theorem muRen_ren {n : Nat} {keep : List Nat} {id ver : Nat} {l : Loc} (hk : ∀ k ∈ keep, n ≤ k) (hok : okId n keep id = true) (hm : μ id ver = some l) : muRen μ n keep (renId n keep id) ver = some l := by
  unfold muRen renId
  by_cases h : id < n
  · simp [h, hm]
  · simp only [okId, h, decide_false, Bool.false_or, List.contains_iff_mem] at hok
    have : keep[keep.idxOf id]? = some id := by
      have hl := List.idxOf_lt_length_iff.2 hok
      rw [List.getElem?_eq_getElem hl]
      simp
    rw [if_neg h, if_neg (by omega), show n + keep.idxOf id - n = keep.idxOf id by omega, this]
    exact hm

theorem ren1_rel {n : Nat} {keep : List Nat} (hk : ∀ k ∈ keep, n ≤ k) {v : AV} {c : Value} (h : VRel μ v c) (hok : ok1 n keep v = true) : VRel (muRen μ n keep) (ren1 n keep v) c := by
  cases h <;> first | (simp [ok1] at hok; done) | skip
  case u => exact .u _
  case b => exact .b _
  case i => exact .i _ _
  case s l x h => exact .s _ _ h
  case pn => exact .pn
  case p a l o h ho => exact .p (renA n keep a) l o (muRen_ren hk hok h) ho
  case sn => exact .sn
  case sl a len capo c addr l h g1 g2 g3 g4 g5 => exact .sl (renA n keep a) len capo c addr l (muRen_ren hk hok h) g1 g2 g3 g4 g5
  case nf => exact .nf
  case ni => exact .ni

theorem rens_rel {n : Nat} {keep : List Nat} (hk : ∀ k ∈ keep, n ≤ k) : ∀ {v : List AV} {c : List Value}, VRels μ v c → v.all (ok1 n keep) = true → VRels (muRen μ n keep) (v.map (ren1 n keep)) c
  | _, _, .nil, _ => .nil
  | _, _, .cons _ _ _ _ h t, hok => by
    simp only [List.all_cons, Bool.and_eq_true] at hok
    exact .cons _ _ _ _ (ren1_rel hk h hok.1) (rens_rel hk t hok.2)

theorem ren_rel {n : Nat} {keep : List Nat} (hk : ∀ k ∈ keep, n ≤ k) {v : AV} {c : Value} (h : VRel μ v c) (hok : okR n keep v = true) : VRel (muRen μ n keep) (ren n keep v) c := by
  cases h with
  | ag cs vs h => exact .ag _ _ (rens_rel hk h hok)
  | tu cs vs h => exact .tu _ _ (rens_rel hk h hok)
  | u => exact .u _
  | b => exact .b _
  | i => exact .i _ _
  | s l x h => exact .s _ _ h
  | pn => exact .pn
  | p a l o h ho => exact ren1_rel hk (.p a l o h ho) hok
  | sn => exact .sn
  | sl a len capo c addr l h g1 g2 g3 g4 g5 => exact ren1_rel hk (.sl a len capo c addr l h g1 g2 g3 g4 g5) hok
  | nf => exact .nf
  | ni => exact .ni
  | fn => simp [okR, ok1] at hok
  | ifc => simp [okR, ok1] at hok
  | mpn => simp [okR, ok1] at hok
  | mp => simp [okR, ok1] at hok

/-- A map's entries keep their reading. -/
theorem MRel.old {μ0 μ μ' : Mu} {n : Nat} (hlt : MuLt μ0 n) (hag : Agree μ μ' n) : ∀ {es : List (AV × AV)} {e0 e : List MapEntry}, MRel μ0 es e0 → MRel μ es e → MRel μ' es e
  | _, _, _, .nil, .nil => .nil
  | _, _, _, .cons _ _ _ _ _ hk hv t, .cons _ _ _ _ _ hk' hv' t' => .cons _ _ _ _ _ (VRel.old hlt hag hk hk') (VRel.old hlt hag hv hv') (MRel.old hlt hag t t')

theorem ok1_up {n : Nat} {keep : List Nat} {x : AV} (h1 : ok1 n [] x = true) : ok1 n keep x = true := by
  cases x <;> first | exact h1 | skip
  case p a => cases a with
    | none => rfl
    | some a => simp [ok1, okId] at h1 ⊢; exact .inl h1
  case sl a l c => cases a with
    | none => rfl
    | some a => simp [ok1, okId] at h1 ⊢; exact .inl h1

theorem keep_get {h : AHeap} {n : Nat} {keep : List Nat} (hk : ∀ k ∈ keep, ∃ b, h[k]? = some b) (j : Nat) (hj : j < keep.length) :
    (keep.filterMap fun id => (h[id]?).map (renB n keep))[j]? = (h[keep[j]]?).map (renB n keep) ∧ (keep.filterMap fun id => (h[id]?).map (renB n keep)).length = keep.length := by
  have e : keep.filterMap (fun id => (h[id]?).map (renB n keep)) = keep.map (fun id => renB n keep ((h[id]?).getD dead)) := by
    have : ∀ l : List Nat, (∀ k ∈ l, ∃ b, h[k]? = some b) → l.filterMap (fun id => (h[id]?).map (renB n keep)) = l.map (fun id => renB n keep ((h[id]?).getD dead)) := by
      intro l
      induction l with
      | nil => intro _; rfl
      | cons x l ih =>
        intro hl
        obtain ⟨b, hb⟩ := hl x (by simp)
        rw [List.filterMap_cons, hb]
        simp only [Option.map_some, List.map_cons, hb, Option.getD_some]
        rw [ih (fun k hk => hl k (by simp [hk]))]
    exact this keep hk
  rw [e]
  obtain ⟨b, hb⟩ := hk keep[j] (List.getElem_mem hj)
  simp [hj, hb]

theorem Rel.trim {h0 : AHeap} {μ0 : Mu} {own0 : Nat → Option Nat} {wa : World} (R0 : Rel w0 Fz μ0 own0 h0 wa) (R : Rel w0 Fz μ own h w) (hsub : Sub μ0 μ) {keep : List Nat} (hnd : keep.Nodup)
    (hkeep : ∀ id ∈ keep, h0.length ≤ id ∧ ∃ b, h[id]? = some b ∧ b.cells.all (ok1 h0.length keep) = true ∧ b.mp = none)
    (hold : ∀ id, id < h0.length → h[id]? = h0[id]? ∨ ∃ b, h[id]? = some b ∧ b.cells.all (ok1 h0.length []) = true ∧ b.mp = none) (hlen : h0.length ≤ h.length) :
    Rel w0 Fz (muRen μ h0.length keep) (ownRen own h0.length keep) (h.take h0.length ++ keep.filterMap fun id => (h[id]?).map (renB h0.length keep)) w ∧ Sub μ0 (muRen μ h0.length keep) := by
  have hmu0 : MuLt μ0 h0.length := fun id ver l hl => by
    obtain ⟨b, hb, _⟩ := R0.mulen _ _ _ hl
    exact (List.getElem?_eq_some_iff.1 hb).1
  have hge : ∀ k ∈ keep, h0.length ≤ k := fun k hk => (hkeep k hk).1
  have hex : ∀ k ∈ keep, ∃ b, h[k]? = some b := fun k hk => let ⟨_, b, hb, _⟩ := hkeep k hk; ⟨b, hb⟩
  generalize hn : h0.length = n at *
  have hagree : Agree μ (muRen μ n keep) n := fun id ver hid => by simp [muRen, hid]
  have htl : (h.take n).length = n := by simp; omega
  have hget : ∀ id, id < n → (h.take n ++ keep.filterMap fun id => (h[id]?).map (renB n keep))[id]? = h[id]? := fun id hid => by
    rw [List.getElem?_append_left (by omega), List.getElem?_take_of_lt hid]
  have hgetk : ∀ j (hj : j < keep.length), (h.take n ++ keep.filterMap fun id => (h[id]?).map (renB n keep))[n + j]? = (h[keep[j]]?).map (renB n keep) := fun j hj => by
    rw [List.getElem?_append_right (by omega), htl, show n + j - n = j by omega]
    exact (keep_get hex j hj).1
  refine ⟨{ os := R.os, tape := R.tape, output := R.output, size0 := R.size0, fz := R.fz, ownlt := fun B id hB => ?_, mulen := fun id ver l hl => ?_, blk := fun id b hb hlv => ?_, maps := fun id b es hb hes => ?_ }, fun id ver l hl => ?_⟩
  · unfold ownRen at hB
    split at hB
    · rename_i i hi; exact R.ownlt B i hi
    · cases hB
  · unfold muRen at hl
    split at hl
    · rename_i hid
      obtain ⟨b, hb, hle⟩ := R.mulen _ _ _ hl
      exact ⟨b, by rw [hget id hid]; exact hb, hle⟩
    · rename_i hid
      split at hl
      · rename_i k hk
        obtain ⟨b, hb, hle⟩ := R.mulen _ _ _ hl
        obtain ⟨hj, hjk⟩ := List.getElem?_eq_some_iff.1 hk
        refine ⟨renB n keep b, ?_, ?_⟩
        · have := hgetk (id - n) hj
          rw [show n + (id - n) = id by omega, hjk, hb] at this
          exact this
        · simpa [renB] using hle
      · cases hl
  · by_cases hid : id < n
    · rw [hget id hid] at hb
      obtain ⟨l, hk⟩ := R.blk id b hb hlv
      have hokid : okId n keep id = true := by simp [okId, hid]
      have hren : renId n keep id = id := by simp [renId, hid]
      -- the cells keep their reading
      have hcell : ∀ (j : Nat) (cv : Value), VRel μ (b.cells.getD j .u) cv → VRel (muRen μ n keep) (b.cells.getD j .u) cv := fun j cv hv => by
        rcases hold id hid with heq | ⟨b', hb', hok, _⟩
        · rw [hb] at heq
          obtain ⟨l0, hk0⟩ := R0.blk id b heq.symm hlv
          have hv0 := hk0.vers _ hlv (Nat.le_refl _) _ hk0.cur
          by_cases hj : j < b.cells.length
          · obtain ⟨c0, _, hr0⟩ := hv0.cells j hj
            exact VRel.old hmu0 hagree hr0 hv
          · have : b.cells.getD j .u = .u := by simp [List.getD_eq_getElem?_getD, List.getElem?_eq_none (Nat.le_of_not_lt hj)]
            rw [this]; exact .u _
        · rw [hb] at hb'; cases hb'
          have h1 : ok1 n [] (b.cells.getD j .u) = true := by
            by_cases hj : j < b.cells.length
            · have := List.all_eq_true.1 hok (b.cells[j]) (List.getElem_mem hj)
              rw [List.getD_eq_getElem?_getD, List.getElem?_eq_getElem hj]; exact this
            · have : b.cells.getD j .u = .u := by simp [List.getD_eq_getElem?_getD, List.getElem?_eq_none (Nat.le_of_not_lt hj)]
              rw [this]; rfl
          have h2 : ok1 n keep (b.cells.getD j .u) = true := ok1_up h1
          have h3 := ren1_rel hge hv h2
          have h4 : ren1 n keep (b.cells.getD j .u) = b.cells.getD j .u := by
            revert h1
            generalize b.cells.getD j .u = x
            intro h1
            cases x <;> simp [ren1]
            case p a => cases a with
              | none => rfl
              | some a => simp [ok1, okId] at h1; simp [renA, renId, h1]
            case sl a l c => cases a with
              | none => rfl
              | some a => simp [ok1, okId] at h1; simp [renA, renId, h1]
          rwa [h4] at h3
      refine ⟨l, { cur := by rw [hagree _ _ hid]; exact hk.cur, owned := by simp [ownRen, hk.owned, hokid, hren], sz := hk.sz, len := hk.len, ex := hk.ex, ro := hk.ro, gl := hk.gl, nomap := hk.nomap, tyok := hk.tyok, row := hk.row, free := hk.free, vers := fun ver h1 h2 l' hl' => ?_ }⟩
      rw [hagree _ _ hid] at hl'
      have hv := hk.vers ver h1 h2 l' hl'
      exact { own := by simp [ownRen, hv.own, hokid, hren], sz := hv.sz, le := hv.le, base := hv.base, cells := fun j hj => let ⟨cv, e1, e2⟩ := hv.cells j hj; ⟨cv, e1, hcell j cv e2⟩ }
    · have hidl := (List.getElem?_eq_some_iff.1 hb).1
      have hj : id - n < keep.length := by
        rcases keep with _ | ⟨x, xs⟩
        · simp at hidl; omega
        · have := (keep_get (n := n) hex 0 (by simp)).2
          rw [List.length_append, htl, this] at hidl
          omega
      have h1 := hgetk (id - n) hj
      rw [show n + (id - n) = id by omega, hb] at h1
      obtain ⟨hkge, b0, hb0, hok, hmp0⟩ := hkeep keep[id - n] (List.getElem_mem hj)
      rw [hb0] at h1
      simp only [Option.map_some, Option.some.injEq] at h1
      subst h1
      simp only [renB, List.length_map] at hlv
      obtain ⟨l, hk⟩ := R.blk _ b0 hb0 hlv
      have hmu : ∀ ver, muRen μ n keep id ver = μ keep[id - n] ver := fun ver => by simp [muRen, hid, hj]
      have hown : ∀ B, own B = some keep[id - n] → ownRen own n keep B = some id := fun B hB => by
        have hm : keep[id - n] ∈ keep := List.getElem_mem hj
        have hx : okId n keep keep[id - n] = true := by simp [okId, hm]
        have hi : keep.idxOf keep[id - n] = id - n := List.Nodup.idxOf_getElem hnd _ hj
        have hr : renId n keep keep[id - n] = id := by
          simp only [renId, if_neg (show ¬ keep[id - n] < n by omega), hi]; omega
        simp [ownRen, hB, hx, hr]
      refine ⟨l, { cur := by rw [hmu]; simpa [renB] using hk.cur, owned := hown _ hk.owned, sz := hk.sz, len := by simpa [renB] using hk.len, ex := by simpa [renB] using hk.ex, ro := hk.ro, gl := fun hg => by simp [renB] at hg, nomap := hmp0, tyok := hk.tyok, row := hk.row, free := hk.free, vers := fun ver g1 g2 l' hl' => ?_ }⟩
      rw [hmu] at hl'
      have hv := hk.vers ver g1 (by simpa [renB] using g2) l' hl'
      refine { own := hown _ hv.own, sz := hv.sz, le := hv.le, base := hv.base, cells := fun j hj' => ?_ }
      obtain ⟨cv, e1, e2⟩ := hv.cells j hj'
      refine ⟨cv, e1, ?_⟩
      have hjl : j < b0.cells.length := by have : ver ≤ b0.cells.length := by simpa [renB] using g2
                                           omega
      have h2 : (renB n keep b0).cells.getD j .u = ren1 n keep (b0.cells.getD j .u) := by
        simp [renB, List.getD_eq_getElem?_getD, hjl]
      rw [h2]
      refine ren1_rel hge e2 ?_
      have := List.all_eq_true.1 hok (b0.cells[j]) (List.getElem_mem hjl)
      rw [List.getD_eq_getElem?_getD, List.getElem?_eq_getElem hjl]; exact this
  · by_cases hid : id < n
    · rw [hget id hid] at hb
      obtain ⟨l, m1, m2, m3, ents, clock, m4, m5⟩ := R.maps id b es hb hes
      have hokid : okId n keep id = true := by simp [okId, hid]
      have hren : renId n keep id = id := by simp [renId, hid]
      refine ⟨l, by rw [hagree _ _ hid]; exact m1, by simp [ownRen, m2, hokid, hren], m3, ents, clock, m4, ?_⟩
      rcases hold id hid with heq | ⟨b', hb', _, hmp⟩
      · rw [hb] at heq
        obtain ⟨l0, _, _, _, ents0, _, _, m50⟩ := R0.maps id b es heq.symm hes
        exact MRel.old hmu0 hagree m50 m5
      · rw [hb] at hb'; cases hb'
        rw [hmp] at hes; cases hes
    · exfalso
      have hidl := (List.getElem?_eq_some_iff.1 hb).1
      have hj : id - n < keep.length := by
        rcases keep with _ | ⟨x, xs⟩
        · simp at hidl; omega
        · have := (keep_get (n := n) hex 0 (by simp)).2
          rw [List.length_append, htl, this] at hidl
          omega
      have h1 := hgetk (id - n) hj
      rw [show n + (id - n) = id by omega, hb] at h1
      obtain ⟨hkge, b0, hb0, hok, hmp0⟩ := hkeep keep[id - n] (List.getElem_mem hj)
      rw [hb0] at h1
      simp only [Option.map_some, Option.some.injEq] at h1
      subst h1
      have hes : b0.mp = some es := hes
      rw [hmp0] at hes; cases hes
  · have := hsub _ _ _ hl
    rw [hagree _ _ (hmu0 _ _ _ hl)]; exact this

end
end Go.GAM

/- Functions; the calls of a program; what may be used in a proof. -/
set_option linter.unusedVariables false
set_option linter.unusedSimpArgs false
namespace Go.GAM

section
variable {ds : List Deferred} {rd : Option Nat} {P : Program} {w0 : World} {Fz : Nat → Prop} {μ : Mu} {own : Nat → Option Nat} {h : AHeap} {w : World}

def resV (a : Act) : ResultVar → Sem Value
  | .tmp t => pure (a.tmps.getD t undef)
  | .cell x t => do loadVar t (← asAddr (a.tmps.getD x undef))

theorem resA_sound (R : Rel w0 Fz μ own h w) {nt : Nat} {e : Env} {a : Act} (hE : EnvRel ds μ nt e a) {r : ResultVar} {K : AV → Prop} (hk : resA P h e r K) :
    ∃ v cv, K v ∧ VRel μ v cv ∧ (resV a r).run P w = .ok cv w := by
  cases r with
  | tmp t => exact ⟨_, _, hk, hE.val t, rfl⟩
  | cell x t =>
    simp only [resA] at hk
    have hx := hE.val x
    have conv : ∀ cv, (Instr.loadAt t (a.tmps.getD x undef)).run P w = .ok cv w → (do loadVar t (← asAddr (a.tmps.getD x undef)) : Sem Value).run P w = .ok cv w := fun cv hc => by
      revert hc
      generalize a.tmps.getD x undef = c
      intro hc
      cases c <;> simp [Instr.loadAt, Instr.sureAddr, asAddr] at hc ⊢
      case pointer o => cases o with
        | none => simp [Instr.sureAddr] at hc
        | some o => simpa [Instr.sureAddr, asAddr] using hc
    cases ht : isAggT P t with
    | none => rw [ht] at hk; exact hk.elim
    | some r =>
      rw [ht] at hk
      cases r with
      | true =>
        obtain ⟨v, cv, h1, h2, h3⟩ := loadN_sound R ht hx hk
        exact ⟨v, cv, h1, h2, conv cv (h3 w (Same.refl w))⟩
      | false =>
        obtain ⟨v, cv, h1, h2, h3⟩ := load1_sound R ht hx hk
        exact ⟨v, cv, h1, h2, conv cv (h3 w (Same.refl w))⟩

theorem resAll_sound (R : Rel w0 Fz μ own h w) {nt : Nat} {e : Env} {a : Act} (hE : EnvRel ds μ nt e a) : ∀ {rs : List ResultVar} {K : List AV → Prop}, resAll P h e rs K →
    ∃ vs cvs, K vs ∧ VRels μ vs cvs ∧ (rs.mapM (resV a)).run P w = .ok cvs w
  | [], K, hk => ⟨[], [], hk, .nil, rfl⟩
  | r :: rs, K, hk => by
    obtain ⟨v, cv, h1, h2, h3⟩ := resA_sound (P := P) R hE hk
    obtain ⟨vs, cvs, g1, g2, g3⟩ := resAll_sound R hE h1
    refine ⟨_, cv :: cvs, g1, .cons _ _ _ _ h2 g2, ?_⟩
    rw [List.mapM_cons, Sem.run_bind, h3]
    simp only [Result.andThen_ok, Sem.run_bind]
    rw [g3]; rfl

theorem tup_rel {vs : List AV} {cvs : List Value} (h : VRels μ vs cvs) : VRel μ (tup vs) (if hs : cvs.toArray.size = 1 then cvs.toArray[0] else .tuple cvs.toArray) := by
  have hl := h.length
  match vs, cvs, h with
  | [], [], h => simp [tup]; exact .tu _ _ h
  | [v], [c], .cons _ _ _ _ h _ => simpa [tup] using h
  | v :: v2 :: vs, c :: c2 :: cs, h =>
    have : ¬ ((c :: c2 :: cs).toArray.size = 1) := by simp
    rw [dif_neg this]
    exact .tu _ _ (by simpa using h)

theorem init_lk : ∀ (args : List AV) (k t : Nat), lk (initEnv k args) t = if k ≤ t then (args[t - k]?).getD .u else .u
  | [], k, t => by simp [initEnv, lk]
  | v :: r, k, t => by
    simp only [initEnv, lk]
    by_cases h : k = t
    · subst h; simp
    · rw [nbeq h]
      simp only [cond_false]
      rw [init_lk r (k + 1) t]
      by_cases h2 : k + 1 ≤ t
      · rw [if_pos h2, if_pos (by omega), show t - k = (t - (k + 1)) + 1 by omega, List.getElem?_cons_succ]
      · rw [if_neg h2, if_neg (by omega)]

theorem init_rel {args : List AV} {cargs : List Value} (h : VRels μ args cargs) {nt : Nat} (hn : args.length ≤ nt) : EnvRel [] μ nt (initEnv 0 args) { tmps := cargs.toArray ++ Array.replicate (nt - cargs.toArray.size) undef, defers := [] } := by
  have hl := h.length
  refine ⟨by simp; omega, rfl, fun t => ?_⟩
  rw [init_lk]
  simp only [Nat.zero_le, if_true, Nat.sub_zero]
  by_cases ht : t < args.length
  · obtain ⟨v, h1, h2⟩ := h.get? ht
    have hc : t < cargs.length := by omega
    have e : (cargs.toArray ++ Array.replicate (nt - cargs.toArray.size) undef).getD t undef = v := by
      rw [List.getElem?_eq_getElem hc] at h1
      have h3 : t < (cargs.toArray ++ Array.replicate (nt - cargs.toArray.size) undef).size := by simp; omega
      simp only [Array.getD, h3, dite_true]
      rw [Array.getInternal_eq_getElem, Array.getElem_append_left (by simpa using hc)]
      simpa using h1
    rw [e]
    simpa [List.getD_eq_getElem?_getD] using h2
  · rw [List.getElem?_eq_none (by omega)]
    exact .u _

/-- One call of a function with a body. -/
theorem aF_sound {R : CallR} (hm : P.follows .mixedOrders = true) (hsz : P.funcs.size ≤ yid0) {μb : Mu} (hR : SoundAt P w0 Fz μb R) {f : FuncId} {args : List AV} {h : AHeap} {K : AV → AHeap → Prop} (hk : aF P R f args h K) : SimAt P w0 Fz μb f args h K := by
  obtain ⟨fn, body, ann, hf, hb, hname, hn, hk⟩ := hk
  intro μ own w cargs hsb Rl hc
  rw [if_pos (Nat.lt_of_lt_of_le (Array.getElem?_eq_some_iff.1 hf).1 hsz)]
  refine .inl ⟨f, cargs.toArray, ?_, ?_⟩
  · have hbs : fn.body.isNone = false := by simp [hb]
    simp only [callFunc, Sem.run_bind, run_program, Result.andThen_ok, hf, hname, Bool.false_eq_true, if_false, hbs, Sem.run_pure]
  · refine callsIn_wide.1 (callsIn_of_wp (F := FR none) (n := 0) hf hb trivial (wpIn_mono (aexec_wp hm hR body ann μ own _ h _ _ w hsb Rl (init_rel hc hn) hk) ?_))
    rintro ex a' w' ⟨e', h', μ', own', g1, g2, g3, g4⟩
    have fin : resAll P h' e' fn.results.toList (fun vs => kRet h K (tup vs) h') → a'.defers = [] ∧ ∃ v, (results fn a'.tmps).run P w' = .ok v w' ∧ ∃ v', Ending.returned v = .returned v' ∧ PostOf w0 Fz μ K v' w' := by
      intro hk
      obtain ⟨vs, cvs, k1, k2, k3⟩ := resAll_sound g2 g3 hk
      have hres : (results fn a'.tmps).run P w' = .ok (if hs : cvs.toArray.size = 1 then cvs.toArray[0] else .tuple cvs.toArray) w' := by
        have e : results fn a'.tmps = (do let vs ← fn.results.mapM (resV a'); pure (if h : vs.size = 1 then vs[0] else .tuple vs)) := rfl
        rw [e, Array.mapM_eq_mapM_toList, Sem.run_bind, Sem.run_map, k3]
        rfl
      refine ⟨g3.defers, _, hres, _, rfl, ?_⟩
      · have ht := tup_rel k2
        rcases k1 with k1 | ⟨keep, c1, c2, c3, c4, c5, k1⟩
        · exact ⟨_, μ', own', h', k1, ht, g2, g4⟩
        · obtain ⟨t1, t2⟩ := Rel.trim Rl g2 g4 c1 c3 c4 c5
          exact ⟨_, _, _, _, k1, ren_rel (fun k hk => (c3 k hk).1) ht c2, t1, t2⟩
    cases ex with
    | normal => exact fin g1
    | ret => exact fin g1
    | exit id => exact g1.elim
    | goto l => exact g1.elim
    | panic ch => exact g1.elim
    | outgrown => exact g1.elim

theorem acall_soundAt {X : CallR} (hm : P.follows .mixedOrders = true) (hsz : P.funcs.size ≤ yid0) {μb : Mu} (hX : SoundAt P w0 Fz μb X) : SoundAt P w0 Fz μb (acall P X) := by
  intro f args h K hk
  refine hk (SimAt P w0 Fz μb) (fun f args h K K' hK hs μ own w cargs hsb Rl hc => ?_) hX fun f args h K hF => ?_
  · have hp : ∀ cv w', PostOf w0 Fz μ K cv w' → PostOf w0 Fz μ K' cv w' := fun cv w' ⟨v, μ', own', h', h1, h2, h3, h4⟩ => ⟨v, μ', own', h', hK _ _ h1, h2, h3, h4⟩
    have hs := hs μ own w cargs hsb Rl hc
    by_cases hlt : f < yid0
    · rw [if_pos hlt] at hs ⊢
      rcases hs with ⟨g, aq, h1, h2⟩ | ⟨v, w', h1, h2⟩
      · exact .inl ⟨g, aq, h1, h2.mono fun e w' ⟨v, he, hv⟩ => ⟨v, he, hp _ _ hv⟩⟩
      · exact .inr ⟨v, w', h1, hp _ _ h2⟩
    · rw [if_neg hlt] at hs ⊢
      obtain ⟨g, tmps, aq, body, h1, h2⟩ := hs
      exact ⟨g, tmps, aq, body, h1, h2.mono fun e w' ⟨v, he, hv⟩ => ⟨v, he, hp _ _ hv⟩⟩
  exact aF_sound hm hsz (fun f args h K hs => hs) hF

theorem acall_sound {X : CallR} (hm : P.follows .mixedOrders = true) (hsz : P.funcs.size ≤ yid0) (hX : Sound P X) : Sound P (acall P X) := fun w0 Fz μb => acall_soundAt hm hsz (hX w0 Fz μb)

end
end Go.GAM

/- What is asked of the rest may be more: everything is monotone; so a body's text gives a call. -/
set_option linter.unusedVariables false
set_option linter.unusedSimpArgs false
namespace Go.GAM

section
variable {P : Program}

def RLe (R R' : CallR) : Prop := ∀ f args h K K', (∀ v h, K v h → K' v h) → R f args h K → R' f args h K'

theorem aIf_mono {c : AV} {A B A' B' : Prop} (hA : A → A') (hB : B → B') (h : aIf c A B) : aIf c A' B' := by
  unfold aIf at *; split at h <;> first | exact hA h | exact hB h | exact h

theorem eqOut_mono {op : BinOp} {r : Bool} {K K' : AV → Prop} (hK : ∀ v, K v → K' v) (h : eqOut op r K) : eqOut op r K' := by
  cases op <;> first | exact h.elim | exact hK _ h

theorem slCells_mono {sz : Nat} {x : AV} {h : AHeap} {K K' : List AV → Prop} (hK : ∀ v, K v → K' v) (hk : slCells sz x h K) : slCells sz x h K' := by
  unfold slCells at *
  split at hk
  · exact hK _ hk
  · rcases hk with ⟨h0, hk⟩ | ⟨b, h1, h3, h4⟩
    · exact .inl ⟨h0, hK _ hk⟩
    · exact .inr ⟨b, h1, h3, hK _ h4⟩
  · exact hk

theorem bound_mono {x : Option AV} {d : Nat} {K K' : Nat → Prop} (hK : ∀ v, K v → K' v) (hk : bound x d K) : bound x d K' := by
  unfold bound at *
  split at hk
  · exact hK _ hk
  · exact ⟨hk.1, hK _ hk.2⟩
  · exact hk

theorem bif_mono {c : Bool} {A A' : Prop} (hA : A → A') (h : bif c then A else False) : bif c then A' else False := by
  cases c
  · exact h
  · exact hA h

theorem pBin_mono {op : BinOp} {t : TypeId} {x y : AV} {K K' : AV → Prop} (hK : ∀ v, K v → K' v) (hk : pBin P op t x y K) : pBin P op t x y K' := by
  unfold pBin at *
  split at hk
  case h_1 => cases op <;> first | exact ⟨hk.1, hK _ hk.2⟩ | exact bif_mono (fun h => ⟨h.1, hK _ h.2⟩) hk | exact bif_mono (hK _) hk
  case h_2 => cases op <;> first | exact hk.elim | exact ⟨hk.1, hK _ hk.2⟩ | exact hK _ hk
  case h_3 => split at hk <;> first | exact eqOut_mono hK hk | exact hk
  case h_16 =>
    cases hg : P.eqGuardType P.depth t with
    | true => rw [hg] at hk; exact hk.elim
    | false =>
      rw [hg] at hk
      simp only [cond_false] at hk ⊢
      split at hk <;> first | exact eqOut_mono hK hk | exact hk
  all_goals first | exact bif_mono (eqOut_mono hK) hk | exact hk

theorem asB_mono {v : AV} {K K' : Bool → Prop} (hK : ∀ v, K v → K' v) (hk : asB v K) : asB v K' := by
  unfold asB at *; split at hk <;> first | exact hK _ hk | exact hk
theorem asI_mono {k : IntKind} {v : AV} {K K' : Int → Prop} (hK : ∀ v, K v → K' v) (hk : asI k v K) : asI k v K' := by
  unfold asI at *; split at hk <;> first | exact bif_mono (hK _) hk | exact hk
theorem asS_mono {v : AV} {K K' : List UInt8 → Prop} (hK : ∀ v, K v → K' v) (hk : asS v K) : asS v K' := by
  unfold asS at *; split at hk <;> first | exact hK _ hk | exact hk

theorem shapeO_mono {o : Oper} {v : AV} {K K' : AV → Prop} (hK : ∀ v, K v → K' v) (hk : shapeO P o v K) : shapeO P o v K' := by
  unfold shapeO at *
  split at hk
  · unfold shape at *
    split at hk
    · exact asB_mono (fun _ => hK _) hk
    · exact asI_mono (fun _ => hK _) hk
    · exact asS_mono (fun _ => hK _) hk
    · exact hK _ hk
  · exact hK _ hk

theorem newsOf_mono {sz : Nat} {x : AV} {h : AHeap} {K K' : List AV → Nat → Prop} (hK : ∀ v n, K v n → K' v n) (hk : newsOf sz x h K) : newsOf sz x h K' := by
  unfold newsOf at *
  split at hk
  · exact hK _ _ hk
  · exact slCells_mono (fun v hv => hK _ _ hv) hk
  · exact ⟨hk.1, hK _ _ hk.2⟩
  · exact hk

theorem pSliceSl_mono {sz : Nat} {x : AV} {lo hi mx : Option AV} {h : AHeap} {K K' : AV → Prop} (hK : ∀ v, K v → K' v) (hk : pSliceSl sz x lo hi mx h K) : pSliceSl sz x lo hi mx h K' := by
  unfold pSliceSl at *
  split at hk
  · exact bound_mono (fun m hm => bound_mono (fun j hj => bound_mono (fun i hi => ⟨hi.1, hi.2.1, hi.2.2.1, hi.2.2.2.1, hK _ hi.2.2.2.2⟩) hj) hm) hk
  · refine ⟨hk.1, hk.2.1, bound_mono (fun j hj => bound_mono (fun i hi => ⟨hi.1, ?_⟩) hj) hk.2.2⟩
    obtain ⟨b, h1, h2, h3, h4, h5⟩ := hi.2
    refine ⟨b, h1, h2, h3, h4, ?_⟩
    cases mx with
    | none => exact ⟨h5.1, hK _ h5.2⟩
    | some m => exact bound_mono (fun m hm => ⟨hm.1, hm.2.1, hK _ hm.2.2⟩) h5
  · exact hk

theorem pLookup_mono {kt el : TypeId} {ok : Bool} {x k : AV} {h : AHeap} {K K' : AV → Prop} (hK : ∀ v, K v → K' v) (hk : pLookup P kt el ok x k h K) : pLookup P kt el ok x k h K' := by
  unfold pLookup at *
  refine ⟨hk.1, ?_⟩
  have hk := hk.2
  split at hk
  · exact hk.elim
  · split at hk
    · exact hK _ hk
    · split at hk
      · exact hK _ hk
      · exact hk.elim
    · exact hk.elim
theorem pMapSet_mono {kt : TypeId} {x k v : AV} {h : AHeap} {K K' : AHeap → Prop} (hK : ∀ h, K h → K' h) (hk : pMapSet P kt x k v h K) : pMapSet P kt x k v h K' := by
  unfold pMapSet at *
  split at hk
  · obtain ⟨h1, h2, b, es, h3, h4, hk⟩ := hk
    refine ⟨h1, h2, b, es, h3, h4, ?_⟩
    split at hk
    · exact ⟨hk.1, hK _ hk.2⟩
    · exact hK _ hk
    · exact hk.elim
  · exact hk.elim

theorem aopN_mono {o : Oper} {e : Env} {h : AHeap} {K K' : AV → Prop} (hK : ∀ v, K v → K' v) (hk : aopN P o e h K) : aopN P o e h K' := by
  obtain ⟨dst, op, type, pos, after, guard⟩ := o
  cases op with
  | move x => exact hK _ hk
  | assign x => exact hK _ hk
  | pick c x y => exact aIf_mono (hK _) (hK _) hk
  | load t x =>
    simp only [aopN] at *
    split at hk
    · unfold pLoadN at *
      split at hk
      · obtain ⟨b, h1, h2, h3⟩ := hk; exact ⟨b, h1, h2, hK _ h3⟩
      · exact hk
    · unfold pLoad1 at *
      split at hk
      · obtain ⟨b, h1, h2, h3⟩ := hk; exact ⟨b, h1, h2, hK _ h3⟩
      · exact hk
    · exact hk
  | nilCheck x =>
    simp only [aopN] at *
    unfold pNil at *
    split at hk <;> first | exact hk | exact hK _ hk
  | binOp op t x y yt => exact pBin_mono hK hk
  | unOp op t x =>
    simp only [aopN] at *
    unfold pUn at *
    split at hk <;> first | exact hk | exact hK _ hk
  | convert src dst' x =>
    simp only [aopN] at *
    split at hk
    · unfold pConvInt at *
      split at hk <;> first | exact hk | exact hK _ hk
    · unfold pConvStr at *
      split at hk <;> first | exact hk | exact hK _ hk
    · split at hk
      · exact slCells_mono (fun cs hc => ⟨hc.1, hK _ hc.2⟩) hk
      · exact hk
    · rename_i t h1 h2
      cases hz : Nat.beq (P.cellsOf t) 0 with
      | true => rw [hz] at hk; exact hk.elim
      | false =>
        rw [hz] at hk
        simp only [cond_false] at hk ⊢
        unfold pUnsafe at *
        split at hk
        · exact hK _ hk
        · obtain ⟨b, h1, h2, h3⟩ := hk; exact ⟨b, h1, h2, hK _ h3⟩
        · exact hk.elim
    · rename_i u h1 h2
      obtain ⟨hu, hk⟩ := bif_true hk
      simp only [hu, cond_true]
      unfold pFromUnsafe at *
      split at hk
      · exact hK _ hk
      · obtain ⟨b, t, g1, g2, g3, g4, g5, g6⟩ := hk; exact ⟨b, t, g1, g2, g3, g4, g5, hK _ g6⟩
      · exact hk.elim
    · exact hk
  | makeInterface t x =>
    simp only [aopN] at *
    split at hk <;> first | exact hk | exact hK _ hk
  | makeFunc f a b => exact hK _ hk
  | lookup t x ix ok =>
    simp only [aopN] at *
    split at hk
    · obtain ⟨h1, h2⟩ := bif_true hk
      simp only [h1, cond_true]
      exact pLookup_mono hK h2
    · exact hk
  | slice t x lo hi mx =>
    simp only [aopN] at *
    split at hk
    · split at hk
      · unfold pSliceStr at *
        split at hk
        · exact bound_mono (fun m hm => bound_mono (fun n hn => ⟨hn.1, hn.2.1, hK _ hn.2.2⟩) hm) hk
        · exact hk
      · exact hk
    · obtain ⟨h1, h2⟩ := bif_true hk
      simp only [h1, cond_true]
      exact pSliceSl_mono hK h2
    · split at hk
      · obtain ⟨h1, h2⟩ := bif_true hk
        simp only [h1, cond_true]
        unfold pSliceArr at *
        split at h2
        · exact ⟨h2.1, bound_mono (fun j hj => bound_mono (fun i hi => by
            obtain ⟨g1, g2, b, g3, g4, g5, g6⟩ := hi
            exact ⟨g1, g2, b, g3, g4, g5, hK _ g6⟩) hj) h2.2⟩
        · exact h2
      · exact hk
    · exact hk
  | fieldAddr t x f =>
    simp only [aopN] at *
    split at hk
    · split at hk
      · rename_i fl _
        cases hz : Nat.beq (P.cellsOf fl.type) 0 with
        | true => rw [hz] at hk; exact hk.elim
        | false =>
          rw [hz] at hk
          simp only [cond_false] at hk ⊢
          unfold pFieldAddr at *
          split at hk <;> first | exact hk | exact hK _ hk
      · exact hk
    · exact hk
  | field t x f =>
    simp only [aopN] at *
    split at hk
    · split at hk
      · split at hk
        · unfold pFieldN at *
          split at hk <;> first | exact hk | exact hK _ hk
        · unfold pField1 at *
          split at hk <;> first | exact hk | exact ⟨hk.1, hK _ hk.2⟩
        · exact hk
      · exact hk
    · exact hk
  | indexAddr t x ix =>
    simp only [aopN] at *
    split at hk
    · obtain ⟨h1, h2⟩ := bif_true hk
      simp only [h1, cond_true]
      unfold pIdxAddrSl at *
      split at h2
      · exact ⟨h2.1, h2.2.1, h2.2.2.1, hK _ h2.2.2.2⟩
      · exact h2
    · obtain ⟨h1, h2⟩ := bif_true hk
      simp only [h1, cond_true]
      unfold pIdxAddrArr at *
      split at h2
      · exact ⟨h2.1, h2.2.1, hK _ h2.2.2⟩
      · exact h2
    · exact hk
  | index t x ix =>
    simp only [aopN] at *
    split at hk
    · unfold pIdxStr at *
      split at hk
      · exact ⟨hk.1, hk.2.1, hK _ hk.2.2⟩
      · exact hk
    · split at hk
      · obtain ⟨h1, h2⟩ := bif_true hk
        simp only [h1, cond_true]
        unfold pIdxArr1 at *
        split at h2
        · exact ⟨h2.1, h2.2.1, h2.2.2.1, hK _ h2.2.2.2⟩
        · exact h2
      · exact hk
    · exact hk
  | build t parts =>
    simp only [aopN] at *
    split at hk
    · unfold pBuild at *
      split at hk <;> first | exact hk | exact hK _ hk
    · exact hk
  | extract x i =>
    simp only [aopN] at *
    unfold pExtract at *
    split at hk
    · exact ⟨hk.1, hK _ hk.2⟩
    · exact hk
  | call c =>
    obtain ⟨callee, args, argTypes⟩ := c
    cases callee with
    | builtin b =>
      cases b <;> first | exact False.elim hk | skip
      case len =>
        simp only [aopN] at *
        split at hk
        · split at hk
          · unfold pLenStr at *
            split at hk <;> first | exact hk | exact hK _ hk
          · exact hk
        · split at hk
          · unfold pLenSl at *
            split at hk <;> first | exact hk | exact hK _ hk
          · exact hk
        · split at hk <;> first | exact hk | exact hK _ hk
        · exact hk
      case min =>
        simp only [aopN] at *
        unfold pMM at *
        split at hk <;> first | exact hk | exact hK _ hk
      case max =>
        simp only [aopN] at *
        unfold pMM at *
        split at hk <;> first | exact hk | exact hK _ hk
    | _ => exact False.elim hk
  | _ => exact False.elim hk

theorem pAppend_mono {ty : Option TypeId} {sz bytes : Nat} {s x : AV} {h : AHeap} {K K' : AV → AHeap → Prop} (hK : ∀ v h, K v h → K' v h) (hk : pAppend ty sz bytes s x h K) : pAppend ty sz bytes s x h K' := by
  refine ⟨hk.1, newsOf_mono (fun news k hk => ?_) hk.2⟩
  split at hk
  · refine ⟨hk.1, hk.2.1, ?_⟩
    have := hk.2.2
    split at this
    · rename_i h0; rw [if_pos h0]; exact hK _ _ this
    · rename_i h0; rw [if_neg h0]; exact hK _ _ this
  · obtain ⟨h1, h2, b, h3, h4, h5, h6⟩ := hk
    refine ⟨h1, h2, b, h3, h4, h5, ?_⟩
    rcases h6 with h | h | h | h | h
    · exact .inl ⟨h.1, hK _ _ h.2⟩
    · exact .inr (.inl ⟨h.1, h.2.1, hK _ _ h.2.2⟩)
    · obtain ⟨a1, a2, a3, a4, a5, a6, a7⟩ := h
      exact .inr (.inr (.inl ⟨a1, a2, a3, a4, a5, a6, hK _ _ a7⟩))
    · obtain ⟨a1, a2, a3, a4, a5, a6, a7, a8, a9, a10⟩ := h
      exact .inr (.inr (.inr (.inl ⟨a1, a2, a3, a4, a5, a6, a7, a8, a9, hK _ _ a10⟩)))
    · obtain ⟨a1, a2, a3, a4, a5, a6, a7⟩ := h
      exact .inr (.inr (.inr (.inr ⟨a1, a2, a3, a4, a5, a6, hK _ _ a7⟩)))
  · exact hk

theorem pCopy_mono {sz : Nat} {s x : AV} {h : AHeap} {K K' : AV → AHeap → Prop} (hK : ∀ v h, K v h → K' v h) (hk : pCopy sz s x h K) : pCopy sz s x h K' := by
  refine ⟨hk.1, newsOf_mono (fun news k hk => ?_) hk.2⟩
  split at hk
  · exact hK _ _ hk
  · obtain ⟨b, h1, h2, h3, h4, h5, h6, h7⟩ := hk
    exact ⟨b, h1, h2, h3, h4, h5, h6, hK _ _ h7⟩
  · exact hk

theorem aopE_mono {R R' : CallR} (hR : RLe R R') {o : Oper} {e : Env} {h : AHeap} {K K' : AV → AHeap → Prop} (hK : ∀ v h, K v h → K' v h) (hk : aopE P R o e h K) : aopE P R' o e h K' := by
  obtain ⟨dst, op, type, pos, after, guard⟩ := o
  cases op <;> first | exact False.elim hk | skip
  case alloc t =>
    simp only [aopE] at *
    split at hk <;> first | exact hk | exact hK _ _ hk
  case box t x => exact ⟨hk.1, hK _ _ hk.2⟩
  case buildSlice t len parts =>
    simp only [aopE] at *
    split at hk
    · split at hk
      · obtain ⟨h1, h2⟩ := bif_true hk
        simp only [h1, cond_true]
        unfold pBuildSl at *
        split at h2
        · exact ⟨h2.1, hK _ _ h2.2⟩
        · exact h2
      · exact hk
    · exact hk
  case store t a x =>
    simp only [aopE] at *
    split at hk
    · unfold pStore at *
      split at hk
      · obtain ⟨b, h1, h2, h3, h4, h5, h6, h7, h8, h9⟩ := hk
        exact ⟨b, h1, h2, h3, h4, h5, h6, h7, h8, hK _ _ h9⟩
      · exact hk
    · exact hk
  case convert src dst' x =>
    simp only [aopE] at *
    split at hk
    · split at hk
      · unfold pStrBytes at *
        split at hk <;> first | exact hk | exact hK _ _ hk
      · exact hk
    · exact hk
  case makeMap t r =>
    cases r with
    | some r => exact False.elim hk
    | none =>
      simp only [aopE] at *
      split at hk
      · exact hK _ _ hk
      · exact hk
  case mapUpdate t m k x =>
    simp only [aopE] at *
    split at hk
    · obtain ⟨h1, h2⟩ := bif_true hk
      simp only [h1, cond_true]
      exact pMapSet_mono (hK _) h2
    · exact hk
  case insert t m k x =>
    simp only [aopE] at *
    split at hk
    · obtain ⟨h1, h2⟩ := bif_true hk
      simp only [h1, cond_true]
      exact pMapSet_mono (hK _) h2
    · exact hk
  case makeSlice t l c =>
    simp only [aopE] at *
    split at hk
    · split at hk
      · unfold pMake at *
        split at hk
        · obtain ⟨h1, h2, h3, h4, h5, h6, h7⟩ := hk
          exact ⟨h1, h2, h3, h4, h5, h6, hK _ _ h7⟩
        · exact hk
      · exact hk
    · exact hk
  case call c =>
    obtain ⟨callee, args, argTypes⟩ := c
    cases callee with
    | invoke r m =>
      simp only [aopE] at *
      unfold pInvoke at *
      split at hk
      · split at hk
        · obtain ⟨h1, h2⟩ := bif_true hk
          unfold pCall
          rw [h1]
          exact hR _ _ _ _ _ hK h2
        · exact hk.elim
      · exact hk.elim
    | builtin b =>
      cases b <;> first | exact False.elim hk | skip
      case append =>
        simp only [aopE] at *
        split at hk
        · obtain ⟨h1, h2⟩ := bif_true hk
          simp only [h1, cond_true]
          exact pAppend_mono hK h2
        · obtain ⟨h1, h2⟩ := bif_true hk
          simp only [h1, cond_true]
          exact pAppend_mono hK h2
        · exact hk
      case cap =>
        simp only [aopE] at *
        split at hk
        · unfold pCap at *
          split at hk
          · exact hK _ _ hk
          · exact hK _ _ hk
          · rcases hk with ⟨b, c, q1, q2, q3, q4, q5, q6, q7, q8⟩ | hk
            · exact .inl ⟨b, c, q1, q2, q3, q4, q5, q6, q7, hK _ _ q8⟩
            · exact .inr fun c hc => hK _ _ (hk c hc)
          · exact hk.elim
        · exact hk.elim
      case unsafeSliceData =>
        simp only [aopE] at *
        split at hk
        · unfold pSliceData at *
          split at hk
          · exact hK _ _ hk
          · exact ⟨hk.1, hK _ _ hk.2⟩
          · exact hk.elim
        · exact hk.elim
      case unsafeString =>
        simp only [aopE] at *
        split at hk
        · obtain ⟨h1, h2⟩ := bif_true hk
          simp only [h1, cond_true]
          unfold pUString at *
          split at h2
          · exact ⟨h2.1, hK _ _ h2.2⟩
          · obtain ⟨b, t, q1, q2, q3, q4, q5, q6, q7, q8, q9, q10, q11, q12⟩ := h2
            exact ⟨b, t, q1, q2, q3, q4, q5, q6, q7, q8, q9, q10, q11, hK _ _ q12⟩
          · exact h2.elim
        · exact hk.elim
      case copy =>
        simp only [aopE] at *
        split at hk
        · obtain ⟨h1, h2⟩ := bif_true hk
          simp only [h1, cond_true]
          exact pCopy_mono hK h2
        · exact hk
    | value f =>
      have c : ∀ {g : FuncId} {l : List AV}, pCall R g l h K → pCall R' g l h K' := fun {g l} hk => by
        obtain ⟨h1, h2⟩ := bif_true hk
        unfold pCall
        rw [h1]
        exact hR _ _ _ _ _ hK h2
      have v : ∀ {g : AV}, pCallV R g (args.toList.map (ev e h)) h K → pCallV R' g (args.toList.map (ev e h)) h K' := fun {g} hk => by
        unfold pCallV at hk
        split at hk
        · exact c hk
        · exact hR _ _ _ _ _ hK hk
        · exact hk.elim
      cases f with
      | func g => exact c hk
      | tmp t => exact v hk
      | const c => exact v hk
      | global c => exact v hk

theorem aop_mono {R R' : CallR} (hR : RLe R R') {o : Oper} {e : Env} {h : AHeap} {K K' : AV → AHeap → Prop} (hK : ∀ v h, K v h → K' v h) (hk : aop P R o e h K) : aop P R' o e h K' := by
  unfold aop at *
  cases hb : isEff P o with
  | true => rw [hb] at hk; exact aopE_mono hR hK hk
  | false => rw [hb] at hk; exact aopN_mono (K := fun v => K v h) (fun v hv => hK _ _ hv) hk

theorem pGuard_mono {want x : Bool} {A B A' B' : Prop} (hA : A → A') (hB : B → B') (h : pGuard want x A B) : pGuard want x A' B' := by
  cases want <;> cases x <;> first | exact hA h | exact hB h

theorem guardA_mono {ops : Array Oper} {o : Oper} {e : Env} {A B A' B' : Env → Prop} (hA : ∀ e, A e → A' e) (hB : ∀ e, B e → B' e) (h : guardA ops o e A B) : guardA ops o e A' B' := by
  unfold guardA at *
  split at h
  · exact hA _ h
  · split at h
    · exact hB _ h
    · split at h
      · exact pGuard_mono (hA _) (hB _) h
      · exact hB _ h
      · exact h

theorem aOps_mono {R R' : CallR} (hR : RLe R R') {nt : Nat} {ops : Array Oper} {K K' : Env → AHeap → Prop} (hK : ∀ e h, K e h → K' e h) : ∀ (l : List Oper) (e : Env) (h : AHeap), aOps P R nt ops l e h K → aOps P R' nt ops l e h K'
  | [], e, h, hk => hK _ _ hk
  | o :: l, e, h, hk => by
    obtain ⟨h1, h2⟩ := bif_true hk
    simp only [aOps, h1, cond_true]
    exact guardA_mono (fun e => aop_mono hR fun v h hv => shapeO_mono (fun v hv => aOps_mono hR hK l _ _ hv) hv) (fun e => aOps_mono hR hK l _ _) h2

theorem sameAnd_mono {X A A' : Prop} (hA : A → A') (h : X ∧ A) : X ∧ A' := ⟨h.1, hA h.2⟩

theorem pendA_mono {ops : Array Oper} {o : Oper} {e : Env} {h : AHeap} {A A' : Prop} (hA : A → A') (hk : pendA P ops o e h A) : pendA P ops o e h A' := by
  have go : (aopN P o (restr (o.looksAt ops) e) h fun v => shapeO P o v fun v => sameAt e o.dst v ∧ A) → (aopN P o (restr (o.looksAt ops) e) h fun v => shapeO P o v fun v => sameAt e o.dst v ∧ A') :=
    aopN_mono fun v hv => shapeO_mono (fun v hv => sameAnd_mono hA hv) hv
  unfold pendA at *
  split at hk
  · exact go hk
  · split at hk
    · exact sameAnd_mono hA hk
    · split at hk
      · exact pGuard_mono go (sameAnd_mono hA) hk
      · exact sameAnd_mono hA hk
      · exact hk

theorem againA_mono {ops : Array Oper} {i : Nat} {e : Env} {h : AHeap} {A A' : Prop} (hA : A → A') : ∀ {D : List Nat}, againA P ops i e h A D → againA P ops i e h A' D
  | [], hk => hA hk
  | k :: D, hk => by
    unfold againA at *
    split at hk
    · exact againA_mono hA hk
    · rename_i o _
      cases hc : readsA P o && !isEff P o && !Region.waitsFor .any ops i k with
      | true => rw [hc] at hk; exact pendA_mono (againA_mono hA) hk
      | false => rw [hc] at hk; exact againA_mono hA hk

theorem aOrd_mono {R R' : CallR} (hR : RLe R R') {nt : Nat} {ops : Array Oper} {K K' : Env → AHeap → Prop} (hK : ∀ e h, K e h → K' e h) : ∀ (ord : Ord) (D : List Nat) (e : Env) (h : AHeap), aOrd P R nt ops ord D e h K → aOrd P R' nt ops ord D e h K' := by
  intro ord
  induction ord with
  | done => intro D e h hk; exact hK _ _ hk
  | stop => intro D e h hk; trivial
  | neu i r ih =>
    intro D e h hk
    unfold aOrd at hk ⊢
    split at hk
    · exact hk
    · exact bif_mono (guardA_mono (fun e => aopN_mono fun v hv => shapeO_mono (fun v hv => ih _ _ _ hv) hv) (fun e => ih _ _ _)) hk
  | eff i r alt ihr iha =>
    intro D e h hk
    unfold aOrd at hk ⊢
    split at hk
    · exact hk
    · rename_i o _
      refine bif_mono ?_ hk
      have now : nowA P R nt ops i o r D e h K → nowA P R' nt ops i o r D e h K' := by
        refine guardA_mono (fun e => aop_mono hR fun v h' hv => shapeO_mono (fun v hv => ?_) hv) (fun e => ihr _ _ _)
        revert hv
        cases isEff P o with
        | true => exact againA_mono (ihr _ _ _)
        | false => exact ihr _ _ _
      intro hk
      cases hs : alt.isStop with
      | true => rw [hs] at hk; exact now hk
      | false => rw [hs] at hk; exact ⟨now hk.1, iha _ _ _ hk.2⟩

theorem aLoop_mono {F F' : (Env → AHeap → Prop) → Env → AHeap → Prop} (hF : ∀ I e h, F I e h → F' I e h) {e : Env} {h : AHeap} (hk : aLoop F e h) : aLoop F' e h :=
  fun I hI => hk I fun e h hx => hI e h (hF I e h hx)

theorem aJumps_mono {F F' : (Nat → Env → AHeap → Prop) → Nat → Env → AHeap → Prop} (hF : ∀ I l e h, F I l e h → F' I l e h) {l : Nat} {e : Env} {h : AHeap} (hk : aJumps F l e h) : aJumps F' l e h :=
  fun I hI => hk I fun l e h hx => hI l e h (hF I l e h hx)
theorem kJump_mono {x : Code} {I I' : Nat → Env → AHeap → Prop} (hI : ∀ l e h, I l e h → I' l e h) {K K' : Kx} (hK : ∀ x e h, K x e h → K' x e h) (ex : Exit) (e : Env) (h : AHeap) (hk : kJump x I K ex e h) : kJump x I' K' ex e h := by
  cases ex with
  | goto l =>
    simp only [kJump] at *
    revert hk
    cases hasL x l
    · exact hK _ _ _
    · exact hI _ _ _
  | _ => exact hK _ _ _ hk

theorem aexec_mono2 {R R' : CallR} (hR : RLe R R') {nt : Nat} : ∀ (c : Code),
    (∀ (ann : Ann) (e : Env) (h : AHeap) (K K' : Kx), (∀ x e h, K x e h → K' x e h) → aexec P R nt ann c e h K → aexec P R' nt ann c e h K') ∧
    (∀ (ann : Ann) (l : Nat) (e : Env) (h : AHeap) (K K' : Kx), (∀ x e h, K x e h → K' x e h) → aFrom P R nt ann c l e h K → aFrom P R' nt ann c l e h K') := by
  intro c
  induction c with
  | skip =>
    refine ⟨?_, ?_⟩
    · intro ann e h K K' hK hk; exact hK _ _ _ hk
    · intro ann l e h K K' hK hk; simp only [aFrom] at hk
  | region id ops draw =>
    refine ⟨?_, ?_⟩
    · intro ann e h K K' hK hk
      simp only [aexec] at *
      cases draw with
      | false => exact aOps_mono hR (hK _) _ _ _ hk
      | true =>
        simp only [cond_true] at *
        obtain ⟨h1, h2⟩ := bif_true hk
        simp only [h1, cond_true]
        exact aOrd_mono hR (fun e h he => hK _ _ _ he) _ _ _ _ h2
    · intro ann l e h K K' hK hk; simp only [aFrom] at hk
  | seq x y ihx ihy =>
    refine ⟨?_, ?_⟩
    · intro ann e h K K' hK hk
      simp only [aexec] at *
      refine ihx.1 _ _ _ _ _ (fun ex e h hx => ?_) hk
      cases ex with
      | normal => exact ihy.1 _ _ _ _ _ hK hx
      | _ => exact hK _ _ _ hx
    · intro ann l e h K K' hK hk
      simp only [aFrom] at *
      revert hk
      cases hasL x l
      · exact ihy.2 _ _ _ _ _ _ hK
      · refine ihx.2 _ _ _ _ _ _ (fun ex e h hx => ?_)
        cases ex with
        | normal => exact ihy.1 _ _ _ _ _ hK hx
        | _ => exact hK _ _ _ hx
  | cond c x y ihx ihy =>
    refine ⟨?_, ?_⟩
    · intro ann e h K K' hK hk
      exact aIf_mono (ihx.1 _ _ _ _ _ hK) (ihy.1 _ _ _ _ _ hK) hk
    · intro ann l e h K K' hK hk; simp only [aFrom] at hk
  | block id x ih =>
    refine ⟨?_, ?_⟩
    · intro ann e h K K' hK hk
      simp only [aexec] at *
      refine ih.1 _ _ _ _ _ (fun ex e h hx => ?_) hk
      cases ex with
      | exit id' =>
        simp only [kBlock] at *
        revert hx
        cases Nat.beq id' id <;> exact hK _ _ _
      | _ => exact hK _ _ _ hx
    · intro ann l e h K K' hK hk; simp only [aFrom] at hk
  | scope x ih =>
    refine ⟨?_, ?_⟩
    · intro ann e h K K' hK hk
      simp only [aexec] at *
      cases hg : goes x with
      | false =>
        rw [hg] at hk
        refine ih.1 _ _ _ _ _ (fun ex e h hx => ?_) hk
        cases ex <;> first | exact hx.elim | exact hK _ _ _ hx
      | true =>
        rw [hg] at hk
        refine ih.1 _ _ _ _ _ (kJump_mono (fun l e h hx => ?_) hK) hk
        exact aJumps_mono (fun I l e h hx => ih.2 _ _ _ _ _ _ (kJump_mono (fun _ _ _ h => h) hK) hx) hx
    · intro ann l e h K K' hK hk; simp only [aFrom] at hk
  | loop x ih =>
    refine ⟨?_, ?_⟩
    · intro ann e h K K' hK hk
      simp only [aexec] at *
      refine aLoop_mono (fun I e h hx => ih.1 _ _ _ _ _ (fun ex e h hx => ?_) hx) hk
      cases ex with
      | normal => exact hx
      | _ => exact hK _ _ _ hx
    · intro ann l e h K K' hK hk; simp only [aFrom] at hk
  | exit id =>
    refine ⟨?_, ?_⟩
    · intro ann e h K K' hK hk; exact hK _ _ _ hk
    · intro ann l e h K K' hK hk; simp only [aFrom] at hk
  | label l =>
    refine ⟨?_, ?_⟩
    · intro ann e h K K' hK hk; exact hK _ _ _ hk
    · intro ann l1 e h K K' hK hk
      simp only [aFrom] at *
      revert hk
      cases Nat.beq l l1
      · exact id
      · exact hK _ _ _
  | ret =>
    refine ⟨?_, ?_⟩
    · intro ann e h K K' hK hk; exact hK _ _ _ hk
    · intro ann l e h K K' hK hk; simp only [aFrom] at hk
  | goto l =>
    refine ⟨?_, ?_⟩
    · intro ann e h K K' hK hk; exact hK _ _ _ hk
    · intro ann l e h K K' hK hk; simp only [aFrom] at hk
  | _ =>
    refine ⟨?_, ?_⟩
    · intro ann e h K K' hK hk; exact False.elim hk
    · intro ann l e h K K' hK hk; simp only [aFrom] at hk

theorem aexec_mono {R R' : CallR} (hR : RLe R R') {nt : Nat} (c : Code) (ann : Ann) (e : Env) (h : AHeap) (K K' : Kx) : (∀ x e h, K x e h → K' x e h) → aexec P R nt ann c e h K → aexec P R' nt ann c e h K' :=
  (aexec_mono2 hR c).1 ann e h K K'
/-- A jump. -/
theorem aJumps_step {R : CallR} (hR : RLe R R) {nt : Nat} {ann : Ann} {x : Code} {K : Kx} {l : Nat} {e : Env} {h : AHeap}
    (hk : aFrom P R nt ann x l e h (kJump x (aJumps fun I l e h => aFrom P R nt ann x l e h (kJump x I K)) K)) : aJumps (fun I l e h => aFrom P R nt ann x l e h (kJump x I K)) l e h := by
  intro I hI
  exact hI _ _ _ ((aexec_mono2 hR x).2 _ _ _ _ _ _ (kJump_mono (fun l e h hx => hx I hI) (fun _ _ _ h => h)) hk)

theorem resA_mono {h : AHeap} {e : Env} {r : ResultVar} {K K' : AV → Prop} (hK : ∀ v, K v → K' v) (hk : resA P h e r K) : resA P h e r K' := by
  cases r with
  | tmp t => exact hK _ hk
  | cell x t =>
    simp only [resA] at *
    split at hk
    · unfold pLoadN at *
      split at hk
      · obtain ⟨b, h1, h2, h3⟩ := hk; exact ⟨b, h1, h2, hK _ h3⟩
      · exact hk
    · unfold pLoad1 at *
      split at hk
      · obtain ⟨b, h1, h2, h3⟩ := hk; exact ⟨b, h1, h2, hK _ h3⟩
      · exact hk
    · exact hk

theorem resAll_mono {h : AHeap} {e : Env} : ∀ {rs : List ResultVar} {K K' : List AV → Prop}, (∀ v, K v → K' v) → resAll P h e rs K → resAll P h e rs K'
  | [], _, _, hK, hk => hK _ hk
  | r :: rs, _, _, hK, hk => resA_mono (fun v hv => resAll_mono (fun vs hvs => hK _ hvs) hv) hk

theorem kRet_mono {h0 : AHeap} {K K' : AV → AHeap → Prop} (hK : ∀ v h, K v h → K' v h) {r : AV} {h : AHeap} (hk : kRet h0 K r h) : kRet h0 K' r h := by
  rcases hk with hk | ⟨keep, h1, h2, h3, h4, h5, h6⟩
  · exact .inl (hK _ _ hk)
  · exact .inr ⟨keep, h1, h2, h3, h4, h5, hK _ _ h6⟩

theorem kFun_mono {fn : Func} {K K' : AV → AHeap → Prop} (hK : ∀ v h, K v h → K' v h) {x : Exit} {e : Env} {h : AHeap} (hk : kFun P fn K x e h) : kFun P fn K' x e h := by
  cases x <;> first | exact resAll_mono (fun vs hv => hK _ _ hv) hk | exact hk.elim

theorem aF_mono {R R' : CallR} (hR : RLe R R') {f : FuncId} {args : List AV} {h : AHeap} {K K' : AV → AHeap → Prop} (hK : ∀ v h, K v h → K' v h) (hk : aF P R f args h K) : aF P R' f args h K' := by
  obtain ⟨fn, body, ann, h1, h2, h3, h4, h5⟩ := hk
  exact ⟨fn, body, ann, h1, h2, h3, h4, aexec_mono hR _ _ _ _ _ _ (fun x e h hx => kFun_mono (fun v h hv => kRet_mono hK hv) hx) h5⟩

theorem acall_mono {X : CallR} {f : FuncId} {args : List AV} {h : AHeap} {K K' : AV → AHeap → Prop} (hK : ∀ v h, K v h → K' v h) (hk : acall P X f args h K) : acall P X f args h K' :=
  fun R hm hX hF => hm _ _ _ _ _ hK (hk R hm hX hF)

/-- A function's body gives its calls. -/
theorem acall_body {X : CallR} {f : FuncId} {args : List AV} {h : AHeap} {K : AV → AHeap → Prop} (hk : aF P (acall P X) f args h K) : acall P X f args h K := by
  intro R hm hX hF
  refine hF _ _ _ _ (aF_mono (fun f args h K K' hK hk => hm _ _ _ _ _ hK (hk R hm hX hF)) (fun v h hv => hv) hk)

theorem acall_given {X : CallR} {f : FuncId} {args : List AV} {h : AHeap} {K : AV → AHeap → Prop} (hk : X f args h K) : acall P X f args h K :=
  fun R hm hX hF => hX _ _ _ _ hk

theorem loopF_mono {R : CallR} (hR : RLe R R) {nt : Nat} {ann : Ann} {x : Code} {K K' : Kx} (hK : ∀ x e h, K x e h → K' x e h) {I I' : Env → AHeap → Prop} (hI : ∀ e h, I e h → I' e h) {e : Env} {h : AHeap}
    (hk : loopF P R nt ann x K I e h) : loopF P R nt ann x K' I' e h := by
  refine aexec_mono hR _ _ _ _ _ _ (fun x e h hx => ?_) hk
  cases x with
  | normal => exact hI _ _ hx
  | _ => exact hK _ _ _ hx

/-- One round of a loop. -/
theorem aLoop_step {R : CallR} (hR : RLe R R) {nt : Nat} {ann : Ann} {x : Code} {K : Kx} {e : Env} {h : AHeap} (hk : loopF P R nt ann x K (aLoop (loopF P R nt ann x K)) e h) : aLoop (loopF P R nt ann x K) e h := by
  intro I hI
  exact hI _ _ (loopF_mono hR (fun _ _ _ h => h) (fun e h hx => hx I hI) hk)

theorem aAt_round {R : CallR} (hR : RLe R R) {nt : Nat} : ∀ (path : List Nat) (ann : Ann) (c : Code) (e : Env) (h : AHeap) (K : Kx), aAt P R nt .round path ann c e h K → aAt P R nt .head path ann c e h K
  | [], ann, c, e, h, K, hk => by
    unfold aAt at *
    cases c <;> first | exact hk.elim | exact aLoop_step hR hk
  | d :: path, ann, c, e, h, K, hk => by
    unfold aAt at *
    cases c <;> first | exact hk.elim | skip
    case seq x y =>
      revert hk
      simp only
      cases Nat.beq d 0 <;> exact aAt_round hR path _ _ _ _ _
    case cond c x y =>
      revert hk
      simp only
      cases Nat.beq d 0 <;> exact aAt_round hR path _ _ _ _ _
    case block id x => exact aAt_round hR path _ _ _ _ _ hk
    case scope x =>
      revert hk
      simp only
      cases goes x
      · exact aAt_round hR path _ _ _ _ _
      · exact id
    case loop x => exact aAt_round hR path _ _ _ _ _ hk

theorem acall_le (X : CallR) : RLe (acall P X) (acall P X) := fun f args h K K' hK hk => acall_mono hK hk

end
end Go.GAM

/- A body, cut at the places where ways meet and at its loops' heads: there the text goes on as J says. -/
set_option linter.unusedVariables false
set_option linter.unusedSimpArgs false
namespace Go.GAM

abbrev JT := Nat → Env → AHeap → Prop

/-- A value with a name, in the printed texts. -/
def withI (n : Int) (K : Int → Prop) : Prop := K n
/-- The code, run up to the next places. -/
def exJ (P : Program) (R : CallR) (nt : Nat) (J : JT) (ann : Ann) (c : Code) (e : Env) (h : AHeap) (K : Kx) : Prop :=
  match c with
  | .skip => K .normal e h
  | .region _ ops draw =>
    bif draw then (bif ordOK ops true ann.o [] then aOrd P R nt ops ann.o [] e h (K .normal) else False)
    else aOps P R nt ops ops.toList e h (K .normal)
  | .seq x y => exJ P R nt J ann.a x e h (kSeq (fun e h => bif Nat.beq ann.j 0 then exJ P R nt J ann.b y (restr ann.live e) h K else J ann.j (restr ann.live e) h) K)
  | .cond c x y => aIf (ev e h c) (exJ P R nt J ann.a x e h K) (exJ P R nt J ann.b y e h K)
  | .block id x => exJ P R nt J ann.a x e h (kBlock id K)
  | .scope x => bif goes x then False else exJ P R nt J ann.a x e h (kScope K)
  | .loop _ => J ann.j (restr ann.live e) h
  | .exit id => K (.exit id) e h
  | .label _ => K .normal e h
  | .ret => K .ret e h
  | _ => False

def atJ (P : Program) (R : CallR) (nt : Nat) (J : JT) (round : Bool) : List Nat → Ann → Code → Env → AHeap → Kx → Prop
  | [], ann, c, e, h, K =>
    match round with
    | false => exJ P R nt J ann c e h K
    | true => match c with
      | .loop x => exJ P R nt J ann.a x e h (kSeq (fun e h => J ann.j (restr ann.live e) h) K)
      | _ => False
  | d :: path, ann, c, e, h, K =>
    match c with
    | .seq x y => bif Nat.beq d 0 then atJ P R nt J round path ann.a x e h (kSeq (fun e h => bif Nat.beq ann.j 0 then exJ P R nt J ann.b y (restr ann.live e) h K else J ann.j (restr ann.live e) h) K)
        else atJ P R nt J round path ann.b y e h K
    | .cond _ x y => bif Nat.beq d 0 then atJ P R nt J round path ann.a x e h K else atJ P R nt J round path ann.b y e h K
    | .block id x => atJ P R nt J round path ann.a x e h (kBlock id K)
    | .scope x => bif goes x then False else atJ P R nt J round path ann.a x e h (kScope K)
    | .loop x => atJ P R nt J round path ann.a x e h (kSeq (fun e h => J ann.j (restr ann.live e) h) K)
    | _ => False

/-- The places of a body: number, path, a loop's head? -/
def places : Ann → Code → List (Nat × List Nat × Bool)
  | ann, .seq x y => (bif Nat.beq ann.j 0 then [] else [(ann.j, [1], false)]) ++ (places ann.a x).map (fun q => (q.1, 0 :: q.2.1, q.2.2)) ++ (places ann.b y).map (fun q => (q.1, 1 :: q.2.1, q.2.2))
  | ann, .cond _ x y => (places ann.a x).map (fun q => (q.1, 0 :: q.2.1, q.2.2)) ++ (places ann.b y).map (fun q => (q.1, 1 :: q.2.1, q.2.2))
  | ann, .block _ x => (places ann.a x).map (fun q => (q.1, 0 :: q.2.1, q.2.2))
  | ann, .scope x => (places ann.a x).map (fun q => (q.1, 0 :: q.2.1, q.2.2))
  | ann, .loop x => (ann.j, [], true) :: (places ann.a x).map (fun q => (q.1, 0 :: q.2.1, q.2.2))
  | _, _ => []

def wayOf (b : Bool) : Way := match b with | true => .head | false => .run

def lookJ : List (Nat × List Nat × Bool) → Nat → Option (List Nat × Bool)
  | [], _ => none
  | (k, v) :: r, n => bif Nat.beq k n then some v else lookJ r n

/-- J as it is meant. -/
def actJ (P : Program) (R : CallR) (nt : Nat) (ann : Ann) (c : Code) (K : Kx) : JT := fun k e h =>
  match lookJ (places ann c) k with
  | some (p, b) => aAt P R nt (wayOf b) p ann c e h K
  | none => False

def notIn (n : Nat) : List (Nat × List Nat × Bool) → Bool
  | [] => true
  | (k, _) :: r => bif Nat.beq k n then false else notIn n r
def noTwice : List (Nat × List Nat × Bool) → Bool
  | [] => true
  | (k, _) :: r => bif notIn k r then noTwice r else false

theorem notIn_mem {n : Nat} : ∀ {l : List (Nat × List Nat × Bool)}, notIn n l = true → ∀ v, (n, v) ∉ l
  | [], _, _ => by simp
  | (k, u) :: r, h, v => by
    unfold notIn at h
    cases hb : Nat.beq k n with
    | true => rw [hb] at h; cases h
    | false =>
      rw [hb] at h
      intro hm
      rcases List.mem_cons.1 hm with he | hm
      · injection he with h1 _; subst h1; simp at hb
      · exact notIn_mem h v hm

theorem lookJ_mem : ∀ {l : List (Nat × List Nat × Bool)}, noTwice l = true → ∀ {k : Nat} {v : List Nat × Bool}, (k, v) ∈ l → lookJ l k = some v
  | [], _, _, _, h => by cases h
  | (k0, u) :: r, hd, k, v, h => by
    unfold noTwice at hd
    cases hn : notIn k0 r with
    | false => rw [hn] at hd; cases hd
    | true =>
      rw [hn] at hd
      unfold lookJ
      rcases List.mem_cons.1 h with he | hm
      · injection he with h1 h2; subst h1; subst h2; simp
      · have hne : k0 ≠ k := fun e => notIn_mem hn v (e ▸ hm)
        rw [nbeq hne]
        exact lookJ_mem hd hm

section
variable {P : Program}

def Meant (P : Program) (R : CallR) (nt : Nat) (J : JT) (ann : Ann) (c : Code) (K : Kx) : Prop :=
  ∀ k p b, (k, p, b) ∈ places ann c → ∀ e h, J k e h → aAt P R nt (wayOf b) p ann c e h K

theorem Meant.act {R : CallR} {nt : Nat} {ann : Ann} {c : Code} {K : Kx} (hd : noTwice (places ann c) = true) : Meant P R nt (actJ P R nt ann c K) ann c K := by
  intro k p b hm e h hJ
  unfold actJ at hJ
  rw [lookJ_mem hd hm] at hJ
  exact hJ

section
variable {R : CallR} {nt : Nat} {J : JT} {ann : Ann} {x y : Code} {K : Kx}
theorem Meant.seq1 (h : Meant P R nt J ann (.seq x y) K) : Meant P R nt J ann.a x (kSeq (fun e h => aexec P R nt ann.b y (restr ann.live e) h K) K) := fun k p b hm e hh hJ =>
  h k (0 :: p) b (by simp only [places, List.mem_append, List.mem_map]; exact .inl (.inr ⟨_, hm, rfl⟩)) e hh hJ
theorem Meant.seq2 (h : Meant P R nt J ann (.seq x y) K) : Meant P R nt J ann.b y K := fun k p b hm e hh hJ =>
  h k (1 :: p) b (by simp only [places, List.mem_append, List.mem_map]; exact .inr ⟨_, hm, rfl⟩) e hh hJ
theorem Meant.seqJ (h : Meant P R nt J ann (.seq x y) K) (hj : Nat.beq ann.j 0 = false) {e : Env} {hh : AHeap} (hJ : J ann.j e hh) : aexec P R nt ann.b y e hh K :=
  h ann.j [1] false (by simp only [places, List.mem_append, hj, cond_false]; exact .inl (.inl (by simp))) e hh hJ
theorem Meant.cond1 {c : Operand} (h : Meant P R nt J ann (.cond c x y) K) : Meant P R nt J ann.a x K := fun k p b hm e hh hJ =>
  h k (0 :: p) b (by simp only [places, List.mem_append, List.mem_map]; exact .inl ⟨_, hm, rfl⟩) e hh hJ
theorem Meant.cond2 {c : Operand} (h : Meant P R nt J ann (.cond c x y) K) : Meant P R nt J ann.b y K := fun k p b hm e hh hJ =>
  h k (1 :: p) b (by simp only [places, List.mem_append, List.mem_map]; exact .inr ⟨_, hm, rfl⟩) e hh hJ
theorem Meant.block {id : Nat} (h : Meant P R nt J ann (.block id x) K) : Meant P R nt J ann.a x (kBlock id K) := fun k p b hm e hh hJ =>
  h k (0 :: p) b (by simp only [places, List.mem_map]; exact ⟨_, hm, rfl⟩) e hh hJ
theorem Meant.scope (hg : goes x = false) (h : Meant P R nt J ann (.scope x) K) : Meant P R nt J ann.a x (kScope K) := fun k p b hm e hh hJ => by
  have := h k (0 :: p) b (by simp only [places, List.mem_map]; exact ⟨_, hm, rfl⟩) e hh hJ
  simp only [aAt, hg, cond_false] at this
  exact this
theorem Meant.loop (h : Meant P R nt J ann (.loop x) K) : Meant P R nt J ann.a x (kSeq (fun e h => aLoop (loopF P R nt ann x K) (restr ann.live e) h) K) := fun k p b hm e hh hJ =>
  h k (0 :: p) b (by simp only [places, List.mem_cons, List.mem_map]; exact .inr ⟨_, hm, rfl⟩) e hh hJ
theorem Meant.loopJ (h : Meant P R nt J ann (.loop x) K) {e : Env} {hh : AHeap} (hJ : J ann.j e hh) : aLoop (loopF P R nt ann x K) e hh :=
  h ann.j [] true (by simp only [places, List.mem_cons]; exact .inl trivial) e hh hJ
end

theorem exJ_exec {R : CallR} (hR : RLe R R) {nt : Nat} {J : JT} : ∀ (c : Code) (ann : Ann) (e : Env) (h : AHeap) (K K' : Kx), Meant P R nt J ann c K' → (∀ x e h, K x e h → K' x e h) → exJ P R nt J ann c e h K → aexec P R nt ann c e h K' := by
  intro c
  induction c with
  | skip => intro ann e h K K' hM hK hk; exact hK _ _ _ hk
  | region id ops draw =>
    intro ann e h K K' hM hK hk
    exact aexec_mono hR (.region id ops draw) ann _ _ K K' hK hk
  | seq x y ihx ihy =>
    intro ann e h K K' hM hK hk
    refine ihx _ _ _ _ _ hM.seq1 (fun ex e h hx => ?_) hk
    cases ex with
    | normal =>
      simp only [kSeq] at *
      cases hj : Nat.beq ann.j 0 with
      | true => rw [hj] at hx; exact ihy _ _ _ _ _ hM.seq2 hK hx
      | false => rw [hj] at hx; exact hM.seqJ hj hx
    | _ => exact hK _ _ _ hx
  | cond c x y ihx ihy =>
    intro ann e h K K' hM hK hk
    exact aIf_mono (ihx _ _ _ _ _ hM.cond1 hK) (ihy _ _ _ _ _ hM.cond2 hK) hk
  | block id x ih =>
    intro ann e h K K' hM hK hk
    refine ih _ _ _ _ _ hM.block (fun ex e h hx => ?_) hk
    cases ex with
    | exit id' =>
      simp only [kBlock] at *
      revert hx
      cases Nat.beq id' id <;> exact hK _ _ _
    | _ => exact hK _ _ _ hx
  | scope x ih =>
    intro ann e h K K' hM hK hk
    simp only [exJ, aexec] at *
    cases hg : goes x with
    | true => rw [hg] at hk; exact hk.elim
    | false =>
    rw [hg] at hk
    refine ih _ _ _ _ _ (Meant.scope hg hM) (fun ex e h hx => ?_) hk
    cases ex <;> first | exact hx.elim | exact hK _ _ _ hx
  | loop x ih => intro ann e h K K' hM hK hk; exact hM.loopJ hk
  | exit id => intro ann e h K K' hM hK hk; exact hK _ _ _ hk
  | label l => intro ann e h K K' hM hK hk; exact hK _ _ _ hk
  | ret => intro ann e h K K' hM hK hk; exact hK _ _ _ hk
  | _ => intro ann e h K K' hM hK hk; exact False.elim hk

theorem atJ_at {R : CallR} (hR : RLe R R) {nt : Nat} {J : JT} {round : Bool} : ∀ (path : List Nat) (ann : Ann) (c : Code) (e : Env) (h : AHeap) (K K' : Kx), Meant P R nt J ann c K' → (∀ x e h, K x e h → K' x e h) → atJ P R nt J round path ann c e h K →
    aAt P R nt (match round with | true => .round | false => .run) path ann c e h K'
  | [], ann, c, e, h, K, K', hM, hK, hk => by
    cases round with
    | false => exact exJ_exec hR c ann e h K K' hM hK hk
    | true =>
      cases c <;> first | exact hk.elim | skip
      rename_i x
      refine exJ_exec hR x ann.a e h _ _ hM.loop (fun ex e h hx => ?_) hk
      cases ex with
      | normal => exact hM.loopJ hx
      | _ => exact hK _ _ _ hx
  | d :: path, ann, c, e, h, K, K', hM, hK, hk => by
    unfold atJ at hk
    unfold aAt
    cases c <;> first | exact hk.elim | skip
    case seq x y =>
      simp only at hk ⊢
      cases hd : Nat.beq d 0 with
      | true =>
        rw [hd] at hk
        refine atJ_at hR path _ _ _ _ _ _ hM.seq1 (fun ex e h hx => ?_) hk
        cases ex with
        | normal =>
          simp only [kSeq] at *
          cases hj : Nat.beq ann.j 0 with
          | true => rw [hj] at hx; exact exJ_exec hR _ _ _ _ _ _ hM.seq2 hK hx
          | false => rw [hj] at hx; exact hM.seqJ hj hx
        | _ => exact hK _ _ _ hx
      | false => rw [hd] at hk; exact atJ_at hR path _ _ _ _ _ _ hM.seq2 hK hk
    case cond c x y =>
      simp only at hk ⊢
      cases hd : Nat.beq d 0 with
      | true => rw [hd] at hk; exact atJ_at hR path _ _ _ _ _ _ hM.cond1 hK hk
      | false => rw [hd] at hk; exact atJ_at hR path _ _ _ _ _ _ hM.cond2 hK hk
    case block id x =>
      refine atJ_at hR path _ _ _ _ _ _ hM.block (fun ex e h hx => ?_) hk
      cases ex with
      | exit id' =>
        simp only [kBlock] at *
        revert hx
        cases Nat.beq id' id <;> exact hK _ _ _
      | _ => exact hK _ _ _ hx
    case scope x =>
      simp only at hk ⊢
      cases hg : goes x with
      | true => rw [hg] at hk; exact hk.elim
      | false =>
      rw [hg] at hk
      refine atJ_at hR path _ _ _ _ _ _ (Meant.scope hg hM) (fun ex e h hx => ?_) hk
      cases ex <;> first | exact hx.elim | exact hK _ _ _ hx
    case loop x =>
      refine atJ_at hR path _ _ _ _ _ _ hM.loop (fun ex e h hx => ?_) hk
      cases ex with
      | normal => exact hM.loopJ hx
      | _ => exact hK _ _ _ hx

/-- The places' J of a function. -/
abbrev funJ (P : Program) (R : CallR) (fn : Func) (ann : Ann) (body : Code) (Q : AV → AHeap → Prop) : JT := actJ P R fn.ntmps ann body (kFun P fn Q)

theorem goJ_run {R : CallR} (hR : RLe R R) {fn : Func} {ann : Ann} {body : Code} (hd : noTwice (places ann body) = true) {Q : AV → AHeap → Prop} {k : Nat} {p : List Nat} (hl : lookJ (places ann body) k = some (p, false)) {e : Env} {h : AHeap}
    (hk : atJ P R fn.ntmps (funJ P R fn ann body Q) false p ann body e h (kFun P fn Q)) : funJ P R fn ann body Q k e h := by
  unfold funJ actJ
  rw [hl]
  exact atJ_at hR p ann body e h _ _ (Meant.act hd) (fun _ _ _ h => h) hk

theorem goJ_head {R : CallR} (hR : RLe R R) {fn : Func} {ann : Ann} {body : Code} (hd : noTwice (places ann body) = true) {Q : AV → AHeap → Prop} {k : Nat} {p : List Nat} (hl : lookJ (places ann body) k = some (p, true)) {e : Env} {h : AHeap}
    (hk : atJ P R fn.ntmps (funJ P R fn ann body Q) true p ann body e h (kFun P fn Q)) : funJ P R fn ann body Q k e h := by
  unfold funJ actJ
  rw [hl]
  exact aAt_round hR p ann body e h _ (atJ_at hR p ann body e h _ _ (Meant.act hd) (fun _ _ _ h => h) hk)

/-- A function's text gives its calls. -/
theorem callJ {X : CallR} {f : FuncId} {fn : Func} {ann : Ann} {body : Code} (hf : P.funcs[f]? = some fn) (hb : fn.body = some body) (hn : (fn.name == "runtime.NumGoroutine") = false) (hd : noTwice (places ann body) = true) {args : List AV} (ha : Nat.ble args.length fn.ntmps = true)
    {h : AHeap} {K : AV → AHeap → Prop} (hk : exJ P (acall P X) fn.ntmps (funJ P (acall P X) fn ann body (kRet h K)) ann body (initEnv 0 args) h (kFun P fn (kRet h K))) : acall P X f args h K :=
  acall_body ⟨fn, body, ann, hf, hb, hn, Nat.le_of_ble_eq_true ha, exJ_exec (acall_le X) body ann _ h _ _ (Meant.act hd) (fun _ _ _ h => h) hk⟩

end
end Go.GAM

/- Ranges over functions. -/
set_option linter.unusedVariables false
set_option linter.unusedSimpArgs false
namespace Go.GAM

/-- Neither cells nor a map. -/
def isCtl : Obj → Bool
  | .loop _ | .deferred _ => true
  | _ => false

def bodyOK (P : Program) (f : FuncId) : Bool := match P.funcs[f]? with
  | some fn => fn.body.isSome && !(fn.name == "runtime.NumGoroutine")
  | none => false

section
variable {P : Program} {w0 : World} {Fz : Nat → Prop} {μ : Mu} {own : Nat → Option Nat} {h : AHeap} {w : World}

theorem Rel.put (R : Rel w Fz μ own h w) {L : Nat} {o : Obj} (hL : w.heap[L]? = some o) (hc : isCtl o = true) (o' : Obj) : Rel (w.putObj L o') Fz μ own h (w.putObj L o') where
  os := rfl
  tape := rfl
  output := rfl
  size0 := Nat.le_refl _
  fz := fun B hB => ⟨by simpa using (R.fz B hB).1, rfl⟩
  ownlt := fun B id hB => by simpa using R.ownlt B id hB
  mulen := R.mulen
  blk := fun id b hb hl => by
    obtain ⟨l, k⟩ := R.blk id b hb hl
    obtain ⟨c, el, fr, h3, h4⟩ := k.row
    have ho : o.isCells = false := by cases o <;> first | rfl | cases hc
    have hne : l.B ≠ L := fun e => by rw [e, hL] at h3; cases h3; cases ho
    refine ⟨l, { k with row := ⟨c, el, fr, by rw [World.putObj_heap_other hne]; exact h3, h4⟩, tyok := by rw [World.putObj_heap_other hne]; exact k.tyok, free := fun hr j hj => ?_, vers := fun ver h1 h2 l' hl' => ?_ }⟩
    · have := k.free hr j hj
      simp only [World.frozen?] at this ⊢
      rw [World.putObj_heap_other hne]; exact this
    · have hv := k.vers ver h1 h2 l' hl'
      refine { hv with cells := fun j hj => ?_ }
      obtain ⟨cv, e1, e2⟩ := hv.cells j hj
      refine ⟨cv, ?_, e2⟩
      by_cases hb : l'.B = L
      · exfalso
        simp only [World.cell?, hb, hL] at e1
        cases o <;> first | (cases ho; done) | (simp at e1)
      · simp only [World.cell?] at e1 ⊢
        rw [World.putObj_heap_other hb]; exact e1
  maps := fun id b es hb he => by
    obtain ⟨l, m1, m2, m3, ents, clock, m4, m5⟩ := R.maps id b es hb he
    have hne : l.B ≠ L := fun e => by rw [e, hL] at m4; cases m4; cases hc
    exact ⟨l, m1, m2, m3, ents, clock, by rw [World.putObj_heap_other hne]; exact m4, m5⟩

/-- Back to what was there first. -/
theorem Rel.back {wb : World} {Fzb : Nat → Prop} (R : Rel wb Fzb μ own h w) (h1 : w.os = w0.os) (h2 : w.tape = w0.tape) (h3 : w.output = w0.output) (h4 : w0.heap.size ≤ w.heap.size)
    (h5 : ∀ B, Fz B → Fzb B ∧ B < w0.heap.size ∧ w.heap[B]? = w0.heap[B]?) : Rel w0 Fz μ own h w where
  os := h1
  tape := h2
  output := h3
  size0 := h4
  fz := fun B hB => (h5 B hB).2
  ownlt := R.ownlt
  mulen := R.mulen
  blk := fun id b hb hl => by
    obtain ⟨l, k⟩ := R.blk id b hb hl
    exact ⟨l, { k with ro := fun hr hB => k.ro hr (h5 _ hB).1 }⟩
  maps := fun id b es hb he => by
    obtain ⟨l, m1, m2, m3, r⟩ := R.maps id b es hb he
    exact ⟨l, m1, m2, fun hB => m3 (h5 _ hB).1, r⟩

/-- A later base. -/
structure Base (w0 : World) (Fz : Nat → Prop) (wb : World) (Fzb : Nat → Prop) : Prop where
  os : wb.os = w0.os
  tape : wb.tape = w0.tape
  output : wb.output = w0.output
  size : w0.heap.size ≤ wb.heap.size
  fz : ∀ B, Fz B → Fzb B ∧ B < w0.heap.size ∧ wb.heap[B]? = w0.heap[B]?

theorem Base.refl (R : Rel w0 Fz μ own h w) : Base w0 Fz w0 Fz := ⟨rfl, rfl, rfl, Nat.le_refl _, fun B hB => ⟨hB, (R.fz B hB).1, rfl⟩⟩
theorem Base.trans {w1 w2 : World} {F1 F2 : Nat → Prop} (a : Base w0 Fz w1 F1) (b : Base w1 F1 w2 F2) : Base w0 Fz w2 F2 :=
  ⟨b.os.trans a.os, b.tape.trans a.tape, b.output.trans a.output, Nat.le_trans a.size b.size, fun B hB =>
    let ⟨h1, h2, h3⟩ := a.fz B hB; let ⟨h4, h5, h6⟩ := b.fz B h1; ⟨h4, h2, h6.trans h3⟩⟩
theorem Base.rel {wb : World} {Fzb : Nat → Prop} (b : Base w0 Fz wb Fzb) (R : Rel wb Fzb μ own h w) : Rel w0 Fz μ own h w :=
  R.back (R.os.trans b.os) (R.tape.trans b.tape) (R.output.trans b.output) (Nat.le_trans b.size R.size0) fun B hB =>
    let ⟨h1, h2, h3⟩ := b.fz B hB; ⟨h1, h2, (R.fz B h1).2.trans h3⟩

theorem bodyOK_run {f : FuncId} (hb : bodyOK P f = true) (args : Array Value) (w : World) : (callFunc f args).run P w = .ok (.enter f args) w := by
  unfold bodyOK at hb
  split at hb
  · rename_i fn hf
    simp only [Bool.and_eq_true, Bool.not_eq_true'] at hb
    have hbs : fn.body.isNone = false := by cases h : fn.body <;> simp_all
    simp only [callFunc, Sem.run_bind, run_program, Result.andThen_ok, hf, hb.2, Bool.false_eq_true, if_false, hbs, Sem.run_pure]
  · cases hb

theorem SoundAt.up {R : CallR} {μb μb' : Mu} (h : SoundAt P w0 Fz μb R) (hs : Sub μb μb') : SoundAt P w0 Fz μb' R := fun f args hh K hk μ own w cargs hs' => h f args hh K hk μ own w cargs (hs.trans hs')

theorem Sound.none : Sound P (fun _ _ _ _ => False) := fun _ _ _ _ _ _ _ h => h.elim

theorem acall_x {X : CallR} {f : FuncId} {args : List AV} {h : AHeap} {K : AV → AHeap → Prop} (hk : X f args h K) : acall P X f args h K := fun R _ hX _ => hX _ _ _ _ hk

end
end Go.GAM

/- Functions that defer calls. -/
set_option linter.unusedVariables false
set_option linter.unusedSimpArgs false
namespace Go.GAM

/-- Deferred calls, the latest first. -/
abbrev Dl := List (FuncId × List AV)
section
variable {P : Program} {w0 : World} {Fz : Nat → Prop} {μ : Mu} {own : Nat → Option Nat} {h : AHeap} {w : World}

/-- The model's deferred calls. -/
inductive DRel (P : Program) (μ : Mu) : Dl → List Deferred → Prop
  | nil : DRel P μ [] []
  | cons (f args cap dargs D ds) (hb : bodyOK P f = true) (hv : VRels μ args (dargs.toList ++ cap.toList)) (t : DRel P μ D ds) : DRel P μ ((f, args) :: D) ({ target := .fn (.func f) cap, args := dargs } :: ds)

theorem DRel.mono {μ μ' : Mu} (hs : Sub μ μ') : ∀ {D ds}, DRel P μ D ds → DRel P μ' D ds
  | _, _, .nil => .nil
  | _, _, .cons f args cap dargs D ds hb hv t => .cons f args cap dargs D ds hb (hv.mono hs) (t.mono hs)

/-- Two sets of rules. -/
def orR (R S : CallR) : CallR := fun f args h K => R f args h K ∨ S f args h K
end
end Go.GAM

/- The bodies' texts in the abstract machine: printed by Gen.lean, checked by Lean's kernel. -/
set_option linter.unusedVariables false
set_option linter.unusedSectionVars false
set_option maxRecDepth 100000
namespace Go.Proofs.YtfoekpcljhbijaaGreatDoor
open Go.GAM
noncomputable abbrev prog : Program := Tryz.prog
/-- The rules for functions that are not walked. -/
class XR where
  X : CallR
abbrev X [XR] : CallR := XR.X
abbrev C [XR] : CallR := acall prog X
abbrev G_law38_GzipNone.id : FuncId := 7
abbrev G_law38_awake.id : FuncId := 9
abbrev G_gzip_New.id : FuncId := 10
abbrev G_ref38_New.id : FuncId := 11
abbrev G_gzip_Decoder_Feed.id : FuncId := 12
abbrev G_ref38_Decoder_Feed.id : FuncId := 13
abbrev G_gzip_Decoder_Close.id : FuncId := 14
abbrev G_ref38_Decoder_Close.id : FuncId := 15
abbrev G_gzip_All.id : FuncId := 16
abbrev G_ref38_All.id : FuncId := 17
abbrev G_law38_same.id : FuncId := 18
abbrev G_gzip_Encode.id : FuncId := 19
abbrev G_law38_wide.id : FuncId := 20
abbrev G_inflate_All.id : FuncId := 21
abbrev G_checksum_Crc.id : FuncId := 22
abbrev G_gzip_Decoder_begin.id : FuncId := 23
abbrev G_gzip_header_take.id : FuncId := 24
abbrev G_gzip_Decoder_open.id : FuncId := 25
abbrev G_gzip_Decoder_inflate.id : FuncId := 26
abbrev G_strings_Builder_WriteString.id : FuncId := 27
abbrev G_gzip_Decoder_end.id : FuncId := 28
abbrev G_strings_Builder_String.id : FuncId := 29
abbrev G_ref38_Decoder_take.id : FuncId := 30
abbrev G_strings_Contains.id : FuncId := 31
abbrev G_inflate_Stored.id : FuncId := 32
abbrev G_inflate_Fixed.id : FuncId := 33
abbrev G_inflate_Dynamic.id : FuncId := 34
abbrev G_field_PutLittle.id : FuncId := 35
abbrev G_inflate_New.id : FuncId := 36
abbrev G_inflate_Decoder_Feed.id : FuncId := 37
abbrev G_checksum_CrcUpdate.id : FuncId := 38
abbrev G_gzip_header_next.id : FuncId := 39
abbrev G_inflate_Decoder_Done.id : FuncId := 40
abbrev G_inflate_Decoder_Rest.id : FuncId := 41
abbrev G_strings_Builder_copyCheck.id : FuncId := 42
abbrev G_field_GetLittle.id : FuncId := 43
abbrev G_ref37_Decoder_Done.id : FuncId := 44
abbrev G_ref37_Decoder_Feed.id : FuncId := 45
abbrev G_ref02_CrcUpdate.id : FuncId := 46
abbrev G_ref37_Decoder_Rest.id : FuncId := 47
abbrev G_ref38_Decoder_one.id : FuncId := 48
abbrev G_strings_Index.id : FuncId := 49
abbrev G_bytes_Buffer_Write.id : FuncId := 50
abbrev G_bytes_Buffer_WriteString.id : FuncId := 51
abbrev G_bytes_Buffer_String.id : FuncId := 52
abbrev G_inflate_writer_number.id : FuncId := 53
abbrev G_inflate_fixedLengths.id : FuncId := 54
abbrev G_inflate_writer_items.id : FuncId := 55
abbrev G_inflate_items.id : FuncId := 56
abbrev G_inflate_lengthSymbol.id : FuncId := 57
abbrev G_inflate_distanceSymbol.id : FuncId := 58
abbrev G_huffman_Lengths.id : FuncId := 59
abbrev G_inflate_trimmed.id : FuncId := 60
abbrev G_inflate_runs.id : FuncId := 61
abbrev G_slices_Concat___int_int_.id : FuncId := 62
abbrev G_huffman_Codes.id : FuncId := 63
abbrev G_inflate_writer_code.id : FuncId := 64
abbrev G_field_Put.id : FuncId := 65
abbrev G_slices_Reverse___byte_byte_.id : FuncId := 66
abbrev G_inflate_bound.id : FuncId := 67
abbrev G_inflate_Decoder_block.id : FuncId := 68
abbrev G_inflate_Decoder_bit.id : FuncId := 69
abbrev G_checksum_table.id : FuncId := 70
abbrev G_gzip_header_skip.id : FuncId := 71
abbrev G_i_abi_NoEscape.id : FuncId := 72
abbrev G_field_valid.id : FuncId := 73
abbrev G_field_part.id : FuncId := 74
abbrev G_field_number.id : FuncId := 75
abbrev G_ref37_Run.id : FuncId := 76
abbrev G_ref38_header.id : FuncId := 77
abbrev G_ref37_New.id : FuncId := 78
abbrev G_ref01_GetLittle.id : FuncId := 79
abbrev G_i_stringslite_Index.id : FuncId := 80
abbrev G_bytes_Buffer_tryGrowByReslice.id : FuncId := 81
abbrev G_bytes_Buffer_grow.id : FuncId := 82
abbrev G_slices_Repeat___int_int_.id : FuncId := 83
abbrev G_inflate_length.id : FuncId := 84
abbrev G_inflate_distance.id : FuncId := 85
abbrev G_inflate_items_1.id : FuncId := 86
abbrev G_inflate_match.id : FuncId := 87
abbrev G_huffman_limit.id : FuncId := 88
abbrev G_huffman_packs.id : FuncId := 89
abbrev G_slices_Grow___int_int_.id : FuncId := 90
abbrev G_huffman_Check.id : FuncId := 91
abbrev G_huffman_tableOf.id : FuncId := 92
abbrev G_inflate_Decoder_number.id : FuncId := 93
abbrev G_inflate_Decoder_block_1.id : FuncId := 94
abbrev G_inflate_Decoder_stored.id : FuncId := 95
abbrev G_inflate_Decoder_fixed.id : FuncId := 96
abbrev G_inflate_Decoder_dynamic.id : FuncId := 97
abbrev G_huffman_Decoder_Step.id : FuncId := 98
abbrev G_ref37_limit.id : FuncId := 99
abbrev G_ref37_run_stopped.id : FuncId := 100
abbrev G_ref37_run_bit.id : FuncId := 101
abbrev G_ref37_run_number.id : FuncId := 102
abbrev G_ref37_run_stored.id : FuncId := 103
abbrev G_ref37_run_symbols.id : FuncId := 104
abbrev G_ref37_FixedLengths.id : FuncId := 105
abbrev G_ref37_times.id : FuncId := 106
abbrev G_ref37_run_lengths.id : FuncId := 107
abbrev G_ref37_run_wrong.id : FuncId := 108
abbrev G_ref38_begins.id : FuncId := 109
abbrev G_ref38_text.id : FuncId := 110
abbrev G_ref02_Crc.id : FuncId := 111
abbrev G_ref01_Get.id : FuncId := 112
abbrev G_ref01_Value.id : FuncId := 113
abbrev G_ref01_Reverse.id : FuncId := 114
abbrev G_i_stringslite_IndexByte.id : FuncId := 115
abbrev G_i_bytealg_Cutover.id : FuncId := 117
abbrev G_i_bytealg_IndexRabinKarp_string_.id : FuncId := 118
abbrev G_bytes_Buffer_Len.id : FuncId := 119
abbrev G_bytes_Buffer_Reset.id : FuncId := 120
abbrev G_bytes_growSlice.id : FuncId := 121
abbrev G_math_bits_Mul.id : FuncId := 122
abbrev G_slices_Backward___int_int_.id : FuncId := 123
abbrev G_huffman_packs_1.id : FuncId := 124
abbrev G_huffman_sorted_huffman_pack__insert.id : FuncId := 125
abbrev G_inflate_Decoder_stored_1.id : FuncId := 126
abbrev G_inflate_Decoder_stored_1_1.id : FuncId := 127
abbrev G_inflate_Decoder_raw.id : FuncId := 128
abbrev G_inflate_Decoder_codes.id : FuncId := 129
abbrev G_inflate_Decoder_dynamic_1.id : FuncId := 130
abbrev G_inflate_Decoder_dynamic_1_1.id : FuncId := 131
abbrev G_inflate_Decoder_dynamic_1_1_1.id : FuncId := 132
abbrev G_inflate_Decoder_third.id : FuncId := 133
abbrev G_ref37_run_put.id : FuncId := 134
abbrev G_ref36_NewDecoder.id : FuncId := 135
abbrev G_ref37_run_symbol.id : FuncId := 136
abbrev G_ref37_Least.id : FuncId := 137
abbrev G_ref37_Far.id : FuncId := 138
abbrev G_ref36_Check.id : FuncId := 139
abbrev G_i_bytealg_IndexByteString.id : FuncId := 140
abbrev G_i_bytealg_hashStr_string_.id : FuncId := 141
abbrev G_bytes_growSlice_1.id : FuncId := 142
abbrev G_math_bits_Mul32.id : FuncId := 143
abbrev G_math_bits_Mul64.id : FuncId := 144
abbrev G_slices_Backward___int_int__1.id : FuncId := 145
abbrev G_inflate_Decoder_raw_1.id : FuncId := 146
abbrev G_inflate_Decoder_put.id : FuncId := 147
abbrev G_huffman_NewDecoder.id : FuncId := 148
abbrev G_inflate_Decoder_literal.id : FuncId := 149
abbrev G_inflate_Decoder_lengths.id : FuncId := 150
abbrev G_inflate_Decoder_third_1.id : FuncId := 151
abbrev G_ref36_Codes.id : FuncId := 152
abbrev G_ref36_Decoder_Step.id : FuncId := 153
abbrev G_ref36_used.id : FuncId := 154
abbrev G_slices_Clone___byte_byte_.id : FuncId := 155
abbrev G_inflate_Decoder_symbol.id : FuncId := 156
abbrev G_inflate_Decoder_literal_1.id : FuncId := 157
abbrev G_inflate_Decoder_literal_1_1.id : FuncId := 158
abbrev G_inflate_Decoder_literal_1_1_1.id : FuncId := 159
abbrev G_inflate_Decoder_literal_1_1_1_1.id : FuncId := 160
abbrev G_inflate_Decoder_copy.id : FuncId := 161
abbrev G_inflate_Decoder_lengths_1.id : FuncId := 162
abbrev G_inflate_Decoder_lengths_1_1.id : FuncId := 163
abbrev G_inflate_Decoder_lengths_2.id : FuncId := 164
variable [XR]
--@@ G_law38_awake
/-! ### 9: intrusion/intrusionlaw38.awake -/
--@@ G_gzip_New
/-! ### 10: intrusion/gzip.New -/
--@@ G_ref38_New
/-! ### 11: intrusion/intrusionref38.New -/
--@@ G_gzip_Decoder_Feed
/-! ### 12: (*intrusion/gzip.Decoder).Feed -/
noncomputable def G_gzip_Decoder_Feed.body : Code := (Tryz.f12.body).getD .skip
def G_gzip_Decoder_Feed.ann : Ann := (.seq 0 [0, 1] .leaf (.seq 0 [0, 1] (.one (.seq 0 [0, 1, 9] .leaf (.br (.seq 0 [4, 5] .leaf .leaf) (.seq 0 [0, 1, 12] .leaf (.br (.seq 0 [4, 5] .leaf .leaf) .leaf))))) (.seq 0 [0, 1, 6] .leaf (.seq 0 [6] (.one (.loop 1 [0, 1, 6] (.seq 0 [0, 1, 6] (.seq 0 [0, 1, 6, 18] .leaf (.br .leaf .leaf)) (.one (.seq 0 [0, 1, 6] .leaf (.seq 0 [0, 1, 6] .leaf (.seq 3 [0, 1, 6, 8] (.one (.seq 0 [0, 1, 6, 25] .leaf (.br .leaf (.seq 0 [0, 1, 6, 35] .leaf (.br (.seq 0 [0, 1, 6, 8] (.ord (.neu 0 (.neu 1 (.neu 2 (.neu 3 (.neu 4 (.eff 5 (.neu 6 .done) .stop))))))) (.seq 0 [0, 1, 6, 8] .leaf (.seq 2 [0, 1, 6, 8, 59] .leaf (.br .leaf .leaf)))) (.seq 0 [0, 1, 6, 62] .leaf (.br (.seq 0 [0, 1, 6, 7, 8] .leaf .leaf) (.seq 0 [0, 1, 6, 8] .leaf .leaf)))))))) (.seq 0 [0, 1, 6, 8, 78] .leaf (.br (.seq 0 [6, 8] .leaf (.seq 0 [4, 5] .leaf .leaf)) .leaf))))))))) (.seq 0 [4, 5] .leaf .leaf)))))
theorem G_gzip_Decoder_Feed.body_eq : Tryz.f12.body = some G_gzip_Decoder_Feed.body := by kernel_rfl
theorem G_gzip_Decoder_Feed.dist : noTwice (places G_gzip_Decoder_Feed.ann G_gzip_Decoder_Feed.body) = true := by kernel_rfl
noncomputable def G_gzip_Decoder_Feed.J (Q : AV → AHeap → Prop) : JT := funJ prog C Tryz.f12 G_gzip_Decoder_Feed.ann G_gzip_Decoder_Feed.body Q
theorem G_gzip_Decoder_Feed.goR {Q : AV → AHeap → Prop} {k : Nat} {p : List Nat} (hl : lookJ (places G_gzip_Decoder_Feed.ann G_gzip_Decoder_Feed.body) k = some (p, false)) {e : Env} {h : AHeap} (hk : atJ prog C 85 (G_gzip_Decoder_Feed.J Q) false p G_gzip_Decoder_Feed.ann G_gzip_Decoder_Feed.body e h (kFun prog Tryz.f12 Q)) : G_gzip_Decoder_Feed.J Q k e h := goJ_run (P := prog) (fn := Tryz.f12) (ann := G_gzip_Decoder_Feed.ann) (body := G_gzip_Decoder_Feed.body) (Q := Q) (k := k) (p := p) (e := e) (h := h) (acall_le X) G_gzip_Decoder_Feed.dist hl hk
theorem G_gzip_Decoder_Feed.goH {Q : AV → AHeap → Prop} {k : Nat} {p : List Nat} (hl : lookJ (places G_gzip_Decoder_Feed.ann G_gzip_Decoder_Feed.body) k = some (p, true)) {e : Env} {h : AHeap} (hk : atJ prog C 85 (G_gzip_Decoder_Feed.J Q) true p G_gzip_Decoder_Feed.ann G_gzip_Decoder_Feed.body e h (kFun prog Tryz.f12 Q)) : G_gzip_Decoder_Feed.J Q k e h := goJ_head (P := prog) (fn := Tryz.f12) (ann := G_gzip_Decoder_Feed.ann) (body := G_gzip_Decoder_Feed.body) (Q := Q) (k := k) (p := p) (e := e) (h := h) (acall_le X) G_gzip_Decoder_Feed.dist hl hk
def G_gzip_Decoder_Feed.p1 (Q : AV → AHeap → Prop) (x0 : AV) (x1 : List UInt8) (x6 : AV) (x8 : Int) (x59 : Bool) (h : AHeap) : Prop := G_gzip_Decoder_Feed.J Q 2 [(0, x0), (1, (AV.s x1)), (6, x6), (8, (AV.i .i64 x8)), (59, (AV.b x59))] h
theorem G_gzip_Decoder_Feed.j1 (Q : AV → AHeap → Prop) (x0 : AV) (x1 : List UInt8) (x6 : AV) (x8 : Int) (x59 : Bool) (h : AHeap) : G_gzip_Decoder_Feed.J Q 2 [(0, x0), (1, (AV.s x1)), (6, x6), (8, (AV.i .i64 x8)), (59, (AV.b x59))] h = G_gzip_Decoder_Feed.p1 Q x0 x1 x6 x8 x59 h := rfl
def G_gzip_Decoder_Feed.p2 (Q : AV → AHeap → Prop) (x0 : AV) (x1 : List UInt8) (x6 : AV) (x8 : Int) (h : AHeap) : Prop := G_gzip_Decoder_Feed.J Q 3 [(0, x0), (1, (AV.s x1)), (6, x6), (8, (AV.i .i64 x8))] h
theorem G_gzip_Decoder_Feed.j2 (Q : AV → AHeap → Prop) (x0 : AV) (x1 : List UInt8) (x6 : AV) (x8 : Int) (h : AHeap) : G_gzip_Decoder_Feed.J Q 3 [(0, x0), (1, (AV.s x1)), (6, x6), (8, (AV.i .i64 x8))] h = G_gzip_Decoder_Feed.p2 Q x0 x1 x6 x8 h := rfl
def G_gzip_Decoder_Feed.p0 (Q : AV → AHeap → Prop) (x0 : AV) (x1 : List UInt8) (x6 : AV) (h : AHeap) : Prop := G_gzip_Decoder_Feed.J Q 1 [(0, x0), (1, (AV.s x1)), (6, x6)] h
theorem G_gzip_Decoder_Feed.j0 (Q : AV → AHeap → Prop) (x0 : AV) (x1 : List UInt8) (x6 : AV) (h : AHeap) : G_gzip_Decoder_Feed.J Q 1 [(0, x0), (1, (AV.s x1)), (6, x6)] h = G_gzip_Decoder_Feed.p0 Q x0 x1 x6 h := rfl
def G_gzip_Decoder_Feed.t1 (J : JT) (Q : AV → AHeap → Prop) (x0 : AV) (x1 : List UInt8) (x6 : AV) (x8 : Int) (x59 : Bool) (h : AHeap) : Prop :=
(bif x59 then
(C G_gzip_Decoder_open.id [x0] h fun v52 h53 =>
J 3 [(0, x0), (1, (AV.s x1)), (6, x6), (8, (AV.i .i64 x8))] h53)
else
(J 3 [(0, x0), (1, (AV.s x1)), (6, x6), (8, (AV.i .i64 x8))] h))
theorem G_gzip_Decoder_Feed.t1_eq (J : JT) (Q : AV → AHeap → Prop) (x0 : AV) (x1 : List UInt8) (x6 : AV) (x8 : Int) (x59 : Bool) (h : AHeap) : G_gzip_Decoder_Feed.t1 J Q x0 x1 x6 x8 x59 h = atJ prog C 85 J false [1, 1, 1, 0, 0, 0, 1, 0, 1, 1, 0, 0, 1, 1, 1, 0, 1, 1, 1] G_gzip_Decoder_Feed.ann G_gzip_Decoder_Feed.body [(0, x0), (1, (AV.s x1)), (6, x6), (8, (AV.i .i64 x8)), (59, (AV.b x59))] h (kFun prog Tryz.f12 Q) := by kernel_rfl
theorem G_gzip_Decoder_Feed.i1 {Q : AV → AHeap → Prop} {x0 : AV} {x1 : List UInt8} {x6 : AV} {x8 : Int} {x59 : Bool} {h : AHeap} (H : G_gzip_Decoder_Feed.t1 (G_gzip_Decoder_Feed.J Q) Q x0 x1 x6 x8 x59 h) : G_gzip_Decoder_Feed.p1 Q x0 x1 x6 x8 x59 h := G_gzip_Decoder_Feed.goR (k := 2) (p := [1, 1, 1, 0, 0, 0, 1, 0, 1, 1, 0, 0, 1, 1, 1, 0, 1, 1, 1]) (by kernel_rfl) ((G_gzip_Decoder_Feed.t1_eq (G_gzip_Decoder_Feed.J Q) Q x0 x1 x6 x8 x59 h).mp H)
def G_gzip_Decoder_Feed.t2 (J : JT) (Q : AV → AHeap → Prop) (x0 : AV) (x1 : List UInt8) (x6 : AV) (x8 : Int) (h : AHeap) : Prop :=
(bif (!decide ((x8 : Int) = 0)) then
(pNil x0 fun v82 =>
pFieldAddr 14 v82 fun v83 =>
pStore 1 v83 (AV.b true) h fun h84 =>
C G_strings_Builder_String.id [x6] h84 fun v86 h87 =>
asS v86 fun l88 =>
Q (AV.tu [(AV.s l88), (AV.i .i64 x8)]) h87)
else
(J 1 [(0, x0), (1, (AV.s x1)), (6, x6)] h))
theorem G_gzip_Decoder_Feed.t2_eq (J : JT) (Q : AV → AHeap → Prop) (x0 : AV) (x1 : List UInt8) (x6 : AV) (x8 : Int) (h : AHeap) : G_gzip_Decoder_Feed.t2 J Q x0 x1 x6 x8 h = atJ prog C 85 J false [1, 1, 1, 0, 0, 0, 1, 0, 1, 1, 1] G_gzip_Decoder_Feed.ann G_gzip_Decoder_Feed.body [(0, x0), (1, (AV.s x1)), (6, x6), (8, (AV.i .i64 x8))] h (kFun prog Tryz.f12 Q) := by kernel_rfl
theorem G_gzip_Decoder_Feed.i2 {Q : AV → AHeap → Prop} {x0 : AV} {x1 : List UInt8} {x6 : AV} {x8 : Int} {h : AHeap} (H : G_gzip_Decoder_Feed.t2 (G_gzip_Decoder_Feed.J Q) Q x0 x1 x6 x8 h) : G_gzip_Decoder_Feed.p2 Q x0 x1 x6 x8 h := G_gzip_Decoder_Feed.goR (k := 3) (p := [1, 1, 1, 0, 0, 0, 1, 0, 1, 1, 1]) (by kernel_rfl) ((G_gzip_Decoder_Feed.t2_eq (G_gzip_Decoder_Feed.J Q) Q x0 x1 x6 x8 h).mp H)
def G_gzip_Decoder_Feed.t0 (J : JT) (Q : AV → AHeap → Prop) (x0 : AV) (x1 : List UInt8) (x6 : AV) (h : AHeap) : Prop :=
(bif (!(decide ((x1 : List UInt8) = []))) then
(pNil x0 fun v20 =>
pFieldAddr 13 v20 fun v21 =>
pLoad1 v21 h fun v22 =>
asB v22 fun c23 =>
(bif (!c23) then
(pIdxStr (AV.s x1) (AV.i .i64 0) fun n25 =>
C G_gzip_Decoder_begin.id [x0, (AV.i .u8 n25)] h fun v26 h27 =>
asI .i64 v26 fun n28 =>
J 3 [(0, x0), (1, (AV.s x1)), (6, x6), (8, (AV.i .i64 n28))] h27)
else
(pNil x0 fun v30 =>
pFieldAddr 0 v30 fun v31 =>
pFieldAddr 0 v31 fun v32 =>
pLoad1 v32 h fun v33 =>
asI .i64 v33 fun n34 =>
(bif (decide ((n34 : Int) < 8)) then
(pNil x0 fun v36 =>
pFieldAddr 0 v36 fun v37 =>
pIdxStr (AV.s x1) (AV.i .i64 0) fun n38 =>
C G_gzip_header_take.id [v37, (AV.i .u8 n38)] h fun v39 h40 =>
asI .i64 v39 fun n41 =>
pSliceStr (AV.s x1) (some (AV.i .i64 1)) none fun l43 =>
(bif (decide ((n41 : Int) = 0)) then
(pNil x0 fun v45 =>
pFieldAddr 0 v45 fun v46 =>
pFieldAddr 0 v46 fun v47 =>
pLoad1 v47 h40 fun v48 =>
asI .i64 v48 fun n49 =>
J 2 [(0, x0), (1, (AV.s l43)), (6, x6), (8, (AV.i .i64 n41)), (59, (AV.b (decide ((n49 : Int) = 8))))] h40)
else
(J 2 [(0, x0), (1, (AV.s l43)), (6, x6), (8, (AV.i .i64 n41)), (59, (AV.b false))] h40)))
else
(pNil x0 fun v56 =>
pFieldAddr 9 v56 fun v57 =>
pLoad1 v57 h fun v58 =>
pBin prog .neq 55 v58 (AV.p none) fun v59 =>
asB v59 fun c60 =>
(bif c60 then
(C G_gzip_Decoder_inflate.id [x0, (AV.s x1)] h fun v62 h63 =>
pExtract 0 v62 fun v64 =>
asS v64 fun l65 =>
pExtract 1 v62 fun v66 =>
asS v66 fun l67 =>
pExtract 2 v62 fun v68 =>
asI .i64 v68 fun n69 =>
C G_strings_Builder_WriteString.id [x6, (AV.s l65)] h63 fun v71 h72 =>
J 3 [(0, x0), (1, (AV.s l67)), (6, x6), (8, (AV.i .i64 n69))] h72)
else
(pIdxStr (AV.s x1) (AV.i .i64 0) fun n74 =>
C G_gzip_Decoder_end.id [x0, (AV.i .u8 n74)] h fun v75 h76 =>
asI .i64 v75 fun n77 =>
pSliceStr (AV.s x1) (some (AV.i .i64 1)) none fun l79 =>
J 3 [(0, x0), (1, (AV.s l79)), (6, x6), (8, (AV.i .i64 n77))] h76)))))))
else
(C G_strings_Builder_String.id [x6] h fun v91 h92 =>
asS v91 fun l93 =>
Q (AV.tu [(AV.s l93), (AV.i .i64 0)]) h92))
theorem G_gzip_Decoder_Feed.t0_eq (J : JT) (Q : AV → AHeap → Prop) (x0 : AV) (x1 : List UInt8) (x6 : AV) (h : AHeap) : G_gzip_Decoder_Feed.t0 J Q x0 x1 x6 h = atJ prog C 85 J true [1, 1, 1, 0, 0] G_gzip_Decoder_Feed.ann G_gzip_Decoder_Feed.body [(0, x0), (1, (AV.s x1)), (6, x6)] h (kFun prog Tryz.f12 Q) := by kernel_rfl
theorem G_gzip_Decoder_Feed.i0 {Q : AV → AHeap → Prop} {x0 : AV} {x1 : List UInt8} {x6 : AV} {h : AHeap} (H : G_gzip_Decoder_Feed.t0 (G_gzip_Decoder_Feed.J Q) Q x0 x1 x6 h) : G_gzip_Decoder_Feed.p0 Q x0 x1 x6 h := G_gzip_Decoder_Feed.goH (k := 1) (p := [1, 1, 1, 0, 0]) (by kernel_rfl) ((G_gzip_Decoder_Feed.t0_eq (G_gzip_Decoder_Feed.J Q) Q x0 x1 x6 h).mp H)
def G_gzip_Decoder_Feed.t (J : JT) (Q : AV → AHeap → Prop) (x0 : AV) (x1 : List UInt8) (h : AHeap) : Prop :=
pBin prog .eql 26 x0 (AV.p none) fun v1 =>
asB v1 fun c2 =>
(bif c2 then
(Q (AV.tu [(AV.s []), (AV.i .i64 6)]) h)
else
(pNil x0 fun v5 =>
pFieldAddr 14 v5 fun v6 =>
pLoad1 v6 h fun v7 =>
asB v7 fun c8 =>
(bif c8 then
(Q (AV.tu [(AV.s []), (AV.i .i64 10)]) h)
else
(pAlloc (some 67) [(AV.p none), (AV.sl none 0 none)] h fun v12 h13 =>
J 1 [(0, x0), (1, (AV.s x1)), (6, v12)] h13))))
theorem G_gzip_Decoder_Feed.t_eq (J : JT) (Q : AV → AHeap → Prop) (x0 : AV) (x1 : List UInt8) (h : AHeap) : G_gzip_Decoder_Feed.t J Q x0 x1 h = exJ prog C 85 J G_gzip_Decoder_Feed.ann G_gzip_Decoder_Feed.body (initEnv 0 [x0, (AV.s x1)]) h (kFun prog Tryz.f12 Q) := by kernel_rfl
theorem G_gzip_Decoder_Feed.call {K : AV → AHeap → Prop} {x0 : AV} {x1 : List UInt8} {h : AHeap} (H : G_gzip_Decoder_Feed.t (G_gzip_Decoder_Feed.J (kRet h K)) (kRet h K) x0 x1 h) : C G_gzip_Decoder_Feed.id [x0, (AV.s x1)] h K :=
  callJ (P := prog) (fn := Tryz.f12) (ann := G_gzip_Decoder_Feed.ann) (body := G_gzip_Decoder_Feed.body) Tryz.func12 G_gzip_Decoder_Feed.body_eq (by kernel_rfl) G_gzip_Decoder_Feed.dist (by kernel_rfl) ((G_gzip_Decoder_Feed.t_eq (G_gzip_Decoder_Feed.J (kRet h K)) (kRet h K) x0 x1 h).mp H)

--@@ G_ref38_Decoder_Feed
/-! ### 13: (*intrusion/intrusionref38.Decoder).Feed -/
--@@ G_gzip_Decoder_Close
/-! ### 14: (*intrusion/gzip.Decoder).Close -/
noncomputable def G_gzip_Decoder_Close.body : Code := (Tryz.f14.body).getD .skip
def G_gzip_Decoder_Close.ann : Ann := (.seq 0 [0] .leaf (.seq 0 [] (.one (.seq 0 [0, 3] .leaf (.br (.seq 0 [2] .leaf .leaf) (.seq 0 [0, 6] .leaf (.br (.seq 0 [2] .leaf .leaf) (.seq 1 [11] .leaf (.br (.seq 0 [2] .leaf .leaf) .leaf))))))) (.seq 0 [2] .leaf .leaf)))
theorem G_gzip_Decoder_Close.body_eq : Tryz.f14.body = some G_gzip_Decoder_Close.body := by kernel_rfl
theorem G_gzip_Decoder_Close.dist : noTwice (places G_gzip_Decoder_Close.ann G_gzip_Decoder_Close.body) = true := by kernel_rfl
noncomputable def G_gzip_Decoder_Close.J (Q : AV → AHeap → Prop) : JT := funJ prog C Tryz.f14 G_gzip_Decoder_Close.ann G_gzip_Decoder_Close.body Q
theorem G_gzip_Decoder_Close.goR {Q : AV → AHeap → Prop} {k : Nat} {p : List Nat} (hl : lookJ (places G_gzip_Decoder_Close.ann G_gzip_Decoder_Close.body) k = some (p, false)) {e : Env} {h : AHeap} (hk : atJ prog C 24 (G_gzip_Decoder_Close.J Q) false p G_gzip_Decoder_Close.ann G_gzip_Decoder_Close.body e h (kFun prog Tryz.f14 Q)) : G_gzip_Decoder_Close.J Q k e h := goJ_run (P := prog) (fn := Tryz.f14) (ann := G_gzip_Decoder_Close.ann) (body := G_gzip_Decoder_Close.body) (Q := Q) (k := k) (p := p) (e := e) (h := h) (acall_le X) G_gzip_Decoder_Close.dist hl hk
theorem G_gzip_Decoder_Close.goH {Q : AV → AHeap → Prop} {k : Nat} {p : List Nat} (hl : lookJ (places G_gzip_Decoder_Close.ann G_gzip_Decoder_Close.body) k = some (p, true)) {e : Env} {h : AHeap} (hk : atJ prog C 24 (G_gzip_Decoder_Close.J Q) true p G_gzip_Decoder_Close.ann G_gzip_Decoder_Close.body e h (kFun prog Tryz.f14 Q)) : G_gzip_Decoder_Close.J Q k e h := goJ_head (P := prog) (fn := Tryz.f14) (ann := G_gzip_Decoder_Close.ann) (body := G_gzip_Decoder_Close.body) (Q := Q) (k := k) (p := p) (e := e) (h := h) (acall_le X) G_gzip_Decoder_Close.dist hl hk
def G_gzip_Decoder_Close.p0 (Q : AV → AHeap → Prop) (x11 : Bool) (h : AHeap) : Prop := G_gzip_Decoder_Close.J Q 1 [(11, (AV.b x11))] h
theorem G_gzip_Decoder_Close.j0 (Q : AV → AHeap → Prop) (x11 : Bool) (h : AHeap) : G_gzip_Decoder_Close.J Q 1 [(11, (AV.b x11))] h = G_gzip_Decoder_Close.p0 Q x11 h := rfl
def G_gzip_Decoder_Close.t0 (J : JT) (Q : AV → AHeap → Prop) (x11 : Bool) (h : AHeap) : Prop :=
(bif x11 then
(Q (AV.i .i64 1) h)
else
(Q (AV.i .i64 0) h))
theorem G_gzip_Decoder_Close.t0_eq (J : JT) (Q : AV → AHeap → Prop) (x11 : Bool) (h : AHeap) : G_gzip_Decoder_Close.t0 J Q x11 h = atJ prog C 24 J false [1, 0, 0, 1, 1, 1, 1, 1] G_gzip_Decoder_Close.ann G_gzip_Decoder_Close.body [(11, (AV.b x11))] h (kFun prog Tryz.f14 Q) := by kernel_rfl
theorem G_gzip_Decoder_Close.i0 {Q : AV → AHeap → Prop} {x11 : Bool} {h : AHeap} (H : G_gzip_Decoder_Close.t0 (G_gzip_Decoder_Close.J Q) Q x11 h) : G_gzip_Decoder_Close.p0 Q x11 h := G_gzip_Decoder_Close.goR (k := 1) (p := [1, 0, 0, 1, 1, 1, 1, 1]) (by kernel_rfl) ((G_gzip_Decoder_Close.t0_eq (G_gzip_Decoder_Close.J Q) Q x11 h).mp H)
def G_gzip_Decoder_Close.t (J : JT) (Q : AV → AHeap → Prop) (x0 : AV) (h : AHeap) : Prop :=
pBin prog .eql 26 x0 (AV.p none) fun v1 =>
asB v1 fun c2 =>
(bif c2 then
(Q (AV.i .i64 6) h)
else
(pNil x0 fun v5 =>
pFieldAddr 14 v5 fun v6 =>
pLoad1 v6 h fun v7 =>
asB v7 fun c8 =>
(bif c8 then
(Q (AV.i .i64 10) h)
else
(pNil x0 fun v11 =>
pFieldAddr 13 v11 fun v12 =>
pLoad1 v12 h fun v13 =>
asB v13 fun c14 =>
(bif c14 then
(J 1 [(11, (AV.b true))] h)
else
(pNil x0 fun v16 =>
pFieldAddr 15 v16 fun v17 =>
pLoad1 v17 h fun v18 =>
pLenSl v18 fun n19 =>
J 1 [(11, (AV.b (decide ((n19 : Int) = 0))))] h))))))
theorem G_gzip_Decoder_Close.t_eq (J : JT) (Q : AV → AHeap → Prop) (x0 : AV) (h : AHeap) : G_gzip_Decoder_Close.t J Q x0 h = exJ prog C 24 J G_gzip_Decoder_Close.ann G_gzip_Decoder_Close.body (initEnv 0 [x0]) h (kFun prog Tryz.f14 Q) := by kernel_rfl
theorem G_gzip_Decoder_Close.call {K : AV → AHeap → Prop} {x0 : AV} {h : AHeap} (H : G_gzip_Decoder_Close.t (G_gzip_Decoder_Close.J (kRet h K)) (kRet h K) x0 h) : C G_gzip_Decoder_Close.id [x0] h K :=
  callJ (P := prog) (fn := Tryz.f14) (ann := G_gzip_Decoder_Close.ann) (body := G_gzip_Decoder_Close.body) Tryz.func14 G_gzip_Decoder_Close.body_eq (by kernel_rfl) G_gzip_Decoder_Close.dist (by kernel_rfl) ((G_gzip_Decoder_Close.t_eq (G_gzip_Decoder_Close.J (kRet h K)) (kRet h K) x0 h).mp H)

--@@ G_ref38_Decoder_Close
/-! ### 15: (*intrusion/intrusionref38.Decoder).Close -/
--@@ G_gzip_All
/-! ### 16: intrusion/gzip.All -/
--@@ G_ref38_All
/-! ### 17: intrusion/intrusionref38.All -/
--@@ G_law38_same
/-! ### 18: intrusion/intrusionlaw38.same -/
--@@ G_gzip_Encode
/-! ### 19: intrusion/gzip.Encode -/
--@@ G_law38_wide
/-! ### 20: intrusion/intrusionlaw38.wide -/
--@@ G_inflate_All
/-! ### 21: intrusion/inflate.All -/
--@@ G_checksum_Crc
/-! ### 22: intrusion/checksum.Crc -/
--@@ G_gzip_Decoder_begin
/-! ### 23: (*intrusion/gzip.Decoder).begin -/
--@@ G_gzip_header_take
/-! ### 24: (*intrusion/gzip.header).take -/
--@@ G_gzip_Decoder_open
/-! ### 25: (*intrusion/gzip.Decoder).open -/
--@@ G_gzip_Decoder_inflate
/-! ### 26: (*intrusion/gzip.Decoder).inflate -/
--@@ G_strings_Builder_WriteString
/-! ### 27: (*strings.Builder).WriteString -/
--@@ G_gzip_Decoder_end
/-! ### 28: (*intrusion/gzip.Decoder).end -/
--@@ G_strings_Builder_String
/-! ### 29: (*strings.Builder).String -/
--@@ G_ref38_Decoder_take
/-! ### 30: (*intrusion/intrusionref38.Decoder).take -/
--@@ G_strings_Contains
/-! ### 31: strings.Contains -/
--@@ G_inflate_Stored
/-! ### 32: intrusion/inflate.Stored -/
--@@ G_inflate_Fixed
/-! ### 33: intrusion/inflate.Fixed -/
--@@ G_inflate_Dynamic
/-! ### 34: intrusion/inflate.Dynamic -/
--@@ G_field_PutLittle
/-! ### 35: intrusion/field.PutLittle -/
--@@ G_inflate_New
/-! ### 36: intrusion/inflate.New -/
--@@ G_inflate_Decoder_Feed
/-! ### 37: (*intrusion/inflate.Decoder).Feed -/
--@@ G_checksum_CrcUpdate
/-! ### 38: intrusion/checksum.CrcUpdate -/
noncomputable def G_checksum_CrcUpdate.body : Code := (Tryz.f38.body).getD .skip
def G_checksum_CrcUpdate.ann : Ann := (.seq 0 [0, 1] .leaf (.seq 0 [0, 1, 5] .leaf (.seq 0 [1, 5, 6] .leaf (.seq 0 [6] (.seq 0 [1, 5, 6, 12, 13] .leaf (.one (.loop 1 [1, 5, 6, 12, 13] (.seq 0 [1, 5, 6, 12, 13, 14] .leaf (.seq 0 [1, 5, 6, 12, 13] (.br .leaf .leaf) (.seq 0 [1, 5, 6, 12, 13] (.one (.seq 0 [1, 5, 6, 7, 12, 13] .leaf .leaf)) .leaf)))))) (.seq 0 [4] .leaf .leaf)))))
theorem G_checksum_CrcUpdate.body_eq : Tryz.f38.body = some G_checksum_CrcUpdate.body := by kernel_rfl
theorem G_checksum_CrcUpdate.dist : noTwice (places G_checksum_CrcUpdate.ann G_checksum_CrcUpdate.body) = true := by kernel_rfl
noncomputable def G_checksum_CrcUpdate.J (Q : AV → AHeap → Prop) : JT := funJ prog C Tryz.f38 G_checksum_CrcUpdate.ann G_checksum_CrcUpdate.body Q
theorem G_checksum_CrcUpdate.goR {Q : AV → AHeap → Prop} {k : Nat} {p : List Nat} (hl : lookJ (places G_checksum_CrcUpdate.ann G_checksum_CrcUpdate.body) k = some (p, false)) {e : Env} {h : AHeap} (hk : atJ prog C 30 (G_checksum_CrcUpdate.J Q) false p G_checksum_CrcUpdate.ann G_checksum_CrcUpdate.body e h (kFun prog Tryz.f38 Q)) : G_checksum_CrcUpdate.J Q k e h := goJ_run (P := prog) (fn := Tryz.f38) (ann := G_checksum_CrcUpdate.ann) (body := G_checksum_CrcUpdate.body) (Q := Q) (k := k) (p := p) (e := e) (h := h) (acall_le X) G_checksum_CrcUpdate.dist hl hk
theorem G_checksum_CrcUpdate.goH {Q : AV → AHeap → Prop} {k : Nat} {p : List Nat} (hl : lookJ (places G_checksum_CrcUpdate.ann G_checksum_CrcUpdate.body) k = some (p, true)) {e : Env} {h : AHeap} (hk : atJ prog C 30 (G_checksum_CrcUpdate.J Q) true p G_checksum_CrcUpdate.ann G_checksum_CrcUpdate.body e h (kFun prog Tryz.f38 Q)) : G_checksum_CrcUpdate.J Q k e h := goJ_head (P := prog) (fn := Tryz.f38) (ann := G_checksum_CrcUpdate.ann) (body := G_checksum_CrcUpdate.body) (Q := Q) (k := k) (p := p) (e := e) (h := h) (acall_le X) G_checksum_CrcUpdate.dist hl hk
def G_checksum_CrcUpdate.p0 (Q : AV → AHeap → Prop) (x1 : List UInt8) (x5 : AV) (x6 : Int) (x12 : Int) (x13 : Int) (h : AHeap) : Prop := G_checksum_CrcUpdate.J Q 1 [(1, (AV.s x1)), (5, x5), (6, (AV.i .u32 x6)), (12, (AV.i .i64 x12)), (13, (AV.i .i64 x13))] h
theorem G_checksum_CrcUpdate.j0 (Q : AV → AHeap → Prop) (x1 : List UInt8) (x5 : AV) (x6 : Int) (x12 : Int) (x13 : Int) (h : AHeap) : G_checksum_CrcUpdate.J Q 1 [(1, (AV.s x1)), (5, x5), (6, (AV.i .u32 x6)), (12, (AV.i .i64 x12)), (13, (AV.i .i64 x13))] h = G_checksum_CrcUpdate.p0 Q x1 x5 x6 x12 x13 h := rfl
def G_checksum_CrcUpdate.t0 (J : JT) (Q : AV → AHeap → Prop) (x1 : List UInt8) (x5 : AV) (x6 : Int) (x12 : Int) (x13 : Int) (h : AHeap) : Prop :=
(bif (decide ((x13 : Int) < x12)) then
(pShr .u32 x6 8 fun n14 =>
pIdxStr (AV.s x1) (AV.i .i64 x13) fun n15 =>
withI (bitsOp .xor .u8 (IntKind.wrap .u8 x6) n15) fun n16 =>
pIdxAddrArr 256 1 x5 (AV.i .u8 n16) fun v17 =>
pLoad1 v17 h fun v18 =>
asI .u32 v18 fun n19 =>
withI (bitsOp .xor .u32 n14 n19) fun n20 =>
withI (IntKind.wrap .i64 (x13 + 1)) fun n22 =>
J 1 [(1, (AV.s x1)), (5, x5), (6, (AV.i .u32 n20)), (12, (AV.i .i64 x12)), (13, (AV.i .i64 n22))] h)
else
(withI (bitsOp .xor .u32 (IntKind.max .u32) x6) fun n24 =>
Q (AV.i .u32 n24) h))
theorem G_checksum_CrcUpdate.t0_eq (J : JT) (Q : AV → AHeap → Prop) (x1 : List UInt8) (x5 : AV) (x6 : Int) (x12 : Int) (x13 : Int) (h : AHeap) : G_checksum_CrcUpdate.t0 J Q x1 x5 x6 x12 x13 h = atJ prog C 30 J true [1, 1, 1, 0, 1, 0] G_checksum_CrcUpdate.ann G_checksum_CrcUpdate.body [(1, (AV.s x1)), (5, x5), (6, (AV.i .u32 x6)), (12, (AV.i .i64 x12)), (13, (AV.i .i64 x13))] h (kFun prog Tryz.f38 Q) := by kernel_rfl
theorem G_checksum_CrcUpdate.i0 {Q : AV → AHeap → Prop} {x1 : List UInt8} {x5 : AV} {x6 : Int} {x12 : Int} {x13 : Int} {h : AHeap} (H : G_checksum_CrcUpdate.t0 (G_checksum_CrcUpdate.J Q) Q x1 x5 x6 x12 x13 h) : G_checksum_CrcUpdate.p0 Q x1 x5 x6 x12 x13 h := G_checksum_CrcUpdate.goH (k := 1) (p := [1, 1, 1, 0, 1, 0]) (by kernel_rfl) ((G_checksum_CrcUpdate.t0_eq (G_checksum_CrcUpdate.J Q) Q x1 x5 x6 x12 x13 h).mp H)
def G_checksum_CrcUpdate.t (J : JT) (Q : AV → AHeap → Prop) (x0 : Int) (x1 : List UInt8) (h : AHeap) : Prop :=
C G_checksum_table.id [] h fun v1 h2 =>
pAlloc none [(AV.i .u32 0), (AV.i .u32 0), (AV.i .u32 0), (AV.i .u32 0), (AV.i .u32 0), (AV.i .u32 0), (AV.i .u32 0), (AV.i .u32 0), (AV.i .u32 0), (AV.i .u32 0), (AV.i .u32 0), (AV.i .u32 0), (AV.i .u32 0), (AV.i .u32 0), (AV.i .u32 0), (AV.i .u32 0), (AV.i .u32 0), (AV.i .u32 0), (AV.i .u32 0), (AV.i .u32 0), (AV.i .u32 0), (AV.i .u32 0), (AV.i .u32 0), (AV.i .u32 0), (AV.i .u32 0), (AV.i .u32 0), (AV.i .u32 0), (AV.i .u32 0), (AV.i .u32 0), (AV.i .u32 0), (AV.i .u32 0), (AV.i .u32 0), (AV.i .u32 0), (AV.i .u32 0), (AV.i .u32 0), (AV.i .u32 0), (AV.i .u32 0), (AV.i .u32 0), (AV.i .u32 0), (AV.i .u32 0), (AV.i .u32 0), (AV.i .u32 0), (AV.i .u32 0), (AV.i .u32 0), (AV.i .u32 0), (AV.i .u32 0), (AV.i .u32 0), (AV.i .u32 0), (AV.i .u32 0), (AV.i .u32 0), (AV.i .u32 0), (AV.i .u32 0), (AV.i .u32 0), (AV.i .u32 0), (AV.i .u32 0), (AV.i .u32 0), (AV.i .u32 0), (AV.i .u32 0), (AV.i .u32 0), (AV.i .u32 0), (AV.i .u32 0), (AV.i .u32 0), (AV.i .u32 0), (AV.i .u32 0), (AV.i .u32 0), (AV.i .u32 0), (AV.i .u32 0), (AV.i .u32 0), (AV.i .u32 0), (AV.i .u32 0), (AV.i .u32 0), (AV.i .u32 0), (AV.i .u32 0), (AV.i .u32 0), (AV.i .u32 0), (AV.i .u32 0), (AV.i .u32 0), (AV.i .u32 0), (AV.i .u32 0), (AV.i .u32 0), (AV.i .u32 0), (AV.i .u32 0), (AV.i .u32 0), (AV.i .u32 0), (AV.i .u32 0), (AV.i .u32 0), (AV.i .u32 0), (AV.i .u32 0), (AV.i .u32 0), (AV.i .u32 0), (AV.i .u32 0), (AV.i .u32 0), (AV.i .u32 0), (AV.i .u32 0), (AV.i .u32 0), (AV.i .u32 0), (AV.i .u32 0), (AV.i .u32 0), (AV.i .u32 0), (AV.i .u32 0), (AV.i .u32 0), (AV.i .u32 0), (AV.i .u32 0), (AV.i .u32 0), (AV.i .u32 0), (AV.i .u32 0), (AV.i .u32 0), (AV.i .u32 0), (AV.i .u32 0), (AV.i .u32 0), (AV.i .u32 0), (AV.i .u32 0), (AV.i .u32 0), (AV.i .u32 0), (AV.i .u32 0), (AV.i .u32 0), (AV.i .u32 0), (AV.i .u32 0), (AV.i .u32 0), (AV.i .u32 0), (AV.i .u32 0), (AV.i .u32 0), (AV.i .u32 0), (AV.i .u32 0), (AV.i .u32 0), (AV.i .u32 0), (AV.i .u32 0), (AV.i .u32 0), (AV.i .u32 0), (AV.i .u32 0), (AV.i .u32 0), (AV.i .u32 0), (AV.i .u32 0), (AV.i .u32 0), (AV.i .u32 0), (AV.i .u32 0), (AV.i .u32 0), (AV.i .u32 0), (AV.i .u32 0), (AV.i .u32 0), (AV.i .u32 0), (AV.i .u32 0), (AV.i .u32 0), (AV.i .u32 0), (AV.i .u32 0), (AV.i .u32 0), (AV.i .u32 0), (AV.i .u32 0), (AV.i .u32 0), (AV.i .u32 0), (AV.i .u32 0), (AV.i .u32 0), (AV.i .u32 0), (AV.i .u32 0), (AV.i .u32 0), (AV.i .u32 0), (AV.i .u32 0), (AV.i .u32 0), (AV.i .u32 0), (AV.i .u32 0), (AV.i .u32 0), (AV.i .u32 0), (AV.i .u32 0), (AV.i .u32 0), (AV.i .u32 0), (AV.i .u32 0), (AV.i .u32 0), (AV.i .u32 0), (AV.i .u32 0), (AV.i .u32 0), (AV.i .u32 0), (AV.i .u32 0), (AV.i .u32 0), (AV.i .u32 0), (AV.i .u32 0), (AV.i .u32 0), (AV.i .u32 0), (AV.i .u32 0), (AV.i .u32 0), (AV.i .u32 0), (AV.i .u32 0), (AV.i .u32 0), (AV.i .u32 0), (AV.i .u32 0), (AV.i .u32 0), (AV.i .u32 0), (AV.i .u32 0), (AV.i .u32 0), (AV.i .u32 0), (AV.i .u32 0), (AV.i .u32 0), (AV.i .u32 0), (AV.i .u32 0), (AV.i .u32 0), (AV.i .u32 0), (AV.i .u32 0), (AV.i .u32 0), (AV.i .u32 0), (AV.i .u32 0), (AV.i .u32 0), (AV.i .u32 0), (AV.i .u32 0), (AV.i .u32 0), (AV.i .u32 0), (AV.i .u32 0), (AV.i .u32 0), (AV.i .u32 0), (AV.i .u32 0), (AV.i .u32 0), (AV.i .u32 0), (AV.i .u32 0), (AV.i .u32 0), (AV.i .u32 0), (AV.i .u32 0), (AV.i .u32 0), (AV.i .u32 0), (AV.i .u32 0), (AV.i .u32 0), (AV.i .u32 0), (AV.i .u32 0), (AV.i .u32 0), (AV.i .u32 0), (AV.i .u32 0), (AV.i .u32 0), (AV.i .u32 0), (AV.i .u32 0), (AV.i .u32 0), (AV.i .u32 0), (AV.i .u32 0), (AV.i .u32 0), (AV.i .u32 0), (AV.i .u32 0), (AV.i .u32 0), (AV.i .u32 0), (AV.i .u32 0), (AV.i .u32 0), (AV.i .u32 0), (AV.i .u32 0), (AV.i .u32 0), (AV.i .u32 0), (AV.i .u32 0), (AV.i .u32 0), (AV.i .u32 0), (AV.i .u32 0), (AV.i .u32 0), (AV.i .u32 0), (AV.i .u32 0), (AV.i .u32 0), (AV.i .u32 0), (AV.i .u32 0), (AV.i .u32 0), (AV.i .u32 0), (AV.i .u32 0), (AV.i .u32 0), (AV.i .u32 0), (AV.i .u32 0)] h2 fun v3 h4 =>
pStore 256 v3 v1 h4 fun h5 =>
withI (bitsOp .xor .u32 (IntKind.max .u32) x0) fun n7 =>
J 1 [(1, (AV.s x1)), (5, v3), (6, (AV.i .u32 n7)), (12, (AV.i .i64 (x1.length : Int))), (13, (AV.i .i64 0))] h5
theorem G_checksum_CrcUpdate.t_eq (J : JT) (Q : AV → AHeap → Prop) (x0 : Int) (x1 : List UInt8) (h : AHeap) : G_checksum_CrcUpdate.t J Q x0 x1 h = exJ prog C 30 J G_checksum_CrcUpdate.ann G_checksum_CrcUpdate.body (initEnv 0 [(AV.i .u32 x0), (AV.s x1)]) h (kFun prog Tryz.f38 Q) := by kernel_rfl
theorem G_checksum_CrcUpdate.call {K : AV → AHeap → Prop} {x0 : Int} {x1 : List UInt8} {h : AHeap} (H : G_checksum_CrcUpdate.t (G_checksum_CrcUpdate.J (kRet h K)) (kRet h K) x0 x1 h) : C G_checksum_CrcUpdate.id [(AV.i .u32 x0), (AV.s x1)] h K :=
  callJ (P := prog) (fn := Tryz.f38) (ann := G_checksum_CrcUpdate.ann) (body := G_checksum_CrcUpdate.body) Tryz.func38 G_checksum_CrcUpdate.body_eq (by kernel_rfl) G_checksum_CrcUpdate.dist (by kernel_rfl) ((G_checksum_CrcUpdate.t_eq (G_checksum_CrcUpdate.J (kRet h K)) (kRet h K) x0 x1 h).mp H)

--@@ G_gzip_header_next
/-! ### 39: (*intrusion/gzip.header).next -/
--@@ G_inflate_Decoder_Done
/-! ### 40: (*intrusion/inflate.Decoder).Done -/
--@@ G_inflate_Decoder_Rest
/-! ### 41: (*intrusion/inflate.Decoder).Rest -/
--@@ G_strings_Builder_copyCheck
/-! ### 42: (*strings.Builder).copyCheck -/
--@@ G_field_GetLittle
/-! ### 43: intrusion/field.GetLittle -/
--@@ G_ref37_Decoder_Done
/-! ### 44: (*intrusion/intrusionref37.Decoder).Done -/
--@@ G_ref37_Decoder_Feed
/-! ### 45: (*intrusion/intrusionref37.Decoder).Feed -/
--@@ G_ref02_CrcUpdate
/-! ### 46: intrusion/intrusionref02.CrcUpdate -/
--@@ G_ref37_Decoder_Rest
/-! ### 47: (*intrusion/intrusionref37.Decoder).Rest -/
--@@ G_ref38_Decoder_one
/-! ### 48: (*intrusion/intrusionref38.Decoder).one -/
--@@ G_strings_Index
/-! ### 49: strings.Index -/
end Go.Proofs.YtfoekpcljhbijaaGreatDoor

/- Bodies' texts in the abstract machine: printed by Gen.lean, checked by Lean's kernel. -/
set_option linter.unusedVariables false
set_option linter.unusedSectionVars false
set_option maxRecDepth 100000
namespace Go.Proofs.YtfoekpcljhbijaaGreatDoor
open Go.GAM
variable [XR]
--@@ G_bytes_Buffer_Write
/-! ### 50: (*bytes.Buffer).Write -/
--@@ G_bytes_Buffer_WriteString
/-! ### 51: (*bytes.Buffer).WriteString -/
--@@ G_bytes_Buffer_String
/-! ### 52: (*bytes.Buffer).String -/
--@@ G_inflate_writer_number
/-! ### 53: (*intrusion/inflate.writer).number -/
--@@ G_inflate_fixedLengths
/-! ### 54: intrusion/inflate.fixedLengths -/
--@@ G_inflate_writer_items
/-! ### 55: (*intrusion/inflate.writer).items -/
--@@ G_inflate_items
/-! ### 56: intrusion/inflate.items -/
--@@ G_inflate_lengthSymbol
/-! ### 57: intrusion/inflate.lengthSymbol -/
--@@ G_inflate_distanceSymbol
/-! ### 58: intrusion/inflate.distanceSymbol -/
--@@ G_huffman_Lengths
/-! ### 59: intrusion/huffman.Lengths -/
--@@ G_inflate_trimmed
/-! ### 60: intrusion/inflate.trimmed -/
--@@ G_inflate_runs
/-! ### 61: intrusion/inflate.runs -/
--@@ G_slices_Concat___int_int_
/-! ### 62: slices.Concat[[]int,int] -/
--@@ G_huffman_Codes
/-! ### 63: intrusion/huffman.Codes -/
--@@ G_inflate_writer_code
/-! ### 64: (*intrusion/inflate.writer).code -/
--@@ G_field_Put
/-! ### 65: intrusion/field.Put -/
--@@ G_slices_Reverse___byte_byte_
/-! ### 66: slices.Reverse[[]byte,byte] -/
--@@ G_inflate_bound
/-! ### 67: intrusion/inflate.bound -/
--@@ G_inflate_Decoder_block
/-! ### 68: (*intrusion/inflate.Decoder).block -/
--@@ G_checksum_table
/-! ### 70: intrusion/checksum.table -/
noncomputable def G_checksum_table.body : Code := (Tryz.f70.body).getD .skip
def G_checksum_table.ann : Ann := (.seq 0 [0] .leaf (.seq 0 [0, 1] .leaf (.seq 0 [0, 1] (.seq 0 [0, 1, 5] .leaf (.one (.loop 1 [0, 1, 5] (.seq 0 [0, 1, 5, 6] .leaf (.seq 0 [0, 1, 5] (.br .leaf .leaf) (.seq 0 [0, 1, 5] (.one (.seq 0 [0, 1, 2, 5] .leaf (.seq 0 [0, 1, 2, 3, 5] .leaf (.seq 0 [0, 1, 2, 3, 5] (.seq 0 [0, 1, 2, 3, 5, 10] .leaf (.one (.loop 2 [0, 1, 2, 3, 5, 10] (.seq 0 [0, 1, 2, 3, 5, 10, 11] .leaf (.seq 0 [0, 1, 2, 3, 5, 10] (.br .leaf .leaf) (.seq 3 [0, 1, 2, 3, 5, 10] (.one (.seq 0 [0, 1, 2, 3, 4, 5, 10] .leaf (.seq 0 [0, 1, 2, 3, 4, 5, 10] .leaf (.seq 0 [0, 1, 2, 3, 5, 10, 17] .leaf (.br .leaf .leaf))))) .leaf)))))) .leaf)))) .leaf)))))) (.seq 0 [0] .leaf .leaf))))
theorem G_checksum_table.body_eq : Tryz.f70.body = some G_checksum_table.body := by kernel_rfl
theorem G_checksum_table.dist : noTwice (places G_checksum_table.ann G_checksum_table.body) = true := by kernel_rfl
noncomputable def G_checksum_table.J (Q : AV → AHeap → Prop) : JT := funJ prog C Tryz.f70 G_checksum_table.ann G_checksum_table.body Q
theorem G_checksum_table.goR {Q : AV → AHeap → Prop} {k : Nat} {p : List Nat} (hl : lookJ (places G_checksum_table.ann G_checksum_table.body) k = some (p, false)) {e : Env} {h : AHeap} (hk : atJ prog C 26 (G_checksum_table.J Q) false p G_checksum_table.ann G_checksum_table.body e h (kFun prog Tryz.f70 Q)) : G_checksum_table.J Q k e h := goJ_run (P := prog) (fn := Tryz.f70) (ann := G_checksum_table.ann) (body := G_checksum_table.body) (Q := Q) (k := k) (p := p) (e := e) (h := h) (acall_le X) G_checksum_table.dist hl hk
theorem G_checksum_table.goH {Q : AV → AHeap → Prop} {k : Nat} {p : List Nat} (hl : lookJ (places G_checksum_table.ann G_checksum_table.body) k = some (p, true)) {e : Env} {h : AHeap} (hk : atJ prog C 26 (G_checksum_table.J Q) true p G_checksum_table.ann G_checksum_table.body e h (kFun prog Tryz.f70 Q)) : G_checksum_table.J Q k e h := goJ_head (P := prog) (fn := Tryz.f70) (ann := G_checksum_table.ann) (body := G_checksum_table.body) (Q := Q) (k := k) (p := p) (e := e) (h := h) (acall_le X) G_checksum_table.dist hl hk
def G_checksum_table.p2 (Q : AV → AHeap → Prop) (x0 : AV) (x1 : AV) (x2 : Int) (x3 : Int) (x5 : Int) (x10 : Int) (h : AHeap) : Prop := G_checksum_table.J Q 3 [(0, x0), (1, x1), (2, (AV.i .i64 x2)), (3, (AV.i .u32 x3)), (5, (AV.i .i64 x5)), (10, (AV.i .i64 x10))] h
theorem G_checksum_table.j2 (Q : AV → AHeap → Prop) (x0 : AV) (x1 : AV) (x2 : Int) (x3 : Int) (x5 : Int) (x10 : Int) (h : AHeap) : G_checksum_table.J Q 3 [(0, x0), (1, x1), (2, (AV.i .i64 x2)), (3, (AV.i .u32 x3)), (5, (AV.i .i64 x5)), (10, (AV.i .i64 x10))] h = G_checksum_table.p2 Q x0 x1 x2 x3 x5 x10 h := rfl
def G_checksum_table.p1 (Q : AV → AHeap → Prop) (x0 : AV) (x1 : AV) (x2 : Int) (x3 : Int) (x5 : Int) (x10 : Int) (h : AHeap) : Prop := G_checksum_table.J Q 2 [(0, x0), (1, x1), (2, (AV.i .i64 x2)), (3, (AV.i .u32 x3)), (5, (AV.i .i64 x5)), (10, (AV.i .i64 x10))] h
theorem G_checksum_table.j1 (Q : AV → AHeap → Prop) (x0 : AV) (x1 : AV) (x2 : Int) (x3 : Int) (x5 : Int) (x10 : Int) (h : AHeap) : G_checksum_table.J Q 2 [(0, x0), (1, x1), (2, (AV.i .i64 x2)), (3, (AV.i .u32 x3)), (5, (AV.i .i64 x5)), (10, (AV.i .i64 x10))] h = G_checksum_table.p1 Q x0 x1 x2 x3 x5 x10 h := rfl
def G_checksum_table.p0 (Q : AV → AHeap → Prop) (x0 : AV) (x1 : AV) (x5 : Int) (h : AHeap) : Prop := G_checksum_table.J Q 1 [(0, x0), (1, x1), (5, (AV.i .i64 x5))] h
theorem G_checksum_table.j0 (Q : AV → AHeap → Prop) (x0 : AV) (x1 : AV) (x5 : Int) (h : AHeap) : G_checksum_table.J Q 1 [(0, x0), (1, x1), (5, (AV.i .i64 x5))] h = G_checksum_table.p0 Q x0 x1 x5 h := rfl
def G_checksum_table.t2 (J : JT) (Q : AV → AHeap → Prop) (x0 : AV) (x1 : AV) (x2 : Int) (x3 : Int) (x5 : Int) (x10 : Int) (h : AHeap) : Prop :=
withI (IntKind.wrap .i64 (x10 + 1)) fun n23 =>
J 2 [(0, x0), (1, x1), (2, (AV.i .i64 x2)), (3, (AV.i .u32 x3)), (5, (AV.i .i64 x5)), (10, (AV.i .i64 n23))] h
theorem G_checksum_table.t2_eq (J : JT) (Q : AV → AHeap → Prop) (x0 : AV) (x1 : AV) (x2 : Int) (x3 : Int) (x5 : Int) (x10 : Int) (h : AHeap) : G_checksum_table.t2 J Q x0 x1 x2 x3 x5 x10 h = atJ prog C 26 J false [1, 1, 0, 1, 0, 0, 1, 1, 0, 0, 1, 1, 0, 1, 0, 0, 1, 1, 1] G_checksum_table.ann G_checksum_table.body [(0, x0), (1, x1), (2, (AV.i .i64 x2)), (3, (AV.i .u32 x3)), (5, (AV.i .i64 x5)), (10, (AV.i .i64 x10))] h (kFun prog Tryz.f70 Q) := by kernel_rfl
theorem G_checksum_table.i2 {Q : AV → AHeap → Prop} {x0 : AV} {x1 : AV} {x2 : Int} {x3 : Int} {x5 : Int} {x10 : Int} {h : AHeap} (H : G_checksum_table.t2 (G_checksum_table.J Q) Q x0 x1 x2 x3 x5 x10 h) : G_checksum_table.p2 Q x0 x1 x2 x3 x5 x10 h := G_checksum_table.goR (k := 3) (p := [1, 1, 0, 1, 0, 0, 1, 1, 0, 0, 1, 1, 0, 1, 0, 0, 1, 1, 1]) (by kernel_rfl) ((G_checksum_table.t2_eq (G_checksum_table.J Q) Q x0 x1 x2 x3 x5 x10 h).mp H)
def G_checksum_table.t1 (J : JT) (Q : AV → AHeap → Prop) (x0 : AV) (x1 : AV) (x2 : Int) (x3 : Int) (x5 : Int) (x10 : Int) (h : AHeap) : Prop :=
(bif (decide ((x10 : Int) < 8)) then
(pShr .u32 x3 1 fun n17 =>
(bif (decide (((bitsOp .and .u32 x3 1) : Int) = 1)) then
(withI (bitsOp .xor .u32 n17 3988292384) fun n20 =>
J 3 [(0, x0), (1, x1), (2, (AV.i .i64 x2)), (3, (AV.i .u32 n20)), (5, (AV.i .i64 x5)), (10, (AV.i .i64 x10))] h)
else
(J 3 [(0, x0), (1, x1), (2, (AV.i .i64 x2)), (3, (AV.i .u32 n17)), (5, (AV.i .i64 x5)), (10, (AV.i .i64 x10))] h)))
else
(pIdxAddrArr 256 1 x1 (AV.i .i64 x2) fun v25 =>
pStore 1 v25 (AV.i .u32 x3) h fun h26 =>
withI (IntKind.wrap .i64 (x5 + 1)) fun n28 =>
J 1 [(0, x0), (1, x1), (5, (AV.i .i64 n28))] h26))
theorem G_checksum_table.t1_eq (J : JT) (Q : AV → AHeap → Prop) (x0 : AV) (x1 : AV) (x2 : Int) (x3 : Int) (x5 : Int) (x10 : Int) (h : AHeap) : G_checksum_table.t1 J Q x0 x1 x2 x3 x5 x10 h = atJ prog C 26 J true [1, 1, 0, 1, 0, 0, 1, 1, 0, 0, 1, 1, 0, 1, 0] G_checksum_table.ann G_checksum_table.body [(0, x0), (1, x1), (2, (AV.i .i64 x2)), (3, (AV.i .u32 x3)), (5, (AV.i .i64 x5)), (10, (AV.i .i64 x10))] h (kFun prog Tryz.f70 Q) := by kernel_rfl
theorem G_checksum_table.i1 {Q : AV → AHeap → Prop} {x0 : AV} {x1 : AV} {x2 : Int} {x3 : Int} {x5 : Int} {x10 : Int} {h : AHeap} (H : G_checksum_table.t1 (G_checksum_table.J Q) Q x0 x1 x2 x3 x5 x10 h) : G_checksum_table.p1 Q x0 x1 x2 x3 x5 x10 h := G_checksum_table.goH (k := 2) (p := [1, 1, 0, 1, 0, 0, 1, 1, 0, 0, 1, 1, 0, 1, 0]) (by kernel_rfl) ((G_checksum_table.t1_eq (G_checksum_table.J Q) Q x0 x1 x2 x3 x5 x10 h).mp H)
def G_checksum_table.t0 (J : JT) (Q : AV → AHeap → Prop) (x0 : AV) (x1 : AV) (x5 : Int) (h : AHeap) : Prop :=
(bif (decide ((x5 : Int) < 256)) then
(J 2 [(0, x0), (1, x1), (2, (AV.i .i64 x5)), (3, (AV.i .u32 (IntKind.wrap .u32 x5))), (5, (AV.i .i64 x5)), (10, (AV.i .i64 0))] h)
else
(pLoadN 256 x1 h fun v30 =>
pStore 256 x0 v30 h fun h31 =>
pLoadN 256 x0 h31 fun v33 =>
Q v33 h31))
theorem G_checksum_table.t0_eq (J : JT) (Q : AV → AHeap → Prop) (x0 : AV) (x1 : AV) (x5 : Int) (h : AHeap) : G_checksum_table.t0 J Q x0 x1 x5 h = atJ prog C 26 J true [1, 1, 0, 1, 0] G_checksum_table.ann G_checksum_table.body [(0, x0), (1, x1), (5, (AV.i .i64 x5))] h (kFun prog Tryz.f70 Q) := by kernel_rfl
theorem G_checksum_table.i0 {Q : AV → AHeap → Prop} {x0 : AV} {x1 : AV} {x5 : Int} {h : AHeap} (H : G_checksum_table.t0 (G_checksum_table.J Q) Q x0 x1 x5 h) : G_checksum_table.p0 Q x0 x1 x5 h := G_checksum_table.goH (k := 1) (p := [1, 1, 0, 1, 0]) (by kernel_rfl) ((G_checksum_table.t0_eq (G_checksum_table.J Q) Q x0 x1 x5 h).mp H)
def G_checksum_table.t (J : JT) (Q : AV → AHeap → Prop) (h : AHeap) : Prop :=
pAlloc none [(AV.i .u32 0), (AV.i .u32 0), (AV.i .u32 0), (AV.i .u32 0), (AV.i .u32 0), (AV.i .u32 0), (AV.i .u32 0), (AV.i .u32 0), (AV.i .u32 0), (AV.i .u32 0), (AV.i .u32 0), (AV.i .u32 0), (AV.i .u32 0), (AV.i .u32 0), (AV.i .u32 0), (AV.i .u32 0), (AV.i .u32 0), (AV.i .u32 0), (AV.i .u32 0), (AV.i .u32 0), (AV.i .u32 0), (AV.i .u32 0), (AV.i .u32 0), (AV.i .u32 0), (AV.i .u32 0), (AV.i .u32 0), (AV.i .u32 0), (AV.i .u32 0), (AV.i .u32 0), (AV.i .u32 0), (AV.i .u32 0), (AV.i .u32 0), (AV.i .u32 0), (AV.i .u32 0), (AV.i .u32 0), (AV.i .u32 0), (AV.i .u32 0), (AV.i .u32 0), (AV.i .u32 0), (AV.i .u32 0), (AV.i .u32 0), (AV.i .u32 0), (AV.i .u32 0), (AV.i .u32 0), (AV.i .u32 0), (AV.i .u32 0), (AV.i .u32 0), (AV.i .u32 0), (AV.i .u32 0), (AV.i .u32 0), (AV.i .u32 0), (AV.i .u32 0), (AV.i .u32 0), (AV.i .u32 0), (AV.i .u32 0), (AV.i .u32 0), (AV.i .u32 0), (AV.i .u32 0), (AV.i .u32 0), (AV.i .u32 0), (AV.i .u32 0), (AV.i .u32 0), (AV.i .u32 0), (AV.i .u32 0), (AV.i .u32 0), (AV.i .u32 0), (AV.i .u32 0), (AV.i .u32 0), (AV.i .u32 0), (AV.i .u32 0), (AV.i .u32 0), (AV.i .u32 0), (AV.i .u32 0), (AV.i .u32 0), (AV.i .u32 0), (AV.i .u32 0), (AV.i .u32 0), (AV.i .u32 0), (AV.i .u32 0), (AV.i .u32 0), (AV.i .u32 0), (AV.i .u32 0), (AV.i .u32 0), (AV.i .u32 0), (AV.i .u32 0), (AV.i .u32 0), (AV.i .u32 0), (AV.i .u32 0), (AV.i .u32 0), (AV.i .u32 0), (AV.i .u32 0), (AV.i .u32 0), (AV.i .u32 0), (AV.i .u32 0), (AV.i .u32 0), (AV.i .u32 0), (AV.i .u32 0), (AV.i .u32 0), (AV.i .u32 0), (AV.i .u32 0), (AV.i .u32 0), (AV.i .u32 0), (AV.i .u32 0), (AV.i .u32 0), (AV.i .u32 0), (AV.i .u32 0), (AV.i .u32 0), (AV.i .u32 0), (AV.i .u32 0), (AV.i .u32 0), (AV.i .u32 0), (AV.i .u32 0), (AV.i .u32 0), (AV.i .u32 0), (AV.i .u32 0), (AV.i .u32 0), (AV.i .u32 0), (AV.i .u32 0), (AV.i .u32 0), (AV.i .u32 0), (AV.i .u32 0), (AV.i .u32 0), (AV.i .u32 0), (AV.i .u32 0), (AV.i .u32 0), (AV.i .u32 0), (AV.i .u32 0), (AV.i .u32 0), (AV.i .u32 0), (AV.i .u32 0), (AV.i .u32 0), (AV.i .u32 0), (AV.i .u32 0), (AV.i .u32 0), (AV.i .u32 0), (AV.i .u32 0), (AV.i .u32 0), (AV.i .u32 0), (AV.i .u32 0), (AV.i .u32 0), (AV.i .u32 0), (AV.i .u32 0), (AV.i .u32 0), (AV.i .u32 0), (AV.i .u32 0), (AV.i .u32 0), (AV.i .u32 0), (AV.i .u32 0), (AV.i .u32 0), (AV.i .u32 0), (AV.i .u32 0), (AV.i .u32 0), (AV.i .u32 0), (AV.i .u32 0), (AV.i .u32 0), (AV.i .u32 0), (AV.i .u32 0), (AV.i .u32 0), (AV.i .u32 0), (AV.i .u32 0), (AV.i .u32 0), (AV.i .u32 0), (AV.i .u32 0), (AV.i .u32 0), (AV.i .u32 0), (AV.i .u32 0), (AV.i .u32 0), (AV.i .u32 0), (AV.i .u32 0), (AV.i .u32 0), (AV.i .u32 0), (AV.i .u32 0), (AV.i .u32 0), (AV.i .u32 0), (AV.i .u32 0), (AV.i .u32 0), (AV.i .u32 0), (AV.i .u32 0), (AV.i .u32 0), (AV.i .u32 0), (AV.i .u32 0), (AV.i .u32 0), (AV.i .u32 0), (AV.i .u32 0), (AV.i .u32 0), (AV.i .u32 0), (AV.i .u32 0), (AV.i .u32 0), (AV.i .u32 0), (AV.i .u32 0), (AV.i .u32 0), (AV.i .u32 0), (AV.i .u32 0), (AV.i .u32 0), (AV.i .u32 0), (AV.i .u32 0), (AV.i .u32 0), (AV.i .u32 0), (AV.i .u32 0), (AV.i .u32 0), (AV.i .u32 0), (AV.i .u32 0), (AV.i .u32 0), (AV.i .u32 0), (AV.i .u32 0), (AV.i .u32 0), (AV.i .u32 0), (AV.i .u32 0), (AV.i .u32 0), (AV.i .u32 0), (AV.i .u32 0), (AV.i .u32 0), (AV.i .u32 0), (AV.i .u32 0), (AV.i .u32 0), (AV.i .u32 0), (AV.i .u32 0), (AV.i .u32 0), (AV.i .u32 0), (AV.i .u32 0), (AV.i .u32 0), (AV.i .u32 0), (AV.i .u32 0), (AV.i .u32 0), (AV.i .u32 0), (AV.i .u32 0), (AV.i .u32 0), (AV.i .u32 0), (AV.i .u32 0), (AV.i .u32 0), (AV.i .u32 0), (AV.i .u32 0), (AV.i .u32 0), (AV.i .u32 0), (AV.i .u32 0), (AV.i .u32 0), (AV.i .u32 0), (AV.i .u32 0), (AV.i .u32 0), (AV.i .u32 0), (AV.i .u32 0), (AV.i .u32 0), (AV.i .u32 0), (AV.i .u32 0), (AV.i .u32 0), (AV.i .u32 0), (AV.i .u32 0), (AV.i .u32 0), (AV.i .u32 0), (AV.i .u32 0), (AV.i .u32 0), (AV.i .u32 0), (AV.i .u32 0), (AV.i .u32 0), (AV.i .u32 0), (AV.i .u32 0)] h fun v0 h1 =>
pAlloc none [(AV.i .u32 0), (AV.i .u32 0), (AV.i .u32 0), (AV.i .u32 0), (AV.i .u32 0), (AV.i .u32 0), (AV.i .u32 0), (AV.i .u32 0), (AV.i .u32 0), (AV.i .u32 0), (AV.i .u32 0), (AV.i .u32 0), (AV.i .u32 0), (AV.i .u32 0), (AV.i .u32 0), (AV.i .u32 0), (AV.i .u32 0), (AV.i .u32 0), (AV.i .u32 0), (AV.i .u32 0), (AV.i .u32 0), (AV.i .u32 0), (AV.i .u32 0), (AV.i .u32 0), (AV.i .u32 0), (AV.i .u32 0), (AV.i .u32 0), (AV.i .u32 0), (AV.i .u32 0), (AV.i .u32 0), (AV.i .u32 0), (AV.i .u32 0), (AV.i .u32 0), (AV.i .u32 0), (AV.i .u32 0), (AV.i .u32 0), (AV.i .u32 0), (AV.i .u32 0), (AV.i .u32 0), (AV.i .u32 0), (AV.i .u32 0), (AV.i .u32 0), (AV.i .u32 0), (AV.i .u32 0), (AV.i .u32 0), (AV.i .u32 0), (AV.i .u32 0), (AV.i .u32 0), (AV.i .u32 0), (AV.i .u32 0), (AV.i .u32 0), (AV.i .u32 0), (AV.i .u32 0), (AV.i .u32 0), (AV.i .u32 0), (AV.i .u32 0), (AV.i .u32 0), (AV.i .u32 0), (AV.i .u32 0), (AV.i .u32 0), (AV.i .u32 0), (AV.i .u32 0), (AV.i .u32 0), (AV.i .u32 0), (AV.i .u32 0), (AV.i .u32 0), (AV.i .u32 0), (AV.i .u32 0), (AV.i .u32 0), (AV.i .u32 0), (AV.i .u32 0), (AV.i .u32 0), (AV.i .u32 0), (AV.i .u32 0), (AV.i .u32 0), (AV.i .u32 0), (AV.i .u32 0), (AV.i .u32 0), (AV.i .u32 0), (AV.i .u32 0), (AV.i .u32 0), (AV.i .u32 0), (AV.i .u32 0), (AV.i .u32 0), (AV.i .u32 0), (AV.i .u32 0), (AV.i .u32 0), (AV.i .u32 0), (AV.i .u32 0), (AV.i .u32 0), (AV.i .u32 0), (AV.i .u32 0), (AV.i .u32 0), (AV.i .u32 0), (AV.i .u32 0), (AV.i .u32 0), (AV.i .u32 0), (AV.i .u32 0), (AV.i .u32 0), (AV.i .u32 0), (AV.i .u32 0), (AV.i .u32 0), (AV.i .u32 0), (AV.i .u32 0), (AV.i .u32 0), (AV.i .u32 0), (AV.i .u32 0), (AV.i .u32 0), (AV.i .u32 0), (AV.i .u32 0), (AV.i .u32 0), (AV.i .u32 0), (AV.i .u32 0), (AV.i .u32 0), (AV.i .u32 0), (AV.i .u32 0), (AV.i .u32 0), (AV.i .u32 0), (AV.i .u32 0), (AV.i .u32 0), (AV.i .u32 0), (AV.i .u32 0), (AV.i .u32 0), (AV.i .u32 0), (AV.i .u32 0), (AV.i .u32 0), (AV.i .u32 0), (AV.i .u32 0), (AV.i .u32 0), (AV.i .u32 0), (AV.i .u32 0), (AV.i .u32 0), (AV.i .u32 0), (AV.i .u32 0), (AV.i .u32 0), (AV.i .u32 0), (AV.i .u32 0), (AV.i .u32 0), (AV.i .u32 0), (AV.i .u32 0), (AV.i .u32 0), (AV.i .u32 0), (AV.i .u32 0), (AV.i .u32 0), (AV.i .u32 0), (AV.i .u32 0), (AV.i .u32 0), (AV.i .u32 0), (AV.i .u32 0), (AV.i .u32 0), (AV.i .u32 0), (AV.i .u32 0), (AV.i .u32 0), (AV.i .u32 0), (AV.i .u32 0), (AV.i .u32 0), (AV.i .u32 0), (AV.i .u32 0), (AV.i .u32 0), (AV.i .u32 0), (AV.i .u32 0), (AV.i .u32 0), (AV.i .u32 0), (AV.i .u32 0), (AV.i .u32 0), (AV.i .u32 0), (AV.i .u32 0), (AV.i .u32 0), (AV.i .u32 0), (AV.i .u32 0), (AV.i .u32 0), (AV.i .u32 0), (AV.i .u32 0), (AV.i .u32 0), (AV.i .u32 0), (AV.i .u32 0), (AV.i .u32 0), (AV.i .u32 0), (AV.i .u32 0), (AV.i .u32 0), (AV.i .u32 0), (AV.i .u32 0), (AV.i .u32 0), (AV.i .u32 0), (AV.i .u32 0), (AV.i .u32 0), (AV.i .u32 0), (AV.i .u32 0), (AV.i .u32 0), (AV.i .u32 0), (AV.i .u32 0), (AV.i .u32 0), (AV.i .u32 0), (AV.i .u32 0), (AV.i .u32 0), (AV.i .u32 0), (AV.i .u32 0), (AV.i .u32 0), (AV.i .u32 0), (AV.i .u32 0), (AV.i .u32 0), (AV.i .u32 0), (AV.i .u32 0), (AV.i .u32 0), (AV.i .u32 0), (AV.i .u32 0), (AV.i .u32 0), (AV.i .u32 0), (AV.i .u32 0), (AV.i .u32 0), (AV.i .u32 0), (AV.i .u32 0), (AV.i .u32 0), (AV.i .u32 0), (AV.i .u32 0), (AV.i .u32 0), (AV.i .u32 0), (AV.i .u32 0), (AV.i .u32 0), (AV.i .u32 0), (AV.i .u32 0), (AV.i .u32 0), (AV.i .u32 0), (AV.i .u32 0), (AV.i .u32 0), (AV.i .u32 0), (AV.i .u32 0), (AV.i .u32 0), (AV.i .u32 0), (AV.i .u32 0), (AV.i .u32 0), (AV.i .u32 0), (AV.i .u32 0), (AV.i .u32 0), (AV.i .u32 0), (AV.i .u32 0), (AV.i .u32 0), (AV.i .u32 0), (AV.i .u32 0), (AV.i .u32 0), (AV.i .u32 0), (AV.i .u32 0), (AV.i .u32 0), (AV.i .u32 0), (AV.i .u32 0), (AV.i .u32 0), (AV.i .u32 0), (AV.i .u32 0), (AV.i .u32 0), (AV.i .u32 0), (AV.i .u32 0), (AV.i .u32 0), (AV.i .u32 0), (AV.i .u32 0), (AV.i .u32 0), (AV.i .u32 0)] h1 fun v3 h4 =>
J 1 [(0, v0), (1, v3), (5, (AV.i .i64 0))] h4
theorem G_checksum_table.t_eq (J : JT) (Q : AV → AHeap → Prop) (h : AHeap) : G_checksum_table.t J Q h = exJ prog C 26 J G_checksum_table.ann G_checksum_table.body (initEnv 0 []) h (kFun prog Tryz.f70 Q) := by kernel_rfl
theorem G_checksum_table.call {K : AV → AHeap → Prop} {h : AHeap} (H : G_checksum_table.t (G_checksum_table.J (kRet h K)) (kRet h K) h) : C G_checksum_table.id [] h K :=
  callJ (P := prog) (fn := Tryz.f70) (ann := G_checksum_table.ann) (body := G_checksum_table.body) Tryz.func70 G_checksum_table.body_eq (by kernel_rfl) G_checksum_table.dist (by kernel_rfl) ((G_checksum_table.t_eq (G_checksum_table.J (kRet h K)) (kRet h K) h).mp H)

--@@ G_gzip_header_skip
/-! ### 71: (*intrusion/gzip.header).skip -/
--@@ G_field_valid
/-! ### 73: intrusion/field.valid -/
--@@ G_field_part
/-! ### 74: intrusion/field.part -/
--@@ G_field_number
/-! ### 75: intrusion/field.number -/
--@@ G_ref37_Run
/-! ### 76: intrusion/intrusionref37.Run -/
--@@ G_ref38_header
/-! ### 77: intrusion/intrusionref38.header -/
--@@ G_ref37_New
/-! ### 78: intrusion/intrusionref37.New -/
--@@ G_ref01_GetLittle
/-! ### 79: intrusion/intrusionref01.GetLittle -/
--@@ G_i_stringslite_Index
/-! ### 80: internal/stringslite.Index -/
--@@ G_bytes_Buffer_tryGrowByReslice
/-! ### 81: (*bytes.Buffer).tryGrowByReslice -/
--@@ G_bytes_Buffer_grow
/-! ### 82: (*bytes.Buffer).grow -/
end Go.Proofs.YtfoekpcljhbijaaGreatDoor

/- Bodies' texts in the abstract machine: printed by Gen.lean, checked by Lean's kernel. -/
set_option linter.unusedVariables false
set_option linter.unusedSectionVars false
set_option maxRecDepth 100000
namespace Go.Proofs.YtfoekpcljhbijaaGreatDoor
open Go.GAM
variable [XR]
--@@ G_slices_Repeat___int_int_
/-! ### 83: slices.Repeat[[]int,int] -/
--@@ G_inflate_length
/-! ### 84: intrusion/inflate.length -/
--@@ G_inflate_distance
/-! ### 85: intrusion/inflate.distance -/
--@@ G_inflate_items_1
/-! ### 86: intrusion/inflate.items$1 -/
--@@ G_huffman_limit
/-! ### 88: intrusion/huffman.limit -/
--@@ G_huffman_packs
/-! ### 89: intrusion/huffman.packs -/
--@@ G_huffman_Check
/-! ### 91: intrusion/huffman.Check -/
--@@ G_huffman_tableOf
/-! ### 92: intrusion/huffman.tableOf -/
--@@ G_inflate_Decoder_number
/-! ### 93: (*intrusion/inflate.Decoder).number -/
--@@ G_inflate_Decoder_block_1
/-! ### 94: (*intrusion/inflate.Decoder).block$1 -/
--@@ G_inflate_Decoder_stored
/-! ### 95: (*intrusion/inflate.Decoder).stored -/
--@@ G_inflate_Decoder_fixed
/-! ### 96: (*intrusion/inflate.Decoder).fixed -/
--@@ G_inflate_Decoder_dynamic
/-! ### 97: (*intrusion/inflate.Decoder).dynamic -/
--@@ G_huffman_Decoder_Step
/-! ### 98: (*intrusion/huffman.Decoder).Step -/
--@@ G_ref37_limit
/-! ### 99: intrusion/intrusionref37.limit -/
--@@ G_ref37_run_stopped
/-! ### 100: (*intrusion/intrusionref37.run).stopped -/
--@@ G_ref37_run_bit
/-! ### 101: (*intrusion/intrusionref37.run).bit -/
--@@ G_ref37_run_number
/-! ### 102: (*intrusion/intrusionref37.run).number -/
--@@ G_ref37_run_stored
/-! ### 103: (*intrusion/intrusionref37.run).stored -/
--@@ G_ref37_run_symbols
/-! ### 104: (*intrusion/intrusionref37.run).symbols -/
--@@ G_ref37_FixedLengths
/-! ### 105: intrusion/intrusionref37.FixedLengths -/
--@@ G_ref37_times
/-! ### 106: intrusion/intrusionref37.times -/
--@@ G_ref37_run_lengths
/-! ### 107: (*intrusion/intrusionref37.run).lengths -/
--@@ G_ref37_run_wrong
/-! ### 108: (*intrusion/intrusionref37.run).wrong -/
--@@ G_ref38_begins
/-! ### 109: intrusion/intrusionref38.begins -/
--@@ G_ref38_text
/-! ### 110: intrusion/intrusionref38.text -/
--@@ G_ref02_Crc
/-! ### 111: intrusion/intrusionref02.Crc -/
--@@ G_ref01_Get
/-! ### 112: intrusion/intrusionref01.Get -/
--@@ G_ref01_Value
/-! ### 113: intrusion/intrusionref01.Value -/
--@@ G_ref01_Reverse
/-! ### 114: intrusion/intrusionref01.Reverse -/
--@@ G_i_stringslite_IndexByte
/-! ### 115: internal/stringslite.IndexByte -/
--@@ G_i_bytealg_Cutover
/-! ### 117: internal/bytealg.Cutover -/
--@@ G_i_bytealg_IndexRabinKarp_string_
/-! ### 118: internal/bytealg.IndexRabinKarp[string] -/
--@@ G_bytes_Buffer_Len
/-! ### 119: (*bytes.Buffer).Len -/
--@@ G_bytes_Buffer_Reset
/-! ### 120: (*bytes.Buffer).Reset -/
--@@ G_math_bits_Mul
/-! ### 122: math/bits.Mul -/
--@@ G_slices_Backward___int_int_
/-! ### 123: slices.Backward[[]int,int] -/
--@@ G_huffman_packs_1
/-! ### 124: intrusion/huffman.packs$1 -/
--@@ G_huffman_sorted_huffman_pack__insert
/-! ### 125: (*intrusion/huffman.sorted[intrusion/huffman.pack]).insert -/
--@@ G_inflate_Decoder_stored_1
/-! ### 126: (*intrusion/inflate.Decoder).stored$1 -/
--@@ G_inflate_Decoder_stored_1_1
/-! ### 127: (*intrusion/inflate.Decoder).stored$1$1 -/
--@@ G_inflate_Decoder_raw
/-! ### 128: (*intrusion/inflate.Decoder).raw -/
--@@ G_inflate_Decoder_codes
/-! ### 129: (*intrusion/inflate.Decoder).codes -/
--@@ G_inflate_Decoder_dynamic_1
/-! ### 130: (*intrusion/inflate.Decoder).dynamic$1 -/
--@@ G_inflate_Decoder_dynamic_1_1
/-! ### 131: (*intrusion/inflate.Decoder).dynamic$1$1 -/
--@@ G_inflate_Decoder_dynamic_1_1_1
/-! ### 132: (*intrusion/inflate.Decoder).dynamic$1$1$1 -/
end Go.Proofs.YtfoekpcljhbijaaGreatDoor

/- Bodies' texts in the abstract machine: printed by Gen.lean, checked by Lean's kernel. -/
set_option linter.unusedVariables false
set_option linter.unusedSectionVars false
set_option maxRecDepth 100000
namespace Go.Proofs.YtfoekpcljhbijaaGreatDoor
open Go.GAM
variable [XR]
--@@ G_inflate_Decoder_third
/-! ### 133: (*intrusion/inflate.Decoder).third -/
--@@ G_ref37_run_put
/-! ### 134: (*intrusion/intrusionref37.run).put -/
--@@ G_ref36_NewDecoder
/-! ### 135: intrusion/intrusionref36.NewDecoder -/
--@@ G_ref37_run_symbol
/-! ### 136: (*intrusion/intrusionref37.run).symbol -/
--@@ G_ref37_Least
/-! ### 137: intrusion/intrusionref37.Least -/
--@@ G_ref37_Far
/-! ### 138: intrusion/intrusionref37.Far -/
--@@ G_ref36_Check
/-! ### 139: intrusion/intrusionref36.Check -/
--@@ G_i_bytealg_hashStr_string_
/-! ### 141: internal/bytealg.hashStr[string] -/
--@@ G_math_bits_Mul32
/-! ### 143: math/bits.Mul32 -/
--@@ G_math_bits_Mul64
/-! ### 144: math/bits.Mul64 -/
--@@ G_slices_Backward___int_int__1
/-! ### 145: slices.Backward[[]int,int]$1 -/
--@@ G_inflate_Decoder_raw_1
/-! ### 146: (*intrusion/inflate.Decoder).raw$1 -/
--@@ G_inflate_Decoder_put
/-! ### 147: (*intrusion/inflate.Decoder).put -/
--@@ G_huffman_NewDecoder
/-! ### 148: intrusion/huffman.NewDecoder -/
--@@ G_inflate_Decoder_literal
/-! ### 149: (*intrusion/inflate.Decoder).literal -/
--@@ G_inflate_Decoder_lengths
/-! ### 150: (*intrusion/inflate.Decoder).lengths -/
--@@ G_inflate_Decoder_third_1
/-! ### 151: (*intrusion/inflate.Decoder).third$1 -/
--@@ G_ref36_Codes
/-! ### 152: intrusion/intrusionref36.Codes -/
--@@ G_ref36_Decoder_Step
/-! ### 153: (*intrusion/intrusionref36.Decoder).Step -/
--@@ G_ref36_used
/-! ### 154: intrusion/intrusionref36.used -/
--@@ G_slices_Clone___byte_byte_
/-! ### 155: slices.Clone[[]byte,byte] -/
--@@ G_inflate_Decoder_symbol
/-! ### 156: (*intrusion/inflate.Decoder).symbol -/
--@@ G_inflate_Decoder_literal_1
/-! ### 157: (*intrusion/inflate.Decoder).literal$1 -/
--@@ G_inflate_Decoder_literal_1_1
/-! ### 158: (*intrusion/inflate.Decoder).literal$1$1 -/
--@@ G_inflate_Decoder_literal_1_1_1
/-! ### 159: (*intrusion/inflate.Decoder).literal$1$1$1 -/
--@@ G_inflate_Decoder_literal_1_1_1_1
/-! ### 160: (*intrusion/inflate.Decoder).literal$1$1$1$1 -/
--@@ G_inflate_Decoder_copy
/-! ### 161: (*intrusion/inflate.Decoder).copy -/
--@@ G_inflate_Decoder_lengths_1
/-! ### 162: (*intrusion/inflate.Decoder).lengths$1 -/
--@@ G_inflate_Decoder_lengths_1_1
/-! ### 163: (*intrusion/inflate.Decoder).lengths$1$1 -/
--@@ G_inflate_Decoder_lengths_2
/-! ### 164: (*intrusion/inflate.Decoder).lengths$2 -/
end Go.Proofs.YtfoekpcljhbijaaGreatDoor

/- All bodies. -/

/- Proofs over the texts: buffers of bytes, results without addresses. -/
set_option linter.unusedVariables false
set_option linter.unusedSimpArgs false
namespace Go.GAM
variable {ty : Option TypeId}

/-- What was there is there. -/
def Ext (h0 h : AHeap) : Prop := h0.length ≤ h.length ∧ ∀ id, id < h0.length → h[id]? = h0[id]?

theorem Ext.refl (h : AHeap) : Ext h h := ⟨Nat.le_refl _, fun _ _ => rfl⟩
theorem Ext.trans {h1 h2 h3 : AHeap} (a : Ext h1 h2) (b : Ext h2 h3) : Ext h1 h3 := ⟨Nat.le_trans a.1 b.1, fun id hi => (b.2 id (Nat.lt_of_lt_of_le hi a.1)).trans (a.2 id hi)⟩
theorem Ext.app (h s : AHeap) : Ext h (h ++ s) := ⟨by simp, fun id hi => by rw [List.getElem?_append_left hi]⟩
theorem Ext.take {h0 h : AHeap} (a : Ext h0 h) : h.take h0.length = h0 := by
  apply List.ext_getElem?
  intro i
  rw [List.getElem?_take]
  by_cases hi : i < h0.length
  · rw [if_pos hi, a.2 i hi]
  · rw [if_neg hi, List.getElem?_eq_none (Nat.le_of_not_lt hi)]
theorem Ext.set {h0 h : AHeap} (a : Ext h0 h) {id : Nat} (hi : h0.length ≤ id) (b : ABlk) : Ext h0 (h.set id b) :=
  ⟨by simpa using a.1, fun j hj => by rw [List.getElem?_set_ne (by omega)]; exact a.2 j hj⟩

def clean1 : AV → Bool
  | .b _ | .i _ _ | .s _ | .p none | .sl none _ _ | .nf | .ni => true
  | _ => false
/-- No address in it. -/
def clean : AV → Bool
  | .ag cs | .tu cs => cs.all clean1
  | v => clean1 v

theorem clean1_ren {n : Nat} {v : AV} (h : clean1 v = true) : ren1 n [] v = v ∧ ok1 n [] v = true := by
  unfold clean1 at h
  split at h <;> first | exact ⟨rfl, rfl⟩ | cases h

theorem clean_ren {n : Nat} {v : AV} (h : clean v = true) : ren n [] v = v ∧ okR n [] v = true := by
  have hl : ∀ cs : List AV, cs.all clean1 = true → cs.map (ren1 n []) = cs ∧ cs.all (ok1 n []) = true := by
    intro cs
    induction cs with
    | nil => exact fun _ => ⟨rfl, rfl⟩
    | cons c cs ih =>
      intro hc
      simp only [List.all_cons, Bool.and_eq_true] at hc
      obtain ⟨h1, h2⟩ := ih hc.2
      obtain ⟨h3, h4⟩ := clean1_ren (n := n) hc.1
      simp [h1, h2, h3, h4]
  unfold clean at h
  split at h
  · rename_i cs; obtain ⟨h1, h2⟩ := hl cs h; exact ⟨by simp [ren, h1], by simpa [okR] using h2⟩
  · rename_i cs; obtain ⟨h1, h2⟩ := hl cs h; exact ⟨by simp [ren, h1], by simpa [okR] using h2⟩
  · rename_i h1 h2
    obtain ⟨h3, h4⟩ := clean1_ren (n := n) h
    constructor
    · unfold ren; split
      · exact absurd rfl (h1 _)
      · exact absurd rfl (h2 _)
      · exact h3
    · unfold okR; split
      · exact absurd rfl (h1 _)
      · exact absurd rfl (h2 _)
      · exact h4

theorem kRet_pure {h0 h : AHeap} {K : AV → AHeap → Prop} {r : AV} (hp : clean r = true) (hE : Ext h0 h) (hk : K r h0) : kRet h0 K r h := by
  obtain ⟨h1, h2⟩ := clean_ren (n := h0.length) hp
  refine .inr ⟨[], List.nodup_nil, h2, by simp, fun id hi => .inl (hE.2 id hi), hE.1, ?_⟩
  rw [h1, hE.take]
  simpa using hk

/-- A slice of bytes that may be appended to. -/
def Buf (n : Nat) (h : AHeap) (v : AV) (l : List UInt8) : Prop :=
  (l = [] ∧ v = .sl none 0 none) ∨ ∃ id b, n ≤ id ∧ h[id]? = some b ∧ v = .sl (some ⟨id, l.length, 0⟩) l.length none ∧ b.cells = l.map byteAV ∧ b.sz = 1 ∧ b.floor ≤ l.length ∧ b.ro = false ∧ b.gl = false

theorem byteAV_cellOK (l : List UInt8) : (l.map byteAV).all AV.cellOK = true := by
  rw [List.all_eq_true]; intro x hx; simp only [List.mem_map] at hx; obtain ⟨c, _, rfl⟩ := hx; rfl
theorem byteAV_isByte (l : List UInt8) : (l.map byteAV).all isByte = true := by
  rw [List.all_eq_true]; intro x hx; simp only [List.mem_map] at hx; obtain ⟨c, _, rfl⟩ := hx; rfl
theorem toByte_byteAV (c : UInt8) : toByte (byteAV c) = c := by simp [toByte, byteAV]
theorem toBytes_map (l : List UInt8) : (l.map byteAV).map toByte = l := by
  rw [List.map_map]
  have : toByte ∘ byteAV = id := by funext c; exact toByte_byteAV c
  rw [this, List.map_id]

theorem Buf.lt {n : Nat} {h : AHeap} {v : AV} {l : List UInt8} (B : Buf n h v l) : v = .sl none 0 none ∨ ∃ a len, v = .sl (some a) len none ∧ n ≤ a.id ∧ a.id < h.length := by
  rcases B with ⟨_, h2⟩ | ⟨id, b, h1, h2, h3, _⟩
  · exact .inl h2
  · exact .inr ⟨_, _, h3, h1, by rcases Nat.lt_or_ge id h.length with h | h; exact h; rw [List.getElem?_eq_none h] at h2; cases h2⟩

theorem Buf.str {n : Nat} {h : AHeap} {v : AV} {l : List UInt8} (B : Buf n h v l) {K : List UInt8 → Prop} (hk : K l) : pBytesStr v h K := by
  unfold pBytesStr slCells
  rcases B with ⟨rfl, rfl⟩ | ⟨id, b, h1, h2, rfl, h4, h5, h6, h7, h8⟩
  · exact ⟨rfl, hk⟩
  · refine .inr ⟨b, h2, ⟨h6, by simp [h4], by simp⟩, ?_, ?_⟩
    · simp only [h4, List.drop_zero, Nat.mul_one]; rw [List.take_of_length_le (by simp)]; exact byteAV_isByte l
    · simp only [h4, List.drop_zero, Nat.mul_one]; rw [List.take_of_length_le (by simp), toBytes_map]; exact hk

theorem Buf.append {n : Nat} {h : AHeap} {v x : AV} {l t : List UInt8} (B : Buf n h v l) (hn : n ≤ h.length) {K : AV → AHeap → Prop}
    (hx : ∀ K : List AV → Nat → Prop, K (t.map byteAV) t.length → newsOf 1 x h K) (hlen : l.length + t.length ≤ 140737488355328)
    (hk : ∀ v' h', h.length ≤ h'.length → (∀ id, id < n → h'[id]? = h[id]?) → Buf n h' v' (l ++ t) → K v' h') : pAppend ty 1 1 v x h K := by
  refine ⟨Nat.one_pos, hx _ ?_⟩
  rcases B with ⟨rfl, rfl⟩ | ⟨id, b, h1, h2, rfl, h4, h5, h6, h7, h8⟩
  · refine ⟨by simpa using hlen, by have := hlen; simp at this; omega, ?_⟩
    split
    · rename_i h0
      have : t = [] := List.eq_nil_of_length_eq_zero h0
      subst this
      exact hk _ _ (Nat.le_refl _) (fun _ _ => rfl) (.inl ⟨rfl, rfl⟩)
    · refine hk _ _ (by simp) (fun id hi => by rw [List.getElem?_append_left (by omega)]) (.inr ⟨h.length, newBlk (t.map byteAV) 1 false ty, hn, by simp, by simp, rfl, rfl, by simp [newBlk], rfl, rfl⟩)
  · have hid : id < h.length := by rcases Nat.lt_or_ge id h.length with h' | h'; exact h'; rw [List.getElem?_eq_none h'] at h2; cases h2
    refine ⟨by omega, by omega, b, h2, h5, ⟨h6, by simp [h4], by simp⟩, ?_⟩
    have hcells : (List.take (l.length * 1) (List.drop 0 b.cells)) = l.map byteAV := by
      rw [h4, List.drop_zero, Nat.mul_one, List.take_of_length_le (by simp)]
    by_cases ht : t.length = 0
    · have : t = [] := List.eq_nil_of_length_eq_zero ht
      subst this
      refine .inl ⟨ht, hk _ _ (Nat.le_refl _) (fun _ _ => rfl) ?_⟩
      rw [List.append_nil]
      exact .inr ⟨id, b, h1, h2, rfl, h4, h5, h6, h7, h8⟩
    · have htp : 0 < t.length := Nat.pos_of_ne_zero ht
      cases hex : b.ex with
      | true =>
        refine .inr (.inl ⟨htp, .inr ⟨rfl, by simp [h4], rfl, by simp [h4]; omega⟩, ?_⟩)
        rw [hcells]
        refine hk _ _ (by simp) (fun id hi => by rw [List.getElem?_append_left (by omega)]) (.inr ⟨h.length, newBlk (l.map byteAV ++ t.map byteAV) 1 false ty, hn, by simp, by simp, by simp [newBlk], rfl, by simp [newBlk], rfl, rfl⟩)
      | false =>
        refine .inr (.inr (.inr (.inl ⟨htp, h7, by simp [h4], rfl, by simp [h4], rfl, rfl, h8, byteAV_cellOK t, ?_⟩)))
        refine hk _ _ (by simp) (fun j hj => by rw [List.getElem?_set_ne (by simp only; omega)]) (.inr ⟨id, { b with cells := b.cells ++ t.map byteAV, ty := sameTy b.ty ty }, h1, by simp [hid, hex], by simp [h4], by simp [h4], h5, by simp; omega, h7, h8⟩)

theorem byteAV_wrap {n : Int} (h0 : 0 ≤ n) (h1 : n < 256) : AV.i .u8 n = byteAV (UInt8.ofNat n.toNat) := by
  unfold byteAV
  congr 1
  rw [UInt8.toNat_ofNat']
  omega

/-- append(b, c) -/
theorem Buf.push {n : Nat} {h : AHeap} {v : AV} {l : List UInt8} (B : Buf n h v l) (hn : n ≤ h.length) {c : Int} {K : AV → AHeap → Prop} (h0 : 0 ≤ c) (h1 : c < 256) (hlen : l.length < 140737488355328)
    (hk : ∀ v' h', n ≤ h'.length → (∀ id, id < n → h'[id]? = h[id]?) → Buf n h' v' (l ++ [UInt8.ofNat c.toNat]) → K v' h') :
    pBuildSl 1 1 [.i .u8 0] [(0, 1, .i .u8 c)] h fun x h' => pAppend ty 1 1 v x h' K := by
  have hb := byteAV_wrap h0 h1
  refine ⟨rfl, ?_⟩
  show pAppend ty 1 1 v (.sl (some ⟨h.length, 1, 0⟩) 1 none) (h ++ [newBlk [AV.i .u8 c] 1 true]) K
  have B' : Buf n (h ++ [newBlk [AV.i .u8 c] 1 true]) v l := by
    rcases B with h | ⟨id, b, h1, h2, h3⟩
    · exact .inl h
    · refine .inr ⟨id, b, h1, ?_, h3⟩
      rw [List.getElem?_append_left]
      · exact h2
      · rcases Nat.lt_or_ge id h.length with h' | h'; exact h'; rw [List.getElem?_eq_none h'] at h2; cases h2
  refine B'.append (t := [UInt8.ofNat c.toNat]) (by simp; omega) (fun K' hK => ?_) (by simp; omega) fun v' h' g1 g2 g3 => hk v' h' (by simp at g1; omega) (fun id hi => by rw [g2 id hi, List.getElem?_append_left (by omega)]) g3
  refine .inr ⟨newBlk [AV.i .u8 c] 1 true, by simp, ⟨by simp [newBlk], by simp [newBlk], by simp⟩, ?_⟩
  simpa [newBlk, hb] using hK

theorem wrap_i64 {n : Int} (h0 : -9223372036854775808 ≤ n) (h1 : n < 9223372036854775808) : IntKind.wrap .i64 n = n := by
  have e1 : (2 : Int) ^ 64 = 18446744073709551616 := by decide
  have e2 : (2 : Int) ^ (64 - 1) = 9223372036854775808 := by decide
  simp only [IntKind.wrap, IntKind.bits, IntKind.signed, Bool.true_and, decide_eq_true_eq, e1, e2]
  split <;> omega
theorem getD_some {α : Type} {l : List α} {i : Nat} {c d : α} (hc : l[i]? = some c) : l.getD i d = c := by
  rw [List.getD_eq_getElem?_getD, hc]; rfl

theorem idxStr {l : List UInt8} {k : IntKind} {i : Nat} {c : UInt8} {K : Int → Prop} (hc : l[i]? = some c) (hk : K (c.toNat : Int)) : pIdxStr (.s l) (.i k (i : Int)) K := by
  obtain ⟨hlt, _⟩ := List.getElem?_eq_some_iff.1 hc
  refine ⟨by omega, by simpa using hlt, ?_⟩
  rw [Int.toNat_natCast, getD_some hc]
  exact hk

theorem bif_t {c : Bool} {A B : Prop} (hc : c = true) (h : A) : (bif c then A else B) := by rw [hc]; exact h
theorem bif_f {c : Bool} {A B : Prop} (hc : c = false) (h : B) : (bif c then A else B) := by rw [hc]; exact h
theorem bif_both {c : Bool} {A B : Prop} (h1 : c = true → A) (h2 : c = false → B) : (bif c then A else B) := by
  cases c
  · exact h2 rfl
  · exact h1 rfl

theorem withI_is {e n : Int} {K : Int → Prop} (h : e = n) (hk : K n) : withI e K := by subst h; exact hk
end Go.GAM

/- Functions without a body: what bytealg's answer. -/
set_option linter.unusedVariables false
set_option linter.unusedSimpArgs false
namespace Go.GAM

section
variable {P : Program}

end
end Go.GAM

/- Steps for proofs over the texts: records, arrays, slices that are read. -/
set_option linter.unusedVariables false
set_option linter.unusedSimpArgs false
namespace Go.GAM
variable {ty : Option TypeId}

/-- All blocks but those of M are as they were. -/
def Upd (M : Nat → Prop) (h h' : AHeap) : Prop := h.length ≤ h'.length ∧ ∀ i, i < h.length → ¬ M i → h'[i]? = h[i]?

theorem Upd.refl (M : Nat → Prop) (h : AHeap) : Upd M h h := ⟨Nat.le_refl _, fun _ _ _ => rfl⟩
theorem Upd.trans {M M' : Nat → Prop} {h h1 h2 : AHeap} (a : Upd M h h1) (b : Upd M' h1 h2) (hM : ∀ i, i < h.length → M' i → M i) : Upd M h h2 :=
  ⟨Nat.le_trans a.1 b.1, fun i hi hn => (b.2 i (Nat.lt_of_lt_of_le hi a.1) fun hm => hn (hM i hi hm)).trans (a.2 i hi hn)⟩
theorem Upd.mono {M M' : Nat → Prop} {h h1 : AHeap} (a : Upd M h h1) (hM : ∀ i, i < h.length → M i → M' i) : Upd M' h h1 :=
  ⟨a.1, fun i hi hn => a.2 i hi fun hm => hn (hM i hi hm)⟩
theorem Upd.app (h s : AHeap) : Upd (fun _ => False) h (h ++ s) := ⟨by simp, fun i hi _ => by rw [List.getElem?_append_left hi]⟩
theorem Upd.set (h : AHeap) (id : Nat) (b : ABlk) : Upd (· = id) h (h.set id b) := ⟨by simp, fun i hi hn => by rw [List.getElem?_set_ne (fun e => hn e.symm)]⟩

theorem lt_of_some {α : Type} {l : List α} {i : Nat} {a : α} (h : l[i]? = some a) : i < l.length := (List.getElem?_eq_some_iff.1 h).1

/-! ### records -/

def RecAt (h : AHeap) (id : Nat) (cs : List AV) : Prop := ∃ b : ABlk, h[id]? = some b ∧ b.cells = cs ∧ b.floor ≤ cs.length ∧ b.ro = false

theorem RecAt.lt {h : AHeap} {id : Nat} {cs : List AV} (R : RecAt h id cs) : id < h.length := by obtain ⟨b, h1, _⟩ := R; exact lt_of_some h1
theorem RecAt.upd {M : Nat → Prop} {h h' : AHeap} {id : Nat} {cs : List AV} (R : RecAt h id cs) (U : Upd M h h') (hM : ¬ M id) : RecAt h' id cs := by
  have hl := R.lt
  obtain ⟨b, h1, h2⟩ := R
  exact ⟨b, (U.2 id hl hM).trans h1, h2⟩

theorem st_load {h : AHeap} {id n o : Nat} {cs : List AV} {v : AV} {K : AV → Prop} (R : RecAt h id cs) (hn : n = cs.length) (hc : cs[o]? = some v) (hk : K v) : pLoad1 (.p (some ⟨id, n, o⟩)) h K := by
  obtain ⟨b, h1, rfl, h3, h4⟩ := R
  subst hn
  have := lt_of_some hc
  refine ⟨b, h1, ⟨h3, Nat.le_refl _, this⟩, ?_⟩
  show K (b.cells.getD o .u)
  rw [getD_some hc]; exact hk
theorem st_store {h : AHeap} {id n o : Nat} {cs : List AV} {v : AV} {K : AHeap → Prop} (R : RecAt h id cs) (hn : n = cs.length) (ho : o < cs.length) (hv : v.parts = [v] := by rfl) (hs : v.sizeOK = true := by rfl) (hc : v.cellOK = true := by rfl)
    (hk : ∀ h', h'.length = h.length → Upd (· = id) h h' → RecAt h' id (cs.set o v) → K h') : pStore 1 (.p (some ⟨id, n, o⟩)) v h K := by
  have hl := R.lt
  obtain ⟨b, h1, rfl, h3, h4⟩ := R
  subst hn
  refine ⟨b, h1, h4, h3, rfl, (by show o + 1 ≤ b.cells.length; omega), hs, by rw [hv]; rfl, by rw [hv]; simp [hc], ?_⟩
  refine hk _ (by simp) (Upd.set _ _ _) ⟨_, List.getElem?_set_self hl, ?_, ?_, h4⟩
  · rw [hv]; rfl
  · simp
theorem st_alloc {cells : List AV} {h : AHeap} {K : AV → AHeap → Prop} (hk : ∀ h', h'.length = h.length + 1 → Upd (fun _ => False) h h' → RecAt h' h.length cells → K (.p (some ⟨h.length, cells.length, 0⟩)) h') : pAlloc ty cells h K :=
  hk _ (by simp) (Upd.app _ _) ⟨newBlk cells 1 true ty, by simp, rfl, Nat.le_refl _, rfl⟩
theorem st_asI {k : IntKind} {n : Int} {K : Int → Prop} (hk : K n) : asI k (.i k n) K := by cases k <;> exact hk
theorem st_asB {n : Bool} {K : Bool → Prop} (hk : K n) : asB (.b n) K := hk
theorem st_asS {n : List UInt8} {K : List UInt8 → Prop} (hk : K n) : asS (.s n) K := hk
theorem wr_all : ∀ (ws pre cs : List AV), ws.length = cs.length → wr (pre ++ cs) pre.length ws = pre ++ ws
  | [], pre, cs, h => by
    have : cs = [] := List.eq_nil_of_length_eq_zero (by simpa using h.symm)
    subst this; simp [wr]
  | w :: ws, pre, [], h => by simp at h
  | w :: ws, pre, c :: cs, h => by
    simp only [wr]
    have e : (pre ++ c :: cs).set pre.length w = (pre ++ [w]) ++ cs := by simp
    rw [e]
    have := wr_all ws (pre ++ [w]) cs (by simpa using h)
    simpa using this
theorem st_loadN {h : AHeap} {id n : Nat} {cs : List AV} {K : AV → Prop} (R : RecAt h id cs) (hn : n = cs.length) (hk : K (.ag cs)) : pLoadN n (.p (some ⟨id, n, 0⟩)) h K := by
  obtain ⟨b, h1, rfl, h3, h4⟩ := R
  subst hn
  refine ⟨b, h1, ⟨h3, Nat.le_refl _, by simp⟩, ?_⟩
  simpa using hk
theorem st_storeN {h : AHeap} {id n : Nat} {cs ws : List AV} {K : AHeap → Prop} (R : RecAt h id cs) (hn : n = cs.length) (hw : ws.length = n) (hc : ws.all AV.cellOK = true)
    (hk : ∀ h', h'.length = h.length → Upd (· = id) h h' → RecAt h' id ws → K h') : pStore n (.p (some ⟨id, n, 0⟩)) (.ag ws) h K := by
  have hl := R.lt
  obtain ⟨b, h1, rfl, h3, h4⟩ := R
  subst hn
  refine ⟨b, h1, h4, h3, rfl, (by show 0 + b.cells.length ≤ b.cells.length; omega), rfl, hw, hc, ?_⟩
  refine hk _ (by simp) (Upd.set _ _ _) ⟨_, List.getElem?_set_self hl, ?_, ?_, h4⟩
  · exact wr_all ws [] b.cells hw
  · rw [hw]; exact Nat.le_refl _

/-! ### slices -/

def SlAt (v : AV) (id : Nat) : Prop := match v with
  | .sl (some a) _ _ => a.id = id
  | _ => False

/-- A slice that may be read: its cells, its length. -/
def Rd (sz : Nat) (h : AHeap) (v : AV) (cs : List AV) (len : Nat) : Prop :=
  (v = .sl none 0 none ∧ len = 0 ∧ cs = []) ∨ ∃ id ver off cap b, v = .sl (some ⟨id, ver, off⟩) len cap ∧ h[id]? = some b ∧ b.sz = sz ∧ b.floor ≤ ver ∧ ver ≤ b.cells.length ∧ off + len * sz ≤ ver ∧ (b.cells.drop off).take (len * sz) = cs

theorem Rd.upd {sz : Nat} {M : Nat → Prop} {h h' : AHeap} {v : AV} {cs : List AV} {len : Nat} (R : Rd sz h v cs len) (U : Upd M h h') (hM : ∀ id, SlAt v id → ¬ M id) : Rd sz h' v cs len := by
  rcases R with h1 | ⟨id, ver, off, cap, b, rfl, h2, h3⟩
  · exact .inl h1
  · exact .inr ⟨id, ver, off, cap, b, rfl, (U.2 id (lt_of_some h2) (hM id rfl)).trans h2, h3⟩
theorem Rd.lt {sz : Nat} {h : AHeap} {v : AV} {cs : List AV} {len : Nat} (R : Rd sz h v cs len) {id : Nat} (hs : SlAt v id) : id < h.length := by
  rcases R with ⟨rfl, _⟩ | ⟨id', ver, off, cap, b, rfl, h2, h3⟩
  · exact hs.elim
  · cases hs; exact lt_of_some h2
theorem Rd.length {sz : Nat} {h : AHeap} {v : AV} {cs : List AV} {len : Nat} (R : Rd sz h v cs len) : cs.length = len * sz := by
  rcases R with ⟨_, rfl, rfl⟩ | ⟨id, ver, off, cap, b, rfl, h2, h3, h4, h5, h6, rfl⟩
  · simp
  · simp; omega
theorem Rd.sl {sz : Nat} {h : AHeap} {v : AV} {cs : List AV} {len : Nat} (R : Rd sz h v cs len) {K : List AV → Prop} (hk : K cs) : slCells sz v h K := by
  rcases R with ⟨rfl, rfl, rfl⟩ | ⟨id, ver, off, cap, b, rfl, h2, h3, h4, h5, h6, rfl⟩
  · exact hk
  · exact .inr ⟨b, h2, ⟨h4, h5, h6⟩, hk⟩
theorem Rd.len {sz : Nat} {h : AHeap} {v : AV} {cs : List AV} {len : Nat} (R : Rd sz h v cs len) {K : Int → Prop} (hk : K len) : pLenSl v K := by
  rcases R with ⟨rfl, rfl, rfl⟩ | ⟨id, ver, off, cap, b, rfl, h2⟩ <;> exact hk
theorem Rd.news {sz : Nat} {h : AHeap} {v : AV} {cs : List AV} {len : Nat} (R : Rd sz h v cs len) {K : List AV → Nat → Prop} (hk : K cs len) : newsOf sz v h K := by
  rcases R with ⟨rfl, rfl, rfl⟩ | ⟨id, ver, off, cap, b, rfl, h2, h3, h4, h5, h6, rfl⟩
  · exact hk
  · exact .inr ⟨b, h2, ⟨h4, h5, h6⟩, hk⟩

/-- The same, its place known. -/
structure RdAt (sz : Nat) (h : AHeap) (id ver off : Nat) (b : ABlk) (cs : List AV) (len : Nat) : Prop where
  blk : h[id]? = some b
  siz : b.sz = sz
  flo : b.floor ≤ ver
  vle : ver ≤ b.cells.length
  end_ : off + len * sz ≤ ver
  cel : (b.cells.drop off).take (len * sz) = cs

theorem RdAt.rd {sz : Nat} {h : AHeap} {id ver off : Nat} {b : ABlk} {cs : List AV} {len : Nat} (R : RdAt sz h id ver off b cs len) (cap : Option Nat) : Rd sz h (.sl (some ⟨id, ver, off⟩) len cap) cs len :=
  .inr ⟨id, ver, off, cap, b, rfl, R.1, R.2, R.3, R.4, R.5, R.6⟩
theorem RdAt.upd {sz : Nat} {M : Nat → Prop} {h h' : AHeap} {id ver off : Nat} {b : ABlk} {cs : List AV} {len : Nat} (R : RdAt sz h id ver off b cs len) (U : Upd M h h') (hM : ¬ M id) : RdAt sz h' id ver off b cs len :=
  ⟨(U.2 id (lt_of_some R.1) hM).trans R.1, R.2, R.3, R.4, R.5, R.6⟩
theorem RdAt.lt {sz : Nat} {h : AHeap} {id ver off : Nat} {b : ABlk} {cs : List AV} {len : Nat} (R : RdAt sz h id ver off b cs len) : id < h.length := lt_of_some R.1
theorem st_idx {sz : Nat} {h : AHeap} {id ver off : Nat} {b : ABlk} {cs : List AV} {len : Nat} {cap : Option Nat} {k : IntKind} {i : Nat} {K : AV → Prop} (R : RdAt sz h id ver off b cs len) (hi : i < len) (hk : K (.p (some ⟨id, ver, off + i * sz⟩))) :
    pIdxAddrSl sz (.sl (some ⟨id, ver, off⟩) len cap) (.i k (i : Int)) h K :=
  ⟨by omega, by omega, ⟨b, R.1, R.3, Nat.le_trans R.3 R.4⟩, by simpa using hk⟩
theorem st_elem {sz : Nat} {h : AHeap} {id ver off : Nat} {b : ABlk} {cs : List AV} {len i o : Nat} {c : AV} {K : AV → Prop} (R : RdAt sz h id ver off b cs len) (hi : i < len) (ho : o < sz) (hc : cs[i * sz + o]? = some c) (hk : K c) : pLoad1 (.p (some ⟨id, ver, off + i * sz + o⟩)) h K := by
  have h1 : (i + 1) * sz ≤ len * sz := Nat.mul_le_mul_right _ hi
  rw [Nat.add_mul] at h1
  have h2 := R.end_
  refine ⟨b, R.1, ⟨R.3, R.4, by simp only; omega⟩, ?_⟩
  have h3 := R.cel
  rw [← h3, List.getElem?_take_of_lt (by omega), List.getElem?_drop] at hc
  show K (b.cells.getD (off + i * sz + o) .u)
  rw [getD_some (show b.cells[off + i * sz + o]? = some c by rw [← hc]; congr 1; omega)]
  exact hk

/-- An array of one's own that may be appended to. -/
def Arr (sz : Nat) (h : AHeap) (v : AV) (cs : List AV) (len : Nat) : Prop :=
  (v = .sl none 0 none ∧ len = 0 ∧ cs = []) ∨ ∃ id b, v = .sl (some ⟨id, cs.length, 0⟩) len none ∧ h[id]? = some b ∧ b.cells = cs ∧ cs.length = len * sz ∧ b.sz = sz ∧ b.floor ≤ cs.length ∧ b.ro = false ∧ b.gl = false

theorem Arr.nil (sz : Nat) (h : AHeap) : Arr sz h (.sl none 0 none) [] 0 := .inl ⟨rfl, rfl, rfl⟩
theorem Arr.rd {sz : Nat} {h : AHeap} {v : AV} {cs : List AV} {len : Nat} (A : Arr sz h v cs len) : Rd sz h v cs len := by
  rcases A with h1 | ⟨id, b, rfl, h2, rfl, h4, h5, h6, h7⟩
  · exact .inl h1
  · refine .inr ⟨id, _, 0, none, b, rfl, h2, h5, h6, Nat.le_refl _, by omega, ?_⟩
    rw [List.drop_zero, ← h4, List.take_length]
theorem Arr.upd {sz : Nat} {M : Nat → Prop} {h h' : AHeap} {v : AV} {cs : List AV} {len : Nat} (A : Arr sz h v cs len) (U : Upd M h h') (hM : ∀ id, SlAt v id → ¬ M id) : Arr sz h' v cs len := by
  rcases A with h1 | ⟨id, b, rfl, h2, h3⟩
  · exact .inl h1
  · exact .inr ⟨id, b, rfl, (U.2 id (lt_of_some h2) (hM id rfl)).trans h2, h3⟩

theorem Arr.append {sz bytes : Nat} {h : AHeap} {v x : AV} {cs ns : List AV} {len k : Nat} (A : Arr sz h v cs len) (hz : 0 < sz) {K : AV → AHeap → Prop}
    (hx : ∀ K : List AV → Nat → Prop, K ns k → newsOf sz x h K) (hns : ns.length = k * sz) (hok : ns.all AV.cellOK = true) (hlen : (len + k) * bytes ≤ 140737488355328) (hl2 : len + k ≤ 9223372036854775807)
    (hk : ∀ v' h', Upd (SlAt v) h h' → Arr sz h' v' (cs ++ ns) (len + k) → (∀ id, SlAt v' id → SlAt v id ∨ h.length ≤ id) → K v' h') : pAppend ty sz bytes v x h K := by
  refine ⟨hz, hx _ ?_⟩
  rcases A with ⟨rfl, rfl, rfl⟩ | ⟨id, b, rfl, h2, rfl, h4, h5, h6, h7, h8⟩
  · refine ⟨by simpa using hlen, by omega, ?_⟩
    split
    · rename_i h0
      subst h0
      have : ns = [] := List.eq_nil_of_length_eq_zero (by simpa using hns)
      subst this
      exact hk _ _ (Upd.refl _ _) (.inl ⟨rfl, rfl, rfl⟩) fun id hi => .inl hi
    · refine hk _ _ ((Upd.app _ _).mono fun _ _ h => h.elim) (.inr ⟨h.length, newBlk ns sz false ty, by simp, by simp, rfl, by simpa using hns, rfl, Nat.le_refl _, rfl, rfl⟩) fun id hi => .inr (by cases hi; exact Nat.le_refl _)
  · have hid := lt_of_some h2
    refine ⟨hlen, by omega, b, h2, h5, ⟨h6, Nat.le_refl _, by simp only; omega⟩, ?_⟩
    have hcells : (b.cells.drop 0).take (len * sz) = b.cells := by rw [List.drop_zero, ← h4, List.take_length]
    by_cases ht : k = 0
    · subst ht
      have : ns = [] := List.eq_nil_of_length_eq_zero (by simpa using hns)
      subst this
      refine .inl ⟨rfl, hk _ _ (Upd.refl _ _) ?_ fun id hi => .inl hi⟩
      rw [List.append_nil]
      exact .inr ⟨id, b, rfl, h2, rfl, h4, h5, h6, h7, h8⟩
    · have htp : 0 < k := Nat.pos_of_ne_zero ht
      have hmul : (len + k) * sz = len * sz + k * sz := Nat.add_mul _ _ _
      cases hex : b.ex with
      | true =>
        have hkz : 0 < k * sz := Nat.mul_pos htp hz
        refine .inr (.inl ⟨htp, .inr ⟨rfl, rfl, rfl, by simp only; omega⟩, ?_⟩)
        rw [hcells]
        refine hk _ _ ((Upd.app _ _).mono fun _ _ h => h.elim) (.inr ⟨h.length, newBlk (b.cells ++ ns) sz false ty, rfl, by simp, rfl, by simp [newBlk, hns, h4, hmul], rfl, by simp [newBlk], rfl, rfl⟩) fun id hi => .inr (by cases hi; exact Nat.le_refl _)
      | false =>
        refine .inr (.inr (.inr (.inl ⟨htp, h7, rfl, rfl, h4.symm, rfl, rfl, h8, hok, ?_⟩)))
        refine hk _ _ ((Upd.set _ _ _).mono fun i _ h => h.symm) (.inr ⟨id, { b with cells := b.cells ++ ns, ty := sameTy b.ty ty }, rfl, by simp [hid, hex], rfl, by simp [hns, h4, hmul], h5, by simp; omega, h7, h8⟩) fun id hi => .inl hi

theorem st_build {sz len : Nat} {zeros cs : List AV} {parts : List (Nat × Nat × AV)} {h : AHeap} {K : AV → AHeap → Prop} (hf : fillA zeros parts = some cs) (hl : cs.length = len * sz)
    (hk : ∀ v h', h'.length = h.length + 1 → Upd (fun _ => False) h h' → Rd sz h' v cs len → (∀ id, SlAt v id → h.length ≤ id) → K v h') : pBuildSl sz len zeros parts h K := by
  unfold pBuildSl
  rw [hf]
  refine ⟨hl, hk _ _ (by simp) (Upd.app _ _) (.inr ⟨h.length, cs.length, 0, none, newBlk cs sz true, rfl, by simp, rfl, Nat.le_refl _, Nat.le_refl _, by omega, ?_⟩) fun id hi => by cases hi; exact Nat.le_refl _⟩
  simp [newBlk, ← hl]

/-- append(v, x): one element. -/
theorem Arr.push {sz bytes : Nat} {h : AHeap} {v x : AV} {cs zeros : List AV} {len : Nat} (A : Arr sz h v cs len) (hz : 0 < sz) {K : AV → AHeap → Prop} (hf : fillA zeros [(0, sz, x)] = some x.parts) (hxl : x.parts.length = sz) (hok : x.parts.all AV.cellOK = true)
    (hlen : (len + 1) * bytes ≤ 140737488355328) (hl2 : len + 1 ≤ 9223372036854775807)
    (hk : ∀ v' h', Upd (SlAt v) h h' → Arr sz h' v' (cs ++ x.parts) (len + 1) → (∀ id, SlAt v' id → SlAt v id ∨ h.length ≤ id) → K v' h') :
    pBuildSl sz 1 zeros [(0, sz, x)] h fun y h' => pAppend ty sz bytes v y h' K := by
  refine st_build hf (by omega) fun y h1 hl1 U1 R1 F1 => ?_
  refine (A.upd U1 fun _ _ h => h).append hz (ns := x.parts) (k := 1) (fun K hK => R1.news hK) (by omega) hok hlen hl2 fun v' h' U2 A2 F2 => hk v' h' ((U1.mono fun _ _ h => h.elim).trans U2 fun _ _ h => h) A2 fun id hi => ?_
  rcases F2 id hi with h | h
  · exact .inl h
  · exact .inr (by omega)

/-! ### slices of bytes -/

def Byt (h : AHeap) (v : AV) (l : List UInt8) : Prop := Rd 1 h v (l.map byteAV) l.length

theorem Byt.str {h : AHeap} {v : AV} {l : List UInt8} (B : Byt h v l) {K : List UInt8 → Prop} (hk : K l) : pBytesStr v h K := by
  refine Rd.sl B ⟨byteAV_isByte l, ?_⟩
  rw [toBytes_map]; exact hk


theorem Byt.drop {h : AHeap} {v : AV} {l : List UInt8} (B : Byt h v l) {n : Nat} (hn : n ≤ l.length) {K : AV → Prop}
    (hk : ∀ v', Byt h v' (l.drop n) → (∀ i, SlAt v' i → SlAt v i) → K v') : pSliceSl 1 v (some (.i .i64 n)) none none h K := by
  rcases B with ⟨rfl, h1, h2⟩ | ⟨id, ver, off, cap, b, rfl, h2, h3, h4, h5, h6, h7⟩
  · have hl : l = [] := by simpa using h1
    subst hl
    have hn0 : n = 0 := by simpa using hn
    subst hn0
    exact ⟨by simp, rfl, rfl, rfl, fun h => by simp at h, hk _ (.inl ⟨rfl, rfl, rfl⟩) (fun _ h => h)⟩
  · refine ⟨Nat.one_pos, fun h => by simp at h, by omega, by simp; omega, b, h2, by omega, h4, .inl h3, .inl (Nat.le_refl _), ?_⟩
    refine hk _ ?_ (fun _ h => h)
    refine .inr ⟨id, ver, off + n, cap.map (· - n), b, by simp, h2, h3, h4, h5, by simp; omega, ?_⟩
    rw [List.length_drop, Nat.mul_one, List.map_drop, ← h7, Nat.mul_one, List.drop_take, List.drop_drop]

end Go.GAM

/- The start: a world as it comes in, as blocks that are only read; a law's call. -/
set_option linter.unusedVariables false
set_option linter.unusedSimpArgs false
namespace Go.GAM
open Go.RowKit

def absV1 (w : World) (szOf : Nat → Nat) : Value → AV
  | .bool x => .b x
  | .int k n => .i k n
  | .string s => .s s.data.toList
  | .pointer none => .p none
  | .pointer (some a) => match w.shape? a.block, a.spot with
    | some (_, n), none => .p (some ⟨a.block, n, a.off⟩)
    | _, _ => .u
  | .slice none 0 0 => .sl none 0 none
  | .slice (some a) len cap => if cap = 0 then (if len = 0 then .sl (some ⟨w.heap.size, 0, 0⟩) 0 (some 0) else .u) else
    match w.shape? a.block, a.spot with
    | some (_, n), none => if len ≤ cap ∧ a.off + cap * szOf a.block ≤ n then .sl (some ⟨a.block, n, a.off⟩) len (some cap) else .u
    | _, _ => .u
  | .nilFunc => .nf
  | .nilIface => .ni
  | .map none => .mp none
  | _ => .u

def absV (w : World) (szOf : Nat → Nat) : Value → AV
  | .agg cs => .ag (cs.toList.map (absV1 w szOf))
  | .iface t v => .ifc t (absV1 w szOf v)
  | v => absV1 w szOf v

def blkC (w : World) (szOf : Nat → Nat) (B : Nat) : ABlk := match w.heap[B]? with
  | some (.cells c _ _) => ⟨c.toList.map (absV w szOf), szOf B, c.size, false, true, true, none, none⟩
  | _ => dead
def heapC (w : World) (szOf : Nat → Nat) : AHeap := (List.range w.heap.size).map (blkC w szOf) ++ [dead]
def muC (w : World) (szOf : Nat → Nat) : Mu := fun id ver =>
  if id = w.heap.size then (if ver = 0 then some ⟨0, 0, 0, 1⟩ else none) else
  match w.shape? id with
  | some (_, n) => if ver = n then some ⟨id, 0, n, szOf id⟩ else none
  | none => none
def ownC (w : World) : Nat → Option Nat := fun B => if (w.shape? B).isSome then some B else none

section
variable {w : World} {szOf : Nat → Nat}

theorem shape_some {B : Nat} {t : TypeId} {n : Nat} (h : w.shape? B = some (t, n)) : ∃ c fr, w.heap[B]? = some (.cells c t fr) ∧ c.size = n := by
  unfold World.shape? at h
  split at h
  · rename_i c el fr hh
    simp only [Option.some.injEq, Prod.mk.injEq] at h
    obtain ⟨rfl, rfl⟩ := h
    exact ⟨c, fr, hh, rfl⟩
  · cases h
theorem shape_lt {B : Nat} {x : TypeId × Nat} (h : w.shape? B = some x) : B < w.heap.size := by
  obtain ⟨c, fr, hh, _⟩ := shape_some (t := x.1) (n := x.2) h
  exact (Array.getElem?_eq_some_iff.1 hh).1
theorem muC_is {B : Nat} {t : TypeId} {n : Nat} (h : w.shape? B = some (t, n)) : muC w szOf B n = some ⟨B, 0, n, szOf B⟩ := by
  have := shape_lt h
  unfold muC
  rw [if_neg (by omega), h]
  simp

theorem absV1_rel (v : Value) : VRel (muC w szOf) (absV1 w szOf v) v := by
  cases v <;> first | exact .u _ | exact .b _ | exact .i _ _ | exact .s _ _ rfl | exact .nf | exact .ni | skip
  case pointer a =>
    cases a with
    | none => exact .pn
    | some a =>
      obtain ⟨B, off, spot⟩ := a
      simp only [absV1]
      split
      · rename_i t n hs
        exact .p _ _ _ (muC_is hs) (by simp)
      · exact .u _
  case slice a len cap =>
    cases a with
    | none =>
      cases len with
      | succ l => exact .u _
      | zero => cases cap with
        | succ c => exact .u _
        | zero => exact .sn
    | some a =>
      obtain ⟨B, off, spot⟩ := a
      simp only [absV1]
      split
      · rename_i hc
        subst hc
        split
        · rename_i hl
          subst hl
          exact .sl _ _ _ 0 _ ⟨0, 0, 0, 1⟩ (by unfold muC; simp) (Nat.le_refl _) (by simp) (by simp) (by simp) (by simp)
        · exact .u _
      · split
        · rename_i t n hs
          split
          · rename_i hl
            exact .sl _ _ _ cap _ _ (muC_is hs) hl.1 hl.2 (by simp) (by simp) (by simp)
          · exact .u _
        · exact .u _
  case map r => cases r <;> first | exact .mpn | exact .u _

theorem absV1s_rel : ∀ vs : List Value, VRels (muC w szOf) (vs.map (absV1 w szOf)) vs
  | [] => .nil
  | v :: vs => .cons _ _ _ _ (absV1_rel v) (absV1s_rel vs)
theorem absV_rel (v : Value) : VRel (muC w szOf) (absV w szOf v) v := by
  cases v <;> simp only [absV] <;> first | exact absV1_rel _ | exact .ag _ _ (absV1s_rel _) | exact .ifc _ _ _ (absV1_rel _)
theorem heapC_at {B : Nat} (h : B < w.heap.size) : (heapC w szOf)[B]? = some (blkC w szOf B) := by
  unfold heapC
  rw [List.getElem?_append_left (by simpa using h)]
  simp [h]
theorem heapC_len : (heapC w szOf).length = w.heap.size + 1 := by simp [heapC]

theorem canon_rel (w : World) (szOf : Nat → Nat) : Rel w (fun B => B < w.heap.size) (muC w szOf) (ownC w) (heapC w szOf) w where
  os := rfl
  tape := rfl
  output := rfl
  size0 := Nat.le_refl _
  fz := fun B hB => ⟨hB, rfl⟩
  ownlt := fun B id h => by
    unfold ownC at h
    split at h
    · rename_i hs
      obtain ⟨x, hx⟩ := Option.isSome_iff_exists.1 hs
      exact shape_lt hx
    · cases h
  mulen := fun id ver l h => by
    unfold muC at h
    split at h
    · rename_i he
      subst he
      exact ⟨dead, by simp [heapC], by simp [dead]⟩
    · split at h
      · rename_i t n hs
        obtain ⟨c, fr, hh, hc⟩ := shape_some hs
        refine ⟨blkC w szOf id, heapC_at (shape_lt hs), fun _ => ?_⟩
        split at h
        · rename_i hv
          unfold blkC
          rw [hh]
          simp [hv, hc]
        · cases h
      · cases h
  blk := fun id b hb hl => by
    rcases Nat.lt_or_ge id w.heap.size with hi | hi
    · rw [heapC_at hi] at hb
      cases hb
      unfold blkC at hl ⊢
      split at hl
      · rename_i c el fr hh
        have hs : w.shape? id = some (el, c.size) := by unfold World.shape?; rw [hh]
        refine ⟨⟨id, 0, c.size, szOf id⟩, ?_⟩
        have hlen : (c.toList.map (absV w szOf)).length = c.size := by simp
        refine { cur := by simp only [hlen]; exact muC_is hs, owned := by simp [ownC, hs], sz := rfl, len := by simp, ex := by simp, ro := by simp, gl := by simp, nomap := rfl, tyok := fun t ht => (by cases ht), row := ⟨c, el, fr, hh, by simp⟩, free := by simp, vers := fun ver h1 h2 l' hl' => ?_ }
        have hv : ver = c.size := by simp only [hlen] at h2; simp only at h1; omega
        subst hv
        rw [muC_is hs] at hl'
        cases hl'
        refine { own := by simp [ownC, hs], sz := rfl, le := Nat.le_refl _, base := fun _ => rfl, cells := fun j hj => ?_ }
        refine ⟨c[j], by simp [World.cell?, hh, hj], ?_⟩
        have e : (c.toList.map (absV w szOf)).getD j .u = absV w szOf c[j] := by simp [List.getD, hj]
        simp only [e]
        exact absV_rel _
      · exact absurd hl (by simp [dead])
    · exfalso
      rcases Nat.lt_or_ge id (w.heap.size + 1) with h2 | h2
      · have : id = w.heap.size := by omega
        subst this
        simp [heapC] at hb
        subst hb
        simp [dead] at hl
      · rw [List.getElem?_eq_none (by rw [heapC_len]; omega)] at hb; cases hb
  maps := fun id b es hb he => by
    exfalso
    have hm : b ∈ heapC w szOf := List.mem_of_getElem? hb
    unfold heapC at hm
    rcases List.mem_append.1 hm with h1 | h1
    · obtain ⟨B, _, rfl⟩ := List.mem_map.1 h1
      unfold blkC at he
      split at he <;> cases he
    · simp at h1; subst h1; cases he

end

def Yes : AV → AHeap → Prop := fun v _ => v = .b true
theorem kRet_yes {h0 h : AHeap} : kRet h0 Yes (.b true) h := .inl rfl

end Go.GAM

/- Arguments that are slices: what their reading says. -/
set_option linter.unusedVariables false
set_option linter.unusedSimpArgs false
namespace Go.GAM
open Go.RowKit Go.ChangeShapes

section
variable {H : Type} {enc : TypeId × Value → H} {P : Program} {w : World} {szOf : Nat → Nat}

theorem rows_cells {a : Addr} {sz : Nat} : ∀ (rows : List (List Value)) (k : Nat), (∀ i r, rows[i]? = some r → r.length = sz ∧ ∀ j, j < sz → w.cell? (a.add ((k + i) * sz + j)) = some (r.getD j undef)) →
    ∀ i, i < rows.flatten.length → w.cell? (a.add (k * sz + i)) = some (rows.flatten.getD i undef)
  | [], k, h, i, hi => by simp at hi
  | r :: rows, k, h, i, hi => by
    obtain ⟨h1, h2⟩ := h 0 r rfl
    rw [List.flatten_cons]
    by_cases hlt : i < sz
    · have := h2 i hlt
      rw [Nat.add_zero] at this
      rw [this, List.getD_eq_getElem?_getD, List.getD_eq_getElem?_getD, List.getElem?_append_left (by omega)]
    · have := rows_cells (a := a) (sz := sz) rows (k + 1) (fun j r hj => by
        have := h (j + 1) r (by simpa using hj)
        rw [show k + 1 + j = k + (j + 1) by omega]; exact this) (i - sz) (by simp at hi ⊢; omega)
      rw [show (k + 1) * sz + (i - sz) = k * sz + i by rw [Nat.add_mul]; omega] at this
      rw [this, List.getD_eq_getElem?_getD, List.getD_eq_getElem?_getD, List.getElem?_append_right (by omega), h1]

/-- What a law is told of a slice that came in. -/
def SArg (sz : Nat) (h : AHeap) (v : AV) (cs : List AV) (len : Nat) : Prop := Rd sz h v cs len ∨ (len = 0 ∧ cs = [] ∧ ∃ a c, v = .sl (some a) 0 c)

theorem SArg.len {sz : Nat} {h : AHeap} {v : AV} {cs : List AV} {len : Nat} (R : SArg sz h v cs len) {K : Int → Prop} (hk : K len) : pLenSl v K := by
  rcases R with R | ⟨rfl, _, a, c, rfl⟩
  · exact R.len hk
  · exact hk

theorem rows_len {sz : Nat} : ∀ rows : List (List Value), (∀ r ∈ rows, r.length = sz) → rows.flatten.length = rows.length * sz
  | [], _ => by simp
  | r :: rows, h => by
    rw [List.flatten_cons, List.length_append, rows_len rows fun r hr => h r (by simp [hr]), h r (by simp), List.length_cons, Nat.add_mul]; omega

theorem rows_take {sz : Nat} : ∀ (rows : List (List Value)) (n : Nat), (∀ r ∈ rows, r.length = sz) → rows.flatten.take (n * sz) = (rows.take n).flatten
  | [], n, _ => by simp
  | r :: rows, 0, _ => by simp
  | r :: rows, n + 1, h => by
    have h1 := h r (by simp)
    rw [List.take_succ_cons, List.flatten_cons, List.flatten_cons, ← rows_take rows n fun r hr => h r (by simp [hr]), List.take_append, h1]
    rw [List.take_of_length_le (by rw [h1, Nat.add_mul]; omega), show (n + 1) * sz - sz = n * sz by rw [Nat.add_mul]; omega]

end
end Go.GAM

/- A text that is built up byte by byte; a stack of values; calls of the library by contracts that are given. -/
set_option linter.unusedVariables false
set_option linter.unusedSimpArgs false
namespace Go.GAM
variable {ty : Option TypeId}
open Go.RowKit

theorem Upd.ext {h h' : AHeap} (U : Upd (fun _ => False) h h') : Ext h h' := ⟨U.1, fun i hi => U.2 i hi fun h => h⟩

/-- An array that is made since h0. -/
structure NewA (sz : Nat) (h0 h : AHeap) (v : AV) (cs : List AV) (len : Nat) : Prop where
  upd : Upd (fun _ => False) h0 h
  arr : Arr sz h v cs len
  new : ∀ i, SlAt v i → h0.length ≤ i

theorem NewA.append {sz bytes : Nat} {h0 h : AHeap} {v x : AV} {cs ns : List AV} {len k : Nat} (A : NewA sz h0 h v cs len) (hz : 0 < sz) {K : AV → AHeap → Prop}
    (hx : ∀ K : List AV → Nat → Prop, K ns k → newsOf sz x h K) (hns : ns.length = k * sz) (hok : ns.all AV.cellOK = true) (hlen : (len + k) * bytes ≤ 140737488355328) (hl2 : len + k ≤ 9223372036854775807)
    (hk : ∀ v' h', NewA sz h0 h' v' (cs ++ ns) (len + k) → Upd (SlAt v) h h' → K v' h') : pAppend ty sz bytes v x h K :=
  A.arr.append hz hx hns hok hlen hl2 fun v' h' U A' F => hk v' h' ⟨A.upd.trans U fun i hi hs => absurd (A.new i hs) (by omega), A', fun i hi => by
    rcases F i hi with h | h
    · exact A.new i h
    · exact Nat.le_trans A.upd.1 h⟩ U
theorem NewA.build {sz bytes n : Nat} {h0 h : AHeap} {v : AV} {cs ns zeros : List AV} {parts : List (Nat × Nat × AV)} {len : Nat} (A : NewA sz h0 h v cs len) (hz : 0 < sz) {K : AV → AHeap → Prop}
    (hf : fillA zeros parts = some ns) (hns : ns.length = n * sz) (hok : ns.all AV.cellOK = true) (hlen : (len + n) * bytes ≤ 140737488355328) (hl2 : len + n ≤ 9223372036854775807)
    (hk : ∀ v' h', NewA sz h0 h' v' (cs ++ ns) (len + n) → K v' h') : pBuildSl sz n zeros parts h fun y h' => pAppend ty sz bytes v y h' K := by
  refine st_build hf hns fun y h1 hl1 U1 R1 F1 => ?_
  have A1 : NewA sz h0 h1 v cs len := ⟨A.upd.trans U1 fun _ _ h => h, A.arr.upd U1 fun _ _ h => h, A.new⟩
  exact A1.append hz (fun K hK => R1.news hK) hns hok hlen hl2 fun v' h' A' _ => hk v' h' A'

/-- A text that is made since h0. -/
def Tx (h0 h : AHeap) (v : AV) (l : List UInt8) : Prop := NewA 1 h0 h v (l.map byteAV) l.length

theorem Tx.empty {h : AHeap} {K : AV → AHeap → Prop} (hk : ∀ v h', Tx h h' v [] → K v h') : pBuildSl 1 0 [] [] h K := by
  refine ⟨rfl, hk _ _ ⟨Upd.app _ _, .inr ⟨h.length, newBlk [] 1 true, rfl, by simp, rfl, rfl, rfl, Nat.le_refl _, rfl, rfl⟩, fun i hi => by cases hi; exact Nat.le_refl _⟩⟩
theorem Tx.push {h0 h : AHeap} {v : AV} {l : List UInt8} (A : Tx h0 h v l) {c : UInt8} {K : AV → AHeap → Prop} (hlen : l.length < 140737488355328) (hk : ∀ v' h', Tx h0 h' v' (l ++ [c]) → K v' h') :
    pBuildSl 1 1 [.i .u8 0] [(0, 1, .i .u8 (c.toNat : Int))] h fun y h' => pAppend ty 1 1 v y h' K := by
  refine NewA.build A (by decide) (ns := [byteAV c]) rfl rfl rfl (by omega) (by omega) fun v' h' A' => hk v' h' ?_
  unfold Tx
  rw [List.map_append, List.length_append]; exact A'
/-- The text is handed back as a string. -/
theorem Tx.ret {h0 h : AHeap} {v : AV} {l : List UInt8} (A : Tx h0 h v l) {Q : AV → AHeap → Prop} (hq : Q (.s l) h0) : pBytesStr v h fun x => kRet h0 Q (.s x) h :=
  Byt.str (l := l) A.arr.rd (kRet_pure rfl A.upd.ext hq)
theorem Tx.str {h0 h : AHeap} {v : AV} {l : List UInt8} (A : Tx h0 h v l) {K : List UInt8 → Prop} (hq : K l) : pBytesStr v h K := Byt.str (l := l) A.arr.rd hq

/-- One byte at a place. -/
theorem st_at {l r : List UInt8} {i : Nat} {c : UInt8} {K : Int → Prop} (h : l.drop i = c :: r) (hk : K (c.toNat : Int)) : pIdxStr (.s l) (.i .i64 (i : Int)) K := by
  refine idxStr ?_ hk
  have : (l.drop i)[0]? = some c := by rw [h]; rfl
  simpa using this
/-! ### a stack of values of one cell -/

def Stk (h : AHeap) (v : AV) (l : List AV) : Prop :=
  (v = .sl none 0 none ∧ l = []) ∨ ∃ id b, v = .sl (some ⟨id, b.cells.length, 0⟩) l.length none ∧ h[id]? = some b ∧ b.sz = 1 ∧ l.length ≤ b.cells.length ∧ b.cells.take l.length = l ∧ b.floor ≤ b.cells.length ∧ b.ro = false ∧ b.gl = false

theorem Stk.rd {h : AHeap} {v : AV} {l : List AV} (S : Stk h v l) : Rd 1 h v l l.length := by
  rcases S with ⟨rfl, rfl⟩ | ⟨id, b, rfl, h1, h2, h3, h4, h5, h6, h7⟩
  · exact .inl ⟨rfl, rfl, rfl⟩
  · exact .inr ⟨id, _, 0, none, b, rfl, h1, h2, h5, Nat.le_refl _, by omega, by rw [List.drop_zero, Nat.mul_one]; exact h4⟩
theorem Stk.upd {M : Nat → Prop} {h h' : AHeap} {v : AV} {l : List AV} (S : Stk h v l) (U : Upd M h h') (hM : ∀ i, SlAt v i → ¬ M i) : Stk h' v l := by
  rcases S with h1 | ⟨id, b, rfl, h1, h2⟩
  · exact .inl h1
  · exact .inr ⟨id, b, rfl, (U.2 id (lt_of_some h1) (hM id rfl)).trans h1, h2⟩
theorem Stk.cut {h : AHeap} {v : AV} {l : List AV} (S : Stk h v l) {n : Nat} (hn : n ≤ l.length) {K : AV → Prop} (hk : ∀ v', Stk h v' (l.take n) → (∀ i, SlAt v' i → SlAt v i) → K v') : pSliceSl 1 v none (some (.i .i64 n)) none h K := by
  rcases S with ⟨rfl, rfl⟩ | ⟨id, b, rfl, h1, h2, h3, h4, h5, h6, h7⟩
  · have : n = 0 := by simpa using hn
    subst this
    exact ⟨by simp, rfl, rfl, rfl, fun h => by simp at h, hk _ (.inl ⟨rfl, by simp⟩) fun _ h => h⟩
  · refine ⟨Nat.one_pos, fun h => by simp at h, by omega, by simp, b, h1, h5, h5, .inl h2, .inl (by simpa using hn), ?_⟩
    refine hk _ (.inr ⟨id, b, by simp; omega, h1, h2, by simp; omega, ?_, h5, h6, h7⟩) fun _ h => h
    rw [List.length_take, Nat.min_eq_left hn, ← h4, List.take_take, Nat.min_eq_left hn]
theorem Stk.push {bytes : Nat} {h : AHeap} {v x : AV} {l zeros : List AV} (S : Stk h v l) (hf : fillA zeros [(0, 1, x)] = some [x]) (hx : x.cellOK = true) (hlen : (l.length + 1) * bytes ≤ 140737488355328) (hl2 : l.length + 1 ≤ 9223372036854775807) {K : AV → AHeap → Prop}
    (hk : ∀ v' h', Upd (SlAt v) h h' → Stk h' v' (l ++ [x]) → (∀ i, SlAt v' i → SlAt v i ∨ h.length ≤ i) → K v' h') : pBuildSl 1 1 zeros [(0, 1, x)] h fun y h' => pAppend ty 1 bytes v y h' K := by
  refine st_build hf rfl fun y h1 hl1 U1 R1 F1 => ⟨Nat.one_pos, R1.news ?_⟩
  have S1 := S.upd U1 fun _ _ h => h
  rcases S1 with ⟨rfl, rfl⟩ | ⟨id, b, rfl, g1, g2, g3, g4, g5, g6, g7⟩
  · refine ⟨by simpa using hlen, by omega, ?_⟩
    rw [if_neg (by decide)]
    exact hk _ _ ((U1.mono fun _ _ h => h.elim).trans (Upd.app _ _) fun _ _ h => h.elim) (.inr ⟨h1.length, newBlk [x] 1 false ty, by simp [newBlk], by simp, rfl, by simp [newBlk], by simp [newBlk], by simp [newBlk], rfl, rfl⟩) fun i hi => .inr (by have e : h1.length = i := hi; omega)
  · have hid := lt_of_some g1
    have hidh : id < h.length := Rd.lt S.rd (id := id) rfl
    refine ⟨hlen, by omega, b, g1, g2, ⟨g5, Nat.le_refl _, by simp only; omega⟩, ?_⟩
    by_cases hfull : l.length = b.cells.length
    · cases hex : b.ex with
      | true =>
        refine .inr (.inl ⟨Nat.one_pos, .inr ⟨rfl, rfl, rfl, by simp only; omega⟩, ?_⟩)
        refine hk _ _ ((U1.mono fun _ _ h => h.elim).trans (Upd.app _ _) fun _ _ h => h.elim) (.inr ⟨h1.length, newBlk (l ++ [x]) 1 false ty, ?_, ?_, rfl, by simp [newBlk], by simp only [newBlk, List.length_append]; exact List.take_of_length_le (by simp), by simp [newBlk], rfl, rfl⟩) fun i hi => .inr (by have e : h1.length = i := hi; omega)
        · simp [newBlk, g4, g3]
        · simp [g4]
      | false =>
        refine .inr (.inr (.inr (.inl ⟨Nat.one_pos, g6, rfl, rfl, by omega, rfl, rfl, g7, by simp [hx], ?_⟩)))
        have hcl : b.cells = l := by rw [hfull, List.take_length] at g4; exact g4
        refine hk _ _ ((U1.mono fun _ _ h => h.elim).trans (Upd.set _ _ _) fun i _ h => h.symm) (.inr ⟨id, { b with cells := b.cells ++ [x], ty := sameTy b.ty ty }, ?_, by simp [hid, hex], g2, by simp; omega, ?_, by simp; omega, g6, g7⟩) fun i hi => .inl hi
        · simp
        · simp only [hcl]
          rw [List.take_of_length_le (by simp)]
    · refine .inr (.inr (.inl ⟨Nat.one_pos, g6, rfl, by simp only; omega, .inl rfl, by simp [hx], ?_⟩))
      refine hk _ _ ((U1.mono fun _ _ h => h.elim).trans (Upd.set _ _ _) fun i _ h => h.symm) (.inr ⟨id, { b with cells := wr b.cells (0 + l.length * 1) [x], floor := b.cells.length }, ?_, show (h1.set id _)[id]? = some _ from List.getElem?_set_self hid, g2, ?_, ?_, ?_, g6, g7⟩) fun i hi => .inl hi
      · simp [wr]
      · simp [wr]; omega
      · simp only [wr, Nat.zero_add, Nat.mul_one, List.length_append, List.length_cons, List.length_nil]
        apply List.ext_getElem?
        intro i
        by_cases h1 : i < l.length
        · rw [List.getElem?_take_of_lt (by omega), List.getElem?_set_ne (by omega), List.getElem?_append_left h1]
          conv => rhs; rw [← g4]
          rw [List.getElem?_take_of_lt h1]
        · by_cases h2 : i = l.length
          · subst h2
            rw [List.getElem?_take_of_lt (by omega), List.getElem?_set_self (by omega), List.getElem?_append_right (by omega)]
            simp
          · rw [List.getElem?_eq_none (by simp; omega), List.getElem?_eq_none (by simp; omega)]
      · simp [wr]

theorem Rd.cell {sz : Nat} {h : AHeap} {v : AV} {cs : List AV} {len : Nat} (R : Rd sz h v cs len) {k : IntKind} {i : Nat} {c : AV} (hz : 0 < sz) (hi : i < len) (hc : cs[i * sz]? = some c) {K : AV → Prop} (hk : K c) :
    pIdxAddrSl sz v (.i k (i : Int)) h fun a => pLoad1 a h K := by
  rcases R with ⟨rfl, rfl, rfl⟩ | ⟨id, ver, off, cap, b, rfl, h2, h3, h4, h5, h6, h7⟩
  · omega
  · have A : RdAt sz h id ver off b cs len := ⟨h2, h3, h4, h5, h6, h7⟩
    exact st_idx A hi (st_elem (o := 0) A hi hz (by simpa using hc) hk)

theorem Tx.load {h0 h : AHeap} {v : AV} {l : List UInt8} (A : Tx h0 h v l) {k : IntKind} {i : Nat} {c : UInt8} (hc : l[i]? = some c) {K : AV → Prop} (hk : K (.i .u8 (c.toNat : Int))) : pIdxAddrSl 1 v (.i k (i : Int)) h fun a => pLoad1 a h K :=
  Rd.cell A.arr.rd Nat.one_pos (lt_of_some hc) (by rw [Nat.mul_one, List.getElem?_map, hc]; rfl) hk

/-- A store into an array of one's own, one cell an element. -/
theorem Arr.store {h : AHeap} {v x : AV} {cs : List AV} {len : Nat} (A : Arr 1 h v cs len) {k : IntKind} {i : Nat} (hi : i < len) (hx : x.parts = [x]) (hs : x.sizeOK = true) (hc : x.cellOK = true) {K : AHeap → Prop}
    (hk : ∀ h', Upd (SlAt v) h h' → Arr 1 h' v (cs.set i x) len → K h') : pIdxAddrSl 1 v (.i k (i : Int)) h fun p => pStore 1 p x h K := by
  rcases A with ⟨rfl, rfl, rfl⟩ | ⟨id, b, rfl, h2, rfl, h4, h5, h6, h7, h8⟩
  · omega
  · have hid := lt_of_some h2
    refine ⟨by omega, by omega, ⟨b, h2, h6, h6⟩, ?_⟩
    refine ⟨b, h2, h7, h6, rfl, by simp only [Int.toNat_natCast]; omega, hs, by rw [hx]; rfl, by rw [hx]; simp [hc], ?_⟩
    refine hk _ ((Upd.set _ _ _).mono fun i _ h => h.symm) (.inr ⟨id, { b with cells := wr b.cells (0 + i * 1) x.parts, floor := b.cells.length }, ?_, ?_, ?_, ?_, h5, ?_, h7, h8⟩)
    · simp
    · simp only [Int.toNat_natCast]; exact List.getElem?_set_self hid
    · rw [hx]; simp [wr]
    · simpa using h4
    · simp
theorem Tx.store {h0 h : AHeap} {v : AV} {l : List UInt8} (A : Tx h0 h v l) {k : IntKind} {i : Nat} {c : UInt8} (hi : i < l.length) {K : AHeap → Prop} (hk : ∀ h', Tx h0 h' v (l.set i c) → K h') :
    pIdxAddrSl 1 v (.i k (i : Int)) h fun p => pStore 1 p (.i .u8 (c.toNat : Int)) h K := by
  refine A.arr.store hi rfl rfl rfl fun h' U A' => hk h' ⟨A.upd.trans U fun j hj hs => absurd (A.new j hs) (by omega), ?_, A.new⟩
  have e : (l.map byteAV).set i (.i .u8 (c.toNat : Int)) = (l.set i c).map byteAV := by rw [List.map_set]; rfl
  rw [e] at A'
  rw [List.length_set]; exact A'
/-! ### numbers -/

/-! ### calls by contracts -/

theorem x_calls {P : Program} {f : FuncId} {cargs : List Value} {w w0 : World} {Fz : Nat → Prop} {μ : Mu} {own : Nat → Option Nat} {h : AHeap} {K : AV → AHeap → Prop} {av : AV} {v : Value} (hb : bodyOK P f = true) (R : Rel w0 Fz μ own h w)
    (hc : Calls P f cargs.toArray w fun e w' => e = .returned v ∧ Below w.heap.size w w') (hv : VRel μ av v) (hk : K av h) : CallOK P f cargs w (PostOf w0 Fz μ K) := by
  refine .inl ⟨f, cargs.toArray, bodyOK_run hb _ _, hc.mono fun e w' ⟨he, hb⟩ => ⟨v, he, av, μ, own, h, hk, hv, ?_, Sub.refl _⟩⟩
  exact R.same (fun B hB => hb.block B hB) hb.size hb.os hb.tape hb.output

end Go.GAM

/- Arguments that are slices of strings, bytes, numbers: as lists. -/
set_option linter.unusedVariables false
set_option linter.unusedSimpArgs false
namespace Go.GAM
open Go.RowKit

section
variable {H : Type} {enc : TypeId × Value → H} {P : Program} {w : World} {szOf : Nat → Nat}

end

theorem SArg.rd {sz : Nat} {h : AHeap} {v : AV} {cs : List AV} {len : Nat} (S : SArg sz h v cs len) (hl : len ≠ 0) : Rd sz h v cs len := by
  rcases S with R | ⟨h1, _⟩
  · exact R
  · exact absurd h1 hl

theorem Rd.str {h : AHeap} {v : AV} {l : List (List UInt8)} {len : Nat} (R : Rd 1 h v (l.map .s) len) {k : IntKind} {i : Nat} {x : List UInt8} (hx : l[i]? = some x) {K : List UInt8 → Prop} (hk : K x) :
    pIdxAddrSl 1 v (.i k (i : Int)) h fun a => pLoad1 a h fun y => asS y K := by
  have hl := R.length
  rw [List.length_map, Nat.mul_one] at hl
  exact R.cell Nat.one_pos (by have := lt_of_some hx; omega) (c := .s x) (by rw [Nat.mul_one, List.getElem?_map, hx]; rfl) (st_asS hk)
theorem Rd.int {kd : IntKind} {h : AHeap} {v : AV} {l : List Int} {len : Nat} (R : Rd 1 h v (l.map (.i kd)) len) {k : IntKind} {i : Nat} {x : Int} (hx : l[i]? = some x) {K : Int → Prop} (hk : K x) :
    pIdxAddrSl 1 v (.i k (i : Int)) h fun a => pLoad1 a h fun y => asI kd y K := by
  have hl := R.length
  rw [List.length_map, Nat.mul_one] at hl
  exact R.cell Nat.one_pos (by have := lt_of_some hx; omega) (c := .i kd x) (by rw [Nat.mul_one, List.getElem?_map, hx]; rfl) (st_asI hk)
end Go.GAM

/- Slices that came in, where a block of the world is known: an empty one that is not nil is one at that block's end. Package variables that are laid. -/
set_option linter.unusedVariables false
set_option linter.unusedSimpArgs false
namespace Go.GAM
open Go.RowKit Go.ChangeShapes

section
variable {H : Type} {enc : TypeId × Value → H} {P : Program} {w : World} {szOf : Nat → Nat}

end

end Go.GAM

/- Counting up; stacks and arrays that are made; contracts' small change. -/
set_option linter.unusedVariables false
set_option linter.unusedSimpArgs false
namespace Go.GAM
variable {ty : Option TypeId}
open Go.RowKit

theorem inc {i : Nat} {K : Int → Prop} (h : i < 9223372036854775807) (hk : K ((i + 1 : Nat) : Int)) : withI (IntKind.wrap .i64 ((i : Int) + 1)) K :=
  withI_is (n := ((i + 1 : Nat) : Int)) (by rw [wrap_i64 (by omega) (by omega)]; omega) hk
theorem drop_of_at {α : Type} {l : List α} {i : Nat} {c : α} (h : l[i]? = some c) : l.drop i = c :: l.drop (i + 1) := by
  have hi := lt_of_some h
  rw [List.drop_eq_getElem_cons hi]
  rw [List.getElem?_eq_getElem hi] at h
  simp only [Option.some.injEq] at h
  rw [h]

/-- A stack that is made since h0. -/
structure NewS (h0 h : AHeap) (v : AV) (l : List AV) : Prop where
  upd : Upd (fun _ => False) h0 h
  stk : Stk h v l
  new : ∀ i, SlAt v i → h0.length ≤ i

theorem NewS.empty {h0 h : AHeap} (U : Upd (fun _ => False) h0 h) {K : AV → AHeap → Prop} (hk : ∀ v h', NewS h0 h' v [] → Upd (fun _ => False) h h' → (∀ i, SlAt v i → h.length ≤ i) → K v h') : pBuildSl 1 0 [] [] h K := by
  refine ⟨rfl, hk _ _ ⟨U.trans (Upd.app _ _) fun _ _ h => h, .inr ⟨h.length, newBlk [] 1 true, rfl, by simp, rfl, Nat.le_refl _, rfl, Nat.le_refl _, rfl, rfl⟩, fun i hi => ?_⟩ (Upd.app _ _) fun i hi => ?_⟩
  · cases hi; exact U.1
  · cases hi; exact Nat.le_refl _
theorem NewS.push {bytes : Nat} {h0 h : AHeap} {v x : AV} {l zeros : List AV} (S : NewS h0 h v l) (hf : fillA zeros [(0, 1, x)] = some [x]) (hx : x.cellOK = true) (hlen : (l.length + 1) * bytes ≤ 140737488355328) (hl2 : l.length + 1 ≤ 9223372036854775807) {K : AV → AHeap → Prop}
    (hk : ∀ v' h', NewS h0 h' v' (l ++ [x]) → Upd (SlAt v) h h' → (∀ i, SlAt v' i → SlAt v i ∨ h.length ≤ i) → K v' h') : pBuildSl 1 1 zeros [(0, 1, x)] h fun y h' => pAppend ty 1 bytes v y h' K :=
  S.stk.push hf hx hlen hl2 fun v' h' U S' F => hk v' h' ⟨S.upd.trans U fun i hi hs => absurd (S.new i hs) (by omega), S', fun i hi => by
    rcases F i hi with h | h
    · exact S.new i h
    · exact Nat.le_trans S.upd.1 h⟩ U F
theorem NewS.cut {h0 h : AHeap} {v : AV} {l : List AV} (S : NewS h0 h v l) {n : Nat} (hn : n ≤ l.length) {K : AV → Prop} (hk : ∀ v', NewS h0 h v' (l.take n) → (∀ i, SlAt v' i → SlAt v i) → K v') : pSliceSl 1 v none (some (.i .i64 n)) none h K :=
  S.stk.cut hn fun v' S' F => hk v' ⟨S.upd, S', fun i hi => S.new i (F i hi)⟩ F

theorem Arr.stk {h : AHeap} {v : AV} {l : List AV} {n : Nat} (A : Arr 1 h v l n) : n = l.length ∧ Stk h v l := by
  rcases A with ⟨rfl, rfl, rfl⟩ | ⟨id, b, rfl, h2, rfl, h4, h5, h6, h7, h8⟩
  · exact ⟨rfl, .inl ⟨rfl, rfl⟩⟩
  · have : n = b.cells.length := by omega
    subst this
    exact ⟨rfl, .inr ⟨id, b, rfl, h2, h5, Nat.le_refl _, by simp, h6, h7, h8⟩⟩

/-- A text of one byte that is made. -/
theorem Tx.one {h0 h : AHeap} (U : Upd (fun _ => False) h0 h) {c : UInt8} {K : AV → AHeap → Prop} (hk : ∀ v h', Tx h0 h' v [c] → Upd (fun _ => False) h h' → K v h') : pBuildSl 1 1 [.i .u8 0] [(0, 1, .i .u8 (c.toNat : Int))] h K := by
  refine ⟨rfl, hk _ _ ⟨U.trans (Upd.app _ _) fun _ _ h => h, .inr ⟨h.length, newBlk [byteAV c] 1 true, rfl, by simp [byteAV]; rfl, rfl, rfl, rfl, Nat.le_refl _, rfl, rfl⟩, fun i hi => ?_⟩ (Upd.app _ _)⟩
  cases hi; exact U.1
/-- append(v, w..) of bytes. -/
theorem Tx.app {h0 h : AHeap} {v w : AV} {l m : List UInt8} (A : Tx h0 h v l) (B : Byt h w m) (hlen : l.length + m.length < 1000000000) {K : AV → AHeap → Prop} (hk : ∀ v' h', Tx h0 h' v' (l ++ m) → Upd (SlAt v) h h' → K v' h') : pAppend ty 1 1 v w h K := by
  refine NewA.append A (by decide) (ns := m.map byteAV) (k := m.length) (fun K hK => Rd.news B hK) (by simp) (byteAV_cellOK m) (by omega) (by omega) fun v' h' A' U => hk v' h' ?_ U
  unfold Tx
  rw [List.map_append, List.length_append]; exact A'
theorem Tx.ext {h0 h h' : AHeap} {v : AV} {l : List UInt8} (A : Tx h0 h v l) (U : Upd (fun _ => False) h h') : Tx h0 h' v l := ⟨A.upd.trans U fun _ _ h => h, A.arr.upd U fun _ _ h => h, A.new⟩

/-! ### tuples -/

theorem st_ext0 {a : AV} {l : List AV} {K : AV → Prop} (hk : K a) : pExtract 0 (.tu (a :: l)) K := ⟨by simp, hk⟩
theorem st_ext1 {a b : AV} {l : List AV} {K : AV → Prop} (hk : K b) : pExtract 1 (.tu (a :: b :: l)) K := ⟨by simp, hk⟩
/-! ### bits and bytes -/

end Go.GAM

/- Shifts and bits of any numbers. -/
set_option linter.unusedVariables false
set_option linter.unusedSimpArgs false
namespace Go.GAM
open Go.RowKit

end Go.GAM

/- Maps with keys of one kind; functions without a body that only answer. -/
set_option linter.unusedVariables false
set_option linter.unusedSimpArgs false
set_option linter.unusedSectionVars false
namespace Go.GAM
open Go.RowKit

section
variable {P : Program} {α : Type} [DecidableEq α]

/-- A map's entries, its keys in plain words. -/
def entsOf (κ : α → AV) (kv : List (α × AV)) : List (AV × AV) := kv.map fun p => (κ p.1, p.2)
/-- A map. -/
def MapAt (κ : α → AV) (h : AHeap) (id : Nat) (kv : List (α × AV)) : Prop := h[id]? = some (mapBlk (entsOf κ kv))
theorem MapAt.lt {κ : α → AV} {h : AHeap} {id : Nat} {kv : List (α × AV)} (M : MapAt κ h id kv) : id < h.length := lt_of_some M
theorem MapAt.upd {κ : α → AV} {M : Nat → Prop} {h h' : AHeap} {id : Nat} {kv : List (α × AV)} (A : MapAt κ h id kv) (U : Upd M h h') (hM : ¬ M id) : MapAt κ h' id kv := (U.2 id A.lt hM).trans A

end

section
variable {P : Program}
end
end Go.GAM

/- The library's functions without a body that look at memory or write it: atomics, the marks for the search for races. -/
set_option linter.unusedVariables false
set_option linter.unusedSimpArgs false
namespace Go.GAM

def xSame (args : List AV) (h : AHeap) (K : AV → AHeap → Prop) : Prop :=
  match args with
  | [x] => K x h
  | _ => False

section
variable {P : Program} {w0 : World} {Fz : Nat → Prop} {μ : Mu} {own : Nat → Option Nat} {h : AHeap} {w : World}

theorem ext_run' {f : FuncId} {fn : Func} {ex : Array Value → Sem Value} (hf : P.funcs[f]? = some fn) (hn : (fn.name == "runtime.NumGoroutine") = false) (hb : fn.body.isNone = true)
    (h1 : Extern.findNext fn = none) (h2 : Extern.find fn = some ex) {args : Array Value} {v : Value} {w w' : World} (he : (ex args).run P w = .ok v w') : (callFunc f args).run P w = .ok (.value v) w' := by
  have hn' : fn.name ≠ "runtime.NumGoroutine" := by simpa using hn
  have hb' : fn.body = none := by simpa using hb
  have hm : ∀ (m : Mark) (k : Sem Unit) (w : World), Sem.run P (Sem.mark m k) w = Sem.run P k w := fun _ _ _ => rfl
  unfold callFunc
  simp [go_sem, hf, hn', hb', h1, h2, mark, hm, he]

/-- A function without a body that answers as a rule says. -/
def ExtOK (P : Program) (ex : Array Value → Sem Value) (X : List AV → AHeap → (AV → AHeap → Prop) → Prop) : Prop :=
  ∀ (w0 : World) (Fz : Nat → Prop) (μ : Mu) (own : Nat → Option Nat) (h : AHeap) (w : World) (args : List AV) (cargs : List Value) (K : AV → AHeap → Prop), Rel w0 Fz μ own h w → VRels μ args cargs → X args h K →
    ∃ cv w', (ex cargs.toArray).run P w = .ok cv w' ∧ PostOf w0 Fz μ K cv w'

/-- A program's function without a body. -/
structure ExtAt (P : Program) (f : FuncId) (ex : Array Value → Sem Value) : Prop where
  is : ∃ fn, P.funcs[f]? = some fn ∧ (fn.name == "runtime.NumGoroutine") = false ∧ fn.body.isNone = true ∧ Extern.findNext fn = none ∧ Extern.find fn = some ex

theorem ExtAt.sim {f : FuncId} {ex : Array Value → Sem Value} {X : List AV → AHeap → (AV → AHeap → Prop) → Prop} (A : ExtAt P f ex) (E : ExtOK P ex X) (hlt : f < yid0) {μb : Mu} {args : List AV} {h : AHeap} {K : AV → AHeap → Prop} (hk : X args h K) : SimAt P w0 Fz μb f args h K := by
  intro μ own w cargs hsb R hc
  rw [if_pos hlt]
  obtain ⟨fn, h1, h2, h3, h4, h5⟩ := A.is
  obtain ⟨cv, w', e1, e2⟩ := E w0 Fz μ own h w args cargs K R hc hk
  exact .inr ⟨cv, w', ext_run' h1 h2 h3 h4 h5 e1, e2⟩

theorem ext_same : ExtOK P Extern.AbiNoEscape.same xSame := by
  intro w0 Fz μ own h w args cargs K R hc hk
  unfold xSame at hk
  split at hk
  · rename_i x
    cases hc with | cons _ v _ _ hx t =>
    cases t
    exact ⟨v, w, rfl, _, μ, own, h, hk, hx, R, Sub.refl _⟩
  · exact hk.elim

end
end Go.GAM

/- strings.Builder: a variable of that type and its buffer, whose blocks keep their types. -/
set_option linter.unusedVariables false
set_option linter.unusedSimpArgs false
namespace Go.GAM

/-- A builder's buffer: nil, or a block of its own. -/
def TBuf (E : TypeId) (h : AHeap) (v : AV) (l : List UInt8) : Prop :=
  (v = .sl none 0 none ∧ l = []) ∨ ∃ id b, v = .sl (some ⟨id, l.length, 0⟩) l.length none ∧ h[id]? = some b ∧ b.cells = l.map byteAV ∧ b.sz = 1 ∧ b.floor ≤ l.length ∧ b.ro = false ∧ b.ex = false ∧ b.gl = false ∧ b.ty = some E ∧ l ≠ []

theorem TBuf.upd {E : TypeId} {M : Nat → Prop} {h h' : AHeap} {v : AV} {l : List UInt8} (B : TBuf E h v l) (U : Upd M h h') (hM : ∀ i, SlAt v i → ¬ M i) : TBuf E h' v l := by
  rcases B with B | ⟨id, b, rfl, h1, h2⟩
  · exact .inl B
  · exact .inr ⟨id, b, rfl, (U.2 id (lt_of_some h1) (hM id rfl)).trans h1, h2⟩
theorem TBuf.lt {E : TypeId} {h : AHeap} {v : AV} {l : List UInt8} (B : TBuf E h v l) {i : Nat} (hi : SlAt v i) : i < h.length := by
  rcases B with ⟨rfl, _⟩ | ⟨id, b, rfl, h1, h2⟩
  · exact hi.elim
  · cases hi; exact lt_of_some h1

theorem TBuf.append {E : TypeId} {h : AHeap} {v x : AV} {l t : List UInt8} (B : TBuf E h v l) (hx : ∀ K : List AV → Nat → Prop, K (t.map byteAV) t.length → newsOf 1 x h K) (hlen : l.length + t.length ≤ 140737488355328) {K : AV → AHeap → Prop}
    (hk : ∀ v' h', Upd (SlAt v) h h' → TBuf E h' v' (l ++ t) → (∀ i, SlAt v' i → SlAt v i ∨ h.length ≤ i) → K v' h') : pAppend (some E) 1 1 v x h K := by
  refine ⟨by decide, hx _ ?_⟩
  have hok : (t.map byteAV).all AV.cellOK = true := by
    rw [List.all_eq_true]; intro x hx
    obtain ⟨c, _, rfl⟩ := List.mem_map.1 hx
    rfl
  rcases B with ⟨rfl, rfl⟩ | ⟨id, b, rfl, h1, h2, h3, h4, h5, h6, h7, h8, h9⟩
  · refine ⟨by simp only [List.length_nil] at hlen; omega, by simp only [List.length_nil] at hlen; omega, ?_⟩
    by_cases ht : t = []
    · subst ht
      show K (.sl none 0 none) h
      exact hk _ _ (Upd.refl _ _) (.inl ⟨rfl, rfl⟩) fun i hi => .inl hi
    · have htl : t.length ≠ 0 := by simpa using ht
      rw [if_neg htl]
      refine hk _ _ ((Upd.app _ _).mono fun _ _ h => h.elim) (.inr ⟨h.length, newBlk (t.map byteAV) 1 false (some E), by simp, by simp, rfl, rfl, by simp [newBlk], rfl, rfl, rfl, rfl, by simpa using ht⟩) fun i hi => .inr ?_
      cases hi; exact Nat.le_refl _
  · have hidl := lt_of_some h1
    have hbl : b.cells.length = l.length := by rw [h2]; simp
    have hll : 0 < l.length := List.length_pos_iff.2 h9
    refine ⟨by omega, by omega, b, h1, h3, ⟨h4, by rw [hbl]; exact Nat.le_refl _, by simp⟩, ?_⟩
    by_cases ht : t = []
    · subst ht
      left
      exact ⟨rfl, hk _ _ (Upd.refl _ _) (.inr ⟨id, b, by simp, h1, by simpa using h2, h3, by simpa using h4, h5, h6, h7, h8, by simpa using h9⟩) fun i hi => .inl hi⟩
    · have htl : 0 < t.length := List.length_pos_iff.2 ht
      right; right; right; left
      refine ⟨htl, h5, hbl.symm, rfl, by rw [hbl]; simp, rfl, h6, h7, hok, ?_⟩
      have hty : sameTy b.ty (some E) = some E := by rw [h8]; simp [sameTy]
      refine hk _ _ ((Upd.set _ _ _).mono fun i _ h => h.symm) (.inr ⟨id, { b with cells := b.cells ++ t.map byteAV, ty := sameTy b.ty (some E) }, by simp [hbl], List.getElem?_set_self hidl, by simp [h2], h3, by simp; omega, h5, h6, h7, hty, by simp [h9]⟩) fun i hi => .inl ?_
      exact hi

/-- A builder: the cells of its block from 'off' on. -/
structure BldAt (P : Program) (T E : TypeId) (h : AHeap) (id off : Nat) (cs : List AV) (buf : AV) (l : List UInt8) : Prop where
  blk : ∃ b t, h[id]? = some b ∧ b.cells = cs ∧ b.floor ≤ cs.length ∧ b.ro = false ∧ b.ty = some t ∧ liesAt P P.depth t (cs.length / P.cellsOf t) off T 1 = true
  room : off + 1 < cs.length
  addr : cs[off]? = some (.p none) ∨ cs[off]? = some (.p (some ⟨id, cs.length, off⟩))
  cell : cs[off + 1]? = some buf
  is : TBuf E h buf l
  own : ¬ SlAt buf id

section
variable {P : Program} {T E : TypeId} {h : AHeap} {id off : Nat} {cs : List AV} {buf : AV} {l : List UInt8}

theorem BldAt.rec' (B : BldAt P T E h id off cs buf l) : RecAt h id cs := by
  obtain ⟨b, t, h1, h2, h3, h4, _⟩ := B.blk
  exact ⟨b, h1, h2, h3, h4⟩
theorem BldAt.lt (B : BldAt P T E h id off cs buf l) : id < h.length := B.rec'.lt
theorem BldAt.upd {M : Nat → Prop} {h' : AHeap} (B : BldAt P T E h id off cs buf l) (U : Upd M h h') (h1 : ¬ M id) (h2 : ∀ i, SlAt buf i → ¬ M i) : BldAt P T E h' id off cs buf l := by
  have hl := B.lt
  obtain ⟨b, t, g1, g2⟩ := B.blk
  exact ⟨⟨b, t, (U.2 id hl h1).trans g1, g2⟩, B.room, B.addr, B.cell, B.is.upd U h2, B.own⟩

/-- Cells of its block written. -/
theorem BldAt.store {v : AV} {o : Nat} {K : AHeap → Prop} (B : BldAt P T E h id off cs buf l) (ho : o < cs.length) (hv : v.parts = [v]) (hs : v.sizeOK = true) (hc : v.cellOK = true)
    {buf' : AV} {l' : List UInt8} (ha : (cs.set o v)[off]? = some (.p none) ∨ (cs.set o v)[off]? = some (.p (some ⟨id, cs.length, off⟩))) (hb : (cs.set o v)[off + 1]? = some buf') (hi : TBuf E h buf' l') (hn : ¬ SlAt buf' id)
    (hk : ∀ h', h'.length = h.length → Upd (· = id) h h' → BldAt P T E h' id off (cs.set o v) buf' l' → K h') : pStore 1 (.p (some ⟨id, cs.length, o⟩)) v h K := by
  have hl := B.lt
  obtain ⟨b, t, h1, rfl, h3, h4, h5, h6⟩ := B.blk
  refine ⟨b, h1, h4, h3, rfl, (by show o + 1 ≤ b.cells.length; omega), hs, by rw [hv]; rfl, by rw [hv]; simp [hc], ?_⟩
  have hU : Upd (· = id) h (h.set id { b with cells := wr b.cells o v.parts, floor := b.cells.length }) := Upd.set _ _ _
  refine hk _ (by simp) hU ⟨⟨_, t, List.getElem?_set_self hl, ?_, ?_, h4, h5, by simpa using h6⟩, by simpa using B.room, by simpa using ha, hb, hi.upd hU fun i hi hid => hn (hid ▸ hi), hn⟩
  · rw [hv]; rfl
  · simp

/-- A new buffer is put into a builder. -/
theorem BldAt.put {h3 : AHeap} {v : AV} {l' : List UInt8} {K : AHeap → Prop} (B : BldAt P T E h id off cs buf l) (U : Upd (SlAt buf) h h3) (hi : TBuf E h3 v l') (hn : ¬ SlAt v id)
    (hk : ∀ h', h'.length = h3.length → Upd (· = id) h3 h' → BldAt P T E h' id off (cs.set (off + 1) v) v l' → K h') : pStore 1 (.p (some ⟨id, cs.length, off + 1⟩)) v h3 K := by
  have hl := B.lt
  have hr := B.room
  have hv : v.parts = [v] ∧ v.sizeOK = true ∧ v.cellOK = true := by
    rcases hi with ⟨rfl, _⟩ | ⟨_, _, rfl, _⟩ <;> exact ⟨rfl, rfl, rfl⟩
  obtain ⟨b, t, h1, rfl, h3', h4, h5, h6⟩ := B.blk
  have g1 : h3[id]? = some b := (U.2 id hl B.own).trans h1
  refine ⟨b, g1, h4, h3', rfl, (by show off + 1 + 1 ≤ b.cells.length; omega), hv.2.1, by rw [hv.1]; rfl, by rw [hv.1]; simp [hv.2.2], ?_⟩
  have hU : Upd (· = id) h3 (h3.set id { b with cells := wr b.cells (off + 1) v.parts, floor := b.cells.length }) := Upd.set _ _ _
  have e : wr b.cells (off + 1) v.parts = b.cells.set (off + 1) v := by rw [hv.1]; rfl
  refine hk _ (by simp) hU ⟨⟨_, t, List.getElem?_set_self (lt_of_some g1), e, ?_, h4, h5, by simpa using h6⟩, by simpa using hr, ?_, List.getElem?_set_self hr, hi.upd hU fun i hi hid => hn (hid ▸ hi), hn⟩
  · simp
  · rw [List.getElem?_set_ne (by omega), List.length_set]; exact B.addr

theorem st_nilEq {t : TypeId} {K : AV → Prop} (ht : isPtr P t = true) (hk : K (.b true)) : pBin P .eql t (.p none) (.p none) K := by
  simp only [pBin, ht, cond_true]; exact hk
/-- The address of a buffer's bytes. -/
def bufPtr (v : AV) : AV := match v with | .sl (some a) _ _ => .p (some a) | _ => .p none
/-- unsafe.SliceData and unsafe.String of a buffer. -/
theorem TBuf.data {v : AV} {l : List UInt8} {K : AV → AHeap → Prop} (B : TBuf E h v l) (hk : K (bufPtr v) h) : pSliceData v h K := by
  rcases B with ⟨rfl, rfl⟩ | ⟨id, b, rfl, h1, h2, h3, h4, h5, h6, h7, h8, h9⟩
  · exact hk
  · exact ⟨List.length_pos_iff.2 h9, hk⟩
end
end Go.GAM

