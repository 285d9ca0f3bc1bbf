/- All operations that leave the heap alone. -/
import Derived.Test.YtffgchcidkapjaaDoorAm4
set_option linter.unusedVariables false
set_option linter.unusedSimpArgs false
namespace Go.GAM

section
variable {ds : List Deferred} {rd : Option Nat} {P : Program} {w0 : World} {Fz : Nat → Prop} {μ : Mu} {own : Nat → Option Nat} {h : AHeap} {w : World}

theorem build_sound {t : TypeId} {zs : List AV} {parts : List (Nat × AV)} {cparts : Array (Nat × Value)} {ps : List (Nat × Nat × AV)} {K : AV → Prop} (hz : zeroO P t = some zs) (hp : placesOf P t parts = some ps)
    (hlen : parts.length = cparts.toList.length) (hrel : ∀ (i : Nat) (x : Nat × AV) (y : Nat × Value), parts[i]? = some x → cparts.toList[i]? = some y → x.1 = y.1 ∧ VRel μ x.2 y.2) (hk : pBuild zs ps K) :
    ∃ v cv, K v ∧ VRel μ v cv ∧ ∀ w', (Instr.build t cparts).run P w' = .ok cv w' := by
  obtain ⟨i, z, hi, hzz, hzr⟩ := zero_rel hz μ
  unfold pBuild at hk
  cases hf : fillA zs ps with
  | none => rw [hf] at hk; exact hk.elim
  | some out =>
    rw [hf] at hk
    unfold placesOf at hp
    -- the shape of the type
    have conv : ∀ (place : Nat → Option (Nat × Nat)) (pl : List (Nat × AV)) (cl : List (Nat × Value)) (ps : List (Nat × Nat × AV)), pl.length = cl.length → (∀ (i : Nat) (x : Nat × AV) (y : Nat × Value), pl[i]? = some x → cl[i]? = some y → x.1 = y.1 ∧ VRel μ x.2 y.2) →
        ps.length = pl.length → (∀ (i : Nat) (x : Nat × AV) (q : Nat × Nat × AV), pl[i]? = some x → ps[i]? = some q → place x.1 = some (q.1, q.2.1) ∧ q.2.2 = x.2) → PartsRel μ place ps cl := by
      intro place pl
      induction pl with
      | nil => intro cl ps h1 _ h3 _; cases cl <;> cases ps <;> first | exact .nil | simp at h1 h3
      | cons x pl ih =>
        intro cl ps h1 h2 h3 h4
        cases cl with
        | nil => simp at h1
        | cons y cl =>
          cases ps with
          | nil => simp at h3
          | cons q ps =>
            obtain ⟨e1, e2⟩ := h2 0 x y rfl rfl
            obtain ⟨e3, e4⟩ := h4 0 x q rfl rfl
            obtain ⟨o, s, v⟩ := q
            obtain ⟨yi, yv⟩ := y
            simp only at e1 e2 e3 e4
            subst e4
            rw [e1] at e3
            exact .cons o s _ yi yv ps cl e3 e2 (ih cl ps (by simpa using h1) (fun i x y hx hy => h2 (i + 1) x y hx hy) (by simpa using h3) (fun i x q hx hq => h4 (i + 1) x q hx hq))
    split at hp
    · rename_i fs hu
      cases hall : fs.toList.all (fun f => (P.info? f.type).isSome) with
      | false => rw [hall] at hp; cases hp
      | true =>
        rw [hall] at hp
        simp only [cond_true] at hp
        have hpl : ∀ (pl : List (Nat × AV)) (ps : List (Nat × Nat × AV)), pl.mapM (fun (x : Nat × AV) => (fs.toList[x.1]?).map fun f => (f.offset, P.cellsOf f.type, x.2)) = some ps →
            ps.length = pl.length ∧ ∀ (i : Nat) (x : Nat × AV) (q : Nat × Nat × AV), pl[i]? = some x → ps[i]? = some q → ((fs.toList.map fun f => (f.offset, P.cellsOf f.type))[x.1]?) = some (q.1, q.2.1) ∧ q.2.2 = x.2 := by
          intro pl
          induction pl with
          | nil => intro ps h; simp at h; subst h; simp
          | cons x pl ih =>
            intro ps h
            simp only [List.mapM_cons, Option.bind_eq_bind, Option.bind_eq_some_iff, Option.pure_def, Option.some.injEq] at h
            obtain ⟨q, hq, qs, hqs, rfl⟩ := h
            obtain ⟨l1, l2⟩ := ih qs hqs
            refine ⟨by simp [l1], fun i x' q' hx hq' => ?_⟩
            cases i with
            | zero =>
              simp at hx hq'; subst hx; subst hq'
              simp only [Option.map_eq_some_iff] at hq
              obtain ⟨f, hf1, hf2⟩ := hq
              subst hf2
              simp [hf1]
            | succ i => exact l2 i x' q' (by simpa using hx) (by simpa using hq')
        obtain ⟨l1, l2⟩ := hpl parts ps hp
        have hpr := conv (fun i => (fs.toList.map fun f => (f.offset, P.cellsOf f.type))[i]?) parts cparts.toList ps hlen hrel l1 l2
        obtain ⟨res, hr1, hr2⟩ := fill_sound hpr zs z.cells out hzr hf
        refine ⟨_, .agg res, hk, .ag _ _ hr2, fun w' => ?_⟩
        have hpm : ∀ w', (fs.mapM (m := Sem) fun f => do pure (f.offset, ← sizeOf f.type)).run P w' = .ok (fs.toList.map fun f => (f.offset, P.cellsOf f.type)).toArray w' := fun w' => by
          rw [Array.mapM_eq_mapM_toList]
          have := places_run fs.toList hall w'
          rw [Sem.run_map, this]
          rfl
        simp only [Instr.build, Sem.run_bind, run_zero hi hzz, Result.andThen_ok, run_und hu, hpm]
        simp only [List.getElem?_toArray, hr1]
        rfl
    · rename_i n el hu
      cases hs : (P.info? el).isSome with
      | false => rw [hs] at hp; cases hp
      | true =>
        rw [hs] at hp
        simp only [cond_true, Option.some.injEq] at hp
        subst hp
        obtain ⟨ie, hie⟩ := Option.isSome_iff_exists.1 hs
        have hpr := conv (fun i => some (i * P.cellsOf el, P.cellsOf el)) parts cparts.toList (parts.map fun (i, v) => (i * P.cellsOf el, P.cellsOf el, v)) hlen hrel (by simp) (fun i x q hx hq => by
          rw [List.getElem?_map, hx] at hq; simp only [Option.map_some, Option.some.injEq] at hq; subst hq; exact ⟨rfl, rfl⟩)
        obtain ⟨res, hr1, hr2⟩ := fill_sound hpr zs z.cells out hzr hf
        refine ⟨_, .agg res, hk, .ag _ _ hr2, fun w' => ?_⟩
        have hsz : (sizeOf el).run P w' = .ok (P.cellsOf el) w' := by simp [sizeOf, typeInfo, hie, Program.cellsOf]
        simp only [Instr.build, Sem.run_bind, run_zero hi hzz, Result.andThen_ok, run_und hu, hsz]
        simp only [hr1]
        rfl
    · cases hp

theorem mm_sound {mx : Bool} {xs : List AV} {cs : List Value} {K : AV → Prop} (hx : VRels μ xs cs) (hk : pMM mx xs K) :
    ∃ v cv, K v ∧ VRel μ v cv ∧ ∀ ts t w', (bif mx then Builtin.max_ ts t cs.toArray else Builtin.min_ ts t cs.toArray : Sem Value).run P w' = .ok cv w' := by
  cases hx with
  | nil => exact hk.elim
  | cons a v as vs h1 t1 =>
    cases t1 with
    | nil => cases h1 <;> exact hk.elim
    | cons a2 v2 as2 vs2 h2 t2 =>
      cases t2 with
      | nil =>
        cases h1 <;> first | exact hk.elim | skip
        cases h2 <;> first | exact hk.elim | skip
        refine ⟨_, _, hk, .i _ _, fun ts t w' => ?_⟩
        cases mx
        · simp [Builtin.min_, Builtin.min2, mmI]
        · simp [Builtin.max_, Builtin.max2, mmI]
      | cons a3 v3 as3 vs3 h3 t3 =>
        cases t3 with
        | nil =>
          cases h1 <;> first | exact hk.elim | skip
          cases h2 <;> first | exact hk.elim | skip
          cases h3 <;> first | exact hk.elim | skip
          refine ⟨_, _, hk, .i _ _, fun ts t w' => ?_⟩
          cases mx
          · simp [Builtin.min_, Builtin.min2, mmI]
          · simp [Builtin.max_, Builtin.max2, mmI]
        | cons => cases h1 <;> cases h2 <;> cases h3 <;> exact hk.elim

theorem lenStr_sound {x : AV} {cx : Value} {K : AV → Prop} (hx : VRel μ x cx) (hk : pLenStr x fun n => K (.i .i64 n)) :
    ∃ v cv, K v ∧ VRel μ v cv ∧ ∀ ts t ty w', ts[0]? = some t → P.underlying t = some .string → (Builtin.len_ ts ty #[cx]).run P w' = .ok cv w' := by
  cases hx <;> first | exact hk.elim | skip
  case s l s hs =>
    refine ⟨_, .int .i64 s.size, hk, ?_, fun ts t ty w' h1 ht => by simp [Builtin.len_, h1, run_und ht, goInt]⟩
    rw [str_len hs]; exact .i _ _

theorem lenSl_sound {x : AV} {cx : Value} {K : AV → Prop} (hx : VRel μ x cx) (hk : pLenSl x fun n => K (.i .i64 n)) :
    ∃ v cv, K v ∧ VRel μ v cv ∧ ∀ ts t ty e w', ts[0]? = some t → P.underlying t = some (.slice e) → (Builtin.len_ ts ty #[cx]).run P w' = .ok cv w' := by
  cases hx <;> first | exact hk.elim | skip
  case sn => exact ⟨_, _, hk, .i _ _, fun ts t ty e w' h1 ht => by simp [Builtin.len_, h1, run_und ht, goInt]⟩
  case sl a len capo c addr l h1 h2 h3 h4 h5 h6 => exact ⟨_, _, hk, .i _ _, fun ts t ty e w' h1 ht => by simp [Builtin.len_, h1, run_und ht, goInt]⟩

theorem build_parts (R : Rel w0 Fz μ own h w) {nt : Nat} {e : Env} {a : Act} (hE : EnvRel ds μ nt e a) (parts : Array (Nat × Operand)) :
    (parts.toList.map fun (i, x) => (i, ev e h x)).length = (parts.map fun (i, x) => (i, a.eval x)).toList.length ∧
    ∀ (i : Nat) (x : Nat × AV) (y : Nat × Value), (parts.toList.map fun (i, x) => (i, ev e h x))[i]? = some x → (parts.map fun (i, x) => (i, a.eval x)).toList[i]? = some y → x.1 = y.1 ∧ VRel μ x.2 y.2 := by
  refine ⟨by simp, fun i x y hx hy => ?_⟩
  rw [Array.toList_map, List.getElem?_map] at hy
  rw [List.getElem?_map] at hx
  cases hp : parts.toList[i]? with
  | none => rw [hp] at hx; cases hx
  | some p =>
    rw [hp] at hx hy
    simp only [Option.map_some, Option.some.injEq] at hx hy
    subst hx; subst hy
    exact ⟨rfl, R.ev hE _⟩

/-- What such an operation yields, in every world that holds the blocks there were. -/
theorem aopN_sound (R : Rel w0 Fz μ own h w) {nt : Nat} {e : Env} {a : Act} (hE : EnvRel ds μ nt e a) {o : Oper} {K : AV → Prop} (hk : aopN P o e h K) :
    ∃ v cv, K v ∧ VRel μ v cv ∧ ∀ w', Same w w' → (execOp a.eval o).run P w' = .ok (.value cv) w' := by
  obtain ⟨dst, op, type, pos, after, guard⟩ := o
  have lift : ∀ {s : Sem Value}, (∃ v cv, K v ∧ VRel μ v cv ∧ ∀ w', Same w w' → s.run P w' = .ok cv w') → (∀ w' r, execOp a.eval ⟨dst, op, type, pos, after, guard⟩ = (do pure (.value (← s)))) →
      ∃ v cv, K v ∧ VRel μ v cv ∧ ∀ w', Same w w' → (execOp a.eval ⟨dst, op, type, pos, after, guard⟩).run P w' = .ok (.value cv) w' :=
    fun ⟨v, cv, h1, h2, h3⟩ he => ⟨v, cv, h1, h2, fun w' hs => by rw [he w' true]; simp [h3 w' hs]⟩
  cases op with
  | move x => exact ⟨_, _, hk, R.ev hE x, fun w' _ => by simp [execOp]⟩
  | assign x => exact ⟨_, _, hk, R.ev hE x, fun w' _ => by simp [execOp]⟩
  | pick c x y =>
    rcases aIf_sound hk (R.ev hE c) with ⟨h1, h2⟩ | ⟨h1, h2⟩
    · exact ⟨_, _, h2, R.ev hE x, fun w' _ => by simp [execOp, h1, asBool]⟩
    · exact ⟨_, _, h2, R.ev hE y, fun w' _ => by simp [execOp, h1, asBool]⟩
  | load t x =>
    simp only [aopN] at hk
    cases ht : isAggT P t with
    | none => rw [ht] at hk; exact hk.elim
    | some r =>
      rw [ht] at hk
      cases r with
      | true => exact lift (loadN_sound R ht (R.ev hE x) hk) (fun _ _ => rfl)
      | false => exact lift (load1_sound R ht (R.ev hE x) hk) (fun _ _ => rfl)
  | nilCheck x =>
    obtain ⟨v, cv, h1, h2, h3⟩ := nil_sound (P := P) (dst := dst) (t := type) (pos := pos) (af := after) (g := guard) rfl (R.ev hE x) hk
    exact ⟨v, cv, h1, h2, fun w' _ => h3 w'⟩
  | binOp op t x y yt =>
    obtain ⟨v, cv, h1, h2, h3⟩ := bin_sound (R.ev hE x) (R.ev hE y) hk
    refine ⟨v, cv, h1, h2, fun w' _ => ?_⟩
    have := h3 x y w'
    simp only [execOp, Sem.run_bind] at this ⊢
    rw [this]; rfl
  | unOp op t x =>
    obtain ⟨v, cv, h1, h2, h3⟩ := un_sound (P := P) (R.ev hE x) hk
    exact ⟨v, cv, h1, h2, fun w' _ => by simp [execOp, h3]⟩
  | convert src dst' x =>
    simp only [aopN] at hk
    have hx := R.ev hE x
    split at hk
    · rename_i ds k h1 h2
      generalize GAM.ev e h x = ax at *
      obtain ⟨cx, hcx⟩ : ∃ c, a.eval x = c := ⟨_, rfl⟩
      rw [hcx] at hx
      cases hx <;> first | exact hk.elim | skip
      exact ⟨_, _, hk, .i _ _, fun w' _ => by simp [execOp, hcx, convert, run_und h1, run_und h2, Conv.intToInt]⟩
    · rename_i h1 h2
      generalize GAM.ev e h x = ax at *
      obtain ⟨cx, hcx⟩ : ∃ c, a.eval x = c := ⟨_, rfl⟩
      rw [hcx] at hx
      cases hx <;> first | exact hk.elim | skip
      rename_i l s hs
      exact ⟨_, _, hk, .s l s hs, fun w' _ => by simp [execOp, hcx, convert, run_und h1, run_und h2]⟩
    · rename_i el h1 h2
      split at hk
      · rename_i h3
        obtain ⟨v, cv, g1, g2, g3⟩ := bytesStr_sound R h1 h2 h3 hx hk
        exact ⟨v, cv, g1, g2, fun w' hs => by simp [execOp, g3 w' hs]⟩
      · exact hk.elim
    · exact hk.elim
  | makeInterface t x =>
    simp only [aopN] at hk
    split at hk
    · exact hk.elim
    · exact hk.elim
    · rename_i d hni hd
      refine ⟨_, _, hk, .ifc t _ _ (R.ev hE x), fun w' _ => ?_⟩
      have : (Instr.makeInterface t (a.eval x)).run P w' = .ok (.iface t (a.eval x)) w' := by
        cases d <;> first | exact absurd rfl (hni _) | simp [Instr.makeInterface, run_und hd]
      simp [execOp, this]
  | makeFunc f first cap =>
    refine ⟨_, .func f (first.map a.eval) (cap.map a.eval), hk, .fn _ _ _ _ _ ?_ ?_, fun w' _ => by simp [execOp, Instr.makeFunc]⟩
    · rw [Array.toList_map]; exact R.evs hE _
    · rw [Array.toList_map]; exact R.evs hE _
  | slice t x lo hi mx =>
    simp only [aopN] at hk
    have hx := R.ev hE x
    have hlo := R.evo hE lo
    have hhi := R.evo hE hi
    have hmx := R.evo hE mx
    split at hk
    · rename_i ht
      split at hk
      · obtain ⟨v, cv, g1, g2, g3⟩ := sliceStr_sound (P := P) ht hx hlo hhi hk
        exact ⟨v, cv, g1, g2, fun w' _ => by simpa [execOp] using congrArg (fun r => r.andThen fun v w' => Result.ok (Next.value v) w') (g3 w')⟩
      · exact hk.elim
    · rename_i el ht
      obtain ⟨hel, hk⟩ := bif_true hk
      obtain ⟨v, cv, g1, g2, g3⟩ := sliceSl_sound (P := P) R ht hel hx hlo hhi hmx hk
      exact ⟨v, cv, g1, g2, fun w' _ => by simp [execOp, g3 w']⟩
    · rename_i n el ht
      split at hk
      · obtain ⟨hel, hk⟩ := bif_true hk
        obtain ⟨v, cv, g1, g2, g3⟩ := sliceArr_sound (P := P) R ht hel hx hlo hhi hk
        exact ⟨v, cv, g1, g2, fun w' _ => by simpa [execOp] using congrArg (fun r => r.andThen fun v w' => Result.ok (Next.value v) w') (g3 w')⟩
      · exact hk.elim
    · exact hk.elim
  | fieldAddr t x f =>
    simp only [aopN] at hk
    split at hk
    · rename_i fs ht
      split at hk
      · rename_i fl hf
        cases hz : Nat.beq (P.cellsOf fl.type) 0 with
        | true => rw [hz] at hk; exact hk.elim
        | false =>
          rw [hz] at hk
          obtain ⟨v, cv, g1, g2, g3⟩ := fieldAddr_sound (P := P) ht hf hz (R.ev hE x) hk
          exact ⟨v, cv, g1, g2, fun w' _ => by simp [execOp, g3 w']⟩
      · exact hk.elim
    · exact hk.elim
  | field t x f =>
    simp only [aopN] at hk
    split at hk
    · rename_i fs ht
      split at hk
      · rename_i fl hf
        cases hr : isAggT P fl.type with
        | none => rw [hr] at hk; exact hk.elim
        | some r =>
          rw [hr] at hk
          obtain ⟨v, cv, g1, g2, g3⟩ := field_sound (P := P) (r := r) ht hf hr (R.ev hE x) (by cases r <;> exact hk)
          exact ⟨v, cv, g1, g2, fun w' _ => by simp [execOp, g3 w']⟩
      · exact hk.elim
    · exact hk.elim
  | indexAddr t x ix =>
    simp only [aopN] at hk
    split at hk
    · rename_i el ht
      obtain ⟨hel, hk⟩ := bif_true hk
      obtain ⟨v, cv, g1, g2, g3⟩ := idxAddrSl_sound (P := P) R ht hel (R.ev hE x) (R.ev hE ix) hk
      exact ⟨v, cv, g1, g2, fun w' _ => by simp [execOp, g3 w']⟩
    · rename_i n el ht
      obtain ⟨hel, hk⟩ := bif_true hk
      obtain ⟨v, cv, g1, g2, g3⟩ := idxAddrArr_sound (P := P) ht hel (R.ev hE x) (R.ev hE ix) hk
      exact ⟨v, cv, g1, g2, fun w' _ => by simp [execOp, g3 w']⟩
    · exact hk.elim
  | index t x ix =>
    simp only [aopN] at hk
    split at hk
    · rename_i ht
      obtain ⟨v, cv, g1, g2, g3⟩ := idxStr_sound (P := P) ht (R.ev hE x) (R.ev hE ix) hk
      exact ⟨v, cv, g1, g2, fun w' _ => by simp [execOp, g3 w']⟩
    · rename_i n el ht
      split at hk
      · rename_i hel
        cases h1 : Nat.beq (P.cellsOf el) 1 with
        | false => rw [h1] at hk; exact hk.elim
        | true =>
          rw [h1] at hk
          obtain ⟨v, cv, g1, g2, g3⟩ := idxArr1_sound (P := P) ht hel (Nat.eq_of_beq_eq_true h1) (R.ev hE x) (R.ev hE ix) hk
          exact ⟨v, cv, g1, g2, fun w' _ => by simp [execOp, g3 w']⟩
      · exact hk.elim
    · exact hk.elim
  | build t parts =>
    simp only [aopN] at hk
    split at hk
    · rename_i zs ps hz hp
      obtain ⟨l1, l2⟩ := build_parts R hE parts
      obtain ⟨v, cv, g1, g2, g3⟩ := build_sound (P := P) hz hp l1 l2 hk
      exact ⟨v, cv, g1, g2, fun w' _ => by
        have := g3 w'
        simp only [execOp, Sem.run_bind]
        rw [this]; rfl⟩
    · exact hk.elim
  | extract x i =>
    have hx := R.ev hE x
    simp only [aopN] at hk
    generalize GAM.ev e h x = ax at *
    obtain ⟨cx, hcx⟩ : ∃ c, a.eval x = c := ⟨_, rfl⟩
    rw [hcx] at hx
    cases hx with
    | tu cs vs hv =>
      obtain ⟨hlt, hK⟩ := hk
      obtain ⟨v, hv1, hv2⟩ := hv.get? hlt
      have : vs[i]? = some v := by simpa using hv1
      exact ⟨_, v, hK, hv2, fun w' _ => by simp [execOp, hcx, Instr.extract, this]⟩
    | _ => exact hk.elim
  | call c =>
    obtain ⟨callee, args, argTypes⟩ := c
    cases callee with
    | builtin b =>
      cases b <;> first | exact False.elim hk | skip
      case len =>
        simp only [aopN] at hk
        split at hk
        · rename_i ht
          obtain ⟨t, ht0, ht⟩ := Option.bind_eq_some_iff.1 ht
          split at hk
          · rename_i x hx
            obtain rfl : args = #[x] := Array.ext' hx
            obtain ⟨v, cv, g1, g2, g3⟩ := lenStr_sound (P := P) (R.ev hE x) hk
            exact ⟨v, cv, g1, g2, fun w' _ => by simp [execOp, resolve, invoke, builtin, g3 _ _ _ w' ht0 ht]⟩
          · exact hk.elim
        · rename_i el ht
          obtain ⟨t, ht0, ht⟩ := Option.bind_eq_some_iff.1 ht
          split at hk
          · rename_i x hx
            obtain rfl : args = #[x] := Array.ext' hx
            obtain ⟨v, cv, g1, g2, g3⟩ := lenSl_sound (P := P) (R.ev hE x) hk
            exact ⟨v, cv, g1, g2, fun w' _ => by simp [execOp, resolve, invoke, builtin, g3 _ _ _ _ w' ht0 ht]⟩
          · exact hk.elim
        · rename_i n el ht
          obtain ⟨t, ht0, ht⟩ := Option.bind_eq_some_iff.1 ht
          split at hk
          · rename_i x hx
            obtain rfl : args = #[x] := Array.ext' hx
            refine ⟨_, _, hk, .i _ _, fun w' _ => ?_⟩
            simp [execOp, resolve, invoke, builtin, Builtin.len_, ht0, run_und ht, goInt]
          · exact hk.elim
        · exact hk.elim
      case min =>
        have hx := R.evs hE args.toList
        obtain ⟨v, cv, g1, g2, g3⟩ := mm_sound (P := P) hx hk
        refine ⟨v, cv, g1, g2, fun w' _ => ?_⟩
        have := g3 argTypes type w'
        simp only [cond_false] at this
        have e : (args.toList.map a.eval).toArray = args.map a.eval := by apply Array.ext'; simp
        rw [e] at this
        simp [execOp, resolve, invoke, builtin, this]
      case max =>
        have hx := R.evs hE args.toList
        obtain ⟨v, cv, g1, g2, g3⟩ := mm_sound (P := P) hx hk
        refine ⟨v, cv, g1, g2, fun w' _ => ?_⟩
        have := g3 argTypes type w'
        simp only [cond_true] at this
        have e : (args.toList.map a.eval).toArray = args.map a.eval := by apply Array.ext'; simp
        rw [e] at this
        simp [execOp, resolve, invoke, builtin, this]
    | _ => exact False.elim hk
  | _ => exact False.elim hk

end
end Go.GAM
