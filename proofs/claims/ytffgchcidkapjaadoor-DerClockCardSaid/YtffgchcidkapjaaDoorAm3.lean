/- Arithmetic, comparisons, bounds, fields, indexes. -/
import Derived.Test.YtffgchcidkapjaaDoorAm2
set_option linter.unusedVariables false
set_option linter.unusedSimpArgs false
namespace Go.GAM

section
variable {P : Program} {w0 : World} {Fz : Nat → Prop} {μ : Mu} {own : Nat → Option Nat} {h : AHeap} {w : World}

theorem eqOut_sound {op : BinOp} {r : Bool} {K : AV → Prop} (hk : eqOut op r K) : (op = .eql ∧ K (.b r)) ∨ (op = .neq ∧ K (.b (!r))) := by
  cases op <;> first | exact hk.elim | exact .inl ⟨rfl, hk⟩ | exact .inr ⟨rfl, hk⟩

theorem bytes_eq_iff (x y : ByteArray) : x = y ↔ x.data.toList = y.data.toList := by
  constructor
  · intro h; rw [h]
  · intro h
    cases x; cases y
    simp only [ByteArray.mk.injEq]
    exact Array.ext' h

theorem toList_beq (x y : ByteArray) : (x.toList == y.toList) = decide (x.data.toList = y.data.toList) := by
  rw [ByteArray.toList_eq, ByteArray.toList_eq]
  rw [Bool.eq_iff_iff]; simp

theorem bif_true {c : Bool} {A : Prop} (h : bif c then A else False) : c = true ∧ A := by
  cases c
  · exact False.elim h
  · exact ⟨rfl, h⟩

theorem bin_int_sound {op : BinOp} {t : TypeId} {k k' : IntKind} {a b : Int} {K : AV → Prop} (hk : pBin P op t (.i k a) (.i k' b) K) :
    ∃ v cv, K v ∧ VRel μ v cv ∧ ∀ w', (binOp op t (.int k a) (.int k' b)).run P w' = .ok cv w' := by
  cases op with
  | shl => obtain ⟨hb, hK⟩ := hk; exact ⟨_, _, hK, .i _ _, fun w' => by simp [binOp, Op.shift, Int.not_lt.2 hb]⟩
  | shr => obtain ⟨hb, hK⟩ := hk; exact ⟨_, _, hK, .i _ _, fun w' => by simp [binOp, Op.shift, Int.not_lt.2 hb]⟩
  | add => obtain ⟨he, hK⟩ := bif_true hk; have := kEq_eq he; subst this; exact ⟨_, _, hK, .i _ _, fun w' => by simp [binOp, Op.intArith]⟩
  | sub => obtain ⟨he, hK⟩ := bif_true hk; have := kEq_eq he; subst this; exact ⟨_, _, hK, .i _ _, fun w' => by simp [binOp, Op.intArith]⟩
  | mul => obtain ⟨he, hK⟩ := bif_true hk; have := kEq_eq he; subst this; exact ⟨_, _, hK, .i _ _, fun w' => by simp [binOp, Op.intArith]⟩
  | quo => obtain ⟨he, hb, hK⟩ := bif_true hk; have := kEq_eq he; subst this; exact ⟨_, _, hK, .i _ _, fun w' => by simp [binOp, Op.intDiv, hb]⟩
  | rem => obtain ⟨he, hb, hK⟩ := bif_true hk; have := kEq_eq he; subst this; exact ⟨_, _, hK, .i _ _, fun w' => by simp [binOp, Op.intDiv, hb]⟩
  | and => obtain ⟨he, hK⟩ := bif_true hk; have := kEq_eq he; subst this; exact ⟨_, _, hK, .i _ _, fun w' => by simp [binOp, Op.intBits, bitsOp]⟩
  | or => obtain ⟨he, hK⟩ := bif_true hk; have := kEq_eq he; subst this; exact ⟨_, _, hK, .i _ _, fun w' => by simp [binOp, Op.intBits, bitsOp]⟩
  | xor => obtain ⟨he, hK⟩ := bif_true hk; have := kEq_eq he; subst this; exact ⟨_, _, hK, .i _ _, fun w' => by simp [binOp, Op.intBits, bitsOp]⟩
  | andNot => obtain ⟨he, hK⟩ := bif_true hk; have := kEq_eq he; subst this; exact ⟨_, _, hK, .i _ _, fun w' => by simp [binOp, Op.intBits, bitsOp]⟩
  | eql => obtain ⟨he, hK⟩ := bif_true hk; have := kEq_eq he; subst this; exact ⟨_, _, hK, .b _, fun w' => by simp [binOp, Op.intCmp]; rfl⟩
  | neq => obtain ⟨he, hK⟩ := bif_true hk; have := kEq_eq he; subst this; exact ⟨_, _, hK, .b _, fun w' => by simp [binOp, Op.intCmp, bne]; rfl⟩
  | lss => obtain ⟨he, hK⟩ := bif_true hk; have := kEq_eq he; subst this; exact ⟨_, _, hK, .b _, fun w' => by simp [binOp, Op.intCmp]⟩
  | leq => obtain ⟨he, hK⟩ := bif_true hk; have := kEq_eq he; subst this; exact ⟨_, _, hK, .b _, fun w' => by simp [binOp, Op.intCmp]⟩
  | gtr => obtain ⟨he, hK⟩ := bif_true hk; have := kEq_eq he; subst this; exact ⟨_, _, hK, .b _, fun w' => by simp [binOp, Op.intCmp]⟩
  | geq => obtain ⟨he, hK⟩ := bif_true hk; have := kEq_eq he; subst this; exact ⟨_, _, hK, .b _, fun w' => by simp [binOp, Op.intCmp]⟩

theorem bin_str_sound {op : BinOp} {t : TypeId} {x y : ByteArray} {K : AV → Prop} (hk : pBin P op t (.s x.data.toList) (.s y.data.toList) K) :
    ∃ v cv, K v ∧ VRel μ v cv ∧ ∀ w', (binOp op t (.string x) (.string y)).run P w' = .ok cv w' := by
  have hlt : Op.bytesLess x.toList y.toList = Op.bytesLess x.data.toList y.data.toList := by rw [ByteArray.toList_eq, ByteArray.toList_eq]
  cases op <;> simp only [pBin] at hk <;> first | exact hk.elim | skip
  case add =>
    obtain ⟨hb, hK⟩ := hk
    refine ⟨_, .string (x ++ y), hK, .s _ _ (by simp), fun w' => ?_⟩
    have h1 : x.data.toList.length = x.size := (str_len rfl).symm
    have h2 : y.data.toList.length = y.size := (str_len rfl).symm
    rw [h1, h2] at hb
    have : ¬ (((x.size + y.size : Nat) : Int) > IntKind.i64.max) := by
      have : IntKind.i64.max = 9223372036854775807 := by decide
      omega
    simp only [binOp, Op.stringOp, if_neg this]
    rfl
  case eql => exact ⟨_, _, hk, .b _, fun w' => by simp only [binOp, Op.stringOp, toList_beq]; rfl⟩
  case neq => exact ⟨_, _, hk, .b _, fun w' => by simp only [binOp, Op.stringOp, toList_beq]; rfl⟩
  case lss => exact ⟨_, _, hk, .b _, fun w' => by simp only [binOp, Op.stringOp, hlt]; rfl⟩
  case leq => exact ⟨_, _, hk, .b _, fun w' => by simp only [binOp, Op.stringOp, hlt, toList_beq]; rfl⟩
  case gtr => exact ⟨_, _, hk, .b _, fun w' => by simp only [binOp, Op.stringOp, hlt, toList_beq]; rfl⟩
  case geq => exact ⟨_, _, hk, .b _, fun w' => by simp only [binOp, Op.stringOp, hlt]; rfl⟩

/-- '==' and '!=' by Op.equal. -/
theorem bin_eq_run {op : BinOp} {t : TypeId} {x y : Value} {r : Bool} {K : AV → Prop} (hk : eqOut op r K) (hn : ∀ op, op = .eql ∨ op = .neq → binOp op t x y = (match op with | .eql => (do pure (.bool (← Op.equal t x y))) | _ => (do pure (.bool (!(← Op.equal t x y))))))
    (he : ∀ w', (Op.equal t x y).run P w' = .ok r w') : ∃ v cv, K v ∧ VRel μ v cv ∧ ∀ w', (binOp op t x y).run P w' = .ok cv w' := by
  rcases eqOut_sound hk with ⟨rfl, hK⟩ | ⟨rfl, hK⟩
  · exact ⟨_, _, hK, .b _, fun w' => by rw [hn _ (.inl rfl)]; simp [he]⟩
  · exact ⟨_, _, hK, .b _, fun w' => by rw [hn _ (.inr rfl)]; simp [he]⟩

def prt (P : Program) (f : Field) (cs : List AV) : AV :=
  match P.underlying f.type with
  | some (.struct _) | some (.array _ _) => .ag ((cs.drop f.offset).take (P.cellsOf f.type))
  | _ => cs.getD f.offset .u

theorem part_sound {f : Field} {cs : List AV} {vs : Array Value} (hv : VRels μ cs vs.toList) (hu : (prt P f cs).sizeOK = true) (hd : (P.underlying f.type).isSome = true) :
    ∃ cv, VRel μ (prt P f cs) cv ∧ ∀ w', (part f.type vs f.offset).run P w' = .ok cv w' := by
  obtain ⟨d, hd⟩ := Option.isSome_iff_exists.1 hd
  have agg : (prt P f cs = .ag ((cs.drop f.offset).take (P.cellsOf f.type)) ∧ ∀ w', (isAgg f.type).run P w' = .ok true w') ∨ (prt P f cs = cs.getD f.offset .u ∧ ∀ w', (isAgg f.type).run P w' = .ok false w') := by
    unfold prt
    cases d <;> simp only [hd] <;> first | exact .inl ⟨trivial, fun w' => by simp [isAgg, run_und hd]⟩ | exact .inr ⟨trivial, fun w' => by simp [isAgg, run_und hd]⟩
  rcases agg with ⟨h1, h2⟩ | ⟨h1, h2⟩
  · rw [h1] at hu ⊢
    refine ⟨.agg (vs.extract f.offset (f.offset + P.cellsOf f.type)), .ag _ _ ?_, fun w' => ?_⟩
    · have := (hv.drop f.offset).take (P.cellsOf f.type)
      simpa [Array.toList_extract, List.extract] using this
    · simp [part, h2, run_sizeOf hd]
  · rw [h1] at hu ⊢
    have hlt : f.offset < cs.length := by
      rcases Nat.lt_or_ge f.offset cs.length with h | h
      · exact h
      · simp [List.getD_eq_getElem?_getD, List.getElem?_eq_none h, AV.sizeOK] at hu
    obtain ⟨v, hv1, hv2⟩ := hv.get? hlt
    refine ⟨v, hv2, fun w' => ?_⟩
    have : vs[f.offset]? = some v := by simpa using hv1
    simp [part, h2, this]

theorem aEq_sizeOK {d : Nat} {t : TypeId} {x y : AV} {r : Bool} (h : aEq P d t x y = some r) : x.sizeOK = true ∧ y.sizeOK = true ∧ (P.underlying t).isSome = true := by
  cases d with
  | zero => simp [aEq] at h
  | succ d =>
    unfold aEq at h
    split at h <;> first | (cases h; done) | (rename_i hu; exact ⟨rfl, rfl, by simp [hu]⟩)

theorem eqFields_sound (d n : Nat) (ih : ∀ (t : TypeId) (x y : AV) (cx cy : Value) (r : Bool), aEq P d t x y = some r → VRel μ x cx → VRel μ y cy → ∀ w', (Op.equalIn (d + n) t cx cy).run P w' = .ok r w')
    (xs ys : List AV) (vx vy : Array Value) (hx : VRels μ xs vx.toList) (hy : VRels μ ys vy.toList) : ∀ (fs : List Field) (r : Bool),
    fs.foldr (fun f acc => if f.name = "_" then acc else match aEq P d f.type (prt P f xs) (prt P f ys), acc with | some r, some a => some (r && a) | _, _ => none) (some true) = some r →
    ∀ w', (Op.eqFields (d + n) vx vy fs).run P w' = .ok r w'
  | [], r, h, w' => by simp at h; subst h; simp [Op.eqFields]
  | f :: fs, r, h, w' => by
    simp only [List.foldr_cons] at h
    simp only [Op.eqFields, Sem.run_ite]
    split at h
    · rename_i hn
      rw [if_neg (by simp [hn])]
      exact eqFields_sound d n ih xs ys vx vy hx hy fs r h w'
    · rename_i hn
      rw [if_pos (by simpa using hn)]
      split at h
      · rename_i r1 a h1 h2
        simp only [Option.some.injEq] at h
        obtain ⟨s1, s2, s3⟩ := aEq_sizeOK h1
        obtain ⟨c1, hc1, hr1⟩ := part_sound hx s1 s3
        obtain ⟨c2, hc2, hr2⟩ := part_sound hy s2 s3
        simp only [Sem.run_bind, hr1, hr2, Result.andThen_ok, ih _ _ _ _ _ _ h1 hc1 hc2]
        cases r1 with
        | false => simp at h; subst h; simp
        | true => simp at h; subst h; simp [eqFields_sound d n ih xs ys vx vy hx hy fs _ h2 w']
      · cases h

theorem aEq_sound : ∀ (d : Nat) (t : TypeId) (x y : AV) (cx cy : Value) (r : Bool), aEq P d t x y = some r → VRel μ x cx → VRel μ y cy → ∀ n w', (Op.equalIn (d + n) t cx cy).run P w' = .ok r w' := by
  intro d
  induction d with
  | zero => intro t x y cx cy r hk; simp [aEq] at hk
  | succ d ih =>
    intro t x y cx cy r hk hx hy n w'
    rw [show d + 1 + n = (d + n) + 1 by omega]
    unfold aEq at hk
    split at hk
    · rename_i a b hu
      cases hx; cases hy
      simp only [Option.some.injEq] at hk; subst hk
      simp [Op.equalIn, run_und hu]
    · rename_i k0 k a k' b hu
      cases hx; cases hy
      split at hk
      · simp only [Option.some.injEq] at hk; subst hk
        rename_i hkk; subst hkk
        simp [Op.equalIn, run_und hu]
      · cases hk
    · rename_i a b hu
      cases hx with | s _ x hx => cases hy with | s _ y hy =>
      subst hx; subst hy
      simp only [Option.some.injEq] at hk; subst hk
      simp only [Op.equalIn, Sem.run_bind, run_und hu, Result.andThen]
      have : (x == y) = (x.data.toList == y.data.toList) := by rw [beq_toListBytes, ByteArray.toList_eq, ByteArray.toList_eq]
      simp [this]
    · rename_i fs xs ys hu
      cases hx with | ag _ vx hx => cases hy with | ag _ vy hy =>
      split at hk
      · cases hk
      rename_i hst
      have hst' : P.stoodInHeld t = false := by simpa using hst
      have hf : P.fieldsOf t = fs := by simp [Program.fieldsOf, hu]
      rw [run_equalIn_struct w' (d + n) t vx vy (by rw [hf]; exact hu) hst', hf]
      exact eqFields_sound d n (fun t x y cx cy r h1 h2 h3 w' => ih t x y cx cy r h1 h2 h3 n w') xs ys vx vy hx hy fs.toList r hk w'
    · cases hk

theorem isPtr_und {t : TypeId} (h : isPtr P t = true) : ∃ e, P.underlying t = some (.pointer e) := by
  unfold isPtr at h; split at h <;> first | exact ⟨_, by assumption⟩ | cases h
theorem isSl_und {t : TypeId} (h : isSl P t = true) : ∃ e, P.underlying t = some (.slice e) := by
  unfold isSl at h; split at h <;> first | exact ⟨_, by assumption⟩ | cases h
theorem isFn_und {t : TypeId} (h : isFn P t = true) : ∃ a b c, P.underlying t = some (.func a b c) := by
  unfold isFn at h; split at h <;> first | exact ⟨_, _, _, by assumption⟩ | cases h
theorem isIf_und {t : TypeId} (h : isIf P t = true) : ∃ e, P.underlying t = some (.interface e) := by
  unfold isIf at h; split at h <;> first | exact ⟨_, by assumption⟩ | cases h
theorem isMap_und {t : TypeId} (h : isMap P t = true) : ∃ a b, P.underlying t = some (.map a b) := by
  unfold isMap at h; split at h <;> first | exact ⟨_, _, by assumption⟩ | cases h

theorem eq_depth {t : TypeId} {x y : Value} {r : Bool} (h : ∀ d w', (Op.equalIn (d + 1) t x y).run P w' = .ok r w') (w' : World) : (Op.equal t x y).run P w' = .ok r w' := h 9999 w'

/-- All of '==' and its kin, behind the guard. -/
theorem bin_sound {op : BinOp} {t : TypeId} {x y : AV} {cx cy : Value} {K : AV → Prop} (hx : VRel μ x cx) (hy : VRel μ y cy) (hk : pBin P op t x y K) :
    ∃ v cv, K v ∧ VRel μ v cv ∧ ∀ (ox oy : Operand) w', (do eqGuard op t ox oy cx cy; binOp op t cx cy : Sem Value).run P w' = .ok cv w' := by
  have go : (∀ (ox oy : Operand) w', (eqGuard op t ox oy cx cy).run P w' = .ok () w') → (∃ v cv, K v ∧ VRel μ v cv ∧ ∀ w', (binOp op t cx cy).run P w' = .ok cv w') →
      ∃ v cv, K v ∧ VRel μ v cv ∧ ∀ (ox oy : Operand) w', (do eqGuard op t ox oy cx cy; binOp op t cx cy : Sem Value).run P w' = .ok cv w' := fun h1 ⟨v, cv, h2, h3, h4⟩ => ⟨v, cv, h2, h3, fun ox oy w' => by simp [h1, h4]⟩
  cases hx with
  | i k a =>
    cases hy with
    | i k' b => exact go (fun ox oy w' => by cases op <;> simp [eqGuard]) (bin_int_sound hk)
    | _ => exact hk.elim
  | s l x hx =>
    cases hy with
    | s l' y hy => subst hx; subst hy; exact go (fun ox oy w' => by cases op <;> simp [eqGuard]) (bin_str_sound hk)
    | _ => exact hk.elim
  | b a =>
    cases hy with
    | b b =>
      simp only [pBin] at hk
      split at hk <;> first | exact hk.elim | skip
      rename_i hu
      exact go (fun ox oy w' => by cases op <;> simp [eqGuard]) (bin_eq_run hk (by rintro op (rfl | rfl) <;> simp [binOp]) fun w' => eq_depth (fun d w' => by simp [Op.equalIn, run_und hu]) w')
    | _ => exact hk.elim
  | pn =>
    cases hy with
    | pn =>
      obtain ⟨hu, hk⟩ := bif_true hk
      obtain ⟨e, hu⟩ := isPtr_und hu
      exact go (fun ox oy w' => by cases op <;> simp [eqGuard]) (bin_eq_run hk (by rintro op (rfl | rfl) <;> simp [binOp]) fun w' => eq_depth (fun d w' => by simp [Op.equalIn, run_und hu]) w')
    | p a l o hl ho =>
      obtain ⟨hu, hk⟩ := bif_true hk
      obtain ⟨e, hu⟩ := isPtr_und hu
      exact go (fun ox oy w' => by cases op <;> simp [eqGuard]) (bin_eq_run hk (by rintro op (rfl | rfl) <;> simp [binOp]) fun w' => eq_depth (fun d w' => by simp [Op.equalIn, run_und hu]) w')
    | _ => exact hk.elim
  | p a l o hl ho =>
    cases hy with
    | pn =>
      obtain ⟨hu, hk⟩ := bif_true hk
      obtain ⟨e, hu⟩ := isPtr_und hu
      exact go (fun ox oy w' => by cases op <;> simp [eqGuard]) (bin_eq_run hk (by rintro op (rfl | rfl) <;> simp [binOp]) fun w' => eq_depth (fun d w' => by simp [Op.equalIn, run_und hu]) w')
    | _ => exact hk.elim
  | sn =>
    cases hy with
    | sn =>
      obtain ⟨hu, hk⟩ := bif_true hk
      obtain ⟨e, hu⟩ := isSl_und hu
      exact go (fun ox oy w' => by cases op <;> simp [eqGuard]) (bin_eq_run hk (by rintro op (rfl | rfl) <;> simp [binOp]) fun w' => eq_depth (fun d w' => by simp [Op.equalIn, run_und hu]) w')
    | sl =>
      obtain ⟨hu, hk⟩ := bif_true hk
      obtain ⟨e, hu⟩ := isSl_und hu
      exact go (fun ox oy w' => by cases op <;> simp [eqGuard]) (bin_eq_run hk (by rintro op (rfl | rfl) <;> simp [binOp]) fun w' => eq_depth (fun d w' => by simp [Op.equalIn, run_und hu]) w')
    | _ => exact hk.elim
  | sl =>
    cases hy with
    | sn =>
      obtain ⟨hu, hk⟩ := bif_true hk
      obtain ⟨e, hu⟩ := isSl_und hu
      exact go (fun ox oy w' => by cases op <;> simp [eqGuard]) (bin_eq_run hk (by rintro op (rfl | rfl) <;> simp [binOp]) fun w' => eq_depth (fun d w' => by simp [Op.equalIn, run_und hu]) w')
    | _ => exact hk.elim
  | nf =>
    cases hy with
    | nf =>
      obtain ⟨hu, hk⟩ := bif_true hk
      obtain ⟨_, _, _, hu⟩ := isFn_und hu
      exact go (fun ox oy w' => by cases op <;> simp [eqGuard]) (bin_eq_run hk (by rintro op (rfl | rfl) <;> simp [binOp]) fun w' => eq_depth (fun d w' => by simp [Op.equalIn, run_und hu]) w')
    | fn =>
      obtain ⟨hu, hk⟩ := bif_true hk
      obtain ⟨_, _, _, hu⟩ := isFn_und hu
      exact go (fun ox oy w' => by cases op <;> simp [eqGuard]) (bin_eq_run hk (by rintro op (rfl | rfl) <;> simp [binOp]) fun w' => eq_depth (fun d w' => by simp [Op.equalIn, run_und hu]) w')
    | _ => exact hk.elim
  | fn =>
    cases hy with
    | nf =>
      obtain ⟨hu, hk⟩ := bif_true hk
      obtain ⟨_, _, _, hu⟩ := isFn_und hu
      exact go (fun ox oy w' => by cases op <;> simp [eqGuard]) (bin_eq_run hk (by rintro op (rfl | rfl) <;> simp [binOp]) fun w' => eq_depth (fun d w' => by simp [Op.equalIn, run_und hu]) w')
    | _ => exact hk.elim
  | ni =>
    cases hy with
    | ifc =>
      obtain ⟨hu, hk⟩ := bif_true hk
      obtain ⟨_, hu⟩ := isIf_und hu
      exact go (fun ox oy w' => by cases op <;> simp [eqGuard]) (bin_eq_run hk (by rintro op (rfl | rfl) <;> simp [binOp]) fun w' => eq_depth (fun d w' => by simp [Op.equalIn, run_und hu]) w')
    | _ => exact hk.elim
  | ifc =>
    cases hy with
    | ni =>
      obtain ⟨hu, hk⟩ := bif_true hk
      obtain ⟨_, hu⟩ := isIf_und hu
      exact go (fun ox oy w' => by cases op <;> simp [eqGuard]) (bin_eq_run hk (by rintro op (rfl | rfl) <;> simp [binOp]) fun w' => eq_depth (fun d w' => by simp [Op.equalIn, run_und hu]) w')
    | _ => exact hk.elim
  | mpn =>
    cases hy with
    | mpn =>
      obtain ⟨hu, hk⟩ := bif_true hk
      obtain ⟨_, _, hu⟩ := isMap_und hu
      exact go (fun ox oy w' => by cases op <;> simp [eqGuard]) (bin_eq_run hk (by rintro op (rfl | rfl) <;> simp [binOp]) fun w' => eq_depth (fun d w' => by simp [Op.equalIn, run_und hu]) w')
    | _ => exact hk.elim
  | ag cs vs hc =>
    cases hy with
    | ag cs' vs' hc' =>
      simp only [pBin] at hk
      cases hg : P.eqGuardType P.depth t with
      | true => rw [hg] at hk; exact hk.elim
      | false =>
      rw [hg] at hk
      simp only [cond_false] at hk
      split at hk <;> first | exact hk.elim | skip
      rename_i r hr
      exact go (fun ox oy w' => run_eqGuard_agg w' op t ox oy vs vs' hg) (bin_eq_run hk (by rintro op (rfl | rfl) <;> simp [binOp]) fun w' => aEq_sound 64 t _ _ _ _ r hr (.ag _ _ hc) (.ag _ _ hc') 9936 w')
    | _ => exact hk.elim
  | _ => exact hk.elim

theorem un_sound {op : UnOp} {x : AV} {cx : Value} {K : AV → Prop} (hx : VRel μ x cx) (hk : pUn op x K) : ∃ v cv, K v ∧ VRel μ v cv ∧ ∀ w', (Op.unary op cx).run P w' = .ok cv w' := by
  cases op <;> cases hx <;> first | exact hk.elim | skip
  · exact ⟨_, _, hk, .i _ _, fun w' => by simp [Op.unary, Op.intArith]⟩
  · exact ⟨_, _, hk, .i _ _, fun w' => by simp [Op.unary, Op.intBits, bitsOp]⟩
  · exact ⟨_, _, hk, .b _, fun w' => by simp [Op.unary]⟩

end
end Go.GAM
