/- The relation between the abstract machine and the model's world. -/
import Derived.Test.YtffgchcidkapjaaDoorAm0
set_option linter.unusedVariables false
namespace Go.GAM

structure Loc where
  B : Nat
  base : Nat
  cap : Nat
  sz : Nat

abbrev Mu := Nat → Nat → Option Loc

mutual
inductive VRel (μ : Mu) : AV → Value → Prop
  | u (v) : VRel μ .u v
  | b (x) : VRel μ (.b x) (.bool x)
  | i (k n) : VRel μ (.i k n) (.int k n)
  | s (l) (x : ByteArray) (h : x.data.toList = l) : VRel μ (.s l) (.string x)
  | pn : VRel μ (.p none) (.pointer none)
  | p (a l o) (h : μ a.id a.ver = some l) (ho : o = l.base + a.off) : VRel μ (.p (some a)) (.pointer (some ⟨l.B, o, none⟩))
  | sn : VRel μ (.sl none 0 none) (.slice none 0 0)
  | sl (a len capo c addr l) (h : μ a.id a.ver = some l) (hl : len ≤ c) (hf : a.off + c * l.sz ≤ l.cap)
      (hc : capo = none → a.off + c * l.sz = l.cap) (hs : ∀ k, capo = some k → c = k) (ha : c ≠ 0 → addr = ⟨l.B, l.base + a.off, none⟩) :
      VRel μ (.sl (some a) len capo) (.slice (some addr) len c)
  | ag (cs vs) (h : VRels μ cs vs.toList) : VRel μ (.ag cs) (.agg vs)
  | tu (cs vs) (h : VRels μ cs vs.toList) : VRel μ (.tu cs) (.tuple vs)
  | fn (f a b a' b') (h : VRels μ a a'.toList) (h' : VRels μ b b'.toList) : VRel μ (.fn f a b) (.func f a' b')
  | nf : VRel μ .nf .nilFunc
  | ifc (t v v') (h : VRel μ v v') : VRel μ (.ifc t v) (.iface t v')
  | ni : VRel μ .ni .nilIface
  | mpn : VRel μ (.mp none) (.map none)
inductive VRels (μ : Mu) : List AV → List Value → Prop
  | nil : VRels μ [] []
  | cons (a v as vs) (h : VRel μ a v) (t : VRels μ as vs) : VRels μ (a :: as) (v :: vs)
end

def Sub (μ μ' : Mu) : Prop := ∀ id ver l, μ id ver = some l → μ' id ver = some l
theorem nbeq {a b : Nat} (h : a ≠ b) : Nat.beq a b = false := by
  cases hb : Nat.beq a b with
  | false => rfl
  | true => exact absurd (Nat.eq_of_beq_eq_true hb) h
theorem Sub.refl (μ : Mu) : Sub μ μ := fun _ _ _ h => h
theorem Sub.trans {a b c : Mu} (h : Sub a b) (k : Sub b c) : Sub a c := fun _ _ _ x => k _ _ _ (h _ _ _ x)

mutual
theorem VRel.mono {μ μ' : Mu} (hs : Sub μ μ') : ∀ {a v}, VRel μ a v → VRel μ' a v
  | _, _, .u v => .u v
  | _, _, .b x => .b x
  | _, _, .i k n => .i k n
  | _, _, .s l x h => .s l x h
  | _, _, .pn => .pn
  | _, _, .p a l o h ho => .p a l o (hs _ _ _ h) ho
  | _, _, .sn => .sn
  | _, _, .sl a len capo c addr l h hl hf hc h2 ha => .sl a len capo c addr l (hs _ _ _ h) hl hf hc h2 ha
  | _, _, .ag cs vs h => .ag cs vs (h.mono hs)
  | _, _, .tu cs vs h => .tu cs vs (h.mono hs)
  | _, _, .fn f a b a' b' h h' => .fn f a b a' b' (h.mono hs) (h'.mono hs)
  | _, _, .nf => .nf
  | _, _, .ifc t v v' h => .ifc t v v' (h.mono hs)
  | _, _, .ni => .ni
  | _, _, .mpn => .mpn
theorem VRels.mono {μ μ' : Mu} (hs : Sub μ μ') : ∀ {a v}, VRels μ a v → VRels μ' a v
  | _, _, .nil => .nil
  | _, _, .cons a v as vs h t => .cons a v as vs (h.mono hs) (t.mono hs)
end

theorem VRels.length {μ : Mu} : ∀ {a v}, VRels μ a v → a.length = v.length
  | _, _, .nil => rfl
  | _, _, .cons _ _ _ _ _ t => by simp [t.length]

theorem VRels.get {μ : Mu} : ∀ {a v}, VRels μ a v → ∀ (i : Nat) (d : Value), i < a.length → VRel μ (a.getD i .u) (v.getD i d)
  | _, _, .nil, i, _, h => by simp at h
  | _, _, .cons a v as vs h t, 0, _, _ => by simpa using h
  | _, _, .cons a v as vs h t, i + 1, d, hi => by
    have := t.get i d (by simpa using hi)
    simpa using this

theorem VRels.get? {μ : Mu} {as : List AV} {vs : List Value} (h : VRels μ as vs) {i : Nat} (hi : i < as.length) : ∃ v, vs[i]? = some v ∧ VRel μ (as.getD i .u) v := by
  have hl := h.length
  refine ⟨vs[i], List.getElem?_eq_getElem (by omega), ?_⟩
  have := h.get i undef hi
  rwa [List.getD_eq_getElem?_getD (l := vs), List.getElem?_eq_getElem (by omega : i < vs.length)] at this

theorem VRels.append {μ : Mu} : ∀ {a v a' v'}, VRels μ a v → VRels μ a' v' → VRels μ (a ++ a') (v ++ v')
  | _, _, _, _, .nil, h => h
  | _, _, _, _, .cons a v as vs h t, h' => .cons _ _ _ _ h (t.append h')

theorem VRels.take {μ : Mu} : ∀ {a v} (n : Nat), VRels μ a v → VRels μ (a.take n) (v.take n)
  | _, _, 0, _ => by simp only [List.take_zero]; exact .nil
  | _, _, n + 1, .nil => by simp only [List.take_nil]; exact .nil
  | _, _, n + 1, .cons a v as vs h t => by simp only [List.take_succ_cons]; exact .cons _ _ _ _ h (t.take n)

theorem VRels.drop {μ : Mu} : ∀ {a v} (n : Nat), VRels μ a v → VRels μ (a.drop n) (v.drop n)
  | _, _, 0, h => h
  | _, _, n + 1, .nil => by simp only [List.drop_nil]; exact .nil
  | _, _, n + 1, .cons a v as vs h t => by simp only [List.drop_succ_cons]; exact t.drop n

theorem VRels.set {μ : Mu} {x : AV} {y : Value} (hx : VRel μ x y) : ∀ {a v} (n : Nat), VRels μ a v → VRels μ (a.set n x) (v.set n y)
  | _, _, _, .nil => .nil
  | _, _, 0, .cons a v as vs h t => .cons _ _ _ _ hx t
  | _, _, n + 1, .cons a v as vs h t => .cons _ _ _ _ h (t.set hx n)

theorem VRels.of_get {μ : Mu} : ∀ {a : List AV} {v : List Value}, a.length = v.length → (∀ i, i < a.length → ∃ y, v[i]? = some y ∧ VRel μ (a.getD i .u) y) → VRels μ a v
  | [], [], _, _ => .nil
  | [], _ :: _, h, _ => by simp at h
  | _ :: _, [], h, _ => by simp at h
  | a :: as, v :: vs, hl, h => by
    refine .cons _ _ _ _ ?_ (VRels.of_get (by simpa using hl) fun i hi => ?_)
    · obtain ⟨y, hy, hr⟩ := h 0 (by simp)
      simp at hy hr; subst hy; exact hr
    · obtain ⟨y, hy, hr⟩ := h (i + 1) (by simpa using hi)
      exact ⟨y, by simpa using hy, by simpa using hr⟩

/-- Values without addresses: the one value that they stand for. -/
def concLeaf : AV → Value
  | .b x => .bool x
  | .i k n => .int k n
  | .s l => .string ⟨l.toArray⟩
  | .p none => .pointer none
  | .sl none 0 none => .slice none 0 0
  | .nf => .nilFunc
  | .ni => .nilIface
  | .mp none => .map none
  | _ => undef
def conc : AV → Value
  | .ag cs => .agg (cs.map concLeaf).toArray
  | .tu cs => .tuple (cs.map concLeaf).toArray
  | v => concLeaf v

theorem VRel.leaf_eq {μ : Mu} {a : AV} {v : Value} (h : VRel μ a v) (hl : a.leaf = true) : v = concLeaf a := by
  cases h <;> first | rfl | (simp [AV.leaf] at hl; done) | skip
  rename_i l x h
  subst h
  rfl

theorem VRels.leaf_eq {μ : Mu} : ∀ {a v}, VRels μ a v → a.all AV.leaf = true → v = a.map concLeaf
  | _, _, .nil, _ => rfl
  | _, _, .cons a v as vs h t, hl => by
    simp only [List.all_cons, Bool.and_eq_true] at hl
    rw [List.map_cons, h.leaf_eq hl.1, t.leaf_eq hl.2]

theorem VRel.pure_eq {μ : Mu} {a : AV} {v : Value} (h : VRel μ a v) (hl : a.pure = true) : v = conc a := by
  cases h with
  | ag cs vs h => show Value.agg vs = Value.agg _; rw [← h.leaf_eq hl]
  | tu cs vs h => show Value.tuple vs = Value.tuple _; rw [← h.leaf_eq hl]
  | u v => simp [AV.pure, AV.leaf] at hl
  | b x => rfl
  | i k n => rfl
  | s l x h => exact (VRel.s l x h : VRel μ _ _).leaf_eq rfl
  | pn => rfl
  | p a l o h ho => simp [AV.pure, AV.leaf] at hl
  | sn => rfl
  | sl => simp [AV.pure, AV.leaf] at hl
  | fn => simp [AV.pure, AV.leaf] at hl
  | nf => rfl
  | ifc => simp [AV.pure, AV.leaf] at hl
  | ni => rfl
  | mpn => rfl

theorem leaf_rel (μ : Mu) : ∀ {a : AV}, a.leaf = true → VRel μ a (concLeaf a) := by
  intro a h
  cases a <;> first | (simp [AV.leaf] at h; done) | skip
  case b x => exact .b x
  case i k n => exact .i k n
  case s l => exact .s l _ (by simp)
  case p a => cases a with
    | none => exact .pn
    | some a => simp [AV.leaf] at h
  case sl a n c =>
    cases a with
    | some a => simp [AV.leaf] at h
    | none =>
      cases n with
      | succ n => simp [AV.leaf] at h
      | zero => cases c with
        | none => exact .sn
        | some c => simp [AV.leaf] at h
  case nf => exact .nf
  case ni => exact .ni
  case mp r => cases r with
    | none => exact .mpn
    | some r => simp [AV.leaf] at h

theorem leafs_rel (μ : Mu) : ∀ {as : List AV}, as.all AV.leaf = true → VRels μ as (as.map concLeaf)
  | [], _ => .nil
  | a :: as, h => by
    simp only [List.all_cons, Bool.and_eq_true] at h
    exact .cons _ _ _ _ (leaf_rel μ h.1) (leafs_rel μ h.2)

theorem pure_rel (μ : Mu) : ∀ {a : AV}, a.pure = true → VRel μ a (conc a) := by
  intro a h
  cases a with
  | ag cs => exact .ag cs _ (by simpa using leafs_rel μ h)
  | tu cs => exact .tu cs _ (by simpa using leafs_rel μ h)
  | _ => exact leaf_rel μ h

/-! ### constants -/

theorem ofV1_rel (μ : Mu) (v : Value) : VRel μ (ofV1 v) v := by
  cases v <;> simp only [ofV1] <;> first | exact .u _ | exact .b _ | exact .i _ _ | exact .s _ _ rfl | exact .nf | exact .ni | skip
  case pointer a => cases a <;> first | exact .pn | exact .u _
  case slice a l c =>
    cases a with
    | some a => exact .u _
    | none => cases l with
      | succ l => exact .u _
      | zero => cases c with
        | succ c => exact .u _
        | zero => exact .sn
  case map r => cases r <;> first | exact .mpn | exact .u _

theorem ofV1s_rel (μ : Mu) : ∀ vs : List Value, VRels μ (vs.map ofV1) vs
  | [] => .nil
  | v :: vs => .cons _ _ _ _ (ofV1_rel μ v) (ofV1s_rel μ vs)

theorem ofV_rel (μ : Mu) (v : Value) : VRel μ (ofV v) v := by
  cases v <;> simp only [ofV] <;> first | exact ofV1_rel μ _ | exact .ag _ _ (ofV1s_rel μ _) | exact .tu _ _ (ofV1s_rel μ _) | exact .ifc _ _ _ (ofV1_rel μ _)

/-! ### the heap -/

/-- What is asked of a version of a block's array. -/
structure VerOK (w : World) (μ : Mu) (own : Nat → Option Nat) (id : Nat) (b : ABlk) (l0 : Loc) (ver : Nat) (l : Loc) : Prop where
  own : own l.B = some id
  sz : l.sz = b.sz
  le : ver ≤ l.cap
  base : l.B = l0.B → l.base = l0.base
  cells : ∀ j, j < ver → ∃ cv, w.cell? ⟨l.B, l.base + j, none⟩ = some cv ∧ VRel μ (b.cells.getD j .u) cv

structure BlkOK (w : World) (Fz : Nat → Prop) (μ : Mu) (own : Nat → Option Nat) (id : Nat) (b : ABlk) (l : Loc) : Prop where
  cur : μ id b.cells.length = some l
  owned : own l.B = some id
  sz : l.sz = b.sz
  len : b.cells.length ≤ l.cap
  ex : b.ex = true → l.cap = b.cells.length
  ro : b.ro = false → ¬ Fz l.B
  gl : b.gl = true → l.B = id ∧ l.base = 0
  row : ∃ c el fr, w.heap[l.B]? = some (.cells c el fr) ∧ l.base + l.cap ≤ c.size
  free : b.ro = false → ∀ j, j < l.cap → w.frozen? ⟨l.B, l.base + j, none⟩ = false
  vers : ∀ ver, b.floor ≤ ver → ver ≤ b.cells.length → ∀ l', μ id ver = some l' → VerOK w μ own id b l ver l'

structure Rel (w0 : World) (Fz : Nat → Prop) (μ : Mu) (own : Nat → Option Nat) (h : AHeap) (w : World) : Prop where
  os : w.os = w0.os
  tape : w.tape = w0.tape
  output : w.output = w0.output
  size0 : w0.heap.size ≤ w.heap.size
  fz : ∀ B, Fz B → B < w0.heap.size ∧ w.heap[B]? = w0.heap[B]?
  ownlt : ∀ B id, own B = some id → B < w.heap.size
  mulen : ∀ id ver l, μ id ver = some l → ∃ b, h[id]? = some b ∧ (b.floor ≤ b.cells.length → ver ≤ b.cells.length)
  blk : ∀ id b, h[id]? = some b → b.floor ≤ b.cells.length → ∃ l, BlkOK w Fz μ own id b l

/-- Worlds that hold all the blocks that there were. -/
def Same (w w' : World) : Prop := ∀ B, B < w.heap.size → w'.heap[B]? = w.heap[B]?
theorem Same.refl (w : World) : Same w w := fun _ _ => rfl
theorem Same.cell {w w' : World} (h : Same w w') {a : Addr} {v : Value} (hc : w.cell? a = some v) : w'.cell? a = some v := by
  have := World.block_lt_of_cell? w a hc
  simp only [World.cell?] at hc ⊢
  rw [h _ this]
  exact hc

structure EnvRel (ds : List Deferred) (μ : Mu) (nt : Nat) (e : Env) (a : Act) : Prop where
  size : a.tmps.size = nt
  defers : a.defers = ds
  val : ∀ t, VRel μ (lk e t) (a.tmps.getD t undef)

theorem EnvRel.mono {ds : List Deferred} {μ μ' : Mu} (hs : Sub μ μ') {nt : Nat} {e : Env} {a : Act} (h : EnvRel ds μ nt e a) : EnvRel ds μ' nt e a := ⟨h.1, h.2, fun t => (h.3 t).mono hs⟩

theorem lk_put (e : Env) (d : Option Nat) (v : AV) (t : Nat) : lk (put e d v) t = if d = some t then v else lk e t := by
  cases d with
  | none => simp [put]
  | some d =>
    simp only [put, lk]
    by_cases h : d = t
    · subst h; simp
    · have : Nat.beq d t = false := nbeq h
      simp [this, h]

theorem EnvRel.put {ds : List Deferred} {μ : Mu} {nt : Nat} {e : Env} {a : Act} (h : EnvRel ds μ nt e a) {o : Oper} (ho : dstOK nt o = true) {v : AV} {cv : Value} (hv : VRel μ v cv) :
    EnvRel ds μ nt (GAM.put e o.dst v) (a.put o.dst cv) := by
  refine ⟨?_, ?_, fun t => ?_⟩
  · cases hd : o.dst <;> simp [Act.put, h.1]
  · cases hd : o.dst <;> simp [Act.put, h.2]
  · rw [lk_put]
    cases hd : o.dst with
    | none => simpa [Act.put] using h.3 t
    | some d =>
      have hlt : d < nt := by
        simp only [dstOK, hd] at ho
        exact Nat.le_of_ble_eq_true ho
      by_cases ht : d = t
      · subst ht
        simp [Act.put, h.1, hlt, hv]
      · simp only [Act.put, Option.some.injEq, ht, if_false]
        have := h.3 t
        simpa [Array.getElem?_setIfInBounds_ne ht] using this

theorem lk_restr (e : Env) (t : Nat) : ∀ L : List Nat, lk (restr L e) t = lk e t ∨ lk (restr L e) t = .u
  | [] => .inr rfl
  | x :: L => by
    simp only [restr, List.map_cons, lk]
    by_cases h : x = t
    · subst h; simp
    · have : Nat.beq x t = false := nbeq h
      simp only [this, cond_false]
      exact lk_restr e t L

theorem EnvRel.restr {ds : List Deferred} {μ : Mu} {nt : Nat} {e : Env} {a : Act} (h : EnvRel ds μ nt e a) (L : List Nat) : EnvRel ds μ nt (GAM.restr L e) a := by
  refine ⟨h.1, h.2, fun t => ?_⟩
  rcases lk_restr e t L with hh | hh <;> rw [hh]
  · exact h.3 t
  · exact .u _

section
variable {w0 : World} {Fz : Nat → Prop} {μ : Mu} {own : Nat → Option Nat} {h : AHeap} {w : World}

/-- A version that may be read: where its cells lie. -/
theorem Rel.read (R : Rel w0 Fz μ own h w) {a : AA} {b : ABlk} {l : Loc} {n : Nat} (hb : h[a.id]? = some b) (hr : rdOK b a n) (hl : μ a.id a.ver = some l) :
    ∀ j, j < n → ∃ cv, w.cell? ⟨l.B, l.base + (a.off + j), none⟩ = some cv ∧ VRel μ (b.cells.getD (a.off + j) .u) cv := by
  obtain ⟨h1, h2, h3⟩ := hr
  obtain ⟨l0, hk⟩ := R.blk _ _ hb (Nat.le_trans h1 h2)
  have hv := hk.vers _ h1 h2 _ hl
  intro j hj
  exact hv.cells (a.off + j) (by omega)

/-- The current version's place. -/
theorem Rel.cur (R : Rel w0 Fz μ own h w) {id : Nat} {b : ABlk} {l : Loc} (hb : h[id]? = some b) (hf : b.floor ≤ b.cells.length) (hl : μ id b.cells.length = some l) : BlkOK w Fz μ own id b l := by
  obtain ⟨l0, hk⟩ := R.blk _ _ hb hf
  have : l0 = l := Option.some.inj (hk.cur.symm.trans hl)
  subst this
  exact hk

theorem Rel.ev {ds : List Deferred} (R : Rel w0 Fz μ own h w) {nt : Nat} {e : Env} {a : Act} (hE : EnvRel ds μ nt e a) (x : Operand) : VRel μ (ev e h x) (a.eval x) := by
  cases x with
  | tmp t => exact hE.3 t
  | const v => exact ofV_rel μ v
  | func f => exact .fn _ _ _ _ _ .nil .nil
  | global g =>
    simp only [GAM.ev, gvar, Act.eval]
    cases hb : h[g]? with
    | none => exact .u _
    | some b =>
      dsimp only
      cases hc : (b.gl && Nat.ble b.floor b.cells.length) with
      | false => exact .u _
      | true =>
        simp only [Bool.and_eq_true] at hc
        obtain ⟨l, hl⟩ := R.blk _ _ hb (Nat.le_of_ble_eq_true hc.2)
        obtain ⟨h1, h2⟩ := hl.gl hc.1
        have := VRel.p (μ := μ) ⟨g, b.cells.length, 0⟩ l 0 hl.cur (by simp [h2])
        rw [h1] at this
        exact this

theorem Rel.evs {ds : List Deferred} (R : Rel w0 Fz μ own h w) {nt : Nat} {e : Env} {a : Act} (hE : EnvRel ds μ nt e a) : ∀ xs : List Operand, VRels μ (xs.map (GAM.ev e h)) (xs.map a.eval)
  | [] => .nil
  | x :: xs => .cons _ _ _ _ (R.ev hE x) (R.evs hE xs)
end

theorem run_und {P : Program} {t : TypeId} {d : TypeDesc} (h : P.underlying t = some d) (w : World) : (underlying t).run P w = .ok d w := by simp [underlying, h]

theorem cellsOf_info {P : Program} {t : TypeId} {d : TypeDesc} (h : P.underlying t = some d) : ∃ i, P.info? t = some i ∧ P.cellsOf t = i.size ∧ P.bytesOf t = i.bytes := by
  unfold Program.underlying at h
  cases hi : P.info? t with
  | none => simp [hi] at h
  | some i => exact ⟨i, rfl, by simp [Program.cellsOf, hi], by simp [Program.bytesOf, hi]⟩

theorem run_sizeOf {P : Program} {t : TypeId} {d : TypeDesc} (h : P.underlying t = some d) (w : World) : (sizeOf t).run P w = .ok (P.cellsOf t) w := by
  obtain ⟨i, hi, hs, _⟩ := cellsOf_info h
  simp [sizeOf, typeInfo, hi, hs]

theorem isAggT_some {P : Program} {t : TypeId} {r : Bool} (h : isAggT P t = some r) (w : World) : (isAgg t).run P w = .ok r w ∧ ∃ d, P.underlying t = some d := by
  unfold isAggT at h
  cases hd : P.underlying t with
  | none => simp [hd] at h
  | some d => cases d <;> simp [hd] at h <;> subst h <;> exact ⟨by simp [isAgg, run_und hd], _, rfl⟩

end Go.GAM
