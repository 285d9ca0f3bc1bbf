/- Ranges over functions. -/
import Derived.Test.YtffgchcidkapjaaDoorAm15
import Derived.RangeFuncOwn
set_option linter.unusedVariables false
set_option linter.unusedSimpArgs false
namespace Go.GAM

def putAll : List Nat → List AV → Env → Env
  | p :: ps, v :: vs, e => putAll ps vs ((p, v) :: e)
  | _, _, e => e

def arg0 (args : List AV) (K : Prop) : Prop := match args with
  | [] => K
  | _ => False
def arg1 (args : List AV) (K : AV → Prop) : Prop := match args with
  | [v] => K v
  | _ => False
def arg2 (args : List AV) (K : AV → AV → Prop) : Prop := match args with
  | [v, w] => K v w
  | _ => False

/-- One round, in its frame. -/
def roundB (P : Program) (R : CallR) (nt : Nat) (ann : Ann) (assign body : Code) (h : AHeap) (K : AV → AHeap → Prop) (e : Env) : Prop :=
  aexec P R nt ann.a assign e h (kSeq (fun e h => aexec P R nt ann.b body e h (kSeq (fun _ h => K (.b true) h) fun _ _ _ => False)) fun _ _ _ => False)

/-- One round. -/
def roundA (P : Program) (R : CallR) (nt : Nat) (ann : Ann) (ps : List Nat) (assign body : Code) (e : Env) (args : List AV) (h : AHeap) (K : AV → AHeap → Prop) : Prop :=
  bif ps.all (Nat.blt · nt) then
    match ps with
    | [] => arg0 args (roundB P R nt ann assign body h K e)
    | [p] => arg1 args fun v => roundB P R nt ann assign body h K ((p, v) :: e)
    | [p, q] => arg2 args fun v w => roundB P R nt ann assign body h K ((q, w) :: (p, v) :: e)
    | _ => False
  else False

theorem roundA_split {P : Program} {R : CallR} {nt : Nat} {ann : Ann} {ps : List Nat} {assign body : Code} {e : Env} {args : List AV} {h : AHeap} {K : AV → AHeap → Prop} (hk : roundA P R nt ann ps assign body e args h K) :
    ps.all (Nat.blt · nt) = true ∧ args.length = ps.length ∧ roundB P R nt ann assign body h K (putAll ps args e) := by
  unfold roundA at hk
  obtain ⟨h1, hk⟩ := bif_true hk
  refine ⟨h1, ?_⟩
  split at hk
  · unfold arg0 at hk; split at hk
    · exact ⟨rfl, hk⟩
    · exact hk.elim
  · unfold arg1 at hk; split at hk
    · exact ⟨rfl, hk⟩
    · exact hk.elim
  · unfold arg2 at hk; split at hk
    · exact ⟨rfl, hk⟩
    · exact hk.elim
  · exact hk.elim

def orY (R : CallR) (l : Nat) (Y : List AV → AHeap → (AV → AHeap → Prop) → Prop) : CallR := fun f args h K => R f args h K ∨ (f = yid0 + l ∧ Y args h K)

def bodyOK (P : Program) (f : FuncId) : Bool := match P.funcs[f]? with
  | some fn => fn.body.isSome && !(fn.name == "runtime.NumGoroutine")
  | none => false

/-- A range over a function: its value, one round, what comes behind. -/
def rngA (P : Program) (R : CallR) (A : CallR → CallR) (g : AV) (Y : List AV → AHeap → (AV → AHeap → Prop) → Prop) (h : AHeap) (K : AHeap → Prop) : Prop :=
  match g with
  | .fn (.func gf) first cap => bif Nat.blt gf yid0 && bodyOK P gf then ∀ l, A (orY R l Y) gf (first ++ [.fn (.yield l) [] []] ++ cap) h (fun _ h' => K h') else False
  | _ => False

def rexec (P : Program) (R : CallR) (A : CallR → CallR) (nt : Nat) (ann : Ann) (c : Code) (e : Env) (h : AHeap) (K : Kx) : Prop :=
  match c with
  | .seq x y => rexec P R A nt ann.a x e h (kSeq (fun e h => rexec P R A nt ann.b y (restr ann.live e) h K) K)
  | .cond c x y => aIf (ev e h c) (rexec P R A nt ann.a x e h K) (rexec P R A nt ann.b y e h K)
  | .block id x => rexec P R A nt ann.a x e h (kBlock id K)
  | .rangeFunc g ps assign body =>
    rngA P R A (ev e h g) (roundA P R nt ann ps.toList assign body e) h (fun h' => K .normal e h')
  | c => aexec P R nt ann c e h K

section
variable {P : Program} {w0 : World} {Fz : Nat → Prop} {μ : Mu} {own : Nat → Option Nat} {h : AHeap} {w : World}

theorem Rel.rebase (R : Rel w0 Fz μ own h w) {Fz' : Nat → Prop} (hF : ∀ B, Fz' B → B < w.heap.size ∧ (Fz B ∨ ∃ o, w.heap[B]? = some o ∧ o.isCells = false)) : Rel w Fz' μ own h w where
  os := rfl
  tape := rfl
  output := rfl
  size0 := Nat.le_refl _
  fz := fun B hB => ⟨(hF B hB).1, rfl⟩
  ownlt := R.ownlt
  mulen := R.mulen
  blk := fun id b hb hl => by
    obtain ⟨l, k⟩ := R.blk id b hb hl
    refine ⟨l, { k with ro := fun hr hB => ?_ }⟩
    rcases (hF _ hB).2 with h1 | ⟨o, h1, h2⟩
    · exact k.ro hr h1
    · obtain ⟨c, el, fr, h3, _⟩ := k.row
      rw [h1] at h3; cases h3; cases h2

theorem Rel.put (R : Rel w Fz μ own h w) {L : Nat} {o : Obj} (hL : w.heap[L]? = some o) (ho : o.isCells = false) (o' : Obj) : Rel (w.putObj L o') Fz μ own h (w.putObj L o') where
  os := rfl
  tape := rfl
  output := rfl
  size0 := Nat.le_refl _
  fz := fun B hB => ⟨by simpa using (R.fz B hB).1, rfl⟩
  ownlt := fun B id hB => by simpa using R.ownlt B id hB
  mulen := R.mulen
  blk := fun id b hb hl => by
    obtain ⟨l, k⟩ := R.blk id b hb hl
    obtain ⟨c, el, fr, h3, h4⟩ := k.row
    have hne : l.B ≠ L := fun e => by rw [e, hL] at h3; cases h3; cases ho
    refine ⟨l, { k with row := ⟨c, el, fr, by rw [World.putObj_heap_other hne]; exact h3, h4⟩, free := fun hr j hj => ?_, vers := fun ver h1 h2 l' hl' => ?_ }⟩
    · have := k.free hr j hj
      simp only [World.frozen?] at this ⊢
      rw [World.putObj_heap_other hne]; exact this
    · have hv := k.vers ver h1 h2 l' hl'
      refine { hv with cells := fun j hj => ?_ }
      obtain ⟨cv, e1, e2⟩ := hv.cells j hj
      refine ⟨cv, ?_, e2⟩
      by_cases hb : l'.B = L
      · exfalso
        simp only [World.cell?, hb, hL] at e1
        cases o <;> first | (cases ho; done) | (simp at e1)
      · simp only [World.cell?] at e1 ⊢
        rw [World.putObj_heap_other hb]; exact e1

/-- Back to what was there first. -/
theorem Rel.back {wb : World} {Fzb : Nat → Prop} (R : Rel wb Fzb μ own h w) (h1 : w.os = w0.os) (h2 : w.tape = w0.tape) (h3 : w.output = w0.output) (h4 : w0.heap.size ≤ w.heap.size)
    (h5 : ∀ B, Fz B → Fzb B ∧ B < w0.heap.size ∧ w.heap[B]? = w0.heap[B]?) : Rel w0 Fz μ own h w where
  os := h1
  tape := h2
  output := h3
  size0 := h4
  fz := fun B hB => (h5 B hB).2
  ownlt := R.ownlt
  mulen := R.mulen
  blk := fun id b hb hl => by
    obtain ⟨l, k⟩ := R.blk id b hb hl
    exact ⟨l, { k with ro := fun hr hB => k.ro hr (h5 _ hB).1 }⟩

/-- A later base. -/
structure Base (w0 : World) (Fz : Nat → Prop) (wb : World) (Fzb : Nat → Prop) : Prop where
  os : wb.os = w0.os
  tape : wb.tape = w0.tape
  output : wb.output = w0.output
  size : w0.heap.size ≤ wb.heap.size
  fz : ∀ B, Fz B → Fzb B ∧ B < w0.heap.size ∧ wb.heap[B]? = w0.heap[B]?

theorem Base.refl (R : Rel w0 Fz μ own h w) : Base w0 Fz w0 Fz := ⟨rfl, rfl, rfl, Nat.le_refl _, fun B hB => ⟨hB, (R.fz B hB).1, rfl⟩⟩
theorem Base.trans {w1 w2 : World} {F1 F2 : Nat → Prop} (a : Base w0 Fz w1 F1) (b : Base w1 F1 w2 F2) : Base w0 Fz w2 F2 :=
  ⟨b.os.trans a.os, b.tape.trans a.tape, b.output.trans a.output, Nat.le_trans a.size b.size, fun B hB =>
    let ⟨h1, h2, h3⟩ := a.fz B hB; let ⟨h4, h5, h6⟩ := b.fz B h1; ⟨h4, h2, h6.trans h3⟩⟩
theorem Base.rel {wb : World} {Fzb : Nat → Prop} (b : Base w0 Fz wb Fzb) (R : Rel wb Fzb μ own h w) : Rel w0 Fz μ own h w :=
  R.back (R.os.trans b.os) (R.tape.trans b.tape) (R.output.trans b.output) (Nat.le_trans b.size R.size0) fun B hB =>
    let ⟨h1, h2, h3⟩ := b.fz B hB; ⟨h1, h2, (R.fz B h1).2.trans h3⟩

def markD (D : Nat) : Deferred := { target := .collected D, args := #[] }

/-- The marks that a range over a function leaves among the deferred calls. -/
structure Marks (w0 wb : World) (Fzb : Nat → Prop) (Ds : List Nat) : Prop where
  nodup : Ds.Nodup
  is : ∀ D ∈ Ds, Fzb D ∧ w0.heap.size ≤ D ∧ wb.heap[D]? = some (.deferred (some []))

def QKM (w0 : World) (Fz : Nat → Prop) (nt : Nat) (μ : Mu) (K : Kx) : Exit → Act → World → Prop :=
  fun x a' w' => ∃ e' h' μ' own' wb Fzb Ds, K x e' h' ∧ Base w0 Fz wb Fzb ∧ Rel wb Fzb μ' own' h' w' ∧ Marks w0 wb Fzb Ds ∧ EnvRel (Ds.map markD) μ' nt e' a' ∧ Sub μ μ'

theorem putAll_rel : ∀ {ps : List Nat} {args : List AV} {cargs : List Value} {nt : Nat} {e : Env} {tmps : Array Value}, VRels μ args cargs → args.length = ps.length → ps.all (Nat.blt · nt) = true → EnvRel [] μ nt e { tmps := tmps, defers := [] } →
    EnvRel [] μ nt (putAll ps args e) { tmps := (ps.zip cargs).foldl (fun t (p, v) => t.setIfInBounds p v) tmps, defers := [] }
  | [], args, cargs, nt, e, tmps, hv, hl, hp, hE => by simpa [putAll] using hE
  | p :: ps, [], _, nt, e, tmps, hv, hl, hp, hE => by simp at hl
  | p :: ps, v :: vs, _, nt, e, tmps, .cons _ c _ cs hv1 hv2, hl, hp, hE => by
    simp only [List.all_cons, Bool.and_eq_true] at hp
    simp only [putAll, List.zip_cons_cons, List.foldl_cons]
    refine putAll_rel hv2 (by simpa using hl) hp.2 ?_
    have := hE.put (o := { (default : Oper) with dst := some p }) (by simpa [dstOK] using hp.1) hv1
    simpa [GAM.put, Act.put] using this


theorem aexec_wpM {R : CallR} (hm : P.follows .mixedOrders = true) (hR : Sound P R) {nt : Nat} {c : Code} {ann : Ann} {e : Env} {K : Kx} {a : Act} {Ds : List Nat} (Rl : Rel w0 Fz μ own h w) (hE : EnvRel (Ds.map markD) μ nt e a)
    {wa : World} {Fa : Nat → Prop} (hb : Base wa Fa w0 Fz) (hM : Marks wa w0 Fz Ds)
    (hk : aexec P R nt ann c e h K) : c.wpIn (FR none) 0 P (QKM wa Fa nt μ K) a w :=
  wpIn_mono (aexec_wp hm (hR w0 Fz _) c ann μ own e h K a w (Sub.refl _) Rl hE hk) fun ex a' w' ⟨e', h', μ', own', g1, g2, g3, g4⟩ => ⟨e', h', μ', own', w0, Fz, Ds, g1, hb, g2, hM, g3, g4⟩

theorem round_ok {ds : List Deferred} {R : CallR} (hm : P.follows .mixedOrders = true) (hR : Sound P R) {nt : Nat} {ann : Ann} {ps : Array Nat} {assign body : Code} {e : Env} {a : Act} {μ0 : Mu} {L : Nat} {rec : Loop} {w1 : World} {F1 : Nat → Prop}
    (hL : F1 L) (hrec : w1.heap[L]? = some (.loop rec)) (hr : rec.state = .ready) (hpe : rec.pending = none) (hps : rec.params = ps) (has : rec.assign = assign) (hbd : rec.body = body) (htm : rec.tmps = a.tmps)
    (hE : EnvRel ds μ0 nt e a) (Rl : Rel w1 F1 μ own h w) (hsub : Sub μ0 μ) {args : List AV} {cargs : List Value} (hv : VRels μ args cargs) {K : AV → AHeap → Prop}
    (hk : roundA P R nt ann ps.toList assign body e args h K) : YieldOK P L cargs w (PostOf w1 F1 μ K) := by
  obtain ⟨hc, hlen, hk⟩ := roundA_split hk
  have hlen : args.length = ps.size := by simpa using hlen
  have hcl := hv.length
  have hwL : w.heap[L]? = some (.loop rec) := (Rl.fz L hL).2.trans hrec
  refine ⟨_, _, _, _, run_yield hwL (by rw [hps]; simp; omega), ?_⟩
  refine roundIn_of_wpIn trivial ?_
  have hE0 : EnvRel [] μ nt e { tmps := rec.tmps, defers := [] } := by
    have := hE.mono hsub
    rw [htm]
    exact ⟨this.1, rfl, this.3⟩
  have hEp := putAll_rel hv (by simpa using hlen) hc hE0
  have e1 : (rec.params.zip cargs.toArray).foldl (fun tmps (x : Nat × Value) => tmps.setIfInBounds x.1 x.2) rec.tmps = (ps.toList.zip cargs).foldl (fun t (x : Nat × Value) => t.setIfInBounds x.1 x.2) rec.tmps := by
    rw [hps, ← Array.foldl_toList, Array.toList_zip]
  have e2 : (rec.params.zip cargs.toArray).foldl (fun tmps (t, a) => tmps.setIfInBounds t a) rec.tmps = (ps.toList.zip cargs).foldl (fun t (p, v) => t.setIfInBounds p v) rec.tmps := e1
  rw [e2, has, hbd]
  refine wpIn_mono (aexec_wp (rd := some L) hm (hR w1 F1 _) assign ann.a μ own _ h _ _ w (Sub.refl _) Rl hEp hk) ?_
  rintro ex a' w' ⟨e', h', μ', own', g1, g2, g3, g4⟩
  cases ex <;> first | exact g1.elim | skip
  have hwL' : w'.heap[L]? = some (.loop rec) := (g2.fz L hL).2.trans hrec
  refine ⟨_, run_beginRound hwL' hr, ?_⟩
  have G2 := (g2.rebase (Fz' := F1) fun B hB => ⟨Nat.lt_of_lt_of_le (g2.fz B hB).1 g2.size0, .inl hB⟩).put hwL' rfl (.loop { rec with state := .busy })
  refine wpIn_mono (aexec_wp (rd := some L) hm (hR _ F1 _) body ann.b μ' own' _ h' _ _ _ (Sub.refl _) G2 g3 g1) ?_
  rintro ex a2 w2 ⟨e2, h2, μ2, own2, k1, k2, k3, k4⟩
  cases ex <;> first | exact k1.elim | skip
  have hlt : L < w'.heap.size := (Array.getElem?_eq_some_iff.1 hwL').1
  have hwL2 : w2.heap[L]? = some (.loop { rec with state := .busy }) := (k2.fz L hL).2.trans (World.putObj_heap_same hlt)
  refine ⟨_, _, run_endRound none hwL2, .bool true, rfl, .b true, μ2, own2, h2, k1, .b true, ?_, g4.trans k4⟩
  have e3 : ({ { rec with state := .busy } with state := (if (none : Option Code).isNone then LoopState.ready else LoopState.done), pending := none } : Loop) = rec := by
    cases rec; simp_all
  have G4 := (k2.rebase (Fz' := F1) fun B hB => ⟨Nat.lt_of_lt_of_le (k2.fz B hB).1 k2.size0, .inl hB⟩).put hwL2 rfl (.loop { { rec with state := .busy } with state := (if (none : Option Code).isNone then LoopState.ready else LoopState.done), pending := none })
  have hlt2 : L < w2.heap.size := (Array.getElem?_eq_some_iff.1 hwL2).1
  refine G4.back (k2.os.trans g2.os) (k2.tape.trans g2.tape) (k2.output.trans g2.output) (by have h1 := k2.size0; have h2 := g2.size0; simp only [World.putObj_size] at h1 ⊢; omega) fun B hB => ⟨hB, (g2.fz B hB).1, ?_⟩
  by_cases hBL : B = L
  · subst hBL
    rw [World.putObj_heap_same hlt2, e3, hrec]
  · rw [World.putObj_heap_other hBL, (k2.fz B hB).2, World.putObj_heap_other hBL, (g2.fz B hB).2]


theorem bodyOK_run {f : FuncId} (hb : bodyOK P f = true) (args : Array Value) (w : World) : (callFunc f args).run P w = .ok (.enter f args) w := by
  unfold bodyOK at hb
  split at hb
  · rename_i fn hf
    simp only [Bool.and_eq_true, Bool.not_eq_true'] at hb
    have hbs : fn.body.isNone = false := by cases h : fn.body <;> simp_all
    simp only [callFunc, Sem.run_bind, run_program, Result.andThen_ok, hf, hb.2, Bool.false_eq_true, if_false, hbs, Sem.run_pure]
  · cases hb

theorem SoundAt.up {R : CallR} {μb μb' : Mu} (h : SoundAt P w0 Fz μb R) (hs : Sub μb μb') : SoundAt P w0 Fz μb' R := fun f args hh K hk μ own w cargs hs' => h f args hh K hk μ own w cargs (hs.trans hs')

theorem range_wp {R : CallR} {A : CallR → CallR} (hm : P.follows .mixedOrders = true) (hR : Sound P R) (hA : ∀ w0 Fz μb Y, SoundAt P w0 Fz μb Y → SoundAt P w0 Fz μb (A Y)) {nt : Nat} {ann : Ann} {g : Operand} {ps : Array Tmp} {assign body : Code}
    {e : Env} {K : Kx} {a : Act} {Ds : List Nat} {wa : World} {Fa : Nat → Prop} (Rl : Rel w0 Fz μ own h w) (hE : EnvRel (Ds.map markD) μ nt e a) (hb : Base wa Fa w0 Fz) (hM : Marks wa w0 Fz Ds)
    (hk : rexec P R A nt ann (.rangeFunc g ps assign body) e h K) : (Code.rangeFunc g ps assign body).wpIn (FR none) 0 P (QKM wa Fa nt μ K) a w := by
  simp only [rexec, rngA] at hk
  have hv := Rl.ev hE g
  generalize hag : a.eval g = cg at hv
  generalize GAM.ev e h g = ag at hv hk
  cases hv <;> first | exact hk.elim | skip
  rename_i fnn first cap cf ccap r1 r2
  cases fnn <;> first | exact hk.elim | skip
  rename_i gf
  obtain ⟨hlt, hk⟩ := bif_true hk
  simp only [Bool.and_eq_true] at hlt
  refine wpIn_rangeFunc fun fn _ => ?_
  obtain ⟨rec, hrec⟩ : ∃ rec : Loop, rec = { state := .ready, pending := none, fn, tmps := a.tmps, params := ps, assign, body, defers := w.heap.size } := ⟨_, rfl⟩
  obtain ⟨w1, hw1⟩ : ∃ w1, (w.alloc (.deferred (some []))).alloc (.loop rec) = w1 := ⟨_, rfl⟩
  have hL1 : w1.heap[w.heap.size + 1]? = some (.loop rec) := by
    rw [← hw1]; have := World.alloc_heap_new (w.alloc (.deferred (some []))) (.loop rec); rwa [World.size_alloc] at this
  have hD1 : w1.heap[w.heap.size]? = some (.deferred (some [])) := by
    rw [← hw1]; exact (heap_alloc_old _ _ (by simp)).trans (World.alloc_heap_new w _)
  have hsame : Same w w1 := fun B hB => by
    rw [← hw1]; exact (heap_alloc_old _ _ (by simp; omega)).trans (heap_alloc_old _ _ hB)
  have hsz1 : w1.heap.size = w.heap.size + 2 := by rw [← hw1]; simp
  have R1 : Rel w0 Fz μ own h w1 := Rl.same hsame (by omega) (by rw [← hw1]; rfl) (by rw [← hw1]; rfl) (by rw [← hw1]; rfl)
  obtain ⟨F1, hF1⟩ : ∃ F1 : Nat → Prop, F1 = fun B => Fz B ∨ B = w.heap.size ∨ B = w.heap.size + 1 := ⟨_, rfl⟩
  have R2 : Rel w1 F1 μ own h w1 := R1.rebase fun B hB => by
    rw [hF1] at hB
    rcases hB with hB | rfl | rfl
    · exact ⟨Nat.lt_of_lt_of_le (R1.fz B hB).1 R1.size0, .inl hB⟩
    · exact ⟨by omega, .inr ⟨_, hD1, rfl⟩⟩
    · exact ⟨by omega, .inr ⟨_, hL1, rfl⟩⟩
  have hS : SoundAt P w1 F1 μ (orY R (w.heap.size + 1) (roundA P R nt ann ps.toList assign body e)) := by
    rintro f args h' K' (hk | ⟨rfl, hk⟩)
    · exact hR w1 F1 μ f args h' K' hk
    · intro μ2 own2 w2 cargs hs2 Rl2 hv2
      rw [if_neg (Nat.not_lt.2 (Nat.le_add_right _ _)), Nat.add_sub_cancel_left]
      exact round_ok hm hR (rec := rec) (by rw [hF1]; exact .inr (.inr rfl)) hL1 (by rw [hrec]) (by rw [hrec]) (by rw [hrec]) (by rw [hrec]) (by rw [hrec]) (by rw [hrec]) hE Rl2 hs2 hv2 hk
  have hcall := hA w1 F1 μ _ hS _ _ _ _ (hk (w.heap.size + 1)) μ own w1 (cf.toList ++ [.func (.yield (w.heap.size + 1)) #[] #[]] ++ ccap.toList) (Sub.refl _) R2
    ((r1.append (.cons _ _ _ _ (.fn _ _ _ _ _ .nil .nil) .nil)).append r2)
  rw [if_pos (show gf < yid0 from Nat.le_of_ble_eq_true hlt.1)] at hcall
  have hrun := bodyOK_run (P := P) hlt.2 (cf.toList ++ [Value.func (.yield (w.heap.size + 1)) #[] #[]] ++ ccap.toList).toArray w1
  have e1 : (cf.toList ++ [Value.func (.yield (w.heap.size + 1)) #[] #[]] ++ ccap.toList).toArray = (cf ++ #[Value.func (.yield (w.heap.size + 1)) #[] #[]]) ++ ccap := by apply Array.ext'; simp
  rw [e1] at hrun
  refine ⟨w.heap.size + 1, [markD w.heap.size], w1, { target := .fn (.func gf) ccap, args := cf ++ #[Value.func (.yield (w.heap.size + 1)) #[] #[]] }, w1, gf, (cf ++ #[Value.func (.yield (w.heap.size + 1)) #[] #[]]) ++ ccap, w1, ?_, ?_, fun _ _ => trivial, ?_, fun h => (by cases h), ?_⟩
  · rw [← hw1, hrec]; exact run_enterLoop_outer _ _ _ _ _
  · simp only [resolve, hag]
    simp [go_sem, Deferred.ofValue, Act.eval]
  · simpa [invoke] using hrun
  · rcases hcall with ⟨g2, as2, c1, c2⟩ | ⟨v, c1, c2⟩
    · rw [e1, hrun] at c1
      cases c1
      have c3 : CallsIn (FR none) 0 P gf _ w1 _ := callsIn_wide.2 c2
      refine c3.mono ?_
      rintro en w5 ⟨v, rfl, v', μ5, own5, h5, k1, k2, k3, k4⟩
      have hL5 : w5.heap[w.heap.size + 1]? = some (.loop rec) := (k3.fz _ (by rw [hF1]; exact .inr (.inr rfl))).2.trans hL1
      have hD5 : w5.heap[w.heap.size]? = some (.deferred (some [])) := (k3.fz _ (by rw [hF1]; exact .inr (.inl rfl))).2.trans hD1
      refine ⟨none, w5.putObj (w.heap.size + 1) (.loop { rec with state := .exhausted }), ?_, ?_⟩
      · rw [run_endLoop (P := P) hL5 (by rw [hrec]; simp), hrec]
      · have hlt5 : w.heap.size + 1 < w5.heap.size := (Array.getElem?_eq_some_iff.1 hL5).1
        have G5 := (k3.rebase (Fz' := F1) fun B hB => ⟨Nat.lt_of_lt_of_le (k3.fz B hB).1 k3.size0, .inl hB⟩).put hL5 rfl (.loop { rec with state := .exhausted })
        have hold : ∀ B, Fz B → B < w.heap.size := fun B hB => Nat.lt_of_lt_of_le (Rl.fz B hB).1 Rl.size0
        have hb2 : Base w0 Fz (w5.putObj (w.heap.size + 1) (.loop { rec with state := .exhausted })) F1 := by
          refine ⟨k3.os.trans R1.os, k3.tape.trans R1.tape, k3.output.trans R1.output, ?_, fun B hB => ⟨by rw [hF1]; exact .inl hB, (Rl.fz B hB).1, ?_⟩⟩
          · have := Rl.size0; simp only [World.putObj_size]; omega
          · have := hold B hB
            rw [World.putObj_heap_other (by omega), (k3.fz B (by rw [hF1]; exact .inl hB)).2, hsame B this, (Rl.fz B hB).2]
        have hDnew : w.heap.size ∉ Ds := fun hD => by
          have := hold _ (hM.is _ hD).1
          omega
        refine ⟨e, h5, μ5, own5, _, F1, w.heap.size :: Ds, k1, hb.trans hb2, G5, ⟨List.nodup_cons.2 ⟨hDnew, hM.nodup⟩, ?_⟩, ?_, k4⟩
        · intro D hD
          rcases List.mem_cons.1 hD with rfl | hD
          · refine ⟨by rw [hF1]; exact .inr (.inl rfl), Nat.le_trans hb.size Rl.size0, ?_⟩
            rw [World.putObj_heap_other (by omega)]; exact hD5
          · obtain ⟨d1, d2, d3⟩ := hM.is D hD
            have := hold D d1
            refine ⟨by rw [hF1]; exact .inl d1, d2, ?_⟩
            rw [World.putObj_heap_other (by omega), (k3.fz D (by rw [hF1]; exact .inl d1)).2, hsame D this, (Rl.fz D d1).2]; exact d3
        · have := hE.mono k4
          exact ⟨this.1, by simp [this.2], this.3⟩
    · rw [e1, hrun] at c1; cases c1

theorem rexec_wp {R : CallR} {A : CallR → CallR} (hm : P.follows .mixedOrders = true) (hR : Sound P R) (hA : ∀ w0 Fz μb Y, SoundAt P w0 Fz μb Y → SoundAt P w0 Fz μb (A Y)) {nt : Nat} {wa : World} {Fa : Nat → Prop} :
    ∀ (c : Code) (ann : Ann) (w0 : World) (Fz : Nat → Prop) (Ds : List Nat) (μ : Mu) (own : Nat → Option Nat) (e : Env) (h : AHeap) (K : Kx) (a : Act) (w : World),
    Rel w0 Fz μ own h w → EnvRel (Ds.map markD) μ nt e a → Base wa Fa w0 Fz → Marks wa w0 Fz Ds → rexec P R A nt ann c e h K → c.wpIn (FR none) 0 P (QKM wa Fa nt μ K) a w := by
  intro c
  induction c with
  | seq x y ihx ihy =>
    intro ann w0 Fz Ds μ own e h K a w Rl hE hb hM hk
    simp only [rexec] at hk
    refine wpIn_seq (wpIn_mono (ihx _ w0 Fz Ds μ own e h _ a w Rl hE hb hM hk) ?_)
    rintro ex a' w' ⟨e', h', μ', own', wb, Fb, Ds', g1, g2, g3, g4, g5, g6⟩
    cases ex with
    | normal =>
      exact wpIn_mono (ihy _ wb Fb Ds' μ' own' _ h' K a' w' g3 (g5.restr _) g2 g4 g1) fun ex a2 w2 ⟨e2, h2, μ2, own2, wc, Fc, D2, k1, k2, k3, k4, k5, k6⟩ => ⟨e2, h2, μ2, own2, wc, Fc, D2, k1, k2, k3, k4, k5, g6.trans k6⟩
    | _ => exact ⟨e', h', μ', own', wb, Fb, Ds', g1, g2, g3, g4, g5, g6⟩
  | cond c x y ihx ihy =>
    intro ann w0 Fz Ds μ own e h K a w Rl hE hb hM hk
    simp only [rexec] at hk
    rcases aIf_sound hk (Rl.ev hE c) with ⟨h1, h2⟩ | ⟨h1, h2⟩
    · exact wpIn_cond_true h1 (ihx _ w0 Fz Ds μ own e h K a w Rl hE hb hM h2)
    · exact wpIn_cond_false h1 (ihy _ w0 Fz Ds μ own e h K a w Rl hE hb hM h2)
  | block id x ih =>
    intro ann w0 Fz Ds μ own e h K a w Rl hE hb hM hk
    simp only [rexec] at hk
    refine wpIn_block (wpIn_mono (ih _ w0 Fz Ds μ own e h _ a w Rl hE hb hM hk) ?_)
    rintro ex a' w' ⟨e', h', μ', own', wb, Fb, Ds', g1, g2⟩
    cases ex with
    | exit id' =>
      simp only [kBlock] at g1
      simp only [Exit.inBlock]
      by_cases hid : id' = id
      · subst hid
        simp at g1
        rw [if_pos rfl]
        exact ⟨e', h', μ', own', wb, Fb, Ds', g1, g2⟩
      · rw [nbeq hid] at g1
        rw [if_neg hid]
        exact ⟨e', h', μ', own', wb, Fb, Ds', g1, g2⟩
    | _ => exact ⟨e', h', μ', own', wb, Fb, Ds', g1, g2⟩
  | rangeFunc g ps assign body =>
    intro ann w0 Fz Ds μ own e h K a w Rl hE hb hM hk
    exact range_wp hm hR hA Rl hE hb hM hk
  | _ =>
    intro ann w0 Fz Ds μ own e h K a w Rl hE hb hM hk
    exact aexec_wpM hm hR Rl hE hb hM (by simpa only [rexec] using hk)

/-- One call of a function whose body holds ranges over functions. -/
def aFR (P : Program) (R : CallR) (A : CallR → CallR) (f : FuncId) (args : List AV) (h : AHeap) (K : AV → AHeap → Prop) : Prop :=
  ∃ fn body ann, P.funcs[f]? = some fn ∧ fn.body = some body ∧ (fn.name == "runtime.NumGoroutine") = false ∧ args.length ≤ fn.ntmps ∧
    rexec P R A fn.ntmps ann body (initEnv 0 args) h (kFun P fn (kRet h K))

theorem leavesM {fn : Func} {tmps : Array Value} {R : Ending → World → Prop} {wa : World} {Fa : Nat → Prop} {wb : World} {v : AV} {cv : Value} {K : AV → AHeap → Prop} :
    ∀ (Ds : List Nat) (Fb : Nat → Prop) (wb w : World), Ds.Nodup → (∀ D ∈ Ds, w.heap[D]? = some (.deferred (some []))) →
    (∀ w', w'.heap.size = w.heap.size → (∀ B, B ∉ Ds → w'.heap[B]? = w.heap[B]?) → (∀ D ∈ Ds, w'.heap[D]? = some (.deferred none)) → w'.os = w.os → w'.tape = w.tape → w'.output = w.output → LeavesInM (FR none) 0 P fn tmps R [] .returning w') →
    LeavesInM (FR none) 0 P fn tmps R (Ds.map markD) .returning w
  | [], Fb, wb, w, _, _, h => h w rfl (fun _ _ => rfl) (fun _ h => by cases h) rfl rfl rfl
  | D :: Ds, Fb, wb, w, hn, hD, h => by
    obtain ⟨n1, n2⟩ := List.nodup_cons.1 hn
    have h0 := hD D (by simp)
    refine ⟨by simp, .inl ⟨D, _, rfl, run_takeDeferred h0, ?_⟩⟩
    have hlt : D < w.heap.size := (Array.getElem?_eq_some_iff.1 h0).1
    refine leavesM (wb := wb) (v := v) (cv := cv) (K := K) (wa := wa) (Fa := Fa) Ds Fb wb _ n2 (fun D' hD' => ?_) fun w' s1 s2 s3 s4 s5 s6 => h w' (by simpa using s1) (fun B hB => ?_) (fun D' hD' => ?_) s4 s5 s6
    · rw [World.putObj_heap_other (fun e => n1 (by rw [← e]; exact hD'))]; exact hD D' (by simp [hD'])
    · simp only [List.mem_cons, not_or] at hB
      rw [s2 B hB.2, World.putObj_heap_other hB.1]
    · rcases List.mem_cons.1 hD' with rfl | hD'
      · rw [s2 _ n1, World.putObj_heap_same hlt]
      · exact s3 D' hD'


theorem Rel.putMany {Ds : List Nat} (R : Rel w0 Fz μ own h w) {w' : World} (h1 : w'.heap.size = w.heap.size) (h2 : ∀ B, B ∉ Ds → w'.heap[B]? = w.heap[B]?) (hD : ∀ D ∈ Ds, w.heap[D]? = some (.deferred (some [])))
    (hD' : ∀ D ∈ Ds, w'.heap[D]? = some (.deferred none)) (h4 : w'.os = w.os) (h5 : w'.tape = w.tape) (h6 : w'.output = w.output) (hF : ∀ B, Fz B → B ∉ Ds) : Rel w0 Fz μ own h w' where
  os := h4.trans R.os
  tape := h5.trans R.tape
  output := h6.trans R.output
  size0 := by rw [h1]; exact R.size0
  fz := fun B hB => ⟨(R.fz B hB).1, (h2 B (hF B hB)).trans (R.fz B hB).2⟩
  ownlt := fun B id hB => by rw [h1]; exact R.ownlt B id hB
  mulen := R.mulen
  blk := fun id b hb hl => by
    obtain ⟨l, k⟩ := R.blk id b hb hl
    obtain ⟨c, el, fr, h3, hc⟩ := k.row
    have hne : l.B ∉ Ds := fun e => by have := hD _ e; rw [this] at h3; cases h3
    refine ⟨l, { k with row := ⟨c, el, fr, by rw [h2 _ hne]; exact h3, hc⟩, free := fun hr j hj => ?_, vers := fun ver g1 g2 l' hl' => ?_ }⟩
    · have := k.free hr j hj
      simp only [World.frozen?] at this ⊢
      rw [h2 _ hne]; exact this
    · have hv := k.vers ver g1 g2 l' hl'
      refine { hv with cells := fun j hj => ?_ }
      obtain ⟨cv, e1, e2⟩ := hv.cells j hj
      refine ⟨cv, ?_, e2⟩
      by_cases hb : l'.B ∈ Ds
      · exfalso
        simp [World.cell?, hD _ hb] at e1
      · simp only [World.cell?] at e1 ⊢
        rw [h2 _ hb]; exact e1

theorem aFR_sound {R : CallR} {A : CallR → CallR} (hm : P.follows .mixedOrders = true) (hsz : P.funcs.size ≤ yid0) (hR : Sound P R) (hA : ∀ w0 Fz μb Y, SoundAt P w0 Fz μb Y → SoundAt P w0 Fz μb (A Y)) : Sound P (aFR P R A) := by
  rintro w0 Fz μb f args h K ⟨fn, body, ann, hf, hb, hname, hn, hk⟩ μ own w cargs hsb Rl hc
  rw [if_pos (Nat.lt_of_lt_of_le (Array.getElem?_eq_some_iff.1 hf).1 hsz)]
  refine .inl ⟨f, cargs.toArray, ?_, ?_⟩
  · have hbs : fn.body.isNone = false := by simp [hb]
    simp only [callFunc, Sem.run_bind, run_program, Result.andThen_ok, hf, hname, Bool.false_eq_true, if_false, hbs, Sem.run_pure]
  · have hE : EnvRel (([] : List Nat).map markD) μ fn.ntmps (initEnv 0 args) _ := init_rel hc hn
    refine callsIn_wide.1 (callsIn_of_wp_marks (F := FR none) (n := 0) hf hb trivial (wpIn_mono (rexec_wp hm hR hA body ann w0 Fz [] μ own _ h _ _ w Rl hE (Base.refl Rl) ⟨List.nodup_nil, fun _ h => by cases h⟩ hk) ?_))
    rintro ex a' w' ⟨e', h', μ', own', wb, Fb, Ds, g1, g2, g3, g4, g5, g6⟩
    have fin : resAll P h' e' fn.results.toList (fun vs => kRet h K (tup vs) h') → LeavesInM (FR none) 0 P fn a'.tmps (fun e w' => ∃ v, e = .returned v ∧ PostOf w0 Fz μ K v w') a'.defers .returning w' := by
      intro hk
      rw [g5.defers]
      have hDs : ∀ D ∈ Ds, w'.heap[D]? = some (.deferred (some [])) := fun D hD => (g3.fz D (g4.is D hD).1).2.trans (g4.is D hD).2.2
      refine leavesM (wa := wb) (Fa := Fb) (v := .u) (cv := undef) (K := K) (wb := wb) Ds Fb wb w' g4.nodup hDs fun w2 s1 s2 s3 s4 s5 s6 => ?_
      have R2 : Rel w0 Fz μ' own' h' w2 := (g2.rel g3).putMany s1 s2 hDs s3 s4 s5 s6 fun B hB hBD => by
        have h1 := (g4.is B hBD).2.1
        have h2 := (g2.fz B hB).2.1
        omega
      obtain ⟨vs, cvs, k1, k2, k3⟩ := resAll_sound R2 g5 hk
      have hres : (results fn a'.tmps).run P w2 = .ok (if hs : cvs.toArray.size = 1 then cvs.toArray[0] else .tuple cvs.toArray) w2 := by
        have e : results fn a'.tmps = (do let vs ← fn.results.mapM (resV a'); pure (if h : vs.size = 1 then vs[0] else .tuple vs)) := rfl
        rw [e, Array.mapM_eq_mapM_toList, Sem.run_bind, Sem.run_map, k3]
        rfl
      refine ⟨_, hres, _, rfl, ?_⟩
      have ht := tup_rel k2
      rcases k1 with k1 | ⟨keep, c1, c2, c3, c4, c5, k1⟩
      · exact ⟨_, μ', own', h', k1, ht, R2, g6⟩
      · obtain ⟨t1, t2⟩ := Rel.trim Rl R2 g6 c1 c3 c4 c5
        exact ⟨_, _, _, _, k1, ren_rel (fun k hk => (c3 k hk).1) ht c2, t1, t2⟩
    cases ex with
    | normal => exact fin g1
    | ret => exact fin g1
    | exit id => exact g1.elim
    | goto l => exact g1.elim
    | panic ch => exact g1.elim
    | outgrown => exact g1.elim

/-- Calls, and functions whose bodies hold ranges over functions, over rules X. -/
theorem acallR_sound {X : CallR} (hm : P.follows .mixedOrders = true) (hsz : P.funcs.size ≤ yid0) (hX : Sound P X) : Sound P (acall P (aFR P (acall P X) (acall P))) :=
  acall_sound hm hsz (aFR_sound hm hsz (acall_sound hm hsz hX) fun w0 Fz μb Y hY => acall_soundAt hm hsz hY)

theorem Sound.none : Sound P (fun _ _ _ _ => False) := fun _ _ _ _ _ _ _ h => h.elim

theorem acall_x {X : CallR} {f : FuncId} {args : List AV} {h : AHeap} {K : AV → AHeap → Prop} (hk : X f args h K) : acall P X f args h K := fun R _ hX _ => hX _ _ _ _ hk

end
end Go.GAM
