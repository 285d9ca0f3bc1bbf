/- A body, cut at the places where ways meet and at its loops' heads: there the text goes on as J says. -/
import Derived.Test.YtffgchcidkapjaaDoorAm14
set_option linter.unusedVariables false
set_option linter.unusedSimpArgs false
namespace Go.GAM

abbrev JT := Nat → Env → AHeap → Prop

/-- A value with a name, in the printed texts. -/
def withI (n : Int) (K : Int → Prop) : Prop := K n
def withB (b : Bool) (K : Bool → Prop) : Prop := K b
def withL (l : List UInt8) (K : List UInt8 → Prop) : Prop := K l

/-- The code, run up to the next places. -/
def exJ (P : Program) (R : CallR) (nt : Nat) (J : JT) (ann : Ann) (c : Code) (e : Env) (h : AHeap) (K : Kx) : Prop :=
  match c with
  | .skip => K .normal e h
  | .region _ ops draw =>
    bif draw then (bif ordOK ops true ann.o [] then aOrd P R nt ops ann.o [] e h (K .normal) else False)
    else aOps P R nt ops ops.toList e h (K .normal)
  | .seq x y => exJ P R nt J ann.a x e h (kSeq (fun e h => bif Nat.beq ann.j 0 then exJ P R nt J ann.b y (restr ann.live e) h K else J ann.j (restr ann.live e) h) K)
  | .cond c x y => aIf (ev e h c) (exJ P R nt J ann.a x e h K) (exJ P R nt J ann.b y e h K)
  | .block id x => exJ P R nt J ann.a x e h (kBlock id K)
  | .loop _ => J ann.j (restr ann.live e) h
  | .exit id => K (.exit id) e h
  | .label _ => K .normal e h
  | .ret => K .ret e h
  | _ => False

def atJ (P : Program) (R : CallR) (nt : Nat) (J : JT) (round : Bool) : List Nat → Ann → Code → Env → AHeap → Kx → Prop
  | [], ann, c, e, h, K =>
    match round with
    | false => exJ P R nt J ann c e h K
    | true => match c with
      | .loop x => exJ P R nt J ann.a x e h (kSeq (fun e h => J ann.j (restr ann.live e) h) K)
      | _ => False
  | d :: path, ann, c, e, h, K =>
    match c with
    | .seq x y => bif Nat.beq d 0 then atJ P R nt J round path ann.a x e h (kSeq (fun e h => bif Nat.beq ann.j 0 then exJ P R nt J ann.b y (restr ann.live e) h K else J ann.j (restr ann.live e) h) K)
        else atJ P R nt J round path ann.b y e h K
    | .cond _ x y => bif Nat.beq d 0 then atJ P R nt J round path ann.a x e h K else atJ P R nt J round path ann.b y e h K
    | .block id x => atJ P R nt J round path ann.a x e h (kBlock id K)
    | .loop x => atJ P R nt J round path ann.a x e h (kSeq (fun e h => J ann.j (restr ann.live e) h) K)
    | _ => False

/-- The places of a body: number, path, a loop's head? -/
def places : Ann → Code → List (Nat × List Nat × Bool)
  | ann, .seq x y => (bif Nat.beq ann.j 0 then [] else [(ann.j, [1], false)]) ++ (places ann.a x).map (fun q => (q.1, 0 :: q.2.1, q.2.2)) ++ (places ann.b y).map (fun q => (q.1, 1 :: q.2.1, q.2.2))
  | ann, .cond _ x y => (places ann.a x).map (fun q => (q.1, 0 :: q.2.1, q.2.2)) ++ (places ann.b y).map (fun q => (q.1, 1 :: q.2.1, q.2.2))
  | ann, .block _ x => (places ann.a x).map (fun q => (q.1, 0 :: q.2.1, q.2.2))
  | ann, .loop x => (ann.j, [], true) :: (places ann.a x).map (fun q => (q.1, 0 :: q.2.1, q.2.2))
  | _, _ => []

def wayOf (b : Bool) : Way := match b with | true => .head | false => .run

def lookJ : List (Nat × List Nat × Bool) → Nat → Option (List Nat × Bool)
  | [], _ => none
  | (k, v) :: r, n => bif Nat.beq k n then some v else lookJ r n

/-- J as it is meant. -/
def actJ (P : Program) (R : CallR) (nt : Nat) (ann : Ann) (c : Code) (K : Kx) : JT := fun k e h =>
  match lookJ (places ann c) k with
  | some (p, b) => aAt P R nt (wayOf b) p ann c e h K
  | none => False

def notIn (n : Nat) : List (Nat × List Nat × Bool) → Bool
  | [] => true
  | (k, _) :: r => bif Nat.beq k n then false else notIn n r
def noTwice : List (Nat × List Nat × Bool) → Bool
  | [] => true
  | (k, _) :: r => bif notIn k r then noTwice r else false

theorem notIn_mem {n : Nat} : ∀ {l : List (Nat × List Nat × Bool)}, notIn n l = true → ∀ v, (n, v) ∉ l
  | [], _, _ => by simp
  | (k, u) :: r, h, v => by
    unfold notIn at h
    cases hb : Nat.beq k n with
    | true => rw [hb] at h; cases h
    | false =>
      rw [hb] at h
      intro hm
      rcases List.mem_cons.1 hm with he | hm
      · injection he with h1 _; subst h1; simp at hb
      · exact notIn_mem h v hm

theorem lookJ_mem : ∀ {l : List (Nat × List Nat × Bool)}, noTwice l = true → ∀ {k : Nat} {v : List Nat × Bool}, (k, v) ∈ l → lookJ l k = some v
  | [], _, _, _, h => by cases h
  | (k0, u) :: r, hd, k, v, h => by
    unfold noTwice at hd
    cases hn : notIn k0 r with
    | false => rw [hn] at hd; cases hd
    | true =>
      rw [hn] at hd
      unfold lookJ
      rcases List.mem_cons.1 h with he | hm
      · injection he with h1 h2; subst h1; subst h2; simp
      · have hne : k0 ≠ k := fun e => notIn_mem hn v (e ▸ hm)
        rw [nbeq hne]
        exact lookJ_mem hd hm

section
variable {P : Program}

def Meant (P : Program) (R : CallR) (nt : Nat) (J : JT) (ann : Ann) (c : Code) (K : Kx) : Prop :=
  ∀ k p b, (k, p, b) ∈ places ann c → ∀ e h, J k e h → aAt P R nt (wayOf b) p ann c e h K

theorem Meant.act {R : CallR} {nt : Nat} {ann : Ann} {c : Code} {K : Kx} (hd : noTwice (places ann c) = true) : Meant P R nt (actJ P R nt ann c K) ann c K := by
  intro k p b hm e h hJ
  unfold actJ at hJ
  rw [lookJ_mem hd hm] at hJ
  exact hJ

section
variable {R : CallR} {nt : Nat} {J : JT} {ann : Ann} {x y : Code} {K : Kx}
theorem Meant.seq1 (h : Meant P R nt J ann (.seq x y) K) : Meant P R nt J ann.a x (kSeq (fun e h => aexec P R nt ann.b y (restr ann.live e) h K) K) := fun k p b hm e hh hJ =>
  h k (0 :: p) b (by simp only [places, List.mem_append, List.mem_map]; exact .inl (.inr ⟨_, hm, rfl⟩)) e hh hJ
theorem Meant.seq2 (h : Meant P R nt J ann (.seq x y) K) : Meant P R nt J ann.b y K := fun k p b hm e hh hJ =>
  h k (1 :: p) b (by simp only [places, List.mem_append, List.mem_map]; exact .inr ⟨_, hm, rfl⟩) e hh hJ
theorem Meant.seqJ (h : Meant P R nt J ann (.seq x y) K) (hj : Nat.beq ann.j 0 = false) {e : Env} {hh : AHeap} (hJ : J ann.j e hh) : aexec P R nt ann.b y e hh K :=
  h ann.j [1] false (by simp only [places, List.mem_append, hj, cond_false]; exact .inl (.inl (by simp))) e hh hJ
theorem Meant.cond1 {c : Operand} (h : Meant P R nt J ann (.cond c x y) K) : Meant P R nt J ann.a x K := fun k p b hm e hh hJ =>
  h k (0 :: p) b (by simp only [places, List.mem_append, List.mem_map]; exact .inl ⟨_, hm, rfl⟩) e hh hJ
theorem Meant.cond2 {c : Operand} (h : Meant P R nt J ann (.cond c x y) K) : Meant P R nt J ann.b y K := fun k p b hm e hh hJ =>
  h k (1 :: p) b (by simp only [places, List.mem_append, List.mem_map]; exact .inr ⟨_, hm, rfl⟩) e hh hJ
theorem Meant.block {id : Nat} (h : Meant P R nt J ann (.block id x) K) : Meant P R nt J ann.a x (kBlock id K) := fun k p b hm e hh hJ =>
  h k (0 :: p) b (by simp only [places, List.mem_map]; exact ⟨_, hm, rfl⟩) e hh hJ
theorem Meant.loop (h : Meant P R nt J ann (.loop x) K) : Meant P R nt J ann.a x (kSeq (fun e h => aLoop (loopF P R nt ann x K) (restr ann.live e) h) K) := fun k p b hm e hh hJ =>
  h k (0 :: p) b (by simp only [places, List.mem_cons, List.mem_map]; exact .inr ⟨_, hm, rfl⟩) e hh hJ
theorem Meant.loopJ (h : Meant P R nt J ann (.loop x) K) {e : Env} {hh : AHeap} (hJ : J ann.j e hh) : aLoop (loopF P R nt ann x K) e hh :=
  h ann.j [] true (by simp only [places, List.mem_cons]; exact .inl trivial) e hh hJ
end

theorem exJ_exec {R : CallR} (hR : RLe R R) {nt : Nat} {J : JT} : ∀ (c : Code) (ann : Ann) (e : Env) (h : AHeap) (K K' : Kx), Meant P R nt J ann c K' → (∀ x e h, K x e h → K' x e h) → exJ P R nt J ann c e h K → aexec P R nt ann c e h K' := by
  intro c
  induction c with
  | skip => intro ann e h K K' hM hK hk; exact hK _ _ _ hk
  | region id ops draw =>
    intro ann e h K K' hM hK hk
    exact aexec_mono hR (.region id ops draw) ann _ _ K K' hK hk
  | seq x y ihx ihy =>
    intro ann e h K K' hM hK hk
    refine ihx _ _ _ _ _ hM.seq1 (fun ex e h hx => ?_) hk
    cases ex with
    | normal =>
      simp only [kSeq] at *
      cases hj : Nat.beq ann.j 0 with
      | true => rw [hj] at hx; exact ihy _ _ _ _ _ hM.seq2 hK hx
      | false => rw [hj] at hx; exact hM.seqJ hj hx
    | _ => exact hK _ _ _ hx
  | cond c x y ihx ihy =>
    intro ann e h K K' hM hK hk
    exact aIf_mono (ihx _ _ _ _ _ hM.cond1 hK) (ihy _ _ _ _ _ hM.cond2 hK) hk
  | block id x ih =>
    intro ann e h K K' hM hK hk
    refine ih _ _ _ _ _ hM.block (fun ex e h hx => ?_) hk
    cases ex with
    | exit id' =>
      simp only [kBlock] at *
      revert hx
      cases Nat.beq id' id <;> exact hK _ _ _
    | _ => exact hK _ _ _ hx
  | loop x ih => intro ann e h K K' hM hK hk; exact hM.loopJ hk
  | exit id => intro ann e h K K' hM hK hk; exact hK _ _ _ hk
  | label l => intro ann e h K K' hM hK hk; exact hK _ _ _ hk
  | ret => intro ann e h K K' hM hK hk; exact hK _ _ _ hk
  | _ => intro ann e h K K' hM hK hk; exact False.elim hk

theorem atJ_at {R : CallR} (hR : RLe R R) {nt : Nat} {J : JT} {round : Bool} : ∀ (path : List Nat) (ann : Ann) (c : Code) (e : Env) (h : AHeap) (K K' : Kx), Meant P R nt J ann c K' → (∀ x e h, K x e h → K' x e h) → atJ P R nt J round path ann c e h K →
    aAt P R nt (match round with | true => .round | false => .run) path ann c e h K'
  | [], ann, c, e, h, K, K', hM, hK, hk => by
    cases round with
    | false => exact exJ_exec hR c ann e h K K' hM hK hk
    | true =>
      cases c <;> first | exact hk.elim | skip
      rename_i x
      refine exJ_exec hR x ann.a e h _ _ hM.loop (fun ex e h hx => ?_) hk
      cases ex with
      | normal => exact hM.loopJ hx
      | _ => exact hK _ _ _ hx
  | d :: path, ann, c, e, h, K, K', hM, hK, hk => by
    unfold atJ at hk
    unfold aAt
    cases c <;> first | exact hk.elim | skip
    case seq x y =>
      simp only at hk ⊢
      cases hd : Nat.beq d 0 with
      | true =>
        rw [hd] at hk
        refine atJ_at hR path _ _ _ _ _ _ hM.seq1 (fun ex e h hx => ?_) hk
        cases ex with
        | normal =>
          simp only [kSeq] at *
          cases hj : Nat.beq ann.j 0 with
          | true => rw [hj] at hx; exact exJ_exec hR _ _ _ _ _ _ hM.seq2 hK hx
          | false => rw [hj] at hx; exact hM.seqJ hj hx
        | _ => exact hK _ _ _ hx
      | false => rw [hd] at hk; exact atJ_at hR path _ _ _ _ _ _ hM.seq2 hK hk
    case cond c x y =>
      simp only at hk ⊢
      cases hd : Nat.beq d 0 with
      | true => rw [hd] at hk; exact atJ_at hR path _ _ _ _ _ _ hM.cond1 hK hk
      | false => rw [hd] at hk; exact atJ_at hR path _ _ _ _ _ _ hM.cond2 hK hk
    case block id x =>
      refine atJ_at hR path _ _ _ _ _ _ hM.block (fun ex e h hx => ?_) hk
      cases ex with
      | exit id' =>
        simp only [kBlock] at *
        revert hx
        cases Nat.beq id' id <;> exact hK _ _ _
      | _ => exact hK _ _ _ hx
    case loop x =>
      refine atJ_at hR path _ _ _ _ _ _ hM.loop (fun ex e h hx => ?_) hk
      cases ex with
      | normal => exact hM.loopJ hx
      | _ => exact hK _ _ _ hx

/-- The places' J of a function. -/
abbrev funJ (P : Program) (R : CallR) (fn : Func) (ann : Ann) (body : Code) (Q : AV → AHeap → Prop) : JT := actJ P R fn.ntmps ann body (kFun P fn Q)

theorem goJ_run {R : CallR} (hR : RLe R R) {fn : Func} {ann : Ann} {body : Code} (hd : noTwice (places ann body) = true) {Q : AV → AHeap → Prop} {k : Nat} {p : List Nat} (hl : lookJ (places ann body) k = some (p, false)) {e : Env} {h : AHeap}
    (hk : atJ P R fn.ntmps (funJ P R fn ann body Q) false p ann body e h (kFun P fn Q)) : funJ P R fn ann body Q k e h := by
  unfold funJ actJ
  rw [hl]
  exact atJ_at hR p ann body e h _ _ (Meant.act hd) (fun _ _ _ h => h) hk

theorem goJ_head {R : CallR} (hR : RLe R R) {fn : Func} {ann : Ann} {body : Code} (hd : noTwice (places ann body) = true) {Q : AV → AHeap → Prop} {k : Nat} {p : List Nat} (hl : lookJ (places ann body) k = some (p, true)) {e : Env} {h : AHeap}
    (hk : atJ P R fn.ntmps (funJ P R fn ann body Q) true p ann body e h (kFun P fn Q)) : funJ P R fn ann body Q k e h := by
  unfold funJ actJ
  rw [hl]
  exact aAt_round hR p ann body e h _ (atJ_at hR p ann body e h _ _ (Meant.act hd) (fun _ _ _ h => h) hk)

/-- A function's text gives its calls. -/
theorem callJ {X : CallR} {f : FuncId} {fn : Func} {ann : Ann} {body : Code} (hf : P.funcs[f]? = some fn) (hb : fn.body = some body) (hn : (fn.name == "runtime.NumGoroutine") = false) (hd : noTwice (places ann body) = true) {args : List AV} (ha : Nat.ble args.length fn.ntmps = true)
    {h : AHeap} {K : AV → AHeap → Prop} (hk : exJ P (acall P X) fn.ntmps (funJ P (acall P X) fn ann body (kRet h K)) ann body (initEnv 0 args) h (kFun P fn (kRet h K))) : acall P X f args h K :=
  acall_body ⟨fn, body, ann, hf, hb, hn, Nat.le_of_ble_eq_true ha, exJ_exec (acall_le X) body ann _ h _ _ (Meant.act hd) (fun _ _ _ h => h) hk⟩

end
end Go.GAM
