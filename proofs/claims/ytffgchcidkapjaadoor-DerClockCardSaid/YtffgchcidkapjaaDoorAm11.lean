/- Regions and code. -/
import Derived.Test.YtffgchcidkapjaaDoorAmO5
set_option linter.unusedVariables false
set_option linter.unusedSimpArgs false
namespace Go.GAM

section
variable {ds : List Deferred} {rd : Option Nat} {P : Program} {w0 : World} {Fz : Nat → Prop} {μ : Mu} {own : Nat → Option Nat} {h : AHeap} {w : World}

/-- What holds behind a run: the abstract continuation, and the relation. -/
def QK (ds : List Deferred) (w0 : World) (Fz : Nat → Prop) (nt : Nat) (μ : Mu) (K : Kx) : Exit → Act → World → Prop :=
  fun x a' w' => ∃ e' h' μ' own', K x e' h' ∧ Rel w0 Fz μ' own' h' w' ∧ EnvRel ds μ' nt e' a' ∧ Sub μ μ'

theorem aOps_wp {R : CallR} {μb : Mu} (hR : SoundAt P w0 Fz μb R) {nt : Nat} {ops : Array Oper} {K : Env → AHeap → Prop} {Q : Exit → Act → World → Prop} : ∀ (l : List Oper) (μ : Mu) (own : Nat → Option Nat) (e : Env) (h : AHeap) (a : Act) (w : World),
    Sub μb μ → Rel w0 Fz μ own h w → EnvRel ds μ nt e a → aOps P R nt ops l e h K →
    (∀ e' h' a' w' μ' own', K e' h' → Rel w0 Fz μ' own' h' w' → EnvRel ds μ' nt e' a' → Sub μ μ' → Q .normal a' w') → wpListIn (FR rd) 0 P ops Q l a w
  | [], μ, own, e, h, a, w, hsb, Rl, hE, hk, hQ => hQ e h a w μ own hk Rl hE (Sub.refl _)
  | o :: l, μ, own, e, h, a, w, hsb, Rl, hE, hk, hQ => by
    obtain ⟨hd, hk⟩ := bif_true hk
    unfold wpListIn
    rcases guardA_sound hE hk with ⟨hw, e, hE, hk⟩ | ⟨hw, e, hE, hk⟩
    · rw [if_pos hw]
      refine aop_wp hR hsb Rl hE hk fun v cv μ' own' h' w' h1 h2 h3 h4 => ?_
      have h1 := shapeO_sound h2 h1
      exact aOps_wp hR l μ' own' _ h' _ w' (hsb.trans h4) h3 ((hE.mono h4).put hd h2) h1 fun e2 h2 a2 w2 μ2 own2 g1 g2 g3 g4 => hQ e2 h2 a2 w2 μ2 own2 g1 g2 g3 (h4.trans g4)
    · rw [if_neg (by simp [hw])]
      exact ⟨fun _ _ => trivial, aOps_wp hR l μ own _ h _ w hsb Rl (hE.put hd (.tu [] #[] .nil)) hk hQ⟩

theorem Rel.empty (w : World) : Rel w (fun B => B < w.heap.size) (fun _ _ => none) (fun _ => none) [] w where
  os := rfl
  tape := rfl
  output := rfl
  size0 := Nat.le_refl _
  fz := fun B hB => ⟨hB, rfl⟩
  ownlt := fun B id h => by cases h
  mulen := fun id ver l h => by cases h
  blk := fun id b h => by simp at h

theorem aexec_wp {R : CallR} (hm : P.follows .mixedOrders = true) {μb : Mu} (hR : SoundAt P w0 Fz μb R) {nt : Nat} : ∀ (c : Code) (ann : Ann) (μ : Mu) (own : Nat → Option Nat) (e : Env) (h : AHeap) (K : Kx) (a : Act) (w : World),
    Sub μb μ → Rel w0 Fz μ own h w → EnvRel ds μ nt e a → aexec P R nt ann c e h K → c.wpIn (FR rd) 0 P (QK ds w0 Fz nt μ K) a w := by
  intro c
  induction c with
  | skip => intro ann μ own e h K a w hsb Rl hE hk; exact wpIn_skip ⟨e, h, μ, own, hk, Rl, hE, Sub.refl _⟩
  | region id ops draw =>
    intro ann μ own e h K a w hsb Rl hE hk
    simp only [aexec] at hk
    cases draw with
    | false =>
      exact wpIn_region_list (aOps_wp hR _ μ own e h a w hsb Rl hE hk fun e' h' a' w' μ' own' g1 g2 g3 g4 => ⟨e', h', μ', own', g1, g2, g3, g4⟩)
    | true =>
      simp only [cond_true] at hk
      obtain ⟨hB, hk⟩ := bif_true hk
      exact region_ord hm hR hsb Rl hE hB hk fun e' h' a' w' μ' own' g1 g2 g3 g4 => ⟨e', h', μ', own', g1, g2, g3, g4⟩
  | seq x y ihx ihy =>
    intro ann μ own e h K a w hsb Rl hE hk
    simp only [aexec] at hk
    refine wpIn_seq (wpIn_mono (ihx _ μ own e h _ a w hsb Rl hE hk) ?_)
    rintro ex a' w' ⟨e', h', μ', own', g1, g2, g3, g4⟩
    cases ex with
    | normal =>
      exact wpIn_mono (ihy _ μ' own' _ h' K a' w' (hsb.trans g4) g2 (g3.restr _) g1) fun ex a2 w2 ⟨e2, h2, μ2, own2, k1, k2, k3, k4⟩ => ⟨e2, h2, μ2, own2, k1, k2, k3, g4.trans k4⟩
    | _ => exact ⟨e', h', μ', own', g1, g2, g3, g4⟩
  | cond c x y ihx ihy =>
    intro ann μ own e h K a w hsb Rl hE hk
    simp only [aexec] at hk
    rcases aIf_sound hk (Rl.ev hE c) with ⟨h1, h2⟩ | ⟨h1, h2⟩
    · exact wpIn_cond_true h1 (ihx _ μ own e h K a w hsb Rl hE h2)
    · exact wpIn_cond_false h1 (ihy _ μ own e h K a w hsb Rl hE h2)
  | block id x ih =>
    intro ann μ own e h K a w hsb Rl hE hk
    simp only [aexec] at hk
    refine wpIn_block (wpIn_mono (ih _ μ own e h _ a w hsb Rl hE hk) ?_)
    rintro ex a' w' ⟨e', h', μ', own', g1, g2, g3, g4⟩
    cases ex with
    | exit id' =>
      simp only [kBlock] at g1
      simp only [Exit.inBlock]
      by_cases hid : id' = id
      · subst hid
        simp at g1
        rw [if_pos rfl]
        exact ⟨e', h', μ', own', g1, g2, g3, g4⟩
      · rw [nbeq hid] at g1
        rw [if_neg hid]
        exact ⟨e', h', μ', own', g1, g2, g3, g4⟩
    | _ => exact ⟨e', h', μ', own', g1, g2, g3, g4⟩
  | loop x ih =>
    intro ann μ own e h K a w hsb Rl hE hk
    simp only [aexec] at hk
    have key := hk (fun e h => ∀ (μ' : Mu) (own' : Nat → Option Nat) (a : Act) (w : World), Sub μ μ' → Rel w0 Fz μ' own' h w → EnvRel ds μ' nt e a → ∀ (b : Frame) (k : List Item) (cs : List Frame), b.roundOf = rd → (FR rd).room (cs.length + 1 + 0) →
        ∃ ex a' w', QK ds w0 Fz nt μ K ex a' w' ∧ ArrivesIn (Machine.fenced P (FR rd)) P (lone (b.atR a (.code x :: .inLoop x :: k)) cs w) b k cs ex a' w') (by
      intro e h hF μ' own' a w hs Rl hE b k cs hro hb
      obtain ⟨ex, a1, w1, ⟨e1, h1, μ1, own1, g1, g2, g3, g4⟩, harr⟩ := ih _ μ' own' e h _ a w (hsb.trans hs) Rl hE hF b (.inLoop x :: k) cs hro trivial hb
      cases ex with
      | normal =>
        obtain ⟨ex2, a2, w2, q2, arr2⟩ := g1 μ1 own1 a1 w1 (hs.trans g4) g2 (g3.restr _) b k cs hro hb
        exact ⟨ex2, a2, w2, q2, .of_steps (StepsIn.trans harr (.one (fenced_calm (n := 0) trivial hb rfl) stepR_inLoop)) arr2⟩
      | exit id => exact ⟨_, a1, w1, ⟨e1, h1, μ1, own1, g1, g2, g3, hs.trans g4⟩, .pass (x := .inLoop x) rfl (fun _ _ => .inl (by simp)) harr⟩
      | goto l => exact ⟨_, a1, w1, ⟨e1, h1, μ1, own1, g1, g2, g3, hs.trans g4⟩, .pass (x := .inLoop x) rfl (fun _ _ => .inl (by simp)) harr⟩
      | ret => exact ⟨_, a1, w1, ⟨e1, h1, μ1, own1, g1, g2, g3, hs.trans g4⟩, .pass (x := .inLoop x) rfl (fun _ _ => .inl (by simp)) harr⟩
      | panic ch => exact ⟨_, a1, w1, ⟨e1, h1, μ1, own1, g1, g2, g3, hs.trans g4⟩, .pass (x := .inLoop x) rfl (fun _ _ => .inl (by simp)) harr⟩
      | outgrown => exact ⟨_, a1, w1, ⟨e1, h1, μ1, own1, g1, g2, g3, hs.trans g4⟩, .pass (x := .inLoop x) rfl (fun _ _ => .inl (by simp)) harr⟩)
    intro b k cs hro hbt hb
    obtain ⟨ex, a', w', hq, harr⟩ := key μ own a w (Sub.refl _) Rl (hE.restr _) b k cs hro hb
    exact ⟨ex, a', w', hq, .of_steps (.one (fenced_calm (n := 0) trivial hb rfl) stepR_loop) harr⟩
  | exit id => intro ann μ own e h K a w hsb Rl hE hk; exact wpIn_exit ⟨e, h, μ, own, hk, Rl, hE, Sub.refl _⟩
  | label l => intro ann μ own e h K a w hsb Rl hE hk; exact wpIn_label ⟨e, h, μ, own, hk, Rl, hE, Sub.refl _⟩
  | ret => intro ann μ own e h K a w hsb Rl hE hk; exact wpIn_ret ⟨e, h, μ, own, hk, Rl, hE, Sub.refl _⟩
  | _ => intro ann μ own e h K a w hsb Rl hE hk; exact False.elim hk

end
end Go.GAM
