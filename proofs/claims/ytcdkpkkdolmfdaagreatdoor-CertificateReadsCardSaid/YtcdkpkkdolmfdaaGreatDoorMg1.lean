/- Lemmas (several texts in one). -/
import Derived.Scope
import Derived.RangeFuncOwn
import Derived.DefersIn
import Derived.Test.YtcdkpkkdolmfdaaGreatDoorMg0
set_option linter.unusedVariables false
set_option linter.unusedSimpArgs false
namespace Go.GAM
section
variable {P:Program}
theorem aMV {α:Type} {c:AV} {A B:(α→Prop)→Prop} {K:α→Prop} (hA:A K→∃ v,K v∧∀ K',K' v→A K') (hB:B K→∃ v,K v∧∀ K',K' v→B K') (h:aIf c (A K) (B K)):∃ v,K v∧∀ K',K' v→aIf c (A K') (B K'):=by
 unfold aIf at *
 split at h <;> first | exact hA h | exact hB h | exact h.elim
theorem rK {op:BinOp} {r:Bool} {K:AV→Prop} (h:fH op r K):∃ v,K v∧∀ K':AV→Prop,K' v→fH op r K':=by
 cases op <;> first | exact h.elim | exact ⟨_,h,fun _ h=>h⟩
theorem aA4 {sz:Nat} {x:AV} {h:aA} {K:List AV→Prop} (hk:gQ sz x h K):∃ v,K v∧∀ K':List AV→Prop,K' v→gQ sz x h K':=by
 unfold gQ at *
 split at hk
 ·exact ⟨_,hk,fun _ h=>h⟩
 ·rcases hk with ⟨h0, hk⟩ | ⟨b, h1, h3, h4⟩
  ·exact ⟨_,hk,fun _ h=>.inl ⟨h0,h⟩⟩
  ·exact ⟨_,h4,fun _ h=>.inr ⟨b,h1,h3,h⟩⟩
 ·exact hk.elim
theorem eU {x:Option AV} {d:Nat} {K:Nat→Prop} (hk:iN x d K):∃ v,K v∧∀ K':Nat→Prop,K' v→iN x d K':=by
 unfold iN at *
 split at hk
 ·exact ⟨_,hk,fun _ h=>h⟩
 ·exact ⟨_,hk.2,fun _ h=>⟨hk.1,h⟩⟩
 ·exact hk.elim
theorem tT {α:Type} {c:Bool} {A:(α→Prop)→Prop} {K:α→Prop} (hA:A K→∃ v,K v∧∀ K',K' v→A K') (h:bif c then A K else False):∃ v,K v∧∀ K',K' v→bif c then A K' else False:=by
 cases c
 ·exact h.elim
 ·exact hA h
theorem aKB {op:BinOp} {t:TypeId} {x y:AV} {K:AV→Prop} (hk:gD P op t x y K):∃ v,K v∧∀ K':AV→Prop,K' v→gD P op t x y K':=by
 unfold gD at *
 split at hk
 case h_1=>cases op <;> first | exact ⟨_,hk.2,fun _ h=>⟨hk.1,h⟩⟩ | exact ⟨_,hk,fun _ h=>h⟩ | exact tT (A:=fun K=>_∧K _) (fun hk=>⟨_,hk.2,fun _ h=>⟨hk.1,h⟩⟩) hk | exact tT (A:=fun K=>K _) (fun hk=>⟨_,hk,fun _ h=>h⟩) hk
 case h_2=>cases op <;> first | exact hk.elim | exact ⟨_,hk.2,fun _ h=>⟨hk.1,h⟩⟩ | exact ⟨_,hk,fun _ h=>h⟩
 case h_3=>split at hk <;> first | exact rK hk | exact hk.elim
 case h_16=>
  cases hg:P.eqGuardType P.depth t with
  | true=>rw [hg] at hk; exact hk.elim
  | false =>
   rw [hg] at hk
   simp only [cond_false] at hk ⊢
   split at hk <;> first | exact rK hk | exact hk.elim
 all_goals first | exact tT (A:=fun K=>fH _ _ K) rK hk | exact hk.elim
theorem aLJ {v:AV} {K:Bool→Prop} (hk:asB v K):∃ c,K c∧∀ K':Bool→Prop,K' c→asB v K':=by
 unfold asB at *; split at hk <;> first | exact ⟨_,hk,fun _ h=>h⟩ | exact hk.elim
theorem aLB {k:IntKind} {v:AV} {K:Int→Prop} (hk:asI k v K):∃ c,K c∧∀ K':Int→Prop,K' c→asI k v K':=by
 unfold asI at *; split at hk <;> first | exact tT (A:=fun K=>K _) (fun hk=>⟨_,hk,fun _ h=>h⟩) hk | exact hk.elim
theorem aMB {v:AV} {K:List UInt8→Prop} (hk:asS v K):∃ c,K c∧∀ K':List UInt8→Prop,K' c→asS v K':=by
 unfold asS at *; split at hk <;> first | exact ⟨_,hk,fun _ h=>h⟩ | exact hk.elim
theorem vZ {o:Oper} {v:AV} {K:AV→Prop} (hk:dT P o v K):∃ c,K c∧∀ K':AV→Prop,K' c→dT P o v K':=by
 unfold dT at *
 split at hk
 ·unfold shape at *
  split at hk
  ·obtain ⟨c,h1,h2⟩:=aLJ hk; exact ⟨_,h1,fun K' h=>h2 (fun c=>K' (.b c)) h⟩
  ·obtain ⟨c,h1,h2⟩:=aLB hk; exact ⟨_,h1,fun K' h=>h2 (fun c=>K' (.i _ c)) h⟩
  ·obtain ⟨c,h1,h2⟩:=aMB hk; exact ⟨_,h1,fun K' h=>h2 (fun c=>K' (.s c)) h⟩
  ·exact ⟨_,hk,fun _ h=>h⟩
 ·exact ⟨_,hk,fun _ h=>h⟩
theorem aAN {sz:Nat} {x:AV} {lo hi mx:Option AV} {h:aA} {K:AV→Prop} (hk:cV sz x lo hi mx h K):∃ v,K v∧∀ K':AV→Prop,K' v→cV sz x lo hi mx h K':=by
 unfold cV at *
 split at hk
 ·obtain ⟨m, hm, em⟩ := eU hk
  obtain ⟨j,hj,ej⟩:=eU hm
  obtain ⟨i,hi,ei⟩:=eU hj
  exact ⟨_,hi.2.2.2.2,fun K' h=>em _ (ej _ (ei _ ⟨hi.1,hi.2.1,hi.2.2.1,hi.2.2.2.1,h⟩))⟩
 ·obtain ⟨g1, g2, hk⟩ := hk
  obtain ⟨j,hj,ej⟩:=eU hk
  obtain ⟨i,hi,ei⟩:=eU hj
  obtain ⟨k1,b,h1,h2,h3,h4,h5⟩:=hi
  cases mx with
  | none=>exact ⟨_,h5.2,fun K' h=>⟨g1,g2,ej _ (ei _ ⟨k1,b,h1,h2,h3,h4,h5.1,h⟩)⟩⟩
  | some m =>
   obtain ⟨n,hn,en⟩:=eU h5
   exact ⟨_,hn.2.2,fun K' h=>⟨g1,g2,ej _ (ei _ ⟨k1,b,h1,h2,h3,h4,en _ ⟨hn.1,hn.2.1,h⟩⟩)⟩⟩
 ·exact hk.elim
theorem rA {o : Oper} {e : Env} {h : aA} {K : AV → Prop} (hk : cH P o e h K) : ∃ v, K v ∧ ∀ K' : AV → Prop, K' v → cH P o e h K' := by
 obtain ⟨dst,op,type,pos,after,guard⟩:=o
 cases op with
 | move x=>exact ⟨_,hk,fun _ h=>h⟩
 | assign x=>exact ⟨_,hk,fun _ h=>h⟩
 | pick c x y=>exact aMV (A:=fun K=>K _) (B:=fun K=>K _) (fun hk=>⟨_,hk,fun _ h=>h⟩) (fun hk=>⟨_,hk,fun _ h=>h⟩) hk
 | load t x =>
  simp only [cH] at *
  split at hk
  ·unfold aD at *
   split at hk
   ·obtain ⟨b,h1,h2,h3⟩:=hk; exact ⟨_,h3,fun _ h=>⟨b,h1,h2,h⟩⟩
   ·exact hk.elim
  ·unfold aE at *
   split at hk
   ·obtain ⟨b,h1,h2,h3⟩:=hk; exact ⟨_,h3,fun _ h=>⟨b,h1,h2,h⟩⟩
   ·exact hk.elim
  ·exact hk.elim
 | nilCheck x =>
  simp only [cH] at *
  unfold cC at *
  split at hk <;> first | exact hk.elim | exact ⟨_,hk,fun _ h=>h⟩
 | binOp op t x y yt=>exact aKB hk
 | unOp op t x =>
  simp only [cH] at *
  unfold pUn at *
  split at hk <;> first | exact hk.elim | exact ⟨_,hk,fun _ h=>h⟩
 | convert src dst' x =>
  simp only [cH] at *
  split at hk
  ·unfold vH at *
   split at hk <;> first | exact hk.elim | exact ⟨_,hk,fun _ h=>h⟩
  ·unfold wD at *
   split at hk <;> first | exact hk.elim | exact ⟨_,hk,fun _ h=>h⟩
  ·split at hk
   ·unfold cE at *
    obtain ⟨cs,h1,h2⟩:=aA4 hk
    exact ⟨_,h1.2,fun K' h=>h2 _ ⟨h1.1,h⟩⟩
   ·exact hk.elim
  ·rename_i t h1 h2
   cases hz:Nat.beq (P.cellsOf t) 0 with
   | true=>rw [hz] at hk; exact hk.elim
   | false =>
    rw [hz] at hk
    simp only [cond_false] at hk ⊢
    unfold j9 at *
    split at hk
    ·exact ⟨_,hk,fun _ h=>h⟩
    ·obtain ⟨b,h1,h2,h3⟩:=hk; exact ⟨_,h3,fun _ h=>⟨b,h1,h2,h⟩⟩
    ·exact hk.elim
  ·rename_i u h1 h2
   obtain ⟨hu,hk⟩:=bB hk
   simp only [hu,cond_true]
   unfold gM at *
   split at hk
   ·exact ⟨_,hk,fun _ h=>h⟩
   ·obtain ⟨b,t,g1,g2,g3,g4,g5,g6⟩:=hk; exact ⟨_,g6,fun _ h=>⟨b,t,g1,g2,g3,g4,g5,h⟩⟩
   ·exact hk.elim
  ·exact hk.elim
 | makeInterface t x =>
  simp only [cH] at *
  split at hk <;> first | exact hk.elim | exact ⟨_,hk,fun _ h=>h⟩
 | makeFunc f a b=>exact ⟨_,hk,fun _ h=>h⟩
 | lookup t x ix ok =>
  simp only [cH] at *
  split at hk
  ·obtain ⟨h1, h2⟩ := bB hk
   simp only [h1,cond_true]
   unfold j6 at *
   obtain ⟨h3,h2⟩:=h2
   split at h2
   ·exact h2.elim
   ·split at h2
    ·exact ⟨_,h2,fun _ h=>⟨h3,h⟩⟩
    ·split at h2
     ·exact ⟨_,h2,fun _ h=>⟨h3,h⟩⟩
     ·exact h2.elim
    ·exact h2.elim
  ·exact hk.elim
 | slice t x lo hi mx =>
  simp only [cH] at *
  split at hk
  ·split at hk
   ·unfold bV at *
    split at hk
    ·obtain ⟨m, hm, em⟩ := eU hk
     obtain ⟨n,hn,en⟩:=eU hm
     exact ⟨_,hn.2.2,fun K' h=>em _ (en _ ⟨hn.1,hn.2.1,h⟩)⟩
    ·exact hk.elim
   ·exact hk.elim
  ·obtain ⟨h1, h2⟩ := bB hk
   simp only [h1,cond_true]
   exact aAN h2
  ·split at hk
   ·obtain ⟨h1, h2⟩ := bB hk
    simp only [h1,cond_true]
    unfold oK at *
    split at h2
    ·obtain ⟨g0, h2⟩ := h2
     obtain ⟨j,hj,ej⟩:=eU h2
     obtain ⟨i,hi,ei⟩:=eU hj
     obtain ⟨g1,g2,b,g3,g4,g5,g6⟩:=hi
     exact ⟨_,g6,fun K' h=>⟨g0,ej _ (ei _ ⟨g1,g2,b,g3,g4,g5,h⟩)⟩⟩
    ·exact h2.elim
   ·exact hk.elim
  ·exact hk.elim
 | fieldAddr t x f =>
  simp only [cH] at *
  split at hk
  ·split at hk
   ·rename_i fl _
    cases hz:Nat.beq (P.cellsOf fl.type) 0 with
    | true=>rw [hz] at hk; exact hk.elim
    | false =>
     rw [hz] at hk
     simp only [cond_false] at hk ⊢
     unfold aC at *
     split at hk <;> first | exact hk.elim | exact ⟨_,hk,fun _ h=>h⟩
   ·exact hk.elim
  ·exact hk.elim
 | field t x f =>
  simp only [cH] at *
  split at hk
  ·split at hk
   ·split at hk
    ·unfold tU at *
     split at hk <;> first | exact hk.elim | exact ⟨_,hk,fun _ h=>h⟩ | exact ⟨_,hk.2,fun _ h=>⟨hk.1,h⟩⟩
    ·unfold tZ at *
     split at hk <;> first | exact hk.elim | exact ⟨_,hk.2,fun _ h=>⟨hk.1,h⟩⟩
    ·exact hk.elim
   ·exact hk.elim
  ·exact hk.elim
 | indexAddr t x ix =>
  simp only [cH] at *
  split at hk
  ·obtain ⟨h1, h2⟩ := bB hk
   simp only [h1,cond_true]
   unfold aB at *
   split at h2
   ·exact ⟨_,h2.2.2.2,fun _ h=>⟨h2.1,h2.2.1,h2.2.2.1,h⟩⟩
   ·exact h2.elim
  ·obtain ⟨h1, h2⟩ := bB hk
   simp only [h1,cond_true]
   unfold dI at *
   split at h2
   ·exact ⟨_,h2.2.2,fun _ h=>⟨h2.1,h2.2.1,h⟩⟩
   ·exact h2.elim
  ·exact hk.elim
 | index t x ix =>
  simp only [cH] at *
  split at hk
  ·unfold bN at *
   split at hk
   ·exact ⟨_,hk.2.2,fun _ h=>⟨hk.1,hk.2.1,h⟩⟩
   ·exact hk.elim
  ·split at hk
   ·obtain ⟨h1, h2⟩ := bB hk
    simp only [h1,cond_true]
    unfold qJ at *
    split at h2
    ·exact ⟨_,h2.2.2.2,fun _ h=>⟨h2.1,h2.2.1,h2.2.2.1,h⟩⟩
    ·exact h2.elim
   ·exact hk.elim
  ·exact hk.elim
 | build t parts =>
  simp only [cH] at *
  split at hk
  ·unfold iC at *
   split at hk <;> first | exact hk.elim | exact ⟨_,hk,fun _ h=>h⟩
  ·exact hk.elim
 | extract x i =>
  simp only [cH] at *
  unfold aH at *
  split at hk
  ·exact ⟨_,hk.2,fun _ h=>⟨hk.1,h⟩⟩
  ·exact hk.elim
 | call c =>
  obtain ⟨callee,args,argTypes⟩:=c
  cases callee with
  | builtin b =>
   cases b <;> first | exact False.elim hk | skip
   case len=>
    simp only [cH] at *
    split at hk
    ·split at hk
     ·unfold tV at *
      split at hk <;> first | exact hk.elim | exact ⟨_,hk,fun _ h=>h⟩
     ·exact hk.elim
    ·split at hk
     ·unfold bJ at *
      split at hk <;> first | exact hk.elim | exact ⟨_,hk,fun _ h=>h⟩
     ·exact hk.elim
    ·split at hk <;> first | exact hk.elim | exact ⟨_,hk,fun _ h=>h⟩
    ·exact hk.elim
   case min=>
    simp only [cH] at *
    unfold pMM at *
    split at hk <;> first | exact hk.elim | exact ⟨_,hk,fun _ h=>h⟩
   case max=>
    simp only [cH] at *
    unfold pMM at *
    split at hk <;> first | exact hk.elim | exact ⟨_,hk,fun _ h=>h⟩
  | _=>exact False.elim hk
 | _=>exact False.elim hk
theorem aMY {e:Env} {h h':aA} {x:Operand} (hx:(match x with | .global _=>true | _=>false)=false):ev e h x=ev e h' x:=by
 cases x <;> first | rfl | cases hx
theorem qC {e:Env} {h h':aA}:∀ {xs:List Operand},(∀ x∈xs,ev e h x=ev e h' x)→xs.map (ev e h)=xs.map (ev e h')
 | [],_=>rfl
 | x :: xs,H=>by rw [List.map_cons,List.map_cons,H x (by simp),qC fun y hy=>H y (by simp [hy])]
theorem aHG {o : Oper} {e : Env} {h h' : aA} {K : AV → Prop} (hr : mC P o = false) (hk : cH P o e h K) : cH P o e h' K := by
 have hg:∀ x∈o.op.operands.toList,ev e h x=ev e h' x:=by
  intro x hx
  unfold mC at hr
  simp only [Bool.or_eq_false_iff] at hr
  refine aMY ?_
  have:=hr.1
  rw [List.any_eq_false] at this
  have:=this x hx
  revert this
  cases x <;> simp
 obtain ⟨dst,op,type,pos,after,guard⟩:=o
 simp only [mC,Bool.or_eq_false_iff] at hr
 have hr:=hr.2
 cases op with
 | move x=>simpa only [cH,hg x (by simp [Op.operands])] using hk
 | assign x=>simpa only [cH,hg x (by simp [Op.operands])] using hk
 | pick c x y=>simpa only [cH,hg c (by simp [Op.operands]),hg x (by simp [Op.operands]),hg y (by simp [Op.operands])] using hk
 | load t x=>cases hr
 | lookup t x ix ok=>cases hr
 | nilCheck x=>simpa only [cH,hg x (by simp [Op.operands])] using hk
 | binOp op t x y yt=>simpa only [cH,hg x (by simp [Op.operands]),hg y (by simp [Op.operands])] using hk
 | unOp op t x=>simpa only [cH,hg x (by simp [Op.operands])] using hk
 | convert src dst' x =>
  simp only at hr
  simp only [cH,hg x (by simp [Op.operands])] at hk ⊢
  split at hk
  ·exact hk
  ·exact hk
  ·rename_i h1 h2; rw [h1] at hr; cases hr
  ·rename_i h1 h2; rw [h1] at hr; cases hr
  ·rename_i h1 h2; rw [h1] at hr; cases hr
  ·exact hk
 | makeInterface t x=>simpa only [cH,hg x (by simp [Op.operands])] using hk
 | makeFunc f a b =>
  have h1:=qC (xs:=a.toList) fun x hx=>hg x (by simp [Op.operands]; simp at hx; simp [hx])
  have h2:=qC (xs:=b.toList) fun x hx=>hg x (by simp [Op.operands]; simp at hx; simp [hx])
  simpa only [cH,h1,h2] using hk
 | slice t x lo hi mx =>
  simp only at hr
  simp only [cH] at hk ⊢
  split at hk
  ·have h1 : lo.map (ev e h) = lo.map (ev e h') := by
    cases lo with
    | none=>rfl
    | some y=>simp only [Option.map_some]; rw [hg y (by simp [Op.operands])]
   have h2:hi.map (ev e h)=hi.map (ev e h'):=by
    cases hi with
    | none=>rfl
    | some y=>simp only [Option.map_some]; rw [hg y (by simp [Op.operands])]
   simpa only [hg x (by simp [Op.operands]),h1,h2] using hk
  ·rename_i h1; rw [h1] at hr; cases hr
  ·rename_i h1; rw [h1] at hr; cases hr
  ·exact hk
 | fieldAddr t x f=>simpa only [cH,hg x (by simp [Op.operands])] using hk
 | field t x f=>simpa only [cH,hg x (by simp [Op.operands])] using hk
 | indexAddr t x ix =>
  simp only at hr
  simp only [cH] at hk ⊢
  split at hk
  ·rename_i h1; rw [h1] at hr; cases hr
  ·simpa only [hg x (by simp [Op.operands]),hg ix (by simp [Op.operands])] using hk
  ·exact hk
 | index t x ix=>simpa only [cH,hg x (by simp [Op.operands]),hg ix (by simp [Op.operands])] using hk
 | build t parts =>
  have h1:(parts.toList.map fun (i,x)=>(i,ev e h x))=parts.toList.map fun (i,x)=>(i,ev e h' x):=by
   apply List.map_congr_left
   rintro ⟨i,x⟩ hx
   simp only
   rw [hg x (by simp [Op.operands]; simp at hx; exact ⟨i,hx⟩)]
  simpa only [cH,h1] using hk
 | extract x i=>simpa only [cH,hg x (by simp [Op.operands])] using hk
 | call c =>
  obtain ⟨callee,args,argTypes⟩:=c
  cases callee with
  | builtin b =>
   have h1:=qC (xs:=args.toList) fun x hx=>hg x (by simp [Op.operands,Call.operands]; simp at hx; simp [hx])
   cases b <;> first | exact False.elim hk | skip
   case len=>
    simp only [cH] at hk ⊢
    split at hk
    ·split at hk
     ·rename_i x hx
      have:ev e h x=ev e h' x:=hg x (by simp [Op.operands,Call.operands]; rw [← Array.mem_toList_iff,hx]; simp)
      rw [← this]; exact hk
     ·exact hk
    ·split at hk
     ·rename_i x hx
      have:ev e h x=ev e h' x:=hg x (by simp [Op.operands,Call.operands]; rw [← Array.mem_toList_iff,hx]; simp)
      rw [← this]; exact hk
     ·exact hk
    ·exact hk
    ·exact hk
   case min=>simpa only [cH,h1] using hk
   case max=>simpa only [cH,h1] using hk
  | _=>exact False.elim hk
 | _=>exact False.elim hk
end
end Go.GAM
namespace Go.GAM
section
variable {ds:List Deferred} {rd:Option Nat} {P:Program} {w0:World} {Fz:Nat→Prop} {μ:Mu} {own:Nat→Option Nat} {h:aA} {w:World}
theorem cB.upd {nt:Nat} {e:Env} {a:Act} (hE:cB ds μ nt e a) {t:Nat} {v:AV} (hv:lk e t=v):cB ds μ nt (GAM.put e (some t) v) a:=by
 refine ⟨hE.1,hE.2,fun t'=>?_⟩
 rw [nX]
 split
 ·rename_i h
  simp only [Option.some.injEq] at h
  subst h
  rw [← hv]; exact hE.3 t
 ·exact hE.3 t'
theorem lR {iI x:Bool} {A B:Prop} (h:vA iI x A B):(x=iI∧A)∨(x=(!iI)∧B):=by
 cases iI <;> cases x <;> first | exact .inl ⟨rfl,h⟩ | exact .inr ⟨rfl,h⟩
theorem pV {nt : Nat} {ops : Array Oper} {o : Oper} {e : Env} {a : Act} {A B : Env → Prop} (hE : cB ds μ nt e a) (hk : iQ ops o e A B) :
  (Region.wanted o (yielded ops a.tmps)=true∧∃ e',cB ds μ nt e' a∧A e')∨(Region.wanted o (yielded ops a.tmps)=false∧∃ e',cB ds μ nt e' a∧B e'):=by
 unfold iQ at hk
 unfold Region.wanted
 cases hg:o.guard with
 | none=>rw [hg] at hk; exact .inl ⟨rfl,e,hE,hk⟩
 | some g =>
  obtain ⟨j,iI⟩:=g
  rw [hg] at hk
  simp only at hk ⊢
  cases hd:(ops[j]?).bind (·.dst) with
  | none =>
   rw [hd] at hk
   refine .inr ⟨?_,e,hE,hk⟩
   simp [yielded,hd]
  | some t =>
   rw [hd] at hk
   simp only at hk
   have hv:=hE.val t
   have hgd:a.tmps.getD t undef=(a.tmps[t]?).getD undef:=by
    by_cases ht:t<a.tmps.size
    ·simp [Array.getD,ht]
    ·simp [Array.getD,ht]
   rw [hgd] at hv
   have hy:yielded ops a.tmps j=match a.tmps[t]? with | some (.bool b)=>some b | _=>none:=by
    unfold yielded
    rw [hd]
    first | done | rfl
   rw [hy]
   cases hl:lk e t with
   | b x =>
    rw [hl] at hk hv
    simp only at hk
    have hc:a.tmps[t]? = some (.bool x):=by
     cases hoc:a.tmps[t]? with
     | none=>rw [hoc] at hv; cases hv
     | some cv=>rw [hoc] at hv; cases hv; rfl
    rw [hc]
    rcases lR hk with ⟨rfl,hA⟩ | ⟨rfl,hB⟩
    ·exact .inl ⟨by simp,_,hE.upd hl,hA⟩
    ·exact .inr ⟨by cases iI <;> rfl,_,hE.upd hl,hB⟩
   | tu vs =>
    rw [hl] at hk hv
    refine .inr ⟨?_,e,hE,hk⟩
    cases hoc:a.tmps[t]? with
    | none=>rfl
    | some cv=>rw [hoc] at hv; cases hv; rfl
   | _=>rw [hl] at hk; exact hk.elim
theorem gT {o:Oper} {v:AV} {cv:Value} {K:AV→Prop} (hv:bG μ v cv) (hk:dT P o v K):K v:=by
 unfold dT at hk
 split at hk
 ·exact aCW hv hk
 ·exact hk
theorem lW (e:Env) {t:Nat}:∀ {L:List Nat},t∈L→lk (restr L e) t=lk e t
 | x :: L, hm => by
  simp only [restr,List.map_cons,lk]
  by_cases h:x=t
  ·subst h; simp
  ·have : Nat.beq x t = false := zI h
   simp only [this,cond_false]
   rcases List.mem_cons.1 hm with h' | h'
   ·exact absurd h'.symm h
   ·exact lW e h'
theorem m7 {e e':Env} {L:List Nat} (h:∀ t∈L,lk e t=lk e' t):restr L e=restr L e':=by
 unfold restr
 exact List.map_congr_left fun t ht=>by rw [h t ht]
structure mI (ds:List Deferred) (μ:Mu) (nt:Nat) (U:Nat→Prop) (e:Env) (a:Act):Prop where
 size:a.tmps.size=nt
 defers:a.defers=ds
 val:∀ t, ¬ U t→bG μ (lk e t) (a.tmps.getD t undef)
theorem mI.restr {nt : Nat} {U : Nat → Prop} {e : Env} {a : Act} (h : mI ds μ nt U e a) {L : List Nat} (hL : ∀ t ∈ L, ¬ U t) : cB ds μ nt (GAM.restr L e) a := by
 refine ⟨h.1,h.2,fun t=>?_⟩
 by_cases ht:t∈L
 ·rw [lW e ht]; exact h.3 t (hL t ht)
 ·have : lk (GAM.restr L e) t = .u := by
   clear hL
   induction L with
   | nil=>rfl
   | cons x L ih =>
    simp only [GAM.restr,List.map_cons,lk]
    have h1:x≠t:=fun e=>ht (by simp [e])
    have:Nat.beq x t=false:=zI h1
    simp only [this,cond_false]
    exact ih fun h'=>ht (by simp [h'])
  rw [this]; exact .u _
theorem mI.mono {μ':Mu} (hs:Sub μ μ') {nt:Nat} {U:Nat→Prop} {e:Env} {a:Act} (h:mI ds μ nt U e a):mI ds μ' nt U e a:=⟨h.1,h.2,fun t ht=>(h.3 t ht).mono hs⟩
theorem mI.put {nt : Nat} {U U' : Nat → Prop} {e e' : Env} {a : Act} (h : mI ds μ nt U e a) {o : Oper} (ho : k9 nt o = true) {cv : Value}
  (hU:∀ t, ¬ U' t→(∃ d,o.dst=some d∧d=t∧bG μ (lk e' t) cv)∨(o.dst≠some t∧¬ U t∧lk e' t=lk e t)):mI ds μ nt U' e' (a.put o.dst cv):=by
 refine ⟨?_, ?_,fun t ht=>?_⟩
 ·cases hd:o.dst <;> simp [Act.put,h.1]
 ·cases hd:o.dst <;> simp [Act.put,h.2]
 ·rcases hU t ht with ⟨d, hd, rfl, hv⟩ | ⟨hd, hu, hl⟩
  ·have hlt : d < nt := by
    simp only [k9,hd] at ho
    exact Nat.le_of_ble_eq_true ho
   simp [hd,Act.put,h.1,hlt,hv]
  ·rw [hl]
   have:=h.3 t hu
   cases hd':o.dst with
   | none=>simpa [Act.put] using this
   | some d =>
    have hne:d≠t:=fun e=>hd (by rw [hd',e])
    simpa [Act.put,Array.getElem?_setIfInBounds_ne hne] using this
def lC (ops : Array Oper) (o : Oper) (e : Env) : Option Bool :=
 match o.guard with
 | none=>some true
 | some (j, iI) =>
  match (ops[j]?).bind (·.dst) with
  | none=>some false
  | some t => match lk e t with
   | .b x=>some (x == iI)
   | .tu _=>some false
   | _=>none
theorem pW {ops : Array Oper} {o : Oper} {e : Env} {A B : Env → Prop} (hk : iQ ops o e A B) :
  ∃ e',(∀ t,lk e' t=lk e t)∧((lC ops o e=some true∧A e')∨(lC ops o e=some false∧B e')):=by
 unfold iQ at hk
 unfold lC
 cases hg:o.guard with
 | none=>rw [hg] at hk; exact ⟨e,fun _=>rfl,.inl ⟨rfl,hk⟩⟩
 | some g =>
  obtain ⟨j,iI⟩:=g
  rw [hg] at hk
  simp only at hk ⊢
  cases hd:(ops[j]?).bind (·.dst) with
  | none=>rw [hd] at hk; exact ⟨e,fun _=>rfl,.inr ⟨rfl,hk⟩⟩
  | some t =>
   rw [hd] at hk
   simp only at hk ⊢
   cases hl:lk e t with
   | b x =>
    rw [hl] at hk
    simp only at hk
    have up:∀ y,x=y→∀ t',lk (GAM.put e (some t) (.b y)) t'=lk e t':=by
     intro y hy t'
     rw [nX]
     split
     ·rename_i h1; injection h1 with h1; subst h1; subst hy; exact hl.symm
     ·rfl
    rcases lR hk with ⟨h1,hA⟩ | ⟨h1,hB⟩
    ·exact ⟨_,up _ h1,.inl ⟨by simp [h1],hA⟩⟩
    ·exact ⟨_,up _ h1,.inr ⟨by subst h1; cases iI <;> rfl,hB⟩⟩
   | tu vs=>rw [hl] at hk; exact ⟨e,fun _=>rfl,.inr ⟨rfl,hk⟩⟩
   | _=>rw [hl] at hk; exact hk.elim
theorem j8 {nt : Nat} {ops : Array Oper} {o : Oper} {e : Env} {a : Act} {b : Bool} (hE : cB ds μ nt (restr (o.looksAt ops) e) a) (hw : lC ops o e = some b) : Region.wanted o (yielded ops a.tmps) = b := by
 unfold lC at hw
 unfold Region.wanted
 cases hg:o.guard with
 | none=>rw [hg] at hw; injection hw
 | some g =>
  obtain ⟨j,iI⟩:=g
  rw [hg] at hw
  simp only at hw ⊢
  cases hd:(ops[j]?).bind (·.dst) with
  | none =>
   rw [hd] at hw
   injection hw with hw
   subst hw
   simp [yielded,hd]
  | some t =>
   rw [hd] at hw
   simp only at hw
   have hm:t∈o.looksAt ops:=by unfold Oper.looksAt; simp [hg,hd]
   have hv:=hE.val t
   rw [lW e hm] at hv
   have hgd:a.tmps.getD t undef=(a.tmps[t]?).getD undef:=by
    by_cases ht:t<a.tmps.size
    ·simp [Array.getD,ht]
    ·simp [Array.getD,ht]
   rw [hgd] at hv
   have hy:yielded ops a.tmps j=match a.tmps[t]? with | some (.bool b)=>some b | _=>none:=by
    unfold yielded
    rw [hd]
    first | done | rfl
   rw [hy]
   cases hl:lk e t with
   | b x =>
    rw [hl] at hw hv
    simp only at hw
    injection hw with hw
    have hc:a.tmps[t]? = some (.bool x):=by
     cases hoc:a.tmps[t]? with
     | none=>rw [hoc] at hv; cases hv
     | some cv=>rw [hoc] at hv; cases hv; rfl
    rw [hc]
    subst hw
    simp
   | tu vs =>
    rw [hl] at hw hv
    injection hw with hw
    subst hw
    cases hoc:a.tmps[t]? with
    | none=>rfl
    | some cv=>rw [hoc] at hv; cases hv; rfl
   | _=>rw [hl] at hw; cases hw
theorem sR {ops:Array Oper} {o:Oper} {e e':Env} (h:∀ t∈o.looksAt ops,lk e t=lk e' t):lC ops o e=lC ops o e':=by
 unfold lC
 cases hg:o.guard with
 | none=>rfl
 | some g =>
  obtain ⟨j,iI⟩:=g
  simp only
  cases hd:(ops[j]?).bind (·.dst) with
  | none=>rfl
  | some t =>
   have hm:t∈o.looksAt ops:=by unfold Oper.looksAt; simp [hg,hd]
   simp only [h t hm]
def oO (P:Program) (ops:Array Oper) (o:Oper) (e:Env) (h:aA):Prop:=
 (lC ops o e=some true∧cH P o (restr (o.looksAt ops) e) h fun v=>dT P o v fun v=>eS e o.dst v)∨(lC ops o e=some false∧eS e o.dst (.tu []))
theorem oO.congr {ops:Array Oper} {o:Oper} {e e':Env} (hl:∀ t∈o.looksAt ops,lk e t=lk e' t) (hd:∀ d,o.dst=some d→lk e d=lk e' d) (hp:oO P ops o e h):oO P ops o e' h:=by
 have hs:∀ v,eS e o.dst v=eS e' o.dst v:=by
  intro v
  unfold eS
  cases hd':o.dst with
  | none=>rfl
  | some d=>simp only [hd d hd']
 unfold oO at *
 rw [← sR hl, ← m7 hl]
 simpa only [hs] using hp
theorem oO.heap {ops:Array Oper} {o:Oper} {e:Env} {h':aA} (hr:mC P o=false) (hp:oO P ops o e h):oO P ops o e h':=
 hp.imp (fun ⟨h1,h2⟩=>⟨h1,aHG hr h2⟩) id
theorem aCN {ops : Array Oper} {o : Oper} {e : Env} {A : Prop} (hk : y7 P ops o e h A) : oO P ops o e h ∧ A := by
 have go:(cH P o (restr (o.looksAt ops) e) h fun v=>dT P o v fun v=>eS e o.dst v∧A)→(cH P o (restr (o.looksAt ops) e) h fun v=>dT P o v fun v=>eS e o.dst v)∧A:=by
  intro hk
  obtain ⟨v,h1,h2⟩:=rA hk
  obtain ⟨v',h3,h4⟩:=vZ h1
  exact ⟨h2 _ (h4 _ h3.1),h3.2⟩
 unfold y7 at hk
 unfold oO lC
 cases hg:o.guard with
 | none=>rw [hg] at hk; obtain ⟨h1,h2⟩:=go hk; exact ⟨.inl ⟨rfl,h1⟩,h2⟩
 | some g =>
  obtain ⟨j,iI⟩:=g
  rw [hg] at hk
  simp only at hk ⊢
  cases hd:(ops[j]?).bind (·.dst) with
  | none=>rw [hd] at hk; exact ⟨.inr ⟨rfl,hk.1⟩,hk.2⟩
  | some t =>
   rw [hd] at hk
   simp only at hk ⊢
   cases hl:lk e t with
   | b x =>
    rw [hl] at hk
    rcases lR hk with ⟨h1,hA⟩ | ⟨h1,hB⟩
    ·obtain ⟨h3,h4⟩:=go hA; exact ⟨.inl ⟨by simp [h1],h3⟩,h4⟩
    ·exact ⟨.inr ⟨by subst h1; cases iI <;> rfl,hB.1⟩,hB.2⟩
   | tu vs=>rw [hl] at hk; exact ⟨.inr ⟨rfl,hk.1⟩,hk.2⟩
   | _=>rw [hl] at hk; exact hk.elim
theorem iX {ops : Array Oper} {i : Nat} {e : Env} {A : Prop} : ∀ {D : List Nat}, kP P ops i e h A D → A ∧ ∀ k ∈ D, ∀ o, ops[k]? = some o → mC P o = true → jR P o = false → lB ops i k = false → oO P ops o e h
 | [],hk=>⟨hk,fun _ h=>by cases h⟩
 | k :: D, hk => by
  unfold kP at hk
  cases ho:ops[k]? with
  | none =>
   rw [ho] at hk
   obtain ⟨h1,h2⟩:=iX hk
   refine ⟨h1,fun k' hm o ho'=>?_⟩
   rcases List.mem_cons.1 hm with rfl | hm
   ·rw [ho] at ho'; cases ho'
   ·exact h2 k' hm o ho'
  | some o =>
   rw [ho] at hk
   simp only at hk
   cases hc:mC P o && !jR P o && !Region.waitsFor .any ops i k with
   | true =>
    rw [hc] at hk
    obtain ⟨h0,hk⟩:=aCN hk
    obtain ⟨h1,h2⟩:=iX hk
    refine ⟨h1,fun k' hm o' ho'=>?_⟩
    rcases List.mem_cons.1 hm with rfl | hm
    ·rw [ho] at ho'; injection ho' with ho'; subst ho'; exact fun _ _ _=>h0
    ·exact h2 k' hm o' ho'
   | false =>
    rw [hc] at hk
    obtain ⟨h1,h2⟩:=iX hk
    refine ⟨h1,fun k' hm o' ho'=>?_⟩
    rcases List.mem_cons.1 hm with rfl | hm
    ·rw [ho] at ho'; injection ho' with ho'; subst ho'
     intro g1 g2 g3
     unfold lB at g3
     rw [g1,g2,g3] at hc
     cases hc
    ·exact h2 k' hm o' ho'
end
end Go.GAM
namespace Go.GAM
section
variable {ds:List Deferred} {rd:Option Nat} {P:Program} {w0:World} {Fz:Nat→Prop} {nt:Nat} {ops:Array Oper}
def kG (ops:Array Oper):List Nat→Prop
 | []=>True
 | k :: D=>(∃ o,ops[k]? = some o∧∀ ed∈o.after,Region.binds .any ed=true→ed.on∈D)∧kG ops D
structure iR (ds:List Deferred) (P:Program) (w0:World) (Fz:Nat→Prop) (nt:Nat) (ops:Array Oper) (μ0:Mu) (listed:Array Bool) (a:Act) (w:World) (μ:Mu) (own:Nat→Option Nat) (e:Env) (h:aA) (D U:List Nat):Prop where
 rel:Rel w0 Fz μ own h w
 sub:Sub μ0 μ
 env:mI ds μ nt (fun t=>∃ k∈U,rD ops k=some t) e a
 size:listed.size=ops.size
 list:∀ j,j<ops.size→(listed.getD j false=true↔(j∈D∧j ∉ U))
 inD:∀ k∈U,k∈D
 pend:∀ k∈U, ∃ o,ops[k]? = some o∧k9 nt o=true∧jR P o=false∧oO P ops o e h
 apart:∀ k∈U, ∀ j∈U,lI ops j k=true→lB ops k j=true
 ordd:kG ops D
theorem mZ {listed:Array Bool} {x k:Nat} (hr:x∈Region.ready .any ops listed) (hw:lB ops x k=true):listed.getD k false=true:=by
 obtain ⟨_,o,ho,hall⟩:=mem_ready.1 hr
 obtain ⟨o',ho',e,he,hb,rfl⟩:=Region.waitsFor_spec hw
 rw [ho] at ho'
 injection ho' with ho'
 subst ho'
 exact hall e he hb
theorem lE {listed:Array Bool} {x:Nat} (hr:x∈Region.ready .any ops listed):x<ops.size:=by
 obtain ⟨_,o,ho,_⟩:=mem_ready.1 hr
 exact (Array.getElem?_eq_some_iff.1 ho).1
theorem aCS {x y:Nat} {o o':Oper} (ho:ops[x]? = some o) (ho':ops[y]? = some o') {d:Nat} (hd:o.dst=some d) (hm:d∈o'.looksAt ops):lI ops x y=true:=by
 unfold lI rD aKM
 simp [ho,ho',hd,hm]
theorem sK {x y:Nat} {o o':Oper} (ho:ops[x]? = some o) (ho':ops[y]? = some o') (hc:lI ops x y=false) {t:Nat} (ht:t∈o'.looksAt ops):o.dst≠some t:=by
 intro hd
 rw [aCS ho ho' hd ht] at hc
 cases hc
theorem s5 {x y:Nat} {o o':Oper} (ho:ops[x]? = some o) (ho':ops[y]? = some o') (hc:oF ops x y=false) {t:Nat} (ht:o'.dst=some t):o.dst≠some t:=by
 intro hd
 unfold oF rD at hc
 simp [ho,ho',hd,ht] at hc
variable {μ0:Mu} {listed:Array Bool} {a:Act} {w:World} {μ:Mu} {own:Nat→Option Nat} {e:Env} {h:aA} {D U:List Nat}
theorem oS {listed:Array Bool} {i:Nat} (h:i<listed.size):(listed.setIfInBounds i true).getD i false=true:=by simp [h]
theorem iR.unlisted (J:iR ds P w0 Fz nt ops μ0 listed a w μ own e h D U) {k:Nat} (hk:k∈U):listed.getD k false=false:=by
 obtain ⟨o,ho,_⟩:=J.pend k hk
 cases hl:listed.getD k false with
 | false=>rfl
 | true=>exact absurd hk ((J.list k (Array.getElem?_eq_some_iff.1 ho).1).1 hl).2
theorem iR.seen (J:iR ds P w0 Fz nt ops μ0 listed a w μ own e h D U) {x:Nat} {o:Oper} (ho:ops[x]? = some o) (hr:x∈Region.ready .any ops listed)
  (hc:∀ j∈U,lI ops j x=true→lB ops x j=true):cB ds μ nt (restr (o.looksAt ops) e) a:=by
 refine J.env.restr fun t ht ⟨k,hk,hd⟩=>?_
 unfold rD at hd
 obtain ⟨ok,hok,hd⟩:=Option.bind_eq_some_iff.1 hd
 have h1:=mZ hr (hc k hk (aCS hok ho hd ht))
 rw [J.unlisted hk] at h1
 cases h1
theorem iR.take {R : bT} {μb : Mu} (hR : dJ P w0 Fz μb R) (hsb : Sub μb μ0) (J : iR ds P w0 Fz nt ops μ0 listed a w μ own e h D U) {x : Nat} (hx : x ∈ U) (hr : x ∈ Region.ready .any ops listed)
  {next:Act→World→Prop} {Q:Exit→Act→World→Prop}
  (hn:∀ a' w' μ' own',iR ds P w0 Fz nt ops μ0 (listed.setIfInBounds x true) a' w' μ' own' e h D (U.filter (· != x))→next a' w'):wpOpIn (FR rd) 0 P ops Q x next a w:=by
 obtain ⟨o,ho,hd,hne,hp⟩:=J.pend x hx
 have hE:=J.seen ho hr (J.apart x hx)
 have hxs:=lE hr
 have key:∀ cv μ' own' w',Rel w0 Fz μ' own' h w'→Sub μ μ'→(∀ d,o.dst=some d→bG μ' (lk e d) cv) →
   iR ds P w0 Fz nt ops μ0 (listed.setIfInBounds x true) (a.put o.dst cv) w' μ' own' e h D (U.filter (· != x)):=by
  intro cv μ' own' w' g1 g2 g3
  have hmem:∀ k,k∈U.filter (· != x)↔k∈U∧k≠x:=by intro k; simp
  refine ⟨g1,J.sub.trans g2, ?_,by simp [J.size],fun j hj=>?_,fun k hk=>J.inD k ((hmem k).1 hk).1,fun k hk=>?_,fun k hk j hj=>J.apart k ((hmem k).1 hk).1 j ((hmem j).1 hj).1,J.ordd⟩
  ·refine (J.env.mono g2).put hd fun t ht => ?_
   by_cases hdt:o.dst=some t
   ·exact .inl ⟨t,hdt,rfl,g3 t hdt⟩
   ·refine .inr ⟨hdt, fun ⟨k, hk, hkd⟩ => ?_, rfl⟩
    by_cases hkx:k=x
    ·subst hkx
     unfold rD at hkd
     rw [ho] at hkd
     exact hdt hkd
    ·exact ht ⟨k,(hmem k).2 ⟨hk,hkx⟩,hkd⟩
  ·by_cases hjx : j = x
   ·subst hjx
    rw [oS (by rw [J.size]; exact hxs)]
    simp only [true_iff]
    exact ⟨J.inD j hx,fun hm=>((hmem j).1 hm).2 rfl⟩
   ·rw [getD_set_ne false (Ne.symm hjx), J.list j hj, hmem]
    exact ⟨fun ⟨h1,h2⟩=>⟨h1,fun h3=>h2 h3.1⟩,fun ⟨h1,h2⟩=>⟨h1,fun h3=>h2 ⟨h3,hjx⟩⟩⟩
  ·exact J.pend k ((hmem k).1 hk).1
 unfold wpOpIn
 simp only [ho]
 rcases hp with ⟨hw,hk⟩ | ⟨hw,hs⟩
 ·rw [if_pos (j8 hE hw)]
  refine wJ hR (hsb.trans J.sub) J.rel hE (K:=fun v h'=>h'=h∧dT P o v fun v=>eS e o.dst v) ?_ fun v cv μ' own' h' w' h1 h2 h3 h4=>?_
  ·unfold aop
   rw [hne]
   simp only [cond_false]
   obtain ⟨v,h1,h2⟩:=rA hk
   exact h2 (fun v=>True∧dT P o v fun v=>eS e o.dst v) ⟨trivial,h1⟩
  ·obtain ⟨rfl, h1⟩ := h1
   have h1:=gT h2 h1
   refine hn _ _ _ _ (key cv μ' own' w' h3 h4 fun d hd'=>?_)
   simp only [eS,hd'] at h1
   rw [h1]; exact h2
 ·rw [if_neg (by simp [j8 hE hw])]
  refine ⟨fun _ _=>trivial, ?_⟩
  refine hn _ _ _ _ (key undef μ own w J.rel (Sub.refl _) fun d hd'=>?_)
  simp only [eS,hd'] at hs
  rw [hs]; exact .tu [] #[] .nil
theorem rR {eff:Bool} {x:Nat} (hf:tK ops eff D x=true) :
  (∀ j∈D,(lI ops j x=true→lB ops x j=true)∧((lI ops x j=false∧oF ops x j=false)∨(eff=true∧lB ops x j=true))) ∧
  (∃ o,ops[x]? = some o∧∀ ed∈o.after,Region.binds .any ed=true→ed.on∈D)∧x ∉ D∧(eff=false→lI ops x x=false):=by
 unfold tK at hf
 simp only [Bool.and_eq_true,List.all_eq_true,Bool.or_eq_true,Bool.not_eq_true',Bool.not_eq_eq_eq_not,Bool.not_true] at hf
 obtain ⟨⟨⟨h1,h2⟩,h3⟩,h4⟩:=hf
 refine ⟨fun j hj=>⟨fun hc=>?_, ?_⟩, ?_, ?_, ?_⟩
 ·rcases (h1 j hj).1 with h | h
  ·rw [h] at hc; cases hc
  ·exact h
 ·exact (h1 j hj).2
 ·cases ho : ops[x]? with
  | none=>rw [ho] at h2; cases h2
  | some o =>
   rw [ho] at h2
   refine ⟨o,rfl,fun ed he hb=>?_⟩
   simp only [Array.all_eq_true_iff_forall_mem,Bool.or_eq_true,Bool.not_eq_true'] at h2
   rcases h2 ed he with h | h
   ·rw [h] at hb; cases hb
   ·simpa using h
 ·simpa using h3
 ·intro he
  rcases h4 with h | h
  ·rw [h] at he; cases he
  ·exact h
theorem iR.neu (J : iR ds P w0 Fz nt ops μ0 listed a w μ own e h D U) {x : Nat} {o : Oper} (ho : ops[x]? = some o) (hf : tK ops false D x = true) (hd : k9 nt o = true) (hne : jR P o = false)
  {e1:Env} (he1:∀ t,lk e1 t=lk e t) {v:AV} (hp:(lC ops o e=some true∧∀ K':AV→Prop,K' v→cH P o (restr (o.looksAt ops) e1) h fun v=>dT P o v K')∨(lC ops o e=some false∧v = .tu [])) :
  iR ds P w0 Fz nt ops μ0 listed a w μ own (put e1 o.dst v) h (x :: D) (x :: U):=by
 obtain ⟨hD,hE,hxD,hxx⟩:=rR hf
 have hxx:=hxx rfl
 have hl:∀ t,o.dst≠some t→lk (put e1 o.dst v) t=lk e t:=fun t ht=>by rw [nX,if_neg ht,he1]
 have hfree:∀ j∈D,lI ops x j=false∧oF ops x j=false:=fun j hj=>((hD j hj).2).resolve_right (by simp)
 refine ⟨J.rel,J.sub, ?_,J.size,fun j hj=>?_,fun k hk=>?_,fun k hk=>?_,fun k hk j hj hc=>?_,⟨hE,J.ordd⟩⟩
 ·refine ⟨J.env.1, J.env.2, fun t ht => ?_⟩
  have h1:o.dst≠some t:=fun hd=>ht ⟨x,by simp,by unfold rD; rw [ho]; exact hd⟩
  rw [hl t h1]
  exact J.env.3 t fun ⟨k,hk,hkd⟩=>ht ⟨k,by simp [hk],hkd⟩
 ·rw [J.list j hj]
  by_cases hjx:j=x
  ·subst hjx; simp [hxD]
  ·simp [hjx]
 ·rcases List.mem_cons.1 hk with rfl | hk
  ·simp
  ·exact List.mem_cons_of_mem _ (J.inD k hk)
 ·rcases List.mem_cons.1 hk with rfl | hk
  ·refine ⟨o, ho, hd, hne, ?_⟩
   have hs:eS (put e1 o.dst v) o.dst v:=by
    unfold eS
    cases hd':o.dst with
    | none=>trivial
    | some d=>simp only [nX,if_true]
   have hlk:∀ t∈o.looksAt ops,lk (put e1 o.dst v) t=lk e1 t:=fun t ht=>by rw [nX,if_neg (sK ho ho hxx ht)]
   have hlk2:∀ t∈o.looksAt ops,lk (put e1 o.dst v) t=lk e t:=fun t ht=>by rw [hlk t ht,he1]
   unfold oO
   rw [sR hlk2,m7 hlk]
   rcases hp with ⟨h1,h2⟩ | ⟨h1,h2⟩
   ·exact .inl ⟨h1,h2 _ hs⟩
   ·exact .inr ⟨h1,h2 ▸ hs⟩
  ·obtain ⟨ok, hok, h1, h2, h3⟩ := J.pend k hk
   have hf:=hfree k (J.inD k hk)
   exact ⟨ok,hok,h1,h2,h3.congr (fun t ht=>(hl t (sK ho hok hf.1 ht)).symm) fun d hd=>(hl d (s5 ho hok hf.2 hd)).symm⟩
 ·rcases List.mem_cons.1 hk with hkx | hk'
  ·rcases List.mem_cons.1 hj with hjx | hj'
   ·rw [hkx,hjx,hxx] at hc; cases hc
   ·rw [hkx] at hc ⊢; exact (hD j (J.inD j hj')).1 hc
  ·rcases List.mem_cons.1 hj with hjx | hj'
   ·rw [hjx,(hfree k (J.inD k hk')).1] at hc; cases hc
   ·exact J.apart k hk' j hj' hc
end
end Go.GAM
namespace Go.GAM
section
variable {ds:List Deferred} {rd:Option Nat} {P:Program} {w0:World} {Fz:Nat→Prop} {nt:Nat} {ops:Array Oper}
variable {μ0:Mu} {listed:Array Bool} {a:Act} {w:World} {μ:Mu} {own:Nat→Option Nat} {e:Env} {h:aA} {D U:List Nat}
theorem Rel.same (R:Rel w0 Fz μ own h w) {w':World} (hs:fC w w') (hsz:w.heap.size≤w'.heap.size) (h1:w'.os=w.os) (h2:w'.tape=w.tape) (h3:w'.output=w.output):Rel w0 Fz μ own h w':=
 R.step h1 h2 h3 hsz (fun B hB=>hs B (Nat.lt_of_lt_of_le (R.fz B hB).1 R.size0)) (fun B id hB=>Nat.lt_of_lt_of_le (R.ownlt B id hB) hsz) (Sub.refl _) R.mulen
  fun id b hb=>.inl ⟨hb,fun _=>rfl,fun B hB=>⟨hB,hs B (R.ownlt B id hB)⟩⟩
def aG2 (P : Program) (R : bT) (nt : Nat) (ops : Array Oper) (i : Nat) (o : Oper) (r : Ord) (D : List Nat) (e : Env) (h : aA) (K : Env → aA → Prop) : Prop :=
 iQ ops o e (fun e=>aop P R o (restr (o.looksAt ops) e) h fun v h'=>dT P o v fun v=>
   bif jR P o then kP P ops i (put e o.dst v) h' (jC P R nt ops r (i :: D) (put e o.dst v) h' K) D else jC P R nt ops r (i :: D) (put e o.dst v) h' K)
  (fun e=>jC P R nt ops r (i :: D) (put e o.dst (.tu [])) h K)
theorem iR.eff {R : bT} {μb : Mu} (hR : dJ P w0 Fz μb R) (hsb : Sub μb μ0) {K : Env → aA → Prop} (J : iR ds P w0 Fz nt ops μ0 listed a w μ own e h D U) {x : Nat} {o : Oper} {r : Ord} (ho : ops[x]? = some o) (hr : x ∈ Region.ready .any ops listed)
  (hf:tK ops true D x=true) (hd:k9 nt o=true) (hk:aG2 P R nt ops x o r D e h K) {next:Act→World→Prop} {Q:Exit→Act→World→Prop}
  (hn:∀ a' w' μ' own' e' h',iR ds P w0 Fz nt ops μ0 (listed.setIfInBounds x true) a' w' μ' own' e' h' (x :: D) U→jC P R nt ops r (x :: D) e' h' K→next a' w'):wpOpIn (FR rd) 0 P ops Q x next a w:=by
 obtain ⟨hD,hEd,hxD,_⟩:=rR hf
 have hxs:=lE hr
 have hxU:x ∉ U:=fun hm=>hxD (J.inD x hm)
 have hE0:=J.seen ho hr fun j hj=>(hD j (J.inD j hj)).1
 obtain ⟨e1,he1,hk⟩:=pW hk
 have hre:restr (o.looksAt ops) e1=restr (o.looksAt ops) e:=m7 fun t _=>he1 t
 have hl:∀ v t,o.dst≠some t→lk (put e1 o.dst v) t=lk e t:=fun v t ht=>by rw [nX,if_neg ht,he1]
 have hfree:∀ k∈U,lI ops x k=false∧oF ops x k=false∧lB ops x k=false:=by
  intro k hk
  have hw:lB ops x k=false:=by
   cases hw:lB ops x k with
   | false=>rfl
   | true=>have:=mZ hr hw; rw [J.unlisted hk] at this; cases this
  rcases (hD k (J.inD k hk)).2 with ⟨h1,h2⟩ | ⟨_,h2⟩
  ·exact ⟨h1,h2,hw⟩
  ·rw [hw] at h2; cases h2
 have key:∀ v cv μ' own' h' w',Rel w0 Fz μ' own' h' w'→Sub μ μ'→bG μ' v cv→(∀ k∈U, ∀ ok,ops[k]? = some ok→jR P ok=false→oO P ops ok e h→oO P ops ok (put e1 o.dst v) h') →
   iR ds P w0 Fz nt ops μ0 (listed.setIfInBounds x true) (a.put o.dst cv) w' μ' own' (put e1 o.dst v) h' (x :: D) U:=by
  intro v cv μ' own' h' w' g1 g2 g3 g4
  refine ⟨g1,J.sub.trans g2, ?_,by simp [J.size],fun j hj=>?_,fun k hk=>List.mem_cons_of_mem _ (J.inD k hk),fun k hk=>?_,J.apart,⟨hEd,J.ordd⟩⟩
  ·refine (J.env.mono g2).put hd fun t ht => ?_
   by_cases hdt:o.dst=some t
   ·exact .inl ⟨t,hdt,rfl,by rw [nX,if_pos hdt]; exact g3⟩
   ·exact .inr ⟨hdt,ht,hl v t hdt⟩
  ·by_cases hjx : j = x
   ·subst hjx
    rw [oS (by rw [J.size]; exact hxs)]
    simp [hxU]
   ·rw [getD_set_ne false (Ne.symm hjx), J.list j hj]
    simp [hjx]
  ·obtain ⟨ok, hok, h1, h2, h3⟩ := J.pend k hk
   exact ⟨ok,hok,h1,h2,g4 k hk ok hok h2 h3⟩
 have same:∀ v k,k∈U→∀ ok,ops[k]? = some ok→∀ h',oO P ops ok e h'→oO P ops ok (put e1 o.dst v) h':=by
  intro v k hk ok hok h' hp
  have hf:=hfree k hk
  exact hp.congr (fun t ht=>(hl v t (sK ho hok hf.1 ht)).symm) fun d hd=>(hl v d (s5 ho hok hf.2.1 hd)).symm
 unfold wpOpIn
 simp only [ho]
 rcases hk with ⟨hw,hk⟩ | ⟨hw,hk⟩
 ·rw [if_pos (j8 hE0 hw)]
  rw [hre] at hk
  cases hne:jR P o with
  | false =>
   refine wJ hR (hsb.trans J.sub) J.rel hE0 (K:=fun v h'=>h'=h∧dT P o v fun v=>jC P R nt ops r (x :: D) (put e1 o.dst v) h K) ?_ fun v cv μ' own' h' w' h1 h2 h3 h4=>?_
   ·unfold aop at hk ⊢
    rw [hne] at hk ⊢
    simp only [cond_false] at hk ⊢
    obtain ⟨v,h1,h2⟩:=rA hk
    exact h2 (fun v=>True∧dT P o v fun v=>jC P R nt ops r (x :: D) (put e1 o.dst v) h K) ⟨trivial,h1⟩
   ·obtain ⟨rfl, h1⟩ := h1
    have h1:=gT h2 h1
    exact hn _ _ _ _ _ _ (key v cv μ' own' _ w' h3 h4 h2 fun k hk ok hok hke hp=>same v k hk ok hok _ hp) h1
  | true =>
   refine wJ hR (hsb.trans J.sub) J.rel hE0 hk fun v cv μ' own' h' w' h1 h2 h3 h4=>?_
   simp only [hne,cond_true] at h1
   have h1:=gT h2 h1
   obtain ⟨h1,hag⟩:=iX h1
   refine hn _ _ _ _ _ _ (key v cv μ' own' h' w' h3 h4 h2 fun k hk ok hok hke hp=>?_) h1
   cases hrd:mC P ok with
   | true=>exact hag k (J.inD k hk) ok hok hrd hke (hfree k hk).2.2
   | false=>exact (same v k hk ok hok _ hp).heap hrd
 ·rw [if_neg (by simp [j8 hE0 hw])]
  refine ⟨fun _ _=>trivial, ?_⟩
  exact hn _ _ _ _ _ _ (key (.tu []) undef μ own h w J.rel (Sub.refl _) (.tu [] #[] .nil) fun k hk ok hok hke hp=>same _ k hk ok hok _ hp) hk
end
end Go.GAM
namespace Go.GAM
section
variable {ds:List Deferred} {rd:Option Nat} {P:Program} {w0:World} {Fz:Nat→Prop} {nt:Nat} {ops:Array Oper}
variable {μ0:Mu} {listed:Array Bool} {a:Act} {w:World} {μ:Mu} {own:Nat→Option Nat} {e:Env} {h:aA} {D U:List Nat}
def unl (listed:Array Bool) (n:Nat):Nat:=((List.range n).filter fun j=>!listed.getD j true).length
theorem aLP {n x:Nat} (hx:x<n) (hu:listed.getD x true=false) (hs:listed.size=n):unl (listed.setIfInBounds x true) n<unl listed n:=by
 unfold unl
 have h1:(List.range n).filter (fun j=>!(listed.setIfInBounds x true).getD j true)=((List.range n).filter fun j=>!listed.getD j true).filter (fun j=>decide (j≠x)):=by
  rw [List.filter_filter]
  refine List.filter_congr fun j hj=>?_
  by_cases hjx:x=j
  ·subst hjx
   have:(listed.setIfInBounds x true).getD x true=true:=by simp [hs,hx]
   rw [this]; simp
  ·rw [getD_set_ne true hjx]
   have:j≠x:=fun e=>hjx e.symm
   simp [this]
 rw [h1]
 refine List.length_filter_lt_length_iff_exists.2 ⟨x, ?_,by simp⟩
 rw [List.mem_filter]
 exact ⟨List.mem_range.2 hx,by rw [hu] <;> rfl⟩
theorem aK0 {n x:Nat} (hx:x<n) (hu:listed.getD x true=false):0<unl listed n:=by
 unfold unl
 refine List.length_pos_of_mem (a:=x) ?_
 rw [List.mem_filter]
 exact ⟨List.mem_range.2 hx,by rw [hu] <;> rfl⟩
theorem kG.lt:∀ {D:List Nat},kG ops D→∀ k∈D,k<ops.size
 | k :: D, hO, k', hk => by
  rcases List.mem_cons.1 hk with rfl | hk
  ·obtain ⟨⟨o,ho,_⟩,_⟩:=hO; exact (Array.getElem?_eq_some_iff.1 ho).1
  ·exact kG.lt hO.2 k' hk
theorem kG.first:∀ {D:List Nat},kG ops D→(∃ k∈D,k∈U)→∃ k∈U, ∃ o,ops[k]? = some o∧∀ ed∈o.after,Region.binds .any ed=true→ed.on∈D∧ed.on ∉ U
 | [],_,⟨k,hk,_⟩=>by cases hk
 | k :: D, hO, hex => by
  by_cases hD:∃ k'∈D,k'∈U
  ·obtain ⟨k', hk', o, ho, hall⟩ := kG.first hO.2 hD
   exact ⟨k',hk',o,ho,fun ed he hb=>⟨List.mem_cons_of_mem _ (hall ed he hb).1,(hall ed he hb).2⟩⟩
  ·obtain ⟨⟨o, ho, hall⟩, _⟩ := hO
   obtain ⟨k',hk',hu⟩:=hex
   rcases List.mem_cons.1 hk' with rfl | hk'
   ·exact ⟨k',hu,o,ho,fun ed he hb=>⟨List.mem_cons_of_mem _ (hall ed he hb),fun hm=>hD ⟨_,hall ed he hb,hm⟩⟩⟩
   ·exact absurd ⟨k',hk',hu⟩ hD
theorem iR.getD (J:iR ds P w0 Fz nt ops μ0 listed a w μ own e h D U) {x:Nat} (hx:x<ops.size) (hl:listed.getD x false=false):listed.getD x true=false:=
 getD_in (by rw [J.size]; exact hx) hl
theorem iR.some_ready (J:iR ds P w0 Fz nt ops μ0 listed a w μ own e h D U) (hU:∃ k,k∈U):Region.ready .any ops listed≠[]:=by
 obtain ⟨k,hk⟩:=hU
 obtain ⟨k,hk,o,ho,hall⟩:=J.ordd.first ⟨k,J.inD k hk,hk⟩
 have hlt:=(Array.getElem?_eq_some_iff.1 ho).1
 have:k∈Region.ready .any ops listed:=mem_ready.2 ⟨J.getD hlt (J.unlisted hk),o,ho,fun ed he hb=>by
  have h1:=hall ed he hb
  exact (J.list _ (J.ordd.lt _ h1.1)).2 h1⟩
 intro h0; rw [h0] at this; cases this
theorem iR.head_ready (J:iR ds P w0 Fz nt ops μ0 listed a w μ own e h D []) {x:Nat} (hf:tK ops true D x=true):x∈Region.ready .any ops listed:=by
 obtain ⟨_,⟨o,ho,hall⟩,hxD,_⟩:=rR hf
 have hlt:=(Array.getElem?_eq_some_iff.1 ho).1
 refine mem_ready.2 ⟨J.getD hlt ?_,o,ho,fun ed he hb=>?_⟩
 ·cases hl : listed.getD x false with
  | false=>rfl
  | true=>exact absurd ((J.list x hlt).1 hl).1 hxD
 ·exact (J.list _ (J.ordd.lt _ (hall ed he hb))).2 ⟨hall ed he hb,by simp⟩
section
variable (ds rd P w0 Fz nt ops μ0)
def aII (R : bT) (K : Env → aA → Prop) (Q : Exit → Act → World → Prop) (ord : Ord) : Prop :=
 ∀ (fuel : Nat) (listed : Array Bool) (a : Act) (w : World) (μ : Mu) (own : Nat → Option Nat) (e : Env) (h : aA) (D U : List Nat), iR ds P w0 Fz nt ops μ0 listed a w μ own e h D U → jJ ops true ord D = true →
  jC P R nt ops ord D e h K→unl listed ops.size≤fuel→wpAnyIn (FR rd) 0 P .any ops Q fuel listed a w
def aJS (R : bT) (K : Env → aA → Prop) (Q : Exit → Act → World → Prop) (ord : Ord) : Prop :=
 ∀ (b : Bool) (D : List Nat) (e : Env) (h : aA) (x : Nat), x ∈ xW ord → jJ ops b ord D = true → jC P R nt ops ord D e h K →
  ∃ o r,ops[x]? = some o∧aII ds rd P w0 Fz nt ops μ0 R K Q r∧tK ops true D x=true∧k9 nt o=true∧jJ ops true r (x :: D)=true∧aG2 P R nt ops x o r D e h K
end
theorem aAV {R : bT} {μb : Mu} (hR : dJ P w0 Fz μb R) (hsb : Sub μb μ0) {K : Env → aA → Prop} {Q : Exit → Act → World → Prop} {e : Env} {h : aA} {D : List Nat}
  (hnode:∀ listed a w μ own U,iR ds P w0 Fz nt ops μ0 listed a w μ own e h D U→Region.ready .any ops listed=[]→Q .normal a w)
  (hhead:∀ listed a w μ own U,iR ds P w0 Fz nt ops μ0 listed a w μ own e h D U→∀ x∈Region.ready .any ops listed,x ∉ U →
   ∃ o r,ops[x]? = some o∧aII ds rd P w0 Fz nt ops μ0 R K Q r∧tK ops true D x=true∧k9 nt o=true∧jJ ops true r (x :: D)=true∧aG2 P R nt ops x o r D e h K) :
  ∀ (fuel:Nat) (listed:Array Bool) (a:Act) (w:World) (μ:Mu) (own:Nat→Option Nat) (U:List Nat),iR ds P w0 Fz nt ops μ0 listed a w μ own e h D U→unl listed ops.size≤fuel→wpAnyIn (FR rd) 0 P .any ops Q fuel listed a w:=by
 intro fuel
 induction fuel with
 | zero =>
  intro listed a w μ own U J hu
  have h0:Region.ready .any ops listed=[]:=by
   cases hr:Region.ready .any ops listed with
   | nil=>rfl
   | cons x l =>
    have hx:x∈Region.ready .any ops listed:=by rw [hr]; simp
    have:=aK0 (lE hx) (mem_ready.1 hx).1
    omega
  exact ⟨h0,hnode _ _ _ _ _ _ J h0⟩
 | succ fuel ih =>
  intro listed a w μ own U J hu
  refine ⟨hnode _ _ _ _ _ _ J,fun x hx=>?_⟩
  have hlt:=aLP (lE hx) (mem_ready.1 hx).1 J.size
  by_cases hxU:x∈U
  ·exact J.take hR hsb hxU hx fun a' w' μ' own' J'=>ih _ _ _ _ _ _ J' (by omega)
  ·obtain ⟨o, r, ho, hG, hf, hd, hok, hk⟩ := hhead _ _ _ _ _ _ J x hx hxU
   exact J.eff hR hsb ho hx hf hd hk fun a' w' μ' own' e' h' J' hk'=>hG fuel _ _ _ _ _ _ _ _ _ J' hok hk' (by omega)
theorem aKV {R : bT} {μb : Mu} (hR : dJ P w0 Fz μb R) (hsb : Sub μb μ0) {K : Env → aA → Prop} {Q : Exit → Act → World → Prop}
  (hQ:∀ e h a w μ own,K e h→Rel w0 Fz μ own h w→cB ds μ nt e a→Sub μ0 μ→Q .normal a w) :
  ∀ ord:Ord,aII ds rd P w0 Fz nt ops μ0 R K Q ord∧aJS ds rd P w0 Fz nt ops μ0 R K Q ord:=by
 intro ord
 induction ord with
 | stop =>
  refine ⟨fun fuel listed a w μ own e h D U J hok=>?_,fun b D e h x hx=>by cases hx⟩
  simp [jJ] at hok
 | done =>
  refine ⟨fun fuel listed a w μ own e h D U J hok hk hu=>?_,fun b D e h x hx=>by cases hx⟩
  simp only [jJ,List.all_eq_true,List.mem_range] at hok
  have hall:∀ j<ops.size,j∈D:=fun j hj=>by simpa using hok j hj
  refine aAV hR hsb (K:=K) (fun listed a w μ own U J h0=>?_) (fun listed a w μ own U J x hx hxU=>?_) fuel listed a w μ own U J hu
  ·have hU : ¬ ∃ k, k ∈ U := fun h1 => J.some_ready h1 h0
   refine hQ e h a w μ own hk J.rel ⟨J.env.1,J.env.2,fun t=>J.env.3 t fun ⟨k,hk,_⟩=>hU ⟨k,hk⟩⟩ J.sub
  ·have hlt := lE hx
   have h1:=(J.list x hlt).2 ⟨hall x hlt,hxU⟩
   have h2:=getD_both (mem_ready.1 hx).1
   rw [h1] at h2; cases h2
 | neu i r ih =>
  refine ⟨fun fuel listed a w μ own e h D U J hok hk hu=>?_,fun b D e h x hx=>by cases hx⟩
  simp only [jJ,Bool.true_and,Bool.and_eq_true] at hok
  obtain ⟨hf,hok⟩:=hok
  unfold jC at hk
  cases ho:ops[i]? with
  | none=>rw [ho] at hk; exact hk.elim
  | some o =>
   rw [ho] at hk
   obtain ⟨hd,hk⟩:=bB hk
   simp only [Bool.and_eq_true,Bool.not_eq_true'] at hd
   obtain ⟨e1,he1,hk⟩:=pW hk
   rcases hk with ⟨hw,hk⟩ | ⟨hw,hk⟩
   ·obtain ⟨v, h1, h2⟩ := rA hk
    obtain ⟨v',h3,h4⟩:=vZ h1
    exact ih.1 fuel _ _ _ _ _ _ _ _ _ (J.neu ho hf hd.1 hd.2 he1 (v:=v') (.inl ⟨hw,fun K' hK'=>h2 _ (h4 _ hK')⟩)) hok h3 hu
   ·exact ih.1 fuel _ _ _ _ _ _ _ _ _ (J.neu ho hf hd.1 hd.2 he1 (v:=.tu []) (.inr ⟨hw,rfl⟩)) hok hk hu
 | eff i r alt ihr iha =>
  have HH:aJS ds rd P w0 Fz nt ops μ0 R K Q (.eff i r alt):=by
   intro b D e h x hx hok hk
   simp only [jJ,Bool.and_eq_true] at hok
   obtain ⟨⟨⟨_,hf⟩,hr⟩,ha⟩:=hok
   unfold jC at hk
   cases ho:ops[i]? with
   | none=>rw [ho] at hk; exact hk.elim
   | some o =>
    rw [ho] at hk
    obtain ⟨hd,hk⟩:=bB hk
    have hk':aG2 P R nt ops i o r D e h K∧(alt.isStop=false→jC P R nt ops alt D e h K):=by
     cases hs:alt.isStop with
     | true=>rw [hs] at hk; exact ⟨hk,fun h=>by cases h⟩
     | false=>rw [hs] at hk; exact ⟨hk.1,fun _=>hk.2⟩
    simp only [xW,List.mem_cons] at hx
    rcases hx with rfl | hx
    ·exact ⟨o,r,ho,ihr.1,hf,hd,hr,hk'.1⟩
    ·refine iha.2 false D e h x hx ha (hk'.2 ?_)
     cases alt <;> first | rfl | (simp [xW] at hx)
  refine ⟨fun fuel listed a w μ own e h D U J hok hk hu=>?_,HH⟩
  have hok0:=hok
  simp only [jJ,Bool.and_eq_true,Bool.not_true,Bool.false_or] at hok
  obtain ⟨⟨⟨hB,hf⟩,hr⟩,ha⟩:=hok
  refine aAV hR hsb (K:=K) (fun listed a w μ own U J h0=>?_) (fun listed a w μ own U J x hx hxU=>?_) fuel listed a w μ own U J hu
  ·exfalso
   have hU:¬ ∃ k,k∈U:=fun h1=>J.some_ready h1 h0
   have:U=[]:=by
    cases U with
    | nil=>rfl
    | cons k U=>exact absurd ⟨k,by simp⟩ hU
   subst this
   have:=J.head_ready hf
   rw [h0] at this; cases this
  ·refine HH true D e h x ?_ hok0 hk
   have hlt:=lE hx
   simp only [aNA,List.all_eq_true,List.mem_range,Bool.or_eq_true,List.any_eq_true,Bool.and_eq_true,Bool.not_eq_true'] at hB
   rcases hB x hlt with (h1 | h1) | ⟨j,hj,h1,h2⟩
   ·have hxD : x ∈ D := by simpa using h1
    have h1:=(J.list x hlt).2 ⟨hxD,hxU⟩
    have h2:=getD_both (mem_ready.1 hx).1
    rw [h1] at h2; cases h2
   ·simpa [xW] using h1
   ·have h3 := mZ hx h1
    have:=((J.list j hj).1 h3).1
    simp [this] at h2
theorem aDH {R:bT} (hm:P.follows .mixedOrders=true) {μb:Mu} (hR:dJ P w0 Fz μb R) (hsb:Sub μb μ) {K:Env→aA→Prop} {Q:Exit→Act→World→Prop} {id:Nat} {ord:Ord} (Rl:Rel w0 Fz μ own h w) (hE:cB ds μ nt e a)
  (hok:jJ ops true ord []=true) (hk:jC P R nt ops ord [] e h K)
  (hQ:∀ e' h' a' w' μ' own',K e' h'→Rel w0 Fz μ' own' h' w'→cB ds μ' nt e' a'→Sub μ μ'→Q .normal a' w'):(Code.region id ops true).wpIn (FR rd) 0 P Q a w:=by
 refine wpIn_region_any hm ((aKV hR (μ0:=μ) hsb hQ ord).1 ops.size _ _ _ μ own e h [] [] ?_ hok hk ?_)
 ·refine ⟨Rl.same (fun _ _ => rfl) (Nat.le_refl _) rfl rfl rfl, Sub.refl _, ⟨hE.1, hE.2, fun t _ => hE.3 t⟩, by simp, fun j hj => ?_, by simp, by simp, by simp, trivial⟩
  rw [getD_replicate_false]; simp
 ·unfold unl
  exact Nat.le_trans (List.length_filter_le _ _) (by simp)
end
end Go.GAM
namespace Go.GAM
section
variable {ds:List Deferred} {rd:Option Nat} {P:Program} {w0:World} {Fz:Nat→Prop} {μ:Mu} {own:Nat→Option Nat} {h:aA} {w:World}
def QK (ds:List Deferred) (w0:World) (Fz:Nat→Prop) (nt:Nat) (μ:Mu) (K:Kx):Exit→Act→World→Prop:=
 fun x a' w'=>∃ e' h' μ' own',K x e' h'∧Rel w0 Fz μ' own' h' w'∧cB ds μ' nt e' a'∧Sub μ μ'
theorem aAI {R:bT} {μb:Mu} (hR:dJ P w0 Fz μb R) {nt:Nat} {ops:Array Oper} {K:Env→aA→Prop} {Q:Exit→Act→World→Prop}:∀ (l:List Oper) (μ:Mu) (own:Nat→Option Nat) (e:Env) (h:aA) (a:Act) (w:World),
  Sub μb μ→Rel w0 Fz μ own h w→cB ds μ nt e a→aCM P R nt ops l e h K →
  (∀ e' h' a' w' μ' own',K e' h'→Rel w0 Fz μ' own' h' w'→cB ds μ' nt e' a'→Sub μ μ'→Q .normal a' w')→wpListIn (FR rd) 0 P ops Q l a w
 | [],μ,own,e,h,a,w,hsb,Rl,hE,hk,hQ=>hQ e h a w μ own hk Rl hE (Sub.refl _)
 | o :: l, μ, own, e, h, a, w, hsb, Rl, hE, hk, hQ => by
  obtain ⟨hd,hk⟩:=bB hk
  unfold wpListIn
  rcases pV hE hk with ⟨hw,e,hE,hk⟩ | ⟨hw,e,hE,hk⟩
  ·rw [if_pos hw]
   refine wJ hR hsb Rl hE hk fun v cv μ' own' h' w' h1 h2 h3 h4=>?_
   have h1:=gT h2 h1
   exact aAI hR l μ' own' _ h' _ w' (hsb.trans h4) h3 ((hE.mono h4).put hd h2) h1 fun e2 h2 a2 w2 μ2 own2 g1 g2 g3 g4=>hQ e2 h2 a2 w2 μ2 own2 g1 g2 g3 (h4.trans g4)
  ·rw [if_neg (by simp [hw])]
   exact ⟨fun _ _=>trivial,aAI hR l μ own _ h _ w hsb Rl (hE.put hd (.tu [] #[] .nil)) hk hQ⟩
theorem fF {b:Frame} {a:Act} {k:List Item} {cs:List Frame} {w:World} {c:Code}:step P (lone (b.atR a (.code (.scope c) :: k)) cs w) = .next (lone (b.atR a (.code c :: .inScope c :: k)) cs w):=
 step_lone_go (by simp [stepG,stepG.exec,Frame.atR])
theorem oV {b:Frame} {a:Act} {k:List Item} {cs:List Frame} {w:World} {c:Code}:step P (lone (b.atR a (.inScope c :: k)) cs w) = .next (lone (b.atR a k) cs w):=
 step_lone_go (by simp [stepG,stepG.exec,Frame.atR])
theorem aDN {F:Fence} {n:Nat} {c:Code} {a:Act} {w:World} {Q:Exit→Act→World→Prop} (h:c.wpIn F n P (Exit.noGoto Q) a w):(Code.scope c).wpIn F n P Q a w:=by
 intro b k cs hro hb hr
 have h0:(lone (b.atR a (.code (.scope c) :: k)) cs w).fenced P F:=fenced_calm hb hr rfl
 obtain ⟨e,a₁,w₁,hq,harr⟩:=h b (.inScope c :: k) cs hro hb hr
 cases e with
 | normal=>exact ⟨.normal,a₁,w₁,hq,.head h0 fF (StepsIn.trans harr (.one (fenced_calm hb hr rfl) oV))⟩
 | exit id =>
  have hx:exitTo id (.inScope c :: k)=exitTo id k:=by simp [exitTo]
  exact ⟨_,a₁,w₁,hq,fun k' hk=>.head h0 fF (harr.1 k' (by rw [hx]; exact hk)),
   fun hr' hk=>let ⟨k₁,h1,h2⟩:=harr.2 hr' (by rw [hx]; exact hk); ⟨k₁,h1,.head h0 fF h2⟩⟩
 | goto l=>exact hq.elim
 | ret=>exact ⟨_,a₁,w₁,hq,.of_steps (.one h0 fF) harr⟩
 | panic ch=>exact ⟨_,a₁,w₁,hq,.of_steps (.one h0 fF) harr⟩
 | outgrown=>exact ⟨_,a₁,w₁,hq,.of_steps (.one h0 fF) harr⟩
theorem y8:∀ (c:Code) (l:Nat),xU c l=(findLabel c l).isSome:=by
 intro c
 induction c with
 | seq a b iha ihb =>
  intro l
  simp only [xU,findLabel,iha,ihb]
  cases findLabel a l <;> simp
 | label l' =>
  intro l
  simp only [xU,findLabel]
  by_cases h:l'=l
  ·subst h; simp
  ·rw [zI h]; simp [h]
 | _=>intro l; simp [xU,findLabel]
theorem aG5 {R : bT} (hm : P.follows .mixedOrders = true) {μb : Mu} (hR : dJ P w0 Fz μb R) {nt : Nat} : ∀ (c : Code),
  (∀ (ann:Ann) (μ:Mu) (own:Nat→Option Nat) (e:Env) (h:aA) (K:Kx) (a:Act) (w:World),
   Sub μb μ→Rel w0 Fz μ own h w→cB ds μ nt e a→dK P R nt ann c e h K→c.wpIn (FR rd) 0 P (QK ds w0 Fz nt μ K) a w) ∧
  (∀ (l:Nat) (rest:Code) (ann:Ann) (μ:Mu) (own:Nat→Option Nat) (e:Env) (h:aA) (K:Kx) (a:Act) (w:World),findLabel c l=some rest →
   Sub μb μ→Rel w0 Fz μ own h w→cB ds μ nt e a→fZ P R nt ann c l e h K→rest.wpIn (FR rd) 0 P (QK ds w0 Fz nt μ K) a w):=by
 intro c
 induction c with
 | skip =>
  refine ⟨?_, ?_⟩
  ·intro ann μ own e h K a w hsb Rl hE hk; exact wpIn_skip ⟨e,h,μ,own,hk,Rl,hE,Sub.refl _⟩
  ·intro l rest ann μ own e h K a w hf; simp [findLabel] at hf
 | region id ops draw =>
  refine ⟨?_, ?_⟩
  ·intro ann μ own e h K a w hsb Rl hE hk
   simp only [dK] at hk
   cases draw with
   | false =>
    exact wpIn_region_list (aAI hR _ μ own e h a w hsb Rl hE hk fun e' h' a' w' μ' own' g1 g2 g3 g4=>⟨e',h',μ',own',g1,g2,g3,g4⟩)
   | true =>
    simp only [cond_true] at hk
    obtain ⟨hB,hk⟩:=bB hk
    exact aDH hm hR hsb Rl hE hB hk fun e' h' a' w' μ' own' g1 g2 g3 g4=>⟨e',h',μ',own',g1,g2,g3,g4⟩
  ·intro l rest ann μ own e h K a w hf; simp [findLabel] at hf
 | seq x y ihx ihy =>
  refine ⟨?_, ?_⟩
  ·intro ann μ own e h K a w hsb Rl hE hk
   simp only [dK] at hk
   refine wpIn_seq (wpIn_mono (ihx.1 _ μ own e h _ a w hsb Rl hE hk) ?_)
   rintro ex a' w' ⟨e',h',μ',own',g1,g2,g3,g4⟩
   cases ex with
   | normal =>
    exact wpIn_mono (ihy.1 _ μ' own' _ h' K a' w' (hsb.trans g4) g2 (g3.restr _) g1) fun ex a2 w2 ⟨e2,h2,μ2,own2,k1,k2,k3,k4⟩=>⟨e2,h2,μ2,own2,k1,k2,k3,g4.trans k4⟩
   | _=>exact ⟨e',h',μ',own',g1,g2,g3,g4⟩
  ·intro l rest ann μ own e h K a w hf hsb Rl hE hk
   simp only [fZ] at hk
   have hl:=y8 x l
   cases hx:findLabel x l with
   | none =>
    rw [hx,Option.isSome_none] at hl
    rw [hl,cond_false] at hk
    simp only [findLabel,hx] at hf
    exact ihy.2 l rest _ μ own e h K a w hf hsb Rl hE hk
   | some r =>
    rw [hx,Option.isSome_some] at hl
    rw [hl,cond_true] at hk
    simp only [findLabel,hx,Option.some.injEq] at hf
    subst hf
    refine wpIn_seq (wpIn_mono (ihx.2 l r _ μ own e h _ a w hx hsb Rl hE hk) ?_)
    rintro ex a' w' ⟨e',h',μ',own',g1,g2,g3,g4⟩
    cases ex with
    | normal =>
     exact wpIn_mono (ihy.1 _ μ' own' _ h' K a' w' (hsb.trans g4) g2 (g3.restr _) g1) fun ex a2 w2 ⟨e2,h2,μ2,own2,k1,k2,k3,k4⟩=>⟨e2,h2,μ2,own2,k1,k2,k3,g4.trans k4⟩
    | _=>exact ⟨e',h',μ',own',g1,g2,g3,g4⟩
 | cond c x y ihx ihy =>
  refine ⟨?_, ?_⟩
  ·intro ann μ own e h K a w hsb Rl hE hk
   simp only [dK] at hk
   rcases sC hk (Rl.ev hE c) with ⟨h1,h2⟩ | ⟨h1,h2⟩
   ·exact wpIn_cond_true h1 (ihx.1 _ μ own e h K a w hsb Rl hE h2)
   ·exact wpIn_cond_false h1 (ihy.1 _ μ own e h K a w hsb Rl hE h2)
  ·intro l rest ann μ own e h K a w hf; simp [findLabel] at hf
 | block id x ih =>
  refine ⟨?_, ?_⟩
  ·intro ann μ own e h K a w hsb Rl hE hk
   simp only [dK] at hk
   refine wpIn_block (wpIn_mono (ih.1 _ μ own e h _ a w hsb Rl hE hk) ?_)
   rintro ex a' w' ⟨e',h',μ',own',g1,g2,g3,g4⟩
   cases ex with
   | exit id' =>
    simp only [mK] at g1
    simp only [Exit.inBlock]
    by_cases hid:id'=id
    ·subst hid
     simp at g1
     rw [if_pos rfl]
     exact ⟨e',h',μ',own',g1,g2,g3,g4⟩
    ·rw [zI hid] at g1
     rw [if_neg hid]
     exact ⟨e',h',μ',own',g1,g2,g3,g4⟩
   | _=>exact ⟨e',h',μ',own',g1,g2,g3,g4⟩
  ·intro l rest ann μ own e h K a w hf; simp [findLabel] at hf
 | scope x ih =>
  refine ⟨?_, ?_⟩
  ·intro ann μ own e h K a w hsb Rl hE hk
   simp only [dK] at hk
   cases hg:rX x with
   | false =>
    rw [hg] at hk
    refine aDN (wpIn_mono (ih.1 ann.a μ own e h (rJ K) a w hsb Rl hE hk) ?_)
    rintro ex a' w' ⟨e',h',μ',own',g1,g2,g3,g4⟩
    cases ex <;> first | exact g1.elim | exact ⟨e',h',μ',own',g1,g2,g3,g4⟩
   | true =>
    rw [hg,cond_true] at hk
    let S:Nat→Env→aA→Prop:=fun l e h=>∀ (μ':Mu) (own':Nat→Option Nat) (a:Act) (w:World),Sub μ μ'→Rel w0 Fz μ' own' h w→cB ds μ' nt e a→∀ (rest:Code),findLabel x l=some rest→∀ (b:Frame) (k:List Item) (cs:List Frame),b.roundOf=rd→(FR rd).room (cs.length+1+0) →
     ∃ ex a' w',QK ds w0 Fz nt μ K ex a' w'∧ArrivesIn (Machine.fenced P (FR rd)) P (lone (b.atR a (.code rest :: .inScope x :: k)) cs w) b k cs ex a' w'
    have leave:∀ (I:Nat→Env→aA→Prop),(∀ l e h,I l e h→S l e h)→∀ (ex:Exit) (e1:Env) (h1:aA) (μ1:Mu) (own1:Nat→Option Nat) (a1:Act) (w1:World) (m:Machine),qV x I K ex e1 h1→Sub μ μ1→Rel w0 Fz μ1 own1 h1 w1→cB ds μ1 nt e1 a1 →
      ∀ (b:Frame) (k:List Item) (cs:List Frame),b.roundOf=rd→(FR rd).room (cs.length+1+0)→ArrivesIn (Machine.fenced P (FR rd)) P m b (.inScope x :: k) cs ex a1 w1→∃ ex a' w',QK ds w0 Fz nt μ K ex a' w'∧ArrivesIn (Machine.fenced P (FR rd)) P m b k cs ex a' w':=by
     intro I hI ex e1 h1 μ1 own1 a1 w1 m g1 g4 g2 g3 b k cs hro hb harr
     cases ex with
     | normal=>exact ⟨.normal,a1,w1,⟨e1,h1,μ1,own1,g1,g2,g3,g4⟩,StepsIn.trans harr (.one (fenced_calm (n:=0) trivial hb rfl) oV)⟩
     | exit id =>
      have hx:exitTo id (.inScope x :: k)=exitTo id k:=by simp [exitTo]
      exact ⟨.exit id,a1,w1,⟨e1,h1,μ1,own1,g1,g2,g3,g4⟩,fun k' hk=>harr.1 k' (by rw [hx]; exact hk),fun hr' hk=>harr.2 hr' (by rw [hx]; exact hk)⟩
     | goto l =>
      have hl:=y8 x l
      cases hf:findLabel x l with
      | some rest =>
       rw [hf,Option.isSome_some] at hl
       simp only [qV,hl,cond_true] at g1
       have hgo:gotoIn l (.inScope x :: k)=some (.code rest :: .inScope x :: k):=by simp [gotoIn,hf]
       obtain ⟨ex2,a2,w2,q2,arr2⟩:=hI _ _ _ g1 μ1 own1 a1 w1 g4 g2 g3 rest hf b k cs hro hb
       exact ⟨ex2,a2,w2,q2,.of_steps (harr.1 _ hgo) arr2⟩
      | none =>
       rw [hf,Option.isSome_none] at hl
       simp only [qV,hl,cond_false] at g1
       have hx:gotoIn l (.inScope x :: k)=gotoIn l k:=by simp [gotoIn,hf]
       exact ⟨.goto l,a1,w1,⟨e1,h1,μ1,own1,g1,g2,g3,g4⟩,fun k' hk=>harr.1 k' (by rw [hx]; exact hk),fun hr' hk=>harr.2 hr' (by rw [hx]; exact hk)⟩
     | ret=>exact ⟨_,a1,w1,⟨e1,h1,μ1,own1,g1,g2,g3,g4⟩,harr⟩
     | panic ch=>exact ⟨_,a1,w1,⟨e1,h1,μ1,own1,g1,g2,g3,g4⟩,harr⟩
     | outgrown=>exact ⟨_,a1,w1,⟨e1,h1,μ1,own1,g1,g2,g3,g4⟩,harr⟩
    have key:∀ l e h,zM (fun I l e h=>fZ P R nt ann.a x l e h (qV x I K)) l e h→S l e h:=by
     intro l e h hJ
     refine hJ S fun l e h hF μ' own' a w hs Rl hE rest hf b k cs hro hb=>?_
     obtain ⟨ex,a1,w1,⟨e1,h1,μ1,own1,g1,g2,g3,g4⟩,harr⟩:=ih.2 l rest ann.a μ' own' e h _ a w hf (hsb.trans hs) Rl hE hF b (.inScope x :: k) cs hro trivial hb
     exact leave S (fun _ _ _ h=>h) ex e1 h1 μ1 own1 a1 w1 _ g1 (hs.trans g4) g2 g3 b k cs hro hb harr
    intro b k cs hro hbt hb
    obtain ⟨ex,a1,w1,⟨e1,h1,μ1,own1,g1,g2,g3,g4⟩,harr⟩:=ih.1 ann.a μ own e h _ a w hsb Rl hE hk b (.inScope x :: k) cs hro trivial hb
    obtain ⟨ex2,a2,w2,q2,arr2⟩:=leave _ key ex e1 h1 μ1 own1 a1 w1 _ g1 g4 g2 g3 b k cs hro hb harr
    exact ⟨ex2,a2,w2,q2,.of_steps (.one (fenced_calm (n:=0) trivial hb rfl) fF) arr2⟩
  ·intro l rest ann μ own e h K a w hf; simp [findLabel] at hf
 | loop x ih =>
  refine ⟨?_, ?_⟩
  ·intro ann μ own e h K a w hsb Rl hE hk
   simp only [dK] at hk
   have key:=hk (fun e h=>∀ (μ':Mu) (own':Nat→Option Nat) (a:Act) (w:World),Sub μ μ'→Rel w0 Fz μ' own' h w→cB ds μ' nt e a→∀ (b:Frame) (k:List Item) (cs:List Frame),b.roundOf=rd→(FR rd).room (cs.length+1+0) →
     ∃ ex a' w',QK ds w0 Fz nt μ K ex a' w'∧ArrivesIn (Machine.fenced P (FR rd)) P (lone (b.atR a (.code x :: .inLoop x :: k)) cs w) b k cs ex a' w') (by
    intro e h hF μ' own' a w hs Rl hE b k cs hro hb
    obtain ⟨ex,a1,w1,⟨e1,h1,μ1,own1,g1,g2,g3,g4⟩,harr⟩:=ih.1 _ μ' own' e h _ a w (hsb.trans hs) Rl hE hF b (.inLoop x :: k) cs hro trivial hb
    cases ex with
    | normal =>
     obtain ⟨ex2,a2,w2,q2,arr2⟩:=g1 μ1 own1 a1 w1 (hs.trans g4) g2 (g3.restr _) b k cs hro hb
     exact ⟨ex2,a2,w2,q2,.of_steps (StepsIn.trans harr (.one (fenced_calm (n:=0) trivial hb rfl) stepR_inLoop)) arr2⟩
    | exit id=>exact ⟨_,a1,w1,⟨e1,h1,μ1,own1,g1,g2,g3,hs.trans g4⟩,.pass (x:=.inLoop x) rfl (fun _ _=>.inl (by simp)) harr⟩
    | goto l=>exact ⟨_,a1,w1,⟨e1,h1,μ1,own1,g1,g2,g3,hs.trans g4⟩,.pass (x:=.inLoop x) rfl (fun _ _=>.inl (by simp)) harr⟩
    | ret=>exact ⟨_,a1,w1,⟨e1,h1,μ1,own1,g1,g2,g3,hs.trans g4⟩,.pass (x:=.inLoop x) rfl (fun _ _=>.inl (by simp)) harr⟩
    | panic ch=>exact ⟨_,a1,w1,⟨e1,h1,μ1,own1,g1,g2,g3,hs.trans g4⟩,.pass (x:=.inLoop x) rfl (fun _ _=>.inl (by simp)) harr⟩
    | outgrown=>exact ⟨_,a1,w1,⟨e1,h1,μ1,own1,g1,g2,g3,hs.trans g4⟩,.pass (x:=.inLoop x) rfl (fun _ _=>.inl (by simp)) harr⟩)
   intro b k cs hro hbt hb
   obtain ⟨ex,a',w',hq,harr⟩:=key μ own a w (Sub.refl _) Rl (hE.restr _) b k cs hro hb
   exact ⟨ex,a',w',hq,.of_steps (.one (fenced_calm (n:=0) trivial hb rfl) stepR_loop) harr⟩
  ·intro l rest ann μ own e h K a w hf; simp [findLabel] at hf
 | exit id =>
  refine ⟨?_, ?_⟩
  ·intro ann μ own e h K a w hsb Rl hE hk; exact wpIn_exit ⟨e,h,μ,own,hk,Rl,hE,Sub.refl _⟩
  ·intro l rest ann μ own e h K a w hf; simp [findLabel] at hf
 | label l =>
  refine ⟨?_, ?_⟩
  ·intro ann μ own e h K a w hsb Rl hE hk; exact wpIn_label ⟨e,h,μ,own,hk,Rl,hE,Sub.refl _⟩
  ·intro l1 rest ann μ own e h K a w hf hsb Rl hE hk
   simp only [findLabel] at hf
   split at hf
   ·rename_i hll
    cases hf
    have:l=l1:=by simpa using hll
    subst this
    simp only [fZ,Nat.beq_refl,cond_true] at hk
    exact wpIn_skip ⟨e,h,μ,own,hk,Rl,hE,Sub.refl _⟩
   ·cases hf
 | ret =>
  refine ⟨?_, ?_⟩
  ·intro ann μ own e h K a w hsb Rl hE hk; exact wpIn_ret ⟨e,h,μ,own,hk,Rl,hE,Sub.refl _⟩
  ·intro l rest ann μ own e h K a w hf; simp [findLabel] at hf
 | goto l =>
  refine ⟨?_, ?_⟩
  ·intro ann μ own e h K a w hsb Rl hE hk; exact wpIn_goto ⟨e,h,μ,own,hk,Rl,hE,Sub.refl _⟩
  ·intro l rest ann μ own e h K a w hf; simp [findLabel] at hf
 | _ =>
  refine ⟨?_, ?_⟩
  ·intro ann μ own e h K a w hsb Rl hE hk; exact False.elim hk
  ·intro l rest ann μ own e h K a w hf; simp [findLabel] at hf
theorem wA {R:bT} (hm:P.follows .mixedOrders=true) {μb:Mu} (hR:dJ P w0 Fz μb R) {nt:Nat} (c:Code) (ann:Ann) (μ:Mu) (own:Nat→Option Nat) (e:Env) (h:aA) (K:Kx) (a:Act) (w:World) :
  Sub μb μ→Rel w0 Fz μ own h w→cB ds μ nt e a→dK P R nt ann c e h K→c.wpIn (FR rd) 0 P (QK ds w0 Fz nt μ K) a w:=
 (aG5 hm hR c).1 ann μ own e h K a w
end
end Go.GAM
namespace Go.GAM
section
variable {P:Program} {w0:World} {Fz:Nat→Prop} {μ:Mu} {own:Nat→Option Nat} {h:aA} {w:World}
def aLW (μ:Mu) (n:Nat):Prop:=∀ id ver l,μ id ver=some l→id<n
def aEY (μ μ':Mu) (n:Nat):Prop:=∀ id ver,id<n→μ' id ver=μ id ver
mutual
theorem bG.old {μ0 μ μ':Mu} {n:Nat} (hlt:aLW μ0 n) (hag:aEY μ μ' n):∀ {v:AV} {c0 c:Value},bG μ0 v c0→bG μ v c→bG μ' v c
 | _,_,_,.u _,_=>.u _
 | _,_,_,.b _,.b _=>.b _
 | _,_,_,.i _ _,.i _ _=>.i _ _
 | _,_,_,.s _ _ _,.s _ _ h=>.s _ _ h
 | _,_,_,.pn,.pn=>.pn
 | _,_,_,.p a l o h ho,.p _ l' o' h' ho'=>.p a l' o' ((hag _ _ (hlt _ _ _ h)).trans h') ho'
 | _,_,_,.sn,.sn=>.sn
 | _,_,_,.sl a len capo c addr l h _ _ _ _ _,.sl _ _ _ c' addr' l' h' g1 g2 g3 g4 g5=>.sl a len capo c' addr' l' ((hag _ _ (hlt _ _ _ h)).trans h') g1 g2 g3 g4 g5
 | _,_,_,.ag _ _ h,.ag _ _ h'=>.ag _ _ (bO.old hlt hag h h')
 | _,_,_,.tu _ _ h,.tu _ _ h'=>.tu _ _ (bO.old hlt hag h h')
 | _,_,_,.fn _ _ _ _ _ h k,.fn _ _ _ _ _ h' k'=>.fn _ _ _ _ _ (bO.old hlt hag h h') (bO.old hlt hag k k')
 | _,_,_,.nf,.nf=>.nf
 | _,_,_,.ifc _ _ _ h,.ifc _ _ _ h'=>.ifc _ _ _ (bG.old hlt hag h h')
 | _,_,_,.ni,.ni=>.ni
 | _,_,_,.mpn,.mpn=>.mpn
 | _,_,_,.mp id l h,.mp _ l' h'=>.mp id l' ((hag _ _ (hlt _ _ _ h)).trans h')
theorem bO.old {μ0 μ μ':Mu} {n:Nat} (hlt:aLW μ0 n) (hag:aEY μ μ' n):∀ {v:List AV} {c0 c:List Value},bO μ0 v c0→bO μ v c→bO μ' v c
 | _,_,_,.nil,.nil=>.nil
 | _,_,_,.cons _ _ _ _ h t,.cons _ _ _ _ h' t'=>.cons _ _ _ _ (bG.old hlt hag h h') (bO.old hlt hag t t')
end
def lO (μ:Mu) (n:Nat) (keep:List Nat):Mu:=fun id ver=>if id<n then μ id ver else match keep[id - n]? with
 | some k=>μ k ver
 | none=>none
def pA (own:Nat→Option Nat) (n:Nat) (keep:List Nat):Nat→Option Nat:=fun B=>match own B with
 | some id=>if mD n keep id then some (lH n keep id) else none
 | none=>none
theorem zC {n:Nat} {keep:List Nat} {id ver:Nat} {l:Loc} (hk:∀ k∈keep,n≤k) (hok:mD n keep id=true) (hm:μ id ver=some l):lO μ n keep (lH n keep id) ver=some l:=by
 unfold lO lH
 by_cases h:id<n
 ·simp [h,hm]
 ·simp only [mD, h, decide_false, Bool.false_or, List.contains_iff_mem] at hok
  have:keep[keep.idxOf id]? = some id:=by
   have hl:=List.idxOf_lt_length_iff.2 hok
   rw [List.getElem?_eq_getElem hl]
   simp
  rw [if_neg h,if_neg (by omega),show n+keep.idxOf id - n=keep.idxOf id by omega,this]
  exact hm
theorem mV {n:Nat} {keep:List Nat} (hk:∀ k∈keep,n≤k) {v:AV} {c:Value} (h:bG μ v c) (hok:ok1 n keep v=true):bG (lO μ n keep) (o6 n keep v) c:=by
 cases h <;> first | (simp [ok1] at hok; done) | skip
 case u=>exact .u _
 case b=>exact .b _
 case i=>exact .i _ _
 case s l x h=>exact .s _ _ h
 case pn=>exact .pn
 case p a l o h ho=>exact .p (xJ n keep a) l o (zC hk hok h) ho
 case sn=>exact .sn
 case sl a len capo c addr l h g1 g2 g3 g4 g5=>exact .sl (xJ n keep a) len capo c addr l (zC hk hok h) g1 g2 g3 g4 g5
 case nf=>exact .nf
 case ni=>exact .ni
theorem uH {n:Nat} {keep:List Nat} (hk:∀ k∈keep,n≤k):∀ {v:List AV} {c:List Value},bO μ v c→v.all (ok1 n keep)=true→bO (lO μ n keep) (v.map (o6 n keep)) c
 | _,_,.nil,_=>.nil
 | _, _, .cons _ _ _ _ h t, hok => by
  simp only [List.all_cons,Bool.and_eq_true] at hok
  exact .cons _ _ _ _ (mV hk h hok.1) (uH hk t hok.2)
theorem aFO {n:Nat} {keep:List Nat} (hk:∀ k∈keep,n≤k) {v:AV} {c:Value} (h:bG μ v c) (hok:okR n keep v=true):bG (lO μ n keep) (ren n keep v) c:=by
 cases h with
 | ag cs vs h=>exact .ag _ _ (uH hk h hok)
 | tu cs vs h=>exact .tu _ _ (uH hk h hok)
 | u=>exact .u _
 | b=>exact .b _
 | i=>exact .i _ _
 | s l x h=>exact .s _ _ h
 | pn=>exact .pn
 | p a l o h ho=>exact mV hk (.p a l o h ho) hok
 | sn=>exact .sn
 | sl a len capo c addr l h g1 g2 g3 g4 g5=>exact mV hk (.sl a len capo c addr l h g1 g2 g3 g4 g5) hok
 | nf=>exact .nf
 | ni=>exact .ni
 | fn=>simp [okR,ok1] at hok
 | ifc=>simp [okR,ok1] at hok
 | mpn=>simp [okR,ok1] at hok
 | mp=>simp [okR,ok1] at hok
theorem fX.old {μ0 μ μ':Mu} {n:Nat} (hlt:aLW μ0 n) (hag:aEY μ μ' n):∀ {es:List (AV × AV)} {e0 e:List MapEntry},fX μ0 es e0→fX μ es e→fX μ' es e
 | _,_,_,.nil,.nil=>.nil
 | _,_,_,.cons _ _ _ _ _ hk hv t,.cons _ _ _ _ _ hk' hv' t'=>.cons _ _ _ _ _ (bG.old hlt hag hk hk') (bG.old hlt hag hv hv') (fX.old hlt hag t t')
theorem aOR {n:Nat} {keep:List Nat} {x:AV} (h1:ok1 n [] x=true):ok1 n keep x=true:=by
 cases x <;> first | exact h1 | skip
 case p a=>cases a with
  | none=>rfl
  | some a=>simp [ok1,mD] at h1 ⊢; exact .inl h1
 case sl a l c=>cases a with
  | none=>rfl
  | some a=>simp [ok1,mD] at h1 ⊢; exact .inl h1
theorem wW {h : aA} {n : Nat} {keep : List Nat} (hk : ∀ k ∈ keep, ∃ b, h[k]? = some b) (j : Nat) (hj : j < keep.length) :
  (keep.filterMap fun id=>(h[id]?).map (jS n keep))[j]? = (h[keep[j]]?).map (jS n keep)∧(keep.filterMap fun id=>(h[id]?).map (jS n keep)).length=keep.length:=by
 have e:keep.filterMap (fun id=>(h[id]?).map (jS n keep))=keep.map (fun id=>jS n keep ((h[id]?).getD lN)):=by
  have:∀ l:List Nat,(∀ k∈l, ∃ b,h[k]? = some b)→l.filterMap (fun id=>(h[id]?).map (jS n keep))=l.map (fun id=>jS n keep ((h[id]?).getD lN)):=by
   intro l
   induction l with
   | nil=>intro _; rfl
   | cons x l ih =>
    intro hl
    obtain ⟨b,hb⟩:=hl x (by simp)
    rw [List.filterMap_cons,hb]
    simp only [Option.map_some,List.map_cons,hb,Option.getD_some]
    rw [ih (fun k hk=>hl k (by simp [hk]))]
  exact this keep hk
 rw [e]
 obtain ⟨b,hb⟩:=hk keep[j] (List.getElem_mem hj)
 simp [hj,hb]
theorem Rel.trim {h0 : aA} {μ0 : Mu} {own0 : Nat → Option Nat} {wa : World} (R0 : Rel w0 Fz μ0 own0 h0 wa) (R : Rel w0 Fz μ own h w) (hsub : Sub μ0 μ) {keep : List Nat} (hnd : keep.Nodup)
  (hkeep:∀ id∈keep,h0.length≤id∧∃ b,h[id]? = some b∧b.cells.all (ok1 h0.length keep)=true∧b.mp=none)
  (hold:∀ id,id<h0.length→h[id]? = h0[id]? ∨ ∃ b,h[id]? = some b∧b.cells.all (ok1 h0.length [])=true∧b.mp=none) (hlen:h0.length≤h.length) :
  Rel w0 Fz (lO μ h0.length keep) (pA own h0.length keep) (h.take h0.length++keep.filterMap fun id=>(h[id]?).map (jS h0.length keep)) w∧Sub μ0 (lO μ h0.length keep):=by
 have hmu0:aLW μ0 h0.length:=fun id ver l hl=>by
  obtain ⟨b,hb,_⟩:=R0.mulen _ _ _ hl
  exact (List.getElem?_eq_some_iff.1 hb).1
 have hge:∀ k∈keep,h0.length≤k:=fun k hk=>(hkeep k hk).1
 have hex:∀ k∈keep, ∃ b,h[k]? = some b:=fun k hk=>let ⟨_,b,hb,_⟩:=hkeep k hk; ⟨b,hb⟩
 generalize hn:h0.length=n at *
 have hagree:aEY μ (lO μ n keep) n:=fun id ver hid=>by simp [lO,hid]
 have htl:(h.take n).length=n:=by simp; omega
 have hget:∀ id,id<n→(h.take n++keep.filterMap fun id=>(h[id]?).map (jS n keep))[id]? = h[id]?:=fun id hid=>by
  rw [List.getElem?_append_left (by omega),List.getElem?_take_of_lt hid]
 have hgetk:∀ j (hj:j<keep.length),(h.take n++keep.filterMap fun id=>(h[id]?).map (jS n keep))[n+j]? = (h[keep[j]]?).map (jS n keep):=fun j hj=>by
  rw [List.getElem?_append_right (by omega),htl,show n+j - n=j by omega]
  exact (wW hex j hj).1
 refine ⟨{ os:=R.os,tape:=R.tape,output:=R.output,size0:=R.size0,fz:=R.fz,ownlt:=fun B id hB=>?_,mulen:=fun id ver l hl=>?_,blk:=fun id b hb hlv=>?_,maps:=fun id b es hb hes=>?_ },fun id ver l hl=>?_⟩
 ·unfold pA at hB
  split at hB
  ·rename_i i hi; exact R.ownlt B i hi
  ·cases hB
 ·unfold lO at hl
  split at hl
  ·rename_i hid
   obtain ⟨b,hb,hle⟩:=R.mulen _ _ _ hl
   exact ⟨b,by rw [hget id hid]; exact hb,hle⟩
  ·rename_i hid
   split at hl
   ·rename_i k hk
    obtain ⟨b,hb,hle⟩:=R.mulen _ _ _ hl
    obtain ⟨hj,hjk⟩:=List.getElem?_eq_some_iff.1 hk
    refine ⟨jS n keep b, ?_, ?_⟩
    ·have := hgetk (id - n) hj
     rw [show n+(id - n)=id by omega,hjk,hb] at this
     exact this
    ·simpa [jS] using hle
   ·cases hl
 ·by_cases hid : id < n
  ·rw [hget id hid] at hb
   obtain ⟨l,hk⟩:=R.blk id b hb hlv
   have hokid:mD n keep id=true:=by simp [mD,hid]
   have hren:lH n keep id=id:=by simp [lH,hid]
   have hcell:∀ (j:Nat) (cv:Value),bG μ (b.cells.getD j .u) cv→bG (lO μ n keep) (b.cells.getD j .u) cv:=fun j cv hv=>by
    rcases hold id hid with heq | ⟨b',hb',hok,_⟩
    ·rw [hb] at heq
     obtain ⟨l0,hk0⟩:=R0.blk id b heq.symm hlv
     have hv0:=hk0.vers _ hlv (Nat.le_refl _) _ hk0.cur
     by_cases hj:j<b.cells.length
     ·obtain ⟨c0, _, hr0⟩ := hv0.cells j hj
      exact bG.old hmu0 hagree hr0 hv
     ·have : b.cells.getD j .u = .u := by simp [List.getD_eq_getElem?_getD, List.getElem?_eq_none (Nat.le_of_not_lt hj)]
      rw [this]; exact .u _
    ·rw [hb] at hb'; cases hb'
     have h1:ok1 n [] (b.cells.getD j .u)=true:=by
      by_cases hj:j<b.cells.length
      ·have := List.all_eq_true.1 hok (b.cells[j]) (List.getElem_mem hj)
       rw [List.getD_eq_getElem?_getD,List.getElem?_eq_getElem hj]; exact this
      ·have : b.cells.getD j .u = .u := by simp [List.getD_eq_getElem?_getD, List.getElem?_eq_none (Nat.le_of_not_lt hj)]
       rw [this] <;> rfl
     have h2:ok1 n keep (b.cells.getD j .u)=true:=aOR h1
     have h3:=mV hge hv h2
     have h4:o6 n keep (b.cells.getD j .u)=b.cells.getD j .u:=by
      revert h1
      generalize b.cells.getD j .u=x
      intro h1
      cases x <;> simp [o6]
      case p a=>cases a with
       | none=>rfl
       | some a=>simp [ok1,mD] at h1; simp [xJ,lH,h1]
      case sl a l c=>cases a with
       | none=>rfl
       | some a=>simp [ok1,mD] at h1; simp [xJ,lH,h1]
     rwa [h4] at h3
   refine ⟨l,{ cur:=by rw [hagree _ _ hid]; exact hk.cur,owned:=by simp [pA,hk.owned,hokid,hren],sz:=hk.sz,len:=hk.len,ex:=hk.ex,ro:=hk.ro,gl:=hk.gl,nomap:=hk.nomap,tyok:=hk.tyok,row:=hk.row,free:=hk.free,vers:=fun ver h1 h2 l' hl'=>?_ }⟩
   rw [hagree _ _ hid] at hl'
   have hv:=hk.vers ver h1 h2 l' hl'
   exact { own:=by simp [pA,hv.own,hokid,hren],sz:=hv.sz,le:=hv.le,base:=hv.base,cells:=fun j hj=>let ⟨cv,e1,e2⟩:=hv.cells j hj; ⟨cv,e1,hcell j cv e2⟩ }
  ·have hidl := (List.getElem?_eq_some_iff.1 hb).1
   have hj:id - n<keep.length:=by
    rcases keep with _ | ⟨x,xs⟩
    ·simp at hidl; omega
    ·have := (wW (n := n) hex 0 (by simp)).2
     rw [List.length_append,htl,this] at hidl
     omega
   have h1:=hgetk (id - n) hj
   rw [show n+(id - n)=id by omega,hb] at h1
   obtain ⟨hkge,b0,hb0,hok,hmp0⟩:=hkeep keep[id - n] (List.getElem_mem hj)
   rw [hb0] at h1
   simp only [Option.map_some,Option.some.injEq] at h1
   subst h1
   simp only [jS,List.length_map] at hlv
   obtain ⟨l,hk⟩:=R.blk _ b0 hb0 hlv
   have hmu:∀ ver,lO μ n keep id ver=μ keep[id - n] ver:=fun ver=>by simp [lO,hid,hj]
   have hown:∀ B,own B=some keep[id - n]→pA own n keep B=some id:=fun B hB=>by
    have hm:keep[id - n]∈keep:=List.getElem_mem hj
    have hx:mD n keep keep[id - n]=true:=by simp [mD,hm]
    have hi:keep.idxOf keep[id - n]=id - n:=List.Nodup.idxOf_getElem hnd _ hj
    have hr:lH n keep keep[id - n]=id:=by
     simp only [lH,if_neg (show ¬ keep[id - n]<n by omega),hi]; omega
    simp [pA,hB,hx,hr]
   refine ⟨l,{ cur:=by rw [hmu]; simpa [jS] using hk.cur,owned:=hown _ hk.owned,sz:=hk.sz,len:=by simpa [jS] using hk.len,ex:=by simpa [jS] using hk.ex,ro:=hk.ro,gl:=fun hg=>by simp [jS] at hg,nomap:=hmp0,tyok:=hk.tyok,row:=hk.row,free:=hk.free,vers:=fun ver g1 g2 l' hl'=>?_ }⟩
   rw [hmu] at hl'
   have hv:=hk.vers ver g1 (by simpa [jS] using g2) l' hl'
   refine { own:=hown _ hv.own,sz:=hv.sz,le:=hv.le,base:=hv.base,cells:=fun j hj'=>?_ }
   obtain ⟨cv,e1,e2⟩:=hv.cells j hj'
   refine ⟨cv,e1, ?_⟩
   have hjl:j<b0.cells.length:=by
    have:ver≤b0.cells.length:=by simpa [jS] using g2
    omega
   have h2:(jS n keep b0).cells.getD j .u=o6 n keep (b0.cells.getD j .u):=by
    simp [jS,List.getD_eq_getElem?_getD,hjl]
   rw [h2]
   refine mV hge e2 ?_
   have:=List.all_eq_true.1 hok (b0.cells[j]) (List.getElem_mem hjl)
   rw [List.getD_eq_getElem?_getD,List.getElem?_eq_getElem hjl]; exact this
 ·by_cases hid : id < n
  ·rw [hget id hid] at hb
   obtain ⟨l,m1,m2,m3,ents,clock,m4,m5⟩:=R.maps id b es hb hes
   have hokid:mD n keep id=true:=by simp [mD,hid]
   have hren:lH n keep id=id:=by simp [lH,hid]
   refine ⟨l,by rw [hagree _ _ hid]; exact m1,by simp [pA,m2,hokid,hren],m3,ents,clock,m4, ?_⟩
   rcases hold id hid with heq | ⟨b',hb',_,hmp⟩
   ·rw [hb] at heq
    obtain ⟨l0,_,_,_,ents0,_,_,m50⟩:=R0.maps id b es heq.symm hes
    exact fX.old hmu0 hagree m50 m5
   ·rw [hb] at hb'; cases hb'
    rw [hmp] at hes; cases hes
  ·exfalso
   have hidl:=(List.getElem?_eq_some_iff.1 hb).1
   have hj:id - n<keep.length:=by
    rcases keep with _ | ⟨x,xs⟩
    ·simp at hidl; omega
    ·have := (wW (n := n) hex 0 (by simp)).2
     rw [List.length_append,htl,this] at hidl
     omega
   have h1:=hgetk (id - n) hj
   rw [show n+(id - n)=id by omega,hb] at h1
   obtain ⟨hkge,b0,hb0,hok,hmp0⟩:=hkeep keep[id - n] (List.getElem_mem hj)
   rw [hb0] at h1
   simp only [Option.map_some,Option.some.injEq] at h1
   subst h1
   have hes:b0.mp=some es:=hes
   rw [hmp0] at hes; cases hes
 ·have := hsub _ _ _ hl
  rw [hagree _ _ (hmu0 _ _ _ hl)]; exact this
end
end Go.GAM
namespace Go.GAM
section
variable {ds:List Deferred} {rd:Option Nat} {P:Program} {w0:World} {Fz:Nat→Prop} {μ:Mu} {own:Nat→Option Nat} {h:aA} {w:World}
def aMH (a:Act):ResultVar→Sem Value
 | .tmp t=>pure (a.tmps.getD t undef)
 | .cell x t=>do loadVar t (← asAddr (a.tmps.getD x undef))
theorem aEL (R : Rel w0 Fz μ own h w) {nt : Nat} {e : Env} {a : Act} (hE : cB ds μ nt e a) {r : ResultVar} {K : AV → Prop} (hk : aHI P h e r K) :
  ∃ v cv,K v∧bG μ v cv∧(aMH a r).run P w = .ok cv w:=by
 cases r with
 | tmp t=>exact ⟨_,_,hk,hE.val t,rfl⟩
 | cell x t =>
  simp only [aHI] at hk
  have hx:=hE.val x
  have conv:∀ cv,(Instr.loadAt t (a.tmps.getD x undef)).run P w = .ok cv w→(do loadVar t (← asAddr (a.tmps.getD x undef)):Sem Value).run P w = .ok cv w:=fun cv hc=>by
   revert hc
   generalize a.tmps.getD x undef=c
   intro hc
   cases c <;> simp [Instr.loadAt,Instr.sureAddr,asAddr] at hc ⊢
   case pointer o=>cases o with
    | none=>simp [Instr.sureAddr] at hc
    | some o=>simpa [Instr.sureAddr,asAddr] using hc
  cases ht:gG P t with
  | none=>rw [ht] at hk; exact hk.elim
  | some r =>
   rw [ht] at hk
   cases r with
   | true =>
    obtain ⟨v,cv,h1,h2,h3⟩:=s4 R ht hx hk
    exact ⟨v,cv,h1,h2,conv cv (h3 w (fC.refl w))⟩
   | false =>
    obtain ⟨v,cv,h1,h2,h3⟩:=sP R ht hx hk
    exact ⟨v,cv,h1,h2,conv cv (h3 w (fC.refl w))⟩
theorem mF (R:Rel w0 Fz μ own h w) {nt:Nat} {e:Env} {a:Act} (hE:cB ds μ nt e a):∀ {rs:List ResultVar} {K:List AV→Prop},kN P h e rs K →
  ∃ vs cvs,K vs∧bO μ vs cvs∧(rs.mapM (aMH a)).run P w = .ok cvs w
 | [],K,hk=>⟨[],[],hk,.nil,rfl⟩
 | r :: rs, K, hk => by
  obtain ⟨v,cv,h1,h2,h3⟩:=aEL (P:=P) R hE hk
  obtain ⟨vs,cvs,g1,g2,g3⟩:=mF R hE h1
  refine ⟨_,cv :: cvs,g1,.cons _ _ _ _ h2 g2, ?_⟩
  rw [List.mapM_cons,Sem.run_bind,h3]
  simp only [Result.andThen_ok,Sem.run_bind]
  rw [g3] <;> rfl
theorem aFE {vs:List AV} {cvs:List Value} (h:bO μ vs cvs):bG μ (tup vs) (if hs:cvs.toArray.size=1 then cvs.toArray[0] else .tuple cvs.toArray):=by
 have hl:=h.length
 match vs,cvs,h with
 | [],[],h=>simp [tup]; exact .tu _ _ h
 | [v],[c],.cons _ _ _ _ h _=>simpa [tup] using h
 | v :: v2 :: vs, c :: c2 :: cs, h =>
  have:¬ ((c :: c2 :: cs).toArray.size=1):=by simp
  rw [dif_neg this]
  exact .tu _ _ (by simpa using h)
theorem aE0:∀ (args:List AV) (k t:Nat),lk (fA k args) t=if k≤t then (args[t - k]?).getD .u else .u
 | [],k,t=>by simp [fA,lk]
 | v :: r, k, t => by
  simp only [fA,lk]
  by_cases h:k=t
  ·subst h; simp
  ·rw [zI h]
   simp only [cond_false]
   rw [aE0 r (k+1) t]
   by_cases h2:k+1≤t
   ·rw [if_pos h2,if_pos (by omega),show t - k=(t - (k+1))+1 by omega,List.getElem?_cons_succ]
   ·rw [if_neg h2,if_neg (by omega)]
theorem wY {args:List AV} {cargs:List Value} (h:bO μ args cargs) {nt:Nat} (hn:args.length≤nt):cB [] μ nt (fA 0 args) { tmps:=cargs.toArray++Array.replicate (nt - cargs.toArray.size) undef,defers:=[] }:=by
 have hl:=h.length
 refine ⟨by simp; omega,rfl,fun t=>?_⟩
 rw [aE0]
 simp only [Nat.zero_le,if_true,Nat.sub_zero]
 by_cases ht:t<args.length
 ·obtain ⟨v, h1, h2⟩ := h.get? ht
  have hc:t<cargs.length:=by omega
  have e:(cargs.toArray++Array.replicate (nt - cargs.toArray.size) undef).getD t undef=v:=by
   rw [List.getElem?_eq_getElem hc] at h1
   have h3:t<(cargs.toArray++Array.replicate (nt - cargs.toArray.size) undef).size:=by simp; omega
   simp only [Array.getD,h3,dite_true]
   rw [Array.getInternal_eq_getElem,Array.getElem_append_left (by simpa using hc)]
   simpa using h1
  rw [e]
  simpa [List.getD_eq_getElem?_getD] using h2
 ·rw [List.getElem?_eq_none (by omega)]
  exact .u _
theorem aJB {R : bT} (hm : P.follows .mixedOrders = true) (hsz : P.funcs.size ≤ yid0) {μb : Mu} (hR : dJ P w0 Fz μb R) {f : FuncId} {args : List AV} {h : aA} {K : AV → aA → Prop} (hk : aF P R f args h K) : aFA P w0 Fz μb f args h K := by
 obtain ⟨fn,body,ann,hf,hb,hname,hn,hk⟩:=hk
 intro μ own w cargs hsb Rl hc
 rw [if_pos (Nat.lt_of_lt_of_le (Array.getElem?_eq_some_iff.1 hf).1 hsz)]
 refine .inl ⟨f,cargs.toArray, ?_, ?_⟩
 ·have hbs : fn.body.isNone = false := by simp [hb]
  simp only [callFunc,Sem.run_bind,run_program,Result.andThen_ok,hf,hname,Bool.false_eq_true,if_false,hbs,Sem.run_pure]
 ·refine callsIn_wide.1 (callsIn_of_wp (F := FR none) (n := 0) hf hb trivial (wpIn_mono (wA hm hR body ann μ own _ h _ _ w hsb Rl (wY hc hn) hk) ?_))
  rintro ex a' w' ⟨e',h',μ',own',g1,g2,g3,g4⟩
  have fin:kN P h' e' fn.results.toList (fun vs=>aL h K (tup vs) h')→a'.defers=[]∧∃ v,(results fn a'.tmps).run P w' = .ok v w'∧∃ v',Ending.returned v = .returned v'∧jX w0 Fz μ K v' w':=by
   intro hk
   obtain ⟨vs,cvs,k1,k2,k3⟩:=mF g2 g3 hk
   have hres:(results fn a'.tmps).run P w' = .ok (if hs:cvs.toArray.size=1 then cvs.toArray[0] else .tuple cvs.toArray) w':=by
    have e:results fn a'.tmps=(do let vs ← fn.results.mapM (aMH a'); pure (if h:vs.size=1 then vs[0] else .tuple vs)):=rfl
    rw [e,Array.mapM_eq_mapM_toList,Sem.run_bind,Sem.run_map,k3]
    first | done | rfl
   refine ⟨g3.defers,_,hres,_,rfl, ?_⟩
   ·have ht := aFE k2
    rcases k1 with k1 | ⟨keep,c1,c2,c3,c4,c5,k1⟩
    ·exact ⟨_,μ',own',h',k1,ht,g2,g4⟩
    ·obtain ⟨t1, t2⟩ := Rel.trim Rl g2 g4 c1 c3 c4 c5
     exact ⟨_,_,_,_,k1,aFO (fun k hk=>(c3 k hk).1) ht c2,t1,t2⟩
  cases ex with
  | normal=>exact fin g1
  | ret=>exact fin g1
  | exit id=>exact g1.elim
  | goto l=>exact g1.elim
  | panic ch=>exact g1.elim
  | outgrown=>exact g1.elim
theorem oW {X:bT} (hm:P.follows .mixedOrders=true) (hsz:P.funcs.size≤yid0) {μb:Mu} (hX:dJ P w0 Fz μb X):dJ P w0 Fz μb (gX P X):=by
 intro f args h K hk
 refine hk (aFA P w0 Fz μb) (fun f args h K K' hK hs μ own w cargs hsb Rl hc=>?_) hX fun f args h K hF=>?_
 ·have hp : ∀ cv w', jX w0 Fz μ K cv w' → jX w0 Fz μ K' cv w' := fun cv w' ⟨v, μ', own', h', h1, h2, h3, h4⟩ => ⟨v, μ', own', h', hK _ _ h1, h2, h3, h4⟩
  have hs:=hs μ own w cargs hsb Rl hc
  by_cases hlt:f<yid0
  ·rw [if_pos hlt] at hs ⊢
   rcases hs with ⟨g,aq,h1,h2⟩ | ⟨v,w',h1,h2⟩
   ·exact .inl ⟨g,aq,h1,h2.mono fun e w' ⟨v,he,hv⟩=>⟨v,he,hp _ _ hv⟩⟩
   ·exact .inr ⟨v,w',h1,hp _ _ h2⟩
  ·rw [if_neg hlt] at hs ⊢
   obtain ⟨g,tmps,aq,body,h1,h2⟩:=hs
   exact ⟨g,tmps,aq,body,h1,h2.mono fun e w' ⟨v,he,hv⟩=>⟨v,he,hp _ _ hv⟩⟩
 exact aJB hm hsz (fun f args h K hs=>hs) hF
theorem aA5 {X:bT} (hm:P.follows .mixedOrders=true) (hsz:P.funcs.size≤yid0) (hX:qM P X):qM P (gX P X):=fun w0 Fz μb=>oW hm hsz (hX w0 Fz μb)
end
end Go.GAM
namespace Go.GAM
section
variable {P:Program}
def RLe (R R':bT):Prop:=∀ f args h K K',(∀ v h,K v h→K' v h)→R f args h K→R' f args h K'
theorem wS {c:AV} {A B A' B':Prop} (hA:A→A') (hB:B→B') (h:aIf c A B):aIf c A' B':=by
 unfold aIf at *; split at h <;> first | exact hA h | exact hB h | exact h
theorem pC {op:BinOp} {r:Bool} {K K':AV→Prop} (hK:∀ v,K v→K' v) (h:fH op r K):fH op r K':=by
 cases op <;> first | exact h.elim | exact hK _ h
theorem qF {sz:Nat} {x:AV} {h:aA} {K K':List AV→Prop} (hK:∀ v,K v→K' v) (hk:gQ sz x h K):gQ sz x h K':=by
 unfold gQ at *
 split at hk
 ·exact hK _ hk
 ·rcases hk with ⟨h0, hk⟩ | ⟨b, h1, h3, h4⟩
  ·exact .inl ⟨h0,hK _ hk⟩
  ·exact .inr ⟨b,h1,h3,hK _ h4⟩
 ·exact hk
theorem eE {x:Option AV} {d:Nat} {K K':Nat→Prop} (hK:∀ v,K v→K' v) (hk:iN x d K):iN x d K':=by
 unfold iN at *
 split at hk
 ·exact hK _ hk
 ·exact ⟨hk.1,hK _ hk.2⟩
 ·exact hk
theorem kZ {c:Bool} {A A':Prop} (hA:A→A') (h:bif c then A else False):bif c then A' else False:=by
 cases c
 ·exact h
 ·exact hA h
theorem aGX {op:BinOp} {t:TypeId} {x y:AV} {K K':AV→Prop} (hK:∀ v,K v→K' v) (hk:gD P op t x y K):gD P op t x y K':=by
 unfold gD at *
 split at hk
 case h_1=>cases op <;> first | exact ⟨hk.1,hK _ hk.2⟩ | exact kZ (fun h=>⟨h.1,hK _ h.2⟩) hk | exact kZ (hK _) hk
 case h_2=>cases op <;> first | exact hk.elim | exact ⟨hk.1,hK _ hk.2⟩ | exact hK _ hk
 case h_3=>split at hk <;> first | exact pC hK hk | exact hk
 case h_16=>
  cases hg:P.eqGuardType P.depth t with
  | true=>rw [hg] at hk; exact hk.elim
  | false =>
   rw [hg] at hk
   simp only [cond_false] at hk ⊢
   split at hk <;> first | exact pC hK hk | exact hk
 all_goals first | exact kZ (pC hK) hk | exact hk
theorem aIV {v:AV} {K K':Bool→Prop} (hK:∀ v,K v→K' v) (hk:asB v K):asB v K':=by
 unfold asB at *; split at hk <;> first | exact hK _ hk | exact hk
theorem aIZ {k:IntKind} {v:AV} {K K':Int→Prop} (hK:∀ v,K v→K' v) (hk:asI k v K):asI k v K':=by
 unfold asI at *; split at hk <;> first | exact kZ (hK _) hk | exact hk
theorem aJE {v:AV} {K K':List UInt8→Prop} (hK:∀ v,K v→K' v) (hk:asS v K):asS v K':=by
 unfold asS at *; split at hk <;> first | exact hK _ hk | exact hk
theorem kF {o:Oper} {v:AV} {K K':AV→Prop} (hK:∀ v,K v→K' v) (hk:dT P o v K):dT P o v K':=by
 unfold dT at *
 split at hk
 ·unfold shape at *
  split at hk
  ·exact aIV (fun _=>hK _) hk
  ·exact aIZ (fun _=>hK _) hk
  ·exact aJE (fun _=>hK _) hk
  ·exact hK _ hk
 ·exact hK _ hk
theorem sS {sz:Nat} {x:AV} {h:aA} {K K':List AV→Nat→Prop} (hK:∀ v n,K v n→K' v n) (hk:kO sz x h K):kO sz x h K':=by
 unfold kO at *
 split at hk
 ·exact hK _ _ hk
 ·exact qF (fun v hv=>hK _ _ hv) hk
 ·exact ⟨hk.1,hK _ _ hk.2⟩
 ·exact hk
theorem xS {sz:Nat} {x:AV} {lo hi mx:Option AV} {h:aA} {K K':AV→Prop} (hK:∀ v,K v→K' v) (hk:cV sz x lo hi mx h K):cV sz x lo hi mx h K':=by
 unfold cV at *
 split at hk
 ·exact eE (fun m hm=>eE (fun j hj=>eE (fun i hi=>⟨hi.1,hi.2.1,hi.2.2.1,hi.2.2.2.1,hK _ hi.2.2.2.2⟩) hj) hm) hk
 ·refine ⟨hk.1, hk.2.1, eE (fun j hj => eE (fun i hi => ⟨hi.1, ?_⟩) hj) hk.2.2⟩
  obtain ⟨b,h1,h2,h3,h4,h5⟩:=hi.2
  refine ⟨b,h1,h2,h3,h4, ?_⟩
  cases mx with
  | none=>exact ⟨h5.1,hK _ h5.2⟩
  | some m=>exact eE (fun m hm=>⟨hm.1,hm.2.1,hK _ hm.2.2⟩) h5
 ·exact hk
theorem zN {kt el:TypeId} {ok:Bool} {x k:AV} {h:aA} {K K':AV→Prop} (hK:∀ v,K v→K' v) (hk:j6 P kt el ok x k h K):j6 P kt el ok x k h K':=by
 unfold j6 at *
 refine ⟨hk.1, ?_⟩
 have hk:=hk.2
 split at hk
 ·exact hk.elim
 ·split at hk
  ·exact hK _ hk
  ·split at hk
   ·exact hK _ hk
   ·exact hk.elim
  ·exact hk.elim
theorem qY {kt:TypeId} {x k v:AV} {h:aA} {K K':aA→Prop} (hK:∀ h,K h→K' h) (hk:kB P kt x k v h K):kB P kt x k v h K':=by
 unfold kB at *
 split at hk
 ·obtain ⟨h1, h2, b, es, h3, h4, hk⟩ := hk
  refine ⟨h1,h2,b,es,h3,h4, ?_⟩
  split at hk
  ·exact ⟨hk.1,hK _ hk.2⟩
  ·exact hK _ hk
  ·exact hk.elim
 ·exact hk.elim
theorem sF {o : Oper} {e : Env} {h : aA} {K K' : AV → Prop} (hK : ∀ v, K v → K' v) (hk : cH P o e h K) : cH P o e h K' := by
 obtain ⟨dst,op,type,pos,after,guard⟩:=o
 cases op with
 | move x=>exact hK _ hk
 | assign x=>exact hK _ hk
 | pick c x y=>exact wS (hK _) (hK _) hk
 | load t x =>
  simp only [cH] at *
  split at hk
  ·unfold aD at *
   split at hk
   ·obtain ⟨b,h1,h2,h3⟩:=hk; exact ⟨b,h1,h2,hK _ h3⟩
   ·exact hk
  ·unfold aE at *
   split at hk
   ·obtain ⟨b,h1,h2,h3⟩:=hk; exact ⟨b,h1,h2,hK _ h3⟩
   ·exact hk
  ·exact hk
 | nilCheck x =>
  simp only [cH] at *
  unfold cC at *
  split at hk <;> first | exact hk | exact hK _ hk
 | binOp op t x y yt=>exact aGX hK hk
 | unOp op t x =>
  simp only [cH] at *
  unfold pUn at *
  split at hk <;> first | exact hk | exact hK _ hk
 | convert src dst' x =>
  simp only [cH] at *
  split at hk
  ·unfold vH at *
   split at hk <;> first | exact hk | exact hK _ hk
  ·unfold wD at *
   split at hk <;> first | exact hk | exact hK _ hk
  ·split at hk
   ·exact qF (fun cs hc=>⟨hc.1,hK _ hc.2⟩) hk
   ·exact hk
  ·rename_i t h1 h2
   cases hz:Nat.beq (P.cellsOf t) 0 with
   | true=>rw [hz] at hk; exact hk.elim
   | false =>
    rw [hz] at hk
    simp only [cond_false] at hk ⊢
    unfold j9 at *
    split at hk
    ·exact hK _ hk
    ·obtain ⟨b,h1,h2,h3⟩:=hk; exact ⟨b,h1,h2,hK _ h3⟩
    ·exact hk.elim
  ·rename_i u h1 h2
   obtain ⟨hu,hk⟩:=bB hk
   simp only [hu,cond_true]
   unfold gM at *
   split at hk
   ·exact hK _ hk
   ·obtain ⟨b,t,g1,g2,g3,g4,g5,g6⟩:=hk; exact ⟨b,t,g1,g2,g3,g4,g5,hK _ g6⟩
   ·exact hk.elim
  ·exact hk
 | makeInterface t x =>
  simp only [cH] at *
  split at hk <;> first | exact hk | exact hK _ hk
 | makeFunc f a b=>exact hK _ hk
 | lookup t x ix ok =>
  simp only [cH] at *
  split at hk
  ·obtain ⟨h1, h2⟩ := bB hk
   simp only [h1,cond_true]
   exact zN hK h2
  ·exact hk
 | slice t x lo hi mx =>
  simp only [cH] at *
  split at hk
  ·split at hk
   ·unfold bV at *
    split at hk
    ·exact eE (fun m hm=>eE (fun n hn=>⟨hn.1,hn.2.1,hK _ hn.2.2⟩) hm) hk
    ·exact hk
   ·exact hk
  ·obtain ⟨h1, h2⟩ := bB hk
   simp only [h1,cond_true]
   exact xS hK h2
  ·split at hk
   ·obtain ⟨h1, h2⟩ := bB hk
    simp only [h1,cond_true]
    unfold oK at *
    split at h2
    ·exact ⟨h2.1,eE (fun j hj=>eE (fun i hi=>by
      obtain ⟨g1,g2,b,g3,g4,g5,g6⟩:=hi
      exact ⟨g1,g2,b,g3,g4,g5,hK _ g6⟩) hj) h2.2⟩
    ·exact h2
   ·exact hk
  ·exact hk
 | fieldAddr t x f =>
  simp only [cH] at *
  split at hk
  ·split at hk
   ·rename_i fl _
    cases hz:Nat.beq (P.cellsOf fl.type) 0 with
    | true=>rw [hz] at hk; exact hk.elim
    | false =>
     rw [hz] at hk
     simp only [cond_false] at hk ⊢
     unfold aC at *
     split at hk <;> first | exact hk | exact hK _ hk
   ·exact hk
  ·exact hk
 | field t x f =>
  simp only [cH] at *
  split at hk
  ·split at hk
   ·split at hk
    ·unfold tU at *
     split at hk <;> first | exact hk | exact hK _ hk
    ·unfold tZ at *
     split at hk <;> first | exact hk | exact ⟨hk.1,hK _ hk.2⟩
    ·exact hk
   ·exact hk
  ·exact hk
 | indexAddr t x ix =>
  simp only [cH] at *
  split at hk
  ·obtain ⟨h1, h2⟩ := bB hk
   simp only [h1,cond_true]
   unfold aB at *
   split at h2
   ·exact ⟨h2.1,h2.2.1,h2.2.2.1,hK _ h2.2.2.2⟩
   ·exact h2
  ·obtain ⟨h1, h2⟩ := bB hk
   simp only [h1,cond_true]
   unfold dI at *
   split at h2
   ·exact ⟨h2.1,h2.2.1,hK _ h2.2.2⟩
   ·exact h2
  ·exact hk
 | index t x ix =>
  simp only [cH] at *
  split at hk
  ·unfold bN at *
   split at hk
   ·exact ⟨hk.1,hk.2.1,hK _ hk.2.2⟩
   ·exact hk
  ·split at hk
   ·obtain ⟨h1, h2⟩ := bB hk
    simp only [h1,cond_true]
    unfold qJ at *
    split at h2
    ·exact ⟨h2.1,h2.2.1,h2.2.2.1,hK _ h2.2.2.2⟩
    ·exact h2
   ·exact hk
  ·exact hk
 | build t parts =>
  simp only [cH] at *
  split at hk
  ·unfold iC at *
   split at hk <;> first | exact hk | exact hK _ hk
  ·exact hk
 | extract x i =>
  simp only [cH] at *
  unfold aH at *
  split at hk
  ·exact ⟨hk.1,hK _ hk.2⟩
  ·exact hk
 | call c =>
  obtain ⟨callee,args,argTypes⟩:=c
  cases callee with
  | builtin b =>
   cases b <;> first | exact False.elim hk | skip
   case len=>
    simp only [cH] at *
    split at hk
    ·split at hk
     ·unfold tV at *
      split at hk <;> first | exact hk | exact hK _ hk
     ·exact hk
    ·split at hk
     ·unfold bJ at *
      split at hk <;> first | exact hk | exact hK _ hk
     ·exact hk
    ·split at hk <;> first | exact hk | exact hK _ hk
    ·exact hk
   case min=>
    simp only [cH] at *
    unfold pMM at *
    split at hk <;> first | exact hk | exact hK _ hk
   case max=>
    simp only [cH] at *
    unfold pMM at *
    split at hk <;> first | exact hk | exact hK _ hk
  | _=>exact False.elim hk
 | _=>exact False.elim hk
theorem pX {ty:Option TypeId} {sz bytes:Nat} {s x:AV} {h:aA} {K K':AV→aA→Prop} (hK:∀ v h,K v h→K' v h) (hk:bQ ty sz bytes s x h K):bQ ty sz bytes s x h K':=by
 refine ⟨hk.1,sS (fun news k hk=>?_) hk.2⟩
 split at hk
 ·refine ⟨hk.1, hk.2.1, ?_⟩
  have:=hk.2.2
  split at this
  ·rename_i h0; rw [if_pos h0]; exact hK _ _ this
  ·rename_i h0; rw [if_neg h0]; exact hK _ _ this
 ·obtain ⟨h1, h2, b, h3, h4, h5, h6⟩ := hk
  refine ⟨h1,h2,b,h3,h4,h5, ?_⟩
  rcases h6 with h | h | h | h | h
  ·exact .inl ⟨h.1,hK _ _ h.2⟩
  ·exact .inr (.inl ⟨h.1,h.2.1,hK _ _ h.2.2⟩)
  ·obtain ⟨a1, a2, a3, a4, a5, a6, a7⟩ := h
   exact .inr (.inr (.inl ⟨a1,a2,a3,a4,a5,a6,hK _ _ a7⟩))
  ·obtain ⟨a1, a2, a3, a4, a5, a6, a7, a8, a9, a10⟩ := h
   exact .inr (.inr (.inr (.inl ⟨a1,a2,a3,a4,a5,a6,a7,a8,a9,hK _ _ a10⟩)))
  ·obtain ⟨a1, a2, a3, a4, a5, a6, a7⟩ := h
   exact .inr (.inr (.inr (.inr ⟨a1,a2,a3,a4,a5,a6,hK _ _ a7⟩)))
 ·exact hk
theorem aDD {sz:Nat} {s x:AV} {h:aA} {K K':AV→aA→Prop} (hK:∀ v h,K v h→K' v h) (hk:yQ sz s x h K):yQ sz s x h K':=by
 refine ⟨hk.1,sS (fun news k hk=>?_) hk.2⟩
 split at hk
 ·exact hK _ _ hk
 ·obtain ⟨b, h1, h2, h3, h4, h5, h6, h7⟩ := hk
  exact ⟨b,h1,h2,h3,h4,h5,h6,hK _ _ h7⟩
 ·exact hk
theorem aG1 {R R' : bT} (hR : RLe R R') {o : Oper} {e : Env} {h : aA} {K K' : AV → aA → Prop} (hK : ∀ v h, K v h → K' v h) (hk : fE P R o e h K) : fE P R' o e h K' := by
 obtain ⟨dst,op,type,pos,after,guard⟩:=o
 cases op <;> first | exact False.elim hk | skip
 case alloc t=>
  simp only [fE] at *
  split at hk <;> first | exact hk | exact hK _ _ hk
 case box t x=>exact ⟨hk.1,hK _ _ hk.2⟩
 case buildSlice t len parts=>
  simp only [fE] at *
  split at hk
  ·split at hk
   ·obtain ⟨h1, h2⟩ := bB hk
    simp only [h1,cond_true]
    unfold bD at *
    split at h2
    ·exact ⟨h2.1,hK _ _ h2.2⟩
    ·exact h2
   ·exact hk
  ·exact hk
 case store t a x=>
  simp only [fE] at *
  split at hk
  ·unfold aP at *
   split at hk
   ·obtain ⟨b, h1, h2, h3, h4, h5, h6, h7, h8, h9⟩ := hk
    exact ⟨b,h1,h2,h3,h4,h5,h6,h7,h8,hK _ _ h9⟩
   ·exact hk
  ·exact hk
 case convert src dst' x=>
  simp only [fE] at *
  split at hk
  ·split at hk
   ·unfold fM at *
    split at hk <;> first | exact hk | exact hK _ _ hk
   ·exact hk
  ·exact hk
 case makeMap t r=>
  cases r with
  | some r=>exact False.elim hk
  | none =>
   simp only [fE] at *
   split at hk
   ·exact hK _ _ hk
   ·exact hk
 case mapUpdate t m k x=>
  simp only [fE] at *
  split at hk
  ·obtain ⟨h1, h2⟩ := bB hk
   simp only [h1,cond_true]
   exact qY (hK _) h2
  ·exact hk
 case insert t m k x=>
  simp only [fE] at *
  split at hk
  ·obtain ⟨h1, h2⟩ := bB hk
   simp only [h1,cond_true]
   exact qY (hK _) h2
  ·exact hk
 case makeSlice t l c=>
  simp only [fE] at *
  split at hk
  ·split at hk
   ·unfold uU at *
    split at hk
    ·obtain ⟨h1, h2, h3, h4, h5, h6, h7⟩ := hk
     exact ⟨h1,h2,h3,h4,h5,h6,hK _ _ h7⟩
    ·exact hk
   ·exact hk
  ·exact hk
 case call c =>
  obtain ⟨callee,args,argTypes⟩:=c
  cases callee with
  | invoke r m =>
   simp only [fE] at *
   unfold oG at *
   split at hk
   ·split at hk
    ·obtain ⟨h1, h2⟩ := bB hk
     unfold mY
     rw [h1]
     exact hR _ _ _ _ _ hK h2
    ·exact hk.elim
   ·exact hk.elim
  | builtin b =>
   cases b <;> first | exact False.elim hk | skip
   case append=>
    simp only [fE] at *
    split at hk
    ·obtain ⟨h1, h2⟩ := bB hk
     simp only [h1,cond_true]
     exact pX hK h2
    ·obtain ⟨h1, h2⟩ := bB hk
     simp only [h1,cond_true]
     exact pX hK h2
    ·exact hk
   case cap=>
    simp only [fE] at *
    split at hk
    ·unfold aN4 at *
     split at hk
     ·exact hK _ _ hk
     ·exact hK _ _ hk
     ·rcases hk with ⟨b, c, q1, q2, q3, q4, q5, q6, q7, q8⟩ | hk
      ·exact .inl ⟨b,c,q1,q2,q3,q4,q5,q6,q7,hK _ _ q8⟩
      ·exact .inr fun c hc=>hK _ _ (hk c hc)
     ·exact hk.elim
    ·exact hk.elim
   case unsafeSliceData=>
    simp only [fE] at *
    split at hk
    ·unfold jH at *
     split at hk
     ·exact hK _ _ hk
     ·exact ⟨hk.1,hK _ _ hk.2⟩
     ·exact hk.elim
    ·exact hk.elim
   case unsafeString=>
    simp only [fE] at *
    split at hk
    ·obtain ⟨h1, h2⟩ := bB hk
     simp only [h1,cond_true]
     unfold nE at *
     split at h2
     ·exact ⟨h2.1,hK _ _ h2.2⟩
     ·obtain ⟨b, t, q1, q2, q3, q4, q5, q6, q7, q8, q9, q10, q11, q12⟩ := h2
      exact ⟨b,t,q1,q2,q3,q4,q5,q6,q7,q8,q9,q10,q11,hK _ _ q12⟩
     ·exact h2.elim
    ·exact hk.elim
   case copy=>
    simp only [fE] at *
    split at hk
    ·obtain ⟨h1, h2⟩ := bB hk
     simp only [h1,cond_true]
     exact aDD hK h2
    ·exact hk
  | value f =>
   have c:∀ {g:FuncId} {l:List AV},mY R g l h K→mY R' g l h K':=fun {g l} hk=>by
    obtain ⟨h1,h2⟩:=bB hk
    unfold mY
    rw [h1]
    exact hR _ _ _ _ _ hK h2
   have v:∀ {g:AV},eK R g (args.toList.map (ev e h)) h K→eK R' g (args.toList.map (ev e h)) h K':=fun {g} hk=>by
    unfold eK at hk
    split at hk
    ·exact c hk
    ·exact hR _ _ _ _ _ hK hk
    ·exact hk.elim
   cases f with
   | func g=>exact c hk
   | tmp t=>exact v hk
   | const c=>exact v hk
   | global c=>exact v hk
theorem aAY {R R':bT} (hR:RLe R R') {o:Oper} {e:Env} {h:aA} {K K':AV→aA→Prop} (hK:∀ v h,K v h→K' v h) (hk:aop P R o e h K):aop P R' o e h K':=by
 unfold aop at *
 cases hb:jR P o with
 | true=>rw [hb] at hk; exact aG1 hR hK hk
 | false=>rw [hb] at hk; exact sF (K:=fun v=>K v h) (fun v hv=>hK _ _ hv) hk
theorem sQ {iI x:Bool} {A B A' B':Prop} (hA:A→A') (hB:B→B') (h:vA iI x A B):vA iI x A' B':=by
 cases iI <;> cases x <;> first | exact hA h | exact hB h
theorem nI {ops:Array Oper} {o:Oper} {e:Env} {A B A' B':Env→Prop} (hA:∀ e,A e→A' e) (hB:∀ e,B e→B' e) (h:iQ ops o e A B):iQ ops o e A' B':=by
 unfold iQ at *
 split at h
 ·exact hA _ h
 ·split at h
  ·exact hB _ h
  ·split at h
   ·exact sQ (hA _) (hB _) h
   ·exact hB _ h
   ·exact h
theorem sJ {R R':bT} (hR:RLe R R') {nt:Nat} {ops:Array Oper} {K K':Env→aA→Prop} (hK:∀ e h,K e h→K' e h):∀ (l:List Oper) (e:Env) (h:aA),aCM P R nt ops l e h K→aCM P R' nt ops l e h K'
 | [],e,h,hk=>hK _ _ hk
 | o :: l, e, h, hk => by
  obtain ⟨h1,h2⟩:=bB hk
  simp only [aCM,h1,cond_true]
  exact nI (fun e=>aAY hR fun v h hv=>kF (fun v hv=>sJ hR hK l _ _ hv) hv) (fun e=>sJ hR hK l _ _) h2
theorem jD {X A A':Prop} (hA:A→A') (h:X∧A):X∧A':=⟨h.1,hA h.2⟩
theorem aEC {ops:Array Oper} {o:Oper} {e:Env} {h:aA} {A A':Prop} (hA:A→A') (hk:y7 P ops o e h A):y7 P ops o e h A':=by
 have go:(cH P o (restr (o.looksAt ops) e) h fun v=>dT P o v fun v=>eS e o.dst v∧A)→(cH P o (restr (o.looksAt ops) e) h fun v=>dT P o v fun v=>eS e o.dst v∧A'):=
  sF fun v hv=>kF (fun v hv=>jD hA hv) hv
 unfold y7 at *
 split at hk
 ·exact go hk
 ·split at hk
  ·exact jD hA hk
  ·split at hk
   ·exact sQ go (jD hA) hk
   ·exact jD hA hk
   ·exact hk
theorem kH {ops:Array Oper} {i:Nat} {e:Env} {h:aA} {A A':Prop} (hA:A→A'):∀ {D:List Nat},kP P ops i e h A D→kP P ops i e h A' D
 | [],hk=>hA hk
 | k :: D, hk => by
  unfold kP at *
  split at hk
  ·exact kH hA hk
  ·rename_i o _
   cases hc:mC P o && !jR P o && !Region.waitsFor .any ops i k with
   | true=>rw [hc] at hk; exact aEC (kH hA) hk
   | false=>rw [hc] at hk; exact kH hA hk
theorem aGC {R R' : bT} (hR : RLe R R') {nt : Nat} {ops : Array Oper} {K K' : Env → aA → Prop} (hK : ∀ e h, K e h → K' e h) : ∀ (ord : Ord) (D : List Nat) (e : Env) (h : aA), jC P R nt ops ord D e h K → jC P R' nt ops ord D e h K' := by
 intro ord
 induction ord with
 | done=>intro D e h hk; exact hK _ _ hk
 | stop=>intro D e h hk; trivial
 | neu i r ih =>
  intro D e h hk
  unfold jC at hk ⊢
  split at hk
  ·exact hk
  ·exact kZ (nI (fun e=>sF fun v hv=>kF (fun v hv=>ih _ _ _ hv) hv) (fun e=>ih _ _ _)) hk
 | eff i r alt ihr iha =>
  intro D e h hk
  unfold jC at hk ⊢
  split at hk
  ·exact hk
  ·rename_i o _
   refine kZ ?_ hk
   have now:aG2 P R nt ops i o r D e h K→aG2 P R' nt ops i o r D e h K':=by
    refine nI (fun e=>aAY hR fun v h' hv=>kF (fun v hv=>?_) hv) (fun e=>ihr _ _ _)
    revert hv
    cases jR P o with
    | true=>exact kH (ihr _ _ _)
    | false=>exact ihr _ _ _
   intro hk
   cases hs:alt.isStop with
   | true=>rw [hs] at hk; exact now hk
   | false=>rw [hs] at hk; exact ⟨now hk.1,iha _ _ _ hk.2⟩
theorem aDI {F F':(Env→aA→Prop)→Env→aA→Prop} (hF:∀ I e h,F I e h→F' I e h) {e:Env} {h:aA} (hk:oU F e h):oU F' e h:=
 fun I hI=>hk I fun e h hx=>hI e h (hF I e h hx)
theorem aB0 {F F':(Nat→Env→aA→Prop)→Nat→Env→aA→Prop} (hF:∀ I l e h,F I l e h→F' I l e h) {l:Nat} {e:Env} {h:aA} (hk:zM F l e h):zM F' l e h:=
 fun I hI=>hk I fun l e h hx=>hI l e h (hF I l e h hx)
theorem vB {x:Code} {I I':Nat→Env→aA→Prop} (hI:∀ l e h,I l e h→I' l e h) {K K':Kx} (hK:∀ x e h,K x e h→K' x e h) (ex:Exit) (e:Env) (h:aA) (hk:qV x I K ex e h):qV x I' K' ex e h:=by
 cases ex with
 | goto l =>
  simp only [qV] at *
  revert hk
  cases xU x l
  ·exact hK _ _ _
  ·exact hI _ _ _
 | _=>exact hK _ _ _ hk
theorem aA7 {R R' : bT} (hR : RLe R R') {nt : Nat} : ∀ (c : Code),
  (∀ (ann:Ann) (e:Env) (h:aA) (K K':Kx),(∀ x e h,K x e h→K' x e h)→dK P R nt ann c e h K→dK P R' nt ann c e h K') ∧
  (∀ (ann:Ann) (l:Nat) (e:Env) (h:aA) (K K':Kx),(∀ x e h,K x e h→K' x e h)→fZ P R nt ann c l e h K→fZ P R' nt ann c l e h K'):=by
 intro c
 induction c with
 | skip =>
  refine ⟨?_, ?_⟩
  ·intro ann e h K K' hK hk; exact hK _ _ _ hk
  ·intro ann l e h K K' hK hk; simp only [fZ] at hk
 | region id ops draw =>
  refine ⟨?_, ?_⟩
  ·intro ann e h K K' hK hk
   simp only [dK] at *
   cases draw with
   | false=>exact sJ hR (hK _) _ _ _ hk
   | true =>
    simp only [cond_true] at *
    obtain ⟨h1,h2⟩:=bB hk
    simp only [h1,cond_true]
    exact aGC hR (fun e h he=>hK _ _ _ he) _ _ _ _ h2
  ·intro ann l e h K K' hK hk; simp only [fZ] at hk
 | seq x y ihx ihy =>
  refine ⟨?_, ?_⟩
  ·intro ann e h K K' hK hk
   simp only [dK] at *
   refine ihx.1 _ _ _ _ _ (fun ex e h hx=>?_) hk
   cases ex with
   | normal=>exact ihy.1 _ _ _ _ _ hK hx
   | _=>exact hK _ _ _ hx
  ·intro ann l e h K K' hK hk
   simp only [fZ] at *
   revert hk
   cases xU x l
   ·exact ihy.2 _ _ _ _ _ _ hK
   ·refine ihx.2 _ _ _ _ _ _ (fun ex e h hx => ?_)
    cases ex with
    | normal=>exact ihy.1 _ _ _ _ _ hK hx
    | _=>exact hK _ _ _ hx
 | cond c x y ihx ihy =>
  refine ⟨?_, ?_⟩
  ·intro ann e h K K' hK hk
   exact wS (ihx.1 _ _ _ _ _ hK) (ihy.1 _ _ _ _ _ hK) hk
  ·intro ann l e h K K' hK hk; simp only [fZ] at hk
 | block id x ih =>
  refine ⟨?_, ?_⟩
  ·intro ann e h K K' hK hk
   simp only [dK] at *
   refine ih.1 _ _ _ _ _ (fun ex e h hx=>?_) hk
   cases ex with
   | exit id' =>
    simp only [mK] at *
    revert hx
    cases Nat.beq id' id <;> exact hK _ _ _
   | _=>exact hK _ _ _ hx
  ·intro ann l e h K K' hK hk; simp only [fZ] at hk
 | scope x ih =>
  refine ⟨?_, ?_⟩
  ·intro ann e h K K' hK hk
   simp only [dK] at *
   cases hg:rX x with
   | false =>
    rw [hg] at hk
    refine ih.1 _ _ _ _ _ (fun ex e h hx=>?_) hk
    cases ex <;> first | exact hx.elim | exact hK _ _ _ hx
   | true =>
    rw [hg] at hk
    refine ih.1 _ _ _ _ _ (vB (fun l e h hx=>?_) hK) hk
    exact aB0 (fun I l e h hx=>ih.2 _ _ _ _ _ _ (vB (fun _ _ _ h=>h) hK) hx) hx
  ·intro ann l e h K K' hK hk; simp only [fZ] at hk
 | loop x ih =>
  refine ⟨?_, ?_⟩
  ·intro ann e h K K' hK hk
   simp only [dK] at *
   refine aDI (fun I e h hx=>ih.1 _ _ _ _ _ (fun ex e h hx=>?_) hx) hk
   cases ex with
   | normal=>exact hx
   | _=>exact hK _ _ _ hx
  ·intro ann l e h K K' hK hk; simp only [fZ] at hk
 | exit id =>
  refine ⟨?_, ?_⟩
  ·intro ann e h K K' hK hk; exact hK _ _ _ hk
  ·intro ann l e h K K' hK hk; simp only [fZ] at hk
 | label l =>
  refine ⟨?_, ?_⟩
  ·intro ann e h K K' hK hk; exact hK _ _ _ hk
  ·intro ann l1 e h K K' hK hk
   simp only [fZ] at *
   revert hk
   cases Nat.beq l l1
   ·exact id
   ·exact hK _ _ _
 | ret =>
  refine ⟨?_, ?_⟩
  ·intro ann e h K K' hK hk; exact hK _ _ _ hk
  ·intro ann l e h K K' hK hk; simp only [fZ] at hk
 | goto l =>
  refine ⟨?_, ?_⟩
  ·intro ann e h K K' hK hk; exact hK _ _ _ hk
  ·intro ann l e h K K' hK hk; simp only [fZ] at hk
 | _ =>
  refine ⟨?_, ?_⟩
  ·intro ann e h K K' hK hk; exact False.elim hk
  ·intro ann l e h K K' hK hk; simp only [fZ] at hk
theorem pJ {R R':bT} (hR:RLe R R') {nt:Nat} (c:Code) (ann:Ann) (e:Env) (h:aA) (K K':Kx):(∀ x e h,K x e h→K' x e h)→dK P R nt ann c e h K→dK P R' nt ann c e h K':=
 (aA7 hR c).1 ann e h K K'
theorem aG3 {h:aA} {e:Env} {r:ResultVar} {K K':AV→Prop} (hK:∀ v,K v→K' v) (hk:aHI P h e r K):aHI P h e r K':=by
 cases r with
 | tmp t=>exact hK _ hk
 | cell x t =>
  simp only [aHI] at *
  split at hk
  ·unfold aD at *
   split at hk
   ·obtain ⟨b,h1,h2,h3⟩:=hk; exact ⟨b,h1,h2,hK _ h3⟩
   ·exact hk
  ·unfold aE at *
   split at hk
   ·obtain ⟨b,h1,h2,h3⟩:=hk; exact ⟨b,h1,h2,hK _ h3⟩
   ·exact hk
  ·exact hk
theorem s6 {h:aA} {e:Env}:∀ {rs:List ResultVar} {K K':List AV→Prop},(∀ v,K v→K' v)→kN P h e rs K→kN P h e rs K'
 | [],_,_,hK,hk=>hK _ hk
 | r :: rs,_,_,hK,hk=>aG3 (fun v hv=>s6 (fun vs hvs=>hK _ hvs) hv) hk
theorem aHV {h0:aA} {K K':AV→aA→Prop} (hK:∀ v h,K v h→K' v h) {r:AV} {h:aA} (hk:aL h0 K r h):aL h0 K' r h:=by
 rcases hk with hk | ⟨keep,h1,h2,h3,h4,h5,h6⟩
 ·exact .inl (hK _ _ hk)
 ·exact .inr ⟨keep,h1,h2,h3,h4,h5,hK _ _ h6⟩
theorem aHZ {fn:Func} {K K':AV→aA→Prop} (hK:∀ v h,K v h→K' v h) {x:Exit} {e:Env} {h:aA} (hk:pQ P fn K x e h):pQ P fn K' x e h:=by
 cases x <;> first | exact s6 (fun vs hv=>hK _ _ hv) hk | exact hk.elim
theorem aM1 {R R':bT} (hR:RLe R R') {f:FuncId} {args:List AV} {h:aA} {K K':AV→aA→Prop} (hK:∀ v h,K v h→K' v h) (hk:aF P R f args h K):aF P R' f args h K':=by
 obtain ⟨fn,body,ann,h1,h2,h3,h4,h5⟩:=hk
 exact ⟨fn,body,ann,h1,h2,h3,h4,pJ hR _ _ _ _ _ _ (fun x e h hx=>aHZ (fun v h hv=>aHV hK hv) hx) h5⟩
theorem aDW {X:bT} {f:FuncId} {args:List AV} {h:aA} {K K':AV→aA→Prop} (hK:∀ v h,K v h→K' v h) (hk:gX P X f args h K):gX P X f args h K':=
 fun R hm hX hF=>hm _ _ _ _ _ hK (hk R hm hX hF)
theorem aDV {X:bT} {f:FuncId} {args:List AV} {h:aA} {K:AV→aA→Prop} (hk:aF P (gX P X) f args h K):gX P X f args h K:=by
 intro R hm hX hF
 refine hF _ _ _ _ (aM1 (fun f args h K K' hK hk=>hm _ _ _ _ _ hK (hk R hm hX hF)) (fun v h hv=>hv) hk)
theorem aEM {R:bT} (hR:RLe R R) {nt:Nat} {ann:Ann} {x:Code} {K K':Kx} (hK:∀ x e h,K x e h→K' x e h) {I I':Env→aA→Prop} (hI:∀ e h,I e h→I' e h) {e:Env} {h:aA}
  (hk:m9 P R nt ann x K I e h):m9 P R nt ann x K' I' e h:=by
 refine pJ hR _ _ _ _ _ _ (fun x e h hx=>?_) hk
 cases x with
 | normal=>exact hI _ _ hx
 | _=>exact hK _ _ _ hx
theorem aEQ {R:bT} (hR:RLe R R) {nt:Nat} {ann:Ann} {x:Code} {K:Kx} {e:Env} {h:aA} (hk:m9 P R nt ann x K (oU (m9 P R nt ann x K)) e h):oU (m9 P R nt ann x K) e h:=by
 intro I hI
 exact hI _ _ (aEM hR (fun _ _ _ h=>h) (fun e h hx=>hx I hI) hk)
theorem jG {R:bT} (hR:RLe R R) {nt:Nat}:∀ (path:List Nat) (ann:Ann) (c:Code) (e:Env) (h:aA) (K:Kx),aAt P R nt .round path ann c e h K→aAt P R nt .head path ann c e h K
 | [], ann, c, e, h, K, hk => by
  unfold aAt at *
  cases c <;> first | exact hk.elim | exact aEQ hR hk
 | d :: path, ann, c, e, h, K, hk => by
  unfold aAt at *
  cases c <;> first | exact hk.elim | skip
  case seq x y=>
   revert hk
   simp only
   cases Nat.beq d 0 <;> exact jG hR path _ _ _ _ _
  case cond c x y=>
   revert hk
   simp only
   cases Nat.beq d 0 <;> exact jG hR path _ _ _ _ _
  case block id x=>exact jG hR path _ _ _ _ _ hk
  case scope x=>
   revert hk
   simp only
   cases rX x
   ·exact jG hR path _ _ _ _ _
   ·exact id
  case loop x=>exact jG hR path _ _ _ _ _ hk
theorem qL (X:bT):RLe (gX P X) (gX P X):=fun f args h K K' hK hk=>aDW hK hk
end
end Go.GAM
namespace Go.GAM
abbrev JT:=Nat→Env→aA→Prop
def aR (n:Int) (K:Int→Prop):Prop:=K n
def sX (b:Bool) (K:Bool→Prop):Prop:=K b
def exJ (P : Program) (R : bT) (nt : Nat) (J : JT) (ann : Ann) (c : Code) (e : Env) (h : aA) (K : Kx) : Prop :=
 match c with
 | .skip=>K .normal e h
 | .region _ ops draw =>
  bif draw then (bif jJ ops true ann.o [] then jC P R nt ops ann.o [] e h (K .normal) else False)
  else aCM P R nt ops ops.toList e h (K .normal)
 | .seq x y=>exJ P R nt J ann.a x e h (pP (fun e h=>bif Nat.beq ann.j 0 then exJ P R nt J ann.b y (restr ann.live e) h K else J ann.j (restr ann.live e) h) K)
 | .cond c x y=>aIf (ev e h c) (exJ P R nt J ann.a x e h K) (exJ P R nt J ann.b y e h K)
 | .block id x=>exJ P R nt J ann.a x e h (mK id K)
 | .scope x=>bif rX x then False else exJ P R nt J ann.a x e h (rJ K)
 | .loop _=>J ann.j (restr ann.live e) h
 | .exit id=>K (.exit id) e h
 | .label _=>K .normal e h
 | .ret=>K .ret e h
 | _=>False
def atJ (P : Program) (R : bT) (nt : Nat) (J : JT) (round : Bool) : List Nat → Ann → Code → Env → aA → Kx → Prop
 | [], ann, c, e, h, K =>
  match round with
  | false=>exJ P R nt J ann c e h K
  | true => match c with
   | .loop x=>exJ P R nt J ann.a x e h (pP (fun e h=>J ann.j (restr ann.live e) h) K)
   | _=>False
 | d :: path, ann, c, e, h, K =>
  match c with
  | .seq x y=>bif Nat.beq d 0 then atJ P R nt J round path ann.a x e h (pP (fun e h=>bif Nat.beq ann.j 0 then exJ P R nt J ann.b y (restr ann.live e) h K else J ann.j (restr ann.live e) h) K)
    else atJ P R nt J round path ann.b y e h K
  | .cond _ x y=>bif Nat.beq d 0 then atJ P R nt J round path ann.a x e h K else atJ P R nt J round path ann.b y e h K
  | .block id x=>atJ P R nt J round path ann.a x e h (mK id K)
  | .scope x=>bif rX x then False else atJ P R nt J round path ann.a x e h (rJ K)
  | .loop x=>atJ P R nt J round path ann.a x e h (pP (fun e h=>J ann.j (restr ann.live e) h) K)
  | _=>False
def places:Ann→Code→List (Nat × List Nat × Bool)
 | ann,.seq x y=>(bif Nat.beq ann.j 0 then [] else [(ann.j,[1],false)])++(places ann.a x).map (fun q=>(q.1,0 :: q.2.1,q.2.2))++(places ann.b y).map (fun q=>(q.1,1 :: q.2.1,q.2.2))
 | ann,.cond _ x y=>(places ann.a x).map (fun q=>(q.1,0 :: q.2.1,q.2.2))++(places ann.b y).map (fun q=>(q.1,1 :: q.2.1,q.2.2))
 | ann,.block _ x=>(places ann.a x).map (fun q=>(q.1,0 :: q.2.1,q.2.2))
 | ann,.scope x=>(places ann.a x).map (fun q=>(q.1,0 :: q.2.1,q.2.2))
 | ann,.loop x=>(ann.j,[],true) :: (places ann.a x).map (fun q=>(q.1,0 :: q.2.1,q.2.2))
 | _,_=>[]
def aNE (b:Bool):Way:=match b with | true=>.head | false=>.run
def s9:List (Nat × List Nat × Bool)→Nat→Option (List Nat × Bool)
 | [],_=>none
 | (k,v) :: r,n=>bif Nat.beq k n then some v else s9 r n
def aK1 (P:Program) (R:bT) (nt:Nat) (ann:Ann) (c:Code) (K:Kx):JT:=fun k e h=>
 match s9 (places ann c) k with
 | some (p,b)=>aAt P R nt (aNE b) p ann c e h K
 | none=>False
def aBR (n:Nat):List (Nat × List Nat × Bool)→Bool
 | []=>true
 | (k,_) :: r=>bif Nat.beq k n then false else aBR n r
def aV:List (Nat × List Nat × Bool)→Bool
 | []=>true
 | (k,_) :: r=>bif aBR k r then aV r else false
theorem y9 {n:Nat}:∀ {l:List (Nat × List Nat × Bool)},aBR n l=true→∀ v,(n,v) ∉ l
 | [],_,_=>by simp
 | (k, u) :: r, h, v => by
  unfold aBR at h
  cases hb:Nat.beq k n with
  | true=>rw [hb] at h; cases h
  | false =>
   rw [hb] at h
   intro hm
   rcases List.mem_cons.1 hm with he | hm
   ·injection he with h1 _; subst h1; simp at hb
   ·exact y9 h v hm
theorem yG : ∀ {l : List (Nat × List Nat × Bool)}, aV l = true → ∀ {k : Nat} {v : List Nat × Bool}, (k, v) ∈ l → s9 l k = some v
 | [],_,_,_,h=>by cases h
 | (k0, u) :: r, hd, k, v, h => by
  unfold aV at hd
  cases hn:aBR k0 r with
  | false=>rw [hn] at hd; cases hd
  | true =>
   rw [hn] at hd
   unfold s9
   rcases List.mem_cons.1 h with he | hm
   ·injection he with h1 h2; subst h1; subst h2; simp
   ·have hne : k0 ≠ k := fun e => y9 hn v (e ▸ hm)
    rw [zI hne]
    exact yG hd hm
section
variable {P:Program}
def dN (P:Program) (R:bT) (nt:Nat) (J:JT) (ann:Ann) (c:Code) (K:Kx):Prop:=
 ∀ k p b,(k,p,b)∈places ann c→∀ e h,J k e h→aAt P R nt (aNE b) p ann c e h K
theorem dN.act {R:bT} {nt:Nat} {ann:Ann} {c:Code} {K:Kx} (hd:aV (places ann c)=true):dN P R nt (aK1 P R nt ann c K) ann c K:=by
 intro k p b hm e h hJ
 unfold aK1 at hJ
 rw [yG hd hm] at hJ
 exact hJ
section
variable {R:bT} {nt:Nat} {J:JT} {ann:Ann} {x y:Code} {K:Kx}
theorem dN.seq1 (h:dN P R nt J ann (.seq x y) K):dN P R nt J ann.a x (pP (fun e h=>dK P R nt ann.b y (restr ann.live e) h K) K):=fun k p b hm e hh hJ=>
 h k (0 :: p) b (by simp only [places,List.mem_append,List.mem_map]; exact .inl (.inr ⟨_,hm,rfl⟩)) e hh hJ
theorem dN.seq2 (h:dN P R nt J ann (.seq x y) K):dN P R nt J ann.b y K:=fun k p b hm e hh hJ=>
 h k (1 :: p) b (by simp only [places,List.mem_append,List.mem_map]; exact .inr ⟨_,hm,rfl⟩) e hh hJ
theorem dN.seqJ (h:dN P R nt J ann (.seq x y) K) (hj:Nat.beq ann.j 0=false) {e:Env} {hh:aA} (hJ:J ann.j e hh):dK P R nt ann.b y e hh K:=
 h ann.j [1] false (by simp only [places,List.mem_append,hj,cond_false]; exact .inl (.inl (by simp))) e hh hJ
theorem dN.cond1 {c:Operand} (h:dN P R nt J ann (.cond c x y) K):dN P R nt J ann.a x K:=fun k p b hm e hh hJ=>
 h k (0 :: p) b (by simp only [places,List.mem_append,List.mem_map]; exact .inl ⟨_,hm,rfl⟩) e hh hJ
theorem dN.cond2 {c:Operand} (h:dN P R nt J ann (.cond c x y) K):dN P R nt J ann.b y K:=fun k p b hm e hh hJ=>
 h k (1 :: p) b (by simp only [places,List.mem_append,List.mem_map]; exact .inr ⟨_,hm,rfl⟩) e hh hJ
theorem dN.block {id:Nat} (h:dN P R nt J ann (.block id x) K):dN P R nt J ann.a x (mK id K):=fun k p b hm e hh hJ=>
 h k (0 :: p) b (by simp only [places,List.mem_map]; exact ⟨_,hm,rfl⟩) e hh hJ
theorem dN.scope (hg:rX x=false) (h:dN P R nt J ann (.scope x) K):dN P R nt J ann.a x (rJ K):=fun k p b hm e hh hJ=>by
 have:=h k (0 :: p) b (by simp only [places,List.mem_map]; exact ⟨_,hm,rfl⟩) e hh hJ
 simp only [aAt,hg,cond_false] at this
 exact this
theorem dN.loop (h:dN P R nt J ann (.loop x) K):dN P R nt J ann.a x (pP (fun e h=>oU (m9 P R nt ann x K) (restr ann.live e) h) K):=fun k p b hm e hh hJ=>
 h k (0 :: p) b (by simp only [places,List.mem_cons,List.mem_map]; exact .inr ⟨_,hm,rfl⟩) e hh hJ
theorem dN.loopJ (h:dN P R nt J ann (.loop x) K) {e:Env} {hh:aA} (hJ:J ann.j e hh):oU (m9 P R nt ann x K) e hh:=
 h ann.j [] true (by simp only [places,List.mem_cons]; exact .inl trivial) e hh hJ
end
theorem nJ {R:bT} (hR:RLe R R) {nt:Nat} {J:JT}:∀ (c:Code) (ann:Ann) (e:Env) (h:aA) (K K':Kx),dN P R nt J ann c K'→(∀ x e h,K x e h→K' x e h)→exJ P R nt J ann c e h K→dK P R nt ann c e h K':=by
 intro c
 induction c with
 | skip=>intro ann e h K K' hM hK hk; exact hK _ _ _ hk
 | region id ops draw =>
  intro ann e h K K' hM hK hk
  exact pJ hR (.region id ops draw) ann _ _ K K' hK hk
 | seq x y ihx ihy =>
  intro ann e h K K' hM hK hk
  refine ihx _ _ _ _ _ hM.seq1 (fun ex e h hx=>?_) hk
  cases ex with
  | normal =>
   simp only [pP] at *
   cases hj:Nat.beq ann.j 0 with
   | true=>rw [hj] at hx; exact ihy _ _ _ _ _ hM.seq2 hK hx
   | false=>rw [hj] at hx; exact hM.seqJ hj hx
  | _=>exact hK _ _ _ hx
 | cond c x y ihx ihy =>
  intro ann e h K K' hM hK hk
  exact wS (ihx _ _ _ _ _ hM.cond1 hK) (ihy _ _ _ _ _ hM.cond2 hK) hk
 | block id x ih =>
  intro ann e h K K' hM hK hk
  refine ih _ _ _ _ _ hM.block (fun ex e h hx=>?_) hk
  cases ex with
  | exit id' =>
   simp only [mK] at *
   revert hx
   cases Nat.beq id' id <;> exact hK _ _ _
  | _=>exact hK _ _ _ hx
 | scope x ih =>
  intro ann e h K K' hM hK hk
  simp only [exJ,dK] at *
  cases hg:rX x with
  | true=>rw [hg] at hk; exact hk.elim
  | false=>
  rw [hg] at hk
  refine ih _ _ _ _ _ (dN.scope hg hM) (fun ex e h hx=>?_) hk
  cases ex <;> first | exact hx.elim | exact hK _ _ _ hx
 | loop x ih=>intro ann e h K K' hM hK hk; exact hM.loopJ hk
 | exit id=>intro ann e h K K' hM hK hk; exact hK _ _ _ hk
 | label l=>intro ann e h K K' hM hK hk; exact hK _ _ _ hk
 | ret=>intro ann e h K K' hM hK hk; exact hK _ _ _ hk
 | _=>intro ann e h K K' hM hK hk; exact False.elim hk
theorem mM {R : bT} (hR : RLe R R) {nt : Nat} {J : JT} {round : Bool} : ∀ (path : List Nat) (ann : Ann) (c : Code) (e : Env) (h : aA) (K K' : Kx), dN P R nt J ann c K' → (∀ x e h, K x e h → K' x e h) → atJ P R nt J round path ann c e h K →
  aAt P R nt (match round with | true=>.round | false=>.run) path ann c e h K'
 | [], ann, c, e, h, K, K', hM, hK, hk => by
  cases round with
  | false=>exact nJ hR c ann e h K K' hM hK hk
  | true =>
   cases c <;> first | exact hk.elim | skip
   rename_i x
   refine nJ hR x ann.a e h _ _ hM.loop (fun ex e h hx=>?_) hk
   cases ex with
   | normal=>exact hM.loopJ hx
   | _=>exact hK _ _ _ hx
 | d :: path, ann, c, e, h, K, K', hM, hK, hk => by
  unfold atJ at hk
  unfold aAt
  cases c <;> first | exact hk.elim | skip
  case seq x y=>
   simp only at hk ⊢
   cases hd:Nat.beq d 0 with
   | true =>
    rw [hd] at hk
    refine mM hR path _ _ _ _ _ _ hM.seq1 (fun ex e h hx=>?_) hk
    cases ex with
    | normal =>
     simp only [pP] at *
     cases hj:Nat.beq ann.j 0 with
     | true=>rw [hj] at hx; exact nJ hR _ _ _ _ _ _ hM.seq2 hK hx
     | false=>rw [hj] at hx; exact hM.seqJ hj hx
    | _=>exact hK _ _ _ hx
   | false=>rw [hd] at hk; exact mM hR path _ _ _ _ _ _ hM.seq2 hK hk
  case cond c x y=>
   simp only at hk ⊢
   cases hd:Nat.beq d 0 with
   | true=>rw [hd] at hk; exact mM hR path _ _ _ _ _ _ hM.cond1 hK hk
   | false=>rw [hd] at hk; exact mM hR path _ _ _ _ _ _ hM.cond2 hK hk
  case block id x=>
   refine mM hR path _ _ _ _ _ _ hM.block (fun ex e h hx=>?_) hk
   cases ex with
   | exit id' =>
    simp only [mK] at *
    revert hx
    cases Nat.beq id' id <;> exact hK _ _ _
   | _=>exact hK _ _ _ hx
  case scope x=>
   simp only at hk ⊢
   cases hg:rX x with
   | true=>rw [hg] at hk; exact hk.elim
   | false=>
   rw [hg] at hk
   refine mM hR path _ _ _ _ _ _ (dN.scope hg hM) (fun ex e h hx=>?_) hk
   cases ex <;> first | exact hx.elim | exact hK _ _ _ hx
  case loop x=>
   refine mM hR path _ _ _ _ _ _ hM.loop (fun ex e h hx=>?_) hk
   cases ex with
   | normal=>exact hM.loopJ hx
   | _=>exact hK _ _ _ hx
abbrev bY (P:Program) (R:bT) (fn:Func) (ann:Ann) (body:Code) (Q:AV→aA→Prop):JT:=aK1 P R fn.ntmps ann body (pQ P fn Q)
theorem aM3 {R:bT} (hR:RLe R R) {fn:Func} {ann:Ann} {body:Code} (hd:aV (places ann body)=true) {Q:AV→aA→Prop} {k:Nat} {p:List Nat} (hl:s9 (places ann body) k=some (p,false)) {e:Env} {h:aA}
  (hk:atJ P R fn.ntmps (bY P R fn ann body Q) false p ann body e h (pQ P fn Q)):bY P R fn ann body Q k e h:=by
 unfold bY aK1
 rw [hl]
 exact mM hR p ann body e h _ _ (dN.act hd) (fun _ _ _ h=>h) hk
theorem aJ8 {R:bT} (hR:RLe R R) {fn:Func} {ann:Ann} {body:Code} (hd:aV (places ann body)=true) {Q:AV→aA→Prop} {k:Nat} {p:List Nat} (hl:s9 (places ann body) k=some (p,true)) {e:Env} {h:aA}
  (hk:atJ P R fn.ntmps (bY P R fn ann body Q) true p ann body e h (pQ P fn Q)):bY P R fn ann body Q k e h:=by
 unfold bY aK1
 rw [hl]
 exact jG hR p ann body e h _ (mM hR p ann body e h _ _ (dN.act hd) (fun _ _ _ h=>h) hk)
theorem aO1 {X:bT} {f:FuncId} {fn:Func} {ann:Ann} {body:Code} (hf:P.funcs[f]? = some fn) (hb:fn.body=some body) (hn:(fn.name == "runtime.NumGoroutine")=false) (hd:aV (places ann body)=true) {args:List AV} (ha:Nat.ble args.length fn.ntmps=true)
  {h:aA} {K:AV→aA→Prop} (hk:exJ P (gX P X) fn.ntmps (bY P (gX P X) fn ann body (aL h K)) ann body (fA 0 args) h (pQ P fn (aL h K))):gX P X f args h K:=
 aDV ⟨fn,body,ann,hf,hb,hn,Nat.le_of_ble_eq_true ha,nJ (qL X) body ann _ h _ _ (dN.act hd) (fun _ _ _ h=>h) hk⟩
end
end Go.GAM
namespace Go.GAM
def kK (P:Program) (f:FuncId):Bool:=match P.funcs[f]? with
 | some fn=>fn.body.isSome && !(fn.name == "runtime.NumGoroutine")
 | none=>false
section
variable {P:Program} {w0:World} {Fz:Nat→Prop} {μ:Mu} {own:Nat→Option Nat} {h:aA} {w:World}
theorem pB {f:FuncId} (hb:kK P f=true) (args:Array Value) (w:World):(callFunc f args).run P w = .ok (.enter f args) w:=by
 unfold kK at hb
 split at hb
 ·rename_i fn hf
  simp only [Bool.and_eq_true,Bool.not_eq_true'] at hb
  have hbs:fn.body.isNone=false:=by cases h:fn.body <;> simp_all
  simp only [callFunc,Sem.run_bind,run_program,Result.andThen_ok,hf,hb.2,Bool.false_eq_true,if_false,hbs,Sem.run_pure]
 ·cases hb
theorem rG {X:bT} {f:FuncId} {args:List AV} {h:aA} {K:AV→aA→Prop} (hk:X f args h K):gX P X f args h K:=fun R _ hX _=>hX _ _ _ _ hk
end
end Go.GAM
namespace Go.GAM
abbrev Dl:=List (FuncId × List AV)
abbrev Kd:=Exit→Env→aA→Dl→Prop
def aJC (P:Program) (f:AV) (args:List AV) (K:FuncId × List AV→Prop):Prop:=
 match f with
 | .fn (.func g) first cap=>bif kK P g then K (g,first++args++cap) else False
 | _=>False
def aD0 (P:Program) (c:Call) (e:Env) (h:aA) (K:FuncId × List AV→Prop):Prop:=
 match c.callee with
 | .value f=>aJC P (ev e h f) (c.args.toList.map (ev e h)) K
 | _=>False
def aAH (o:Oper):Option Call:=match o.op with
 | .defer c=>some c
 | _=>none
def aG6 (P : Program) (R : bT) (nt : Nat) (ops : Array Oper) : List Oper → Env → aA → Dl → (Env → aA → Dl → Prop) → Prop
 | [],e,h,D,K=>K e h D
 | o :: rest, e, h, D, K => match aAH o with
  | some c=>bif o.guard.isNone&&o.dst.isNone then aD0 P c e h fun d=>aG6 P R nt ops rest e h (d :: D) K else False
  | none=>bif k9 nt o then
    iQ ops o e (fun e=>aop P R o e h fun v h'=>dT P o v fun v=>aG6 P R nt ops rest (put e o.dst v) h' D K) (fun e=>aG6 P R nt ops rest (put e o.dst (.tu [])) h D K) else False
def aO0 (next:Env→aA→Dl→Prop) (K:Kd):Kd
 | .normal,e,h,D=>next e h D
 | x,e,h,D=>K x e h D
def aFJ (id:Nat) (K:Kd):Kd
 | .exit id',e,h,D=>bif Nat.beq id' id then K .normal e h D else K (.exit id') e h D
 | x,e,h,D=>K x e h D
def j7 (P:Program) (R:bT) (nt:Nat) (ann:Ann) (c:Code) (e:Env) (h:aA) (D:Dl) (K:Kd):Prop:=
 match c with
 | .seq x y=>j7 P R nt ann.a x e h D (aO0 (fun e h D=>j7 P R nt ann.b y (restr ann.live e) h D K) K)
 | .cond c x y=>aIf (ev e h c) (j7 P R nt ann.a x e h D K) (j7 P R nt ann.b y e h D K)
 | .block id x=>j7 P R nt ann.a x e h D (aFJ id K)
 | .region i ops false=>aG6 P R nt ops ops.toList e h D (K .normal)
 | c=>dK P R nt ann c e h fun ex e h=>K ex e h D
def wR (P:Program) (R:bT):Dl→aA→(aA→Prop)→Prop
 | [],h,K=>K h
 | (f,args) :: D,h,K=>aF P R f args h fun _ h'=>wR P R D h' K
def aNG (P:Program) (R:bT) (fn:Func) (K:AV→aA→Prop):Kd
 | .normal,e,h,D | .ret,e,h,D=>wR P R D h fun h=>kN P h e fn.results.toList fun vs=>K (tup vs) h
 | _,_,_,_=>False
def aFD (P : Program) (R : bT) (f : FuncId) (args : List AV) (h : aA) (K : AV → aA → Prop) : Prop :=
 ∃ fn body ann, P.funcs[f]? = some fn ∧ fn.body = some body ∧ (fn.name == "runtime.NumGoroutine") = false ∧ args.length ≤ fn.ntmps ∧
  j7 P R fn.ntmps ann body (fA 0 args) h [] (aNG P R fn (aL h K))
section
variable {P:Program} {w0:World} {Fz:Nat→Prop} {μ:Mu} {own:Nat→Option Nat} {h:aA} {w:World}
inductive tG (P:Program) (μ:Mu):Dl→List Deferred→Prop
 | nil:tG P μ [] []
 | cons (f args cap dargs D ds) (hb:kK P f=true) (hv:bO μ args (dargs.toList++cap.toList)) (t:tG P μ D ds):tG P μ ((f,args) :: D) ({ target:=.fn (.func f) cap,args:=dargs } :: ds)
theorem tG.mono {μ μ':Mu} (hs:Sub μ μ'):∀ {D ds},tG P μ D ds→tG P μ' D ds
 | _,_,.nil=>.nil
 | _,_,.cons f args cap dargs D ds hb hv t=>.cons f args cap dargs D ds hb (hv.mono hs) (t.mono hs)
def QKD (P:Program) (w0:World) (Fz:Nat→Prop) (nt:Nat) (μ:Mu) (K:Kd):Exit→Act→World→Prop:=
 fun x a' w'=>∃ e' h' D' ds' μ' own',K x e' h' D'∧Rel w0 Fz μ' own' h' w'∧tG P μ' D' ds'∧cB ds' μ' nt e' a'∧Sub μ μ'
theorem aBL (Rl:Rel w0 Fz μ own h w) {ds:List Deferred} {nt:Nat} {e:Env} {a:Act} (hE:cB ds μ nt e a) {c:Call} {t:TypeId} {K:FuncId × List AV→Prop} (hk:aD0 P c e h K) :
  ∃ f args cap dargs,K (f,args)∧kK P f=true∧bO μ args (dargs.toList++cap.toList)∧(resolve a.eval c t).run P w = .ok { target:=.fn (.func f) cap,args:=dargs } w:=by
 obtain ⟨callee,args,argTypes⟩:=c
 unfold aD0 at hk
 cases callee with
 | invoke r m=>exact hk.elim
 | builtin b=>exact hk.elim
 | value f =>
  simp only at hk
  have hv:=Rl.ev hE f
  generalize hcf:a.eval f=cf at *
  generalize GAM.ev e h f=af at *
  unfold aJC at hk
  cases hv <;> first | exact hk.elim | skip
  rename_i ff fa fb ca cb r1 r2
  cases ff <;> first | exact hk.elim | skip
  rename_i g
  obtain ⟨hb,hk⟩:=bB hk
  refine ⟨g,_,cb,ca++args.map a.eval,hk,hb, ?_, ?_⟩
  ·have := (r1.append (Rl.evs hE args.toList)).append r2
   simpa using this
  ·simp [resolve,hcf,Deferred.ofValue]
theorem tW {R : bT} {μb : Mu} (hR : dJ P w0 Fz μb R) {nt : Nat} {ops : Array Oper} {K : Env → aA → Dl → Prop} {Q : Exit → Act → World → Prop} : ∀ (l : List Oper) (μ : Mu) (own : Nat → Option Nat) (e : Env) (h : aA) (D : Dl) (ds : List Deferred) (a : Act) (w : World),
  Sub μb μ→Rel w0 Fz μ own h w→tG P μ D ds→cB ds μ nt e a→aG6 P R nt ops l e h D K →
  (∀ e' h' D' ds' a' w' μ' own',K e' h' D'→Rel w0 Fz μ' own' h' w'→tG P μ' D' ds'→cB ds' μ' nt e' a'→Sub μ μ'→Q .normal a' w')→wpListIn (FR none) 0 P ops Q l a w
 | [],μ,own,e,h,D,ds,a,w,hsb,Rl,hD,hE,hk,hQ=>hQ e h D ds a w μ own hk Rl hD hE (Sub.refl _)
 | o :: l, μ, own, e, h, D, ds, a, w, hsb, Rl, hD, hE, hk, hQ => by
  unfold aG6 at hk
  unfold wpListIn
  cases hdef:aAH o with
  | none =>
   rw [hdef] at hk
   obtain ⟨hd,hk⟩:=bB hk
   rcases pV hE hk with ⟨hw,e,hE,hk⟩ | ⟨hw,e,hE,hk⟩
   ·rw [if_pos hw]
    refine wJ hR hsb Rl hE hk fun v cv μ' own' h' w' h1 h2 h3 h4=>?_
    have h1:=gT h2 h1
    exact tW hR l μ' own' _ h' D ds _ w' (hsb.trans h4) h3 (hD.mono h4) ((hE.mono h4).put hd h2) h1 fun e2 h2 D2 ds2 a2 w2 μ2 own2 g1 g2 g3 g4 g5=>hQ e2 h2 D2 ds2 a2 w2 μ2 own2 g1 g2 g3 g4 (h4.trans g5)
   ·rw [if_neg (by simp [hw])]
    exact ⟨fun _ _=>trivial,tW hR l μ own _ h D ds _ w hsb Rl hD (hE.put hd (.tu [] #[] .nil)) hk hQ⟩
  | some c =>
   rw [hdef] at hk
   obtain ⟨hg,hk⟩:=bB hk
   simp only [Bool.and_eq_true,Option.isNone_iff_eq_none] at hg
   obtain ⟨f,args,cap,dargs,h1,h2,h3,h4⟩:=aBL (t:=o.type) Rl hE hk
   have hop:o.op = .defer c:=by
    unfold aAH at hdef
    split at hdef
    ·rename_i c' hc'; cases hdef; exact hc'
    ·cases hdef
   have hwant:Region.wanted o (yielded ops a.tmps)=true:=by simp [Region.wanted,hg.1]
   rw [if_pos hwant]
   refine ⟨fun _ _=>trivial, ?_⟩
   have he:o.semAt (FR none).round a.eval=execOp a.eval o:=rfl
   rw [he]
   have hx:(execOp a.eval o).run P w = .ok (.defer { target:=.fn (.func f) cap,args:=dargs }) w:=by
    simp only [execOp,hop,Sem.run_bind,h4,Result.andThen_ok,Sem.run_pure]
   rw [hx,Oper.uponIn_defer,hg.2]
   refine tW hR l μ own e h _ _ _ w hsb Rl (.cons f args cap dargs D ds h2 h3 hD) ?_ h1 hQ
   exact ⟨hE.size,by simp [Act.put,hE.defers],hE.val⟩
theorem aKF {R : bT} (hm : P.follows .mixedOrders = true) {μb : Mu} (hR : dJ P w0 Fz μb R) {nt : Nat} : ∀ (c : Code) (ann : Ann) (μ : Mu) (own : Nat → Option Nat) (e : Env) (h : aA) (D : Dl) (ds : List Deferred) (K : Kd) (a : Act) (w : World),
  Sub μb μ→Rel w0 Fz μ own h w→tG P μ D ds→cB ds μ nt e a→j7 P R nt ann c e h D K→c.wpIn (FR none) 0 P (QKD P w0 Fz nt μ K) a w:=by
 have leaf:∀ (c:Code) (ann:Ann) (μ:Mu) (own:Nat→Option Nat) (e:Env) (h:aA) (D:Dl) (ds:List Deferred) (K:Kd) (a:Act) (w:World),
   Sub μb μ→Rel w0 Fz μ own h w→tG P μ D ds→cB ds μ nt e a→dK P R nt ann c e h (fun ex e h=>K ex e h D)→c.wpIn (FR none) 0 P (QKD P w0 Fz nt μ K) a w:=by
  intro c ann μ own e h D ds K a w hsb Rl hD hE hk
  exact wpIn_mono (wA hm hR c ann μ own e h _ a w hsb Rl hE hk) fun ex a' w' ⟨e',h',μ',own',g1,g2,g3,g4⟩=>⟨e',h',D,ds,μ',own',g1,g2,hD.mono g4,g3,g4⟩
 intro c
 induction c with
 | seq x y ihx ihy =>
  intro ann μ own e h D ds K a w hsb Rl hD hE hk
  simp only [j7] at hk
  refine wpIn_seq (wpIn_mono (ihx _ μ own e h D ds _ a w hsb Rl hD hE hk) ?_)
  rintro ex a' w' ⟨e',h',D',ds',μ',own',g1,g2,g3,g4,g5⟩
  cases ex with
  | normal =>
   exact wpIn_mono (ihy _ μ' own' _ h' D' ds' K a' w' (hsb.trans g5) g2 g3 (g4.restr _) g1) fun ex a2 w2 ⟨e2,h2,D2,ds2,μ2,own2,k1,k2,k3,k4,k5⟩=>⟨e2,h2,D2,ds2,μ2,own2,k1,k2,k3,k4,g5.trans k5⟩
  | _=>exact ⟨e',h',D',ds',μ',own',g1,g2,g3,g4,g5⟩
 | cond c x y ihx ihy =>
  intro ann μ own e h D ds K a w hsb Rl hD hE hk
  simp only [j7] at hk
  rcases sC hk (Rl.ev hE c) with ⟨h1,h2⟩ | ⟨h1,h2⟩
  ·exact wpIn_cond_true h1 (ihx _ μ own e h D ds K a w hsb Rl hD hE h2)
  ·exact wpIn_cond_false h1 (ihy _ μ own e h D ds K a w hsb Rl hD hE h2)
 | block id x ih =>
  intro ann μ own e h D ds K a w hsb Rl hD hE hk
  simp only [j7] at hk
  refine wpIn_block (wpIn_mono (ih _ μ own e h D ds _ a w hsb Rl hD hE hk) ?_)
  rintro ex a' w' ⟨e',h',D',ds',μ',own',g1,g2⟩
  cases ex with
  | exit id' =>
   simp only [aFJ] at g1
   simp only [Exit.inBlock]
   by_cases hid:id'=id
   ·subst hid
    simp at g1
    rw [if_pos rfl]
    exact ⟨e',h',D',ds',μ',own',g1,g2⟩
   ·rw [zI hid] at g1
    rw [if_neg hid]
    exact ⟨e',h',D',ds',μ',own',g1,g2⟩
  | _=>exact ⟨e',h',D',ds',μ',own',g1,g2⟩
 | region id ops draw =>
  intro ann μ own e h D ds K a w hsb Rl hD hE hk
  cases draw with
  | true=>exact leaf _ ann μ own e h D ds K a w hsb Rl hD hE (by simpa only [j7] using hk)
  | false =>
   simp only [j7] at hk
   exact wpIn_region_list (tW hR _ μ own e h D ds a w hsb Rl hD hE hk fun e' h' D' ds' a' w' μ' own' g1 g2 g3 g4 g5=>⟨e',h',D',ds',μ',own',g1,g2,g3,g4,g5⟩)
 | _ =>
  intro ann μ own e h D ds K a w hsb Rl hD hE hk
  exact leaf _ ann μ own e h D ds K a w hsb Rl hD hE (by simpa only [j7] using hk)
theorem xZ {ds:List Deferred} (Rl:Rel w0 Fz μ own h w) {μ':Mu} {own':Nat→Option Nat} {h':aA} {w':World} (g2:Rel w0 Fz μ' own' h' w') {nt:Nat} {e':Env} {a':Act} (g3:cB ds μ' nt e' a') (g4:Sub μ μ') {fn:Func} {K:AV→aA→Prop}
  (hk:kN P h' e' fn.results.toList (fun vs=>aL h K (tup vs) h')):∃ v,(results fn a'.tmps).run P w' = .ok v w'∧jX w0 Fz μ K v w':=by
 obtain ⟨vs,cvs,k1,k2,k3⟩:=mF g2 g3 hk
 have hres:(results fn a'.tmps).run P w' = .ok (if hs:cvs.toArray.size=1 then cvs.toArray[0] else .tuple cvs.toArray) w':=by
  have e:results fn a'.tmps=(do let vs ← fn.results.mapM (aMH a'); pure (if h:vs.size=1 then vs[0] else .tuple vs)):=rfl
  rw [e,Array.mapM_eq_mapM_toList,Sem.run_bind,Sem.run_map,k3]
  first | done | rfl
 refine ⟨_,hres, ?_⟩
 have ht:=aFE k2
 rcases k1 with k1 | ⟨keep,c1,c2,c3,c4,c5,k1⟩
 ·exact ⟨_,μ',own',h',k1,ht,g2,g4⟩
 ·obtain ⟨t1, t2⟩ := Rel.trim Rl g2 g4 c1 c3 c4 c5
  exact ⟨_,_,_,_,k1,aFO (fun k hk=>(c3 k hk).1) ht c2,t1,t2⟩
theorem aLA {R:bT} (hm:P.follows .mixedOrders=true) {μb:Mu} (hR:dJ P w0 Fz μb R) {args:List AV} {K:AV→aA→Prop} {fn:Func} {body:Code} {ann:Ann} (hn:args.length≤fn.ntmps)
  (hk:dK P R fn.ntmps ann body (fA 0 args) h (pQ P fn (aL h K))) (hsb:Sub μb μ) (Rl:Rel w0 Fz μ own h w) {cargs:List Value} (hc:bO μ args cargs) :
  body.wpIn (FR none) 0 P (bodyPost P fn fun e w'=>∃ v,e = .returned v∧jX w0 Fz μ K v w') { tmps:=cargs.toArray++Array.replicate (fn.ntmps - cargs.toArray.size) undef,defers:=[] } w:=by
 refine wpIn_mono (wA hm hR body ann μ own _ h _ _ w hsb Rl (wY hc hn) hk) ?_
 rintro ex a' w' ⟨e',h',μ',own',g1,g2,g3,g4⟩
 have fin:kN P h' e' fn.results.toList (fun vs=>aL h K (tup vs) h')→a'.defers=[]∧∃ v,(results fn a'.tmps).run P w' = .ok v w'∧∃ v',Ending.returned v = .returned v'∧jX w0 Fz μ K v' w':=by
  intro hk
  obtain ⟨v,h1,h2⟩:=xZ Rl g2 g3 g4 hk
  exact ⟨g3.defers,v,h1,v,rfl,h2⟩
 cases ex with
 | normal=>exact fin g1
 | ret=>exact fin g1
 | exit id=>exact g1.elim
 | goto l=>exact g1.elim
 | panic ch=>exact g1.elim
 | outgrown=>exact g1.elim
theorem s8 {R:bT} (hm:P.follows .mixedOrders=true) {μb:Mu} (hR:dJ P w0 Fz μb R) {fn:Func} {tmps:Array Value} {RR:Ending→World→Prop}:∀ (D:Dl) (ds:List Deferred) (μ:Mu) (own:Nat→Option Nat) (h:aA) (K:aA→Prop) (w:World),
  Sub μb μ→Rel w0 Fz μ own h w→tG P μ D ds→wR P R D h K →
  (∀ μ' own' h' w',K h'→Rel w0 Fz μ' own' h' w'→Sub μ μ'→LeavesIn (FR none) 0 P fn tmps RR [] .returning w')→LeavesIn (FR none) 0 P fn tmps RR ds .returning w
 | [],_,μ,own,h,K,w,hsb,Rl,.nil,hk,hQ=>hQ μ own h w hk Rl (Sub.refl _)
 | (f, args) :: D, _, μ, own, h, K, w, hsb, Rl, .cons _ _ cap dargs _ ds hb hv t, hk, hQ => by
  unfold wR at hk
  obtain ⟨fn',body,ann,hf,hbd,hname,hn,hk⟩:=hk
  have hrun:=pB (P:=P) hb (dargs++cap) w
  refine leavesIn_cons (f:=f) (args:=dargs++cap) (by simp) (fun h=>by cases h) (by simpa [invoke] using hrun) (fun _ _=>trivial) ?_
  have hw:=aLA hm hR hn hk hsb Rl hv
  have e1:(dargs.toList++cap.toList).toArray=dargs++cap:=by apply Array.ext'; simp
  rw [e1] at hw
  refine (callsDIn_of_wp (F:=FR none) (n:=0) (u:=.returning) hf hbd trivial hw).mono ?_
  rintro en u' w' ⟨rfl,v,rfl,v',μ',own',h',k1,k2,k3,k4⟩
  exact s8 hm hR D ds μ' own' h' K w' (hsb.trans k4) k3 (t.mono k4) k1 fun μ2 own2 h2 w2 q1 q2 q3=>hQ μ2 own2 h2 w2 q1 q2 (k4.trans q3)
theorem aC2 {R:bT} (hm:P.follows .mixedOrders=true) (hsz:P.funcs.size≤yid0) {μb:Mu} (hR:dJ P w0 Fz μb R):dJ P w0 Fz μb (aFD P R):=by
 rintro f args h K ⟨fn,body,ann,hf,hb,hname,hn,hk⟩ μ own w cargs hsb Rl hc
 rw [if_pos (Nat.lt_of_lt_of_le (Array.getElem?_eq_some_iff.1 hf).1 hsz)]
 refine .inl ⟨f,cargs.toArray, ?_, ?_⟩
 ·have hbs : fn.body.isNone = false := by simp [hb]
  simp only [callFunc,Sem.run_bind,run_program,Result.andThen_ok,hf,hname,Bool.false_eq_true,if_false,hbs,Sem.run_pure]
 ·refine callsIn_wide.1 (callsIn_of_wp_defers (F := FR none) (n := 0) hf hb trivial (wpIn_mono (aKF hm hR body ann μ own _ h [] [] _ _ w hsb Rl .nil (wY hc hn) hk) ?_))
  rintro ex a' w' ⟨e',h',D',ds',μ',own',g1,g2,g3,g4,g5⟩
  have fin:wR P R D' h' (fun h'=>kN P h' e' fn.results.toList fun vs=>aL h K (tup vs) h')→LeavesIn (FR none) 0 P fn a'.tmps (fun e w'=>∃ v,e = .returned v∧jX w0 Fz μ K v w') a'.defers .returning w':=by
   intro hk
   rw [g4.defers]
   refine s8 hm hR D' ds' μ' own' h' _ w' (hsb.trans g5) g2 g3 hk fun μ2 own2 h2 w2 q1 q2 q3=>?_
   obtain ⟨v,k1,k2⟩:=xZ Rl q2 (g4.mono q3) (g5.trans q3) q1
   exact ⟨v,k1,v,rfl,k2⟩
  cases ex with
  | normal=>exact fin g1
  | ret=>exact fin g1
  | exit id=>exact g1.elim
  | goto l=>exact g1.elim
  | panic ch=>exact g1.elim
  | outgrown=>exact g1.elim
theorem aH8 {R:bT} (hm:P.follows .mixedOrders=true) (hsz:P.funcs.size≤yid0) (hR:qM P R):qM P (aFD P R):=fun w0 Fz μb=>aC2 hm hsz (hR w0 Fz μb)
def orR (R S:bT):bT:=fun f args h K=>R f args h K∨S f args h K
theorem aGO {R S:bT} (hR:qM P R) (hS:qM P S):qM P (orR R S):=fun w0 Fz μb f args h K hk=>hk.elim (hR w0 Fz μb f args h K) (hS w0 Fz μb f args h K)
theorem aKK {X Y:bT} (hXY:∀ f args h K,X f args h K→Y f args h K) {f:FuncId} {args:List AV} {h:aA} {K:AV→aA→Prop} (hk:gX P X f args h K):gX P Y f args h K:=
 fun R hm hY hF=>hk R hm (fun f args h K hx=>hY f args h K (hXY f args h K hx)) hF
theorem aPK {X:bT} {f:FuncId} {fn:Func} {ann:Ann} {body:Code} (hf:P.funcs[f]? = some fn) (hb:fn.body=some body) (hn:(fn.name == "runtime.NumGoroutine")=false) (hd:aV (places ann body)=true) {args:List AV} (ha:Nat.ble args.length fn.ntmps=true)
  {h:aA} {K:AV→aA→Prop} (hk:exJ P (gX P X) fn.ntmps (bY P (gX P X) fn ann body (aL h K)) ann body (fA 0 args) h (pQ P fn (aL h K))):aF P (gX P X) f args h K:=
 ⟨fn,body,ann,hf,hb,hn,Nat.le_of_ble_eq_true ha,nJ (qL X) body ann _ h _ _ (dN.act hd) (fun _ _ _ h=>h) hk⟩
end
end Go.GAM
