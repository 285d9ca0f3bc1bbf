/- Lemmas (several texts in one). -/
import Derived.Scope
import Derived.RangeFuncOwn
import Derived.DefersIn
import Derived.Recover
import Derived.Lib.ByteType
import Derived.Test.YtfoekpcljhbijaaGreatDoorMg0
set_option linter.unusedVariables false
set_option linter.unusedSimpArgs false
namespace Go.GAM
section
variable {P:Program}
theorem aRU {α:Type} {c:AV} {A B:(α→Prop)→Prop} {K:α→Prop} (hA:A K→∃ v,K v∧∀ K',K' v→A K') (hB:B K→∃ v,K v∧∀ K',K' v→B K') (h:aIf c (A K) (B K)):∃ v,K v∧∀ K',K' v→aIf c (A K') (B K'):=by
 unfold aIf at *
 split at h <;> first | exact hA h | exact hB h | exact h.elim
theorem vF {op:BinOp} {r:Bool} {K:AV→Prop} (h:eP op r K):∃ v,K v∧∀ K':AV→Prop,K' v→eP op r K':=by
 cases op <;> first | exact h.elim | exact ⟨_,h,fun _ h=>h⟩
theorem aG5 {sz:Nat} {x:AV} {h:aA} {K:List AV→Prop} (hk:fG sz x h K):∃ v,K v∧∀ K':List AV→Prop,K' v→fG sz x h K':=by
 unfold fG at *
 split at hk
 ·exact ⟨_,hk,fun _ h=>h⟩
 ·rcases hk with ⟨h0, hk⟩ | ⟨b, h1, h3, h4⟩
  ·exact ⟨_,hk,fun _ h=>.inl ⟨h0,h⟩⟩
  ·exact ⟨_,h4,fun _ h=>.inr ⟨b,h1,h3,h⟩⟩
 ·exact hk.elim
theorem d8 {x:Option AV} {d:Nat} {K:Nat→Prop} (hk:gM x d K):∃ v,K v∧∀ K':Nat→Prop,K' v→gM x d K':=by
 unfold gM at *
 split at hk
 ·exact ⟨_,hk,fun _ h=>h⟩
 ·exact ⟨_,hk.2,fun _ h=>⟨hk.1,h⟩⟩
 ·exact hk.elim
theorem yR {α:Type} {c:Bool} {A:(α→Prop)→Prop} {K:α→Prop} (hA:A K→∃ v,K v∧∀ K',K' v→A K') (h:bif c then A K else False):∃ v,K v∧∀ K',K' v→bif c then A K' else False:=by
 cases c
 ·exact h.elim
 ·exact hA h
theorem aQJ {op:BinOp} {t:TypeId} {x y:AV} {K:AV→Prop} (hk:cI P op t x y K):∃ v,K v∧∀ K':AV→Prop,K' v→cI P op t x y K':=by
 unfold cI at *
 split at hk
 case h_1=>cases op <;> first | exact ⟨_,hk.2,fun _ h=>⟨hk.1,h⟩⟩ | exact ⟨_,hk,fun _ h=>h⟩ | exact yR (A:=fun K=>_∧K _) (fun hk=>⟨_,hk.2,fun _ h=>⟨hk.1,h⟩⟩) hk | exact yR (A:=fun K=>K _) (fun hk=>⟨_,hk,fun _ h=>h⟩) hk
 case h_2=>cases op <;> first | exact hk.elim | exact ⟨_,hk.2,fun _ h=>⟨hk.1,h⟩⟩ | exact ⟨_,hk,fun _ h=>h⟩
 case h_3=>split at hk <;> first | exact vF hk | exact hk.elim
 case h_16=>
  cases hg:P.eqGuardType P.depth t with
  | true=>rw [hg] at hk; exact hk.elim
  | false =>
   rw [hg] at hk
   simp only [cond_false] at hk ⊢
   split at hk <;> first | exact vF hk | exact hk.elim
 all_goals first | exact yR (A:=fun K=>eP _ _ K) vF hk | exact hk.elim
theorem aSR {v:AV} {K:Bool→Prop} (hk:asB v K):∃ c,K c∧∀ K':Bool→Prop,K' c→asB v K':=by
 unfold asB at *; split at hk <;> first | exact ⟨_,hk,fun _ h=>h⟩ | exact hk.elim
theorem aR5 {k:IntKind} {v:AV} {K:Int→Prop} (hk:asI k v K):∃ c,K c∧∀ K':Int→Prop,K' c→asI k v K':=by
 unfold asI at *; split at hk <;> first | exact yR (A:=fun K=>K _) (fun hk=>⟨_,hk,fun _ h=>h⟩) hk | exact hk.elim
theorem aSG {v:AV} {K:List UInt8→Prop} (hk:asS v K):∃ c,K c∧∀ K':List UInt8→Prop,K' c→asS v K':=by
 unfold asS at *; split at hk <;> first | exact ⟨_,hk,fun _ h=>h⟩ | exact hk.elim
theorem zE {o:Oper} {v:AV} {K:AV→Prop} (hk:cP P o v K):∃ c,K c∧∀ K':AV→Prop,K' c→cP P o v K':=by
 unfold cP at *
 split at hk
 ·unfold shape at *
  split at hk
  ·obtain ⟨c,h1,h2⟩:=aSR hk; exact ⟨_,h1,fun K' h=>h2 (fun c=>K' (.b c)) h⟩
  ·obtain ⟨c,h1,h2⟩:=aR5 hk; exact ⟨_,h1,fun K' h=>h2 (fun c=>K' (.i _ c)) h⟩
  ·obtain ⟨c,h1,h2⟩:=aSG hk; exact ⟨_,h1,fun K' h=>h2 (fun c=>K' (.s c)) h⟩
  ·exact ⟨_,hk,fun _ h=>h⟩
 ·exact ⟨_,hk,fun _ h=>h⟩
theorem aEA {sz:Nat} {x:AV} {lo hi mx:Option AV} {h:aA} {K:AV→Prop} (hk:bW sz x lo hi mx h K):∃ v,K v∧∀ K':AV→Prop,K' v→bW sz x lo hi mx h K':=by
 unfold bW at *
 split at hk
 ·obtain ⟨m, hm, em⟩ := d8 hk
  obtain ⟨j,hj,ej⟩:=d8 hm
  obtain ⟨i,hi,ei⟩:=d8 hj
  exact ⟨_,hi.2.2.2.2,fun K' h=>em _ (ej _ (ei _ ⟨hi.1,hi.2.1,hi.2.2.1,hi.2.2.2.1,h⟩))⟩
 ·obtain ⟨g1, g2, hk⟩ := hk
  obtain ⟨j,hj,ej⟩:=d8 hk
  obtain ⟨i,hi,ei⟩:=d8 hj
  obtain ⟨k1,b,h1,h2,h3,h4,h5⟩:=hi
  cases mx with
  | none=>exact ⟨_,h5.2,fun K' h=>⟨g1,g2,ej _ (ei _ ⟨k1,b,h1,h2,h3,h4,h5.1,h⟩)⟩⟩
  | some m =>
   obtain ⟨n,hn,en⟩:=d8 h5
   exact ⟨_,hn.2.2,fun K' h=>⟨g1,g2,ej _ (ei _ ⟨k1,b,h1,h2,h3,h4,en _ ⟨hn.1,hn.2.1,h⟩⟩)⟩⟩
 ·exact hk.elim
theorem tW {o : Oper} {e : Env} {h : aA} {K : AV → Prop} (hk : bX P o e h K) : ∃ v, K v ∧ ∀ K' : AV → Prop, K' v → bX P o e h K' := by
  obtain ⟨dst,op,type,pos,after,guard⟩:=o
  cases op with
  | move x=>exact ⟨_,hk,fun _ h=>h⟩
  | assign x=>exact ⟨_,hk,fun _ h=>h⟩
  | pick c x y=>exact aRU (A:=fun K=>K _) (B:=fun K=>K _) (fun hk=>⟨_,hk,fun _ h=>h⟩) (fun hk=>⟨_,hk,fun _ h=>h⟩) hk
  | load t x =>
    simp only [bX] at *
    split at hk
    · unfold dC at *
      split at hk
      · obtain ⟨b,h1,h2,h3⟩:=hk; exact ⟨_,h3,fun _ h=>⟨b,h1,h2,h⟩⟩
      · exact hk.elim
    · unfold aD at *
      split at hk
      · obtain ⟨b,h1,h2,h3⟩:=hk; exact ⟨_,h3,fun _ h=>⟨b,h1,h2,h⟩⟩
      · exact hk.elim
    · exact hk.elim
  | nilCheck x =>
    simp only [bX] at *
    unfold aK at *
    split at hk <;> first | exact hk.elim | exact ⟨_,hk,fun _ h=>h⟩
  | binOp op t x y yt=>exact aQJ hk
  | unOp op t x =>
    simp only [bX] at *
    unfold pUn at *
    split at hk <;> first | exact hk.elim | exact ⟨_,hk,fun _ h=>h⟩
  | convert src dst' x =>
    simp only [bX] at *
    split at hk
    · unfold yX at *
      split at hk <;> first | exact hk.elim | exact ⟨_,hk,fun _ h=>h⟩
    · unfold zS at *
      split at hk <;> first | exact hk.elim | exact ⟨_,hk,fun _ h=>h⟩
    · split at hk
      · unfold cJ at *
        obtain ⟨cs,h1,h2⟩:=aG5 hk
        exact ⟨_,h1.2,fun K' h=>h2 _ ⟨h1.1,h⟩⟩
      · exact hk.elim
    · rename_i t h1 h2
      cases hz:Nat.beq (P.cellsOf t) 0 with
      | true=>rw [hz] at hk; exact hk.elim
      | false =>
        rw [hz] at hk
        simp only [cond_false] at hk ⊢
        unfold nH at *
        split at hk
        · exact ⟨_,hk,fun _ h=>h⟩
        · obtain ⟨b,h1,h2,h3⟩:=hk; exact ⟨_,h3,fun _ h=>⟨b,h1,h2,h⟩⟩
        · exact hk.elim
    · rename_i u h1 h2
      obtain ⟨hu,hk⟩:=aS hk
      simp only [hu,cond_true]
      unfold eL at *
      split at hk
      · exact ⟨_,hk,fun _ h=>h⟩
      · obtain ⟨b,t,g1,g2,g3,g4,g5,g6⟩:=hk; exact ⟨_,g6,fun _ h=>⟨b,t,g1,g2,g3,g4,g5,h⟩⟩
      · exact hk.elim
    · exact hk.elim
  | makeInterface t x =>
    simp only [bX] at *
    split at hk <;> first | exact hk.elim | exact ⟨_,hk,fun _ h=>h⟩
  | makeFunc f a b=>exact ⟨_,hk,fun _ h=>h⟩
  | lookup t x ix ok =>
    simp only [bX] at *
    split at hk
    · obtain ⟨h1, h2⟩ := aS hk
      simp only [h1,cond_true]
      unfold oE at *
      obtain ⟨h3,h2⟩:=h2
      split at h2
      · exact h2.elim
      · split at h2
        · exact ⟨_,h2,fun _ h=>⟨h3,h⟩⟩
        · split at h2
          · exact ⟨_,h2,fun _ h=>⟨h3,h⟩⟩
          · exact h2.elim
        · exact h2.elim
    · exact hk.elim
  | slice t x lo hi mx =>
    simp only [bX] at *
    split at hk
    · split at hk
      · unfold bV at *
        split at hk
        · obtain ⟨m, hm, em⟩ := d8 hk
          obtain ⟨n,hn,en⟩:=d8 hm
          exact ⟨_,hn.2.2,fun K' h=>em _ (en _ ⟨hn.1,hn.2.1,h⟩)⟩
        · exact hk.elim
      · exact hk.elim
    · obtain ⟨h1, h2⟩ := aS hk
      simp only [h1,cond_true]
      exact aEA h2
    · split at hk
      · obtain ⟨h1, h2⟩ := aS hk
        simp only [h1,cond_true]
        unfold mV at *
        split at h2
        · obtain ⟨g0, h2⟩ := h2
          obtain ⟨j,hj,ej⟩:=d8 h2
          obtain ⟨i,hi,ei⟩:=d8 hj
          obtain ⟨g1,g2,b,g3,g4,g5,g6⟩:=hi
          exact ⟨_,g6,fun K' h=>⟨g0,ej _ (ei _ ⟨g1,g2,b,g3,g4,g5,h⟩)⟩⟩
        · exact h2.elim
      · exact hk.elim
    · exact hk.elim
  | fieldAddr t x f =>
    simp only [bX] at *
    split at hk
    · split at hk
      · rename_i fl _
        cases hz:Nat.beq (P.cellsOf fl.type) 0 with
        | true=>rw [hz] at hk; exact hk.elim
        | false =>
          rw [hz] at hk
          simp only [cond_false] at hk ⊢
          unfold aB at *
          split at hk <;> first | exact hk.elim | exact ⟨_,hk,fun _ h=>h⟩
      · exact hk.elim
    · exact hk.elim
  | field t x f =>
    simp only [bX] at *
    split at hk
    · split at hk
      · split at hk
        · unfold tS at *
          split at hk <;> first | exact hk.elim | exact ⟨_,hk,fun _ h=>h⟩ | exact ⟨_,hk.2,fun _ h=>⟨hk.1,h⟩⟩
        · unfold uR at *
          split at hk <;> first | exact hk.elim | exact ⟨_,hk.2,fun _ h=>⟨hk.1,h⟩⟩
        · exact hk.elim
      · exact hk.elim
    · exact hk.elim
  | indexAddr t x ix =>
    simp only [bX] at *
    split at hk
    · obtain ⟨h1, h2⟩ := aS hk
      simp only [h1,cond_true]
      unfold aU at *
      split at h2
      · exact ⟨_,h2.2.2.2,fun _ h=>⟨h2.1,h2.2.1,h2.2.2.1,h⟩⟩
      · exact h2.elim
    · obtain ⟨h1, h2⟩ := aS hk
      simp only [h1,cond_true]
      unfold bT at *
      split at h2
      · exact ⟨_,h2.2.2,fun _ h=>⟨h2.1,h2.2.1,h⟩⟩
      · exact h2.elim
    · exact hk.elim
  | index t x ix =>
    simp only [bX] at *
    split at hk
    · unfold cK at *
      split at hk
      · exact ⟨_,hk.2.2,fun _ h=>⟨hk.1,hk.2.1,h⟩⟩
      · exact hk.elim
    · split at hk
      · obtain ⟨h1, h2⟩ := aS hk
        simp only [h1,cond_true]
        unfold qO at *
        split at h2
        · exact ⟨_,h2.2.2.2,fun _ h=>⟨h2.1,h2.2.1,h2.2.2.1,h⟩⟩
        · exact h2.elim
      · exact hk.elim
    · exact hk.elim
  | build t parts =>
    simp only [bX] at *
    split at hk
    · unfold f9 at *
      split at hk <;> first | exact hk.elim | exact ⟨_,hk,fun _ h=>h⟩
    · exact hk.elim
  | extract x i =>
    simp only [bX] at *
    unfold aO at *
    split at hk
    · exact ⟨_,hk.2,fun _ h=>⟨hk.1,h⟩⟩
    · exact hk.elim
  | call c =>
    obtain ⟨callee,args,argTypes⟩:=c
    cases callee with
    | builtin b =>
      cases b <;> first | exact False.elim hk | skip
      case len=>
        simp only [bX] at *
        split at hk
        · split at hk
          · unfold yQ at *
            split at hk <;> first | exact hk.elim | exact ⟨_,hk,fun _ h=>h⟩
          · exact hk.elim
        · split at hk
          · unfold bR at *
            split at hk <;> first | exact hk.elim | exact ⟨_,hk,fun _ h=>h⟩
          · exact hk.elim
        · split at hk <;> first | exact hk.elim | exact ⟨_,hk,fun _ h=>h⟩
        · exact hk.elim
      case min=>
        simp only [bX] at *
        unfold pMM at *
        split at hk <;> first | exact hk.elim | exact ⟨_,hk,fun _ h=>h⟩
      case max=>
        simp only [bX] at *
        unfold pMM at *
        split at hk <;> first | exact hk.elim | exact ⟨_,hk,fun _ h=>h⟩
    | _=>exact False.elim hk
  | _=>exact False.elim hk
theorem aSP {e:Env} {h h':aA} {x:Operand} (hx:(match x with | .global _=>true | _=>false)=false):ev e h x=ev e h' x:=by
 cases x <;> first | rfl | cases hx
theorem uI {e:Env} {h h':aA}:∀ {xs:List Operand},(∀ x∈xs,ev e h x=ev e h' x)→xs.map (ev e h)=xs.map (ev e h')
 | [],_=>rfl
 | x :: xs,H=>by rw [List.map_cons,List.map_cons,H x (by simp),uI fun y hy=>H y (by simp [hy])]
theorem aL8 {o : Oper} {e : Env} {h h' : aA} {K : AV → Prop} (hr : jY P o = false) (hk : bX P o e h K) : bX P o e h' K := by
 have hg:∀ x∈o.op.operands.toList,ev e h x=ev e h' x:=by
  intro x hx
  unfold jY at hr
  simp only [Bool.or_eq_false_iff] at hr
  refine aSP ?_
  have:=hr.1
  rw [List.any_eq_false] at this
  have:=this x hx
  revert this
  cases x <;> simp
 obtain ⟨dst,op,type,pos,after,guard⟩:=o
 simp only [jY,Bool.or_eq_false_iff] at hr
 have hr:=hr.2
 cases op with
 | move x=>simpa only [bX,hg x (by simp [Op.operands])] using hk
 | assign x=>simpa only [bX,hg x (by simp [Op.operands])] using hk
 | pick c x y=>simpa only [bX,hg c (by simp [Op.operands]),hg x (by simp [Op.operands]),hg y (by simp [Op.operands])] using hk
 | load t x=>cases hr
 | lookup t x ix ok=>cases hr
 | nilCheck x=>simpa only [bX,hg x (by simp [Op.operands])] using hk
 | binOp op t x y yt=>simpa only [bX,hg x (by simp [Op.operands]),hg y (by simp [Op.operands])] using hk
 | unOp op t x=>simpa only [bX,hg x (by simp [Op.operands])] using hk
 | convert src dst' x =>
  simp only at hr
  simp only [bX,hg x (by simp [Op.operands])] at hk ⊢
  split at hk
  ·exact hk
  ·exact hk
  ·rename_i h1 h2; rw [h1] at hr; cases hr
  ·rename_i h1 h2; rw [h1] at hr; cases hr
  ·rename_i h1 h2; rw [h1] at hr; cases hr
  ·exact hk
 | makeInterface t x=>simpa only [bX,hg x (by simp [Op.operands])] using hk
 | makeFunc f a b =>
  have h1:=uI (xs:=a.toList) fun x hx=>hg x (by simp [Op.operands]; simp at hx; simp [hx])
  have h2:=uI (xs:=b.toList) fun x hx=>hg x (by simp [Op.operands]; simp at hx; simp [hx])
  simpa only [bX,h1,h2] using hk
 | slice t x lo hi mx =>
  simp only at hr
  simp only [bX] at hk ⊢
  split at hk
  ·have h1 : lo.map (ev e h) = lo.map (ev e h') := by
    cases lo with
    | none=>rfl
    | some y=>simp only [Option.map_some]; rw [hg y (by simp [Op.operands])]
   have h2:hi.map (ev e h)=hi.map (ev e h'):=by
    cases hi with
    | none=>rfl
    | some y=>simp only [Option.map_some]; rw [hg y (by simp [Op.operands])]
   simpa only [hg x (by simp [Op.operands]),h1,h2] using hk
  ·rename_i h1; rw [h1] at hr; cases hr
  ·rename_i h1; rw [h1] at hr; cases hr
  ·exact hk
 | fieldAddr t x f=>simpa only [bX,hg x (by simp [Op.operands])] using hk
 | field t x f=>simpa only [bX,hg x (by simp [Op.operands])] using hk
 | indexAddr t x ix =>
  simp only at hr
  simp only [bX] at hk ⊢
  split at hk
  ·rename_i h1; rw [h1] at hr; cases hr
  ·simpa only [hg x (by simp [Op.operands]),hg ix (by simp [Op.operands])] using hk
  ·exact hk
 | index t x ix=>simpa only [bX,hg x (by simp [Op.operands]),hg ix (by simp [Op.operands])] using hk
 | build t parts =>
  have h1:(parts.toList.map fun (i,x)=>(i,ev e h x))=parts.toList.map fun (i,x)=>(i,ev e h' x):=by
   apply List.map_congr_left
   rintro ⟨i,x⟩ hx
   simp only
   rw [hg x (by simp [Op.operands]; simp at hx; exact ⟨i,hx⟩)]
  simpa only [bX,h1] using hk
 | extract x i=>simpa only [bX,hg x (by simp [Op.operands])] using hk
 | call c =>
  obtain ⟨callee,args,argTypes⟩:=c
  cases callee with
  | builtin b =>
   have h1:=uI (xs:=args.toList) fun x hx=>hg x (by simp [Op.operands,Call.operands]; simp at hx; simp [hx])
   cases b <;> first | exact False.elim hk | skip
   case len=>
    simp only [bX] at hk ⊢
    split at hk
    ·split at hk
     ·rename_i x hx
      have:ev e h x=ev e h' x:=hg x (by simp [Op.operands,Call.operands]; rw [← Array.mem_toList_iff,hx]; simp)
      rw [← this]; exact hk
     ·exact hk
    ·split at hk
     ·rename_i x hx
      have:ev e h x=ev e h' x:=hg x (by simp [Op.operands,Call.operands]; rw [← Array.mem_toList_iff,hx]; simp)
      rw [← this]; exact hk
     ·exact hk
    ·exact hk
    ·exact hk
   case min=>simpa only [bX,h1] using hk
   case max=>simpa only [bX,h1] using hk
  | _=>exact False.elim hk
 | _=>exact False.elim hk
end
end Go.GAM
namespace Go.GAM
section
variable {ds:List Deferred} {rd:Option Nat} {P:Program} {w0:World} {Fz:Nat→Prop} {μ:Mu} {own:Nat→Option Nat} {h:aA} {w:World}
theorem bK.upd {nt:Nat} {e:Env} {a:Act} (hE:bK ds μ nt e a) {t:Nat} {v:AV} (hv:lk e t=v):bK ds μ nt (GAM.put e (some t) v) a:=by
 refine ⟨hE.1,hE.2,fun t'=>?_⟩
 rw [qL]
 split
 ·rename_i h
  simp only [Option.some.injEq] at h
  subst h
  rw [← hv]; exact hE.3 t
 ·exact hE.3 t'
theorem nS {want x:Bool} {A B:Prop} (h:y7 want x A B):(x=want∧A)∨(x=(!want)∧B):=by
 cases want <;> cases x <;> first | exact .inl ⟨rfl,h⟩ | exact .inr ⟨rfl,h⟩
theorem uA {nt : Nat} {ops : Array Oper} {o : Oper} {e : Env} {a : Act} {A B : Env → Prop} (hE : bK ds μ nt e a) (hk : f8 ops o e A B) :
  (Region.wanted o (yielded ops a.tmps)=true∧∃ e',bK ds μ nt e' a∧A e')∨(Region.wanted o (yielded ops a.tmps)=false∧∃ e',bK ds μ nt e' a∧B e'):=by
 unfold f8 at hk
 unfold Region.wanted
 cases hg:o.guard with
 | none=>rw [hg] at hk; exact .inl ⟨rfl,e,hE,hk⟩
 | some g =>
  obtain ⟨j,want⟩:=g
  rw [hg] at hk
  simp only at hk ⊢
  cases hd:(ops[j]?).bind (·.dst) with
  | none =>
   rw [hd] at hk
   refine .inr ⟨?_,e,hE,hk⟩
   simp [yielded,hd]
  | some t =>
   rw [hd] at hk
   simp only at hk
   have hv:=hE.val t
   have hgd:a.tmps.getD t undef=(a.tmps[t]?).getD undef:=by
    by_cases ht:t<a.tmps.size
    ·simp [Array.getD,ht]
    ·simp [Array.getD,ht]
   rw [hgd] at hv
   have hy:yielded ops a.tmps j=match a.tmps[t]? with | some (.bool b)=>some b | _=>none:=by
    unfold yielded
    rw [hd]
    first | done | rfl
   rw [hy]
   cases hl:lk e t with
   | b x =>
    rw [hl] at hk hv
    simp only at hk
    have hc:a.tmps[t]? = some (.bool x):=by
     cases hoc:a.tmps[t]? with
     | none=>rw [hoc] at hv; cases hv
     | some cv=>rw [hoc] at hv; cases hv; rfl
    rw [hc]
    rcases nS hk with ⟨rfl,hA⟩ | ⟨rfl,hB⟩
    ·exact .inl ⟨by simp,_,hE.upd hl,hA⟩
    ·exact .inr ⟨by cases want <;> rfl,_,hE.upd hl,hB⟩
   | tu vs =>
    rw [hl] at hk hv
    refine .inr ⟨?_,e,hE,hk⟩
    cases hoc:a.tmps[t]? with
    | none=>rfl
    | some cv=>rw [hoc] at hv; cases hv; rfl
   | _=>rw [hl] at hk; exact hk.elim
theorem fY {o:Oper} {v:AV} {cv:Value} {K:AV→Prop} (hv:aX μ v cv) (hk:cP P o v K):K v:=by
 unfold cP at hk
 split at hk
 ·exact aHE hv hk
 ·exact hk
theorem nO (e:Env) {t:Nat}:∀ {L:List Nat},t∈L→lk (restr L e) t=lk e t
 | x :: L, hm => by
  simp only [restr,List.map_cons,lk]
  by_cases h:x=t
  ·subst h; simp
  ·have : Nat.beq x t = false := lY h
   simp only [this,cond_false]
   rcases List.mem_cons.1 hm with h' | h'
   ·exact absurd h'.symm h
   ·exact nO e h'
theorem pJ {e e':Env} {L:List Nat} (h:∀ t∈L,lk e t=lk e' t):restr L e=restr L e':=by
 unfold restr
 exact List.map_congr_left fun t ht=>by rw [h t ht]
structure nQ (ds:List Deferred) (μ:Mu) (nt:Nat) (U:Nat→Prop) (e:Env) (a:Act):Prop where
 size:a.tmps.size=nt
 defers:a.defers=ds
 val:∀ t, ¬ U t→aX μ (lk e t) (a.tmps.getD t undef)
theorem nQ.restr {nt : Nat} {U : Nat → Prop} {e : Env} {a : Act} (h : nQ ds μ nt U e a) {L : List Nat} (hL : ∀ t ∈ L, ¬ U t) : bK ds μ nt (GAM.restr L e) a := by
 refine ⟨h.1,h.2,fun t=>?_⟩
 by_cases ht:t∈L
 ·rw [nO e ht]; exact h.3 t (hL t ht)
 ·have : lk (GAM.restr L e) t = .u := by
   clear hL
   induction L with
   | nil=>rfl
   | cons x L ih =>
    simp only [GAM.restr,List.map_cons,lk]
    have h1:x≠t:=fun e=>ht (by simp [e])
    have:Nat.beq x t=false:=lY h1
    simp only [this,cond_false]
    exact ih fun h'=>ht (by simp [h'])
  rw [this]; exact .u _
theorem nQ.mono {μ':Mu} (hs:Sub μ μ') {nt:Nat} {U:Nat→Prop} {e:Env} {a:Act} (h:nQ ds μ nt U e a):nQ ds μ' nt U e a:=⟨h.1,h.2,fun t ht=>(h.3 t ht).mono hs⟩
theorem nQ.put {nt : Nat} {U U' : Nat → Prop} {e e' : Env} {a : Act} (h : nQ ds μ nt U e a) {o : Oper} (ho : iI nt o = true) {cv : Value}
  (hU:∀ t, ¬ U' t→(∃ d,o.dst=some d∧d=t∧aX μ (lk e' t) cv)∨(o.dst≠some t∧¬ U t∧lk e' t=lk e t)):nQ ds μ nt U' e' (a.put o.dst cv):=by
 refine ⟨?_, ?_,fun t ht=>?_⟩
 ·cases hd:o.dst <;> simp [Act.put,h.1]
 ·cases hd:o.dst <;> simp [Act.put,h.2]
 ·rcases hU t ht with ⟨d, hd, rfl, hv⟩ | ⟨hd, hu, hl⟩
  ·have hlt : d < nt := by
    simp only [iI,hd] at ho
    exact Nat.le_of_ble_eq_true ho
   simp [hd,Act.put,h.1,hlt,hv]
  ·rw [hl]
   have:=h.3 t hu
   cases hd':o.dst with
   | none=>simpa [Act.put] using this
   | some d =>
    have hne:d≠t:=fun e=>hd (by rw [hd',e])
    simpa [Act.put,Array.getElem?_setIfInBounds_ne hne] using this
def mX (ops : Array Oper) (o : Oper) (e : Env) : Option Bool :=
 match o.guard with
 | none=>some true
 | some (j, want) =>
  match (ops[j]?).bind (·.dst) with
  | none=>some false
  | some t => match lk e t with
   | .b x=>some (x == want)
   | .tu _=>some false
   | _=>none
theorem uK {ops : Array Oper} {o : Oper} {e : Env} {A B : Env → Prop} (hk : f8 ops o e A B) :
  ∃ e',(∀ t,lk e' t=lk e t)∧((mX ops o e=some true∧A e')∨(mX ops o e=some false∧B e')):=by
 unfold f8 at hk
 unfold mX
 cases hg:o.guard with
 | none=>rw [hg] at hk; exact ⟨e,fun _=>rfl,.inl ⟨rfl,hk⟩⟩
 | some g =>
  obtain ⟨j,want⟩:=g
  rw [hg] at hk
  simp only at hk ⊢
  cases hd:(ops[j]?).bind (·.dst) with
  | none=>rw [hd] at hk; exact ⟨e,fun _=>rfl,.inr ⟨rfl,hk⟩⟩
  | some t =>
   rw [hd] at hk
   simp only at hk ⊢
   cases hl:lk e t with
   | b x =>
    rw [hl] at hk
    simp only at hk
    have up:∀ y,x=y→∀ t',lk (GAM.put e (some t) (.b y)) t'=lk e t':=by
     intro y hy t'
     rw [qL]
     split
     ·rename_i h1; injection h1 with h1; subst h1; subst hy; exact hl.symm
     ·rfl
    rcases nS hk with ⟨h1,hA⟩ | ⟨h1,hB⟩
    ·exact ⟨_,up _ h1,.inl ⟨by simp [h1],hA⟩⟩
    ·exact ⟨_,up _ h1,.inr ⟨by subst h1; cases want <;> rfl,hB⟩⟩
   | tu vs=>rw [hl] at hk; exact ⟨e,fun _=>rfl,.inr ⟨rfl,hk⟩⟩
   | _=>rw [hl] at hk; exact hk.elim
theorem lG {nt : Nat} {ops : Array Oper} {o : Oper} {e : Env} {a : Act} {b : Bool} (hE : bK ds μ nt (restr (o.looksAt ops) e) a) (hw : mX ops o e = some b) : Region.wanted o (yielded ops a.tmps) = b := by
 unfold mX at hw
 unfold Region.wanted
 cases hg:o.guard with
 | none=>rw [hg] at hw; injection hw
 | some g =>
  obtain ⟨j,want⟩:=g
  rw [hg] at hw
  simp only at hw ⊢
  cases hd:(ops[j]?).bind (·.dst) with
  | none =>
   rw [hd] at hw
   injection hw with hw
   subst hw
   simp [yielded,hd]
  | some t =>
   rw [hd] at hw
   simp only at hw
   have hm:t∈o.looksAt ops:=by unfold Oper.looksAt; simp [hg,hd]
   have hv:=hE.val t
   rw [nO e hm] at hv
   have hgd:a.tmps.getD t undef=(a.tmps[t]?).getD undef:=by
    by_cases ht:t<a.tmps.size
    ·simp [Array.getD,ht]
    ·simp [Array.getD,ht]
   rw [hgd] at hv
   have hy:yielded ops a.tmps j=match a.tmps[t]? with | some (.bool b)=>some b | _=>none:=by
    unfold yielded
    rw [hd]
    first | done | rfl
   rw [hy]
   cases hl:lk e t with
   | b x =>
    rw [hl] at hw hv
    simp only at hw
    injection hw with hw
    have hc:a.tmps[t]? = some (.bool x):=by
     cases hoc:a.tmps[t]? with
     | none=>rw [hoc] at hv; cases hv
     | some cv=>rw [hoc] at hv; cases hv; rfl
    rw [hc]
    subst hw
    simp
   | tu vs =>
    rw [hl] at hw hv
    injection hw with hw
    subst hw
    cases hoc:a.tmps[t]? with
    | none=>rfl
    | some cv=>rw [hoc] at hv; cases hv; rfl
   | _=>rw [hl] at hw; cases hw
theorem xH {ops:Array Oper} {o:Oper} {e e':Env} (h:∀ t∈o.looksAt ops,lk e t=lk e' t):mX ops o e=mX ops o e':=by
 unfold mX
 cases hg:o.guard with
 | none=>rfl
 | some g =>
  obtain ⟨j,want⟩:=g
  simp only
  cases hd:(ops[j]?).bind (·.dst) with
  | none=>rfl
  | some t =>
   have hm:t∈o.looksAt ops:=by unfold Oper.looksAt; simp [hg,hd]
   simp only [h t hm]
def rJ (P:Program) (ops:Array Oper) (o:Oper) (e:Env) (h:aA):Prop:=
 (mX ops o e=some true∧bX P o (restr (o.looksAt ops) e) h fun v=>cP P o v fun v=>dM e o.dst v)∨(mX ops o e=some false∧dM e o.dst (.tu []))
theorem rJ.congr {ops:Array Oper} {o:Oper} {e e':Env} (hl:∀ t∈o.looksAt ops,lk e t=lk e' t) (hd:∀ d,o.dst=some d→lk e d=lk e' d) (hp:rJ P ops o e h):rJ P ops o e' h:=by
 have hs:∀ v,dM e o.dst v=dM e' o.dst v:=by
  intro v
  unfold dM
  cases hd':o.dst with
  | none=>rfl
  | some d=>simp only [hd d hd']
 unfold rJ at *
 rw [← xH hl, ← pJ hl]
 simpa only [hs] using hp
theorem rJ.heap {ops:Array Oper} {o:Oper} {e:Env} {h':aA} (hr:jY P o=false) (hp:rJ P ops o e h):rJ P ops o e h':=
 hp.imp (fun ⟨h1,h2⟩=>⟨h1,aL8 hr h2⟩) id
theorem aF4 {ops : Array Oper} {o : Oper} {e : Env} {A : Prop} (hk : xR P ops o e h A) : rJ P ops o e h ∧ A := by
 have go:(bX P o (restr (o.looksAt ops) e) h fun v=>cP P o v fun v=>dM e o.dst v∧A)→(bX P o (restr (o.looksAt ops) e) h fun v=>cP P o v fun v=>dM e o.dst v)∧A:=by
  intro hk
  obtain ⟨v,h1,h2⟩:=tW hk
  obtain ⟨v',h3,h4⟩:=zE h1
  exact ⟨h2 _ (h4 _ h3.1),h3.2⟩
 unfold xR at hk
 unfold rJ mX
 cases hg:o.guard with
 | none=>rw [hg] at hk; obtain ⟨h1,h2⟩:=go hk; exact ⟨.inl ⟨rfl,h1⟩,h2⟩
 | some g =>
  obtain ⟨j,want⟩:=g
  rw [hg] at hk
  simp only at hk ⊢
  cases hd:(ops[j]?).bind (·.dst) with
  | none=>rw [hd] at hk; exact ⟨.inr ⟨rfl,hk.1⟩,hk.2⟩
  | some t =>
   rw [hd] at hk
   simp only at hk ⊢
   cases hl:lk e t with
   | b x =>
    rw [hl] at hk
    rcases nS hk with ⟨h1,hA⟩ | ⟨h1,hB⟩
    ·obtain ⟨h3,h4⟩:=go hA; exact ⟨.inl ⟨by simp [h1],h3⟩,h4⟩
    ·exact ⟨.inr ⟨by subst h1; cases want <;> rfl,hB.1⟩,hB.2⟩
   | tu vs=>rw [hl] at hk; exact ⟨.inr ⟨rfl,hk.1⟩,hk.2⟩
   | _=>rw [hl] at hk; exact hk.elim
theorem jI {ops : Array Oper} {i : Nat} {e : Env} {A : Prop} : ∀ {D : List Nat}, iV P ops i e h A D → A ∧ ∀ k ∈ D, ∀ o, ops[k]? = some o → jY P o = true → eO P o = false → nN ops i k = false → rJ P ops o e h
 | [],hk=>⟨hk,fun _ h=>by cases h⟩
 | k :: D, hk => by
  unfold iV at hk
  cases ho:ops[k]? with
  | none =>
   rw [ho] at hk
   obtain ⟨h1,h2⟩:=jI hk
   refine ⟨h1,fun k' hm o ho'=>?_⟩
   rcases List.mem_cons.1 hm with rfl | hm
   ·rw [ho] at ho'; cases ho'
   ·exact h2 k' hm o ho'
  | some o =>
   rw [ho] at hk
   simp only at hk
   cases hc:jY P o && !eO P o && !nN ops i k with
   | true =>
    rw [hc] at hk
    obtain ⟨h0,hk⟩:=aF4 hk
    obtain ⟨h1,h2⟩:=jI hk
    refine ⟨h1,fun k' hm o' ho'=>?_⟩
    rcases List.mem_cons.1 hm with rfl | hm
    ·rw [ho] at ho'; injection ho' with ho'; subst ho'; exact fun _ _ _=>h0
    ·exact h2 k' hm o' ho'
   | false =>
    rw [hc] at hk
    obtain ⟨h1,h2⟩:=jI hk
    refine ⟨h1,fun k' hm o' ho'=>?_⟩
    rcases List.mem_cons.1 hm with rfl | hm
    ·rw [ho] at ho'; injection ho' with ho'; subst ho'
     intro g1 g2 g3
     rw [g1,g2,g3] at hc
     cases hc
    ·exact h2 k' hm o' ho'
end
end Go.GAM
namespace Go.GAM
section
variable {ds:List Deferred} {rd:Option Nat} {P:Program} {w0:World} {Fz:Nat→Prop} {nt:Nat} {ops:Array Oper}
def k9 (ops:Array Oper):List Nat→Prop
 | []=>True
 | k :: D=>(∃ o,ops[k]? = some o∧∀ ed∈o.after,Region.binds .any ed=true→ed.on∈D)∧k9 ops D
structure gU (ds:List Deferred) (P:Program) (w0:World) (Fz:Nat→Prop) (nt:Nat) (ops:Array Oper) (μ0:Mu) (listed:Array Bool) (a:Act) (w:World) (μ:Mu) (own:Nat→Option Nat) (e:Env) (h:aA) (D U:List Nat):Prop where
 rel:Rel w0 Fz μ own h w
 sub:Sub μ0 μ
 env:nQ ds μ nt (fun t=>∃ k∈U,uC ops k=some t) e a
 size:listed.size=ops.size
 list:∀ j,j<ops.size→(listed.getD j false=true↔(j∈D∧j ∉ U))
 inD:∀ k∈U,k∈D
 pend:∀ k∈U, ∃ o,ops[k]? = some o∧iI nt o=true∧eO P o=false∧rJ P ops o e h
 apart:∀ k∈U, ∀ j∈U,mJ ops j k=true→lA ops k j=true
 ordd:k9 ops D
 closed:∀ j k,listed.getD j false=true→lA ops j k=true→listed.getD k false=true
theorem aC4 {T : Nat → Prop} (hT : ∀ x j, T x → lA ops x j = true → T j) : ∀ (n : Nat) (s : List Nat), (∀ x ∈ s, T x) → ∀ x ∈ aRN ops n s, T x
 | 0,s,hs,x,hx=>hs x hx
 | j + 1, s, hs, x, hx => by
  unfold aRN at hx
  refine aC4 hT j _ (fun y hy=>?_) x hx
  cases hb:s.any (fun x=>Region.waitsFor .any ops x j) with
  | true =>
   rw [hb] at hy
   rcases List.mem_cons.1 hy with rfl | hy
   ·obtain ⟨z, hz, hw⟩ := List.any_eq_true.1 hb
    exact hT z _ (hs z hz) hw
   ·exact hs y hy
  | false=>rw [hb] at hy; exact hs y hy
theorem r9 {listed:Array Bool} {i k:Nat} (h:listed.getD k false=true):(listed.setIfInBounds i true).getD k false=true:=by
 by_cases hik:i=k
 ·subst hik
  by_cases hs:i<listed.size
  ·simp [hs]
  ·have : listed.getD i false = false := by simp [hs]
   rw [this] at h; cases h
 ·rw [getD_set_ne false hik]; exact h
theorem fP {listed:Array Bool} {x k:Nat} (hr:x∈Region.ready .any ops listed) (hw:lA ops x k=true):listed.getD k false=true:=by
 obtain ⟨_,o,ho,hall⟩:=mem_ready.1 hr
 obtain ⟨o',ho',e,he,hb,rfl⟩:=Region.waitsFor_spec hw
 rw [ho] at ho'
 injection ho' with ho'
 subst ho'
 exact hall e he hb
theorem mO {listed:Array Bool} {x:Nat} (hr:x∈Region.ready .any ops listed):x<ops.size:=by
 obtain ⟨_,o,ho,_⟩:=mem_ready.1 hr
 exact (Array.getElem?_eq_some_iff.1 ho).1
theorem aG1 {x y:Nat} {o o':Oper} (ho:ops[x]? = some o) (ho':ops[y]? = some o') {d:Nat} (hd:o.dst=some d) (hm:d∈o'.looksAt ops):mJ ops x y=true:=by
 unfold mJ uC aO2
 simp [ho,ho',hd,hm]
theorem wL {x y:Nat} {o o':Oper} (ho:ops[x]? = some o) (ho':ops[y]? = some o') (hc:mJ ops x y=false) {t:Nat} (ht:t∈o'.looksAt ops):o.dst≠some t:=by
 intro hd
 rw [aG1 ho ho' hd ht] at hc
 cases hc
theorem xO {x y:Nat} {o o':Oper} (ho:ops[x]? = some o) (ho':ops[y]? = some o') (hc:qR ops x y=false) {t:Nat} (ht:o'.dst=some t):o.dst≠some t:=by
 intro hd
 unfold qR uC at hc
 simp [ho,ho',hd,ht] at hc
variable {μ0:Mu} {listed:Array Bool} {a:Act} {w:World} {μ:Mu} {own:Nat→Option Nat} {e:Env} {h:aA} {D U:List Nat}
theorem rU {listed:Array Bool} {i:Nat} (h:i<listed.size):(listed.setIfInBounds i true).getD i false=true:=by simp [h]
theorem gU.unlisted (J:gU ds P w0 Fz nt ops μ0 listed a w μ own e h D U) {k:Nat} (hk:k∈U):listed.getD k false=false:=by
 obtain ⟨o,ho,_⟩:=J.pend k hk
 cases hl:listed.getD k false with
 | false=>rfl
 | true=>exact absurd hk ((J.list k (Array.getElem?_eq_some_iff.1 ho).1).1 hl).2
theorem gU.seen (J:gU ds P w0 Fz nt ops μ0 listed a w μ own e h D U) {x:Nat} {o:Oper} (ho:ops[x]? = some o) (hr:x∈Region.ready .any ops listed)
  (hc:∀ j∈U,mJ ops j x=true→lA ops x j=true):bK ds μ nt (restr (o.looksAt ops) e) a:=by
 refine J.env.restr fun t ht ⟨k,hk,hd⟩=>?_
 unfold uC at hd
 obtain ⟨ok,hok,hd⟩:=Option.bind_eq_some_iff.1 hd
 have h1:=fP hr (hc k hk (aG1 hok ho hd ht))
 rw [J.unlisted hk] at h1
 cases h1
theorem gU.closed_set (J:gU ds P w0 Fz nt ops μ0 listed a w μ own e h D U) {x:Nat} (hr:x∈Region.ready .any ops listed):∀ j k,(listed.setIfInBounds x true).getD j false=true→lA ops j k=true→(listed.setIfInBounds x true).getD k false=true:=by
 intro j k hj hw
 by_cases hjx:j=x
 ·subst hjx; exact r9 (fP hr hw)
 ·rw [getD_set_ne false (Ne.symm hjx)] at hj
  exact r9 (J.closed j k hj hw)
theorem gU.take {R : a0} {μb : Mu} (hR : cA P w0 Fz μb R) (hsb : Sub μb μ0) (J : gU ds P w0 Fz nt ops μ0 listed a w μ own e h D U) {x : Nat} (hx : x ∈ U) (hr : x ∈ Region.ready .any ops listed)
  {next:Act→World→Prop} {Q:Exit→Act→World→Prop}
  (hn:∀ a' w' μ' own',gU ds P w0 Fz nt ops μ0 (listed.setIfInBounds x true) a' w' μ' own' e h D (U.filter (· != x))→next a' w'):wpOpIn (FR rd) 0 P ops Q x next a w:=by
 obtain ⟨o,ho,hd,hne,hp⟩:=J.pend x hx
 have hE:=J.seen ho hr (J.apart x hx)
 have hxs:=mO hr
 have key:∀ cv μ' own' w',Rel w0 Fz μ' own' h w'→Sub μ μ'→(∀ d,o.dst=some d→aX μ' (lk e d) cv) →
   gU ds P w0 Fz nt ops μ0 (listed.setIfInBounds x true) (a.put o.dst cv) w' μ' own' e h D (U.filter (· != x)):=by
  intro cv μ' own' w' g1 g2 g3
  have hmem:∀ k,k∈U.filter (· != x)↔k∈U∧k≠x:=by intro k; simp
  refine ⟨g1,J.sub.trans g2, ?_,by simp [J.size],fun j hj=>?_,fun k hk=>J.inD k ((hmem k).1 hk).1,fun k hk=>?_,fun k hk j hj=>J.apart k ((hmem k).1 hk).1 j ((hmem j).1 hj).1,J.ordd,J.closed_set hr⟩
  ·refine (J.env.mono g2).put hd fun t ht => ?_
   by_cases hdt:o.dst=some t
   ·exact .inl ⟨t,hdt,rfl,g3 t hdt⟩
   ·refine .inr ⟨hdt, fun ⟨k, hk, hkd⟩ => ?_, rfl⟩
    by_cases hkx:k=x
    ·subst hkx
     unfold uC at hkd
     rw [ho] at hkd
     exact hdt hkd
    ·exact ht ⟨k,(hmem k).2 ⟨hk,hkx⟩,hkd⟩
  ·by_cases hjx : j = x
   ·subst hjx
    rw [rU (by rw [J.size]; exact hxs)]
    simp only [true_iff]
    exact ⟨J.inD j hx,fun hm=>((hmem j).1 hm).2 rfl⟩
   ·rw [getD_set_ne false (Ne.symm hjx), J.list j hj, hmem]
    exact ⟨fun ⟨h1,h2⟩=>⟨h1,fun h3=>h2 h3.1⟩,fun ⟨h1,h2⟩=>⟨h1,fun h3=>h2 ⟨h3,hjx⟩⟩⟩
  ·exact J.pend k ((hmem k).1 hk).1
 unfold wpOpIn
 simp only [ho]
 rcases hp with ⟨hw,hk⟩ | ⟨hw,hs⟩
 ·rw [if_pos (lG hE hw)]
  refine aAE hR (hsb.trans J.sub) J.rel hE (K:=fun v h'=>h'=h∧cP P o v fun v=>dM e o.dst v) ?_ fun v cv μ' own' h' w' h1 h2 h3 h4=>?_
  ·unfold aop
   rw [hne]
   simp only [cond_false]
   obtain ⟨v,h1,h2⟩:=tW hk
   exact h2 (fun v=>True∧cP P o v fun v=>dM e o.dst v) ⟨trivial,h1⟩
  ·obtain ⟨rfl, h1⟩ := h1
   have h1:=fY h2 h1
   refine hn _ _ _ _ (key cv μ' own' w' h3 h4 fun d hd'=>?_)
   simp only [dM,hd'] at h1
   rw [h1]; exact h2
 ·rw [if_neg (by simp [lG hE hw])]
  refine ⟨fun _ _=>trivial, ?_⟩
  refine hn _ _ _ _ (key undef μ own w J.rel (Sub.refl _) fun d hd'=>?_)
  simp only [dM,hd'] at hs
  rw [hs]; exact .tu [] #[] .nil
theorem vM {eff:Bool} {x:Nat} (hf:xX ops eff D x=true) :
  (∀ j∈D,(mJ ops j x=true→lA ops x j=true)∧((mJ ops x j=false∧qR ops x j=false)∨(eff=true∧lA ops x j=true))) ∧
  (∃ o,ops[x]? = some o∧∀ ed∈o.after,Region.binds .any ed=true→ed.on∈D)∧x ∉ D∧(eff=false→mJ ops x x=false):=by
 unfold xX at hf
 simp only [Bool.and_eq_true,List.all_eq_true,Bool.or_eq_true,Bool.not_eq_true',Bool.not_eq_eq_eq_not,Bool.not_true] at hf
 obtain ⟨⟨⟨h1,h2⟩,h3⟩,h4⟩:=hf
 refine ⟨fun j hj=>⟨fun hc=>?_, ?_⟩, ?_, ?_, ?_⟩
 ·rcases (h1 j hj).1 with h | h
  ·rw [h] at hc; cases hc
  ·exact h
 ·exact (h1 j hj).2
 ·cases ho : ops[x]? with
  | none=>rw [ho] at h2; cases h2
  | some o =>
   rw [ho] at h2
   refine ⟨o,rfl,fun ed he hb=>?_⟩
   simp only [Array.all_eq_true_iff_forall_mem,Bool.or_eq_true,Bool.not_eq_true'] at h2
   rcases h2 ed he with h | h
   ·rw [h] at hb; cases hb
   ·simpa using h
 ·simpa using h3
 ·intro he
  rcases h4 with h | h
  ·rw [h] at he; cases he
  ·exact h
theorem gU.neu (J : gU ds P w0 Fz nt ops μ0 listed a w μ own e h D U) {x : Nat} {o : Oper} (ho : ops[x]? = some o) (hf : xX ops false D x = true) (hd : iI nt o = true) (hne : eO P o = false)
  {e1:Env} (he1:∀ t,lk e1 t=lk e t) {v:AV} (hp:(mX ops o e=some true∧∀ K':AV→Prop,K' v→bX P o (restr (o.looksAt ops) e1) h fun v=>cP P o v K')∨(mX ops o e=some false∧v = .tu [])) :
  gU ds P w0 Fz nt ops μ0 listed a w μ own (put e1 o.dst v) h (x :: D) (x :: U):=by
 obtain ⟨hD,hE,hxD,hxx⟩:=vM hf
 have hxx:=hxx rfl
 have hl:∀ t,o.dst≠some t→lk (put e1 o.dst v) t=lk e t:=fun t ht=>by rw [qL,if_neg ht,he1]
 have hfree:∀ j∈D,mJ ops x j=false∧qR ops x j=false:=fun j hj=>((hD j hj).2).resolve_right (by simp)
 refine ⟨J.rel,J.sub, ?_,J.size,fun j hj=>?_,fun k hk=>?_,fun k hk=>?_,fun k hk j hj hc=>?_,⟨hE,J.ordd⟩,J.closed⟩
 ·refine ⟨J.env.1, J.env.2, fun t ht => ?_⟩
  have h1:o.dst≠some t:=fun hd=>ht ⟨x,by simp,by unfold uC; rw [ho]; exact hd⟩
  rw [hl t h1]
  exact J.env.3 t fun ⟨k,hk,hkd⟩=>ht ⟨k,by simp [hk],hkd⟩
 ·rw [J.list j hj]
  by_cases hjx:j=x
  ·subst hjx; simp [hxD]
  ·simp [hjx]
 ·rcases List.mem_cons.1 hk with rfl | hk
  ·simp
  ·exact List.mem_cons_of_mem _ (J.inD k hk)
 ·rcases List.mem_cons.1 hk with rfl | hk
  ·refine ⟨o, ho, hd, hne, ?_⟩
   have hs:dM (put e1 o.dst v) o.dst v:=by
    unfold dM
    cases hd':o.dst with
    | none=>trivial
    | some d=>simp only [qL,if_true]
   have hlk:∀ t∈o.looksAt ops,lk (put e1 o.dst v) t=lk e1 t:=fun t ht=>by rw [qL,if_neg (wL ho ho hxx ht)]
   have hlk2:∀ t∈o.looksAt ops,lk (put e1 o.dst v) t=lk e t:=fun t ht=>by rw [hlk t ht,he1]
   unfold rJ
   rw [xH hlk2,pJ hlk]
   rcases hp with ⟨h1,h2⟩ | ⟨h1,h2⟩
   ·exact .inl ⟨h1,h2 _ hs⟩
   ·exact .inr ⟨h1,h2 ▸ hs⟩
  ·obtain ⟨ok, hok, h1, h2, h3⟩ := J.pend k hk
   have hf:=hfree k (J.inD k hk)
   exact ⟨ok,hok,h1,h2,h3.congr (fun t ht=>(hl t (wL ho hok hf.1 ht)).symm) fun d hd=>(hl d (xO ho hok hf.2 hd)).symm⟩
 ·rcases List.mem_cons.1 hk with hkx | hk'
  ·rcases List.mem_cons.1 hj with hjx | hj'
   ·rw [hkx,hjx,hxx] at hc; cases hc
   ·rw [hkx] at hc ⊢; exact (hD j (J.inD j hj')).1 hc
  ·rcases List.mem_cons.1 hj with hjx | hj'
   ·rw [hjx,(hfree k (J.inD k hk')).1] at hc; cases hc
   ·exact J.apart k hk' j hj' hc
end
end Go.GAM
namespace Go.GAM
section
variable {ds:List Deferred} {rd:Option Nat} {P:Program} {w0:World} {Fz:Nat→Prop} {nt:Nat} {ops:Array Oper}
variable {μ0:Mu} {listed:Array Bool} {a:Act} {w:World} {μ:Mu} {own:Nat→Option Nat} {e:Env} {h:aA} {D U:List Nat}
theorem Rel.same (R:Rel w0 Fz μ own h w) {w':World} (hs:dY w w') (hsz:w.heap.size≤w'.heap.size) (h1:w'.os=w.os) (h2:w'.tape=w.tape) (h3:w'.output=w.output):Rel w0 Fz μ own h w':=
 R.step h1 h2 h3 hsz (fun B hB=>hs B (Nat.lt_of_lt_of_le (R.fz B hB).1 R.size0)) (fun B id hB=>Nat.lt_of_lt_of_le (R.ownlt B id hB) hsz) (Sub.refl _) R.mulen
  fun id b hb=>.inl ⟨hb,fun _=>rfl,fun B hB=>⟨hB,hs B (R.ownlt B id hB)⟩⟩
def aM9 (P : Program) (R : a0) (nt : Nat) (ops : Array Oper) (i : Nat) (o : Oper) (r : Ord) (D : List Nat) (e : Env) (h : aA) (K : Env → aA → Prop) : Prop :=
 f8 ops o e (fun e=>aop P R o (restr (o.looksAt ops) e) h fun v h'=>cP P o v fun v=>
   bif eO P o then iV P ops i (put e o.dst v) h' (iB P R nt ops r (i :: D) (put e o.dst v) h' K) D else iB P R nt ops r (i :: D) (put e o.dst v) h' K)
  (fun e=>iB P R nt ops r (i :: D) (put e o.dst (.tu [])) h K)
theorem gU.eff {R : a0} {μb : Mu} (hR : cA P w0 Fz μb R) (hsb : Sub μb μ0) {K : Env → aA → Prop} (J : gU ds P w0 Fz nt ops μ0 listed a w μ own e h D U) {x : Nat} {o : Oper} {r : Ord} (ho : ops[x]? = some o) (hr : x ∈ Region.ready .any ops listed)
  (hf:xX ops true D x=true) (hd:iI nt o=true) (hk:aM9 P R nt ops x o r D e h K) {next:Act→World→Prop} {Q:Exit→Act→World→Prop}
  (hn:∀ a' w' μ' own' e' h',gU ds P w0 Fz nt ops μ0 (listed.setIfInBounds x true) a' w' μ' own' e' h' (x :: D) U→iB P R nt ops r (x :: D) e' h' K→next a' w'):wpOpIn (FR rd) 0 P ops Q x next a w:=by
 obtain ⟨hD,hEd,hxD,_⟩:=vM hf
 have hxs:=mO hr
 have hxU:x ∉ U:=fun hm=>hxD (J.inD x hm)
 have hE0:=J.seen ho hr fun j hj=>(hD j (J.inD j hj)).1
 obtain ⟨e1,he1,hk⟩:=uK hk
 have hre:restr (o.looksAt ops) e1=restr (o.looksAt ops) e:=pJ fun t _=>he1 t
 have hl:∀ v t,o.dst≠some t→lk (put e1 o.dst v) t=lk e t:=fun v t ht=>by rw [qL,if_neg ht,he1]
 have hC : ∀ k ∈ U, nN ops x k = false := by
  intro k hk
  cases hw:nN ops x k with
  | false=>rfl
  | true =>
   exfalso
   unfold nN at hw
   rw [Bool.or_eq_true] at hw
   rcases hw with hw | hw
   ·have:=fP hr hw; rw [J.unlisted hk] at this; cases this
   ·obtain ⟨y, hy, hb⟩ := List.any_eq_true.1 hw
    have hb:k=y:=Nat.eq_of_beq_eq_true hb
    subst hb
    have:=aC4 (T:=fun y=>y=x∨listed.getD y false=true) (fun z j hz hwz=>by
     rcases hz with rfl | hz
     ·exact .inr (fP hr hwz)
     ·exact .inr (J.closed z j hz hwz)) x [x] (fun y hy=>.inl (by simpa using hy)) k hy
    rcases this with ex | this
    ·exact hxU (ex ▸ hk)
    ·rw [J.unlisted hk] at this; cases this
 have hfree:∀ k∈U,mJ ops x k=false∧qR ops x k=false∧lA ops x k=false:=by
  intro k hk
  have hw:lA ops x k=false:=by
   cases hw:lA ops x k with
   | false=>rfl
   | true=>have:=fP hr hw; rw [J.unlisted hk] at this; cases this
  rcases (hD k (J.inD k hk)).2 with ⟨h1,h2⟩ | ⟨_,h2⟩
  ·exact ⟨h1,h2,hw⟩
  ·rw [hw] at h2; cases h2
 have key:∀ v cv μ' own' h' w',Rel w0 Fz μ' own' h' w'→Sub μ μ'→aX μ' v cv→(∀ k∈U, ∀ ok,ops[k]? = some ok→eO P ok=false→rJ P ops ok e h→rJ P ops ok (put e1 o.dst v) h') →
   gU ds P w0 Fz nt ops μ0 (listed.setIfInBounds x true) (a.put o.dst cv) w' μ' own' (put e1 o.dst v) h' (x :: D) U:=by
  intro v cv μ' own' h' w' g1 g2 g3 g4
  refine ⟨g1,J.sub.trans g2, ?_,by simp [J.size],fun j hj=>?_,fun k hk=>List.mem_cons_of_mem _ (J.inD k hk),fun k hk=>?_,J.apart,⟨hEd,J.ordd⟩,J.closed_set hr⟩
  ·refine (J.env.mono g2).put hd fun t ht => ?_
   by_cases hdt:o.dst=some t
   ·exact .inl ⟨t,hdt,rfl,by rw [qL,if_pos hdt]; exact g3⟩
   ·exact .inr ⟨hdt,ht,hl v t hdt⟩
  ·by_cases hjx : j = x
   ·subst hjx
    rw [rU (by rw [J.size]; exact hxs)]
    simp [hxU]
   ·rw [getD_set_ne false (Ne.symm hjx), J.list j hj]
    simp [hjx]
  ·obtain ⟨ok, hok, h1, h2, h3⟩ := J.pend k hk
   exact ⟨ok,hok,h1,h2,g4 k hk ok hok h2 h3⟩
 have same:∀ v k,k∈U→∀ ok,ops[k]? = some ok→∀ h',rJ P ops ok e h'→rJ P ops ok (put e1 o.dst v) h':=by
  intro v k hk ok hok h' hp
  have hf:=hfree k hk
  exact hp.congr (fun t ht=>(hl v t (wL ho hok hf.1 ht)).symm) fun d hd=>(hl v d (xO ho hok hf.2.1 hd)).symm
 unfold wpOpIn
 simp only [ho]
 rcases hk with ⟨hw,hk⟩ | ⟨hw,hk⟩
 ·rw [if_pos (lG hE0 hw)]
  rw [hre] at hk
  cases hne:eO P o with
  | false =>
   refine aAE hR (hsb.trans J.sub) J.rel hE0 (K:=fun v h'=>h'=h∧cP P o v fun v=>iB P R nt ops r (x :: D) (put e1 o.dst v) h K) ?_ fun v cv μ' own' h' w' h1 h2 h3 h4=>?_
   ·unfold aop at hk ⊢
    rw [hne] at hk ⊢
    simp only [cond_false] at hk ⊢
    obtain ⟨v,h1,h2⟩:=tW hk
    exact h2 (fun v=>True∧cP P o v fun v=>iB P R nt ops r (x :: D) (put e1 o.dst v) h K) ⟨trivial,h1⟩
   ·obtain ⟨rfl, h1⟩ := h1
    have h1:=fY h2 h1
    exact hn _ _ _ _ _ _ (key v cv μ' own' _ w' h3 h4 h2 fun k hk ok hok hke hp=>same v k hk ok hok _ hp) h1
  | true =>
   refine aAE hR (hsb.trans J.sub) J.rel hE0 hk fun v cv μ' own' h' w' h1 h2 h3 h4=>?_
   simp only [hne,cond_true] at h1
   have h1:=fY h2 h1
   obtain ⟨h1,hag⟩:=jI h1
   refine hn _ _ _ _ _ _ (key v cv μ' own' h' w' h3 h4 h2 fun k hk ok hok hke hp=>?_) h1
   cases hrd:jY P ok with
   | true=>exact hag k (J.inD k hk) ok hok hrd hke (hC k hk)
   | false=>exact (same v k hk ok hok _ hp).heap hrd
 ·rw [if_neg (by simp [lG hE0 hw])]
  refine ⟨fun _ _=>trivial, ?_⟩
  exact hn _ _ _ _ _ _ (key (.tu []) undef μ own h w J.rel (Sub.refl _) (.tu [] #[] .nil) fun k hk ok hok hke hp=>same _ k hk ok hok _ hp) hk
end
end Go.GAM
namespace Go.GAM
section
variable {ds:List Deferred} {rd:Option Nat} {P:Program} {w0:World} {Fz:Nat→Prop} {nt:Nat} {ops:Array Oper}
variable {μ0:Mu} {listed:Array Bool} {a:Act} {w:World} {μ:Mu} {own:Nat→Option Nat} {e:Env} {h:aA} {D U:List Nat}
def unl (listed:Array Bool) (n:Nat):Nat:=((List.range n).filter fun j=>!listed.getD j true).length
theorem aSC {n x:Nat} (hx:x<n) (hu:listed.getD x true=false) (hs:listed.size=n):unl (listed.setIfInBounds x true) n<unl listed n:=by
 unfold unl
 have h1:(List.range n).filter (fun j=>!(listed.setIfInBounds x true).getD j true)=((List.range n).filter fun j=>!listed.getD j true).filter (fun j=>decide (j≠x)):=by
  rw [List.filter_filter]
  refine List.filter_congr fun j hj=>?_
  by_cases hjx:x=j
  ·subst hjx
   have:(listed.setIfInBounds x true).getD x true=true:=by simp [hs,hx]
   rw [this]; simp
  ·rw [getD_set_ne true hjx]
   have:j≠x:=fun e=>hjx e.symm
   simp [this]
 rw [h1]
 refine List.length_filter_lt_length_iff_exists.2 ⟨x, ?_,by simp⟩
 rw [List.mem_filter]
 exact ⟨List.mem_range.2 hx,by rw [hu] <;> rfl⟩
theorem aNX {n x:Nat} (hx:x<n) (hu:listed.getD x true=false):0<unl listed n:=by
 unfold unl
 refine List.length_pos_of_mem (a:=x) ?_
 rw [List.mem_filter]
 exact ⟨List.mem_range.2 hx,by rw [hu] <;> rfl⟩
theorem k9.lt:∀ {D:List Nat},k9 ops D→∀ k∈D,k<ops.size
 | k :: D, hO, k', hk => by
  rcases List.mem_cons.1 hk with rfl | hk
  ·obtain ⟨⟨o,ho,_⟩,_⟩:=hO; exact (Array.getElem?_eq_some_iff.1 ho).1
  ·exact k9.lt hO.2 k' hk
theorem k9.first:∀ {D:List Nat},k9 ops D→(∃ k∈D,k∈U)→∃ k∈U, ∃ o,ops[k]? = some o∧∀ ed∈o.after,Region.binds .any ed=true→ed.on∈D∧ed.on ∉ U
 | [],_,⟨k,hk,_⟩=>by cases hk
 | k :: D, hO, hex => by
  by_cases hD:∃ k'∈D,k'∈U
  ·obtain ⟨k', hk', o, ho, hall⟩ := k9.first hO.2 hD
   exact ⟨k',hk',o,ho,fun ed he hb=>⟨List.mem_cons_of_mem _ (hall ed he hb).1,(hall ed he hb).2⟩⟩
  ·obtain ⟨⟨o, ho, hall⟩, _⟩ := hO
   obtain ⟨k',hk',hu⟩:=hex
   rcases List.mem_cons.1 hk' with rfl | hk'
   ·exact ⟨k',hu,o,ho,fun ed he hb=>⟨List.mem_cons_of_mem _ (hall ed he hb),fun hm=>hD ⟨_,hall ed he hb,hm⟩⟩⟩
   ·exact absurd ⟨k',hk',hu⟩ hD
theorem gU.getD (J:gU ds P w0 Fz nt ops μ0 listed a w μ own e h D U) {x:Nat} (hx:x<ops.size) (hl:listed.getD x false=false):listed.getD x true=false:=
 getD_in (by rw [J.size]; exact hx) hl
theorem gU.some_ready (J:gU ds P w0 Fz nt ops μ0 listed a w μ own e h D U) (hU:∃ k,k∈U):Region.ready .any ops listed≠[]:=by
 obtain ⟨k,hk⟩:=hU
 obtain ⟨k,hk,o,ho,hall⟩:=J.ordd.first ⟨k,J.inD k hk,hk⟩
 have hlt:=(Array.getElem?_eq_some_iff.1 ho).1
 have:k∈Region.ready .any ops listed:=mem_ready.2 ⟨J.getD hlt (J.unlisted hk),o,ho,fun ed he hb=>by
  have h1:=hall ed he hb
  exact (J.list _ (J.ordd.lt _ h1.1)).2 h1⟩
 intro h0; rw [h0] at this; cases this
theorem gU.head_ready (J:gU ds P w0 Fz nt ops μ0 listed a w μ own e h D []) {x:Nat} (hf:xX ops true D x=true):x∈Region.ready .any ops listed:=by
 obtain ⟨_,⟨o,ho,hall⟩,hxD,_⟩:=vM hf
 have hlt:=(Array.getElem?_eq_some_iff.1 ho).1
 refine mem_ready.2 ⟨J.getD hlt ?_,o,ho,fun ed he hb=>?_⟩
 ·cases hl : listed.getD x false with
  | false=>rfl
  | true=>exact absurd ((J.list x hlt).1 hl).1 hxD
 ·exact (J.list _ (J.ordd.lt _ (hall ed he hb))).2 ⟨hall ed he hb,by simp⟩
section
variable (ds rd P w0 Fz nt ops μ0)
def aOI (R : a0) (K : Env → aA → Prop) (Q : Exit → Act → World → Prop) (ord : Ord) : Prop :=
 ∀ (fuel : Nat) (listed : Array Bool) (a : Act) (w : World) (μ : Mu) (own : Nat → Option Nat) (e : Env) (h : aA) (D U : List Nat), gU ds P w0 Fz nt ops μ0 listed a w μ own e h D U → jD ops true ord D = true →
  iB P R nt ops ord D e h K→unl listed ops.size≤fuel→wpAnyIn (FR rd) 0 P .any ops Q fuel listed a w
def aP4 (R : a0) (K : Env → aA → Prop) (Q : Exit → Act → World → Prop) (ord : Ord) : Prop :=
 ∀ (b : Bool) (D : List Nat) (e : Env) (h : aA) (x : Nat), x ∈ aCY ord → jD ops b ord D = true → iB P R nt ops ord D e h K →
  ∃ o r,ops[x]? = some o∧aOI ds rd P w0 Fz nt ops μ0 R K Q r∧xX ops true D x=true∧iI nt o=true∧jD ops true r (x :: D)=true∧aM9 P R nt ops x o r D e h K
end
theorem aFU {R : a0} {μb : Mu} (hR : cA P w0 Fz μb R) (hsb : Sub μb μ0) {K : Env → aA → Prop} {Q : Exit → Act → World → Prop} {e : Env} {h : aA} {D : List Nat}
  (hnode:∀ listed a w μ own U,gU ds P w0 Fz nt ops μ0 listed a w μ own e h D U→Region.ready .any ops listed=[]→Q .normal a w)
  (hhead:∀ listed a w μ own U,gU ds P w0 Fz nt ops μ0 listed a w μ own e h D U→∀ x∈Region.ready .any ops listed,x ∉ U →
   ∃ o r,ops[x]? = some o∧aOI ds rd P w0 Fz nt ops μ0 R K Q r∧xX ops true D x=true∧iI nt o=true∧jD ops true r (x :: D)=true∧aM9 P R nt ops x o r D e h K) :
  ∀ (fuel:Nat) (listed:Array Bool) (a:Act) (w:World) (μ:Mu) (own:Nat→Option Nat) (U:List Nat),gU ds P w0 Fz nt ops μ0 listed a w μ own e h D U→unl listed ops.size≤fuel→wpAnyIn (FR rd) 0 P .any ops Q fuel listed a w:=by
 intro fuel
 induction fuel with
 | zero =>
  intro listed a w μ own U J hu
  have h0:Region.ready .any ops listed=[]:=by
   cases hr:Region.ready .any ops listed with
   | nil=>rfl
   | cons x l =>
    have hx:x∈Region.ready .any ops listed:=by rw [hr]; simp
    have:=aNX (mO hx) (mem_ready.1 hx).1
    omega
  exact ⟨h0,hnode _ _ _ _ _ _ J h0⟩
 | succ fuel ih =>
  intro listed a w μ own U J hu
  refine ⟨hnode _ _ _ _ _ _ J,fun x hx=>?_⟩
  have hlt:=aSC (mO hx) (mem_ready.1 hx).1 J.size
  by_cases hxU:x∈U
  ·exact J.take hR hsb hxU hx fun a' w' μ' own' J'=>ih _ _ _ _ _ _ J' (by omega)
  ·obtain ⟨o, r, ho, hG, hf, hd, hok, hk⟩ := hhead _ _ _ _ _ _ J x hx hxU
   exact J.eff hR hsb ho hx hf hd hk fun a' w' μ' own' e' h' J' hk'=>hG fuel _ _ _ _ _ _ _ _ _ J' hok hk' (by omega)
theorem aPY {R : a0} {μb : Mu} (hR : cA P w0 Fz μb R) (hsb : Sub μb μ0) {K : Env → aA → Prop} {Q : Exit → Act → World → Prop}
  (hQ:∀ e h a w μ own,K e h→Rel w0 Fz μ own h w→bK ds μ nt e a→Sub μ0 μ→Q .normal a w) :
  ∀ ord:Ord,aOI ds rd P w0 Fz nt ops μ0 R K Q ord∧aP4 ds rd P w0 Fz nt ops μ0 R K Q ord:=by
 intro ord
 induction ord with
 | stop =>
  refine ⟨fun fuel listed a w μ own e h D U J hok=>?_,fun b D e h x hx=>by cases hx⟩
  simp [jD] at hok
 | done =>
  refine ⟨fun fuel listed a w μ own e h D U J hok hk hu=>?_,fun b D e h x hx=>by cases hx⟩
  simp only [jD,List.all_eq_true,List.mem_range] at hok
  have hall:∀ j<ops.size,j∈D:=fun j hj=>by simpa using hok j hj
  refine aFU hR hsb (K:=K) (fun listed a w μ own U J h0=>?_) (fun listed a w μ own U J x hx hxU=>?_) fuel listed a w μ own U J hu
  ·have hU : ¬ ∃ k, k ∈ U := fun h1 => J.some_ready h1 h0
   refine hQ e h a w μ own hk J.rel ⟨J.env.1,J.env.2,fun t=>J.env.3 t fun ⟨k,hk,_⟩=>hU ⟨k,hk⟩⟩ J.sub
  ·have hlt := mO hx
   have h1:=(J.list x hlt).2 ⟨hall x hlt,hxU⟩
   have h2:=getD_both (mem_ready.1 hx).1
   rw [h1] at h2; cases h2
 | neu i r ih =>
  refine ⟨fun fuel listed a w μ own e h D U J hok hk hu=>?_,fun b D e h x hx=>by cases hx⟩
  simp only [jD,Bool.true_and,Bool.and_eq_true] at hok
  obtain ⟨hf,hok⟩:=hok
  unfold iB at hk
  cases ho:ops[i]? with
  | none=>rw [ho] at hk; exact hk.elim
  | some o =>
   rw [ho] at hk
   obtain ⟨hd,hk⟩:=aS hk
   simp only [Bool.and_eq_true,Bool.not_eq_true'] at hd
   obtain ⟨e1,he1,hk⟩:=uK hk
   rcases hk with ⟨hw,hk⟩ | ⟨hw,hk⟩
   ·obtain ⟨v, h1, h2⟩ := tW hk
    obtain ⟨v',h3,h4⟩:=zE h1
    exact ih.1 fuel _ _ _ _ _ _ _ _ _ (J.neu ho hf hd.1 hd.2 he1 (v:=v') (.inl ⟨hw,fun K' hK'=>h2 _ (h4 _ hK')⟩)) hok h3 hu
   ·exact ih.1 fuel _ _ _ _ _ _ _ _ _ (J.neu ho hf hd.1 hd.2 he1 (v:=.tu []) (.inr ⟨hw,rfl⟩)) hok hk hu
 | eff i r alt ihr iha =>
  have HH:aP4 ds rd P w0 Fz nt ops μ0 R K Q (.eff i r alt):=by
   intro b D e h x hx hok hk
   simp only [jD,Bool.and_eq_true] at hok
   obtain ⟨⟨⟨_,hf⟩,hr⟩,ha⟩:=hok
   unfold iB at hk
   cases ho:ops[i]? with
   | none=>rw [ho] at hk; exact hk.elim
   | some o =>
    rw [ho] at hk
    obtain ⟨hd,hk⟩:=aS hk
    have hk':aM9 P R nt ops i o r D e h K∧(alt.isStop=false→iB P R nt ops alt D e h K):=by
     cases hs:alt.isStop with
     | true=>rw [hs] at hk; exact ⟨hk,fun h=>by cases h⟩
     | false=>rw [hs] at hk; exact ⟨hk.1,fun _=>hk.2⟩
    simp only [aCY,List.mem_cons] at hx
    rcases hx with rfl | hx
    ·exact ⟨o,r,ho,ihr.1,hf,hd,hr,hk'.1⟩
    ·refine iha.2 false D e h x hx ha (hk'.2 ?_)
     cases alt <;> first | rfl | (simp [aCY] at hx)
  refine ⟨fun fuel listed a w μ own e h D U J hok hk hu=>?_,HH⟩
  have hok0:=hok
  simp only [jD,Bool.and_eq_true,Bool.not_true,Bool.false_or] at hok
  obtain ⟨⟨⟨hB,hf⟩,hr⟩,ha⟩:=hok
  refine aFU hR hsb (K:=K) (fun listed a w μ own U J h0=>?_) (fun listed a w μ own U J x hx hxU=>?_) fuel listed a w μ own U J hu
  ·exfalso
   have hU:¬ ∃ k,k∈U:=fun h1=>J.some_ready h1 h0
   have:U=[]:=by
    cases U with
    | nil=>rfl
    | cons k U=>exact absurd ⟨k,by simp⟩ hU
   subst this
   have:=J.head_ready hf
   rw [h0] at this; cases this
  ·refine HH true D e h x ?_ hok0 hk
   have hlt:=mO hx
   simp only [aSU,List.all_eq_true,List.mem_range,Bool.or_eq_true,List.any_eq_true,Bool.and_eq_true,Bool.not_eq_true'] at hB
   rcases hB x hlt with (h1 | h1) | ⟨j,hj,h1,h2⟩
   ·have hxD : x ∈ D := by simpa using h1
    have h1:=(J.list x hlt).2 ⟨hxD,hxU⟩
    have h2:=getD_both (mem_ready.1 hx).1
    rw [h1] at h2; cases h2
   ·simpa [aCY] using h1
   ·have h3 := fP hx h1
    have:=((J.list j hj).1 h3).1
    simp [this] at h2
theorem aH3 {R:a0} (hm:P.follows .mixedOrders=true) {μb:Mu} (hR:cA P w0 Fz μb R) (hsb:Sub μb μ) {K:Env→aA→Prop} {Q:Exit→Act→World→Prop} {id:Nat} {ord:Ord} (Rl:Rel w0 Fz μ own h w) (hE:bK ds μ nt e a)
  (hok:jD ops true ord []=true) (hk:iB P R nt ops ord [] e h K)
  (hQ:∀ e' h' a' w' μ' own',K e' h'→Rel w0 Fz μ' own' h' w'→bK ds μ' nt e' a'→Sub μ μ'→Q .normal a' w'):(Code.region id ops true).wpIn (FR rd) 0 P Q a w:=by
 refine wpIn_region_any hm ((aPY hR (μ0:=μ) hsb hQ ord).1 ops.size _ _ _ μ own e h [] [] ?_ hok hk ?_)
 ·refine ⟨Rl.same (fun _ _ => rfl) (Nat.le_refl _) rfl rfl rfl, Sub.refl _, ⟨hE.1, hE.2, fun t _ => hE.3 t⟩, by simp, fun j hj => ?_, by simp, by simp, by simp, trivial, fun j k hj _ => by rw [getD_replicate_false] at hj; cases hj⟩
  rw [getD_replicate_false]; simp
 ·unfold unl
  exact Nat.le_trans (List.length_filter_le _ _) (by simp)
end
end Go.GAM
namespace Go.GAM
section
variable {ds:List Deferred} {rd:Option Nat} {P:Program} {w0:World} {Fz:Nat→Prop} {μ:Mu} {own:Nat→Option Nat} {h:aA} {w:World}
def QK (ds:List Deferred) (w0:World) (Fz:Nat→Prop) (nt:Nat) (μ:Mu) (K:Kx):Exit→Act→World→Prop:=
 fun x a' w'=>∃ e' h' μ' own',K x e' h'∧Rel w0 Fz μ' own' h' w'∧bK ds μ' nt e' a'∧Sub μ μ'
theorem aE7 {R:a0} {μb:Mu} (hR:cA P w0 Fz μb R) {nt:Nat} {ops:Array Oper} {K:Env→aA→Prop} {Q:Exit→Act→World→Prop}:∀ (l:List Oper) (μ:Mu) (own:Nat→Option Nat) (e:Env) (h:aA) (a:Act) (w:World),
  Sub μb μ→Rel w0 Fz μ own h w→bK ds μ nt e a→aBD P R nt ops l e h K →
  (∀ e' h' a' w' μ' own',K e' h'→Rel w0 Fz μ' own' h' w'→bK ds μ' nt e' a'→Sub μ μ'→Q .normal a' w')→wpListIn (FR rd) 0 P ops Q l a w
 | [],μ,own,e,h,a,w,hsb,Rl,hE,hk,hQ=>hQ e h a w μ own hk Rl hE (Sub.refl _)
 | o :: l, μ, own, e, h, a, w, hsb, Rl, hE, hk, hQ => by
  obtain ⟨hd,hk⟩:=aS hk
  unfold wpListIn
  rcases uA hE hk with ⟨hw,e,hE,hk⟩ | ⟨hw,e,hE,hk⟩
  ·rw [if_pos hw]
   refine aAE hR hsb Rl hE hk fun v cv μ' own' h' w' h1 h2 h3 h4=>?_
   have h1:=fY h2 h1
   exact aE7 hR l μ' own' _ h' _ w' (hsb.trans h4) h3 ((hE.mono h4).put hd h2) h1 fun e2 h2 a2 w2 μ2 own2 g1 g2 g3 g4=>hQ e2 h2 a2 w2 μ2 own2 g1 g2 g3 (h4.trans g4)
  ·rw [if_neg (by simp [hw])]
   exact ⟨fun _ _=>trivial,aE7 hR l μ own _ h _ w hsb Rl (hE.put hd (.tu [] #[] .nil)) hk hQ⟩
theorem eF {b:Frame} {a:Act} {k:List Item} {cs:List Frame} {w:World} {c:Code}:step P (lone (b.atR a (.code (.scope c) :: k)) cs w) = .next (lone (b.atR a (.code c :: .inScope c :: k)) cs w):=
 step_lone_go (by simp [stepG,stepG.exec,Frame.atR])
theorem rZ {b:Frame} {a:Act} {k:List Item} {cs:List Frame} {w:World} {c:Code}:step P (lone (b.atR a (.inScope c :: k)) cs w) = .next (lone (b.atR a k) cs w):=
 step_lone_go (by simp [stepG,stepG.exec,Frame.atR])
theorem aJC {F:Fence} {n:Nat} {c:Code} {a:Act} {w:World} {Q:Exit→Act→World→Prop} (h:c.wpIn F n P (Exit.noGoto Q) a w):(Code.scope c).wpIn F n P Q a w:=by
 intro b k cs hro hb hr
 have h0:(lone (b.atR a (.code (.scope c) :: k)) cs w).fenced P F:=fenced_calm hb hr rfl
 obtain ⟨e,a₁,w₁,hq,harr⟩:=h b (.inScope c :: k) cs hro hb hr
 cases e with
 | normal=>exact ⟨.normal,a₁,w₁,hq,.head h0 eF (StepsIn.trans harr (.one (fenced_calm hb hr rfl) rZ))⟩
 | exit id =>
  have hx:exitTo id (.inScope c :: k)=exitTo id k:=by simp [exitTo]
  exact ⟨_,a₁,w₁,hq,fun k' hk=>.head h0 eF (harr.1 k' (by rw [hx]; exact hk)),
   fun hr' hk=>let ⟨k₁,h1,h2⟩:=harr.2 hr' (by rw [hx]; exact hk); ⟨k₁,h1,.head h0 eF h2⟩⟩
 | goto l=>exact hq.elim
 | ret=>exact ⟨_,a₁,w₁,hq,.of_steps (.one h0 eF) harr⟩
 | panic ch=>exact ⟨_,a₁,w₁,hq,.of_steps (.one h0 eF) harr⟩
 | outgrown=>exact ⟨_,a₁,w₁,hq,.of_steps (.one h0 eF) harr⟩
theorem aCZ:∀ (c:Code) (l:Nat),oM c l=(findLabel c l).isSome:=by
 intro c
 induction c with
 | seq a b iha ihb =>
  intro l
  simp only [oM,findLabel,iha,ihb]
  cases findLabel a l <;> simp
 | label l' =>
  intro l
  simp only [oM,findLabel]
  by_cases h:l'=l
  ·subst h; simp
  ·rw [lY h]; simp [h]
 | _=>intro l; simp [oM,findLabel]
theorem aLD {R : a0} (hm : P.follows .mixedOrders = true) {μb : Mu} (hR : cA P w0 Fz μb R) {nt : Nat} : ∀ (c : Code),
  (∀ (ann:Ann) (μ:Mu) (own:Nat→Option Nat) (e:Env) (h:aA) (K:Kx) (a:Act) (w:World),
   Sub μb μ→Rel w0 Fz μ own h w→bK ds μ nt e a→b9 P R nt ann c e h K→c.wpIn (FR rd) 0 P (QK ds w0 Fz nt μ K) a w) ∧
  (∀ (l:Nat) (rest:Code) (ann:Ann) (μ:Mu) (own:Nat→Option Nat) (e:Env) (h:aA) (K:Kx) (a:Act) (w:World),findLabel c l=some rest →
   Sub μb μ→Rel w0 Fz μ own h w→bK ds μ nt e a→aFrom P R nt ann c l e h K→rest.wpIn (FR rd) 0 P (QK ds w0 Fz nt μ K) a w):=by
 intro c
 induction c with
 | skip =>
  refine ⟨?_, ?_⟩
  ·intro ann μ own e h K a w hsb Rl hE hk; exact wpIn_skip ⟨e,h,μ,own,hk,Rl,hE,Sub.refl _⟩
  ·intro l rest ann μ own e h K a w hf; simp [findLabel] at hf
 | region id ops draw =>
  refine ⟨?_, ?_⟩
  ·intro ann μ own e h K a w hsb Rl hE hk
   simp only [b9] at hk
   cases draw with
   | false =>
    exact wpIn_region_list (aE7 hR _ μ own e h a w hsb Rl hE hk fun e' h' a' w' μ' own' g1 g2 g3 g4=>⟨e',h',μ',own',g1,g2,g3,g4⟩)
   | true =>
    simp only [cond_true] at hk
    obtain ⟨hB,hk⟩:=aS hk
    exact aH3 hm hR hsb Rl hE hB hk fun e' h' a' w' μ' own' g1 g2 g3 g4=>⟨e',h',μ',own',g1,g2,g3,g4⟩
  ·intro l rest ann μ own e h K a w hf; simp [findLabel] at hf
 | seq x y ihx ihy =>
  refine ⟨?_, ?_⟩
  ·intro ann μ own e h K a w hsb Rl hE hk
   simp only [b9] at hk
   refine wpIn_seq (wpIn_mono (ihx.1 _ μ own e h _ a w hsb Rl hE hk) ?_)
   rintro ex a' w' ⟨e',h',μ',own',g1,g2,g3,g4⟩
   cases ex with
   | normal =>
    exact wpIn_mono (ihy.1 _ μ' own' _ h' K a' w' (hsb.trans g4) g2 (g3.restr _) g1) fun ex a2 w2 ⟨e2,h2,μ2,own2,k1,k2,k3,k4⟩=>⟨e2,h2,μ2,own2,k1,k2,k3,g4.trans k4⟩
   | _=>exact ⟨e',h',μ',own',g1,g2,g3,g4⟩
  ·intro l rest ann μ own e h K a w hf hsb Rl hE hk
   simp only [aFrom] at hk
   have hl:=aCZ x l
   cases hx:findLabel x l with
   | none =>
    rw [hx,Option.isSome_none] at hl
    rw [hl,cond_false] at hk
    simp only [findLabel,hx] at hf
    exact ihy.2 l rest _ μ own e h K a w hf hsb Rl hE hk
   | some r =>
    rw [hx,Option.isSome_some] at hl
    rw [hl,cond_true] at hk
    simp only [findLabel,hx,Option.some.injEq] at hf
    subst hf
    refine wpIn_seq (wpIn_mono (ihx.2 l r _ μ own e h _ a w hx hsb Rl hE hk) ?_)
    rintro ex a' w' ⟨e',h',μ',own',g1,g2,g3,g4⟩
    cases ex with
    | normal =>
     exact wpIn_mono (ihy.1 _ μ' own' _ h' K a' w' (hsb.trans g4) g2 (g3.restr _) g1) fun ex a2 w2 ⟨e2,h2,μ2,own2,k1,k2,k3,k4⟩=>⟨e2,h2,μ2,own2,k1,k2,k3,g4.trans k4⟩
    | _=>exact ⟨e',h',μ',own',g1,g2,g3,g4⟩
 | cond c x y ihx ihy =>
  refine ⟨?_, ?_⟩
  ·intro ann μ own e h K a w hsb Rl hE hk
   simp only [b9] at hk
   rcases qX hk (Rl.ev hE c) with ⟨h1,h2⟩ | ⟨h1,h2⟩
   ·exact wpIn_cond_true h1 (ihx.1 _ μ own e h K a w hsb Rl hE h2)
   ·exact wpIn_cond_false h1 (ihy.1 _ μ own e h K a w hsb Rl hE h2)
  ·intro l rest ann μ own e h K a w hf; simp [findLabel] at hf
 | block id x ih =>
  refine ⟨?_, ?_⟩
  ·intro ann μ own e h K a w hsb Rl hE hk
   simp only [b9] at hk
   refine wpIn_block (wpIn_mono (ih.1 _ μ own e h _ a w hsb Rl hE hk) ?_)
   rintro ex a' w' ⟨e',h',μ',own',g1,g2,g3,g4⟩
   cases ex with
   | exit id' =>
    simp only [gP] at g1
    simp only [Exit.inBlock]
    by_cases hid:id'=id
    ·subst hid
     simp at g1
     rw [if_pos rfl]
     exact ⟨e',h',μ',own',g1,g2,g3,g4⟩
    ·rw [lY hid] at g1
     rw [if_neg hid]
     exact ⟨e',h',μ',own',g1,g2,g3,g4⟩
   | _=>exact ⟨e',h',μ',own',g1,g2,g3,g4⟩
  ·intro l rest ann μ own e h K a w hf; simp [findLabel] at hf
 | scope x ih =>
  refine ⟨?_, ?_⟩
  ·intro ann μ own e h K a w hsb Rl hE hk
   simp only [b9] at hk
   cases hg:pM x with
   | false =>
    rw [hg] at hk
    refine aJC (wpIn_mono (ih.1 ann.a μ own e h (wQ K) a w hsb Rl hE hk) ?_)
    rintro ex a' w' ⟨e',h',μ',own',g1,g2,g3,g4⟩
    cases ex <;> first | exact g1.elim | exact ⟨e',h',μ',own',g1,g2,g3,g4⟩
   | true =>
    rw [hg,cond_true] at hk
    let S:Nat→Env→aA→Prop:=fun l e h=>∀ (μ':Mu) (own':Nat→Option Nat) (a:Act) (w:World),Sub μ μ'→Rel w0 Fz μ' own' h w→bK ds μ' nt e a→∀ (rest:Code),findLabel x l=some rest→∀ (b:Frame) (k:List Item) (cs:List Frame),b.roundOf=rd→(FR rd).room (cs.length+1+0) →
     ∃ ex a' w',QK ds w0 Fz nt μ K ex a' w'∧ArrivesIn (Machine.fenced P (FR rd)) P (lone (b.atR a (.code rest :: .inScope x :: k)) cs w) b k cs ex a' w'
    have leave:∀ (I:Nat→Env→aA→Prop),(∀ l e h,I l e h→S l e h)→∀ (ex:Exit) (e1:Env) (h1:aA) (μ1:Mu) (own1:Nat→Option Nat) (a1:Act) (w1:World) (m:Machine),dX x I K ex e1 h1→Sub μ μ1→Rel w0 Fz μ1 own1 h1 w1→bK ds μ1 nt e1 a1 →
      ∀ (b:Frame) (k:List Item) (cs:List Frame),b.roundOf=rd→(FR rd).room (cs.length+1+0)→ArrivesIn (Machine.fenced P (FR rd)) P m b (.inScope x :: k) cs ex a1 w1→∃ ex a' w',QK ds w0 Fz nt μ K ex a' w'∧ArrivesIn (Machine.fenced P (FR rd)) P m b k cs ex a' w':=by
     intro I hI ex e1 h1 μ1 own1 a1 w1 m g1 g4 g2 g3 b k cs hro hb harr
     cases ex with
     | normal=>exact ⟨.normal,a1,w1,⟨e1,h1,μ1,own1,g1,g2,g3,g4⟩,StepsIn.trans harr (.one (fenced_calm (n:=0) trivial hb rfl) rZ)⟩
     | exit id =>
      have hx:exitTo id (.inScope x :: k)=exitTo id k:=by simp [exitTo]
      exact ⟨.exit id,a1,w1,⟨e1,h1,μ1,own1,g1,g2,g3,g4⟩,fun k' hk=>harr.1 k' (by rw [hx]; exact hk),fun hr' hk=>harr.2 hr' (by rw [hx]; exact hk)⟩
     | goto l =>
      have hl:=aCZ x l
      cases hf:findLabel x l with
      | some rest =>
       rw [hf,Option.isSome_some] at hl
       simp only [dX,hl,cond_true] at g1
       have hgo:gotoIn l (.inScope x :: k)=some (.code rest :: .inScope x :: k):=by simp [gotoIn,hf]
       obtain ⟨ex2,a2,w2,q2,arr2⟩:=hI _ _ _ g1 μ1 own1 a1 w1 g4 g2 g3 rest hf b k cs hro hb
       exact ⟨ex2,a2,w2,q2,.of_steps (harr.1 _ hgo) arr2⟩
      | none =>
       rw [hf,Option.isSome_none] at hl
       simp only [dX,hl,cond_false] at g1
       have hx:gotoIn l (.inScope x :: k)=gotoIn l k:=by simp [gotoIn,hf]
       exact ⟨.goto l,a1,w1,⟨e1,h1,μ1,own1,g1,g2,g3,g4⟩,fun k' hk=>harr.1 k' (by rw [hx]; exact hk),fun hr' hk=>harr.2 hr' (by rw [hx]; exact hk)⟩
     | ret=>exact ⟨_,a1,w1,⟨e1,h1,μ1,own1,g1,g2,g3,g4⟩,harr⟩
     | panic ch=>exact ⟨_,a1,w1,⟨e1,h1,μ1,own1,g1,g2,g3,g4⟩,harr⟩
     | outgrown=>exact ⟨_,a1,w1,⟨e1,h1,μ1,own1,g1,g2,g3,g4⟩,harr⟩
    have key:∀ l e h,lM (fun I l e h=>aFrom P R nt ann.a x l e h (dX x I K)) l e h→S l e h:=by
     intro l e h hJ
     refine hJ S fun l e h hF μ' own' a w hs Rl hE rest hf b k cs hro hb=>?_
     obtain ⟨ex,a1,w1,⟨e1,h1,μ1,own1,g1,g2,g3,g4⟩,harr⟩:=ih.2 l rest ann.a μ' own' e h _ a w hf (hsb.trans hs) Rl hE hF b (.inScope x :: k) cs hro trivial hb
     exact leave S (fun _ _ _ h=>h) ex e1 h1 μ1 own1 a1 w1 _ g1 (hs.trans g4) g2 g3 b k cs hro hb harr
    intro b k cs hro hbt hb
    obtain ⟨ex,a1,w1,⟨e1,h1,μ1,own1,g1,g2,g3,g4⟩,harr⟩:=ih.1 ann.a μ own e h _ a w hsb Rl hE hk b (.inScope x :: k) cs hro trivial hb
    obtain ⟨ex2,a2,w2,q2,arr2⟩:=leave _ key ex e1 h1 μ1 own1 a1 w1 _ g1 g4 g2 g3 b k cs hro hb harr
    exact ⟨ex2,a2,w2,q2,.of_steps (.one (fenced_calm (n:=0) trivial hb rfl) eF) arr2⟩
  ·intro l rest ann μ own e h K a w hf; simp [findLabel] at hf
 | loop x ih =>
  refine ⟨?_, ?_⟩
  ·intro ann μ own e h K a w hsb Rl hE hk
   simp only [b9] at hk
   have key:=hk (fun e h=>∀ (μ':Mu) (own':Nat→Option Nat) (a:Act) (w:World),Sub μ μ'→Rel w0 Fz μ' own' h w→bK ds μ' nt e a→∀ (b:Frame) (k:List Item) (cs:List Frame),b.roundOf=rd→(FR rd).room (cs.length+1+0) →
     ∃ ex a' w',QK ds w0 Fz nt μ K ex a' w'∧ArrivesIn (Machine.fenced P (FR rd)) P (lone (b.atR a (.code x :: .inLoop x :: k)) cs w) b k cs ex a' w') (by
    intro e h hF μ' own' a w hs Rl hE b k cs hro hb
    obtain ⟨ex,a1,w1,⟨e1,h1,μ1,own1,g1,g2,g3,g4⟩,harr⟩:=ih.1 _ μ' own' e h _ a w (hsb.trans hs) Rl hE hF b (.inLoop x :: k) cs hro trivial hb
    cases ex with
    | normal =>
     obtain ⟨ex2,a2,w2,q2,arr2⟩:=g1 μ1 own1 a1 w1 (hs.trans g4) g2 (g3.restr _) b k cs hro hb
     exact ⟨ex2,a2,w2,q2,.of_steps (StepsIn.trans harr (.one (fenced_calm (n:=0) trivial hb rfl) stepR_inLoop)) arr2⟩
    | exit id=>exact ⟨_,a1,w1,⟨e1,h1,μ1,own1,g1,g2,g3,hs.trans g4⟩,.pass (x:=.inLoop x) rfl (fun _ _=>.inl (by simp)) harr⟩
    | goto l=>exact ⟨_,a1,w1,⟨e1,h1,μ1,own1,g1,g2,g3,hs.trans g4⟩,.pass (x:=.inLoop x) rfl (fun _ _=>.inl (by simp)) harr⟩
    | ret=>exact ⟨_,a1,w1,⟨e1,h1,μ1,own1,g1,g2,g3,hs.trans g4⟩,.pass (x:=.inLoop x) rfl (fun _ _=>.inl (by simp)) harr⟩
    | panic ch=>exact ⟨_,a1,w1,⟨e1,h1,μ1,own1,g1,g2,g3,hs.trans g4⟩,.pass (x:=.inLoop x) rfl (fun _ _=>.inl (by simp)) harr⟩
    | outgrown=>exact ⟨_,a1,w1,⟨e1,h1,μ1,own1,g1,g2,g3,hs.trans g4⟩,.pass (x:=.inLoop x) rfl (fun _ _=>.inl (by simp)) harr⟩)
   intro b k cs hro hbt hb
   obtain ⟨ex,a',w',hq,harr⟩:=key μ own a w (Sub.refl _) Rl (hE.restr _) b k cs hro hb
   exact ⟨ex,a',w',hq,.of_steps (.one (fenced_calm (n:=0) trivial hb rfl) stepR_loop) harr⟩
  ·intro l rest ann μ own e h K a w hf; simp [findLabel] at hf
 | exit id =>
  refine ⟨?_, ?_⟩
  ·intro ann μ own e h K a w hsb Rl hE hk; exact wpIn_exit ⟨e,h,μ,own,hk,Rl,hE,Sub.refl _⟩
  ·intro l rest ann μ own e h K a w hf; simp [findLabel] at hf
 | label l =>
  refine ⟨?_, ?_⟩
  ·intro ann μ own e h K a w hsb Rl hE hk; exact wpIn_label ⟨e,h,μ,own,hk,Rl,hE,Sub.refl _⟩
  ·intro l1 rest ann μ own e h K a w hf hsb Rl hE hk
   simp only [findLabel] at hf
   split at hf
   ·rename_i hll
    cases hf
    have:l=l1:=by simpa using hll
    subst this
    simp only [aFrom,Nat.beq_refl,cond_true] at hk
    exact wpIn_skip ⟨e,h,μ,own,hk,Rl,hE,Sub.refl _⟩
   ·cases hf
 | ret =>
  refine ⟨?_, ?_⟩
  ·intro ann μ own e h K a w hsb Rl hE hk; exact wpIn_ret ⟨e,h,μ,own,hk,Rl,hE,Sub.refl _⟩
  ·intro l rest ann μ own e h K a w hf; simp [findLabel] at hf
 | goto l =>
  refine ⟨?_, ?_⟩
  ·intro ann μ own e h K a w hsb Rl hE hk; exact wpIn_goto ⟨e,h,μ,own,hk,Rl,hE,Sub.refl _⟩
  ·intro l rest ann μ own e h K a w hf; simp [findLabel] at hf
 | _ =>
  refine ⟨?_, ?_⟩
  ·intro ann μ own e h K a w hsb Rl hE hk; exact False.elim hk
  ·intro l rest ann μ own e h K a w hf; simp [findLabel] at hf
theorem qJ {R:a0} (hm:P.follows .mixedOrders=true) {μb:Mu} (hR:cA P w0 Fz μb R) {nt:Nat} (c:Code) (ann:Ann) (μ:Mu) (own:Nat→Option Nat) (e:Env) (h:aA) (K:Kx) (a:Act) (w:World) :
  Sub μb μ→Rel w0 Fz μ own h w→bK ds μ nt e a→b9 P R nt ann c e h K→c.wpIn (FR rd) 0 P (QK ds w0 Fz nt μ K) a w:=
 (aLD hm hR c).1 ann μ own e h K a w
end
end Go.GAM
namespace Go.GAM
section
variable {P:Program} {w0:World} {Fz:Nat→Prop} {μ:Mu} {own:Nat→Option Nat} {h:aA} {w:World}
def aRW (μ:Mu) (n:Nat):Prop:=∀ id ver l,μ id ver=some l→id<n
def aJV (μ μ':Mu) (n:Nat):Prop:=∀ id ver,id<n→μ' id ver=μ id ver
mutual
theorem aX.old {μ0 μ μ':Mu} {n:Nat} (hlt:aRW μ0 n) (hag:aJV μ μ' n):∀ {v:AV} {c0 c:Value},aX μ0 v c0→aX μ v c→aX μ' v c
 | _,_,_,.u _,_=>.u _
 | _,_,_,.b _,.b _=>.b _
 | _,_,_,.i _ _,.i _ _=>.i _ _
 | _,_,_,.s _ _ _,.s _ _ h=>.s _ _ h
 | _,_,_,.pn,.pn=>.pn
 | _,_,_,.p a l o h ho,.p _ l' o' h' ho'=>.p a l' o' ((hag _ _ (hlt _ _ _ h)).trans h') ho'
 | _,_,_,.sn,.sn=>.sn
 | _,_,_,.sl a len capo c addr l h _ _ _ _ _,.sl _ _ _ c' addr' l' h' g1 g2 g3 g4 g5=>.sl a len capo c' addr' l' ((hag _ _ (hlt _ _ _ h)).trans h') g1 g2 g3 g4 g5
 | _,_,_,.ag _ _ h,.ag _ _ h'=>.ag _ _ (VRels.old hlt hag h h')
 | _,_,_,.tu _ _ h,.tu _ _ h'=>.tu _ _ (VRels.old hlt hag h h')
 | _,_,_,.fn _ _ _ _ _ h k,.fn _ _ _ _ _ h' k'=>.fn _ _ _ _ _ (VRels.old hlt hag h h') (VRels.old hlt hag k k')
 | _,_,_,.nf,.nf=>.nf
 | _,_,_,.ifc _ _ _ h,.ifc _ _ _ h'=>.ifc _ _ _ (aX.old hlt hag h h')
 | _,_,_,.ni,.ni=>.ni
 | _,_,_,.mpn,.mpn=>.mpn
 | _,_,_,.mp id l h,.mp _ l' h'=>.mp id l' ((hag _ _ (hlt _ _ _ h)).trans h')
theorem VRels.old {μ0 μ μ':Mu} {n:Nat} (hlt:aRW μ0 n) (hag:aJV μ μ' n):∀ {v:List AV} {c0 c:List Value},VRels μ0 v c0→VRels μ v c→VRels μ' v c
 | _,_,_,.nil,.nil=>.nil
 | _,_,_,.cons _ _ _ _ h t,.cons _ _ _ _ h' t'=>.cons _ _ _ _ (aX.old hlt hag h h') (VRels.old hlt hag t t')
end
def mD (μ:Mu) (n:Nat) (keep:List Nat):Mu:=fun id ver=>if id<n then μ id ver else match keep[id - n]? with
 | some k=>μ k ver
 | none=>none
def sC (own:Nat→Option Nat) (n:Nat) (keep:List Nat):Nat→Option Nat:=fun B=>match own B with
 | some id=>if sX n keep id then some (oL n keep id) else none
 | none=>none
theorem aCE {n:Nat} {keep:List Nat} {id ver:Nat} {l:Loc} (hk:∀ k∈keep,n≤k) (hok:sX n keep id=true) (hm:μ id ver=some l):mD μ n keep (oL n keep id) ver=some l:=by
 unfold mD oL
 by_cases h:id<n
 ·simp [h,hm]
 ·simp only [sX, h, decide_false, Bool.false_or, List.contains_iff_mem] at hok
  have:keep[keep.idxOf id]? = some id:=by
   have hl:=List.idxOf_lt_length_iff.2 hok
   rw [List.getElem?_eq_getElem hl]
   simp
  rw [if_neg h,if_neg (by omega),show n+keep.idxOf id - n=keep.idxOf id by omega,this]
  exact hm
theorem pV {n:Nat} {keep:List Nat} (hk:∀ k∈keep,n≤k) {v:AV} {c:Value} (h:aX μ v c) (hok:ok1 n keep v=true):aX (mD μ n keep) (z5 n keep v) c:=by
 cases h <;> first | (simp [ok1] at hok; done) | skip
 case u=>exact .u _
 case b=>exact .b _
 case i=>exact .i _ _
 case s l x h=>exact .s _ _ h
 case pn=>exact .pn
 case p a l o h ho=>exact .p (aL0 n keep a) l o (aCE hk hok h) ho
 case sn=>exact .sn
 case sl a len capo c addr l h g1 g2 g3 g4 g5=>exact .sl (aL0 n keep a) len capo c addr l (aCE hk hok h) g1 g2 g3 g4 g5
 case nf=>exact .nf
 case ni=>exact .ni
theorem zK {n:Nat} {keep:List Nat} (hk:∀ k∈keep,n≤k):∀ {v:List AV} {c:List Value},VRels μ v c→v.all (ok1 n keep)=true→VRels (mD μ n keep) (v.map (z5 n keep)) c
 | _,_,.nil,_=>.nil
 | _, _, .cons _ _ _ _ h t, hok => by
  simp only [List.all_cons,Bool.and_eq_true] at hok
  exact .cons _ _ _ _ (pV hk h hok.1) (zK hk t hok.2)
theorem aD9 {n:Nat} {keep:List Nat} (hk:∀ k∈keep,n≤k) {v:AV} {c:Value} (h:aX μ v c) (hok:okR n keep v=true):aX (mD μ n keep) (ren n keep v) c:=by
 cases h with
 | ag cs vs h=>exact .ag _ _ (zK hk h hok)
 | tu cs vs h=>exact .tu _ _ (zK hk h hok)
 | u=>exact .u _
 | b=>exact .b _
 | i=>exact .i _ _
 | s l x h=>exact .s _ _ h
 | pn=>exact .pn
 | p a l o h ho=>exact pV hk (.p a l o h ho) hok
 | sn=>exact .sn
 | sl a len capo c addr l h g1 g2 g3 g4 g5=>exact pV hk (.sl a len capo c addr l h g1 g2 g3 g4 g5) hok
 | nf=>exact .nf
 | ni=>exact .ni
 | fn=>simp [okR,ok1] at hok
 | ifc=>simp [okR,ok1] at hok
 | mpn=>simp [okR,ok1] at hok
 | mp=>simp [okR,ok1] at hok
theorem eU.old {μ0 μ μ':Mu} {n:Nat} (hlt:aRW μ0 n) (hag:aJV μ μ' n):∀ {es:List (AV × AV)} {e0 e:List MapEntry},eU μ0 es e0→eU μ es e→eU μ' es e
 | _,_,_,.nil,.nil=>.nil
 | _,_,_,.cons _ _ _ _ _ hk hv t,.cons _ _ _ _ _ hk' hv' t'=>.cons _ _ _ _ _ (aX.old hlt hag hk hk') (aX.old hlt hag hv hv') (eU.old hlt hag t t')
theorem aUA {n:Nat} {keep:List Nat} {x:AV} (h1:ok1 n [] x=true):ok1 n keep x=true:=by
 cases x <;> first | exact h1 | skip
 case p a=>cases a with
  | none=>rfl
  | some a=>simp [ok1,sX] at h1 ⊢; exact .inl h1
 case sl a l c=>cases a with
  | none=>rfl
  | some a=>simp [ok1,sX] at h1 ⊢; exact .inl h1
theorem aAN {h : aA} {n : Nat} {keep : List Nat} (hk : ∀ k ∈ keep, ∃ b, h[k]? = some b) (j : Nat) (hj : j < keep.length) :
  (keep.filterMap fun id=>(h[id]?).map (j8 n keep))[j]? = (h[keep[j]]?).map (j8 n keep)∧(keep.filterMap fun id=>(h[id]?).map (j8 n keep)).length=keep.length:=by
 have e:keep.filterMap (fun id=>(h[id]?).map (j8 n keep))=keep.map (fun id=>j8 n keep ((h[id]?).getD dead)):=by
  have:∀ l:List Nat,(∀ k∈l, ∃ b,h[k]? = some b)→l.filterMap (fun id=>(h[id]?).map (j8 n keep))=l.map (fun id=>j8 n keep ((h[id]?).getD dead)):=by
   intro l
   induction l with
   | nil=>intro _; rfl
   | cons x l ih =>
    intro hl
    obtain ⟨b,hb⟩:=hl x (by simp)
    rw [List.filterMap_cons,hb]
    simp only [Option.map_some,List.map_cons,hb,Option.getD_some]
    rw [ih (fun k hk=>hl k (by simp [hk]))]
  exact this keep hk
 rw [e]
 obtain ⟨b,hb⟩:=hk keep[j] (List.getElem_mem hj)
 simp [hj,hb]
theorem Rel.trim {h0 : aA} {μ0 : Mu} {own0 : Nat → Option Nat} {wa : World} (R0 : Rel w0 Fz μ0 own0 h0 wa) (R : Rel w0 Fz μ own h w) (hsub : Sub μ0 μ) {keep : List Nat} (hnd : keep.Nodup)
  (hkeep:∀ id∈keep,h0.length≤id∧∃ b,h[id]? = some b∧b.cells.all (ok1 h0.length keep)=true∧b.mp=none)
  (hold:∀ id,id<h0.length→h[id]? = h0[id]? ∨ ∃ b,h[id]? = some b∧b.cells.all (ok1 h0.length [])=true∧b.mp=none) (hlen:h0.length≤h.length) :
  Rel w0 Fz (mD μ h0.length keep) (sC own h0.length keep) (h.take h0.length++keep.filterMap fun id=>(h[id]?).map (j8 h0.length keep)) w∧Sub μ0 (mD μ h0.length keep):=by
 have hmu0:aRW μ0 h0.length:=fun id ver l hl=>by
  obtain ⟨b,hb,_⟩:=R0.mulen _ _ _ hl
  exact (List.getElem?_eq_some_iff.1 hb).1
 have hge:∀ k∈keep,h0.length≤k:=fun k hk=>(hkeep k hk).1
 have hex:∀ k∈keep, ∃ b,h[k]? = some b:=fun k hk=>let ⟨_,b,hb,_⟩:=hkeep k hk; ⟨b,hb⟩
 generalize hn:h0.length=n at *
 have hagree:aJV μ (mD μ n keep) n:=fun id ver hid=>by simp [mD,hid]
 have htl:(h.take n).length=n:=by simp; omega
 have hget:∀ id,id<n→(h.take n++keep.filterMap fun id=>(h[id]?).map (j8 n keep))[id]? = h[id]?:=fun id hid=>by
  rw [List.getElem?_append_left (by omega),List.getElem?_take_of_lt hid]
 have hgetk:∀ j (hj:j<keep.length),(h.take n++keep.filterMap fun id=>(h[id]?).map (j8 n keep))[n+j]? = (h[keep[j]]?).map (j8 n keep):=fun j hj=>by
  rw [List.getElem?_append_right (by omega),htl,show n+j - n=j by omega]
  exact (aAN hex j hj).1
 refine ⟨{ os:=R.os,tape:=R.tape,output:=R.output,size0:=R.size0,fz:=R.fz,ownlt:=fun B id hB=>?_,mulen:=fun id ver l hl=>?_,blk:=fun id b hb hlv=>?_,maps:=fun id b es hb hes=>?_ },fun id ver l hl=>?_⟩
 ·unfold sC at hB
  split at hB
  ·rename_i i hi; exact R.ownlt B i hi
  ·cases hB
 ·unfold mD at hl
  split at hl
  ·rename_i hid
   obtain ⟨b,hb,hle⟩:=R.mulen _ _ _ hl
   exact ⟨b,by rw [hget id hid]; exact hb,hle⟩
  ·rename_i hid
   split at hl
   ·rename_i k hk
    obtain ⟨b,hb,hle⟩:=R.mulen _ _ _ hl
    obtain ⟨hj,hjk⟩:=List.getElem?_eq_some_iff.1 hk
    refine ⟨j8 n keep b, ?_, ?_⟩
    ·have := hgetk (id - n) hj
     rw [show n+(id - n)=id by omega,hjk,hb] at this
     exact this
    ·simpa [j8] using hle
   ·cases hl
 ·by_cases hid : id < n
  ·rw [hget id hid] at hb
   obtain ⟨l,hk⟩:=R.blk id b hb hlv
   have hokid:sX n keep id=true:=by simp [sX,hid]
   have hren:oL n keep id=id:=by simp [oL,hid]
   have hcell:∀ (j:Nat) (cv:Value),aX μ (b.cells.getD j .u) cv→aX (mD μ n keep) (b.cells.getD j .u) cv:=fun j cv hv=>by
    rcases hold id hid with heq | ⟨b',hb',hok,_⟩
    ·rw [hb] at heq
     obtain ⟨l0,hk0⟩:=R0.blk id b heq.symm hlv
     have hv0:=hk0.vers _ hlv (Nat.le_refl _) _ hk0.cur
     by_cases hj:j<b.cells.length
     ·obtain ⟨c0, _, hr0⟩ := hv0.cells j hj
      exact aX.old hmu0 hagree hr0 hv
     ·have : b.cells.getD j .u = .u := by simp [List.getD_eq_getElem?_getD, List.getElem?_eq_none (Nat.le_of_not_lt hj)]
      rw [this]; exact .u _
    ·rw [hb] at hb'; cases hb'
     have h1:ok1 n [] (b.cells.getD j .u)=true:=by
      by_cases hj:j<b.cells.length
      ·have := List.all_eq_true.1 hok (b.cells[j]) (List.getElem_mem hj)
       rw [List.getD_eq_getElem?_getD,List.getElem?_eq_getElem hj]; exact this
      ·have : b.cells.getD j .u = .u := by simp [List.getD_eq_getElem?_getD, List.getElem?_eq_none (Nat.le_of_not_lt hj)]
       rw [this] <;> rfl
     have h2:ok1 n keep (b.cells.getD j .u)=true:=aUA h1
     have h3:=pV hge hv h2
     have h4:z5 n keep (b.cells.getD j .u)=b.cells.getD j .u:=by
      revert h1
      generalize b.cells.getD j .u=x
      intro h1
      cases x <;> simp [z5]
      case p a=>cases a with
       | none=>rfl
       | some a=>simp [ok1,sX] at h1; simp [aL0,oL,h1]
      case sl a l c=>cases a with
       | none=>rfl
       | some a=>simp [ok1,sX] at h1; simp [aL0,oL,h1]
     rwa [h4] at h3
   refine ⟨l,{ cur:=by rw [hagree _ _ hid]; exact hk.cur,owned:=by simp [sC,hk.owned,hokid,hren],sz:=hk.sz,len:=hk.len,ex:=hk.ex,ro:=hk.ro,gl:=hk.gl,nomap:=hk.nomap,tyok:=hk.tyok,row:=hk.row,free:=hk.free,vers:=fun ver h1 h2 l' hl'=>?_ }⟩
   rw [hagree _ _ hid] at hl'
   have hv:=hk.vers ver h1 h2 l' hl'
   exact { own:=by simp [sC,hv.own,hokid,hren],sz:=hv.sz,le:=hv.le,base:=hv.base,cells:=fun j hj=>let ⟨cv,e1,e2⟩:=hv.cells j hj; ⟨cv,e1,hcell j cv e2⟩ }
  ·have hidl := (List.getElem?_eq_some_iff.1 hb).1
   have hj:id - n<keep.length:=by
    rcases keep with _ | ⟨x,xs⟩
    ·simp at hidl; omega
    ·have := (aAN (n := n) hex 0 (by simp)).2
     rw [List.length_append,htl,this] at hidl
     omega
   have h1:=hgetk (id - n) hj
   rw [show n+(id - n)=id by omega,hb] at h1
   obtain ⟨hkge,b0,hb0,hok,hmp0⟩:=hkeep keep[id - n] (List.getElem_mem hj)
   rw [hb0] at h1
   simp only [Option.map_some,Option.some.injEq] at h1
   subst h1
   simp only [j8,List.length_map] at hlv
   obtain ⟨l,hk⟩:=R.blk _ b0 hb0 hlv
   have hmu:∀ ver,mD μ n keep id ver=μ keep[id - n] ver:=fun ver=>by simp [mD,hid,hj]
   have hown:∀ B,own B=some keep[id - n]→sC own n keep B=some id:=fun B hB=>by
    have hm:keep[id - n]∈keep:=List.getElem_mem hj
    have hx:sX n keep keep[id - n]=true:=by simp [sX,hm]
    have hi:keep.idxOf keep[id - n]=id - n:=List.Nodup.idxOf_getElem hnd _ hj
    have hr:oL n keep keep[id - n]=id:=by
     simp only [oL,if_neg (show ¬ keep[id - n]<n by omega),hi]; omega
    simp [sC,hB,hx,hr]
   refine ⟨l,{ cur:=by rw [hmu]; simpa [j8] using hk.cur,owned:=hown _ hk.owned,sz:=hk.sz,len:=by simpa [j8] using hk.len,ex:=by simpa [j8] using hk.ex,ro:=hk.ro,gl:=fun hg=>by simp [j8] at hg,nomap:=hmp0,tyok:=hk.tyok,row:=hk.row,free:=hk.free,vers:=fun ver g1 g2 l' hl'=>?_ }⟩
   rw [hmu] at hl'
   have hv:=hk.vers ver g1 (by simpa [j8] using g2) l' hl'
   refine { own:=hown _ hv.own,sz:=hv.sz,le:=hv.le,base:=hv.base,cells:=fun j hj'=>?_ }
   obtain ⟨cv,e1,e2⟩:=hv.cells j hj'
   refine ⟨cv,e1, ?_⟩
   have hjl:j<b0.cells.length:=by
    have:ver≤b0.cells.length:=by simpa [j8] using g2
    omega
   have h2:(j8 n keep b0).cells.getD j .u=z5 n keep (b0.cells.getD j .u):=by
    simp [j8,List.getD_eq_getElem?_getD,hjl]
   rw [h2]
   refine pV hge e2 ?_
   have:=List.all_eq_true.1 hok (b0.cells[j]) (List.getElem_mem hjl)
   rw [List.getD_eq_getElem?_getD,List.getElem?_eq_getElem hjl]; exact this
 ·by_cases hid : id < n
  ·rw [hget id hid] at hb
   obtain ⟨l,m1,m2,m3,m4⟩:=R.maps id b es hb hes
   have hokid:sX n keep id=true:=by simp [sX,hid]
   have hren:oL n keep id=id:=by simp [oL,hid]
   refine ⟨l,by rw [hagree _ _ hid]; exact m1,by simp [sC,m2,hokid,hren],m3, ?_⟩
   cases es with
   | inr rec=>exact m4
   | inl es=>
   obtain ⟨ents,clock,m4,m5⟩:=m4
   refine ⟨ents,clock,m4, ?_⟩
   rcases hold id hid with heq | ⟨b',hb',_,hmp⟩
   ·rw [hb] at heq
    obtain ⟨l0,_,_,_,ents0,_,_,m50⟩:=R0.maps id b _ heq.symm hes
    exact eU.old hmu0 hagree m50 m5
   ·rw [hb] at hb'; cases hb'
    rw [hmp] at hes; cases hes
  ·exfalso
   have hidl:=(List.getElem?_eq_some_iff.1 hb).1
   have hj:id - n<keep.length:=by
    rcases keep with _ | ⟨x,xs⟩
    ·simp at hidl; omega
    ·have := (aAN (n := n) hex 0 (by simp)).2
     rw [List.length_append,htl,this] at hidl
     omega
   have h1:=hgetk (id - n) hj
   rw [show n+(id - n)=id by omega,hb] at h1
   obtain ⟨hkge,b0,hb0,hok,hmp0⟩:=hkeep keep[id - n] (List.getElem_mem hj)
   rw [hb0] at h1
   simp only [Option.map_some,Option.some.injEq] at h1
   subst h1
   have hes:b0.mp=some es:=hes
   rw [hmp0] at hes; cases hes
 ·have := hsub _ _ _ hl
  rw [hagree _ _ (hmu0 _ _ _ hl)]; exact this
end
end Go.GAM
namespace Go.GAM
section
variable {ds:List Deferred} {rd:Option Nat} {P:Program} {w0:World} {Fz:Nat→Prop} {μ:Mu} {own:Nat→Option Nat} {h:aA} {w:World}
def aOV (a:Act):ResultVar→Sem Value
 | .tmp t=>pure (a.tmps.getD t undef)
 | .cell x t=>do loadVar t (← asAddr (a.tmps.getD x undef))
theorem aI2 (R : Rel w0 Fz μ own h w) {nt : Nat} {e : Env} {a : Act} (hE : bK ds μ nt e a) {r : ResultVar} {K : AV → Prop} (hk : aM2 P h e r K) :
  ∃ v cv,K v∧aX μ v cv∧(aOV a r).run P w = .ok cv w:=by
 cases r with
 | tmp t=>exact ⟨_,_,hk,hE.val t,rfl⟩
 | cell x t =>
  simp only [aM2] at hk
  have hx:=hE.val x
  have conv:∀ cv,(Instr.loadAt t (a.tmps.getD x undef)).run P w = .ok cv w→(do loadVar t (← asAddr (a.tmps.getD x undef)):Sem Value).run P w = .ok cv w:=fun cv hc=>by
   revert hc
   generalize a.tmps.getD x undef=c
   intro hc
   cases c <;> simp [Instr.loadAt,Instr.sureAddr,asAddr] at hc ⊢
   case pointer o=>cases o with
    | none=>simp [Instr.sureAddr] at hc
    | some o=>simpa [Instr.sureAddr,asAddr] using hc
  cases ht:dN P t with
  | none=>rw [ht] at hk; exact hk.elim
  | some r =>
   rw [ht] at hk
   cases r with
   | true =>
    obtain ⟨v,cv,h1,h2,h3⟩:=xI R ht hx hk
    exact ⟨v,cv,h1,h2,conv cv (h3 w (dY.refl w))⟩
   | false =>
    obtain ⟨v,cv,h1,h2,h3⟩:=xJ R ht hx hk
    exact ⟨v,cv,h1,h2,conv cv (h3 w (dY.refl w))⟩
theorem jQ (R:Rel w0 Fz μ own h w) {nt:Nat} {e:Env} {a:Act} (hE:bK ds μ nt e a):∀ {rs:List ResultVar} {K:List AV→Prop},fJ P h e rs K →
  ∃ vs cvs,K vs∧VRels μ vs cvs∧(rs.mapM (aOV a)).run P w = .ok cvs w
 | [],K,hk=>⟨[],[],hk,.nil,rfl⟩
 | r :: rs, K, hk => by
  obtain ⟨v,cv,h1,h2,h3⟩:=aI2 (P:=P) R hE hk
  obtain ⟨vs,cvs,g1,g2,g3⟩:=jQ R hE h1
  refine ⟨_,cv :: cvs,g1,.cons _ _ _ _ h2 g2, ?_⟩
  rw [List.mapM_cons,Sem.run_bind,h3]
  simp only [Result.andThen_ok,Sem.run_bind]
  rw [g3] <;> rfl
theorem aEW {vs:List AV} {cvs:List Value} (h:VRels μ vs cvs):aX μ (tup vs) (if hs:cvs.toArray.size=1 then cvs.toArray[0] else .tuple cvs.toArray):=by
 have hl:=h.length
 match vs,cvs,h with
 | [],[],h=>simp [tup]; exact .tu _ _ h
 | [v],[c],.cons _ _ _ _ h _=>simpa [tup] using h
 | v :: v2 :: vs, c :: c2 :: cs, h =>
  have:¬ ((c :: c2 :: cs).toArray.size=1):=by simp
  rw [dif_neg this]
  exact .tu _ _ (by simpa using h)
theorem aJ1:∀ (args:List AV) (k t:Nat),lk (fE k args) t=if k≤t then (args[t - k]?).getD .u else .u
 | [],k,t=>by simp [fE,lk]
 | v :: r, k, t => by
  simp only [fE,lk]
  by_cases h:k=t
  ·subst h; simp
  ·rw [lY h]
   simp only [cond_false]
   rw [aJ1 r (k+1) t]
   by_cases h2:k+1≤t
   ·rw [if_pos h2,if_pos (by omega),show t - k=(t - (k+1))+1 by omega,List.getElem?_cons_succ]
   ·rw [if_neg h2,if_neg (by omega)]
theorem yY {args:List AV} {cargs:List Value} (h:VRels μ args cargs) {nt:Nat} (hn:args.length≤nt):bK [] μ nt (fE 0 args) { tmps:=cargs.toArray++Array.replicate (nt - cargs.toArray.size) undef,defers:=[] }:=by
 have hl:=h.length
 refine ⟨by simp; omega,rfl,fun t=>?_⟩
 rw [aJ1]
 simp only [Nat.zero_le,if_true,Nat.sub_zero]
 by_cases ht:t<args.length
 ·obtain ⟨v, h1, h2⟩ := h.get? ht
  have hc:t<cargs.length:=by omega
  have e:(cargs.toArray++Array.replicate (nt - cargs.toArray.size) undef).getD t undef=v:=by
   rw [List.getElem?_eq_getElem hc] at h1
   have h3:t<(cargs.toArray++Array.replicate (nt - cargs.toArray.size) undef).size:=by simp; omega
   simp only [Array.getD,h3,dite_true]
   rw [Array.getInternal_eq_getElem,Array.getElem_append_left (by simpa using hc)]
   simpa using h1
  rw [e]
  simpa [List.getD_eq_getElem?_getD] using h2
 ·rw [List.getElem?_eq_none (by omega)]
  exact .u _
theorem aOE {R : a0} (hm : P.follows .mixedOrders = true) (hsz : P.funcs.size ≤ yid0) {μb : Mu} (hR : cA P w0 Fz μb R) {f : FuncId} {args : List AV} {h : aA} {K : AV → aA → Prop} (hk : aF P R f args h K) : aKH P w0 Fz μb f args h K := by
 obtain ⟨fn,body,ann,hf,hb,hname,hn,hk⟩:=hk
 intro μ own w cargs hsb Rl hc
 rw [if_pos (Nat.lt_of_lt_of_le (Array.getElem?_eq_some_iff.1 hf).1 hsz)]
 refine .inl ⟨f,cargs.toArray, ?_, ?_⟩
 ·have hbs : fn.body.isNone = false := by simp [hb]
  simp only [callFunc,Sem.run_bind,run_program,Result.andThen_ok,hf,hname,Bool.false_eq_true,if_false,hbs,Sem.run_pure]
 ·refine callsIn_wide.1 (callsIn_of_wp (F := FR none) (n := 0) hf hb trivial (wpIn_mono (qJ hm hR body ann μ own _ h _ _ w hsb Rl (yY hc hn) hk) ?_))
  rintro ex a' w' ⟨e',h',μ',own',g1,g2,g3,g4⟩
  have fin:fJ P h' e' fn.results.toList (fun vs=>aH h K (tup vs) h')→a'.defers=[]∧∃ v,(results fn a'.tmps).run P w' = .ok v w'∧∃ v',Ending.returned v = .returned v'∧iW w0 Fz μ K v' w':=by
   intro hk
   obtain ⟨vs,cvs,k1,k2,k3⟩:=jQ g2 g3 hk
   have hres:(results fn a'.tmps).run P w' = .ok (if hs:cvs.toArray.size=1 then cvs.toArray[0] else .tuple cvs.toArray) w':=by
    have e:results fn a'.tmps=(do let vs ← fn.results.mapM (aOV a'); pure (if h:vs.size=1 then vs[0] else .tuple vs)):=rfl
    rw [e,Array.mapM_eq_mapM_toList,Sem.run_bind,Sem.run_map,k3]
    first | done | rfl
   refine ⟨g3.defers,_,hres,_,rfl, ?_⟩
   ·have ht := aEW k2
    rcases k1 with k1 | ⟨keep,c1,c2,c3,c4,c5,k1⟩
    ·exact ⟨_,μ',own',h',k1,ht,g2,g4⟩
    ·obtain ⟨t1, t2⟩ := Rel.trim Rl g2 g4 c1 c3 c4 c5
     exact ⟨_,_,_,_,k1,aD9 (fun k hk=>(c3 k hk).1) ht c2,t1,t2⟩
  cases ex with
  | normal=>exact fin g1
  | ret=>exact fin g1
  | exit id=>exact g1.elim
  | goto l=>exact g1.elim
  | panic ch=>exact g1.elim
  | outgrown=>exact g1.elim
theorem iE {X:a0} (hm:P.follows .mixedOrders=true) (hsz:P.funcs.size≤yid0) {μb:Mu} (hX:cA P w0 Fz μb X):cA P w0 Fz μb (fA P X):=by
 intro f args h K hk
 refine hk (aKH P w0 Fz μb) (fun f args h K K' hK hs μ own w cargs hsb Rl hc=>?_) hX fun f args h K hF=>?_
 ·have hp : ∀ cv w', iW w0 Fz μ K cv w' → iW w0 Fz μ K' cv w' := fun cv w' ⟨v, μ', own', h', h1, h2, h3, h4⟩ => ⟨v, μ', own', h', hK _ _ h1, h2, h3, h4⟩
  have hs:=hs μ own w cargs hsb Rl hc
  by_cases hlt:f<yid0
  ·rw [if_pos hlt] at hs ⊢
   rcases hs with ⟨g,aq,h1,h2⟩ | ⟨v,w',h1,h2⟩
   ·exact .inl ⟨g,aq,h1,h2.mono fun e w' ⟨v,he,hv⟩=>⟨v,he,hp _ _ hv⟩⟩
   ·exact .inr ⟨v,w',h1,hp _ _ h2⟩
  ·rw [if_neg hlt] at hs ⊢
   obtain ⟨g,tmps,aq,body,h1,h2⟩:=hs
   exact ⟨g,tmps,aq,body,h1,h2.mono fun e w' ⟨v,he,hv⟩=>⟨v,he,hp _ _ hv⟩⟩
 exact aOE hm hsz (fun f args h K hs=>hs) hF
theorem qA {X:a0} (hm:P.follows .mixedOrders=true) (hsz:P.funcs.size≤yid0) (hX:lC P X):lC P (fA P X):=fun w0 Fz μb=>iE hm hsz (hX w0 Fz μb)
end
end Go.GAM
namespace Go.GAM
section
variable {P:Program}
def RLe (R R':a0):Prop:=∀ f args h K K',(∀ v h,K v h→K' v h)→R f args h K→R' f args h K'
theorem zR {c:AV} {A B A' B':Prop} (hA:A→A') (hB:B→B') (h:aIf c A B):aIf c A' B':=by
 unfold aIf at *; split at h <;> first | exact hA h | exact hB h | exact h
theorem sW {op:BinOp} {r:Bool} {K K':AV→Prop} (hK:∀ v,K v→K' v) (h:eP op r K):eP op r K':=by
 cases op <;> first | exact h.elim | exact hK _ h
theorem tP {sz:Nat} {x:AV} {h:aA} {K K':List AV→Prop} (hK:∀ v,K v→K' v) (hk:fG sz x h K):fG sz x h K':=by
 unfold fG at *
 split at hk
 ·exact hK _ hk
 ·rcases hk with ⟨h0, hk⟩ | ⟨b, h1, h3, h4⟩
  ·exact .inl ⟨h0,hK _ hk⟩
  ·exact .inr ⟨b,h1,h3,hK _ h4⟩
 ·exact hk
theorem dL {x:Option AV} {d:Nat} {K K':Nat→Prop} (hK:∀ v,K v→K' v) (hk:gM x d K):gM x d K':=by
 unfold gM at *
 split at hk
 ·exact hK _ hk
 ·exact ⟨hk.1,hK _ hk.2⟩
 ·exact hk
theorem mK {c:Bool} {A A':Prop} (hA:A→A') (h:bif c then A else False):bif c then A' else False:=by
 cases c
 ·exact h
 ·exact hA h
theorem aLG {op:BinOp} {t:TypeId} {x y:AV} {K K':AV→Prop} (hK:∀ v,K v→K' v) (hk:cI P op t x y K):cI P op t x y K':=by
 unfold cI at *
 split at hk
 case h_1=>cases op <;> first | exact ⟨hk.1,hK _ hk.2⟩ | exact mK (fun h=>⟨h.1,hK _ h.2⟩) hk | exact mK (hK _) hk
 case h_2=>cases op <;> first | exact hk.elim | exact ⟨hk.1,hK _ hk.2⟩ | exact hK _ hk
 case h_3=>split at hk <;> first | exact sW hK hk | exact hk
 case h_16=>
  cases hg:P.eqGuardType P.depth t with
  | true=>rw [hg] at hk; exact hk.elim
  | false =>
   rw [hg] at hk
   simp only [cond_false] at hk ⊢
   split at hk <;> first | exact sW hK hk | exact hk
 all_goals first | exact mK (sW hK) hk | exact hk
theorem aOR {v:AV} {K K':Bool→Prop} (hK:∀ v,K v→K' v) (hk:asB v K):asB v K':=by
 unfold asB at *; split at hk <;> first | exact hK _ hk | exact hk
theorem aOM {k:IntKind} {v:AV} {K K':Int→Prop} (hK:∀ v,K v→K' v) (hk:asI k v K):asI k v K':=by
 unfold asI at *; split at hk <;> first | exact mK (hK _) hk | exact hk
theorem aP2 {v:AV} {K K':List UInt8→Prop} (hK:∀ v,K v→K' v) (hk:asS v K):asS v K':=by
 unfold asS at *; split at hk <;> first | exact hK _ hk | exact hk
theorem kY {o:Oper} {v:AV} {K K':AV→Prop} (hK:∀ v,K v→K' v) (hk:cP P o v K):cP P o v K':=by
 unfold cP at *
 split at hk
 ·unfold shape at *
  split at hk
  ·exact aOR (fun _=>hK _) hk
  ·exact aOM (fun _=>hK _) hk
  ·exact aP2 (fun _=>hK _) hk
  ·exact hK _ hk
 ·exact hK _ hk
theorem xQ {sz:Nat} {x:AV} {h:aA} {K K':List AV→Nat→Prop} (hK:∀ v n,K v n→K' v n) (hk:fH sz x h K):fH sz x h K':=by
 unfold fH at *
 split at hk
 ·exact hK _ _ hk
 ·exact tP (fun v hv=>hK _ _ hv) hk
 ·exact ⟨hk.1,hK _ _ hk.2⟩
 ·exact hk
theorem aBA {sz:Nat} {x:AV} {lo hi mx:Option AV} {h:aA} {K K':AV→Prop} (hK:∀ v,K v→K' v) (hk:bW sz x lo hi mx h K):bW sz x lo hi mx h K':=by
 unfold bW at *
 split at hk
 ·exact dL (fun m hm=>dL (fun j hj=>dL (fun i hi=>⟨hi.1,hi.2.1,hi.2.2.1,hi.2.2.2.1,hK _ hi.2.2.2.2⟩) hj) hm) hk
 ·refine ⟨hk.1, hk.2.1, dL (fun j hj => dL (fun i hi => ⟨hi.1, ?_⟩) hj) hk.2.2⟩
  obtain ⟨b,h1,h2,h3,h4,h5⟩:=hi.2
  refine ⟨b,h1,h2,h3,h4, ?_⟩
  cases mx with
  | none=>exact ⟨h5.1,hK _ h5.2⟩
  | some m=>exact dL (fun m hm=>⟨hm.1,hm.2.1,hK _ hm.2.2⟩) h5
 ·exact hk
theorem aEL {kt el:TypeId} {ok:Bool} {x k:AV} {h:aA} {K K':AV→Prop} (hK:∀ v,K v→K' v) (hk:oE P kt el ok x k h K):oE P kt el ok x k h K':=by
 unfold oE at *
 refine ⟨hk.1, ?_⟩
 have hk:=hk.2
 split at hk
 ·exact hk.elim
 ·split at hk
  ·exact hK _ hk
  ·split at hk
   ·exact hK _ hk
   ·exact hk.elim
  ·exact hk.elim
theorem uJ {kt:TypeId} {x k v:AV} {h:aA} {K K':aA→Prop} (hK:∀ h,K h→K' h) (hk:nY P kt x k v h K):nY P kt x k v h K':=by
 unfold nY at *
 split at hk
 ·obtain ⟨h1, h2, b, es, h3, h4, hk⟩ := hk
  refine ⟨h1,h2,b,es,h3,h4, ?_⟩
  split at hk
  ·exact ⟨hk.1,hK _ hk.2⟩
  ·exact hK _ hk
  ·exact hk.elim
 ·exact hk.elim
theorem wA {o : Oper} {e : Env} {h : aA} {K K' : AV → Prop} (hK : ∀ v, K v → K' v) (hk : bX P o e h K) : bX P o e h K' := by
  obtain ⟨dst,op,type,pos,after,guard⟩:=o
  cases op with
  | move x=>exact hK _ hk
  | assign x=>exact hK _ hk
  | pick c x y=>exact zR (hK _) (hK _) hk
  | load t x =>
    simp only [bX] at *
    split at hk
    · unfold dC at *
      split at hk
      · obtain ⟨b,h1,h2,h3⟩:=hk; exact ⟨b,h1,h2,hK _ h3⟩
      · exact hk
    · unfold aD at *
      split at hk
      · obtain ⟨b,h1,h2,h3⟩:=hk; exact ⟨b,h1,h2,hK _ h3⟩
      · exact hk
    · exact hk
  | nilCheck x =>
    simp only [bX] at *
    unfold aK at *
    split at hk <;> first | exact hk | exact hK _ hk
  | binOp op t x y yt=>exact aLG hK hk
  | unOp op t x =>
    simp only [bX] at *
    unfold pUn at *
    split at hk <;> first | exact hk | exact hK _ hk
  | convert src dst' x =>
    simp only [bX] at *
    split at hk
    · unfold yX at *
      split at hk <;> first | exact hk | exact hK _ hk
    · unfold zS at *
      split at hk <;> first | exact hk | exact hK _ hk
    · split at hk
      · exact tP (fun cs hc=>⟨hc.1,hK _ hc.2⟩) hk
      · exact hk
    · rename_i t h1 h2
      cases hz:Nat.beq (P.cellsOf t) 0 with
      | true=>rw [hz] at hk; exact hk.elim
      | false =>
        rw [hz] at hk
        simp only [cond_false] at hk ⊢
        unfold nH at *
        split at hk
        · exact hK _ hk
        · obtain ⟨b,h1,h2,h3⟩:=hk; exact ⟨b,h1,h2,hK _ h3⟩
        · exact hk.elim
    · rename_i u h1 h2
      obtain ⟨hu,hk⟩:=aS hk
      simp only [hu,cond_true]
      unfold eL at *
      split at hk
      · exact hK _ hk
      · obtain ⟨b,t,g1,g2,g3,g4,g5,g6⟩:=hk; exact ⟨b,t,g1,g2,g3,g4,g5,hK _ g6⟩
      · exact hk.elim
    · exact hk
  | makeInterface t x =>
    simp only [bX] at *
    split at hk <;> first | exact hk | exact hK _ hk
  | makeFunc f a b=>exact hK _ hk
  | lookup t x ix ok =>
    simp only [bX] at *
    split at hk
    · obtain ⟨h1, h2⟩ := aS hk
      simp only [h1,cond_true]
      exact aEL hK h2
    · exact hk
  | slice t x lo hi mx =>
    simp only [bX] at *
    split at hk
    · split at hk
      · unfold bV at *
        split at hk
        · exact dL (fun m hm=>dL (fun n hn=>⟨hn.1,hn.2.1,hK _ hn.2.2⟩) hm) hk
        · exact hk
      · exact hk
    · obtain ⟨h1, h2⟩ := aS hk
      simp only [h1,cond_true]
      exact aBA hK h2
    · split at hk
      · obtain ⟨h1, h2⟩ := aS hk
        simp only [h1,cond_true]
        unfold mV at *
        split at h2
        · exact ⟨h2.1,dL (fun j hj=>dL (fun i hi=>by
            obtain ⟨g1,g2,b,g3,g4,g5,g6⟩:=hi
            exact ⟨g1,g2,b,g3,g4,g5,hK _ g6⟩) hj) h2.2⟩
        · exact h2
      · exact hk
    · exact hk
  | fieldAddr t x f =>
    simp only [bX] at *
    split at hk
    · split at hk
      · rename_i fl _
        cases hz:Nat.beq (P.cellsOf fl.type) 0 with
        | true=>rw [hz] at hk; exact hk.elim
        | false =>
          rw [hz] at hk
          simp only [cond_false] at hk ⊢
          unfold aB at *
          split at hk <;> first | exact hk | exact hK _ hk
      · exact hk
    · exact hk
  | field t x f =>
    simp only [bX] at *
    split at hk
    · split at hk
      · split at hk
        · unfold tS at *
          split at hk <;> first | exact hk | exact hK _ hk
        · unfold uR at *
          split at hk <;> first | exact hk | exact ⟨hk.1,hK _ hk.2⟩
        · exact hk
      · exact hk
    · exact hk
  | indexAddr t x ix =>
    simp only [bX] at *
    split at hk
    · obtain ⟨h1, h2⟩ := aS hk
      simp only [h1,cond_true]
      unfold aU at *
      split at h2
      · exact ⟨h2.1,h2.2.1,h2.2.2.1,hK _ h2.2.2.2⟩
      · exact h2
    · obtain ⟨h1, h2⟩ := aS hk
      simp only [h1,cond_true]
      unfold bT at *
      split at h2
      · exact ⟨h2.1,h2.2.1,hK _ h2.2.2⟩
      · exact h2
    · exact hk
  | index t x ix =>
    simp only [bX] at *
    split at hk
    · unfold cK at *
      split at hk
      · exact ⟨hk.1,hk.2.1,hK _ hk.2.2⟩
      · exact hk
    · split at hk
      · obtain ⟨h1, h2⟩ := aS hk
        simp only [h1,cond_true]
        unfold qO at *
        split at h2
        · exact ⟨h2.1,h2.2.1,h2.2.2.1,hK _ h2.2.2.2⟩
        · exact h2
      · exact hk
    · exact hk
  | build t parts =>
    simp only [bX] at *
    split at hk
    · unfold f9 at *
      split at hk <;> first | exact hk | exact hK _ hk
    · exact hk
  | extract x i =>
    simp only [bX] at *
    unfold aO at *
    split at hk
    · exact ⟨hk.1,hK _ hk.2⟩
    · exact hk
  | call c =>
    obtain ⟨callee,args,argTypes⟩:=c
    cases callee with
    | builtin b =>
      cases b <;> first | exact False.elim hk | skip
      case len=>
        simp only [bX] at *
        split at hk
        · split at hk
          · unfold yQ at *
            split at hk <;> first | exact hk | exact hK _ hk
          · exact hk
        · split at hk
          · unfold bR at *
            split at hk <;> first | exact hk | exact hK _ hk
          · exact hk
        · split at hk <;> first | exact hk | exact hK _ hk
        · exact hk
      case min=>
        simp only [bX] at *
        unfold pMM at *
        split at hk <;> first | exact hk | exact hK _ hk
      case max=>
        simp only [bX] at *
        unfold pMM at *
        split at hk <;> first | exact hk | exact hK _ hk
    | _=>exact False.elim hk
  | _=>exact False.elim hk
theorem tE {ty:Option TypeId} {sz bytes:Nat} {s x:AV} {h:aA} {K K':AV→aA→Prop} (hK:∀ v h,K v h→K' v h) (hk:bU ty sz bytes s x h K):bU ty sz bytes s x h K':=by
 refine ⟨hk.1,xQ (fun news k hk=>?_) hk.2⟩
 split at hk
 ·refine ⟨hk.1, hk.2.1, ?_⟩
  have:=hk.2.2
  split at this
  ·rename_i h0; rw [if_pos h0]; exact hK _ _ this
  ·rename_i h0; rw [if_neg h0]; exact hK _ _ this
 ·obtain ⟨h1, h2, b, h3, h4, h5, h6⟩ := hk
  refine ⟨h1,h2,b,h3,h4,h5, ?_⟩
  rcases h6 with h | h | h | h | h
  ·exact .inl ⟨h.1,hK _ _ h.2⟩
  ·exact .inr (.inl ⟨h.1,h.2.1,hK _ _ h.2.2⟩)
  ·obtain ⟨a1, a2, a3, a4, a5, a6, a7⟩ := h
   exact .inr (.inr (.inl ⟨a1,a2,a3,a4,a5,a6,hK _ _ a7⟩))
  ·obtain ⟨a1, a2, a3, a4, a5, a6, a7, a8, a9, a10⟩ := h
   exact .inr (.inr (.inr (.inl ⟨a1,a2,a3,a4,a5,a6,a7,a8,a9,hK _ _ a10⟩)))
  ·obtain ⟨a1, a2, a3, a4, a5, a6, a7⟩ := h
   exact .inr (.inr (.inr (.inr ⟨a1,a2,a3,a4,a5,a6,hK _ _ a7⟩)))
 ·exact hk
theorem aJB {sz:Nat} {s x:AV} {h:aA} {K K':AV→aA→Prop} (hK:∀ v h,K v h→K' v h) (hk:y2 sz s x h K):y2 sz s x h K':=by
 refine ⟨hk.1,xQ (fun news k hk=>?_) hk.2⟩
 split at hk
 ·exact hK _ _ hk
 ·obtain ⟨b, h1, h2, h3, h4, h5, h6, h7⟩ := hk
  exact ⟨b,h1,h2,h3,h4,h5,h6,hK _ _ h7⟩
 ·exact hk
theorem aMU {R R' : a0} (hR : RLe R R') {o : Oper} {e : Env} {h : aA} {K K' : AV → aA → Prop} (hK : ∀ v h, K v h → K' v h) (hk : d9 P R o e h K) : d9 P R' o e h K' := by
 obtain ⟨dst,op,type,pos,after,guard⟩:=o
 cases op <;> first | exact False.elim hk | skip
 case alloc t=>
  simp only [d9] at *
  split at hk <;> first | exact hk | exact hK _ _ hk
 case box t x=>exact ⟨hk.1,hK _ _ hk.2⟩
 case buildSlice t len parts=>
  simp only [d9] at *
  split at hk
  ·split at hk
   ·obtain ⟨h1, h2⟩ := aS hk
    simp only [h1,cond_true]
    unfold bP at *
    split at h2
    ·exact ⟨h2.1,hK _ _ h2.2⟩
    ·exact h2
   ·exact hk
  ·exact hk
 case store t a x=>
  simp only [d9] at *
  split at hk
  ·unfold aP at *
   split at hk
   ·obtain ⟨b, h1, h2, h3, h4, h5, h6, h7, h8, h9⟩ := hk
    exact ⟨b,h1,h2,h3,h4,h5,h6,h7,h8,hK _ _ h9⟩
   ·exact hk
  ·exact hk
 case convert src dst' x=>
  simp only [d9] at *
  split at hk
  ·split at hk
   ·unfold gX at *
    split at hk <;> first | exact hk | exact hK _ _ hk
   ·exact hk
  ·exact hk
 case makeMap t r=>
  cases r with
  | some r=>exact False.elim hk
  | none =>
   simp only [d9] at *
   split at hk
   ·exact hK _ _ hk
   ·exact hk
 case mapUpdate t m k x=>
  simp only [d9] at *
  split at hk
  ·obtain ⟨h1, h2⟩ := aS hk
   simp only [h1,cond_true]
   exact uJ (hK _) h2
  ·exact hk
 case insert t m k x=>
  simp only [d9] at *
  split at hk
  ·obtain ⟨h1, h2⟩ := aS hk
   simp only [h1,cond_true]
   exact uJ (hK _) h2
  ·exact hk
 case makeSlice t l c=>
  simp only [d9] at *
  split at hk
  ·split at hk
   ·unfold xF at *
    split at hk
    ·obtain ⟨h1, h2, h3, h4, h5, h6, h7⟩ := hk
     exact ⟨h1,h2,h3,h4,h5,h6,hK _ _ h7⟩
    ·exact hk
   ·exact hk
  ·exact hk
 case call c =>
  obtain ⟨callee,args,argTypes⟩:=c
  cases callee with
  | invoke r m =>
   simp only [d9] at *
   unfold yU at *
   split at hk
   ·split at hk
    ·obtain ⟨h1, h2⟩ := aS hk
     unfold oF
     rw [h1]
     exact hR _ _ _ _ _ hK h2
    ·exact hk.elim
   ·exact hk.elim
  | builtin b =>
   cases b <;> first | exact False.elim hk | skip
   case append=>
    simp only [d9] at *
    split at hk
    ·obtain ⟨h1, h2⟩ := aS hk
     simp only [h1,cond_true]
     exact tE hK h2
    ·obtain ⟨h1, h2⟩ := aS hk
     simp only [h1,cond_true]
     exact tE hK h2
    ·split at hk
     ·unfold uT at *
      split at hk
      ·exact ⟨hk.1,hk.2.1,hk.2.2.1,hk.2.2.2.1,hk.2.2.2.2.1,hK _ _ hk.2.2.2.2.2⟩
      ·exact hk.elim
     ·exact hk.elim
    ·exact hk
   case cap=>
    simp only [d9] at *
    split at hk
    ·unfold aRI at *
     split at hk
     ·exact hK _ _ hk
     ·exact hK _ _ hk
     ·rcases hk with ⟨b, c, q1, q2, q3, q4, q5, q6, q7, q8⟩ | hk
      ·exact .inl ⟨b,c,q1,q2,q3,q4,q5,q6,q7,hK _ _ q8⟩
      ·exact .inr fun c hc=>hK _ _ (hk c hc)
     ·exact hk.elim
    ·exact hk.elim
   case unsafeSliceData=>
    simp only [d9] at *
    split at hk
    ·unfold iA at *
     split at hk
     ·exact hK _ _ hk
     ·exact ⟨hk.1,hK _ _ hk.2⟩
     ·exact hk.elim
    ·exact hk.elim
   case unsafeString=>
    simp only [d9] at *
    split at hk
    ·obtain ⟨h1, h2⟩ := aS hk
     simp only [h1,cond_true]
     unfold mH at *
     split at h2
     ·exact ⟨h2.1,hK _ _ h2.2⟩
     ·obtain ⟨b, t, q1, q2, q3, q4, q5, q6, q7, q8, q9, q10, q11, q12⟩ := h2
      exact ⟨b,t,q1,q2,q3,q4,q5,q6,q7,q8,q9,q10,q11,hK _ _ q12⟩
     ·exact h2.elim
    ·exact hk.elim
   case copy=>
    simp only [d9] at *
    split at hk
    ·obtain ⟨h1, h2⟩ := aS hk
     simp only [h1,cond_true]
     exact aJB hK h2
    ·exact hk
  | value f =>
   have c:∀ {g:FuncId} {l:List AV},oF R g l h K→oF R' g l h K':=fun {g l} hk=>by
    obtain ⟨h1,h2⟩:=aS hk
    unfold oF
    rw [h1]
    exact hR _ _ _ _ _ hK h2
   have v:∀ {g:AV},cL R g (args.toList.map (ev e h)) h K→cL R' g (args.toList.map (ev e h)) h K':=fun {g} hk=>by
    unfold cL at hk
    split at hk
    ·exact c hk
    ·exact hR _ _ _ _ _ hK hk
    ·exact hk.elim
   cases f with
   | func g=>exact c hk
   | tmp t=>exact v hk
   | const c=>exact v hk
   | global c=>exact v hk
theorem aFO {R R':a0} (hR:RLe R R') {o:Oper} {e:Env} {h:aA} {K K':AV→aA→Prop} (hK:∀ v h,K v h→K' v h) (hk:aop P R o e h K):aop P R' o e h K':=by
 unfold aop at *
 cases hb:eO P o with
 | true=>rw [hb] at hk; exact aMU hR hK hk
 | false=>rw [hb] at hk; exact wA (K:=fun v=>K v h) (fun v hv=>hK _ _ hv) hk
theorem xM {want x:Bool} {A B A' B':Prop} (hA:A→A') (hB:B→B') (h:y7 want x A B):y7 want x A' B':=by
 cases want <;> cases x <;> first | exact hA h | exact hB h
theorem pU {ops:Array Oper} {o:Oper} {e:Env} {A B A' B':Env→Prop} (hA:∀ e,A e→A' e) (hB:∀ e,B e→B' e) (h:f8 ops o e A B):f8 ops o e A' B':=by
 unfold f8 at *
 split at h
 ·exact hA _ h
 ·split at h
  ·exact hB _ h
  ·split at h
   ·exact xM (hA _) (hB _) h
   ·exact hB _ h
   ·exact h
theorem wB {R R':a0} (hR:RLe R R') {nt:Nat} {ops:Array Oper} {K K':Env→aA→Prop} (hK:∀ e h,K e h→K' e h):∀ (l:List Oper) (e:Env) (h:aA),aBD P R nt ops l e h K→aBD P R' nt ops l e h K'
 | [],e,h,hk=>hK _ _ hk
 | o :: l, e, h, hk => by
  obtain ⟨h1,h2⟩:=aS hk
  simp only [aBD,h1,cond_true]
  exact pU (fun e=>aFO hR fun v h hv=>kY (fun v hv=>wB hR hK l _ _ hv) hv) (fun e=>wB hR hK l _ _) h2
theorem jR {X A A':Prop} (hA:A→A') (h:X∧A):X∧A':=⟨h.1,hA h.2⟩
theorem aH9 {ops:Array Oper} {o:Oper} {e:Env} {h:aA} {A A':Prop} (hA:A→A') (hk:xR P ops o e h A):xR P ops o e h A':=by
 have go:(bX P o (restr (o.looksAt ops) e) h fun v=>cP P o v fun v=>dM e o.dst v∧A)→(bX P o (restr (o.looksAt ops) e) h fun v=>cP P o v fun v=>dM e o.dst v∧A'):=
  wA fun v hv=>kY (fun v hv=>jR hA hv) hv
 unfold xR at *
 split at hk
 ·exact go hk
 ·split at hk
  ·exact jR hA hk
  ·split at hk
   ·exact xM go (jR hA) hk
   ·exact jR hA hk
   ·exact hk
theorem kW {ops:Array Oper} {i:Nat} {e:Env} {h:aA} {A A':Prop} (hA:A→A'):∀ {D:List Nat},iV P ops i e h A D→iV P ops i e h A' D
 | [],hk=>hA hk
 | k :: D, hk => by
  unfold iV at *
  split at hk
  ·exact kW hA hk
  ·rename_i o _
   cases hc:jY P o && !eO P o && !nN ops i k with
   | true=>rw [hc] at hk; exact aH9 (kW hA) hk
   | false=>rw [hc] at hk; exact kW hA hk
theorem aMM {R R' : a0} (hR : RLe R R') {nt : Nat} {ops : Array Oper} {K K' : Env → aA → Prop} (hK : ∀ e h, K e h → K' e h) : ∀ (ord : Ord) (D : List Nat) (e : Env) (h : aA), iB P R nt ops ord D e h K → iB P R' nt ops ord D e h K' := by
 intro ord
 induction ord with
 | done=>intro D e h hk; exact hK _ _ hk
 | stop=>intro D e h hk; trivial
 | neu i r ih =>
  intro D e h hk
  unfold iB at hk ⊢
  split at hk
  ·exact hk
  ·exact mK (pU (fun e=>wA fun v hv=>kY (fun v hv=>ih _ _ _ hv) hv) (fun e=>ih _ _ _)) hk
 | eff i r alt ihr iha =>
  intro D e h hk
  unfold iB at hk ⊢
  split at hk
  ·exact hk
  ·rename_i o _
   refine mK ?_ hk
   have now:aM9 P R nt ops i o r D e h K→aM9 P R' nt ops i o r D e h K':=by
    refine pU (fun e=>aFO hR fun v h' hv=>kY (fun v hv=>?_) hv) (fun e=>ihr _ _ _)
    revert hv
    cases eO P o with
    | true=>exact kW (ihr _ _ _)
    | false=>exact ihr _ _ _
   intro hk
   cases hs:alt.isStop with
   | true=>rw [hs] at hk; exact now hk
   | false=>rw [hs] at hk; exact ⟨now hk.1,iha _ _ _ hk.2⟩
theorem aIS {F F':(Env→aA→Prop)→Env→aA→Prop} (hF:∀ I e h,F I e h→F' I e h) {e:Env} {h:aA} (hk:qD F e h):qD F' e h:=
 fun I hI=>hk I fun e h hx=>hI e h (hF I e h hx)
theorem aGP {F F':(Nat→Env→aA→Prop)→Nat→Env→aA→Prop} (hF:∀ I l e h,F I l e h→F' I l e h) {l:Nat} {e:Env} {h:aA} (hk:lM F l e h):lM F' l e h:=
 fun I hI=>hk I fun l e h hx=>hI l e h (hF I l e h hx)
theorem sH {x:Code} {I I':Nat→Env→aA→Prop} (hI:∀ l e h,I l e h→I' l e h) {K K':Kx} (hK:∀ x e h,K x e h→K' x e h) (ex:Exit) (e:Env) (h:aA) (hk:dX x I K ex e h):dX x I' K' ex e h:=by
 cases ex with
 | goto l =>
  simp only [dX] at *
  revert hk
  cases oM x l
  ·exact hK _ _ _
  ·exact hI _ _ _
 | _=>exact hK _ _ _ hk
theorem wU {R R' : a0} (hR : RLe R R') {nt : Nat} : ∀ (c : Code),
  (∀ (ann:Ann) (e:Env) (h:aA) (K K':Kx),(∀ x e h,K x e h→K' x e h)→b9 P R nt ann c e h K→b9 P R' nt ann c e h K') ∧
  (∀ (ann:Ann) (l:Nat) (e:Env) (h:aA) (K K':Kx),(∀ x e h,K x e h→K' x e h)→aFrom P R nt ann c l e h K→aFrom P R' nt ann c l e h K'):=by
 intro c
 induction c with
 | skip =>
  refine ⟨?_, ?_⟩
  ·intro ann e h K K' hK hk; exact hK _ _ _ hk
  ·intro ann l e h K K' hK hk; simp only [aFrom] at hk
 | region id ops draw =>
  refine ⟨?_, ?_⟩
  ·intro ann e h K K' hK hk
   simp only [b9] at *
   cases draw with
   | false=>exact wB hR (hK _) _ _ _ hk
   | true =>
    simp only [cond_true] at *
    obtain ⟨h1,h2⟩:=aS hk
    simp only [h1,cond_true]
    exact aMM hR (fun e h he=>hK _ _ _ he) _ _ _ _ h2
  ·intro ann l e h K K' hK hk; simp only [aFrom] at hk
 | seq x y ihx ihy =>
  refine ⟨?_, ?_⟩
  ·intro ann e h K K' hK hk
   simp only [b9] at *
   refine ihx.1 _ _ _ _ _ (fun ex e h hx=>?_) hk
   cases ex with
   | normal=>exact ihy.1 _ _ _ _ _ hK hx
   | _=>exact hK _ _ _ hx
  ·intro ann l e h K K' hK hk
   simp only [aFrom] at *
   revert hk
   cases oM x l
   ·exact ihy.2 _ _ _ _ _ _ hK
   ·refine ihx.2 _ _ _ _ _ _ (fun ex e h hx => ?_)
    cases ex with
    | normal=>exact ihy.1 _ _ _ _ _ hK hx
    | _=>exact hK _ _ _ hx
 | cond c x y ihx ihy =>
  refine ⟨?_, ?_⟩
  ·intro ann e h K K' hK hk
   exact zR (ihx.1 _ _ _ _ _ hK) (ihy.1 _ _ _ _ _ hK) hk
  ·intro ann l e h K K' hK hk; simp only [aFrom] at hk
 | block id x ih =>
  refine ⟨?_, ?_⟩
  ·intro ann e h K K' hK hk
   simp only [b9] at *
   refine ih.1 _ _ _ _ _ (fun ex e h hx=>?_) hk
   cases ex with
   | exit id' =>
    simp only [gP] at *
    revert hx
    cases Nat.beq id' id <;> exact hK _ _ _
   | _=>exact hK _ _ _ hx
  ·intro ann l e h K K' hK hk; simp only [aFrom] at hk
 | scope x ih =>
  refine ⟨?_, ?_⟩
  ·intro ann e h K K' hK hk
   simp only [b9] at *
   cases hg:pM x with
   | false =>
    rw [hg] at hk
    refine ih.1 _ _ _ _ _ (fun ex e h hx=>?_) hk
    cases ex <;> first | exact hx.elim | exact hK _ _ _ hx
   | true =>
    rw [hg] at hk
    refine ih.1 _ _ _ _ _ (sH (fun l e h hx=>?_) hK) hk
    exact aGP (fun I l e h hx=>ih.2 _ _ _ _ _ _ (sH (fun _ _ _ h=>h) hK) hx) hx
  ·intro ann l e h K K' hK hk; simp only [aFrom] at hk
 | loop x ih =>
  refine ⟨?_, ?_⟩
  ·intro ann e h K K' hK hk
   simp only [b9] at *
   refine aIS (fun I e h hx=>ih.1 _ _ _ _ _ (fun ex e h hx=>?_) hx) hk
   cases ex with
   | normal=>exact hx
   | _=>exact hK _ _ _ hx
  ·intro ann l e h K K' hK hk; simp only [aFrom] at hk
 | exit id =>
  refine ⟨?_, ?_⟩
  ·intro ann e h K K' hK hk; exact hK _ _ _ hk
  ·intro ann l e h K K' hK hk; simp only [aFrom] at hk
 | label l =>
  refine ⟨?_, ?_⟩
  ·intro ann e h K K' hK hk; exact hK _ _ _ hk
  ·intro ann l1 e h K K' hK hk
   simp only [aFrom] at *
   revert hk
   cases Nat.beq l l1
   ·exact id
   ·exact hK _ _ _
 | ret =>
  refine ⟨?_, ?_⟩
  ·intro ann e h K K' hK hk; exact hK _ _ _ hk
  ·intro ann l e h K K' hK hk; simp only [aFrom] at hk
 | goto l =>
  refine ⟨?_, ?_⟩
  ·intro ann e h K K' hK hk; exact hK _ _ _ hk
  ·intro ann l e h K K' hK hk; simp only [aFrom] at hk
 | _ =>
  refine ⟨?_, ?_⟩
  ·intro ann e h K K' hK hk; exact False.elim hk
  ·intro ann l e h K K' hK hk; simp only [aFrom] at hk
theorem sJ {R R':a0} (hR:RLe R R') {nt:Nat} (c:Code) (ann:Ann) (e:Env) (h:aA) (K K':Kx):(∀ x e h,K x e h→K' x e h)→b9 P R nt ann c e h K→b9 P R' nt ann c e h K':=
 (wU hR c).1 ann e h K K'
theorem xD {R:a0} (hR:RLe R R) {nt:Nat} {ann:Ann} {x:Code} {K:Kx} {l:Nat} {e:Env} {h:aA}
  (hk:aFrom P R nt ann x l e h (dX x (lM fun I l e h=>aFrom P R nt ann x l e h (dX x I K)) K)):lM (fun I l e h=>aFrom P R nt ann x l e h (dX x I K)) l e h:=by
 intro I hI
 exact hI _ _ _ ((wU hR x).2 _ _ _ _ _ _ (sH (fun l e h hx=>hx I hI) (fun _ _ _ h=>h)) hk)
theorem aMP {h:aA} {e:Env} {r:ResultVar} {K K':AV→Prop} (hK:∀ v,K v→K' v) (hk:aM2 P h e r K):aM2 P h e r K':=by
 cases r with
 | tmp t=>exact hK _ hk
 | cell x t =>
  simp only [aM2] at *
  split at hk
  ·unfold dC at *
   split at hk
   ·obtain ⟨b,h1,h2,h3⟩:=hk; exact ⟨b,h1,h2,hK _ h3⟩
   ·exact hk
  ·unfold aD at *
   split at hk
   ·obtain ⟨b,h1,h2,h3⟩:=hk; exact ⟨b,h1,h2,hK _ h3⟩
   ·exact hk
  ·exact hk
theorem xC {h:aA} {e:Env}:∀ {rs:List ResultVar} {K K':List AV→Prop},(∀ v,K v→K' v)→fJ P h e rs K→fJ P h e rs K'
 | [],_,_,hK,hk=>hK _ hk
 | r :: rs,_,_,hK,hk=>aMP (fun v hv=>xC (fun vs hvs=>hK _ hvs) hv) hk
theorem aLM {h0:aA} {K K':AV→aA→Prop} (hK:∀ v h,K v h→K' v h) {r:AV} {h:aA} (hk:aH h0 K r h):aH h0 K' r h:=by
 rcases hk with hk | ⟨keep,h1,h2,h3,h4,h5,h6⟩
 ·exact .inl (hK _ _ hk)
 ·exact .inr ⟨keep,h1,h2,h3,h4,h5,hK _ _ h6⟩
theorem aM4 {fn:Func} {K K':AV→aA→Prop} (hK:∀ v h,K v h→K' v h) {x:Exit} {e:Env} {h:aA} (hk:zH P fn K x e h):zH P fn K' x e h:=by
 cases x <;> first | exact xC (fun vs hv=>hK _ _ hv) hk | exact hk.elim
theorem aRM {R R':a0} (hR:RLe R R') {f:FuncId} {args:List AV} {h:aA} {K K':AV→aA→Prop} (hK:∀ v h,K v h→K' v h) (hk:aF P R f args h K):aF P R' f args h K':=by
 obtain ⟨fn,body,ann,h1,h2,h3,h4,h5⟩:=hk
 exact ⟨fn,body,ann,h1,h2,h3,h4,sJ hR _ _ _ _ _ _ (fun x e h hx=>aM4 (fun v h hv=>aLM hK hv) hx) h5⟩
theorem aIB {X:a0} {f:FuncId} {args:List AV} {h:aA} {K K':AV→aA→Prop} (hK:∀ v h,K v h→K' v h) (hk:fA P X f args h K):fA P X f args h K':=
 fun R hm hX hF=>hm _ _ _ _ _ hK (hk R hm hX hF)
theorem y6 {X:a0} {f:FuncId} {args:List AV} {h:aA} {K:AV→aA→Prop} (hk:aF P (fA P X) f args h K):fA P X f args h K:=by
 intro R hm hX hF
 refine hF _ _ _ _ (aRM (fun f args h K K' hK hk=>hm _ _ _ _ _ hK (hk R hm hX hF)) (fun v h hv=>hv) hk)
theorem aGI {X:a0} {f:FuncId} {args:List AV} {h:aA} {K:AV→aA→Prop} (hk:X f args h K):fA P X f args h K:=
 fun R hm hX hF=>hX _ _ _ _ hk
theorem aHP {R:a0} (hR:RLe R R) {nt:Nat} {ann:Ann} {x:Code} {K K':Kx} (hK:∀ x e h,K x e h→K' x e h) {I I':Env→aA→Prop} (hI:∀ e h,I e h→I' e h) {e:Env} {h:aA}
  (hk:oK P R nt ann x K I e h):oK P R nt ann x K' I' e h:=by
 refine sJ hR _ _ _ _ _ _ (fun x e h hx=>?_) hk
 cases x with
 | normal=>exact hI _ _ hx
 | _=>exact hK _ _ _ hx
theorem zQ {R:a0} (hR:RLe R R) {nt:Nat} {ann:Ann} {x:Code} {K:Kx} {e:Env} {h:aA} (hk:oK P R nt ann x K (qD (oK P R nt ann x K)) e h):qD (oK P R nt ann x K) e h:=by
 intro I hI
 exact hI _ _ (aHP hR (fun _ _ _ h=>h) (fun e h hx=>hx I hI) hk)
theorem jV {R:a0} (hR:RLe R R) {nt:Nat}:∀ (path:List Nat) (ann:Ann) (c:Code) (e:Env) (h:aA) (K:Kx),aAt P R nt .round path ann c e h K→aAt P R nt .head path ann c e h K
 | [], ann, c, e, h, K, hk => by
  unfold aAt at *
  cases c <;> first | exact hk.elim | exact zQ hR hk
 | d :: path, ann, c, e, h, K, hk => by
  unfold aAt at *
  cases c <;> first | exact hk.elim | skip
  case seq x y=>
   revert hk
   simp only
   cases Nat.beq d 0 <;> exact jV hR path _ _ _ _ _
  case cond c x y=>
   revert hk
   simp only
   cases Nat.beq d 0 <;> exact jV hR path _ _ _ _ _
  case block id x=>exact jV hR path _ _ _ _ _ hk
  case scope x=>
   revert hk
   simp only
   cases pM x <;> exact jV hR path _ _ _ _ _
  case loop x=>exact jV hR path _ _ _ _ _ hk
theorem o9 (X:a0):RLe (fA P X) (fA P X):=fun f args h K K' hK hk=>aIB hK hk
end
end Go.GAM
namespace Go.GAM
abbrev JT:=Nat→Env→aA→Prop
def aM (n:Int) (K:Int→Prop):Prop:=K n
def toL (J : JT) (ann : Ann) (c : Code) (l : Nat) (e : Env) (h : aA) : Prop :=
 match c with
 | .seq x y => bif oM x l then (match x with
   | .label _=>bif Nat.beq ann.j 0 then False else J ann.j (restr ann.live e) h
   | x=>toL J ann.a x l e h)
  else toL J ann.b y l e h
 | _=>False
def exJ (P : Program) (R : a0) (nt : Nat) (J : JT) (ann : Ann) (c : Code) (e : Env) (h : aA) (K : Kx) : Prop :=
 match c with
 | .skip=>K .normal e h
 | .region _ ops draw =>
  bif draw then (bif jD ops true ann.o [] then iB P R nt ops ann.o [] e h (K .normal) else False)
  else aBD P R nt ops ops.toList e h (K .normal)
 | .seq x y=>exJ P R nt J ann.a x e h (pY (fun e h=>bif Nat.beq ann.j 0 then exJ P R nt J ann.b y (restr ann.live e) h K else J ann.j (restr ann.live e) h) K)
 | .cond c x y=>aIf (ev e h c) (exJ P R nt J ann.a x e h K) (exJ P R nt J ann.b y e h K)
 | .block id x=>exJ P R nt J ann.a x e h (gP id K)
 | .scope x=>bif pM x then exJ P R nt J ann.a x e h (dX x (fun l e h=>toL J ann.a x l e h) K) else exJ P R nt J ann.a x e h (wQ K)
 | .loop _=>J ann.j (restr ann.live e) h
 | .exit id=>K (.exit id) e h
 | .label _=>K .normal e h
 | .goto l=>K (.goto l) e h
 | .ret=>K .ret e h
 | _=>False
def atJ (P : Program) (R : a0) (nt : Nat) (J : JT) (round : Bool) : List Nat → Ann → Code → Env → aA → Kx → Prop
 | [], ann, c, e, h, K =>
  match round with
  | false=>exJ P R nt J ann c e h K
  | true => match c with
   | .loop x=>exJ P R nt J ann.a x e h (pY (fun e h=>J ann.j (restr ann.live e) h) K)
   | _=>False
 | d :: path, ann, c, e, h, K =>
  match c with
  | .seq x y=>bif Nat.beq d 0 then atJ P R nt J round path ann.a x e h (pY (fun e h=>bif Nat.beq ann.j 0 then exJ P R nt J ann.b y (restr ann.live e) h K else J ann.j (restr ann.live e) h) K)
    else atJ P R nt J round path ann.b y e h K
  | .cond _ x y=>bif Nat.beq d 0 then atJ P R nt J round path ann.a x e h K else atJ P R nt J round path ann.b y e h K
  | .block id x=>atJ P R nt J round path ann.a x e h (gP id K)
  | .scope x=>bif pM x then atJ P R nt J round path ann.a x e h (dX x (fun l e h=>toL J ann.a x l e h) K) else atJ P R nt J round path ann.a x e h (wQ K)
  | .loop x=>atJ P R nt J round path ann.a x e h (pY (fun e h=>J ann.j (restr ann.live e) h) K)
  | _=>False
def places:Ann→Code→List (Nat × List Nat × Bool)
 | ann,.seq x y=>(bif Nat.beq ann.j 0 then [] else [(ann.j,[1],false)])++(places ann.a x).map (fun q=>(q.1,0 :: q.2.1,q.2.2))++(places ann.b y).map (fun q=>(q.1,1 :: q.2.1,q.2.2))
 | ann,.cond _ x y=>(places ann.a x).map (fun q=>(q.1,0 :: q.2.1,q.2.2))++(places ann.b y).map (fun q=>(q.1,1 :: q.2.1,q.2.2))
 | ann,.block _ x=>(places ann.a x).map (fun q=>(q.1,0 :: q.2.1,q.2.2))
 | ann,.scope x=>(places ann.a x).map (fun q=>(q.1,0 :: q.2.1,q.2.2))
 | ann,.loop x=>(ann.j,[],true) :: (places ann.a x).map (fun q=>(q.1,0 :: q.2.1,q.2.2))
 | _,_=>[]
def aSV (b:Bool):Way:=match b with | true=>.head | false=>.run
def xN:List (Nat × List Nat × Bool)→Nat→Option (List Nat × Bool)
 | [],_=>none
 | (k,v) :: r,n=>bif Nat.beq k n then some v else xN r n
def aJD (P:Program) (R:a0) (nt:Nat) (ann:Ann) (c:Code) (K:Kx):JT:=fun k e h=>
 match xN (places ann c) k with
 | some (p,b)=>aAt P R nt (aSV b) p ann c e h K
 | none=>False
def aGO (n:Nat):List (Nat × List Nat × Bool)→Bool
 | []=>true
 | (k,_) :: r=>bif Nat.beq k n then false else aGO n r
def aL:List (Nat × List Nat × Bool)→Bool
 | []=>true
 | (k,_) :: r=>bif aGO k r then aL r else false
theorem aB3 {n:Nat}:∀ {l:List (Nat × List Nat × Bool)},aGO n l=true→∀ v,(n,v) ∉ l
 | [],_,_=>by simp
 | (k, u) :: r, h, v => by
  unfold aGO at h
  cases hb:Nat.beq k n with
  | true=>rw [hb] at h; cases h
  | false =>
   rw [hb] at h
   intro hm
   rcases List.mem_cons.1 hm with he | hm
   ·injection he with h1 _; subst h1; simp at hb
   ·exact aB3 h v hm
theorem aCN : ∀ {l : List (Nat × List Nat × Bool)}, aL l = true → ∀ {k : Nat} {v : List Nat × Bool}, (k, v) ∈ l → xN l k = some v
 | [],_,_,_,h=>by cases h
 | (k0, u) :: r, hd, k, v, h => by
  unfold aL at hd
  cases hn:aGO k0 r with
  | false=>rw [hn] at hd; cases hd
  | true =>
   rw [hn] at hd
   unfold xN
   rcases List.mem_cons.1 h with he | hm
   ·injection he with h1 h2; subst h1; subst h2; simp
   ·have hne : k0 ≠ k := fun e => aB3 hn v (e ▸ hm)
    rw [lY hne]
    exact aCN hd hm
section
variable {P:Program}
def cH (P:Program) (R:a0) (nt:Nat) (J:JT) (ann:Ann) (c:Code) (K:Kx):Prop:=
 ∀ k p b,(k,p,b)∈places ann c→∀ e h,J k e h→aAt P R nt (aSV b) p ann c e h K
theorem cH.act {R:a0} {nt:Nat} {ann:Ann} {c:Code} {K:Kx} (hd:aL (places ann c)=true):cH P R nt (aJD P R nt ann c K) ann c K:=by
 intro k p b hm e h hJ
 unfold aJD at hJ
 rw [aCN hd hm] at hJ
 exact hJ
section
variable {R:a0} {nt:Nat} {J:JT} {ann:Ann} {x y:Code} {K:Kx}
theorem cH.seq1 (h:cH P R nt J ann (.seq x y) K):cH P R nt J ann.a x (pY (fun e h=>b9 P R nt ann.b y (restr ann.live e) h K) K):=fun k p b hm e hh hJ=>
 h k (0 :: p) b (by simp only [places,List.mem_append,List.mem_map]; exact .inl (.inr ⟨_,hm,rfl⟩)) e hh hJ
theorem cH.seq2 (h:cH P R nt J ann (.seq x y) K):cH P R nt J ann.b y K:=fun k p b hm e hh hJ=>
 h k (1 :: p) b (by simp only [places,List.mem_append,List.mem_map]; exact .inr ⟨_,hm,rfl⟩) e hh hJ
theorem cH.seqJ (h:cH P R nt J ann (.seq x y) K) (hj:Nat.beq ann.j 0=false) {e:Env} {hh:aA} (hJ:J ann.j e hh):b9 P R nt ann.b y e hh K:=
 h ann.j [1] false (by simp only [places,List.mem_append,hj,cond_false]; exact .inl (.inl (by simp))) e hh hJ
theorem cH.cond1 {c:Operand} (h:cH P R nt J ann (.cond c x y) K):cH P R nt J ann.a x K:=fun k p b hm e hh hJ=>
 h k (0 :: p) b (by simp only [places,List.mem_append,List.mem_map]; exact .inl ⟨_,hm,rfl⟩) e hh hJ
theorem cH.cond2 {c:Operand} (h:cH P R nt J ann (.cond c x y) K):cH P R nt J ann.b y K:=fun k p b hm e hh hJ=>
 h k (1 :: p) b (by simp only [places,List.mem_append,List.mem_map]; exact .inr ⟨_,hm,rfl⟩) e hh hJ
theorem cH.block {id:Nat} (h:cH P R nt J ann (.block id x) K):cH P R nt J ann.a x (gP id K):=fun k p b hm e hh hJ=>
 h k (0 :: p) b (by simp only [places,List.mem_map]; exact ⟨_,hm,rfl⟩) e hh hJ
theorem cH.scope (hg:pM x=false) (h:cH P R nt J ann (.scope x) K):cH P R nt J ann.a x (wQ K):=fun k p b hm e hh hJ=>by
 have:=h k (0 :: p) b (by simp only [places,List.mem_map]; exact ⟨_,hm,rfl⟩) e hh hJ
 simp only [aAt,hg,cond_false] at this
 exact this
theorem cH.scopeG (hg:pM x=true) (h:cH P R nt J ann (.scope x) K):cH P R nt J ann.a x (dX x (lM fun I l e h=>aFrom P R nt ann.a x l e h (dX x I K)) K):=fun k p b hm e hh hJ=>by
 have:=h k (0 :: p) b (by simp only [places,List.mem_map]; exact ⟨_,hm,rfl⟩) e hh hJ
 simp only [aAt,hg,cond_true] at this
 exact this
theorem cH.loop (h:cH P R nt J ann (.loop x) K):cH P R nt J ann.a x (pY (fun e h=>qD (oK P R nt ann x K) (restr ann.live e) h) K):=fun k p b hm e hh hJ=>
 h k (0 :: p) b (by simp only [places,List.mem_cons,List.mem_map]; exact .inr ⟨_,hm,rfl⟩) e hh hJ
theorem cH.loopJ (h:cH P R nt J ann (.loop x) K) {e:Env} {hh:aA} (hJ:J ann.j e hh):qD (oK P R nt ann x K) e hh:=
 h ann.j [] true (by simp only [places,List.mem_cons]; exact .inl trivial) e hh hJ
end
theorem aP0 {R : a0} {nt : Nat} {J : JT} : ∀ (c : Code) (ann : Ann) (l : Nat) (e : Env) (h : aA) (K : Kx), cH P R nt J ann c K → toL J ann c l e h → aFrom P R nt ann c l e h K := by
 intro c
 induction c with
 | seq x y ihx ihy =>
  intro ann l e h K hM hk
  unfold toL at hk
  unfold aFrom
  cases hl:oM x l with
  | true =>
   rw [hl] at hk
   simp only [cond_true] at hk ⊢
   split at hk
   ·rename_i l'
    cases hj:Nat.beq ann.j 0 with
    | true=>rw [hj] at hk; exact hk.elim
    | false =>
     rw [hj] at hk
     unfold aFrom
     unfold oM at hl
     rw [hl]
     exact hM.seqJ hj hk
   ·exact ihx _ _ _ _ _ hM.seq1 hk
  | false =>
   rw [hl] at hk
   exact ihy _ _ _ _ _ hM.seq2 hk
 | _=>intro ann l e h K hM hk; exact False.elim hk
theorem aGJ {R:a0} (hR:RLe R R) {nt:Nat} {J:JT} {ann:Ann} {x:Code} {K K':Kx} (hg:pM x=true) (hM:cH P R nt J ann (.scope x) K') (hK:∀ x e h,K x e h→K' x e h) (ex:Exit) (e:Env) (h:aA) (hx:dX x (fun l e h=>toL J ann.a x l e h) K ex e h) :
  dX x (lM fun I l e h=>aFrom P R nt ann.a x l e h (dX x I K')) K' ex e h:=by
 cases ex with
 | goto l =>
  simp only [dX] at hx ⊢
  cases hl:oM x l with
  | true =>
   rw [hl] at hx
   exact xD hR (aP0 x ann.a l e h _ (cH.scopeG hg hM) hx)
  | false=>rw [hl] at hx; exact hK _ _ _ hx
 | _=>exact hK _ _ _ hx
theorem pI {R:a0} (hR:RLe R R) {nt:Nat} {J:JT}:∀ (c:Code) (ann:Ann) (e:Env) (h:aA) (K K':Kx),cH P R nt J ann c K'→(∀ x e h,K x e h→K' x e h)→exJ P R nt J ann c e h K→b9 P R nt ann c e h K':=by
 intro c
 induction c with
 | skip=>intro ann e h K K' hM hK hk; exact hK _ _ _ hk
 | region id ops draw =>
  intro ann e h K K' hM hK hk
  exact sJ hR (.region id ops draw) ann _ _ K K' hK hk
 | seq x y ihx ihy =>
  intro ann e h K K' hM hK hk
  refine ihx _ _ _ _ _ hM.seq1 (fun ex e h hx=>?_) hk
  cases ex with
  | normal =>
   simp only [pY] at *
   cases hj:Nat.beq ann.j 0 with
   | true=>rw [hj] at hx; exact ihy _ _ _ _ _ hM.seq2 hK hx
   | false=>rw [hj] at hx; exact hM.seqJ hj hx
  | _=>exact hK _ _ _ hx
 | cond c x y ihx ihy =>
  intro ann e h K K' hM hK hk
  exact zR (ihx _ _ _ _ _ hM.cond1 hK) (ihy _ _ _ _ _ hM.cond2 hK) hk
 | block id x ih =>
  intro ann e h K K' hM hK hk
  refine ih _ _ _ _ _ hM.block (fun ex e h hx=>?_) hk
  cases ex with
  | exit id' =>
   simp only [gP] at *
   revert hx
   cases Nat.beq id' id <;> exact hK _ _ _
  | _=>exact hK _ _ _ hx
 | scope x ih =>
  intro ann e h K K' hM hK hk
  simp only [exJ,b9] at *
  cases hg:pM x with
  | true =>
   rw [hg] at hk
   exact ih _ _ _ _ _ (cH.scopeG hg hM) (aGJ hR hg hM hK) hk
  | false=>
  rw [hg] at hk
  refine ih _ _ _ _ _ (cH.scope hg hM) (fun ex e h hx=>?_) hk
  cases ex <;> first | exact hx.elim | exact hK _ _ _ hx
 | loop x ih=>intro ann e h K K' hM hK hk; exact hM.loopJ hk
 | exit id=>intro ann e h K K' hM hK hk; exact hK _ _ _ hk
 | label l=>intro ann e h K K' hM hK hk; exact hK _ _ _ hk
 | goto l=>intro ann e h K K' hM hK hk; exact hK _ _ _ hk
 | ret=>intro ann e h K K' hM hK hk; exact hK _ _ _ hk
 | _=>intro ann e h K K' hM hK hk; exact False.elim hk
theorem lK {R : a0} (hR : RLe R R) {nt : Nat} {J : JT} {round : Bool} : ∀ (path : List Nat) (ann : Ann) (c : Code) (e : Env) (h : aA) (K K' : Kx), cH P R nt J ann c K' → (∀ x e h, K x e h → K' x e h) → atJ P R nt J round path ann c e h K →
  aAt P R nt (match round with | true=>.round | false=>.run) path ann c e h K'
 | [], ann, c, e, h, K, K', hM, hK, hk => by
  cases round with
  | false=>exact pI hR c ann e h K K' hM hK hk
  | true =>
   cases c <;> first | exact hk.elim | skip
   rename_i x
   refine pI hR x ann.a e h _ _ hM.loop (fun ex e h hx=>?_) hk
   cases ex with
   | normal=>exact hM.loopJ hx
   | _=>exact hK _ _ _ hx
 | d :: path, ann, c, e, h, K, K', hM, hK, hk => by
  unfold atJ at hk
  unfold aAt
  cases c <;> first | exact hk.elim | skip
  case seq x y=>
   simp only at hk ⊢
   cases hd:Nat.beq d 0 with
   | true =>
    rw [hd] at hk
    refine lK hR path _ _ _ _ _ _ hM.seq1 (fun ex e h hx=>?_) hk
    cases ex with
    | normal =>
     simp only [pY] at *
     cases hj:Nat.beq ann.j 0 with
     | true=>rw [hj] at hx; exact pI hR _ _ _ _ _ _ hM.seq2 hK hx
     | false=>rw [hj] at hx; exact hM.seqJ hj hx
    | _=>exact hK _ _ _ hx
   | false=>rw [hd] at hk; exact lK hR path _ _ _ _ _ _ hM.seq2 hK hk
  case cond c x y=>
   simp only at hk ⊢
   cases hd:Nat.beq d 0 with
   | true=>rw [hd] at hk; exact lK hR path _ _ _ _ _ _ hM.cond1 hK hk
   | false=>rw [hd] at hk; exact lK hR path _ _ _ _ _ _ hM.cond2 hK hk
  case block id x=>
   refine lK hR path _ _ _ _ _ _ hM.block (fun ex e h hx=>?_) hk
   cases ex with
   | exit id' =>
    simp only [gP] at *
    revert hx
    cases Nat.beq id' id <;> exact hK _ _ _
   | _=>exact hK _ _ _ hx
  case scope x=>
   simp only at hk ⊢
   cases hg:pM x with
   | true =>
    rw [hg] at hk
    exact lK hR path _ _ _ _ _ _ (cH.scopeG hg hM) (aGJ hR hg hM hK) hk
   | false=>
   rw [hg] at hk
   refine lK hR path _ _ _ _ _ _ (cH.scope hg hM) (fun ex e h hx=>?_) hk
   cases ex <;> first | exact hx.elim | exact hK _ _ _ hx
  case loop x=>
   refine lK hR path _ _ _ _ _ _ hM.loop (fun ex e h hx=>?_) hk
   cases ex with
   | normal=>exact hM.loopJ hx
   | _=>exact hK _ _ _ hx
abbrev bJ (P:Program) (R:a0) (fn:Func) (ann:Ann) (body:Code) (Q:AV→aA→Prop):JT:=aJD P R fn.ntmps ann body (zH P fn Q)
theorem aQZ {R:a0} (hR:RLe R R) {fn:Func} {ann:Ann} {body:Code} (hd:aL (places ann body)=true) {Q:AV→aA→Prop} {k:Nat} {p:List Nat} (hl:xN (places ann body) k=some (p,false)) {e:Env} {h:aA}
  (hk:atJ P R fn.ntmps (bJ P R fn ann body Q) false p ann body e h (zH P fn Q)):bJ P R fn ann body Q k e h:=by
 unfold bJ aJD
 rw [hl]
 exact lK hR p ann body e h _ _ (cH.act hd) (fun _ _ _ h=>h) hk
theorem aO1 {R:a0} (hR:RLe R R) {fn:Func} {ann:Ann} {body:Code} (hd:aL (places ann body)=true) {Q:AV→aA→Prop} {k:Nat} {p:List Nat} (hl:xN (places ann body) k=some (p,true)) {e:Env} {h:aA}
  (hk:atJ P R fn.ntmps (bJ P R fn ann body Q) true p ann body e h (zH P fn Q)):bJ P R fn ann body Q k e h:=by
 unfold bJ aJD
 rw [hl]
 exact jV hR p ann body e h _ (lK hR p ann body e h _ _ (cH.act hd) (fun _ _ _ h=>h) hk)
theorem aUW {X:a0} {f:FuncId} {fn:Func} {ann:Ann} {body:Code} (hf:P.funcs[f]? = some fn) (hb:fn.body=some body) (hn:(fn.name == "runtime.NumGoroutine")=false) (hd:aL (places ann body)=true) {args:List AV} (ha:Nat.ble args.length fn.ntmps=true)
  {h:aA} {K:AV→aA→Prop} (hk:exJ P (fA P X) fn.ntmps (bJ P (fA P X) fn ann body (aH h K)) ann body (fE 0 args) h (zH P fn (aH h K))):fA P X f args h K:=
 y6 ⟨fn,body,ann,hf,hb,hn,Nat.le_of_ble_eq_true ha,pI (o9 X) body ann _ h _ _ (cH.act hd) (fun _ _ _ h=>h) hk⟩
end
end Go.GAM
namespace Go.GAM
def zZ:List Nat→List AV→Env→Env
 | p :: ps,v :: vs,e=>zZ ps vs ((p,v) :: e)
 | _,_,e=>e
def aU3 (args:List AV) (K:Prop):Prop:=match args with
 | []=>K
 | _=>False
def aVN (args:List AV) (K:AV→Prop):Prop:=match args with
 | [v]=>K v
 | _=>False
def aUQ (args:List AV) (K:AV→AV→Prop):Prop:=match args with
 | [v,w]=>K v w
 | _=>False
def aU4:Obj→Bool
 | .loop _ | .deferred _=>true
 | _=>false
def orY (R:a0) (l:Nat) (Y:List AV→aA→(AV→aA→Prop)→Prop):a0:=fun f args h K=>R f args h K∨(f=yid0+l∧Y args h K)
def g8 (P:Program) (f:FuncId):Bool:=match P.funcs[f]? with
 | some fn=>fn.body.isSome && !(fn.name == "runtime.NumGoroutine")
 | none=>false
section
variable {P:Program} {w0:World} {Fz:Nat→Prop} {μ:Mu} {own:Nat→Option Nat} {h:aA} {w:World}
theorem Rel.rebase (R:Rel w0 Fz μ own h w) {Fz':Nat→Prop} (hF:∀ B,Fz' B→B<w.heap.size∧(Fz B∨own B=none∧∃ o,w.heap[B]? = some o∧aU4 o=true)):Rel w Fz' μ own h w where
 os:=rfl
 tape:=rfl
 output:=rfl
 size0:=Nat.le_refl _
 fz:=fun B hB=>⟨(hF B hB).1,rfl⟩
 ownlt:=R.ownlt
 mulen:=R.mulen
 blk := fun id b hb hl => by
  obtain ⟨l,k⟩:=R.blk id b hb hl
  refine ⟨l,{ k with ro:=fun hr hB=>?_ }⟩
  rcases (hF _ hB).2 with h1 | ⟨_,o,h1,h2⟩
  ·exact k.ro hr h1
  ·obtain ⟨c, el, fr, h3, _⟩ := k.row
   rw [h1] at h3; cases h3; cases h2
 maps:=fun id b es hb he=>by
  obtain ⟨l,m1,m2,m3,m4⟩:=R.maps id b es hb he
  refine ⟨l,m1,m2,fun hB=>?_,m4⟩
  rcases (hF _ hB).2 with h1 | ⟨h0,_⟩
  ·exact m3 h1
  ·rw [h0] at m2; cases m2
theorem Rel.back {wb:World} {Fzb:Nat→Prop} (R:Rel wb Fzb μ own h w) (h1:w.os=w0.os) (h2:w.tape=w0.tape) (h3:w.output=w0.output) (h4:w0.heap.size≤w.heap.size)
  (h5:∀ B,Fz B→Fzb B∧B<w0.heap.size∧w.heap[B]? = w0.heap[B]?):Rel w0 Fz μ own h w where
 os:=h1
 tape:=h2
 output:=h3
 size0:=h4
 fz:=fun B hB=>(h5 B hB).2
 ownlt:=R.ownlt
 mulen:=R.mulen
 blk:=fun id b hb hl=>by
  obtain ⟨l,k⟩:=R.blk id b hb hl
  exact ⟨l,{ k with ro:=fun hr hB=>k.ro hr (h5 _ hB).1 }⟩
 maps:=fun id b es hb he=>by
  obtain ⟨l,m1,m2,m3,r⟩:=R.maps id b es hb he
  exact ⟨l,m1,m2,fun hB=>m3 (h5 _ hB).1,r⟩
structure tR (w0:World) (Fz:Nat→Prop) (wb:World) (Fzb:Nat→Prop):Prop where
 os:wb.os=w0.os
 tape:wb.tape=w0.tape
 output:wb.output=w0.output
 size:w0.heap.size≤wb.heap.size
 fz:∀ B,Fz B→Fzb B∧B<w0.heap.size∧wb.heap[B]? = w0.heap[B]?
theorem tR.refl (R:Rel w0 Fz μ own h w):tR w0 Fz w0 Fz:=⟨rfl,rfl,rfl,Nat.le_refl _,fun B hB=>⟨hB,(R.fz B hB).1,rfl⟩⟩
theorem tR.trans {w1 w2:World} {F1 F2:Nat→Prop} (a:tR w0 Fz w1 F1) (b:tR w1 F1 w2 F2):tR w0 Fz w2 F2:=
 ⟨b.os.trans a.os,b.tape.trans a.tape,b.output.trans a.output,Nat.le_trans a.size b.size,fun B hB=>
  let ⟨h1,h2,h3⟩:=a.fz B hB; let ⟨h4,h5,h6⟩:=b.fz B h1; ⟨h4,h2,h6.trans h3⟩⟩
theorem tR.rel {wb:World} {Fzb:Nat→Prop} (b:tR w0 Fz wb Fzb) (R:Rel wb Fzb μ own h w):Rel w0 Fz μ own h w:=
 R.back (R.os.trans b.os) (R.tape.trans b.tape) (R.output.trans b.output) (Nat.le_trans b.size R.size0) fun B hB=>
  let ⟨h1,h2,h3⟩:=b.fz B hB; ⟨h1,h2,(R.fz B h1).2.trans h3⟩
def xB (D:Nat):Deferred:={ target:=.collected D,args:=#[] }
structure aJW (w0 wb:World) (Fzb:Nat→Prop) (Ds:List Nat):Prop where
 nodup:Ds.Nodup
 is:∀ D∈Ds,Fzb D∧w0.heap.size≤D∧wb.heap[D]? = some (.deferred (some []))
def QKM (w0:World) (Fz:Nat→Prop) (nt:Nat) (μ:Mu) (K:Kx):Exit→Act→World→Prop:=
 fun x a' w'=>∃ e' h' μ' own' wb Fzb Ds,K x e' h'∧tR w0 Fz wb Fzb∧Rel wb Fzb μ' own' h' w'∧aJW w0 wb Fzb Ds∧bK (Ds.map xB) μ' nt e' a'∧Sub μ μ'
theorem zX:∀ {ps:List Nat} {args:List AV} {cargs:List Value} {nt:Nat} {e:Env} {tmps:Array Value},VRels μ args cargs→args.length=ps.length→ps.all (Nat.blt · nt)=true→bK [] μ nt e { tmps:=tmps,defers:=[] } →
  bK [] μ nt (zZ ps args e) { tmps:=(ps.zip cargs).foldl (fun t (p,v)=>t.setIfInBounds p v) tmps,defers:=[] }
 | [],args,cargs,nt,e,tmps,hv,hl,hp,hE=>by simpa [zZ] using hE
 | p :: ps,[],_,nt,e,tmps,hv,hl,hp,hE=>by simp at hl
 | p :: ps, v :: vs, _, nt, e, tmps, .cons _ c _ cs hv1 hv2, hl, hp, hE => by
  simp only [List.all_cons,Bool.and_eq_true] at hp
  simp only [zZ,List.zip_cons_cons,List.foldl_cons]
  refine zX hv2 (by simpa using hl) hp.2 ?_
  have:=hE.put (o:={ (default:Oper) with dst:=some p }) (by simpa [iI] using hp.1) hv1
  simpa [GAM.put,Act.put] using this
theorem aLY {R:a0} (hm:P.follows .mixedOrders=true) (hR:lC P R) {nt:Nat} {c:Code} {ann:Ann} {e:Env} {K:Kx} {a:Act} {Ds:List Nat} (Rl:Rel w0 Fz μ own h w) (hE:bK (Ds.map xB) μ nt e a)
  {wa:World} {Fa:Nat→Prop} (hb:tR wa Fa w0 Fz) (hM:aJW wa w0 Fz Ds)
  (hk:b9 P R nt ann c e h K):c.wpIn (FR none) 0 P (QKM wa Fa nt μ K) a w:=
 wpIn_mono (qJ hm (hR w0 Fz _) c ann μ own e h K a w (Sub.refl _) Rl hE hk) fun ex a' w' ⟨e',h',μ',own',g1,g2,g3,g4⟩=>⟨e',h',μ',own',w0,Fz,Ds,g1,hb,g2,hM,g3,g4⟩
theorem kH {f:FuncId} (hb:g8 P f=true) (args:Array Value) (w:World):(callFunc f args).run P w = .ok (.enter f args) w:=by
 unfold g8 at hb
 split at hb
 ·rename_i fn hf
  simp only [Bool.and_eq_true,Bool.not_eq_true'] at hb
  have hbs:fn.body.isNone=false:=by cases h:fn.body <;> simp_all
  simp only [callFunc,Sem.run_bind,run_program,Result.andThen_ok,hf,hb.2,Bool.false_eq_true,if_false,hbs,Sem.run_pure]
 ·cases hb
theorem aKL {fn:Func} {tmps:Array Value} {R:Ending→World→Prop} {wa:World} {Fa:Nat→Prop} {wb:World} {v:AV} {cv:Value} {K:AV→aA→Prop} :
  ∀ (Ds:List Nat) (Fb:Nat→Prop) (wb w:World),Ds.Nodup→(∀ D∈Ds,w.heap[D]? = some (.deferred (some []))) →
  (∀ w',w'.heap.size=w.heap.size→(∀ B,B ∉ Ds→w'.heap[B]? = w.heap[B]?)→(∀ D∈Ds,w'.heap[D]? = some (.deferred none))→w'.os=w.os→w'.tape=w.tape→w'.output=w.output→LeavesInM (FR none) 0 P fn tmps R [] .returning w') →
  LeavesInM (FR none) 0 P fn tmps R (Ds.map xB) .returning w
 | [],Fb,wb,w,_,_,h=>h w rfl (fun _ _=>rfl) (fun _ h=>by cases h) rfl rfl rfl
 | D :: Ds, Fb, wb, w, hn, hD, h => by
  obtain ⟨n1,n2⟩:=List.nodup_cons.1 hn
  have h0:=hD D (by simp)
  refine ⟨by simp,.inl ⟨D,_,rfl,run_takeDeferred h0, ?_⟩⟩
  have hlt:D<w.heap.size:=(Array.getElem?_eq_some_iff.1 h0).1
  refine aKL (wb:=wb) (v:=v) (cv:=cv) (K:=K) (wa:=wa) (Fa:=Fa) Ds Fb wb _ n2 (fun D' hD'=>?_) fun w' s1 s2 s3 s4 s5 s6=>h w' (by simpa using s1) (fun B hB=>?_) (fun D' hD'=>?_) s4 s5 s6
  ·rw [World.putObj_heap_other (fun e=>n1 (by rw [← e]; exact hD'))]; exact hD D' (by simp [hD'])
  ·simp only [List.mem_cons, not_or] at hB
   rw [s2 B hB.2,World.putObj_heap_other hB.1]
  ·rcases List.mem_cons.1 hD' with rfl | hD'
   ·rw [s2 _ n1,World.putObj_heap_same hlt]
   ·exact s3 D' hD'
theorem Rel.putMany {Ds : List Nat} (R : Rel w0 Fz μ own h w) {w' : World} (h1 : w'.heap.size = w.heap.size) (h2 : ∀ B, B ∉ Ds → w'.heap[B]? = w.heap[B]?) (hD : ∀ D ∈ Ds, w.heap[D]? = some (.deferred (some [])))
  (hD':∀ D∈Ds,w'.heap[D]? = some (.deferred none)) (h4:w'.os=w.os) (h5:w'.tape=w.tape) (h6:w'.output=w.output) (hF:∀ B,Fz B→B ∉ Ds):Rel w0 Fz μ own h w' where
 os:=h4.trans R.os
 tape:=h5.trans R.tape
 output:=h6.trans R.output
 size0:=by rw [h1]; exact R.size0
 fz:=fun B hB=>⟨(R.fz B hB).1,(h2 B (hF B hB)).trans (R.fz B hB).2⟩
 ownlt:=fun B id hB=>by rw [h1]; exact R.ownlt B id hB
 mulen:=R.mulen
 blk := fun id b hb hl => by
  obtain ⟨l,k⟩:=R.blk id b hb hl
  obtain ⟨c,el,fr,h3,hc⟩:=k.row
  have hne:l.B ∉ Ds:=fun e=>by have:=hD _ e; rw [this] at h3; cases h3
  refine ⟨l,{ k with row:=⟨c,el,fr,by rw [h2 _ hne]; exact h3,hc⟩,tyok:=by rw [h2 _ hne]; exact k.tyok,free:=fun hr j hj=>?_,vers:=fun ver g1 g2 l' hl'=>?_ }⟩
  ·have := k.free hr j hj
   simp only [World.frozen?] at this ⊢
   rw [h2 _ hne]; exact this
  ·have hv := k.vers ver g1 g2 l' hl'
   refine { hv with cells:=fun j hj=>?_ }
   obtain ⟨cv,e1,e2⟩:=hv.cells j hj
   refine ⟨cv, ?_,e2⟩
   by_cases hb:l'.B∈Ds
   ·exfalso
    simp [World.cell?,hD _ hb] at e1
   ·simp only [World.cell?] at e1 ⊢
    rw [h2 _ hb]; exact e1
 maps:=fun id b es hb he=>by
  obtain ⟨l,m1,m2,m3,m4⟩:=R.maps id b es hb he
  have hne:l.B ∉ Ds:=fun e=>by
   have:=hD _ e
   obtain ⟨o,g1,g2⟩:=m4.obj
   rw [this] at g1
   cases g1
   rcases g2 with ⟨_,_,g2⟩ | ⟨_,g2⟩ <;> cases g2
  exact ⟨l,m1,m2,m3,m4.keep (h2 _ hne) (Sub.refl _)⟩
theorem aKQ {X:a0} {f:FuncId} {args:List AV} {h:aA} {K:AV→aA→Prop} (hk:X f args h K):fA P X f args h K:=fun R _ hX _=>hX _ _ _ _ hk
end
end Go.GAM
namespace Go.GAM
abbrev Dl:=List (FuncId × List AV)
abbrev Kd:=Exit→Env→aA→Dl→Prop
def aNY (P:Program) (f:AV) (args:List AV) (K:FuncId × List AV→Prop):Prop:=
 match f with
 | .fn (.func g) first cap=>bif g8 P g then K (g,first++args++cap) else False
 | _=>False
def aHJ (P:Program) (c:Call) (e:Env) (h:aA) (K:FuncId × List AV→Prop):Prop:=
 match c.callee with
 | .value f=>aNY P (ev e h f) (c.args.toList.map (ev e h)) K
 | _=>False
def aES (o:Oper):Option Call:=match o.op with
 | .defer c=>some c
 | _=>none
def aMG (P : Program) (R : a0) (nt : Nat) (ops : Array Oper) : List Oper → Env → aA → Dl → (Env → aA → Dl → Prop) → Prop
 | [],e,h,D,K=>K e h D
 | o :: rest, e, h, D, K => match aES o with
  | some c=>bif o.guard.isNone&&o.dst.isNone then aHJ P c e h fun d=>aMG P R nt ops rest e h (d :: D) K else False
  | none=>bif iI nt o then
    f8 ops o e (fun e=>aop P R o e h fun v h'=>cP P o v fun v=>aMG P R nt ops rest (put e o.dst v) h' D K) (fun e=>aMG P R nt ops rest (put e o.dst (.tu [])) h D K) else False
def aUY (next:Env→aA→Dl→Prop) (K:Kd):Kd
 | .normal,e,h,D=>next e h D
 | x,e,h,D=>K x e h D
def aJR (id:Nat) (K:Kd):Kd
 | .exit id',e,h,D=>bif Nat.beq id' id then K .normal e h D else K (.exit id') e h D
 | x,e,h,D=>K x e h D
def mA (P:Program) (R:a0) (nt:Nat) (ann:Ann) (c:Code) (e:Env) (h:aA) (D:Dl) (K:Kd):Prop:=
 match c with
 | .seq x y=>mA P R nt ann.a x e h D (aUY (fun e h D=>mA P R nt ann.b y (restr ann.live e) h D K) K)
 | .cond c x y=>aIf (ev e h c) (mA P R nt ann.a x e h D K) (mA P R nt ann.b y e h D K)
 | .block id x=>mA P R nt ann.a x e h D (aJR id K)
 | .region i ops false=>aMG P R nt ops ops.toList e h D (K .normal)
 | c=>b9 P R nt ann c e h fun ex e h=>K ex e h D
section
variable {P:Program} {w0:World} {Fz:Nat→Prop} {μ:Mu} {own:Nat→Option Nat} {h:aA} {w:World}
inductive yL (P:Program) (μ:Mu):Dl→List Deferred→Prop
 | nil:yL P μ [] []
 | cons (f args cap dargs D ds) (hb:g8 P f=true) (hv:VRels μ args (dargs.toList++cap.toList)) (t:yL P μ D ds):yL P μ ((f,args) :: D) ({ target:=.fn (.func f) cap,args:=dargs } :: ds)
theorem yL.mono {μ μ':Mu} (hs:Sub μ μ'):∀ {D ds},yL P μ D ds→yL P μ' D ds
 | _,_,.nil=>.nil
 | _,_,.cons f args cap dargs D ds hb hv t=>.cons f args cap dargs D ds hb (hv.mono hs) (t.mono hs)
def QKD (P:Program) (w0:World) (Fz:Nat→Prop) (nt:Nat) (μ:Mu) (K:Kd):Exit→Act→World→Prop:=
 fun x a' w'=>∃ e' h' D' ds' μ' own',K x e' h' D'∧Rel w0 Fz μ' own' h' w'∧yL P μ' D' ds'∧bK ds' μ' nt e' a'∧Sub μ μ'
theorem aGD (Rl:Rel w0 Fz μ own h w) {ds:List Deferred} {nt:Nat} {e:Env} {a:Act} (hE:bK ds μ nt e a) {c:Call} {t:TypeId} {K:FuncId × List AV→Prop} (hk:aHJ P c e h K) :
  ∃ f args cap dargs,K (f,args)∧g8 P f=true∧VRels μ args (dargs.toList++cap.toList)∧(resolve a.eval c t).run P w = .ok { target:=.fn (.func f) cap,args:=dargs } w:=by
 obtain ⟨callee,args,argTypes⟩:=c
 unfold aHJ at hk
 cases callee with
 | invoke r m=>exact hk.elim
 | builtin b=>exact hk.elim
 | value f =>
  simp only at hk
  have hv:=Rl.ev hE f
  generalize hcf:a.eval f=cf at *
  generalize GAM.ev e h f=af at *
  unfold aNY at hk
  cases hv <;> first | exact hk.elim | skip
  rename_i ff fa fb ca cb r1 r2
  cases ff <;> first | exact hk.elim | skip
  rename_i g
  obtain ⟨hb,hk⟩:=aS hk
  refine ⟨g,_,cb,ca++args.map a.eval,hk,hb, ?_, ?_⟩
  ·have := (r1.append (Rl.evs hE args.toList)).append r2
   simpa using this
  ·simp [resolve,hcf,Deferred.ofValue]
theorem yP {R : a0} {μb : Mu} (hR : cA P w0 Fz μb R) {nt : Nat} {ops : Array Oper} {K : Env → aA → Dl → Prop} {Q : Exit → Act → World → Prop} : ∀ (l : List Oper) (μ : Mu) (own : Nat → Option Nat) (e : Env) (h : aA) (D : Dl) (ds : List Deferred) (a : Act) (w : World),
  Sub μb μ→Rel w0 Fz μ own h w→yL P μ D ds→bK ds μ nt e a→aMG P R nt ops l e h D K →
  (∀ e' h' D' ds' a' w' μ' own',K e' h' D'→Rel w0 Fz μ' own' h' w'→yL P μ' D' ds'→bK ds' μ' nt e' a'→Sub μ μ'→Q .normal a' w')→wpListIn (FR none) 0 P ops Q l a w
 | [],μ,own,e,h,D,ds,a,w,hsb,Rl,hD,hE,hk,hQ=>hQ e h D ds a w μ own hk Rl hD hE (Sub.refl _)
 | o :: l, μ, own, e, h, D, ds, a, w, hsb, Rl, hD, hE, hk, hQ => by
  unfold aMG at hk
  unfold wpListIn
  cases hdef:aES o with
  | none =>
   rw [hdef] at hk
   obtain ⟨hd,hk⟩:=aS hk
   rcases uA hE hk with ⟨hw,e,hE,hk⟩ | ⟨hw,e,hE,hk⟩
   ·rw [if_pos hw]
    refine aAE hR hsb Rl hE hk fun v cv μ' own' h' w' h1 h2 h3 h4=>?_
    have h1:=fY h2 h1
    exact yP hR l μ' own' _ h' D ds _ w' (hsb.trans h4) h3 (hD.mono h4) ((hE.mono h4).put hd h2) h1 fun e2 h2 D2 ds2 a2 w2 μ2 own2 g1 g2 g3 g4 g5=>hQ e2 h2 D2 ds2 a2 w2 μ2 own2 g1 g2 g3 g4 (h4.trans g5)
   ·rw [if_neg (by simp [hw])]
    exact ⟨fun _ _=>trivial,yP hR l μ own _ h D ds _ w hsb Rl hD (hE.put hd (.tu [] #[] .nil)) hk hQ⟩
  | some c =>
   rw [hdef] at hk
   obtain ⟨hg,hk⟩:=aS hk
   simp only [Bool.and_eq_true,Option.isNone_iff_eq_none] at hg
   obtain ⟨f,args,cap,dargs,h1,h2,h3,h4⟩:=aGD (t:=o.type) Rl hE hk
   have hop:o.op = .defer c:=by
    unfold aES at hdef
    split at hdef
    ·rename_i c' hc'; cases hdef; exact hc'
    ·cases hdef
   have hwant:Region.wanted o (yielded ops a.tmps)=true:=by simp [Region.wanted,hg.1]
   rw [if_pos hwant]
   refine ⟨fun _ _=>trivial, ?_⟩
   have he:o.semAt (FR none).round a.eval=execOp a.eval o:=rfl
   rw [he]
   have hx:(execOp a.eval o).run P w = .ok (.defer { target:=.fn (.func f) cap,args:=dargs }) w:=by
    simp only [execOp,hop,Sem.run_bind,h4,Result.andThen_ok,Sem.run_pure]
   rw [hx,Oper.uponIn_defer,hg.2]
   refine yP hR l μ own e h _ _ _ w hsb Rl (.cons f args cap dargs D ds h2 h3 hD) ?_ h1 hQ
   exact ⟨hE.size,by simp [Act.put,hE.defers],hE.val⟩
theorem aQA {R : a0} (hm : P.follows .mixedOrders = true) {μb : Mu} (hR : cA P w0 Fz μb R) {nt : Nat} : ∀ (c : Code) (ann : Ann) (μ : Mu) (own : Nat → Option Nat) (e : Env) (h : aA) (D : Dl) (ds : List Deferred) (K : Kd) (a : Act) (w : World),
  Sub μb μ→Rel w0 Fz μ own h w→yL P μ D ds→bK ds μ nt e a→mA P R nt ann c e h D K→c.wpIn (FR none) 0 P (QKD P w0 Fz nt μ K) a w:=by
 have leaf:∀ (c:Code) (ann:Ann) (μ:Mu) (own:Nat→Option Nat) (e:Env) (h:aA) (D:Dl) (ds:List Deferred) (K:Kd) (a:Act) (w:World),
   Sub μb μ→Rel w0 Fz μ own h w→yL P μ D ds→bK ds μ nt e a→b9 P R nt ann c e h (fun ex e h=>K ex e h D)→c.wpIn (FR none) 0 P (QKD P w0 Fz nt μ K) a w:=by
  intro c ann μ own e h D ds K a w hsb Rl hD hE hk
  exact wpIn_mono (qJ hm hR c ann μ own e h _ a w hsb Rl hE hk) fun ex a' w' ⟨e',h',μ',own',g1,g2,g3,g4⟩=>⟨e',h',D,ds,μ',own',g1,g2,hD.mono g4,g3,g4⟩
 intro c
 induction c with
 | seq x y ihx ihy =>
  intro ann μ own e h D ds K a w hsb Rl hD hE hk
  simp only [mA] at hk
  refine wpIn_seq (wpIn_mono (ihx _ μ own e h D ds _ a w hsb Rl hD hE hk) ?_)
  rintro ex a' w' ⟨e',h',D',ds',μ',own',g1,g2,g3,g4,g5⟩
  cases ex with
  | normal =>
   exact wpIn_mono (ihy _ μ' own' _ h' D' ds' K a' w' (hsb.trans g5) g2 g3 (g4.restr _) g1) fun ex a2 w2 ⟨e2,h2,D2,ds2,μ2,own2,k1,k2,k3,k4,k5⟩=>⟨e2,h2,D2,ds2,μ2,own2,k1,k2,k3,k4,g5.trans k5⟩
  | _=>exact ⟨e',h',D',ds',μ',own',g1,g2,g3,g4,g5⟩
 | cond c x y ihx ihy =>
  intro ann μ own e h D ds K a w hsb Rl hD hE hk
  simp only [mA] at hk
  rcases qX hk (Rl.ev hE c) with ⟨h1,h2⟩ | ⟨h1,h2⟩
  ·exact wpIn_cond_true h1 (ihx _ μ own e h D ds K a w hsb Rl hD hE h2)
  ·exact wpIn_cond_false h1 (ihy _ μ own e h D ds K a w hsb Rl hD hE h2)
 | block id x ih =>
  intro ann μ own e h D ds K a w hsb Rl hD hE hk
  simp only [mA] at hk
  refine wpIn_block (wpIn_mono (ih _ μ own e h D ds _ a w hsb Rl hD hE hk) ?_)
  rintro ex a' w' ⟨e',h',D',ds',μ',own',g1,g2⟩
  cases ex with
  | exit id' =>
   simp only [aJR] at g1
   simp only [Exit.inBlock]
   by_cases hid:id'=id
   ·subst hid
    simp at g1
    rw [if_pos rfl]
    exact ⟨e',h',D',ds',μ',own',g1,g2⟩
   ·rw [lY hid] at g1
    rw [if_neg hid]
    exact ⟨e',h',D',ds',μ',own',g1,g2⟩
  | _=>exact ⟨e',h',D',ds',μ',own',g1,g2⟩
 | region id ops draw =>
  intro ann μ own e h D ds K a w hsb Rl hD hE hk
  cases draw with
  | true=>exact leaf _ ann μ own e h D ds K a w hsb Rl hD hE (by simpa only [mA] using hk)
  | false =>
   simp only [mA] at hk
   exact wpIn_region_list (yP hR _ μ own e h D ds a w hsb Rl hD hE hk fun e' h' D' ds' a' w' μ' own' g1 g2 g3 g4 g5=>⟨e',h',D',ds',μ',own',g1,g2,g3,g4,g5⟩)
 | _ =>
  intro ann μ own e h D ds K a w hsb Rl hD hE hk
  exact leaf _ ann μ own e h D ds K a w hsb Rl hD hE (by simpa only [mA] using hk)
theorem aMJ {ds:List Deferred} (Rl:Rel w0 Fz μ own h w) {μ':Mu} {own':Nat→Option Nat} {h':aA} {w':World} (g2:Rel w0 Fz μ' own' h' w') {nt:Nat} {e':Env} {a':Act} (g3:bK ds μ' nt e' a') (g4:Sub μ μ') {fn:Func} {K:AV→aA→Prop}
  (hk:fJ P h' e' fn.results.toList (fun vs=>aH h K (tup vs) h')):∃ v,(results fn a'.tmps).run P w' = .ok v w'∧iW w0 Fz μ K v w':=by
 obtain ⟨vs,cvs,k1,k2,k3⟩:=jQ g2 g3 hk
 have hres:(results fn a'.tmps).run P w' = .ok (if hs:cvs.toArray.size=1 then cvs.toArray[0] else .tuple cvs.toArray) w':=by
  have e:results fn a'.tmps=(do let vs ← fn.results.mapM (aOV a'); pure (if h:vs.size=1 then vs[0] else .tuple vs)):=rfl
  rw [e,Array.mapM_eq_mapM_toList,Sem.run_bind,Sem.run_map,k3]
  first | done | rfl
 refine ⟨_,hres, ?_⟩
 have ht:=aEW k2
 rcases k1 with k1 | ⟨keep,c1,c2,c3,c4,c5,k1⟩
 ·exact ⟨_,μ',own',h',k1,ht,g2,g4⟩
 ·obtain ⟨t1, t2⟩ := Rel.trim Rl g2 g4 c1 c3 c4 c5
  exact ⟨_,_,_,_,k1,aD9 (fun k hk=>(c3 k hk).1) ht c2,t1,t2⟩
def orR (R S:a0):a0:=fun f args h K=>R f args h K∨S f args h K
end
end Go.GAM
namespace Go.GAM
def oY (rec:Loop) (st:LoopState) (pe:Option Code):ABlk:=lB { rec with state:=st,pending:=pe }
def aVS (g:Nat) (rec:Loop) (K:AV→aA→Prop):Exit→aA→Prop
 | .normal,h=>h[g]? = some (oY rec .busy none)∧K (.b true) (h.set g (oY rec .ready none))
 | .exit id,h=>h[g]? = some (oY rec .busy none)∧K (.b false) (h.set g (oY rec .done (some (.exit id))))
 | .ret,h=>h[g]? = some (oY rec .busy none)∧K (.b false) (h.set g (oY rec .done (some .ret)))
 | _,_=>False
def aUZ (J:JT) (K:JT→Prop):Prop:=K J
def aUR (X:Exit→aA→Prop) (K:(Exit→aA→Prop)→Prop):Prop:=K X
def codeAt:List Nat→Code→Code
 | [],c=>c
 | d :: p,.seq a b=>bif Nat.beq d 0 then codeAt p a else codeAt p b
 | d :: p,.cond _ a b=>bif Nat.beq d 0 then codeAt p a else codeAt p b
 | d :: p,.rangeFunc _ _ a b=>bif Nat.beq d 0 then codeAt p a else codeAt p b
 | _ :: p,.block _ a=>codeAt p a
 | _ :: p,.scope a=>codeAt p a
 | _ :: p,.loop a=>codeAt p a
 | _,_=>.skip
def xK (X:Exit→aA→Prop):Kx:=fun x _ h=>X x h
def yO (P : Program) (R : a0) (nt : Nat) (ann : Ann) (assign body : Code) (g : Nat) (rec : Loop) (h : aA) (K : AV → aA → Prop) (e : Env) : Prop :=
 b9 P R nt ann.a assign e h (pY (fun e h=>h[g]? = some (oY rec .ready none) ∧
  aUR (aVS g rec K) fun X=>aUZ (aJD P R nt ann.b body (xK X)) fun J=>exJ P R nt J ann.b body e (h.set g (oY rec .busy none)) (xK X)) fun _ _ _=>False)
def zU (P : Program) (R : a0) (nt : Nat) (ann : Ann) (ps : List Nat) (assign body : Code) (e : Env) (g : Nat) (rec : Loop) (args : List AV) (h : aA) (K : AV → aA → Prop) : Prop :=
 h[g]? = some (oY rec .ready none) ∧ bif ps.all (Nat.blt · nt) && aL (places ann.b body) then
  match ps with
  | []=>aU3 args (yO P R nt ann assign body g rec h K e)
  | [p]=>aVN args fun v=>yO P R nt ann assign body g rec h K ((p,v) :: e)
  | [p,q]=>aUQ args fun v w=>yO P R nt ann assign body g rec h K ((q,w) :: (p,v) :: e)
  | _=>False
 else False
theorem aEF {P:Program} {R:a0} {nt:Nat} {ann:Ann} {ps:List Nat} {assign body:Code} {e:Env} {g:Nat} {rec:Loop} {args:List AV} {h:aA} {K:AV→aA→Prop} (hk:zU P R nt ann ps assign body e g rec args h K) :
  h[g]? = some (oY rec .ready none)∧ps.all (Nat.blt · nt)=true∧aL (places ann.b body)=true∧args.length=ps.length∧yO P R nt ann assign body g rec h K (zZ ps args e):=by
 unfold zU at hk
 obtain ⟨h0,hk⟩:=hk
 obtain ⟨h1,hk⟩:=aS hk
 rw [Bool.and_eq_true] at h1
 refine ⟨h0,h1.1,h1.2, ?_⟩
 split at hk
 ·unfold aU3 at hk; split at hk
  ·exact ⟨rfl,hk⟩
  ·exact hk.elim
 ·unfold aVN at hk; split at hk
  ·exact ⟨rfl,hk⟩
  ·exact hk.elim
 ·unfold aUQ at hk; split at hk
  ·exact ⟨rfl,hk⟩
  ·exact hk.elim
 ·exact hk.elim
def aOH (g:Nat) (rec:Loop) (K:Exit→aA→Prop) (h:aA):List Nat→Prop
 | []=>h[g]? = some (oY rec .done (some .ret))∧K .ret (h.set g dead)
 | id :: r=>(h[g]? = some (oY rec .done (some (.exit id)))∧K (.exit id) (h.set g dead))∨aOH g rec K h r
def aSZ (g:Nat) (rec:Loop) (ids:List Nat) (K:Exit→aA→Prop) (h:aA):Prop:=
 (h[g]? = some (oY rec .ready none)∧K .normal (h.set g dead))∨aOH g rec K h ids
def tX:Code→List Nat
 | .seq a b | .cond _ a b=>tX a++tX b
 | .block id a=>(tX a).filter fun x=>!Nat.beq x id
 | .scope a | .loop a=>tX a
 | .exit id=>[id]
 | _=>[]
def aVG (P:Program) (R:a0) (A:a0→a0) (v:AV) (Y:Nat→Loop→List AV→aA→(AV→aA→Prop)→Prop) (h:aA) (K:Loop→aA→Prop):Prop:=
 match v with
 | .fn (.func gf) first cap=>bif Nat.blt gf yid0&&g8 P gf then
   ∀ l rec,A (orY R l (Y h.length rec)) gf (first++[.fn (.yield l) [] []]++cap) (h++[oY rec .ready none]) (fun _ h'=>K rec h') else False
 | _=>False
def hZ (P : Program) (R : a0) (A : a0 → a0) (nt : Nat) (ann : Ann) (c : Code) (e : Env) (h : aA) (K : Kx) : Prop :=
 match c with
 | .seq x y=>hZ P R A nt ann.a x e h (pY (fun e h=>hZ P R A nt ann.b y (restr ann.live e) h K) K)
 | .cond c x y=>aIf (ev e h c) (hZ P R A nt ann.a x e h K) (hZ P R A nt ann.b y e h K)
 | .block id x=>hZ P R A nt ann.a x e h (gP id K)
 | .rangeFunc g ps assign body =>
  aVG P R A (ev e h g) (zU P R nt ann ps.toList assign body e) h (fun rec h'=>aSZ h.length rec (tX body) (fun x h'=>K x e h') h')
 | c=>b9 P R nt ann c e h K
section
variable {P:Program} {w0:World} {Fz:Nat→Prop} {μ:Mu} {own:Nat→Option Nat} {h:aA} {w:World}
theorem wD (Rl:Rel w0 Fz μ own h w) {g:Nat} {l:Loc} {rec:Loop} (hμ:μ g 0=some l) (hg:h[g]? = some (lB rec)):own l.B=some g∧¬ Fz l.B∧w.heap[l.B]? = some (.loop rec):=by
 obtain ⟨l',m1,m2,m3,m4⟩:=Rl.maps g _ _ hg rfl
 rw [hμ] at m1; cases m1
 exact ⟨m2,m3,m4⟩
theorem Rel.setGh (R:Rel w0 Fz μ own h w) {g:Nat} {l:Loc} {rec:Loop} (hμ:μ g 0=some l) (hg:h[g]? = some (lB rec)) (b:ABlk) (hb:b.floor≤b.cells.length→False) (o:Obj)
  (hm:∀ es,b.mp=some es→z4 (w.putObj l.B o) μ l.B es):Rel w0 Fz μ own (h.set g b) (w.putObj l.B o):=by
 obtain ⟨m2,m3,m4⟩:=wD R hμ hg
 have hlt:l.B<w.heap.size:=(Array.getElem?_eq_some_iff.1 m4).1
 have hid:g<h.length:=(List.getElem?_eq_some_iff.1 hg).1
 refine R.step rfl rfl rfl (by simp) (fun B hB=>World.putObj_heap_other (fun e=>m3 (e ▸ hB))) (fun B i hB=>by simpa using R.ownlt B i hB) (Sub.refl _) ?_ ?_
 ·intro i ver lx hlx
  obtain ⟨b',hb',hle⟩:=R.mulen _ _ _ hlx
  by_cases hi:i=g
  ·subst hi
   exact ⟨b,List.getElem?_set_self hid,fun hf=>(hb hf).elim⟩
  ·exact ⟨b',by rw [List.getElem?_set_ne (Ne.symm hi)]; exact hb',hle⟩
 ·intro i b' hb'
  by_cases hi:i=g
  ·subst hi
   rw [List.getElem?_set_self hid] at hb'
   cases hb'
   exact .inr ⟨fun hlv=>(hb hlv).elim,fun es he=>⟨l,hμ,m2,m3,hm es he⟩⟩
  ·rw [List.getElem?_set_ne (Ne.symm hi)] at hb'
   refine .inl ⟨hb',fun _=>rfl,fun B hB=>⟨hB,World.putObj_heap_other fun e=>?_⟩⟩
   subst e
   exact hi (Option.some.inj (m2.symm.trans hB)).symm
theorem Rel.putGh (R:Rel w0 Fz μ own h w) {g:Nat} {l:Loc} {rec:Loop} (hμ:μ g 0=some l) (hg:h[g]? = some (lB rec)) (rec':Loop):Rel w0 Fz μ own (h.set g (lB rec')) (w.putObj l.B (.loop rec')):=by
 refine R.setGh hμ hg _ (by intro h; simp [lB] at h) _ fun es he=>?_
 obtain ⟨_,_,m4⟩:=wD R hμ hg
 simp only [lB,Option.some.injEq] at he
 subst he
 exact World.putObj_heap_same (Array.getElem?_eq_some_iff.1 m4).1
theorem Rel.killGh (R:Rel w0 Fz μ own h w) {g:Nat} {l:Loc} {rec:Loop} (hμ:μ g 0=some l) (hg:h[g]? = some (lB rec)) (o:Obj):Rel w0 Fz μ own (h.set g dead) (w.putObj l.B o):=
 R.setGh hμ hg dead (by intro h; simp [dead] at h) o fun es he=>by cases he
theorem Rel.newGh (R : Rel w0 Fz μ own h w) (rec : Loop) :
  Rel w0 Fz (b8 μ h.length 0 ⟨w.heap.size,0,0,1⟩) (cQ own w.heap.size h.length) (h++[lB rec]) (w.alloc (.loop rec))∧Sub μ (b8 μ h.length 0 ⟨w.heap.size,0,0,1⟩) ∧
   b8 μ h.length 0 ⟨w.heap.size,0,0,1⟩ h.length 0=some ⟨w.heap.size,0,0,1⟩:=by
 have hnone:∀ ver,μ h.length ver=none:=fun ver=>by
  cases hm:μ h.length ver with
  | none=>rfl
  | some l=>obtain ⟨b,hb,_⟩:=R.mulen _ _ _ hm; simp at hb
 have hs:Sub μ (b8 μ h.length 0 ⟨w.heap.size,0,0,1⟩):=jW (hnone _)
 refine ⟨?_,hs,by simp [b8]⟩
 refine R.step rfl rfl rfl (by simp) (fun B hB=>cE w _ (Nat.lt_of_lt_of_le (R.fz B hB).1 R.size0)) ?_ hs ?_ ?_
 ·intro B id hB
  unfold cQ at hB
  split at hB
  ·subst_vars; simp
  ·have:=R.ownlt B id hB; simp; omega
 ·intro id ver l hl
  unfold b8 at hl
  split at hl
  ·rename_i hc'
   obtain ⟨rfl,rfl⟩:=hc'
   exact ⟨lB rec,by simp,fun _=>Nat.zero_le _⟩
  ·obtain ⟨b, hb, hl2⟩ := R.mulen _ _ _ hl
   have:id<h.length:=(List.getElem?_eq_some_iff.1 hb).1
   exact ⟨b,by rw [List.getElem?_append_left this]; exact hb,hl2⟩
 ·intro id b hb
  by_cases hid:id<h.length
  ·rw [List.getElem?_append_left hid] at hb
   refine .inl ⟨hb,fun ver=>by unfold b8; rw [if_neg (by omega)],fun B hB=>?_⟩
   have hlt:=R.ownlt B id hB
   exact ⟨by unfold cQ; rw [if_neg (by omega)]; exact hB,cE w _ hlt⟩
  ·rw [List.getElem?_append_right (by omega)] at hb
   have hid':id=h.length:=by
    obtain ⟨hlt,_⟩:=List.getElem?_eq_some_iff.1 hb
    simp at hlt; omega
   subst hid'
   simp at hb
   subst hb
   refine .inr ⟨fun hlv=>by simp [lB] at hlv,fun es he=>?_⟩
   simp only [lB,Option.some.injEq] at he
   subst he
   refine ⟨⟨w.heap.size,0,0,1⟩,by simp [b8],by simp [cQ],fun hF=>?_,gB w _⟩
   have h1:w.heap.size<w0.heap.size:=(R.fz _ hF).1
   have:=R.size0; omega
theorem aRP {R:a0} (hR:RLe R R) {nt:Nat} {ann:Ann} {c:Code} {e:Env} {h:aA} {K:Kx} (hd:aL (places ann c)=true) (hk:exJ P R nt (aJD P R nt ann c K) ann c e h K):b9 P R nt ann c e h K:=
 pI hR c ann e h K K (cH.act hd) (fun _ _ _ h=>h) hk
theorem aK5 {ds:List Deferred} {R:a0} (hm:P.follows .mixedOrders=true) (hR:lC P R) (hRR:RLe R R) {nt:Nat} {ann:Ann} {ps:Array Nat} {assign body:Code} {e:Env} {a:Act} {μ0:Mu} {g:Nat} {l:Loc} {rec:Loop} {w1:World} {F1:Nat→Prop}
  (hμ0:μ0 g 0=some l) (hps:rec.params=ps) (has:rec.assign=assign) (hbd:rec.body=body) (htm:rec.tmps=a.tmps)
  (hE:bK ds μ0 nt e a) (Rl:Rel w1 F1 μ own h w) (hsub:Sub μ0 μ) {args:List AV} {cargs:List Value} (hv:VRels μ args cargs) {K:AV→aA→Prop}
  (hk:zU P R nt ann ps.toList assign body e g rec args h K):aEH P l.B cargs w (iW w1 F1 μ K):=by
 obtain ⟨hg,hc,hd,hlen,hk⟩:=aEF hk
 have hlen:args.length=ps.size:=by simpa using hlen
 have hcl:=hv.length
 have hμ:μ g 0=some l:=hsub _ _ _ hμ0
 obtain ⟨_,_,hwL⟩:=wD Rl hμ hg
 refine ⟨_,_,_,_,run_yield hwL (by simp only [hps]; simp; omega), ?_⟩
 refine roundIn_of_wpIn trivial ?_
 have hE0:bK [] μ nt e { tmps:=rec.tmps,defers:=[] }:=by
  have:=hE.mono hsub
  rw [htm]
  exact ⟨this.1,rfl,this.3⟩
 have hEp:=zX hv (by simpa using hlen) hc hE0
 have e1:(rec.params.zip cargs.toArray).foldl (fun tmps (x:Nat × Value)=>tmps.setIfInBounds x.1 x.2) rec.tmps=(ps.toList.zip cargs).foldl (fun t (x:Nat × Value)=>t.setIfInBounds x.1 x.2) rec.tmps:=by
  rw [hps, ← Array.foldl_toList,Array.toList_zip]
 have e2:(rec.params.zip cargs.toArray).foldl (fun tmps (t,a)=>tmps.setIfInBounds t a) rec.tmps=(ps.toList.zip cargs).foldl (fun t (p,v)=>t.setIfInBounds p v) rec.tmps:=e1
 simp only
 rw [e2,has,hbd]
 refine wpIn_mono (qJ (rd:=some l.B) hm (hR w1 F1 _) assign ann.a μ own _ h _ _ w (Sub.refl _) Rl hEp hk) ?_
 rintro ex a' w' ⟨e',h',μ',own',g1,g2,g3,g4⟩
 cases ex <;> first | exact g1.elim | skip
 obtain ⟨hg',hk'⟩:=g1
 have hμ':μ' g 0=some l:=g4 _ _ _ hμ
 obtain ⟨_,_,hwL'⟩:=wD g2 hμ' hg'
 refine ⟨_,run_beginRound hwL' rfl, ?_⟩
 have G2:=g2.putGh hμ' hg' { rec with state:=.busy,pending:=none }
 refine wpIn_mono (qJ (rd:=some l.B) hm (hR _ F1 _) body ann.b μ' own' _ _ _ _ _ (Sub.refl _) G2 g3 (aRP hRR hd hk')) ?_
 rintro ex a2 w2 ⟨e2,h2,μ2,own2,k1,k2,k3,k4⟩
 have hμ2:μ2 g 0=some l:=k4 _ _ _ hμ'
 have fin:∀ (jump:Option Code) (v:Bool),h2[g]? = some (oY rec .busy none)→v=jump.isNone→K (.b v) (h2.set g (oY rec (if jump.isNone then .ready else .done) jump)) →
   ∃ cv w3,(Instr.endRound l.B jump).run P w2 = .ok cv w3∧∃ v,Ending.returned cv=Ending.returned v∧iW w1 F1 μ K v w3:=by
  intro jump v hb hv hK
  obtain ⟨_,_,hwb⟩:=wD k2 hμ2 hb
  refine ⟨_,_,run_endRound jump hwb,_,rfl,.b v,μ2,own2,_,hK, ?_, ?_,g4.trans k4⟩
  ·rw [hv]; exact .b _
  ·exact k2.putGh hμ2 hb _
 cases ex with
 | normal=>exact fin none true k1.1 rfl k1.2
 | exit id=>exact fin (some (.exit id)) false k1.1 rfl k1.2
 | ret=>exact fin (some .ret) false k1.1 rfl k1.2
 | goto t=>exact k1.elim
 | panic c=>exact k1.elim
 | outgrown=>exact k1.elim
theorem aGU {g:Nat} {rec:Loop} {ids:List Nat} {K:Exit→aA→Prop} {h:aA} (hk:aSZ g rec ids K h) :
  ∃ st pe,h[g]? = some (oY rec st pe)∧st ≠ .busy∧((pe=none∧K .normal (h.set g dead))∨(∃ id,pe=some (.exit id)∧K (.exit id) (h.set g dead))∨(pe=some .ret∧K .ret (h.set g dead))):=by
 rcases hk with ⟨h1,h2⟩ | hk
 ·exact ⟨_,_,h1,(fun h=>by cases h),.inl ⟨rfl,h2⟩⟩
 ·induction ids with
  | nil=>exact ⟨_,_,hk.1,(fun h=>by cases h),.inr (.inr ⟨rfl,hk.2⟩)⟩
  | cons id r ih =>
   rcases hk with ⟨h1,h2⟩ | hk
   ·exact ⟨_,_,h1,(fun h=>by cases h),.inr (.inl ⟨_,rfl,h2⟩)⟩
   ·exact ih hk
theorem aL3 {R : a0} {A : a0 → a0} (hm : P.follows .mixedOrders = true) (hR : lC P R) (hRR : RLe R R) (hA : ∀ w0 Fz μb Y, cA P w0 Fz μb Y → cA P w0 Fz μb (A Y)) {nt : Nat} {ann : Ann} {g : Operand} {ps : Array Tmp} {assign body : Code}
  {e:Env} {K:Kx} {a:Act} {Ds:List Nat} {wa:World} {Fa:Nat→Prop} (Rl:Rel w0 Fz μ own h w) (hE:bK (Ds.map xB) μ nt e a) (hb:tR wa Fa w0 Fz) (hM:aJW wa w0 Fz Ds)
  (hk:hZ P R A nt ann (.rangeFunc g ps assign body) e h K):(Code.rangeFunc g ps assign body).wpIn (FR none) 0 P (QKM wa Fa nt μ K) a w:=by
 simp only [hZ,aVG] at hk
 have hv:=Rl.ev hE g
 generalize hag:a.eval g=cg at hv
 generalize GAM.ev e h g=ag at hv hk
 cases hv <;> first | exact hk.elim | skip
 rename_i fnn first cap cf ccap r1 r2
 cases fnn <;> first | exact hk.elim | skip
 rename_i gf
 obtain ⟨hlt,hk⟩:=aS hk
 simp only [Bool.and_eq_true] at hlt
 refine wpIn_rangeFunc fun fn _=>?_
 obtain ⟨rec,hrec⟩:∃ rec:Loop,rec={ state:=.ready,pending:=none,fn,tmps:=a.tmps,params:=ps,assign,body,defers:=w.heap.size }:=⟨_,rfl⟩
 have hrr:oY rec .ready none=lB rec:=by rw [hrec] <;> rfl
 obtain ⟨wd,hwd⟩:∃ wd,w.alloc (.deferred (some []))=wd:=⟨_,rfl⟩
 have hszd:wd.heap.size=w.heap.size+1:=by rw [← hwd]; simp
 obtain ⟨w1,hw1⟩:∃ w1,wd.alloc (.loop rec)=w1:=⟨_,rfl⟩
 have hDd:wd.heap[w.heap.size]? = some (.deferred (some [])):=by rw [← hwd]; exact World.alloc_heap_new w _
 have hD1:w1.heap[w.heap.size]? = some (.deferred (some [])):=by
  rw [← hw1]; exact (cE _ _ (by omega)).trans hDd
 have hsamed:dY w wd:=fun B hB=>by rw [← hwd]; exact cE _ _ hB
 have hsame:dY w w1:=fun B hB=>by
  rw [← hw1]; exact (cE _ _ (by omega)).trans (hsamed B hB)
 have hsz1:w1.heap.size=w.heap.size+2:=by rw [← hw1]; simp [hszd]
 have Rd:Rel w0 Fz μ own h wd:=Rl.same hsamed (by omega) (by rw [← hwd] <;> rfl) (by rw [← hwd] <;> rfl) (by rw [← hwd] <;> rfl)
 obtain ⟨R1,hs1,hat⟩:=Rd.newGh rec
 rw [hw1] at R1
 rw [hszd] at R1 hs1 hat
 obtain ⟨μ1,hμ1⟩:∃ μ1,b8 μ h.length 0 ⟨w.heap.size+1,0,0,1⟩=μ1:=⟨_,rfl⟩
 obtain ⟨own1,hown1⟩:∃ own1,cQ own (w.heap.size+1) h.length=own1:=⟨_,rfl⟩
 rw [hμ1] at R1 hs1 hat
 rw [hown1] at R1
 obtain ⟨F1,hF1⟩:∃ F1:Nat→Prop,F1=fun B=>Fz B∨B=w.heap.size:=⟨_,rfl⟩
 have nown:own1 w.heap.size=none:=by
  rw [← hown1]
  unfold cQ
  rw [if_neg (by omega)]
  cases ho:own w.heap.size with
  | none=>rfl
  | some id=>have:=Rl.ownlt _ id ho; omega
 have R2:Rel w1 F1 μ1 own1 (h++[lB rec]) w1:=R1.rebase fun B hB=>by
  rw [hF1] at hB
  rcases hB with hB | rfl
  ·exact ⟨Nat.lt_of_lt_of_le (R1.fz B hB).1 R1.size0,.inl hB⟩
  ·exact ⟨by omega,.inr ⟨nown,_,hD1,rfl⟩⟩
 have hE1:=hE.mono hs1
 have hS:cA P w1 F1 μ1 (orY R (w.heap.size+1) (zU P R nt ann ps.toList assign body e h.length rec)):=by
  rintro f args h' K' (hk | ⟨rfl,hk⟩)
  ·exact hR w1 F1 μ1 f args h' K' hk
  ·intro μ2 own2 w2 cargs hs2 Rl2 hv2
   rw [if_neg (Nat.not_lt.2 (Nat.le_add_right _ _)),Nat.add_sub_cancel_left]
   exact aK5 (l:=⟨w.heap.size+1,0,0,1⟩) hm hR hRR hat (by rw [hrec]) (by rw [hrec]) (by rw [hrec]) (by rw [hrec]) hE1 Rl2 hs2 hv2 hk
 have hk1:=hk (w.heap.size+1) rec
 rw [hrr] at hk1
 have hcall:=hA w1 F1 μ1 _ hS _ _ _ _ hk1 μ1 own1 w1 (cf.toList++[.func (.yield (w.heap.size+1)) #[] #[]]++ccap.toList) (Sub.refl _) R2
  (((r1.mono hs1).append (.cons _ _ _ _ (.fn _ _ _ _ _ .nil .nil) .nil)).append (r2.mono hs1))
 rw [if_pos (show gf<yid0 from Nat.le_of_ble_eq_true hlt.1)] at hcall
 have hrun:=kH (P:=P) hlt.2 (cf.toList++[Value.func (.yield (w.heap.size+1)) #[] #[]]++ccap.toList).toArray w1
 have e1:(cf.toList++[Value.func (.yield (w.heap.size+1)) #[] #[]]++ccap.toList).toArray=(cf ++ #[Value.func (.yield (w.heap.size+1)) #[] #[]])++ccap:=by apply Array.ext'; simp
 rw [e1] at hrun
 refine ⟨w.heap.size+1,[xB w.heap.size],w1,{ target:=.fn (.func gf) ccap,args:=cf ++ #[Value.func (.yield (w.heap.size+1)) #[] #[]] },w1,gf,(cf ++ #[Value.func (.yield (w.heap.size+1)) #[] #[]])++ccap,w1, ?_, ?_,fun _ _=>trivial, ?_,fun h=>(by cases h), ?_⟩
 ·rw [← hw1, ← hwd,hrec]; exact run_enterLoop_outer _ _ _ _ _
 ·simp only [resolve, hag]
  simp [go_sem,Deferred.ofValue,Act.eval]
 ·simpa [invoke] using hrun
 ·rcases hcall with ⟨g2, as2, c1, c2⟩ | ⟨v, wv, c1, c2⟩
  ·rw [e1, hrun] at c1
   cases c1
   have c3:CallsIn (FR none) 0 P gf _ w1 _:=callsIn_wide.2 c2
   refine c3.mono ?_
   rintro en w5 ⟨v,rfl,v',μ5,own5,h5,k1,k2,k3,k4⟩
   obtain ⟨st,pe,q1,q2,q3⟩:=aGU k1
   have hμ5:μ5 h.length 0=some ⟨w.heap.size+1,0,0,1⟩:=k4 _ _ _ hat
   obtain ⟨_,_,hL5⟩:=wD k3 hμ5 q1
   have hD5:w5.heap[w.heap.size]? = some (.deferred (some [])):=(k3.fz _ (by rw [hF1]; exact .inr rfl)).2.trans hD1
   refine ⟨pe,_,run_endLoop (P:=P) hL5 q2, ?_⟩
   have hlt5:w.heap.size+1<w5.heap.size:=(Array.getElem?_eq_some_iff.1 hL5).1
   obtain ⟨w6,hw6⟩:∃ w6,w5.putObj (w.heap.size+1) (.loop { ({ rec with state:=st,pending:=pe }:Loop) with state:=.exhausted })=w6:=⟨_,rfl⟩
   have G5:Rel w1 F1 μ5 own5 (h5.set h.length dead) w6:=by rw [← hw6]; exact k3.killGh hμ5 q1 _
   rw [hw6]
   have hold:∀ B,Fz B→B<w.heap.size:=fun B hB=>Nat.lt_of_lt_of_le (Rl.fz B hB).1 Rl.size0
   have R1os:w1.os=w0.os:=R1.os
   have G6:Rel w6 F1 μ5 own5 (h5.set h.length dead) w6:=G5.rebase fun B hB=>⟨Nat.lt_of_lt_of_le (G5.fz B hB).1 G5.size0,.inl hB⟩
   have hw6o:∀ B,B≠w.heap.size+1→w6.heap[B]? = w5.heap[B]?:=fun B hB=>by rw [← hw6]; exact World.putObj_heap_other hB
   have hsz6:w6.heap.size=w5.heap.size:=by rw [← hw6]; simp
   have hb2:tR w0 Fz w6 F1:=by
    refine ⟨G5.os.trans R1.os,G5.tape.trans R1.tape,G5.output.trans R1.output, ?_,fun B hB=>⟨by rw [hF1]; exact .inl hB,(Rl.fz B hB).1, ?_⟩⟩
    ·have:=Rl.size0; omega
    ·have := hold B hB
     rw [hw6o B (by omega),(k3.fz B (by rw [hF1]; exact .inl hB)).2,hsame B this,(Rl.fz B hB).2]
   have hDnew:w.heap.size ∉ Ds:=fun hD=>by
    have:=hold _ (hM.is _ hD).1
    omega
   have fin:∀ x,K x e (h5.set h.length dead)→QKM wa Fa nt μ K x { a with defers:=[xB w.heap.size]++a.defers } w6:=by
    intro x hK
    refine ⟨e,_,μ5,own5,w6,F1,w.heap.size :: Ds,hK,hb.trans hb2,G6,⟨List.nodup_cons.2 ⟨hDnew,hM.nodup⟩, ?_⟩, ?_,hs1.trans k4⟩
    ·intro D hD
     rcases List.mem_cons.1 hD with rfl | hD
     ·refine ⟨by rw [hF1]; exact .inr rfl, Nat.le_trans hb.size Rl.size0, ?_⟩
      rw [hw6o _ (by omega)]; exact hD5
     ·obtain ⟨d1, d2, d3⟩ := hM.is D hD
      have:=hold D d1
      refine ⟨by rw [hF1]; exact .inl d1,d2, ?_⟩
      rw [hw6o _ (by omega),(k3.fz D (by rw [hF1]; exact .inl d1)).2,hsame D this,(Rl.fz D d1).2]; exact d3
    ·have := hE1.mono k4
     exact ⟨this.1,by simp [this.2],this.3⟩
   rcases q3 with ⟨rfl,q3⟩ | ⟨id,rfl,q3⟩ | ⟨rfl,q3⟩
   ·exact fin _ q3
   ·exact wpIn_exit (fin _ q3)
   ·exact wpIn_ret (fin _ q3)
  ·rw [e1,hrun] at c1; cases c1
theorem aND {R : a0} {A : a0 → a0} (hm : P.follows .mixedOrders = true) (hR : lC P R) (hRR : RLe R R) (hA : ∀ w0 Fz μb Y, cA P w0 Fz μb Y → cA P w0 Fz μb (A Y)) {nt : Nat} {wa : World} {Fa : Nat → Prop} :
  ∀ (c:Code) (ann:Ann) (w0:World) (Fz:Nat→Prop) (Ds:List Nat) (μ:Mu) (own:Nat→Option Nat) (e:Env) (h:aA) (K:Kx) (a:Act) (w:World),
  Rel w0 Fz μ own h w→bK (Ds.map xB) μ nt e a→tR wa Fa w0 Fz→aJW wa w0 Fz Ds→hZ P R A nt ann c e h K→c.wpIn (FR none) 0 P (QKM wa Fa nt μ K) a w:=by
 intro c
 induction c with
 | seq x y ihx ihy =>
  intro ann w0 Fz Ds μ own e h K a w Rl hE hb hM hk
  simp only [hZ] at hk
  refine wpIn_seq (wpIn_mono (ihx _ w0 Fz Ds μ own e h _ a w Rl hE hb hM hk) ?_)
  rintro ex a' w' ⟨e',h',μ',own',wb,Fb,Ds',g1,g2,g3,g4,g5,g6⟩
  cases ex with
  | normal =>
   exact wpIn_mono (ihy _ wb Fb Ds' μ' own' _ h' K a' w' g3 (g5.restr _) g2 g4 g1) fun ex a2 w2 ⟨e2,h2,μ2,own2,wc,Fc,D2,k1,k2,k3,k4,k5,k6⟩=>⟨e2,h2,μ2,own2,wc,Fc,D2,k1,k2,k3,k4,k5,g6.trans k6⟩
  | _=>exact ⟨e',h',μ',own',wb,Fb,Ds',g1,g2,g3,g4,g5,g6⟩
 | cond c x y ihx ihy =>
  intro ann w0 Fz Ds μ own e h K a w Rl hE hb hM hk
  simp only [hZ] at hk
  rcases qX hk (Rl.ev hE c) with ⟨h1,h2⟩ | ⟨h1,h2⟩
  ·exact wpIn_cond_true h1 (ihx _ w0 Fz Ds μ own e h K a w Rl hE hb hM h2)
  ·exact wpIn_cond_false h1 (ihy _ w0 Fz Ds μ own e h K a w Rl hE hb hM h2)
 | block id x ih =>
  intro ann w0 Fz Ds μ own e h K a w Rl hE hb hM hk
  simp only [hZ] at hk
  refine wpIn_block (wpIn_mono (ih _ w0 Fz Ds μ own e h _ a w Rl hE hb hM hk) ?_)
  rintro ex a' w' ⟨e',h',μ',own',wb,Fb,Ds',g1,g2⟩
  cases ex with
  | exit id' =>
   simp only [gP] at g1
   simp only [Exit.inBlock]
   by_cases hid:id'=id
   ·subst hid
    simp at g1
    rw [if_pos rfl]
    exact ⟨e',h',μ',own',wb,Fb,Ds',g1,g2⟩
   ·rw [lY hid] at g1
    rw [if_neg hid]
    exact ⟨e',h',μ',own',wb,Fb,Ds',g1,g2⟩
  | _=>exact ⟨e',h',μ',own',wb,Fb,Ds',g1,g2⟩
 | rangeFunc g ps assign body =>
  intro ann w0 Fz Ds μ own e h K a w Rl hE hb hM hk
  exact aL3 hm hR hRR hA Rl hE hb hM hk
 | _ =>
  intro ann w0 Fz Ds μ own e h K a w Rl hE hb hM hk
  exact aLY hm hR Rl hE hb hM (by simpa only [hZ] using hk)
def aFX (P : Program) (R : a0) (A : a0 → a0) (f : FuncId) (args : List AV) (h : aA) (K : AV → aA → Prop) : Prop :=
 ∃ fn body ann, P.funcs[f]? = some fn ∧ fn.body = some body ∧ (fn.name == "runtime.NumGoroutine") = false ∧ args.length ≤ fn.ntmps ∧
  hZ P R A fn.ntmps ann body (fE 0 args) h (zH P fn (aH h K))
theorem aNC {R : a0} {A : a0 → a0} (hm : P.follows .mixedOrders = true) (hsz : P.funcs.size ≤ yid0) (hR : lC P R) (hRR : RLe R R) (hA : ∀ w0 Fz μb Y, cA P w0 Fz μb Y → cA P w0 Fz μb (A Y)) : lC P (aFX P R A) := by
 rintro w0 Fz μb f args h K ⟨fn,body,ann,hf,hb,hname,hn,hk⟩ μ own w cargs hsb Rl hc
 rw [if_pos (Nat.lt_of_lt_of_le (Array.getElem?_eq_some_iff.1 hf).1 hsz)]
 refine .inl ⟨f,cargs.toArray, ?_, ?_⟩
 ·have hbs : fn.body.isNone = false := by simp [hb]
  simp only [callFunc,Sem.run_bind,run_program,Result.andThen_ok,hf,hname,Bool.false_eq_true,if_false,hbs,Sem.run_pure]
 ·have hE : bK (([] : List Nat).map xB) μ fn.ntmps (fE 0 args) _ := yY hc hn
  refine callsIn_wide.1 (callsIn_of_wp_marks (F:=FR none) (n:=0) hf hb trivial (wpIn_mono (aND hm hR hRR hA body ann w0 Fz [] μ own _ h _ _ w Rl hE (tR.refl Rl) ⟨List.nodup_nil,fun _ h=>by cases h⟩ hk) ?_))
  rintro ex a' w' ⟨e',h',μ',own',wb,Fb,Ds,g1,g2,g3,g4,g5,g6⟩
  have fin:fJ P h' e' fn.results.toList (fun vs=>aH h K (tup vs) h')→LeavesInM (FR none) 0 P fn a'.tmps (fun e w'=>∃ v,e = .returned v∧iW w0 Fz μ K v w') a'.defers .returning w':=by
   intro hk
   rw [g5.defers]
   have hDs:∀ D∈Ds,w'.heap[D]? = some (.deferred (some [])):=fun D hD=>(g3.fz D (g4.is D hD).1).2.trans (g4.is D hD).2.2
   refine aKL (wa:=wb) (Fa:=Fb) (v:=.u) (cv:=undef) (K:=K) (wb:=wb) Ds Fb wb w' g4.nodup hDs fun w2 s1 s2 s3 s4 s5 s6=>?_
   have R2:Rel w0 Fz μ' own' h' w2:=(g2.rel g3).putMany s1 s2 hDs s3 s4 s5 s6 fun B hB hBD=>by
    have h1:=(g4.is B hBD).2.1
    have h2:=(g2.fz B hB).2.1
    omega
   obtain ⟨vs,cvs,k1,k2,k3⟩:=jQ R2 g5 hk
   have hres:(results fn a'.tmps).run P w2 = .ok (if hs:cvs.toArray.size=1 then cvs.toArray[0] else .tuple cvs.toArray) w2:=by
    have e:results fn a'.tmps=(do let vs ← fn.results.mapM (aOV a'); pure (if h:vs.size=1 then vs[0] else .tuple vs)):=rfl
    rw [e,Array.mapM_eq_mapM_toList,Sem.run_bind,Sem.run_map,k3]
    first | done | rfl
   refine ⟨_,hres,_,rfl, ?_⟩
   have ht:=aEW k2
   rcases k1 with k1 | ⟨keep,c1,c2,c3,c4,c5,k1⟩
   ·exact ⟨_,μ',own',h',k1,ht,R2,g6⟩
   ·obtain ⟨t1, t2⟩ := Rel.trim Rl R2 g6 c1 c3 c4 c5
    exact ⟨_,_,_,_,k1,aD9 (fun k hk=>(c3 k hk).1) ht c2,t1,t2⟩
  cases ex with
  | normal=>exact fin g1
  | ret=>exact fin g1
  | exit id=>exact g1.elim
  | goto l=>exact g1.elim
  | panic ch=>exact g1.elim
  | outgrown=>exact g1.elim
end
end Go.GAM
namespace Go.GAM
structure aVL (P:Program) (f:FuncId) (fn:Func) (rid t0 t1:Nat) (ty:TypeId) (x:Code) (o0 o1:Oper) (at0:Array TypeId) (fl:TypeId):Prop where
 hfn:P.funcs[f]? = some fn
 body:fn.body=some (.seq (.region rid #[o0,o1] false) (.cond (.tmp t1) x .skip))
 op0:o0.op = .call { callee:=.builtin .recover,args:=#[],argTypes:=at0 }
 d0:o0.dst=some t0
 g0:o0.guard=none
 op1:o1.op = .binOp .neq ty (.tmp t0) (.const .nilIface) fl
 d1:o1.dst=some t1
 g1:o1.guard=none
 l0:Nat.blt t0 fn.ntmps=true
 l1:Nat.blt t1 fn.ntmps=true
 ne:Nat.beq t0 t1=false
 hty:aHC P ty=true
 res:fn.results = #[]
def aO5 (P:Program) (f:FuncId):Prop:=∃ fn rid t0 t1 ty x o0 o1 at0 fl,aVL P f fn rid t0 t1 ty x o0 o1 at0 fl
def yM (P:Program):Dl→Prop→Prop
 | [],K=>K
 | (f,args) :: D,K=>args=[]∧aO5 P f∧yM P D K
def aU5 (P:Program) (fn:Func) (K:AV→aA→Prop):Kd
 | .normal,e,h,D | .ret,e,h,D=>yM P D (fJ P h e fn.results.toList fun vs=>K (tup vs) h)
 | _,_,_,_=>False
def aFC (P : Program) (R : a0) (f : FuncId) (args : List AV) (h : aA) (K : AV → aA → Prop) : Prop :=
 ∃ fn body ann, P.funcs[f]? = some fn ∧ fn.body = some body ∧ (fn.name == "runtime.NumGoroutine") = false ∧ args.length ≤ fn.ntmps ∧
  mA P R fn.ntmps ann body (fE 0 args) h [] (aU5 P fn (aH h K))
section
variable {P:Program} {w0:World} {Fz:Nat→Prop} {μ:Mu} {own:Nat→Option Nat} {h:aA} {w:World}
theorem yE {f:FuncId} {fn:Func} {c:Code} {args:Array Value} {u:FrameMode} {w:World} {R:Ending→FrameMode→World→Prop}
  (hf:P.funcs[f]? = some fn) (hb:fn.body=some c)
  (h:∀ (c₀:Frame) (cs:List Frame),c₀.mode=u →
   c.wpS P (bodyPostS P fn c₀ cs R) { tmps:=args++Array.replicate (fn.ntmps - args.size) undef,defers:=[] } (c₀ :: cs) w) :
  CallsDIn (FR none) 0 P f args u w R:=by
 refine ⟨trivial,fun c₀ cs hu _=>?_⟩
 let b:Frame:={ (default:Frame) with fn:=f,kind:=.deferred }
 have henter:Frame.enter P f args .deferred =
   b.at { tmps:=args++Array.replicate (fn.ntmps - args.size) undef,defers:=[] } [.code c]:=by
  simp [Frame.enter,Frame.at,hf,hb,b]
 obtain ⟨e,a',cs',w',hq,harr⟩:=h c₀ cs hu b [] rfl rfl
 rw [← henter] at harr
 cases e with
 | normal =>
  obtain ⟨hd,u',rfl,v,hr,hR⟩:=hq
  exact ⟨.returned v,u',w',_,hR,comesIn_wide.2 (Steps.trans harr (.one step_end)),rfl,rfl,rfl,hd,fn,hf,hr⟩
 | ret =>
  obtain ⟨hd,u',rfl,v,hr,hR⟩:=hq
  obtain ⟨todo,hs⟩:=harr
  exact ⟨.returned v,u',w',_,hR,comesIn_wide.2 hs,rfl,rfl,rfl,hd,fn,hf,hr⟩
 | panic chain =>
  obtain ⟨hd,u',rfl,hR⟩:=hq
  obtain ⟨todo,hs⟩:=harr
  exact ⟨.panicked chain,u',w',_,hR,comesIn_wide.2 hs,rfl,rfl,rfl,hd,fn,hf⟩
 | exit id=>exact hq.elim
 | goto l=>exact hq.elim
 | outgrown =>
  obtain ⟨u',hR⟩:=hq
  exact ⟨.outgrown,u',w',b,hR,comesIn_wide.2 (harr.resolve_left (by simp [b])),rfl,rfl,trivial⟩
theorem aGC {f:FuncId} (hc:aO5 P f) (w:World):CallsDIn (FR none) 0 P f #[] .returning w fun e u' w'=>e = .returned (.tuple #[])∧u' = .returning∧w'=w:=by
 obtain ⟨fn,rid,t0,t1,ty,x,o0,o1,at0,fl,C⟩:=hc
 have l0:t0<fn.ntmps:=Nat.le_of_ble_eq_true C.l0
 have l1:t1<fn.ntmps:=Nat.le_of_ble_eq_true C.l1
 have ne:t0≠t1:=fun e=>by have:=C.ne; rw [e,Nat.beq_refl] at this; cases this
 obtain ⟨ms,hty⟩:∃ ms,P.underlying ty=some (.interface ms):=by
  have:=C.hty
  unfold aHC at this
  split at this
  ·exact ⟨_,by assumption⟩
  ·cases this
 refine yE C.hfn C.body fun c₀ cs hu=>?_
 apply wpS_seq
 apply wpS_region
 have hr:recoverD (c₀ :: cs)=none:=by simp [recoverD,hu]
 have hw0:∀ ys,Region.wanted o0 ys=true:=fun ys=>by simp [Region.wanted,C.g0]
 have hw1:∀ ys,Region.wanted o1 ys=true:=fun ys=>by simp [Region.wanted,C.g1]
 have hx0:∀ ρ:Operand→Value,(execOp ρ o0).run P w = .ok .recover w:=fun ρ=>by
  simp [execOp,C.op0,resolve,invoke,builtin,go_sem]
 simp only [show List.range (#[o0,o1]:Array Oper).size=[0,1] from rfl,wpOpsS,List.getElem?_toArray]
 simp [hw0,hw1,hx0,hr,Exit.thenS]
 rw [C.d0,C.d1]
 have hx1:(execOp (Act.put ({ tmps:=Array.replicate fn.ntmps undef,defers:=[] }:Act) (some t0) Value.nilIface).eval o1).run P w = .ok (.value (.bool false)) w:=by
  have e0:(Act.put ({ tmps:=Array.replicate fn.ntmps undef,defers:=[] }:Act) (some t0) Value.nilIface).eval (.tmp t0) = .nilIface:=by
   simp [Act.eval,Act.put,l0]
  simp only [execOp,C.op1,e0]
  have:=Lib.run_neq_nil_nil (P:=P) w hty
  simp [Act.eval,this,eqGuard]
 rw [hx1]
 simp only [Oper.upon,C.d1]
 refine wpS_cond (t:=false) (by simp [Act.eval,Act.put,l1]) ?_
 simp only [Bool.false_eq_true,if_false]
 refine wpS_of_wp (wp_skip ?_)
 refine ⟨by simp [Act.put],.returning,by rw [← hu],_, ?_,rfl,rfl,rfl⟩
 simp [results,C.res]
theorem rV {fn:Func} {tmps:Array Value} {RR:Ending→World→Prop}:∀ (D:Dl) (ds:List Deferred) (K:Prop),yL P μ D ds→yM P D K →
  (K→LeavesIn (FR none) 0 P fn tmps RR [] .returning w)→LeavesIn (FR none) 0 P fn tmps RR ds .returning w
 | [],_,K,.nil,hk,hQ=>hQ hk
 | (f, args) :: D, _, K, .cons _ _ cap dargs _ ds hb hv t, hk, hQ => by
  obtain ⟨ha,hc,hk⟩:=hk
  subst ha
  have hlen:=hv.length
  have hlen:0=dargs.size+cap.size:=by simpa using hlen
  have hd:dargs = #[]:=Array.eq_empty_of_size_eq_zero (by omega)
  have hcap:cap = #[]:=Array.eq_empty_of_size_eq_zero (by omega)
  subst hd hcap
  have hrun:=kH (P:=P) hb #[] w
  refine leavesIn_cons (f:=f) (args:=#[]) (by simp) (fun h=>by cases h) (by simpa [invoke] using hrun) (fun _ _=>trivial) ?_
  refine (aGC hc w).mono ?_
  rintro en u' w' ⟨rfl,rfl,hw⟩
  rw [hw]
  exact rV D ds K t hk hQ
theorem aG4 {R:a0} (hm:P.follows .mixedOrders=true) (hsz:P.funcs.size≤yid0) {μb:Mu} (hR:cA P w0 Fz μb R):cA P w0 Fz μb (aFC P R):=by
 rintro f args h K ⟨fn,body,ann,hf,hb,hname,hn,hk⟩ μ own w cargs hsb Rl hc
 rw [if_pos (Nat.lt_of_lt_of_le (Array.getElem?_eq_some_iff.1 hf).1 hsz)]
 refine .inl ⟨f,cargs.toArray, ?_, ?_⟩
 ·have hbs : fn.body.isNone = false := by simp [hb]
  simp only [callFunc,Sem.run_bind,run_program,Result.andThen_ok,hf,hname,Bool.false_eq_true,if_false,hbs,Sem.run_pure]
 ·refine callsIn_wide.1 (callsIn_of_wp_defers (F := FR none) (n := 0) hf hb trivial (wpIn_mono (aQA hm hR body ann μ own _ h [] [] _ _ w hsb Rl .nil (yY hc hn) hk) ?_))
  rintro ex a' w' ⟨e',h',D',ds',μ',own',g1,g2,g3,g4,g5⟩
  have fin:yM P D' (fJ P h' e' fn.results.toList fun vs=>aH h K (tup vs) h')→LeavesIn (FR none) 0 P fn a'.tmps (fun e w'=>∃ v,e = .returned v∧iW w0 Fz μ K v w') a'.defers .returning w':=by
   intro hk
   rw [g4.defers]
   refine rV D' ds' _ g3 hk fun q1=>?_
   obtain ⟨v,k1,k2⟩:=aMJ Rl g2 g4 g5 q1
   exact ⟨v,k1,v,rfl,k2⟩
  cases ex with
  | normal=>exact fin g1
  | ret=>exact fin g1
  | exit id=>exact g1.elim
  | goto l=>exact g1.elim
  | panic ch=>exact g1.elim
  | outgrown=>exact g1.elim
theorem aK6 {R:a0} (hm:P.follows .mixedOrders=true) (hsz:P.funcs.size≤yid0) (hR:lC P R):lC P (aFC P R):=fun w0 Fz μb=>aG4 hm hsz (hR w0 Fz μb)
end
end Go.GAM
