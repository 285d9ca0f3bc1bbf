/- Lemmas (several texts in one). -/
import Derived.Scope
import Derived.RangeFuncOwn
import Derived.DefersIn
import Derived.Recover
import Derived.Lib.ByteType
import Derived.Test.YtpaphfeihpgamaaDoorMg0
set_option linter.unusedVariables false
set_option linter.unusedSimpArgs false
namespace Go.GAM
section
variable {P:Program}
theorem aDX {α:Type} {c:AV} {A B:(α→Prop)→Prop} {K:α→Prop} (hA:A K→∃ v,K v∧∀ K',K' v→A K') (hB:B K→∃ v,K v∧∀ K',K' v→B K') (h:aIf c (A K) (B K)):∃ v,K v∧∀ K',K' v→aIf c (A K') (B K'):=by
 unfold aIf at *
 split at h <;> first | exact hA h | exact hB h | exact h.elim
theorem mP {op:BinOp} {r:Bool} {K:AV→Prop} (h:dN op r K):∃ v,K v∧∀ K':AV→Prop,K' v→dN op r K':=by
 cases op <;> first | exact h.elim | exact ⟨_,h,fun _ h=>h⟩
theorem tU {sz:Nat} {x:AV} {h:aA} {K:List AV→Prop} (hk:eA sz x h K):∃ v,K v∧∀ K':List AV→Prop,K' v→eA sz x h K':=by
 unfold eA at *
 split at hk
 ·exact ⟨_,hk,fun _ h=>h⟩
 ·rcases hk with ⟨h0, hk⟩ | ⟨b, h1, h3, h4⟩
  ·exact ⟨_,hk,fun _ h=>.inl ⟨h0,h⟩⟩
  ·exact ⟨_,h4,fun _ h=>.inr ⟨b,h1,h3,h⟩⟩
 ·exact hk.elim
theorem cY {x:Option AV} {d:Nat} {K:Nat→Prop} (hk:cT x d K):∃ v,K v∧∀ K':Nat→Prop,K' v→cT x d K':=by
 unfold cT at *
 split at hk
 ·exact ⟨_,hk,fun _ h=>h⟩
 ·exact ⟨_,hk.2,fun _ h=>⟨hk.1,h⟩⟩
 ·exact hk.elim
theorem oK {α:Type} {c:Bool} {A:(α→Prop)→Prop} {K:α→Prop} (hA:A K→∃ v,K v∧∀ K',K' v→A K') (h:bif c then A K else False):∃ v,K v∧∀ K',K' v→bif c then A K' else False:=by
 cases c
 ·exact h.elim
 ·exact hA h
theorem aB2 {op:BinOp} {t:TypeId} {x y:AV} {K:AV→Prop} (hk:dT P op t x y K):∃ v,K v∧∀ K':AV→Prop,K' v→dT P op t x y K':=by
 unfold dT at *
 split at hk
 case h_1=>cases op <;> first | exact ⟨_,hk.2,fun _ h=>⟨hk.1,h⟩⟩ | exact ⟨_,hk,fun _ h=>h⟩ | exact oK (A:=fun K=>_∧K _) (fun hk=>⟨_,hk.2,fun _ h=>⟨hk.1,h⟩⟩) hk | exact oK (A:=fun K=>K _) (fun hk=>⟨_,hk,fun _ h=>h⟩) hk
 case h_2=>cases op <;> first | exact hk.elim | exact ⟨_,hk.2,fun _ h=>⟨hk.1,h⟩⟩ | exact ⟨_,hk,fun _ h=>h⟩
 case h_3=>split at hk <;> first | exact mP hk | exact hk.elim
 case h_16=>
  cases hg:P.eqGuardType P.depth t with
  | true=>rw [hg] at hk; exact hk.elim
  | false =>
   rw [hg] at hk
   simp only [cond_false] at hk ⊢
   split at hk <;> first | exact mP hk | exact hk.elim
 all_goals first | exact oK (A:=fun K=>dN _ _ K) mP hk | exact hk.elim
theorem aDO {v:AV} {K:Bool→Prop} (hk:asB v K):∃ c,K c∧∀ K':Bool→Prop,K' c→asB v K':=by
 unfold asB at *; split at hk <;> first | exact ⟨_,hk,fun _ h=>h⟩ | exact hk.elim
theorem aD6 {k:IntKind} {v:AV} {K:Int→Prop} (hk:asI k v K):∃ c,K c∧∀ K':Int→Prop,K' c→asI k v K':=by
 unfold asI at *; split at hk <;> first | exact oK (A:=fun K=>K _) (fun hk=>⟨_,hk,fun _ h=>h⟩) hk | exact hk.elim
theorem aD1 {v:AV} {K:List UInt8→Prop} (hk:asS v K):∃ c,K c∧∀ K':List UInt8→Prop,K' c→asS v K':=by
 unfold asS at *; split at hk <;> first | exact ⟨_,hk,fun _ h=>h⟩ | exact hk.elim
theorem pY {o:Oper} {v:AV} {K:AV→Prop} (hk:cI P o v K):∃ c,K c∧∀ K':AV→Prop,K' c→cI P o v K':=by
 unfold cI at *
 split at hk
 ·unfold shape at *
  split at hk
  ·obtain ⟨c,h1,h2⟩:=aDO hk; exact ⟨_,h1,fun K' h=>h2 (fun c=>K' (.b c)) h⟩
  ·obtain ⟨c,h1,h2⟩:=aD6 hk; exact ⟨_,h1,fun K' h=>h2 (fun c=>K' (.i _ c)) h⟩
  ·obtain ⟨c,h1,h2⟩:=aD1 hk; exact ⟨_,h1,fun K' h=>h2 (fun c=>K' (.s c)) h⟩
  ·exact ⟨_,hk,fun _ h=>h⟩
 ·exact ⟨_,hk,fun _ h=>h⟩
theorem sG {sz:Nat} {x:AV} {lo hi mx:Option AV} {h:aA} {K:AV→Prop} (hk:bJ sz x lo hi mx h K):∃ v,K v∧∀ K':AV→Prop,K' v→bJ sz x lo hi mx h K':=by
 unfold bJ at *
 split at hk
 ·obtain ⟨m, hm, em⟩ := cY hk
  obtain ⟨j,hj,ej⟩:=cY hm
  obtain ⟨i,hi,ei⟩:=cY hj
  exact ⟨_,hi.2.2.2.2,fun K' h=>em _ (ej _ (ei _ ⟨hi.1,hi.2.1,hi.2.2.1,hi.2.2.2.1,h⟩))⟩
 ·obtain ⟨g1, g2, hk⟩ := hk
  obtain ⟨j,hj,ej⟩:=cY hk
  obtain ⟨i,hi,ei⟩:=cY hj
  obtain ⟨k1,b,h1,h2,h3,h4,h5⟩:=hi
  cases mx with
  | none=>exact ⟨_,h5.2,fun K' h=>⟨g1,g2,ej _ (ei _ ⟨k1,b,h1,h2,h3,h4,h5.1,h⟩)⟩⟩
  | some m =>
   obtain ⟨n,hn,en⟩:=cY h5
   exact ⟨_,hn.2.2,fun K' h=>⟨g1,g2,ej _ (ei _ ⟨k1,b,h1,h2,h3,h4,en _ ⟨hn.1,hn.2.1,h⟩⟩)⟩⟩
 ·exact hk.elim
theorem lW {o : Oper} {e : Env} {h : aA} {K : AV → Prop} (hk : bK P o e h K) : ∃ v, K v ∧ ∀ K' : AV → Prop, K' v → bK P o e h K' := by
  obtain ⟨dst,op,type,pos,after,guard⟩:=o
  cases op with
  | move x=>exact ⟨_,hk,fun _ h=>h⟩
  | assign x=>exact ⟨_,hk,fun _ h=>h⟩
  | pick c x y=>exact aDX (A:=fun K=>K _) (B:=fun K=>K _) (fun hk=>⟨_,hk,fun _ h=>h⟩) (fun hk=>⟨_,hk,fun _ h=>h⟩) hk
  | load t x =>
    simp only [bK] at *
    split at hk
    · unfold dW at *
      split at hk
      · obtain ⟨b,h1,h2,h3⟩:=hk; exact ⟨_,h3,fun _ h=>⟨b,h1,h2,h⟩⟩
      · exact hk.elim
    · unfold aB at *
      split at hk
      · obtain ⟨b,h1,h2,h3⟩:=hk; exact ⟨_,h3,fun _ h=>⟨b,h1,h2,h⟩⟩
      · exact hk.elim
    · exact hk.elim
  | nilCheck x =>
    simp only [bK] at *
    unfold aZ at *
    split at hk <;> first | exact hk.elim | exact ⟨_,hk,fun _ h=>h⟩
  | binOp op t x y yt=>exact aB2 hk
  | unOp op t x =>
    simp only [bK] at *
    unfold pUn at *
    split at hk <;> first | exact hk.elim | exact ⟨_,hk,fun _ h=>h⟩
  | convert src dst' x =>
    simp only [bK] at *
    split at hk
    · unfold pA at *
      split at hk <;> first | exact hk.elim | exact ⟨_,hk,fun _ h=>h⟩
    · unfold oT at *
      split at hk <;> first | exact hk.elim | exact ⟨_,hk,fun _ h=>h⟩
    · split at hk
      · unfold cZ at *
        obtain ⟨cs,h1,h2⟩:=tU hk
        exact ⟨_,h1.2,fun K' h=>h2 _ ⟨h1.1,h⟩⟩
      · exact hk.elim
    · rename_i t h1 h2
      cases hz:Nat.beq (P.cellsOf t) 0 with
      | true=>rw [hz] at hk; exact hk.elim
      | false =>
        rw [hz] at hk
        simp only [cond_false] at hk ⊢
        unfold oG at *
        split at hk
        · exact ⟨_,hk,fun _ h=>h⟩
        · obtain ⟨b,h1,h2,h3⟩:=hk; exact ⟨_,h3,fun _ h=>⟨b,h1,h2,h⟩⟩
        · exact hk.elim
    · rename_i u h1 h2
      obtain ⟨hu,hk⟩:=aG hk
      simp only [hu,cond_true]
      unfold gB at *
      split at hk
      · exact ⟨_,hk,fun _ h=>h⟩
      · obtain ⟨b,t,g1,g2,g3,g4,g5,g6⟩:=hk; exact ⟨_,g6,fun _ h=>⟨b,t,g1,g2,g3,g4,g5,h⟩⟩
      · exact hk.elim
    · exact hk.elim
  | makeInterface t x =>
    simp only [bK] at *
    split at hk <;> first | exact hk.elim | exact ⟨_,hk,fun _ h=>h⟩
  | makeFunc f a b=>exact ⟨_,hk,fun _ h=>h⟩
  | lookup t x ix ok =>
    simp only [bK] at *
    split at hk
    · obtain ⟨h1, h2⟩ := aG hk
      simp only [h1,cond_true]
      unfold eL at *
      obtain ⟨h3,h2⟩:=h2
      split at h2
      · exact h2.elim
      · split at h2
        · exact ⟨_,h2,fun _ h=>⟨h3,h⟩⟩
        · split at h2
          · exact ⟨_,h2,fun _ h=>⟨h3,h⟩⟩
          · exact h2.elim
        · exact h2.elim
    · exact hk.elim
  | slice t x lo hi mx =>
    simp only [bK] at *
    split at hk
    · split at hk
      · unfold b8 at *
        split at hk
        · obtain ⟨m, hm, em⟩ := cY hk
          obtain ⟨n,hn,en⟩:=cY hm
          exact ⟨_,hn.2.2,fun K' h=>em _ (en _ ⟨hn.1,hn.2.1,h⟩)⟩
        · exact hk.elim
      · exact hk.elim
    · obtain ⟨h1, h2⟩ := aG hk
      simp only [h1,cond_true]
      exact sG h2
    · split at hk
      · obtain ⟨h1, h2⟩ := aG hk
        simp only [h1,cond_true]
        unfold j0 at *
        split at h2
        · obtain ⟨g0, h2⟩ := h2
          obtain ⟨j,hj,ej⟩:=cY h2
          obtain ⟨i,hi,ei⟩:=cY hj
          obtain ⟨g1,g2,b,g3,g4,g5,g6⟩:=hi
          exact ⟨_,g6,fun K' h=>⟨g0,ej _ (ei _ ⟨g1,g2,b,g3,g4,g5,h⟩)⟩⟩
        · exact h2.elim
      · exact hk.elim
    · exact hk.elim
  | fieldAddr t x f =>
    simp only [bK] at *
    split at hk
    · split at hk
      · rename_i fl _
        cases hz:Nat.beq (P.cellsOf fl.type) 0 with
        | true=>rw [hz] at hk; exact hk.elim
        | false =>
          rw [hz] at hk
          simp only [cond_false] at hk ⊢
          unfold aC at *
          split at hk <;> first | exact hk.elim | exact ⟨_,hk,fun _ h=>h⟩
      · exact hk.elim
    · exact hk.elim
  | field t x f =>
    simp only [bK] at *
    split at hk
    · split at hk
      · split at hk
        · unfold jZ at *
          split at hk <;> first | exact hk.elim | exact ⟨_,hk,fun _ h=>h⟩ | exact ⟨_,hk.2,fun _ h=>⟨hk.1,h⟩⟩
        · unfold oH at *
          split at hk <;> first | exact hk.elim | exact ⟨_,hk.2,fun _ h=>⟨hk.1,h⟩⟩
        · exact hk.elim
      · exact hk.elim
    · exact hk.elim
  | indexAddr t x ix =>
    simp only [bK] at *
    split at hk
    · obtain ⟨h1, h2⟩ := aG hk
      simp only [h1,cond_true]
      unfold aW at *
      split at h2
      · exact ⟨_,h2.2.2.2,fun _ h=>⟨h2.1,h2.2.1,h2.2.2.1,h⟩⟩
      · exact h2.elim
    · obtain ⟨h1, h2⟩ := aG hk
      simp only [h1,cond_true]
      unfold bG at *
      split at h2
      · exact ⟨_,h2.2.2,fun _ h=>⟨h2.1,h2.2.1,h⟩⟩
      · exact h2.elim
    · exact hk.elim
  | index t x ix =>
    simp only [bK] at *
    split at hk
    · unfold eZ at *
      split at hk
      · exact ⟨_,hk.2.2,fun _ h=>⟨hk.1,hk.2.1,h⟩⟩
      · exact hk.elim
    · split at hk
      · obtain ⟨h1, h2⟩ := aG hk
        simp only [h1,cond_true]
        unfold lV at *
        split at h2
        · exact ⟨_,h2.2.2.2,fun _ h=>⟨h2.1,h2.2.1,h2.2.2.1,h⟩⟩
        · exact h2.elim
      · exact hk.elim
    · exact hk.elim
  | build t parts =>
    simp only [bK] at *
    split at hk
    · unfold iG at *
      split at hk <;> first | exact hk.elim | exact ⟨_,hk,fun _ h=>h⟩
    · exact hk.elim
  | extract x i =>
    simp only [bK] at *
    unfold aP at *
    split at hk
    · exact ⟨_,hk.2,fun _ h=>⟨hk.1,h⟩⟩
    · exact hk.elim
  | call c =>
    obtain ⟨callee,args,argTypes⟩:=c
    cases callee with
    | builtin b =>
      cases b <;> first | exact False.elim hk | skip
      case len=>
        simp only [bK] at *
        split at hk
        · split at hk
          · unfold oJ at *
            split at hk <;> first | exact hk.elim | exact ⟨_,hk,fun _ h=>h⟩
          · exact hk.elim
        · split at hk
          · unfold bV at *
            split at hk <;> first | exact hk.elim | exact ⟨_,hk,fun _ h=>h⟩
          · exact hk.elim
        · split at hk <;> first | exact hk.elim | exact ⟨_,hk,fun _ h=>h⟩
        · exact hk.elim
      case min=>
        simp only [bK] at *
        unfold pMM at *
        split at hk <;> first | exact hk.elim | exact ⟨_,hk,fun _ h=>h⟩
      case max=>
        simp only [bK] at *
        unfold pMM at *
        split at hk <;> first | exact hk.elim | exact ⟨_,hk,fun _ h=>h⟩
    | _=>exact False.elim hk
  | _=>exact False.elim hk
theorem aDZ {e:Env} {h h':aA} {x:Operand} (hx:(match x with | .global _=>true | _=>false)=false):ev e h x=ev e h' x:=by
 cases x <;> first | rfl | cases hx
theorem k9 {e:Env} {h h':aA}:∀ {xs:List Operand},(∀ x∈xs,ev e h x=ev e h' x)→xs.map (ev e h)=xs.map (ev e h')
 | [],_=>rfl
 | x :: xs,H=>by rw [List.map_cons,List.map_cons,H x (by simp),k9 fun y hy=>H y (by simp [hy])]
theorem aAU {o : Oper} {e : Env} {h h' : aA} {K : AV → Prop} (hr : iR P o = false) (hk : bK P o e h K) : bK P o e h' K := by
 have hg:∀ x∈o.op.operands.toList,ev e h x=ev e h' x:=by
  intro x hx
  unfold iR at hr
  simp only [Bool.or_eq_false_iff] at hr
  refine aDZ ?_
  have:=hr.1
  rw [List.any_eq_false] at this
  have:=this x hx
  revert this
  cases x <;> simp
 obtain ⟨dst,op,type,pos,after,guard⟩:=o
 simp only [iR,Bool.or_eq_false_iff] at hr
 have hr:=hr.2
 cases op with
 | move x=>simpa only [bK,hg x (by simp [Op.operands])] using hk
 | assign x=>simpa only [bK,hg x (by simp [Op.operands])] using hk
 | pick c x y=>simpa only [bK,hg c (by simp [Op.operands]),hg x (by simp [Op.operands]),hg y (by simp [Op.operands])] using hk
 | load t x=>cases hr
 | lookup t x ix ok=>cases hr
 | nilCheck x=>simpa only [bK,hg x (by simp [Op.operands])] using hk
 | binOp op t x y yt=>simpa only [bK,hg x (by simp [Op.operands]),hg y (by simp [Op.operands])] using hk
 | unOp op t x=>simpa only [bK,hg x (by simp [Op.operands])] using hk
 | convert src dst' x =>
  simp only at hr
  simp only [bK,hg x (by simp [Op.operands])] at hk ⊢
  split at hk
  ·exact hk
  ·exact hk
  ·rename_i h1 h2; rw [h1] at hr; cases hr
  ·rename_i h1 h2; rw [h1] at hr; cases hr
  ·rename_i h1 h2; rw [h1] at hr; cases hr
  ·exact hk
 | makeInterface t x=>simpa only [bK,hg x (by simp [Op.operands])] using hk
 | makeFunc f a b =>
  have h1:=k9 (xs:=a.toList) fun x hx=>hg x (by simp [Op.operands]; simp at hx; simp [hx])
  have h2:=k9 (xs:=b.toList) fun x hx=>hg x (by simp [Op.operands]; simp at hx; simp [hx])
  simpa only [bK,h1,h2] using hk
 | slice t x lo hi mx =>
  simp only at hr
  simp only [bK] at hk ⊢
  split at hk
  ·have h1 : lo.map (ev e h) = lo.map (ev e h') := by
    cases lo with
    | none=>rfl
    | some y=>simp only [Option.map_some]; rw [hg y (by simp [Op.operands])]
   have h2:hi.map (ev e h)=hi.map (ev e h'):=by
    cases hi with
    | none=>rfl
    | some y=>simp only [Option.map_some]; rw [hg y (by simp [Op.operands])]
   simpa only [hg x (by simp [Op.operands]),h1,h2] using hk
  ·rename_i h1; rw [h1] at hr; cases hr
  ·rename_i h1; rw [h1] at hr; cases hr
  ·exact hk
 | fieldAddr t x f=>simpa only [bK,hg x (by simp [Op.operands])] using hk
 | field t x f=>simpa only [bK,hg x (by simp [Op.operands])] using hk
 | indexAddr t x ix =>
  simp only at hr
  simp only [bK] at hk ⊢
  split at hk
  ·rename_i h1; rw [h1] at hr; cases hr
  ·simpa only [hg x (by simp [Op.operands]),hg ix (by simp [Op.operands])] using hk
  ·exact hk
 | index t x ix=>simpa only [bK,hg x (by simp [Op.operands]),hg ix (by simp [Op.operands])] using hk
 | build t parts =>
  have h1:(parts.toList.map fun (i,x)=>(i,ev e h x))=parts.toList.map fun (i,x)=>(i,ev e h' x):=by
   apply List.map_congr_left
   rintro ⟨i,x⟩ hx
   simp only
   rw [hg x (by simp [Op.operands]; simp at hx; exact ⟨i,hx⟩)]
  simpa only [bK,h1] using hk
 | extract x i=>simpa only [bK,hg x (by simp [Op.operands])] using hk
 | call c =>
  obtain ⟨callee,args,argTypes⟩:=c
  cases callee with
  | builtin b =>
   have h1:=k9 (xs:=args.toList) fun x hx=>hg x (by simp [Op.operands,Call.operands]; simp at hx; simp [hx])
   cases b <;> first | exact False.elim hk | skip
   case len=>
    simp only [bK] at hk ⊢
    split at hk
    ·split at hk
     ·rename_i x hx
      have:ev e h x=ev e h' x:=hg x (by simp [Op.operands,Call.operands]; rw [← Array.mem_toList_iff,hx]; simp)
      rw [← this]; exact hk
     ·exact hk
    ·split at hk
     ·rename_i x hx
      have:ev e h x=ev e h' x:=hg x (by simp [Op.operands,Call.operands]; rw [← Array.mem_toList_iff,hx]; simp)
      rw [← this]; exact hk
     ·exact hk
    ·exact hk
    ·exact hk
   case min=>simpa only [bK,h1] using hk
   case max=>simpa only [bK,h1] using hk
  | _=>exact False.elim hk
 | _=>exact False.elim hk
end
end Go.GAM
namespace Go.GAM
section
variable {ds:List Deferred} {rd:Option Nat} {P:Program} {w0:World} {Fz:Nat→Prop} {μ:Mu} {own:Nat→Option Nat} {h:aA} {w:World}
theorem bD.upd {nt:Nat} {e:Env} {a:Act} (hE:bD ds μ nt e a) {t:Nat} {v:AV} (hv:lk e t=v):bD ds μ nt (GAM.put e (some t) v) a:=by
 refine ⟨hE.1,hE.2,fun t'=>?_⟩
 rw [jS]
 split
 ·rename_i h
  simp only [Option.some.injEq] at h
  subst h
  rw [← hv]; exact hE.3 t
 ·exact hE.3 t'
theorem iM {want x:Bool} {A B:Prop} (h:oP want x A B):(x=want∧A)∨(x=(!want)∧B):=by
 cases want <;> cases x <;> first | exact .inl ⟨rfl,h⟩ | exact .inr ⟨rfl,h⟩
theorem sO {nt : Nat} {ops : Array Oper} {o : Oper} {e : Env} {a : Act} {A B : Env → Prop} (hE : bD ds μ nt e a) (hk : fM ops o e A B) :
  (Region.wanted o (yielded ops a.tmps)=true∧∃ e',bD ds μ nt e' a∧A e')∨(Region.wanted o (yielded ops a.tmps)=false∧∃ e',bD ds μ nt e' a∧B e'):=by
 unfold fM at hk
 unfold Region.wanted
 cases hg:o.guard with
 | none=>rw [hg] at hk; exact .inl ⟨rfl,e,hE,hk⟩
 | some g =>
  obtain ⟨j,want⟩:=g
  rw [hg] at hk
  simp only at hk ⊢
  cases hd:(ops[j]?).bind (·.dst) with
  | none =>
   rw [hd] at hk
   refine .inr ⟨?_,e,hE,hk⟩
   simp [yielded,hd]
  | some t =>
   rw [hd] at hk
   simp only at hk
   have hv:=hE.val t
   have hgd:a.tmps.getD t undef=(a.tmps[t]?).getD undef:=by
    by_cases ht:t<a.tmps.size
    ·simp [Array.getD,ht]
    ·simp [Array.getD,ht]
   rw [hgd] at hv
   have hy:yielded ops a.tmps j=match a.tmps[t]? with | some (.bool b)=>some b | _=>none:=by
    unfold yielded
    rw [hd]
    first | done | rfl
   rw [hy]
   cases hl:lk e t with
   | b x =>
    rw [hl] at hk hv
    simp only at hk
    have hc:a.tmps[t]? = some (.bool x):=by
     cases hoc:a.tmps[t]? with
     | none=>rw [hoc] at hv; cases hv
     | some cv=>rw [hoc] at hv; cases hv; rfl
    rw [hc]
    rcases iM hk with ⟨rfl,hA⟩ | ⟨rfl,hB⟩
    ·exact .inl ⟨by simp,_,hE.upd hl,hA⟩
    ·exact .inr ⟨by cases want <;> rfl,_,hE.upd hl,hB⟩
   | tu vs =>
    rw [hl] at hk hv
    refine .inr ⟨?_,e,hE,hk⟩
    cases hoc:a.tmps[t]? with
    | none=>rfl
    | some cv=>rw [hoc] at hv; cases hv; rfl
   | _=>rw [hl] at hk; exact hk.elim
theorem eX {o:Oper} {v:AV} {cv:Value} {K:AV→Prop} (hv:aL μ v cv) (hk:cI P o v K):K v:=by
 unfold cI at hk
 split at hk
 ·exact uH hv hk
 ·exact hk
theorem iL (e:Env) {t:Nat}:∀ {L:List Nat},t∈L→lk (restr L e) t=lk e t
 | x :: L, hm => by
  simp only [restr,List.map_cons,lk]
  by_cases h:x=t
  ·subst h; simp
  ·have : Nat.beq x t = false := tD h
   simp only [this,cond_false]
   rcases List.mem_cons.1 hm with h' | h'
   ·exact absurd h'.symm h
   ·exact iL e h'
theorem jH {e e':Env} {L:List Nat} (h:∀ t∈L,lk e t=lk e' t):restr L e=restr L e':=by
 unfold restr
 exact List.map_congr_left fun t ht=>by rw [h t ht]
structure iD (ds:List Deferred) (μ:Mu) (nt:Nat) (U:Nat→Prop) (e:Env) (a:Act):Prop where
 size:a.tmps.size=nt
 defers:a.defers=ds
 val:∀ t, ¬ U t→aL μ (lk e t) (a.tmps.getD t undef)
theorem iD.restr {nt : Nat} {U : Nat → Prop} {e : Env} {a : Act} (h : iD ds μ nt U e a) {L : List Nat} (hL : ∀ t ∈ L, ¬ U t) : bD ds μ nt (GAM.restr L e) a := by
 refine ⟨h.1,h.2,fun t=>?_⟩
 by_cases ht:t∈L
 ·rw [iL e ht]; exact h.3 t (hL t ht)
 ·have : lk (GAM.restr L e) t = .u := by
   clear hL
   induction L with
   | nil=>rfl
   | cons x L ih =>
    simp only [GAM.restr,List.map_cons,lk]
    have h1:x≠t:=fun e=>ht (by simp [e])
    have:Nat.beq x t=false:=tD h1
    simp only [this,cond_false]
    exact ih fun h'=>ht (by simp [h'])
  rw [this]; exact .u _
theorem iD.mono {μ':Mu} (hs:Sub μ μ') {nt:Nat} {U:Nat→Prop} {e:Env} {a:Act} (h:iD ds μ nt U e a):iD ds μ' nt U e a:=⟨h.1,h.2,fun t ht=>(h.3 t ht).mono hs⟩
theorem iD.put {nt : Nat} {U U' : Nat → Prop} {e e' : Env} {a : Act} (h : iD ds μ nt U e a) {o : Oper} (ho : iB nt o = true) {cv : Value}
  (hU:∀ t, ¬ U' t→(∃ d,o.dst=some d∧d=t∧aL μ (lk e' t) cv)∨(o.dst≠some t∧¬ U t∧lk e' t=lk e t)):iD ds μ nt U' e' (a.put o.dst cv):=by
 refine ⟨?_, ?_,fun t ht=>?_⟩
 ·cases hd:o.dst <;> simp [Act.put,h.1]
 ·cases hd:o.dst <;> simp [Act.put,h.2]
 ·rcases hU t ht with ⟨d, hd, rfl, hv⟩ | ⟨hd, hu, hl⟩
  ·have hlt : d < nt := by
    simp only [iB,hd] at ho
    exact Nat.le_of_ble_eq_true ho
   simp [hd,Act.put,h.1,hlt,hv]
  ·rw [hl]
   have:=h.3 t hu
   cases hd':o.dst with
   | none=>simpa [Act.put] using this
   | some d =>
    have hne:d≠t:=fun e=>hd (by rw [hd',e])
    simpa [Act.put,Array.getElem?_setIfInBounds_ne hne] using this
def gP (ops : Array Oper) (o : Oper) (e : Env) : Option Bool :=
 match o.guard with
 | none=>some true
 | some (j, want) =>
  match (ops[j]?).bind (·.dst) with
  | none=>some false
  | some t => match lk e t with
   | .b x=>some (x == want)
   | .tu _=>some false
   | _=>none
theorem lL {ops : Array Oper} {o : Oper} {e : Env} {A B : Env → Prop} (hk : fM ops o e A B) :
  ∃ e',(∀ t,lk e' t=lk e t)∧((gP ops o e=some true∧A e')∨(gP ops o e=some false∧B e')):=by
 unfold fM at hk
 unfold gP
 cases hg:o.guard with
 | none=>rw [hg] at hk; exact ⟨e,fun _=>rfl,.inl ⟨rfl,hk⟩⟩
 | some g =>
  obtain ⟨j,want⟩:=g
  rw [hg] at hk
  simp only at hk ⊢
  cases hd:(ops[j]?).bind (·.dst) with
  | none=>rw [hd] at hk; exact ⟨e,fun _=>rfl,.inr ⟨rfl,hk⟩⟩
  | some t =>
   rw [hd] at hk
   simp only at hk ⊢
   cases hl:lk e t with
   | b x =>
    rw [hl] at hk
    simp only at hk
    have up:∀ y,x=y→∀ t',lk (GAM.put e (some t) (.b y)) t'=lk e t':=by
     intro y hy t'
     rw [jS]
     split
     ·rename_i h1; injection h1 with h1; subst h1; subst hy; exact hl.symm
     ·rfl
    rcases iM hk with ⟨h1,hA⟩ | ⟨h1,hB⟩
    ·exact ⟨_,up _ h1,.inl ⟨by simp [h1],hA⟩⟩
    ·exact ⟨_,up _ h1,.inr ⟨by subst h1; cases want <;> rfl,hB⟩⟩
   | tu vs=>rw [hl] at hk; exact ⟨e,fun _=>rfl,.inr ⟨rfl,hk⟩⟩
   | _=>rw [hl] at hk; exact hk.elim
theorem fT {nt : Nat} {ops : Array Oper} {o : Oper} {e : Env} {a : Act} {b : Bool} (hE : bD ds μ nt (restr (o.looksAt ops) e) a) (hw : gP ops o e = some b) : Region.wanted o (yielded ops a.tmps) = b := by
 unfold gP at hw
 unfold Region.wanted
 cases hg:o.guard with
 | none=>rw [hg] at hw; injection hw
 | some g =>
  obtain ⟨j,want⟩:=g
  rw [hg] at hw
  simp only at hw ⊢
  cases hd:(ops[j]?).bind (·.dst) with
  | none =>
   rw [hd] at hw
   injection hw with hw
   subst hw
   simp [yielded,hd]
  | some t =>
   rw [hd] at hw
   simp only at hw
   have hm:t∈o.looksAt ops:=by unfold Oper.looksAt; simp [hg,hd]
   have hv:=hE.val t
   rw [iL e hm] at hv
   have hgd:a.tmps.getD t undef=(a.tmps[t]?).getD undef:=by
    by_cases ht:t<a.tmps.size
    ·simp [Array.getD,ht]
    ·simp [Array.getD,ht]
   rw [hgd] at hv
   have hy:yielded ops a.tmps j=match a.tmps[t]? with | some (.bool b)=>some b | _=>none:=by
    unfold yielded
    rw [hd]
    first | done | rfl
   rw [hy]
   cases hl:lk e t with
   | b x =>
    rw [hl] at hw hv
    simp only at hw
    injection hw with hw
    have hc:a.tmps[t]? = some (.bool x):=by
     cases hoc:a.tmps[t]? with
     | none=>rw [hoc] at hv; cases hv
     | some cv=>rw [hoc] at hv; cases hv; rfl
    rw [hc]
    subst hw
    simp
   | tu vs =>
    rw [hl] at hw hv
    injection hw with hw
    subst hw
    cases hoc:a.tmps[t]? with
    | none=>rfl
    | some cv=>rw [hoc] at hv; cases hv; rfl
   | _=>rw [hl] at hw; cases hw
theorem nD {ops:Array Oper} {o:Oper} {e e':Env} (h:∀ t∈o.looksAt ops,lk e t=lk e' t):gP ops o e=gP ops o e':=by
 unfold gP
 cases hg:o.guard with
 | none=>rfl
 | some g =>
  obtain ⟨j,want⟩:=g
  simp only
  cases hd:(ops[j]?).bind (·.dst) with
  | none=>rfl
  | some t =>
   have hm:t∈o.looksAt ops:=by unfold Oper.looksAt; simp [hg,hd]
   simp only [h t hm]
def j6 (P:Program) (ops:Array Oper) (o:Oper) (e:Env) (h:aA):Prop:=
 (gP ops o e=some true∧bK P o (restr (o.looksAt ops) e) h fun v=>cI P o v fun v=>cW e o.dst v)∨(gP ops o e=some false∧cW e o.dst (.tu []))
theorem j6.congr {ops:Array Oper} {o:Oper} {e e':Env} (hl:∀ t∈o.looksAt ops,lk e t=lk e' t) (hd:∀ d,o.dst=some d→lk e d=lk e' d) (hp:j6 P ops o e h):j6 P ops o e' h:=by
 have hs:∀ v,cW e o.dst v=cW e' o.dst v:=by
  intro v
  unfold cW
  cases hd':o.dst with
  | none=>rfl
  | some d=>simp only [hd d hd']
 unfold j6 at *
 rw [← nD hl, ← jH hl]
 simpa only [hs] using hp
theorem j6.heap {ops:Array Oper} {o:Oper} {e:Env} {h':aA} (hr:iR P o=false) (hp:j6 P ops o e h):j6 P ops o e h':=
 hp.imp (fun ⟨h1,h2⟩=>⟨h1,aAU hr h2⟩) id
theorem uX {ops : Array Oper} {o : Oper} {e : Env} {A : Prop} (hk : rT P ops o e h A) : j6 P ops o e h ∧ A := by
 have go:(bK P o (restr (o.looksAt ops) e) h fun v=>cI P o v fun v=>cW e o.dst v∧A)→(bK P o (restr (o.looksAt ops) e) h fun v=>cI P o v fun v=>cW e o.dst v)∧A:=by
  intro hk
  obtain ⟨v,h1,h2⟩:=lW hk
  obtain ⟨v',h3,h4⟩:=pY h1
  exact ⟨h2 _ (h4 _ h3.1),h3.2⟩
 unfold rT at hk
 unfold j6 gP
 cases hg:o.guard with
 | none=>rw [hg] at hk; obtain ⟨h1,h2⟩:=go hk; exact ⟨.inl ⟨rfl,h1⟩,h2⟩
 | some g =>
  obtain ⟨j,want⟩:=g
  rw [hg] at hk
  simp only at hk ⊢
  cases hd:(ops[j]?).bind (·.dst) with
  | none=>rw [hd] at hk; exact ⟨.inr ⟨rfl,hk.1⟩,hk.2⟩
  | some t =>
   rw [hd] at hk
   simp only at hk ⊢
   cases hl:lk e t with
   | b x =>
    rw [hl] at hk
    rcases iM hk with ⟨h1,hA⟩ | ⟨h1,hB⟩
    ·obtain ⟨h3,h4⟩:=go hA; exact ⟨.inl ⟨by simp [h1],h3⟩,h4⟩
    ·exact ⟨.inr ⟨by subst h1; cases want <;> rfl,hB.1⟩,hB.2⟩
   | tu vs=>rw [hl] at hk; exact ⟨.inr ⟨rfl,hk.1⟩,hk.2⟩
   | _=>rw [hl] at hk; exact hk.elim
theorem e7 {ops : Array Oper} {i : Nat} {e : Env} {A : Prop} : ∀ {D : List Nat}, gJ P ops i e h A D → A ∧ ∀ k ∈ D, ∀ o, ops[k]? = some o → iR P o = true → fQ P o = false → kU ops i k = false → j6 P ops o e h
 | [],hk=>⟨hk,fun _ h=>by cases h⟩
 | k :: D, hk => by
  unfold gJ at hk
  cases ho:ops[k]? with
  | none =>
   rw [ho] at hk
   obtain ⟨h1,h2⟩:=e7 hk
   refine ⟨h1,fun k' hm o ho'=>?_⟩
   rcases List.mem_cons.1 hm with rfl | hm
   ·rw [ho] at ho'; cases ho'
   ·exact h2 k' hm o ho'
  | some o =>
   rw [ho] at hk
   simp only at hk
   cases hc:iR P o && !fQ P o && !kU ops i k with
   | true =>
    rw [hc] at hk
    obtain ⟨h0,hk⟩:=uX hk
    obtain ⟨h1,h2⟩:=e7 hk
    refine ⟨h1,fun k' hm o' ho'=>?_⟩
    rcases List.mem_cons.1 hm with rfl | hm
    ·rw [ho] at ho'; injection ho' with ho'; subst ho'; exact fun _ _ _=>h0
    ·exact h2 k' hm o' ho'
   | false =>
    rw [hc] at hk
    obtain ⟨h1,h2⟩:=e7 hk
    refine ⟨h1,fun k' hm o' ho'=>?_⟩
    rcases List.mem_cons.1 hm with rfl | hm
    ·rw [ho] at ho'; injection ho' with ho'; subst ho'
     intro g1 g2 g3
     rw [g1,g2,g3] at hc
     cases hc
    ·exact h2 k' hm o' ho'
end
end Go.GAM
namespace Go.GAM
section
variable {ds:List Deferred} {rd:Option Nat} {P:Program} {w0:World} {Fz:Nat→Prop} {nt:Nat} {ops:Array Oper}
def fS (ops:Array Oper):List Nat→Prop
 | []=>True
 | k :: D=>(∃ o,ops[k]? = some o∧∀ ed∈o.after,Region.binds .any ed=true→ed.on∈D)∧fS ops D
structure eF (ds:List Deferred) (P:Program) (w0:World) (Fz:Nat→Prop) (nt:Nat) (ops:Array Oper) (μ0:Mu) (listed:Array Bool) (a:Act) (w:World) (μ:Mu) (own:Nat→Option Nat) (e:Env) (h:aA) (D U:List Nat):Prop where
 rel:Rel w0 Fz μ own h w
 sub:Sub μ0 μ
 env:iD ds μ nt (fun t=>∃ k∈U,lY ops k=some t) e a
 size:listed.size=ops.size
 list:∀ j,j<ops.size→(listed.getD j false=true↔(j∈D∧j ∉ U))
 inD:∀ k∈U,k∈D
 pend:∀ k∈U, ∃ o,ops[k]? = some o∧iB nt o=true∧fQ P o=false∧j6 P ops o e h
 apart:∀ k∈U, ∀ j∈U,iA ops j k=true→fZ ops k j=true
 ordd:fS ops D
 closed:∀ j k,listed.getD j false=true→fZ ops j k=true→listed.getD k false=true
theorem rE {T : Nat → Prop} (hT : ∀ x j, T x → fZ ops x j = true → T j) : ∀ (n : Nat) (s : List Nat), (∀ x ∈ s, T x) → ∀ x ∈ aEP ops n s, T x
 | 0,s,hs,x,hx=>hs x hx
 | j + 1, s, hs, x, hx => by
  unfold aEP at hx
  refine rE hT j _ (fun y hy=>?_) x hx
  cases hb:s.any (fun x=>Region.waitsFor .any ops x j) with
  | true =>
   rw [hb] at hy
   rcases List.mem_cons.1 hy with rfl | hy
   ·obtain ⟨z, hz, hw⟩ := List.any_eq_true.1 hb
    exact hT z _ (hs z hz) hw
   ·exact hs y hy
  | false=>rw [hb] at hy; exact hs y hy
theorem kG {listed:Array Bool} {i k:Nat} (h:listed.getD k false=true):(listed.setIfInBounds i true).getD k false=true:=by
 by_cases hik:i=k
 ·subst hik
  by_cases hs:i<listed.size
  ·simp [hs]
  ·have : listed.getD i false = false := by simp [hs]
   rw [this] at h; cases h
 ·rw [getD_set_ne false hik]; exact h
theorem dZ {listed:Array Bool} {x k:Nat} (hr:x∈Region.ready .any ops listed) (hw:fZ ops x k=true):listed.getD k false=true:=by
 obtain ⟨_,o,ho,hall⟩:=mem_ready.1 hr
 obtain ⟨o',ho',e,he,hb,rfl⟩:=Region.waitsFor_spec hw
 rw [ho] at ho'
 injection ho' with ho'
 subst ho'
 exact hall e he hb
theorem gT {listed:Array Bool} {x:Nat} (hr:x∈Region.ready .any ops listed):x<ops.size:=by
 obtain ⟨_,o,ho,_⟩:=mem_ready.1 hr
 exact (Array.getElem?_eq_some_iff.1 ho).1
theorem uY {x y:Nat} {o o':Oper} (ho:ops[x]? = some o) (ho':ops[y]? = some o') {d:Nat} (hd:o.dst=some d) (hm:d∈o'.looksAt ops):iA ops x y=true:=by
 unfold iA lY aBI
 simp [ho,ho',hd,hm]
theorem mQ {x y:Nat} {o o':Oper} (ho:ops[x]? = some o) (ho':ops[y]? = some o') (hc:iA ops x y=false) {t:Nat} (ht:t∈o'.looksAt ops):o.dst≠some t:=by
 intro hd
 rw [uY ho ho' hd ht] at hc
 cases hc
theorem nR {x y:Nat} {o o':Oper} (ho:ops[x]? = some o) (ho':ops[y]? = some o') (hc:j1 ops x y=false) {t:Nat} (ht:o'.dst=some t):o.dst≠some t:=by
 intro hd
 unfold j1 lY at hc
 simp [ho,ho',hd,ht] at hc
variable {μ0:Mu} {listed:Array Bool} {a:Act} {w:World} {μ:Mu} {own:Nat→Option Nat} {e:Env} {h:aA} {D U:List Nat}
theorem kC {listed:Array Bool} {i:Nat} (h:i<listed.size):(listed.setIfInBounds i true).getD i false=true:=by simp [h]
theorem eF.unlisted (J:eF ds P w0 Fz nt ops μ0 listed a w μ own e h D U) {k:Nat} (hk:k∈U):listed.getD k false=false:=by
 obtain ⟨o,ho,_⟩:=J.pend k hk
 cases hl:listed.getD k false with
 | false=>rfl
 | true=>exact absurd hk ((J.list k (Array.getElem?_eq_some_iff.1 ho).1).1 hl).2
theorem eF.seen (J:eF ds P w0 Fz nt ops μ0 listed a w μ own e h D U) {x:Nat} {o:Oper} (ho:ops[x]? = some o) (hr:x∈Region.ready .any ops listed)
  (hc:∀ j∈U,iA ops j x=true→fZ ops x j=true):bD ds μ nt (restr (o.looksAt ops) e) a:=by
 refine J.env.restr fun t ht ⟨k,hk,hd⟩=>?_
 unfold lY at hd
 obtain ⟨ok,hok,hd⟩:=Option.bind_eq_some_iff.1 hd
 have h1:=dZ hr (hc k hk (uY hok ho hd ht))
 rw [J.unlisted hk] at h1
 cases h1
theorem eF.closed_set (J:eF ds P w0 Fz nt ops μ0 listed a w μ own e h D U) {x:Nat} (hr:x∈Region.ready .any ops listed):∀ j k,(listed.setIfInBounds x true).getD j false=true→fZ ops j k=true→(listed.setIfInBounds x true).getD k false=true:=by
 intro j k hj hw
 by_cases hjx:j=x
 ·subst hjx; exact kG (dZ hr hw)
 ·rw [getD_set_ne false (Ne.symm hjx)] at hj
  exact kG (J.closed j k hj hw)
theorem eF.take {R : aS} {μb : Mu} (hR : b6 P w0 Fz μb R) (hsb : Sub μb μ0) (J : eF ds P w0 Fz nt ops μ0 listed a w μ own e h D U) {x : Nat} (hx : x ∈ U) (hr : x ∈ Region.ready .any ops listed)
  {next:Act→World→Prop} {Q:Exit→Act→World→Prop}
  (hn:∀ a' w' μ' own',eF ds P w0 Fz nt ops μ0 (listed.setIfInBounds x true) a' w' μ' own' e h D (U.filter (· != x))→next a' w'):wpOpIn (FR rd) 0 P ops Q x next a w:=by
 obtain ⟨o,ho,hd,hne,hp⟩:=J.pend x hx
 have hE:=J.seen ho hr (J.apart x hx)
 have hxs:=gT hr
 have key:∀ cv μ' own' w',Rel w0 Fz μ' own' h w'→Sub μ μ'→(∀ d,o.dst=some d→aL μ' (lk e d) cv) →
   eF ds P w0 Fz nt ops μ0 (listed.setIfInBounds x true) (a.put o.dst cv) w' μ' own' e h D (U.filter (· != x)):=by
  intro cv μ' own' w' g1 g2 g3
  have hmem:∀ k,k∈U.filter (· != x)↔k∈U∧k≠x:=by intro k; simp
  refine ⟨g1,J.sub.trans g2, ?_,by simp [J.size],fun j hj=>?_,fun k hk=>J.inD k ((hmem k).1 hk).1,fun k hk=>?_,fun k hk j hj=>J.apart k ((hmem k).1 hk).1 j ((hmem j).1 hj).1,J.ordd,J.closed_set hr⟩
  ·refine (J.env.mono g2).put hd fun t ht => ?_
   by_cases hdt:o.dst=some t
   ·exact .inl ⟨t,hdt,rfl,g3 t hdt⟩
   ·refine .inr ⟨hdt, fun ⟨k, hk, hkd⟩ => ?_, rfl⟩
    by_cases hkx:k=x
    ·subst hkx
     unfold lY at hkd
     rw [ho] at hkd
     exact hdt hkd
    ·exact ht ⟨k,(hmem k).2 ⟨hk,hkx⟩,hkd⟩
  ·by_cases hjx : j = x
   ·subst hjx
    rw [kC (by rw [J.size]; exact hxs)]
    simp only [true_iff]
    exact ⟨J.inD j hx,fun hm=>((hmem j).1 hm).2 rfl⟩
   ·rw [getD_set_ne false (Ne.symm hjx), J.list j hj, hmem]
    exact ⟨fun ⟨h1,h2⟩=>⟨h1,fun h3=>h2 h3.1⟩,fun ⟨h1,h2⟩=>⟨h1,fun h3=>h2 ⟨h3,hjx⟩⟩⟩
  ·exact J.pend k ((hmem k).1 hk).1
 unfold wpOpIn
 simp only [ho]
 rcases hp with ⟨hw,hk⟩ | ⟨hw,hs⟩
 ·rw [if_pos (fT hE hw)]
  refine sY hR (hsb.trans J.sub) J.rel hE (K:=fun v h'=>h'=h∧cI P o v fun v=>cW e o.dst v) ?_ fun v cv μ' own' h' w' h1 h2 h3 h4=>?_
  ·unfold aop
   rw [hne]
   simp only [cond_false]
   obtain ⟨v,h1,h2⟩:=lW hk
   exact h2 (fun v=>True∧cI P o v fun v=>cW e o.dst v) ⟨trivial,h1⟩
  ·obtain ⟨rfl, h1⟩ := h1
   have h1:=eX h2 h1
   refine hn _ _ _ _ (key cv μ' own' w' h3 h4 fun d hd'=>?_)
   simp only [cW,hd'] at h1
   rw [h1]; exact h2
 ·rw [if_neg (by simp [fT hE hw])]
  refine ⟨fun _ _=>trivial, ?_⟩
  refine hn _ _ _ _ (key undef μ own w J.rel (Sub.refl _) fun d hd'=>?_)
  simp only [cW,hd'] at hs
  rw [hs]; exact .tu [] #[] .nil
theorem mE {eff:Bool} {x:Nat} (hf:nZ ops eff D x=true) :
  (∀ j∈D,(iA ops j x=true→fZ ops x j=true)∧((iA ops x j=false∧j1 ops x j=false)∨(eff=true∧fZ ops x j=true))) ∧
  (∃ o,ops[x]? = some o∧∀ ed∈o.after,Region.binds .any ed=true→ed.on∈D)∧x ∉ D∧(eff=false→iA ops x x=false):=by
 unfold nZ at hf
 simp only [Bool.and_eq_true,List.all_eq_true,Bool.or_eq_true,Bool.not_eq_true',Bool.not_eq_eq_eq_not,Bool.not_true] at hf
 obtain ⟨⟨⟨h1,h2⟩,h3⟩,h4⟩:=hf
 refine ⟨fun j hj=>⟨fun hc=>?_, ?_⟩, ?_, ?_, ?_⟩
 ·rcases (h1 j hj).1 with h | h
  ·rw [h] at hc; cases hc
  ·exact h
 ·exact (h1 j hj).2
 ·cases ho : ops[x]? with
  | none=>rw [ho] at h2; cases h2
  | some o =>
   rw [ho] at h2
   refine ⟨o,rfl,fun ed he hb=>?_⟩
   simp only [Array.all_eq_true_iff_forall_mem,Bool.or_eq_true,Bool.not_eq_true'] at h2
   rcases h2 ed he with h | h
   ·rw [h] at hb; cases hb
   ·simpa using h
 ·simpa using h3
 ·intro he
  rcases h4 with h | h
  ·rw [h] at he; cases he
  ·exact h
theorem eF.neu (J : eF ds P w0 Fz nt ops μ0 listed a w μ own e h D U) {x : Nat} {o : Oper} (ho : ops[x]? = some o) (hf : nZ ops false D x = true) (hd : iB nt o = true) (hne : fQ P o = false)
  {e1:Env} (he1:∀ t,lk e1 t=lk e t) {v:AV} (hp:(gP ops o e=some true∧∀ K':AV→Prop,K' v→bK P o (restr (o.looksAt ops) e1) h fun v=>cI P o v K')∨(gP ops o e=some false∧v = .tu [])) :
  eF ds P w0 Fz nt ops μ0 listed a w μ own (put e1 o.dst v) h (x :: D) (x :: U):=by
 obtain ⟨hD,hE,hxD,hxx⟩:=mE hf
 have hxx:=hxx rfl
 have hl:∀ t,o.dst≠some t→lk (put e1 o.dst v) t=lk e t:=fun t ht=>by rw [jS,if_neg ht,he1]
 have hfree:∀ j∈D,iA ops x j=false∧j1 ops x j=false:=fun j hj=>((hD j hj).2).resolve_right (by simp)
 refine ⟨J.rel,J.sub, ?_,J.size,fun j hj=>?_,fun k hk=>?_,fun k hk=>?_,fun k hk j hj hc=>?_,⟨hE,J.ordd⟩,J.closed⟩
 ·refine ⟨J.env.1, J.env.2, fun t ht => ?_⟩
  have h1:o.dst≠some t:=fun hd=>ht ⟨x,by simp,by unfold lY; rw [ho]; exact hd⟩
  rw [hl t h1]
  exact J.env.3 t fun ⟨k,hk,hkd⟩=>ht ⟨k,by simp [hk],hkd⟩
 ·rw [J.list j hj]
  by_cases hjx:j=x
  ·subst hjx; simp [hxD]
  ·simp [hjx]
 ·rcases List.mem_cons.1 hk with rfl | hk
  ·simp
  ·exact List.mem_cons_of_mem _ (J.inD k hk)
 ·rcases List.mem_cons.1 hk with rfl | hk
  ·refine ⟨o, ho, hd, hne, ?_⟩
   have hs:cW (put e1 o.dst v) o.dst v:=by
    unfold cW
    cases hd':o.dst with
    | none=>trivial
    | some d=>simp only [jS,if_true]
   have hlk:∀ t∈o.looksAt ops,lk (put e1 o.dst v) t=lk e1 t:=fun t ht=>by rw [jS,if_neg (mQ ho ho hxx ht)]
   have hlk2:∀ t∈o.looksAt ops,lk (put e1 o.dst v) t=lk e t:=fun t ht=>by rw [hlk t ht,he1]
   unfold j6
   rw [nD hlk2,jH hlk]
   rcases hp with ⟨h1,h2⟩ | ⟨h1,h2⟩
   ·exact .inl ⟨h1,h2 _ hs⟩
   ·exact .inr ⟨h1,h2 ▸ hs⟩
  ·obtain ⟨ok, hok, h1, h2, h3⟩ := J.pend k hk
   have hf:=hfree k (J.inD k hk)
   exact ⟨ok,hok,h1,h2,h3.congr (fun t ht=>(hl t (mQ ho hok hf.1 ht)).symm) fun d hd=>(hl d (nR ho hok hf.2 hd)).symm⟩
 ·rcases List.mem_cons.1 hk with hkx | hk'
  ·rcases List.mem_cons.1 hj with hjx | hj'
   ·rw [hkx,hjx,hxx] at hc; cases hc
   ·rw [hkx] at hc ⊢; exact (hD j (J.inD j hj')).1 hc
  ·rcases List.mem_cons.1 hj with hjx | hj'
   ·rw [hjx,(hfree k (J.inD k hk')).1] at hc; cases hc
   ·exact J.apart k hk' j hj' hc
end
end Go.GAM
namespace Go.GAM
section
variable {ds:List Deferred} {rd:Option Nat} {P:Program} {w0:World} {Fz:Nat→Prop} {nt:Nat} {ops:Array Oper}
variable {μ0:Mu} {listed:Array Bool} {a:Act} {w:World} {μ:Mu} {own:Nat→Option Nat} {e:Env} {h:aA} {D U:List Nat}
theorem Rel.same (R:Rel w0 Fz μ own h w) {w':World} (hs:cX w w') (hsz:w.heap.size≤w'.heap.size) (h1:w'.os=w.os) (h2:w'.tape=w.tape) (h3:w'.output=w.output):Rel w0 Fz μ own h w':=
 R.step h1 h2 h3 hsz (fun B hB=>hs B (Nat.lt_of_lt_of_le (R.fz B hB).1 R.size0)) (fun B id hB=>Nat.lt_of_lt_of_le (R.ownlt B id hB) hsz) (Sub.refl _) R.mulen
  fun id b hb=>.inl ⟨hb,fun _=>rfl,fun B hB=>⟨hB,hs B (R.ownlt B id hB)⟩⟩
def y7 (P : Program) (R : aS) (nt : Nat) (ops : Array Oper) (i : Nat) (o : Oper) (r : Ord) (D : List Nat) (e : Env) (h : aA) (K : Env → aA → Prop) : Prop :=
 fM ops o e (fun e=>aop P R o (restr (o.looksAt ops) e) h fun v h'=>cI P o v fun v=>
   bif fQ P o then gJ P ops i (put e o.dst v) h' (fB P R nt ops r (i :: D) (put e o.dst v) h' K) D else fB P R nt ops r (i :: D) (put e o.dst v) h' K)
  (fun e=>fB P R nt ops r (i :: D) (put e o.dst (.tu [])) h K)
theorem eF.eff {R : aS} {μb : Mu} (hR : b6 P w0 Fz μb R) (hsb : Sub μb μ0) {K : Env → aA → Prop} (J : eF ds P w0 Fz nt ops μ0 listed a w μ own e h D U) {x : Nat} {o : Oper} {r : Ord} (ho : ops[x]? = some o) (hr : x ∈ Region.ready .any ops listed)
  (hf:nZ ops true D x=true) (hd:iB nt o=true) (hk:y7 P R nt ops x o r D e h K) {next:Act→World→Prop} {Q:Exit→Act→World→Prop}
  (hn:∀ a' w' μ' own' e' h',eF ds P w0 Fz nt ops μ0 (listed.setIfInBounds x true) a' w' μ' own' e' h' (x :: D) U→fB P R nt ops r (x :: D) e' h' K→next a' w'):wpOpIn (FR rd) 0 P ops Q x next a w:=by
 obtain ⟨hD,hEd,hxD,_⟩:=mE hf
 have hxs:=gT hr
 have hxU:x ∉ U:=fun hm=>hxD (J.inD x hm)
 have hE0:=J.seen ho hr fun j hj=>(hD j (J.inD j hj)).1
 obtain ⟨e1,he1,hk⟩:=lL hk
 have hre:restr (o.looksAt ops) e1=restr (o.looksAt ops) e:=jH fun t _=>he1 t
 have hl:∀ v t,o.dst≠some t→lk (put e1 o.dst v) t=lk e t:=fun v t ht=>by rw [jS,if_neg ht,he1]
 have hC : ∀ k ∈ U, kU ops x k = false := by
  intro k hk
  cases hw:kU ops x k with
  | false=>rfl
  | true =>
   exfalso
   unfold kU at hw
   rw [Bool.or_eq_true] at hw
   rcases hw with hw | hw
   ·have:=dZ hr hw; rw [J.unlisted hk] at this; cases this
   ·obtain ⟨y, hy, hb⟩ := List.any_eq_true.1 hw
    have hb:k=y:=Nat.eq_of_beq_eq_true hb
    subst hb
    have:=rE (T:=fun y=>y=x∨listed.getD y false=true) (fun z j hz hwz=>by
     rcases hz with rfl | hz
     ·exact .inr (dZ hr hwz)
     ·exact .inr (J.closed z j hz hwz)) x [x] (fun y hy=>.inl (by simpa using hy)) k hy
    rcases this with ex | this
    ·exact hxU (ex ▸ hk)
    ·rw [J.unlisted hk] at this; cases this
 have hfree:∀ k∈U,iA ops x k=false∧j1 ops x k=false∧fZ ops x k=false:=by
  intro k hk
  have hw:fZ ops x k=false:=by
   cases hw:fZ ops x k with
   | false=>rfl
   | true=>have:=dZ hr hw; rw [J.unlisted hk] at this; cases this
  rcases (hD k (J.inD k hk)).2 with ⟨h1,h2⟩ | ⟨_,h2⟩
  ·exact ⟨h1,h2,hw⟩
  ·rw [hw] at h2; cases h2
 have key:∀ v cv μ' own' h' w',Rel w0 Fz μ' own' h' w'→Sub μ μ'→aL μ' v cv→(∀ k∈U, ∀ ok,ops[k]? = some ok→fQ P ok=false→j6 P ops ok e h→j6 P ops ok (put e1 o.dst v) h') →
   eF ds P w0 Fz nt ops μ0 (listed.setIfInBounds x true) (a.put o.dst cv) w' μ' own' (put e1 o.dst v) h' (x :: D) U:=by
  intro v cv μ' own' h' w' g1 g2 g3 g4
  refine ⟨g1,J.sub.trans g2, ?_,by simp [J.size],fun j hj=>?_,fun k hk=>List.mem_cons_of_mem _ (J.inD k hk),fun k hk=>?_,J.apart,⟨hEd,J.ordd⟩,J.closed_set hr⟩
  ·refine (J.env.mono g2).put hd fun t ht => ?_
   by_cases hdt:o.dst=some t
   ·exact .inl ⟨t,hdt,rfl,by rw [jS,if_pos hdt]; exact g3⟩
   ·exact .inr ⟨hdt,ht,hl v t hdt⟩
  ·by_cases hjx : j = x
   ·subst hjx
    rw [kC (by rw [J.size]; exact hxs)]
    simp [hxU]
   ·rw [getD_set_ne false (Ne.symm hjx), J.list j hj]
    simp [hjx]
  ·obtain ⟨ok, hok, h1, h2, h3⟩ := J.pend k hk
   exact ⟨ok,hok,h1,h2,g4 k hk ok hok h2 h3⟩
 have same:∀ v k,k∈U→∀ ok,ops[k]? = some ok→∀ h',j6 P ops ok e h'→j6 P ops ok (put e1 o.dst v) h':=by
  intro v k hk ok hok h' hp
  have hf:=hfree k hk
  exact hp.congr (fun t ht=>(hl v t (mQ ho hok hf.1 ht)).symm) fun d hd=>(hl v d (nR ho hok hf.2.1 hd)).symm
 unfold wpOpIn
 simp only [ho]
 rcases hk with ⟨hw,hk⟩ | ⟨hw,hk⟩
 ·rw [if_pos (fT hE0 hw)]
  rw [hre] at hk
  cases hne:fQ P o with
  | false =>
   refine sY hR (hsb.trans J.sub) J.rel hE0 (K:=fun v h'=>h'=h∧cI P o v fun v=>fB P R nt ops r (x :: D) (put e1 o.dst v) h K) ?_ fun v cv μ' own' h' w' h1 h2 h3 h4=>?_
   ·unfold aop at hk ⊢
    rw [hne] at hk ⊢
    simp only [cond_false] at hk ⊢
    obtain ⟨v,h1,h2⟩:=lW hk
    exact h2 (fun v=>True∧cI P o v fun v=>fB P R nt ops r (x :: D) (put e1 o.dst v) h K) ⟨trivial,h1⟩
   ·obtain ⟨rfl, h1⟩ := h1
    have h1:=eX h2 h1
    exact hn _ _ _ _ _ _ (key v cv μ' own' _ w' h3 h4 h2 fun k hk ok hok hke hp=>same v k hk ok hok _ hp) h1
  | true =>
   refine sY hR (hsb.trans J.sub) J.rel hE0 hk fun v cv μ' own' h' w' h1 h2 h3 h4=>?_
   simp only [hne,cond_true] at h1
   have h1:=eX h2 h1
   obtain ⟨h1,hag⟩:=e7 h1
   refine hn _ _ _ _ _ _ (key v cv μ' own' h' w' h3 h4 h2 fun k hk ok hok hke hp=>?_) h1
   cases hrd:iR P ok with
   | true=>exact hag k (J.inD k hk) ok hok hrd hke (hC k hk)
   | false=>exact (same v k hk ok hok _ hp).heap hrd
 ·rw [if_neg (by simp [fT hE0 hw])]
  refine ⟨fun _ _=>trivial, ?_⟩
  exact hn _ _ _ _ _ _ (key (.tu []) undef μ own h w J.rel (Sub.refl _) (.tu [] #[] .nil) fun k hk ok hok hke hp=>same _ k hk ok hok _ hp) hk
end
end Go.GAM
namespace Go.GAM
section
variable {ds:List Deferred} {rd:Option Nat} {P:Program} {w0:World} {Fz:Nat→Prop} {nt:Nat} {ops:Array Oper}
variable {μ0:Mu} {listed:Array Bool} {a:Act} {w:World} {μ:Mu} {own:Nat→Option Nat} {e:Env} {h:aA} {D U:List Nat}
def unl (listed:Array Bool) (n:Nat):Nat:=((List.range n).filter fun j=>!listed.getD j true).length
theorem aDQ {n x:Nat} (hx:x<n) (hu:listed.getD x true=false) (hs:listed.size=n):unl (listed.setIfInBounds x true) n<unl listed n:=by
 unfold unl
 have h1:(List.range n).filter (fun j=>!(listed.setIfInBounds x true).getD j true)=((List.range n).filter fun j=>!listed.getD j true).filter (fun j=>decide (j≠x)):=by
  rw [List.filter_filter]
  refine List.filter_congr fun j hj=>?_
  by_cases hjx:x=j
  ·subst hjx
   have:(listed.setIfInBounds x true).getD x true=true:=by simp [hs,hx]
   rw [this]; simp
  ·rw [getD_set_ne true hjx]
   have:j≠x:=fun e=>hjx e.symm
   simp [this]
 rw [h1]
 refine List.length_filter_lt_length_iff_exists.2 ⟨x, ?_,by simp⟩
 rw [List.mem_filter]
 exact ⟨List.mem_range.2 hx,by rw [hu] <;> rfl⟩
theorem aDC {n x:Nat} (hx:x<n) (hu:listed.getD x true=false):0<unl listed n:=by
 unfold unl
 refine List.length_pos_of_mem (a:=x) ?_
 rw [List.mem_filter]
 exact ⟨List.mem_range.2 hx,by rw [hu] <;> rfl⟩
theorem fS.lt:∀ {D:List Nat},fS ops D→∀ k∈D,k<ops.size
 | k :: D, hO, k', hk => by
  rcases List.mem_cons.1 hk with rfl | hk
  ·obtain ⟨⟨o,ho,_⟩,_⟩:=hO; exact (Array.getElem?_eq_some_iff.1 ho).1
  ·exact fS.lt hO.2 k' hk
theorem fS.first:∀ {D:List Nat},fS ops D→(∃ k∈D,k∈U)→∃ k∈U, ∃ o,ops[k]? = some o∧∀ ed∈o.after,Region.binds .any ed=true→ed.on∈D∧ed.on ∉ U
 | [],_,⟨k,hk,_⟩=>by cases hk
 | k :: D, hO, hex => by
  by_cases hD:∃ k'∈D,k'∈U
  ·obtain ⟨k', hk', o, ho, hall⟩ := fS.first hO.2 hD
   exact ⟨k',hk',o,ho,fun ed he hb=>⟨List.mem_cons_of_mem _ (hall ed he hb).1,(hall ed he hb).2⟩⟩
  ·obtain ⟨⟨o, ho, hall⟩, _⟩ := hO
   obtain ⟨k',hk',hu⟩:=hex
   rcases List.mem_cons.1 hk' with rfl | hk'
   ·exact ⟨k',hu,o,ho,fun ed he hb=>⟨List.mem_cons_of_mem _ (hall ed he hb),fun hm=>hD ⟨_,hall ed he hb,hm⟩⟩⟩
   ·exact absurd ⟨k',hk',hu⟩ hD
theorem eF.getD (J:eF ds P w0 Fz nt ops μ0 listed a w μ own e h D U) {x:Nat} (hx:x<ops.size) (hl:listed.getD x false=false):listed.getD x true=false:=
 getD_in (by rw [J.size]; exact hx) hl
theorem eF.some_ready (J:eF ds P w0 Fz nt ops μ0 listed a w μ own e h D U) (hU:∃ k,k∈U):Region.ready .any ops listed≠[]:=by
 obtain ⟨k,hk⟩:=hU
 obtain ⟨k,hk,o,ho,hall⟩:=J.ordd.first ⟨k,J.inD k hk,hk⟩
 have hlt:=(Array.getElem?_eq_some_iff.1 ho).1
 have:k∈Region.ready .any ops listed:=mem_ready.2 ⟨J.getD hlt (J.unlisted hk),o,ho,fun ed he hb=>by
  have h1:=hall ed he hb
  exact (J.list _ (J.ordd.lt _ h1.1)).2 h1⟩
 intro h0; rw [h0] at this; cases this
theorem eF.head_ready (J:eF ds P w0 Fz nt ops μ0 listed a w μ own e h D []) {x:Nat} (hf:nZ ops true D x=true):x∈Region.ready .any ops listed:=by
 obtain ⟨_,⟨o,ho,hall⟩,hxD,_⟩:=mE hf
 have hlt:=(Array.getElem?_eq_some_iff.1 ho).1
 refine mem_ready.2 ⟨J.getD hlt ?_,o,ho,fun ed he hb=>?_⟩
 ·cases hl : listed.getD x false with
  | false=>rfl
  | true=>exact absurd ((J.list x hlt).1 hl).1 hxD
 ·exact (J.list _ (J.ordd.lt _ (hall ed he hb))).2 ⟨hall ed he hb,by simp⟩
section
variable (ds rd P w0 Fz nt ops μ0)
def aCZ (R : aS) (K : Env → aA → Prop) (Q : Exit → Act → World → Prop) (ord : Ord) : Prop :=
 ∀ (fuel : Nat) (listed : Array Bool) (a : Act) (w : World) (μ : Mu) (own : Nat → Option Nat) (e : Env) (h : aA) (D U : List Nat), eF ds P w0 Fz nt ops μ0 listed a w μ own e h D U → fP ops true ord D = true →
  fB P R nt ops ord D e h K→unl listed ops.size≤fuel→wpAnyIn (FR rd) 0 P .any ops Q fuel listed a w
def aCS (R : aS) (K : Env → aA → Prop) (Q : Exit → Act → World → Prop) (ord : Ord) : Prop :=
 ∀ (b : Bool) (D : List Nat) (e : Env) (h : aA) (x : Nat), x ∈ rL ord → fP ops b ord D = true → fB P R nt ops ord D e h K →
  ∃ o r,ops[x]? = some o∧aCZ ds rd P w0 Fz nt ops μ0 R K Q r∧nZ ops true D x=true∧iB nt o=true∧fP ops true r (x :: D)=true∧y7 P R nt ops x o r D e h K
end
theorem uN {R : aS} {μb : Mu} (hR : b6 P w0 Fz μb R) (hsb : Sub μb μ0) {K : Env → aA → Prop} {Q : Exit → Act → World → Prop} {e : Env} {h : aA} {D : List Nat}
  (hnode:∀ listed a w μ own U,eF ds P w0 Fz nt ops μ0 listed a w μ own e h D U→Region.ready .any ops listed=[]→Q .normal a w)
  (hhead:∀ listed a w μ own U,eF ds P w0 Fz nt ops μ0 listed a w μ own e h D U→∀ x∈Region.ready .any ops listed,x ∉ U →
   ∃ o r,ops[x]? = some o∧aCZ ds rd P w0 Fz nt ops μ0 R K Q r∧nZ ops true D x=true∧iB nt o=true∧fP ops true r (x :: D)=true∧y7 P R nt ops x o r D e h K) :
  ∀ (fuel:Nat) (listed:Array Bool) (a:Act) (w:World) (μ:Mu) (own:Nat→Option Nat) (U:List Nat),eF ds P w0 Fz nt ops μ0 listed a w μ own e h D U→unl listed ops.size≤fuel→wpAnyIn (FR rd) 0 P .any ops Q fuel listed a w:=by
 intro fuel
 induction fuel with
 | zero =>
  intro listed a w μ own U J hu
  have h0:Region.ready .any ops listed=[]:=by
   cases hr:Region.ready .any ops listed with
   | nil=>rfl
   | cons x l =>
    have hx:x∈Region.ready .any ops listed:=by rw [hr]; simp
    have:=aDC (gT hx) (mem_ready.1 hx).1
    omega
  exact ⟨h0,hnode _ _ _ _ _ _ J h0⟩
 | succ fuel ih =>
  intro listed a w μ own U J hu
  refine ⟨hnode _ _ _ _ _ _ J,fun x hx=>?_⟩
  have hlt:=aDQ (gT hx) (mem_ready.1 hx).1 J.size
  by_cases hxU:x∈U
  ·exact J.take hR hsb hxU hx fun a' w' μ' own' J'=>ih _ _ _ _ _ _ J' (by omega)
  ·obtain ⟨o, r, ho, hG, hf, hd, hok, hk⟩ := hhead _ _ _ _ _ _ J x hx hxU
   exact J.eff hR hsb ho hx hf hd hk fun a' w' μ' own' e' h' J' hk'=>hG fuel _ _ _ _ _ _ _ _ _ J' hok hk' (by omega)
theorem aCP {R : aS} {μb : Mu} (hR : b6 P w0 Fz μb R) (hsb : Sub μb μ0) {K : Env → aA → Prop} {Q : Exit → Act → World → Prop}
  (hQ:∀ e h a w μ own,K e h→Rel w0 Fz μ own h w→bD ds μ nt e a→Sub μ0 μ→Q .normal a w) :
  ∀ ord:Ord,aCZ ds rd P w0 Fz nt ops μ0 R K Q ord∧aCS ds rd P w0 Fz nt ops μ0 R K Q ord:=by
 intro ord
 induction ord with
 | stop =>
  refine ⟨fun fuel listed a w μ own e h D U J hok=>?_,fun b D e h x hx=>by cases hx⟩
  simp [fP] at hok
 | done =>
  refine ⟨fun fuel listed a w μ own e h D U J hok hk hu=>?_,fun b D e h x hx=>by cases hx⟩
  simp only [fP,List.all_eq_true,List.mem_range] at hok
  have hall:∀ j<ops.size,j∈D:=fun j hj=>by simpa using hok j hj
  refine uN hR hsb (K:=K) (fun listed a w μ own U J h0=>?_) (fun listed a w μ own U J x hx hxU=>?_) fuel listed a w μ own U J hu
  ·have hU : ¬ ∃ k, k ∈ U := fun h1 => J.some_ready h1 h0
   refine hQ e h a w μ own hk J.rel ⟨J.env.1,J.env.2,fun t=>J.env.3 t fun ⟨k,hk,_⟩=>hU ⟨k,hk⟩⟩ J.sub
  ·have hlt := gT hx
   have h1:=(J.list x hlt).2 ⟨hall x hlt,hxU⟩
   have h2:=getD_both (mem_ready.1 hx).1
   rw [h1] at h2; cases h2
 | neu i r ih =>
  refine ⟨fun fuel listed a w μ own e h D U J hok hk hu=>?_,fun b D e h x hx=>by cases hx⟩
  simp only [fP,Bool.true_and,Bool.and_eq_true] at hok
  obtain ⟨hf,hok⟩:=hok
  unfold fB at hk
  cases ho:ops[i]? with
  | none=>rw [ho] at hk; exact hk.elim
  | some o =>
   rw [ho] at hk
   obtain ⟨hd,hk⟩:=aG hk
   simp only [Bool.and_eq_true,Bool.not_eq_true'] at hd
   obtain ⟨e1,he1,hk⟩:=lL hk
   rcases hk with ⟨hw,hk⟩ | ⟨hw,hk⟩
   ·obtain ⟨v, h1, h2⟩ := lW hk
    obtain ⟨v',h3,h4⟩:=pY h1
    exact ih.1 fuel _ _ _ _ _ _ _ _ _ (J.neu ho hf hd.1 hd.2 he1 (v:=v') (.inl ⟨hw,fun K' hK'=>h2 _ (h4 _ hK')⟩)) hok h3 hu
   ·exact ih.1 fuel _ _ _ _ _ _ _ _ _ (J.neu ho hf hd.1 hd.2 he1 (v:=.tu []) (.inr ⟨hw,rfl⟩)) hok hk hu
 | eff i r alt ihr iha =>
  have HH:aCS ds rd P w0 Fz nt ops μ0 R K Q (.eff i r alt):=by
   intro b D e h x hx hok hk
   simp only [fP,Bool.and_eq_true] at hok
   obtain ⟨⟨⟨_,hf⟩,hr⟩,ha⟩:=hok
   unfold fB at hk
   cases ho:ops[i]? with
   | none=>rw [ho] at hk; exact hk.elim
   | some o =>
    rw [ho] at hk
    obtain ⟨hd,hk⟩:=aG hk
    have hk':y7 P R nt ops i o r D e h K∧(alt.isStop=false→fB P R nt ops alt D e h K):=by
     cases hs:alt.isStop with
     | true=>rw [hs] at hk; exact ⟨hk,fun h=>by cases h⟩
     | false=>rw [hs] at hk; exact ⟨hk.1,fun _=>hk.2⟩
    simp only [rL,List.mem_cons] at hx
    rcases hx with rfl | hx
    ·exact ⟨o,r,ho,ihr.1,hf,hd,hr,hk'.1⟩
    ·refine iha.2 false D e h x hx ha (hk'.2 ?_)
     cases alt <;> first | rfl | (simp [rL] at hx)
  refine ⟨fun fuel listed a w μ own e h D U J hok hk hu=>?_,HH⟩
  have hok0:=hok
  simp only [fP,Bool.and_eq_true,Bool.not_true,Bool.false_or] at hok
  obtain ⟨⟨⟨hB,hf⟩,hr⟩,ha⟩:=hok
  refine uN hR hsb (K:=K) (fun listed a w μ own U J h0=>?_) (fun listed a w μ own U J x hx hxU=>?_) fuel listed a w μ own U J hu
  ·exfalso
   have hU:¬ ∃ k,k∈U:=fun h1=>J.some_ready h1 h0
   have:U=[]:=by
    cases U with
    | nil=>rfl
    | cons k U=>exact absurd ⟨k,by simp⟩ hU
   subst this
   have:=J.head_ready hf
   rw [h0] at this; cases this
  ·refine HH true D e h x ?_ hok0 hk
   have hlt:=gT hx
   simp only [aE6,List.all_eq_true,List.mem_range,Bool.or_eq_true,List.any_eq_true,Bool.and_eq_true,Bool.not_eq_true'] at hB
   rcases hB x hlt with (h1 | h1) | ⟨j,hj,h1,h2⟩
   ·have hxD : x ∈ D := by simpa using h1
    have h1:=(J.list x hlt).2 ⟨hxD,hxU⟩
    have h2:=getD_both (mem_ready.1 hx).1
    rw [h1] at h2; cases h2
   ·simpa [rL] using h1
   ·have h3 := dZ hx h1
    have:=((J.list j hj).1 h3).1
    simp [this] at h2
theorem wQ {R:aS} (hm:P.follows .mixedOrders=true) {μb:Mu} (hR:b6 P w0 Fz μb R) (hsb:Sub μb μ) {K:Env→aA→Prop} {Q:Exit→Act→World→Prop} {id:Nat} {ord:Ord} (Rl:Rel w0 Fz μ own h w) (hE:bD ds μ nt e a)
  (hok:fP ops true ord []=true) (hk:fB P R nt ops ord [] e h K)
  (hQ:∀ e' h' a' w' μ' own',K e' h'→Rel w0 Fz μ' own' h' w'→bD ds μ' nt e' a'→Sub μ μ'→Q .normal a' w'):(Code.region id ops true).wpIn (FR rd) 0 P Q a w:=by
 refine wpIn_region_any hm ((aCP hR (μ0:=μ) hsb hQ ord).1 ops.size _ _ _ μ own e h [] [] ?_ hok hk ?_)
 ·refine ⟨Rl.same (fun _ _ => rfl) (Nat.le_refl _) rfl rfl rfl, Sub.refl _, ⟨hE.1, hE.2, fun t _ => hE.3 t⟩, by simp, fun j hj => ?_, by simp, by simp, by simp, trivial, fun j k hj _ => by rw [getD_replicate_false] at hj; cases hj⟩
  rw [getD_replicate_false]; simp
 ·unfold unl
  exact Nat.le_trans (List.length_filter_le _ _) (by simp)
end
end Go.GAM
namespace Go.GAM
section
variable {ds:List Deferred} {rd:Option Nat} {P:Program} {w0:World} {Fz:Nat→Prop} {μ:Mu} {own:Nat→Option Nat} {h:aA} {w:World}
def QK (ds:List Deferred) (w0:World) (Fz:Nat→Prop) (nt:Nat) (μ:Mu) (K:Kx):Exit→Act→World→Prop:=
 fun x a' w'=>∃ e' h' μ' own',K x e' h'∧Rel w0 Fz μ' own' h' w'∧bD ds μ' nt e' a'∧Sub μ μ'
theorem tE {R:aS} {μb:Mu} (hR:b6 P w0 Fz μb R) {nt:Nat} {ops:Array Oper} {K:Env→aA→Prop} {Q:Exit→Act→World→Prop}:∀ (l:List Oper) (μ:Mu) (own:Nat→Option Nat) (e:Env) (h:aA) (a:Act) (w:World),
  Sub μb μ→Rel w0 Fz μ own h w→bD ds μ nt e a→uA P R nt ops l e h K →
  (∀ e' h' a' w' μ' own',K e' h'→Rel w0 Fz μ' own' h' w'→bD ds μ' nt e' a'→Sub μ μ'→Q .normal a' w')→wpListIn (FR rd) 0 P ops Q l a w
 | [],μ,own,e,h,a,w,hsb,Rl,hE,hk,hQ=>hQ e h a w μ own hk Rl hE (Sub.refl _)
 | o :: l, μ, own, e, h, a, w, hsb, Rl, hE, hk, hQ => by
  obtain ⟨hd,hk⟩:=aG hk
  unfold wpListIn
  rcases sO hE hk with ⟨hw,e,hE,hk⟩ | ⟨hw,e,hE,hk⟩
  ·rw [if_pos hw]
   refine sY hR hsb Rl hE hk fun v cv μ' own' h' w' h1 h2 h3 h4=>?_
   have h1:=eX h2 h1
   exact tE hR l μ' own' _ h' _ w' (hsb.trans h4) h3 ((hE.mono h4).put hd h2) h1 fun e2 h2 a2 w2 μ2 own2 g1 g2 g3 g4=>hQ e2 h2 a2 w2 μ2 own2 g1 g2 g3 (h4.trans g4)
  ·rw [if_neg (by simp [hw])]
   exact ⟨fun _ _=>trivial,tE hR l μ own _ h _ w hsb Rl (hE.put hd (.tu [] #[] .nil)) hk hQ⟩
theorem dC {b:Frame} {a:Act} {k:List Item} {cs:List Frame} {w:World} {c:Code}:step P (lone (b.atR a (.code (.scope c) :: k)) cs w) = .next (lone (b.atR a (.code c :: .inScope c :: k)) cs w):=
 step_lone_go (by simp [stepG,stepG.exec,Frame.atR])
theorem kF {b:Frame} {a:Act} {k:List Item} {cs:List Frame} {w:World} {c:Code}:step P (lone (b.atR a (.inScope c :: k)) cs w) = .next (lone (b.atR a k) cs w):=
 step_lone_go (by simp [stepG,stepG.exec,Frame.atR])
theorem xJ {F:Fence} {n:Nat} {c:Code} {a:Act} {w:World} {Q:Exit→Act→World→Prop} (h:c.wpIn F n P (Exit.noGoto Q) a w):(Code.scope c).wpIn F n P Q a w:=by
 intro b k cs hro hb hr
 have h0:(lone (b.atR a (.code (.scope c) :: k)) cs w).fenced P F:=fenced_calm hb hr rfl
 obtain ⟨e,a₁,w₁,hq,harr⟩:=h b (.inScope c :: k) cs hro hb hr
 cases e with
 | normal=>exact ⟨.normal,a₁,w₁,hq,.head h0 dC (StepsIn.trans harr (.one (fenced_calm hb hr rfl) kF))⟩
 | exit id =>
  have hx:exitTo id (.inScope c :: k)=exitTo id k:=by simp [exitTo]
  exact ⟨_,a₁,w₁,hq,fun k' hk=>.head h0 dC (harr.1 k' (by rw [hx]; exact hk)),
   fun hr' hk=>let ⟨k₁,h1,h2⟩:=harr.2 hr' (by rw [hx]; exact hk); ⟨k₁,h1,.head h0 dC h2⟩⟩
 | goto l=>exact hq.elim
 | ret=>exact ⟨_,a₁,w₁,hq,.of_steps (.one h0 dC) harr⟩
 | panic ch=>exact ⟨_,a₁,w₁,hq,.of_steps (.one h0 dC) harr⟩
 | outgrown=>exact ⟨_,a₁,w₁,hq,.of_steps (.one h0 dC) harr⟩
theorem rD:∀ (c:Code) (l:Nat),lQ c l=(findLabel c l).isSome:=by
 intro c
 induction c with
 | seq a b iha ihb =>
  intro l
  simp only [lQ,findLabel,iha,ihb]
  cases findLabel a l <;> simp
 | label l' =>
  intro l
  simp only [lQ,findLabel]
  by_cases h:l'=l
  ·subst h; simp
  ·rw [tD h]; simp [h]
 | _=>intro l; simp [lQ,findLabel]
theorem zK {R : aS} (hm : P.follows .mixedOrders = true) {μb : Mu} (hR : b6 P w0 Fz μb R) {nt : Nat} : ∀ (c : Code),
    (∀ (ann:Ann) (μ:Mu) (own:Nat→Option Nat) (e:Env) (h:aA) (K:Kx) (a:Act) (w:World),
      Sub μb μ→Rel w0 Fz μ own h w→bD ds μ nt e a→bX P R nt ann c e h K→c.wpIn (FR rd) 0 P (QK ds w0 Fz nt μ K) a w) ∧
    (∀ (l:Nat) (rest:Code) (ann:Ann) (μ:Mu) (own:Nat→Option Nat) (e:Env) (h:aA) (K:Kx) (a:Act) (w:World),findLabel c l=some rest →
      Sub μb μ→Rel w0 Fz μ own h w→bD ds μ nt e a→aFrom P R nt ann c l e h K→rest.wpIn (FR rd) 0 P (QK ds w0 Fz nt μ K) a w):=by
  intro c
  induction c with
  | skip =>
    refine ⟨?_, ?_⟩
    · intro ann μ own e h K a w hsb Rl hE hk; exact wpIn_skip ⟨e,h,μ,own,hk,Rl,hE,Sub.refl _⟩
    · intro l rest ann μ own e h K a w hf; simp [findLabel] at hf
  | region id ops draw =>
    refine ⟨?_, ?_⟩
    · intro ann μ own e h K a w hsb Rl hE hk
      simp only [bX] at hk
      cases draw with
      | false =>
        exact wpIn_region_list (tE hR _ μ own e h a w hsb Rl hE hk fun e' h' a' w' μ' own' g1 g2 g3 g4=>⟨e',h',μ',own',g1,g2,g3,g4⟩)
      | true =>
        simp only [cond_true] at hk
        obtain ⟨hB,hk⟩:=aG hk
        exact wQ hm hR hsb Rl hE hB hk fun e' h' a' w' μ' own' g1 g2 g3 g4=>⟨e',h',μ',own',g1,g2,g3,g4⟩
    · intro l rest ann μ own e h K a w hf; simp [findLabel] at hf
  | seq x y ihx ihy =>
    refine ⟨?_, ?_⟩
    · intro ann μ own e h K a w hsb Rl hE hk
      simp only [bX] at hk
      refine wpIn_seq (wpIn_mono (ihx.1 _ μ own e h _ a w hsb Rl hE hk) ?_)
      rintro ex a' w' ⟨e',h',μ',own',g1,g2,g3,g4⟩
      cases ex with
      | normal =>
        exact wpIn_mono (ihy.1 _ μ' own' _ h' K a' w' (hsb.trans g4) g2 (g3.restr _) g1) fun ex a2 w2 ⟨e2,h2,μ2,own2,k1,k2,k3,k4⟩=>⟨e2,h2,μ2,own2,k1,k2,k3,g4.trans k4⟩
      | _=>exact ⟨e',h',μ',own',g1,g2,g3,g4⟩
    · intro l rest ann μ own e h K a w hf hsb Rl hE hk
      simp only [aFrom] at hk
      have hl:=rD x l
      cases hx:findLabel x l with
      | none =>
        rw [hx,Option.isSome_none] at hl
        rw [hl,cond_false] at hk
        simp only [findLabel,hx] at hf
        exact ihy.2 l rest _ μ own e h K a w hf hsb Rl hE hk
      | some r =>
        rw [hx,Option.isSome_some] at hl
        rw [hl,cond_true] at hk
        simp only [findLabel,hx,Option.some.injEq] at hf
        subst hf
        refine wpIn_seq (wpIn_mono (ihx.2 l r _ μ own e h _ a w hx hsb Rl hE hk) ?_)
        rintro ex a' w' ⟨e',h',μ',own',g1,g2,g3,g4⟩
        cases ex with
        | normal =>
          exact wpIn_mono (ihy.1 _ μ' own' _ h' K a' w' (hsb.trans g4) g2 (g3.restr _) g1) fun ex a2 w2 ⟨e2,h2,μ2,own2,k1,k2,k3,k4⟩=>⟨e2,h2,μ2,own2,k1,k2,k3,g4.trans k4⟩
        | _=>exact ⟨e',h',μ',own',g1,g2,g3,g4⟩
  | cond c x y ihx ihy =>
    refine ⟨?_, ?_⟩
    · intro ann μ own e h K a w hsb Rl hE hk
      simp only [bX] at hk
      rcases nA hk (Rl.ev hE c) with ⟨h1,h2⟩ | ⟨h1,h2⟩
      · exact wpIn_cond_true h1 (ihx.1 _ μ own e h K a w hsb Rl hE h2)
      · exact wpIn_cond_false h1 (ihy.1 _ μ own e h K a w hsb Rl hE h2)
    · intro l rest ann μ own e h K a w hf; simp [findLabel] at hf
  | block id x ih =>
    refine ⟨?_, ?_⟩
    · intro ann μ own e h K a w hsb Rl hE hk
      simp only [bX] at hk
      refine wpIn_block (wpIn_mono (ih.1 _ μ own e h _ a w hsb Rl hE hk) ?_)
      rintro ex a' w' ⟨e',h',μ',own',g1,g2,g3,g4⟩
      cases ex with
      | exit id' =>
        simp only [fL] at g1
        simp only [Exit.inBlock]
        by_cases hid:id'=id
        · subst hid
          simp at g1
          rw [if_pos rfl]
          exact ⟨e',h',μ',own',g1,g2,g3,g4⟩
        · rw [tD hid] at g1
          rw [if_neg hid]
          exact ⟨e',h',μ',own',g1,g2,g3,g4⟩
      | _=>exact ⟨e',h',μ',own',g1,g2,g3,g4⟩
    · intro l rest ann μ own e h K a w hf; simp [findLabel] at hf
  | scope x ih =>
    refine ⟨?_, ?_⟩
    · intro ann μ own e h K a w hsb Rl hE hk
      simp only [bX] at hk
      cases hg:kO x with
      | false =>
        rw [hg] at hk
        refine xJ (wpIn_mono (ih.1 ann.a μ own e h (mM K) a w hsb Rl hE hk) ?_)
        rintro ex a' w' ⟨e',h',μ',own',g1,g2,g3,g4⟩
        cases ex <;> first | exact g1.elim | exact ⟨e',h',μ',own',g1,g2,g3,g4⟩
      | true =>
        rw [hg,cond_true] at hk
        let S:Nat→Env→aA→Prop:=fun l e h=>∀ (μ':Mu) (own':Nat→Option Nat) (a:Act) (w:World),Sub μ μ'→Rel w0 Fz μ' own' h w→bD ds μ' nt e a→∀ (rest:Code),findLabel x l=some rest→∀ (b:Frame) (k:List Item) (cs:List Frame),b.roundOf=rd→(FR rd).room (cs.length+1+0) →
          ∃ ex a' w',QK ds w0 Fz nt μ K ex a' w'∧ArrivesIn (Machine.fenced P (FR rd)) P (lone (b.atR a (.code rest :: .inScope x :: k)) cs w) b k cs ex a' w'
        have leave:∀ (I:Nat→Env→aA→Prop),(∀ l e h,I l e h→S l e h)→∀ (ex:Exit) (e1:Env) (h1:aA) (μ1:Mu) (own1:Nat→Option Nat) (a1:Act) (w1:World) (m:Machine),dJ x I K ex e1 h1→Sub μ μ1→Rel w0 Fz μ1 own1 h1 w1→bD ds μ1 nt e1 a1 →
            ∀ (b:Frame) (k:List Item) (cs:List Frame),b.roundOf=rd→(FR rd).room (cs.length+1+0)→ArrivesIn (Machine.fenced P (FR rd)) P m b (.inScope x :: k) cs ex a1 w1→∃ ex a' w',QK ds w0 Fz nt μ K ex a' w'∧ArrivesIn (Machine.fenced P (FR rd)) P m b k cs ex a' w':=by
          intro I hI ex e1 h1 μ1 own1 a1 w1 m g1 g4 g2 g3 b k cs hro hb harr
          cases ex with
          | normal=>exact ⟨.normal,a1,w1,⟨e1,h1,μ1,own1,g1,g2,g3,g4⟩,StepsIn.trans harr (.one (fenced_calm (n:=0) trivial hb rfl) kF)⟩
          | exit id =>
            have hx:exitTo id (.inScope x :: k)=exitTo id k:=by simp [exitTo]
            exact ⟨.exit id,a1,w1,⟨e1,h1,μ1,own1,g1,g2,g3,g4⟩,fun k' hk=>harr.1 k' (by rw [hx]; exact hk),fun hr' hk=>harr.2 hr' (by rw [hx]; exact hk)⟩
          | goto l =>
            have hl:=rD x l
            cases hf:findLabel x l with
            | some rest =>
              rw [hf,Option.isSome_some] at hl
              simp only [dJ,hl,cond_true] at g1
              have hgo:gotoIn l (.inScope x :: k)=some (.code rest :: .inScope x :: k):=by simp [gotoIn,hf]
              obtain ⟨ex2,a2,w2,q2,arr2⟩:=hI _ _ _ g1 μ1 own1 a1 w1 g4 g2 g3 rest hf b k cs hro hb
              exact ⟨ex2,a2,w2,q2,.of_steps (harr.1 _ hgo) arr2⟩
            | none =>
              rw [hf,Option.isSome_none] at hl
              simp only [dJ,hl,cond_false] at g1
              have hx:gotoIn l (.inScope x :: k)=gotoIn l k:=by simp [gotoIn,hf]
              exact ⟨.goto l,a1,w1,⟨e1,h1,μ1,own1,g1,g2,g3,g4⟩,fun k' hk=>harr.1 k' (by rw [hx]; exact hk),fun hr' hk=>harr.2 hr' (by rw [hx]; exact hk)⟩
          | ret=>exact ⟨_,a1,w1,⟨e1,h1,μ1,own1,g1,g2,g3,g4⟩,harr⟩
          | panic ch=>exact ⟨_,a1,w1,⟨e1,h1,μ1,own1,g1,g2,g3,g4⟩,harr⟩
          | outgrown=>exact ⟨_,a1,w1,⟨e1,h1,μ1,own1,g1,g2,g3,g4⟩,harr⟩
        have key:∀ l e h,iE (fun I l e h=>aFrom P R nt ann.a x l e h (dJ x I K)) l e h→S l e h:=by
          intro l e h hJ
          refine hJ S fun l e h hF μ' own' a w hs Rl hE rest hf b k cs hro hb=>?_
          obtain ⟨ex,a1,w1,⟨e1,h1,μ1,own1,g1,g2,g3,g4⟩,harr⟩:=ih.2 l rest ann.a μ' own' e h _ a w hf (hsb.trans hs) Rl hE hF b (.inScope x :: k) cs hro trivial hb
          exact leave S (fun _ _ _ h=>h) ex e1 h1 μ1 own1 a1 w1 _ g1 (hs.trans g4) g2 g3 b k cs hro hb harr
        intro b k cs hro hbt hb
        obtain ⟨ex,a1,w1,⟨e1,h1,μ1,own1,g1,g2,g3,g4⟩,harr⟩:=ih.1 ann.a μ own e h _ a w hsb Rl hE hk b (.inScope x :: k) cs hro trivial hb
        obtain ⟨ex2,a2,w2,q2,arr2⟩:=leave _ key ex e1 h1 μ1 own1 a1 w1 _ g1 g4 g2 g3 b k cs hro hb harr
        exact ⟨ex2,a2,w2,q2,.of_steps (.one (fenced_calm (n:=0) trivial hb rfl) dC) arr2⟩
    · intro l rest ann μ own e h K a w hf; simp [findLabel] at hf
  | loop x ih =>
    refine ⟨?_, ?_⟩
    · intro ann μ own e h K a w hsb Rl hE hk
      simp only [bX] at hk
      have key:=hk (fun e h=>∀ (μ':Mu) (own':Nat→Option Nat) (a:Act) (w:World),Sub μ μ'→Rel w0 Fz μ' own' h w→bD ds μ' nt e a→∀ (b:Frame) (k:List Item) (cs:List Frame),b.roundOf=rd→(FR rd).room (cs.length+1+0) →
          ∃ ex a' w',QK ds w0 Fz nt μ K ex a' w'∧ArrivesIn (Machine.fenced P (FR rd)) P (lone (b.atR a (.code x :: .inLoop x :: k)) cs w) b k cs ex a' w') (by
        intro e h hF μ' own' a w hs Rl hE b k cs hro hb
        obtain ⟨ex,a1,w1,⟨e1,h1,μ1,own1,g1,g2,g3,g4⟩,harr⟩:=ih.1 _ μ' own' e h _ a w (hsb.trans hs) Rl hE hF b (.inLoop x :: k) cs hro trivial hb
        cases ex with
        | normal =>
          obtain ⟨ex2,a2,w2,q2,arr2⟩:=g1 μ1 own1 a1 w1 (hs.trans g4) g2 (g3.restr _) b k cs hro hb
          exact ⟨ex2,a2,w2,q2,.of_steps (StepsIn.trans harr (.one (fenced_calm (n:=0) trivial hb rfl) stepR_inLoop)) arr2⟩
        | exit id=>exact ⟨_,a1,w1,⟨e1,h1,μ1,own1,g1,g2,g3,hs.trans g4⟩,.pass (x:=.inLoop x) rfl (fun _ _=>.inl (by simp)) harr⟩
        | goto l=>exact ⟨_,a1,w1,⟨e1,h1,μ1,own1,g1,g2,g3,hs.trans g4⟩,.pass (x:=.inLoop x) rfl (fun _ _=>.inl (by simp)) harr⟩
        | ret=>exact ⟨_,a1,w1,⟨e1,h1,μ1,own1,g1,g2,g3,hs.trans g4⟩,.pass (x:=.inLoop x) rfl (fun _ _=>.inl (by simp)) harr⟩
        | panic ch=>exact ⟨_,a1,w1,⟨e1,h1,μ1,own1,g1,g2,g3,hs.trans g4⟩,.pass (x:=.inLoop x) rfl (fun _ _=>.inl (by simp)) harr⟩
        | outgrown=>exact ⟨_,a1,w1,⟨e1,h1,μ1,own1,g1,g2,g3,hs.trans g4⟩,.pass (x:=.inLoop x) rfl (fun _ _=>.inl (by simp)) harr⟩)
      intro b k cs hro hbt hb
      obtain ⟨ex,a',w',hq,harr⟩:=key μ own a w (Sub.refl _) Rl (hE.restr _) b k cs hro hb
      exact ⟨ex,a',w',hq,.of_steps (.one (fenced_calm (n:=0) trivial hb rfl) stepR_loop) harr⟩
    · intro l rest ann μ own e h K a w hf; simp [findLabel] at hf
  | exit id =>
    refine ⟨?_, ?_⟩
    · intro ann μ own e h K a w hsb Rl hE hk; exact wpIn_exit ⟨e,h,μ,own,hk,Rl,hE,Sub.refl _⟩
    · intro l rest ann μ own e h K a w hf; simp [findLabel] at hf
  | label l =>
    refine ⟨?_, ?_⟩
    · intro ann μ own e h K a w hsb Rl hE hk; exact wpIn_label ⟨e,h,μ,own,hk,Rl,hE,Sub.refl _⟩
    · intro l1 rest ann μ own e h K a w hf hsb Rl hE hk
      simp only [findLabel] at hf
      split at hf
      · rename_i hll
        cases hf
        have:l=l1:=by simpa using hll
        subst this
        simp only [aFrom,Nat.beq_refl,cond_true] at hk
        exact wpIn_skip ⟨e,h,μ,own,hk,Rl,hE,Sub.refl _⟩
      · cases hf
  | ret =>
    refine ⟨?_, ?_⟩
    · intro ann μ own e h K a w hsb Rl hE hk; exact wpIn_ret ⟨e,h,μ,own,hk,Rl,hE,Sub.refl _⟩
    · intro l rest ann μ own e h K a w hf; simp [findLabel] at hf
  | goto l =>
    refine ⟨?_, ?_⟩
    · intro ann μ own e h K a w hsb Rl hE hk; exact wpIn_goto ⟨e,h,μ,own,hk,Rl,hE,Sub.refl _⟩
    · intro l rest ann μ own e h K a w hf; simp [findLabel] at hf
  | _ =>
    refine ⟨?_, ?_⟩
    · intro ann μ own e h K a w hsb Rl hE hk; exact False.elim hk
    · intro l rest ann μ own e h K a w hf; simp [findLabel] at hf
theorem lS {R:aS} (hm:P.follows .mixedOrders=true) {μb:Mu} (hR:b6 P w0 Fz μb R) {nt:Nat} (c:Code) (ann:Ann) (μ:Mu) (own:Nat→Option Nat) (e:Env) (h:aA) (K:Kx) (a:Act) (w:World) :
  Sub μb μ→Rel w0 Fz μ own h w→bD ds μ nt e a→bX P R nt ann c e h K→c.wpIn (FR rd) 0 P (QK ds w0 Fz nt μ K) a w:=
 (zK hm hR c).1 ann μ own e h K a w
end
end Go.GAM
namespace Go.GAM
section
variable {P:Program} {w0:World} {Fz:Nat→Prop} {μ:Mu} {own:Nat→Option Nat} {h:aA} {w:World}
def aDV (μ:Mu) (n:Nat):Prop:=∀ id ver l,μ id ver=some l→id<n
def xR (μ μ':Mu) (n:Nat):Prop:=∀ id ver,id<n→μ' id ver=μ id ver
mutual
theorem aL.old {μ0 μ μ':Mu} {n:Nat} (hlt:aDV μ0 n) (hag:xR μ μ' n):∀ {v:AV} {c0 c:Value},aL μ0 v c0→aL μ v c→aL μ' v c
 | _,_,_,.u _,_=>.u _
 | _,_,_,.b _,.b _=>.b _
 | _,_,_,.i _ _,.i _ _=>.i _ _
 | _,_,_,.s _ _ _,.s _ _ h=>.s _ _ h
 | _,_,_,.pn,.pn=>.pn
 | _,_,_,.p a l o h ho,.p _ l' o' h' ho'=>.p a l' o' ((hag _ _ (hlt _ _ _ h)).trans h') ho'
 | _,_,_,.sn,.sn=>.sn
 | _,_,_,.sl a len capo c addr l h _ _ _ _ _,.sl _ _ _ c' addr' l' h' g1 g2 g3 g4 g5=>.sl a len capo c' addr' l' ((hag _ _ (hlt _ _ _ h)).trans h') g1 g2 g3 g4 g5
 | _,_,_,.ag _ _ h,.ag _ _ h'=>.ag _ _ (VRels.old hlt hag h h')
 | _,_,_,.tu _ _ h,.tu _ _ h'=>.tu _ _ (VRels.old hlt hag h h')
 | _,_,_,.fn _ _ _ _ _ h k,.fn _ _ _ _ _ h' k'=>.fn _ _ _ _ _ (VRels.old hlt hag h h') (VRels.old hlt hag k k')
 | _,_,_,.nf,.nf=>.nf
 | _,_,_,.ifc _ _ _ h,.ifc _ _ _ h'=>.ifc _ _ _ (aL.old hlt hag h h')
 | _,_,_,.ni,.ni=>.ni
 | _,_,_,.mpn,.mpn=>.mpn
 | _,_,_,.mp id l h,.mp _ l' h'=>.mp id l' ((hag _ _ (hlt _ _ _ h)).trans h')
theorem VRels.old {μ0 μ μ':Mu} {n:Nat} (hlt:aDV μ0 n) (hag:xR μ μ' n):∀ {v:List AV} {c0 c:List Value},VRels μ0 v c0→VRels μ v c→VRels μ' v c
 | _,_,_,.nil,.nil=>.nil
 | _,_,_,.cons _ _ _ _ h t,.cons _ _ _ _ h' t'=>.cons _ _ _ _ (aL.old hlt hag h h') (VRels.old hlt hag t t')
end
def gN (μ:Mu) (n:Nat) (keep:List Nat):Mu:=fun id ver=>if id<n then μ id ver else match keep[id - n]? with
 | some k=>μ k ver
 | none=>none
def kJ (own:Nat→Option Nat) (n:Nat) (keep:List Nat):Nat→Option Nat:=fun B=>match own B with
 | some id=>if kM n keep id then some (iZ n keep id) else none
 | none=>none
theorem rI {n:Nat} {keep:List Nat} {id ver:Nat} {l:Loc} (hk:∀ k∈keep,n≤k) (hok:kM n keep id=true) (hm:μ id ver=some l):gN μ n keep (iZ n keep id) ver=some l:=by
 unfold gN iZ
 by_cases h:id<n
 ·simp [h,hm]
 ·simp only [kM, h, decide_false, Bool.false_or, List.contains_iff_mem] at hok
  have:keep[keep.idxOf id]? = some id:=by
   have hl:=List.idxOf_lt_length_iff.2 hok
   rw [List.getElem?_eq_getElem hl]
   simp
  rw [if_neg h,if_neg (by omega),show n+keep.idxOf id - n=keep.idxOf id by omega,this]
  exact hm
theorem jD {n:Nat} {keep:List Nat} (hk:∀ k∈keep,n≤k) {v:AV} {c:Value} (h:aL μ v c) (hok:ok1 n keep v=true):aL (gN μ n keep) (pV n keep v) c:=by
 cases h <;> first | (simp [ok1] at hok; done) | skip
 case u=>exact .u _
 case b=>exact .b _
 case i=>exact .i _ _
 case s l x h=>exact .s _ _ h
 case pn=>exact .pn
 case p a l o h ho=>exact .p (aAJ n keep a) l o (rI hk hok h) ho
 case sn=>exact .sn
 case sl a len capo c addr l h g1 g2 g3 g4 g5=>exact .sl (aAJ n keep a) len capo c addr l (rI hk hok h) g1 g2 g3 g4 g5
 case nf=>exact .nf
 case ni=>exact .ni
theorem o0 {n:Nat} {keep:List Nat} (hk:∀ k∈keep,n≤k):∀ {v:List AV} {c:List Value},VRels μ v c→v.all (ok1 n keep)=true→VRels (gN μ n keep) (v.map (pV n keep)) c
 | _,_,.nil,_=>.nil
 | _, _, .cons _ _ _ _ h t, hok => by
  simp only [List.all_cons,Bool.and_eq_true] at hok
  exact .cons _ _ _ _ (jD hk h hok.1) (o0 hk t hok.2)
theorem yP {n:Nat} {keep:List Nat} (hk:∀ k∈keep,n≤k) {v:AV} {c:Value} (h:aL μ v c) (hok:okR n keep v=true):aL (gN μ n keep) (ren n keep v) c:=by
 cases h with
 | ag cs vs h=>exact .ag _ _ (o0 hk h hok)
 | tu cs vs h=>exact .tu _ _ (o0 hk h hok)
 | u=>exact .u _
 | b=>exact .b _
 | i=>exact .i _ _
 | s l x h=>exact .s _ _ h
 | pn=>exact .pn
 | p a l o h ho=>exact jD hk (.p a l o h ho) hok
 | sn=>exact .sn
 | sl a len capo c addr l h g1 g2 g3 g4 g5=>exact jD hk (.sl a len capo c addr l h g1 g2 g3 g4 g5) hok
 | nf=>exact .nf
 | ni=>exact .ni
 | fn=>simp [okR,ok1] at hok
 | ifc=>simp [okR,ok1] at hok
 | mpn=>simp [okR,ok1] at hok
 | mp=>simp [okR,ok1] at hok
theorem dQ.old {μ0 μ μ':Mu} {n:Nat} (hlt:aDV μ0 n) (hag:xR μ μ' n):∀ {es:List (AV × AV)} {e0 e:List MapEntry},dQ μ0 es e0→dQ μ es e→dQ μ' es e
 | _,_,_,.nil,.nil=>.nil
 | _,_,_,.cons _ _ _ _ _ hk hv t,.cons _ _ _ _ _ hk' hv' t'=>.cons _ _ _ _ _ (aL.old hlt hag hk hk') (aL.old hlt hag hv hv') (dQ.old hlt hag t t')
theorem aFH {n:Nat} {keep:List Nat} {x:AV} (h1:ok1 n [] x=true):ok1 n keep x=true:=by
 cases x <;> first | exact h1 | skip
 case p a=>cases a with
  | none=>rfl
  | some a=>simp [ok1,kM] at h1 ⊢; exact .inl h1
 case sl a l c=>cases a with
  | none=>rfl
  | some a=>simp [ok1,kM] at h1 ⊢; exact .inl h1
theorem pD {h : aA} {n : Nat} {keep : List Nat} (hk : ∀ k ∈ keep, ∃ b, h[k]? = some b) (j : Nat) (hj : j < keep.length) :
  (keep.filterMap fun id=>(h[id]?).map (fG n keep))[j]? = (h[keep[j]]?).map (fG n keep)∧(keep.filterMap fun id=>(h[id]?).map (fG n keep)).length=keep.length:=by
 have e:keep.filterMap (fun id=>(h[id]?).map (fG n keep))=keep.map (fun id=>fG n keep ((h[id]?).getD cH)):=by
  have:∀ l:List Nat,(∀ k∈l, ∃ b,h[k]? = some b)→l.filterMap (fun id=>(h[id]?).map (fG n keep))=l.map (fun id=>fG n keep ((h[id]?).getD cH)):=by
   intro l
   induction l with
   | nil=>intro _; rfl
   | cons x l ih =>
    intro hl
    obtain ⟨b,hb⟩:=hl x (by simp)
    rw [List.filterMap_cons,hb]
    simp only [Option.map_some,List.map_cons,hb,Option.getD_some]
    rw [ih (fun k hk=>hl k (by simp [hk]))]
  exact this keep hk
 rw [e]
 obtain ⟨b,hb⟩:=hk keep[j] (List.getElem_mem hj)
 simp [hj,hb]
theorem Rel.trim {h0 : aA} {μ0 : Mu} {own0 : Nat → Option Nat} {wa : World} (R0 : Rel w0 Fz μ0 own0 h0 wa) (R : Rel w0 Fz μ own h w) (hsub : Sub μ0 μ) {keep : List Nat} (hnd : keep.Nodup)
  (hkeep:∀ id∈keep,h0.length≤id∧∃ b,h[id]? = some b∧b.cells.all (ok1 h0.length keep)=true∧b.mp=none)
  (hold:∀ id,id<h0.length→h[id]? = h0[id]? ∨ ∃ b,h[id]? = some b∧b.cells.all (ok1 h0.length [])=true∧b.mp=none) (hlen:h0.length≤h.length) :
  Rel w0 Fz (gN μ h0.length keep) (kJ own h0.length keep) (h.take h0.length++keep.filterMap fun id=>(h[id]?).map (fG h0.length keep)) w∧Sub μ0 (gN μ h0.length keep):=by
 have hmu0:aDV μ0 h0.length:=fun id ver l hl=>by
  obtain ⟨b,hb,_⟩:=R0.mulen _ _ _ hl
  exact (List.getElem?_eq_some_iff.1 hb).1
 have hge:∀ k∈keep,h0.length≤k:=fun k hk=>(hkeep k hk).1
 have hex:∀ k∈keep, ∃ b,h[k]? = some b:=fun k hk=>let ⟨_,b,hb,_⟩:=hkeep k hk; ⟨b,hb⟩
 generalize hn:h0.length=n at *
 have hagree:xR μ (gN μ n keep) n:=fun id ver hid=>by simp [gN,hid]
 have htl:(h.take n).length=n:=by simp; omega
 have hget:∀ id,id<n→(h.take n++keep.filterMap fun id=>(h[id]?).map (fG n keep))[id]? = h[id]?:=fun id hid=>by
  rw [List.getElem?_append_left (by omega),List.getElem?_take_of_lt hid]
 have hgetk:∀ j (hj:j<keep.length),(h.take n++keep.filterMap fun id=>(h[id]?).map (fG n keep))[n+j]? = (h[keep[j]]?).map (fG n keep):=fun j hj=>by
  rw [List.getElem?_append_right (by omega),htl,show n+j - n=j by omega]
  exact (pD hex j hj).1
 refine ⟨{ os:=R.os,tape:=R.tape,output:=R.output,size0:=R.size0,fz:=R.fz,ownlt:=fun B id hB=>?_,mulen:=fun id ver l hl=>?_,blk:=fun id b hb hlv=>?_,maps:=fun id b es hb hes=>?_ },fun id ver l hl=>?_⟩
 ·unfold kJ at hB
  split at hB
  ·rename_i i hi; exact R.ownlt B i hi
  ·cases hB
 ·unfold gN at hl
  split at hl
  ·rename_i hid
   obtain ⟨b,hb,hle⟩:=R.mulen _ _ _ hl
   exact ⟨b,by rw [hget id hid]; exact hb,hle⟩
  ·rename_i hid
   split at hl
   ·rename_i k hk
    obtain ⟨b,hb,hle⟩:=R.mulen _ _ _ hl
    obtain ⟨hj,hjk⟩:=List.getElem?_eq_some_iff.1 hk
    refine ⟨fG n keep b, ?_, ?_⟩
    ·have := hgetk (id - n) hj
     rw [show n+(id - n)=id by omega,hjk,hb] at this
     exact this
    ·simpa [fG] using hle
   ·cases hl
 ·by_cases hid : id < n
  ·rw [hget id hid] at hb
   obtain ⟨l,hk⟩:=R.blk id b hb hlv
   have hokid:kM n keep id=true:=by simp [kM,hid]
   have hren:iZ n keep id=id:=by simp [iZ,hid]
   have hcell:∀ (j:Nat) (cv:Value),aL μ (b.cells.getD j .u) cv→aL (gN μ n keep) (b.cells.getD j .u) cv:=fun j cv hv=>by
    rcases hold id hid with heq | ⟨b',hb',hok,_⟩
    ·rw [hb] at heq
     obtain ⟨l0,hk0⟩:=R0.blk id b heq.symm hlv
     have hv0:=hk0.vers _ hlv (Nat.le_refl _) _ hk0.cur
     by_cases hj:j<b.cells.length
     ·obtain ⟨c0, _, hr0⟩ := hv0.cells j hj
      exact aL.old hmu0 hagree hr0 hv
     ·have : b.cells.getD j .u = .u := by simp [List.getD_eq_getElem?_getD, List.getElem?_eq_none (Nat.le_of_not_lt hj)]
      rw [this]; exact .u _
    ·rw [hb] at hb'; cases hb'
     have h1:ok1 n [] (b.cells.getD j .u)=true:=by
      by_cases hj:j<b.cells.length
      ·have := List.all_eq_true.1 hok (b.cells[j]) (List.getElem_mem hj)
       rw [List.getD_eq_getElem?_getD,List.getElem?_eq_getElem hj]; exact this
      ·have : b.cells.getD j .u = .u := by simp [List.getD_eq_getElem?_getD, List.getElem?_eq_none (Nat.le_of_not_lt hj)]
       rw [this] <;> rfl
     have h2:ok1 n keep (b.cells.getD j .u)=true:=aFH h1
     have h3:=jD hge hv h2
     have h4:pV n keep (b.cells.getD j .u)=b.cells.getD j .u:=by
      revert h1
      generalize b.cells.getD j .u=x
      intro h1
      cases x <;> simp [pV]
      case p a=>cases a with
       | none=>rfl
       | some a=>simp [ok1,kM] at h1; simp [aAJ,iZ,h1]
      case sl a l c=>cases a with
       | none=>rfl
       | some a=>simp [ok1,kM] at h1; simp [aAJ,iZ,h1]
     rwa [h4] at h3
   refine ⟨l,{ cur:=by rw [hagree _ _ hid]; exact hk.cur,owned:=by simp [kJ,hk.owned,hokid,hren],sz:=hk.sz,len:=hk.len,ex:=hk.ex,ro:=hk.ro,gl:=hk.gl,nomap:=hk.nomap,tyok:=hk.tyok,row:=hk.row,free:=hk.free,vers:=fun ver h1 h2 l' hl'=>?_ }⟩
   rw [hagree _ _ hid] at hl'
   have hv:=hk.vers ver h1 h2 l' hl'
   exact { own:=by simp [kJ,hv.own,hokid,hren],sz:=hv.sz,le:=hv.le,base:=hv.base,cells:=fun j hj=>let ⟨cv,e1,e2⟩:=hv.cells j hj; ⟨cv,e1,hcell j cv e2⟩ }
  ·have hidl := (List.getElem?_eq_some_iff.1 hb).1
   have hj:id - n<keep.length:=by
    rcases keep with _ | ⟨x,xs⟩
    ·simp at hidl; omega
    ·have := (pD (n := n) hex 0 (by simp)).2
     rw [List.length_append,htl,this] at hidl
     omega
   have h1:=hgetk (id - n) hj
   rw [show n+(id - n)=id by omega,hb] at h1
   obtain ⟨hkge,b0,hb0,hok,hmp0⟩:=hkeep keep[id - n] (List.getElem_mem hj)
   rw [hb0] at h1
   simp only [Option.map_some,Option.some.injEq] at h1
   subst h1
   simp only [fG,List.length_map] at hlv
   obtain ⟨l,hk⟩:=R.blk _ b0 hb0 hlv
   have hmu:∀ ver,gN μ n keep id ver=μ keep[id - n] ver:=fun ver=>by simp [gN,hid,hj]
   have hown:∀ B,own B=some keep[id - n]→kJ own n keep B=some id:=fun B hB=>by
    have hm:keep[id - n]∈keep:=List.getElem_mem hj
    have hx:kM n keep keep[id - n]=true:=by simp [kM,hm]
    have hi:keep.idxOf keep[id - n]=id - n:=List.Nodup.idxOf_getElem hnd _ hj
    have hr:iZ n keep keep[id - n]=id:=by
     simp only [iZ,if_neg (show ¬ keep[id - n]<n by omega),hi]; omega
    simp [kJ,hB,hx,hr]
   refine ⟨l,{ cur:=by rw [hmu]; simpa [fG] using hk.cur,owned:=hown _ hk.owned,sz:=hk.sz,len:=by simpa [fG] using hk.len,ex:=by simpa [fG] using hk.ex,ro:=hk.ro,gl:=fun hg=>by simp [fG] at hg,nomap:=hmp0,tyok:=hk.tyok,row:=hk.row,free:=hk.free,vers:=fun ver g1 g2 l' hl'=>?_ }⟩
   rw [hmu] at hl'
   have hv:=hk.vers ver g1 (by simpa [fG] using g2) l' hl'
   refine { own:=hown _ hv.own,sz:=hv.sz,le:=hv.le,base:=hv.base,cells:=fun j hj'=>?_ }
   obtain ⟨cv,e1,e2⟩:=hv.cells j hj'
   refine ⟨cv,e1, ?_⟩
   have hjl:j<b0.cells.length:=by
    have:ver≤b0.cells.length:=by simpa [fG] using g2
    omega
   have h2:(fG n keep b0).cells.getD j .u=pV n keep (b0.cells.getD j .u):=by
    simp [fG,List.getD_eq_getElem?_getD,hjl]
   rw [h2]
   refine jD hge e2 ?_
   have:=List.all_eq_true.1 hok (b0.cells[j]) (List.getElem_mem hjl)
   rw [List.getD_eq_getElem?_getD,List.getElem?_eq_getElem hjl]; exact this
 ·by_cases hid : id < n
  ·rw [hget id hid] at hb
   obtain ⟨l,m1,m2,m3,m4⟩:=R.maps id b es hb hes
   have hokid:kM n keep id=true:=by simp [kM,hid]
   have hren:iZ n keep id=id:=by simp [iZ,hid]
   refine ⟨l,by rw [hagree _ _ hid]; exact m1,by simp [kJ,m2,hokid,hren],m3, ?_⟩
   cases es with
   | inr rec=>exact m4
   | inl es=>
   obtain ⟨ents,clock,m4,m5⟩:=m4
   refine ⟨ents,clock,m4, ?_⟩
   rcases hold id hid with heq | ⟨b',hb',_,hmp⟩
   ·rw [hb] at heq
    obtain ⟨l0,_,_,_,ents0,_,_,m50⟩:=R0.maps id b _ heq.symm hes
    exact dQ.old hmu0 hagree m50 m5
   ·rw [hb] at hb'; cases hb'
    rw [hmp] at hes; cases hes
  ·exfalso
   have hidl:=(List.getElem?_eq_some_iff.1 hb).1
   have hj:id - n<keep.length:=by
    rcases keep with _ | ⟨x,xs⟩
    ·simp at hidl; omega
    ·have := (pD (n := n) hex 0 (by simp)).2
     rw [List.length_append,htl,this] at hidl
     omega
   have h1:=hgetk (id - n) hj
   rw [show n+(id - n)=id by omega,hb] at h1
   obtain ⟨hkge,b0,hb0,hok,hmp0⟩:=hkeep keep[id - n] (List.getElem_mem hj)
   rw [hb0] at h1
   simp only [Option.map_some,Option.some.injEq] at h1
   subst h1
   have hes:b0.mp=some es:=hes
   rw [hmp0] at hes; cases hes
 ·have := hsub _ _ _ hl
  rw [hagree _ _ (hmu0 _ _ _ hl)]; exact this
end
end Go.GAM
namespace Go.GAM
section
variable {ds:List Deferred} {rd:Option Nat} {P:Program} {w0:World} {Fz:Nat→Prop} {μ:Mu} {own:Nat→Option Nat} {h:aA} {w:World}
def aDW (a:Act):ResultVar→Sem Value
 | .tmp t=>pure (a.tmps.getD t undef)
 | .cell x t=>do loadVar t (← asAddr (a.tmps.getD x undef))
theorem vQ (R : Rel w0 Fz μ own h w) {nt : Nat} {e : Env} {a : Act} (hE : bD ds μ nt e a) {r : ResultVar} {K : AV → Prop} (hk : aAY P h e r K) :
  ∃ v cv,K v∧aL μ v cv∧(aDW a r).run P w = .ok cv w:=by
 cases r with
 | tmp t=>exact ⟨_,_,hk,hE.val t,rfl⟩
 | cell x t =>
  simp only [aAY] at hk
  have hx:=hE.val x
  have conv:∀ cv,(Instr.loadAt t (a.tmps.getD x undef)).run P w = .ok cv w→(do loadVar t (← asAddr (a.tmps.getD x undef)):Sem Value).run P w = .ok cv w:=fun cv hc=>by
   revert hc
   generalize a.tmps.getD x undef=c
   intro hc
   cases c <;> simp [Instr.loadAt,Instr.sureAddr,asAddr] at hc ⊢
   case pointer o=>cases o with
    | none=>simp [Instr.sureAddr] at hc
    | some o=>simpa [Instr.sureAddr,asAddr] using hc
  cases ht:dU P t with
  | none=>rw [ht] at hk; exact hk.elim
  | some r =>
   rw [ht] at hk
   cases r with
   | true =>
    obtain ⟨v,cv,h1,h2,h3⟩:=nQ R ht hx hk
    exact ⟨v,cv,h1,h2,conv cv (h3 w (cX.refl w))⟩
   | false =>
    obtain ⟨v,cv,h1,h2,h3⟩:=nK R ht hx hk
    exact ⟨v,cv,h1,h2,conv cv (h3 w (cX.refl w))⟩
theorem iP (R:Rel w0 Fz μ own h w) {nt:Nat} {e:Env} {a:Act} (hE:bD ds μ nt e a):∀ {rs:List ResultVar} {K:List AV→Prop},kV P h e rs K →
  ∃ vs cvs,K vs∧VRels μ vs cvs∧(rs.mapM (aDW a)).run P w = .ok cvs w
 | [],K,hk=>⟨[],[],hk,.nil,rfl⟩
 | r :: rs, K, hk => by
  obtain ⟨v,cv,h1,h2,h3⟩:=vQ (P:=P) R hE hk
  obtain ⟨vs,cvs,g1,g2,g3⟩:=iP R hE h1
  refine ⟨_,cv :: cvs,g1,.cons _ _ _ _ h2 g2, ?_⟩
  rw [List.mapM_cons,Sem.run_bind,h3]
  simp only [Result.andThen_ok,Sem.run_bind]
  rw [g3] <;> rfl
theorem yF {vs:List AV} {cvs:List Value} (h:VRels μ vs cvs):aL μ (tup vs) (if hs:cvs.toArray.size=1 then cvs.toArray[0] else .tuple cvs.toArray):=by
 have hl:=h.length
 match vs,cvs,h with
 | [],[],h=>simp [tup]; exact .tu _ _ h
 | [v],[c],.cons _ _ _ _ h _=>simpa [tup] using h
 | v :: v2 :: vs, c :: c2 :: cs, h =>
  have:¬ ((c :: c2 :: cs).toArray.size=1):=by simp
  rw [dif_neg this]
  exact .tu _ _ (by simpa using h)
theorem yJ:∀ (args:List AV) (k t:Nat),lk (d9 k args) t=if k≤t then (args[t - k]?).getD .u else .u
 | [],k,t=>by simp [d9,lk]
 | v :: r, k, t => by
  simp only [d9,lk]
  by_cases h:k=t
  ·subst h; simp
  ·rw [tD h]
   simp only [cond_false]
   rw [yJ r (k+1) t]
   by_cases h2:k+1≤t
   ·rw [if_pos h2,if_pos (by omega),show t - k=(t - (k+1))+1 by omega,List.getElem?_cons_succ]
   ·rw [if_neg h2,if_neg (by omega)]
theorem tV {args:List AV} {cargs:List Value} (h:VRels μ args cargs) {nt:Nat} (hn:args.length≤nt):bD [] μ nt (d9 0 args) { tmps:=cargs.toArray++Array.replicate (nt - cargs.toArray.size) undef,defers:=[] }:=by
 have hl:=h.length
 refine ⟨by simp; omega,rfl,fun t=>?_⟩
 rw [yJ]
 simp only [Nat.zero_le,if_true,Nat.sub_zero]
 by_cases ht:t<args.length
 ·obtain ⟨v, h1, h2⟩ := h.get? ht
  have hc:t<cargs.length:=by omega
  have e:(cargs.toArray++Array.replicate (nt - cargs.toArray.size) undef).getD t undef=v:=by
   rw [List.getElem?_eq_getElem hc] at h1
   have h3:t<(cargs.toArray++Array.replicate (nt - cargs.toArray.size) undef).size:=by simp; omega
   simp only [Array.getD,h3,dite_true]
   rw [Array.getInternal_eq_getElem,Array.getElem_append_left (by simpa using hc)]
   simpa using h1
  rw [e]
  simpa [List.getD_eq_getElem?_getD] using h2
 ·rw [List.getElem?_eq_none (by omega)]
  exact .u _
theorem aCJ {R : aS} (hm : P.follows .mixedOrders = true) (hsz : P.funcs.size ≤ yid0) {μb : Mu} (hR : b6 P w0 Fz μb R) {f : FuncId} {args : List AV} {h : aA} {K : AV → aA → Prop} (hk : aF P R f args h K) : xV P w0 Fz μb f args h K := by
 obtain ⟨fn,body,ann,hf,hb,hname,hn,hk⟩:=hk
 intro μ own w cargs hsb Rl hc
 rw [if_pos (Nat.lt_of_lt_of_le (Array.getElem?_eq_some_iff.1 hf).1 hsz)]
 refine .inl ⟨f,cargs.toArray, ?_, ?_⟩
 ·have hbs : fn.body.isNone = false := by simp [hb]
  simp only [callFunc,Sem.run_bind,run_program,Result.andThen_ok,hf,hname,Bool.false_eq_true,if_false,hbs,Sem.run_pure]
 ·refine callsIn_wide.1 (callsIn_of_wp (F := FR none) (n := 0) hf hb trivial (wpIn_mono (lS hm hR body ann μ own _ h _ _ w hsb Rl (tV hc hn) hk) ?_))
  rintro ex a' w' ⟨e',h',μ',own',g1,g2,g3,g4⟩
  have fin:kV P h' e' fn.results.toList (fun vs=>aK h K (tup vs) h')→a'.defers=[]∧∃ v,(results fn a'.tmps).run P w' = .ok v w'∧∃ v',Ending.returned v = .returned v'∧iH w0 Fz μ K v' w':=by
   intro hk
   obtain ⟨vs,cvs,k1,k2,k3⟩:=iP g2 g3 hk
   have hres:(results fn a'.tmps).run P w' = .ok (if hs:cvs.toArray.size=1 then cvs.toArray[0] else .tuple cvs.toArray) w':=by
    have e:results fn a'.tmps=(do let vs ← fn.results.mapM (aDW a'); pure (if h:vs.size=1 then vs[0] else .tuple vs)):=rfl
    rw [e,Array.mapM_eq_mapM_toList,Sem.run_bind,Sem.run_map,k3]
    first | done | rfl
   refine ⟨g3.defers,_,hres,_,rfl, ?_⟩
   ·have ht := yF k2
    rcases k1 with k1 | ⟨keep,c1,c2,c3,c4,c5,k1⟩
    ·exact ⟨_,μ',own',h',k1,ht,g2,g4⟩
    ·obtain ⟨t1, t2⟩ := Rel.trim Rl g2 g4 c1 c3 c4 c5
     exact ⟨_,_,_,_,k1,yP (fun k hk=>(c3 k hk).1) ht c2,t1,t2⟩
  cases ex with
  | normal=>exact fin g1
  | ret=>exact fin g1
  | exit id=>exact g1.elim
  | goto l=>exact g1.elim
  | panic ch=>exact g1.elim
  | outgrown=>exact g1.elim
theorem gG {X:aS} (hm:P.follows .mixedOrders=true) (hsz:P.funcs.size≤yid0) {μb:Mu} (hX:b6 P w0 Fz μb X):b6 P w0 Fz μb (dO P X):=by
 intro f args h K hk
 refine hk (xV P w0 Fz μb) (fun f args h K K' hK hs μ own w cargs hsb Rl hc=>?_) hX fun f args h K hF=>?_
 ·have hp : ∀ cv w', iH w0 Fz μ K cv w' → iH w0 Fz μ K' cv w' := fun cv w' ⟨v, μ', own', h', h1, h2, h3, h4⟩ => ⟨v, μ', own', h', hK _ _ h1, h2, h3, h4⟩
  have hs:=hs μ own w cargs hsb Rl hc
  by_cases hlt:f<yid0
  ·rw [if_pos hlt] at hs ⊢
   rcases hs with ⟨g,aq,h1,h2⟩ | ⟨v,w',h1,h2⟩
   ·exact .inl ⟨g,aq,h1,h2.mono fun e w' ⟨v,he,hv⟩=>⟨v,he,hp _ _ hv⟩⟩
   ·exact .inr ⟨v,w',h1,hp _ _ h2⟩
  ·rw [if_neg hlt] at hs ⊢
   obtain ⟨g,tmps,aq,body,h1,h2⟩:=hs
   exact ⟨g,tmps,aq,body,h1,h2.mono fun e w' ⟨v,he,hv⟩=>⟨v,he,hp _ _ hv⟩⟩
 exact aCJ hm hsz (fun f args h K hs=>hs) hF
theorem t9 {X:aS} (hm:P.follows .mixedOrders=true) (hsz:P.funcs.size≤yid0) (hX:jC P X):jC P (dO P X):=fun w0 Fz μb=>gG hm hsz (hX w0 Fz μb)
end
end Go.GAM
namespace Go.GAM
section
variable {P:Program}
def RLe (R R':aS):Prop:=∀ f args h K K',(∀ v h,K v h→K' v h)→R f args h K→R' f args h K'
theorem oN {c:AV} {A B A' B':Prop} (hA:A→A') (hB:B→B') (h:aIf c A B):aIf c A' B':=by
 unfold aIf at *; split at h <;> first | exact hA h | exact hB h | exact h
theorem kQ {op:BinOp} {r:Bool} {K K':AV→Prop} (hK:∀ v,K v→K' v) (h:dN op r K):dN op r K':=by
 cases op <;> first | exact h.elim | exact hK _ h
theorem lD {sz:Nat} {x:AV} {h:aA} {K K':List AV→Prop} (hK:∀ v,K v→K' v) (hk:eA sz x h K):eA sz x h K':=by
 unfold eA at *
 split at hk
 ·exact hK _ hk
 ·rcases hk with ⟨h0, hk⟩ | ⟨b, h1, h3, h4⟩
  ·exact .inl ⟨h0,hK _ hk⟩
  ·exact .inr ⟨b,h1,h3,hK _ h4⟩
 ·exact hk
theorem cN {x:Option AV} {d:Nat} {K K':Nat→Prop} (hK:∀ v,K v→K' v) (hk:cT x d K):cT x d K':=by
 unfold cT at *
 split at hk
 ·exact hK _ hk
 ·exact ⟨hk.1,hK _ hk.2⟩
 ·exact hk
theorem gO {c:Bool} {A A':Prop} (hA:A→A') (h:bif c then A else False):bif c then A' else False:=by
 cases c
 ·exact h
 ·exact hA h
theorem z7 {op:BinOp} {t:TypeId} {x y:AV} {K K':AV→Prop} (hK:∀ v,K v→K' v) (hk:dT P op t x y K):dT P op t x y K':=by
 unfold dT at *
 split at hk
 case h_1=>cases op <;> first | exact ⟨hk.1,hK _ hk.2⟩ | exact gO (fun h=>⟨h.1,hK _ h.2⟩) hk | exact gO (hK _) hk
 case h_2=>cases op <;> first | exact hk.elim | exact ⟨hk.1,hK _ hk.2⟩ | exact hK _ hk
 case h_3=>split at hk <;> first | exact kQ hK hk | exact hk
 case h_16=>
  cases hg:P.eqGuardType P.depth t with
  | true=>rw [hg] at hk; exact hk.elim
  | false =>
   rw [hg] at hk
   simp only [cond_false] at hk ⊢
   split at hk <;> first | exact kQ hK hk | exact hk
 all_goals first | exact gO (kQ hK) hk | exact hk
theorem aCI {v:AV} {K K':Bool→Prop} (hK:∀ v,K v→K' v) (hk:asB v K):asB v K':=by
 unfold asB at *; split at hk <;> first | exact hK _ hk | exact hk
theorem aBB {k:IntKind} {v:AV} {K K':Int→Prop} (hK:∀ v,K v→K' v) (hk:asI k v K):asI k v K':=by
 unfold asI at *; split at hk <;> first | exact gO (hK _) hk | exact hk
theorem aC8 {v:AV} {K K':List UInt8→Prop} (hK:∀ v,K v→K' v) (hk:asS v K):asS v K':=by
 unfold asS at *; split at hk <;> first | exact hK _ hk | exact hk
theorem fY {o:Oper} {v:AV} {K K':AV→Prop} (hK:∀ v,K v→K' v) (hk:cI P o v K):cI P o v K':=by
 unfold cI at *
 split at hk
 ·unfold shape at *
  split at hk
  ·exact aCI (fun _=>hK _) hk
  ·exact aBB (fun _=>hK _) hk
  ·exact aC8 (fun _=>hK _) hk
  ·exact hK _ hk
 ·exact hK _ hk
theorem nE {sz:Nat} {x:AV} {h:aA} {K K':List AV→Nat→Prop} (hK:∀ v n,K v n→K' v n) (hk:d5 sz x h K):d5 sz x h K':=by
 unfold d5 at *
 split at hk
 ·exact hK _ _ hk
 ·exact lD (fun v hv=>hK _ _ hv) hk
 ·exact ⟨hk.1,hK _ _ hk.2⟩
 ·exact hk
theorem qJ {sz:Nat} {x:AV} {lo hi mx:Option AV} {h:aA} {K K':AV→Prop} (hK:∀ v,K v→K' v) (hk:bJ sz x lo hi mx h K):bJ sz x lo hi mx h K':=by
 unfold bJ at *
 split at hk
 ·exact cN (fun m hm=>cN (fun j hj=>cN (fun i hi=>⟨hi.1,hi.2.1,hi.2.2.1,hi.2.2.2.1,hK _ hi.2.2.2.2⟩) hj) hm) hk
 ·refine ⟨hk.1, hk.2.1, cN (fun j hj => cN (fun i hi => ⟨hi.1, ?_⟩) hj) hk.2.2⟩
  obtain ⟨b,h1,h2,h3,h4,h5⟩:=hi.2
  refine ⟨b,h1,h2,h3,h4, ?_⟩
  cases mx with
  | none=>exact ⟨h5.1,hK _ h5.2⟩
  | some m=>exact cN (fun m hm=>⟨hm.1,hm.2.1,hK _ hm.2.2⟩) h5
 ·exact hk
theorem r9 {kt el:TypeId} {ok:Bool} {x k:AV} {h:aA} {K K':AV→Prop} (hK:∀ v,K v→K' v) (hk:eL P kt el ok x k h K):eL P kt el ok x k h K':=by
 unfold eL at *
 refine ⟨hk.1, ?_⟩
 have hk:=hk.2
 split at hk
 ·exact hk.elim
 ·split at hk
  ·exact hK _ hk
  ·split at hk
   ·exact hK _ hk
   ·exact hk.elim
  ·exact hk.elim
theorem lN {kt:TypeId} {x k v:AV} {h:aA} {K K':aA→Prop} (hK:∀ h,K h→K' h) (hk:fV P kt x k v h K):fV P kt x k v h K':=by
 unfold fV at *
 split at hk
 ·obtain ⟨h1, h2, b, es, h3, h4, hk⟩ := hk
  refine ⟨h1,h2,b,es,h3,h4, ?_⟩
  split at hk
  ·exact ⟨hk.1,hK _ hk.2⟩
  ·exact hK _ hk
  ·exact hk.elim
 ·exact hk.elim
theorem mR {o : Oper} {e : Env} {h : aA} {K K' : AV → Prop} (hK : ∀ v, K v → K' v) (hk : bK P o e h K) : bK P o e h K' := by
  obtain ⟨dst,op,type,pos,after,guard⟩:=o
  cases op with
  | move x=>exact hK _ hk
  | assign x=>exact hK _ hk
  | pick c x y=>exact oN (hK _) (hK _) hk
  | load t x =>
    simp only [bK] at *
    split at hk
    · unfold dW at *
      split at hk
      · obtain ⟨b,h1,h2,h3⟩:=hk; exact ⟨b,h1,h2,hK _ h3⟩
      · exact hk
    · unfold aB at *
      split at hk
      · obtain ⟨b,h1,h2,h3⟩:=hk; exact ⟨b,h1,h2,hK _ h3⟩
      · exact hk
    · exact hk
  | nilCheck x =>
    simp only [bK] at *
    unfold aZ at *
    split at hk <;> first | exact hk | exact hK _ hk
  | binOp op t x y yt=>exact z7 hK hk
  | unOp op t x =>
    simp only [bK] at *
    unfold pUn at *
    split at hk <;> first | exact hk | exact hK _ hk
  | convert src dst' x =>
    simp only [bK] at *
    split at hk
    · unfold pA at *
      split at hk <;> first | exact hk | exact hK _ hk
    · unfold oT at *
      split at hk <;> first | exact hk | exact hK _ hk
    · split at hk
      · exact lD (fun cs hc=>⟨hc.1,hK _ hc.2⟩) hk
      · exact hk
    · rename_i t h1 h2
      cases hz:Nat.beq (P.cellsOf t) 0 with
      | true=>rw [hz] at hk; exact hk.elim
      | false =>
        rw [hz] at hk
        simp only [cond_false] at hk ⊢
        unfold oG at *
        split at hk
        · exact hK _ hk
        · obtain ⟨b,h1,h2,h3⟩:=hk; exact ⟨b,h1,h2,hK _ h3⟩
        · exact hk.elim
    · rename_i u h1 h2
      obtain ⟨hu,hk⟩:=aG hk
      simp only [hu,cond_true]
      unfold gB at *
      split at hk
      · exact hK _ hk
      · obtain ⟨b,t,g1,g2,g3,g4,g5,g6⟩:=hk; exact ⟨b,t,g1,g2,g3,g4,g5,hK _ g6⟩
      · exact hk.elim
    · exact hk
  | makeInterface t x =>
    simp only [bK] at *
    split at hk <;> first | exact hk | exact hK _ hk
  | makeFunc f a b=>exact hK _ hk
  | lookup t x ix ok =>
    simp only [bK] at *
    split at hk
    · obtain ⟨h1, h2⟩ := aG hk
      simp only [h1,cond_true]
      exact r9 hK h2
    · exact hk
  | slice t x lo hi mx =>
    simp only [bK] at *
    split at hk
    · split at hk
      · unfold b8 at *
        split at hk
        · exact cN (fun m hm=>cN (fun n hn=>⟨hn.1,hn.2.1,hK _ hn.2.2⟩) hm) hk
        · exact hk
      · exact hk
    · obtain ⟨h1, h2⟩ := aG hk
      simp only [h1,cond_true]
      exact qJ hK h2
    · split at hk
      · obtain ⟨h1, h2⟩ := aG hk
        simp only [h1,cond_true]
        unfold j0 at *
        split at h2
        · exact ⟨h2.1,cN (fun j hj=>cN (fun i hi=>by
            obtain ⟨g1,g2,b,g3,g4,g5,g6⟩:=hi
            exact ⟨g1,g2,b,g3,g4,g5,hK _ g6⟩) hj) h2.2⟩
        · exact h2
      · exact hk
    · exact hk
  | fieldAddr t x f =>
    simp only [bK] at *
    split at hk
    · split at hk
      · rename_i fl _
        cases hz:Nat.beq (P.cellsOf fl.type) 0 with
        | true=>rw [hz] at hk; exact hk.elim
        | false =>
          rw [hz] at hk
          simp only [cond_false] at hk ⊢
          unfold aC at *
          split at hk <;> first | exact hk | exact hK _ hk
      · exact hk
    · exact hk
  | field t x f =>
    simp only [bK] at *
    split at hk
    · split at hk
      · split at hk
        · unfold jZ at *
          split at hk <;> first | exact hk | exact hK _ hk
        · unfold oH at *
          split at hk <;> first | exact hk | exact ⟨hk.1,hK _ hk.2⟩
        · exact hk
      · exact hk
    · exact hk
  | indexAddr t x ix =>
    simp only [bK] at *
    split at hk
    · obtain ⟨h1, h2⟩ := aG hk
      simp only [h1,cond_true]
      unfold aW at *
      split at h2
      · exact ⟨h2.1,h2.2.1,h2.2.2.1,hK _ h2.2.2.2⟩
      · exact h2
    · obtain ⟨h1, h2⟩ := aG hk
      simp only [h1,cond_true]
      unfold bG at *
      split at h2
      · exact ⟨h2.1,h2.2.1,hK _ h2.2.2⟩
      · exact h2
    · exact hk
  | index t x ix =>
    simp only [bK] at *
    split at hk
    · unfold eZ at *
      split at hk
      · exact ⟨hk.1,hk.2.1,hK _ hk.2.2⟩
      · exact hk
    · split at hk
      · obtain ⟨h1, h2⟩ := aG hk
        simp only [h1,cond_true]
        unfold lV at *
        split at h2
        · exact ⟨h2.1,h2.2.1,h2.2.2.1,hK _ h2.2.2.2⟩
        · exact h2
      · exact hk
    · exact hk
  | build t parts =>
    simp only [bK] at *
    split at hk
    · unfold iG at *
      split at hk <;> first | exact hk | exact hK _ hk
    · exact hk
  | extract x i =>
    simp only [bK] at *
    unfold aP at *
    split at hk
    · exact ⟨hk.1,hK _ hk.2⟩
    · exact hk
  | call c =>
    obtain ⟨callee,args,argTypes⟩:=c
    cases callee with
    | builtin b =>
      cases b <;> first | exact False.elim hk | skip
      case len=>
        simp only [bK] at *
        split at hk
        · split at hk
          · unfold oJ at *
            split at hk <;> first | exact hk | exact hK _ hk
          · exact hk
        · split at hk
          · unfold bV at *
            split at hk <;> first | exact hk | exact hK _ hk
          · exact hk
        · split at hk <;> first | exact hk | exact hK _ hk
        · exact hk
      case min=>
        simp only [bK] at *
        unfold pMM at *
        split at hk <;> first | exact hk | exact hK _ hk
      case max=>
        simp only [bK] at *
        unfold pMM at *
        split at hk <;> first | exact hk | exact hK _ hk
    | _=>exact False.elim hk
  | _=>exact False.elim hk
theorem lH {ty:Option TypeId} {sz bytes:Nat} {s x:AV} {h:aA} {K K':AV→aA→Prop} (hK:∀ v h,K v h→K' v h) (hk:bT ty sz bytes s x h K):bT ty sz bytes s x h K':=by
 refine ⟨hk.1,nE (fun news k hk=>?_) hk.2⟩
 split at hk
 ·refine ⟨hk.1, hk.2.1, ?_⟩
  have:=hk.2.2
  split at this
  ·rename_i h0; rw [if_pos h0]; exact hK _ _ this
  ·rename_i h0; rw [if_neg h0]; exact hK _ _ this
 ·obtain ⟨h1, h2, b, h3, h4, h5, h6⟩ := hk
  refine ⟨h1,h2,b,h3,h4,h5, ?_⟩
  rcases h6 with h | h | h | h | h
  ·exact .inl ⟨h.1,hK _ _ h.2⟩
  ·exact .inr (.inl ⟨h.1,h.2.1,hK _ _ h.2.2⟩)
  ·obtain ⟨a1, a2, a3, a4, a5, a6, a7⟩ := h
   exact .inr (.inr (.inl ⟨a1,a2,a3,a4,a5,a6,hK _ _ a7⟩))
  ·obtain ⟨a1, a2, a3, a4, a5, a6, a7, a8, a9, a10⟩ := h
   exact .inr (.inr (.inr (.inl ⟨a1,a2,a3,a4,a5,a6,a7,a8,a9,hK _ _ a10⟩)))
  ·obtain ⟨a1, a2, a3, a4, a5, a6, a7⟩ := h
   exact .inr (.inr (.inr (.inr ⟨a1,a2,a3,a4,a5,a6,hK _ _ a7⟩)))
 ·exact hk
theorem wG {sz:Nat} {s x:AV} {h:aA} {K K':AV→aA→Prop} (hK:∀ v h,K v h→K' v h) (hk:kA sz s x h K):kA sz s x h K':=by
 refine ⟨hk.1,nE (fun news k hk=>?_) hk.2⟩
 split at hk
 ·exact hK _ _ hk
 ·obtain ⟨b, h1, h2, h3, h4, h5, h6, h7⟩ := hk
  exact ⟨b,h1,h2,h3,h4,h5,h6,hK _ _ h7⟩
 ·exact hk
theorem zN {R R' : aS} (hR : RLe R R') {o : Oper} {e : Env} {h : aA} {K K' : AV → aA → Prop} (hK : ∀ v h, K v h → K' v h) (hk : dI P R o e h K) : dI P R' o e h K' := by
  obtain ⟨dst,op,type,pos,after,guard⟩:=o
  cases op <;> first | exact False.elim hk | skip
  case alloc t=>
    simp only [dI] at *
    split at hk <;> first | exact hk | exact hK _ _ hk
  case box t x=>exact ⟨hk.1,hK _ _ hk.2⟩
  case buildSlice t len parts=>
    simp only [dI] at *
    split at hk
    · split at hk
      · obtain ⟨h1, h2⟩ := aG hk
        simp only [h1,cond_true]
        unfold bP at *
        split at h2
        · exact ⟨h2.1,hK _ _ h2.2⟩
        · exact h2
      · exact hk
    · exact hk
  case store t a x=>
    simp only [dI] at *
    split at hk
    · unfold aU at *
      split at hk
      · obtain ⟨b, h1, h2, h3, h4, h5, h6, h7, h8, h9⟩ := hk
        exact ⟨b,h1,h2,h3,h4,h5,h6,h7,h8,hK _ _ h9⟩
      · exact hk
    · exact hk
  case convert src dst' x=>
    simp only [dI] at *
    split at hk
    · split at hk
      · unfold mI at *
        split at hk <;> first | exact hk | exact hK _ _ hk
      · exact hk
    · exact hk
  case makeMap t r=>
    cases r with
    | some r=>exact False.elim hk
    | none =>
      simp only [dI] at *
      split at hk
      · exact hK _ _ hk
      · exact hk
  case mapUpdate t m k x=>
    simp only [dI] at *
    split at hk
    · obtain ⟨h1, h2⟩ := aG hk
      simp only [h1,cond_true]
      exact lN (hK _) h2
    · exact hk
  case insert t m k x=>
    simp only [dI] at *
    split at hk
    · obtain ⟨h1, h2⟩ := aG hk
      simp only [h1,cond_true]
      exact lN (hK _) h2
    · exact hk
  case makeSlice t l c=>
    simp only [dI] at *
    split at hk
    · split at hk
      · unfold nM at *
        split at hk
        · obtain ⟨h1, h2, h3, h4, h5, h6, h7⟩ := hk
          exact ⟨h1,h2,h3,h4,h5,h6,hK _ _ h7⟩
        · exact hk
      · exact hk
    · exact hk
  case call c =>
    obtain ⟨callee,args,argTypes⟩:=c
    cases callee with
    | invoke r m =>
      simp only [dI] at *
      unfold tA at *
      split at hk
      · split at hk
        · obtain ⟨h1, h2⟩ := aG hk
          unfold kH
          rw [h1]
          exact hR _ _ _ _ _ hK h2
        · exact hk.elim
      · exact hk.elim
    | builtin b =>
      cases b <;> first | exact False.elim hk | skip
      case append=>
        simp only [dI] at *
        split at hk
        · obtain ⟨h1, h2⟩ := aG hk
          simp only [h1,cond_true]
          exact lH hK h2
        · obtain ⟨h1, h2⟩ := aG hk
          simp only [h1,cond_true]
          exact lH hK h2
        · split at hk
          · unfold k7 at *
            split at hk
            · exact ⟨hk.1,hk.2.1,hk.2.2.1,hk.2.2.2.1,hk.2.2.2.2.1,hK _ _ hk.2.2.2.2.2⟩
            · exact hk.elim
          · exact hk.elim
        · exact hk
      case cap=>
        simp only [dI] at *
        split at hk
        · unfold wF at *
          split at hk
          · exact hK _ _ hk
          · exact hK _ _ hk
          · rcases hk with ⟨b, c, q1, q2, q3, q4, q5, q6, q7, q8⟩ | hk
            · exact .inl ⟨b,c,q1,q2,q3,q4,q5,q6,q7,hK _ _ q8⟩
            · exact .inr fun c hc=>hK _ _ (hk c hc)
          · exact hk.elim
        · exact hk.elim
      case unsafeSliceData=>
        simp only [dI] at *
        split at hk
        · unfold kN at *
          split at hk
          · exact hK _ _ hk
          · exact ⟨hk.1,hK _ _ hk.2⟩
          · exact hk.elim
        · exact hk.elim
      case unsafeString=>
        simp only [dI] at *
        split at hk
        · obtain ⟨h1, h2⟩ := aG hk
          simp only [h1,cond_true]
          unfold o8 at *
          split at h2
          · exact ⟨h2.1,hK _ _ h2.2⟩
          · obtain ⟨b, t, q1, q2, q3, q4, q5, q6, q7, q8, q9, q10, q11, q12⟩ := h2
            exact ⟨b,t,q1,q2,q3,q4,q5,q6,q7,q8,q9,q10,q11,hK _ _ q12⟩
          · exact h2.elim
        · exact hk.elim
      case copy=>
        simp only [dI] at *
        split at hk
        · obtain ⟨h1, h2⟩ := aG hk
          simp only [h1,cond_true]
          exact wG hK h2
        · exact hk
    | value f =>
      have c:∀ {g:FuncId} {l:List AV},kH R g l h K→kH R' g l h K':=fun {g l} hk=>by
        obtain ⟨h1,h2⟩:=aG hk
        unfold kH
        rw [h1]
        exact hR _ _ _ _ _ hK h2
      have v:∀ {g:AV},bU R g (args.toList.map (ev e h)) h K→bU R' g (args.toList.map (ev e h)) h K':=fun {g} hk=>by
        unfold bU at hk
        split at hk
        · exact c hk
        · exact hR _ _ _ _ _ hK hk
        · exact hk.elim
      cases f with
      | func g=>exact c hk
      | tmp t=>exact v hk
      | const c=>exact v hk
      | global c=>exact v hk
theorem uW {R R':aS} (hR:RLe R R') {o:Oper} {e:Env} {h:aA} {K K':AV→aA→Prop} (hK:∀ v h,K v h→K' v h) (hk:aop P R o e h K):aop P R' o e h K':=by
 unfold aop at *
 cases hb:fQ P o with
 | true=>rw [hb] at hk; exact zN hR hK hk
 | false=>rw [hb] at hk; exact mR (K:=fun v=>K v h) (fun v hv=>hK _ _ hv) hk
theorem nO {want x:Bool} {A B A' B':Prop} (hA:A→A') (hB:B→B') (h:oP want x A B):oP want x A' B':=by
 cases want <;> cases x <;> first | exact hA h | exact hB h
theorem jU {ops:Array Oper} {o:Oper} {e:Env} {A B A' B':Env→Prop} (hA:∀ e,A e→A' e) (hB:∀ e,B e→B' e) (h:fM ops o e A B):fM ops o e A' B':=by
 unfold fM at *
 split at h
 ·exact hA _ h
 ·split at h
  ·exact hB _ h
  ·split at h
   ·exact nO (hA _) (hB _) h
   ·exact hB _ h
   ·exact h
theorem m7 {R R':aS} (hR:RLe R R') {nt:Nat} {ops:Array Oper} {K K':Env→aA→Prop} (hK:∀ e h,K e h→K' e h):∀ (l:List Oper) (e:Env) (h:aA),uA P R nt ops l e h K→uA P R' nt ops l e h K'
 | [],e,h,hk=>hK _ _ hk
 | o :: l, e, h, hk => by
  obtain ⟨h1,h2⟩:=aG hk
  simp only [uA,h1,cond_true]
  exact jU (fun e=>uW hR fun v h hv=>fY (fun v hv=>m7 hR hK l _ _ hv) hv) (fun e=>m7 hR hK l _ _) h2
theorem fA {X A A':Prop} (hA:A→A') (h:X∧A):X∧A':=⟨h.1,hA h.2⟩
theorem wY {ops:Array Oper} {o:Oper} {e:Env} {h:aA} {A A':Prop} (hA:A→A') (hk:rT P ops o e h A):rT P ops o e h A':=by
 have go:(bK P o (restr (o.looksAt ops) e) h fun v=>cI P o v fun v=>cW e o.dst v∧A)→(bK P o (restr (o.looksAt ops) e) h fun v=>cI P o v fun v=>cW e o.dst v∧A'):=
  mR fun v hv=>fY (fun v hv=>fA hA hv) hv
 unfold rT at *
 split at hk
 ·exact go hk
 ·split at hk
  ·exact fA hA hk
  ·split at hk
   ·exact nO go (fA hA) hk
   ·exact fA hA hk
   ·exact hk
theorem f8 {ops:Array Oper} {i:Nat} {e:Env} {h:aA} {A A':Prop} (hA:A→A'):∀ {D:List Nat},gJ P ops i e h A D→gJ P ops i e h A' D
 | [],hk=>hA hk
 | k :: D, hk => by
  unfold gJ at *
  split at hk
  ·exact f8 hA hk
  ·rename_i o _
   cases hc:iR P o && !fQ P o && !kU ops i k with
   | true=>rw [hc] at hk; exact wY (f8 hA) hk
   | false=>rw [hc] at hk; exact f8 hA hk
theorem aAK {R R' : aS} (hR : RLe R R') {nt : Nat} {ops : Array Oper} {K K' : Env → aA → Prop} (hK : ∀ e h, K e h → K' e h) : ∀ (ord : Ord) (D : List Nat) (e : Env) (h : aA), fB P R nt ops ord D e h K → fB P R' nt ops ord D e h K' := by
 intro ord
 induction ord with
 | done=>intro D e h hk; exact hK _ _ hk
 | stop=>intro D e h hk; trivial
 | neu i r ih =>
  intro D e h hk
  unfold fB at hk ⊢
  split at hk
  ·exact hk
  ·exact gO (jU (fun e=>mR fun v hv=>fY (fun v hv=>ih _ _ _ hv) hv) (fun e=>ih _ _ _)) hk
 | eff i r alt ihr iha =>
  intro D e h hk
  unfold fB at hk ⊢
  split at hk
  ·exact hk
  ·rename_i o _
   refine gO ?_ hk
   have now:y7 P R nt ops i o r D e h K→y7 P R' nt ops i o r D e h K':=by
    refine jU (fun e=>uW hR fun v h' hv=>fY (fun v hv=>?_) hv) (fun e=>ihr _ _ _)
    revert hv
    cases fQ P o with
    | true=>exact f8 (ihr _ _ _)
    | false=>exact ihr _ _ _
   intro hk
   cases hs:alt.isStop with
   | true=>rw [hs] at hk; exact now hk
   | false=>rw [hs] at hk; exact ⟨now hk.1,iha _ _ _ hk.2⟩
theorem wO {F F':(Env→aA→Prop)→Env→aA→Prop} (hF:∀ I e h,F I e h→F' I e h) {e:Env} {h:aA} (hk:kE F e h):kE F' e h:=
 fun I hI=>hk I fun e h hx=>hI e h (hF I e h hx)
theorem uQ {F F':(Nat→Env→aA→Prop)→Nat→Env→aA→Prop} (hF:∀ I l e h,F I l e h→F' I l e h) {l:Nat} {e:Env} {h:aA} (hk:iE F l e h):iE F' l e h:=
 fun I hI=>hk I fun l e h hx=>hI l e h (hF I l e h hx)
theorem kP {x:Code} {I I':Nat→Env→aA→Prop} (hI:∀ l e h,I l e h→I' l e h) {K K':Kx} (hK:∀ x e h,K x e h→K' x e h) (ex:Exit) (e:Env) (h:aA) (hk:dJ x I K ex e h):dJ x I' K' ex e h:=by
 cases ex with
 | goto l =>
  simp only [dJ] at *
  revert hk
  cases lQ x l
  ·exact hK _ _ _
  ·exact hI _ _ _
 | _=>exact hK _ _ _ hk
theorem nH {R R' : aS} (hR : RLe R R') {nt : Nat} : ∀ (c : Code),
  (∀ (ann:Ann) (e:Env) (h:aA) (K K':Kx),(∀ x e h,K x e h→K' x e h)→bX P R nt ann c e h K→bX P R' nt ann c e h K') ∧
  (∀ (ann:Ann) (l:Nat) (e:Env) (h:aA) (K K':Kx),(∀ x e h,K x e h→K' x e h)→aFrom P R nt ann c l e h K→aFrom P R' nt ann c l e h K'):=by
 intro c
 induction c with
 | skip =>
  refine ⟨?_, ?_⟩
  ·intro ann e h K K' hK hk; exact hK _ _ _ hk
  ·intro ann l e h K K' hK hk; simp only [aFrom] at hk
 | region id ops draw =>
  refine ⟨?_, ?_⟩
  ·intro ann e h K K' hK hk
   simp only [bX] at *
   cases draw with
   | false=>exact m7 hR (hK _) _ _ _ hk
   | true =>
    simp only [cond_true] at *
    obtain ⟨h1,h2⟩:=aG hk
    simp only [h1,cond_true]
    exact aAK hR (fun e h he=>hK _ _ _ he) _ _ _ _ h2
  ·intro ann l e h K K' hK hk; simp only [aFrom] at hk
 | seq x y ihx ihy =>
  refine ⟨?_, ?_⟩
  ·intro ann e h K K' hK hk
   simp only [bX] at *
   refine ihx.1 _ _ _ _ _ (fun ex e h hx=>?_) hk
   cases ex with
   | normal=>exact ihy.1 _ _ _ _ _ hK hx
   | _=>exact hK _ _ _ hx
  ·intro ann l e h K K' hK hk
   simp only [aFrom] at *
   revert hk
   cases lQ x l
   ·exact ihy.2 _ _ _ _ _ _ hK
   ·refine ihx.2 _ _ _ _ _ _ (fun ex e h hx => ?_)
    cases ex with
    | normal=>exact ihy.1 _ _ _ _ _ hK hx
    | _=>exact hK _ _ _ hx
 | cond c x y ihx ihy =>
  refine ⟨?_, ?_⟩
  ·intro ann e h K K' hK hk
   exact oN (ihx.1 _ _ _ _ _ hK) (ihy.1 _ _ _ _ _ hK) hk
  ·intro ann l e h K K' hK hk; simp only [aFrom] at hk
 | block id x ih =>
  refine ⟨?_, ?_⟩
  ·intro ann e h K K' hK hk
   simp only [bX] at *
   refine ih.1 _ _ _ _ _ (fun ex e h hx=>?_) hk
   cases ex with
   | exit id' =>
    simp only [fL] at *
    revert hx
    cases Nat.beq id' id <;> exact hK _ _ _
   | _=>exact hK _ _ _ hx
  ·intro ann l e h K K' hK hk; simp only [aFrom] at hk
 | scope x ih =>
  refine ⟨?_, ?_⟩
  ·intro ann e h K K' hK hk
   simp only [bX] at *
   cases hg:kO x with
   | false =>
    rw [hg] at hk
    refine ih.1 _ _ _ _ _ (fun ex e h hx=>?_) hk
    cases ex <;> first | exact hx.elim | exact hK _ _ _ hx
   | true =>
    rw [hg] at hk
    refine ih.1 _ _ _ _ _ (kP (fun l e h hx=>?_) hK) hk
    exact uQ (fun I l e h hx=>ih.2 _ _ _ _ _ _ (kP (fun _ _ _ h=>h) hK) hx) hx
  ·intro ann l e h K K' hK hk; simp only [aFrom] at hk
 | loop x ih =>
  refine ⟨?_, ?_⟩
  ·intro ann e h K K' hK hk
   simp only [bX] at *
   refine wO (fun I e h hx=>ih.1 _ _ _ _ _ (fun ex e h hx=>?_) hx) hk
   cases ex with
   | normal=>exact hx
   | _=>exact hK _ _ _ hx
  ·intro ann l e h K K' hK hk; simp only [aFrom] at hk
 | exit id =>
  refine ⟨?_, ?_⟩
  ·intro ann e h K K' hK hk; exact hK _ _ _ hk
  ·intro ann l e h K K' hK hk; simp only [aFrom] at hk
 | label l =>
  refine ⟨?_, ?_⟩
  ·intro ann e h K K' hK hk; exact hK _ _ _ hk
  ·intro ann l1 e h K K' hK hk
   simp only [aFrom] at *
   revert hk
   cases Nat.beq l l1
   ·exact id
   ·exact hK _ _ _
 | ret =>
  refine ⟨?_, ?_⟩
  ·intro ann e h K K' hK hk; exact hK _ _ _ hk
  ·intro ann l e h K K' hK hk; simp only [aFrom] at hk
 | goto l =>
  refine ⟨?_, ?_⟩
  ·intro ann e h K K' hK hk; exact hK _ _ _ hk
  ·intro ann l e h K K' hK hk; simp only [aFrom] at hk
 | _ =>
  refine ⟨?_, ?_⟩
  ·intro ann e h K K' hK hk; exact False.elim hk
  ·intro ann l e h K K' hK hk; simp only [aFrom] at hk
theorem kK {R R':aS} (hR:RLe R R') {nt:Nat} (c:Code) (ann:Ann) (e:Env) (h:aA) (K K':Kx):(∀ x e h,K x e h→K' x e h)→bX P R nt ann c e h K→bX P R' nt ann c e h K':=
 (nH hR c).1 ann e h K K'
theorem t7 {R:aS} (hR:RLe R R) {nt:Nat} {ann:Ann} {x:Code} {K:Kx} {l:Nat} {e:Env} {h:aA}
  (hk:aFrom P R nt ann x l e h (dJ x (iE fun I l e h=>aFrom P R nt ann x l e h (dJ x I K)) K)):iE (fun I l e h=>aFrom P R nt ann x l e h (dJ x I K)) l e h:=by
 intro I hI
 exact hI _ _ _ ((nH hR x).2 _ _ _ _ _ _ (kP (fun l e h hx=>hx I hI) (fun _ _ _ h=>h)) hk)
theorem zD {h:aA} {e:Env} {r:ResultVar} {K K':AV→Prop} (hK:∀ v,K v→K' v) (hk:aAY P h e r K):aAY P h e r K':=by
 cases r with
 | tmp t=>exact hK _ hk
 | cell x t =>
  simp only [aAY] at *
  split at hk
  ·unfold dW at *
   split at hk
   ·obtain ⟨b,h1,h2,h3⟩:=hk; exact ⟨b,h1,h2,hK _ h3⟩
   ·exact hk
  ·unfold aB at *
   split at hk
   ·obtain ⟨b,h1,h2,h3⟩:=hk; exact ⟨b,h1,h2,hK _ h3⟩
   ·exact hk
  ·exact hk
theorem nW {h:aA} {e:Env}:∀ {rs:List ResultVar} {K K':List AV→Prop},(∀ v,K v→K' v)→kV P h e rs K→kV P h e rs K'
 | [],_,_,hK,hk=>hK _ hk
 | r :: rs,_,_,hK,hk=>zD (fun v hv=>nW (fun vs hvs=>hK _ hvs) hv) hk
theorem y5 {h0:aA} {K K':AV→aA→Prop} (hK:∀ v h,K v h→K' v h) {r:AV} {h:aA} (hk:aK h0 K r h):aK h0 K' r h:=by
 rcases hk with hk | ⟨keep,h1,h2,h3,h4,h5,h6⟩
 ·exact .inl (hK _ _ hk)
 ·exact .inr ⟨keep,h1,h2,h3,h4,h5,hK _ _ h6⟩
theorem y4 {fn:Func} {K K':AV→aA→Prop} (hK:∀ v h,K v h→K' v h) {x:Exit} {e:Env} {h:aA} (hk:oB P fn K x e h):oB P fn K' x e h:=by
 cases x <;> first | exact nW (fun vs hv=>hK _ _ hv) hk | exact hk.elim
theorem aEF {R R':aS} (hR:RLe R R') {f:FuncId} {args:List AV} {h:aA} {K K':AV→aA→Prop} (hK:∀ v h,K v h→K' v h) (hk:aF P R f args h K):aF P R' f args h K':=by
 obtain ⟨fn,body,ann,h1,h2,h3,h4,h5⟩:=hk
 exact ⟨fn,body,ann,h1,h2,h3,h4,kK hR _ _ _ _ _ _ (fun x e h hx=>y4 (fun v h hv=>y5 hK hv) hx) h5⟩
theorem wK {X:aS} {f:FuncId} {args:List AV} {h:aA} {K K':AV→aA→Prop} (hK:∀ v h,K v h→K' v h) (hk:dO P X f args h K):dO P X f args h K':=
 fun R hm hX hF=>hm _ _ _ _ _ hK (hk R hm hX hF)
theorem xH {X:aS} {f:FuncId} {args:List AV} {h:aA} {K:AV→aA→Prop} (hk:aF P (dO P X) f args h K):dO P X f args h K:=by
 intro R hm hX hF
 refine hF _ _ _ _ (aEF (fun f args h K K' hK hk=>hm _ _ _ _ _ hK (hk R hm hX hF)) (fun v h hv=>hv) hk)
theorem xL {R:aS} (hR:RLe R R) {nt:Nat} {ann:Ann} {x:Code} {K K':Kx} (hK:∀ x e h,K x e h→K' x e h) {I I':Env→aA→Prop} (hI:∀ e h,I e h→I' e h) {e:Env} {h:aA}
  (hk:jQ P R nt ann x K I e h):jQ P R nt ann x K' I' e h:=by
 refine kK hR _ _ _ _ _ _ (fun x e h hx=>?_) hk
 cases x with
 | normal=>exact hI _ _ hx
 | _=>exact hK _ _ _ hx
theorem wH {R:aS} (hR:RLe R R) {nt:Nat} {ann:Ann} {x:Code} {K:Kx} {e:Env} {h:aA} (hk:jQ P R nt ann x K (kE (jQ P R nt ann x K)) e h):kE (jQ P R nt ann x K) e h:=by
 intro I hI
 exact hI _ _ (xL hR (fun _ _ _ h=>h) (fun e h hx=>hx I hI) hk)
theorem eE {R:aS} (hR:RLe R R) {nt:Nat}:∀ (path:List Nat) (ann:Ann) (c:Code) (e:Env) (h:aA) (K:Kx),aAt P R nt .round path ann c e h K→aAt P R nt .head path ann c e h K
 | [], ann, c, e, h, K, hk => by
  unfold aAt at *
  cases c <;> first | exact hk.elim | exact wH hR hk
 | d :: path, ann, c, e, h, K, hk => by
  unfold aAt at *
  cases c <;> first | exact hk.elim | skip
  case seq x y=>
   revert hk
   simp only
   cases Nat.beq d 0 <;> exact eE hR path _ _ _ _ _
  case cond c x y=>
   revert hk
   simp only
   cases Nat.beq d 0 <;> exact eE hR path _ _ _ _ _
  case block id x=>exact eE hR path _ _ _ _ _ hk
  case scope x=>
   revert hk
   simp only
   cases kO x <;> exact eE hR path _ _ _ _ _
  case loop x=>exact eE hR path _ _ _ _ _ hk
theorem g9 (X:aS):RLe (dO P X) (dO P X):=fun f args h K K' hK hk=>wK hK hk
end
end Go.GAM
namespace Go.GAM
abbrev JT:=Nat→Env→aA→Prop
def aN (n:Int) (K:Int→Prop):Prop:=K n
def aCN (b:Bool) (K:Bool→Prop):Prop:=K b
def toL (J : JT) (ann : Ann) (c : Code) (l : Nat) (e : Env) (h : aA) : Prop :=
 match c with
 | .seq x y => bif lQ x l then (match x with
   | .label _=>bif Nat.beq ann.j 0 then False else J ann.j (restr ann.live e) h
   | x=>toL J ann.a x l e h)
  else toL J ann.b y l e h
 | _=>False
def exJ (P : Program) (R : aS) (nt : Nat) (J : JT) (ann : Ann) (c : Code) (e : Env) (h : aA) (K : Kx) : Prop :=
 match c with
 | .skip=>K .normal e h
 | .region _ ops draw =>
  bif draw then (bif fP ops true ann.o [] then fB P R nt ops ann.o [] e h (K .normal) else False)
  else uA P R nt ops ops.toList e h (K .normal)
 | .seq x y=>exJ P R nt J ann.a x e h (j7 (fun e h=>bif Nat.beq ann.j 0 then exJ P R nt J ann.b y (restr ann.live e) h K else J ann.j (restr ann.live e) h) K)
 | .cond c x y=>aIf (ev e h c) (exJ P R nt J ann.a x e h K) (exJ P R nt J ann.b y e h K)
 | .block id x=>exJ P R nt J ann.a x e h (fL id K)
 | .scope x=>bif kO x then exJ P R nt J ann.a x e h (dJ x (fun l e h=>toL J ann.a x l e h) K) else exJ P R nt J ann.a x e h (mM K)
 | .loop _=>J ann.j (restr ann.live e) h
 | .exit id=>K (.exit id) e h
 | .label _=>K .normal e h
 | .goto l=>K (.goto l) e h
 | .ret=>K .ret e h
 | _=>False
def atJ (P : Program) (R : aS) (nt : Nat) (J : JT) (round : Bool) : List Nat → Ann → Code → Env → aA → Kx → Prop
 | [], ann, c, e, h, K =>
  match round with
  | false=>exJ P R nt J ann c e h K
  | true => match c with
   | .loop x=>exJ P R nt J ann.a x e h (j7 (fun e h=>J ann.j (restr ann.live e) h) K)
   | _=>False
 | d :: path, ann, c, e, h, K =>
  match c with
  | .seq x y=>bif Nat.beq d 0 then atJ P R nt J round path ann.a x e h (j7 (fun e h=>bif Nat.beq ann.j 0 then exJ P R nt J ann.b y (restr ann.live e) h K else J ann.j (restr ann.live e) h) K)
    else atJ P R nt J round path ann.b y e h K
  | .cond _ x y=>bif Nat.beq d 0 then atJ P R nt J round path ann.a x e h K else atJ P R nt J round path ann.b y e h K
  | .block id x=>atJ P R nt J round path ann.a x e h (fL id K)
  | .scope x=>bif kO x then atJ P R nt J round path ann.a x e h (dJ x (fun l e h=>toL J ann.a x l e h) K) else atJ P R nt J round path ann.a x e h (mM K)
  | .loop x=>atJ P R nt J round path ann.a x e h (j7 (fun e h=>J ann.j (restr ann.live e) h) K)
  | _=>False
def places:Ann→Code→List (Nat × List Nat × Bool)
 | ann,.seq x y=>(bif Nat.beq ann.j 0 then [] else [(ann.j,[1],false)])++(places ann.a x).map (fun q=>(q.1,0 :: q.2.1,q.2.2))++(places ann.b y).map (fun q=>(q.1,1 :: q.2.1,q.2.2))
 | ann,.cond _ x y=>(places ann.a x).map (fun q=>(q.1,0 :: q.2.1,q.2.2))++(places ann.b y).map (fun q=>(q.1,1 :: q.2.1,q.2.2))
 | ann,.block _ x=>(places ann.a x).map (fun q=>(q.1,0 :: q.2.1,q.2.2))
 | ann,.scope x=>(places ann.a x).map (fun q=>(q.1,0 :: q.2.1,q.2.2))
 | ann,.loop x=>(ann.j,[],true) :: (places ann.a x).map (fun q=>(q.1,0 :: q.2.1,q.2.2))
 | _,_=>[]
def aE4 (b:Bool):Way:=match b with | true=>.head | false=>.run
def iW:List (Nat × List Nat × Bool)→Nat→Option (List Nat × Bool)
 | [],_=>none
 | (k,v) :: r,n=>bif Nat.beq k n then some v else iW r n
def lU (P:Program) (R:aS) (nt:Nat) (ann:Ann) (c:Code) (K:Kx):JT:=fun k e h=>
 match iW (places ann c) k with
 | some (p,b)=>aAt P R nt (aE4 b) p ann c e h K
 | none=>False
def uK (n:Nat):List (Nat × List Nat × Bool)→Bool
 | []=>true
 | (k,_) :: r=>bif Nat.beq k n then false else uK n r
def aH:List (Nat × List Nat × Bool)→Bool
 | []=>true
 | (k,_) :: r=>bif uK k r then aH r else false
theorem rM {n:Nat}:∀ {l:List (Nat × List Nat × Bool)},uK n l=true→∀ v,(n,v) ∉ l
 | [],_,_=>by simp
 | (k, u) :: r, h, v => by
  unfold uK at h
  cases hb:Nat.beq k n with
  | true=>rw [hb] at h; cases h
  | false =>
   rw [hb] at h
   intro hm
   rcases List.mem_cons.1 hm with he | hm
   ·injection he with h1 _; subst h1; simp at hb
   ·exact rM h v hm
theorem rP : ∀ {l : List (Nat × List Nat × Bool)}, aH l = true → ∀ {k : Nat} {v : List Nat × Bool}, (k, v) ∈ l → iW l k = some v
 | [],_,_,_,h=>by cases h
 | (k0, u) :: r, hd, k, v, h => by
  unfold aH at hd
  cases hn:uK k0 r with
  | false=>rw [hn] at hd; cases hd
  | true =>
   rw [hn] at hd
   unfold iW
   rcases List.mem_cons.1 h with he | hm
   ·injection he with h1 h2; subst h1; subst h2; simp
   ·have hne : k0 ≠ k := fun e => rM hn v (e ▸ hm)
    rw [tD hne]
    exact rP hd hm
section
variable {P:Program}
def bR (P:Program) (R:aS) (nt:Nat) (J:JT) (ann:Ann) (c:Code) (K:Kx):Prop:=
 ∀ k p b,(k,p,b)∈places ann c→∀ e h,J k e h→aAt P R nt (aE4 b) p ann c e h K
theorem bR.act {R:aS} {nt:Nat} {ann:Ann} {c:Code} {K:Kx} (hd:aH (places ann c)=true):bR P R nt (lU P R nt ann c K) ann c K:=by
 intro k p b hm e h hJ
 unfold lU at hJ
 rw [rP hd hm] at hJ
 exact hJ
section
variable {R:aS} {nt:Nat} {J:JT} {ann:Ann} {x y:Code} {K:Kx}
theorem bR.seq1 (h:bR P R nt J ann (.seq x y) K):bR P R nt J ann.a x (j7 (fun e h=>bX P R nt ann.b y (restr ann.live e) h K) K):=fun k p b hm e hh hJ=>
 h k (0 :: p) b (by simp only [places,List.mem_append,List.mem_map]; exact .inl (.inr ⟨_,hm,rfl⟩)) e hh hJ
theorem bR.seq2 (h:bR P R nt J ann (.seq x y) K):bR P R nt J ann.b y K:=fun k p b hm e hh hJ=>
 h k (1 :: p) b (by simp only [places,List.mem_append,List.mem_map]; exact .inr ⟨_,hm,rfl⟩) e hh hJ
theorem bR.seqJ (h:bR P R nt J ann (.seq x y) K) (hj:Nat.beq ann.j 0=false) {e:Env} {hh:aA} (hJ:J ann.j e hh):bX P R nt ann.b y e hh K:=
 h ann.j [1] false (by simp only [places,List.mem_append,hj,cond_false]; exact .inl (.inl (by simp))) e hh hJ
theorem bR.cond1 {c:Operand} (h:bR P R nt J ann (.cond c x y) K):bR P R nt J ann.a x K:=fun k p b hm e hh hJ=>
 h k (0 :: p) b (by simp only [places,List.mem_append,List.mem_map]; exact .inl ⟨_,hm,rfl⟩) e hh hJ
theorem bR.cond2 {c:Operand} (h:bR P R nt J ann (.cond c x y) K):bR P R nt J ann.b y K:=fun k p b hm e hh hJ=>
 h k (1 :: p) b (by simp only [places,List.mem_append,List.mem_map]; exact .inr ⟨_,hm,rfl⟩) e hh hJ
theorem bR.block {id:Nat} (h:bR P R nt J ann (.block id x) K):bR P R nt J ann.a x (fL id K):=fun k p b hm e hh hJ=>
 h k (0 :: p) b (by simp only [places,List.mem_map]; exact ⟨_,hm,rfl⟩) e hh hJ
theorem bR.scope (hg:kO x=false) (h:bR P R nt J ann (.scope x) K):bR P R nt J ann.a x (mM K):=fun k p b hm e hh hJ=>by
 have:=h k (0 :: p) b (by simp only [places,List.mem_map]; exact ⟨_,hm,rfl⟩) e hh hJ
 simp only [aAt,hg,cond_false] at this
 exact this
theorem bR.scopeG (hg:kO x=true) (h:bR P R nt J ann (.scope x) K):bR P R nt J ann.a x (dJ x (iE fun I l e h=>aFrom P R nt ann.a x l e h (dJ x I K)) K):=fun k p b hm e hh hJ=>by
 have:=h k (0 :: p) b (by simp only [places,List.mem_map]; exact ⟨_,hm,rfl⟩) e hh hJ
 simp only [aAt,hg,cond_true] at this
 exact this
theorem bR.loop (h:bR P R nt J ann (.loop x) K):bR P R nt J ann.a x (j7 (fun e h=>kE (jQ P R nt ann x K) (restr ann.live e) h) K):=fun k p b hm e hh hJ=>
 h k (0 :: p) b (by simp only [places,List.mem_cons,List.mem_map]; exact .inr ⟨_,hm,rfl⟩) e hh hJ
theorem bR.loopJ (h:bR P R nt J ann (.loop x) K) {e:Env} {hh:aA} (hJ:J ann.j e hh):kE (jQ P R nt ann x K) e hh:=
 h ann.j [] true (by simp only [places,List.mem_cons]; exact .inl trivial) e hh hJ
end
theorem aC5 {R : aS} {nt : Nat} {J : JT} : ∀ (c : Code) (ann : Ann) (l : Nat) (e : Env) (h : aA) (K : Kx), bR P R nt J ann c K → toL J ann c l e h → aFrom P R nt ann c l e h K := by
 intro c
 induction c with
 | seq x y ihx ihy =>
  intro ann l e h K hM hk
  unfold toL at hk
  unfold aFrom
  cases hl:lQ x l with
  | true =>
   rw [hl] at hk
   simp only [cond_true] at hk ⊢
   split at hk
   ·rename_i l'
    cases hj:Nat.beq ann.j 0 with
    | true=>rw [hj] at hk; exact hk.elim
    | false =>
     rw [hj] at hk
     unfold aFrom
     unfold lQ at hl
     rw [hl]
     exact hM.seqJ hj hk
   ·exact ihx _ _ _ _ _ hM.seq1 hk
  | false =>
   rw [hl] at hk
   exact ihy _ _ _ _ _ hM.seq2 hk
 | _=>intro ann l e h K hM hk; exact False.elim hk
theorem tQ {R:aS} (hR:RLe R R) {nt:Nat} {J:JT} {ann:Ann} {x:Code} {K K':Kx} (hg:kO x=true) (hM:bR P R nt J ann (.scope x) K') (hK:∀ x e h,K x e h→K' x e h) (ex:Exit) (e:Env) (h:aA) (hx:dJ x (fun l e h=>toL J ann.a x l e h) K ex e h) :
  dJ x (iE fun I l e h=>aFrom P R nt ann.a x l e h (dJ x I K')) K' ex e h:=by
 cases ex with
 | goto l =>
  simp only [dJ] at hx ⊢
  cases hl:lQ x l with
  | true =>
   rw [hl] at hx
   exact t7 hR (aC5 x ann.a l e h _ (bR.scopeG hg hM) hx)
  | false=>rw [hl] at hx; exact hK _ _ _ hx
 | _=>exact hK _ _ _ hx
theorem jJ {R:aS} (hR:RLe R R) {nt:Nat} {J:JT}:∀ (c:Code) (ann:Ann) (e:Env) (h:aA) (K K':Kx),bR P R nt J ann c K'→(∀ x e h,K x e h→K' x e h)→exJ P R nt J ann c e h K→bX P R nt ann c e h K':=by
 intro c
 induction c with
 | skip=>intro ann e h K K' hM hK hk; exact hK _ _ _ hk
 | region id ops draw =>
  intro ann e h K K' hM hK hk
  exact kK hR (.region id ops draw) ann _ _ K K' hK hk
 | seq x y ihx ihy =>
  intro ann e h K K' hM hK hk
  refine ihx _ _ _ _ _ hM.seq1 (fun ex e h hx=>?_) hk
  cases ex with
  | normal =>
   simp only [j7] at *
   cases hj:Nat.beq ann.j 0 with
   | true=>rw [hj] at hx; exact ihy _ _ _ _ _ hM.seq2 hK hx
   | false=>rw [hj] at hx; exact hM.seqJ hj hx
  | _=>exact hK _ _ _ hx
 | cond c x y ihx ihy =>
  intro ann e h K K' hM hK hk
  exact oN (ihx _ _ _ _ _ hM.cond1 hK) (ihy _ _ _ _ _ hM.cond2 hK) hk
 | block id x ih =>
  intro ann e h K K' hM hK hk
  refine ih _ _ _ _ _ hM.block (fun ex e h hx=>?_) hk
  cases ex with
  | exit id' =>
   simp only [fL] at *
   revert hx
   cases Nat.beq id' id <;> exact hK _ _ _
  | _=>exact hK _ _ _ hx
 | scope x ih =>
  intro ann e h K K' hM hK hk
  simp only [exJ,bX] at *
  cases hg:kO x with
  | true =>
   rw [hg] at hk
   exact ih _ _ _ _ _ (bR.scopeG hg hM) (tQ hR hg hM hK) hk
  | false=>
  rw [hg] at hk
  refine ih _ _ _ _ _ (bR.scope hg hM) (fun ex e h hx=>?_) hk
  cases ex <;> first | exact hx.elim | exact hK _ _ _ hx
 | loop x ih=>intro ann e h K K' hM hK hk; exact hM.loopJ hk
 | exit id=>intro ann e h K K' hM hK hk; exact hK _ _ _ hk
 | label l=>intro ann e h K K' hM hK hk; exact hK _ _ _ hk
 | goto l=>intro ann e h K K' hM hK hk; exact hK _ _ _ hk
 | ret=>intro ann e h K K' hM hK hk; exact hK _ _ _ hk
 | _=>intro ann e h K K' hM hK hk; exact False.elim hk
theorem eT {R : aS} (hR : RLe R R) {nt : Nat} {J : JT} {round : Bool} : ∀ (path : List Nat) (ann : Ann) (c : Code) (e : Env) (h : aA) (K K' : Kx), bR P R nt J ann c K' → (∀ x e h, K x e h → K' x e h) → atJ P R nt J round path ann c e h K →
  aAt P R nt (match round with | true=>.round | false=>.run) path ann c e h K'
 | [], ann, c, e, h, K, K', hM, hK, hk => by
  cases round with
  | false=>exact jJ hR c ann e h K K' hM hK hk
  | true =>
   cases c <;> first | exact hk.elim | skip
   rename_i x
   refine jJ hR x ann.a e h _ _ hM.loop (fun ex e h hx=>?_) hk
   cases ex with
   | normal=>exact hM.loopJ hx
   | _=>exact hK _ _ _ hx
 | d :: path, ann, c, e, h, K, K', hM, hK, hk => by
  unfold atJ at hk
  unfold aAt
  cases c <;> first | exact hk.elim | skip
  case seq x y=>
   simp only at hk ⊢
   cases hd:Nat.beq d 0 with
   | true =>
    rw [hd] at hk
    refine eT hR path _ _ _ _ _ _ hM.seq1 (fun ex e h hx=>?_) hk
    cases ex with
    | normal =>
     simp only [j7] at *
     cases hj:Nat.beq ann.j 0 with
     | true=>rw [hj] at hx; exact jJ hR _ _ _ _ _ _ hM.seq2 hK hx
     | false=>rw [hj] at hx; exact hM.seqJ hj hx
    | _=>exact hK _ _ _ hx
   | false=>rw [hd] at hk; exact eT hR path _ _ _ _ _ _ hM.seq2 hK hk
  case cond c x y=>
   simp only at hk ⊢
   cases hd:Nat.beq d 0 with
   | true=>rw [hd] at hk; exact eT hR path _ _ _ _ _ _ hM.cond1 hK hk
   | false=>rw [hd] at hk; exact eT hR path _ _ _ _ _ _ hM.cond2 hK hk
  case block id x=>
   refine eT hR path _ _ _ _ _ _ hM.block (fun ex e h hx=>?_) hk
   cases ex with
   | exit id' =>
    simp only [fL] at *
    revert hx
    cases Nat.beq id' id <;> exact hK _ _ _
   | _=>exact hK _ _ _ hx
  case scope x=>
   simp only at hk ⊢
   cases hg:kO x with
   | true =>
    rw [hg] at hk
    exact eT hR path _ _ _ _ _ _ (bR.scopeG hg hM) (tQ hR hg hM hK) hk
   | false=>
   rw [hg] at hk
   refine eT hR path _ _ _ _ _ _ (bR.scope hg hM) (fun ex e h hx=>?_) hk
   cases ex <;> first | exact hx.elim | exact hK _ _ _ hx
  case loop x=>
   refine eT hR path _ _ _ _ _ _ hM.loop (fun ex e h hx=>?_) hk
   cases ex with
   | normal=>exact hM.loopJ hx
   | _=>exact hK _ _ _ hx
abbrev bL (P:Program) (R:aS) (fn:Func) (ann:Ann) (body:Code) (Q:AV→aA→Prop):JT:=lU P R fn.ntmps ann body (oB P fn Q)
theorem aER {R:aS} (hR:RLe R R) {fn:Func} {ann:Ann} {body:Code} (hd:aH (places ann body)=true) {Q:AV→aA→Prop} {k:Nat} {p:List Nat} (hl:iW (places ann body) k=some (p,false)) {e:Env} {h:aA}
  (hk:atJ P R fn.ntmps (bL P R fn ann body Q) false p ann body e h (oB P fn Q)):bL P R fn ann body Q k e h:=by
 unfold bL lU
 rw [hl]
 exact eT hR p ann body e h _ _ (bR.act hd) (fun _ _ _ h=>h) hk
theorem aBC {R:aS} (hR:RLe R R) {fn:Func} {ann:Ann} {body:Code} (hd:aH (places ann body)=true) {Q:AV→aA→Prop} {k:Nat} {p:List Nat} (hl:iW (places ann body) k=some (p,true)) {e:Env} {h:aA}
  (hk:atJ P R fn.ntmps (bL P R fn ann body Q) true p ann body e h (oB P fn Q)):bL P R fn ann body Q k e h:=by
 unfold bL lU
 rw [hl]
 exact eE hR p ann body e h _ (eT hR p ann body e h _ _ (bR.act hd) (fun _ _ _ h=>h) hk)
theorem aGP {X:aS} {f:FuncId} {fn:Func} {ann:Ann} {body:Code} (hf:P.funcs[f]? = some fn) (hb:fn.body=some body) (hn:(fn.name == "runtime.NumGoroutine")=false) (hd:aH (places ann body)=true) {args:List AV} (ha:Nat.ble args.length fn.ntmps=true)
  {h:aA} {K:AV→aA→Prop} (hk:exJ P (dO P X) fn.ntmps (bL P (dO P X) fn ann body (aK h K)) ann body (d9 0 args) h (oB P fn (aK h K))):dO P X f args h K:=
 xH ⟨fn,body,ann,hf,hb,hn,Nat.le_of_ble_eq_true ha,jJ (g9 X) body ann _ h _ _ (bR.act hd) (fun _ _ _ h=>h) hk⟩
end
end Go.GAM
namespace Go.GAM
def oM:List Nat→List AV→Env→Env
 | p :: ps,v :: vs,e=>oM ps vs ((p,v) :: e)
 | _,_,e=>e
def aF6 (args:List AV) (K:Prop):Prop:=match args with
 | []=>K
 | _=>False
def aGS (args:List AV) (K:AV→Prop):Prop:=match args with
 | [v]=>K v
 | _=>False
def aD9 (args:List AV) (K:AV→AV→Prop):Prop:=match args with
 | [v,w]=>K v w
 | _=>False
def aGN:Obj→Bool
 | .loop _ | .deferred _=>true
 | _=>false
def orY (R:aS) (l:Nat) (Y:List AV→aA→(AV→aA→Prop)→Prop):aS:=fun f args h K=>R f args h K∨(f=yid0+l∧Y args h K)
def mN (P:Program) (f:FuncId):Bool:=match P.funcs[f]? with
 | some fn=>fn.body.isSome && !(fn.name == "runtime.NumGoroutine")
 | none=>false
section
variable {P:Program} {w0:World} {Fz:Nat→Prop} {μ:Mu} {own:Nat→Option Nat} {h:aA} {w:World}
theorem Rel.rebase (R:Rel w0 Fz μ own h w) {Fz':Nat→Prop} (hF:∀ B,Fz' B→B<w.heap.size∧(Fz B∨own B=none∧∃ o,w.heap[B]? = some o∧aGN o=true)):Rel w Fz' μ own h w where
 os:=rfl
 tape:=rfl
 output:=rfl
 size0:=Nat.le_refl _
 fz:=fun B hB=>⟨(hF B hB).1,rfl⟩
 ownlt:=R.ownlt
 mulen:=R.mulen
 blk := fun id b hb hl => by
  obtain ⟨l,k⟩:=R.blk id b hb hl
  refine ⟨l,{ k with ro:=fun hr hB=>?_ }⟩
  rcases (hF _ hB).2 with h1 | ⟨_,o,h1,h2⟩
  ·exact k.ro hr h1
  ·obtain ⟨c, el, fr, h3, _⟩ := k.row
   rw [h1] at h3; cases h3; cases h2
 maps:=fun id b es hb he=>by
  obtain ⟨l,m1,m2,m3,m4⟩:=R.maps id b es hb he
  refine ⟨l,m1,m2,fun hB=>?_,m4⟩
  rcases (hF _ hB).2 with h1 | ⟨h0,_⟩
  ·exact m3 h1
  ·rw [h0] at m2; cases m2
theorem Rel.back {wb:World} {Fzb:Nat→Prop} (R:Rel wb Fzb μ own h w) (h1:w.os=w0.os) (h2:w.tape=w0.tape) (h3:w.output=w0.output) (h4:w0.heap.size≤w.heap.size)
  (h5:∀ B,Fz B→Fzb B∧B<w0.heap.size∧w.heap[B]? = w0.heap[B]?):Rel w0 Fz μ own h w where
 os:=h1
 tape:=h2
 output:=h3
 size0:=h4
 fz:=fun B hB=>(h5 B hB).2
 ownlt:=R.ownlt
 mulen:=R.mulen
 blk:=fun id b hb hl=>by
  obtain ⟨l,k⟩:=R.blk id b hb hl
  exact ⟨l,{ k with ro:=fun hr hB=>k.ro hr (h5 _ hB).1 }⟩
 maps:=fun id b es hb he=>by
  obtain ⟨l,m1,m2,m3,r⟩:=R.maps id b es hb he
  exact ⟨l,m1,m2,fun hB=>m3 (h5 _ hB).1,r⟩
structure lG (w0:World) (Fz:Nat→Prop) (wb:World) (Fzb:Nat→Prop):Prop where
 os:wb.os=w0.os
 tape:wb.tape=w0.tape
 output:wb.output=w0.output
 size:w0.heap.size≤wb.heap.size
 fz:∀ B,Fz B→Fzb B∧B<w0.heap.size∧wb.heap[B]? = w0.heap[B]?
theorem lG.refl (R:Rel w0 Fz μ own h w):lG w0 Fz w0 Fz:=⟨rfl,rfl,rfl,Nat.le_refl _,fun B hB=>⟨hB,(R.fz B hB).1,rfl⟩⟩
theorem lG.trans {w1 w2:World} {F1 F2:Nat→Prop} (a:lG w0 Fz w1 F1) (b:lG w1 F1 w2 F2):lG w0 Fz w2 F2:=
 ⟨b.os.trans a.os,b.tape.trans a.tape,b.output.trans a.output,Nat.le_trans a.size b.size,fun B hB=>
  let ⟨h1,h2,h3⟩:=a.fz B hB; let ⟨h4,h5,h6⟩:=b.fz B h1; ⟨h4,h2,h6.trans h3⟩⟩
theorem lG.rel {wb:World} {Fzb:Nat→Prop} (b:lG w0 Fz wb Fzb) (R:Rel wb Fzb μ own h w):Rel w0 Fz μ own h w:=
 R.back (R.os.trans b.os) (R.tape.trans b.tape) (R.output.trans b.output) (Nat.le_trans b.size R.size0) fun B hB=>
  let ⟨h1,h2,h3⟩:=b.fz B hB; ⟨h1,h2,(R.fz B h1).2.trans h3⟩
def nS (D:Nat):Deferred:={ target:=.collected D,args:=#[] }
structure xY (w0 wb:World) (Fzb:Nat→Prop) (Ds:List Nat):Prop where
 nodup:Ds.Nodup
 is:∀ D∈Ds,Fzb D∧w0.heap.size≤D∧wb.heap[D]? = some (.deferred (some []))
def QKM (w0:World) (Fz:Nat→Prop) (nt:Nat) (μ:Mu) (K:Kx):Exit→Act→World→Prop:=
 fun x a' w'=>∃ e' h' μ' own' wb Fzb Ds,K x e' h'∧lG w0 Fz wb Fzb∧Rel wb Fzb μ' own' h' w'∧xY w0 wb Fzb Ds∧bD (Ds.map nS) μ' nt e' a'∧Sub μ μ'
theorem pO:∀ {ps:List Nat} {args:List AV} {cargs:List Value} {nt:Nat} {e:Env} {tmps:Array Value},VRels μ args cargs→args.length=ps.length→ps.all (Nat.blt · nt)=true→bD [] μ nt e { tmps:=tmps,defers:=[] } →
  bD [] μ nt (oM ps args e) { tmps:=(ps.zip cargs).foldl (fun t (p,v)=>t.setIfInBounds p v) tmps,defers:=[] }
 | [],args,cargs,nt,e,tmps,hv,hl,hp,hE=>by simpa [oM] using hE
 | p :: ps,[],_,nt,e,tmps,hv,hl,hp,hE=>by simp at hl
 | p :: ps, v :: vs, _, nt, e, tmps, .cons _ c _ cs hv1 hv2, hl, hp, hE => by
  simp only [List.all_cons,Bool.and_eq_true] at hp
  simp only [oM,List.zip_cons_cons,List.foldl_cons]
  refine pO hv2 (by simpa using hl) hp.2 ?_
  have:=hE.put (o:={ (default:Oper) with dst:=some p }) (by simpa [iB] using hp.1) hv1
  simpa [GAM.put,Act.put] using this
theorem zS {R:aS} (hm:P.follows .mixedOrders=true) (hR:jC P R) {nt:Nat} {c:Code} {ann:Ann} {e:Env} {K:Kx} {a:Act} {Ds:List Nat} (Rl:Rel w0 Fz μ own h w) (hE:bD (Ds.map nS) μ nt e a)
  {wa:World} {Fa:Nat→Prop} (hb:lG wa Fa w0 Fz) (hM:xY wa w0 Fz Ds)
  (hk:bX P R nt ann c e h K):c.wpIn (FR none) 0 P (QKM wa Fa nt μ K) a w:=
 wpIn_mono (lS hm (hR w0 Fz _) c ann μ own e h K a w (Sub.refl _) Rl hE hk) fun ex a' w' ⟨e',h',μ',own',g1,g2,g3,g4⟩=>⟨e',h',μ',own',w0,Fz,Ds,g1,hb,g2,hM,g3,g4⟩
theorem p5 {f:FuncId} (hb:mN P f=true) (args:Array Value) (w:World):(callFunc f args).run P w = .ok (.enter f args) w:=by
 unfold mN at hb
 split at hb
 ·rename_i fn hf
  simp only [Bool.and_eq_true,Bool.not_eq_true'] at hb
  have hbs:fn.body.isNone=false:=by cases h:fn.body <;> simp_all
  simp only [callFunc,Sem.run_bind,run_program,Result.andThen_ok,hf,hb.2,Bool.false_eq_true,if_false,hbs,Sem.run_pure]
 ·cases hb
theorem yW {fn:Func} {tmps:Array Value} {R:Ending→World→Prop} {wa:World} {Fa:Nat→Prop} {wb:World} {v:AV} {cv:Value} {K:AV→aA→Prop} :
  ∀ (Ds:List Nat) (Fb:Nat→Prop) (wb w:World),Ds.Nodup→(∀ D∈Ds,w.heap[D]? = some (.deferred (some []))) →
  (∀ w',w'.heap.size=w.heap.size→(∀ B,B ∉ Ds→w'.heap[B]? = w.heap[B]?)→(∀ D∈Ds,w'.heap[D]? = some (.deferred none))→w'.os=w.os→w'.tape=w.tape→w'.output=w.output→LeavesInM (FR none) 0 P fn tmps R [] .returning w') →
  LeavesInM (FR none) 0 P fn tmps R (Ds.map nS) .returning w
 | [],Fb,wb,w,_,_,h=>h w rfl (fun _ _=>rfl) (fun _ h=>by cases h) rfl rfl rfl
 | D :: Ds, Fb, wb, w, hn, hD, h => by
  obtain ⟨n1,n2⟩:=List.nodup_cons.1 hn
  have h0:=hD D (by simp)
  refine ⟨by simp,.inl ⟨D,_,rfl,run_takeDeferred h0, ?_⟩⟩
  have hlt:D<w.heap.size:=(Array.getElem?_eq_some_iff.1 h0).1
  refine yW (wb:=wb) (v:=v) (cv:=cv) (K:=K) (wa:=wa) (Fa:=Fa) Ds Fb wb _ n2 (fun D' hD'=>?_) fun w' s1 s2 s3 s4 s5 s6=>h w' (by simpa using s1) (fun B hB=>?_) (fun D' hD'=>?_) s4 s5 s6
  ·rw [World.putObj_heap_other (fun e=>n1 (by rw [← e]; exact hD'))]; exact hD D' (by simp [hD'])
  ·simp only [List.mem_cons, not_or] at hB
   rw [s2 B hB.2,World.putObj_heap_other hB.1]
  ·rcases List.mem_cons.1 hD' with rfl | hD'
   ·rw [s2 _ n1,World.putObj_heap_same hlt]
   ·exact s3 D' hD'
theorem Rel.putMany {Ds : List Nat} (R : Rel w0 Fz μ own h w) {w' : World} (h1 : w'.heap.size = w.heap.size) (h2 : ∀ B, B ∉ Ds → w'.heap[B]? = w.heap[B]?) (hD : ∀ D ∈ Ds, w.heap[D]? = some (.deferred (some [])))
  (hD':∀ D∈Ds,w'.heap[D]? = some (.deferred none)) (h4:w'.os=w.os) (h5:w'.tape=w.tape) (h6:w'.output=w.output) (hF:∀ B,Fz B→B ∉ Ds):Rel w0 Fz μ own h w' where
 os:=h4.trans R.os
 tape:=h5.trans R.tape
 output:=h6.trans R.output
 size0:=by rw [h1]; exact R.size0
 fz:=fun B hB=>⟨(R.fz B hB).1,(h2 B (hF B hB)).trans (R.fz B hB).2⟩
 ownlt:=fun B id hB=>by rw [h1]; exact R.ownlt B id hB
 mulen:=R.mulen
 blk := fun id b hb hl => by
  obtain ⟨l,k⟩:=R.blk id b hb hl
  obtain ⟨c,el,fr,h3,hc⟩:=k.row
  have hne:l.B ∉ Ds:=fun e=>by have:=hD _ e; rw [this] at h3; cases h3
  refine ⟨l,{ k with row:=⟨c,el,fr,by rw [h2 _ hne]; exact h3,hc⟩,tyok:=by rw [h2 _ hne]; exact k.tyok,free:=fun hr j hj=>?_,vers:=fun ver g1 g2 l' hl'=>?_ }⟩
  ·have := k.free hr j hj
   simp only [World.frozen?] at this ⊢
   rw [h2 _ hne]; exact this
  ·have hv := k.vers ver g1 g2 l' hl'
   refine { hv with cells:=fun j hj=>?_ }
   obtain ⟨cv,e1,e2⟩:=hv.cells j hj
   refine ⟨cv, ?_,e2⟩
   by_cases hb:l'.B∈Ds
   ·exfalso
    simp [World.cell?,hD _ hb] at e1
   ·simp only [World.cell?] at e1 ⊢
    rw [h2 _ hb]; exact e1
 maps:=fun id b es hb he=>by
  obtain ⟨l,m1,m2,m3,m4⟩:=R.maps id b es hb he
  have hne:l.B ∉ Ds:=fun e=>by
   have:=hD _ e
   obtain ⟨o,g1,g2⟩:=m4.obj
   rw [this] at g1
   cases g1
   rcases g2 with ⟨_,_,g2⟩ | ⟨_,g2⟩ <;> cases g2
  exact ⟨l,m1,m2,m3,m4.keep (h2 _ hne) (Sub.refl _)⟩
theorem xW {X:aS} {f:FuncId} {args:List AV} {h:aA} {K:AV→aA→Prop} (hk:X f args h K):dO P X f args h K:=fun R _ hX _=>hX _ _ _ _ hk
end
end Go.GAM
namespace Go.GAM
section
variable {P:Program} {w0:World} {Fz:Nat→Prop} {μ:Mu} {own:Nat→Option Nat} {h:aA} {w:World}
def orR (R S:aS):aS:=fun f args h K=>R f args h K∨S f args h K
end
end Go.GAM
namespace Go.GAM
def dG (rec:Loop) (st:LoopState) (pe:Option Code):ABlk:=fX { rec with state:=st,pending:=pe }
def aF2 (g:Nat) (rec:Loop) (K:AV→aA→Prop):Exit→aA→Prop
 | .normal,h=>h[g]? = some (dG rec .busy none)∧K (.b true) (h.set g (dG rec .ready none))
 | .exit id,h=>h[g]? = some (dG rec .busy none)∧K (.b false) (h.set g (dG rec .done (some (.exit id))))
 | .ret,h=>h[g]? = some (dG rec .busy none)∧K (.b false) (h.set g (dG rec .done (some .ret)))
 | _,_=>False
def aB1 (J:JT) (K:JT→Prop):Prop:=K J
def aBK (X:Exit→aA→Prop) (K:(Exit→aA→Prop)→Prop):Prop:=K X
def codeAt:List Nat→Code→Code
 | [],c=>c
 | d :: p,.seq a b=>bif Nat.beq d 0 then codeAt p a else codeAt p b
 | d :: p,.cond _ a b=>bif Nat.beq d 0 then codeAt p a else codeAt p b
 | d :: p,.rangeFunc _ _ a b=>bif Nat.beq d 0 then codeAt p a else codeAt p b
 | _ :: p,.block _ a=>codeAt p a
 | _ :: p,.scope a=>codeAt p a
 | _ :: p,.loop a=>codeAt p a
 | _,_=>.skip
def xK (X:Exit→aA→Prop):Kx:=fun x _ h=>X x h
def oL (P : Program) (R : aS) (nt : Nat) (ann : Ann) (assign body : Code) (g : Nat) (rec : Loop) (h : aA) (K : AV → aA → Prop) (e : Env) : Prop :=
 bX P R nt ann.a assign e h (j7 (fun e h=>h[g]? = some (dG rec .ready none) ∧
  aBK (aF2 g rec K) fun X=>aB1 (lU P R nt ann.b body (xK X)) fun J=>exJ P R nt J ann.b body e (h.set g (dG rec .busy none)) (xK X)) fun _ _ _=>False)
def oZ (P : Program) (R : aS) (nt : Nat) (ann : Ann) (ps : List Nat) (assign body : Code) (e : Env) (g : Nat) (rec : Loop) (args : List AV) (h : aA) (K : AV → aA → Prop) : Prop :=
 h[g]? = some (dG rec .ready none) ∧ bif ps.all (Nat.blt · nt) && aH (places ann.b body) then
  match ps with
  | []=>aF6 args (oL P R nt ann assign body g rec h K e)
  | [p]=>aGS args fun v=>oL P R nt ann assign body g rec h K ((p,v) :: e)
  | [p,q]=>aD9 args fun v w=>oL P R nt ann assign body g rec h K ((q,w) :: (p,v) :: e)
  | _=>False
 else False
theorem sZ {P:Program} {R:aS} {nt:Nat} {ann:Ann} {ps:List Nat} {assign body:Code} {e:Env} {g:Nat} {rec:Loop} {args:List AV} {h:aA} {K:AV→aA→Prop} (hk:oZ P R nt ann ps assign body e g rec args h K) :
  h[g]? = some (dG rec .ready none)∧ps.all (Nat.blt · nt)=true∧aH (places ann.b body)=true∧args.length=ps.length∧oL P R nt ann assign body g rec h K (oM ps args e):=by
 unfold oZ at hk
 obtain ⟨h0,hk⟩:=hk
 obtain ⟨h1,hk⟩:=aG hk
 rw [Bool.and_eq_true] at h1
 refine ⟨h0,h1.1,h1.2, ?_⟩
 split at hk
 ·unfold aF6 at hk; split at hk
  ·exact ⟨rfl,hk⟩
  ·exact hk.elim
 ·unfold aGS at hk; split at hk
  ·exact ⟨rfl,hk⟩
  ·exact hk.elim
 ·unfold aD9 at hk; split at hk
  ·exact ⟨rfl,hk⟩
  ·exact hk.elim
 ·exact hk.elim
def aBT (g:Nat) (rec:Loop) (K:Exit→aA→Prop) (h:aA):List Nat→Prop
 | []=>h[g]? = some (dG rec .done (some .ret))∧K .ret (h.set g cH)
 | id :: r=>(h[g]? = some (dG rec .done (some (.exit id)))∧K (.exit id) (h.set g cH))∨aBT g rec K h r
def aE1 (g:Nat) (rec:Loop) (ids:List Nat) (K:Exit→aA→Prop) (h:aA):Prop:=
 (h[g]? = some (dG rec .ready none)∧K .normal (h.set g cH))∨aBT g rec K h ids
def kZ:Code→List Nat
 | .seq a b | .cond _ a b=>kZ a++kZ b
 | .block id a=>(kZ a).filter fun x=>!Nat.beq x id
 | .scope a | .loop a=>kZ a
 | .exit id=>[id]
 | _=>[]
def aDR (P:Program) (R:aS) (A:aS→aS) (v:AV) (Y:Nat→Loop→List AV→aA→(AV→aA→Prop)→Prop) (h:aA) (K:Loop→aA→Prop):Prop:=
 match v with
 | .fn (.func gf) first cap=>bif Nat.blt gf yid0&&mN P gf then
   ∀ l rec,A (orY R l (Y h.length rec)) gf (first++[.fn (.yield l) [] []]++cap) (h++[dG rec .ready none]) (fun _ h'=>K rec h') else False
 | _=>False
def d7 (P : Program) (R : aS) (A : aS → aS) (nt : Nat) (ann : Ann) (c : Code) (e : Env) (h : aA) (K : Kx) : Prop :=
 match c with
 | .seq x y=>d7 P R A nt ann.a x e h (j7 (fun e h=>d7 P R A nt ann.b y (restr ann.live e) h K) K)
 | .cond c x y=>aIf (ev e h c) (d7 P R A nt ann.a x e h K) (d7 P R A nt ann.b y e h K)
 | .block id x=>d7 P R A nt ann.a x e h (fL id K)
 | .rangeFunc g ps assign body =>
  aDR P R A (ev e h g) (oZ P R nt ann ps.toList assign body e) h (fun rec h'=>aE1 h.length rec (kZ body) (fun x h'=>K x e h') h')
 | c=>bX P R nt ann c e h K
section
variable {P:Program} {w0:World} {Fz:Nat→Prop} {μ:Mu} {own:Nat→Option Nat} {h:aA} {w:World}
theorem m8 (Rl:Rel w0 Fz μ own h w) {g:Nat} {l:Loc} {rec:Loop} (hμ:μ g 0=some l) (hg:h[g]? = some (fX rec)):own l.B=some g∧¬ Fz l.B∧w.heap[l.B]? = some (.loop rec):=by
 obtain ⟨l',m1,m2,m3,m4⟩:=Rl.maps g _ _ hg rfl
 rw [hμ] at m1; cases m1
 exact ⟨m2,m3,m4⟩
theorem Rel.setGh (R:Rel w0 Fz μ own h w) {g:Nat} {l:Loc} {rec:Loop} (hμ:μ g 0=some l) (hg:h[g]? = some (fX rec)) (b:ABlk) (hb:b.floor≤b.cells.length→False) (o:Obj)
  (hm:∀ es,b.mp=some es→p9 (w.putObj l.B o) μ l.B es):Rel w0 Fz μ own (h.set g b) (w.putObj l.B o):=by
 obtain ⟨m2,m3,m4⟩:=m8 R hμ hg
 have hlt:l.B<w.heap.size:=(Array.getElem?_eq_some_iff.1 m4).1
 have hid:g<h.length:=(List.getElem?_eq_some_iff.1 hg).1
 refine R.step rfl rfl rfl (by simp) (fun B hB=>World.putObj_heap_other (fun e=>m3 (e ▸ hB))) (fun B i hB=>by simpa using R.ownlt B i hB) (Sub.refl _) ?_ ?_
 ·intro i ver lx hlx
  obtain ⟨b',hb',hle⟩:=R.mulen _ _ _ hlx
  by_cases hi:i=g
  ·subst hi
   exact ⟨b,List.getElem?_set_self hid,fun hf=>(hb hf).elim⟩
  ·exact ⟨b',by rw [List.getElem?_set_ne (Ne.symm hi)]; exact hb',hle⟩
 ·intro i b' hb'
  by_cases hi:i=g
  ·subst hi
   rw [List.getElem?_set_self hid] at hb'
   cases hb'
   exact .inr ⟨fun hlv=>(hb hlv).elim,fun es he=>⟨l,hμ,m2,m3,hm es he⟩⟩
  ·rw [List.getElem?_set_ne (Ne.symm hi)] at hb'
   refine .inl ⟨hb',fun _=>rfl,fun B hB=>⟨hB,World.putObj_heap_other fun e=>?_⟩⟩
   subst e
   exact hi (Option.some.inj (m2.symm.trans hB)).symm
theorem Rel.putGh (R:Rel w0 Fz μ own h w) {g:Nat} {l:Loc} {rec:Loop} (hμ:μ g 0=some l) (hg:h[g]? = some (fX rec)) (rec':Loop):Rel w0 Fz μ own (h.set g (fX rec')) (w.putObj l.B (.loop rec')):=by
 refine R.setGh hμ hg _ (by intro h; simp [fX] at h) _ fun es he=>?_
 obtain ⟨_,_,m4⟩:=m8 R hμ hg
 simp only [fX,Option.some.injEq] at he
 subst he
 exact World.putObj_heap_same (Array.getElem?_eq_some_iff.1 m4).1
theorem Rel.killGh (R:Rel w0 Fz μ own h w) {g:Nat} {l:Loc} {rec:Loop} (hμ:μ g 0=some l) (hg:h[g]? = some (fX rec)) (o:Obj):Rel w0 Fz μ own (h.set g cH) (w.putObj l.B o):=
 R.setGh hμ hg cH (by intro h; simp [cH] at h) o fun es he=>by cases he
theorem Rel.newGh (R : Rel w0 Fz μ own h w) (rec : Loop) :
  Rel w0 Fz (bM μ h.length 0 ⟨w.heap.size,0,0,1⟩) (cB own w.heap.size h.length) (h++[fX rec]) (w.alloc (.loop rec))∧Sub μ (bM μ h.length 0 ⟨w.heap.size,0,0,1⟩) ∧
   bM μ h.length 0 ⟨w.heap.size,0,0,1⟩ h.length 0=some ⟨w.heap.size,0,0,1⟩:=by
 have hnone:∀ ver,μ h.length ver=none:=fun ver=>by
  cases hm:μ h.length ver with
  | none=>rfl
  | some l=>obtain ⟨b,hb,_⟩:=R.mulen _ _ _ hm; simp at hb
 have hs:Sub μ (bM μ h.length 0 ⟨w.heap.size,0,0,1⟩):=fC (hnone _)
 refine ⟨?_,hs,by simp [bM]⟩
 refine R.step rfl rfl rfl (by simp) (fun B hB=>bN w _ (Nat.lt_of_lt_of_le (R.fz B hB).1 R.size0)) ?_ hs ?_ ?_
 ·intro B id hB
  unfold cB at hB
  split at hB
  ·subst_vars; simp
  ·have:=R.ownlt B id hB; simp; omega
 ·intro id ver l hl
  unfold bM at hl
  split at hl
  ·rename_i hc'
   obtain ⟨rfl,rfl⟩:=hc'
   exact ⟨fX rec,by simp,fun _=>Nat.zero_le _⟩
  ·obtain ⟨b, hb, hl2⟩ := R.mulen _ _ _ hl
   have:id<h.length:=(List.getElem?_eq_some_iff.1 hb).1
   exact ⟨b,by rw [List.getElem?_append_left this]; exact hb,hl2⟩
 ·intro id b hb
  by_cases hid:id<h.length
  ·rw [List.getElem?_append_left hid] at hb
   refine .inl ⟨hb,fun ver=>by unfold bM; rw [if_neg (by omega)],fun B hB=>?_⟩
   have hlt:=R.ownlt B id hB
   exact ⟨by unfold cB; rw [if_neg (by omega)]; exact hB,bN w _ hlt⟩
  ·rw [List.getElem?_append_right (by omega)] at hb
   have hid':id=h.length:=by
    obtain ⟨hlt,_⟩:=List.getElem?_eq_some_iff.1 hb
    simp at hlt; omega
   subst hid'
   simp at hb
   subst hb
   refine .inr ⟨fun hlv=>by simp [fX] at hlv,fun es he=>?_⟩
   simp only [fX,Option.some.injEq] at he
   subst he
   refine ⟨⟨w.heap.size,0,0,1⟩,by simp [bM],by simp [cB],fun hF=>?_,d8 w _⟩
   have h1:w.heap.size<w0.heap.size:=(R.fz _ hF).1
   have:=R.size0; omega
theorem aD7 {R:aS} (hR:RLe R R) {nt:Nat} {ann:Ann} {c:Code} {e:Env} {h:aA} {K:Kx} (hd:aH (places ann c)=true) (hk:exJ P R nt (lU P R nt ann c K) ann c e h K):bX P R nt ann c e h K:=
 jJ hR c ann e h K K (bR.act hd) (fun _ _ _ h=>h) hk
theorem aDM {R:aS} (hR:RLe R R) {nt:Nat} {ann:Ann} {body:Code} (hd:aH (places ann body)=true) {K:Kx} {k:Nat} {p:List Nat} (hl:iW (places ann body) k=some (p,false)) {e:Env} {h:aA}
  (hk:atJ P R nt (lU P R nt ann body K) false p ann body e h K):lU P R nt ann body K k e h:=by
 unfold lU
 rw [hl]
 exact eT hR p ann body e h _ _ (bR.act hd) (fun _ _ _ h=>h) hk
theorem aBU {R:aS} (hR:RLe R R) {nt:Nat} {ann:Ann} {body:Code} (hd:aH (places ann body)=true) {K:Kx} {k:Nat} {p:List Nat} (hl:iW (places ann body) k=some (p,true)) {e:Env} {h:aA}
  (hk:atJ P R nt (lU P R nt ann body K) true p ann body e h K):lU P R nt ann body K k e h:=by
 unfold lU
 rw [hl]
 exact eE hR p ann body e h _ (eT hR p ann body e h _ _ (bR.act hd) (fun _ _ _ h=>h) hk)
theorem yZ {ds:List Deferred} {R:aS} (hm:P.follows .mixedOrders=true) (hR:jC P R) (hRR:RLe R R) {nt:Nat} {ann:Ann} {ps:Array Nat} {assign body:Code} {e:Env} {a:Act} {μ0:Mu} {g:Nat} {l:Loc} {rec:Loop} {w1:World} {F1:Nat→Prop}
  (hμ0:μ0 g 0=some l) (hps:rec.params=ps) (has:rec.assign=assign) (hbd:rec.body=body) (htm:rec.tmps=a.tmps)
  (hE:bD ds μ0 nt e a) (Rl:Rel w1 F1 μ own h w) (hsub:Sub μ0 μ) {args:List AV} {cargs:List Value} (hv:VRels μ args cargs) {K:AV→aA→Prop}
  (hk:oZ P R nt ann ps.toList assign body e g rec args h K):sA P l.B cargs w (iH w1 F1 μ K):=by
 obtain ⟨hg,hc,hd,hlen,hk⟩:=sZ hk
 have hlen:args.length=ps.size:=by simpa using hlen
 have hcl:=hv.length
 have hμ:μ g 0=some l:=hsub _ _ _ hμ0
 obtain ⟨_,_,hwL⟩:=m8 Rl hμ hg
 refine ⟨_,_,_,_,run_yield hwL (by simp only [hps]; simp; omega), ?_⟩
 refine roundIn_of_wpIn trivial ?_
 have hE0:bD [] μ nt e { tmps:=rec.tmps,defers:=[] }:=by
  have:=hE.mono hsub
  rw [htm]
  exact ⟨this.1,rfl,this.3⟩
 have hEp:=pO hv (by simpa using hlen) hc hE0
 have e1:(rec.params.zip cargs.toArray).foldl (fun tmps (x:Nat × Value)=>tmps.setIfInBounds x.1 x.2) rec.tmps=(ps.toList.zip cargs).foldl (fun t (x:Nat × Value)=>t.setIfInBounds x.1 x.2) rec.tmps:=by
  rw [hps, ← Array.foldl_toList,Array.toList_zip]
 have e2:(rec.params.zip cargs.toArray).foldl (fun tmps (t,a)=>tmps.setIfInBounds t a) rec.tmps=(ps.toList.zip cargs).foldl (fun t (p,v)=>t.setIfInBounds p v) rec.tmps:=e1
 simp only
 rw [e2,has,hbd]
 refine wpIn_mono (lS (rd:=some l.B) hm (hR w1 F1 _) assign ann.a μ own _ h _ _ w (Sub.refl _) Rl hEp hk) ?_
 rintro ex a' w' ⟨e',h',μ',own',g1,g2,g3,g4⟩
 cases ex <;> first | exact g1.elim | skip
 obtain ⟨hg',hk'⟩:=g1
 have hμ':μ' g 0=some l:=g4 _ _ _ hμ
 obtain ⟨_,_,hwL'⟩:=m8 g2 hμ' hg'
 refine ⟨_,run_beginRound hwL' rfl, ?_⟩
 have G2:=g2.putGh hμ' hg' { rec with state:=.busy,pending:=none }
 refine wpIn_mono (lS (rd:=some l.B) hm (hR _ F1 _) body ann.b μ' own' _ _ _ _ _ (Sub.refl _) G2 g3 (aD7 hRR hd hk')) ?_
 rintro ex a2 w2 ⟨e2,h2,μ2,own2,k1,k2,k3,k4⟩
 have hμ2:μ2 g 0=some l:=k4 _ _ _ hμ'
 have fin:∀ (jump:Option Code) (v:Bool),h2[g]? = some (dG rec .busy none)→v=jump.isNone→K (.b v) (h2.set g (dG rec (if jump.isNone then .ready else .done) jump)) →
   ∃ cv w3,(Instr.endRound l.B jump).run P w2 = .ok cv w3∧∃ v,Ending.returned cv=Ending.returned v∧iH w1 F1 μ K v w3:=by
  intro jump v hb hv hK
  obtain ⟨_,_,hwb⟩:=m8 k2 hμ2 hb
  refine ⟨_,_,run_endRound jump hwb,_,rfl,.b v,μ2,own2,_,hK, ?_, ?_,g4.trans k4⟩
  ·rw [hv]; exact .b _
  ·exact k2.putGh hμ2 hb _
 cases ex with
 | normal=>exact fin none true k1.1 rfl k1.2
 | exit id=>exact fin (some (.exit id)) false k1.1 rfl k1.2
 | ret=>exact fin (some .ret) false k1.1 rfl k1.2
 | goto t=>exact k1.elim
 | panic c=>exact k1.elim
 | outgrown=>exact k1.elim
theorem vB {g:Nat} {rec:Loop} {ids:List Nat} {K:Exit→aA→Prop} {h:aA} (hk:aE1 g rec ids K h) :
  ∃ st pe,h[g]? = some (dG rec st pe)∧st ≠ .busy∧((pe=none∧K .normal (h.set g cH))∨(∃ id,pe=some (.exit id)∧K (.exit id) (h.set g cH))∨(pe=some .ret∧K .ret (h.set g cH))):=by
 rcases hk with ⟨h1,h2⟩ | hk
 ·exact ⟨_,_,h1,(fun h=>by cases h),.inl ⟨rfl,h2⟩⟩
 ·induction ids with
  | nil=>exact ⟨_,_,hk.1,(fun h=>by cases h),.inr (.inr ⟨rfl,hk.2⟩)⟩
  | cons id r ih =>
   rcases hk with ⟨h1,h2⟩ | hk
   ·exact ⟨_,_,h1,(fun h=>by cases h),.inr (.inl ⟨_,rfl,h2⟩)⟩
   ·exact ih hk
theorem aAP {R : aS} {A : aS → aS} (hm : P.follows .mixedOrders = true) (hR : jC P R) (hRR : RLe R R) (hA : ∀ w0 Fz μb Y, b6 P w0 Fz μb Y → b6 P w0 Fz μb (A Y)) {nt : Nat} {ann : Ann} {g : Operand} {ps : Array Tmp} {assign body : Code}
  {e:Env} {K:Kx} {a:Act} {Ds:List Nat} {wa:World} {Fa:Nat→Prop} (Rl:Rel w0 Fz μ own h w) (hE:bD (Ds.map nS) μ nt e a) (hb:lG wa Fa w0 Fz) (hM:xY wa w0 Fz Ds)
  (hk:d7 P R A nt ann (.rangeFunc g ps assign body) e h K):(Code.rangeFunc g ps assign body).wpIn (FR none) 0 P (QKM wa Fa nt μ K) a w:=by
 simp only [d7,aDR] at hk
 have hv:=Rl.ev hE g
 generalize hag:a.eval g=cg at hv
 generalize GAM.ev e h g=ag at hv hk
 cases hv <;> first | exact hk.elim | skip
 rename_i fnn first cap cf ccap r1 r2
 cases fnn <;> first | exact hk.elim | skip
 rename_i gf
 obtain ⟨hlt,hk⟩:=aG hk
 simp only [Bool.and_eq_true] at hlt
 refine wpIn_rangeFunc fun fn _=>?_
 obtain ⟨rec,hrec⟩:∃ rec:Loop,rec={ state:=.ready,pending:=none,fn,tmps:=a.tmps,params:=ps,assign,body,defers:=w.heap.size }:=⟨_,rfl⟩
 have hrr:dG rec .ready none=fX rec:=by rw [hrec] <;> rfl
 obtain ⟨wd,hwd⟩:∃ wd,w.alloc (.deferred (some []))=wd:=⟨_,rfl⟩
 have hszd:wd.heap.size=w.heap.size+1:=by rw [← hwd]; simp
 obtain ⟨w1,hw1⟩:∃ w1,wd.alloc (.loop rec)=w1:=⟨_,rfl⟩
 have hDd:wd.heap[w.heap.size]? = some (.deferred (some [])):=by rw [← hwd]; exact World.alloc_heap_new w _
 have hD1:w1.heap[w.heap.size]? = some (.deferred (some [])):=by
  rw [← hw1]; exact (bN _ _ (by omega)).trans hDd
 have hsamed:cX w wd:=fun B hB=>by rw [← hwd]; exact bN _ _ hB
 have hsame:cX w w1:=fun B hB=>by
  rw [← hw1]; exact (bN _ _ (by omega)).trans (hsamed B hB)
 have hsz1:w1.heap.size=w.heap.size+2:=by rw [← hw1]; simp [hszd]
 have Rd:Rel w0 Fz μ own h wd:=Rl.same hsamed (by omega) (by rw [← hwd] <;> rfl) (by rw [← hwd] <;> rfl) (by rw [← hwd] <;> rfl)
 obtain ⟨R1,hs1,hat⟩:=Rd.newGh rec
 rw [hw1] at R1
 rw [hszd] at R1 hs1 hat
 obtain ⟨μ1,hμ1⟩:∃ μ1,bM μ h.length 0 ⟨w.heap.size+1,0,0,1⟩=μ1:=⟨_,rfl⟩
 obtain ⟨own1,hown1⟩:∃ own1,cB own (w.heap.size+1) h.length=own1:=⟨_,rfl⟩
 rw [hμ1] at R1 hs1 hat
 rw [hown1] at R1
 obtain ⟨F1,hF1⟩:∃ F1:Nat→Prop,F1=fun B=>Fz B∨B=w.heap.size:=⟨_,rfl⟩
 have nown:own1 w.heap.size=none:=by
  rw [← hown1]
  unfold cB
  rw [if_neg (by omega)]
  cases ho:own w.heap.size with
  | none=>rfl
  | some id=>have:=Rl.ownlt _ id ho; omega
 have R2:Rel w1 F1 μ1 own1 (h++[fX rec]) w1:=R1.rebase fun B hB=>by
  rw [hF1] at hB
  rcases hB with hB | rfl
  ·exact ⟨Nat.lt_of_lt_of_le (R1.fz B hB).1 R1.size0,.inl hB⟩
  ·exact ⟨by omega,.inr ⟨nown,_,hD1,rfl⟩⟩
 have hE1:=hE.mono hs1
 have hS:b6 P w1 F1 μ1 (orY R (w.heap.size+1) (oZ P R nt ann ps.toList assign body e h.length rec)):=by
  rintro f args h' K' (hk | ⟨rfl,hk⟩)
  ·exact hR w1 F1 μ1 f args h' K' hk
  ·intro μ2 own2 w2 cargs hs2 Rl2 hv2
   rw [if_neg (Nat.not_lt.2 (Nat.le_add_right _ _)),Nat.add_sub_cancel_left]
   exact yZ (l:=⟨w.heap.size+1,0,0,1⟩) hm hR hRR hat (by rw [hrec]) (by rw [hrec]) (by rw [hrec]) (by rw [hrec]) hE1 Rl2 hs2 hv2 hk
 have hk1:=hk (w.heap.size+1) rec
 rw [hrr] at hk1
 have hcall:=hA w1 F1 μ1 _ hS _ _ _ _ hk1 μ1 own1 w1 (cf.toList++[.func (.yield (w.heap.size+1)) #[] #[]]++ccap.toList) (Sub.refl _) R2
  (((r1.mono hs1).append (.cons _ _ _ _ (.fn _ _ _ _ _ .nil .nil) .nil)).append (r2.mono hs1))
 rw [if_pos (show gf<yid0 from Nat.le_of_ble_eq_true hlt.1)] at hcall
 have hrun:=p5 (P:=P) hlt.2 (cf.toList++[Value.func (.yield (w.heap.size+1)) #[] #[]]++ccap.toList).toArray w1
 have e1:(cf.toList++[Value.func (.yield (w.heap.size+1)) #[] #[]]++ccap.toList).toArray=(cf ++ #[Value.func (.yield (w.heap.size+1)) #[] #[]])++ccap:=by apply Array.ext'; simp
 rw [e1] at hrun
 refine ⟨w.heap.size+1,[nS w.heap.size],w1,{ target:=.fn (.func gf) ccap,args:=cf ++ #[Value.func (.yield (w.heap.size+1)) #[] #[]] },w1,gf,(cf ++ #[Value.func (.yield (w.heap.size+1)) #[] #[]])++ccap,w1, ?_, ?_,fun _ _=>trivial, ?_,fun h=>(by cases h), ?_⟩
 ·rw [← hw1, ← hwd,hrec]; exact run_enterLoop_outer _ _ _ _ _
 ·simp only [resolve, hag]
  simp [go_sem,Deferred.ofValue,Act.eval]
 ·simpa [invoke] using hrun
 ·rcases hcall with ⟨g2, as2, c1, c2⟩ | ⟨v, wv, c1, c2⟩
  ·rw [e1, hrun] at c1
   cases c1
   have c3:CallsIn (FR none) 0 P gf _ w1 _:=callsIn_wide.2 c2
   refine c3.mono ?_
   rintro en w5 ⟨v,rfl,v',μ5,own5,h5,k1,k2,k3,k4⟩
   obtain ⟨st,pe,q1,q2,q3⟩:=vB k1
   have hμ5:μ5 h.length 0=some ⟨w.heap.size+1,0,0,1⟩:=k4 _ _ _ hat
   obtain ⟨_,_,hL5⟩:=m8 k3 hμ5 q1
   have hD5:w5.heap[w.heap.size]? = some (.deferred (some [])):=(k3.fz _ (by rw [hF1]; exact .inr rfl)).2.trans hD1
   refine ⟨pe,_,run_endLoop (P:=P) hL5 q2, ?_⟩
   have hlt5:w.heap.size+1<w5.heap.size:=(Array.getElem?_eq_some_iff.1 hL5).1
   obtain ⟨w6,hw6⟩:∃ w6,w5.putObj (w.heap.size+1) (.loop { ({ rec with state:=st,pending:=pe }:Loop) with state:=.exhausted })=w6:=⟨_,rfl⟩
   have G5:Rel w1 F1 μ5 own5 (h5.set h.length cH) w6:=by rw [← hw6]; exact k3.killGh hμ5 q1 _
   rw [hw6]
   have hold:∀ B,Fz B→B<w.heap.size:=fun B hB=>Nat.lt_of_lt_of_le (Rl.fz B hB).1 Rl.size0
   have R1os:w1.os=w0.os:=R1.os
   have G6:Rel w6 F1 μ5 own5 (h5.set h.length cH) w6:=G5.rebase fun B hB=>⟨Nat.lt_of_lt_of_le (G5.fz B hB).1 G5.size0,.inl hB⟩
   have hw6o:∀ B,B≠w.heap.size+1→w6.heap[B]? = w5.heap[B]?:=fun B hB=>by rw [← hw6]; exact World.putObj_heap_other hB
   have hsz6:w6.heap.size=w5.heap.size:=by rw [← hw6]; simp
   have hb2:lG w0 Fz w6 F1:=by
    refine ⟨G5.os.trans R1.os,G5.tape.trans R1.tape,G5.output.trans R1.output, ?_,fun B hB=>⟨by rw [hF1]; exact .inl hB,(Rl.fz B hB).1, ?_⟩⟩
    ·have:=Rl.size0; omega
    ·have := hold B hB
     rw [hw6o B (by omega),(k3.fz B (by rw [hF1]; exact .inl hB)).2,hsame B this,(Rl.fz B hB).2]
   have hDnew:w.heap.size ∉ Ds:=fun hD=>by
    have:=hold _ (hM.is _ hD).1
    omega
   have fin:∀ x,K x e (h5.set h.length cH)→QKM wa Fa nt μ K x { a with defers:=[nS w.heap.size]++a.defers } w6:=by
    intro x hK
    refine ⟨e,_,μ5,own5,w6,F1,w.heap.size :: Ds,hK,hb.trans hb2,G6,⟨List.nodup_cons.2 ⟨hDnew,hM.nodup⟩, ?_⟩, ?_,hs1.trans k4⟩
    ·intro D hD
     rcases List.mem_cons.1 hD with rfl | hD
     ·refine ⟨by rw [hF1]; exact .inr rfl, Nat.le_trans hb.size Rl.size0, ?_⟩
      rw [hw6o _ (by omega)]; exact hD5
     ·obtain ⟨d1, d2, d3⟩ := hM.is D hD
      have:=hold D d1
      refine ⟨by rw [hF1]; exact .inl d1,d2, ?_⟩
      rw [hw6o _ (by omega),(k3.fz D (by rw [hF1]; exact .inl d1)).2,hsame D this,(Rl.fz D d1).2]; exact d3
    ·have := hE1.mono k4
     exact ⟨this.1,by simp [this.2],this.3⟩
   rcases q3 with ⟨rfl,q3⟩ | ⟨id,rfl,q3⟩ | ⟨rfl,q3⟩
   ·exact fin _ q3
   ·exact wpIn_exit (fin _ q3)
   ·exact wpIn_ret (fin _ q3)
  ·rw [e1,hrun] at c1; cases c1
theorem zL {R : aS} {A : aS → aS} (hm : P.follows .mixedOrders = true) (hR : jC P R) (hRR : RLe R R) (hA : ∀ w0 Fz μb Y, b6 P w0 Fz μb Y → b6 P w0 Fz μb (A Y)) {nt : Nat} {wa : World} {Fa : Nat → Prop} :
  ∀ (c:Code) (ann:Ann) (w0:World) (Fz:Nat→Prop) (Ds:List Nat) (μ:Mu) (own:Nat→Option Nat) (e:Env) (h:aA) (K:Kx) (a:Act) (w:World),
  Rel w0 Fz μ own h w→bD (Ds.map nS) μ nt e a→lG wa Fa w0 Fz→xY wa w0 Fz Ds→d7 P R A nt ann c e h K→c.wpIn (FR none) 0 P (QKM wa Fa nt μ K) a w:=by
 intro c
 induction c with
 | seq x y ihx ihy =>
  intro ann w0 Fz Ds μ own e h K a w Rl hE hb hM hk
  simp only [d7] at hk
  refine wpIn_seq (wpIn_mono (ihx _ w0 Fz Ds μ own e h _ a w Rl hE hb hM hk) ?_)
  rintro ex a' w' ⟨e',h',μ',own',wb,Fb,Ds',g1,g2,g3,g4,g5,g6⟩
  cases ex with
  | normal =>
   exact wpIn_mono (ihy _ wb Fb Ds' μ' own' _ h' K a' w' g3 (g5.restr _) g2 g4 g1) fun ex a2 w2 ⟨e2,h2,μ2,own2,wc,Fc,D2,k1,k2,k3,k4,k5,k6⟩=>⟨e2,h2,μ2,own2,wc,Fc,D2,k1,k2,k3,k4,k5,g6.trans k6⟩
  | _=>exact ⟨e',h',μ',own',wb,Fb,Ds',g1,g2,g3,g4,g5,g6⟩
 | cond c x y ihx ihy =>
  intro ann w0 Fz Ds μ own e h K a w Rl hE hb hM hk
  simp only [d7] at hk
  rcases nA hk (Rl.ev hE c) with ⟨h1,h2⟩ | ⟨h1,h2⟩
  ·exact wpIn_cond_true h1 (ihx _ w0 Fz Ds μ own e h K a w Rl hE hb hM h2)
  ·exact wpIn_cond_false h1 (ihy _ w0 Fz Ds μ own e h K a w Rl hE hb hM h2)
 | block id x ih =>
  intro ann w0 Fz Ds μ own e h K a w Rl hE hb hM hk
  simp only [d7] at hk
  refine wpIn_block (wpIn_mono (ih _ w0 Fz Ds μ own e h _ a w Rl hE hb hM hk) ?_)
  rintro ex a' w' ⟨e',h',μ',own',wb,Fb,Ds',g1,g2⟩
  cases ex with
  | exit id' =>
   simp only [fL] at g1
   simp only [Exit.inBlock]
   by_cases hid:id'=id
   ·subst hid
    simp at g1
    rw [if_pos rfl]
    exact ⟨e',h',μ',own',wb,Fb,Ds',g1,g2⟩
   ·rw [tD hid] at g1
    rw [if_neg hid]
    exact ⟨e',h',μ',own',wb,Fb,Ds',g1,g2⟩
  | _=>exact ⟨e',h',μ',own',wb,Fb,Ds',g1,g2⟩
 | rangeFunc g ps assign body =>
  intro ann w0 Fz Ds μ own e h K a w Rl hE hb hM hk
  exact aAP hm hR hRR hA Rl hE hb hM hk
 | _ =>
  intro ann w0 Fz Ds μ own e h K a w Rl hE hb hM hk
  exact zS hm hR Rl hE hb hM (by simpa only [d7] using hk)
def aFX (P : Program) (R : aS) (A : aS → aS) (f : FuncId) (args : List AV) (h : aA) (K : AV → aA → Prop) : Prop :=
 ∃ fn body ann, P.funcs[f]? = some fn ∧ fn.body = some body ∧ (fn.name == "runtime.NumGoroutine") = false ∧ args.length ≤ fn.ntmps ∧
  d7 P R A fn.ntmps ann body (d9 0 args) h (oB P fn (aK h K))
theorem z6 {R : aS} {A : aS → aS} (hm : P.follows .mixedOrders = true) (hsz : P.funcs.size ≤ yid0) (hR : jC P R) (hRR : RLe R R) (hA : ∀ w0 Fz μb Y, b6 P w0 Fz μb Y → b6 P w0 Fz μb (A Y)) : jC P (aFX P R A) := by
 rintro w0 Fz μb f args h K ⟨fn,body,ann,hf,hb,hname,hn,hk⟩ μ own w cargs hsb Rl hc
 rw [if_pos (Nat.lt_of_lt_of_le (Array.getElem?_eq_some_iff.1 hf).1 hsz)]
 refine .inl ⟨f,cargs.toArray, ?_, ?_⟩
 ·have hbs : fn.body.isNone = false := by simp [hb]
  simp only [callFunc,Sem.run_bind,run_program,Result.andThen_ok,hf,hname,Bool.false_eq_true,if_false,hbs,Sem.run_pure]
 ·have hE : bD (([] : List Nat).map nS) μ fn.ntmps (d9 0 args) _ := tV hc hn
  refine callsIn_wide.1 (callsIn_of_wp_marks (F:=FR none) (n:=0) hf hb trivial (wpIn_mono (zL hm hR hRR hA body ann w0 Fz [] μ own _ h _ _ w Rl hE (lG.refl Rl) ⟨List.nodup_nil,fun _ h=>by cases h⟩ hk) ?_))
  rintro ex a' w' ⟨e',h',μ',own',wb,Fb,Ds,g1,g2,g3,g4,g5,g6⟩
  have fin:kV P h' e' fn.results.toList (fun vs=>aK h K (tup vs) h')→LeavesInM (FR none) 0 P fn a'.tmps (fun e w'=>∃ v,e = .returned v∧iH w0 Fz μ K v w') a'.defers .returning w':=by
   intro hk
   rw [g5.defers]
   have hDs:∀ D∈Ds,w'.heap[D]? = some (.deferred (some [])):=fun D hD=>(g3.fz D (g4.is D hD).1).2.trans (g4.is D hD).2.2
   refine yW (wa:=wb) (Fa:=Fb) (v:=.u) (cv:=undef) (K:=K) (wb:=wb) Ds Fb wb w' g4.nodup hDs fun w2 s1 s2 s3 s4 s5 s6=>?_
   have R2:Rel w0 Fz μ' own' h' w2:=(g2.rel g3).putMany s1 s2 hDs s3 s4 s5 s6 fun B hB hBD=>by
    have h1:=(g4.is B hBD).2.1
    have h2:=(g2.fz B hB).2.1
    omega
   obtain ⟨vs,cvs,k1,k2,k3⟩:=iP R2 g5 hk
   have hres:(results fn a'.tmps).run P w2 = .ok (if hs:cvs.toArray.size=1 then cvs.toArray[0] else .tuple cvs.toArray) w2:=by
    have e:results fn a'.tmps=(do let vs ← fn.results.mapM (aDW a'); pure (if h:vs.size=1 then vs[0] else .tuple vs)):=rfl
    rw [e,Array.mapM_eq_mapM_toList,Sem.run_bind,Sem.run_map,k3]
    first | done | rfl
   refine ⟨_,hres,_,rfl, ?_⟩
   have ht:=yF k2
   rcases k1 with k1 | ⟨keep,c1,c2,c3,c4,c5,k1⟩
   ·exact ⟨_,μ',own',h',k1,ht,R2,g6⟩
   ·obtain ⟨t1, t2⟩ := Rel.trim Rl R2 g6 c1 c3 c4 c5
    exact ⟨_,_,_,_,k1,yP (fun k hk=>(c3 k hk).1) ht c2,t1,t2⟩
  cases ex with
  | normal=>exact fin g1
  | ret=>exact fin g1
  | exit id=>exact g1.elim
  | goto l=>exact g1.elim
  | panic ch=>exact g1.elim
  | outgrown=>exact g1.elim
end
end Go.GAM
namespace Go.GAM
section
variable {P:Program} {w0:World} {Fz:Nat→Prop} {μ:Mu} {own:Nat→Option Nat} {h:aA} {w:World}
end
end Go.GAM
