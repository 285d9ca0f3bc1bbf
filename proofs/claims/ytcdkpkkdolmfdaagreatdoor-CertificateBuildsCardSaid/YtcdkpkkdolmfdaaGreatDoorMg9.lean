/- Lemmas (several texts in one). -/
import Derived.Test.YtcdkpkkdolmfdaaGreatDoorRows
import Derived.DataElems
import Derived.Test.YtcdkpkkdolmfdaaGreatDoorMg8
set_option linter.unusedVariables false
set_option linter.unusedSimpArgs false
set_option linter.unusedSectionVars false
set_option maxRecDepth 20000
namespace Go.GAM
theorem cD {ty:Option TypeId} {n:Nat} {cells:List AV} {h:aA} {K:AV→aA→Prop} (hn:cells.length=n) (hk:∀ h',h'.length=h.length+1→Upd (fun _=>False) h h'→bE h' h.length cells→K (.p (some ⟨h.length,n,0⟩)) h'):bV ty cells h K:=by
 subst hn; exact b9 hk
theorem kK {ty:Option TypeId} {n:Nat} {x:AV} {h:aA} {K:AV→aA→Prop} (hn:x.parts.length=n) (hs:x.sizeOK=true:=by rfl) (hk:∀ h',h'.length=h.length+1→Upd (fun _=>False) h h'→bE h' h.length x.parts→K (.p (some ⟨h.length,n,0⟩)) h'):eH ty x h K:=by
 subst hn; exact d3 hs hk
end Go.GAM
namespace Go.Proofs.YtcdkpkkdolmfdaaGreatDoor
open Go.GAM Go.RowKit
section
variable {h:aA} {Q:AV→aA→Prop}
theorem aN2 {s:List UInt8} (hs:s.length≤100000000) (hq:Q (.s (iT s)) h):C Y49.id [.s s] h Q:=by
 refine Y49.call ?_
 simp only [Y49.t, ← Y49.p0.eq_1]
 have loop:∀ (k i:Nat),i+k=s.length→Y49.p0 (aI h Q) s vM (iT (s.take i)) i h:=by
  intro k
  induction k with
  | zero =>
   intro i hi
   obtain rfl:i=s.length:=by omega
   refine Y49.i0 ?_
   simp only [Y49.t0, ← Y49.p0.eq_1]
   rw [List.take_length]
   exact aK (by simp) (.inl hq)
  | succ k ih =>
   intro i hi
   have hlt:i<s.length:=by omega
   have hhl:=uG (s.take i)
   rw [List.length_take,Nat.min_eq_left (by omega)] at hhl
   have hc:=(s[i]).toNat_lt
   refine Y49.i0 ?_
   simp only [Y49.t0, ← Y49.p0.eq_1]
   refine aM (by simp; omega) ?_
   refine cW (i:=i) (List.drop_eq_getElem_cons hlt) ?_
   rw [aL (by omega) (by omega)]
   refine gN (b:=16) (by omega) (by omega) ?_
   refine cW (i:=i) (List.drop_eq_getElem_cons hlt) ?_
   rw [aL (by omega) (by omega)]
   refine fO (b:=16) (by omega) ?_
   refine aJ (n:=(((s[i]).toNat / 16+1:Nat):Int)) (by rw [aL (by omega) (by omega)]; omega) ?_
   refine rN (by omega) (by show _≤16; omega) (oH _ (by omega)) ?_
   refine ⟨by rw [hhl]; simp; omega, ?_⟩
   refine aJ (n:=(((s[i]).toNat % 16+1:Nat):Int)) (by rw [aL (by omega) (by omega)]; omega) ?_
   refine rN (by omega) (by show _≤16; omega) (oH _ (by omega)) ?_
   refine ⟨by simp [hhl]; omega, ?_⟩
   refine inc (by omega) ?_
   rw [List.append_assoc, ← zD, ← List.take_succ_eq_append_getElem hlt]
   exact ih (i+1) (by omega)
 exact loop s.length 0 (by omega)
end
end Go.Proofs.YtcdkpkkdolmfdaaGreatDoor
namespace Go.Proofs.YtcdkpkkdolmfdaaGreatDoor
open Go.GAM Go.RowKit
section
variable {h0 hb:aA} {Q:AV→aA→Prop} {x1:AV} {v:List UInt8} {i:Nat}
end
section
variable {h0 hb:aA} {Q:AV→aA→Prop}
end
end Go.Proofs.YtcdkpkkdolmfdaaGreatDoor
namespace Go.Proofs.YtcdkpkkdolmfdaaGreatDoor
open Go.GAM Go.RowKit
section
variable {s:List UInt8} {h0:aA} {Q:AV→aA→Prop}
theorem yJ (hs:s.length≤140737488351232) {c d:UInt8} {r l:List UInt8} {i:Nat} {v:AV} {h:aA} (hi:i<s.length) (hl:l.length≤i) (T:Tx h0 h v l) (hd:d=wH c)
  (hk:∀ v' h',Tx h0 h' v' (l++[wH c])→Y26.p0 (aI h0 Q) s v' (i+1:Nat) h'):Y26.p2 (aI h0 Q) s v i (d.toNat:Int) h:=by
 refine Y26.i2 ?_
 simp only [Y26.t2, ← Y26.p0.eq_1]
 subst hd
 exact T.push (by omega) fun v' h' T'=>inc (by omega) (hk v' h' T')
theorem aGP (hs : s.length ≤ 140737488351232) : ∀ (r : List UInt8) (i : Nat) (v : AV) (l : List UInt8) (h : aA), s.drop i = r → l.length ≤ i → Tx h0 h v l → Q (.s (l ++ gX r)) h0 → Y26.p0 (aI h0 Q) s v i h := by
 intro r
 induction r with
 | nil =>
  intro i v l h hr hl T hq
  have:=cA hr
  refine Y26.i0 ?_
  simp only [Y26.t0, ← Y26.p1.eq_1]
  exact aK (by simp; omega) (T.ret (by simpa [gX] using hq))
 | cons c r ih =>
  intro i v l h hr hl T hq
  have hlt:=cG hr
  have hn:=bU hr
  have hc:=c.toNat_lt
  have hnext:∀ v' h',Tx h0 h' v' (l++[wH c])→Y26.p0 (aI h0 Q) s v' (i+1:Nat) h':=fun v' h' T'=>ih (i+1) v' _ h' hn (by simp; omega) T' (by simpa [gX] using hq)
  have key:∀ b,b=decide (65≤c.toNat∧c.toNat≤90)→Y26.p1 (aI h0 Q) s v i (c.toNat:Int) b h:=by
   intro b hb
   refine Y26.i1 ?_
   simp only [Y26.t1, ← Y26.p2.eq_1]
   refine aG (fun e=>?_) fun e=>?_
   ·subst e
    have hu:65≤c.toNat∧c.toNat≤90:=by simpa using hb.symm
    refine aJ (n:=((wH c).toNat:Int)) (by rw [aF4 hu,gO (by omega) (by omega)]) ?_
    exact yJ hs (r:=r) hlt hl T rfl hnext
   ·subst e
    have hu:¬ (65≤c.toNat∧c.toNat≤90):=by simpa using hb.symm
    exact yJ hs (r:=r) hlt hl T (aFZ hu).symm hnext
  refine Y26.i0 ?_
  simp only [Y26.t0, ← Y26.p1.eq_1]
  refine aM (by simp; omega) (cW hr ?_)
  refine aG (fun e=>key _ ?_) fun e=>key _ ?_
  ·simp only [decide_eq_true_eq] at e
   rw [decide_eq_decide]; omega
  ·simp only [decide_eq_false_iff_not] at e
   symm; simp; omega
theorem aH6 {h:aA} (hs:s.length≤140737488351232) (hk:Q (.s (gX s)) h):C Y26.id [.s s] h Q:=by
 refine Y26.call ?_
 simp only [Y26.t, ← Y26.p0.eq_1]
 exact aGP hs s 0 _ [] h rfl (by simp) (Tx.start h) hk
end
section
variable {h:aA} {Q:AV→aA→Prop}
end
end Go.Proofs.YtcdkpkkdolmfdaaGreatDoor
namespace Go.Proofs.YtcdkpkkdolmfdaaGreatDoor
open Go.GAM Go.RowKit
def cc (ser iss sub:List UInt8) (frm til:Int) (nv:AV) (au:Bool) (key:List UInt8):List AV:=[.s ser,.s iss,.s sub,.i .i64 frm,.i .i64 til,nv,.b au,.s key]
def aPW (hb:aA) (ser iss sub key:List UInt8) (frm til:Int) (Q:AV→aA→Prop):Option (List (List UInt8) × Bool)→Prop
 | none=>∀ nv au h',Upd (fun _=>False) hb h'→(∃ a n c,nv = .sl a n c)→Q (.tu [.ag (cc ser iss sub frm til nv au key),.b false]) h'
 | some x=>∀ nv h',Upd (fun _=>False) hb h'→RdI 1 h' nv (x.1.map .s) x.1.length→(∀ i,bZ nv i→hb.length≤i)→Q (.tu [.ag (cc ser iss sub frm til nv x.2 key),.b true]) h'
structure RSt (hb:aA) (id idr:Nat) (ser iss sub key:List UInt8) (frm til:Int) (h:aA) (ns:List (List UInt8)) (au:Bool) (nv:AV):Prop where
 r:bE h id (cc ser iss sub frm til nv au key)
 q:∃ cs,bE h idr cs∧cs.length=8
 s:eT hb h nv (ns.map .s)
 ni:∀ i,bZ nv i→i≠id∧i≠idr
 il:hb.length≤id
 ml:hb.length≤idr
 ne:idr≠id
section
variable {hb:aA} {id idr:Nat} {ser iss sub key:List UInt8} {frm til:Int} {h:aA} {ns:List (List UInt8)} {au nm bs:Bool} {nv:AV} {Q:AV→aA→Prop}
def RNx (hb:aA) (id idr:Nat) (ser iss sub key:List UInt8) (frm til:Int) (Q:AV→aA→Prop) (v:AV) (i:Nat) (r:List Der):Prop:=
 ∀ h nm bs ns au nv,RSt hb id idr ser iss sub key frm til h ns au nv→ns.length≤16→aPW hb ser iss sub key frm til Q (eJ r nm bs (ns,au))→Y106.p0 Q v (.p (some ⟨id,8,0⟩)) (.p (some ⟨idr,8,0⟩)) nm bs (i+1:Nat) h
variable {v:AV} {i:Nat} {r:List Der} (nx:RNx hb id idr ser iss sub key frm til Q v i r) (hi:i≤300)
include nx hi
end
section
variable {hb:aA} {id idr:Nat} {ser iss sub key:List UInt8} {frm til:Int} {au:Bool} {Q:AV→aA→Prop} {v:AV}
variable {h:aA} {ns:List (List UInt8)} {nm bs:Bool} {nv:AV} {i:Nat} {r:List Der} (nx:RNx hb id idr ser iss sub key frm til Q v i r) (hi:i≤300)
include nx hi
end
section
variable {hb:aA} {id idr:Nat} {ser iss sub key:List UInt8} {frm til:Int} {Q:AV→aA→Prop} {v:AV} {l:List Der} {rows:List (List AV)} {F:Nat→Prop}
end
end Go.Proofs.YtcdkpkkdolmfdaaGreatDoor
namespace Go.Proofs.YtcdkpkkdolmfdaaGreatDoor
open Go.GAM Go.RowKit
def aM6 (hb:aA) (Q:AV→aA→Prop):Option dP→Prop
 | none=>∀ cs h',Upd (fun _=>False) hb h'→cs.length=8→cs.all AV.cellOK=true→Q (.tu [.ag cs,.b false]) h'
 | some c=>∀ nv h',Upd (fun _=>False) hb h'→RdI 1 h' nv (c.names.map .s) c.names.length→(∀ i,bZ nv i→hb.length≤i)→Q (.tu [.ag (fT c nv),.b true]) h'
section
variable {hb h:aA} {id2 id4:Nat} {cs:List AV} {Q:AV→aA→Prop}
end
section
variable {hb h:aA} {id2 id4:Nat} {Q:AV→aA→Prop} {F:Nat→Prop} {w:AV} {rows:List (List AV)} {a b c d e f g:Der} {xs:List Der}
 (L:KL hb F w (a :: b :: c :: d :: e :: f :: g :: xs) rows) (hfit:∀ k∈a :: b :: c :: d :: e :: f :: g :: xs,Fit k) (hxs:xs.length≤1)
 (hq:aM6 hb Q (cH (a :: b :: c :: d :: e :: f :: g :: xs)))
end
end Go.Proofs.YtcdkpkkdolmfdaaGreatDoor
namespace Go.Proofs.YtcdkpkkdolmfdaaGreatDoor
open Go.GAM Go.RowKit
section
variable {hb h:aA} {id2 id4:Nat} {Q:AV→aA→Prop} {F:Nat→Prop} {w:AV} {rows:List (List AV)} {a b c d e f g:Der} {xs:List Der}
 (L:KL hb F w (a :: b :: c :: d :: e :: f :: g :: xs) rows) (hfit:∀ k∈a :: b :: c :: d :: e :: f :: g :: xs,Fit k) (hxs:xs.length≤1)
 (hq:aM6 hb Q (cH (a :: b :: c :: d :: e :: f :: g :: xs)))
end
section
variable {h:aA} {Q:AV→aA→Prop} {F:Nat→Prop}
theorem aMG {c:dP} {r1 r2:List AV} (V1:CV h c r1) (V2:CV h c r2) (hn:c.names.length≤1000000) (hq:Q (.b true) h):C Y36.id [.ag r1,.ag r2] h Q:=by
 obtain ⟨v,rfl,S1⟩:=V1
 obtain ⟨w,rfl,S2⟩:=V2
 refine Y36.call ?_
 simp only [Y36.t, ← Y36.p0.eq_1]
 refine kK (n:=8) rfl rfl fun h1 hl1 U1 R1=>kK (n:=8) rfl rfl fun h2 hl2 U2 R2=>?_
 have R1:bE h2 h.length (fT c v):=R1.upd U2 fun h=>h
 have R2:bE h2 h1.length (fT c w):=R2
 have U:=U1.then U2
 have l1:∀ (o:Nat) (x:AV),(fT c v)[o]? = some x→∀ K:AV→Prop,aC (.p (some ⟨h.length,8,o⟩)) h2 K=K x:=fun o x hx K=>rP R1 rfl hx
 have l2:∀ (o:Nat) (x:AV),(fT c w)[o]? = some x→∀ K:AV→Prop,aC (.p (some ⟨h1.length,8,o⟩)) h2 K=K x:=fun o x hx K=>rP R2 rfl hx
 have loop:∀ (r:List (List UInt8)) (i:Nat),c.names.drop i=r→Y36.p1 (aI h Q) (.p (some ⟨h.length,8,0⟩)) (.p (some ⟨h1.length,8,0⟩)) i h2:=by
  intro r
  induction r with
  | nil =>
   intro i hr
   have:=cA hr
   refine Y36.i1 ?_
   simp only [Y36.t1, ← Y36.p1.eq_1]
   simp only [dY,Nat.zero_add,l1 5 v rfl,(S1.ext U).plen]
   exact aK (by simp; omega) (aV rfl U.ext hq)
  | cons x r ih =>
   intro i hr
   have hlt:=cG hr
   have hx:=b5 hr
   refine Y36.i1 ?_
   simp only [Y36.t1, ← Y36.p1.eq_1]
   simp only [dY,Nat.zero_add,l1 5 v rfl,l2 5 w rfl,(S1.ext U).plen]
   refine aM (by simp; omega) (S1.str U hx (S2.str U hx (aK (by simp) (inc (by omega) (ih (i+1) (bU hr))))))
 simp only [dY,Nat.zero_add,l1 0 _ rfl,l2 0 _ rfl,bL]
 refine aK (by simp) ?_
 simp only [l1 1 _ rfl,l2 1 _ rfl,bL]
 refine aK (by simp) ?_
 simp only [l1 2 _ rfl,l2 2 _ rfl,bL]
 refine aK (by simp) ?_
 simp only [l1 3 _ rfl,l2 3 _ rfl,bY]
 refine aK (by simp) ?_
 simp only [l1 4 _ rfl,l2 4 _ rfl,bY]
 refine aK (by simp) ?_
 simp only [l1 6 _ rfl,l2 6 _ rfl,aHZ]
 refine aK (by simp) ?_
 simp only [l1 7 _ rfl,l2 7 _ rfl,bL]
 refine aK (by simp) ?_
 simp only [l1 5 _ rfl,l2 5 _ rfl,(S1.ext U).plen,(S2.ext U).plen]
 refine Y36.i0 ?_
 simp only [Y36.t0, ← Y36.p1.eq_1]
 exact aK (by simp) (loop c.names 0 rfl)
end
end Go.Proofs.YtcdkpkkdolmfdaaGreatDoor
namespace Go.Proofs.YtcdkpkkdolmfdaaGreatDoor
open Go.GAM Go.RowKit
def xV:Option Nat→Int
 | some x=>(x:Int)
 | none=>-1
theorem aFU {c:UInt8} {x:Nat} (h:mV c=some x):x<16:=(sF h).2
theorem aKE (c:UInt8):Lib.indexByte vM c=xV (mV c):=by
 have:∀ n:Fin 256,Lib.indexByte vM (UInt8.ofNat n.1)=xV (mV (UInt8.ofNat n.1)):=by decide +kernel
 have h:=this ⟨c.toNat,c.toNat_lt⟩
 simpa using h
def iN (c:UInt8):Option Nat:=if 48≤c.toNat∧c.toNat≤57 then some (c.toNat - 48) else if 97≤c.toNat∧c.toNat≤102 then some (c.toNat - 87) else if 65≤c.toNat∧c.toNat≤70 then some (c.toNat - 55) else none
theorem aE8 {c:UInt8} {x:Nat} (h:iN c=some x):x<16:=by
 unfold iN at h
 split at h
 ·cases h; omega
 ·split at h
  ·cases h; omega
  ·split at h
   ·cases h; omega
   ·cases h
theorem aFX {c:UInt8} {x:Nat} (h:mV c=some x):iN c=some x:=by
 unfold mV at h
 unfold iN
 split at h
 ·rename_i e; rw [if_pos e]; exact h
 ·rename_i e
  split at h
  ·rename_i e2; rw [if_neg e,if_pos e2]; exact h
  ·cases h
def fM (f : UInt8 → Option Nat) : List UInt8 → Option (List UInt8)
 | []=>some []
 | a :: b :: r => match f a, f b, fM f r with
  | some x,some y,some l=>some (UInt8.ofNat (16 * x+y) :: l)
  | _,_,_=>none
 | [_]=>none
theorem yY:∀ (s l:List UInt8),eW s=some l→fM iN s=some l
 | [],l,h=>h
 | [_],l,h=>by unfold eW at h; cases h
 | a :: b :: r, l, h => by
  unfold eW at h
  unfold fM
  split at h
  ·rename_i x y l' hx hy hl
   rw [aFX hx,aFX hy,yY r l' hl]; exact h
  ·cases h
theorem aKV:∀ x,x<16→mV (pU x)=some x:=by decide
theorem wW:∀ l:List UInt8,eW (iT l)=some l
 | []=>rfl
 | c :: l => by
  have hc:=c.toNat_lt
  show eW (pU (c.toNat / 16) :: pU (c.toNat % 16) :: iT l)=_
  unfold eW
  rw [aKV _ (by omega),aKV _ (by omega),wW l]
  simp only
  rw [show 16 * (c.toNat / 16)+c.toNat % 16=c.toNat by omega]
  simp
def zH (s:List UInt8):Option (List UInt8):=if s.length<2∨40<s.length∨s.length % 2≠0 then none else match fM iN s with
 | none=>none
 | some l=>if iT l≠s then none else if pB l=true then none else some l
theorem aDR (s : List UInt8) : zH s = cB s := by
 unfold zH cB
 by_cases h:s=[]∨s.length % 2=1∨40<s.length
 ·rw [if_pos h, if_pos]
  rcases h with h | h | h
  ·left; rw [h]; simp
  ·right; right; omega
  ·right; left; exact h
 ·rw [if_neg h, if_neg]
  ·cases hu : eW s with
   | some l =>
    rw [yY s l hu]
    simp only
    rw [if_neg (by simpa using pI s l hu)]
   | none =>
    cases hv:fM iN s with
    | none=>rfl
    | some l =>
     simp only
     rw [if_pos]
     intro e
     rw [← e,wW] at hu
     cases hu
  ·rintro (h1 | h1 | h1)
   ·have : s = [] ∨ s.length % 2 = 1 := by
     match s,h1 with
     | [],_=>left; rfl
     | [_],_=>right; rfl
    rcases this with h2 | h2
    ·exact h (.inl h2)
    ·exact h (.inr (.inl h2))
   ·exact h (.inr (.inr h1))
   ·exact h (.inr (.inl (by omega)))
section
variable {h:aA} {Q:AV→aA→Prop} {s:List UInt8}
theorem aGJ {c:UInt8} {h:aA} (hq:Q (.b (decide (48≤c.toNat∧c.toNat≤57))) h):C Y66.id [.i .u8 (c.toNat:Int)] h Q:=by
 refine Y66.call ?_
 simp only [Y66.t, ← Y66.p0.eq_1]
 have fin:∀ b,b=decide (48≤c.toNat∧c.toNat≤57)→Y66.p0 (aI h Q) b h:=by
  intro b hb; subst hb
  refine Y66.i0 ?_
  simp only [Y66.t0]
  exact .inl hq
 refine aG (fun e=>fin _ ?_) fun e=>fin _ ?_
 ·have e := of_decide_eq_true e
  rw [decide_eq_decide]; omega
 ·have e := of_decide_eq_false e
  symm; rw [decide_eq_false_iff_not]; omega
theorem aFT {c : UInt8} {h : aA} (hq : Q (.i .i64 (xV (iN c))) h) : C Y38.id [.i .u8 (c.toNat : Int)] h Q := by
 have hc:=c.toNat_lt
 refine Y38.call ?_
 simp only [Y38.t, ← Y38.p0.eq_1]
 refine aGJ (aX ?_)
 unfold iN at hq
 by_cases h1:48≤c.toNat∧c.toNat≤57
 ·rw [if_pos h1] at hq
  refine aM (decide_eq_true h1) (aJ (n:=((c.toNat - 48:Nat):Int)) ?_ (.inl hq))
  rw [aL (n:=(c.toNat:Int)) (by omega) (by omega),aL (by omega) (by omega)]; omega
 rw [if_neg h1] at hq
 refine aK (decide_eq_false h1) ?_
 have p1:∀ b,b=decide (65≤c.toNat∧c.toNat≤70)→¬ (97≤c.toNat∧c.toNat≤102)→Y38.p1 (aI h Q) (c.toNat:Int) b h:=by
  intro b hb hn
  subst hb
  rw [if_neg hn] at hq
  refine Y38.i1 ?_
  simp only [Y38.t1]
  by_cases h2:65≤c.toNat∧c.toNat≤70
  ·rw [if_pos h2] at hq
   refine aM (decide_eq_true h2) (aJ (n:=((c.toNat - 55:Nat):Int)) ?_ (.inl hq))
   rw [aL (n:=(c.toNat:Int)) (by omega) (by omega),aL (by omega) (by omega)]; omega
  ·rw [if_neg h2] at hq
   exact aK (decide_eq_false h2) (.inl hq)
 have p0:∀ b,b=decide (97≤c.toNat∧c.toNat≤102)→Y38.p0 (aI h Q) (c.toNat:Int) b h:=by
  intro b hb
  subst hb
  refine Y38.i0 ?_
  simp only [Y38.t0, ← Y38.p1.eq_1]
  by_cases h2:97≤c.toNat∧c.toNat≤102
  ·rw [if_pos h2] at hq
   refine aM (decide_eq_true h2) (aJ (n:=((c.toNat - 87:Nat):Int)) ?_ (.inl hq))
   rw [aL (n:=(c.toNat:Int)) (by omega) (by omega),aL (by omega) (by omega)]; omega
  ·refine aK (decide_eq_false h2) (aG (fun e => p1 _ ?_ h2) fun e => p1 _ ?_ h2)
   ·have e := of_decide_eq_true e
    rw [decide_eq_decide]; omega
   ·have e := of_decide_eq_false e
    symm; rw [decide_eq_false_iff_not]; omega
 refine aG (fun e=>p0 _ ?_) fun e=>p0 _ ?_
 ·have e := of_decide_eq_true e
  rw [decide_eq_decide]; omega
 ·have e := of_decide_eq_false e
  symm; rw [decide_eq_false_iff_not]; omega
theorem aFL {l:List UInt8} {c:UInt8} {h:aA} (hk:Q (.i .i64 (Lib.indexByte l c)) h):C Y82.id [.s l,.i .u8 (c.toNat:Int)] h Q:=by
 refine Y82.call ?_
 simp only [Y82.t]
 exact rA (aU (.inl hk))
def zG (o:Option (List UInt8)):AV:=.tu [.s (txt o),.b o.isSome]
def aDI (l:List UInt8):Option (List UInt8):=if pB l=true then none else some l
theorem or4 {x y:Nat} (hx:x<16) (hy:y<16):cI .or .i64 ((x * 16:Nat):Int) (y:Int)=((16 * x+y:Nat):Int):=by
 have:∀ a:Fin 16, ∀ b:Fin 16,cI .or .i64 ((a.1 * 16:Nat):Int) (b.1:Int)=((16 * a.1+b.1:Nat):Int):=by decide +kernel
 exact this ⟨x,hx⟩ ⟨y,hy⟩
theorem vZ (a b:UInt8) (r:List UInt8):pB (a :: b :: r)=((decide (a.toNat=0)&&decide (b.toNat<128))||(decide (a.toNat=255)&&decide (128≤b.toNat))):=rfl
theorem aHC {h0 h:aA} {v:AV} {l:List UInt8} (T:Tx h0 h v l) (hq:Q (zG (aDI l)) h0):Y16.p3 (aI h0 Q) v (pB l) h:=by
 refine Y16.i3 ?_
 simp only [Y16.t3]
 unfold aDI at hq
 cases hl:pB l with
 | true=>rw [hl] at hq; exact aM rfl (aV rfl T.upd.ext hq)
 | false=>rw [hl] at hq; exact aK rfl (T.str (aV rfl T.upd.ext hq))
theorem aHM {h0 : aA} (hs : s.length ≤ 40) : ∀ (n : Nat) (r : List UInt8) (i : Nat) (v : AV) (l : List UInt8) (h : aA), s.drop i = r → r.length = 2 * n → l.length ≤ i → Tx h0 h v l →
  Q (zG (match eW r with
   | none=>none
   | some m=>aDI (l++m))) h0→Y16.p1 (aI h0 Q) s v i h:=by
 intro n
 induction n with
 | zero =>
  intro r i v l h hr hn hl T hq
  have:r=[]:=List.eq_nil_of_length_eq_zero (by omega)
  subst this
  have hi:=cA hr
  have hq:Q (zG (aDI (l++[]))) h0:=hq
  rw [List.append_nil] at hq
  have fin:∀ b,b=pB l→Y16.p3 (aI h0 Q) v b h:=fun b hb=>by rw [hb]; exact aHC T hq
  refine Y16.i1 ?_
  simp only [Y16.t1, ← Y16.p2.eq_1, ← Y16.p3.eq_1]
  refine aK (by simp; omega) (T.arr.rd.len ?_)
  match l,T,fin with
  | [],T,fin=>exact aK rfl (fin _ rfl)
  | [a],T,fin=>exact aK rfl (fin _ rfl)
  | a :: b :: l', T, fin =>
   rw [vZ] at fin
   have ha:=a.toNat_lt
   have hb:=b.toNat_lt
   have la:∀ {K:Int→Prop},K (a.toNat:Int)→aE 1 v (.i .i64 0) h fun x=>aC x h fun y=>asI .u8 y K:=fun hk=>T.load (i:=0) (c:=a) rfl (aU hk)
   have lb:∀ {K:Int→Prop},K (b.toNat:Int)→aE 1 v (.i .i64 1) h fun x=>aC x h fun y=>asI .u8 y K:=fun hk=>T.load (i:=1) (c:=b) rfl (aU hk)
   refine aM (by simp; omega) (la ?_)
   by_cases h0':a.toNat=0
   ·refine aM (decide_eq_true (by omega)) (lb ?_)
    by_cases h1:b.toNat<128
    ·exact aM (decide_eq_true (by omega)) (fin _ (by simp [h0',h1]))
    ·refine aK (decide_eq_false (by omega)) (la (aK (decide_eq_false (by omega)) (fin _ (by simp [h0',h1]))))
   ·refine aK (decide_eq_false (by omega)) (la ?_)
    by_cases h2:a.toNat=255
    ·refine aM (decide_eq_true (by omega)) (lb (fin _ ?_))
     simp [h0',h2]; omega
    ·exact aK (decide_eq_false (by omega)) (fin _ (by simp [h0',h2]))
 | succ n ih =>
  intro r i v l h hr hn hl T hq
  match r,hr,hn,hq with
  | a :: b :: r', hr, hn, hq =>
   have hlt:=cG hr
   have hr1:=bU hr
   have hlt1:=cG hr1
   have hr2:=bU hr1
   have hb : ∀ b', b' = !((mV a).isSome && (mV b).isSome) → Y16.p2 (aI h0 Q) s v i (xV (mV a)) (xV (mV b)) b' h := by
    intro b' hb'
    refine Y16.i2 ?_
    simp only [Y16.t2, ← Y16.p1.eq_1]
    cases hx:mV a with
    | none =>
     rw [hx] at hb'
     subst hb'
     refine aM rfl (aV rfl T.upd.ext ?_)
     have:eW (a :: b :: r')=none:=by unfold eW; rw [hx]
     rw [this] at hq; exact hq
    | some x =>
     cases hy:mV b with
     | none =>
      rw [hx,hy] at hb'
      subst hb'
      refine aM rfl (aV rfl T.upd.ext ?_)
      have:eW (a :: b :: r')=none:=by unfold eW; rw [hx,hy]
      rw [this] at hq; exact hq
     | some y =>
      rw [hx,hy] at hb'
      subst hb'
      have lx:=aFU hx
      have ly:=aFU hy
      refine aK rfl (iY (b:=4) (n:=((x * 16:Nat):Int)) (by omega) ?_ (by omega) (by omega) ?_)
      ·show ((x : Nat) : Int) * 2 ^ 4 = _
       omega
      have e:cI .or .i64 ((x * 16:Nat):Int) (xV (some y))=((16 * x+y:Nat):Int):=or4 lx ly
      rw [e]
      refine aJ (n:=(((UInt8.ofNat (16 * x+y)).toNat:Nat):Int)) ?_ ?_
      ·rw [gO (by omega) (by omega),lK (by omega)]
      refine T.push (by omega) fun v' h' T'=>?_
      refine aNZ (by omega) (ih r' (i+2) v' (l++[UInt8.ofNat (16 * x+y)]) h' hr2 (by simp at hn; omega) (by simp; omega) T' ?_)
      have:eW (a :: b :: r')=(match eW r' with
        | some m=>some (UInt8.ofNat (16 * x+y) :: m)
        | none=>none):=by
       conv=>lhs; unfold eW
       rw [hx,hy]
       cases eW r' <;> rfl
      rw [this] at hq
      cases hu:eW r' with
      | none=>rw [hu] at hq; exact hq
      | some m=>rw [hu] at hq; simpa using hq
   refine Y16.i1 ?_
   simp only [Y16.t1, ← Y16.p2.eq_1, ← Y16.p3.eq_1]
   refine aM (by simp; omega) (cW hr (inc (by omega) (cW hr1 ?_)))
   refine aFL (aU (aFL (aU ?_)))
   rw [show ([48,49,50,51,52,53,54,55,56,57,97,98,99,100,101,102]:List UInt8)=vM from rfl,aKE,aKE]
   have neg:∀ o:Option Nat,decide (xV o<0) = !o.isSome:=by
    intro o; cases o with
    | none=>rfl
    | some x=>exact decide_eq_false (by show ¬ ((x:Nat):Int)<0; omega)
   rw [neg,neg]
   refine aG (fun e=>hb _ ?_) fun e=>hb _ ?_
   ·have e : (mV a).isSome = false := by simpa using e
    rw [e] <;> rfl
   ·have e : (mV a).isSome = true := by simpa using e
    rw [e] <;> rfl
theorem aBI (hq:Q (zG (cB s)) h):C Y16.id [.s s] h Q:=by
 refine Y16.call ?_
 simp only [Y16.t, ← Y16.p0.eq_1]
 unfold cB at hq
 have p0:∀ b,b=decide (s=[]∨s.length % 2=1∨40<s.length)→Y16.p0 (aI h Q) s b h:=by
  intro b hb
  subst hb
  refine Y16.i0 ?_
  simp only [Y16.t0, ← Y16.p1.eq_1]
  by_cases hc:s=[]∨s.length % 2=1∨40<s.length
  ·rw [if_pos hc] at hq
   exact aM (decide_eq_true hc) (.inl hq)
  ·rw [if_neg hc] at hq
   refine aK (decide_eq_false hc) (aHM (by omega) (s.length / 2) s 0 _ [] h rfl (by omega) (by simp) (Tx.start h) ?_)
   cases hu:eW s with
   | none=>rw [hu] at hq; exact hq
   | some m=>rw [hu] at hq; exact hq
 by_cases h1:s=[]
 ·exact aM (decide_eq_true h1) (p0 _ (by symm; exact decide_eq_true (.inl h1)))
 refine aK (decide_eq_false h1) (fO (b:=2) (by omega) ?_)
 by_cases h2:s.length % 2=1
 ·exact aM (decide_eq_true (by omega)) (p0 _ (by symm; exact decide_eq_true (.inr (.inl h2))))
 refine aK (decide_eq_false (by omega)) (p0 _ ?_)
 rw [decide_eq_decide]
 constructor
 ·intro h; exact .inr (.inr (by omega))
 ·rintro (h | h | h)
  ·exact absurd h h1
  ·exact absurd h h2
  ·omega
end
end Go.Proofs.YtcdkpkkdolmfdaaGreatDoor
namespace Go.Proofs.YtcdkpkkdolmfdaaGreatDoor
open Go.GAM Go.RowKit
def aNU (s l:List UInt8):Option (List UInt8):=if iT l≠s then none else aDI l
section
variable {h:aA} {Q:AV→aA→Prop} {s:List UInt8}
theorem aDM {h0 h:aA} {v:AV} {l:List UInt8} (T:Tx h0 h v l) (hq:Q (zG (aDI l)) h0):Y15.p3 (aI h0 Q) v (pB l) h:=by
 refine Y15.i3 ?_
 simp only [Y15.t3]
 unfold aDI at hq
 cases hl:pB l with
 | true=>rw [hl] at hq; exact aM rfl (aV rfl T.upd.ext hq)
 | false=>rw [hl] at hq; exact aK rfl (T.str (aV rfl T.upd.ext hq))
theorem aD0 {h0 : aA} (hs : s.length ≤ 40) : ∀ (n : Nat) (r : List UInt8) (i : Nat) (v : AV) (l : List UInt8) (h : aA), s.drop i = r → r.length = 2 * n → l.length + r.length ≤ 1000 → Tx h0 h v l →
  Q (zG (match fM iN r with
   | none=>none
   | some m=>aNU s (l++m))) h0→Y15.p1 (aI h0 Q) s v i h:=by
 intro n
 induction n with
 | zero =>
  intro r i v l h hr hn hl T hq
  have:r=[]:=List.eq_nil_of_length_eq_zero (by omega)
  subst this
  have hi:=cA hr
  have hq:Q (zG (aNU s (l++[]))) h0:=hq
  rw [List.append_nil] at hq
  unfold aNU at hq
  refine Y15.i1 ?_
  simp only [Y15.t1, ← Y15.p2.eq_1, ← Y15.p3.eq_1]
  refine aK (by simp; omega) (T.str (aN2 (by omega) (aZ ?_)))
  by_cases hx:iT l≠s
  ·rw [if_pos hx] at hq
   exact aM (by simpa using hx) (aV rfl T.upd.ext hq)
  rw [if_neg hx] at hq
  have fin:∀ b,b=pB l→Y15.p3 (aI h0 Q) v b h:=fun b hb=>by rw [hb]; exact aDM T hq
  refine aK (by simpa using hx) (T.arr.rd.len ?_)
  match l,T,fin with
  | [],T,fin=>exact aK rfl (fin _ rfl)
  | [a],T,fin=>exact aK rfl (fin _ rfl)
  | a :: b :: l', T, fin =>
   rw [vZ] at fin
   have ha:=a.toNat_lt
   have hb:=b.toNat_lt
   have la:∀ {K:Int→Prop},K (a.toNat:Int)→aE 1 v (.i .i64 0) h fun x=>aC x h fun y=>asI .u8 y K:=fun hk=>T.load (i:=0) (c:=a) rfl (aU hk)
   have lb:∀ {K:Int→Prop},K (b.toNat:Int)→aE 1 v (.i .i64 1) h fun x=>aC x h fun y=>asI .u8 y K:=fun hk=>T.load (i:=1) (c:=b) rfl (aU hk)
   refine aM (by simp; omega) (la ?_)
   by_cases h0':a.toNat=0
   ·refine aM (decide_eq_true (by omega)) (lb ?_)
    by_cases h1:b.toNat<128
    ·exact aM (decide_eq_true (by omega)) (fin _ (by simp [h0',h1]))
    ·refine aK (decide_eq_false (by omega)) (la (aK (decide_eq_false (by omega)) (fin _ (by simp [h0',h1]))))
   ·refine aK (decide_eq_false (by omega)) (la ?_)
    by_cases h2:a.toNat=255
    ·refine aM (decide_eq_true (by omega)) (lb (fin _ ?_))
     simp [h0',h2]; omega
    ·exact aK (decide_eq_false (by omega)) (fin _ (by simp [h0',h2]))
 | succ n ih =>
  intro r i v l h hr hn hl T hq
  match r,hr,hn,hq with
  | a :: b :: r', hr, hn, hq =>
   have hlt:=cG hr
   have hr1:=bU hr
   have hlt1:=cG hr1
   have hr2:=bU hr1
   have hb : ∀ b', b' = !((iN a).isSome && (iN b).isSome) → Y15.p2 (aI h0 Q) s v i (xV (iN a)) (xV (iN b)) b' h := by
    intro b' hb'
    refine Y15.i2 ?_
    simp only [Y15.t2, ← Y15.p1.eq_1]
    cases hx:iN a with
    | none =>
     rw [hx] at hb'
     subst hb'
     refine aM rfl (aV rfl T.upd.ext ?_)
     have:fM iN (a :: b :: r')=none:=by unfold fM; rw [hx]
     rw [this] at hq; exact hq
    | some x =>
     cases hy:iN b with
     | none =>
      rw [hx,hy] at hb'
      subst hb'
      refine aM rfl (aV rfl T.upd.ext ?_)
      have:fM iN (a :: b :: r')=none:=by unfold fM; rw [hx,hy]
      rw [this] at hq; exact hq
     | some y =>
      rw [hx,hy] at hb'
      subst hb'
      have lx:=aE8 hx
      have ly:=aE8 hy
      refine aK rfl (aJ (n:=((16 * x:Nat):Int)) ?_ (aJ (n:=((16 * x+y:Nat):Int)) ?_ ?_))
      ·show IntKind.wrap .i64 (16 * ((x : Nat) : Int)) = _
       rw [aL (by omega) (by omega)]; omega
      ·show IntKind.wrap .i64 (((16 * x : Nat) : Int) + ((y : Nat) : Int)) = _
       rw [aL (by omega) (by omega)]; omega
      have e:IntKind.wrap .u8 ((16 * x+y:Nat):Int)=(((UInt8.ofNat (16 * x+y)).toNat:Nat):Int):=by
       rw [gO (by omega) (by omega),lK (by omega)]
      rw [e]
      refine T.push (by simp at hl; omega) fun v' h' T'=>?_
      refine aNZ (by omega) (ih r' (i+2) v' (l++[UInt8.ofNat (16 * x+y)]) h' hr2 (by simp at hn; omega) (by simp at hl ⊢; omega) T' ?_)
      have:fM iN (a :: b :: r')=(match fM iN r' with
        | some m=>some (UInt8.ofNat (16 * x+y) :: m)
        | none=>none):=by
       conv=>lhs; unfold fM
       rw [hx,hy]
       cases fM iN r' <;> rfl
      rw [this] at hq
      cases hu:fM iN r' with
      | none=>rw [hu] at hq; exact hq
      | some m=>rw [hu] at hq; simpa using hq
   refine Y15.i1 ?_
   simp only [Y15.t1, ← Y15.p2.eq_1, ← Y15.p3.eq_1]
   refine aM (by simp; omega) (cW hr (inc (by omega) (cW hr1 ?_)))
   refine aFT (aU (aFT (aU ?_)))
   have neg:∀ o:Option Nat,decide (xV o<0) = !o.isSome:=by
    intro o; cases o with
    | none=>rfl
    | some x=>exact decide_eq_false (by show ¬ ((x:Nat):Int)<0; omega)
   rw [neg,neg]
   refine aG (fun e=>hb _ ?_) fun e=>hb _ ?_
   ·have e : (iN a).isSome = false := by simpa using e
    rw [e] <;> rfl
   ·have e : (iN a).isSome = true := by simpa using e
    rw [e] <;> rfl
theorem yK (hq:Q (zG (cB s)) h):C Y15.id [.s s] h Q:=by
 rw [← aDR] at hq
 refine Y15.call ?_
 simp only [Y15.t, ← Y15.p0.eq_1]
 unfold zH at hq
 have p0:∀ b,b=decide (s.length<2∨40<s.length∨s.length % 2≠0)→Y15.p0 (aI h Q) s b h:=by
  intro b hb
  subst hb
  refine Y15.i0 ?_
  simp only [Y15.t0, ← Y15.p1.eq_1]
  by_cases hc:s.length<2∨40<s.length∨s.length % 2≠0
  ·rw [if_pos hc] at hq
   exact aM (decide_eq_true hc) (.inl hq)
  ·rw [if_neg hc] at hq
   refine aK (decide_eq_false hc) (aD0 (by omega) (s.length / 2) s 0 _ [] h rfl (by omega) (by simp; omega) (Tx.start h) ?_)
   cases hu:fM iN s with
   | none=>rw [hu] at hq; exact hq
   | some m=>rw [hu] at hq; exact hq
 by_cases h1:s.length<2
 ·exact aM (decide_eq_true (by omega)) (p0 _ (by symm; exact decide_eq_true (.inl h1)))
 refine aK (decide_eq_false (by omega)) ?_
 by_cases h2:40<s.length
 ·exact aM (decide_eq_true (by omega)) (p0 _ (by symm; exact decide_eq_true (.inr (.inl h2))))
 refine aK (decide_eq_false (by omega)) (fO (b:=2) (by omega) (p0 _ ?_))
 by_cases h3:s.length % 2=0
 ·rw [decide_eq_true (show ((s.length % 2 : Nat) : Int) = 0 by omega)]
  symm; rw [Bool.not_true,decide_eq_false_iff_not]; omega
 ·rw [decide_eq_false (show ¬ ((s.length % 2 : Nat) : Int) = 0 by omega)]
  symm; rw [Bool.not_false,decide_eq_true_eq]; omega
end
end Go.Proofs.YtcdkpkkdolmfdaaGreatDoor
namespace Go.GAM
theorem uJ {n:Nat} {v:AV} (h:ok1 n [] v=true):pP n [] v=v:=by
 have key:∀ a:AA,mF n [] a.id=true→xU n [] a=a:=by
  intro a ha
  unfold mF at ha
  have:a.id<n:=by simpa using ha
  unfold xU lM
  rw [if_pos this]
 unfold ok1 at h
 split at h
 ·rename_i a; show AV.p (some (xU n [] a))=_; rw [key a h]
 ·rename_i a l c; show AV.sl (some (xU n [] a)) l c=_; rw [key a h]
 all_goals first | rfl | cases h
theorem aMW {n:Nat} {v:AV} (h:okR n [] v=true):ren n [] v=v:=by
 have hl:∀ cs:List AV,cs.all (ok1 n [])=true→cs.map (pP n [])=cs:=by
  intro cs
  induction cs with
  | nil=>exact fun _=>rfl
  | cons c cs ih =>
   intro hc
   simp only [List.all_cons,Bool.and_eq_true] at hc
   rw [List.map_cons,uJ hc.1,ih hc.2]
 cases v with
 | ag cs=>show AV.ag (cs.map (pP n []))=_; rw [hl cs h]
 | tu cs=>show AV.tu (cs.map (pP n []))=_; rw [hl cs h]
 | p a=>exact uJ (v:=.p a) h
 | sl a l c=>exact uJ (v:=.sl a l c) h
 | _=>rfl
theorem aBD {h0 h:aA} {K:AV→aA→Prop} {r:AV} (hp:okR h0.length [] r=true) (hE:Ext h0 h) (hk:K r h0):aI h0 K r h:=by
 refine .inr ⟨[],List.nodup_nil,hp,by simp,fun id hi=>.inl (hE.2 id hi),hE.1, ?_⟩
 rw [aMW hp,hE.take]
 simpa using hk
def aAA (n:Nat) (v:AV):Prop:=∃ a l c,v = .sl a l c∧∀ x,a=some x→x.id<n
theorem aAA.ok {n:Nat} {v:AV} (h:aAA n v):ok1 n [] v=true:=by
 obtain ⟨a,l,c,rfl,hx⟩:=h
 cases a with
 | none=>rfl
 | some x=>show mF n [] x.id=true; unfold mF; simp [hx x rfl]
theorem aAA.sl {n:Nat} {v:AV} (h:aAA n v):∃ a l c,v = .sl a l c:=by
 obtain ⟨a,l,c,rfl,hx⟩:=h; exact ⟨_,_,_,rfl⟩
theorem Rd.low {sz:Nat} {h:aA} {v:AV} {cs:List AV} {n:Nat} (R:Rd sz h v cs n):aAA h.length v:=by
 rcases R with ⟨rfl,_⟩ | ⟨id,ver,off,cap,b,rfl,h2,_⟩
 ·exact ⟨_,_,_,rfl,fun x hx=>by cases hx⟩
 ·exact ⟨_,_,_,rfl,fun x hx=>by cases hx; exact bM h2⟩
theorem Arr.low {sz:Nat} {h:aA} {v:AV} {cs:List AV} {n:Nat} (R:Arr sz h v cs n):aAA h.length v:=R.rd.low
end Go.GAM
namespace Go.Proofs.YtcdkpkkdolmfdaaGreatDoor
open Go.GAM Go.RowKit
section
variable {h:aA} {Q:AV→aA→Prop}
theorem dN {c t:Int} {m:Bool} {v:AV} (hv:aAA h.length v) (hq:Q (.ag [.i .i64 c,.i .i64 t,.b true,.s [],v]) h):C Y43.id [shp c t m,v] h Q:=by
 have hok:=hv.ok
 obtain ⟨a,n,cap,rfl⟩:=hv.sl
 refine Y43.call ?_
 simp only [Y43.t]
 refine d3 rfl fun h1 hl1 U1 R1=>?_
 refine b9 fun h2 hl2 U2 R2=>?_
 have R1':=R1.upd U2 fun h=>h
 refine aP (aO R1' rfl rfl (aU (aP (aO R1' rfl rfl (aU ?_)))))
 refine zX (cs:=[.i .i64 c,.i .i64 t,.b true,.s [],.sl a n cap]) rfl ?_
 refine bA R2 rfl rfl rfl fun h3 hl3 U3 R3=>bB R3 rfl ?_
 refine aBD ?_ ((U1.then U2).own U3 (by omega)).ext hq
 show (true&&(true&&(true&&(true&&(ok1 h.length [] (.sl a n cap)&&true)))))=true
 rw [hok] <;> rfl
theorem dS {v:AV} (hv:aAA h.length v) (hq:Q (.ag [.i .i64 0,.i .i64 16,.b true,.s [],v]) h):C Y40.id [v] h Q:=by
 have hok:=hv.ok
 obtain ⟨a,n,cap,rfl⟩:=hv.sl
 refine Y40.call ?_
 simp only [Y40.t]
 refine b9 fun h2 hl2 U2 R2=>?_
 refine lE (cs:=[.i .i64 0,.i .i64 16,.b true,.s [],.sl a n cap]) rfl ?_
 refine bA R2 rfl rfl rfl fun h3 hl3 U3 R3=>bB R3 rfl ?_
 refine aBD ?_ (U2.own U3 (by omega)).ext hq
 show (true&&(true&&(true&&(true&&(ok1 h.length [] (.sl a n cap)&&true)))))=true
 rw [hok] <;> rfl
theorem eU {c t:Int} {s:List UInt8} (hq:Q (.ag (bF c t false s)) h):C Y53.id [.i .i64 c,.i .i64 t,.s s] h Q:=by
 refine Y53.call ?_
 simp only [Y53.t]
 refine b9 fun h2 hl2 U2 R2=>bA R2 rfl rfl rfl fun h3 hl3 U3 R3=>bB R3 rfl ?_
 exact aV rfl (U2.own U3 (by omega)).ext hq
theorem DV.row {F:Nat→Prop} {d:Der} {r:List AV} (D:DV h F d r):∃ c t m s a n cap,r=[.i .i64 c,.i .i64 t,.b m,.s s,.sl a n cap]:=by
 cases D with
 | @mk c t m s ks v rows Dk sv fv ov =>
  rcases sv with sv | ⟨_,_,a,c',rfl⟩
  ·rcases sv with ⟨rfl,_⟩ | ⟨id,ver,off,cap,b,rfl,_⟩ <;> exact ⟨_,_,_,_,_,_,_,rfl⟩
  ·exact ⟨_,_,_,_,_,_,_,rfl⟩
theorem DV.of {F:Nat→Prop} {c t:Int} {m:Bool} {s:List UInt8} {ks:List Der} {v:AV} {rows:List (List AV)} {cs:List AV} {n:Nat} (R:Rd 5 h v cs n) (D:DVs h F ks rows) (hc:cs=rows.flatten) (hn:n=rows.length) (hF:∀ i,bZ v i→F i):DV h F (.mk c t m s ks) [.i .i64 c,.i .i64 t,.b m,.s s,v]:=by
 subst hc hn
 obtain ⟨a,l,k,e,_⟩:=R.low
 exact .mk D (.inl R) (fun i hi=>⟨hF i hi,R.lt hi⟩) (by rw [e] <;> rfl)
theorem DVs.one {F:Nat→Prop} {d:Der} {r:List AV} (D:DV h F d r):DVs h F [d] [r]:=.cons D .nil
theorem DVs.two {F:Nat→Prop} {d e:Der} {r q:List AV} (D:DV h F d r) (E:DV h F e q):DVs h F [d,e] [r,q]:=.cons D (.cons E .nil)
def aJL (t:List UInt8):List UInt8:=if t=[67,78] then [50,46,53,46,52,46,51] else if t=[79] then [50,46,53,46,52,46,49,48] else if t=[79,85] then [50,46,53,46,52,46,49,49] else if t=[67] then [50,46,53,46,52,46,54] else []
theorem aKI {t:List UInt8} (hq:Q (.tu [.s (aJL t),.b (iV t)]) h):C Y75.id [.s t] h Q:=by
 refine Y75.call ?_
 simp only [Y75.t]
 unfold aJL iV at hq
 by_cases h1:t=[67,78]
 ·exact aM (decide_eq_true h1) (.inl (by simpa [h1] using hq))
 refine aK (decide_eq_false h1) ?_
 by_cases h2:t=[79]
 ·exact aM (decide_eq_true h2) (.inl (by simpa [h2] using hq))
 refine aK (decide_eq_false h2) ?_
 by_cases h3:t=[79,85]
 ·exact aM (decide_eq_true h3) (.inl (by simpa [h3] using hq))
 refine aK (decide_eq_false h3) ?_
 by_cases h4:t=[67]
 ·exact aM (decide_eq_true h4) (.inl (by simpa [h4] using hq))
 exact aK (decide_eq_false h4) (.inl (by simpa [h1,h2,h3,h4] using hq))
theorem aAP {t:List UInt8} (h:iV t=true):aJL t=iQ t∧g9 (iQ t) = .ok (cJ (iQ t))∧(cJ (iQ t)).length≤10:=by
 rcases fF h with rfl | rfl | rfl | rfl
 ·exact ⟨rfl,lD _ (qY h)⟩
 ·exact ⟨rfl,lD _ (qY h)⟩
 ·exact ⟨rfl,lD _ (qY h)⟩
 ·exact ⟨rfl,lD _ (qY h)⟩
def setA (a:Att):Der:=.mk 0 17 true [] [.mk 0 16 true [] [.mk 0 6 false (cJ (iQ a.1)) [],.mk 0 12 false a.2 []]]
theorem aHS (a:Att):gF (iQ a.1) (b3 sps a.2)=setA a:=by unfold gF setA; rw [pM]
theorem aD3 {s : List UInt8} (hne : s ≠ []) (hl : s.length ≤ 512) {l : List Att} (h : fS (s.length + 1) s = some l) : bK s = (gQ (l.map setA), 0) := by
 rcases yN hne hl with ⟨l',e1,e2,e3,e4,e5⟩ | ⟨e1,_⟩
 ·rw [e1] at h
  cases h
  unfold bK at e5 ⊢
  rw [if_neg (by omega),if_neg hne] at e5 ⊢
  have hk:(bO [] s).flatMap kidsOf=l.map setA:=by
   conv=>lhs; rw [e2]
   rw [kF l e3 e4]
   clear e1 e2 e4 e5
   induction l with
   | nil=>rfl
   | cons a l ih =>
    rw [List.map_cons,List.flatMap_cons,zB (e3 a (by simp)).1,aHS,ih fun x hx=>e3 x (by simp [hx])] <;> rfl
  rw [hk] at e5 ⊢
  by_cases hn:cZ (gQ (l.map setA))=some s
  ·rw [if_pos hn]
  ·rw [if_neg hn] at e5; cases e5
 ·rw [e1] at h; cases h
end
end Go.Proofs.YtcdkpkkdolmfdaaGreatDoor
namespace Go.GAM
theorem bH {sz len:Nat} {zeros cs:List AV} {parts:List (Nat × Nat × AV)} {h:aA} {K:AV→aA→Prop} (hf:fC zeros parts=some cs) (hl:cs.length=len * sz)
  (hk:∀ v h',h'.length=h.length+1→Upd (fun _=>False) h h'→Arr sz h' v cs len→(∀ id,bZ v id→id=h.length)→K v h'):aN sz len zeros parts h K:=by
 unfold aN
 rw [hf]
 refine ⟨hl,hk _ _ (by simp) (Upd.app _ _) (.inr ⟨h.length,bR cs sz true,rfl,by simp,rfl,hl,rfl,Nat.le_refl _,rfl,rfl⟩) fun id hi=>by cases hi; rfl⟩
theorem Upd.extM {M:Nat→Prop} {h h':aA} (U:Upd M h h') {hb:aA} (E:Ext hb h) (hM:∀ i,M i→hb.length≤i):Ext hb h':=
 ⟨Nat.le_trans E.1 U.1,fun i hi=>(U.2 i (Nat.lt_of_lt_of_le hi E.1) fun hm=>by have:=hM i hm; omega).trans (E.2 i hi)⟩
theorem Ext.u {hb h:aA} (E:Ext hb h):Upd (fun _=>False) hb h:=⟨E.1,fun i hi _=>E.2 i hi⟩
end Go.GAM
namespace Go.Proofs.YtcdkpkkdolmfdaaGreatDoor
open Go.GAM Go.RowKit
structure LSt (F0:Nat→Prop) (hb h:aA) (v:AV) (ks:List Der):Prop where
 ext:Ext hb h
 arr:∃ rows,Arr 5 h v rows.flatten rows.length∧DVs h (fun i=>F0 i∧¬ bZ v i) ks rows
 new:∀ i,bZ v i→hb.length≤i∧F0 i
section
variable {F0:Nat→Prop} {hb h:aA} {v:AV} {ks:List Der}
theorem LSt.nil (E:Ext hb h):LSt F0 hb h (.sl none 0 none) []:=⟨E,⟨[],Arr.nil _ _,.nil⟩,fun i hi=>hi.elim⟩
theorem LSt.up {h':aA} (S:LSt F0 hb h v ks) (U:Upd (fun _=>False) h h'):LSt F0 hb h' v ks:=by
 obtain ⟨rows,A,D⟩:=S.arr
 exact ⟨S.ext.trans U.ext,⟨rows,A.upd U fun _ _ h=>h,D.upd U fun i hi _=>⟨fun h=>h,hi⟩⟩,S.new⟩
theorem LSt.lt (S:LSt F0 hb h v ks) {i:Nat} (hi:bZ v i):i<h.length:=by
 obtain ⟨rows,A,D⟩:=S.arr
 exact A.rd.lt hi
theorem LSt.low (S:LSt F0 hb h v ks):aAA h.length v:=by
 obtain ⟨rows,A,D⟩:=S.arr
 exact A.low
theorem LSt.val (S:LSt F0 hb h v ks) (c t:Int) (m:Bool) (s:List UInt8):DV h F0 (.mk c t m s ks) [.i .i64 c,.i .i64 t,.b m,.s s,v]:=by
 obtain ⟨rows,A,D⟩:=S.arr
 exact DV.of A.rd (D.upd (Upd.refl (fun _=>False) h) fun i hi _=>⟨fun h=>h,hi.1⟩) rfl rfl fun i hi=>(S.new i hi).2
theorem LSt.len (S:LSt F0 hb h v ks) {K:Int→Prop} (hk:K (ks.length:Int)):bP v K:=by
 obtain ⟨rows,A,D⟩:=S.arr
 refine A.rd.len ?_
 rw [← D.length]; exact hk
theorem LSt.push {ty:Option TypeId} {y:AV} {r:List AV} {k:Der} (S:LSt F0 hb h v ks) (hn:ks.length≤4000) (R:Rd 5 h y r 1) (D:DV h (fun i=>F0 i∧¬ bZ v i) k r) (hF:∀ i,h.length≤i→F0 i) {K:AV→aA→Prop}
  (hk:∀ v' h',Upd (bZ v) h h'→LSt F0 hb h' v' (ks++[k])→K v' h'):bN ty 5 64 v y h K:=by
 obtain ⟨rows,A,Ds⟩:=S.arr
 have hrows:=Ds.length
 refine A.append (by decide) (ns:=r) (k:=1) (fun K hK=>R.news hK) (by rw [D.len]) D.cells' (by omega) (by omega) fun v' h' U A' F=>hk v' h' U ?_
 have e1:(rows++[r]).flatten=rows.flatten++r:=by simp
 have e2:(rows++[r]).length=rows.length+1:=by simp
 refine ⟨U.extM S.ext fun i hi=>(S.new i hi).1,⟨rows++[r],by rw [e1,e2]; exact A',(Ds.app D).upd U fun i hi hl=>⟨hi.2,hi.1,fun hs=>?_⟩⟩,fun i hi=>?_⟩
 ·rcases F i hs with h | h
  ·exact hi.2 h
  ·omega
 ·rcases F i hi with h | h
  ·exact S.new i h
  ·exact ⟨Nat.le_trans S.ext.1 h,hF i h⟩
end
section
variable {h0 hb:aA} {Q:AV→aA→Prop}
theorem aEN {x4:AV} {l:List Att} {idr:Nat} (E0:Ext h0 hb) (hidr:h0.length≤idr) (hlr:idr<hb.length) (R4:RdI 2 hb x4 (prs l) l.length) (hl:l.length≤1000) (hok:∀ a∈l,iV a.1=true) (hq:aIL h0 Q (gQ (l.map setA),0)) :
  ∀ (r:List Att) (i:Nat) (h:aA) (v:AV),l.drop i=r→(∃ c2,bE h idr c2∧c2.length=5)→LSt (fun i=>h0.length≤i∧i≠idr) hb h v ((l.take i).map setA)→Y42.p0 (aI h0 Q) (.p (some ⟨idr,5,0⟩)) x4 v i h:=by
 intro r
 induction r with
 | nil =>
  intro i h v hr hR S
  obtain ⟨c2,R2,hc2⟩:=hR
  have hi:=cA hr
  have R4':=R4.ext S.ext.u
  rw [List.take_of_length_le hi] at S
  refine Y42.i0 ?_
  simp only [Y42.t0, ← Y42.p0.eq_1]
  simp only [R4'.plen]
  refine aK (by simp; omega) (dS S.low ?_)
  have D:=S.val 0 16 true []
  refine bA R2 hc2.symm rfl D.cells' fun h1 hl1 U1 R1=>bB R1 rfl (.inl ?_)
  refine hq h1 _ ?_ (D.upd U1 fun i hi hl=>⟨hi.2,hi.1⟩)
  exact ⟨Nat.le_trans E0.1 (Nat.le_trans S.ext.1 U1.1),fun i hi _=>(U1.2 i (Nat.lt_of_lt_of_le hi (Nat.le_trans E0.1 S.ext.1)) (by omega)).trans ((S.ext.2 i (Nat.lt_of_lt_of_le hi E0.1)).trans (E0.2 i hi))⟩
 | cons a r ih =>
  intro i h v hr hR S
  obtain ⟨c2,R2,hc2⟩:=hR
  have hlt:=cG hr
  have hn:=bU hr
  have hai:=b5 hr
  obtain ⟨hid1,hid2,hid3⟩:=aAP (hok a (List.mem_of_getElem? hai))
  have cell:∀ o x,[AV.s a.1,AV.s a.2][o]? = some x→(prs l)[i * 2+o]? = some x:=by
   intro o x hx
   have ho:o<2:=bM hx
   rw [← aKX l i a hai,List.getElem?_take_of_lt ho,List.getElem?_drop] at hx
   exact hx
  have fi:∀ h':aA,Ext hb h'→∀ K:AV→Prop,aE 2 x4 (.i .i64 (i:Int)) h' K=K (ptr x4 2 i 0):=fun h' E K=>by
   rw [aKB (R4.ext E.u) (by omega) (by omega),Int.toNat_natCast]
  have ff:∀ (o:Nat) (K:AV→Prop),aD o (ptr x4 2 i 0) K=K (ptr x4 2 i o):=fun o K=>by rw [aIH R4 hlt,Nat.zero_add]
  have f0:∀ h':aA,Ext hb h'→∀ K:AV→Prop,aC (ptr x4 2 i 0) h' K=K (.s a.1):=fun h' E K=>aCJ (R4.ext E.u) hlt (by omega) (cell 0 _ rfl)
  have f1:∀ h':aA,Ext hb h'→∀ K:AV→Prop,aC (ptr x4 2 i 1) h' K=K (.s a.2):=fun h' E K=>aCJ (R4.ext E.u) hlt (by omega) (cell 1 _ rfl)
  refine Y42.i0 ?_
  simp only [Y42.t0, ← Y42.p0.eq_1]
  simp only [(R4.ext S.ext.u).plen]
  refine aM (by simp; omega) ?_
  simp only [fi h S.ext,ff,f0 h S.ext,bL]
  refine aKI (bD (aZ (bC (aX ?_))))
  rw [hid1]
  refine uS fun h1 U1=>?_
  rw [hid2]
  refine bD (bC (aU (cD (n:=5) rfl fun h2 hl2 U2 R2'=>bA R2' rfl rfl rfl fun h3 hl3 U3 R3=>bB R3 rfl ?_)))
  have V3:Upd (fun _=>False) h h3:=(U1.then U2).own U3 U1.1
  have E3:=S.ext.trans V3.ext
  simp only [fi h3 E3,ff,f1 h3 E3,bL]
  refine eU ?_
  have l3:∀ h':aA,Upd (fun _=>False) h3 h'→∀ K:AV→Prop,aB 5 (.p (some ⟨h1.length,5,0⟩)) h' K=K (.ag (bF 0 6 false (cJ (iQ a.1)))):=fun h' U K=>by
   exact k7 (k:=5) (R3.upd U fun h=>h) rfl (by show 0+5≤5; omega)
  have u3:=Upd.refl (fun _=>False) h3
  simp only [fi h3 E3,ff,f1 h3 E3,bL,l3 h3 u3,aR,true_and]
  refine bH (cs:=bF 0 6 false (cJ (iQ a.1))++bF 0 12 false a.2) (len:=2) rfl rfl fun wa h4 hl4 U4 A4 N4=>?_
  have E4:=E3.trans U4.ext
  have u4:=u3.then U4
  simp only [fi h4 E4,ff,f1 h4 E4,bL,l3 h4 u4,aR,true_and]
  refine dS A4.low ?_
  simp only [fi h4 E4,ff,f1 h4 E4,bL,l3 h4 u4,aR,true_and]
  obtain ⟨xa,na,ka,ea,_⟩:=A4.low
  refine bH (cs:=[.i .i64 0,.i .i64 16,.b true,.s [],wa]) (len:=1) (by rw [ea] <;> rfl) rfl fun wb h5 hl5 U5 A5 N5=>?_
  have E5:=E4.trans U5.ext
  have u5:=u4.then U5
  simp only [fi h5 E5,ff,f1 h5 E5,bL,l3 h5 u5,aR,true_and]
  obtain ⟨xb,nb,kb,eb,_⟩:=A5.low
  refine lE (cs:=[.i .i64 0,.i .i64 17,.b true,.s [],wb]) (by rw [eb] <;> rfl) ?_
  refine bH (cs:=[.i .i64 0,.i .i64 17,.b true,.s [],wb]) (len:=1) (by rw [eb] <;> rfl) rfl fun wc h6 hl6 U6 A6 N6=>?_
  have E6:=E5.trans U6.ext
  have u6:=u5.then U6
  simp only [fi h6 E6,ff,f1 h6 E6,bL,l3 h6 u6,aR,true_and]
  have V6:Upd (fun _=>False) h h6:=V3.then ((U4.then U5).then U6)
  have S6:=S.up V6
  have hb0:=E0.1
  have hbh:=S.ext.1
  have h13:=U1.1
  have hl36:h3.length=h1.length+1:=by omega
  have nv:∀ i,h.length≤i→¬ bZ v i:=fun i hi hs=>by have:=S.lt hs; omega
  have Da:DV h4 (fun i=>(h0.length≤i∧i≠idr)∧¬ bZ v i) (.mk 0 16 true [] [.mk 0 6 false (cJ (iQ a.1)) [],.mk 0 12 false a.2 []]) [.i .i64 0,.i .i64 16,.b true,.s [],wa]:=
   DV.of A4.rd (DVs.two (DV.leaf _ _ _ _ _ _) (DV.leaf _ _ _ _ _ _)) rfl rfl fun i hi=>by have:=N4 i hi; exact ⟨⟨by omega,by omega⟩,nv i (by omega)⟩
  have Db:DV h6 (fun i=>(h0.length≤i∧i≠idr)∧¬ bZ v i) (setA a) [.i .i64 0,.i .i64 17,.b true,.s [],wb]:=
   (DV.of A5.rd (DVs.one (Da.ext U5)) (by simp) rfl fun i hi=>by have:=N5 i hi; exact ⟨⟨by omega,by omega⟩,nv i (by omega)⟩:DV h5 _ _ _).ext U6
  have htk:(l.take (i+1)).map setA=(l.take i).map setA++[setA a]:=by rw [cR hai,List.map_append] <;> rfl
  refine S6.push (by rw [List.length_map,List.length_take]; omega) A6.rd Db (fun i hi=>⟨by omega,by omega⟩) fun v' h7 U7 S7=>?_
  have R3':bE h6 h1.length (bF 0 6 false (cJ (iQ a.1))):=R3.upd u6 fun h=>h
  have l7:∀ K:AV→Prop,aB 5 (.p (some ⟨h1.length,5,0⟩)) h7 K=K (.ag (bF 0 6 false (cJ (iQ a.1)))):=fun K=>by
   exact k7 (k:=5) (R3'.upd U7 (nv _ h13)) rfl (by show 0+5≤5; omega)
  simp only [fi h7 S7.ext,ff,f1 h7 S7.ext,bL,l7,aR,true_and]
  rw [← htk] at S7
  refine inc (by omega) (ih (i+1) h7 v' hn ⟨c2,(R2.upd V6 fun h=>h).upd U7 fun hs=>?_,hc2⟩ S7)
  exact (S.new idr hs).2.2 rfl
theorem yA {s : List UInt8} {l : List Att} (hl : s.length ≤ 512) (h : jJ s = some l) : bK s = (gQ (l.map setA), 0) ∧ (∀ a ∈ l, iV a.1 = true) ∧ l.length ≤ 600 := by
 unfold jJ at h
 by_cases hn:s=[]
 ·subst hn
  rw [if_pos rfl] at h
  cases h
  exact ⟨rfl,(fun a ha=>by cases ha),by simp⟩
 ·rw [if_neg hn] at h
  refine ⟨aD3 hn hl h,fun a ha=>((nQ _ _ _ h).2.1 a ha).1, ?_⟩
  obtain ⟨e,_⟩:=nQ _ _ _ h
  have:∀ l:List Att,l.length≤(gA l).length+1:=by
   intro l
   induction l with
   | nil=>simp
   | cons a l ih =>
    cases l with
    | nil=>simp
    | cons b l =>
     rw [jP,List.length_append,List.length_cons,List.length_cons]
     simp only [List.length_cons] at ih ⊢
     omega
  have:=this l
  rw [← e] at this
  omega
theorem yG {s:List UInt8} (hl:s.length≤512) (h:jJ s=none):bK s=(.zero,5):=by
 unfold jJ at h
 by_cases hn:s=[]
 ·subst hn; rw [if_pos rfl] at h; cases h
 ·rw [if_neg hn] at h
  rcases yN hn hl with ⟨l',e1,_⟩ | ⟨_,e5⟩
  ·rw [e1] at h; cases h
  ·unfold bK at e5 ⊢
   rw [if_neg (by omega),if_neg hn] at e5 ⊢
   split at e5
   ·cases e5
   ·rename_i hx; rw [if_neg hx]
theorem oU {s:List UInt8} {h:aA} (hq:aIL h Q (bK s)):C Y42.id [.s s] h Q:=by
 refine Y42.call ?_
 simp only [Y42.t, ← Y42.p0.eq_1]
 refine cD (n:=5) rfl fun h1 hl1 U1 R1=>?_
 have bad:∀ (e:Int) (h':aA),bK s=(.zero,e)→Upd (fun _=>False) h1 h'→aS 5 (.p (some ⟨h.length,5,0⟩)) (.ag z5) h' fun h15=>aB 5 (.p (some ⟨h.length,5,0⟩)) h15 fun v17=>aI h Q (.tu [v17,.i .i64 e]) h15:=by
  intro e h' hn U
  rw [hn] at hq
  exact bA (R1.upd U fun h=>h) rfl rfl rfl fun h2 hl2 U2 R2=>bB R2 rfl (.inl (hq h2 _ ((U1.then U).own U2 (Nat.le_refl _)) (DV.zero _ _)))
 by_cases hl:512<s.length
 ·refine aM (decide_eq_true (by omega)) (bad 3 h1 ?_ (Upd.refl _ _))
  unfold bK; rw [if_pos hl]
 refine aK (decide_eq_false (by omega)) ?_
 refine zP (by omega) fun w h2 U2 R2=>?_
 cases ha:jJ s with
 | none=>exact bD (bC (aX (aM rfl (bad 5 h2 (yG (by omega) ha) U2))))
 | some l =>
  rw [ha] at R2
  obtain ⟨e1,e2,e3⟩:=yA (by omega) ha
  rw [e1] at hq
  refine bD (bC (aX (aK rfl ?_)))
  exact aEN (U1.then U2).ext (Nat.le_refl _) (by have:=U2.1; omega) R2 (by show l.length≤1000; omega) e2 hq l 0 h2 _ rfl ⟨_,R1.upd U2 fun h=>h,rfl⟩ (LSt.nil (Ext.refl _))
end
end Go.Proofs.YtcdkpkkdolmfdaaGreatDoor
namespace Go.Proofs.YtcdkpkkdolmfdaaGreatDoor
open Go.GAM Go.RowKit
structure CBd (c:dP):Prop where
 n:c.names.length≤1000000
 s:∀ x∈c.names,x.length≤140737488351232
 i:c.issuer.length≤9223372036854775807
 j:c.subject.length≤9223372036854775807
def gK (c:dP):Bool:=decide (c.frm<0∨253402300799<c.til∨c.til<c.frm)
def mS (c:dP):Bool:=decide ((bK c.issuer).2≠0∨(bK c.subject).2≠0)
def wO (l:List (List UInt8)):Bool:=l.any fun n=>!decide (gX n=n)
def gB (c:dP):Bool:=decide (16<c.names.length∨1024<c.key.length)
theorem oI (c:dP):dZ c=if gK c=true then 4 else if mS c=true then 5 else if wO c.names=true then 5 else if cB c.serial=none then 2 else if gB c=true then 3 else 0:=by
 unfold dZ gK mS wO gB
 simp only [decide_eq_true_eq]
section
variable {h:aA} {Q:AV→aA→Prop} {c:dP} {cs:List AV}
theorem aLQ (G : CG h) (V : CV h c cs) (B : CBd c) (hq : Q (.i .i64 (dZ c)) h) : C Y18.id [.ag cs] h Q := by
 obtain ⟨nv,rfl,S⟩:=V
 rw [oI] at hq
 refine Y18.call ?_
 simp only [Y18.t, ← Y18.p0.eq_1]
 refine kK (n:=8) rfl rfl fun h1 hl1 U1 R1=>?_
 have R1:bE h1 h.length (fT c nv):=R1
 have ld:∀ (h':aA),Upd (fun _=>False) h1 h'→∀ (o:Nat) (x:AV),(fT c nv)[o]? = some x→∀ K:AV→Prop,aC (.p (some ⟨h.length,8,o⟩)) h' K=K x:=fun h' U o x hx K=>rP (R1.upd U fun h=>h) rfl hx
 have u1:=Upd.refl (fun _=>False) h1
 have p3:∀ h':aA,Upd (fun _=>False) h1 h'→Q (.i .i64 (if gB c=true then 3 else 0)) h→Y18.p3 (aI h Q) (gB c) h':=by
  intro h' U hk
  refine Y18.i3 ?_
  simp only [Y18.t3]
  cases hb:gB c with
  | true=>rw [hb] at hk; exact aM rfl (aV rfl (U1.then U).ext hk)
  | false=>rw [hb] at hk; exact aK rfl (aV rfl (U1.then U).ext hk)
 have p2 : ∀ h' : aA, Upd (fun _ => False) h1 h' → ∀ (r : List (List UInt8)) (i : Nat), c.names.drop i = r → Q (.i .i64 (if wO r = true then 5 else if cB c.serial = none then 2 else if gB c = true then 3 else 0)) h →
   Y18.p2 (aI h Q) (.p (some ⟨h.length,8,0⟩)) nv (c.names.length:Nat) i h':=by
  intro h' U r
  have E:=(U1.then U).ext
  induction r with
  | nil =>
   intro i hr hk
   have hi:=cA hr
   rw [if_neg (by unfold wO; simp)] at hk
   refine Y18.i2 ?_
   simp only [Y18.t2, ← Y18.p2.eq_1, ← Y18.p3.eq_1]
   refine aK (by simp; omega) ?_
   simp only [dY,Nat.zero_add,ld h' U 0 _ rfl,bL]
   refine aBI ?_
   cases hs:cB c.serial with
   | none =>
    rw [hs,if_pos rfl] at hk
    exact bD (aZ (bC (aX (aM rfl (aV rfl E hk)))))
   | some l =>
    rw [hs,if_neg (by simp)] at hk
    refine bD (aZ (bC (aX (aK rfl ?_))))
    simp only [ld h' U 5 _ rfl,(S.ext (U1.then U)).plen,ld h' U 7 _ rfl,bL]
    by_cases h16:16<c.names.length
    ·refine aM (decide_eq_true (by omega)) ?_
     have hb:gB c=true:=by unfold gB; exact decide_eq_true (.inl h16)
     rw [← hb]; exact p3 h' U hk
    ·refine aK (decide_eq_false (by omega)) ?_
     have hb:(decide ((1024:Int)<(c.key.length:Int)))=gB c:=by
      unfold gB; rw [decide_eq_decide]; omega
     rw [hb]; exact p3 h' U hk
  | cons x r ih =>
   intro i hr hk
   have hlt:=cG hr
   have hx:=b5 hr
   have hn:=B.n
   refine Y18.i2 ?_
   simp only [Y18.t2, ← Y18.p2.eq_1, ← Y18.p3.eq_1]
   refine aM (by simp; omega) ((S.ext U1).str U hx ?_)
   refine aEZ (by have:=B.s x (List.mem_of_getElem? hx); omega) (aZ ?_)
   have e:wO (x :: r)=(!decide (gX x=x)||wO r):=rfl
   rw [e] at hk
   cases hl:decide (gX x=x) with
   | false=>rw [hl] at hk; exact aM rfl (aV rfl E hk)
   | true =>
    rw [hl] at hk
    refine aK rfl (inc (by omega) (ih (i+1) (bU hr) hk))
 have p1:∀ h':aA,Upd (fun _=>False) h1 h'→Q (.i .i64 (if mS c=true then 5 else if wO c.names=true then 5 else if cB c.serial=none then 2 else if gB c=true then 3 else 0)) h→Y18.p1 (aI h Q) (.p (some ⟨h.length,8,0⟩)) (mS c) h':=by
  intro h' U hk
  refine Y18.i1 ?_
  simp only [Y18.t1, ← Y18.p2.eq_1]
  cases hb:mS c with
  | true=>rw [hb] at hk; exact aM rfl (aV rfl (U1.then U).ext hk)
  | false =>
   rw [hb,if_neg (by decide)] at hk
   refine aK rfl ?_
   simp only [dY,Nat.zero_add,ld h' U 5 _ rfl,(S.ext (U1.then U)).plen]
   exact p2 h' U c.names 0 rfl hk
 have p0:Y18.p0 (aI h Q) (.p (some ⟨h.length,8,0⟩)) (gK c) h1:=by
  refine Y18.i0 ?_
  simp only [Y18.t0, ← Y18.p1.eq_1]
  cases hb:gK c with
  | true=>rw [hb] at hq; exact aM rfl (aV rfl U1.ext hq)
  | false =>
   rw [hb,if_neg (by decide)] at hq
   refine aK rfl ?_
   simp only [dY,Nat.zero_add,ld h1 u1 1 _ rfl,bL]
   refine kZ (G.ext U1) B.i fun h2 cs2 U2 D2=>?_
   refine bD (bC (aU (cD (n:=5) rfl fun h3 hl3 U3 R3=>bA R3 rfl D2.len D2.cells' fun h4 hl4 U4 R4=>?_)))
   have V4:Upd (fun _=>False) h1 h4:=(U2.then U3).own U4 U2.1
   simp only [dY,Nat.zero_add,ld h4 V4 2 _ rfl,bL]
   refine kZ (G.ext (U1.then V4)) B.j fun h5 cs5 U5 D5=>?_
   refine bD (bC (aU (cD (n:=5) rfl fun h6 hl6 U6 R6=>bA R6 rfl D5.len D5.cells' fun h7 hl7 U7 R7=>?_)))
   have V7:Upd (fun _=>False) h1 h7:=V4.then ((U5.then U6).own U7 U5.1)
   by_cases e1:(bK c.issuer).2=0
   ·refine aK (by rw [e1] <;> rfl) ?_
    have hb:(!decide ((bK c.subject).2=0))=mS c:=by unfold mS; simp [e1]
    rw [hb]; exact p1 h7 V7 hq
   ·refine aM (by simp [e1]) ?_
    have hb:true=mS c:=by unfold mS; simp [e1]
    rw [hb]; exact p1 h7 V7 hq
 have fin:∀ b,b=gK c→Y18.p0 (aI h Q) (.p (some ⟨h.length,8,0⟩)) b h1:=fun b hb=>by rw [hb]; exact p0
 simp only [dY,Nat.zero_add,ld h1 u1 3 _ rfl,ld h1 u1 4 _ rfl,bY]
 refine aG (fun e=>fin _ ?_) fun e=>aG (fun e2=>fin _ ?_) fun e2=>fin _ ?_
 ·have e := of_decide_eq_true e
  unfold gK; symm; exact decide_eq_true (.inl e)
 ·have e2 := of_decide_eq_true e2
  unfold gK; symm; exact decide_eq_true (.inr (.inl e2))
 ·have e := of_decide_eq_false e
  have e2:=of_decide_eq_false e2
  unfold gK; rw [decide_eq_decide]; omega
theorem aJD (V : CV h c cs) (B : CBd c) (hq : Q (.i .i64 (dZ c)) h) : C Y27.id [.ag cs] h Q := by
 obtain ⟨nv,rfl,S⟩:=V
 rw [oI] at hq
 refine Y27.call ?_
 simp only [Y27.t, ← Y27.p0.eq_1]
 refine kK (n:=8) rfl rfl fun h1 hl1 U1 R1=>?_
 have R1:bE h1 h.length (fT c nv):=R1
 have ld:∀ (h':aA),Upd (fun _=>False) h1 h'→∀ (o:Nat) (x:AV),(fT c nv)[o]? = some x→∀ K:AV→Prop,aC (.p (some ⟨h.length,8,o⟩)) h' K=K x:=fun h' U o x hx K=>rP (R1.upd U fun h=>h) rfl hx
 have u1:=Upd.refl (fun _=>False) h1
 have p3:∀ h':aA,Upd (fun _=>False) h1 h'→Q (.i .i64 (if gB c=true then 3 else 0)) h→Y27.p2 (aI h Q) (gB c) h':=by
  intro h' U hk
  refine Y27.i2 ?_
  simp only [Y27.t2]
  cases hb:gB c with
  | true=>rw [hb] at hk; exact aM rfl (aV rfl (U1.then U).ext hk)
  | false=>rw [hb] at hk; exact aK rfl (aV rfl (U1.then U).ext hk)
 have p2 : ∀ h' : aA, Upd (fun _ => False) h1 h' → ∀ (r : List (List UInt8)) (i : Nat), c.names.drop i = r → Q (.i .i64 (if wO r = true then 5 else if cB c.serial = none then 2 else if gB c = true then 3 else 0)) h →
   Y27.p1 (aI h Q) (.p (some ⟨h.length,8,0⟩)) i h':=by
  intro h' U r
  have E:=(U1.then U).ext
  have S':=S.ext (U1.then U)
  induction r with
  | nil =>
   intro i hr hk
   have hi:=cA hr
   rw [if_neg (by unfold wO; simp)] at hk
   refine Y27.i1 ?_
   simp only [Y27.t1, ← Y27.p1.eq_1, ← Y27.p2.eq_1]
   simp only [dY,Nat.zero_add,ld h' U 5 _ rfl,S'.plen]
   refine aK (by simp; omega) ?_
   simp only [dY,Nat.zero_add,ld h' U 0 _ rfl,bL]
   refine yK ?_
   cases hs:cB c.serial with
   | none =>
    rw [hs,if_pos rfl] at hk
    exact bD (aZ (bC (aX (aM rfl (aV rfl E hk)))))
   | some l =>
    rw [hs,if_neg (by simp)] at hk
    refine bD (aZ (bC (aX (aK rfl ?_))))
    simp only [ld h' U 5 _ rfl,S'.plen,ld h' U 7 _ rfl,bL]
    by_cases h16:16<c.names.length
    ·refine aM (decide_eq_true (by omega)) ?_
     have hb:gB c=true:=by unfold gB; exact decide_eq_true (.inl h16)
     rw [← hb]; exact p3 h' U hk
    ·refine aK (decide_eq_false (by omega)) ?_
     have hb:(decide ((1024:Int)<(c.key.length:Int)))=gB c:=by
      unfold gB; rw [decide_eq_decide]; omega
     rw [hb]; exact p3 h' U hk
  | cons x r ih =>
   intro i hr hk
   have hlt:=cG hr
   have hx:=b5 hr
   have hn:=B.n
   have fi:∀ K:AV→Prop,aE 1 nv (.i .i64 (i:Int)) h' K=K (ptr nv 1 i 0):=fun K=>by
    rw [aKB S' (by omega) (by omega),Int.toNat_natCast]
   have fl:∀ K:AV→Prop,aC (ptr nv 1 i 0) h' K=K (.s x):=fun K=>aCJ S' hlt (by omega) (by rw [Nat.mul_one,Nat.add_zero,List.getElem?_map,hx] <;> rfl)
   refine Y27.i1 ?_
   simp only [Y27.t1, ← Y27.p1.eq_1, ← Y27.p2.eq_1]
   simp only [dY,Nat.zero_add,ld h' U 5 _ rfl,S'.plen]
   refine aM (by simp; omega) ?_
   simp only [fi,fl,bL]
   refine aH6 (by have:=B.s x (List.mem_of_getElem? hx); omega) (aZ ?_)
   simp only [fi,fl,bL,ld h' U 5 _ rfl,aR,true_and]
   have e:wO (x :: r)=(!decide (gX x=x)||wO r):=rfl
   rw [e] at hk
   cases hl:decide (gX x=x) with
   | false=>rw [hl] at hk; exact aM rfl (aV rfl E hk)
   | true =>
    rw [hl] at hk
    refine aK rfl (inc (by omega) (ih (i+1) (bU hr) hk))
 have p0 : Y27.p0 (aI h Q) (.p (some ⟨h.length, 8, 0⟩)) (gK c) h1 := by
  refine Y27.i0 ?_
  simp only [Y27.t0, ← Y27.p1.eq_1]
  cases hb:gK c with
  | true=>rw [hb] at hq; exact aM rfl (aV rfl U1.ext hq)
  | false =>
   rw [hb,if_neg (by decide)] at hq
   refine aK rfl ?_
   simp only [dY,Nat.zero_add,ld h1 u1 1 _ rfl,bL]
   refine oU fun h2 cs2 U2 D2=>?_
   refine bD (bC (aU (cD (n:=5) rfl fun h3 hl3 U3 R3=>bA R3 rfl D2.len D2.cells' fun h4 hl4 U4 R4=>?_)))
   have V4:Upd (fun _=>False) h1 h4:=(U2.then U3).own U4 U2.1
   by_cases e1:(bK c.issuer).2=0
   ·refine aK (by rw [e1] <;> rfl) ?_
    simp only [dY,Nat.zero_add,ld h4 V4 2 _ rfl,bL]
    refine oU fun h5 cs5 U5 D5=>?_
    refine bD (bC (aU (cD (n:=5) rfl fun h6 hl6 U6 R6=>bA R6 rfl D5.len D5.cells' fun h7 hl7 U7 R7=>?_)))
    have V7:Upd (fun _=>False) h1 h7:=V4.then ((U5.then U6).own U7 U5.1)
    by_cases e2:(bK c.subject).2=0
    ·refine aK (by rw [e2] <;> rfl) (p2 h7 V7 c.names 0 rfl ?_)
     rw [if_neg (by unfold mS; simp [e1,e2])] at hq
     exact hq
    ·refine aM (by simp [e2]) (aV rfl (U1.then V7).ext ?_)
     rw [if_pos (by unfold mS; simp [e2])] at hq
     exact hq
   ·refine aM (by simp [e1]) (aV rfl (U1.then V4).ext ?_)
    rw [if_pos (by unfold mS; simp [e1])] at hq
    exact hq
 have fin:∀ b,b=gK c→Y27.p0 (aI h Q) (.p (some ⟨h.length,8,0⟩)) b h1:=fun b hb=>by rw [hb]; exact p0
 simp only [dY,Nat.zero_add,ld h1 u1 3 _ rfl,ld h1 u1 4 _ rfl,bY]
 refine aG (fun e=>fin _ ?_) fun e=>aG (fun e2=>fin _ ?_) fun e2=>fin _ ?_
 ·have e := of_decide_eq_true e
  unfold gK; symm; exact decide_eq_true (.inl e)
 ·have e2 := of_decide_eq_true e2
  unfold gK; symm; exact decide_eq_true (.inr (.inr e2))
 ·have e := of_decide_eq_false e
  have e2:=of_decide_eq_false e2
  unfold gK; rw [decide_eq_decide]; omega
def aOY (h:aA) (Q:AV→aA→Prop) (o:List UInt8):Except Int (List UInt8)→Prop
 | .ok s=>∀ h' r,Upd (fun _=>False) h h'→DV h' (fun i=>h.length≤i) (iM o s) r→Q (.tu [.ag r,.i .i64 0]) h'
 | .error e=>∀ h' r,Upd (fun _=>False) h h'→DV h' (fun i=>h.length≤i) (iM o []) r→Q (.tu [.ag r,.i .i64 e]) h'
theorem vO {o : List UInt8} (ho : g9 o = .ok (cJ o)) (G : CG2 h) {F : Nat → Prop} {d : Der} (D : DV h F d cs) (hF : ∀ i, F i → i < h.length) (hsz : d.sz ≤ 100000) (hs : fN d ≤ 60000) (hq : aOY h Q o (eS d)) : C Y71.id [.s o, .ag cs] h Q := by
 refine Y71.call ?_
 simp only [Y71.t]
 refine D.box fun h1 hl1 U1 R1 D1=>cD (n:=5) rfl fun h2 hl2 U2 R2=>?_
 refine zQ fun h3 U3=>?_
 rw [ho]
 refine bD (bC (aU (cD (n:=5) rfl fun h4 hl4 U4 R4=>bA R4 rfl rfl rfl fun h5 hl5 U5 R5=>?_)))
 have U35:Upd (fun _=>False) h3 h5:=U4.own U5 (Nat.le_refl _)
 have U15:Upd (fun _=>False) h1 h5:=(U2.then U3).then U35
 have G5:CG2 h5:=G.up (U1.then U15)
 refine bB (R1.upd U15 fun h=>h) D1.len.symm ?_
 have D5:=D1.ext U15
 refine aA4 hsz hs D5 (fun i hi=>by have:=hF i hi; have:=U1.1; have:=U15.1; omega) ?_
 have l5:∀ h':aA,Upd (fun _=>False) h5 h'→∀ K:AV→Prop,aB 5 (.p (some ⟨h3.length,5,0⟩)) h' K=K (.ag (bF 0 6 false (cJ o))):=fun h' U K=>k7 (k:=5) (R5.upd U fun h=>h) rfl (by show 0+5≤5; omega)
 have u5:=Upd.refl (fun _=>False) h5
 have rest:∀ (s:List UInt8) (e:Int),(∀ h' r,Upd (fun _=>False) h h'→DV h' (fun i=>h.length≤i) (iM o s) r→Q (.tu [.ag r,.i .i64 e]) h') →
   C Y70.id [shp 0 4 false, .s s] h5 fun v25 h26 => aB 5 (.p (some ⟨h3.length, 5, 0⟩)) h26 fun v27 => AV.ag (bF 0 6 false (cJ o)) = v27 ∧ aB 3 (bG h26 0) h26 fun v28 => AV.ag [.i .i64 0, .i .i64 16, .b true] = v28 ∧
    aN 5 2 [.i .i64 0,.i .i64 0,.b false,.s [],.sl none 0 none,.i .i64 0,.i .i64 0,.b false,.s [],.sl none 0 none] [(0,5,.ag (bF 0 6 false (cJ o))),(5,5,v25)] h26 fun v29 h30=>aB 3 (bG h30 9) h30 fun v31=>AV.ag [.i .i64 0,.i .i64 4,.b false]=v31 ∧
    aB 3 (bG h30 0) h30 fun v32=>AV.ag [.i .i64 0,.i .i64 16,.b true]=v32∧C Y43.id [.ag [.i .i64 0,.i .i64 16,.b true],v29] h30 fun v33 h34=>aB 3 (bG h34 9) h34 fun v35=>AV.ag [.i .i64 0,.i .i64 4,.b false]=v35 ∧
    aB 5 (.p (some ⟨h3.length,5,0⟩)) h34 fun v36=>AV.ag (bF 0 6 false (cJ o))=v36∧aS 5 (.p (some ⟨h1.length,5,0⟩)) v33 h34 fun h37=>aB 5 (.p (some ⟨h1.length,5,0⟩)) h37 fun v39=>aI h Q (.tu [v39,.i .i64 e]) h37:=by
  intro s e hk
  refine fX ?_
  simp only [l5 h5 u5,aW G5.g.seq,aR,true_and]
  refine bH (cs:=bF 0 6 false (cJ o)++bF 0 4 false s) (len:=2) rfl rfl fun w h6 hl6 U6 A6 N6=>?_
  have G6:=G5.up U6
  simp only [aW G6.g.seq,aW G6.oct,aR,true_and]
  refine dN (c:=0) (t:=16) (m:=true) A6.low ?_
  simp only [aW G6.oct,l5 h6 U6,aR,true_and]
  have Dv:DV h6 (fun i=>h.length≤i∧i≠h1.length) (iM o s) [.i .i64 0,.i .i64 16,.b true,.s [],w]:=
   DV.of A6.rd (DVs.two (DV.leaf _ _ _ _ _ _) (DV.leaf _ _ _ _ _ _)) rfl rfl fun i hi=>by have:=N6 i hi; have:=U15.1; have:=U1.1; have:=U2.1; have:=U3.1; have:=U35.1; exact ⟨by omega,by omega⟩
  have V6:=U15.then U6
  refine bA (R2.upd ((U3.then U35).then U6) fun h=>h) rfl Dv.len Dv.cells' fun h7 hl7 U7 R7=>bB R7 Dv.len.symm (.inl (hk h7 _ ?_ ?_))
  ·exact (U1.then V6).own U7 (by have:=U1.1; omega)
  ·exact Dv.upd U7 fun i hi hl=>⟨hi.2,hi.1⟩
 cases he:eS d with
 | error e =>
  rw [he] at hq
  refine bD (aZ (bC (aU ?_)))
  simp only [aW G5.g.seq,aW G5.oct,l5 h5 u5]
  exact rest [] e hq
 | ok s =>
  rw [he] at hq
  refine bD (aZ (bC (aU ?_)))
  simp only [aW G5.g.seq,aW G5.oct,l5 h5 u5]
  exact rest s 0 hq
end
end Go.Proofs.YtcdkpkkdolmfdaaGreatDoor
namespace Go.Proofs.YtcdkpkkdolmfdaaGreatDoor
open Go.GAM Go.RowKit
theorem LSt.mono {F0 F1:Nat→Prop} {hb h:aA} {v:AV} {ks:List Der} (S:LSt F0 hb h v ks) (hF:∀ i,F0 i→F1 i):LSt F1 hb h v ks:=by
 obtain ⟨rows,A,D⟩:=S.arr
 exact ⟨S.ext,⟨rows,A,D.upd (Upd.refl (fun _=>False) h) fun i hi _=>⟨fun h=>h,hF i hi.1,hi.2⟩⟩,fun i hi=>⟨(S.new i hi).1,hF i (S.new i hi).2⟩⟩
theorem LSt.upM {F0 M:Nat→Prop} {hb h h':aA} {v:AV} {ks:List Der} (S:LSt F0 hb h v ks) (U:Upd M h h') (hM:∀ i,F0 i→¬ M i) (hMb:∀ i,M i→hb.length≤i):LSt F0 hb h' v ks:=by
 obtain ⟨rows,A,D⟩:=S.arr
 exact ⟨U.extM S.ext hMb,⟨rows,A.upd U fun i hi=>hM i (S.new i hi).2,D.upd U fun i hi _=>⟨hM i hi.1,hi⟩⟩,S.new⟩
theorem LSt.row1 {F0:Nat→Prop} {hb h:aA} {v:AV} {ks:List Der} (S:LSt F0 hb h v ks):∃ a l c,v = .sl a l c:=S.low.sl
def z8b:List UInt8:=[0,0,0,0,0,0,0,0]
def cQ (wk:AV):List AV:=[.i .i64 0,.i .i64 16,.b true,.s [],wk]
structure aKQ (hb:aA) (c:dP) (nv wk:AV) (id0 idk:Nat):Prop where
 g:CG2 hb
 r0:bE hb id0 (fT c nv)
 rk:bE hb idk (cQ wk)
 ak:Rd 5 hb wk (bF 0 6 false (cJ kO)) 1
 s:RdI 1 hb nv (c.names.map .s) c.names.length
section
variable {h0 hb h:aA} {Q:AV→aA→Prop} {c:dP} {nv wk:AV} {id0 idk:Nat} (B:aKQ hb c nv wk id0 idk) (E0:Ext h0 hb)
theorem aKQ.alg {F:Nat→Prop} (B:aKQ hb c nv wk id0 idk) (E:Ext hb h) (hF:∀ i,bZ wk i→F i):DV h F mH (cQ wk):=
 DV.of (B.ak.upd E.u fun _ _ h=>h) (DVs.one (DV.leaf _ _ _ _ _ _)) rfl rfl hF
include B E0 in
theorem yC {x14:AV} {ks:List Der} (S:LSt (fun _=>True) hb h x14 ks) (hk:c.key.length≤100000) (hsz:(eE [eE ks,mH,dH 0 3 (0 :: (c.key++z8b).take 8)]).sz≤100000) (hds:fN (eE [eE ks,mH,dH 0 3 (0 :: (c.key++z8b).take 8)])≤60000)
  (hq:Q (mW (eS (eE [eE ks,mH,dH 0 3 (0 :: (c.key++z8b).take 8)]))) h0):Y6.p4 (aI h0 Q) (.p (some ⟨id0,8,0⟩)) (.p (some ⟨idk,5,0⟩)) x14 h:=by
 have E:=S.ext
 have lk:∀ h':aA,Ext hb h'→∀ K:AV→Prop,aB 5 (.p (some ⟨idk,5,0⟩)) h' K=K (.ag (cQ wk)):=fun h' E K=>k7 (k:=5) (B.rk.upd E.u fun h=>h) rfl (by show 0+5≤5; omega)
 have G:∀ h':aA,Ext hb h'→CG2 h':=fun h' E=>B.g.up E.u
 obtain ⟨xk,nk,kk,hwk,_⟩:=B.ak.low
 refine Y6.i4 ?_
 simp only [Y6.t4]
 have ld7:∀ K:AV→Prop,aC (.p (some ⟨id0,8,7⟩)) h K=K (.s c.key):=fun K=>rP (B.r0.upd E.u fun h=>h) rfl rfl
 simp only [dY,Nat.zero_add,ld7,bL]
 refine ⟨by simp <;> omega,j3 (hi:=8) (by simp) ?_⟩
 simp only [aW (G h E).g.seq,aW (G h E).bits,lk h E]
 refine ⟨by simp <;> omega, ?_⟩
 refine dN (c:=0) (t:=16) (m:=true) S.low ?_
 simp only [aW (G h E).g.seq,aW (G h E).bits,lk h E,aR,true_and]
 refine fX (c:=0) (t:=3) (m:=false) ?_
 simp only [aW (G h E).g.seq,aW (G h E).bits,lk h E,aR,true_and]
 have D1:=S.val 0 16 true []
 obtain ⟨xa,na,ka,hx⟩:=S.row1
 refine bH (cs:=[.i .i64 0,.i .i64 16,.b true,.s [],x14]++cQ wk++bF 0 3 false (0 :: (c.key++z8b).take 8)) (len:=3) (by rw [hx]; unfold cQ; rw [hwk] <;> rfl) rfl fun w h1 hl1 U1 A1 N1=>?_
 have E1:=E.trans U1.ext
 simp only [aW (G h1 E1).g.seq,aW (G h1 E1).bits,lk h1 E1,aR,true_and]
 refine dN (c:=0) (t:=16) (m:=true) A1.low ?_
 simp only [aW (G h1 E1).g.seq,aW (G h1 E1).bits,lk h1 E1,aR,true_and]
 have D:DV h1 (fun i=>i<h1.length) (eE [eE ks,mH,dH 0 3 (0 :: (c.key++z8b).take 8)]) [.i .i64 0,.i .i64 16,.b true,.s [],w]:=
  DV.of A1.rd (.cons ((D1.upd U1 fun i _ hi=>⟨fun h=>h,by have:=U1.1; omega⟩:DV h1 (fun i=>i<h1.length) _ _)) (.cons (B.alg E1 fun i hi=>by have:=B.ak.lt hi; have:=E1.1; omega) (.cons (DV.leaf _ _ _ _ _ _) .nil))) rfl rfl fun i hi=>by have:=N1 i hi; omega
 refine aA4 hsz hds D (fun i hi=>hi) ?_
 simp only [aW (G h1 E1).g.seq,aW (G h1 E1).bits,lk h1 E1,aR,true_and]
 cases he:eS (eE [eE ks,mH,dH 0 3 (0 :: (c.key++z8b).take 8)]) with
 | error e=>rw [he] at hq; exact bD (aZ (bC (aU (aV rfl (E0.trans E1) hq))))
 | ok l=>rw [he] at hq; exact bD (aZ (bC (aU (aV rfl (E0.trans E1) hq))))
structure BSz (c:dP) (ks:List Der):Prop where
 k:c.key.length≤100000
 s:(eE [eE ks,mH,dH 0 3 (0 :: (c.key++z8b).take 8)]).sz≤100000
 d:fN (eE [eE ks,mH,dH 0 3 (0 :: (c.key++z8b).take 8)])≤60000
def aCX (c:dP) (ks:List Der):Except Int (List UInt8):=eS (eE [eE ks,mH,dH 0 3 (0 :: (c.key++z8b).take 8)])
variable {n4:Nat} {x14 x15:AV} {ks ext:List Der}
include B E0 in
theorem zC (S14:LSt (fun i=>i<n4) hb h x14 ks) (S15:LSt (fun i=>n4≤i) hb h x15 ext) (hn4:n4≤h.length) (hkl:ks.length≤4000) (hz:BSz c (ks++eD ext)) (hq:Q (mW (aCX c (ks++eD ext))) h0) :
  Y6.p3 (aI h0 Q) (.p (some ⟨id0,8,0⟩)) (.p (some ⟨idk,5,0⟩)) x14 x15 h:=by
 have E:=S14.ext
 have G:∀ h':aA,Ext hb h'→CG2 h':=fun h' E=>B.g.up E.u
 refine Y6.i3 ?_
 simp only [Y6.t3, ← Y6.p4.eq_1]
 refine S15.len ?_
 unfold eD at hz hq
 by_cases he:ext=[]
 ·subst he
  rw [if_pos rfl,List.append_nil] at hz hq
  exact aK rfl (yC B E0 (S14.mono fun _ _=>trivial) hz.k hz.s hz.d hq)
 rw [if_neg he] at hz hq
 refine aM (decide_eq_true (by have:=List.length_pos_iff.2 he; omega)) ?_
 simp only [aW (G h E).g.seq,aW (G h E).ext]
 refine dN (c:=0) (t:=16) (m:=true) S15.low ?_
 simp only [aW (G h E).g.seq,aW (G h E).ext,aR,true_and]
 obtain ⟨xa,na,ka,hx⟩:=S15.row1
 refine bH (cs:=[.i .i64 0,.i .i64 16,.b true,.s [],x15]) (len:=1) (by rw [hx] <;> rfl) rfl fun w h1 hl1 U1 A1 N1=>?_
 have E1:=E.trans U1.ext
 simp only [aW (G h1 E1).g.seq,aW (G h1 E1).ext,aR,true_and]
 refine dN (c:=2) (t:=3) (m:=true) A1.low ?_
 simp only [aW (G h1 E1).g.seq,aW (G h1 E1).ext,aR,true_and]
 obtain ⟨xw,nw,kw,hw,_⟩:=A1.low
 refine bH (cs:=[.i .i64 2,.i .i64 3,.b true,.s [],w]) (len:=1) (by rw [hw] <;> rfl) rfl fun y h2 hl2 U2 A2 N2=>?_
 have E2:=E1.trans U2.ext
 simp only [aW (G h2 E2).g.seq,aW (G h2 E2).ext,aR,true_and]
 have S14':=(S14.mono (F1:=fun _=>True) fun _ _=>trivial).up (U1.then U2)
 have D1:=S15.val 0 16 true []
 have hno:∀ i,n4≤i→¬ bZ x14 i:=fun i hi hs=>by have:=(S14.new i hs).2; omega
 have Dy:DV h2 (fun i=>True∧¬ bZ x14 i) (.mk 2 3 true [] [eE ext]) [.i .i64 2,.i .i64 3,.b true,.s [],w]:=
  (DV.of A1.rd (DVs.one (D1.upd U1 fun i hi _=>⟨fun h=>h,trivial,hno i hi⟩)) (by simp) rfl fun i hi=>⟨trivial,hno i (by have:=N1 i hi; omega)⟩:DV h1 _ _ _).ext U2
 refine S14'.push hkl A2.rd Dy (fun _ _=>trivial) fun v' h3 U3 S3=>?_
 have E3:=S3.ext
 simp only [aW (G h3 E3).g.seq,aW (G h3 E3).ext,aR,true_and]
 exact yC B E0 S3 hz.k hz.s hz.d hq
include B E0 in
theorem aHF {id21:Nat} {r:List AV} {s:List UInt8} (S14:LSt (fun i=>i<n4) hb h x14 ks) (S15:LSt (fun i=>n4≤i) hb h x15 ext) (hn4:n4≤h.length) (hkl:ks.length≤4000) (hel:ext.length≤4000) (R:bE h id21 r) (D:DV h (fun i=>n4≤i∧¬ bZ x15 i) (iM basOid s) r) (hz:BSz c (ks++eD (ext++[iM basOid s])))
  (hb0:hb.length≤n4) (hq:Q (mW (aCX c (ks++eD (ext++[iM basOid s])))) h0):Y6.p2 (aI h0 Q) (.p (some ⟨id0,8,0⟩)) (.p (some ⟨idk,5,0⟩)) x14 x15 (.p (some ⟨id21,5,0⟩)) 0 h:=by
 refine Y6.i2 ?_
 simp only [Y6.t2, ← Y6.p3.eq_1]
 refine aK rfl (bB R D.len.symm ?_)
 have hr:fC z5 [(0,5,.ag r)]=some r:=by
  obtain ⟨c',t,m,s',a,n,cap,rfl⟩:=D.row; rfl
 refine bH (cs:=r) (len:=1) hr (by rw [D.len]) fun y h1 hl1 U1 A1 N1=>?_
 refine (S15.up U1).push hel A1.rd (D.ext U1) (fun i hi=>by omega) fun v' h2 U2 S2=>?_
 have S14':=(S14.up U1).upM U2 (fun i hi hs=>by have:=(S15.new i hs).2; omega) fun i hi=>(S15.new i hi).1
 exact zC B E0 S14' S2 (by have:=U1.1; have:=U2.1; omega) hkl hz hq
include B E0 in
theorem aDT {id21:Nat} {e:Int} (he:e≠0) (E:Ext hb h) (hq:Q (.tu [.s [],.i .i64 e]) h0):Y6.p2 (aI h0 Q) (.p (some ⟨id0,8,0⟩)) (.p (some ⟨idk,5,0⟩)) x14 x15 (.p (some ⟨id21,5,0⟩)) e h:=by
 refine Y6.i2 ?_
 simp only [Y6.t2, ← Y6.p3.eq_1]
 exact aM (by simp [he]) (aV rfl (E0.trans E) hq)
def tO (c:dP) (ks ext:List Der):Except Int (List UInt8):=match lT c.auth with
 | .error e=>.error e
 | .ok b=>aCX c (ks++eD (ext++b))
theorem z6 {d:Der} {e:Int} (h:eS d = .error e):e≠0:=by
 unfold eS at h
 split at h
 ·cases h; assumption
 ·split at h
  ·cases h; decide
  ·cases h
theorem LSt.lim {F0:Nat→Prop} {hb h:aA} {v:AV} {ks:List Der} (S:LSt F0 hb h v ks):LSt (fun i=>F0 i∧i<h.length) hb h v ks:=by
 obtain ⟨rows,A,D⟩:=S.arr
 exact ⟨S.ext,⟨rows,A,D.upd (Upd.refl (fun _=>False) h) fun i hi hl=>⟨fun h=>h,⟨hi.1,hl⟩,hi.2⟩⟩,fun i hi=>⟨(S.new i hi).1,(S.new i hi).2,S.lt hi⟩⟩
include B E0 in
theorem aHN {id21 m:Nat} (ha:c.auth=true) {r:List AV} {h':aA} {s:List UInt8} (S14:LSt (fun i=>i<n4) hb h' x14 ks) (S15:LSt (fun i=>n4≤i∧i<m) hb h' x15 ext) (hm:n4≤m) (hid:m≤id21) (hkl:ks.length≤4000) (hel:ext.length≤4000)
  (R:bE h' id21 z5) (D:DV h' (fun i=>m≤i∧i≠id21) (iM basOid s) r) (hb0:hb.length≤n4)
  (hz:∀ b,lT c.auth = .ok b→BSz c (ks++eD (ext++b))) (hq:Q (mW (tO c ks ext)) h0) {n:Int} (hn:(eS pK = .ok s∧n=0)∨eS pK = .error n):aS 5 (.p (some ⟨id21,5,0⟩)) (.ag r) h' fun h''=>Y6.p2 (aI h0 Q) (.p (some ⟨id0,8,0⟩)) (.p (some ⟨idk,5,0⟩)) x14 x15 (.p (some ⟨id21,5,0⟩)) n h'':=by
 have hlt:=R.lt
 refine bA R rfl D.len D.cells' fun h2 hl2 U2 R2=>?_
 have S14':=S14.upM U2 (fun i hi e=>by omega) fun i hi=>by omega
 have S15':=(S15.upM U2 (fun i hi e=>by omega) fun i hi=>by omega).mono (F1:=fun i=>n4≤i) fun i hi=>hi.1
 unfold tO at hq
 rw [ha] at hq hz
 unfold lT at hq hz
 rw [if_pos rfl] at hq hz
 rcases hn with ⟨he,rfl⟩ | he
 ·rw [he] at hq hz
  refine aHF B E0 (s:=s) S14' S15' (by omega) hkl hel R2 (D.upd U2 fun i hi _=>⟨hi.2,by omega,fun hs=>?_⟩) (hz _ rfl) hb0 hq
  have:=(S15.new i hs).2
  omega
 ·rw [he] at hq
  exact aDT B E0 (z6 he) S14'.ext hq
theorem aJI:g9 basOid = .ok (cJ basOid):=by kernel_rfl
theorem aIK:g9 altOid = .ok (cJ altOid):=by kernel_rfl
include B E0 in
theorem yZ (S14 : LSt (fun i => i < n4) hb h x14 ks) (S15 : LSt (fun i => n4 ≤ i) hb h x15 ext) (hn4 : n4 ≤ h.length) (hkl : ks.length ≤ 4000) (hel : ext.length ≤ 4000) (hb0 : hb.length ≤ n4)
    (hz:∀ b,lT c.auth = .ok b→BSz c (ks++eD (ext++b))) (hq:Q (mW (tO c ks ext)) h0):Y6.p1 (aI h0 Q) (.p (some ⟨id0,8,0⟩)) (.p (some ⟨idk,5,0⟩)) x14 x15 h:=by
  have E:=S14.ext
  have G:∀ h':aA,Ext hb h'→CG2 h':=fun h' E=>B.g.up E.u
  refine Y6.i1 ?_
  simp only [Y6.t1, ← Y6.p2.eq_1, ← Y6.p3.eq_1]
  have ld6:∀ K:AV→Prop,aC (.p (some ⟨id0,8,6⟩)) h K=K (.b c.auth):=fun K=>rP (B.r0.upd E.u fun h=>h) rfl rfl
  simp only [dY,Nat.zero_add,ld6,aHZ]
  refine aG (fun ha=>?_) fun ha=>?_
  ·
    have S15m:=S15.lim
    have U0:=Upd.refl (fun _=>False) h
    have ext_tail:∀ (h1:aA) (w:AV),Upd (fun _=>False) h h1→Rd 5 h1 w (bF 0 1 false [255]) 1→∀ K:AV→aA→Prop,(∀ h2 r e s,Upd (fun _=>False) h1 h2→DV h2 (fun i=>h1.length≤i) (iM basOid s) r→((eS pK = .ok s∧e=0)∨eS pK = .error e)→K (.tu [.ag r,.i .i64 e]) h2) →
        C Y71.id [.s basOid,.ag [.i .i64 0,.i .i64 16,.b true,.s [],w]] h1 K:=by
      intro h1 w U1 R1 K hk
      have D:DV h1 (fun i=>i<h1.length) pK [.i .i64 0,.i .i64 16,.b true,.s [],w]:=DV.of R1 (DVs.one (DV.leaf _ _ _ _ _ _)) rfl rfl fun i hi=>R1.lt hi
      refine vO aJI (G h1 (E.trans U1.ext)) D (fun i hi=>hi) (by decide) (by decide) ?_
      cases he:eS pK with
      | error e=>exact fun h2 r U2 D2=>hk h2 r e [] U2 D2 (.inr he)
      | ok s=>exact fun h2 r U2 D2=>hk h2 r 0 s U2 D2 (.inl ⟨he,rfl⟩)
    have fin:∀ (h2:aA) (id21:Nat) (r:List AV) (e:Int) (s:List UInt8),Upd (fun _=>False) h h2→bE h2 id21 z5→h.length≤id21→DV h2 (fun i=>h.length≤i∧i≠id21) (iM basOid s) r→((eS pK = .ok s∧e=0)∨eS pK = .error e) →
        aS 5 (.p (some ⟨id21,5,0⟩)) (.ag r) h2 fun h''=>Y6.p2 (aI h0 Q) (.p (some ⟨id0,8,0⟩)) (.p (some ⟨idk,5,0⟩)) x14 x15 (.p (some ⟨id21,5,0⟩)) e h'':=fun h2 id21 r e s U R hi D hn=>
      aHN B E0 ha (S14.up U) (S15m.up U) hn4 hi hkl hel R D hb0 hz hq hn
    simp only [aW (G h E).g.seq,aW (G h E).tru]
    have sv:∀ {K:AV→aA→Prop} {hx:aA},K (.ag (bF 0 1 false [255])) hx→C Y70.id [.ag [.i .i64 0,.i .i64 1,.b false],.s [255]] hx K:=fun hk=>fX (c:=0) (t:=1) (m:=false) hk
    refine ⟨?_, ?_⟩
    · refine sv ?_
      simp only [aW (G h E).g.seq,aW (G h E).tru,aR,true_and]
      refine ⟨?_, ?_⟩
      · refine bH (cs := bF 0 1 false [255]) (len := 1) rfl rfl fun w h1 hl1 U1 A1 N1 => ?_
        have E1:=E.trans U1.ext
        simp only [aW (G h1 E1).g.seq,aW (G h1 E1).tru,aR,true_and]
        refine ⟨?_, ?_⟩
        · refine dN (c := 0) (t := 16) (m := true) A1.low ?_
          simp only [aW (G h1 E1).g.seq,aW (G h1 E1).tru,aR,true_and]
          refine ⟨?_, ?_⟩
          · refine ext_tail h1 w U1 A1.rd _ fun h2 r e s U2 D2 hn => ?_
            have E2:=E1.trans U2.ext
            simp only [aW (G h2 E2).g.seq,aW (G h2 E2).tru,aR,true_and]
            refine bD (bC (aU (cD (n:=5) rfl fun h3 hl3 U3 R3=>?_)))
            have E3:=E2.trans U3.ext
            simp only [aW (G h3 E3).g.seq,aW (G h3 E3).tru,aR,true_and]
            exact fin h3 h2.length r e s ((U1.then U2).then U3) R3 (by have:=U1.1; have:=U2.1; omega) (D2.upd U3 fun i hi hl=>⟨fun h=>h,by have:=U1.1; omega,by omega⟩) hn
          · refine cD (n := 5) rfl fun h2 hl2 U2 R2 => ?_
            have E2:=E1.trans U2.ext
            simp only [aW (G h2 E2).g.seq,aW (G h2 E2).tru,aR,true_and]
            refine ext_tail h2 w (U1.then U2) (A1.rd.upd U2 fun _ _ h=>h) _ fun h3 r e s U3 D3 hn=>?_
            have E3:=E2.trans U3.ext
            simp only [aW (G h3 E3).g.seq,aW (G h3 E3).tru,aR,true_and]
            refine bD (bC (aU ?_))
            exact fin h3 h1.length r e s ((U1.then U2).then U3) (R2.upd U3 fun h=>h) (by have:=U1.1; omega) (D3.upd (Upd.refl (fun _=>False) h3) fun i hi hl=>⟨fun h=>h,by have:=U1.1; omega,by omega⟩) hn
        · refine cD (n := 5) rfl fun h2 hl2 U2 R2 => ?_
          have E2:=E1.trans U2.ext
          simp only [aW (G h2 E2).g.seq,aW (G h2 E2).tru,aR,true_and]
          have A2:=A1.rd.upd U2 fun _ _ h=>h
          refine dN (c:=0) (t:=16) (m:=true) A2.low ?_
          simp only [aW (G h2 E2).g.seq,aW (G h2 E2).tru,aR,true_and]
          refine ext_tail h2 w (U1.then U2) A2 _ fun h3 r e s U3 D3 hn=>?_
          have E3:=E2.trans U3.ext
          simp only [aW (G h3 E3).g.seq,aW (G h3 E3).tru,aR,true_and]
          refine bD (bC (aU ?_))
          exact fin h3 h1.length r e s ((U1.then U2).then U3) (R2.upd U3 fun h=>h) (by have:=U1.1; omega) (D3.upd (Upd.refl (fun _=>False) h3) fun i hi hl=>⟨fun h=>h,by have:=U1.1; omega,by omega⟩) hn
      · refine cD (n := 5) rfl fun h1 hl1 U1 R1 => ?_
        have E1:=E.trans U1.ext
        simp only [aW (G h1 E1).g.seq,aW (G h1 E1).tru,aR,true_and]
        refine bH (cs:=bF 0 1 false [255]) (len:=1) rfl rfl fun w h2 hl2 U2 A2 N2=>?_
        have E2:=E1.trans U2.ext
        simp only [aW (G h2 E2).g.seq,aW (G h2 E2).tru,aR,true_and]
        refine dN (c:=0) (t:=16) (m:=true) A2.low ?_
        simp only [aW (G h2 E2).g.seq,aW (G h2 E2).tru,aR,true_and]
        refine ext_tail h2 w (U1.then U2) A2.rd _ fun h3 r e s U3 D3 hn=>?_
        have E3:=E2.trans U3.ext
        simp only [aW (G h3 E3).g.seq,aW (G h3 E3).tru,aR,true_and]
        refine bD (bC (aU ?_))
        exact fin h3 h.length r e s ((U1.then U2).then U3) ((R1.upd U2 fun h=>h).upd U3 fun h=>h) (Nat.le_refl _) (D3.upd (Upd.refl (fun _=>False) h3) fun i hi hl=>⟨fun h=>h,by have:=U1.1; omega,by have:=U1.1; omega⟩) hn
    · refine cD (n := 5) rfl fun h1 hl1 U1 R1 => ?_
      have E1:=E.trans U1.ext
      simp only [aW (G h1 E1).g.seq,aW (G h1 E1).tru,aR,true_and]
      refine sv ?_
      simp only [aW (G h1 E1).g.seq,aW (G h1 E1).tru,aR,true_and]
      refine bH (cs:=bF 0 1 false [255]) (len:=1) rfl rfl fun w h2 hl2 U2 A2 N2=>?_
      have E2:=E1.trans U2.ext
      simp only [aW (G h2 E2).g.seq,aW (G h2 E2).tru,aR,true_and]
      refine dN (c:=0) (t:=16) (m:=true) A2.low ?_
      simp only [aW (G h2 E2).g.seq,aW (G h2 E2).tru,aR,true_and]
      refine ext_tail h2 w (U1.then U2) A2.rd _ fun h3 r e s U3 D3 hn=>?_
      have E3:=E2.trans U3.ext
      simp only [aW (G h3 E3).g.seq,aW (G h3 E3).tru,aR,true_and]
      refine bD (bC (aU ?_))
      exact fin h3 h.length r e s ((U1.then U2).then U3) ((R1.upd U2 fun h=>h).upd U3 fun h=>h) (Nat.le_refl _) (D3.upd (Upd.refl (fun _=>False) h3) fun i hi hl=>⟨fun h=>h,by have:=U1.1; omega,by have:=U1.1; omega⟩) hn
  · unfold tO at hq
    rw [ha] at hq hz
    have hbe:lT false = .ok []:=rfl
    rw [hbe] at hq hz
    have hz:=hz [] rfl
    simp only [List.append_nil] at hq hz
    exact zC B E0 S14 S15 hn4 hkl hz hq
end
end Go.Proofs.YtcdkpkkdolmfdaaGreatDoor
namespace Go.GAM
theorem aC6 (off:Nat):∀ (r:List AV) (k:Nat) (cs:List AV),(r.zipIdx k).foldl (fun cs (c,j)=>cs.set (off+j) c) cs=wr cs (off+k) r
 | [],_,_=>rfl
 | c :: r, k, cs => by
  rw [List.zipIdx_cons,List.foldl_cons,aC6 off r (k+1)]
  first | done | rfl
theorem aIP:∀ (ws cs pre post:List AV),ws.length=cs.length→wr (pre++(cs++post)) pre.length ws=pre++(ws++post)
 | [], cs, pre, post, h => by
  have:cs=[]:=List.eq_nil_of_length_eq_zero (by simpa using h.symm)
  subst this; rfl
 | w :: ws,[],pre,post,h=>by simp at h
 | w :: ws, c :: cs, pre, post, h => by
  show wr ((pre++(c :: (cs++post))).set pre.length w) (pre.length+1) ws=_
  have e:(pre++(c :: (cs++post))).set pre.length w=(pre++[w])++(cs++post):=by simp
  rw [e]
  have:=aIP ws cs (pre++[w]) post (by simpa using h)
  simpa using this
def vC (sz:Nat):Nat→List (List AV)→List (Nat × Nat × AV)
 | _,[]=>[]
 | o,r :: rs=>(o,sz,.ag r) :: vC sz (o+sz) rs
theorem bS (sz:Nat):∀ (rows:List (List AV)) (pre zeros:List AV),(∀ r∈rows,r.length=sz)→zeros.length=rows.length * sz→fC (pre++zeros) (vC sz pre.length rows)=some (pre++rows.flatten)
 | [], pre, zeros, _, h => by
  have:zeros=[]:=List.eq_nil_of_length_eq_zero (by simpa using h)
  subst this; rfl
 | r :: rs, pre, zeros, hr, h => by
  have h1:=hr r (by simp)
  rw [List.length_cons,Nat.add_mul,Nat.one_mul] at h
  have hz:zeros=zeros.take sz++zeros.drop sz:=(List.take_append_drop sz zeros).symm
  unfold vC fC
  have hc:((AV.ag r).sizeOK&&(AV.ag r).parts.length == sz&&decide (pre.length+(AV.ag r).parts.length≤(pre++zeros).length))=true:=by
   show (true&&r.length == sz&&decide (pre.length+r.length≤(pre++zeros).length))=true
   rw [h1,List.length_append,h]
   simp
  rw [if_pos hc]
  show fC (r.zipIdx.foldl (fun cs (c,j)=>cs.set (pre.length+j) c) (pre++zeros)) _=_
  have hf:=aC6 pre.length r 0 (pre++zeros)
  rw [hf,Nat.add_zero]
  have hw:wr (pre++zeros) pre.length r=(pre++r)++zeros.drop sz:=by
   conv=>lhs; rw [hz]
   rw [aIP r (zeros.take sz) pre (zeros.drop sz) (by rw [List.length_take,h1]; omega),List.append_assoc]
  rw [hw]
  have ih:=bS sz rs (pre++r) (zeros.drop sz) (fun x hx=>hr x (by simp [hx])) (by rw [List.length_drop]; omega)
  rw [List.length_append,h1] at ih
  rw [ih]
  simp
end Go.GAM
namespace Go.Proofs.YtcdkpkkdolmfdaaGreatDoor
open Go.GAM Go.RowKit
def o6 (c:dP) (ks:List Der):Except Int (List UInt8):=match nC c.names with
 | .error e=>.error e
 | .ok a=>tO c ks a
theorem aIR:g9 kO = .ok (cJ kO):=by kernel_rfl
theorem y7 {c:dP} {f u:Der} (h:dZ c=0):iL c f u=o6 c (jZ ((cB c.serial).getD []) (bK c.issuer).1 (bK c.subject).1 f u c.key):=by
 unfold iL o6 tO
 rw [if_neg (by simpa using h)]
 cases nC c.names with
 | error e=>rfl
 | ok a =>
  cases lT c.auth with
  | error e=>rfl
  | ok b=>rfl
theorem kB.leaf {n:Int} {t:Der} (h:kB n t):∃ k y m d tag s,n=((k:Nat):Int)∧k≤253402300799∧aAQ (k / 86400) y m d∧iW y m d (k % 86400)=bF 0 tag false s∧t=dH 0 tag s∧s.length≤15:=by
 obtain ⟨k,y,m,d,rfl,hk,D,rfl⟩:=h
 obtain ⟨t',s',h1,h2,_⟩:=aCG hk D
 refine ⟨k,y,m,d,t',s',rfl,hk,D,h1, ?_,h2⟩
 unfold iW bF at h1
 unfold qD
 by_cases hy:y<2050
 ·rw [if_pos hy] at *
  simp only [List.cons.injEq,AV.i.injEq,AV.s.injEq,true_and,and_true] at h1
  obtain ⟨rfl,rfl⟩:=h1; rfl
 ·rw [if_neg hy] at *
  simp only [List.cons.injEq,AV.i.injEq,AV.s.injEq,true_and,and_true] at h1
  obtain ⟨rfl,rfl⟩:=h1; rfl
section
variable {h0 hb:aA} {Q:AV→aA→Prop} {c:dP} {nv wk:AV} {id0 idk:Nat} (B:aKQ hb c nv wk id0 idk) (E0:Ext h0 hb) {n4:Nat} {x14:AV} {ks:List Der}
include B E0 in
theorem aG9 (hkl : ks.length ≤ 4000) (hb0 : hb.length ≤ n4) (hnl : c.names.length ≤ 4000) (hne : c.names ≠ []) (hsz : (rB c.names).sz ≤ 100000) (hds : fN (rB c.names) ≤ 60000) (hz : ∀ a b, nC c.names = .ok a → lT c.auth = .ok b → BSz c (ks ++ eD (a ++ b)))
  (hq:Q (mW (o6 c ks)) h0):∀ (r:List (List UInt8)) (i:Nat) (h:aA) (v:AV),c.names.drop i=r→n4≤h.length→LSt (fun i=>i<n4) hb h x14 ks→LSt (fun i=>n4≤i) hb h v ((c.names.take i).map fun n=>dH 2 2 n) →
   Y6.p0 (aI h0 Q) (.p (some ⟨id0,8,0⟩)) (.p (some ⟨idk,5,0⟩)) x14 (.sl none 0 none) v nv (c.names.length:Nat) i h:=by
 intro r
 induction r with
 | nil =>
  intro i h v hr hn4 S14 S16
  have hi:=cA hr
  rw [List.take_of_length_le hi] at S16
  have E:=S14.ext
  have G:CG2 h:=B.g.up E.u
  refine Y6.i0 ?_
  simp only [Y6.t0, ← Y6.p0.eq_1, ← Y6.p1.eq_1]
  refine aK (by simp; omega) ?_
  simp only [aW G.g.seq]
  refine dN (c:=0) (t:=16) (m:=true) S16.low ?_
  have D:DV h (fun i=>i<h.length) (rB c.names) [.i .i64 0,.i .i64 16,.b true,.s [],v]:=(S16.val 0 16 true []).upd (Upd.refl (fun _=>False) h) fun i _ hi=>⟨fun h=>h,hi⟩
  refine vO aIK G D (fun i hi=>hi) hsz hds ?_
  have ha:nC c.names=(match eS (rB c.names) with
    | .error e=>.error e
    | .ok s=>.ok [iM altOid s]):=by unfold nC; rw [if_neg hne] <;> rfl
  unfold o6 at hq
  cases he:eS (rB c.names) with
  | error e =>
   rw [he] at ha
   rw [ha] at hq
   intro h1 r U1 D1
   refine bD (bC (aU (cD (n:=5) rfl fun h2 hl2 U2 R2=>bA R2 rfl D1.len D1.cells' fun h3 hl3 U3 R3=>?_)))
   have V3:Upd (fun _=>False) h h3:=(U1.then U2).own U3 U1.1
   exact aM (by simp [z6 he]) (aV rfl (E0.trans (E.trans V3.ext)) hq)
  | ok s =>
   rw [he] at ha
   rw [ha] at hq
   intro h1 r U1 D1
   refine bD (bC (aU (cD (n:=5) rfl fun h2 hl2 U2 R2=>bA R2 rfl D1.len D1.cells' fun h3 hl3 U3 R3=>?_)))
   have U13:Upd (fun _=>False) h1 h3:=U2.own U3 (Nat.le_refl _)
   refine aK rfl (bB R3 D1.len.symm ?_)
   have hr:fC z5 [(0,5,.ag r)]=some r:=by
    obtain ⟨c',t,m,s',a,n,cap,rfl⟩:=D1.row; rfl
   refine bH (cs:=r) (len:=1) hr (by rw [D1.len]) fun y h4 hl4 U4 A4 N4=>?_
   have V4:=U1.then (U13.then U4)
   have S15:LSt (fun i=>n4≤i) hb h4 (.sl none 0 none) []:=LSt.nil (E.trans V4.ext)
   refine S15.push (by simp) A4.rd (D1.upd (U13.then U4) fun i hi _=>⟨fun h=>h,by omega,fun h=>h⟩) (fun i hi=>by have:=V4.1; omega) fun v' h5 U5 S5=>?_
   have S14':=(S14.up V4).upM U5 (fun i hi hs=>hs) fun i hi=>hi.elim
   exact yZ B E0 S14' S5 (by have:=V4.1; have:=U5.1; omega) hkl (by simp) hb0 (fun b hb'=>hz _ b ha hb') hq
 | cons x r ih =>
  intro i h v hr hn4 S14 S16
  have hlt:=cG hr
  have hx:=b5 hr
  have E:=S14.ext
  have G:CG2 h:=B.g.up E.u
  refine Y6.i0 ?_
  simp only [Y6.t0, ← Y6.p0.eq_1, ← Y6.p1.eq_1]
  refine aM (by simp; omega) (B.s.str E.u hx ?_)
  simp only [aW G.host]
  refine fX (c:=2) (t:=2) (m:=false) ?_
  refine bH (cs:=bF 2 2 false x) (len:=1) rfl rfl fun y h1 hl1 U1 A1 N1=>?_
  refine (S16.up U1).push (by rw [List.length_map,List.length_take]; omega) A1.rd (DV.leaf _ _ 2 2 false x) (fun i hi=>by have:=U1.1; omega) fun v' h2 U2 S2=>?_
  have htk:(c.names.take (i+1)).map (fun n=>dH 2 2 n)=(c.names.take i).map (fun n=>dH 2 2 n)++[dH 2 2 x]:=by rw [cR hx,List.map_append] <;> rfl
  rw [show Der.mk 2 2 false x []=dH 2 2 x from rfl, ← htk] at S2
  have S14':=(S14.up U1).upM U2 (fun i hi hs=>by have:=(S16.new i hs).2; omega) fun i hi=>(S16.new i hi).1
  exact inc (by omega) (ih (i+1) h2 v' (bU hr) (by have:=U1.1; have:=U2.1; omega) S14' S2)
end
structure BOK (c:dP) (f u:Der):Prop extends CBd c where
 t:dZ c=0→kB c.frm f∧kB c.til u
 a:(rB c.names).sz≤100000
 ad:fN (rB c.names)≤60000
 z:dZ c=0→∀ a b,nC c.names = .ok a→lT c.auth = .ok b→BSz c (jZ ((cB c.serial).getD []) (bK c.issuer).1 (bK c.subject).1 f u c.key++eD (a++b))
 nl:c.names.length≤4000
theorem aFE {c : dP} (h : dZ c = 0) : zG (cB c.serial) = .tu [.s ((cB c.serial).getD []), .b true] := by
 rw [oI] at h
 split at h
 ·cases h
 ·split at h
  ·cases h
  ·split at h
   ·cases h
   ·split at h
    ·cases h
    ·rename_i hs
     cases hx:cB c.serial with
     | none=>exact absurd hx hs
     | some l=>rfl
theorem aAJ {c : dP} (h : dZ c = 0) : c.key.length ≤ 1024 := by
 rw [oI] at h
 split at h
 ·cases h
 ·split at h
  ·cases h
  ·split at h
   ·cases h
   ·split at h
    ·cases h
    ·split at h
     ·cases h
     ·rename_i hl
      unfold gB at hl
      simp only [decide_eq_true_eq] at hl
      omega
set_option maxHeartbeats 4000000 in
theorem tM {h : aA} {Q : AV → aA → Prop} {c : dP} {cs : List AV} {f u : Der} (G : CG2 h) (V : CV h c cs) (B : BOK c f u) (hq : Q (mW (iL c f u)) h) : C Y6.id [.ag cs] h Q := by
 obtain ⟨nv,rfl,S⟩:=V
 refine Y6.call ?_
 simp only [Y6.t, ← Y6.p0.eq_1, ← Y6.p1.eq_1]
 refine kK (n:=8) rfl rfl fun h1 hl1 U1 R1=>?_
 have R1:bE h1 h.length (fT c nv):=R1
 refine bB R1 rfl (aLQ (G.g.ext U1) ⟨nv,rfl,S.ext U1⟩ B.toCBd (aU ?_))
 by_cases hc:dZ c=0
 rotate_left
 ·refine aM (by simp [hc]) (aV rfl U1.ext ?_)
  unfold iL at hq
  rw [if_pos hc] at hq
  exact hq
 rw [y7 hc] at hq
 obtain ⟨tf,tu'⟩:=B.t hc
 obtain ⟨k1,y1,m1,d1,g1,s1,e1,n1,D1,t1,f1,_⟩:=tf.leaf
 obtain ⟨k2,y2,m2,d2,g2,s2,e2,n2,D2,t2,f2,_⟩:=tu'.leaf
 have hkey:=aAJ hc
 refine aK (by simp [hc]) (zQ fun h2 U2=>?_)
 rw [show ([49,46,50,46,56,52,48,46,49,48,48,52,53,46,52,46,51,46,50]:List UInt8)=kO from rfl,aIR]
 refine bD (bC (aU (cD (n:=5) rfl fun h3 hl3 U3 R3=>bA R3 rfl rfl rfl fun h4 hl4 U4 R4=>?_)))
 have V4:Upd (fun _=>False) h1 h4:=(U2.then U3).own U4 U2.1
 simp only [aW (G.up (U1.then V4)).g.seq]
 refine bB R4 rfl ?_
 refine bH (cs:=bF 0 6 false (cJ kO)) (len:=1) rfl rfl fun wk h5 hl5 U5 A5 N5=>?_
 refine dN (c:=0) (t:=16) (m:=true) A5.low ?_
 obtain ⟨xk,nk,kk,hwk,_⟩:=A5.low
 refine cD (n:=5) rfl fun h6 hl6 U6 R6=>bA (ws:=cQ wk) R6 rfl rfl (by unfold cQ; rw [hwk] <;> rfl) fun h7 hl7 U7 R7=>?_
 have U57:Upd (fun _=>False) h5 h7:=U6.own U7 (Nat.le_refl _)
 have V7:Upd (fun _=>False) h1 h7:=V4.then (U5.then U57)
 have ld:∀ (h':aA),Upd (fun _=>False) h1 h'→∀ (o:Nat) (x:AV),(fT c nv)[o]? = some x→∀ K:AV→Prop,aC (.p (some ⟨h.length,8,o⟩)) h' K=K x:=fun h' U o x hx K=>rP (R1.upd U fun h=>h) rfl hx
 simp only [dY,Nat.zero_add,ld h7 V7 0 _ rfl,bL]
 refine aBI ?_
 rw [aFE hc]
 refine bD (aZ (bC (aX ?_)))
 simp only [dY,Nat.zero_add,ld h7 V7 1 _ rfl,bL]
 refine kZ (G.g.ext (U1.then V7)) B.i fun h8 ri U8 Di=>?_
 refine bD (bC (aU (cD (n:=5) rfl fun h9 hl9 U9 R9=>bA R9 rfl Di.len Di.cells' fun h10 hl10 U10 R10=>?_)))
 have U810:Upd (fun _=>False) h8 h10:=U9.own U10 (Nat.le_refl _)
 have V10:Upd (fun _=>False) h1 h10:=V7.then (U8.then U810)
 simp only [dY,Nat.zero_add,ld h10 V10 2 _ rfl,bL]
 refine kZ (G.g.ext (U1.then V10)) B.j fun h11 rs U11 Ds=>?_
 refine bD (bC (aU (cD (n:=5) rfl fun h12 hl12 U12 R12=>bA R12 rfl Ds.len Ds.cells' fun h13 hl13 U13 R13=>?_)))
 have U1113:Upd (fun _=>False) h11 h13:=U12.own U13 (Nat.le_refl _)
 have U1013:Upd (fun _=>False) h10 h13:=U11.then U1113
 have V13:Upd (fun _=>False) h1 h13:=V10.then U1013
 have U713:Upd (fun _=>False) h7 h13:=U8.then (U810.then U1013)
 have Gx:∀ h',Upd (fun _=>False) h13 h'→CG2 h':=fun h' U=>G.up (U1.then (V13.then U))
 have l7:∀ h',Upd (fun _=>False) h13 h'→∀ K:AV→Prop,aC (.p (some ⟨h.length,8,7⟩)) h' K=K (.s c.key):=fun h' U=>ld h' (V13.then U) 7 _ rfl
 have l4:∀ h',Upd (fun _=>False) h13 h'→∀ K:AV→Prop,aC (.p (some ⟨h.length,8,4⟩)) h' K=K (.i .i64 c.til):=fun h' U=>ld h' (V13.then U) 4 _ rfl
 have l3:∀ h',Upd (fun _=>False) h13 h'→∀ K:AV→Prop,aC (.p (some ⟨h.length,8,3⟩)) h' K=K (.i .i64 c.frm):=fun h' U=>ld h' (V13.then U) 3 _ rfl
 have l5:∀ h',Upd (fun _=>False) h13 h'→∀ K:AV→Prop,aC (.p (some ⟨h.length,8,5⟩)) h' K=K nv:=fun h' U=>ld h' (V13.then U) 5 _ rfl
 have lk:∀ h',Upd (fun _=>False) h13 h'→∀ K:AV→Prop,aB 5 (.p (some ⟨h5.length,5,0⟩)) h' K=K (.ag (cQ wk)):=fun h' U K=>k7 (k:=5) ((R7.upd U713 fun h=>h).upd U fun h=>h) rfl (by show 0+5≤5; omega)
 obtain ⟨ci,ti,mi,si,xi,ni,pi,hri⟩:=Di.row
 obtain ⟨cj,tj,mj,sj,xj,nj,pj,hrs⟩:=Ds.row
 have li:∀ h',Upd (fun _=>False) h13 h'→∀ K:AV→Prop,aB 5 (.p (some ⟨h8.length,5,0⟩)) h' K=K (.ag ri):=fun h' U K=>by
  have:=k7 (k:=5) (o:=0) (n:=5) (K:=K) ((R10.upd U1013 fun h=>h).upd U fun h=>h) Di.len.symm (by rw [Di.len]; omega)
  rw [this,List.drop_zero,List.take_of_length_le (by rw [Di.len]; omega)]
 have ls:∀ h',Upd (fun _=>False) h13 h'→∀ K:AV→Prop,aB 5 (.p (some ⟨h11.length,5,0⟩)) h' K=K (.ag rs):=fun h' U K=>by
  have:=k7 (k:=5) (o:=0) (n:=5) (K:=K) (R13.upd U fun h=>h) Ds.len.symm (by rw [Ds.len]; omega)
  rw [this,List.drop_zero,List.take_of_length_le (by rw [Ds.len]; omega)]
 have u13:=Upd.refl (fun _=>False) h13
 simp only [aW (Gx _ u13).g.seq,aW (Gx _ u13).bits,aW (Gx _ u13).ver,aW (Gx _ u13).int,dY,Nat.zero_add,l7 _ u13,l4 _ u13,l3 _ u13,lk _ u13,li _ u13,ls _ u13,bL,bY]
 refine ⟨by simp <;> omega, ?_⟩
 refine aL9 ?_
 rw [show rX 2=bF 0 2 false [2] by kernel_rfl]
 simp only [aW (Gx _ u13).g.seq,aW (Gx _ u13).bits,aW (Gx _ u13).ver,aW (Gx _ u13).int,l7 _ u13,l4 _ u13,l3 _ u13,lk _ u13,li _ u13,ls _ u13,bL,bY,aR,true_and]
 refine bH (cs:=bF 0 2 false [2]) (len:=1) rfl rfl fun wa h14 hl14 U14 A14 N14=>?_
 have u14:=u13.then U14
 simp only [aW (Gx _ u14).g.seq,aW (Gx _ u14).bits,aW (Gx _ u14).ver,aW (Gx _ u14).int,l7 _ u14,l4 _ u14,l3 _ u14,lk _ u14,li _ u14,ls _ u14,bL,bY,aR,true_and]
 refine dN (c:=2) (t:=0) (m:=true) A14.low ?_
 simp only [aW (Gx _ u14).g.seq,aW (Gx _ u14).bits,aW (Gx _ u14).ver,aW (Gx _ u14).int,l7 _ u14,l4 _ u14,l3 _ u14,lk _ u14,li _ u14,ls _ u14,bL,bY,aR,true_and]
 refine fX (c:=0) (t:=2) (m:=false) ?_
 simp only [aW (Gx _ u14).g.seq,aW (Gx _ u14).bits,aW (Gx _ u14).ver,aW (Gx _ u14).int,l7 _ u14,l4 _ u14,l3 _ u14,lk _ u14,li _ u14,ls _ u14,bL,bY,aR,true_and]
 have tmf:∀ {K:AV→aA→Prop} {hx:aA},K (.ag (bF 0 g1 false s1)) hx→C Y21.id [.i .i64 c.frm] hx K:=fun hk=>by rw [e1]; exact aBM n1 D1 (by rw [t1]; exact hk)
 have tmu:∀ {K:AV→aA→Prop} {hx:aA},K (.ag (bF 0 g2 false s2)) hx→C Y21.id [.i .i64 c.til] hx K:=fun hk=>by rw [e2]; exact aBM n2 D2 (by rw [t2]; exact hk)
 refine tmf ?_
 simp only [aW (Gx _ u14).g.seq,aW (Gx _ u14).bits,aW (Gx _ u14).ver,aW (Gx _ u14).int,l7 _ u14,l4 _ u14,l3 _ u14,lk _ u14,li _ u14,ls _ u14,bL,bY,aR,true_and]
 refine tmu ?_
 simp only [aW (Gx _ u14).g.seq,aW (Gx _ u14).bits,aW (Gx _ u14).ver,aW (Gx _ u14).int,l7 _ u14,l4 _ u14,l3 _ u14,lk _ u14,li _ u14,ls _ u14,bL,bY,aR,true_and]
 refine bH (cs:=bF 0 g1 false s1++bF 0 g2 false s2) (len:=2) rfl rfl fun wb h15 hl15 U15 A15 N15=>?_
 have u15:=u14.then U15
 simp only [aW (Gx _ u15).g.seq,aW (Gx _ u15).bits,aW (Gx _ u15).ver,aW (Gx _ u15).int,l7 _ u15,l4 _ u15,l3 _ u15,lk _ u15,li _ u15,ls _ u15,bL,bY,aR,true_and]
 refine dN (c:=0) (t:=16) (m:=true) A15.low ?_
 simp only [aW (Gx _ u15).g.seq,aW (Gx _ u15).bits,aW (Gx _ u15).ver,aW (Gx _ u15).int,l7 _ u15,l4 _ u15,l3 _ u15,lk _ u15,li _ u15,ls _ u15,bL,bY,aR,true_and]
 refine fX (c:=0) (t:=3) (m:=false) ?_
 simp only [aW (Gx _ u15).g.seq,aW (Gx _ u15).bits,aW (Gx _ u15).ver,aW (Gx _ u15).int,l7 _ u15,l4 _ u15,l3 _ u15,lk _ u15,li _ u15,ls _ u15,bL,bY,aR,true_and]
 refine bH (cs:=cQ wk++bF 0 3 false (0 :: c.key)) (len:=2) (by unfold cQ; rw [hwk] <;> rfl) rfl fun wc h16 hl16 U16 A16 N16=>?_
 have u16:=u15.then U16
 simp only [aW (Gx _ u16).g.seq,aW (Gx _ u16).bits,aW (Gx _ u16).ver,aW (Gx _ u16).int,l7 _ u16,l4 _ u16,l3 _ u16,lk _ u16,li _ u16,ls _ u16,bL,bY,aR,true_and]
 refine dN (c:=0) (t:=16) (m:=true) A16.low ?_
 simp only [aW (Gx _ u16).g.seq,aW (Gx _ u16).bits,aW (Gx _ u16).ver,aW (Gx _ u16).int,l7 _ u16,l4 _ u16,l3 _ u16,lk _ u16,li _ u16,ls _ u16,bL,bY,aR,true_and]
 obtain ⟨xa,na,pa,hwa,_⟩:=A14.low
 obtain ⟨xb,nb,pb,hwb,_⟩:=A15.low
 obtain ⟨xc,nc,pc',hwc,_⟩:=A16.low
 have hf7:=bS 5 [[.i .i64 2,.i .i64 0,.b true,.s [],wa],bF 0 2 false ((cB c.serial).getD []),cQ wk,ri,[.i .i64 0,.i .i64 16,.b true,.s [],wb],rs,[.i .i64 0,.i .i64 16,.b true,.s [],wc]] [] (z5++(z5++(z5++(z5++(z5++(z5++z5)))))) (by
  intro r hr
  simp only [List.mem_cons,List.not_mem_nil,or_false] at hr
  rcases hr with rfl | rfl | rfl | rfl | rfl | rfl | rfl
  ·rfl
  ·rfl
  ·rfl
  ·exact Di.len
  ·rfl
  ·exact Ds.len
  ·rfl) rfl
 refine bH (len:=7) hf7 (by simp [Di.len,Ds.len,bF,cQ]) fun w7 h17 hl17 U17 A17 N17=>?_
 have u17:=u16.then U17
 simp only [aW (Gx _ u17).g.seq,aW (Gx _ u17).bits,aW (Gx _ u17).ver,aW (Gx _ u17).int,l7 _ u17,l4 _ u17,l3 _ u17,l5 _ u17,lk _ u17,li _ u17,ls _ u17,bL,bY,aR,true_and,dY,Nat.zero_add,(S.ext (U1.then (V13.then u17))).plen]
 have hh1:=U1.1
 have hl113:=V13.1
 have hl7:=V7.1
 have h57:=U57.1
 have h713:=U713.1
 have h1316:=u16.1
 have BC:aKQ h16 c nv wk h.length h5.length:=⟨Gx _ u16,R1.upd (V13.then u16) fun h=>h,(R7.upd U713 fun h=>h).upd u16 fun h=>h,(A5.rd.upd (U57.then U713) fun _ _ h=>h).upd u16 fun _ _ h=>h,S.ext (U1.then (V13.then u16))⟩
 have E0:Ext h h16:=(U1.then (V13.then u16)).ext
 have hno:∀ i,i<h16.length→i<h17.length∧¬ bZ w7 i:=fun i hi=>⟨by have:=U17.1; omega,fun hs=>by have:=N17 i hs; omega⟩
 have U1417:Upd (fun _=>False) h14 h17:=(U15.then U16).then U17
 have S14:LSt (fun i=>i<h17.length) h16 h17 w7 (jZ ((cB c.serial).getD []) (bK c.issuer).1 (bK c.subject).1 f u c.key):=by
  refine ⟨U17.ext,⟨[[.i .i64 2,.i .i64 0,.b true,.s [],wa],bF 0 2 false ((cB c.serial).getD []),cQ wk,ri,[.i .i64 0,.i .i64 16,.b true,.s [],wb],rs,[.i .i64 0,.i .i64 16,.b true,.s [],wc]], ?_, ?_⟩,fun i hi=>⟨by have:=N17 i hi; omega,by have:=N17 i hi; have:=U17.1; omega⟩⟩
  ·rw [List.nil_append] at A17; exact A17
  ·refine .cons ?_ (.cons (DV.leaf _ _ _ _ _ _) (.cons ?_ (.cons ?_ (.cons ?_ (.cons ?_ (.cons ?_ .nil))))))
   ·exact DV.of (A14.rd.upd U1417 fun _ _ h=>h) (DVs.one (DV.leaf _ _ _ _ _ _)) rfl rfl fun i hi=>hno i (by have:=A14.rd.lt hi; have:=U15.1; have:=U16.1; omega)
   ·exact BC.alg U17.ext fun i hi=>hno i (BC.ak.lt hi)
   ·exact Di.upd ((U810.then U1013).then u17) fun i hi hl=>⟨fun h=>h,hno i (by have:=U810.1; have:=U1013.1; omega)⟩
   ·rw [f1, f2]
    exact DV.of (A15.rd.upd (U16.then U17) fun _ _ h=>h) (DVs.two (DV.leaf _ _ _ _ _ _) (DV.leaf _ _ _ _ _ _)) rfl rfl fun i hi=>hno i (by have:=A15.rd.lt hi; have:=U16.1; omega)
   ·exact Ds.upd (U1113.then u17) fun i hi hl=>⟨fun h=>h,hno i (by have:=U1113.1; omega)⟩
   ·exact DV.of (A16.rd.upd U17 fun _ _ h=>h) (DVs.two (BC.alg U17.ext fun i hi=>hno i (BC.ak.lt hi)) (DV.leaf _ _ _ _ _ _)) rfl rfl fun i hi=>hno i (A16.rd.lt hi)
 have hkl:(jZ ((cB c.serial).getD []) (bK c.issuer).1 (bK c.subject).1 f u c.key).length≤4000:=by show 7≤4000; omega
 by_cases hn:c.names=[]
 ·refine aK (by simp [hn]) ?_
  have ha:nC c.names = .ok []:=by unfold nC; rw [if_pos hn]
  unfold o6 at hq
  rw [ha] at hq
  exact yZ BC E0 S14 (LSt.nil U17.ext) (Nat.le_refl _) hkl (by simp) U17.1 (fun b hb=>B.z hc [] b ha hb) hq
 ·refine aM (decide_eq_true (by have := List.length_pos_iff.2 hn; omega)) ?_
  exact aG9 BC E0 hkl U17.1 B.nl hn B.a B.ad (B.z hc) hq c.names 0 h17 _ rfl (Nat.le_refl _) S14 (LSt.nil U17.ext)
end Go.Proofs.YtcdkpkkdolmfdaaGreatDoor
namespace Go.Proofs.YtcdkpkkdolmfdaaGreatDoor
open Go.GAM Go.RowKit Go.ChangeShapes
section
variable {H:Type} {enc:TypeId × Value→H} {w:World}
abbrev hW (w:World):aA:=lC w fun _=>1
theorem slI {held:Bool} {e t:TypeId} {sz fuel:Nat} {cs:List Value} {x:DataW H × List MemPlace} (ht:prog.underlying t=some (.slice e)) (hc:prog.cellsOf e=sz) (hz:0<sz) (h:DataW.trod enc prog w 0 (fun _=>true) held fuel t cs=some x) :
  ∃ (v:Value) (rows:List (List Value)),cs=[v]∧RdI sz (hW w) (mG w (fun _=>1) v) (rows.flatten.map (mG w fun _=>1)) rows.length∧rows.length≤maxLen∧∀ r∈rows,r.length=sz∧∃ n y,DataW.trod enc prog w 0 (fun _=>true) held n e r=some y:=by
 rcases y8 ht h with ⟨rfl,_⟩ | ⟨a,len,cap,n,rows,ds,rs,hf,rfl,_,_,hl,hm,hrl,hr,_,hcell⟩
 ·exact ⟨_,[],rfl,.inl ⟨rfl,rfl,rfl⟩,by simp,fun r hr=>by cases hr⟩
 have hlen:=vH rows fun r hr'=>(hr r hr').1.trans hc
 by_cases hc0:cap=0
 ·subst hc0
  have hl0:len=0:=by omega
  subst hl0
  exact ⟨.slice (some a) 0 0,[],rfl,.inr (.inl ⟨rfl,rfl,⟨w.heap.size,0,0⟩,some 0,rfl⟩),by simp,fun r hr=>by cases hr⟩
 ·obtain ⟨ver, b, h1, h2, h3, h4, h5, h6⟩ := qK (szOf := fun _ => 1) hl hc0 hz hz (by rw [hlen, hrl]) hcell
  rw [rR rows len fun r hr'=>(hr r hr').1.trans hc] at h6
  refine ⟨_,rows.take len,rfl,.inr (.inr ⟨a.block,ver,a.off,some cap,b, ?_,h2,h3,h4, ?_, ?_⟩),by rw [List.length_take,hrl]; omega,fun r hr'=>?_⟩
  ·rw [h1,List.length_take,hrl,Nat.min_eq_left hl]
  ·rw [List.length_take,hrl,Nat.min_eq_left hl]; exact h5
  ·rw [List.length_take,hrl,Nat.min_eq_left hl,h6]
  ·obtain ⟨g1, y, g2⟩ := hr r (List.mem_of_mem_take hr')
   exact ⟨g1.trans hc,n,y,g2⟩
theorem aGK {fuel : Nat} {cs : List Value} {x : DataW H × List MemPlace} (h : DataW.trod enc prog w 0 (fun _ => true) true fuel 23 cs = some x) :
  ∃ (v:Value) (l:List (List UInt8)),cs=[v]∧RdI 1 (hW w) (mG w (fun _=>1) v) (l.map .s) l.length∧l.length≤maxLen∧∀ n∈l,n.length≤maxLen:=by
 obtain ⟨v,rows,rfl,hr,hm,hrow⟩:=slI Tryz.underlying23 (show prog.cellsOf 9=1 by kernel_rfl) (by decide) h
 have:∀ rows:List (List Value),(∀ r∈rows,r.length=1∧∃ n y,DataW.trod enc prog w 0 (fun _=>true) true n 9 r=some y)→∃ l:List (List UInt8),rows.flatten.map (mG w fun _=>1)=l.map .s∧rows.length=l.length∧∀ n∈l,n.length≤maxLen:=by
  intro rows
  induction rows with
  | nil=>intro _; exact ⟨[],rfl,rfl,fun n hn=>by cases hn⟩
  | cons r rows ih =>
   intro hr
   obtain ⟨l,h1,h2,h3⟩:=ih fun r hr'=>hr r (by simp [hr'])
   obtain ⟨_,n,y,hy⟩:=hr r (by simp)
   obtain ⟨s,rfl,_,hs⟩:=DataW.trod_string Tryz.underlying9 hy
   refine ⟨s.data.toList :: l, ?_,by simp [h2],fun n hn=>?_⟩
   ·simp only [List.flatten_cons,List.map_append,h1]; rfl
   ·rcases List.mem_cons.1 hn with rfl | hn
    ·simpa using hs
    ·exact h3 n hn
 obtain ⟨l,h1,h2,h3⟩:=this rows hrow
 rw [h1,h2] at hr
 exact ⟨v,l,rfl,hr,h2 ▸ hm,h3⟩
def wfC (c:dP):Prop:=c.names.length≤maxLen∧(∀ n∈c.names,n.length≤maxLen)∧c.subject.length≤maxLen∧c.issuer.length≤maxLen
theorem aJH {fuel:Nat} {cs:List Value} {x:DataW H × List MemPlace} (h:DataW.trod enc prog w 0 (fun _=>true) true fuel 25 cs=some x):∃ c:dP,CV (hW w) c (cs.map (mG w fun _=>1))∧wfC c:=by
 cases fuel with
 | zero=>simp [DataW.trod] at h
 | succ fuel=>
 obtain ⟨xs,n,hn,_,hlen,hl,hf⟩:=DataW.trod_struct Tryz.underlying25 h
 have c36:prog.cellsOf 25=8:=by kernel_rfl
 have c3:prog.cellsOf 3=1:=by kernel_rfl
 have c4:prog.cellsOf 4=1:=by kernel_rfl
 have c9:prog.cellsOf 9=1:=by kernel_rfl
 have c34:prog.cellsOf 23=1:=by kernel_rfl
 rw [c36] at hlen
 have hn:fuel=n:=by omega
 subst hn
 match cs,hlen with
 | [v0, v1, v2, v3, v4, v5, v6, v7], _ =>
  have hxl:xs.length=8:=hl
  have f0:DataW.trod enc prog w 0 (fun _=>true) true fuel 9 (([v0,v1,v2,v3,v4,v5,v6,v7].drop 0).take (prog.cellsOf 9))=xs[0]?:=hf 0 _ rfl
  have f1:DataW.trod enc prog w 0 (fun _=>true) true fuel 9 (([v0,v1,v2,v3,v4,v5,v6,v7].drop 1).take (prog.cellsOf 9))=xs[1]?:=hf 1 _ rfl
  have f2:DataW.trod enc prog w 0 (fun _=>true) true fuel 9 (([v0,v1,v2,v3,v4,v5,v6,v7].drop 2).take (prog.cellsOf 9))=xs[2]?:=hf 2 _ rfl
  have f3:DataW.trod enc prog w 0 (fun _=>true) true fuel 3 (([v0,v1,v2,v3,v4,v5,v6,v7].drop 3).take (prog.cellsOf 3))=xs[3]?:=hf 3 _ rfl
  have f4:DataW.trod enc prog w 0 (fun _=>true) true fuel 3 (([v0,v1,v2,v3,v4,v5,v6,v7].drop 4).take (prog.cellsOf 3))=xs[4]?:=hf 4 _ rfl
  have f5:DataW.trod enc prog w 0 (fun _=>true) true fuel 23 (([v0,v1,v2,v3,v4,v5,v6,v7].drop 5).take (prog.cellsOf 23))=xs[5]?:=hf 5 _ rfl
  have f6:DataW.trod enc prog w 0 (fun _=>true) true fuel 4 (([v0,v1,v2,v3,v4,v5,v6,v7].drop 6).take (prog.cellsOf 4))=xs[6]?:=hf 6 _ rfl
  have f7:DataW.trod enc prog w 0 (fun _=>true) true fuel 9 (([v0,v1,v2,v3,v4,v5,v6,v7].drop 7).take (prog.cellsOf 9))=xs[7]?:=hf 7 _ rfl
  rw [c9] at f0 f1 f2 f7
  rw [c3] at f3 f4
  rw [c4] at f6
  rw [c34] at f5
  rw [List.getElem?_eq_getElem (by omega)] at f0 f1 f2 f3 f4 f5 f6 f7
  obtain ⟨s0,e0,_,b0⟩:=DataW.trod_string Tryz.underlying9 f0
  obtain ⟨s1,e1,_,b1⟩:=DataW.trod_string Tryz.underlying9 f1
  obtain ⟨s2,e2,_,b2⟩:=DataW.trod_string Tryz.underlying9 f2
  obtain ⟨i3,e3,_,_⟩:=DataW.trod_int (show prog.underlying 3=some (.int .i64) by kernel_rfl) f3
  obtain ⟨i4,e4,_,_⟩:=DataW.trod_int (show prog.underlying 3=some (.int .i64) by kernel_rfl) f4
  obtain ⟨v5',l,e5,hr,hnl,hn⟩:=aGK f5
  obtain ⟨m6,e6,_⟩:=DataW.trod_bool Tryz.underlying4 f6
  obtain ⟨s7,e7,_,b7⟩:=DataW.trod_string Tryz.underlying9 f7
  have g0:v0 = .string s0:=List.singleton_inj.1 e0
  have g1:v1 = .string s1:=List.singleton_inj.1 e1
  have g2:v2 = .string s2:=List.singleton_inj.1 e2
  have g3:v3 = .int .i64 i3:=List.singleton_inj.1 e3
  have g4:v4 = .int .i64 i4:=List.singleton_inj.1 e4
  have g5:v5=v5':=List.singleton_inj.1 e5
  have g6:v6 = .bool m6:=List.singleton_inj.1 e6
  have g7:v7 = .string s7:=List.singleton_inj.1 e7
  subst g0 g1 g2 g3 g4 g5 g6 g7
  exact ⟨⟨s0.data.toList,s1.data.toList,s2.data.toList,i3,i4,l,m6,s7.data.toList⟩,⟨_,rfl,hr⟩,hnl,hn,by simpa using b2,by simpa using b1⟩
theorem aJR {v:Value} {d:DataW H} {p:List MemPlace} (k:DataW.Trod enc prog w 0 (fun _=>true) true 25 v d p) :
  ∃ (cs:List AV) (c:dP),bJ (muC w fun _=>1) (.ag cs) v∧CV (hW w) c cs:=by
 obtain ⟨fuel,h⟩:=k
 obtain ⟨c,hc,_⟩:=aJH h
 cases v with
 | agg cs=>exact ⟨_,c,.ag _ _ (by
   have:∀ vs:List Value,bQ (muC w fun _=>1) (vs.map (mG w fun _=>1)) vs:=yS
   exact this _),hc⟩
 | _ =>
  have:=hc.len
  simp [Value.cells] at this
theorem pA {g:Nat} {cs:Array Value} {n:String} (hg:prog.globalNamed n=some g) (hv:w.var? prog n=some cs):jO (hW w) g (cs.toList.map (mG w fun _=>1)):=by
 obtain ⟨t,fr,h⟩:=aHU hg hv
 have hlt:g<w.heap.size:=(Array.getElem?_eq_some_iff.1 h).1
 refine ⟨qW w (fun _=>1) g, ?_, ?_, ?_, ?_⟩
 ·unfold hW lC
  rw [List.getElem?_append_left (by simpa using hlt),List.getElem?_map,List.getElem?_range hlt] <;> rfl
 ·simp only [qW,h]
 ·simp only [qW,h]; simp
 ·simp only [qW,h]
theorem fI {held:Bool} {fuel:Nat} {cs:List Value} {d:DataW H} {p:List MemPlace} {c t:Int} {m:Bool} (hd:d = .agg [.lit (.int .i64 c),.lit (.int .i64 t),.lit (.bool m)]) (h:DataW.trod enc prog w 0 (fun _=>true) held fuel 46 cs=some (d,p)) :
  cs=[.int .i64 c,.int .i64 t,.bool m]:=by
 cases fuel with
 | zero=>simp [DataW.trod] at h
 | succ fuel=>
 obtain ⟨xs,n,hn,hx,hlen,hl,hf⟩:=DataW.trod_struct Tryz.underlying46 h
 have c78:prog.cellsOf 46=3:=by kernel_rfl
 have c3:prog.cellsOf 3=1:=by kernel_rfl
 have c4:prog.cellsOf 4=1:=by kernel_rfl
 rw [c78] at hlen
 have hn:fuel=n:=by omega
 subst hn
 match cs,hlen with
 | [v0, v1, v2], _ =>
  have hxl:xs.length=3:=hl
  have f0:DataW.trod enc prog w 0 (fun _=>true) held fuel 3 (([v0,v1,v2].drop 0).take (prog.cellsOf 3))=xs[0]?:=hf 0 _ rfl
  have f1:DataW.trod enc prog w 0 (fun _=>true) held fuel 3 (([v0,v1,v2].drop 1).take (prog.cellsOf 3))=xs[1]?:=hf 1 _ rfl
  have f2:DataW.trod enc prog w 0 (fun _=>true) held fuel 4 (([v0,v1,v2].drop 2).take (prog.cellsOf 4))=xs[2]?:=hf 2 _ rfl
  rw [c3] at f0 f1
  rw [c4] at f2
  match xs,hxl with
  | [y0, y1, y2], _ =>
   obtain ⟨i0,e0,d0,_⟩:=DataW.trod_int (show prog.underlying 3=some (.int .i64) by kernel_rfl) f0
   obtain ⟨i1,e1,d1,_⟩:=DataW.trod_int (show prog.underlying 3=some (.int .i64) by kernel_rfl) f1
   obtain ⟨m2,e2,d2⟩:=DataW.trod_bool Tryz.underlying4 f2
   have g0:v0 = .int .i64 i0:=List.singleton_inj.1 e0
   have g1:v1 = .int .i64 i1:=List.singleton_inj.1 e1
   have g2:v2 = .bool m2:=List.singleton_inj.1 e2
   subst g0 g1 g2 d0 d1 d2 hd
   simp at hx
   obtain ⟨⟨rfl,rfl,rfl⟩,_⟩:=hx
   rfl
theorem aH4 {held:Bool} {fuel:Nat} {cs:List Value} {d:DataW H} {p:List MemPlace} {a b:List UInt8} (hd:d = .agg [.lit (.string a),.lit (.string b)]) (h:DataW.trod enc prog w 0 (fun _=>true) held fuel 74 cs=some (d,p)) :
  cs.map (mG w fun _=>1)=[.s a,.s b]:=by
 cases fuel with
 | zero=>simp [DataW.trod] at h
 | succ fuel=>
 obtain ⟨xs,n,hn,hx,hlen,hl,hf⟩:=DataW.trod_struct Tryz.underlying74 h
 have c82:prog.cellsOf 74=2:=by kernel_rfl
 have c9:prog.cellsOf 9=1:=by kernel_rfl
 rw [c82] at hlen
 have hn:fuel=n:=by omega
 subst hn
 match cs,hlen with
 | [v0, v1], _ =>
  have hxl:xs.length=2:=hl
  have f0:DataW.trod enc prog w 0 (fun _=>true) held fuel 9 (([v0,v1].drop 0).take (prog.cellsOf 9))=xs[0]?:=hf 0 _ rfl
  have f1:DataW.trod enc prog w 0 (fun _=>true) held fuel 9 (([v0,v1].drop 1).take (prog.cellsOf 9))=xs[1]?:=hf 1 _ rfl
  rw [c9] at f0 f1
  match xs,hxl with
  | [y0, y1], _ =>
   obtain ⟨s0,e0,d0,_⟩:=DataW.trod_string Tryz.underlying9 f0
   obtain ⟨s1,e1,d1,_⟩:=DataW.trod_string Tryz.underlying9 f1
   have g0:v0 = .string s0:=List.singleton_inj.1 e0
   have g1:v1 = .string s1:=List.singleton_inj.1 e1
   subst g0 g1 d0 d1 hd
   simp at hx
   obtain ⟨⟨rfl,rfl⟩,_⟩:=hx
   rfl
def attD {H:Type} (x:List UInt8 × List UInt8):DataW H:=.agg [.lit (.string x.1),.lit (.string x.2)]
theorem aB9 {held:Bool} {n:Nat}:∀ (rows:List (List Value)) (l:List (List UInt8 × List UInt8)),rows.length=l.length→(∀ (i:Nat) (r:List Value) (d:DataW H),rows[i]? = some r→(l.map attD)[i]? = some d→∃ p,DataW.trod enc prog w 0 (fun _=>true) held n 74 r=some (d,p)) →
  rows.flatten.map (mG w fun _=>1)=l.flatMap fun x=>[.s x.1,.s x.2]
 | [],[],_,_=>rfl
 | r :: rows, x :: l, hl, h => by
  obtain ⟨p,hp⟩:=h 0 r (attD x) rfl rfl
  rw [List.flatten_cons,List.map_append,aH4 rfl hp,aB9 rows l (by simpa using hl) fun i r d h1 h2=>h (i+1) r d (by simpa using h1) (by simpa using h2)]
  first | done | rfl
theorem aNF {l : List (String × DataW Unit)} (h5 : ("intrusion/certificate.sequence", Rows.laid_intrusion_certificate_sequence) ∈ l) (h4 : ("intrusion/certificate.attributes", Rows.laid_intrusion_certificate_attributes) ∈ l) (h6 : ("intrusion/certificate.set", Rows.laid_intrusion_certificate_set) ∈ l) (h9 : ("intrusion/certificate.bits", Rows.laid_intrusion_certificate_bits) ∈ l) (h11 : ("intrusion/certificate.version", Rows.laid_intrusion_certificate_version) ∈ l) (h7 : ("intrusion/certificate.integer", Rows.laid_intrusion_certificate_integer) ∈ l) (h13 : ("intrusion/certificate.hostName", Rows.laid_intrusion_certificate_hostName) ∈ l) (h10 : ("intrusion/certificate.truth", Rows.laid_intrusion_certificate_truth) ∈ l) (h12 : ("intrusion/certificate.extension", Rows.laid_intrusion_certificate_extension) ∈ l) (h8 : ("intrusion/certificate.octets", Rows.laid_intrusion_certificate_octets) ∈ l) (hL : laidMet prog l w) : CG2 (hW w) := by
 refine ⟨⟨?_, ?_, ?_⟩, ?_, ?_, ?_, ?_, ?_, ?_, ?_⟩
 ·obtain ⟨g, t, cs, fuel, p, hg, ht, hv, hd⟩ := dV h5 hL
  obtain rfl:=Option.some.inj ((show prog.globalNamed "intrusion/certificate.sequence" = some 0 by kernel_rfl).symm.trans hg)
  obtain rfl:=Option.some.inj ((show (prog.globals[0]?).map (·.type)=some 46 by kernel_rfl).symm.trans ht)
  have:=pA hg hv
  rw [fI rfl hd] at this
  exact this
 ·obtain ⟨g, t, cs, fuel, p, hg, ht, hv, hd⟩ := dV h6 hL
  obtain rfl:=Option.some.inj ((show prog.globalNamed "intrusion/certificate.set" = some 8 by kernel_rfl).symm.trans hg)
  obtain rfl:=Option.some.inj ((show (prog.globals[8]?).map (·.type)=some 46 by kernel_rfl).symm.trans ht)
  have:=pA hg hv
  rw [fI rfl hd] at this
  exact this
 ·obtain ⟨g, t, cs, fuel, p, hg, ht, hv, hd⟩ := dV h4 hL
  obtain rfl:=Option.some.inj ((show prog.globalNamed "intrusion/certificate.attributes" = some 7 by kernel_rfl).symm.trans hg)
  obtain rfl:=Option.some.inj ((show (prog.globals[7]?).map (·.type)=some 72 by kernel_rfl).symm.trans ht)
  have hG:=pA hg hv
  have c82:prog.cellsOf 74=2:=by kernel_rfl
  rcases y8 Tryz.underlying72 hd with ⟨_,hx⟩ | ⟨a,len,cap,n,rows,ds,rs,_,hc,hx,hdl,hl,_,hrl,hr,hrd,hcell⟩
  ·cases hx
  ·rw [hc] at hG
   refine ⟨_,hG, ?_⟩
   have hds:ds=cN.map attD:=by
    have:=hx
    unfold Rows.laid_intrusion_certificate_attributes at this
    simp only [DataW.slice.injEq] at this
    exact this.1.symm
   have hlen4:len=4:=by rw [← hdl,hds] <;> rfl
   have hrl2:=vH rows fun r hr'=>(hr r hr').1.trans c82
   obtain ⟨ver,b,g1,g2,g3,g4,g5,g6⟩:=qK (szOf:=fun _=>1) (sz:=2) hl (by omega) (by decide) (by decide) (by rw [hrl2,hrl]) hcell
   rw [rR rows len fun r hr'=>(hr r hr').1.trans c82] at g6
   rw [aB9 (held:=false) (n:=n) (rows.take len) cN (by rw [List.length_take,hrl]; simp [cN]; omega) (fun i r d q1 q2=>hrd i r d (by rw [List.getElem?_take] at q1; split at q1; exact q1; cases q1) (by rw [hds]; exact q2))] at g6
   subst hlen4
   refine .inr (.inr ⟨a.block,ver,a.off,some cap,b, ?_,g2,g3,g4,g5,g6⟩)
   rw [← g1]
 ·obtain ⟨g, t, cs, fuel, p, hg, ht, hv, hd⟩ := dV h9 hL
  obtain rfl:=Option.some.inj ((show prog.globalNamed "intrusion/certificate.bits" = some 1 by kernel_rfl).symm.trans hg)
  obtain rfl:=Option.some.inj ((show (prog.globals[1]?).map (·.type)=some 46 by kernel_rfl).symm.trans ht)
  have:=pA hg hv
  rw [fI rfl hd] at this
  exact this
 ·obtain ⟨g, t, cs, fuel, p, hg, ht, hv, hd⟩ := dV h11 hL
  obtain rfl:=Option.some.inj ((show prog.globalNamed "intrusion/certificate.version" = some 2 by kernel_rfl).symm.trans hg)
  obtain rfl:=Option.some.inj ((show (prog.globals[2]?).map (·.type)=some 46 by kernel_rfl).symm.trans ht)
  have:=pA hg hv
  rw [fI rfl hd] at this
  exact this
 ·obtain ⟨g, t, cs, fuel, p, hg, ht, hv, hd⟩ := dV h7 hL
  obtain rfl:=Option.some.inj ((show prog.globalNamed "intrusion/certificate.integer" = some 3 by kernel_rfl).symm.trans hg)
  obtain rfl:=Option.some.inj ((show (prog.globals[3]?).map (·.type)=some 46 by kernel_rfl).symm.trans ht)
  have:=pA hg hv
  rw [fI rfl hd] at this
  exact this
 ·obtain ⟨g, t, cs, fuel, p, hg, ht, hv, hd⟩ := dV h13 hL
  obtain rfl:=Option.some.inj ((show prog.globalNamed "intrusion/certificate.hostName" = some 4 by kernel_rfl).symm.trans hg)
  obtain rfl:=Option.some.inj ((show (prog.globals[4]?).map (·.type)=some 46 by kernel_rfl).symm.trans ht)
  have:=pA hg hv
  rw [fI rfl hd] at this
  exact this
 ·obtain ⟨g, t, cs, fuel, p, hg, ht, hv, hd⟩ := dV h10 hL
  obtain rfl:=Option.some.inj ((show prog.globalNamed "intrusion/certificate.truth" = some 5 by kernel_rfl).symm.trans hg)
  obtain rfl:=Option.some.inj ((show (prog.globals[5]?).map (·.type)=some 46 by kernel_rfl).symm.trans ht)
  have:=pA hg hv
  rw [fI rfl hd] at this
  exact this
 ·obtain ⟨g, t, cs, fuel, p, hg, ht, hv, hd⟩ := dV h12 hL
  obtain rfl:=Option.some.inj ((show prog.globalNamed "intrusion/certificate.extension" = some 6 by kernel_rfl).symm.trans hg)
  obtain rfl:=Option.some.inj ((show (prog.globals[6]?).map (·.type)=some 46 by kernel_rfl).symm.trans ht)
  have:=pA hg hv
  rw [fI rfl hd] at this
  exact this
 ·obtain ⟨g, t, cs, fuel, p, hg, ht, hv, hd⟩ := dV h8 hL
  obtain rfl:=Option.some.inj ((show prog.globalNamed "intrusion/certificate.octets" = some 9 by kernel_rfl).symm.trans hg)
  obtain rfl:=Option.some.inj ((show (prog.globals[9]?).map (·.type)=some 46 by kernel_rfl).symm.trans ht)
  have:=pA hg hv
  rw [fI rfl hd] at this
  exact this
end
end Go.Proofs.YtcdkpkkdolmfdaaGreatDoor
namespace Go.Proofs.YtcdkpkkdolmfdaaGreatDoor
open Go.GAM Go.RowKit
theorem aBT:∀ l:List Att,(∀ a∈l,iV a.1=true)→3 * l.length≤(gA l).length+1∧(l.map fun a=>a.2.length).sum≤(gA l).length
 | [],_=>by simp
 | [a], h => by
  have h1:=h a (by simp)
  have h2:1≤a.1.length:=by rcases fF h1 with e | e | e | e <;> rw [e] <;> simp
  have h3:=iF uP a.2
  rw [oS]
  unfold eG
  simp only [List.length_append,List.length_cons,List.length_nil,List.map_cons,List.map_nil,List.sum_cons,List.sum_nil]
  omega
 | a :: b :: l, h => by
  have h1:=h a (by simp)
  have h2:1≤a.1.length:=by rcases fF h1 with e | e | e | e <;> rw [e] <;> simp
  have h3:=iF uP a.2
  obtain ⟨i1,i2⟩:=aBT (b :: l) fun x hx=>h x (by simp [hx])
  rw [jP]
  unfold eG
  simp only [List.length_append,List.length_cons,List.length_nil,List.map_cons,List.sum_cons] at *
  omega
theorem aLS (l:List Att):szs (l.map setA)=4 * l.length:=by
 induction l with
 | nil=>rfl
 | cons a l ih =>
  show (setA a).sz+szs (l.map setA)=_
  rw [ih]
  simp only [setA,Der.sz,szs,List.length_cons]; omega
theorem aM0 (l:List Att) (h:∀ a∈l,iV a.1=true):dM (l.map setA)≤50 * l.length+(l.map fun a=>a.2.length).sum:=by
 induction l with
 | nil=>simp [dM]
 | cons a l ih =>
  have h1:=(aAP (h a (by simp))).2.2
  have ih:=ih fun x hx=>h x (by simp [hx])
  show fN (setA a)+dM (l.map setA)≤_
  simp only [setA,fN,dM,List.length_cons,List.length_nil,List.map_cons,List.sum_cons] at *
  omega
theorem aE0 {s : List UInt8} (h : (bK s).2 = 0) : (bK s).1.sz ≤ 1000 ∧ fN (bK s).1 ≤ 10000 := by
 have hl:s.length≤512:=by
  unfold bK at h
  by_cases hl:512<s.length
  ·rw [if_pos hl] at h; cases h
  ·omega
 cases ha:jJ s with
 | none=>rw [yG hl ha] at h; cases h
 | some l =>
  obtain ⟨e,hok,_⟩:=yA hl ha
  rw [e]
  have hr:(gA l).length≤512∨l=[]:=by
   unfold jJ at ha
   by_cases hn:s=[]
   ·rw [if_pos hn] at ha; cases ha; exact .inr rfl
   ·rw [if_neg hn] at ha
    rw [(nQ _ _ _ ha).1] at hl; exact .inl hl
  have h1:=aLS l
  have h2:=aM0 l hok
  obtain ⟨g1,g2⟩:=aBT l hok
  show (gQ (l.map setA)).sz≤1000∧fN (gQ (l.map setA))≤10000
  unfold gQ
  simp only [Der.sz,fN,List.length_nil]
  rcases hr with hr | rfl
  ·omega
  ·simp [szs,dM]
structure CSm (c:dP):Prop where
 n:c.names.length≤20
 s:∀ x∈c.names,x.length≤1000
 i:c.issuer.length≤1000000
 j:c.subject.length≤1000000
theorem aN6 (l:List (List UInt8)):szs (l.map fun n=>dH 2 2 n)=l.length:=by
 induction l with
 | nil=>rfl
 | cons a l ih =>
  show (dH 2 2 a).sz+szs (l.map fun n=>dH 2 2 n)=_
  rw [ih]; simp only [dH,Der.sz,szs,List.length_cons]; omega
theorem aN5 (l:List (List UInt8)) (h:∀ x∈l,x.length≤1000):dM (l.map fun n=>dH 2 2 n)≤1010 * l.length:=by
 induction l with
 | nil=>simp [dM]
 | cons a l ih =>
  have h1:=h a (by simp)
  have ih:=ih fun x hx=>h x (by simp [hx])
  show fN (dH 2 2 a)+dM (l.map fun n=>dH 2 2 n)≤_
  rw [show fN (dH 2 2 a)=a.length+10+0 from rfl,List.length_cons]; omega
theorem aE3 {d:Der} {s:List UInt8} (h:eS d = .ok s):s.length≤fN d:=by
 have:=k6 d
 rw [(pO h).1]; exact this
theorem aLC:(cJ kO).length≤20∧(cJ altOid).length≤20∧(cJ basOid).length≤20:=by
 refine ⟨?_, ?_, ?_⟩ <;> decide +kernel
theorem z1:∀ a b:List Der,szs (a++b)=szs a+szs b
 | [],b=>by simp [szs]
 | k :: a,b=>by simp only [List.cons_append,szs,z1 a b]; omega
theorem aLD {s l:List UInt8} (h:cB s=some l):l.length≤40:=by
 have h1:=(s6 h).1
 have h2:=uG l
 rw [h1] at h2
 unfold cB at h
 split at h
 ·cases h
 ·rename_i e
  have:s.length≤40:=by
   rcases Nat.lt_or_ge 40 s.length with hh | hh
   ·exact absurd (.inr (.inr hh)) e
   ·exact hh
  omega
theorem BOK.of {c : dP} {f u : Der} (hs : CSm c) (ht : dZ c = 0 → kB c.frm f ∧ kB c.til u) : BOK c f u := by
 obtain ⟨a1,a2,a3⟩:=aLC
 have hsz:=aN6 c.names
 have hds:=aN5 c.names hs.s
 have hn:=hs.n
 refine { n:=by omega,s:=fun x hx=>by have:=hs.s x hx; omega,i:=by have:=hs.i; omega,j:=by have:=hs.j; omega,t:=ht,a:=?_,ad:=?_,z:=fun hc a b ha hb=>?_,nl:=by omega }
 ·show 1 + szs (c.names.map fun n => dH 2 2 n) ≤ 100000
  omega
 ·show ([] : List UInt8).length + 10 + dM (c.names.map fun n => dH 2 2 n) ≤ 60000
  simp only [List.length_nil]; omega
 ·obtain ⟨tf, tu'⟩ := ht hc
  obtain ⟨_,_,_,_,g1,s1,_,_,_,_,f1,l1⟩:=tf.leaf
  obtain ⟨_,_,_,_,g2,s2,_,_,_,_,f2,l2⟩:=tu'.leaf
  have hk:=aAJ hc
  have hnm:(bK c.issuer).2=0∧(bK c.subject).2=0:=by
   unfold dZ at hc
   split at hc
   ·cases hc
   ·split at hc
    ·cases hc
    ·rename_i hx
     rw [not_or] at hx
     exact ⟨by simpa using hx.1,by simpa using hx.2⟩
  obtain ⟨i1,i2⟩:=aE0 hnm.1
  obtain ⟨j1,j2⟩:=aE0 hnm.2
  have hser:((cB c.serial).getD []).length≤40:=by
   cases hx:cB c.serial with
   | none=>simp
   | some l=>exact aLD hx
  have hext:szs (a++b)≤6∧dM (a++b)≤30000:=by
   have ha':szs a≤3∧dM a≤25000:=by
    unfold nC at ha
    split at ha
    ·cases ha; simp [szs,dM]
    ·split at ha
     ·cases ha
     ·rename_i s hx
      cases ha
      have:=aE3 hx
      have e:fN (rB c.names)=0+10+dM (c.names.map fun n=>dH 2 2 n):=rfl
      simp only [iM,mO,dH,eE,szs,Der.sz,dM,fN,List.length_nil]
      omega
   have hb':szs b≤3∧dM b≤200:=by
    unfold lT at hb
    split at hb
    ·split at hb
     ·cases hb
     ·rename_i s hx
      cases hb
      have:=aE3 hx
      have e:fN pK=21:=by decide
      simp only [iM,mO,dH,eE,szs,Der.sz,dM,fN,List.length_nil]
      omega
    ·cases hb; simp [szs,dM]
   rw [z1,oT]; omega
  have hmore:szs (eD (a++b))≤8∧dM (eD (a++b))≤30020:=by
   unfold eD
   split
   ·simp [szs,dM]
   ·simp only [eE,szs,Der.sz,dM,fN,List.length_nil]; omega
  have ht8:((c.key++z8b).take 8).length≤8:=by rw [List.length_take]; omega
  refine ⟨by omega, ?_, ?_⟩
  ·simp only [eE, dH, mH, mO, Der.sz, szs, z1, jZ, f1, f2]
   omega
  ·simp only [eE, dH, mH, mO, fN, dM, oT, jZ, f1, f2, List.length_nil, List.length_cons]
   omega
def xE:dP:=⟨[48,48],[67,78,61,97,44,79,61,98],[67,78,61,120],5,2600000000,[[120],[42,46,121]],true,[107,101,121]⟩
def aMV:Der:=qD 1970 1 0 5
def aLP:Der:=qD 2052 5 21 51200
theorem aJC:kB xE.frm aMV∧kB xE.til aLP:=
 ⟨⟨5,1970,1,0,rfl,by decide,⟨by decide,by decide +kernel,by decide +kernel,by decide,by decide,by decide +kernel,by decide +kernel⟩,rfl⟩,⟨2600000000,2052,5,21,rfl,by decide,⟨by decide,by decide +kernel,by decide +kernel,by decide,by decide,by decide +kernel,by decide +kernel⟩,rfl⟩⟩
theorem aN0:CSm xE:=⟨by decide,by decide,by decide,by decide⟩
def aO1:Except Int (List UInt8)→Option (List UInt8)
 | .ok l=>some l
 | .error _=>none
theorem aPD:(aO1 (iL xE aMV aLP)).isSome=true:=by kernel_rfl
theorem aOB:∃ l,iL xE aMV aLP = .ok l∧sL l = .ok xE:=by
 have h:=aPD
 cases hb:iL xE aMV aLP with
 | error e=>rw [hb] at h; cases h
 | ok l=>exact ⟨l,rfl,round aJC.1 aJC.2 hb⟩
end Go.Proofs.YtcdkpkkdolmfdaaGreatDoor
namespace Go.Proofs.YtcdkpkkdolmfdaaGreatDoor
open Go.GAM Go.RowKit
section
variable {h:aA} {Q:AV→aA→Prop}
theorem aBS (hq:∀ cs h',Upd (fun _=>False) h h'→CV h' xE cs→Q (.ag cs) h'):C Y81.id [] h Q:=by
 refine Y81.call ?_
 simp only [Y81.t]
 refine cD (n:=8) rfl fun h1 hl1 U1 R1=>?_
 refine eO (cs:=[.s [120],.s [42,46,121]]) rfl rfl fun v h2 hl2 U2 R2 F2=>?_
 obtain ⟨aa,nn,kk,rfl⟩:=R2.i.isSl
 refine lE (cs:=fT xE (.sl aa nn kk)) rfl ?_
 refine bA (R1.upd U2 fun h=>h) rfl rfl rfl fun h3 hl3 U3 R3=>bB R3 rfl (.inl (hq _ h3 ((U1.then U2).own U3 (Nat.le_refl _)) ⟨_,rfl,R2.i.upd U3 fun i hi e=>?_⟩))
 have:=F2 i hi
 omega
theorem aM3:bK [67,78,61,97,61,98]=(.zero,5):=by
 have:(bK [67,78,61,97,61,98]).2=5:=by kernel_rfl
 unfold bK at this ⊢
 rw [if_neg (by decide),if_neg (by decide)] at this ⊢
 split at this
 ·cases this
 ·rename_i hx; rw [if_neg hx]
theorem aOI:aAD [79,61,120,44,67,78,61,97,92,44,98]=[97,44,98]:=by kernel_rfl
theorem aEU (G:CG2 h) (hq:∀ h',Upd (fun _=>False) h h'→Q (.b true) h'):C Y57.id [] h Q:=by
 refine Y57.call ?_
 simp only [Y57.t, ← Y57.p0.eq_1]
 obtain ⟨l,hb,hp⟩:=aOB
 refine aBS fun cs1 h1 U1 V1=>?_
 refine tM (G.up U1) V1 (BOK.of aN0 fun _=>aJC) ?_
 rw [hb]
 refine bD (aZ (bC (aU ?_)))
 refine aLG (G.up U1) ?_
 rw [hp]
 intro cs2 h2 U2 V2
 refine bD (bC (aU (cD (n:=8) rfl fun h3 hl3 U3 R3=>bA R3 rfl V2.len V2.ok fun h4 hl4 U4 R4=>?_)))
 have U24:Upd (fun _=>False) h2 h4:=U3.own U4 (Nat.le_refl _)
 have W4:=(U1.then U2).then U24
 refine kZ (G.up W4).g (by decide) ?_
 rw [aM3]
 intro h5 cs5 U5 D5
 refine bD (bC (aU (cD (n:=5) rfl fun h6 hl6 U6 R6=>bA R6 rfl D5.len D5.cells' fun h7 hl7 U7 R7=>?_)))
 have U57:Upd (fun _=>False) h5 h7:=U6.own U7 (Nat.le_refl _)
 have U47:=U5.then U57
 have W7:=W4.then U47
 have R47:=R4.upd U47 fun h=>h
 refine aM rfl (aM rfl (bB R47 V2.len.symm ?_))
 refine aBS fun cs8 h8 U8 V8=>?_
 have R48:=R47.upd U8 fun h=>h
 refine bB R48 V2.len.symm ⟨rfl, ?_⟩
 refine aMG (c:=xE) (V2.ext (U24.then (U47.then U8))) V8 (by decide) (aX (aM rfl ?_))
 refine aJ8 (G.up (W7.then U8)).g (by decide) ?_
 rw [aOI]
 refine aZ (bB R48 V2.len.symm ⟨rfl,aM (by decide) ?_⟩)
 refine Y57.i0 ?_
 simp only [Y57.t0]
 exact .inl (hq h8 (W7.then U8))
def vR (c:dP):Bool:=decide (c.names.length≤20∧c.issuer.length≤2000∧c.subject.length≤2000∧c.serial.length≤2000∧c.key.length≤2000)&&c.names.all fun n=>decide (n.length≤100)
theorem aDZ {c : dP} {cs : List AV} (V : CV h c cs) (hq : Q (.b (vR c)) h) : C Y35.id [.ag cs] h Q := by
 obtain ⟨v,rfl,S⟩:=V
 refine Y35.call ?_
 simp only [Y35.t, ← Y35.p0.eq_1]
 refine kK (n:=8) rfl rfl fun h1 hl1 U1 R1=>?_
 have R1:bE h1 h.length (fT c v):=R1
 have S1:=S.ext U1
 have ld:∀ (o:Nat) (x:AV),(fT c v)[o]? = some x→∀ K:AV→Prop,aC (.p (some ⟨h.length,8,o⟩)) h1 K=K x:=fun o x hx K=>rP R1 rfl hx
 have p1:c.names.length≤20→∀ (r:List (List UInt8)) (i:Nat),c.names.drop i=r→Q (.b (r.all fun n=>decide (n.length≤100))) h→Y35.p1 (aI h Q) (.p (some ⟨h.length,8,0⟩)) i h1:=by
  intro h20 r
  induction r with
  | nil =>
   intro i hr hk
   have:=cA hr
   refine Y35.i1 ?_
   simp only [Y35.t1, ← Y35.p1.eq_1]
   simp only [dY,Nat.zero_add,ld 5 _ rfl,S1.plen]
   exact aK (by simp; omega) (aV rfl U1.ext hk)
  | cons x r ih =>
   intro i hr hk
   have hlt:=cG hr
   have hx:=b5 hr
   refine Y35.i1 ?_
   simp only [Y35.t1, ← Y35.p1.eq_1]
   simp only [dY,Nat.zero_add,ld 5 _ rfl,S1.plen]
   refine aM (by simp; omega) (S1.str (Upd.refl _ _) hx ?_)
   by_cases h100:100<x.length
   ·refine aM (decide_eq_true (by omega)) (aV rfl U1.ext ?_)
    rw [show ((x :: r).all fun n=>decide (n.length≤100))=false by simp; intro h; omega] at hk
    exact hk
   ·refine aK (decide_eq_false (by omega)) (inc (by omega) (ih (i + 1) (bU hr) ?_))
    rw [show ((x :: r).all fun n=>decide (n.length≤100))=r.all fun n=>decide (n.length≤100) by simp; intro h; omega] at hk
    exact hk
 have p0:∀ b,b = !decide (c.names.length≤20∧c.issuer.length≤2000∧c.subject.length≤2000∧c.serial.length≤2000∧c.key.length≤2000)→Y35.p0 (aI h Q) (.p (some ⟨h.length,8,0⟩)) b h1:=by
  intro b hb
  subst hb
  refine Y35.i0 ?_
  simp only [Y35.t0, ← Y35.p1.eq_1]
  unfold vR at hq
  by_cases hc:c.names.length≤20∧c.issuer.length≤2000∧c.subject.length≤2000∧c.serial.length≤2000∧c.key.length≤2000
  ·rw [decide_eq_true hc] at hq ⊢
   exact aK rfl (p1 hc.1 c.names 0 rfl (by simpa using hq))
  ·rw [decide_eq_false hc] at hq ⊢
   exact aM rfl (aV rfl U1.ext hq)
 simp only [dY,Nat.zero_add,ld 5 _ rfl,S1.plen,ld 1 _ rfl,ld 2 _ rfl,ld 0 _ rfl,ld 7 _ rfl,bL]
 refine aG (fun e=>p0 _ ?_) fun e1=>?_
 ·have e := of_decide_eq_true e
  symm; rw [Bool.not_eq_true',decide_eq_false_iff_not]; omega
 have e1:=of_decide_eq_false e1
 refine aG (fun e=>p0 _ ?_) fun e2=>?_
 ·have e := of_decide_eq_true e
  symm; rw [Bool.not_eq_true',decide_eq_false_iff_not]; omega
 have e2:=of_decide_eq_false e2
 refine aG (fun e=>p0 _ ?_) fun e3=>?_
 ·have e := of_decide_eq_true e
  symm; rw [Bool.not_eq_true',decide_eq_false_iff_not]; omega
 have e3:=of_decide_eq_false e3
 refine aG (fun e=>p0 _ ?_) fun e4=>?_
 ·have e := of_decide_eq_true e
  symm; rw [Bool.not_eq_true',decide_eq_false_iff_not]; omega
 have e4:=of_decide_eq_false e4
 refine p0 _ ?_
 by_cases h7:c.key.length≤2000
 ·rw [decide_eq_false (by omega),decide_eq_true (⟨by omega,by omega,by omega,by omega,h7⟩:_∧_)] <;> rfl
 ·rw [decide_eq_true (by omega),decide_eq_false fun h=>h7 h.2.2.2.2] <;> rfl
theorem aK6 {c:dP} (h:vR c=true):CSm c:=by
 unfold vR at h
 rw [Bool.and_eq_true,decide_eq_true_eq,List.all_eq_true] at h
 obtain ⟨⟨h1,h2,h3,h4,h5⟩,h6⟩:=h
 refine ⟨h1,fun x hx=>?_,by omega,by omega⟩
 have:=h6 x hx
 simp only [decide_eq_true_eq] at this
 omega
theorem aCZ {n:Int} (h0:0≤n) (h1:n≤253402300799):∃ t,kB n t:=by
 obtain ⟨y,m,d,D⟩:=aMC (n.toNat / 86400)
 exact ⟨_,n.toNat,y,m,d,by omega,by omega,D,rfl⟩
theorem aID (c:dP):∃ f u:Der,dZ c=0→kB c.frm f∧kB c.til u:=by
 by_cases hc:dZ c=0
 ·have hr : 0 ≤ c.frm ∧ c.frm ≤ 253402300799 ∧ 0 ≤ c.til ∧ c.til ≤ 253402300799 := by
   unfold dZ at hc
   split at hc
   ·cases hc
   ·omega
  obtain ⟨f,hf⟩:=aCZ hr.1 hr.2.1
  obtain ⟨u,hu⟩:=aCZ hr.2.2.1 hr.2.2.2
  exact ⟨f,u,fun _=>⟨hf,hu⟩⟩
 ·exact ⟨.zero,.zero,fun h=>absurd h hc⟩
end
end Go.Proofs.YtcdkpkkdolmfdaaGreatDoor
namespace Go.Proofs.YtcdkpkkdolmfdaaGreatDoor
open Go.GAM Go.RowKit
structure aKY (hb:aA) (c:dP) (nv wk:AV) (id0 idk:Nat):Prop where
 r0:bE hb id0 (fT c nv)
 rk:bE hb idk (cQ wk)
 ak:Rd 5 hb wk (bF 0 6 false (cJ kO)) 1
 s:RdI 1 hb nv (c.names.map .s) c.names.length
section
variable {h0 hb h:aA} {Q:AV→aA→Prop} {c:dP} {nv wk:AV} {id0 idk:Nat}
theorem aKY.alg {F:Nat→Prop} (B:aKY hb c nv wk id0 idk) (E:Ext hb h) (hF:∀ i,bZ wk i→F i):DV h F mH (cQ wk):=
 DV.of (B.ak.upd E.u fun _ _ h=>h) (DVs.one (DV.leaf _ _ _ _ _ _)) rfl rfl hF
variable (B:aKY hb c nv wk id0 idk) (E0:Ext h0 hb)
include B E0 in
theorem aKL {x14:AV} {ks:List Der} (S:LSt (fun _=>True) hb h x14 ks) (hz:BSz c ks) (hq:Q (mW (aCX c ks)) h0):Y8.p4 (aI h0 Q) (.p (some ⟨id0,8,0⟩)) (.p (some ⟨idk,5,0⟩)) x14 h:=by
 have E:=S.ext
 have hk:=hz.k
 unfold aCX at hq
 have lk:∀ h':aA,Ext hb h'→∀ K:AV→Prop,aB 5 (.p (some ⟨idk,5,0⟩)) h' K=K (.ag (cQ wk)):=fun h' E K=>k7 (k:=5) (B.rk.upd E.u fun h=>h) rfl (by show 0+5≤5; omega)
 refine Y8.i4 ?_
 simp only [Y8.t4]
 have ld7:∀ K:AV→Prop,aC (.p (some ⟨id0,8,7⟩)) h K=K (.s c.key):=fun K=>rP (B.r0.upd E.u fun h=>h) rfl rfl
 simp only [dY,Nat.zero_add,ld7,bL]
 refine ⟨by simp <;> omega, ?_⟩
 simp only [lk h E]
 refine j3 (hi:=8) (by simp) ⟨by simp <;> omega, ?_⟩
 refine dS S.low ?_
 simp only [lk h E,aR,true_and]
 refine eU ?_
 simp only [lk h E,aR,true_and]
 have D1:=S.val 0 16 true []
 have hf3:=bS 5 [[.i .i64 0,.i .i64 16,.b true,.s [],x14],cQ wk,bF 0 3 false (0 :: (c.key++z8b).take 8)] [] (z5++(z5++z5)) (by
  intro r hr
  simp only [List.mem_cons,List.not_mem_nil,or_false] at hr
  rcases hr with rfl | rfl | rfl <;> rfl) rfl
 refine bH (len:=3) hf3 rfl fun w h1 hl1 U1 A1 N1=>?_
 have E1:=E.trans U1.ext
 refine dS A1.low ?_
 simp only [lk h1 E1,aR,true_and]
 have D:DV h1 (fun i=>i<h1.length) (eE [eE ks,mH,dH 0 3 (0 :: (c.key++z8b).take 8)]) [.i .i64 0,.i .i64 16,.b true,.s [],w]:=
  DV.of A1.rd (.cons ((D1.upd U1 fun i _ hi=>⟨fun h=>h,by have:=U1.1; omega⟩:DV h1 (fun i=>i<h1.length) _ _)) (.cons (B.alg E1 fun i hi=>by have:=B.ak.lt hi; have:=E1.1; omega) (.cons (DV.leaf _ _ _ _ _ _) .nil))) rfl rfl fun i hi=>by have:=N1 i hi; omega
 refine sU hz.s hz.d D (fun i hi=>hi) ?_
 simp only [lk h1 E1,aR,true_and]
 cases he:eS (eE [eE ks,mH,dH 0 3 (0 :: (c.key++z8b).take 8)]) with
 | error e=>rw [he] at hq; exact bD (aZ (bC (aU (aV rfl (E0.trans E1) hq))))
 | ok l=>rw [he] at hq; exact bD (aZ (bC (aU (aV rfl (E0.trans E1) hq))))
variable {n4:Nat} {x14 x15:AV} {ks ext:List Der}
include B E0 in
theorem aIE (S14:LSt (fun i=>i<n4) hb h x14 ks) (S15:LSt (fun i=>n4≤i) hb h x15 ext) (hn4:n4≤h.length) (hkl:ks.length≤4000) (hz:BSz c (ks++eD ext)) (hq:Q (mW (aCX c (ks++eD ext))) h0) :
  Y8.p3 (aI h0 Q) (.p (some ⟨id0,8,0⟩)) (.p (some ⟨idk,5,0⟩)) x14 x15 h:=by
 have E:=S14.ext
 refine Y8.i3 ?_
 simp only [Y8.t3, ← Y8.p4.eq_1]
 refine S15.len ?_
 unfold eD at hz hq
 by_cases he:ext=[]
 ·subst he
  rw [if_pos rfl,List.append_nil] at hz hq
  exact aK rfl (aKL B E0 (S14.mono fun _ _=>trivial) hz hq)
 rw [if_neg he] at hz hq
 refine aM (decide_eq_true (by have:=List.length_pos_iff.2 he; omega)) ?_
 refine dS S15.low ?_
 obtain ⟨xa,na,ka,hx⟩:=S15.row1
 refine bH (cs:=[.i .i64 0,.i .i64 16,.b true,.s [],x15]) (len:=1) (by rw [hx] <;> rfl) rfl fun w h1 hl1 U1 A1 N1=>?_
 obtain ⟨xw,nw,kw,hw,_⟩:=A1.low
 refine lE (cs:=[.i .i64 2,.i .i64 3,.b true,.s [],w]) (by rw [hw] <;> rfl) ?_
 refine bH (cs:=[.i .i64 2,.i .i64 3,.b true,.s [],w]) (len:=1) (by rw [hw] <;> rfl) rfl fun y h2 hl2 U2 A2 N2=>?_
 have S14':=(S14.mono (F1:=fun _=>True) fun _ _=>trivial).up (U1.then U2)
 have D1:=S15.val 0 16 true []
 have hno:∀ i,n4≤i→¬ bZ x14 i:=fun i hi hs=>by have:=(S14.new i hs).2; omega
 have Dy:DV h2 (fun i=>True∧¬ bZ x14 i) (.mk 2 3 true [] [eE ext]) [.i .i64 2,.i .i64 3,.b true,.s [],w]:=
  (DV.of A1.rd (DVs.one (D1.upd U1 fun i hi _=>⟨fun h=>h,trivial,hno i hi⟩)) (by simp) rfl fun i hi=>⟨trivial,hno i (by have:=N1 i hi; omega)⟩:DV h1 _ _ _).ext U2
 refine S14'.push hkl A2.rd Dy (fun _ _=>trivial) fun v' h3 U3 S3=>?_
 exact aKL B E0 S3 hz hq
theorem aCB {o s:List UInt8} (ho:g9 o = .ok (cJ o)) (S14:LSt (fun i=>i<n4) hb h x14 ks) (S15:LSt (fun i=>n4≤i) hb h x15 ext) (hn4:n4≤h.length) (hel:ext.length≤4000) {K:AV→aA→Prop}
  (hk:∀ v' h',n4≤h'.length→LSt (fun i=>i<n4) hb h' x14 ks→LSt (fun i=>n4≤i) hb h' v' (ext++[iM o s])→K v' h') :
  C Y3.id [.s o] h fun v841 h842 => aH 0 v841 fun v843 => aH 1 v841 fun v844 => asI .i64 v844 fun _ => bV (some 33) z5 h842 fun v846 h847 => aS 5 v846 v843 h847 fun h848 => aB 5 v846 h848 fun v850 =>
   C Y53.id [.i .i64 0,.i .i64 4,.s s] h848 fun v851 h852=>aB 5 v846 h852 fun v853=>v850=v853∧aN 5 2 (z5++z5) [(0,5,v850),(5,5,v851)] h852 fun v854 h855=>C Y40.id [v854] h855 fun v856 h857=>aB 5 v846 h857 fun v858=>v850=v858 ∧
   aN 5 1 z5 [(0,5,v856)] h857 fun v859 h860=>aB 5 v846 h860 fun v861=>v850=v861∧bN none 5 64 x15 v859 h860 fun v862 h863=>aB 5 v846 h863 fun v864=>v850=v864∧K v862 h863:=by
 refine uS fun h1 U1=>?_
 rw [ho]
 refine bD (bC (aU (cD (n:=5) rfl fun h2 hl2 U2 R2=>bA R2 rfl rfl rfl fun h3 hl3 U3 R3=>bB R3 rfl ?_)))
 have V3:Upd (fun _=>False) h h3:=(U1.then U2).own U3 U1.1
 have lk:∀ h':aA,Upd (fun _=>False) h3 h'→∀ K:AV→Prop,aB 5 (.p (some ⟨h1.length,5,0⟩)) h' K=K (.ag (bF 0 6 false (cJ o))):=fun h' U K=>k7 (k:=5) (R3.upd U fun h=>h) rfl (by show 0+5≤5; omega)
 have u3:=Upd.refl (fun _=>False) h3
 refine eU ?_
 simp only [lk _ u3,aR,true_and]
 refine bH (cs:=bF 0 6 false (cJ o)++bF 0 4 false s) (len:=2) rfl rfl fun wa h4 hl4 U4 A4 N4=>?_
 have u4:=u3.then U4
 refine dS A4.low ?_
 simp only [lk _ u4,aR,true_and]
 obtain ⟨xa,na,ka,ea,_⟩:=A4.low
 refine bH (cs:=[.i .i64 0,.i .i64 16,.b true,.s [],wa]) (len:=1) (by rw [ea] <;> rfl) rfl fun wb h5 hl5 U5 A5 N5=>?_
 have u5:=u4.then U5
 simp only [lk _ u5,aR,true_and]
 have V5:=V3.then (U4.then U5)
 have hl15:∀ i,h.length≤i→¬ bZ x15 i:=fun i hi hs=>by have:=S15.lt hs; omega
 have D:DV h5 (fun i=>n4≤i∧¬ bZ x15 i) (iM o s) [.i .i64 0,.i .i64 16,.b true,.s [],wa]:=
  DV.of (A4.rd.upd U5 fun _ _ h=>h) (DVs.two (DV.leaf _ _ _ _ _ _) (DV.leaf _ _ _ _ _ _)) rfl rfl fun i hi=>by have:=N4 i hi; have:=V3.1; exact ⟨by omega,hl15 i (by omega)⟩
 refine (S15.up V5).push hel A5.rd D (fun i hi=>by have:=V5.1; omega) fun v' h6 U6 S6=>?_
 have l6:∀ K:AV→Prop,aB 5 (.p (some ⟨h1.length,5,0⟩)) h6 K=K (.ag (bF 0 6 false (cJ o))):=fun K=>k7 (k:=5) ((R3.upd u5 fun h=>h).upd U6 (hl15 _ U1.1)) rfl (by show 0+5≤5; omega)
 simp only [l6,aR,true_and]
 have S14':=(S14.up V5).upM U6 (fun i hi hs=>by have:=(S15.new i hs).2; omega) fun i hi=>(S15.new i hi).1
 exact hk v' h6 (by have:=V5.1; have:=U6.1; omega) S14' S6
include B E0 in
theorem aK7 (S14:LSt (fun i=>i<n4) hb h x14 ks) (S15:LSt (fun i=>n4≤i) hb h x15 ext) (hn4:n4≤h.length) (hkl:ks.length≤4000) (hel:ext.length≤4000)
  (hz:∀ b,lT c.auth = .ok b→BSz c (ks++eD (ext++b))) (hq:∀ b,lT c.auth = .ok b→Q (mW (aCX c (ks++eD (ext++b)))) h0) (hb':∃ s,eS pK = .ok s):Y8.p2 (aI h0 Q) (.p (some ⟨id0,8,0⟩)) (.p (some ⟨idk,5,0⟩)) x14 x15 h:=by
 have E:=S14.ext
 refine Y8.i2 ?_
 simp only [Y8.t2, ← Y8.p3.eq_1]
 have ld6:∀ K:AV→Prop,aC (.p (some ⟨id0,8,6⟩)) h K=K (.b c.auth):=fun K=>rP (B.r0.upd E.u fun h=>h) rfl rfl
 simp only [dY,Nat.zero_add,ld6,aHZ]
 refine aG (fun ha=>?_) fun ha=>?_
 ·obtain ⟨s, hs⟩ := hb'
  have hbe:lT c.auth = .ok [iM basOid s]:=by rw [ha]; unfold lT; rw [if_pos rfl,hs]
  refine eU ?_
  refine bH (cs:=bF 0 1 false [255]) (len:=1) rfl rfl fun w h1 hl1 U1 A1 N1=>?_
  refine dS A1.low ?_
  have D:DV h1 (fun i=>i<h1.length) pK [.i .i64 0,.i .i64 16,.b true,.s [],w]:=DV.of A1.rd (DVs.one (DV.leaf _ _ _ _ _ _)) rfl rfl fun i hi=>A1.rd.lt hi
  refine sU (by decide) (by decide) D (fun i hi=>hi) ?_
  rw [hs]
  refine bD (aZ (bC (aU ?_)))
  exact aCB aJI (S14.up U1) (S15.up U1) (by have:=U1.1; omega) hel fun v' h2 hn2 S14' S2=>aIE B E0 S14' S2 hn2 hkl (hz _ hbe) (hq _ hbe)
 ·have hbe : lT c.auth = .ok [] := by rw [ha] <;> rfl
  have hz:=hz _ hbe
  have hq:=hq _ hbe
  rw [List.append_nil] at hz hq
  exact aIE B E0 S14 S15 hn4 hkl hz hq
theorem aFR:∃ s,eS pK = .ok s:=by
 have h:(aO1 (eS pK)).isSome=true:=by kernel_rfl
 cases he:eS pK with
 | error e=>rw [he] at h; cases h
 | ok s=>exact ⟨s,rfl⟩
theorem aFK {h0:aA} (hq:Q (mW (tO c ks ext)) h0):∀ b,lT c.auth = .ok b→Q (mW (aCX c (ks++eD (ext++b)))) h0:=by
 intro b hb
 unfold tO at hq
 rw [hb] at hq; exact hq
include B E0 in
theorem aNL (hkl : ks.length ≤ 4000) (hnl : c.names.length ≤ 4000) (hne : c.names ≠ []) (hsz : (rB c.names).sz ≤ 100000) (hds : fN (rB c.names) ≤ 60000) (hz : ∀ a b, nC c.names = .ok a → lT c.auth = .ok b → BSz c (ks ++ eD (a ++ b)))
  (hq:Q (mW (o6 c ks)) h0):∀ (r:List (List UInt8)) (i:Nat) (h:aA) (v:AV),c.names.drop i=r→n4≤h.length→LSt (fun i=>i<n4) hb h x14 ks→LSt (fun i=>n4≤i) hb h v ((c.names.take i).map fun n=>dH 2 2 n) →
   Y8.p1 (aI h0 Q) (.p (some ⟨id0,8,0⟩)) (.p (some ⟨idk,5,0⟩)) x14 (.sl none 0 none) v i h:=by
 intro r
 induction r with
 | nil =>
  intro i h v hr hn4 S14 S16
  have hi:=cA hr
  rw [List.take_of_length_le hi] at S16
  have E:=S14.ext
  refine Y8.i1 ?_
  simp only [Y8.t1, ← Y8.p1.eq_1, ← Y8.p2.eq_1]
  have ld5:∀ K:AV→Prop,aC (.p (some ⟨id0,8,5⟩)) h K=K nv:=fun K=>rP (B.r0.upd E.u fun h=>h) rfl rfl
  simp only [dY,Nat.zero_add,ld5,(B.s.ext E.u).plen]
  refine aK (by simp; omega) ?_
  refine dS S16.low ?_
  have D:DV h (fun i=>i<h.length) (rB c.names) [.i .i64 0,.i .i64 16,.b true,.s [],v]:=(S16.val 0 16 true []).upd (Upd.refl (fun _=>False) h) fun i _ hi=>⟨fun h=>h,hi⟩
  refine sU hsz hds D (fun i hi=>hi) ?_
  have ha:nC c.names=(match eS (rB c.names) with
    | .error e=>.error e
    | .ok s=>.ok [iM altOid s]):=by unfold nC; rw [if_neg hne] <;> rfl
  unfold o6 at hq
  cases he:eS (rB c.names) with
  | error e =>
   rw [he] at ha
   rw [ha] at hq
   exact bD (aZ (bC (aU (aM (by simp [z6 he]) (aV rfl (E0.trans E) hq)))))
  | ok s =>
   rw [he] at ha
   rw [ha] at hq
   refine bD (aZ (bC (aU (aK rfl ?_))))
   exact aCB aIK S14 (LSt.nil E) hn4 (by simp) fun v' h2 hn2 S14' S2=>aK7 B E0 S14' S2 hn2 hkl (by simp) (fun b hb'=>hz _ b ha hb') (aFK hq) aFR
 | cons x r ih =>
  intro i h v hr hn4 S14 S16
  have hlt:=cG hr
  have hx:=b5 hr
  have E:=S14.ext
  refine Y8.i1 ?_
  simp only [Y8.t1, ← Y8.p1.eq_1, ← Y8.p2.eq_1]
  have ld5:∀ K:AV→Prop,aC (.p (some ⟨id0,8,5⟩)) h K=K nv:=fun K=>rP (B.r0.upd E.u fun h=>h) rfl rfl
  simp only [dY,Nat.zero_add,ld5,(B.s.ext E.u).plen]
  refine aM (by simp; omega) (B.s.str E.u hx ?_)
  refine eU ?_
  refine bH (cs:=bF 2 2 false x) (len:=1) rfl rfl fun y h1 hl1 U1 A1 N1=>?_
  refine (S16.up U1).push (by rw [List.length_map,List.length_take]; omega) A1.rd (DV.leaf _ _ 2 2 false x) (fun i hi=>by have:=U1.1; omega) fun v' h2 U2 S2=>?_
  have htk:(c.names.take (i+1)).map (fun n=>dH 2 2 n)=(c.names.take i).map (fun n=>dH 2 2 n)++[dH 2 2 x]:=by rw [cR hx,List.map_append] <;> rfl
  rw [show Der.mk 2 2 false x []=dH 2 2 x from rfl, ← htk] at S2
  have S14':=(S14.up U1).upM U2 (fun i hi hs=>by have:=(S16.new i hs).2; omega) fun i hi=>(S16.new i hi).1
  exact inc (by omega) (ih (i+1) h2 v' (bU hr) (by have:=U1.1; have:=U2.1; omega) S14' S2)
include B E0 in
theorem aOA {f u:Der} (hc:dZ c=0) (O:BOK c f u) (hks:ks=jZ ((cB c.serial).getD []) (bK c.issuer).1 (bK c.subject).1 f u c.key) (S14:LSt (fun i=>i<n4) hb h x14 ks) (hn4:n4≤h.length)
  (hq:Q (mW (o6 c ks)) h0):Y8.p0 (aI h0 Q) (.p (some ⟨id0,8,0⟩)) (.p (some ⟨idk,5,0⟩)) x14 h:=by
 have E:=S14.ext
 have hz:=O.z hc
 rw [← hks] at hz
 have hkl:ks.length≤4000:=by rw [hks]; show 7≤4000; omega
 refine Y8.i0 ?_
 simp only [Y8.t0, ← Y8.p1.eq_1, ← Y8.p2.eq_1]
 have ld5:∀ K:AV→Prop,aC (.p (some ⟨id0,8,5⟩)) h K=K nv:=fun K=>rP (B.r0.upd E.u fun h=>h) rfl rfl
 simp only [dY,Nat.zero_add,ld5,(B.s.ext E.u).plen]
 by_cases hn:c.names=[]
 ·refine aK (by simp [hn]) ?_
  have ha:nC c.names = .ok []:=by unfold nC; rw [if_pos hn]
  unfold o6 at hq
  rw [ha] at hq
  exact aK7 B E0 S14 (LSt.nil E) hn4 hkl (by simp) (fun b hb'=>hz _ b ha hb') (aFK hq) aFR
 ·refine aM (decide_eq_true (by have := List.length_pos_iff.2 hn; omega)) ?_
  exact aNL B E0 hkl O.nl hn O.a O.ad hz hq c.names 0 h _ rfl hn4 S14 (LSt.nil E)
theorem gM {f u:Der} {g1 g2:Int} {s1 s2:List UInt8} {hx h7:aA} {wa wb wc w7:AV} {ri rs cs7:List AV} {Fi Fs:Nat→Prop} (B:aKY hx c nv wk id0 idk) (E0:Ext h0 hx) (hc:dZ c=0) (O:BOK c f u) (f1:f=dH 0 g1 s1) (f2:u=dH 0 g2 s2)
  (Ra:Rd 5 hx wa (bF 0 2 false [2]) 1) (Rb:Rd 5 hx wb (bF 0 g1 false s1++bF 0 g2 false s2) 2) (Rc:Rd 5 hx wc (cQ wk++bF 0 3 false (0 :: c.key)) 2) (Di:DV hx Fi (bK c.issuer).1 ri) (Ds:DV hx Fs (bK c.subject).1 rs)
  (U7:Upd (fun _=>False) hx h7) (A7:Arr 5 h7 w7 cs7 7) (hc7:cs7=[[.i .i64 2,.i .i64 0,.b true,.s [],wa],bF 0 2 false ((cB c.serial).getD []),cQ wk,ri,[.i .i64 0,.i .i64 16,.b true,.s [],wb],rs,[.i .i64 0,.i .i64 16,.b true,.s [],wc]].flatten) (N7:∀ i,bZ w7 i→i=hx.length) (hl7:h7.length=hx.length+1)
  (hq:Q (mW (o6 c (jZ ((cB c.serial).getD []) (bK c.issuer).1 (bK c.subject).1 f u c.key))) h0):Y8.p0 (aI h0 Q) (.p (some ⟨id0,8,0⟩)) (.p (some ⟨idk,5,0⟩)) w7 h7:=by
 have hno:∀ i,i<hx.length→i<h7.length∧¬ bZ w7 i:=fun i hi=>⟨by omega,fun hs=>by have:=N7 i hs; omega⟩
 refine aOA (n4:=h7.length) B E0 hc O rfl ?_ (Nat.le_refl _) hq
 refine ⟨U7.ext,⟨[[.i .i64 2,.i .i64 0,.b true,.s [],wa],bF 0 2 false ((cB c.serial).getD []),cQ wk,ri,[.i .i64 0,.i .i64 16,.b true,.s [],wb],rs,[.i .i64 0,.i .i64 16,.b true,.s [],wc]], ?_, ?_⟩,fun i hi=>⟨by have:=N7 i hi; omega,by have:=N7 i hi; omega⟩⟩
 ·rw [← hc7]; exact A7
 ·refine .cons ?_ (.cons (DV.leaf _ _ _ _ _ _) (.cons ?_ (.cons ?_ (.cons ?_ (.cons ?_ (.cons ?_ .nil))))))
  ·exact DV.of (Ra.upd U7 fun _ _ h=>h) (DVs.one (DV.leaf _ _ _ _ _ _)) rfl rfl fun i hi=>hno i (Ra.lt hi)
  ·exact B.alg U7.ext fun i hi=>hno i (B.ak.lt hi)
  ·exact Di.upd U7 fun i hi hl=>⟨fun h=>h,hno i hl⟩
  ·rw [f1, f2]
   exact DV.of (Rb.upd U7 fun _ _ h=>h) (DVs.two (DV.leaf _ _ _ _ _ _) (DV.leaf _ _ _ _ _ _)) rfl rfl fun i hi=>hno i (Rb.lt hi)
  ·exact Ds.upd U7 fun i hi hl=>⟨fun h=>h,hno i hl⟩
  ·exact DV.of (Rc.upd U7 fun _ _ h=>h) (DVs.two (B.alg U7.ext fun i hi=>hno i (B.ak.lt hi)) (DV.leaf _ _ _ _ _ _)) rfl rfl fun i hi=>hno i (Rc.lt hi)
end
end Go.Proofs.YtcdkpkkdolmfdaaGreatDoor
namespace Go.Proofs.YtcdkpkkdolmfdaaGreatDoor
open Go.GAM Go.RowKit
set_option maxHeartbeats 8000000 in
theorem qA {h : aA} {Q : AV → aA → Prop} {c : dP} {cs : List AV} {f u : Der} (V : CV h c cs) (B : BOK c f u) (hq : Q (mW (iL c f u)) h) : C Y8.id [.ag cs] h Q := by
 obtain ⟨nv,rfl,S⟩:=V
 refine Y8.call ?_
 simp only [Y8.t, ← Y8.p0.eq_1]
 refine kK (n:=8) rfl rfl fun h1 hl1 U1 R1=>?_
 have R1:bE h1 h.length (fT c nv):=R1
 refine bB R1 rfl (aJD ⟨nv,rfl,S.ext U1⟩ B.toCBd (aU ?_))
 by_cases hc:dZ c=0
 rotate_left
 ·refine aM (by simp [hc]) (aV rfl U1.ext ?_)
  unfold iL at hq
  rw [if_pos hc] at hq
  exact hq
 rw [y7 hc] at hq
 obtain ⟨tf,tu'⟩:=B.t hc
 obtain ⟨k1,y1,m1,d1,g1,s1,e1,n1,D1,t1,f1,_⟩:=tf.leaf
 obtain ⟨k2,y2,m2,d2,g2,s2,e2,n2,D2,t2,f2,_⟩:=tu'.leaf
 have hkey:=aAJ hc
 refine aK (by simp [hc]) ?_
 have ld:∀ (h':aA),Upd (fun _=>False) h1 h'→∀ (o:Nat) (x:AV),(fT c nv)[o]? = some x→∀ K:AV→Prop,aC (.p (some ⟨h.length,8,o⟩)) h' K=K x:=fun h' U o x hx K=>rP (R1.upd U fun h=>h) rfl hx
 have v1:=Upd.refl (fun _=>False) h1
 refine aP (aO (R1.upd v1 fun h=>h) rfl rfl (aZ ?_))
 refine yK ?_
 rw [aFE hc]
 refine bD (aZ (bC (aX ?_)))
 refine aP (aO (R1.upd v1 fun h=>h) rfl rfl (aZ ?_))
 refine oU fun h8 ri U8 Di8=>?_
 refine bD (bC (aU (cD (n:=5) rfl fun h9 hl9 U9 R9=>bA R9 rfl Di8.len Di8.cells' fun h10 hl10 U10 R10=>?_)))
 have U810:Upd (fun _=>False) h8 h10:=U9.own U10 (Nat.le_refl _)
 have V10:Upd (fun _=>False) h1 h10:=U8.then U810
 refine aP (aO (R1.upd V10 fun h=>h) rfl rfl (aZ ?_))
 refine oU fun h11 rs U11 Ds11=>?_
 refine bD (bC (aU (cD (n:=5) rfl fun h12 hl12 U12 R12=>bA R12 rfl Ds11.len Ds11.cells' fun hA hlA UA RA=>?_)))
 have U11A:Upd (fun _=>False) h11 hA:=U12.own UA (Nat.le_refl _)
 have VA:Upd (fun _=>False) h1 hA:=V10.then (U11.then U11A)
 refine uS fun hB UB=>?_
 rw [show ([49,46,50,46,56,52,48,46,49,48,48,52,53,46,52,46,51,46,50]:List UInt8)=kO from rfl,aIR]
 refine bD (bC (aU (cD (n:=5) rfl fun hC hlC UC RC'=>bA RC' rfl rfl rfl fun hD hlD UD RD=>bB RD rfl ?_)))
 have UBD:Upd (fun _=>False) hB hD:=UC.own UD (Nat.le_refl _)
 refine bH (cs:=bF 0 6 false (cJ kO)) (len:=1) rfl rfl fun wk hE hlE UE AE NE=>?_
 refine dS AE.low ?_
 obtain ⟨xk,nk,kk,hwk,_⟩:=AE.low
 refine cD (n:=5) rfl fun hF hlF UF RF=>bA (ws:=cQ wk) RF rfl rfl (by unfold cQ; rw [hwk] <;> rfl) fun h13 hl13 UG RG=>?_
 have UE13:Upd (fun _=>False) hE h13:=UF.own UG (Nat.le_refl _)
 have UA13:Upd (fun _=>False) hA h13:=UB.then (UBD.then (UE.then UE13))
 have V13:Upd (fun _=>False) h1 h13:=VA.then UA13
 have U1013:Upd (fun _=>False) h10 h13:=(U11.then U11A).then UA13
 have l7:∀ h',Upd (fun _=>False) h13 h'→∀ K:AV→Prop,aC (.p (some ⟨h.length,8,7⟩)) h' K=K (.s c.key):=fun h' U=>ld h' (V13.then U) 7 _ rfl
 have l4:∀ h',Upd (fun _=>False) h13 h'→∀ K:AV→Prop,aC (.p (some ⟨h.length,8,4⟩)) h' K=K (.i .i64 c.til):=fun h' U=>ld h' (V13.then U) 4 _ rfl
 have l3:∀ h',Upd (fun _=>False) h13 h'→∀ K:AV→Prop,aC (.p (some ⟨h.length,8,3⟩)) h' K=K (.i .i64 c.frm):=fun h' U=>ld h' (V13.then U) 3 _ rfl
 have lk:∀ h',Upd (fun _=>False) h13 h'→∀ K:AV→Prop,aB 5 (.p (some ⟨hE.length,5,0⟩)) h' K=K (.ag (cQ wk)):=fun h' U K=>k7 (k:=5) (RG.upd U fun h=>h) rfl (by show 0+5≤5; omega)
 have li:∀ h',Upd (fun _=>False) h13 h'→∀ K:AV→Prop,aB 5 (.p (some ⟨h8.length,5,0⟩)) h' K=K (.ag ri):=fun h' U K=>by
  have:=k7 (k:=5) (o:=0) (n:=5) (K:=K) ((R10.upd U1013 fun h=>h).upd U fun h=>h) Di8.len.symm (by rw [Di8.len]; omega)
  rw [this,List.drop_zero,List.take_of_length_le (by rw [Di8.len]; omega)]
 have ls:∀ h',Upd (fun _=>False) h13 h'→∀ K:AV→Prop,aB 5 (.p (some ⟨h11.length,5,0⟩)) h' K=K (.ag rs):=fun h' U K=>by
  have:=k7 (k:=5) (o:=0) (n:=5) (K:=K) ((RA.upd UA13 fun h=>h).upd U fun h=>h) Ds11.len.symm (by rw [Ds11.len]; omega)
  rw [this,List.drop_zero,List.take_of_length_le (by rw [Ds11.len]; omega)]
 have u13:=Upd.refl (fun _=>False) h13
 have Di:=Di8.ext (U810.then U1013)
 have Ds:=Ds11.ext (U11A.then UA13)
 have RC:∀ h',Upd (fun _=>False) h13 h'→aKY h' c nv wk h.length hE.length:=fun h' U=>⟨R1.upd (V13.then U) fun h=>h,RG.upd U fun h=>h,(AE.rd.upd UE13 fun _ _ h=>h).upd U fun _ _ h=>h,S.ext (U1.then (V13.then U))⟩
 have E0:Ext h h13:=(U1.then V13).ext
 have tmf:∀ {K:AV→aA→Prop} {hx:aA},K (.ag (bF 0 g1 false s1)) hx→C Y9.id [.i .i64 c.frm] hx K:=fun hk=>by rw [e1]; exact y5 n1 D1 (by rw [t1]; exact hk)
 have tmu:∀ {K:AV→aA→Prop} {hx:aA},K (.ag (bF 0 g2 false s2)) hx→C Y9.id [.i .i64 c.til] hx K:=fun hk=>by rw [e2]; exact y5 n2 D2 (by rw [t2]; exact hk)
 simp (maxSteps:=4000000) only [dY,Nat.zero_add,l7 _ u13,l4 _ u13,l3 _ u13,lk _ u13,li _ u13,ls _ u13,bL,bY]
 refine ⟨by simp <;> omega, ?_⟩
 refine aH0 ?_
 rw [show rX 2=bF 0 2 false [2] by kernel_rfl]
 simp (maxSteps:=4000000) only [l7 _ u13,l4 _ u13,l3 _ u13,lk _ u13,li _ u13,ls _ u13,bL,bY,aR,true_and]
 refine ⟨?_, ?_⟩
 ·have hf1 := bS 5 [bF 0 2 false [2]] [] (z5) (by
   intro r hr
   simp only [List.mem_cons,List.not_mem_nil,or_false] at hr
   rcases hr with rfl <;> first | rfl | exact Di.len | exact Ds.len) rfl
  refine bH (len:=1) hf1 (by simp [Di.len,Ds.len,bF,cQ]) fun w1 h_1 hl1 U1 A1 N1=>?_
  have u1:=(u13).then U1
  obtain ⟨x1,n1,k1,e1,_⟩:=A1.low
  simp (maxSteps:=4000000) only [l7 _ u1,l4 _ u1,l3 _ u1,lk _ u1,li _ u1,ls _ u1,bL,bY,aR,true_and]
  refine lE (cs:=[.i .i64 2,.i .i64 0,.b true,.s [],w1]) (by rw [e1] <;> rfl) ?_
  refine eU ?_
  simp (maxSteps:=4000000) only [l7 _ u1,l4 _ u1,l3 _ u1,lk _ u1,li _ u1,ls _ u1,bL,bY,aR,true_and]
  refine tmf ?_
  simp (maxSteps:=4000000) only [l7 _ u1,l4 _ u1,l3 _ u1,lk _ u1,li _ u1,ls _ u1,bL,bY,aR,true_and]
  refine tmu ?_
  simp (maxSteps:=4000000) only [l7 _ u1,l4 _ u1,l3 _ u1,lk _ u1,li _ u1,ls _ u1,bL,bY,aR,true_and]
  have hf2:=bS 5 [bF 0 g1 false s1,bF 0 g2 false s2] [] (z5++(z5)) (by
   intro r hr
   simp only [List.mem_cons,List.not_mem_nil,or_false] at hr
   rcases hr with rfl | rfl <;> first | rfl | exact Di.len | exact Ds.len) rfl
  refine bH (len:=2) hf2 (by simp [Di.len,Ds.len,bF,cQ]) fun w2 h_2 hl2 U2 A2 N2=>?_
  have u2:=(u1).then U2
  simp (maxSteps:=4000000) only [l7 _ u2,l4 _ u2,l3 _ u2,lk _ u2,li _ u2,ls _ u2,bL,bY,aR,true_and]
  refine dS A2.low ?_
  simp (maxSteps:=4000000) only [l7 _ u2,l4 _ u2,l3 _ u2,lk _ u2,li _ u2,ls _ u2,bL,bY,aR,true_and]
  refine eU ?_
  simp (maxSteps:=4000000) only [l7 _ u2,l4 _ u2,l3 _ u2,lk _ u2,li _ u2,ls _ u2,bL,bY,aR,true_and]
  have hf3:=bS 5 [cQ wk,bF 0 3 false (0 :: c.key)] [] (z5++(z5)) (by
   intro r hr
   simp only [List.mem_cons,List.not_mem_nil,or_false] at hr
   rcases hr with rfl | rfl <;> first | rfl | exact Di.len | exact Ds.len) rfl
  refine bH (len:=2) hf3 (by simp [Di.len,Ds.len,bF,cQ]) fun w3 h_3 hl3 U3 A3 N3=>?_
  have u3:=(u2).then U3
  simp (maxSteps:=4000000) only [l7 _ u3,l4 _ u3,l3 _ u3,lk _ u3,li _ u3,ls _ u3,bL,bY,aR,true_and]
  refine dS A3.low ?_
  simp (maxSteps:=4000000) only [l7 _ u3,l4 _ u3,l3 _ u3,lk _ u3,li _ u3,ls _ u3,bL,bY,aR,true_and]
  have hf4:=bS 5 [[.i .i64 2,.i .i64 0,.b true,.s [],w1],bF 0 2 false ((cB c.serial).getD []),cQ wk,ri,[.i .i64 0,.i .i64 16,.b true,.s [],w2],rs,[.i .i64 0,.i .i64 16,.b true,.s [],w3]] [] (z5++(z5++(z5++(z5++(z5++(z5++(z5))))))) (by
   intro r hr
   simp only [List.mem_cons,List.not_mem_nil,or_false] at hr
   rcases hr with rfl | rfl | rfl | rfl | rfl | rfl | rfl <;> first | rfl | exact Di.len | exact Ds.len) rfl
  refine bH (len:=7) hf4 (by simp [Di.len,Ds.len,bF,cQ]) fun w4 h_4 hl4 U4 A4 N4=>?_
  have u4:=(u3).then U4
  simp (maxSteps:=4000000) only [l7 _ u4,l4 _ u4,l3 _ u4,lk _ u4,li _ u4,ls _ u4,bL,bY,aR,true_and]
  exact gM (RC _ u3) (E0.trans (u3).ext) hc B f1 f2 (A1.rd.upd (U2.then U3) fun _ _ h=>h) (A2.rd.upd U3 fun _ _ h=>h) (A3.rd) (Di.ext u3) (Ds.ext u3) U4 A4 rfl N4 hl4 hq
 ·refine eU ?_
  simp (maxSteps:=4000000) only [l7 _ u13,l4 _ u13,l3 _ u13,lk _ u13,li _ u13,ls _ u13,bL,bY,aR,true_and]
  refine ⟨?_, ?_⟩
  ·have hf5 := bS 5 [bF 0 2 false [2]] [] (z5) (by
    intro r hr
    simp only [List.mem_cons,List.not_mem_nil,or_false] at hr
    rcases hr with rfl <;> first | rfl | exact Di.len | exact Ds.len) rfl
   refine bH (len:=1) hf5 (by simp [Di.len,Ds.len,bF,cQ]) fun w5 h_5 hl5 U5 A5 N5=>?_
   have u5:=(u13).then U5
   obtain ⟨x5,n5,k5,e5,_⟩:=A5.low
   simp (maxSteps:=4000000) only [l7 _ u5,l4 _ u5,l3 _ u5,lk _ u5,li _ u5,ls _ u5,bL,bY,aR,true_and]
   refine lE (cs:=[.i .i64 2,.i .i64 0,.b true,.s [],w5]) (by rw [e5] <;> rfl) ?_
   refine tmf ?_
   simp (maxSteps:=4000000) only [l7 _ u5,l4 _ u5,l3 _ u5,lk _ u5,li _ u5,ls _ u5,bL,bY,aR,true_and]
   refine tmu ?_
   simp (maxSteps:=4000000) only [l7 _ u5,l4 _ u5,l3 _ u5,lk _ u5,li _ u5,ls _ u5,bL,bY,aR,true_and]
   have hf6:=bS 5 [bF 0 g1 false s1,bF 0 g2 false s2] [] (z5++(z5)) (by
    intro r hr
    simp only [List.mem_cons,List.not_mem_nil,or_false] at hr
    rcases hr with rfl | rfl <;> first | rfl | exact Di.len | exact Ds.len) rfl
   refine bH (len:=2) hf6 (by simp [Di.len,Ds.len,bF,cQ]) fun w6 h_6 hl6 U6 A6 N6=>?_
   have u6:=(u5).then U6
   simp (maxSteps:=4000000) only [l7 _ u6,l4 _ u6,l3 _ u6,lk _ u6,li _ u6,ls _ u6,bL,bY,aR,true_and]
   refine dS A6.low ?_
   simp (maxSteps:=4000000) only [l7 _ u6,l4 _ u6,l3 _ u6,lk _ u6,li _ u6,ls _ u6,bL,bY,aR,true_and]
   refine eU ?_
   simp (maxSteps:=4000000) only [l7 _ u6,l4 _ u6,l3 _ u6,lk _ u6,li _ u6,ls _ u6,bL,bY,aR,true_and]
   have hf7:=bS 5 [cQ wk,bF 0 3 false (0 :: c.key)] [] (z5++(z5)) (by
    intro r hr
    simp only [List.mem_cons,List.not_mem_nil,or_false] at hr
    rcases hr with rfl | rfl <;> first | rfl | exact Di.len | exact Ds.len) rfl
   refine bH (len:=2) hf7 (by simp [Di.len,Ds.len,bF,cQ]) fun w7 h_7 hl7 U7 A7 N7=>?_
   have u7:=(u6).then U7
   simp (maxSteps:=4000000) only [l7 _ u7,l4 _ u7,l3 _ u7,lk _ u7,li _ u7,ls _ u7,bL,bY,aR,true_and]
   refine dS A7.low ?_
   simp (maxSteps:=4000000) only [l7 _ u7,l4 _ u7,l3 _ u7,lk _ u7,li _ u7,ls _ u7,bL,bY,aR,true_and]
   have hf8:=bS 5 [[.i .i64 2,.i .i64 0,.b true,.s [],w5],bF 0 2 false ((cB c.serial).getD []),cQ wk,ri,[.i .i64 0,.i .i64 16,.b true,.s [],w6],rs,[.i .i64 0,.i .i64 16,.b true,.s [],w7]] [] (z5++(z5++(z5++(z5++(z5++(z5++(z5))))))) (by
    intro r hr
    simp only [List.mem_cons,List.not_mem_nil,or_false] at hr
    rcases hr with rfl | rfl | rfl | rfl | rfl | rfl | rfl <;> first | rfl | exact Di.len | exact Ds.len) rfl
   refine bH (len:=7) hf8 (by simp [Di.len,Ds.len,bF,cQ]) fun w8 h_8 hl8 U8 A8 N8=>?_
   have u8:=(u7).then U8
   simp (maxSteps:=4000000) only [l7 _ u8,l4 _ u8,l3 _ u8,lk _ u8,li _ u8,ls _ u8,bL,bY,aR,true_and]
   exact gM (RC _ u7) (E0.trans (u7).ext) hc B f1 f2 (A5.rd.upd (U6.then U7) fun _ _ h=>h) (A6.rd.upd U7 fun _ _ h=>h) (A7.rd) (Di.ext u7) (Ds.ext u7) U8 A8 rfl N8 hl8 hq
  ·refine tmf ?_
   simp (maxSteps:=4000000) only [l7 _ u13,l4 _ u13,l3 _ u13,lk _ u13,li _ u13,ls _ u13,bL,bY,aR,true_and]
   refine ⟨?_, ?_⟩
   ·have hf9 := bS 5 [bF 0 2 false [2]] [] (z5) (by
     intro r hr
     simp only [List.mem_cons,List.not_mem_nil,or_false] at hr
     rcases hr with rfl <;> first | rfl | exact Di.len | exact Ds.len) rfl
    refine bH (len:=1) hf9 (by simp [Di.len,Ds.len,bF,cQ]) fun w9 h_9 hl9 U9 A9 N9=>?_
    have u9:=(u13).then U9
    obtain ⟨x9,n9,k9,e9,_⟩:=A9.low
    simp (maxSteps:=4000000) only [l7 _ u9,l4 _ u9,l3 _ u9,lk _ u9,li _ u9,ls _ u9,bL,bY,aR,true_and]
    refine lE (cs:=[.i .i64 2,.i .i64 0,.b true,.s [],w9]) (by rw [e9] <;> rfl) ?_
    refine tmu ?_
    simp (maxSteps:=4000000) only [l7 _ u9,l4 _ u9,l3 _ u9,lk _ u9,li _ u9,ls _ u9,bL,bY,aR,true_and]
    have hf10:=bS 5 [bF 0 g1 false s1,bF 0 g2 false s2] [] (z5++(z5)) (by
     intro r hr
     simp only [List.mem_cons,List.not_mem_nil,or_false] at hr
     rcases hr with rfl | rfl <;> first | rfl | exact Di.len | exact Ds.len) rfl
    refine bH (len:=2) hf10 (by simp [Di.len,Ds.len,bF,cQ]) fun w10 h_10 hl10 U10 A10 N10=>?_
    have u10:=(u9).then U10
    simp (maxSteps:=4000000) only [l7 _ u10,l4 _ u10,l3 _ u10,lk _ u10,li _ u10,ls _ u10,bL,bY,aR,true_and]
    refine dS A10.low ?_
    simp (maxSteps:=4000000) only [l7 _ u10,l4 _ u10,l3 _ u10,lk _ u10,li _ u10,ls _ u10,bL,bY,aR,true_and]
    refine eU ?_
    simp (maxSteps:=4000000) only [l7 _ u10,l4 _ u10,l3 _ u10,lk _ u10,li _ u10,ls _ u10,bL,bY,aR,true_and]
    have hf11:=bS 5 [cQ wk,bF 0 3 false (0 :: c.key)] [] (z5++(z5)) (by
     intro r hr
     simp only [List.mem_cons,List.not_mem_nil,or_false] at hr
     rcases hr with rfl | rfl <;> first | rfl | exact Di.len | exact Ds.len) rfl
    refine bH (len:=2) hf11 (by simp [Di.len,Ds.len,bF,cQ]) fun w11 h_11 hl11 U11 A11 N11=>?_
    have u11:=(u10).then U11
    simp (maxSteps:=4000000) only [l7 _ u11,l4 _ u11,l3 _ u11,lk _ u11,li _ u11,ls _ u11,bL,bY,aR,true_and]
    refine dS A11.low ?_
    simp (maxSteps:=4000000) only [l7 _ u11,l4 _ u11,l3 _ u11,lk _ u11,li _ u11,ls _ u11,bL,bY,aR,true_and]
    have hf12:=bS 5 [[.i .i64 2,.i .i64 0,.b true,.s [],w9],bF 0 2 false ((cB c.serial).getD []),cQ wk,ri,[.i .i64 0,.i .i64 16,.b true,.s [],w10],rs,[.i .i64 0,.i .i64 16,.b true,.s [],w11]] [] (z5++(z5++(z5++(z5++(z5++(z5++(z5))))))) (by
     intro r hr
     simp only [List.mem_cons,List.not_mem_nil,or_false] at hr
     rcases hr with rfl | rfl | rfl | rfl | rfl | rfl | rfl <;> first | rfl | exact Di.len | exact Ds.len) rfl
    refine bH (len:=7) hf12 (by simp [Di.len,Ds.len,bF,cQ]) fun w12 h_12 hl12 U12 A12 N12=>?_
    have u12:=(u11).then U12
    simp (maxSteps:=4000000) only [l7 _ u12,l4 _ u12,l3 _ u12,lk _ u12,li _ u12,ls _ u12,bL,bY,aR,true_and]
    exact gM (RC _ u11) (E0.trans (u11).ext) hc B f1 f2 (A9.rd.upd (U10.then U11) fun _ _ h=>h) (A10.rd.upd U11 fun _ _ h=>h) (A11.rd) (Di.ext u11) (Ds.ext u11) U12 A12 rfl N12 hl12 hq
   ·refine tmu ?_
    simp (maxSteps:=4000000) only [l7 _ u13,l4 _ u13,l3 _ u13,lk _ u13,li _ u13,ls _ u13,bL,bY,aR,true_and]
    refine ⟨?_, ?_⟩
    ·have hf13 := bS 5 [bF 0 2 false [2]] [] (z5) (by
      intro r hr
      simp only [List.mem_cons,List.not_mem_nil,or_false] at hr
      rcases hr with rfl <;> first | rfl | exact Di.len | exact Ds.len) rfl
     refine bH (len:=1) hf13 (by simp [Di.len,Ds.len,bF,cQ]) fun w13 h_13 hl13 U13 A13 N13=>?_
     have u13:=(u13).then U13
     obtain ⟨x13,n13,k13,e13,_⟩:=A13.low
     simp (maxSteps:=4000000) only [l7 _ u13,l4 _ u13,l3 _ u13,lk _ u13,li _ u13,ls _ u13,bL,bY,aR,true_and]
     refine lE (cs:=[.i .i64 2,.i .i64 0,.b true,.s [],w13]) (by rw [e13] <;> rfl) ?_
     have hf14:=bS 5 [bF 0 g1 false s1,bF 0 g2 false s2] [] (z5++(z5)) (by
      intro r hr
      simp only [List.mem_cons,List.not_mem_nil,or_false] at hr
      rcases hr with rfl | rfl <;> first | rfl | exact Di.len | exact Ds.len) rfl
     refine bH (len:=2) hf14 (by simp [Di.len,Ds.len,bF,cQ]) fun w14 h_14 hl14 U14 A14 N14=>?_
     have u14:=(u13).then U14
     simp (maxSteps:=4000000) only [l7 _ u14,l4 _ u14,l3 _ u14,lk _ u14,li _ u14,ls _ u14,bL,bY,aR,true_and]
     refine dS A14.low ?_
     simp (maxSteps:=4000000) only [l7 _ u14,l4 _ u14,l3 _ u14,lk _ u14,li _ u14,ls _ u14,bL,bY,aR,true_and]
     refine eU ?_
     simp (maxSteps:=4000000) only [l7 _ u14,l4 _ u14,l3 _ u14,lk _ u14,li _ u14,ls _ u14,bL,bY,aR,true_and]
     have hf15:=bS 5 [cQ wk,bF 0 3 false (0 :: c.key)] [] (z5++(z5)) (by
      intro r hr
      simp only [List.mem_cons,List.not_mem_nil,or_false] at hr
      rcases hr with rfl | rfl <;> first | rfl | exact Di.len | exact Ds.len) rfl
     refine bH (len:=2) hf15 (by simp [Di.len,Ds.len,bF,cQ]) fun w15 h_15 hl15 U15 A15 N15=>?_
     have u15:=(u14).then U15
     simp (maxSteps:=4000000) only [l7 _ u15,l4 _ u15,l3 _ u15,lk _ u15,li _ u15,ls _ u15,bL,bY,aR,true_and]
     refine dS A15.low ?_
     simp (maxSteps:=4000000) only [l7 _ u15,l4 _ u15,l3 _ u15,lk _ u15,li _ u15,ls _ u15,bL,bY,aR,true_and]
     have hf16:=bS 5 [[.i .i64 2,.i .i64 0,.b true,.s [],w13],bF 0 2 false ((cB c.serial).getD []),cQ wk,ri,[.i .i64 0,.i .i64 16,.b true,.s [],w14],rs,[.i .i64 0,.i .i64 16,.b true,.s [],w15]] [] (z5++(z5++(z5++(z5++(z5++(z5++(z5))))))) (by
      intro r hr
      simp only [List.mem_cons,List.not_mem_nil,or_false] at hr
      rcases hr with rfl | rfl | rfl | rfl | rfl | rfl | rfl <;> first | rfl | exact Di.len | exact Ds.len) rfl
     refine bH (len:=7) hf16 (by simp [Di.len,Ds.len,bF,cQ]) fun w16 h_16 hl16 U16 A16 N16=>?_
     have u16:=(u15).then U16
     simp (maxSteps:=4000000) only [l7 _ u16,l4 _ u16,l3 _ u16,lk _ u16,li _ u16,ls _ u16,bL,bY,aR,true_and]
     exact gM (RC _ u15) (E0.trans (u15).ext) hc B f1 f2 (A13.rd.upd (U14.then U15) fun _ _ h=>h) (A14.rd.upd U15 fun _ _ h=>h) (A15.rd) (Di.ext u15) (Ds.ext u15) U16 A16 rfl N16 hl16 hq
    ·have hf17 := bS 5 [bF 0 g1 false s1, bF 0 g2 false s2] [] (z5 ++ (z5)) (by
      intro r hr
      simp only [List.mem_cons,List.not_mem_nil,or_false] at hr
      rcases hr with rfl | rfl <;> first | rfl | exact Di.len | exact Ds.len) rfl
     refine bH (len:=2) hf17 (by simp [Di.len,Ds.len,bF,cQ]) fun w17 h_17 hl17 U17 A17 N17=>?_
     have u17:=(u13).then U17
     simp (maxSteps:=4000000) only [l7 _ u17,l4 _ u17,l3 _ u17,lk _ u17,li _ u17,ls _ u17,bL,bY,aR,true_and]
     refine ⟨?_, ?_⟩
     ·have hf18 := bS 5 [bF 0 2 false [2]] [] (z5) (by
       intro r hr
       simp only [List.mem_cons,List.not_mem_nil,or_false] at hr
       rcases hr with rfl <;> first | rfl | exact Di.len | exact Ds.len) rfl
      refine bH (len:=1) hf18 (by simp [Di.len,Ds.len,bF,cQ]) fun w18 h_18 hl18 U18 A18 N18=>?_
      have u18:=(u17).then U18
      obtain ⟨x18,n18,k18,e18,_⟩:=A18.low
      simp (maxSteps:=4000000) only [l7 _ u18,l4 _ u18,l3 _ u18,lk _ u18,li _ u18,ls _ u18,bL,bY,aR,true_and]
      refine lE (cs:=[.i .i64 2,.i .i64 0,.b true,.s [],w18]) (by rw [e18] <;> rfl) ?_
      refine dS (A17.rd.upd U18 fun _ _ h=>h).low ?_
      simp (maxSteps:=4000000) only [l7 _ u18,l4 _ u18,l3 _ u18,lk _ u18,li _ u18,ls _ u18,bL,bY,aR,true_and]
      refine eU ?_
      simp (maxSteps:=4000000) only [l7 _ u18,l4 _ u18,l3 _ u18,lk _ u18,li _ u18,ls _ u18,bL,bY,aR,true_and]
      have hf19:=bS 5 [cQ wk,bF 0 3 false (0 :: c.key)] [] (z5++(z5)) (by
       intro r hr
       simp only [List.mem_cons,List.not_mem_nil,or_false] at hr
       rcases hr with rfl | rfl <;> first | rfl | exact Di.len | exact Ds.len) rfl
      refine bH (len:=2) hf19 (by simp [Di.len,Ds.len,bF,cQ]) fun w19 h_19 hl19 U19 A19 N19=>?_
      have u19:=(u18).then U19
      simp (maxSteps:=4000000) only [l7 _ u19,l4 _ u19,l3 _ u19,lk _ u19,li _ u19,ls _ u19,bL,bY,aR,true_and]
      refine dS A19.low ?_
      simp (maxSteps:=4000000) only [l7 _ u19,l4 _ u19,l3 _ u19,lk _ u19,li _ u19,ls _ u19,bL,bY,aR,true_and]
      have hf20:=bS 5 [[.i .i64 2,.i .i64 0,.b true,.s [],w18],bF 0 2 false ((cB c.serial).getD []),cQ wk,ri,[.i .i64 0,.i .i64 16,.b true,.s [],w17],rs,[.i .i64 0,.i .i64 16,.b true,.s [],w19]] [] (z5++(z5++(z5++(z5++(z5++(z5++(z5))))))) (by
       intro r hr
       simp only [List.mem_cons,List.not_mem_nil,or_false] at hr
       rcases hr with rfl | rfl | rfl | rfl | rfl | rfl | rfl <;> first | rfl | exact Di.len | exact Ds.len) rfl
      refine bH (len:=7) hf20 (by simp [Di.len,Ds.len,bF,cQ]) fun w20 h_20 hl20 U20 A20 N20=>?_
      have u20:=(u19).then U20
      simp (maxSteps:=4000000) only [l7 _ u20,l4 _ u20,l3 _ u20,lk _ u20,li _ u20,ls _ u20,bL,bY,aR,true_and]
      exact gM (RC _ u19) (E0.trans (u19).ext) hc B f1 f2 (A18.rd.upd U19 fun _ _ h=>h) (A17.rd.upd (U18.then U19) fun _ _ h=>h) (A19.rd) (Di.ext u19) (Ds.ext u19) U20 A20 rfl N20 hl20 hq
     ·refine dS A17.low ?_
      simp (maxSteps:=4000000) only [l7 _ u17,l4 _ u17,l3 _ u17,lk _ u17,li _ u17,ls _ u17,bL,bY,aR,true_and]
      refine ⟨?_, ?_⟩
      ·have hf21 := bS 5 [bF 0 2 false [2]] [] (z5) (by
        intro r hr
        simp only [List.mem_cons,List.not_mem_nil,or_false] at hr
        rcases hr with rfl <;> first | rfl | exact Di.len | exact Ds.len) rfl
       refine bH (len:=1) hf21 (by simp [Di.len,Ds.len,bF,cQ]) fun w21 h_21 hl21 U21 A21 N21=>?_
       have u21:=(u17).then U21
       obtain ⟨x21,n21,k21,e21,_⟩:=A21.low
       simp (maxSteps:=4000000) only [l7 _ u21,l4 _ u21,l3 _ u21,lk _ u21,li _ u21,ls _ u21,bL,bY,aR,true_and]
       refine lE (cs:=[.i .i64 2,.i .i64 0,.b true,.s [],w21]) (by rw [e21] <;> rfl) ?_
       refine eU ?_
       simp (maxSteps:=4000000) only [l7 _ u21,l4 _ u21,l3 _ u21,lk _ u21,li _ u21,ls _ u21,bL,bY,aR,true_and]
       have hf22:=bS 5 [cQ wk,bF 0 3 false (0 :: c.key)] [] (z5++(z5)) (by
        intro r hr
        simp only [List.mem_cons,List.not_mem_nil,or_false] at hr
        rcases hr with rfl | rfl <;> first | rfl | exact Di.len | exact Ds.len) rfl
       refine bH (len:=2) hf22 (by simp [Di.len,Ds.len,bF,cQ]) fun w22 h_22 hl22 U22 A22 N22=>?_
       have u22:=(u21).then U22
       simp (maxSteps:=4000000) only [l7 _ u22,l4 _ u22,l3 _ u22,lk _ u22,li _ u22,ls _ u22,bL,bY,aR,true_and]
       refine dS A22.low ?_
       simp (maxSteps:=4000000) only [l7 _ u22,l4 _ u22,l3 _ u22,lk _ u22,li _ u22,ls _ u22,bL,bY,aR,true_and]
       have hf23:=bS 5 [[.i .i64 2,.i .i64 0,.b true,.s [],w21],bF 0 2 false ((cB c.serial).getD []),cQ wk,ri,[.i .i64 0,.i .i64 16,.b true,.s [],w17],rs,[.i .i64 0,.i .i64 16,.b true,.s [],w22]] [] (z5++(z5++(z5++(z5++(z5++(z5++(z5))))))) (by
        intro r hr
        simp only [List.mem_cons,List.not_mem_nil,or_false] at hr
        rcases hr with rfl | rfl | rfl | rfl | rfl | rfl | rfl <;> first | rfl | exact Di.len | exact Ds.len) rfl
       refine bH (len:=7) hf23 (by simp [Di.len,Ds.len,bF,cQ]) fun w23 h_23 hl23 U23 A23 N23=>?_
       have u23:=(u22).then U23
       simp (maxSteps:=4000000) only [l7 _ u23,l4 _ u23,l3 _ u23,lk _ u23,li _ u23,ls _ u23,bL,bY,aR,true_and]
       exact gM (RC _ u22) (E0.trans (u22).ext) hc B f1 f2 (A21.rd.upd U22 fun _ _ h=>h) (A17.rd.upd (U21.then U22) fun _ _ h=>h) (A22.rd) (Di.ext u22) (Ds.ext u22) U23 A23 rfl N23 hl23 hq
      ·refine eU ?_
       simp (maxSteps:=4000000) only [l7 _ u17,l4 _ u17,l3 _ u17,lk _ u17,li _ u17,ls _ u17,bL,bY,aR,true_and]
       refine ⟨?_, ?_⟩
       ·have hf24 := bS 5 [bF 0 2 false [2]] [] (z5) (by
         intro r hr
         simp only [List.mem_cons,List.not_mem_nil,or_false] at hr
         rcases hr with rfl <;> first | rfl | exact Di.len | exact Ds.len) rfl
        refine bH (len:=1) hf24 (by simp [Di.len,Ds.len,bF,cQ]) fun w24 h_24 hl24 U24 A24 N24=>?_
        have u24:=(u17).then U24
        obtain ⟨x24,n24,k24,e24,_⟩:=A24.low
        simp (maxSteps:=4000000) only [l7 _ u24,l4 _ u24,l3 _ u24,lk _ u24,li _ u24,ls _ u24,bL,bY,aR,true_and]
        refine lE (cs:=[.i .i64 2,.i .i64 0,.b true,.s [],w24]) (by rw [e24] <;> rfl) ?_
        have hf25:=bS 5 [cQ wk,bF 0 3 false (0 :: c.key)] [] (z5++(z5)) (by
         intro r hr
         simp only [List.mem_cons,List.not_mem_nil,or_false] at hr
         rcases hr with rfl | rfl <;> first | rfl | exact Di.len | exact Ds.len) rfl
        refine bH (len:=2) hf25 (by simp [Di.len,Ds.len,bF,cQ]) fun w25 h_25 hl25 U25 A25 N25=>?_
        have u25:=(u24).then U25
        simp (maxSteps:=4000000) only [l7 _ u25,l4 _ u25,l3 _ u25,lk _ u25,li _ u25,ls _ u25,bL,bY,aR,true_and]
        refine dS A25.low ?_
        simp (maxSteps:=4000000) only [l7 _ u25,l4 _ u25,l3 _ u25,lk _ u25,li _ u25,ls _ u25,bL,bY,aR,true_and]
        have hf26:=bS 5 [[.i .i64 2,.i .i64 0,.b true,.s [],w24],bF 0 2 false ((cB c.serial).getD []),cQ wk,ri,[.i .i64 0,.i .i64 16,.b true,.s [],w17],rs,[.i .i64 0,.i .i64 16,.b true,.s [],w25]] [] (z5++(z5++(z5++(z5++(z5++(z5++(z5))))))) (by
         intro r hr
         simp only [List.mem_cons,List.not_mem_nil,or_false] at hr
         rcases hr with rfl | rfl | rfl | rfl | rfl | rfl | rfl <;> first | rfl | exact Di.len | exact Ds.len) rfl
        refine bH (len:=7) hf26 (by simp [Di.len,Ds.len,bF,cQ]) fun w26 h_26 hl26 U26 A26 N26=>?_
        have u26:=(u25).then U26
        simp (maxSteps:=4000000) only [l7 _ u26,l4 _ u26,l3 _ u26,lk _ u26,li _ u26,ls _ u26,bL,bY,aR,true_and]
        exact gM (RC _ u25) (E0.trans (u25).ext) hc B f1 f2 (A24.rd.upd U25 fun _ _ h=>h) (A17.rd.upd (U24.then U25) fun _ _ h=>h) (A25.rd) (Di.ext u25) (Ds.ext u25) U26 A26 rfl N26 hl26 hq
       ·have hf27 := bS 5 [cQ wk, bF 0 3 false (0 :: c.key)] [] (z5 ++ (z5)) (by
         intro r hr
         simp only [List.mem_cons,List.not_mem_nil,or_false] at hr
         rcases hr with rfl | rfl <;> first | rfl | exact Di.len | exact Ds.len) rfl
        refine bH (len:=2) hf27 (by simp [Di.len,Ds.len,bF,cQ]) fun w27 h_27 hl27 U27 A27 N27=>?_
        have u27:=(u17).then U27
        simp (maxSteps:=4000000) only [l7 _ u27,l4 _ u27,l3 _ u27,lk _ u27,li _ u27,ls _ u27,bL,bY,aR,true_and]
        refine ⟨?_, ?_⟩
        ·have hf28 := bS 5 [bF 0 2 false [2]] [] (z5) (by
          intro r hr
          simp only [List.mem_cons,List.not_mem_nil,or_false] at hr
          rcases hr with rfl <;> first | rfl | exact Di.len | exact Ds.len) rfl
         refine bH (len:=1) hf28 (by simp [Di.len,Ds.len,bF,cQ]) fun w28 h_28 hl28 U28 A28 N28=>?_
         have u28:=(u27).then U28
         obtain ⟨x28,n28,k28,e28,_⟩:=A28.low
         simp (maxSteps:=4000000) only [l7 _ u28,l4 _ u28,l3 _ u28,lk _ u28,li _ u28,ls _ u28,bL,bY,aR,true_and]
         refine lE (cs:=[.i .i64 2,.i .i64 0,.b true,.s [],w28]) (by rw [e28] <;> rfl) ?_
         refine dS (A27.rd.upd U28 fun _ _ h=>h).low ?_
         simp (maxSteps:=4000000) only [l7 _ u28,l4 _ u28,l3 _ u28,lk _ u28,li _ u28,ls _ u28,bL,bY,aR,true_and]
         have hf29:=bS 5 [[.i .i64 2,.i .i64 0,.b true,.s [],w28],bF 0 2 false ((cB c.serial).getD []),cQ wk,ri,[.i .i64 0,.i .i64 16,.b true,.s [],w17],rs,[.i .i64 0,.i .i64 16,.b true,.s [],w27]] [] (z5++(z5++(z5++(z5++(z5++(z5++(z5))))))) (by
          intro r hr
          simp only [List.mem_cons,List.not_mem_nil,or_false] at hr
          rcases hr with rfl | rfl | rfl | rfl | rfl | rfl | rfl <;> first | rfl | exact Di.len | exact Ds.len) rfl
         refine bH (len:=7) hf29 (by simp [Di.len,Ds.len,bF,cQ]) fun w29 h_29 hl29 U29 A29 N29=>?_
         have u29:=(u28).then U29
         simp (maxSteps:=4000000) only [l7 _ u29,l4 _ u29,l3 _ u29,lk _ u29,li _ u29,ls _ u29,bL,bY,aR,true_and]
         exact gM (RC _ u28) (E0.trans (u28).ext) hc B f1 f2 (A28.rd) (A17.rd.upd (U27.then U28) fun _ _ h=>h) (A27.rd.upd U28 fun _ _ h=>h) (Di.ext u28) (Ds.ext u28) U29 A29 rfl N29 hl29 hq
        ·refine dS A27.low ?_
         simp (maxSteps:=4000000) only [l7 _ u27,l4 _ u27,l3 _ u27,lk _ u27,li _ u27,ls _ u27,bL,bY,aR,true_and]
         have hf30:=bS 5 [bF 0 2 false [2]] [] (z5) (by
          intro r hr
          simp only [List.mem_cons,List.not_mem_nil,or_false] at hr
          rcases hr with rfl <;> first | rfl | exact Di.len | exact Ds.len) rfl
         refine bH (len:=1) hf30 (by simp [Di.len,Ds.len,bF,cQ]) fun w30 h_30 hl30 U30 A30 N30=>?_
         have u30:=(u27).then U30
         obtain ⟨x30,n30,k30,e30,_⟩:=A30.low
         simp (maxSteps:=4000000) only [l7 _ u30,l4 _ u30,l3 _ u30,lk _ u30,li _ u30,ls _ u30,bL,bY,aR,true_and]
         refine lE (cs:=[.i .i64 2,.i .i64 0,.b true,.s [],w30]) (by rw [e30] <;> rfl) ?_
         have hf31:=bS 5 [[.i .i64 2,.i .i64 0,.b true,.s [],w30],bF 0 2 false ((cB c.serial).getD []),cQ wk,ri,[.i .i64 0,.i .i64 16,.b true,.s [],w17],rs,[.i .i64 0,.i .i64 16,.b true,.s [],w27]] [] (z5++(z5++(z5++(z5++(z5++(z5++(z5))))))) (by
          intro r hr
          simp only [List.mem_cons,List.not_mem_nil,or_false] at hr
          rcases hr with rfl | rfl | rfl | rfl | rfl | rfl | rfl <;> first | rfl | exact Di.len | exact Ds.len) rfl
         refine bH (len:=7) hf31 (by simp [Di.len,Ds.len,bF,cQ]) fun w31 h_31 hl31 U31 A31 N31=>?_
         have u31:=(u30).then U31
         simp (maxSteps:=4000000) only [l7 _ u31,l4 _ u31,l3 _ u31,lk _ u31,li _ u31,ls _ u31,bL,bY,aR,true_and]
         exact gM (RC _ u30) (E0.trans (u30).ext) hc B f1 f2 (A30.rd) (A17.rd.upd (U27.then U30) fun _ _ h=>h) (A27.rd.upd U30 fun _ _ h=>h) (Di.ext u30) (Ds.ext u30) U31 A31 rfl N31 hl31 hq
end Go.Proofs.YtcdkpkkdolmfdaaGreatDoor
set_option maxRecDepth 100000
namespace Go.Proofs.YtcdkpkkdolmfdaaGreatDoor
open Go.GAM
variable [XR]
noncomputable def Y60.body:Code:=(Tryz.f5.body).getD .skip
def Y60.ann:Ann:=(sl [1] (sq [1] (sl [1,9] (.br (sl [2] lf) lf)) (sl [1,3,4] (sl [3,4,5,6] (.seq 1 [2] lf lf)))))
theorem Y60.dist:aT (places Y60.ann Y60.body)=true:=by kernel_rfl
noncomputable def Y60.J (Q:AV→aA→Prop):JT:=b4 prog C Tryz.f5 Y60.ann Y60.body Q
def Y60.p0 (Q:AV→aA→Prop) (x2:Bool) (h:aA):Prop:=Y60.J Q 1 [(2,(AV.b x2))] h
def Y60.t0 (Q:AV→aA→Prop) (x2:Bool) (h:aA) (J:JT):Prop:=
Q (AV.b x2) h
theorem Y60.i0 {Q x2 h} (H:Y60.t0 Q x2 h (Y60.J Q)):Y60.p0 Q x2 h:=gR Y60.J Tryz.f5 Y60.dist [1,1,1,1,1] H
def Y60.t (Q:AV→aA→Prop) (x0:AV) (h:aA) (J:JT):Prop:=
eH (some 25) x0 h fun v0 h1=>
aB 8 v0 h1 fun v3=>
C Y35.id [v3] h1 fun v4 h5=>
asB v4 fun c6=>
(bif (!c6) then
(C Y57.id [] h5 fun v8 h9=>
asB v8 fun c10=>
Q (AV.b c10) h9)
else
(aB 8 v0 h5 fun v13=>
C Y6.id [v13] h5 fun v14 h15=>
aH 0 v14 fun v16=>
asS v16 fun l17=>
aH 1 v14 fun v18=>
asI .i64 v18 fun n19=>
aB 8 v0 h15 fun v21=>
C Y8.id [v21] h15 fun v22 h23=>
aH 0 v22 fun v24=>
asS v24 fun l25=>
aH 1 v22 fun v26=>
asI .i64 v26 fun n27=>
(bif (decide ((l17:List UInt8)=l25)) then
((bif (decide ((n19:Int)=n27)) then
(C Y57.id [] h23 fun v29 h30=>
asB v29 fun c31=>
J 1 [(2,(AV.b c31))] h30)
else
(J 1 [(2,(AV.b false))] h23)))
else
(J 1 [(2,(AV.b false))] h23))))
theorem Y60.call {K x0 h} (H:Y60.t (aI h K) x0 h (Y60.J (aI h K))):C Y60.id [x0] h K:=
 gC Y60.J Tryz.func5 Y60.dist H
end Go.Proofs.YtcdkpkkdolmfdaaGreatDoor
namespace Go.Proofs.YtcdkpkkdolmfdaaGreatDoor
open Go.GAM Go.RowKit Go.ChangeShapes
theorem aJ7 {c:dP} {cs:List AV} {h:aA} (G:CG2 h) (V:CV h c cs):C Y60.id [.ag cs] h Yes:=by
 refine Y60.call ?_
 simp only [Y60.t, ← Y60.p0.eq_1]
 refine kK V.len rfl fun h1 hl1 U1 R1=>?_
 have R1:bE h1 h.length cs:=R1
 have V1:=V.ext U1
 have G1:=G.up U1
 refine bB R1 V.len.symm (aDZ V1 (aX ?_))
 refine aG (fun e=>aEU G1 fun h' _=>aX aA6) fun e=>?_
 have hs:vR c=true:=by simpa using e
 have sm:=aK6 hs
 obtain ⟨f,u,hfu⟩:=aID c
 have fin:C Y57.id [] h1 fun v30 h31=>asB v30 fun c32=>Y60.p0 (aI h Yes) c32 h31:=
  aEU G1 fun h'' _=>aX (by
   refine Y60.i0 ?_
   simp only [Y60.t0]
   exact aA6)
 refine bB R1 V.len.symm (tM G1 V1 (BOK.of sm hfu) ?_)
 cases hb:iL c f u with
 | error e =>
  refine bD (aZ (bC (aU (bB R1 V.len.symm (qA V1 (BOK.of sm hfu) ?_)))))
  rw [hb]
  exact bD (aZ (bC (aU (aM (by simp) (aM (by simp) fin)))))
 | ok l =>
  refine bD (aZ (bC (aU (bB R1 V.len.symm (qA V1 (BOK.of sm hfu) ?_)))))
  rw [hb]
  exact bD (aZ (bC (aU (aM (by simp) (aM (by simp) fin)))))
theorem walk_CertificateBuilds {H:Type} {enc:TypeId × Value→H} {v0:Value} {d0:DataW H} {p0:List MemPlace} (W:World) (hL:laidMet Tryz.prog Rows.certificateBuildsRow.laid W) (k0:DataW.Trod enc Tryz.prog W 0 (fun _=>true) true 25 v0 d0 p0) :
  Calls Tryz.prog Y60.id #[v0] W fun e w'=>e = .returned (.bool true)∧Below W.heap.size W w':=by
 obtain ⟨cs,c,hv,hq⟩:=aJR k0
 exact aC2 mixedOK sizeOK (aOH (aNW (l:=Rows.certificateBuildsRow.laid) (List.mem_of_getElem? (i:=2) rfl) hL)) (by kernel_rfl) (szOf:=fun _=>1) (.cons _ _ _ _ hv .nil)
  (aJ7 (aNF (l:=Rows.certificateBuildsRow.laid) (List.mem_of_getElem? (i:=5) rfl) (List.mem_of_getElem? (i:=4) rfl) (List.mem_of_getElem? (i:=6) rfl) (List.mem_of_getElem? (i:=9) rfl) (List.mem_of_getElem? (i:=11) rfl) (List.mem_of_getElem? (i:=7) rfl) (List.mem_of_getElem? (i:=13) rfl) (List.mem_of_getElem? (i:=10) rfl) (List.mem_of_getElem? (i:=12) rfl) (List.mem_of_getElem? (i:=8) rfl) hL) hq)
end Go.Proofs.YtcdkpkkdolmfdaaGreatDoor
