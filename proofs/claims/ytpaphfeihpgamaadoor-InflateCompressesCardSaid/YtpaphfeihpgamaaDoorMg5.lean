/- Lemmas (several texts in one). -/
import Derived.Test.YtpaphfeihpgamaaDoorRows
import Derived.OpenShut
import Derived.Test.YtpaphfeihpgamaaDoorMg4
set_option linter.unusedVariables false
set_option linter.unusedSimpArgs false
set_option linter.unusedSectionVars false
set_option maxRecDepth 20000
namespace Go.Proofs.YtpaphfeihpgamaaDoor
open Go.GAM
open Go.Infl (cA d6 cH Out Lim)
theorem aCT {P:Program} {t:TypeId} {K:AV→Prop} (ht:kN P t=true) (hk:K (.b false)):eG P .neq t (.p none) (.p none) K:=by
 show (bif kN P t then _ else _); rw [ht]; exact hk
theorem yU {P:Program} {t:TypeId} {a:AA} {K:AV→Prop} (ht:kN P t=true) (hk:K (.b true)):eG P .neq t (.p (some a)) (.p none) K:=by
 show (bif kN P t then _ else _); rw [ht]; exact hk
section
variable [XR] {h:aA} {Q:AV→aA→Prop} {L:Lim} {F:Nat→Prop} {d:Nat} {r:DR} {out:List UInt8} {told:Nat}
theorem tL {x:Nat} {c:cH} {v:AV} (O:cT h) (D:Dec L h F d r out told) (hF:∀ i,h.length≤i→F i) (hd:r.done=false) (hk:jF c=none) (hc:Clo h (Gd F d r) d 0 (.p none) c v) (hf:fit c x)
  (hq:∀ e h' r',cK F L h F d r told (Infl.apply L r.input ⟨out,r.last,r.skip⟩ x c) e h' r'→Q (.i .i64 e) h'):bV C v [iN x] h Q:=by
 cases c with
 | block=>exact aDO D hF hd hc hf hq
 | stored1=>exact z5 D hF hd hc hf hq
 | stored2 n=>exact zY D hF hd hc hf hq
 | raw n=>exact aF3 D hF hd hc hf hq
 | lit a b=>cases hk
 | more a b n=>exact aFI D hF hd hc hf hq
 | far a b n=>cases hk
 | farMore a b n f=>exact y7 D hF hd hc hf hq
 | dyn1=>exact aEZ D hF hd hc hf hq
 | dyn2 lits=>exact aE3 D hF hd hc hf hq
 | dyn3 lits dists=>exact aFH D hF hd hc hf hq
 | third l i n lits dists=>exact aDC O D hF hd hc hf hq
 | lens c l lits dists=>cases hk
 | rep c l lits dists m y=>exact aF7 D hF hd hc hf hq
theorem aCY {x ic:Nat} {sym:AV} {l:List Nat} {c:cH} {v:AV} (D:Dec L h F d r out told) (hF:∀ i,h.length≤i→F i) (hd:r.done=false) (hk:jF c=some l) (A:bZ h (Gd F d r) ic l sym 0 0) (hc:Clo h (fun i=>Gd F d r i∧i≠ic) d ic sym c v) (hf:fit c x)
  (hq:∀ e h' r',cK F L h F d r told (Infl.apply L r.input ⟨out,r.last,r.skip⟩ x c) e h' r'→Q (.i .i64 e) h'):bV C v [iN x] h Q:=by
 cases c <;> first | (cases hk; done) | skip
 case lit a b=>cases hk; exact aGG D hF hd A hc hf hq
 case far a b n=>cases hk; exact aGE D hF hd A hc hf hq
 case lens c l lits dists=>cases hk; exact aEV D hF hd A hc hf hq
theorem mZ {x:Nat} {c:cH} {i:Nat} {k:cA} (hs:short c):(Infl.apply L i k x c).set:=by
 cases c <;> first | exact hs.elim | skip
 ·trivial
 ·simp only [Infl.apply]
  split
  ·trivial
  ·split <;> trivial
theorem sN {c:cH} {i a b:Nat} {k:cA} (hs:short c):Infl.settle L i 3 (.wait k (.num 0 a b) c)=Infl.apply L i k 0 c:=by
 show Infl.settle L i 2 (Infl.apply L i k 0 c)=_
 exact Infl.settle_set (mZ hs)
theorem behind {h0':aA} {b:Bool} {x:Int} (hx:b=true) (hq:Q (.i .i64 x) h):Y2.p2 (aK h0' Q) (dp d) x b h:=by
 refine Y2.i2 ?_
 simp only [Y2.t2]
 exact bA hx (.inl hq)
theorem qE {h0' h0 : aA} {r0 : DR} {o : Out} {e : Int} (O : cT h) (hF : ∀ i, h.length ≤ i → F i) (P : cK F L h0 F d r0 told o e h r) (hns : o.set)
  (hq:Q (.i .i64 e) h) (K:Int→Prop) :
  (bif (!decide ((e:Int)=0)) then Y2.p2 (aK h0' Q) (dp d) e true h else
   (aZ (dp d) fun v75=>aC 7 v75 fun v76=>aB v76 h fun v77=>asB v77 fun c78=>Y2.p2 (aK h0' Q) (dp d) e c78 h)):=by
 refine aM ?_ ?_ <;> intro he
 ·exact behind rfl hq
 ·have he : e = 0 := by simpa using he
  simp only [bJ,bE]
  refine aE P.dec.recd rfl rfl (bP ?_)
  cases hd:r.done with
  | true=>exact behind rfl hq
  | false =>
   refine Y2.i2 ?_
   simp only [Y2.t2,bJ,bE, ← Y2.p3.eq_1]
   refine aX rfl ?_
   have P3:∀ t,t=false→Y2.p3 (aK h0' Q) (dp d) t h:=fun t ht=>by
    refine Y2.i3 ?_
    simp only [Y2.t3]
    rw [← he]
    exact aX ht (.inl hq)
   have hst:=P.st
   cases o with
   | done k=>rw [hst.2] at hd; cases hd
   | err x k =>
    obtain ⟨hx,hx2,_⟩:=hst
    rw [he] at hx
    rcases hx2 with rfl | rfl <;> exact absurd hx (by decide)
   | wait k w c =>
    obtain ⟨_,_,_,_,hw,hf⟩:=hst
    cases w with
    | num need hv acc =>
     obtain ⟨_,hcode,hneed,_⟩:=hw
     refine aE P.dec.recd rfl rfl ?_
     rw [hcode]
     refine tK (by kernel_rfl) (bP (bA rfl ?_))
     refine aE P.dec.recd rfl rfl (aD (P3 _ ?_))
     rw [hneed]
     have hns:0<need:=hns
     simp; omega
    | sym l n x =>
     obtain ⟨_,ic,sym,hcode,_⟩:=hw
     refine aE P.dec.recd rfl rfl ?_
     rw [hcode]
     exact j9 (by kernel_rfl) (bP (aX rfl (P3 _ rfl)))
theorem xZ {h0' h0 : aA} {r0 : DR} {o : Out} {e : Int} (hF0 : ¬ F 0) (O : cT h) (hF : ∀ i, h.length ≤ i → F i) (P : cK F L h0 F d r0 told o e h r)
    (hq:∀ e h' r',cT h'→(Infl.settle L r0.input 3 o).set→cK F L h0 F d r0 told (Infl.settle L r0.input 3 o) e h' r'→Q (.i .i64 e) h') :
    (bif (!decide ((e:Int)=0)) then Y2.p2 (aK h0' Q) (dp d) e true h else
      (aZ (dp d) fun v75=>aC 7 v75 fun v76=>aB v76 h fun v77=>asB v77 fun c78=>Y2.p2 (aK h0' Q) (dp d) e c78 h)):=by
  by_cases hns:o.set
  · rw [Infl.settle_set hns] at hq
    exact qE O hF P hns (hq e h r O hns P) fun _=>True
  · obtain ⟨k, hv, acc, c, rfl⟩ : ∃ k hv acc c, o = .wait k (.num 0 hv acc) c := by
      cases o with
      | done k=>exact absurd trivial hns
      | err x k=>exact absurd trivial hns
      | wait k w c =>
        cases w with
        | sym l n x=>exact absurd trivial hns
        | num need hv acc =>
          have:need=0:=by
            have:¬ 0<need:=hns
            omega
          subst this
          exact ⟨k,hv,acc,c,rfl⟩
    have hst:=P.st
    obtain ⟨he,h1,h2,h3,hw,hf⟩:=hst
    obtain ⟨hco,hcode,hneed,hhv,hac,hclo⟩:=hw
    obtain ⟨_,_,f3,f4⟩:=hf
    have hsh:short c:=f3.elim (fun h=>by omega) fun h=>h.2.2
    rw [sN hsh] at hq
    subst he
    refine aX rfl ?_
    simp only [bJ,bE]
    refine aE P.dec.recd rfl rfl (bP ?_)
    rw [h3]
    refine Y2.i2 ?_
    simp only [Y2.t2,bJ,bE, ← Y2.p3.eq_1]
    refine aX rfl ?_
    refine aE P.dec.recd rfl rfl ?_
    rw [hcode]
    refine tK (by kernel_rfl) (bP (bA rfl ?_))
    refine aE P.dec.recd rfl rfl (aD ?_)
    rw [hneed]
    refine Y2.i3 ?_
    simp only [Y2.t3, ← Y2.p0.eq_1]
    refine bA rfl ?_
    refine Y2.i0 ?_
    simp only [Y2.t0,bJ,bE, ← Y2.p2.eq_1]
    refine aE P.dec.recd rfl rfl ?_
    have hk:k=⟨k.out,r.last,r.skip⟩:=by rw [h1,h2]
    have hD:Dec L h F d r k.out told:=P.dec
    refine tL (x:=0) O hD hF h3 hco hclo (f4 0 (by decide)) fun e2 h2 r2 P2=>aD ?_
    rw [P.inp, ← hk] at P2
    have P3:cK F L h0 F d r0 told (Infl.apply L r0.input k 0 c) e2 h2 r2:=P2.from P.upd (fun _ _ h=>h) P.keep P.inp P.bad P.rest
    have O2:cT h2:=O.upd P2.upd hF0
    exact qE O2 (fun i hi=>hF i (Nat.le_trans P2.upd.1 hi)) P3 (mZ hsh) (hq e2 h2 r2 O2 (mZ hsh) P3) fun _=>True
theorem aAA {h0' h0:aA} {r0:DR} {x:Nat} {c:cH} (hF0:¬ F 0) (O:cT h) (D:Dec L h F d r out told) (hF:∀ i,h.length≤i→F i) (hd:r.done=false) (hk:jF c=none) (hc:Clo h (Gd F d r) d 0 (.p none) c r.next) (hf:fit c x)
  (U0:Upd F h0 h) (K0:∀ i,i<h0.length→Mut d r i→Mut d r0 i) (e1:r.input=r0.input) (e2:r.bad=r0.bad) (e3:r.rest=r0.rest)
  (hq:∀ e h' r',cT h'→(Infl.settle L r0.input 3 (Infl.apply L r0.input ⟨out,r.last,r.skip⟩ x c)).set→cK F L h0 F d r0 told (Infl.settle L r0.input 3 (Infl.apply L r0.input ⟨out,r.last,r.skip⟩ x c)) e h' r'→Q (.i .i64 e) h'):Y2.p1 (aK h0' Q) (dp d) x h:=by
 refine Y2.i1 ?_
 simp only [Y2.t1, ← Y2.p0.eq_1]
 refine Y2.i0 ?_
 simp only [Y2.t0,bJ,bE, ← Y2.p2.eq_1]
 refine aE D.recd rfl rfl ?_
 refine tL O D hF hd hk hc hf fun e h1 r1 P=>aD ?_
 rw [e1] at P
 exact xZ hF0 (O.upd P.upd hF0) (fun i hi=>hF i (Nat.le_trans P.upd.1 hi)) (P.from U0 (fun _ _ h=>h) K0 e1 e2 e3) hq
theorem aAO {h0' h0:aA} {r0:DR} {x ic:Nat} {sym:AV} {l:List Nat} {c:cH} (hF0:¬ F 0) (O:cT h) (D:Dec L h F d r out told) (hF:∀ i,h.length≤i→F i) (hd:r.done=false) (hk:jF c=some l) (A:bZ h (Gd F d r) ic l sym 0 0) (hc:Clo h (fun i=>Gd F d r i∧i≠ic) d ic sym c r.next) (hf:fit c x)
  (U0:Upd F h0 h) (K0:∀ i,i<h0.length→Mut d r i→Mut d r0 i) (e1:r.input=r0.input) (e2:r.bad=r0.bad) (e3:r.rest=r0.rest)
  (hq:∀ e h' r',cT h'→(Infl.settle L r0.input 3 (Infl.apply L r0.input ⟨out,r.last,r.skip⟩ x c)).set→cK F L h0 F d r0 told (Infl.settle L r0.input 3 (Infl.apply L r0.input ⟨out,r.last,r.skip⟩ x c)) e h' r'→Q (.i .i64 e) h'):Y2.p1 (aK h0' Q) (dp d) x h:=by
 refine Y2.i1 ?_
 simp only [Y2.t1, ← Y2.p0.eq_1]
 refine Y2.i0 ?_
 simp only [Y2.t0,bJ,bE, ← Y2.p2.eq_1]
 refine aE D.recd rfl rfl ?_
 refine aCY D hF hd hk A hc hf fun e h1 r1 P=>aD ?_
 rw [e1] at P
 exact xZ hF0 (O.upd P.upd hF0) (fun i hi=>hF i (Nat.le_trans P.upd.1 hi)) (P.from U0 (fun _ _ h=>h) K0 e1 e2 e3) hq
theorem aGI {a b k:Nat} (h:a<2 ^ k):a ||| b * 2 ^ k=a+b * 2 ^ k:=by
 rw [Nat.or_comm,Nat.mul_comm]
 have:=Nat.two_pow_add_eq_or_of_lt h b
 omega
theorem aFT {w : d6} {c : cH} {b : Nat} (hb : b < 2) (hF0 : ¬ F 0) (O : cT h) (D : Dec L h F d r out told) (hF : ∀ i, h.length ≤ i → F i) (hd : r.done = false) (hw : t9 h F d r w c) (hf : wS w c) (hset : (Out.wait ⟨out, r.last, r.skip⟩ w c).set)
  (hq:∀ e h' r',cT h'→(Infl.bitP L r.input ⟨out,r.last,r.skip⟩ w c b).set→cK F L h F d r told (Infl.bitP L r.input ⟨out,r.last,r.skip⟩ w c b) e h' r'→Q (.i .i64 e) h'):C Y2.id [dp d,iN b] h Q:=by
 refine Y2.call ?_
 simp only [Y2.t,bJ,bE, ← Y2.p1.eq_1]
 refine aE D.recd rfl rfl ?_
 cases w with
 | num need hv acc =>
  obtain ⟨hco,hcode,hneed,hhv,hacc,hclo⟩:=hw
  obtain ⟨f1,f2,f3,f4⟩:=hf
  have hset:0<need:=hset
  have hlt:hv<need:=f3.elim (fun h=>h) fun h=>by omega
  rw [hcode]
  refine aCT (by kernel_rfl) (bP (aX rfl ?_))
  refine aE D.recd rfl rfl (aD (aE D.recd rfl rfl (aD ?_)))
  rw [hacc,hhv]
  have p1:2 ^ hv≤2 ^ 16:=Nat.pow_le_pow_right (by decide) (by omega)
  have p2:b * 2 ^ hv≤1 * 2 ^ 16:=Nat.mul_le_mul (by omega) p1
  have p3:acc+b * 2 ^ hv<2 ^ (hv+1):=by
   have:b * 2 ^ hv≤1 * 2 ^ hv:=Nat.mul_le_mul_right _ (by omega)
   rw [Nat.pow_succ]; omega
  have p4:2 ^ (hv+1)≤2 ^ need:=Nat.pow_le_pow_right (by decide) (by omega)
  refine iR (by omega) (by omega) ?_
  have hor:bK .or .i64 ((acc:Nat):Int) ((b * 2 ^ hv:Nat):Int)=((acc+b * 2 ^ hv:Nat):Int):=by
   rw [xI (by omega) (by omega),aGI f2]
  refine aG hor ?_
  generalize hA:acc+b * 2 ^ hv=A at *
  refine aT D.recd rfl (ltr rfl) (hk:=fun h1 l1 U1 R1=>?_)
  refine aE R1 rfl rfl (aD ?_)
  rw [hhv]
  refine inc (by omega) ?_
  refine aT R1 rfl (ltr rfl) (hk:=fun h2 l2 U2 R2=>?_)
  have U:=U1.trans U2 fun _ _ h=>h
  have D2:Dec L h2 F d { r with acc:=A,have':=hv+1 } out told:=D.with U R2 rfl rfl rfl rfl
  have O2:cT h2:=O.upd U fun e=>hF0 (e ▸ D.f d (.inl rfl))
  have clo2:=hclo.upd (G':=Gd F d { r with acc:=A,have':=hv+1 }) U (fun i hi e=>hi.2 (.inl e)) fun _ _ h=>h
  refine aE R2 rfl rfl (aD (aE R2 rfl rfl (aD ?_)))
  rw [hneed]
  rw [Infl.bit_num] at hq
  refine aM ?_ ?_ <;> intro e
  ·have e : hv + 1 < need := by simp at e; omega
   rw [if_pos e,hA] at hq
   refine .inl (hq 0 h2 { r with acc:=A,have':=hv+1 } O2 hset ⟨U.mono fun i _ e=>D.f i (.inl e),fun _ _ h=>h,D2,rfl,rfl,rfl,rfl,rfl,rfl,hd,⟨hco,hcode,hneed,rfl,rfl,clo2⟩,f1,p3,.inl e,f4⟩)
  ·have e : ¬ hv + 1 < need := by simp at e; omega
   rw [if_neg e,hA] at hq
   refine aE R2 rfl rfl (aD ?_)
   exact aAA (r0:=r) hF0 O2 D2 (fun i hi=>hF i (by omega)) hd hco clo2 (f4 A (by omega)) (U.mono fun i _ e=>D.f i (.inl e)) (fun _ _ h=>h) rfl rfl rfl hq
 | sym l n x =>
  obtain ⟨hco,ic,sym,hcode,A,hclo⟩:=hw
  obtain ⟨f1,f2,f3⟩:=hf
  rw [hcode]
  refine yU (by kernel_rfl) (bP (bA rfl ?_))
  refine aE D.recd rfl rfl ?_
  rw [hcode]
  rw [Infl.bit_sym] at hq
  refine aET A f1 f2 hb fun h1 U1=>?_
  have hne:∀ i,Mut d r i→¬ i=ic:=fun i hm e=>A.g.2 (e ▸ hm)
  have D1:Dec L h1 F d r out told:=D.upd U1 hne
  have O1:cT h1:=O.upd U1 fun e=>hF0 (e ▸ A.g.1)
  have UF:Upd F h h1:=U1.mono fun i _ e=>e ▸ A.g.1
  have clo1:=hclo.upd (G':=fun i=>Gd F d r i∧i≠ic) U1 (fun i hi e=>hi.2 e) fun _ _ h=>h
  have A1:∀ {n' x'},bD h1 ic (cS l sym n' x')→bZ h1 (Gd F d r) ic l sym n' x':=fun R=>{ A with recd:=R,syms:=A.syms.upd U1 fun i hi e=>(A.gs i hi).2.1 e,gs:=fun i hi=>⟨(A.gs i hi).1,(A.gs i hi).2.1,Nat.lt_of_lt_of_le (A.gs i hi).2.2 U1.1⟩ }
  have hF1:∀ i,h1.length≤i→F i:=fun i hi=>hF i (Nat.le_trans U1.1 hi)
  cases hs:Huff.stepP l (n+1) (2 * x+b) with
  | sym i =>
   simp only [hs] at hq ⊢
   intro R1 hi
   simp only [d7,dW,aEX]
   refine aD (bP (aD (aX rfl (aX rfl ?_))))
   exact aAO hF0 O1 D1 hF1 hd hco (A1 R1) clo1 (f3 i hi) UF (fun _ _ h=>h) rfl rfl rfl hq
  | more =>
   simp only [hs] at hq ⊢
   intro R1
   simp only [d7,dW,aEX]
   refine aD (bP (aD (aX rfl (bA rfl (.inl ?_)))))
   have hn1:n+1≤15:=by
    unfold Huff.stepP at hs
    split at hs
    ·cases hs
    ·split at hs
     ·have : Huff.longest l ≤ 15 := by
       rw [← iJ A.le]
       have:∀ n,lg l n≤n:=by
        intro n
        induction n with
        | zero=>exact Nat.le_refl _
        | succ n ih=>unfold lg; split <;> omega
       exact this 15
      omega
     ·cases hs
   exact hq 0 h1 r O1 trivial ⟨UF,fun _ _ h=>h,D1,rfl,rfl,rfl,rfl,rfl,rfl,hd,⟨hco,ic,sym,hcode,A1 R1,clo1⟩,hn1,by rw [Nat.pow_succ]; omega,f3⟩
  | bad =>
   simp only [hs] at hq ⊢
   intro R1
   simp only [d7,dW,aEX]
   refine aD (bP (aD (bA rfl (.inl ?_))))
   exact hq 2 h1 r O1 trivial ⟨UF,fun _ _ h=>h,D1,rfl,rfl,rfl,rfl,.inl rfl,hd⟩
end
end Go.Proofs.YtpaphfeihpgamaaDoor
namespace Go.Proofs.YtpaphfeihpgamaaDoor
open Go.GAM
open Go.Infl (cA d6 cH Out Lim)
section
variable [XR] {h:aA} {Q:AV→aA→Prop} {L:Lim} {s:List UInt8} {d:Nat} {r:RS} {out:List UInt8} {F:Infl.Fin}
theorem tR {x:Nat} (h1:257≤x) (h2:x≤285) (hq:Q (.tu [iN (Infl.least x).1,iN (Infl.least x).2]) h):C Y55.id [iN x] h Q:=by
 refine Y55.call ?_
 simp only [Y55.t]
 unfold Infl.least at hq
 refine aM ?_ ?_ <;> intro e
 ·have e : x ≤ 264 := by simp at e; omega
  rw [if_pos e] at hq
  exact cQ (n:=((x - 254:Nat):Int)) (by omega) (by omega) (by omega) (.inl hq)
 ·have e : ¬ x ≤ 264 := by simp at e; omega
  rw [if_neg e] at hq
  refine aM ?_ ?_ <;> intro e2
  ·have e2 : x = 285 := by simp at e2; omega
   rw [if_pos e2] at hq
   exact .inl hq
  ·have e2 : ¬ x = 285 := by simp at e2; omega
   rw [if_neg e2] at hq
   refine cQ (n:=((x - 261:Nat):Int)) (by omega) (by omega) (by omega) ?_
   refine iH (n:=(((x - 261) / 4:Nat):Int)) (by decide) (by rw [Int.tdiv_eq_ediv_of_nonneg (by omega),aL (by omega) (by omega)]; omega) ?_
   refine cQ (n:=((x - 265:Nat):Int)) (by omega) (by omega) (by omega) ?_
   refine jD (n:=(((x - 265) % 4:Nat):Int)) (by decide) (by rw [Int.tmod_eq_emod_of_nonneg (by omega)]; omega) ?_
   refine cQ (n:=((4+(x - 265) % 4:Nat):Int)) (by omega) (by omega) (by omega) ?_
   have hp:2 ^ ((x - 261) / 4)≤2 ^ 6:=Nat.pow_le_pow_right (by decide) (by omega)
   have hm:(4+(x - 265) % 4) * 2 ^ ((x - 261) / 4)≤8 * 2 ^ 6:=Nat.mul_le_mul (by omega) hp
   rw [wrap_u64 (by omega) (by omega)]
   refine iR (by omega) (by omega) ?_
   generalize (4+(x - 265) % 4) * 2 ^ ((x - 261) / 4)=y at *
   exact cQ (n:=((y+3:Nat):Int)) (by omega) (by omega) (by omega) (.inl hq)
theorem aCI {x:Nat} (h2:x≤29) (hq:Q (.tu [iN (Infl.farOf x).1,iN (Infl.farOf x).2]) h):C Y54.id [iN x] h Q:=by
 refine Y54.call ?_
 simp only [Y54.t]
 unfold Infl.farOf at hq
 refine aM ?_ ?_ <;> intro e
 ·have e : x < 4 := by simp at e; omega
  rw [if_pos e] at hq
  exact inc (by omega) (.inl hq)
 ·have e : ¬ x < 4 := by simp at e; omega
  rw [if_neg e] at hq
  refine iH (n:=((x / 2:Nat):Int)) (by decide) (by rw [Int.tdiv_eq_ediv_of_nonneg (by omega),aL (by omega) (by omega)]; omega) ?_
  refine cQ (n:=((x / 2 - 1:Nat):Int)) (by omega) (by omega) (by omega) ?_
  refine jD (n:=((x % 2:Nat):Int)) (by decide) (by rw [Int.tmod_eq_emod_of_nonneg (by omega)]; omega) ?_
  refine cQ (n:=((2+x % 2:Nat):Int)) (by omega) (by omega) (by omega) ?_
  have hp:2 ^ (x / 2 - 1)≤2 ^ 13:=Nat.pow_le_pow_right (by decide) (by omega)
  have hm:(2+x % 2) * 2 ^ (x / 2 - 1)≤4 * 2 ^ 13:=Nat.mul_le_mul (by omega) hp
  rw [wrap_u64 (by omega) (by omega)]
  refine iR (by omega) (by omega) ?_
  generalize (2+x % 2) * 2 ^ (x / 2 - 1)=y at *
  exact inc (by omega) (.inl hq)
def lits (a b:List Nat) (kl:Bool) (out:List UInt8):Out:=Infl.litW ⟨out,kl,false⟩ a b
end
end Go.Proofs.YtpaphfeihpgamaaDoor
namespace Go.Proofs.YtpaphfeihpgamaaDoor
open Go.GAM
open Go.Infl (cA d6 cH Out Lim)
section
variable [XR] {h:aA} {Q:AV→aA→Prop} {L:Lim} {s:List UInt8} {d:Nat} {r:RS} {out:List UInt8} {F:Infl.Fin}
end
end Go.Proofs.YtpaphfeihpgamaaDoor
namespace Go.Proofs.YtpaphfeihpgamaaDoor
open Go.GAM
open Go.Infl (cA d6 cH Out Lim)
section
variable [XR] {h:aA} {Q:AV→aA→Prop} {L:Lim} {s:List UInt8} {d:Nat} {r:RS} {out:List UInt8} {F:Infl.Fin}
end
end Go.Proofs.YtpaphfeihpgamaaDoor
namespace Go.Proofs.YtpaphfeihpgamaaDoor
open Go.GAM
open Go.Infl (cA d6 cH Out Lim)
structure DSt (L:Lim) (h:aA) (F:Nat→Prop) (d:Nat) (r:DR) (told:Nat) (o:Out) (inp:Nat) (rest:List UInt8):Prop where
 dec:Dec L h F d r o.core.out told
 ord:cT h
 rest:r.rest=rest
 st:match o with
  | .wait k w c=>r.input=inp∧r.last=k.last∧r.skip=k.skip∧r.done=false∧r.bad=false∧t9 h F d r w c∧wS w c∧(Out.wait k w c).set
  | .done _=>r.done=true∧r.bad=false
  | .err e _=>r.done=false∧r.bad=true∧(e=1∨e=2)
def aBZ:Out→Int
 | .err e _=>eno e
 | _=>0
section
variable [XR] {h:aA} {Q:AV→aA→Prop} {L:Lim} {F:Nat→Prop} {d:Nat} {r:DR} {out:List UInt8} {told:Nat}
theorem Dec.text {l:List UInt8} (D:Dec L h F d r out told) {K:List UInt8→Prop} (hk:K (out.drop told)):cJ r.fresh h K:=by
 refine Byt.str (l:=out.drop told) ?_ hk
 have:=D.fresh.rd
 rw [List.length_map] at this
 exact this
theorem rG {w:d6} {c:cH} {k:cA} (hs:k.skip=true):∀ (bs:List Nat) (i:Nat),i % 8≠0→i % 8+bs.length=8→Infl.run L bs i (.wait k w c)=(i+bs.length,.wait k w c)
 | [],i,h1,h2=>by rw [Infl.run_nil] <;> rfl
 | b :: bs, i, h1, h2 => by
  rw [Infl.run_bit,if_pos ⟨hs,h1⟩]
  rw [List.length_cons] at h2 ⊢
  by_cases hb:bs=[]
  ·subst hb; rw [Infl.run_nil] <;> rfl
  ·have := List.length_pos_iff.2 hb
   rw [rG hs bs (i+1) (by omega) (by omega)]
   congr 1; omega
theorem sM:∀ (n x:Nat),(Huff.loBits x n).length=n
 | 0,_=>rfl
 | n+1,x=>by unfold Huff.loBits; rw [List.length_cons,sM n]
theorem aB7 (c:UInt8) {k:Nat} (hk:k<8):bK .and .i64 ((c.toNat / 2 ^ k:Nat):Int) 1=((c.toNat / 2 ^ k % 2:Nat):Int):=by
 have hc:=c.toNat_lt
 have:c.toNat / 2 ^ k≤c.toNat:=Nat.div_le_self _ _
 have:=hZ (x:=c.toNat / 2 ^ k) (y:=1) (by omega) (by decide)
 rw [Nat.and_one_is_mod] at this
 exact this
def Nxt (Q:AV→aA→Prop) (d:Nat) (s:List UInt8) (i:Nat) (told:Nat) (h':aA):Out→Prop
 | .wait ..=>Y0.p1 Q (dp d) s s.length ((i+1:Nat):Int) h'
 | .done _=>Y0.p4 Q (dp d) h'
 | .err e k=>Q (.tu [.s (k.out.drop told),.i .i64 (eno e)]) h'
theorem aAB {hb : aA} {s : List UInt8} {i : Nat} {ch : UInt8} (hc : s[i]? = some ch) (hslen : s.length < 1099511627776) (hF0 : ¬ F 0) {inp : Nat} (hinp : 0 < inp) :
  ∀ (m k:Nat) (h:aA) (r:DR) (kc:cA) (w:d6) (c:cH),k+m=8→(k=0→kc.skip=false)→DSt L h F d r told (.wait kc w c) inp []→(∀ i,h.length≤i→F i) →
  (∀ h' r',Upd F h h'→DSt L h' F d r' told (Infl.run L (Huff.loBits (ch.toNat / 2 ^ k) m) (8 * (inp - 1)+k) (.wait kc w c)).2 inp (match (Infl.run L (Huff.loBits (ch.toNat / 2 ^ k) m) (8 * (inp - 1)+k) (.wait kc w c)).2 with | .done _=>s.drop (i+1) | _=>[]) →
   Nxt (aK hb Q) d s i told h' (Infl.run L (Huff.loBits (ch.toNat / 2 ^ k) m) (8 * (inp - 1)+k) (.wait kc w c)).2) →
  Y0.p2 (aK hb Q) (dp d) s i k s.length i h:=by
 intro m
 induction m with
 | zero =>
  intro k h r kc w c hkm hk0 S hF hq
  obtain rfl:k=8:=by omega
  have hsi:=aN hc
  obtain ⟨s1,s2,s3,s4,s5,s6,s7,s8⟩:=S.st
  have P3:Y0.p3 (aK hb Q) (dp d) s i (8:Nat) s.length i false h:=by
   refine Y0.i3 ?_
   simp only [Y0.t3,bJ,bE, ← Y0.p1.eq_1]
   refine aX rfl ?_
   refine aE S.dec.recd rfl rfl (bP ?_)
   rw [s4]
   refine aX rfl (inc (by omega) ?_)
   exact hq h r (Upd.refl _ _) S
  refine Y0.i2 ?_
  simp only [Y0.t2, ← Y0.p3.eq_1]
  exact aX (by decide) P3
 | succ m ih =>
  intro k h r kc w c hkm hk0 S hF hq
  have hsi:=aN hc
  obtain ⟨s1,s2,s3,s4,s5,s6,s7,s8⟩:=S.st
  have hch:=ch.toNat_lt
  refine Y0.i2 ?_
  simp only [Y0.t2,bJ,bE, ← Y0.p3.eq_1]
  refine bA (by simp; omega) ?_
  refine aE S.dec.recd rfl rfl (bP ?_)
  cases hsk:kc.skip with
  | true =>
   rw [s3,hsk]
   refine aX rfl ?_
   have hk:k≠0:=fun e=>by rw [hk0 e] at hsk; cases hsk
   rw [rG hsk _ _ (by omega) (by rw [sM]; omega)] at hq
   refine Y0.i3 ?_
   simp only [Y0.t3,bJ,bE, ← Y0.p1.eq_1]
   refine aX rfl ?_
   refine aE S.dec.recd rfl rfl (bP ?_)
   rw [s4]
   refine aX rfl (inc (by omega) ?_)
   exact hq h r (Upd.refl _ _) S
  | false =>
   rw [s3,hsk]
   refine bA rfl ?_
   refine aE S.dec.recd rfl rfl (bP ?_)
   rw [s4]
   refine Y0.i3 ?_
   simp only [Y0.t3,bJ,bE, ← Y0.p2.eq_1]
   refine bA rfl ?_
   refine kT hc ?_
   rw [aL (by omega) (by omega)]
   refine pA (a:=ch.toNat) (b:=k) (by show k≤64; omega) ?_
   rw [aB7 ch (by omega)]
   have hb2:ch.toNat / 2 ^ k % 2<2:=Nat.mod_lt _ (by decide)
   have hcore:(⟨kc.out,r.last,r.skip⟩:cA)={ kc with skip:=false }:=by rw [s2,s3,hsk]
   have hpos:(8 * (inp - 1)+k) / 8+1=inp:=by omega
   have hlo:Huff.loBits (ch.toNat / 2 ^ k) (m+1)=ch.toNat / 2 ^ k % 2 :: Huff.loBits (ch.toNat / 2 ^ (k+1)) m:=by
    rw [Nat.pow_succ, ← Nat.div_div_eq_div_mul] <;> rfl
   rw [hlo,Infl.run_bit,if_neg (by rw [hsk]; simp),hpos] at hq
   refine aFT hb2 hF0 S.ord S.dec hF s4 s6 s7 (by cases w <;> exact s8) fun e h1 r1 O1 hset P=>aD ?_
   rw [s1] at P hset
   have hcore':(⟨(Out.wait kc w c).core.out,r.last,r.skip⟩:cA)={ kc with skip:=false }:=hcore
   rw [hcore'] at P hset
   generalize Infl.bitP L inp { kc with skip:=false } w c (ch.toNat / 2 ^ k % 2)=o at P hq hset
   have hF1:∀ i,h1.length≤i→F i:=fun i hi=>hF i (Nat.le_trans P.upd.1 hi)
   have hrest:=P.rest.trans S.rest
   have hbad:=P.bad.trans s5
   have hst:=P.st
   cases o with
   | err x kx =>
    obtain ⟨hx,hx2,hdn⟩:=hst
    rw [Infl.run_err] at hq
    refine bA (by rw [hx]; rcases hx2 with rfl | rfl <;> decide) ?_
    refine aT P.dec.recd rfl (ltr rfl) (hk:=fun h2 l2 U2 R2=>?_)
    have D2:Dec L h2 F d { r1 with bad:=true } kx.out told:=P.dec.with U2 R2 rfl rfl rfl rfl
    refine aE R2 rfl rfl ?_
    refine D2.text (l:=kx.out) ?_
    have O2:cT h2:=O1.upd U2 fun e=>hF0 (e ▸ D2.f d (.inl rfl))
    have:=hq h2 { r1 with bad:=true } (P.upd.trans (U2.mono fun i _ e=>D2.f i (.inl e)) fun _ _ h=>h) ⟨D2,O2,hrest,hdn,rfl,hx2⟩
    rw [hx]
    exact this
   | done kx =>
    obtain ⟨hx,hdn⟩:=hst
    rw [Infl.run_done] at hq
    subst hx
    refine aX rfl (inc (by omega) ?_)
    refine Y0.i2 ?_
    simp only [Y0.t2,bJ,bE, ← Y0.p3.eq_1]
    have P3:Y0.p3 (aK hb Q) (dp d) s i ((k+1:Nat):Int) s.length i false h1:=by
     refine Y0.i3 ?_
     simp only [Y0.t3,bJ,bE, ← Y0.p4.eq_1]
     refine aX rfl ?_
     refine aE P.dec.recd rfl rfl (bP ?_)
     rw [hdn]
     refine bA rfl (inc (by omega) (xT (by omega) ?_))
     refine aT P.dec.recd rfl (ltr rfl) (hk:=fun h2 l2 U2 R2=>?_)
     have D2:Dec L h2 F d { r1 with rest:=s.drop (i+1) } kx.out told:=P.dec.with U2 R2 rfl rfl rfl rfl
     have O2:cT h2:=O1.upd U2 fun e=>hF0 (e ▸ D2.f d (.inl rfl))
     exact hq h2 { r1 with rest:=s.drop (i+1) } (P.upd.trans (U2.mono fun i _ e=>D2.f i (.inl e)) fun _ _ h=>h) ⟨D2,O2,rfl,hdn,hbad⟩
    refine aM ?_ ?_ <;> intro e8
    ·refine aE P.dec.recd rfl rfl (bP ?_)
     cases r1.skip with
     | true=>exact aX rfl P3
     | false =>
      refine bA rfl (aE P.dec.recd rfl rfl (bP ?_))
      rw [hdn]
      exact P3
    ·exact P3
   | wait kx wx cx =>
    obtain ⟨hx,w1,w2,w3,w4,w5⟩:=hst
    subst hx
    refine aX rfl (inc (by omega) ?_)
    refine ih (k+1) h1 r1 kx wx cx (by omega) (fun e=>by omega) ⟨P.dec,O1,hrest,P.inp.trans s1,w1,w2,w3,hbad,w4,w5,by cases wx <;> exact hset⟩ hF1 fun h2 r2 U2 S2=>?_
    exact hq h2 r2 (P.upd.trans U2 fun _ _ h=>h) S2
theorem pB {o:Out} (c:UInt8) (t:List UInt8) (i:Nat):Infl.run L (Infl.bitsOf (c :: t)) i o=Infl.run L (Infl.bitsOf t) (Infl.run L (Huff.loBits c.toNat 8) i o).1 (Infl.run L (Huff.loBits c.toNat 8) i o).2:=by
 show Infl.run L (Huff.loBits c.toNat 8++Infl.bitsOf t) i o=_
 exact Infl.run_append _ _ _ _
omit [XR] in
theorem o7:∀ (bs:List Nat) (i:Nat) (o:Out),i≤(Infl.run L bs i o).1∧(Infl.run L bs i o).1≤i+bs.length
 | bs,i,.done k=>by rw [Infl.run_done]; exact ⟨Nat.le_refl _,Nat.le_add_right _ _⟩
 | bs,i,.err e k=>by rw [Infl.run_err]; exact ⟨Nat.le_refl _,Nat.le_add_right _ _⟩
 | [],i,.wait k w c=>by rw [Infl.run_nil]; exact ⟨Nat.le_refl _,Nat.le_refl _⟩
 | b :: bs, i, .wait k w c => by
  rw [Infl.run_bit,List.length_cons]
  split
  ·have:=o7 bs (i+1) (.wait k w c); omega
  ·have:=o7 bs (i+1) (Infl.bitP L (i / 8+1) { k with skip:=false } w c b); omega
theorem zO {b:Nat} {bs:List Nat} {i:Nat} {k:cA} {w:d6} {c:cH}:i+1≤(Infl.run L (b :: bs) i (.wait k w c)).1:=by
 rw [Infl.run_bit]
 split
 ·exact (o7 bs (i+1) _).1
 ·exact (o7 bs (i+1) _).1
def qD (s:List UInt8) (inp:Nat) (x:Nat × Out):List UInt8:=match x.2 with
 | .done _=>s.drop ((x.1+7) / 8 - inp)
 | _=>[]
theorem zD {hb : aA} {s : List UInt8} (hslen : s.length < 1099511627776) (hF0 : ¬ F 0) {inp0 : Nat} (hin : inp0 + s.length ≤ 1099511627776) :
  ∀ (t:List UInt8) (i:Nat) (h:aA) (r:DR) (kc:cA) (w:d6) (c:cH),s.drop i=t→i≤s.length→DSt L h F d r told (.wait kc w c) (inp0+i) []→(∀ i,h.length≤i→F i) →
  (∀ h' r',Upd F h h'→DSt L h' F d r' told (Infl.run L (Infl.bitsOf t) (8 * (inp0+i)) (.wait kc w c)).2 (inp0+s.length) (qD s inp0 (Infl.run L (Infl.bitsOf t) (8 * (inp0+i)) (.wait kc w c))) →
   Q (.tu [.s ((Infl.run L (Infl.bitsOf t) (8 * (inp0+i)) (.wait kc w c)).2.core.out.drop told),.i .i64 (aBZ (Infl.run L (Infl.bitsOf t) (8 * (inp0+i)) (.wait kc w c)).2)]) h') →
  Y0.p1 (aK hb Q) (dp d) s s.length i h:=by
 have tail:∀ (h:aA) (r:DR) (o:Out) (inp:Nat) (rest:List UInt8),DSt L h F d r told o inp rest→aBZ o=0→Q (.tu [.s (o.core.out.drop told),.i .i64 0]) h→Y0.p4 (aK hb Q) (dp d) h:=fun h r o inp rest S ho hq=>by
  refine Y0.i4 ?_
  simp only [Y0.t4,bJ,bE]
  refine aE S.dec.recd rfl rfl (S.dec.text (l:=o.core.out) (.inl hq))
 intro t
 induction t with
 | nil =>
  intro i h r kc w c ht hi S hF hq
  have:i=s.length:=by have:=aBY ht; omega
  subst this
  rw [show Infl.bitsOf []=[] from rfl,Infl.run_nil] at hq
  refine Y0.i1 ?_
  simp only [Y0.t1, ← Y0.p4.eq_1]
  refine aX (by simp) (tail h r _ _ _ S rfl (hq h r (Upd.refl _ _) S))
 | cons ch t ih =>
  intro i h r kc w c ht hi S hF hq
  have hsi:=aDK ht
  have hat:=wM ht
  have htn:=zW ht
  obtain ⟨s1,s2,s3,s4,s5,s6,s7,s8⟩:=S.st
  refine Y0.i1 ?_
  simp only [Y0.t1,bJ,bE, ← Y0.p2.eq_1]
  refine bA (by simp; omega) ?_
  refine aE S.dec.recd rfl rfl (aD ?_)
  rw [s1]
  refine inc (by omega) ?_
  refine aT S.dec.recd rfl (ltr rfl) (hk:=fun h1 l1 U1 R1=>?_)
  refine aT R1 rfl (ltr rfl) (hk:=fun h2 l2 U2 R2=>?_)
  have U:=U1.trans U2 fun _ _ h=>h
  have UF:Upd F h h2:=U.mono fun i _ e=>S.dec.f i (.inl e)
  have D2:Dec L h2 F d { r with input:=inp0+i+1,skip:=false } kc.out told:=by
   have D:=S.dec
   exact { recd:=R2,past:=D.past.upd U fun i hi e=>D.d1 (e ▸ hi),fresh:=D.fresh.upd U fun i hi e=>D.d2 (e ▸ hi),total:=D.total,told:=D.told,d1:=D.d1,d2:=D.d2,d3:=D.d3,lim:=D.lim,inp:=by show inp0+i+1≤_; omega,len:=D.len,f:=D.f }
  have O2:cT h2:=S.ord.upd U fun e=>hF0 (e ▸ D2.f d (.inl rfl))
  have W2:t9 h2 F d { r with input:=inp0+i+1,skip:=false } w c:=by
   cases w with
   | num need hv acc =>
    obtain ⟨w1,w2,w3,w4,w5,w6⟩:=s6
    exact ⟨w1,w2,w3,w4,w5,w6.upd U (fun i hi e=>hi.2 (.inl e)) fun _ _ h=>h⟩
   | sym l n x =>
    obtain ⟨w1,ic,sym,w2,w3,w4⟩:=s6
    exact ⟨w1,ic,sym,w2,w3.upd U (fun i hi e=>hi.2 (.inl e)) fun _ _ h=>h,w4.upd U (fun i hi e=>hi.1.2 (.inl e)) fun _ _ h=>h⟩
  have S2:DSt L h2 F d { r with input:=inp0+i+1,skip:=false } told (.wait { kc with skip:=false } w c) (inp0+i+1) []:=⟨D2,O2,S.rest,rfl,s2,rfl,s4,s5,W2,s7,by cases w <;> exact s8⟩
  have hbits:Huff.loBits ch.toNat 8=ch.toNat % 2 :: Huff.loBits (ch.toNat / 2) 7:=rfl
  have hal:Infl.run L (Huff.loBits ch.toNat 8) (8 * (inp0+i)) (.wait kc w c)=Infl.run L (Huff.loBits ch.toNat 8) (8 * (inp0+i)) (.wait { kc with skip:=false } w c):=by
   rw [hbits]; exact Infl.run_aligned (by omega)
  have hrl:=o7 (L:=L) (Huff.loBits ch.toNat 8) (8 * (inp0+i)) (.wait { kc with skip:=false } w c)
  have hrf:8 * (inp0+i)+1≤(Infl.run L (Huff.loBits ch.toNat 8) (8 * (inp0+i)) (.wait { kc with skip:=false } w c)).1:=by rw [hbits]; exact zO
  rw [sM] at hrl
  rw [pB,hal] at hq
  refine aAB (inp:=inp0+i+1) hat hslen hF0 (by omega) 8 0 h2 _ { kc with skip:=false } w c rfl (fun _=>rfl) S2 (fun i hi=>hF i (by omega)) fun h3 r3 U3 S3=>?_
  rw [Nat.pow_zero,Nat.div_one,show 8 * (inp0+i+1 - 1)+0=8 * (inp0+i) by omega] at S3 ⊢
  have hpos:=fun {k':cA} {w':d6} {c':cH} hh=>Infl.run_pos (L:=L) (Huff.loBits ch.toNat 8) (8 * (inp0+i)) (.wait { kc with skip:=false } w c) (k:=k') (w:=w') (c:=c') hh
  rw [sM] at hpos
  generalize hX:Infl.run L (Huff.loBits ch.toNat 8) (8 * (inp0+i)) (.wait { kc with skip:=false } w c)=X at S3 hq hrl hrf hpos ⊢
  obtain ⟨p,o⟩:=X
  simp only at S3 hq hrl hrf hpos ⊢
  have UF3:Upd F h h3:=UF.trans U3 fun _ _ h=>h
  cases o with
  | wait k' w' c' =>
   have hp:p=8 * (inp0+(i+1)):=by rw [hpos rfl]; omega
   subst hp
   refine ih (i+1) h3 r3 k' w' c' htn (by omega) S3 (fun i hi=>hF i (Nat.le_trans UF3.1 hi)) fun h4 r4 U4 S4=>?_
   exact hq h4 r4 (UF3.trans U4 fun _ _ h=>h) S4
  | done k' =>
   rw [Infl.run_done] at hq
   have hr:qD s inp0 (p,.done k')=s.drop (i+1):=by
    unfold qD
    simp only
    congr 1; omega
   rw [hr] at hq
   exact tail h3 r3 _ _ _ S3 rfl (hq h3 r3 UF3 ⟨S3.dec,S3.ord,S3.rest,S3.st⟩)
  | err e' k' =>
   rw [Infl.run_err] at hq
   exact .inl (hq h3 r3 UF3 ⟨S3.dec,S3.ord,S3.rest,S3.st⟩)
theorem aEU {s:List UInt8} {kc:cA} {w:d6} {c:cH} {inp:Nat} (hF0:¬ F 0) (hs:inp+s.length<1099511627776) (S:DSt L h F d r told (.wait kc w c) inp []) (hF:∀ i,h.length≤i→F i)
  (hq:∀ h' r',Upd F h h'→DSt L h' F d r' kc.out.length (Infl.run L (Infl.bitsOf s) (8 * inp) (.wait kc w c)).2 (inp+s.length) (qD s inp (Infl.run L (Infl.bitsOf s) (8 * inp) (.wait kc w c))) →
   Q (.tu [.s ((Infl.run L (Infl.bitsOf s) (8 * inp) (.wait kc w c)).2.core.out.drop kc.out.length),.i .i64 (aBZ (Infl.run L (Infl.bitsOf s) (8 * inp) (.wait kc w c)).2)]) h') :
  C Y0.id [dp d,.s s] h Q:=by
 obtain ⟨s1,s2,s3,s4,s5,s6,s7,s8⟩:=S.st
 refine Y0.call ?_
 simp only [Y0.t, ← Y0.p0.eq_1]
 refine j9 (by kernel_rfl) (bP (aX rfl ?_))
 simp only [bJ,bE]
 refine aE S.dec.recd rfl rfl (bP ?_)
 rw [s5]
 refine aX rfl (aE S.dec.recd rfl rfl (bP ?_))
 rw [s4]
 refine Y0.i0 ?_
 simp only [Y0.t0,bJ,bE, ← Y0.p1.eq_1]
 refine aX rfl ?_
 refine aT S.dec.recd rfl (ltr rfl) (hk:=fun h1 l1 U1 R1=>?_)
 have UF:Upd F h h1:=U1.mono fun i _ e=>S.dec.f i (.inl e)
 have D1:Dec L h1 F d { r with fresh:=.sl none 0 none } kc.out kc.out.length:=by
  have D:=S.dec
  exact { recd:=R1,past:=D.past.upd U1 fun i hi e=>D.d1 (e ▸ hi),fresh:=.inl ⟨rfl,by simp⟩,total:=D.total,told:=Nat.le_refl _,d1:=D.d1,d2:=fun h=>h,d3:=fun _ _ h=>h,lim:=D.lim,inp:=D.inp,len:=D.len,f:=fun i hi=>hi.elim (fun e=>D.f i (.inl e)) fun hi=>hi.elim (fun e=>D.f i (.inr (.inl e))) fun e=>e.elim }
 have O1:cT h1:=S.ord.upd U1 fun e=>hF0 (e ▸ D1.f d (.inl rfl))
 have hg:∀ i,Gd F d r i→Gd F d { r with fresh:=.sl none 0 none } i:=fun i hi=>⟨hi.1,fun m=>hi.2 (m.elim .inl fun m=>m.elim (fun e=>.inr (.inl e)) fun e=>e.elim)⟩
 have W1:t9 h1 F d { r with fresh:=.sl none 0 none } w c:=by
  cases w with
  | num need hv acc =>
   obtain ⟨w1,w2,w3,w4,w5,w6⟩:=s6
   exact ⟨w1,w2,w3,w4,w5,w6.upd U1 (fun i hi e=>hi.2 (.inl e)) fun i _ h=>hg i h⟩
  | sym l n x =>
   obtain ⟨w1,ic,sym,w2,w3,w4⟩:=s6
   exact ⟨w1,ic,sym,w2,w3.upd U1 (fun i hi e=>hi.2 (.inl e)) fun i _ h=>hg i h,w4.upd U1 (fun i hi e=>hi.1.2 (.inl e)) fun i _ h=>⟨hg i h.1,h.2⟩⟩
 refine zD (inp0:=inp) (by omega) hF0 (by omega) s 0 h1 { r with fresh:=.sl none 0 none } kc w c (List.drop_zero) (Nat.zero_le _) ⟨D1,O1,S.rest,s1,s2,s3,s4,s5,W1,s7,s8⟩ (fun i hi=>hF i (by omega)) fun h2 r2 U2 S2=>?_
 exact hq h2 r2 (UF.trans U2 fun _ _ h=>h) S2
def bnd (n:Int) (lo hi:Nat):Nat:=(min (max n lo) hi).toNat
theorem aFE (n:Int) {lo hi:Nat} (h:lo≤hi):mmI false (mmI true n (lo:Int)) (hi:Int)=(bnd n lo hi:Int):=by
 unfold mmI bnd
 simp only [cond_true,cond_false]
 split <;> split <;> omega
def jQ (o ra:Int):Lim:=⟨bnd o 0 65536,bnd ra 1 1100⟩
theorem aF6 {o ra : Int} (O : cT h) (hq : ∀ h' d r, Upd (fun _ => False) h h' → h.length ≤ d → DSt (jQ o ra) h' (fun i => h.length ≤ i) d r 0 Infl.start 0 [] → Q (dp d) h') : C Y78.id [.ag [.i .i64 o, .i .i64 ra]] h Q := by
  have bb:∀ {n:Int} {lo hi:Nat} {h:aA} {Q:AV→aA→Prop},lo≤hi→Q (iN (bnd n lo hi)) h→C Y58.id [.i .i64 n,iN lo,iN hi] h Q:=fun {n lo hi h Q} hl hq=>by
    refine Y58.call ?_
    simp only [Y58.t]
    exact aG (aFE n hl) (.inl hq)
  refine Y78.call ?_
  simp only [Y78.t]
  refine bT (hk:=fun h1 l1 U1 R1=>?_)
  have R1:bD h1 h.length [.i .i64 o,.i .i64 ra]:=R1
  have e2:(AV.ag [.i .i64 o,.i .i64 ra]).parts.length=2:=rfl
  simp only [e2,bE]
  refine aE R1 rfl rfl (aD (aE R1 rfl rfl (aD ?_)))
  refine bb (lo:=0) (hi:=65536) (by decide) (aD ?_)
  refine aE R1 rfl rfl (aD ⟨rfl, ?_⟩)
  refine bb (lo:=1) (hi:=1100) (by decide) (aD ?_)
  refine aEJ (cs:=DR.cells (jQ o ra) ⟨.sl none 0 none,0,.sl none 0 none,0,false,false,false,false,[],0,0,0,.p none,.nf⟩) rfl ?_
  refine bT (hk:=fun h2 l2 U2 R2=>?_)
  have U:=U1.then U2
  have D2:Dec (jQ o ra) h2 (fun i=>h.length≤i) h1.length ⟨.sl none 0 none,0,.sl none 0 none,0,false,false,false,false,[],0,0,0,.p none,.nf⟩ [] 0:=
    { recd:=R2,past:=.inl ⟨rfl,rfl⟩,fresh:=.inl ⟨rfl,rfl⟩,total:=rfl,told:=Nat.le_refl _,d1:=fun h=>h,d2:=fun h=>h,d3:=fun _ h=>h.elim,lim:=⟨by show bnd o 0 65536≤_; unfold bnd; omega,by show bnd ra 1 1100≤_; unfold bnd; omega⟩,inp:=by decide,len:=by decide,f:=fun i hi=>by
        rcases hi with e | e | e
        · subst e; exact U1.1
        · exact e.elim
        · exact e.elim }
  refine rW D2 (fun i hi=>Nat.le_trans U.1 hi) rfl fun e h3 r3 P=>aD (.inl ?_)
  have hU3:Upd (fun _=>False) h h3:=U.own P.upd U1.1
  obtain ⟨w0,w1,w2,w3,w4,w5⟩:=P.st
  exact hq h3 h1.length r3 hU3 U1.1 ⟨P.dec,O.upd hU3 fun h=>h,P.rest,P.inp,w1,w2,w3,P.bad,w4,w5,by show 0<3; decide⟩
end
end Go.Proofs.YtpaphfeihpgamaaDoor
namespace Go.Proofs.YtpaphfeihpgamaaDoor
open Go.GAM
open Go.Infl (cA d6 cH Out Lim)
def aGM (e:Nat):Int:=if e=3 then 1 else if e=0 then 0 else eno e
section
variable [XR] {h:aA} {Q:AV→aA→Prop} {L:Lim} {s:List UInt8} {d:Nat} {r:RS} {out:List UInt8} {F:Infl.Fin}
end
end Go.Proofs.YtpaphfeihpgamaaDoor
namespace Go.Proofs.YtpaphfeihpgamaaDoor
open Go.GAM
open Go.Infl (cA d6 cH Out Lim)
def aB1 (L:Lim) (s:List UInt8):List UInt8 × Int:=match Infl.run L (Infl.bitsOf s) 0 Infl.start with
 | (p,.done k)=>if s.drop ((p+7) / 8)=[] then (k.out,0) else ([],2)
 | (_,.err e _)=>([],eno e)
 | (_,.wait ..)=>([],1)
theorem aEA {e:Nat} (h:e=1∨e=2):aGM e=eno e∧eno e≠0:=by rcases h with rfl | rfl <;> exact ⟨rfl,by decide⟩
section
variable [XR] {h:aA} {Q:AV→aA→Prop} {L:Lim} {s:List UInt8} {o ra:Int}
theorem cT.lt (O:cT h):0<h.length:=by obtain ⟨b,hb,_⟩:=O; exact aN hb
def aGH:Out→Prop
 | .err e _=>e=1∨e=2
 | _=>True
theorem aEO (O:cT h) (hs:s.length<1073741824) (hq:∀ h',Upd (fun _=>False) h h'→aGH (Infl.run (jQ o ra) (Infl.bitsOf s) 0 Infl.start).2→Q (.tu [.s (aB1 (jQ o ra) s).1,.i .i64 (aB1 (jQ o ra) s).2]) h'):C Y53.id [.s s,.ag [.i .i64 o,.i .i64 ra]] h Q:=by
 refine Y53.call ?_
 simp only [Y53.t]
 refine bT (hk:=fun h1 l1 U1 R1=>?_)
 have R1:bD h1 h.length [.i .i64 o,.i .i64 ra]:=R1
 have e2:(AV.ag [.i .i64 o,.i .i64 ra]).parts.length=2:=rfl
 rw [e2]
 refine jJ R1 rfl ?_
 have O1:cT h1:=O.upd U1 fun h=>h
 refine aF6 O1 fun h2 d r U2 hd S2=>?_
 have hlt:=O1.lt
 refine aEU (F:=fun i=>h1.length≤i) (by omega) (by omega) S2 (fun i hi=>Nat.le_trans U2.1 hi) fun h3 r3 U3 S3=>?_
 have U:Upd (fun _=>False) h h3:=(U1.then U2).ownP U3 fun i hi=>Nat.le_trans U1.1 hi
 simp only [d7,dW]
 unfold aB1 at hq
 have e0:Infl.run (jQ o ra) (Infl.bitsOf s) (8 * 0) (.wait ⟨[],false,false⟩ (.num 3 0 0) .block)=Infl.run (jQ o ra) (Infl.bitsOf s) 0 Infl.start:=rfl
 rw [e0] at S3 ⊢
 generalize Infl.run (jQ o ra) (Infl.bitsOf s) 0 Infl.start=X at S3 hq ⊢
 obtain ⟨p,x⟩:=X
 have D3:=S3.dec
 have hst:=S3.st
 have hrs:=S3.rest
 refine b7 (aD ?_)
 cases x with
 | err e k =>
  obtain ⟨h1',h2',h3'⟩:=hst
  have hne:=(aEA h3').2
  refine bA (by show (!decide (eno e=0))=true; simp [hne]) (.inl (hq h3 U h3'))
 | wait k w c =>
  obtain ⟨_,_,_,hdn,_⟩:=hst
  refine aX rfl ?_
  simp only [bJ,bE]
  refine aE D3.recd rfl rfl (bP ?_)
  rw [hdn]
  exact bA rfl (.inl (hq h3 U trivial))
 | done k =>
  obtain ⟨hdn,_⟩:=hst
  refine aX rfl ?_
  simp only [bJ,bE]
  refine aE D3.recd rfl rfl (bP ?_)
  rw [hdn]
  refine aX rfl (aE D3.recd rfl rfl (b7 ?_))
  have hr:r3.rest=s.drop ((p+7) / 8):=by rw [hrs]; unfold qD; simp
  rw [hr]
  refine aM ?_ ?_ <;> intro e
  ·have e : ¬ s.drop ((p + 7) / 8) = [] := by simpa using e
   have:=hq h3 U trivial
   simp only [if_neg e] at this
   exact .inl this
  ·have e : s.drop ((p + 7) / 8) = [] := by simpa using e
   have:=hq h3 U trivial
   simp only [if_pos e] at this
   exact .inl this
def aF2 [XR]:Prop:=∀ {h:aA} {Q:AV→aA→Prop},cT h→(∀ h',Upd (fun _=>False) h h'→Q (.b true) h')→C Y29.id [] h Q
end
end Go.Proofs.YtpaphfeihpgamaaDoor
namespace Go.Proofs.YtpaphfeihpgamaaDoor
open Go.GAM
open Go.Infl (cA d6 cH Out Lim)
end Go.Proofs.YtpaphfeihpgamaaDoor
namespace Go.Proofs.YtpaphfeihpgamaaDoor
open Go.GAM
theorem aF1:∀ c:Fin 256,bK .xor .u8 (IntKind.max .u8) ((c.1:Nat):Int)=((255 - c.1:Nat):Int):=by decide +kernel
theorem ofN {k:Nat} (hk:k<256):byteAV (UInt8.ofNat k) = .i .u8 (k:Int):=by
 unfold byteAV
 rw [UInt8.toNat_ofNat',Nat.mod_eq_of_lt hk]
theorem kR {n:Nat}:IntKind.wrap .u8 (n:Int)=((n % 256:Nat):Int):=by
 simp only [IntKind.wrap,IntKind.bits,IntKind.signed,Bool.false_and]
 have:(2:Int) ^ 8=256:=by decide
 rw [this]
 simp
def hdr (n:Nat):List UInt8:=[1,UInt8.ofNat (n % 256),UInt8.ofNat (n / 256),UInt8.ofNat (255 - n % 256),UInt8.ofNat (255 - n / 256)]
theorem rH {n:Nat} (h:n<65536):(hdr n).map byteAV=[.i .u8 1,.i .u8 ((n % 256:Nat):Int),.i .u8 ((n / 256:Nat):Int),.i .u8 ((255 - n % 256:Nat):Int),.i .u8 ((255 - n / 256:Nat):Int)]:=by
 unfold hdr
 rw [List.map_cons,List.map_cons,List.map_cons,List.map_cons,List.map_cons,List.map_nil,ofN (by omega),ofN (by omega),ofN (by omega),ofN (by omega)]
 first | done | rfl
theorem aGC {n:Nat} {K:Int→Prop} (hk:K ((n / 256:Nat):Int)):jV .i64 (n:Int) 8 K:=by
 refine ⟨by decide, ?_⟩
 have e:(n:Int).fdiv (2 ^ (min (8:Int).toNat IntKind.i64.bits))=((n / 256:Nat):Int):=by
  show (n:Int).fdiv (2 ^ 8)=_
  rw [show (2:Int) ^ 8=((256:Nat):Int) by decide,Int.ofNat_fdiv]
 rw [e]; exact hk
section
variable [XR] {h:aA} {Q:AV→aA→Prop} {s:List UInt8}
theorem rI (hG:s.length≤59∨tE) (hs:s.length≤65535) (hq:Q (.s (Infl.storedBytes s)) h):C Y23.id [.s s] h Q:=by
 refine Y23.call ?_
 simp only [Y23.t, ← Y23.p0.eq_1]
 refine cB fun h1 l1 U1 R1=>?_
 have R1:iK h1 h.length nilS:=R1
 refine Y23.i0 ?_
 simp only [Y23.t0, ← Y23.p1.eq_1]
 have e0:mmI false (s.length:Int) 65535=((s.length:Nat):Int):=by unfold mmI; simp only [cond_false]; split <;> omega
 refine aG e0 (bA (decide_eq_true rfl) ?_)
 refine Y23.i1 ?_
 simp only [Y23.t1, ← Y23.p0.eq_1]
 have n8:s.length / 256<256:=by omega
 refine aGC ?_
 rw [kR,kR,Nat.mod_eq_of_lt n8]
 refine aG (aF1 ⟨s.length % 256,Nat.mod_lt _ (by decide)⟩) (aGC ?_)
 rw [kR,Nat.mod_eq_of_lt n8]
 refine aG (aF1 ⟨s.length / 256,n8⟩) ?_
 refine dG (cs:=(hdr s.length).map byteAV) (by rw [rH (by omega)] <;> rfl) rfl fun x h2 l2 U2 R2 F2=>?_
 have hx:¬ aS x h.length:=fun e=>by have:=F2 _ e; have:=U1.1; omega
 refine uC (ns:=hdr s.length) (n0:=by show 0<5; decide) (R1.upd U2 fun h=>h) (by show 5≤64; decide) R2 hx fun h3 id U3 hid R3 B3=>?_
 have hl1:=R1.lt
 have hl2:=U2.1
 refine tM (Nat.le_refl _) ?_
 rw [List.take_length]
 refine wZ (bs:=hdr s.length) (ns:=s) (hG.imp (fun h=>by show 5+s.length≤64; omega) fun h=>h) R3 B3 (by omega) (by show 0<5; decide) (by omega) fun h4 id' N ex U4 hid' R4 B4=>?_
 refine xT (Nat.le_refl _) (bA rfl ?_)
 have e1:(hdr s.length).length+s.length=(hdr s.length++s).length:=by simp
 rw [e1] at R4
 refine aFR R4 B4 (b7 ?_)
 have hl3:=U3.1
 refine eC rfl (Upd.ext ?_) hq
 exact (((U1.then U2).own U3 (Nat.le_refl _)).trans U4 fun i hi e=>by omega)
theorem wJ (hs:s.length≤65535) (hq:Q (.s (Infl.storedBytes s)) h):C Y31.id [.s s] h Q:=by
 refine Y31.call ?_
 simp only [Y31.t, ← Y31.p0.eq_1]
 refine aX (decide_eq_false (by omega)) ?_
 refine Y31.i0 ?_
 simp only [Y31.t0]
 have n8:s.length / 256<256:=by omega
 have em:((s.length:Int)).tmod 256=((s.length % 256:Nat):Int):=by
  rw [Int.tmod_eq_emod_of_nonneg (by omega)]; omega
 have eq:((s.length:Int)).tdiv 256=((s.length / 256:Nat):Int):=by
  rw [Int.tdiv_eq_ediv_of_nonneg (by omega)]; omega
 refine jD (by decide) em (iH (by decide) (by rw [eq,aL (by omega) (by omega)]) (jD (by decide) em ?_))
 refine aG (n:=((255 - s.length % 256:Nat):Int)) (by rw [aL (by omega) (by omega)]; omega) ?_
 refine iH (n:=((s.length / 256:Nat):Int)) (by decide) (by rw [eq,aL (by omega) (by omega)]) ?_
 refine aG (n:=((255 - s.length / 256:Nat):Int)) (by rw [aL (by omega) (by omega)]; omega) ?_
 refine tM (Nat.le_refl _) ?_
 rw [List.take_length,kR,kR,kR,kR,Nat.mod_mod,Nat.mod_eq_of_lt n8,Nat.mod_eq_of_lt (show 255 - s.length % 256<256 by omega),Nat.mod_eq_of_lt (show 255 - s.length / 256<256 by omega)]
 refine dG (cs:=(hdr s.length).map byteAV) (by rw [rH (by omega)] <;> rfl) rfl fun x h2 l2 U2 R2 F2=>?_
 have Bx:Byt h2 x (hdr s.length):=R2
 refine Bx.str ⟨by show ((5+s.length:Nat):Int)≤_; omega, ?_⟩
 refine bA rfl (eC rfl (Upd.ext U2) hq)
end
def X1:aU:=orR (orR (aDM aD3) (aFX prog (@C xr0) (dS prog))) (aFC prog (@C xr0))
theorem aCD:gY prog X1:=fun w0 Fz μ f args h K hk=>
 hk.elim (fun hk=>hk.elim (k8 w0 Fz μ f args h K) (z8 mixedOK sizeOK (nM mixedOK sizeOK k8) (gX _) (fun w0 Fz μb Y hY=>gN mixedOK sizeOK hY) w0 Fz μ f args h K))
  (aAK mixedOK sizeOK (nM mixedOK sizeOK k8) w0 Fz μ f args h K)
noncomputable instance xr1:XR:=⟨X1⟩
theorem aFG {W:World}:bU prog W (fun B=>B<W.heap.size) (fun _ _=>none) (@X xr1):=aCD _ _ _
theorem rY {s:List UInt8} (hs:s.length<1073741824) : @oJ xr1 s:=fun h Q i v hi S hq=>r9 (.inl (.inr (aDQ hs hi S hq)))
theorem aFF : @tE xr1:=fun h Q id N n bs B hN h1 hn hq=>r9 (.inr (aE7 B hN h1 hn hq))
theorem uN {h:aA} {Q:AV→aA→Prop} (hq:Q (.ag [.i .i64 65536,.i .i64 1100]) h):C Y52.id [] h Q:=by
 refine Y52.call ?_
 unfold Y52.t
 refine cB fun h1 l1 U1 R1=>hP R1 rfl rfl rfl fun h2 l2 U2 R2=>jJ R2 rfl ?_
 exact eC rfl (Upd.ext (U1.own U2 (Nat.le_refl _))) hq
theorem xW : @aF2 xr1:=by
 intro h Q O hq
 refine Y29.call ?_
 simp only [Y29.t, ← Y29.p0.eq_1]
 refine uN (aEO O (by decide) fun h1 U1 _=>?_)
 have e1:aB1 (jQ 65536 1100) [75,4,0]=([97],0):=by decide +kernel
 rw [e1]
 simp only [d7,dW]
 refine b7 (aD (uN (aEO (O.upd U1 fun h=>h) (by decide) fun h2 U2 _=>?_)))
 have e2:(aB1 (jQ 65536 1100) [75,4]).2=1:=by decide +kernel
 simp only [d7,dW]
 rw [e2]
 refine b7 (aD (bA (by decide) (bA (by decide) (bA (by decide) ?_))))
 refine rI (.inl (by decide)) (by decide) (b7 (bA (by decide +kernel) ?_))
 refine pL (rY (by decide)) (by decide) (b7 (bA (by decide +kernel) ?_))
 refine pL (rY (by decide)) (by decide) (b7 ?_)
 refine Y29.i0 ?_
 simp only [Y29.t0]
 have e3:decide (Infl.fixedText [97,97,97,97,97,97]=[75,4,3,0])=true:=by decide +kernel
 rw [e3]
 exact eC rfl (Upd.ext (U1.then U2)) (hq _ (Upd.refl _ _))
end Go.Proofs.YtpaphfeihpgamaaDoor
namespace Go.Proofs.YtpaphfeihpgamaaDoor
open Go.GAM Go.RowKit Go.ChangeShapes
section
variable {H:Type} {enc:TypeId × Value→H} {w:World}
theorem aC9 {g:Nat} {cs:Array Value} {n:String} (hg:prog.globalNamed n=some g) (hv:w.var? prog n=some cs):sI (gU w fun _=>1) g (cs.toList.map (sJ w fun _=>1)):=by
 obtain ⟨t,fr,h⟩:=y0 hg hv
 have hlt:g<w.heap.size:=(Array.getElem?_eq_some_iff.1 h).1
 refine ⟨qT w (fun _=>1) g, ?_, ?_, ?_, ?_⟩
 ·unfold gU
  rw [List.getElem?_append_left (by simpa using hlt),List.getElem?_map,List.getElem?_range hlt] <;> rfl
 ·simp only [qT,h]
 ·simp only [qT,h]; simp
 ·simp only [qT,h]
theorem aE8 {l : List (String × DataW Unit)} (h1 : ("intrusion/inflate.order", Rows.laid_intrusion_inflate_order) ∈ l) (hL : laidMet prog l w) : cT (gU w fun _ => 1) := by
 obtain ⟨g,t,cs,fuel,p,hg,ht,hv,hd⟩:=wU h1 hL
 obtain rfl:=Option.some.inj ((show prog.globalNamed "intrusion/inflate.order" = some 0 by kernel_rfl).symm.trans hg)
 obtain rfl:=Option.some.inj ((show (prog.globals[0]?).map (·.type)=some 90 by kernel_rfl).symm.trans ht)
 have hG:=aC9 hg hv
 obtain ⟨xs,m,rfl,hx,hlen,hl,hf⟩:=DataW.trod_array Tryd.underlying90 hd
 have c1:prog.cellsOf 3=1:=by kernel_rfl
 have c19:prog.cellsOf 90=19:=by kernel_rfl
 rw [c19] at hlen
 rw [c1] at hf
 have hxs:xs.map (·.1)=Infl.order.map fun n:Nat=>(.lit (.int .i64 (n:Int)):DataW Unit):=by
  have:=(congrArg Prod.fst hx).symm
  unfold Rows.laid_intrusion_inflate_order at this
  exact DataW.agg.inj this
 have e:cs.toList.map (sJ w fun _=>1)=bB Infl.order:=by
  refine List.ext_getElem? fun i=>?_
  by_cases hi:i<19
  ·have h1 := hf i hi
   have h2:(xs.map (·.1))[i]? = (Infl.order.map fun n:Nat=>(.lit (.int .i64 (n:Int)):DataW Unit))[i]?:=by rw [hxs]
   obtain ⟨c,hc⟩:∃ c,cs.toList[i]? = some c:=⟨_,List.getElem?_eq_getElem (by omega)⟩
   have h3:(cs.toList.drop (i * 1)).take 1=[c]:=by
    rw [Nat.mul_one,List.drop_eq_getElem_cons (by omega)]
    simp only [List.take_succ_cons,List.take_zero]
    rw [List.getElem?_eq_getElem (by omega)] at hc
    rw [Option.some.inj hc]
   rw [h3] at h1
   obtain ⟨o,ho⟩:∃ o,Infl.order[i]? = some o:=⟨_,List.getElem?_eq_getElem (by show i<19; exact hi)⟩
   rw [List.getElem?_map,List.getElem?_map, ← h1,ho] at h2
   cases hy:DataW.trod (fun _=>()) prog w 0 (fun _=>true) false m 3 [c] with
   | none=>rw [hy] at h2; cases h2
   | some y =>
    rw [hy] at h2
    obtain ⟨n,e1,e2,_⟩:=DataW.trod_int (show prog.underlying 3=some (.int .i64) by kernel_rfl) hy
    have e1:=List.singleton_inj.1 e1
    subst e1 e2
    have e3:n=(o:Int):=by simpa using h2
    unfold bB
    rw [List.getElem?_map,List.getElem?_map,hc,ho]
    simp [sJ,nL,e3]
  ·have h0 : Infl.order.length = 19 := rfl
   rw [List.getElem?_eq_none (by simp at hlen ⊢; omega),List.getElem?_eq_none (by unfold bB; rw [List.length_map,h0]; omega)]
 rw [e] at hG
 exact hG
end
end Go.Proofs.YtpaphfeihpgamaaDoor
namespace Go.Proofs.YtpaphfeihpgamaaDoor
open Go.GAM
end Go.Proofs.YtpaphfeihpgamaaDoor
namespace Go.Proofs.YtpaphfeihpgamaaDoor
open Go.GAM
abbrev bq (q:Nat):AV:=.p (some ⟨q,1,0⟩)
def z0 (bs:List Nat):List UInt8:=bs.map UInt8.ofNat
def BB (h:aA) (G:Nat→Prop) (q:Nat) (bs:List Nat):Prop:=∃ v,bD h q [v]∧dB u8T h v (z0 bs)∧(∀ i,aS v i→G i∧i≠q)∧G q∧∀ x∈bs,x<2
theorem BB.upd {h h':aA} {G G' N:Nat→Prop} {q:Nat} {bs:List Nat} (B:BB h G q bs) (U:Upd N h h') (hN:∀ i,G i→¬ N i) (hG:∀ i,i<h.length→G i→G' i):BB h' G' q bs:=by
 obtain ⟨v,R,T,g,gq,hx⟩:=B
 exact ⟨v,R.upd U (hN q gq),T.upd U fun i hi=>hN i (g i hi).1,fun i hi=>⟨hG i (T.lt hi) (g i hi).1,(g i hi).2⟩,hG q R.lt gq,hx⟩
section
variable [XR] {h:aA} {Q:AV→aA→Prop} {G:Nat→Prop} {q:Nat}
theorem aGN {a:Nat} (ha:a<2 ^ 62):IntKind.wrap .u8 (bK .and .i64 (a:Int) 1)=((a % 2:Nat):Int):=by
 have:=hZ (x:=a) (y:=1) (by omega) (by decide)
 rw [Nat.and_one_is_mod] at this
 rw [show ((1:Nat):Int)=1 from rfl] at this
 rw [this]
 have:=Nat.mod_lt a (show 0<2 by decide)
 exact tA (by omega) (by omega)
theorem aCN {b:Nat} (h:b<2):AV.i .u8 (b:Int)=byteAV (UInt8.ofNat b):=by
 unfold byteAV
 rw [UInt8.toNat_ofNat',Nat.mod_eq_of_lt (show b<2 ^ 8 by omega)]
theorem aEF {bs:List Nat} {x i:Nat} (hlen:bs.length<2 ^ 40) (hx:x<2 ^ 62) (hi:i<64) (hG:∀ i,h.length≤i→G i) (B:BB h G q bs) {K:aA→Prop} (hk:∀ h',Upd G h h'→BB h' G q (bs++[x / 2 ^ i % 2])→K h') :
  aB (.p (some ⟨q,1,0+0⟩)) h fun v5=>jV .i64 (x:Int) (IntKind.wrap .u64 (i:Int)) fun n6=>aJ (IntKind.wrap .u8 (bK .and .i64 n6 1)) fun n7=>
   bF 1 1 [(AV.i .u8 0)] [(0,1,(AV.i .u8 n7))] h fun v8 h9=>bM (some u8T) 1 1 v5 v8 h9 fun v10 h11=>aV 1 (.p (some ⟨q,1,0+0⟩)) v10 h11 K:=by
 obtain ⟨v,R,T,g,gq,hx2⟩:=B
 refine aE R rfl rfl ?_
 have ew:IntKind.wrap .u64 (i:Int)=((i:Nat):Int):=by
  simp only [IntKind.wrap,IntKind.bits,IntKind.signed,Bool.false_and]
  have:(2:Int) ^ 64=18446744073709551616:=by decide
  rw [this]
  simp
  omega
 rw [ew]
 refine pA (by show i≤64; omega) ?_
 have hlt:x / 2 ^ i<2 ^ 62:=Nat.lt_of_le_of_lt (Nat.div_le_self _ _) hx
 refine aG (aGN hlt) ?_
 have hb:x / 2 ^ i % 2<2:=Nat.mod_lt _ (by decide)
 rw [aCN hb]
 refine dG (cs:=[byteAV (UInt8.ofNat (x / 2 ^ i % 2))]) rfl rfl (hk:=fun y h1 l1 U1 R1 hy=>?_)
 refine (T.upd U1 fun _ _ h=>h).append (t:=[UInt8.ofNat (x / 2 ^ i % 2)]) (fun K' hK=>R1.news hK) (by unfold z0; simp; omega) fun v' h' U2 B2 g2=>?_
 have hv:¬ aS v q:=fun h=>(g q h).2 rfl
 have R2:=(R.upd U1 fun h=>h).upd U2 hv
 have hv':¬ aS v' q:=fun h=>by
  rcases g2 q h with h | h
  ·exact hv h
  ·have:=R.lt; omega
 obtain ⟨s1,s2,s3⟩:=slv B2
 refine aT R2 rfl Nat.one_pos s1 s2 s3 (hk:=fun h3 l3 U3 R3=>?_)
 refine hk h3 ?_ ⟨v',R3, ?_,fun i hi=>⟨?_,fun e=>hv' (e ▸ hi)⟩,gq, ?_⟩
 ·exact ((U1.mono fun _ _ h=>h.elim).trans (U2.mono fun i _ h=>(g i h).1) fun _ _ h=>h).trans (U3.mono fun i _ e=>(e ▸ gq:G i)) fun _ _ h=>h
 ·unfold z0
  rw [List.map_append]
  exact B2.upd U3 fun i hi e=>hv' (e ▸ hi)
 ·rcases g2 i hi with h | h
  ·exact (g i h).1
  ·exact hG i (by omega)
 ·intro y hy
  rcases List.mem_append.1 hy with h | h
  ·exact hx2 y h
  ·rw [List.mem_singleton.1 h]; exact hb
theorem aDA {x n:Nat} {bs:List Nat} (hx:x<2 ^ 62) (hn:n≤60) (hlen:bs.length+n<2 ^ 40):∀ (m j:Nat) (h:aA),j+m=n→(∀ i,h.length≤i→G i)→BB h G q (bs++Huff.loBits x j)→(∀ h',Upd G h h'→BB h' G q (bs++Huff.loBits x n)→Q (.tu []) h')→Y25.p0 Q (bq q) x n j h:=by
 intro m
 induction m with
 | zero =>
  intro j h hj hG B hq
  refine Y25.i0 ?_
  unfold Y25.t0
  refine aX (decide_eq_false (by omega)) ?_
  have:j=n:=by omega
  subst this
  exact hq h (Upd.refl _ _) B
 | succ m ih =>
  intro j h hj hG B hq
  refine Y25.i0 ?_
  simp only [Y25.t0,bJ,bE, ← Y25.p0.eq_1]
  refine bA (decide_eq_true (by omega)) ?_
  refine aEF (bs:=bs++Huff.loBits x j) (x:=x) (i:=j) (by rw [List.length_append,Infl.lo_length]; omega) hx (by omega) hG B fun h1 U1 B1=>?_
  refine aG (n:=((j+1:Nat):Int)) (by rw [aL (by omega) (by omega)]; omega) ?_
  rw [List.append_assoc, ← Infl.lo_snoc] at B1
  exact ih (j+1) h1 (by omega) (fun i hi=>hG i (Nat.le_trans U1.1 hi)) B1 fun h2 U2 B2=>hq h2 (U1.trans U2 fun _ _ h=>h) B2
theorem p7 {x n:Nat} {bs:List Nat} (hx:x<2 ^ 62) (hn:n≤60) (hlen:bs.length+n<2 ^ 40) (hG:∀ i,h.length≤i→G i) (B:BB h G q bs) (hq:∀ h',Upd G h h'→BB h' G q (bs++Huff.loBits x n)→Q (.tu []) h'):C Y25.id [bq q,iN x,iN n] h Q:=by
 refine Y25.call ?_
 simp only [Y25.t, ← Y25.p0.eq_1]
 exact aDA hx hn hlen n 0 h (by omega) hG (by rw [show Huff.loBits x 0=[] from rfl,List.append_nil]; exact B) fun h' U B'=>.inl (hq h' U B')
theorem aBL {x:Nat} (hx:x<2 ^ 62):∀ (j:Nat) (bs:List Nat) (h:aA),j≤60→bs.length+j<2 ^ 40→(∀ i,h.length≤i→G i)→BB h G q bs→(∀ h',Upd G h h'→BB h' G q (bs++Huff.hiBits x j)→Q (.tu []) h')→Y27.p0 Q (bq q) x ((j:Int) - 1) h:=by
 intro j
 induction j with
 | zero =>
  intro bs h hj hlen hG B hq
  refine Y27.i0 ?_
  unfold Y27.t0
  refine aX (by decide) ?_
  refine hq h (Upd.refl _ _) ?_
  rw [show Huff.hiBits x 0=[] from rfl,List.append_nil]; exact B
 | succ j ih =>
  intro bs h hj hlen hG B hq
  refine Y27.i0 ?_
  simp only [Y27.t0,bJ,bE, ← Y27.p0.eq_1]
  rw [show ((j+1:Nat):Int) - 1=(j:Int) by omega]
  refine bA (decide_eq_true (by omega)) ?_
  refine aEF (bs:=bs) (x:=x) (i:=j) (by omega) hx (by omega) hG B fun h1 U1 B1=>?_
  refine aG (n:=(j:Int) - 1) (aL (by omega) (by omega)) ?_
  refine ih _ h1 (by omega) (by rw [List.length_append,List.length_singleton]; omega) (fun i hi=>hG i (Nat.le_trans U1.1 hi)) B1 fun h2 U2 B2=>hq h2 (U1.trans U2 fun _ _ h=>h) ?_
  rw [List.append_assoc] at B2
  exact B2
theorem sT {x n:Nat} {bs:List Nat} (hx:x<2 ^ 62) (hn:n≤60) (hlen:bs.length+n<2 ^ 40) (hG:∀ i,h.length≤i→G i) (B:BB h G q bs) (hq:∀ h',Upd G h h'→BB h' G q (bs++Huff.hiBits x n)→Q (.tu []) h'):C Y27.id [bq q,iN x,iN n] h Q:=by
 refine Y27.call ?_
 simp only [Y27.t, ← Y27.p0.eq_1]
 refine aG (n:=(n:Int) - 1) (aL (by omega) (by omega)) ?_
 exact aBL hx n bs h hn hlen hG B fun h' U B'=>.inl (hq h' U B')
theorem wT {x:Nat} {bs:List Nat} (hx:x<288) (hlen:bs.length+60<2 ^ 40) (hG:∀ i,h.length≤i→G i) (B:BB h G q bs) (hq:∀ h',Upd G h h'→BB h' G q (bs++Huff.codeBits Infl.fixedL x)→Q (.tu []) h'):C Y44.id [bq q,iN x] h Q:=by
 refine Y44.call ?_
 simp only [Y44.t]
 have h288:Infl.fixedL.length=288:=by decide +kernel
 have h15:=eM
 refine aCA fun h1 v U1 E1 n1=>?_
 have hin:(Infl.fixedL)[x]? = some (Infl.fixedL.getD x 0):=by rw [List.getD_eq_getElem?_getD,List.getElem?_eq_getElem (by omega)] <;> rfl
 have h0:0<Infl.fixedL.getD x 0:=by
  have h:∀ x:Fin 288,0<Infl.fixedL.getD x.1 0:=by decide +kernel
  exact h ⟨x,hx⟩
 have hle:Infl.fixedL.getD x 0≤15:=oP h15 x
 have R1:RdI 1 h1 v (bB Infl.fixedL) Infl.fixedL.length:=E1.rd.i
 obtain ⟨p,A1,hp⟩:=R1.at (i:=x) (by omega)
 have ec:((bB Infl.fixedL).drop (x * 1)).take 1=[iN (Infl.fixedL.getD x 0)]:=by
  have h2:=tI hin
  rw [List.drop_eq_getElem_cons (by rw [aW]; omega)]
  simp only [List.take_succ_cons,List.take_zero]
  rw [List.getElem?_eq_getElem (by rw [aW]; omega)] at h2
  rw [Option.some.inj h2]
 rw [ec] at A1
 refine hp _ h1 _ (Upd.refl _ _) (A1.load1 (aD ?_))
 have hck:Huff.checkP Infl.fixedL≠1:=by decide +kernel
 refine aBT R1 (by omega) h15 hck fun h2 w U2 W2=>?_
 refine (A1.ext U2).load1 (aD ⟨rfl, ?_⟩)
 refine hp _ h2 _ U2 ⟨rfl, ?_⟩
 have hcl:(kY Infl.fixedL)[x]? = some (Huff.codeAt Infl.fixedL x):=zK (by omega) h0 hle
 have Rw:RdI 1 h2 w (bB (kY Infl.fixedL)) (kY Infl.fixedL).length:=W2.rd.i
 refine RdI.nat Rw hcl (aD ?_)
 have hh:h.length≤h2.length:=Nat.le_trans U1.1 U2.1
 refine sT (rR (by omega) h15 x) (by omega) (by omega) (fun i hi=>hG i (Nat.le_trans hh hi)) (B.upd (U1.then U2) (fun _ _ h=>h) fun i _ h=>h) fun h3 U3 B3=>?_
 exact .inl (hq h3 (((U1.then U2).mono fun _ _ h=>h.elim).trans U3 fun _ _ h=>h) B3)
theorem aDU:∀ (fr:Fin 8) (c:Fin 256) (b:Fin 2),c.1<2 ^ fr.1→bK .or .u8 ((c.1:Nat):Int) (IntKind.wrap .u8 (((b.1:Nat):Int) * 2 ^ (min ((fr.1:Nat):Int).toNat IntKind.u8.bits)))=((c.1+b.1 * 2 ^ fr.1:Nat):Int)∧c.1+b.1 * 2 ^ fr.1<256:=by decide +kernel
theorem yY {bs : List Nat} (hlen : bs.length < 2 ^ 40) {h0 h0' : aA} (B : BB h0 G q bs) (hlt : ∀ i, G i → i < h0.length) (hq : ∀ h' v, Upd (fun _ => False) h0 h' → dB u8T h' v (Infl.pack bs) → aK h0' Q (.s (Infl.pack bs)) h') :
  ∀ (m i:Nat) (h:aA) (v:AV),i+m=bs.length→Upd (fun _=>False) h0 h→dB u8T h v (Infl.pack (bs.take i))→(∀ j,aS v j→h0.length≤j)→Y14.p0 (aK h0' Q) (bq q) v i h:=by
 intro m
 induction m with
 | zero =>
  intro i h v hi U T hv
  refine Y14.i0 ?_
  simp only [Y14.t0,bJ,bE, ← Y14.p0.eq_1, ← Y14.p1.eq_1]
  obtain ⟨vb,R,Tb,g,gq,hx2⟩:=B
  refine aE (R.upd U fun h=>h) rfl rfl ?_
  refine dB.plen (Tb.upd U fun _ _ h=>h) ?_
  refine aX (decide_eq_false (by unfold z0; rw [List.length_map]; omega)) ?_
  rw [show i=bs.length by omega,List.take_length] at T
  exact dB.str T (hq h v U T)
 | succ m ih =>
  intro i h v hi U T hv
  have hB:=B
  obtain ⟨vb,R,Tb,g,gq,hx2⟩:=B
  have hxt:∀ y∈bs.take i,y<2:=fun y hy=>hx2 y (List.mem_of_mem_take hy)
  obtain ⟨b,hb⟩:∃ b,bs[i]? = some b:=⟨_,List.getElem?_eq_getElem (by omega)⟩
  have hb2:b<2:=hx2 b (List.mem_of_getElem? hb)
  have hsn:bs.take (i+1)=bs.take i++[b]:=by rw [List.take_add_one,hb] <;> rfl
  obtain ⟨pre,c,p1,p2,p3⟩:=Infl.pack_snoc hb2 _ _ (Nat.le_refl _) hxt
  have hL:(bs.take i).length=i:=by rw [List.length_take]; omega
  have hpk:=Infl.pack_len hxt
  rw [hL] at p1 p2 p3 hpk
  have c256:c<256:=Nat.lt_of_lt_of_le p1 (Nat.pow_le_pow_right (by decide) (by omega:i % 8≤8))
  have put:∀ h1 v1,Upd (fun _=>False) h0 h1→dB u8T h1 v1 (pre++[UInt8.ofNat c])→(∀ j,aS v1 j→h0.length≤j)→pre.length=i / 8→Y14.p1 (aK h0' Q) (bq q) v1 i h1:=by
   intro h1 v1 U1 T1 hv1 hpl
   refine Y14.i1 ?_
   simp only [Y14.t1,bJ,bE, ← Y14.p0.eq_1]
   have ed:((i:Int)).tdiv 8=((i / 8:Nat):Int):=by rw [Int.tdiv_eq_ediv_of_nonneg (by omega)]; omega
   have em:((i:Int)).tmod 8=((i % 8:Nat):Int):=by rw [Int.tmod_eq_emod_of_nonneg (by omega)]; omega
   refine iH (n:=((i / 8:Nat):Int)) (by decide) (by rw [ed,aL (by omega) (by omega)]) (iH (n:=((i / 8:Nat):Int)) (by decide) (by rw [ed,aL (by omega) (by omega)]) ?_)
   refine dB.load T1 (c:=UInt8.ofNat c) (by rw [← hpl]; simp) (iQ ?_)
   refine aE (R.upd U1 fun h=>h) rfl rfl ?_
   refine dB.load (Tb.upd U1 fun _ _ h=>h) (c:=UInt8.ofNat b) (by unfold z0; rw [List.getElem?_map,hb] <;> rfl) (iQ ?_)
   refine jD (by decide) em ?_
   have ew:IntKind.wrap .u64 ((i % 8:Nat):Int)=((i % 8:Nat):Int):=by
    simp only [IntKind.wrap,IntKind.bits,IntKind.signed,Bool.false_and]
    have:(2:Int) ^ 64=18446744073709551616:=by decide
    rw [this]
    simp
    omega
   rw [ew]
   refine ⟨by omega, ?_⟩
   obtain ⟨e1,e2⟩:=aDU ⟨i % 8,Nat.mod_lt _ (by decide)⟩ ⟨c,c256⟩ ⟨b,hb2⟩ p1
   simp only at e1 e2
   have ec:(((UInt8.ofNat c).toNat:Nat):Int)=(c:Int):=by rw [UInt8.toNat_ofNat',Nat.mod_eq_of_lt c256]
   have eb:(((UInt8.ofNat b).toNat:Nat):Int)=(b:Int):=by rw [UInt8.toNat_ofNat',Nat.mod_eq_of_lt (show b<2 ^ 8 by omega)]
   show aP 1 v1 (AV.i .i64 ((i / 8:Nat):Int)) h1 fun v31=>aV 1 v31 (AV.i .u8 (bK .or .u8 (((UInt8.ofNat c).toNat:Nat):Int) (IntKind.wrap .u8 ((((UInt8.ofNat b).toNat:Nat):Int) * 2 ^ (min ((i % 8:Nat):Int).toNat IntKind.u8.bits))))) h1 _
   rw [ec,eb,e1]
   have eo:AV.i .u8 ((c+b * 2 ^ (i % 8):Nat):Int)=byteAV (UInt8.ofNat (c+b * 2 ^ (i % 8))):=by
    unfold byteAV
    rw [UInt8.toNat_ofNat',Nat.mod_eq_of_lt (show _<2 ^ 8 from e2)]
   rw [eo, ← hpl]
   refine dB.store T1 (c:=UInt8.ofNat (c+b * 2 ^ (i % 8))) (by simp) fun h2 l2 U2 T2=>?_
   refine aG (n:=((i+1:Nat):Int)) (by rw [aL (by omega) (by omega)]; omega) ?_
   have es:(pre++[UInt8.ofNat c]).set pre.length (UInt8.ofNat (c+b * 2 ^ (i % 8)))=Infl.pack (bs.take (i+1)):=by
    rw [List.set_append_right _ _ (Nat.le_refl _),Nat.sub_self,hsn,p3] <;> rfl
   rw [es] at T2
   exact ih (i+1) h2 v1 (by omega) (U1.ownP U2 hv1) T2 hv1
  refine Y14.i0 ?_
  simp only [Y14.t0,bJ,bE, ← Y14.p0.eq_1, ← Y14.p1.eq_1]
  refine aE (R.upd U fun h=>h) rfl rfl ?_
  refine dB.plen (Tb.upd U fun _ _ h=>h) ?_
  refine bA (decide_eq_true (by unfold z0; rw [List.length_map]; omega)) ?_
  have em:((i:Int)).tmod 8=((i % 8:Nat):Int):=by rw [Int.tmod_eq_emod_of_nonneg (by omega)]; omega
  refine jD (by decide) em ?_
  rcases p2 with ⟨m0,p2⟩ | ⟨m0,p2⟩
  ·rw [m0, Nat.pow_zero] at p1
   have c0:c=0:=by omega
   subst c0
   refine bA (decide_eq_true (by rw [m0] <;> rfl)) ?_
   refine tS T (by omega) fun v1 h1 U1 T1 g1=>?_
   rw [p2] at T1 hpk
   refine put h1 v1 (U.ownP U1 hv) T1 (fun j hj=>?_) (by omega)
   rcases g1 j hj with h | h
   ·exact hv j h
   ·exact Nat.le_trans U.1 h
  ·refine aX (decide_eq_false (by omega)) ?_
   rw [p2] at T hpk
   rw [List.length_append,List.length_singleton] at hpk
   exact put h v U T hv (by omega)
theorem aBU {bs:List Nat} (hlen:bs.length<2 ^ 40) (B:BB h G q bs) (hq:Q (.s (Infl.pack bs)) h):C Y14.id [bq q] h Q:=by
 refine Y14.call ?_
 simp only [Y14.t, ← Y14.p0.eq_1]
 have B':BB h (fun i=>G i∧i<h.length) q bs:=B.upd (Upd.refl (fun _=>False) h) (fun _ _ h=>h) fun i hi g=>⟨g,hi⟩
 refine yY (G:=fun i=>G i∧i<h.length) hlen B' (fun i hi=>hi.2) (fun h' v U _=>eC rfl (Upd.ext U) hq) bs.length 0 h _ (by omega) (Upd.refl _ _) (.inl ⟨rfl,rfl⟩) fun j hj=>hj.elim
end
end Go.Proofs.YtpaphfeihpgamaaDoor
namespace Go.Proofs.YtpaphfeihpgamaaDoor
open Go.GAM
section
variable [XR] {h:aA} {Q:AV→aA→Prop} {s:List UInt8} {a:Nat}
theorem aFN (hs : s.length < 2 ^ 40) {d : Nat} {b : Nat × Nat} (hd1 : 1 ≤ d) (hda : d ≤ a) (hq : Y1.p4 Q s a (Infl.better s a b d).1 (Infl.better s a b d).2 d h) :
  ∀ (fu k:Nat),k+fu=258→a+k≤s.length→Infl.lcp s a d=Infl.lcpF s a d fu k→Y1.p2 Q s a b.1 b.2 d k h:=by
 have fin:∀ k,k≤258→Infl.lcp s a d=k→Y1.p3 Q s a b.1 b.2 d k false h:=by
  intro k hk e
  refine Y1.i3 ?_
  simp only [Y1.t3, ← Y1.p4.eq_1]
  unfold Infl.better at hq
  rw [e] at hq
  refine aX rfl (aM (fun c=>?_) fun c=>?_)
  ·have c : b.1 < k := by have := of_decide_eq_true c; omega
   rw [if_pos c] at hq
   exact hq
  ·have c : ¬ b.1 < k := by have := of_decide_eq_false c; omega
   rw [if_neg c] at hq
   exact hq
 intro fu
 induction fu with
 | zero =>
  intro k hk hle e
  refine Y1.i2 ?_
  simp only [Y1.t2, ← Y1.p3.eq_1]
  exact aX (decide_eq_false (by omega)) (fin k (by omega) e)
 | succ fu ih =>
  intro k hk hle e
  refine Y1.i2 ?_
  simp only [Y1.t2, ← Y1.p3.eq_1]
  unfold Infl.lcpF at e
  refine bA (decide_eq_true (by omega)) ?_
  refine aG (n:=((a+k:Nat):Int)) (by rw [aL (by omega) (by omega)]; omega) ?_
  refine aM (fun c=>?_) fun c=>?_
  ·have c : a + k < s.length := by have := of_decide_eq_true c; omega
   obtain ⟨x,hx⟩:∃ x,s[a+k - d]? = some x:=⟨_,List.getElem?_eq_getElem (by omega)⟩
   obtain ⟨y,hy⟩:∃ y,s[a+k]? = some y:=⟨_,List.getElem?_eq_getElem c⟩
   refine aG (n:=((a+k:Nat):Int)) (by rw [aL (by omega) (by omega)]; omega) ?_
   refine kT hy ?_
   refine aG (n:=((a+k:Nat):Int)) (by rw [aL (by omega) (by omega)]; omega) ?_
   refine aG (n:=((a+k - d:Nat):Int)) (by rw [aL (by omega) (by omega)]; omega) ?_
   refine kT hx ?_
   rw [hx,hy] at e
   rw [aEE]
   by_cases hxy:y=x
   ·rw [if_pos ⟨c, by rw [hxy]⟩] at e
    rw [decide_eq_true hxy]
    refine Y1.i3 ?_
    simp only [Y1.t3, ← Y1.p2.eq_1]
    refine bA rfl ?_
    refine aG (n:=((k+1:Nat):Int)) (by rw [aL (by omega) (by omega)]; omega) ?_
    exact ih (k+1) (by omega) (by omega) e
   ·rw [if_neg fun hh => hxy (Option.some.inj hh.2)] at e
    rw [decide_eq_false hxy]
    exact fin k (by omega) e
  ·have c : ¬ a + k < s.length := by have := of_decide_eq_false c; omega
   rw [if_neg fun hh=>c hh.1] at e
   exact fin k (by omega) e
theorem aFY (hs:s.length<2 ^ 40) (ha:a≤s.length) (hq:Q (.tu [iN (Infl.matchR s a).1,iN (Infl.matchR s a).2]) h):∀ (m d:Nat),d+m=min a 32768→Y1.p0 Q s a (Infl.matchTo s a d).1 (Infl.matchTo s a d).2 ((d+1:Nat):Int) h:=by
 intro m
 induction m with
 | zero =>
  intro d hd
  have hd:d=min a 32768:=by omega
  have stop:Y1.p1 Q s a (Infl.matchTo s a d).1 (Infl.matchTo s a d).2 ((d+1:Nat):Int) false h:=by
   refine Y1.i1 ?_
   simp only [Y1.t1]
   refine aX rfl ?_
   rw [hd]; exact hq
  refine Y1.i0 ?_
  simp only [Y1.t0, ← Y1.p1.eq_1]
  refine aM (fun c=>?_) fun c=>stop
  have c:d+1≤a:=by have:=of_decide_eq_true c; omega
  rw [decide_eq_false (by omega)]
  exact stop
 | succ m ih =>
  intro d hd
  refine Y1.i0 ?_
  simp only [Y1.t0, ← Y1.p1.eq_1]
  refine bA (decide_eq_true (by omega)) ?_
  rw [decide_eq_true (by omega)]
  refine Y1.i1 ?_
  simp only [Y1.t1, ← Y1.p2.eq_1]
  refine bA rfl ?_
  refine aFN hs (d:=d+1) (b:=Infl.matchTo s a d) (by omega) (by omega) ?_ 258 0 (by omega) (by omega) rfl
  refine Y1.i4 ?_
  simp only [Y1.t4, ← Y1.p0.eq_1]
  refine aG (n:=((d+1+1:Nat):Int)) (by rw [aL (by omega) (by omega)]; omega) ?_
  exact ih (d+1) (by omega)
theorem aAW (hs:s.length<2 ^ 40) (ha:a≤s.length) (hq:Q (.tu [iN (Infl.matchR s a).1,iN (Infl.matchR s a).2]) h):C Y1.id [.s s,iN a] h Q:=by
 refine Y1.call ?_
 simp only [Y1.t, ← Y1.p0.eq_1]
 exact aFY hs ha (.inl hq) (min a 32768) 0 (by omega)
end
def dnL (n:Nat):Nat→Nat
 | 0=>0
 | x+1=>if n<(Infl.least (x+1)).1 then dnL n x else x+1
theorem aEQ {n:Nat} (h1:3≤n) (h2:n≤258):dnL n 285=Infl.lenSym n:=by
 have h:((List.range 259).all fun n=>decide (3≤n→dnL n 285=Infl.lenSym n))=true:=by decide +kernel
 have:=List.all_eq_true.1 h n (by simp; omega)
 exact of_decide_eq_true this h1
theorem aBN:∀ x:Fin 30,Huff.codeBits Infl.fixedD x.1=Huff.hiBits x.1 5:=by decide +kernel
section
variable [XR] {h:aA} {Q:AV→aA→Prop} {G:Nat→Prop} {q:Nat} {s:List UInt8}
theorem aFV {at' n d:Nat} {bs:List Nat} (hd1:1≤d) (hd2:d≤32768) (hn:n≤258) (hat:at'<2 ^ 40) (hlen:bs.length+60<2 ^ 40) (hG:∀ i,h.length≤i→G i) (B:BB h G q bs)
  (hq:∀ h',Upd G h h'→BB h' G q (bs++(Huff.codeBits Infl.fixedD (Infl.farSym d)++Huff.loBits (d - (Infl.farOf (Infl.farSym d)).1) (Infl.farOf (Infl.farSym d)).2))→Y8.p0 Q s (bq q) ((at'+n:Nat):Int) h') :
  ∀ (x:Nat),x≤29→(x=29∨d<(Infl.farOf (x+1)).1)→Y8.p2 Q s (bq q) at' n d x (Infl.farOf x).1 (Infl.farOf x).2 h:=by
 intro x
 induction x with
 | zero =>
  intro hx hg
  have e:Infl.farSym d=0:=Infl.farSym_at 0 d (by omega) (by show 1≤d; omega) hg
  rw [e] at hq
  refine Y8.i2 ?_
  simp only [Y8.t2, ← Y8.p0.eq_1]
  refine aX (decide_eq_false (by show ¬ (d:Int)<((1:Nat):Int); omega)) ?_
  refine sT (x:=0) (n:=5) (by decide) (by decide) (by omega) hG B fun h1 U1 B1=>?_
  refine aG (n:=((d - (Infl.farOf 0).1:Nat):Int)) (by show IntKind.wrap .i64 ((d:Int) - ((1:Nat):Int))=((d - 1:Nat):Int); rw [aL (by omega) (by omega)]; omega) ?_
  refine p7 (by omega) (by decide) (by show _+0<_; rw [List.length_append]; show bs.length+5+0<_; omega) (fun i hi=>hG i (Nat.le_trans U1.1 hi)) B1 fun h2 U2 B2=>?_
  refine aG (n:=((at'+n:Nat):Int)) (by rw [aL (by omega) (by omega)]; omega) ?_
  refine hq h2 (U1.trans U2 fun _ _ h=>h) ?_
  rw [List.append_assoc] at B2
  exact B2
 | succ x ih =>
  intro hx hg
  have hfb:∀ x:Fin 30,(Infl.farOf x.1).1≤32768∧(Infl.farOf x.1).2≤13:=by decide +kernel
  obtain ⟨f1,f2⟩:=hfb ⟨x+1,by omega⟩
  simp only at f1 f2
  refine Y8.i2 ?_
  simp only [Y8.t2, ← Y8.p0.eq_1, ← Y8.p2.eq_1]
  refine aM (fun c=>?_) fun c=>?_
  ·have c : d < (Infl.farOf (x + 1)).1 := by have := of_decide_eq_true c; omega
   refine aG (n:=((x:Nat):Int)) (by rw [aL (by omega) (by omega)]; omega) ?_
   refine aCI (by omega) ?_
   simp only [d7,dW]
   exact aD (aD (ih (by omega) (.inr c)))
  ·have c : (Infl.farOf (x + 1)).1 ≤ d := by have := of_decide_eq_false c; omega
   have e:Infl.farSym d=x+1:=Infl.farSym_at (x+1) d (by omega) c hg
   rw [e,aBN ⟨x+1,by omega⟩] at hq
   refine sT (x:=x+1) (n:=5) (by omega) (by decide) (by omega) hG B fun h1 U1 B1=>?_
   refine aG (n:=((d - (Infl.farOf (x+1)).1:Nat):Int)) (by rw [aL (by omega) (by omega)]; omega) ?_
   refine p7 (by omega) (by omega) (by rw [List.length_append,Infl.hi_length]; omega) (fun i hi=>hG i (Nat.le_trans U1.1 hi)) B1 fun h2 U2 B2=>?_
   refine aG (n:=((at'+n:Nat):Int)) (by rw [aL (by omega) (by omega)]; omega) ?_
   refine hq h2 (U1.trans U2 fun _ _ h=>h) ?_
   rw [List.append_assoc] at B2
   exact B2
theorem aFS {at' n d : Nat} {bs : List Nat} (hd1 : 1 ≤ d) (hd2 : d ≤ 32768) (h3 : 3 ≤ n) (hn : n ≤ 258) (hat : at' < 2 ^ 40) (hlen : bs.length + 200 < 2 ^ 40) (hG : ∀ i, h.length ≤ i → G i) (B : BB h G q bs)
  (hq:∀ h',Upd G h h'→BB h' G q (bs++Infl.encItem Infl.fixedL Infl.fixedD (.copy n d))→Y8.p0 Q s (bq q) ((at'+n:Nat):Int) h') :
  ∀ (x:Nat),257≤x→x≤285→dnL n x=Infl.lenSym n→Y8.p1 Q s (bq q) at' n d x (Infl.least x).1 (Infl.least x).2 h:=by
 intro x
 induction x with
 | zero=>intro h; omega
 | succ x ih =>
  intro h1 h2 hx
  have hlb:∀ x:Fin 29,(Infl.least (257+x.1)).1≤258∧(Infl.least (257+x.1)).2≤5:=by decide +kernel
  obtain ⟨f1,f2⟩:=hlb ⟨x+1 - 257,by omega⟩
  simp only [show 257+(x+1 - 257)=x+1 by omega] at f1 f2
  unfold dnL at hx
  refine Y8.i1 ?_
  simp only [Y8.t1, ← Y8.p1.eq_1, ← Y8.p2.eq_1]
  refine aM (fun c=>?_) fun c=>?_
  ·have c : n < (Infl.least (x + 1)).1 := by have := of_decide_eq_true c; omega
   rw [if_pos c] at hx
   have hx0:x+1≠257:=by
    intro e
    rw [e] at c
    have:(Infl.least 257).1=3:=by decide
    omega
   refine aG (n:=((x:Nat):Int)) (by rw [aL (by omega) (by omega)]; omega) ?_
   refine tR (by omega) (by omega) ?_
   simp only [d7,dW]
   exact aD (aD (ih (by omega) (by omega) hx))
  ·have c : ¬ n < (Infl.least (x + 1)).1 := by have := of_decide_eq_false c; omega
   rw [if_neg c] at hx
   refine wT (x:=x+1) (by omega) (by omega) hG B fun h1 U1 B1=>?_
   have hcl:=cN eM (x+1)
   refine aG (n:=((n - (Infl.least (x+1)).1:Nat):Int)) (by rw [aL (by omega) (by omega)]; omega) ?_
   refine p7 (by omega) (by omega) (by rw [List.length_append]; omega) (fun i hi=>hG i (Nat.le_trans U1.1 hi)) B1 fun h2 U2 B2=>?_
   refine aCI (x:=29) (by decide) ?_
   simp only [d7,dW]
   have U12:=U1.trans U2 fun _ _ h=>h
   refine aD (aD (aFV hd1 hd2 hn hat (by rw [List.length_append,List.length_append,Infl.lo_length]; omega) (fun i hi=>hG i (Nat.le_trans U12.1 hi)) B2 (fun h3 U3 B3=>hq h3 (U12.trans U3 fun _ _ h=>h) ?_) 29 (by decide) (.inl rfl)))
   unfold Infl.encItem
   simp only []
   rw [← hx]
   simp only [List.append_assoc] at B3 ⊢
   exact B3
theorem aGA {h00 : aA} (hG0 : ∀ i, G i → h00.length ≤ i) (hs : s.length < 2 ^ 30) (hq : ∀ h', Upd (fun _ => False) h00 h' → Q (.s (Infl.fixedText s)) h') :
  ∀ (f i : Nat) (bs : List Nat) (h : aA), Upd (fun _ => False) h00 h → i ≤ s.length → s.length < i + f → bs.length ≤ 3 + 64 * i → (∀ i, h.length ≤ i → G i) → BB h G q bs → bs ++ Infl.encItems Infl.fixedL Infl.fixedD (Infl.itemsR s f i) = Huff.loBits 3 3 ++ Infl.encItems Infl.fixedL Infl.fixedD (Infl.itemsR s (s.length + 1) 0) →
   Y8.p0 Q s (bq q) i h:=by
 intro f
 induction f with
 | zero=>intro i bs h U0 h1 h2; omega
 | succ f ih =>
  intro i bs h U0 h1 h2 hl hG B hfin
  refine Y8.i0 ?_
  simp only [Y8.t0, ← Y8.p0.eq_1, ← Y8.p1.eq_1]
  refine aM (fun c=>?_) fun c=>?_
  ·have c : i < s.length := by have := of_decide_eq_true c; omega
   obtain ⟨ch,hch⟩:∃ ch,s[i]? = some ch:=⟨_,List.getElem?_eq_getElem c⟩
   refine aAW (by omega) (by omega) ?_
   simp only [d7,dW]
   refine aD (aD ?_)
   rw [Infl.itemsR,hch] at hfin
   simp only at hfin
   refine aM (fun c3=>?_) fun c3=>?_
   ·have c3 : (Infl.matchR s i).1 < 3 := by have := of_decide_eq_true c3; omega
    rw [if_pos c3] at hfin
    refine kT hch ?_
    have e1:IntKind.wrap .i64 ((ch.toNat:Nat):Int)=((ch.toNat:Nat):Int):=aL (by omega) (by have:=ch.toNat_lt; omega)
    rw [e1]
    refine wT (x:=ch.toNat) (by have:=ch.toNat_lt; omega) (by omega) hG B fun h1 U1 B1=>?_
    refine aG (n:=((i+1:Nat):Int)) (by rw [aL (by omega) (by omega)]; omega) ?_
    have hcl:=cN eM ch.toNat
    refine ih (i+1) _ h1 (U0.ownP U1 hG0) (by omega) (by omega) (by rw [List.length_append]; omega) (fun i hi=>hG i (Nat.le_trans U1.1 hi)) B1 ?_
    rw [← hfin]
    show _=bs++(Infl.encItem _ _ _++Infl.encItems _ _ _)
    rw [List.append_assoc]
    first | done | rfl
   ·have c3 : ¬ (Infl.matchR s i).1 < 3 := by have := of_decide_eq_false c3; omega
    rw [if_neg c3] at hfin
    obtain ⟨m1,m2,m3,m4,m5⟩:=Infl.matchR_ok h1 (by omega)
    refine tR (x:=285) (by decide) (by decide) ?_
    simp only [d7,dW]
    refine aD (aD (aFS (n:=(Infl.matchR s i).1) (d:=(Infl.matchR s i).2) m3 m5 (by omega) m1 (by omega) (by omega) hG B (fun h1 U1 B1=>?_) 285 (by decide) (by decide) (aEQ (by omega) m1)))
    have hcl:=yC (a:=Infl.fixedL) (b:=Infl.fixedD) eM nC (r:=⟨ch,(Infl.matchR s i).1,(Infl.matchR s i).2⟩) (.inr ⟨by simp only; omega,m1,m3,m5⟩)
    have ei:Row.item ⟨ch,(Infl.matchR s i).1,(Infl.matchR s i).2⟩ = .copy (Infl.matchR s i).1 (Infl.matchR s i).2:=if_neg (by simp only; omega)
    rw [ei] at hcl
    refine ih (i+(Infl.matchR s i).1) _ h1 (U0.ownP U1 hG0) m2 (by omega) (by rw [List.length_append]; omega) (fun i hi=>hG i (Nat.le_trans U1.1 hi)) B1 ?_
    rw [← hfin]
    show _=bs++(Infl.encItem _ _ _++Infl.encItems _ _ _)
    rw [List.append_assoc]
  ·have c : s.length ≤ i := by have := of_decide_eq_false c; omega
   rw [Infl.itemsR_none _ _ c] at hfin
   refine wT (x:=256) (by decide) (by omega) hG B fun h1 U1 B1=>?_
   have hcl:=cN eM 256
   refine aBU (by rw [List.length_append]; omega) B1 (b7 ?_)
   have e:bs++Huff.codeBits Infl.fixedL 256=Infl.fixedBits (Infl.itemsR s (s.length+1) 0):=by
    unfold Infl.fixedBits
    have hfin:bs++[]=_:=hfin
    rw [List.append_nil] at hfin
    rw [hfin,List.append_assoc]
   rw [e]
   exact hq h1 (U0.ownP U1 hG0)
theorem y5 (hs:s.length<2 ^ 30) (hq:Q (.s (Infl.fixedText s)) h):C Y8.id [.s s] h Q:=by
 refine Y8.call ?_
 simp only [Y8.t, ← Y8.p0.eq_1]
 refine bT (hk:=fun h1 l1 U1 R1=>?_)
 have B1:BB h1 (fun i=>h.length≤i) h.length []:=⟨nilS,R1,.inl ⟨rfl,rfl⟩,fun i hi=>hi.elim,Nat.le_refl _,fun x hx=>by cases hx⟩
 refine p7 (x:=1) (n:=1) (by decide) (by decide) (by decide) (fun i hi=>Nat.le_trans U1.1 hi) B1 fun h2 U2 B2=>?_
 refine p7 (x:=1) (n:=2) (by decide) (by decide) (by decide) (fun i hi=>Nat.le_trans (Nat.le_trans U1.1 U2.1) hi) B2 fun h3 U3 B3=>?_
 have U03:Upd (fun _=>False) h h3:=(U1.ownP U2 fun _ h=>h).ownP U3 fun _ h=>h
 exact aGA (G:=fun i=>h.length≤i) (h00:=h) (fun _ h=>h) hs (fun h' U'=>eC rfl (Upd.ext U') hq) (s.length+1) 0 (Huff.loBits 3 3) h3 U03 (Nat.zero_le _) (by omega) (by decide) (fun i hi=>Nat.le_trans U03.1 hi) B3 rfl
end
end Go.Proofs.YtpaphfeihpgamaaDoor
namespace Go.Proofs.YtpaphfeihpgamaaDoor
open Go.GAM Go.RowKit Go.ChangeShapes
section
variable {h:aA} {Q:AV→aA→Prop} {s:List UInt8}
theorem oD (O:cT h) (hq:∀ h',Q (.b true) h'):C Y34.id [.s s] h Q:=by
 refine Y34.call ?_
 simp only [Y34.t, ← Y34.p0.eq_1]
 refine aM ?_ ?_ <;> intro e
 ·exact xW O fun h2 U2=>bP (.inl (hq h2))
 ·have e : s.length ≤ 400 := by simp at e; omega
  refine rI (.inr aFF) (by omega) (b7 (wJ (by omega) (b7 (bA (decide_eq_true rfl) ?_))))
  refine pL (rY (by omega)) (by omega) (b7 ?_)
  refine y5 (by omega) (b7 (bA (decide_eq_true rfl) ?_))
  refine xW O fun h2 U2=>bP (Y34.i0 ?_)
  simp only [Y34.t0]
  exact .inl (hq h2)
end
theorem walk_InflateCompresses {s:ByteArray} (W:World) (hL:laidMet Tryd.prog Rows.inflateCompressesRow.laid W) (w0:s.size≤maxLen) :
  Calls Tryd.prog Y34.id #[.string s] W fun e w'=>e = .returned (.bool true)∧Below W.heap.size W w':=
 tP mixedOK sizeOK aFG (by kernel_rfl) (szOf:=fun _=>1) (.cons _ _ _ _ (.s _ _ rfl) .nil) (oD (aE8 (l:=Rows.inflateCompressesRow.laid) (List.mem_of_getElem? (i:=1) rfl) hL) fun _=>rfl)
end Go.Proofs.YtpaphfeihpgamaaDoor
