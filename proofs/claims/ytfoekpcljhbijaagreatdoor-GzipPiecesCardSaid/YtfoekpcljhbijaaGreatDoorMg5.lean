/- Lemmas (several texts in one). -/
import Derived.Test.YtfoekpcljhbijaaGreatDoorRows
import Derived.OpenShut
import Derived.Test.YtfoekpcljhbijaaGreatDoorMg4
set_option linter.unusedVariables false
set_option linter.unusedSimpArgs false
set_option linter.unusedSectionVars false
set_option maxRecDepth 20000
namespace Go.Proofs.YtfoekpcljhbijaaGreatDoor
open Go.GAM
open Go.Infl (bI cL bX Out Lim)
theorem aKA:∀ x,x<286→257≤x→(Infl.least x).1+2 ^ (Infl.least x).2≤300∧(Infl.least x).2≤16:=by decide +kernel
theorem aNO:∀ x,x<30→0<(Infl.farOf x).1∧(Infl.farOf x).1+2 ^ (Infl.farOf x).2≤32769∧(Infl.farOf x).2≤16:=by decide +kernel
section
variable [XR] {h:aA} {Q:AV→aA→Prop} {L:Lim} {F:Nat→Prop} {d:Nat} {r:DR} {out:List UInt8} {told:Nat}
theorem aLB {x:Nat} (h1:257≤x) (h2:x≤285) (hq:Q (.tu [iN (Infl.least x).1,iN (Infl.least x).2]) h):C Y44.id [iN x] h Q:=by
 refine Y44.call ?_
 simp only [Y44.t]
 unfold Infl.least at hq
 refine aQ ?_ ?_ <;> intro e
 ·have e : x ≤ 264 := by simp at e; omega
  rw [if_pos e] at hq
  exact d5 (n:=((x - 254:Nat):Int)) (by omega) (by omega) (by omega) (.inl hq)
 ·have e : ¬ x ≤ 264 := by simp at e; omega
  rw [if_neg e] at hq
  refine aQ ?_ ?_ <;> intro e2
  ·have e2 : x = 285 := by simp at e2; omega
   rw [if_pos e2] at hq
   exact .inl hq
  ·have e2 : ¬ x = 285 := by simp at e2; omega
   rw [if_neg e2] at hq
   refine d5 (n:=((x - 261:Nat):Int)) (by omega) (by omega) (by omega) ?_
   refine aJR (n:=(((x - 261) / 4:Nat):Int)) (by decide) (by rw [Int.tdiv_eq_ediv_of_nonneg (by omega),bE (by omega) (by omega)]; omega) ?_
   refine d5 (n:=((x - 265:Nat):Int)) (by omega) (by omega) (by omega) ?_
   refine aI1 (n:=(((x - 265) % 4:Nat):Int)) (by decide) (by rw [Int.tmod_eq_emod_of_nonneg (by omega)]; omega) ?_
   refine d5 (n:=((4+(x - 265) % 4:Nat):Int)) (by omega) (by omega) (by omega) ?_
   have hp:2 ^ ((x - 261) / 4)≤2 ^ 6:=Nat.pow_le_pow_right (by decide) (by omega)
   have hm:(4+(x - 265) % 4) * 2 ^ ((x - 261) / 4)≤8 * 2 ^ 6:=Nat.mul_le_mul (by omega) hp
   refine tE (by omega) (by omega) ?_
   generalize (4+(x - 265) % 4) * 2 ^ ((x - 261) / 4)=y at *
   exact d5 (n:=((y+3:Nat):Int)) (by omega) (by omega) (by omega) (.inl hq)
theorem aEN {x:Nat} (h2:x≤29) (hq:Q (.tu [iN (Infl.farOf x).1,iN (Infl.farOf x).2]) h):C Y58.id [iN x] h Q:=by
 refine Y58.call ?_
 simp only [Y58.t]
 unfold Infl.farOf at hq
 refine aQ ?_ ?_ <;> intro e
 ·have e : x < 4 := by simp at e; omega
  rw [if_pos e] at hq
  exact inc (by omega) (.inl hq)
 ·have e : ¬ x < 4 := by simp at e; omega
  rw [if_neg e] at hq
  refine aJR (n:=((x / 2:Nat):Int)) (by decide) (by rw [Int.tdiv_eq_ediv_of_nonneg (by omega),bE (by omega) (by omega)]; omega) ?_
  refine d5 (n:=((x / 2 - 1:Nat):Int)) (by omega) (by omega) (by omega) ?_
  refine aI1 (n:=((x % 2:Nat):Int)) (by decide) (by rw [Int.tmod_eq_emod_of_nonneg (by omega)]; omega) ?_
  refine d5 (n:=((2+x % 2:Nat):Int)) (by omega) (by omega) (by omega) ?_
  have hp:2 ^ (x / 2 - 1)≤2 ^ 13:=Nat.pow_le_pow_right (by decide) (by omega)
  have hm:(2+x % 2) * 2 ^ (x / 2 - 1)≤4 * 2 ^ 13:=Nat.mul_le_mul (by omega) hp
  refine tE (by omega) (by omega) ?_
  generalize (2+x % 2) * 2 ^ (x / 2 - 1)=y at *
  exact inc (by omega) (.inl hq)
theorem tM {a b:List Nat} {ia ib:Nat} {syma symb:AV} (D:Dec L h F d r out told) (hF:∀ i,h.length≤i→F i) (hd:r.done=false) (T:Two h (Gd F d r) ia syma a ib symb b)
  (hq:∀ e h' r',cT (· = d) L h F d r told (Infl.litW ⟨out,r.last,r.skip⟩ a b) e h' r'→Q (.i .i64 e) h'):C Y27.id [dp d,cp ia,cp ib] h Q:=by
 refine Y27.call ?_
 simp only [Y27.t]
 refine b8 (hk:=fun h1 l1 U1 R1=>?_)
 refine b8 (hk:=fun h2 l2 U2 R2=>?_)
 refine b8 (hk:=fun h3 l3 U3 R3=>?_)
 have U:=(U1.then U2).then U3
 have R1:=(R1.upd U2 fun h=>h).upd U3 fun h=>h
 have R2:=R2.upd U3 fun h=>h
 have ha:=T.1.recd.lt
 have hb:=T.2.recd.lt
 have G:∀ {i},h.length≤i→Gd F d r i∧i≠ia:=fun hi=>⟨D.gd hF hi,by omega⟩
 have B1:Bx h3 (fun i=>Gd F d r i∧i≠ia) (.p (some ⟨h.length,1,0⟩)) (dp d):=⟨_,rfl,R1,G (Nat.le_refl _)⟩
 have B2:Bx h3 (fun i=>Gd F d r i∧i≠ia) (.p (some ⟨h1.length,1,0⟩)) (cp ia):=⟨_,rfl,R2,G (by omega)⟩
 have B3:Bx h3 (fun i=>Gd F d r i∧i≠ia) (.p (some ⟨h2.length,1,0⟩)) (cp ib):=⟨_,rfl,R3,G (by omega)⟩
 refine aE R1 rfl rfl (aE R2 rfl rfl ?_)
 refine vY (D.ext U) hd (l:=a) (ic:=ia) (sym:=syma) (c:=.lit a b) (T.1.upd U (fun _ _ h=>h) fun i _ hi=>hi.1) ⟨_,_,_,ib,symb,rfl,B1,B2,B3,T.2.upd U (fun _ _ h=>h) fun i _ hi=>hi,fun hs=>(T.1.gs ib hs).1.2 rfl⟩ ⟨by decide,by decide,fun v hv=>Nat.lt_of_lt_of_le hv (by have:=T.1.len; omega)⟩ fun h4 r4 P=>aD (.inl (hq 0 h4 r4 ?_))
 exact P.from U (fun _ _ h=>h.elim) (fun _ _ h=>h) rfl rfl rfl
theorem aFF {a b : List Nat} {va vb : AV} (D : Dec L h F d r out told) (hF : ∀ i, h.length ≤ i → F i) (hd : r.done = false) (Ra : RdI 1 h va (bH a) a.length) (Rb : RdI 1 h vb (bH b) b.length) (la : a.length ≤ 320) (lb : b.length ≤ 320) (a15 : ∀ x ∈ a, x ≤ 15) (b15 : ∀ x ∈ b, x ≤ 15)
  (hq:∀ e h' r',cT (· = d) L h F d r told (Infl.codes ⟨out,r.last,r.skip⟩ a b) e h' r'→Q (.i .i64 e) h'):C Y34.id [dp d,va,vb] h Q:=by
 refine Y34.call ?_
 simp only [Y34.t]
 refine wC Ra la a15 (fun hn e he=>?_) fun ha h1 ia syma U1 A1=>?_
 ·simp only [lC, kQ]
  refine aD (bB (by simp [he]) (.inl (hq 2 h r ?_)))
  unfold Infl.codes
  rw [if_neg fun hh=>hn hh.1]
  exact ⟨Upd.refl _ _,fun _ _ h=>h,D,rfl,rfl,rfl,rfl,.inl rfl,hd⟩
 ·simp only [lC, kQ]
  refine aD (aN rfl ?_)
  refine wC (Rb.ext U1) lb b15 (fun hn e he=>?_) fun hb h2 ib symb U2 A2=>?_
  ·simp only [lC, kQ]
   refine aD (bB (by simp [he]) (.inl (hq 2 h1 r ?_)))
   unfold Infl.codes
   rw [if_neg fun hh=>hn hh.2]
   exact ⟨U1.mono fun _ _ h=>h.elim,fun _ _ h=>h,D.ext U1,rfl,rfl,rfl,rfl,.inl rfl,hd⟩
  ·simp only [lC, kQ]
   refine aD (aN rfl ?_)
   have U:=U1.then U2
   have hlt:=A1.recd.lt
   have hge:=A2.g
   have hU1:=U1.1
   have T:Two h2 (Gd F d r) ia syma a ib symb b:=by
    refine ⟨{ A1.upd (G':=fun i=>h.length≤i) U2 (fun _ _ h=>h) (fun i hl hi=>hi) with g:=⟨D.gd hF A1.g,by omega⟩,gs:=fun i hi=>?_ },{ A2 with g:=⟨D.gd hF (by omega),by omega⟩,gs:=fun i hi=>?_ }⟩
    ·obtain ⟨g1, g2, g3⟩ := A1.gs i hi
     exact ⟨⟨D.gd hF g1,by omega⟩,g2,Nat.lt_of_lt_of_le g3 U2.1⟩
    ·obtain ⟨g1, g2, g3⟩ := A2.gs i hi
     exact ⟨⟨D.gd hF (by omega),by omega⟩,g2,g3⟩
   refine tM (D.ext U) (fun i hi=>hF i (Nat.le_trans U.1 hi)) hd T fun e h3 r3 P=>aD (.inl (hq e h3 r3 ?_))
   unfold Infl.codes
   rw [if_pos ⟨ha,hb⟩]
   exact P.from U (fun _ _ h=>h.elim) (fun _ _ h=>h) rfl rfl rfl
theorem aGO:∀ x∈Infl.fixedL,x≤15:=by decide +kernel
theorem aIG:∀ x∈Infl.fixedD,x≤15:=by decide +kernel
theorem aMH (D:Dec L h F d r out told) (hF:∀ i,h.length≤i→F i) (hd:r.done=false)
  (hq:∀ e h' r',cT (· = d) L h F d r told (Infl.codes ⟨out,r.last,r.skip⟩ Infl.fixedL Infl.fixedD) e h' r'→Q (.i .i64 e) h'):C Y60.id [dp d] h Q:=by
 refine Y60.call ?_
 simp only [Y60.t]
 refine wF fun h1 v w U1 Rv Rw _ _=>?_
 simp only [lC,kQ]
 refine aFF (D.ext U1) (fun i hi=>hF i (Nat.le_trans U1.1 hi)) hd Rv Rw (by decide +kernel) (by decide +kernel) aGO aIG fun e h2 r2 P=>aD (.inl (hq e h2 r2 ?_))
 exact P.from U1 (fun _ _ h=>h.elim) (fun _ _ h=>h) rfl rfl rfl
theorem aL5 {x : Nat} {v : AV} (D : Dec L h F d r out told) (hF : ∀ i, h.length ≤ i → F i) (hd : r.done = false) (hc : Clo h (Gd F d r) d 0 (.p none) .block v) (hf : fit .block x)
  (hq:∀ e h' r',cT F L h F d r told (Infl.apply L r.input ⟨out,r.last,r.skip⟩ x .block) e h' r'→Q (.i .i64 e) h'):b9 C v [iN x] h Q:=by
 obtain ⟨bd,rfl,B⟩:=hc
 have hf:x<8:=hf
 refine dD (by decide) (Y52.call ?_)
 simp only [Y52.t,B.ld,bN,bK]
 have hand:aX .and .i64 (x:Int) 1=((x % 2:Nat):Int):=by
  have:=rX (x:=x) (y:=1) (by omega) (by decide)
  rw [Nat.and_one_is_mod] at this
  exact this
 rw [hand]
 have hlast:decide (((x % 2:Nat):Int)=1)=(x % 2 == 1):=by
  rw [Bool.eq_iff_iff]; simp; omega
 rw [hlast]
 refine aI D.recd rfl (ltr rfl) (hk:=fun h1 l1 U1 R1=>?_)
 have D1:Dec L h1 F d { r with last:=x % 2 == 1 } out told:=D.with U1 R1 rfl rfl rfl rfl
 have B1:Bx h1 (Gd F d { r with last:=x % 2 == 1 }) bd (dp d):=B.upd U1 (fun i hi e=>hi.2 (.inl e)) fun _ _ h=>h
 have hF1:∀ i,h1.length≤i→F i:=fun i hi=>hF i (by omega)
 refine aJ5 (a:=x) (b:=1) (by decide) ?_
 rw [B1.ld]
 have hx4:x / 2 ^ 1=x / 2:=rfl
 have hm:∀ {o:Out} {e:Int} {h':aA} {r':DR},cT (· = d) L h1 F d { r with last:=x % 2 == 1 } told o e h' r'→cT F L h F d r told o e h' r':=fun {o e h' r'} P=>by
  have P':cT F L h1 F d { r with last:=x % 2 == 1 } told o e h' r':=P.mono fun i _ e=>D.f i (.inl e)
  exact P'.from U1 (fun i _ e=>D.f i (.inl e)) (fun _ _ h=>h) rfl rfl rfl
 simp only [Infl.apply] at hq
 refine aQ ?_ ?_ <;> intro e0
 ·have e0 : x / 2 = 0 := by simp at e0; omega
  simp only [e0] at hq
  simp only [bN,bK]
  refine aI D1.recd rfl (ltr rfl) (hk:=fun h2 l2 U2 R2=>?_)
  have D2:Dec L h2 F d { r with last:=x % 2 == 1,skip:=true } out told:=D1.with U2 R2 rfl rfl rfl rfl
  have B2:Bx h2 (Gd F d { r with last:=x % 2 == 1,skip:=true }) bd (dp d):=B1.upd U2 (fun i hi e=>hi.2 (.inl e)) fun _ _ h=>h
  rw [B2.ld]
  refine aKT D2 (fun i hi=>hF i (by omega)) hd fun e h3 r3 P=>aD (.inl (hq e h3 r3 ?_))
  refine hm (P.from U2 (fun i _ e=>e) (fun _ _ h=>h) rfl rfl rfl)
 ·refine aQ ?_ ?_ <;> intro e1
  ·have e1 : x / 2 = 1 := by simp at e1; omega
   simp only [e1] at hq
   rw [B1.ld]
   refine aMH D1 hF1 hd fun e h3 r3 P=>aD (.inl (hq e h3 r3 (hm P)))
  ·refine aQ ?_ ?_ <;> intro e2
   ·have e2 : x / 2 = 2 := by simp at e2; omega
    simp only [e2] at hq
    rw [B1.ld]
    refine aG1 D1 hF1 hd fun e h3 r3 P=>aD (.inl (hq e h3 r3 (hm P)))
   ·have e3 : x / 2 = 3 := by simp at e0 e1 e2; omega
    simp only [e3] at hq
    exact .inl (hq 2 h1 { r with last:=x % 2 == 1 } ⟨U1.mono fun i _ e=>D.f i (.inl e),fun _ _ h=>h,D1,rfl,rfl,rfl,rfl,.inl rfl,hd⟩)
theorem aFA {a b:List Nat} {ic ib:Nat} {sym symb:AV} (A:cC h (Gd F d r) ic a sym 0 0) (Bc:cC h (fun i=>Gd F d r i∧i≠ic) ib b symb 0 0) (hs:¬ aS sym ib):Two h (Gd F d r) ic sym a ib symb b:=
 ⟨{ A with g:=⟨A.g,fun e=>Bc.g.2 e.symm⟩,gs:=fun i hi=>⟨⟨(A.gs i hi).1,fun e=>hs (e ▸ hi)⟩,(A.gs i hi).2⟩ },Bc⟩
theorem aO4 {x ic : Nat} {sym : AV} {a b : List Nat} {v : AV} (D : Dec L h F d r out told) (hF : ∀ i, h.length ≤ i → F i) (hd : r.done = false) (A : cC h (Gd F d r) ic a sym 0 0) (hc : Clo h (fun i => Gd F d r i ∧ i ≠ ic) d ic sym (.lit a b) v) (hf : fit (.lit a b) x)
  (hq:∀ e h' r',cT F L h F d r told (Infl.apply L r.input ⟨out,r.last,r.skip⟩ x (.lit a b)) e h' r'→Q (.i .i64 e) h'):b9 C v [iN x] h Q:=by
 obtain ⟨bd,ba,bb,ib,symb,rfl,B,Ba,Bb,Bc,hs⟩:=hc
 have hf:x<320:=hf
 have T:=aFA A Bc hs
 have w:∀ {y z},Bx h (fun i=>Gd F d r i∧i≠ic) y z→Bx h (Gd F d r) y z:=fun B=>B.upd (Upd.refl (fun _=>False) h) (fun _ _ h=>h) fun i _ hi=>hi.1
 have B:=w B
 have Ba:=w Ba
 have Bb:=w Bb
 refine dD (by decide) (Y54.call ?_)
 simp only [Y54.t,B.ld]
 simp only [Infl.apply,Infl.putP] at hq
 refine aQ ?_ ?_ <;> intro e0
 ·have e0 : x < 256 := by simp at e0; omega
  rw [if_pos e0] at hq
  rw [aM6 e0]
  refine aK0 D hF (fun hfull=>?_) fun hfull p f h1 U1 K1 D1=>?_
  ·refine aD (bB rfl (.inl (hq 16 h r ?_)))
   rw [if_pos hfull]
   exact ⟨Upd.refl _ _,fun _ _ h=>h,D,rfl,rfl,rfl,rfl,.inr rfl,hd⟩
  ·refine aD (aN rfl ?_)
   have B1:=B.upd U1 (fun i hi hm=>hi.2 hm) (fX K1)
   have Ba1:=Ba.upd U1 (fun i hi hm=>hi.2 hm) (fX K1)
   have Bb1:=Bb.upd U1 (fun i hi hm=>hi.2 hm) (fX K1)
   rw [B1.ld,Ba1.ld,Bb1.ld]
   refine tM D1 (fun i hi=>hF i (Nat.le_trans U1.1 hi)) hd (T.upd U1 (fun i hi hm=>hi.2 hm) (fX K1)) fun e h2 r2 P=>aD (.inl (hq e h2 r2 ?_))
   rw [if_neg (by simp [hfull])]
   exact (P.mono fun i _ e=>D1.f i (.inl e)).from U1 (fun i _ hm=>D.f i hm) K1 rfl rfl rfl
 ·have e0 : ¬ x < 256 := by simp at e0; omega
  rw [if_neg e0] at hq
  refine aQ ?_ ?_ <;> intro e1
  ·have e1 : x = 256 := by simp at e1; omega
   rw [if_pos e1] at hq
   exact aAX D hF hd fun e h1 r1 P=>aD (.inl (hq e h1 r1 (P.mono fun i _ e=>D.f i (.inl e))))
  ·have e1 : ¬ x = 256 := by simp at e1; omega
   rw [if_neg e1] at hq
   refine aQ ?_ ?_ <;> intro e2
   ·have e2 : 285 < x := by simp at e2; omega
    rw [if_pos e2] at hq
    exact .inl (hq 2 h r ⟨Upd.refl _ _,fun _ _ h=>h,D,rfl,rfl,rfl,rfl,.inl rfl,hd⟩)
   ·have e2 : ¬ 285 < x := by simp at e2; omega
    rw [if_neg e2] at hq
    obtain ⟨b1,b2⟩:=aKA x (by omega) (by omega)
    refine aLB (by omega) (by omega) ?_
    simp only [lC,kQ]
    refine aD (aD (eB fun h1 l1 U1 R1=>?_))
    refine aI R1 rfl (ltr rfl) (hk:=fun h2 l2 U2 R2=>?_)
    have U:Upd (fun _=>False) h h2:=U1.own U2 (Nat.le_refl _)
    have up:∀ {y z},Bx h (Gd F d r) y z→Bx h2 (Gd F d r) y z:=fun B=>B.upd U (fun _ _ h=>h) fun _ _ h=>h
    have Bn:Bx h2 (Gd F d r) (.p (some ⟨h.length,1,0⟩)) (iN (Infl.least x).1):=⟨_,rfl,R2,D.gd hF (Nat.le_refl _)⟩
    rw [(up B).ld]
    refine dS (D.ext U) hd (c:=.more a b (Infl.least x).1) ⟨_,_,_,_,ic,sym,ib,symb,rfl,up B,up Bb,Bn,up Ba,T.upd U (fun _ _ h=>h) fun _ _ h=>h⟩ ⟨b2,by simp, ?_,fun v hv=>?_⟩ fun h3 r3 P=>aD (.inl (hq 0 h3 r3 ?_))
    ·by_cases hz : (Infl.least x).2 = 0
     ·exact .inr ⟨hz,rfl,trivial⟩
     ·exact .inl (by omega)
    ·show (Infl.least x).1+v≤300; omega
    ·exact (P.from U (fun _ _ h=>h.elim) (fun _ _ h=>h) rfl rfl rfl).mono fun i _ e=>D.f i (.inl e)
theorem aOJ {x n:Nat} {a b:List Nat} {v:AV} (D:Dec L h F d r out told) (hF:∀ i,h.length≤i→F i) (hd:r.done=false) (hc:Clo h (Gd F d r) d 0 (.p none) (.more a b n) v) (hf:fit (.more a b n) x)
  (hq:∀ e h' r',cT F L h F d r told (Infl.apply L r.input ⟨out,r.last,r.skip⟩ x (.more a b n)) e h' r'→Q (.i .i64 e) h'):b9 C v [iN x] h Q:=by
 obtain ⟨bd,bb,bn,ba,ia,syma,ib,symb,rfl,B,Bb,Bn,Ba,T⟩:=hc
 have hf:n+x≤300:=hf
 refine dD (by decide) (Y57.call ?_)
 simp only [Y57.t]
 refine b8 (hk:=fun h1 l1 U1 R1=>?_)
 have hib:=T.2.recd.lt
 have up:∀ {y z},Bx h (Gd F d r) y z→Bx h1 (Gd F d r) y z:=fun B=>B.upd U1 (fun _ _ h=>h) fun _ _ h=>h
 rw [(up B).ld,(up Bb).ld]
 have sep:∀ {y z},Bx h1 (Gd F d r) y z→Bx h1 (fun i=>Gd F d r i∧i≠ib) y z:=fun {y z} B=>by
  obtain ⟨id,e,R,g⟩:=B
  refine ⟨id,e,R,g, ?_⟩
  rintro rfl
  have R':=(T.2.recd.upd U1 fun h=>h)
  obtain ⟨b1,p1,p2,_⟩:=R
  obtain ⟨b2,q1,q2,_⟩:=R'
  rw [p1] at q1
  cases q1
  rw [p2] at q2
  have:=congrArg List.length q2
  rw [eM, ← cO (cG b) aH1 (by simp)] at this
  simp at this
 refine vY (D.ext U1) hd (l:=b) (ic:=ib) (sym:=symb) (c:=.far a b (n+x)) (T.2.upd U1 (fun _ _ h=>h) fun i _ hi=>hi.1) ⟨bd,bn,_,ba,bb,n,x,ia,syma,rfl,rfl,sep (up B),sep (up Bn),sep (Bx.new R1 (D.gd hF (Nat.le_refl _))),sep (up Ba),sep (up Bb),T.1.upd U1 (fun _ _ h=>h) fun i _ hi=>hi,fun hs=>(T.2.gs ia hs).1.2 rfl⟩ ⟨by decide,by decide,fun v hv=>⟨hf,by have:=T.2.len; omega⟩⟩ fun h2 r2 P=>aD (.inl (hq 0 h2 r2 ?_))
 exact (P.from U1 (fun _ _ h=>h.elim) (fun _ _ h=>h) rfl rfl rfl).mono fun i _ e=>D.f i (.inl e)
theorem aPI {x n ic:Nat} {sym:AV} {a b:List Nat} {v:AV} (D:Dec L h F d r out told) (hF:∀ i,h.length≤i→F i) (hd:r.done=false) (A:cC h (Gd F d r) ic b sym 0 0) (hc:Clo h (fun i=>Gd F d r i∧i≠ic) d ic sym (.far a b n) v) (hf:fit (.far a b n) x)
  (hq:∀ e h' r',cT F L h F d r told (Infl.apply L r.input ⟨out,r.last,r.skip⟩ x (.far a b n)) e h' r'→Q (.i .i64 e) h'):b9 C v [iN x] h Q:=by
 obtain ⟨bd,bn,bm,ba,bb,n0,m,ia,syma,rfl,hn,B,Bn,Bm,Ba,Bb,Ac,hs⟩:=hc
 obtain ⟨hf1,hf2⟩:=hf
 have T:Two h (Gd F d r) ia syma a ic sym b:=by
  have:=aFA A Ac hs
  exact ⟨this.2,this.1⟩
 have w:∀ {y z},Bx h (fun i=>Gd F d r i∧i≠ic) y z→Bx h (Gd F d r) y z:=fun B=>B.upd (Upd.refl (fun _=>False) h) (fun _ _ h=>h) fun i _ hi=>hi.1
 refine dD (by decide) (Y51.call ?_)
 simp only [Y51.t]
 simp only [Infl.apply] at hq
 refine aQ ?_ ?_ <;> intro e0
 ·have e0 : 29 < x := by simp at e0; omega
  rw [if_pos e0] at hq
  exact .inl (hq 2 h r ⟨Upd.refl _ _,fun _ _ h=>h,D,rfl,rfl,rfl,rfl,.inl rfl,hd⟩)
 ·have e0 : ¬ 29 < x := by simp at e0; omega
  rw [if_neg e0] at hq
  obtain ⟨b0,b1,b2⟩:=aNO x (by omega)
  refine aEN (by omega) ?_
  simp only [lC,kQ]
  refine aD (aD (eB fun h1 l1 U1 R1=>?_))
  refine aI R1 rfl (ltr rfl) (hk:=fun h2 l2 U2 R2=>?_)
  have U:Upd (fun _=>False) h h2:=U1.own U2 (Nat.le_refl _)
  have up:∀ {y z},Bx h (fun i=>Gd F d r i∧i≠ic) y z→Bx h2 (Gd F d r) y z:=fun B=>(w B).upd U (fun _ _ h=>h) fun _ _ h=>h
  have Bf:Bx h2 (Gd F d r) (.p (some ⟨h.length,1,0⟩)) (iN (Infl.farOf x).1):=⟨_,rfl,R2,D.gd hF (Nat.le_refl _)⟩
  rw [(up B).ld]
  refine dS (D.ext U) hd (c:=.farMore a b n (Infl.farOf x).1) ⟨_,_,_,_,_,_,n0,m,ia,syma,ic,sym,rfl,hn,up B,up Bn,up Bm,Bf,up Ba,up Bb,T.upd U (fun _ _ h=>h) fun _ _ h=>h⟩ ⟨b2,by simp, ?_,fun v hv=>⟨hf1,b0,by omega⟩⟩ fun h3 r3 P=>aD (.inl (hq 0 h3 r3 ?_))
  ·by_cases hz : (Infl.farOf x).2 = 0
   ·exact .inr ⟨hz,rfl,trivial⟩
   ·exact .inl (by omega)
  ·exact (P.from U (fun _ _ h=>h.elim) (fun _ _ h=>h) rfl rfl rfl).mono fun i _ e=>D.f i (.inl e)
theorem aGZ {x n f : Nat} {a b : List Nat} {v : AV} (D : Dec L h F d r out told) (hF : ∀ i, h.length ≤ i → F i) (hd : r.done = false) (hc : Clo h (Gd F d r) d 0 (.p none) (.farMore a b n f) v) (hf : fit (.farMore a b n f) x)
  (hq:∀ e h' r',cT F L h F d r told (Infl.apply L r.input ⟨out,r.last,r.skip⟩ x (.farMore a b n f)) e h' r'→Q (.i .i64 e) h'):b9 C v [iN x] h Q:=by
 obtain ⟨bd,bn,bm,bf,ba,bb,n0,m,ia,syma,ib,symb,rfl,hn,B,Bn,Bm,Bf,Ba,Bb,T⟩:=hc
 obtain ⟨hf1,hf2,hf3⟩:=hf
 refine dD (by decide) (Y45.call ?_)
 simp only [Y45.t,B.ld,Bn.ld,Bm.ld,Bf.ld,lF]
 simp only [Infl.apply] at hq
 refine d5 (n:=(n:Int)) (by omega) (by omega) (by omega) ?_
 refine d5 (n:=((f+x:Nat):Int)) (by omega) (by omega) (by omega) ?_
 refine aNJ (by omega) hf1 hf3 D hF (fun hlt=>?_) fun hge e h1 p f' t U1 K1 D1 he=>?_
 ·rw [if_pos hlt] at hq
  exact aD (bB rfl (.inl (hq 2 h r ⟨Upd.refl _ _,fun _ _ h=>h,D,rfl,rfl,rfl,rfl,.inl rfl,hd⟩)))
 ·rw [if_neg (by omega)] at hq
  have hcore:=vO (L:=L) (input:=r.input) (far:=f+x) n ⟨out,r.last,r.skip⟩
  cases hcp:Infl.copyP L r.input (f+x) n ⟨out,r.last,r.skip⟩ with
  | mk k ok =>
   rw [hcp] at hcore D1 he hq
   simp only at hcore D1 he hq
   rcases he with ⟨rfl,rfl⟩ | ⟨rfl,rfl⟩
   ·refine aD (aN rfl ?_)
    have B1:=B.upd U1 (fun i hi hm=>hi.2 hm) (fX K1)
    have Ba1:=Ba.upd U1 (fun i hi hm=>hi.2 hm) (fX K1)
    have Bb1:=Bb.upd U1 (fun i hi hm=>hi.2 hm) (fX K1)
    rw [B1.ld,Ba1.ld,Bb1.ld]
    refine tM D1 (fun i hi=>hF i (Nat.le_trans U1.1 hi)) hd (T.upd U1 (fun i hi hm=>hi.2 hm) (fX K1)) fun e h2 r2 P=>aD (.inl (hq e h2 r2 ?_))
    rw [hcore]
    exact (P.mono fun i _ e=>D1.f i (.inl e)).from U1 (fun i _ hm=>D.f i hm) K1 rfl rfl rfl
   ·refine aD (bB rfl (.inl (hq 16 h1 { r with past := p, total := t, fresh := f' } ?_)))
    exact ⟨U1.mono fun i _ hm=>D.f i hm,K1,D1,rfl,rfl,rfl,rfl,.inr rfl,hd⟩
end
end Go.Proofs.YtfoekpcljhbijaaGreatDoor
namespace Go.Proofs.YtfoekpcljhbijaaGreatDoor
open Go.GAM
abbrev u8T:TypeId:=5
section
variable [XR] {h:aA} {Q:AV→aA→Prop} {G:Nat→Prop} {w:Nat}
theorem slv {E:TypeId} {h:aA} {v:AV} {l:List UInt8} (B:gT E h v l):v.parts=[v]∧v.sizeOK=true∧v.cellOK=true:=by
 rcases B with ⟨rfl,_⟩ | ⟨id,b,rfl,_⟩ <;> exact ⟨rfl,rfl,rfl⟩
theorem aIP {l:List Nat} {i x:Nat} (h:l[i]? = some x):(bH l)[i * 1]? = some (iN x):=by
 unfold bH
 rw [Nat.mul_one,List.getElem?_map,h] <;> rfl
theorem RdI.nat {h:aA} {v:AV} {l:List Nat} {k:IntKind} {i x:Nat} (R:RdI 1 h v (bH l) l.length) (hx:l[i]? = some x) {K:AV→Prop} (hk:K (iN x)):aZ 1 v (.i k (i:Int)) h fun a=>aC a h K:=by
 have hi:=(List.getElem?_eq_some_iff.1 hx).1
 obtain ⟨p,P,hp⟩:=R.at hi
 have e:((bH l).drop (i * 1)).take 1=[iN x]:=by
  have hl:i<(bH l).length:=by rw [aV]; exact hi
  rw [Nat.mul_one,List.drop_eq_getElem_cons hl]
  have:=aIP hx
  rw [Nat.mul_one,List.getElem?_eq_getElem hl] at this
  rw [Option.some.inj this] <;> rfl
 rw [e] at P
 exact hp k h _ (Upd.refl _ _) (P.load1 hk)
end
end Go.Proofs.YtfoekpcljhbijaaGreatDoor
namespace Go.GAM
def aBO (h:aA) (id:Nat) (cs:List AV):Prop:=∃ b:ABlk,h[id]? = some b∧b.cells=cs∧b.floor≤cs.length∧b.gl=true
theorem aBO.upd {M:Nat→Prop} {h h':aA} {id:Nat} {cs:List AV} (G:aBO h id cs) (U:Upd M h h') (hM:¬ M id):aBO h' id cs:=by
 obtain ⟨b,h1,h2⟩:=G
 exact ⟨b,(U.2 id (aL h1) hM).trans h1,h2⟩
theorem aBO.var {h:aA} {id:Nat} {cs:List AV} (G:aBO h id cs):aDO h id = .p (some ⟨id,cs.length,0⟩):=by
 obtain ⟨b,h1,rfl,h3,h4⟩:=G
 unfold aDO
 rw [h1]
 simp only [h4,Bool.true_and,Nat.ble_eq_true_of_le h3,cond_true]
theorem aBO.ld {h:aA} {id n o:Nat} {cs:List AV} {v:AV} {K:AV→Prop} (G:aBO h id cs) (hn:n=cs.length) (hc:cs[o]? = some v) (hk:K v):aC (.p (some ⟨id,n,o⟩)) h K:=by
 obtain ⟨b,h1,rfl,h3,h4⟩:=G
 subst hn
 have:=aL hc
 refine ⟨b,h1,⟨h3,Nat.le_refl _,this⟩, ?_⟩
 show K (b.cells.getD o .u)
 rw [getD_some hc]; exact hk
end Go.GAM
namespace Go.Proofs.YtfoekpcljhbijaaGreatDoor
open Go.GAM
open Go.Infl (bI cL bX Out Lim)
theorem Exa.rd {h:aA} {v:AV} {l:List Nat} (S:Exa h v l):Rd 1 h v (bH l) l.length:=by
 rcases S with ⟨rfl,rfl⟩ | ⟨id,b,rfl,h1,h2,h3,h4,h5⟩
 ·exact .inl ⟨rfl,rfl,rfl⟩
 ·have e : b.cells.length = l.length := by rw [h3, aV]
  exact .inr ⟨id,_,0,none,b,rfl,h1,.inl h2,h4,by omega,by omega,by rw [h3,List.drop_zero,Nat.mul_one, ← aV l,List.take_length]⟩
theorem Exa.app {ty:Option TypeId} {h:aA} {v y:AV} {l ns:List Nat} (S:Exa h v l) (R1:∀ K:List AV→Nat→Prop,K (bH ns) ns.length→fQ 1 y h K) (hn:0<ns.length) (hlen:l.length+ns.length≤1000000) {K:AV→aA→Prop}
  (hk:∀ v' h',Upd (aS v) h h'→Exa h' v' (l++ns)→(∀ i,aS v' i→aS v i∨h.length≤i)→K v' h'):b5 ty 1 8 v y h K:=by
 refine ⟨Nat.one_pos,R1 _ ?_⟩
 rcases S with ⟨rfl,rfl⟩ | ⟨id,b,rfl,g1,g2,g3,g4,g5,g6⟩
 ·refine ⟨by omega, by omega, ?_⟩
  rw [if_neg (by omega)]
  exact hk _ _ ((Upd.app _ _).mono fun _ _ h=>h.elim) (.inr ⟨h.length,aW (bH ns) 1 false ty,by rw [aV] <;> rfl,by simp,rfl,rfl,by simp [aW,aV],rfl,rfl⟩) fun i hi=>.inr (by have e:h.length=i:=hi; omega)
 ·have hid := aL g1
  have e:b.cells.length=l.length:=by rw [g3,aV]
  have ea:(l++ns).length=l.length+ns.length:=List.length_append
  have ec:(b.cells.drop 0).take (l.length * 1)=bH l:=by rw [g3,List.drop_zero,Nat.mul_one, ← aV l,List.take_length]
  refine ⟨by omega,by omega,b,g1,g2,⟨g4,by simp only; omega,by simp only; omega⟩, ?_⟩
  cases hex:b.ex with
  | true =>
   refine .inr (.inl ⟨hn,.inr ⟨rfl,e.symm,rfl,by simp only; omega⟩, ?_⟩)
   simp only [ec]
   rw [← jA]
   refine hk _ _ ((Upd.app _ _).mono fun _ _ h=>h.elim) (.inr ⟨h.length,aW (bH (l++ns)) 1 false ty,by rw [aV,ea],by simp,rfl,rfl,by simp [aW,aV],rfl,rfl⟩) fun i hi=>.inr (by have e:h.length=i:=hi; omega)
  | false =>
   refine .inr (.inr (.inr (.inl ⟨hn,g5,e.symm,rfl,by omega,rfl,rfl,g6,rQ _, ?_⟩)))
   refine hk _ _ ((Upd.set _ _ _).mono fun i _ h=>h.symm) (.inr ⟨id,{ b with cells:=b.cells++bH ns,ty:=gQ b.ty ty }, ?_,by simp [hid,hex],g2,by simp only [g3]; rw [jA],by simp only; omega,g5,g6⟩) fun i hi=>.inl hi
   rw [List.length_append,aV,e,ea]
theorem Exa.front {h:aA} {v:AV} {l:List Nat} (S:Exa h v l) {n:Nat} (hn:n≤l.length) {K:AV→Prop} (hk:∀ v',RdI 1 h v' (bH (l.take n)) (l.take n).length→K v'):bZ 1 v none (some (.i .i64 (n:Int))) none h K:=by
 obtain ⟨v',R,hv⟩:=S.rd.cutAt Nat.one_pos (lo:=none) (lo':=0) (hi:=n) (.inl ⟨rfl,rfl⟩) (Nat.zero_le _) hn
 refine hv _ (hk v' ?_)
 have e:(l.take n).length=n:=by rw [List.length_take]; omega
 rw [e]
 have:=R.i
 rw [Nat.zero_mul,List.drop_zero,Nat.mul_one,Nat.sub_zero] at this
 unfold bH at this ⊢
 rw [List.map_take]; exact this
theorem Exa.back {h:aA} {v:AV} {l:List Nat} (S:Exa h v l) {n:Nat} (hn:n≤l.length) {K:AV→Prop} (hk:∀ v',RdI 1 h v' (bH (l.drop n)) (l.drop n).length→K v'):bZ 1 v (some (.i .i64 (n:Int))) none none h K:=by
 rcases S with ⟨rfl,rfl⟩ | ⟨id,b,rfl,g1,g2,g3,g4,g5,g6⟩
 ·have : n = 0 := by simpa using hn
  subst this
  exact ⟨by simp,rfl,rfl,rfl,fun h=>by simp at h,hk _ (.inl ⟨rfl,rfl,rfl⟩)⟩
 ·have e : b.cells.length = l.length := by rw [g3, aV]
  refine ⟨Nat.one_pos,fun h=>by simp at h,by omega,by simpa using hn,b,g1,by omega,by show b.floor≤l.length; omega,.inl g2,.inl (Nat.le_refl _), ?_⟩
  refine hk _ (.inr (.inr ⟨id,l.length,0+((n:Int).toNat) * 1,none,b, ?_,g1,by omega,by omega, ?_, ?_⟩))
  ·simp
  ·simp; omega
  ·rw [Int.toNat_natCast, Nat.mul_one, Nat.zero_add, Nat.mul_one, g3]
   unfold bH
   rw [← List.map_drop]
   exact List.take_of_length_le (by simp)
theorem fI.store {h:aA} {G:Nat→Prop} {v:AV} {l:List Nat} (A:fI h G v l) {k:IntKind} {i x:Nat} (hi:i<l.length) {K:aA→Prop} (hk:∀ h',h'.length=h.length→Upd (aS v) h h'→fI h' G v (l.set i x)→K h') :
  aZ 1 v (.i k (i:Int)) h fun a=>aR 1 a (iN x) h K:=by
 obtain ⟨id,b,rfl,h1,h2,h3,h4,h5,g⟩:=A
 have e:b.cells.length=l.length:=by rw [h2,aV]
 refine ⟨by omega,by omega,⟨b,h1,by show b.floor≤l.length; omega,by omega⟩, ?_⟩
 refine ⟨b,h1,h4,h3,e.symm,by simp only [Int.toNat_natCast]; omega,rfl,rfl,rfl, ?_⟩
 refine hk _ (by simp) ((Upd.set _ _ _).mono fun i _ h=>h.symm) ⟨id,_,by rw [List.length_set],List.getElem?_set_self (aL h1), ?_, ?_,h4,h5,g⟩
 ·show (b.cells).set (0 + (i : Int).toNat * 1) (iN x) = _
  rw [Int.toNat_natCast,Nat.mul_one,Nat.zero_add,h2,nQ]
 ·show b.cells.length ≤ _
  rw [List.length_set]; omega
section
variable [XR] {h:aA} {Q:AV→aA→Prop} {L:Lim} {F:Nat→Prop} {d:Nat} {r:DR} {out:List UInt8} {told:Nat}
theorem sQ {c l:List Nat} {lits dists ic:Nat} {symc lv:AV} (hc19:c.length≤19) (hl1:lits≤286) (hd1:dists≤30) (hll:l.length≤lits+dists) (h16:∀ x∈l,x<16) (D:Dec L h F d r out told) (hF:∀ i,h.length≤i→F i) (hd:r.done=false)
  (A:cC h (Gd F d r) ic c symc 0 0) (S:Lst h (fun i=>Gd F d r i∧i≠ic∧¬ aS symc i) lv l)
  (hq:∀ e h' r',cT (· = d) L h F d r told (Infl.lensW ⟨out,r.last,r.skip⟩ c l lits dists) e h' r'→Q (.i .i64 e) h'):C Y30.id [dp d,cp ic,lv,iN lits,iN dists] h Q:=by
 refine Y30.call ?_
 simp only [Y30.t]
 refine b8 (hk:=fun h1 l1 U1 R1=>?_)
 refine b8 (hk:=fun h2 l2 U2 R2=>?_)
 refine b8 (hs:=by rcases S.1 with ⟨rfl,_⟩ | ⟨id,b,rfl,_⟩ <;> rfl) (hk:=fun h3 l3 U3 R3=>?_)
 have hparts:lv.parts=[lv]:=by rcases S.1 with ⟨rfl,_⟩ | ⟨id,b,rfl,_⟩ <;> rfl
 rw [hparts] at R3 ⊢
 refine b8 (hk:=fun h4 l4 U4 R4=>?_)
 refine b8 (hk:=fun h5 l5 U5 R5=>?_)
 have U45:=U4.then U5
 have U35:=U3.then U45
 have U25:=U2.then U35
 have U:=U1.then U25
 have R1:=R1.upd U25 fun h=>h
 have R2:=R2.upd U35 fun h=>h
 have R3:=R3.upd U45 fun h=>h
 have R4:=R4.upd U5 fun h=>h
 have S5:Exa h5 lv l:=S.1.upd U fun _ _ h=>h
 refine aE R3 rfl rfl (S5.rd.len ?_)
 refine aE R4 rfl rfl (aD (aE R5 rfl rfl (aD ?_)))
 refine d5 (n:=((lits+dists:Nat):Int)) (by omega) (by omega) (by omega) ?_
 unfold Infl.lensW at hq
 refine aQ ?_ ?_ <;> intro e
 ·have e : l.length = lits + dists := by simp at e; omega
  rw [if_pos e] at hq
  refine aE R1 rfl rfl (aE R3 rfl rfl (aE R4 rfl rfl (aD (S5.front (by omega) fun va Ra=>?_))))
  refine aE R3 rfl rfl (aE R4 rfl rfl (aD (S5.back (by omega) fun vb Rb=>?_)))
  refine aFF (D.ext U) (fun i hi=>hF i (Nat.le_trans U.1 hi)) hd Ra Rb (by rw [List.length_take]; omega) (by rw [List.length_drop]; omega) (fun x hx=>by have:=h16 x (List.mem_of_mem_take hx); omega) (fun x hx=>by have:=h16 x (List.mem_of_mem_drop hx); omega) fun e1 h6 r6 P=>aD (.inl (hq e1 h6 r6 ?_))
  exact P.from U (fun _ _ h=>h.elim) (fun _ _ h=>h) rfl rfl rfl
 ·have e : ¬ l.length = lits + dists := by simp at e; omega
  rw [if_neg e] at hq
  refine eB fun h6 l6 U6 R6=>?_
  refine aI R6 rfl (ltr rfl) (hk:=fun h7 l7 U7 R7=>?_)
  have U67:Upd (fun _=>False) h5 h7:=U6.own U7 (Nat.le_refl _)
  have V:=U.then U67
  have R1:=R1.upd U67 fun h=>h
  have R2:=R2.upd U67 fun h=>h
  have R3:=R3.upd U67 fun h=>h
  have R4:=R4.upd U67 fun h=>h
  have R5:=R5.upd U67 fun h=>h
  have hic:=A.recd.lt
  have G:∀ {i},h.length≤i→(Gd F d r i∧i≠ic)∧¬ aS lv i:=fun hi=>⟨⟨D.gd hF hi,by omega⟩,fun hs=>by have:=S.1.lt hs; omega⟩
  refine aE R1 rfl rfl (aE R2 rfl rfl ?_)
  refine vY (D.ext V) hd (l:=c) (ic:=ic) (sym:=symc) (c:=.lens c l lits dists) (A.upd V (fun _ _ h=>h) fun i _ hi=>hi) ⟨_,_,_,_,_,_,lv,rfl,⟨S.1.upd V fun _ _ h=>h,fun i hi=>⟨(S.2 i hi).1,(S.2 i hi).2.1⟩⟩,fun i hi=>(S.2 i hi).2.2,⟨_,rfl,R1,G (Nat.le_refl _)⟩,⟨_,rfl,R2,G (by omega)⟩,⟨_,rfl,R3,G (by omega)⟩,⟨_,rfl,R4,G (by omega)⟩,⟨_,rfl,R5,G (by omega)⟩,⟨_,rfl,R7,G (by omega)⟩⟩
   ⟨by decide,by decide,fun v hv=>⟨hc19,hl1,hd1,by omega,h16,by omega⟩⟩ fun h8 r8 P=>aD (.inl (hq 0 h8 r8 ?_))
  exact P.from V (fun _ _ h=>h.elim) (fun _ _ h=>h) rfl rfl rfl
theorem aF2 {l:List Nat} {i n lits dists:Nat} {lv:AV} (hl1:lits≤286) (hd1:dists≤30) (h19:l.length=19) (h8:∀ x∈l,x<8) (hin:i≤n) (hn:n≤19) (D:Dec L h F d r out told) (hF:∀ i,h.length≤i→F i) (hd:r.done=false) (A:fI h (Gd F d r) lv l)
  (hq:∀ e h' r',cT (· = d) L h F d r told (Infl.thirdW ⟨out,r.last,r.skip⟩ l i n lits dists) e h' r'→Q (.i .i64 e) h'):C Y37.id [dp d,lv,iN i,iN n,iN lits,iN dists] h Q:=by
 refine Y37.call ?_
 simp only [Y37.t]
 have hparts:lv.parts=[lv]:=by obtain ⟨id,b,rfl,_⟩:=A; rfl
 have hlt:∀ j,aS lv j→j<h.length:=fun j hj=>A.rd.lt hj
 refine b8 (hk:=fun h1 l1 U1 R1=>?_)
 refine b8 (hs:=by obtain ⟨id,b,rfl,_⟩:=A; rfl) (hk:=fun h2 l2 U2 R2=>?_)
 rw [hparts] at R2 ⊢
 refine b8 (hk:=fun h3 l3 U3 R3=>?_)
 refine b8 (hk:=fun h4 l4 U4 R4=>?_)
 refine b8 (hk:=fun h5 l5 U5 R5=>?_)
 refine b8 (hk:=fun h6 l6 U6 R6=>?_)
 have U56:=U5.then U6
 have U46:=U4.then U56
 have U36:=U3.then U46
 have U26:=U2.then U36
 have U:=U1.then U26
 have R1:=R1.upd U26 fun h=>h
 have R2:=R2.upd U36 fun h=>h
 have R3:=R3.upd U46 fun h=>h
 have R4:=R4.upd U56 fun h=>h
 have R5:=R5.upd U6 fun h=>h
 have A6:fI h6 (Gd F d r) lv l:=A.upd U (fun _ _ h=>h) fun _ _ h=>h
 refine aE R3 rfl rfl (aD (aE R4 rfl rfl (aD ?_)))
 unfold Infl.thirdW at hq
 refine aQ ?_ ?_ <;> intro e
 ·have e : i = n := by simp at e; omega
  rw [if_pos e] at hq
  refine aE R2 rfl rfl ?_
  refine wC A6.rd.i (by omega) (fun x hx=>by have:=h8 x hx; omega) (fun hn e he=>?_) fun hok h7 ic sym U7 Ac=>?_
  ·simp only [lC, kQ]
   rw [if_neg hn] at hq
   refine aD (bB (by simp [he]) (.inl (hq 2 h6 r ?_)))
   exact ⟨U.mono fun _ _ h=>h.elim,fun _ _ h=>h,D.ext U,rfl,rfl,rfl,rfl,.inl rfl,hd⟩
  ·simp only [lC, kQ]
   rw [if_pos hok] at hq
   refine aD (aN rfl ?_)
   have V:=U.then U7
   have hU:=U.1
   have Ag:cC h7 (Gd F d r) ic l sym 0 0:={ Ac with g:=D.gd hF (Nat.le_trans hU Ac.g),gs:=fun i hi=>⟨D.gd hF (Nat.le_trans hU (Ac.gs i hi).1),(Ac.gs i hi).2⟩ }
   refine aE (R1.upd U7 fun h=>h) rfl rfl (aE (R5.upd U7 fun h=>h) rfl rfl (aD (aE (R6.upd U7 fun h=>h) rfl rfl (aD ?_))))
   refine sQ (l:=[]) (by omega) hl1 hd1 (Nat.zero_le _) (fun x hx=>by cases hx) (D.ext V) (fun i hi=>hF i (Nat.le_trans V.1 hi)) hd Ag ⟨.inl ⟨rfl,rfl⟩,fun _ h=>h.elim⟩ fun e h8 r8 P=>aD (.inl (hq e h8 r8 ?_))
   exact P.from V (fun _ _ h=>h.elim) (fun _ _ h=>h) rfl rfl rfl
 ·have e : ¬ i = n := by simp at e; omega
  rw [if_neg e] at hq
  have G:∀ {i},h.length≤i→Gd F d r i∧¬ aS lv i:=fun hi=>⟨D.gd hF hi,fun hs=>by have:=hlt _ hs; omega⟩
  refine aE R1 rfl rfl ?_
  refine dS (D.ext U) hd (c:=.third l i n lits dists) ⟨_,_,_,_,_,_,lv,rfl,A6,⟨_,rfl,R2,G (by omega)⟩,⟨_,rfl,R3,G (by omega)⟩,⟨_,rfl,R1,G (Nat.le_refl _)⟩,⟨_,rfl,R4,G (by omega)⟩,⟨_,rfl,R5,G (by omega)⟩,⟨_,rfl,R6,G (by omega)⟩⟩
   ⟨by decide,by decide,.inl (by decide),fun v hv=>⟨hl1,hd1,h19,by omega,hn,h8,hv⟩⟩ fun h7 r7 P=>aD (.inl (hq 0 h7 r7 ?_))
  exact P.from U (fun _ _ h=>h.elim) (fun _ _ h=>h) rfl rfl rfl
theorem aN0 {x lits dists:Nat} {v:AV} (D:Dec L h F d r out told) (hF:∀ i,h.length≤i→F i) (hd:r.done=false) (hc:Clo h (Gd F d r) d 0 (.p none) (.dyn3 lits dists) v) (hf:fit (.dyn3 lits dists) x)
  (hq:∀ e h' r',cT F L h F d r told (Infl.apply L r.input ⟨out,r.last,r.skip⟩ x (.dyn3 lits dists)) e h' r'→Q (.i .i64 e) h'):b9 C v [iN x] h Q:=by
 obtain ⟨bd,bl,bs,rfl,B,Bl,Bs⟩:=hc
 obtain ⟨f1,f2,f3⟩:=hf
 refine dD (by decide) (Y63.call ?_)
 simp only [Y63.t,B.ld,Bl.ld,Bs.ld,lF]
 refine d5 (n:=((x+4:Nat):Int)) (by omega) (by omega) (by omega) ?_
 refine aCS (n:=19) (by decide) fun v h1 U1 A1=>?_
 have up:∀ {y z},Bx h (Gd F d r) y z→Bx h1 (Gd F d r) y z:=fun B=>B.upd U1 (fun _ _ h=>h) fun _ _ h=>h
 simp only [(up B).ld,(up Bl).ld,(up Bs).ld,lF,sH,true_and]
 refine aF2 (l:=List.replicate 19 0) (i:=0) f1 f2 (by simp) (fun x hx=>by rw [(List.mem_replicate.1 hx).2]; decide) (by omega) (by omega) (D.ext U1) (fun i hi=>hF i (Nat.le_trans U1.1 hi)) hd (A1.mono fun i _ hi=>D.gd hF hi) fun e h2 r2 P=>aD (.inl (hq e h2 r2 ?_))
 exact (P.from U1 (fun _ _ h=>h.elim) (fun _ _ h=>h) rfl rfl rfl).mono fun i _ e=>D.f i (.inl e)
theorem aKG:∀ i,i<19→Infl.order[i]? = some (Infl.order.getD i 0)∧Infl.order.getD i 0<19:=by decide
abbrev cU (h:aA):Prop:=aBO h 0 (bH Infl.order)
theorem aM0 {x i n lits dists:Nat} {l:List Nat} {v:AV} (O:cU h) (D:Dec L h F d r out told) (hF:∀ i,h.length≤i→F i) (hd:r.done=false) (hc:Clo h (Gd F d r) d 0 (.p none) (.third l i n lits dists) v) (hf:fit (.third l i n lits dists) x)
  (hq:∀ e h' r',cT F L h F d r told (Infl.apply L r.input ⟨out,r.last,r.skip⟩ x (.third l i n lits dists)) e h' r'→Q (.i .i64 e) h'):b9 C v [iN x] h Q:=by
 obtain ⟨bl,bi,bd,bn,bt,bs,lv,rfl,A,Bl,Bi,B,Bn,Bt,Bs⟩:=hc
 obtain ⟨f1,f2,f3,f4,f5,f6,f7⟩:=hf
 obtain ⟨o1,o2⟩:=aKG i (by omega)
 refine dD (by decide) (Y46.call ?_)
 simp only [Y46.t,Bl.ld,Bi.ld,lF]
 rw [O.var]
 refine ⟨by omega,by omega, ?_⟩
 refine O.ld (o:=0+(i:Int).toNat * 1) (v:=iN (Infl.order.getD i 0)) rfl (by rw [Int.toNat_natCast,Nat.mul_one,Nat.zero_add]; exact qW o1) (aD ?_)
 refine A.store (by omega) fun h1 l1 U1 A1=>?_
 have up:∀ {y z},Bx h (fun i=>Gd F d r i∧¬ aS lv i) y z→Bx h1 (fun i=>Gd F d r i∧¬ aS lv i) y z:=fun B=>B.upd U1 (fun i hi=>hi.2) fun _ _ h=>h
 simp only [(up B).ld,(up Bl).ld,(up Bi).ld,(up Bn).ld,(up Bt).ld,(up Bs).ld,lF]
 have hlv:∀ i,aS lv i→Gd F d r i:=fun i hi=>by obtain ⟨id,b,rfl,_,_,_,_,_,g⟩:=A; have e:id=i:=hi; exact e ▸ g
 refine inc (by omega) ?_
 refine aF2 (l:=l.set (Infl.order.getD i 0) x) (i:=i+1) f1 f2 (by rw [List.length_set]; exact f3) (fun y hy=>?_) (by omega) f5 (D.upd U1 fun i hm hi=>(hlv i hi).2 hm) (fun i hi=>hF i (by omega)) hd A1 fun e h2 r2 P=>aD (.inl (hq e h2 r2 ?_))
 ·rcases List.mem_or_eq_of_mem_set hy with h | h
  ·exact f6 y h
  ·rw [h]; exact f7
 ·exact (P.mono (N:=F) fun i _ e=>D.f i (.inl e)).from U1 (fun i _ hi=>(hlv i hi).1) (fun _ _ h=>h) rfl rfl rfl
theorem sB {bd bl bt bs bc lv symc:AV} {c l:List Nat} {lits dists ic bits m x:Nat} (D:Dec L h F d r out told) (hF:∀ i,h.length≤i→F i) (hd:r.done=false) (A:cC h (Gd F d r) ic c symc 0 0) (S:Lst h (fun i=>Gd F d r i∧i≠ic∧¬ aS symc i) lv l)
  (B:Bx h (fun i=>Gd F d r i∧¬ aS lv i) bd (dp d)) (Bl:Bx h (fun i=>Gd F d r i∧¬ aS lv i) bl lv) (Bt:Bx h (fun i=>Gd F d r i∧¬ aS lv i) bt (iN lits)) (Bs:Bx h (fun i=>Gd F d r i∧¬ aS lv i) bs (iN dists)) (Bc:Bx h (fun i=>Gd F d r i∧¬ aS lv i) bc (cp ic))
  (hb0:0<bits) (hb:bits≤7) (hfit:∀ v,v<2 ^ bits→fit (.rep c l lits dists m x) v)
  (hq:∀ h' r',cT (· = d) L h F d r told (.wait ⟨out,r.last,r.skip⟩ (.num bits 0 0) (.rep c l lits dists m x)) 0 h' r'→Q (iN 0) h'):b9 C (Fn Y32.id [bd,bl,bt,bs,bc]) [iN bits,iN m,iN x] h Q:=by
 refine dD (by decide) (Y32.call ?_)
 simp only [Y32.t]
 refine b8 (hk:=fun h1 l1 U1 R1=>?_)
 refine b8 (hk:=fun h2 l2 U2 R2=>?_)
 have U:=U1.then U2
 have R1:=R1.upd U2 fun h=>h
 have up:∀ {y z},Bx h (fun i=>Gd F d r i∧¬ aS lv i) y z→Bx h2 (fun i=>Gd F d r i∧¬ aS lv i) y z:=fun B=>B.upd U (fun _ _ h=>h) fun _ _ h=>h
 have G:∀ {i},h.length≤i→Gd F d r i∧¬ aS lv i:=fun hi=>⟨D.gd hF hi,fun hs=>by have:=S.1.lt hs; omega⟩
 rw [(up B).ld]
 refine dS (D.ext U) hd (c:=.rep c l lits dists m x) ⟨_,_,_,_,_,_,_,ic,symc,lv,rfl,S.upd U (fun _ _ h=>h) fun _ _ h=>h,A.upd U (fun _ _ h=>h) fun _ _ h=>h,up Bl,⟨_,rfl,R1,G (Nat.le_refl _)⟩,up Bt,up Bs,up B,up Bc,⟨_,rfl,R2,G (by omega)⟩⟩
  ⟨by omega,by simp,.inl hb0,hfit⟩ fun h3 r3 P=>aD (.inl (hq h3 r3 ?_))
 exact P.from U (fun _ _ h=>h.elim) (fun _ _ h=>h) rfl rfl rfl
theorem aN2 {x ic lits dists : Nat} {sym : AV} {c l : List Nat} {v : AV} (D : Dec L h F d r out told) (hF : ∀ i, h.length ≤ i → F i) (hd : r.done = false) (A : cC h (Gd F d r) ic c sym 0 0) (hc : Clo h (fun i => Gd F d r i ∧ i ≠ ic) d ic sym (.lens c l lits dists) v) (hf : fit (.lens c l lits dists) x)
  (hq:∀ e h' r',cT F L h F d r told (Infl.apply L r.input ⟨out,r.last,r.skip⟩ x (.lens c l lits dists)) e h' r'→Q (.i .i64 e) h'):b9 C v [iN x] h Q:=by
 obtain ⟨bd,bc,bl,bt,bs,br,lv,rfl,S0,hns,B,Bc,Bl,Bt,Bs,Br⟩:=hc
 obtain ⟨f0,f1,f2,f3,f4,f5⟩:=hf
 have S:Lst h (fun i=>Gd F d r i∧i≠ic∧¬ aS sym i) lv l:=⟨S0.1,fun i hi=>⟨(S0.2 i hi).1,(S0.2 i hi).2,hns i hi⟩⟩
 have w:∀ {y z},Bx h (fun i=>(Gd F d r i∧i≠ic)∧¬ aS lv i) y z→Bx h (fun i=>Gd F d r i∧¬ aS lv i) y z:=fun B=>B.upd (Upd.refl (fun _=>False) h) (fun _ _ h=>h) fun i _ hi=>⟨hi.1.1,hi.2⟩
 have B:=w B
 have Bc:=w Bc
 have Bl:=w Bl
 have Bt:=w Bt
 have Bs:=w Bs
 have Br:=w Br
 have hFd:∀ i,h.length≤i→F i:=hF
 refine dD (by decide) (Y23.call ?_)
 simp only [Y23.t, ← Y23.p0.eq_1]
 simp only [Infl.apply] at hq
 refine aQ ?_ ?_ <;> intro e0
 ·have e0 : x < 16 := by simp at e0; omega
  rw [if_pos e0] at hq
  simp only [B.ld,Bc.ld,Bl.ld,Bt.ld,Bs.ld,lF]
  refine eY (cs:=bH [x]) rfl rfl fun y h1 l1 U1 R1 F1=>?_
  have up:∀ {y z},Bx h (fun i=>Gd F d r i∧¬ aS lv i) y z→Bx h1 (fun i=>Gd F d r i∧¬ aS lv i) y z:=fun B=>B.upd U1 (fun _ _ h=>h) fun _ _ h=>h
  simp only [(up B).ld,(up Bc).ld,(up Bl).ld,(up Bt).ld,(up Bs).ld,lF,sH,true_and]
  have S1:Exa h1 lv l:=S.1.upd U1 fun _ _ h=>h
  refine S1.app (ns:=[x]) (fun K hk=>R1.news hk) Nat.one_pos (by simp; omega) fun lv' h2 U2 S2 N2=>?_
  have up2:∀ {y z},Bx h (fun i=>Gd F d r i∧¬ aS lv i) y z→Bx h2 (fun i=>Gd F d r i∧¬ aS lv i) y z:=fun B=>(up B).upd U2 (fun i hi=>hi.2) fun _ _ h=>h
  simp only [(up2 B).ld,(up2 Bc).ld,(up2 Bt).ld,(up2 Bs).ld,lF,sH,true_and]
  have U:Upd (aS lv) h h2:=(U1.mono fun _ _ h=>h.elim).trans U2 fun _ _ h=>h
  have hic:=A.recd.lt
  refine sQ (l:=l++[x]) f0 f1 f2 (by simp; omega) (fun y hy=>?_) (D.upd U fun i hm hi=>(S.2 i hi).1.2 hm) (fun i hi=>hF i (Nat.le_trans U.1 hi)) hd { A with recd:=A.recd.upd U fun hs=>(S.2 ic hs).2.1 rfl,syms:=A.syms.upd U fun i hi hs=>(S.2 i hs).2.2 hi,gs:=fun i hi=>⟨(A.gs i hi).1,(A.gs i hi).2.1,Nat.lt_of_lt_of_le (A.gs i hi).2.2 U.1⟩ } ⟨S2,fun i hi=>?_⟩ fun e h3 r3 P=>aD (.inl (hq e h3 r3 ?_))
  ·rcases List.mem_append.1 hy with h | h
   ·exact f4 y h
   ·simp at h; omega
  ·rcases N2 i hi with g | g
   ·exact S.2 i g
   ·have := U1.1
    exact ⟨D.gd hF (by omega),by omega,fun hs=>by have:=(A.gs i hs).2.2; omega⟩
  ·exact (P.mono (N:=F) fun i _ e=>D.f i (.inl e)).from U (fun i _ hi=>(S.2 i hi).1.1) (fun _ _ h=>h) rfl rfl rfl
 ·have e0 : ¬ x < 16 := by simp at e0; omega
  rw [if_neg e0] at hq
  have P0 : ∀ t, t = decide (x = 16 ∧ l = []) → Y23.p0 (aH h Q) x bl br t h := fun t ht => by
   refine Y23.i0 ?_
   simp only [Y23.t0]
   by_cases h16:x=16
   ·rw [if_pos h16] at hq
    by_cases hl:l=[]
    ·rw [if_pos hl] at hq
     refine bB (by rw [ht]; exact decide_eq_true ⟨h16,hl⟩) (.inl (hq 2 h r ?_))
     exact ⟨Upd.refl _ _,fun _ _ h=>h,D,rfl,rfl,rfl,rfl,.inl rfl,hd⟩
    ·rw [if_neg hl] at hq
     refine aN (by rw [ht]; exact decide_eq_false fun hh=>hl hh.2) (bB (by simp; omega) ?_)
     have hpos:0<l.length:=List.length_pos_iff.2 hl
     simp only [Bl.ld,Br.ld]
     refine S.1.rd.len (d5 (n:=((l.length - 1:Nat):Int)) (by omega) (by omega) (by omega) ?_)
     have hlast:l[l.length - 1]? = some (l.getLastD 0):=by
      rw [List.getLastD_eq_getLast?,List.getLast?_eq_getElem?]
      rw [List.getElem?_eq_getElem (by omega)] <;> rfl
     have hx16:=f4 _ (List.mem_of_getElem? hlast)
     refine qN S.1.rd.i hlast ?_
     refine sB (bits:=2) (m:=3) D hF hd A S B Bl Bt Bs Bc (by decide) (by decide) (fun v hv=>⟨f0,f1,f2,f3,f4,hx16,by decide,by omega⟩) fun h1 r1 P=>aD (.inl (hq 0 h1 r1 (P.mono fun i _ e=>D.f i (.inl e))))
   ·rw [if_neg h16] at hq
    refine aN (by rw [ht]; exact decide_eq_false fun hh=>h16 hh.1) (aN (by simp; omega) ?_)
    refine aQ ?_ ?_ <;> intro e1
    ·have e1 : x = 17 := by simp at e1; omega
     rw [if_pos e1] at hq
     simp only [Br.ld]
     refine sB (bits:=3) (m:=3) (x:=0) D hF hd A S B Bl Bt Bs Bc (by decide) (by decide) (fun v hv=>⟨f0,f1,f2,f3,f4,by decide,by decide,by omega⟩) fun h1 r1 P=>aD (.inl (hq 0 h1 r1 (P.mono fun i _ e=>D.f i (.inl e))))
    ·have e1 : ¬ x = 17 := by simp at e1; omega
     rw [if_neg e1] at hq
     simp only [Br.ld]
     refine sB (bits:=7) (m:=11) (x:=0) D hF hd A S B Bl Bt Bs Bc (by decide) (by decide) (fun v hv=>⟨f0,f1,f2,f3,f4,by decide,by decide,by omega⟩) fun h1 r1 P=>aD (.inl (hq 0 h1 r1 (P.mono fun i _ e=>D.f i (.inl e))))
  refine aQ ?_ ?_ <;> intro e1
  ·have e1 : x = 16 := by simp at e1; omega
   simp only [Bl.ld]
   refine S.1.rd.len (P0 _ ?_)
   rw [decide_eq_decide]
   constructor
   ·intro hh; exact ⟨e1,List.eq_nil_of_length_eq_zero (by omega)⟩
   ·rintro ⟨_,rfl⟩; rfl
  ·have e1 : ¬ x = 16 := by simp at e1; omega
   exact P0 _ (decide_eq_false fun hh=>e1 hh.1).symm
theorem aPH {x lits dists m y : Nat} {c l : List Nat} {v : AV} (D : Dec L h F d r out told) (hF : ∀ i, h.length ≤ i → F i) (hd : r.done = false) (hc : Clo h (Gd F d r) d 0 (.p none) (.rep c l lits dists m y) v) (hf : fit (.rep c l lits dists m y) x)
  (hq:∀ e h' r',cT F L h F d r told (Infl.apply L r.input ⟨out,r.last,r.skip⟩ x (.rep c l lits dists m y)) e h' r'→Q (.i .i64 e) h'):b9 C v [iN x] h Q:=by
 obtain ⟨bl,bm,bt,bs,bd,bc,bx,ic,symc,lv,rfl,S,A,Bl,Bm,Bt,Bs,B,Bc,Bx'⟩:=hc
 obtain ⟨f0,f1,f2,f3,f4,f5,f6,f7⟩:=hf
 refine dD (by decide) (Y49.call ?_)
 simp only [Y49.t,B.ld,Bc.ld,Bl.ld,Bm.ld,Bt.ld,Bs.ld,Bx'.ld,lF]
 simp only [Infl.apply] at hq
 refine S.1.rd.len ?_
 refine d5 (n:=((l.length+m:Nat):Int)) (by omega) (by omega) (by omega) ?_
 refine d5 (n:=((l.length+(m+x):Nat):Int)) (by omega) (by omega) (by omega) ?_
 refine d5 (n:=((lits+dists:Nat):Int)) (by omega) (by omega) (by omega) ?_
 refine aQ ?_ ?_ <;> intro e0
 ·have e0 : lits + dists < l.length + (m + x) := by simp at e0; omega
  rw [if_pos e0] at hq
  exact .inl (hq 2 h r ⟨Upd.refl _ _,fun _ _ h=>h,D,rfl,rfl,rfl,rfl,.inl rfl,hd⟩)
 ·have e0 : ¬ lits + dists < l.length + (m + x) := by simp at e0; omega
  rw [if_neg e0] at hq
  refine d5 (n:=((m+x:Nat):Int)) (by omega) (by omega) (by omega) ?_
  refine eY (cs:=bH [y]) rfl rfl fun z h1 l1 U1 R1 F1=>?_
  have up:∀ {y z},Bx h (fun i=>Gd F d r i∧¬ aS lv i) y z→Bx h1 (fun i=>Gd F d r i∧¬ aS lv i) y z:=fun B=>B.upd U1 (fun _ _ h=>h) fun _ _ h=>h
  simp only [(up B).ld,(up Bc).ld,(up Bl).ld,(up Bm).ld,(up Bt).ld,(up Bs).ld,(up Bx').ld,lF,sH,true_and]
  refine aB7 R1.i (by omega) (by omega) fun h2 z2 U2 A2=>?_
  have U12:=U1.then U2
  have up2:∀ {y z},Bx h (fun i=>Gd F d r i∧¬ aS lv i) y z→Bx h2 (fun i=>Gd F d r i∧¬ aS lv i) y z:=fun B=>B.upd U12 (fun _ _ h=>h) fun _ _ h=>h
  simp only [(up2 B).ld,(up2 Bc).ld,(up2 Bl).ld,(up2 Bm).ld,(up2 Bt).ld,(up2 Bs).ld,(up2 Bx').ld,lF,sH,true_and]
  have S2:Exa h2 lv l:=S.1.upd U12 fun _ _ h=>h
  refine S2.app (ns:=List.replicate (m+x) y) (fun K hk=>A2.rd.i.news hk) (by simp; omega) (by simp; omega) fun lv' h3 U3 S3 N3=>?_
  have up3:∀ {y z},Bx h (fun i=>Gd F d r i∧¬ aS lv i) y z→Bx h3 (fun i=>Gd F d r i∧¬ aS lv i) y z:=fun B=>(up2 B).upd U3 (fun i hi=>hi.2) fun _ _ h=>h
  simp only [(up3 B).ld,(up3 Bc).ld,(up3 Bl).ld,(up3 Bm).ld,(up3 Bt).ld,(up3 Bs).ld,(up3 Bx').ld,lF,sH,true_and]
  have U:Upd (aS lv) h h3:=(U12.mono fun _ _ h=>h.elim).trans U3 fun _ _ h=>h
  have hic:=A.recd.lt
  refine sQ (l:=l++List.replicate (m+x) y) f0 f1 f2 (by simp; omega) (fun y' hy=>?_) (D.upd U fun i hm hi=>(S.2 i hi).1.2 hm) (fun i hi=>hF i (Nat.le_trans U.1 hi)) hd { A with recd:=A.recd.upd U fun hs=>(S.2 ic hs).2.1 rfl,syms:=A.syms.upd U fun i hi hs=>(S.2 i hs).2.2 hi,gs:=fun i hi=>⟨(A.gs i hi).1,(A.gs i hi).2.1,Nat.lt_of_lt_of_le (A.gs i hi).2.2 U.1⟩ } ⟨S3,fun i hi=>?_⟩ fun e h4 r4 P=>aD (.inl (hq e h4 r4 ?_))
  ·rcases List.mem_append.1 hy with h | h
   ·exact f4 y' h
   ·rw [(List.mem_replicate.1 h).2]; exact f5
  ·rcases N3 i hi with g | g
   ·exact S.2 i g
   ·have := U12.1
    exact ⟨D.gd hF (by omega),by omega,fun hs=>by have:=(A.gs i hs).2.2; omega⟩
  ·exact (P.mono (N:=F) fun i _ e=>D.f i (.inl e)).from U (fun i _ hi=>(S.2 i hi).1.1) (fun _ _ h=>h) rfl rfl rfl
end
end Go.Proofs.YtfoekpcljhbijaaGreatDoor
namespace Go.Proofs.YtfoekpcljhbijaaGreatDoor
open Go.GAM
section
variable [XR] {h:aA} {Q:AV→aA→Prop} {v:AV} {l:List Nat}
end
end Go.Proofs.YtfoekpcljhbijaaGreatDoor
namespace Go.Proofs.YtfoekpcljhbijaaGreatDoor
open Go.GAM
section
variable [XR] {h:aA} {Q:AV→aA→Prop}
end
section
variable [XR] {h:aA} {Q:AV→aA→Prop} {G:Nat→Prop} {w:Nat}
end
end Go.Proofs.YtfoekpcljhbijaaGreatDoor
namespace Go.Proofs.YtfoekpcljhbijaaGreatDoor
open Go.GAM
abbrev aBU:AV:=.sl none 0 none
section
variable [XR] {h:aA} {Q:AV→aA→Prop} {F:Nat→Prop} {s:List UInt8} {i sb bm mb:Nat} {kv:List (List UInt8 × AV)}
end
end Go.Proofs.YtfoekpcljhbijaaGreatDoor
namespace Go.Infl
open Go.Huff
end Go.Infl
namespace Go.Proofs.YtfoekpcljhbijaaGreatDoor
open Go.GAM
section
variable [XR] {Q:AV→aA→Prop} {s:List UInt8} {sb bm mb:Nat} {h0:aA}
end
end Go.Proofs.YtfoekpcljhbijaaGreatDoor
namespace Go.Proofs.YtfoekpcljhbijaaGreatDoor
open Go.GAM
theorem gT.str {E:TypeId} {h:aA} {v:AV} {l:List UInt8} (B:gT E h v l) {K:List UInt8→Prop} (hk:K l):cR v h K:=by
 refine Byt.str (l:=l) ?_ hk
 rcases B with ⟨rfl,rfl⟩ | ⟨id,b,rfl,h1,h2,h3,h4,h5⟩
 ·exact .inl ⟨rfl,rfl,rfl⟩
 ·have e : b.cells.length = l.length := by rw [h2]; simp
  refine .inr ⟨id,_,0,none,b,rfl,h1,.inl h3,h4,by show l.length≤_; omega,by omega, ?_⟩
  rw [List.drop_zero,Nat.mul_one, ← e,List.take_length,h2]
section
variable [XR] {Q:AV→aA→Prop} {s:List UInt8} {h:aA}
end
end Go.Proofs.YtfoekpcljhbijaaGreatDoor
namespace Go.Infl
open Go.Huff
end Go.Infl
namespace Go.Proofs.YtfoekpcljhbijaaGreatDoor
open Go.GAM
end Go.Proofs.YtfoekpcljhbijaaGreatDoor
namespace Go.Proofs.YtfoekpcljhbijaaGreatDoor
open Go.GAM
@[reducible] def xr0:XR:=⟨aHE vB⟩
abbrev p1 (id:Nat):AV:=.p (some ⟨id,1,0⟩)
theorem aND (a b:UInt8):(decide ((a.toNat:Int)=(b.toNat:Int)))=decide (a=b):=by
 by_cases h:a=b
 ·subst h; simp
 ·have : a.toNat ≠ b.toNat := fun e => h (UInt8.toNat.inj e)
  simp [h,this]
  omega
section
variable {Hb:aA} {g sb ab nb fb mb:Nat} {rec:Loop} {s:List UInt8} {a:Nat}
variable [XR] {X:Exit→aA→Prop}
end
end Go.Proofs.YtfoekpcljhbijaaGreatDoor
namespace Go.Proofs.YtfoekpcljhbijaaGreatDoor
open Go.GAM
section
attribute [local instance] xr0
end
end Go.Proofs.YtfoekpcljhbijaaGreatDoor
namespace Go.Proofs.YtfoekpcljhbijaaGreatDoor
open Go.GAM
section
variable [XR] {h:aA} {Q:AV→aA→Prop} {d id N:Nat} {bs ns:List UInt8}
theorem aLE {l:List UInt8} {K:List AV→Nat→Prop} (hk:K (l.map byteAV) l.length):fQ 1 (.s l) h K:=⟨rfl,hk⟩
end
end Go.Proofs.YtfoekpcljhbijaaGreatDoor
namespace Go.Proofs.YtfoekpcljhbijaaGreatDoor
open Go.GAM
section
attribute [local instance] xr0
end
end Go.Proofs.YtfoekpcljhbijaaGreatDoor
namespace Go.Proofs.YtfoekpcljhbijaaGreatDoor
open Go.GAM
open Go.Infl (bI cL bX Out Lim)
structure RS where
 at':Nat
 outv:AV
 short:Bool
 e:Int
section
variable [XR] {h:aA} {Q:AV→aA→Prop} {L:Lim} {s:List UInt8} {d:Nat} {r:RS} {out:List UInt8} {F:Infl.Fin}
end
end Go.Proofs.YtfoekpcljhbijaaGreatDoor
namespace Go.Proofs.YtfoekpcljhbijaaGreatDoor
open Go.GAM
open Go.Infl (bI cL bX Out Lim)
section
variable [XR] {h:aA} {Q:AV→aA→Prop} {v:AV} {l:List Nat}
end
section
variable [XR] {h:aA} {Q:AV→aA→Prop} {v:AV} {l:List Nat}
end
end Go.Proofs.YtfoekpcljhbijaaGreatDoor
namespace Go.Proofs.YtfoekpcljhbijaaGreatDoor
open Go.GAM
open Go.Infl (bI cL bX Out Lim)
section
variable [XR] {h:aA} {Q:AV→aA→Prop} {L:Lim} {s:List UInt8} {d:Nat} {r:RS} {out:List UInt8} {F:Infl.Fin}
end
end Go.Proofs.YtfoekpcljhbijaaGreatDoor
namespace Go.Proofs.YtfoekpcljhbijaaGreatDoor
open Go.GAM
open Go.Infl (bI cL bX Out Lim)
theorem aJ0 {P:Program} {t:TypeId} {K:AV→Prop} (ht:jY P t=true) (hk:K (.b false)):cD P .neq t (.p none) (.p none) K:=by
 show (bif jY P t then _ else _); rw [ht]; exact hk
theorem zI {P:Program} {t:TypeId} {a:AA} {K:AV→Prop} (ht:jY P t=true) (hk:K (.b true)):cD P .neq t (.p (some a)) (.p none) K:=by
 show (bif jY P t then _ else _); rw [ht]; exact hk
section
variable [XR] {h:aA} {Q:AV→aA→Prop} {L:Lim} {F:Nat→Prop} {d:Nat} {r:DR} {out:List UInt8} {told:Nat}
theorem aB8 {x:Nat} {c:bX} {v:AV} (O:cU h) (D:Dec L h F d r out told) (hF:∀ i,h.length≤i→F i) (hd:r.done=false) (hk:nV c=none) (hc:Clo h (Gd F d r) d 0 (.p none) c v) (hf:fit c x)
  (hq:∀ e h' r',cT F L h F d r told (Infl.apply L r.input ⟨out,r.last,r.skip⟩ x c) e h' r'→Q (.i .i64 e) h'):b9 C v [iN x] h Q:=by
 cases c with
 | block=>exact aL5 D hF hd hc hf hq
 | stored1=>exact aHH D hF hd hc hf hq
 | stored2 n=>exact aIC D hF hd hc hf hq
 | raw n=>exact aPQ D hF hd hc hf hq
 | lit a b=>cases hk
 | more a b n=>exact aOJ D hF hd hc hf hq
 | far a b n=>cases hk
 | farMore a b n f=>exact aGZ D hF hd hc hf hq
 | dyn1=>exact aOC D hF hd hc hf hq
 | dyn2 lits=>exact aOT D hF hd hc hf hq
 | dyn3 lits dists=>exact aN0 D hF hd hc hf hq
 | third l i n lits dists=>exact aM0 O D hF hd hc hf hq
 | lens c l lits dists=>cases hk
 | rep c l lits dists m y=>exact aPH D hF hd hc hf hq
theorem aLH {x ic:Nat} {sym:AV} {l:List Nat} {c:bX} {v:AV} (D:Dec L h F d r out told) (hF:∀ i,h.length≤i→F i) (hd:r.done=false) (hk:nV c=some l) (A:cC h (Gd F d r) ic l sym 0 0) (hc:Clo h (fun i=>Gd F d r i∧i≠ic) d ic sym c v) (hf:fit c x)
  (hq:∀ e h' r',cT F L h F d r told (Infl.apply L r.input ⟨out,r.last,r.skip⟩ x c) e h' r'→Q (.i .i64 e) h'):b9 C v [iN x] h Q:=by
 cases c <;> first | (cases hk; done) | skip
 case lit a b=>cases hk; exact aO4 D hF hd A hc hf hq
 case far a b n=>cases hk; exact aPI D hF hd A hc hf hq
 case lens c l lits dists=>cases hk; exact aN2 D hF hd A hc hf hq
theorem tL {x:Nat} {c:bX} {i:Nat} {k:bI} (hs:short c):(Infl.apply L i k x c).set:=by
 cases c <;> first | exact hs.elim | skip
 ·trivial
 ·simp only [Infl.apply]
  split
  ·trivial
  ·split <;> trivial
theorem aAP {c:bX} {i a b:Nat} {k:bI} (hs:short c):Infl.settle L i 3 (.wait k (.num 0 a b) c)=Infl.apply L i k 0 c:=by
 show Infl.settle L i 2 (Infl.apply L i k 0 c)=_
 exact Infl.settle_set (tL hs)
theorem behind {h0':aA} {b:Bool} {x:Int} (hx:b=true) (hq:Q (.i .i64 x) h):Y3.p2 (aH h0' Q) (dp d) x b h:=by
 refine Y3.i2 ?_
 simp only [Y3.t2]
 exact bB hx (.inl hq)
theorem xG {h0' h0 : aA} {r0 : DR} {o : Out} {e : Int} (O : cU h) (hF : ∀ i, h.length ≤ i → F i) (P : cT F L h0 F d r0 told o e h r) (hns : o.set)
  (hq:Q (.i .i64 e) h) (K:Int→Prop) :
  (bif (!decide ((e:Int)=0)) then Y3.p2 (aH h0' Q) (dp d) e true h else
   (aP (dp d) fun v75=>aB 7 v75 fun v76=>aC v76 h fun v77=>asB v77 fun c78=>Y3.p2 (aH h0' Q) (dp d) e c78 h)):=by
 refine aQ ?_ ?_ <;> intro he
 ·exact behind rfl hq
 ·have he : e = 0 := by simpa using he
  simp only [bN,bK]
  refine aE P.dec.recd rfl rfl (bG ?_)
  cases hd:r.done with
  | true=>exact behind rfl hq
  | false =>
   refine Y3.i2 ?_
   simp only [Y3.t2,bN,bK, ← Y3.p3.eq_1]
   refine aN rfl ?_
   have P3:∀ t,t=false→Y3.p3 (aH h0' Q) (dp d) t h:=fun t ht=>by
    refine Y3.i3 ?_
    simp only [Y3.t3]
    rw [← he]
    exact aN ht (.inl hq)
   have hst:=P.st
   cases o with
   | done k=>rw [hst.2] at hd; cases hd
   | err x k =>
    obtain ⟨hx,hx2,_⟩:=hst
    rw [he] at hx
    rcases hx2 with rfl | rfl <;> exact absurd hx (by decide)
   | wait k w c =>
    obtain ⟨_,_,_,_,hw,hf⟩:=hst
    cases w with
    | num need hv acc =>
     obtain ⟨_,hcode,hneed,_⟩:=hw
     refine aE P.dec.recd rfl rfl ?_
     rw [hcode]
     refine vW (by kernel_rfl) (bG (bB rfl ?_))
     refine aE P.dec.recd rfl rfl (aD (P3 _ ?_))
     rw [hneed]
     have hns:0<need:=hns
     simp; omega
    | sym l n x =>
     obtain ⟨_,ic,sym,hcode,_⟩:=hw
     refine aE P.dec.recd rfl rfl ?_
     rw [hcode]
     exact dI (by kernel_rfl) (bG (aN rfl (P3 _ rfl)))
theorem aFB {h0' h0 : aA} {r0 : DR} {o : Out} {e : Int} (hF0 : ¬ F 0) (O : cU h) (hF : ∀ i, h.length ≤ i → F i) (P : cT F L h0 F d r0 told o e h r)
  (hq:∀ e h' r',cU h'→(Infl.settle L r0.input 3 o).set→cT F L h0 F d r0 told (Infl.settle L r0.input 3 o) e h' r'→Q (.i .i64 e) h') :
  (bif (!decide ((e:Int)=0)) then Y3.p2 (aH h0' Q) (dp d) e true h else
   (aP (dp d) fun v75=>aB 7 v75 fun v76=>aC v76 h fun v77=>asB v77 fun c78=>Y3.p2 (aH h0' Q) (dp d) e c78 h)):=by
 by_cases hns:o.set
 ·rw [Infl.settle_set hns] at hq
  exact xG O hF P hns (hq e h r O hns P) fun _=>True
 ·obtain ⟨k, hv, acc, c, rfl⟩ : ∃ k hv acc c, o = .wait k (.num 0 hv acc) c := by
   cases o with
   | done k=>exact absurd trivial hns
   | err x k=>exact absurd trivial hns
   | wait k w c =>
    cases w with
    | sym l n x=>exact absurd trivial hns
    | num need hv acc =>
     have:need=0:=by
      have:¬ 0<need:=hns
      omega
     subst this
     exact ⟨k,hv,acc,c,rfl⟩
  have hst:=P.st
  obtain ⟨he,h1,h2,h3,hw,hf⟩:=hst
  obtain ⟨hco,hcode,hneed,hhv,hac,hclo⟩:=hw
  obtain ⟨_,_,f3,f4⟩:=hf
  have hsh:short c:=f3.elim (fun h=>by omega) fun h=>h.2.2
  rw [aAP hsh] at hq
  subst he
  refine aN rfl ?_
  simp only [bN,bK]
  refine aE P.dec.recd rfl rfl (bG ?_)
  rw [h3]
  refine Y3.i2 ?_
  simp only [Y3.t2,bN,bK, ← Y3.p3.eq_1]
  refine aN rfl ?_
  refine aE P.dec.recd rfl rfl ?_
  rw [hcode]
  refine vW (by kernel_rfl) (bG (bB rfl ?_))
  refine aE P.dec.recd rfl rfl (aD ?_)
  rw [hneed]
  refine Y3.i3 ?_
  simp only [Y3.t3, ← Y3.p0.eq_1]
  refine bB rfl ?_
  refine Y3.i0 ?_
  simp only [Y3.t0,bN,bK, ← Y3.p2.eq_1]
  refine aE P.dec.recd rfl rfl ?_
  have hk:k=⟨k.out,r.last,r.skip⟩:=by rw [h1,h2]
  have hD:Dec L h F d r k.out told:=P.dec
  refine aB8 (x:=0) O hD hF h3 hco hclo (f4 0 (by decide)) fun e2 h2 r2 P2=>aD ?_
  rw [P.inp, ← hk] at P2
  have P3:cT F L h0 F d r0 told (Infl.apply L r0.input k 0 c) e2 h2 r2:=P2.from P.upd (fun _ _ h=>h) P.keep P.inp P.bad P.rest
  have O2:cU h2:=O.upd P2.upd hF0
  exact xG O2 (fun i hi=>hF i (Nat.le_trans P2.upd.1 hi)) P3 (tL hsh) (hq e2 h2 r2 O2 (tL hsh) P3) fun _=>True
theorem aGM {h0' h0:aA} {r0:DR} {x:Nat} {c:bX} (hF0:¬ F 0) (O:cU h) (D:Dec L h F d r out told) (hF:∀ i,h.length≤i→F i) (hd:r.done=false) (hk:nV c=none) (hc:Clo h (Gd F d r) d 0 (.p none) c r.next) (hf:fit c x)
  (U0:Upd F h0 h) (K0:∀ i,i<h0.length→Mut d r i→Mut d r0 i) (e1:r.input=r0.input) (e2:r.bad=r0.bad) (e3:r.rest=r0.rest)
  (hq:∀ e h' r',cU h'→(Infl.settle L r0.input 3 (Infl.apply L r0.input ⟨out,r.last,r.skip⟩ x c)).set→cT F L h0 F d r0 told (Infl.settle L r0.input 3 (Infl.apply L r0.input ⟨out,r.last,r.skip⟩ x c)) e h' r'→Q (.i .i64 e) h'):Y3.p1 (aH h0' Q) (dp d) x h:=by
 refine Y3.i1 ?_
 simp only [Y3.t1, ← Y3.p0.eq_1]
 refine Y3.i0 ?_
 simp only [Y3.t0,bN,bK, ← Y3.p2.eq_1]
 refine aE D.recd rfl rfl ?_
 refine aB8 O D hF hd hk hc hf fun e h1 r1 P=>aD ?_
 rw [e1] at P
 exact aFB hF0 (O.upd P.upd hF0) (fun i hi=>hF i (Nat.le_trans P.upd.1 hi)) (P.from U0 (fun _ _ h=>h) K0 e1 e2 e3) hq
theorem aHK {h0' h0:aA} {r0:DR} {x ic:Nat} {sym:AV} {l:List Nat} {c:bX} (hF0:¬ F 0) (O:cU h) (D:Dec L h F d r out told) (hF:∀ i,h.length≤i→F i) (hd:r.done=false) (hk:nV c=some l) (A:cC h (Gd F d r) ic l sym 0 0) (hc:Clo h (fun i=>Gd F d r i∧i≠ic) d ic sym c r.next) (hf:fit c x)
  (U0:Upd F h0 h) (K0:∀ i,i<h0.length→Mut d r i→Mut d r0 i) (e1:r.input=r0.input) (e2:r.bad=r0.bad) (e3:r.rest=r0.rest)
  (hq:∀ e h' r',cU h'→(Infl.settle L r0.input 3 (Infl.apply L r0.input ⟨out,r.last,r.skip⟩ x c)).set→cT F L h0 F d r0 told (Infl.settle L r0.input 3 (Infl.apply L r0.input ⟨out,r.last,r.skip⟩ x c)) e h' r'→Q (.i .i64 e) h'):Y3.p1 (aH h0' Q) (dp d) x h:=by
 refine Y3.i1 ?_
 simp only [Y3.t1, ← Y3.p0.eq_1]
 refine Y3.i0 ?_
 simp only [Y3.t0,bN,bK, ← Y3.p2.eq_1]
 refine aE D.recd rfl rfl ?_
 refine aLH D hF hd hk A hc hf fun e h1 r1 P=>aD ?_
 rw [e1] at P
 exact aFB hF0 (O.upd P.upd hF0) (fun i hi=>hF i (Nat.le_trans P.upd.1 hi)) (P.from U0 (fun _ _ h=>h) K0 e1 e2 e3) hq
theorem aPC {a b k:Nat} (h:a<2 ^ k):a ||| b * 2 ^ k=a+b * 2 ^ k:=by
 rw [Nat.or_comm,Nat.mul_comm]
 have:=Nat.two_pow_add_eq_or_of_lt h b
 omega
theorem aO0 {w : cL} {c : bX} {b : Nat} (hb : b < 2) (hF0 : ¬ F 0) (O : cU h) (D : Dec L h F d r out told) (hF : ∀ i, h.length ≤ i → F i) (hd : r.done = false) (hw : uJ h F d r w c) (hf : aDW w c) (hset : (Out.wait ⟨out, r.last, r.skip⟩ w c).set)
  (hq:∀ e h' r',cU h'→(Infl.bitP L r.input ⟨out,r.last,r.skip⟩ w c b).set→cT F L h F d r told (Infl.bitP L r.input ⟨out,r.last,r.skip⟩ w c b) e h' r'→Q (.i .i64 e) h'):C Y3.id [dp d,iN b] h Q:=by
 refine Y3.call ?_
 simp only [Y3.t,bN,bK, ← Y3.p1.eq_1]
 refine aE D.recd rfl rfl ?_
 cases w with
 | num need hv acc =>
  obtain ⟨hco,hcode,hneed,hhv,hacc,hclo⟩:=hw
  obtain ⟨f1,f2,f3,f4⟩:=hf
  have hset:0<need:=hset
  have hlt:hv<need:=f3.elim (fun h=>h) fun h=>by omega
  rw [hcode]
  refine aJ0 (by kernel_rfl) (bG (aN rfl ?_))
  refine aE D.recd rfl rfl (aD (aE D.recd rfl rfl (aD ?_)))
  rw [hacc,hhv]
  have p1:2 ^ hv≤2 ^ 16:=Nat.pow_le_pow_right (by decide) (by omega)
  have p2:b * 2 ^ hv≤1 * 2 ^ 16:=Nat.mul_le_mul (by omega) p1
  have p3:acc+b * 2 ^ hv<2 ^ (hv+1):=by
   have:b * 2 ^ hv≤1 * 2 ^ hv:=Nat.mul_le_mul_right _ (by omega)
   rw [Nat.pow_succ]; omega
  have p4:2 ^ (hv+1)≤2 ^ need:=Nat.pow_le_pow_right (by decide) (by omega)
  refine tE (by omega) (by omega) ?_
  have hor:aX .or .i64 ((acc:Nat):Int) ((b * 2 ^ hv:Nat):Int)=((acc+b * 2 ^ hv:Nat):Int):=by
   rw [aBR (by omega) (by omega),aPC f2]
  refine aU hor ?_
  generalize hA:acc+b * 2 ^ hv=A at *
  refine aI D.recd rfl (ltr rfl) (hk:=fun h1 l1 U1 R1=>?_)
  refine aE R1 rfl rfl (aD ?_)
  rw [hhv]
  refine inc (by omega) ?_
  refine aI R1 rfl (ltr rfl) (hk:=fun h2 l2 U2 R2=>?_)
  have U:=U1.trans U2 fun _ _ h=>h
  have D2:Dec L h2 F d { r with acc:=A,have':=hv+1 } out told:=D.with U R2 rfl rfl rfl rfl
  have O2:cU h2:=O.upd U fun e=>hF0 (e ▸ D.f d (.inl rfl))
  have clo2:=hclo.upd (G':=Gd F d { r with acc:=A,have':=hv+1 }) U (fun i hi e=>hi.2 (.inl e)) fun _ _ h=>h
  refine aE R2 rfl rfl (aD (aE R2 rfl rfl (aD ?_)))
  rw [hneed]
  rw [Infl.bit_num] at hq
  refine aQ ?_ ?_ <;> intro e
  ·have e : hv + 1 < need := by simp at e; omega
   rw [if_pos e,hA] at hq
   refine .inl (hq 0 h2 { r with acc:=A,have':=hv+1 } O2 hset ⟨U.mono fun i _ e=>D.f i (.inl e),fun _ _ h=>h,D2,rfl,rfl,rfl,rfl,rfl,rfl,hd,⟨hco,hcode,hneed,rfl,rfl,clo2⟩,f1,p3,.inl e,f4⟩)
  ·have e : ¬ hv + 1 < need := by simp at e; omega
   rw [if_neg e,hA] at hq
   refine aE R2 rfl rfl (aD ?_)
   exact aGM (r0:=r) hF0 O2 D2 (fun i hi=>hF i (by omega)) hd hco clo2 (f4 A (by omega)) (U.mono fun i _ e=>D.f i (.inl e)) (fun _ _ h=>h) rfl rfl rfl hq
 | sym l n x =>
  obtain ⟨hco,ic,sym,hcode,A,hclo⟩:=hw
  obtain ⟨f1,f2,f3⟩:=hf
  rw [hcode]
  refine zI (by kernel_rfl) (bG (bB rfl ?_))
  refine aE D.recd rfl rfl ?_
  rw [hcode]
  rw [Infl.bit_sym] at hq
  refine aOH A f1 f2 hb fun h1 U1=>?_
  have hne:∀ i,Mut d r i→¬ i=ic:=fun i hm e=>A.g.2 (e ▸ hm)
  have D1:Dec L h1 F d r out told:=D.upd U1 hne
  have O1:cU h1:=O.upd U1 fun e=>hF0 (e ▸ A.g.1)
  have UF:Upd F h h1:=U1.mono fun i _ e=>e ▸ A.g.1
  have clo1:=hclo.upd (G':=fun i=>Gd F d r i∧i≠ic) U1 (fun i hi e=>hi.2 e) fun _ _ h=>h
  have A1:∀ {n' x'},bA h1 ic (dB l sym n' x')→cC h1 (Gd F d r) ic l sym n' x':=fun R=>{ A with recd:=R,syms:=A.syms.upd U1 fun i hi e=>(A.gs i hi).2.1 e,gs:=fun i hi=>⟨(A.gs i hi).1,(A.gs i hi).2.1,Nat.lt_of_lt_of_le (A.gs i hi).2.2 U1.1⟩ }
  have hF1:∀ i,h1.length≤i→F i:=fun i hi=>hF i (Nat.le_trans U1.1 hi)
  cases hs:Huff.stepP l (n+1) (2 * x+b) with
  | sym i =>
   simp only [hs] at hq ⊢
   intro R1 hi
   simp only [lC,kQ,aJP]
   refine aD (bG (aD (aN rfl (aN rfl ?_))))
   exact aHK hF0 O1 D1 hF1 hd hco (A1 R1) clo1 (f3 i hi) UF (fun _ _ h=>h) rfl rfl rfl hq
  | more =>
   simp only [hs] at hq ⊢
   intro R1
   simp only [lC,kQ,aJP]
   refine aD (bG (aD (aN rfl (bB rfl (.inl ?_)))))
   have hn1:n+1≤15:=by
    unfold Huff.stepP at hs
    split at hs
    ·cases hs
    ·split at hs
     ·have : Huff.longest l ≤ 15 := by
       rw [← mF A.le]
       have:∀ n,lg l n≤n:=by
        intro n
        induction n with
        | zero=>exact Nat.le_refl _
        | succ n ih=>unfold lg; split <;> omega
       exact this 15
      omega
     ·cases hs
   exact hq 0 h1 r O1 trivial ⟨UF,fun _ _ h=>h,D1,rfl,rfl,rfl,rfl,rfl,rfl,hd,⟨hco,ic,sym,hcode,A1 R1,clo1⟩,hn1,by rw [Nat.pow_succ]; omega,f3⟩
  | bad =>
   simp only [hs] at hq ⊢
   intro R1
   simp only [lC,kQ,aJP]
   refine aD (bG (aD (bB rfl (.inl ?_))))
   exact hq 2 h1 r O1 trivial ⟨UF,fun _ _ h=>h,D1,rfl,rfl,rfl,rfl,.inl rfl,hd⟩
end
end Go.Proofs.YtfoekpcljhbijaaGreatDoor
namespace Go.Proofs.YtfoekpcljhbijaaGreatDoor
open Go.GAM
open Go.Infl (bI cL bX Out Lim)
section
variable [XR] {h:aA} {Q:AV→aA→Prop} {L:Lim} {s:List UInt8} {d:Nat} {r:RS} {out:List UInt8} {F:Infl.Fin}
def lits (a b:List Nat) (kl:Bool) (out:List UInt8):Out:=Infl.litW ⟨out,kl,false⟩ a b
end
end Go.Proofs.YtfoekpcljhbijaaGreatDoor
namespace Go.Proofs.YtfoekpcljhbijaaGreatDoor
open Go.GAM
open Go.Infl (bI cL bX Out Lim)
section
variable [XR] {h:aA} {Q:AV→aA→Prop} {L:Lim} {s:List UInt8} {d:Nat} {r:RS} {out:List UInt8} {F:Infl.Fin}
end
end Go.Proofs.YtfoekpcljhbijaaGreatDoor
namespace Go.Proofs.YtfoekpcljhbijaaGreatDoor
open Go.GAM
open Go.Infl (bI cL bX Out Lim)
section
variable [XR] {h:aA} {Q:AV→aA→Prop} {L:Lim} {s:List UInt8} {d:Nat} {r:RS} {out:List UInt8} {F:Infl.Fin}
end
end Go.Proofs.YtfoekpcljhbijaaGreatDoor
namespace Go.Proofs.YtfoekpcljhbijaaGreatDoor
open Go.GAM
open Go.Infl (bI cL bX Out Lim)
structure DSt (L:Lim) (h:aA) (F:Nat→Prop) (d:Nat) (r:DR) (told:Nat) (o:Out) (inp:Nat) (rest:List UInt8):Prop where
 dec:Dec L h F d r o.core.out told
 ord:cU h
 rest:r.rest=rest
 st:match o with
  | .wait k w c=>r.input=inp∧r.last=k.last∧r.skip=k.skip∧r.done=false∧r.bad=false∧uJ h F d r w c∧aDW w c∧(Out.wait k w c).set
  | .done _=>r.done=true∧r.bad=false
  | .err e _=>r.done=false∧r.bad=true∧(e=1∨e=2)
def aFU:Out→Int
 | .err e _=>eno e
 | _=>0
section
variable [XR] {h:aA} {Q:AV→aA→Prop} {L:Lim} {F:Nat→Prop} {d:Nat} {r:DR} {out:List UInt8} {told:Nat}
theorem Dec.text {l:List UInt8} (D:Dec L h F d r out told) {K:List UInt8→Prop} (hk:K (out.drop told)):cR r.fresh h K:=by
 refine Byt.str (l:=out.drop told) ?_ hk
 have:=D.fresh.rd
 rw [List.length_map] at this
 exact this
theorem z4 {w:cL} {c:bX} {k:bI} (hs:k.skip=true):∀ (bs:List Nat) (i:Nat),i % 8≠0→i % 8+bs.length=8→Infl.run L bs i (.wait k w c)=(i+bs.length,.wait k w c)
 | [],i,h1,h2=>by rw [Infl.run_nil] <;> rfl
 | b :: bs, i, h1, h2 => by
  rw [Infl.run_bit,if_pos ⟨hs,h1⟩]
  rw [List.length_cons] at h2 ⊢
  by_cases hb:bs=[]
  ·subst hb; rw [Infl.run_nil] <;> rfl
  ·have := List.length_pos_iff.2 hb
   rw [z4 hs bs (i+1) (by omega) (by omega)]
   congr 1; omega
theorem xZ:∀ (n x:Nat),(Huff.loBits x n).length=n
 | 0,_=>rfl
 | n+1,x=>by unfold Huff.loBits; rw [List.length_cons,xZ n]
theorem aIN (c:UInt8) {k:Nat} (hk:k<8):aX .and .i64 ((c.toNat / 2 ^ k:Nat):Int) 1=((c.toNat / 2 ^ k % 2:Nat):Int):=by
 have hc:=c.toNat_lt
 have:c.toNat / 2 ^ k≤c.toNat:=Nat.div_le_self _ _
 have:=rX (x:=c.toNat / 2 ^ k) (y:=1) (by omega) (by decide)
 rw [Nat.and_one_is_mod] at this
 exact this
def Nxt (Q:AV→aA→Prop) (d:Nat) (s:List UInt8) (i:Nat) (told:Nat) (h':aA):Out→Prop
 | .wait ..=>Y0.p1 Q (dp d) s s.length ((i+1:Nat):Int) h'
 | .done _=>Y0.p4 Q (dp d) h'
 | .err e k=>Q (.tu [.s (k.out.drop told),.i .i64 (eno e)]) h'
theorem aID {hb : aA} {s : List UInt8} {i : Nat} {ch : UInt8} (hc : s[i]? = some ch) (hslen : s.length < 1099511627776) (hF0 : ¬ F 0) {inp : Nat} (hinp : 0 < inp) :
  ∀ (m k:Nat) (h:aA) (r:DR) (kc:bI) (w:cL) (c:bX),k+m=8→(k=0→kc.skip=false)→DSt L h F d r told (.wait kc w c) inp []→(∀ i,h.length≤i→F i) →
  (∀ h' r',Upd F h h'→DSt L h' F d r' told (Infl.run L (Huff.loBits (ch.toNat / 2 ^ k) m) (8 * (inp - 1)+k) (.wait kc w c)).2 inp (match (Infl.run L (Huff.loBits (ch.toNat / 2 ^ k) m) (8 * (inp - 1)+k) (.wait kc w c)).2 with | .done _=>s.drop (i+1) | _=>[]) →
   Nxt (aH hb Q) d s i told h' (Infl.run L (Huff.loBits (ch.toNat / 2 ^ k) m) (8 * (inp - 1)+k) (.wait kc w c)).2) →
  Y0.p2 (aH hb Q) (dp d) s i k s.length i h:=by
 intro m
 induction m with
 | zero =>
  intro k h r kc w c hkm hk0 S hF hq
  obtain rfl:k=8:=by omega
  have hsi:=aL hc
  obtain ⟨s1,s2,s3,s4,s5,s6,s7,s8⟩:=S.st
  have P3:Y0.p3 (aH hb Q) (dp d) s i (8:Nat) s.length i false h:=by
   refine Y0.i3 ?_
   simp only [Y0.t3,bN,bK, ← Y0.p1.eq_1]
   refine aN rfl ?_
   refine aE S.dec.recd rfl rfl (bG ?_)
   rw [s4]
   refine aN rfl (inc (by omega) ?_)
   exact hq h r (Upd.refl _ _) S
  refine Y0.i2 ?_
  simp only [Y0.t2, ← Y0.p3.eq_1]
  exact aN (by decide) P3
 | succ m ih =>
  intro k h r kc w c hkm hk0 S hF hq
  have hsi:=aL hc
  obtain ⟨s1,s2,s3,s4,s5,s6,s7,s8⟩:=S.st
  have hch:=ch.toNat_lt
  refine Y0.i2 ?_
  simp only [Y0.t2,bN,bK, ← Y0.p3.eq_1]
  refine bB (by simp; omega) ?_
  refine aE S.dec.recd rfl rfl (bG ?_)
  cases hsk:kc.skip with
  | true =>
   rw [s3,hsk]
   refine aN rfl ?_
   have hk:k≠0:=fun e=>by rw [hk0 e] at hsk; cases hsk
   rw [z4 hsk _ _ (by omega) (by rw [xZ]; omega)] at hq
   refine Y0.i3 ?_
   simp only [Y0.t3,bN,bK, ← Y0.p1.eq_1]
   refine aN rfl ?_
   refine aE S.dec.recd rfl rfl (bG ?_)
   rw [s4]
   refine aN rfl (inc (by omega) ?_)
   exact hq h r (Upd.refl _ _) S
  | false =>
   rw [s3,hsk]
   refine bB rfl ?_
   refine aE S.dec.recd rfl rfl (bG ?_)
   rw [s4]
   refine Y0.i3 ?_
   simp only [Y0.t3,bN,bK, ← Y0.p2.eq_1]
   refine bB rfl ?_
   refine qG hc ?_
   rw [bE (by omega) (by omega)]
   refine aJ5 (a:=ch.toNat) (b:=k) (by show k≤64; omega) ?_
   rw [aIN ch (by omega)]
   have hb2:ch.toNat / 2 ^ k % 2<2:=Nat.mod_lt _ (by decide)
   have hcore:(⟨kc.out,r.last,r.skip⟩:bI)={ kc with skip:=false }:=by rw [s2,s3,hsk]
   have hpos:(8 * (inp - 1)+k) / 8+1=inp:=by omega
   have hlo:Huff.loBits (ch.toNat / 2 ^ k) (m+1)=ch.toNat / 2 ^ k % 2 :: Huff.loBits (ch.toNat / 2 ^ (k+1)) m:=by
    rw [Nat.pow_succ, ← Nat.div_div_eq_div_mul] <;> rfl
   rw [hlo,Infl.run_bit,if_neg (by rw [hsk]; simp),hpos] at hq
   refine aO0 hb2 hF0 S.ord S.dec hF s4 s6 s7 (by cases w <;> exact s8) fun e h1 r1 O1 hset P=>aD ?_
   rw [s1] at P hset
   have hcore':(⟨(Out.wait kc w c).core.out,r.last,r.skip⟩:bI)={ kc with skip:=false }:=hcore
   rw [hcore'] at P hset
   generalize Infl.bitP L inp { kc with skip:=false } w c (ch.toNat / 2 ^ k % 2)=o at P hq hset
   have hF1:∀ i,h1.length≤i→F i:=fun i hi=>hF i (Nat.le_trans P.upd.1 hi)
   have hrest:=P.rest.trans S.rest
   have hbad:=P.bad.trans s5
   have hst:=P.st
   cases o with
   | err x kx =>
    obtain ⟨hx,hx2,hdn⟩:=hst
    rw [Infl.run_err] at hq
    refine bB (by rw [hx]; rcases hx2 with rfl | rfl <;> decide) ?_
    refine aI P.dec.recd rfl (ltr rfl) (hk:=fun h2 l2 U2 R2=>?_)
    have D2:Dec L h2 F d { r1 with bad:=true } kx.out told:=P.dec.with U2 R2 rfl rfl rfl rfl
    refine aE R2 rfl rfl ?_
    refine D2.text (l:=kx.out) ?_
    have O2:cU h2:=O1.upd U2 fun e=>hF0 (e ▸ D2.f d (.inl rfl))
    have:=hq h2 { r1 with bad:=true } (P.upd.trans (U2.mono fun i _ e=>D2.f i (.inl e)) fun _ _ h=>h) ⟨D2,O2,hrest,hdn,rfl,hx2⟩
    rw [hx]
    exact this
   | done kx =>
    obtain ⟨hx,hdn⟩:=hst
    rw [Infl.run_done] at hq
    subst hx
    refine aN rfl (inc (by omega) ?_)
    refine Y0.i2 ?_
    simp only [Y0.t2,bN,bK, ← Y0.p3.eq_1]
    have P3:Y0.p3 (aH hb Q) (dp d) s i ((k+1:Nat):Int) s.length i false h1:=by
     refine Y0.i3 ?_
     simp only [Y0.t3,bN,bK, ← Y0.p4.eq_1]
     refine aN rfl ?_
     refine aE P.dec.recd rfl rfl (bG ?_)
     rw [hdn]
     refine bB rfl (inc (by omega) (oP (by omega) ?_))
     refine aI P.dec.recd rfl (ltr rfl) (hk:=fun h2 l2 U2 R2=>?_)
     have D2:Dec L h2 F d { r1 with rest:=s.drop (i+1) } kx.out told:=P.dec.with U2 R2 rfl rfl rfl rfl
     have O2:cU h2:=O1.upd U2 fun e=>hF0 (e ▸ D2.f d (.inl rfl))
     exact hq h2 { r1 with rest:=s.drop (i+1) } (P.upd.trans (U2.mono fun i _ e=>D2.f i (.inl e)) fun _ _ h=>h) ⟨D2,O2,rfl,hdn,hbad⟩
    refine aQ ?_ ?_ <;> intro e8
    ·refine aE P.dec.recd rfl rfl (bG ?_)
     cases r1.skip with
     | true=>exact aN rfl P3
     | false =>
      refine bB rfl (aE P.dec.recd rfl rfl (bG ?_))
      rw [hdn]
      exact P3
    ·exact P3
   | wait kx wx cx =>
    obtain ⟨hx,w1,w2,w3,w4,w5⟩:=hst
    subst hx
    refine aN rfl (inc (by omega) ?_)
    refine ih (k+1) h1 r1 kx wx cx (by omega) (fun e=>by omega) ⟨P.dec,O1,hrest,P.inp.trans s1,w1,w2,w3,hbad,w4,w5,by cases wx <;> exact hset⟩ hF1 fun h2 r2 U2 S2=>?_
    exact hq h2 r2 (P.upd.trans U2 fun _ _ h=>h) S2
theorem nI {o:Out} (c:UInt8) (t:List UInt8) (i:Nat):Infl.run L (Infl.bitsOf (c :: t)) i o=Infl.run L (Infl.bitsOf t) (Infl.run L (Huff.loBits c.toNat 8) i o).1 (Infl.run L (Huff.loBits c.toNat 8) i o).2:=by
 show Infl.run L (Huff.loBits c.toNat 8++Infl.bitsOf t) i o=_
 exact Infl.run_append _ _ _ _
omit [XR] in
theorem qD:∀ (bs:List Nat) (i:Nat) (o:Out),i≤(Infl.run L bs i o).1∧(Infl.run L bs i o).1≤i+bs.length
 | bs,i,.done k=>by rw [Infl.run_done]; exact ⟨Nat.le_refl _,Nat.le_add_right _ _⟩
 | bs,i,.err e k=>by rw [Infl.run_err]; exact ⟨Nat.le_refl _,Nat.le_add_right _ _⟩
 | [],i,.wait k w c=>by rw [Infl.run_nil]; exact ⟨Nat.le_refl _,Nat.le_refl _⟩
 | b :: bs, i, .wait k w c => by
  rw [Infl.run_bit,List.length_cons]
  split
  ·have:=qD bs (i+1) (.wait k w c); omega
  ·have:=qD bs (i+1) (Infl.bitP L (i / 8+1) { k with skip:=false } w c b); omega
theorem tQ {b:Nat} {bs:List Nat} {i:Nat} {k:bI} {w:cL} {c:bX}:i+1≤(Infl.run L (b :: bs) i (.wait k w c)).1:=by
 rw [Infl.run_bit]
 split
 ·exact (qD bs (i+1) _).1
 ·exact (qD bs (i+1) _).1
def fB (s:List UInt8) (inp:Nat) (x:Nat × Out):List UInt8:=match x.2 with
 | .done _=>s.drop ((x.1+7) / 8 - inp)
 | _=>[]
theorem aGS {hb : aA} {s : List UInt8} (hslen : s.length < 1099511627776) (hF0 : ¬ F 0) {inp0 : Nat} (hin : inp0 + s.length ≤ 1099511627776) :
  ∀ (t:List UInt8) (i:Nat) (h:aA) (r:DR) (kc:bI) (w:cL) (c:bX),s.drop i=t→i≤s.length→DSt L h F d r told (.wait kc w c) (inp0+i) []→(∀ i,h.length≤i→F i) →
  (∀ h' r',Upd F h h'→DSt L h' F d r' told (Infl.run L (Infl.bitsOf t) (8 * (inp0+i)) (.wait kc w c)).2 (inp0+s.length) (fB s inp0 (Infl.run L (Infl.bitsOf t) (8 * (inp0+i)) (.wait kc w c))) →
   Q (.tu [.s ((Infl.run L (Infl.bitsOf t) (8 * (inp0+i)) (.wait kc w c)).2.core.out.drop told),.i .i64 (aFU (Infl.run L (Infl.bitsOf t) (8 * (inp0+i)) (.wait kc w c)).2)]) h') →
  Y0.p1 (aH hb Q) (dp d) s s.length i h:=by
 have tail:∀ (h:aA) (r:DR) (o:Out) (inp:Nat) (rest:List UInt8),DSt L h F d r told o inp rest→aFU o=0→Q (.tu [.s (o.core.out.drop told),.i .i64 0]) h→Y0.p4 (aH hb Q) (dp d) h:=fun h r o inp rest S ho hq=>by
  refine Y0.i4 ?_
  simp only [Y0.t4,bN,bK]
  refine aE S.dec.recd rfl rfl (S.dec.text (l:=o.core.out) (.inl hq))
 intro t
 induction t with
 | nil =>
  intro i h r kc w c ht hi S hF hq
  have:i=s.length:=by have:=aI8 ht; omega
  subst this
  rw [show Infl.bitsOf []=[] from rfl,Infl.run_nil] at hq
  refine Y0.i1 ?_
  simp only [Y0.t1, ← Y0.p4.eq_1]
  refine aN (by simp) (tail h r _ _ _ S rfl (hq h r (Upd.refl _ _) S))
 | cons ch t ih =>
  intro i h r kc w c ht hi S hF hq
  have hsi:=aLR ht
  have hat:=aDX ht
  have htn:=aGF ht
  obtain ⟨s1,s2,s3,s4,s5,s6,s7,s8⟩:=S.st
  refine Y0.i1 ?_
  simp only [Y0.t1,bN,bK, ← Y0.p2.eq_1]
  refine bB (by simp; omega) ?_
  refine aE S.dec.recd rfl rfl (aD ?_)
  rw [s1]
  refine inc (by omega) ?_
  refine aI S.dec.recd rfl (ltr rfl) (hk:=fun h1 l1 U1 R1=>?_)
  refine aI R1 rfl (ltr rfl) (hk:=fun h2 l2 U2 R2=>?_)
  have U:=U1.trans U2 fun _ _ h=>h
  have UF:Upd F h h2:=U.mono fun i _ e=>S.dec.f i (.inl e)
  have D2:Dec L h2 F d { r with input:=inp0+i+1,skip:=false } kc.out told:=by
   have D:=S.dec
   exact { recd:=R2,past:=D.past.upd U fun i hi e=>D.d1 (e ▸ hi),fresh:=D.fresh.upd U fun i hi e=>D.d2 (e ▸ hi),total:=D.total,told:=D.told,d1:=D.d1,d2:=D.d2,d3:=D.d3,lim:=D.lim,inp:=by show inp0+i+1≤_; omega,len:=D.len,f:=D.f }
  have O2:cU h2:=S.ord.upd U fun e=>hF0 (e ▸ D2.f d (.inl rfl))
  have W2:uJ h2 F d { r with input:=inp0+i+1,skip:=false } w c:=by
   cases w with
   | num need hv acc =>
    obtain ⟨w1,w2,w3,w4,w5,w6⟩:=s6
    exact ⟨w1,w2,w3,w4,w5,w6.upd U (fun i hi e=>hi.2 (.inl e)) fun _ _ h=>h⟩
   | sym l n x =>
    obtain ⟨w1,ic,sym,w2,w3,w4⟩:=s6
    exact ⟨w1,ic,sym,w2,w3.upd U (fun i hi e=>hi.2 (.inl e)) fun _ _ h=>h,w4.upd U (fun i hi e=>hi.1.2 (.inl e)) fun _ _ h=>h⟩
  have S2:DSt L h2 F d { r with input:=inp0+i+1,skip:=false } told (.wait { kc with skip:=false } w c) (inp0+i+1) []:=⟨D2,O2,S.rest,rfl,s2,rfl,s4,s5,W2,s7,by cases w <;> exact s8⟩
  have hbits:Huff.loBits ch.toNat 8=ch.toNat % 2 :: Huff.loBits (ch.toNat / 2) 7:=rfl
  have hal:Infl.run L (Huff.loBits ch.toNat 8) (8 * (inp0+i)) (.wait kc w c)=Infl.run L (Huff.loBits ch.toNat 8) (8 * (inp0+i)) (.wait { kc with skip:=false } w c):=by
   rw [hbits]; exact Infl.run_aligned (by omega)
  have hrl:=qD (L:=L) (Huff.loBits ch.toNat 8) (8 * (inp0+i)) (.wait { kc with skip:=false } w c)
  have hrf:8 * (inp0+i)+1≤(Infl.run L (Huff.loBits ch.toNat 8) (8 * (inp0+i)) (.wait { kc with skip:=false } w c)).1:=by rw [hbits]; exact tQ
  rw [xZ] at hrl
  rw [nI,hal] at hq
  refine aID (inp:=inp0+i+1) hat hslen hF0 (by omega) 8 0 h2 _ { kc with skip:=false } w c rfl (fun _=>rfl) S2 (fun i hi=>hF i (by omega)) fun h3 r3 U3 S3=>?_
  rw [Nat.pow_zero,Nat.div_one,show 8 * (inp0+i+1 - 1)+0=8 * (inp0+i) by omega] at S3 ⊢
  have hpos:=fun {k':bI} {w':cL} {c':bX} hh=>Infl.run_pos (L:=L) (Huff.loBits ch.toNat 8) (8 * (inp0+i)) (.wait { kc with skip:=false } w c) (k:=k') (w:=w') (c:=c') hh
  rw [xZ] at hpos
  generalize hX:Infl.run L (Huff.loBits ch.toNat 8) (8 * (inp0+i)) (.wait { kc with skip:=false } w c)=X at S3 hq hrl hrf hpos ⊢
  obtain ⟨p,o⟩:=X
  simp only at S3 hq hrl hrf hpos ⊢
  have UF3:Upd F h h3:=UF.trans U3 fun _ _ h=>h
  cases o with
  | wait k' w' c' =>
   have hp:p=8 * (inp0+(i+1)):=by rw [hpos rfl]; omega
   subst hp
   refine ih (i+1) h3 r3 k' w' c' htn (by omega) S3 (fun i hi=>hF i (Nat.le_trans UF3.1 hi)) fun h4 r4 U4 S4=>?_
   exact hq h4 r4 (UF3.trans U4 fun _ _ h=>h) S4
  | done k' =>
   rw [Infl.run_done] at hq
   have hr:fB s inp0 (p,.done k')=s.drop (i+1):=by
    unfold fB
    simp only
    congr 1; omega
   rw [hr] at hq
   exact tail h3 r3 _ _ _ S3 rfl (hq h3 r3 UF3 ⟨S3.dec,S3.ord,S3.rest,S3.st⟩)
  | err e' k' =>
   rw [Infl.run_err] at hq
   exact .inl (hq h3 r3 UF3 ⟨S3.dec,S3.ord,S3.rest,S3.st⟩)
theorem aOD {s:List UInt8} {kc:bI} {w:cL} {c:bX} {inp:Nat} (hF0:¬ F 0) (hs:inp+s.length<1099511627776) (S:DSt L h F d r told (.wait kc w c) inp []) (hF:∀ i,h.length≤i→F i)
  (hq:∀ h' r',Upd F h h'→DSt L h' F d r' kc.out.length (Infl.run L (Infl.bitsOf s) (8 * inp) (.wait kc w c)).2 (inp+s.length) (fB s inp (Infl.run L (Infl.bitsOf s) (8 * inp) (.wait kc w c))) →
   Q (.tu [.s ((Infl.run L (Infl.bitsOf s) (8 * inp) (.wait kc w c)).2.core.out.drop kc.out.length),.i .i64 (aFU (Infl.run L (Infl.bitsOf s) (8 * inp) (.wait kc w c)).2)]) h') :
  C Y0.id [dp d,.s s] h Q:=by
 obtain ⟨s1,s2,s3,s4,s5,s6,s7,s8⟩:=S.st
 refine Y0.call ?_
 simp only [Y0.t, ← Y0.p0.eq_1]
 refine dI (by kernel_rfl) (bG (aN rfl ?_))
 simp only [bN,bK]
 refine aE S.dec.recd rfl rfl (bG ?_)
 rw [s5]
 refine aN rfl (aE S.dec.recd rfl rfl (bG ?_))
 rw [s4]
 refine Y0.i0 ?_
 simp only [Y0.t0,bN,bK, ← Y0.p1.eq_1]
 refine aN rfl ?_
 refine aI S.dec.recd rfl (ltr rfl) (hk:=fun h1 l1 U1 R1=>?_)
 have UF:Upd F h h1:=U1.mono fun i _ e=>S.dec.f i (.inl e)
 have D1:Dec L h1 F d { r with fresh:=.sl none 0 none } kc.out kc.out.length:=by
  have D:=S.dec
  exact { recd:=R1,past:=D.past.upd U1 fun i hi e=>D.d1 (e ▸ hi),fresh:=.inl ⟨rfl,by simp⟩,total:=D.total,told:=Nat.le_refl _,d1:=D.d1,d2:=fun h=>h,d3:=fun _ _ h=>h,lim:=D.lim,inp:=D.inp,len:=D.len,f:=fun i hi=>hi.elim (fun e=>D.f i (.inl e)) fun hi=>hi.elim (fun e=>D.f i (.inr (.inl e))) fun e=>e.elim }
 have O1:cU h1:=S.ord.upd U1 fun e=>hF0 (e ▸ D1.f d (.inl rfl))
 have hg:∀ i,Gd F d r i→Gd F d { r with fresh:=.sl none 0 none } i:=fun i hi=>⟨hi.1,fun m=>hi.2 (m.elim .inl fun m=>m.elim (fun e=>.inr (.inl e)) fun e=>e.elim)⟩
 have W1:uJ h1 F d { r with fresh:=.sl none 0 none } w c:=by
  cases w with
  | num need hv acc =>
   obtain ⟨w1,w2,w3,w4,w5,w6⟩:=s6
   exact ⟨w1,w2,w3,w4,w5,w6.upd U1 (fun i hi e=>hi.2 (.inl e)) fun i _ h=>hg i h⟩
  | sym l n x =>
   obtain ⟨w1,ic,sym,w2,w3,w4⟩:=s6
   exact ⟨w1,ic,sym,w2,w3.upd U1 (fun i hi e=>hi.2 (.inl e)) fun i _ h=>hg i h,w4.upd U1 (fun i hi e=>hi.1.2 (.inl e)) fun i _ h=>⟨hg i h.1,h.2⟩⟩
 refine aGS (inp0:=inp) (by omega) hF0 (by omega) s 0 h1 { r with fresh:=.sl none 0 none } kc w c (List.drop_zero) (Nat.zero_le _) ⟨D1,O1,S.rest,s1,s2,s3,s4,s5,W1,s7,s8⟩ (fun i hi=>hF i (by omega)) fun h2 r2 U2 S2=>?_
 exact hq h2 r2 (UF.trans U2 fun _ _ h=>h) S2
theorem aKY {o:Out} {inp:Nat} {rest:List UInt8} (S:DSt L h F d r told o inp rest) (hq:Q (.b (match o with | .done _=>true | _=>false)) h):C Y25.id [dp d] h Q:=by
 refine Y25.call ?_
 simp only [Y25.t, ← Y25.p0.eq_1]
 refine zI (by kernel_rfl) (bG (bB rfl ?_))
 simp only [bN,bK]
 refine aE S.dec.recd rfl rfl (bG ?_)
 refine Y25.i0 ?_
 simp only [Y25.t0]
 have hst:=S.st
 cases o with
 | wait k w c=>rw [hst.2.2.2.1]; exact .inl hq
 | err e k=>rw [hst.1]; exact .inl hq
 | done k=>rw [hst.1]; exact .inl hq
theorem aOA {o:Out} {inp:Nat} {rest:List UInt8} (S:DSt L h F d r told o inp rest) (hq:Q (.s rest) h):C Y56.id [dp d] h Q:=by
 refine Y56.call ?_
 simp only [Y56.t]
 refine dI (by kernel_rfl) (bG (aN rfl ?_))
 simp only [bN,bK]
 refine aE S.dec.recd rfl rfl (dQ ?_)
 rw [S.rest]
 exact .inl hq
def bnd (n:Int) (lo hi:Nat):Nat:=(min (max n lo) hi).toNat
theorem aAO (n:Int) {lo hi:Nat} (h:lo≤hi):mmI false (mmI true n (lo:Int)) (hi:Int)=(bnd n lo hi:Int):=by
 unfold mmI bnd
 simp only [cond_true,cond_false]
 split <;> split <;> omega
def aCM (o ra:Int):Lim:=⟨bnd o 0 65536,bnd ra 1 1100⟩
theorem aOX {o ra : Int} (O : cU h) (hq : ∀ h' d r, Upd (fun _ => False) h h' → h.length ≤ d → DSt (aCM o ra) h' (fun i => h.length ≤ i) d r 0 Infl.start 0 [] → Q (dp d) h') : C Y36.id [.ag [.i .i64 o, .i .i64 ra]] h Q := by
  have bb:∀ {n:Int} {lo hi:Nat} {h:aA} {Q:AV→aA→Prop},lo≤hi→Q (iN (bnd n lo hi)) h→C Y35.id [.i .i64 n,iN lo,iN hi] h Q:=fun {n lo hi h Q} hl hq=>by
    refine Y35.call ?_
    simp only [Y35.t]
    exact aU (aAO n hl) (.inl hq)
  refine Y36.call ?_
  simp only [Y36.t]
  refine b8 (hk:=fun h1 l1 U1 R1=>?_)
  have R1:bA h1 h.length [.i .i64 o,.i .i64 ra]:=R1
  have e2:(AV.ag [.i .i64 o,.i .i64 ra]).parts.length=2:=rfl
  simp only [e2,bK]
  refine aE R1 rfl rfl (aD (aE R1 rfl rfl (aD ?_)))
  refine bb (lo:=0) (hi:=65536) (by decide) (aD ?_)
  refine aE R1 rfl rfl (aD ⟨rfl, ?_⟩)
  refine bb (lo:=1) (hi:=1100) (by decide) (aD ?_)
  refine aKJ (cs:=DR.cells (aCM o ra) ⟨.sl none 0 none,0,.sl none 0 none,0,false,false,false,false,[],0,0,0,.p none,.nf⟩) rfl ?_
  refine b8 (hk:=fun h2 l2 U2 R2=>?_)
  have U:=U1.then U2
  have D2:Dec (aCM o ra) h2 (fun i=>h.length≤i) h1.length ⟨.sl none 0 none,0,.sl none 0 none,0,false,false,false,false,[],0,0,0,.p none,.nf⟩ [] 0:=
    { recd:=R2,past:=.inl ⟨rfl,rfl⟩,fresh:=.inl ⟨rfl,rfl⟩,total:=rfl,told:=Nat.le_refl _,d1:=fun h=>h,d2:=fun h=>h,d3:=fun _ h=>h.elim,lim:=⟨by show bnd o 0 65536≤_; unfold bnd; omega,by show bnd ra 1 1100≤_; unfold bnd; omega⟩,inp:=by decide,len:=by decide,f:=fun i hi=>by
        rcases hi with e | e | e
        · subst e; exact U1.1
        · exact e.elim
        · exact e.elim }
  refine aAX D2 (fun i hi=>Nat.le_trans U.1 hi) rfl fun e h3 r3 P=>aD (.inl ?_)
  have hU3:Upd (fun _=>False) h h3:=U.own P.upd U1.1
  obtain ⟨w0,w1,w2,w3,w4,w5⟩:=P.st
  exact hq h3 h1.length r3 hU3 U1.1 ⟨P.dec,O.upd hU3 fun h=>h,P.rest,P.inp,w1,w2,w3,P.bad,w4,w5,by show 0<3; decide⟩
end
end Go.Proofs.YtfoekpcljhbijaaGreatDoor
namespace Go.Proofs.YtfoekpcljhbijaaGreatDoor
open Go.GAM
open Go.Infl (bI cL bX Out Lim)
section
variable [XR] {h:aA} {Q:AV→aA→Prop} {L:Lim} {s:List UInt8} {d:Nat} {r:RS} {out:List UInt8} {F:Infl.Fin}
end
end Go.Proofs.YtfoekpcljhbijaaGreatDoor
namespace Go.Proofs.YtfoekpcljhbijaaGreatDoor
open Go.GAM
open Go.Infl (bI cL bX Out Lim)
section
variable [XR] {h:aA} {Q:AV→aA→Prop} {L:Lim} {s:List UInt8} {o ra:Int}
theorem cU.lt (O:cU h):0<h.length:=by obtain ⟨b,hb,_⟩:=O; exact aL hb
end
end Go.Proofs.YtfoekpcljhbijaaGreatDoor
namespace Go.Proofs.YtfoekpcljhbijaaGreatDoor
open Go.GAM
open Go.Infl (bI cL bX Out Lim)
theorem uJ.upd {h h':aA} {F F' N:Nat→Prop} {d:Nat} {r:DR} {w:cL} {c:bX} (W:uJ h F d r w c) (U:Upd N h h') (hN:∀ i,F i→¬ N i) (hG:∀ i,i<h.length→F i→F' i):uJ h' F' d r w c:=by
 cases w with
 | num need hv acc =>
  obtain ⟨w1,w2,w3,w4,w5,w6⟩:=W
  exact ⟨w1,w2,w3,w4,w5,w6.upd U (fun i hi=>hN i hi.1) fun i hl hi=>⟨hG i hl hi.1,hi.2⟩⟩
 | sym l n x =>
  obtain ⟨w1,ic,sym,w2,w3,w4⟩:=W
  exact ⟨w1,ic,sym,w2,w3.upd U (fun i hi=>hN i hi.1) fun i hl hi=>⟨hG i hl hi.1,hi.2⟩,w4.upd U (fun i hi=>hN i hi.1.1) fun i hl hi=>⟨⟨hG i hl hi.1.1,hi.1.2⟩,hi.2⟩⟩
theorem DSt.upd {L:Lim} {h h':aA} {F F' N:Nat→Prop} {d:Nat} {r:DR} {told inp:Nat} {o:Out} {rest:List UInt8} (S:DSt L h F d r told o inp rest) (U:Upd N h h') (hN:∀ i,F i→¬ N i) (hO:¬ N 0) (hG:∀ i,i<h.length→F i→F' i):DSt L h' F' d r told o inp rest where
 dec:={ S.dec.upd U fun i hm=>hN i (S.dec.f i hm) with f:=fun i hm=>hG i (S.dec.lt hm) (S.dec.f i hm) }
 ord:=S.ord.upd U hO
 rest:=S.rest
 st:=by
  have hst:=S.st
  cases o with
  | wait k w c=>exact ⟨hst.1,hst.2.1,hst.2.2.1,hst.2.2.2.1,hst.2.2.2.2.1,hst.2.2.2.2.2.1.upd U hN hG,hst.2.2.2.2.2.2⟩
  | done k=>exact hst
  | err e k=>exact hst
end Go.Proofs.YtfoekpcljhbijaaGreatDoor
namespace Go.Proofs.YtfoekpcljhbijaaGreatDoor
open Go.GAM
section
variable [XR] {h:aA} {Q:AV→aA→Prop} {s:List UInt8}
end
end Go.Proofs.YtfoekpcljhbijaaGreatDoor
set_option maxRecDepth 100000
namespace Go.Proofs.YtfoekpcljhbijaaGreatDoor
open Go.GAM
def X0c:aO:=orR (aHE vB) fun f args h K=>f=Y17.id∧aO5 args h K
theorem aIF:jS prog X0c:=fun w0 Fz μ f args h K hk=>
 hk.elim (iV w0 Fz μ f args h K) fun ⟨e,c,l,ea,hl,hK⟩=>by
  subst e ea
  exact oE mixedOK sizeOK iV w0 Fz μ _ _ h K (@aIR xr0 h K c l hl hK)
def aN8:List aIV:=(Y17.id,aNV) :: evT
theorem aMM:aB0 (lkC aN8) X0c:=by
 intro f x hx args s H y K R hy hk
 unfold aN8 lkC at hx
 cases hb:Nat.beq Y17.id f with
 | true =>
  rw [hb] at hx
  cases hx
  exact .inr ⟨(Nat.eq_of_beq_eq_true hb).symm,aLJ args s H y K R hy hk⟩
 | false =>
  rw [hb] at hx
  exact aNY (X:=X0c) (fun _ _ _ _ h=>.inl h) f x hx args s H y K R hy hk
theorem aG3:eC prog X0c Y66.id [] [] Yes:=
 aMW aMM HR.nil (show aOR prog (lkC aN8) (lkA aPU) 100000 100 Y66.id [] ⟨.e,0⟩=true by kernel_rfl) fun _=>rfl
end Go.Proofs.YtfoekpcljhbijaaGreatDoor
namespace Go.Proofs.YtfoekpcljhbijaaGreatDoor
open Go.GAM
def X1:aO:=orR (orR (aHE vB) (aFX prog (@C xr0) (eC prog))) (aFC prog (@C xr0))
theorem aJ4:jS prog X1:=fun w0 Fz μ f args h K hk=>
 hk.elim (fun hk=>hk.elim (iV w0 Fz μ f args h K) (aHC mixedOK sizeOK (oE mixedOK sizeOK iV) (nT _) (fun w0 Fz μb Y hY=>fY mixedOK sizeOK hY) w0 Fz μ f args h K))
  (aH0 mixedOK sizeOK (oE mixedOK sizeOK iV) w0 Fz μ f args h K)
def X2:aO:=orR X1 (xEx Y66.id)
noncomputable instance xr1:XR:=⟨X2⟩
theorem aN6 {W:World}:bU prog W (fun B=>B<W.heap.size) (fun _ _=>none) (@X xr1):=fun f args h K hk=>
 hk.elim (aJ4 _ _ _ f args h K) (aG2 mixedOK sizeOK (S:=fun _=>false) (G:=0) (H0:=[]) (by kernel_rfl) (fun w _ _=>aIF _ _ _) (fun w _ _=>⟨fun g hg=>absurd hg (Nat.not_lt_zero g),rfl⟩) aG3 f args h K)
theorem aFL {h:aA} {Q:AV→aA→Prop} (hq:Q (.b true) h):C Y66.id [] h Q:=aGA (.inr ⟨rfl,rfl,hq⟩)
end Go.Proofs.YtfoekpcljhbijaaGreatDoor
namespace Go.Proofs.YtfoekpcljhbijaaGreatDoor
open Go.GAM
theorem aJ9 (x y:Int):aX .xor .u32 x y=(((BitVec.ofInt 32 x ^^^ BitVec.ofInt 32 y).toNat:Nat):Int):=by
 show IntKind.wrap .u32 (((BitVec.ofInt 32 x ^^^ BitVec.ofInt 32 y).toNat:Nat):Int)=_
 have h:=(BitVec.ofInt 32 x ^^^ BitVec.ofInt 32 y).isLt
 generalize (BitVec.ofInt 32 x ^^^ BitVec.ofInt 32 y).toNat=t at h ⊢
 simp only [IntKind.wrap,IntKind.bits,IntKind.signed,Bool.false_and]
 have:(2:Int) ^ 32=4294967296:=by decide
 rw [this]
 simp
 omega
theorem aKZ (v:BitVec 32):BitVec.ofInt 32 ((v.toNat:Nat):Int)=v:=by
 apply BitVec.eq_of_toNat_eq
 rw [BitVec.toNat_ofInt]
 have:=v.isLt
 omega
theorem aPT (v:BitVec 32):aX .xor .u32 (IntKind.max .u32) (aX .xor .u32 (IntKind.max .u32) ((v.toNat:Nat):Int))=((v.toNat:Nat):Int):=by
 rw [aJ9,aJ9,aKZ,aKZ, ← BitVec.xor_assoc,BitVec.xor_self,BitVec.zero_xor]
theorem aC5 (c:Int):∀ (l:List UInt8),(∃ v:BitVec 32,c=((v.toNat:Nat):Int))→∃ v:BitVec 32,l.foldl vK c=((v.toNat:Nat):Int)
 | [],h=>h
 | b :: l, h => by
  rw [List.foldl_cons]
  exact aC5 _ l ⟨_,by unfold vK; rw [aJ9]⟩
theorem sZ (c:Int) (l:List UInt8):∃ v:BitVec 32,cP c l=((v.toNat:Nat):Int):=⟨_,by unfold cP; rw [aJ9]⟩
theorem aGI (c:Int) (a b:List UInt8):cP (cP c a) b=cP c (a++b):=by
 unfold cP
 rw [List.foldl_append]
 obtain ⟨v,hv⟩:=aC5 (aX .xor .u32 (IntKind.max .u32) c) a ⟨_,aJ9 _ _⟩
 rw [hv,aPT]
end Go.Proofs.YtfoekpcljhbijaaGreatDoor
namespace Go.Proofs.YtfoekpcljhbijaaGreatDoor
open Go.GAM
open Go.Infl (bI cL bX Out Lim)
structure Hd where
 part:Nat:=0
 count:Nat:=0
 flags:Nat:=0
 extra:Nat:=0
 sum:Int:=0
 check:Nat:=0
 name:List UInt8:=[]
def yD (flags extra part:Nat):Bool:=match part with
 | 3=>flags &&& 4 != 0
 | 4=>decide (0<extra)
 | 5=>flags &&& 8 != 0
 | 6=>flags &&& 16 != 0
 | 7=>flags &&& 2 != 0
 | _=>true
def rP (flags extra:Nat):Nat→Nat→Nat
 | 0,part=>part
 | f+1,part=>if yD flags extra part then part else rP flags extra f (part+1)
def eQ (h:Hd) (last:Bool):Hd:=if last then { h with part:=rP h.flags h.extra 6 (h.part+1),count:=0 } else h
def aA0:List UInt8:=[31,139,8]
def dC (h : Hd) (c : UInt8) : Int ⊕ Hd :=
 let h1:={ h with sum:=cP h.sum [c],count:=h.count+1 }
 match h.part with
 | 0=>if aA0[h.count]? = some c then .inr (eQ h1 (h.count+1 == 3)) else .inl 2
 | 1=>if 31<c.toNat then .inl 2 else .inr (eQ { h1 with flags:=c.toNat } true)
 | 2=>.inr (eQ h1 (h.count+1 == 6))
 | 3=>.inr (eQ { h1 with extra:=h.extra ||| c.toNat * 2 ^ (8 * h.count) } (h.count+1 == 2))
 | 4=>.inr (eQ h1 (h.count+1 == h.extra))
 | 5=>if c=0 then .inr (eQ h1 true) else if 256<h.count+1 then .inl 3 else .inr { h1 with name:=h.name++[c] }
 | 6=>.inr (eQ h1 (c == 0))
 | 7 =>
  let k:=(if h.count=0 then h.sum.toNat % 65536 else h.check) ^^^ c.toNat * 2 ^ (8 * h.count)
  if h.count=1 then (if k=0 then .inr (eQ { h1 with check:=k } true) else .inl 8) else .inr { h1 with check:=k }
 | _=>.inr h1
structure Inf where
 L:Lim
 inp:Nat
 k:bI
 w:cL
 c:bX
structure GS where
 hd:Hd:={}
 out:Nat
 ratio:Nat
 data:Option Inf:=none
 crc:Int:=0
 size:Nat:=0
 trailer:List UInt8:=[]
 within:Bool:=false
 names:List (List UInt8):=[]
 sizes:List Nat:=[]
inductive GO where
 | live (g:GS)
 | dead
def jW (l:List Nat) (n:Nat):List Nat:=l.set (l.length - 1) (l.getD (l.length - 1) 0+n)
def eV (g:GS) (b:List UInt8):GS:={ g with crc:=cP g.crc b,size:=g.size+b.length,out:=g.out - b.length,sizes:=jW g.sizes b.length }
def aFJ (g:GS):GS:={ g with data:=some ⟨aCM g.out g.ratio,0,⟨[],false,false⟩,.num 3 0 0,.block⟩,crc:=0,size:=0,trailer:=[],names:=g.names++[g.hd.name],sizes:=g.sizes++[0] }
def dK:List UInt8→Nat
 | []=>0
 | c :: r=>c.toNat+256 * dK r
abbrev GR3:=GO × List UInt8 × Int
def hdP (g:GS) (c:UInt8):GR3:=match dC g.hd c with
 | .inl e=>(.dead,[],e)
 | .inr h=>if h.part=8 then (.live (aFJ { g with hd:=h }),[],0) else (.live { g with hd:=h },[],0)
def aBC (g:GS) (i:Inf) (x:Out) (n:Nat):GR3:=match x with
 | .wait k w c=>(.live { eV g (k.out.drop i.k.out.length) with data:=some ⟨i.L,i.inp+n,k,w,c⟩ },k.out.drop i.k.out.length,0)
 | .done k=>(.live { eV g (k.out.drop i.k.out.length) with data:=none },k.out.drop i.k.out.length,0)
 | .err e k=>(.dead,k.out.drop i.k.out.length,eno e)
def wM (g:GS) (c:UInt8):GR3:=
 let t:=g.trailer++[c]
 if t.length=4∧(dK (t.take 4):Int)≠g.crc then (.dead,[],8)
 else if t.length=8 then (if dK (t.drop 4)=g.size then (.live { g with trailer:=t,within:=false },[],0) else (.dead,[],8))
 else (.live { g with trailer:=t },[],0)
def gE (g : GS) (c : UInt8) : GR3 :=
 if !g.within then (if c≠31 then (.dead,[],2) else if g.names.length=16 then (.dead,[],3) else hdP { g with hd:={},within:=true } c)
 else if g.hd.part<8 then hdP g c
 else match g.data with
  | some i=>aBC g i (Infl.run i.L (Infl.bitsOf [c]) (8 * i.inp) (.wait i.k i.w i.c)).2 1
  | none=>wM g c
def bP (g : GS) : List UInt8 → GR3
 | []=>(.live g,[],0)
 | c :: s => match gE g c with
  | (.dead,b,e)=>(.dead,b,e)
  | (.live g',b,_)=>((bP g' s).1,b++(bP g' s).2.1,(bP g' s).2.2)
def cQ (r:GR3) (s:List UInt8):GR3:=match r with
 | (.live g,b,_)=>((bP g s).1,b++(bP g s).2.1,(bP g s).2.2)
 | r=>r
theorem lU (g:GS) (c:UInt8) (s:List UInt8):bP g (c :: s)=cQ (gE g c) s:=by
 rw [bP]
 generalize gE g c=r
 rcases r with ⟨x,b,e⟩
 cases x <;> rfl
theorem aC2 (r : GR3) (s t : List UInt8) : cQ (cQ r s) t = cQ r (s ++ t) ∧ True := by
 refine ⟨?_,trivial⟩
 rcases r with ⟨x,b,e⟩
 cases x with
 | dead=>rfl
 | live g =>
  simp only [cQ]
  induction s generalizing g b with
  | nil=>simp [bP]
  | cons c s ih =>
   rw [List.cons_append,bP,bP]
   rcases hg:gE g c with ⟨x,b',e'⟩
   cases x with
   | dead=>simp
   | live g' =>
    simp only
    have:=ih (b:=b++b') g'
    rw [List.append_assoc] at this
    simpa using this
theorem zD (g:GS) (s t:List UInt8):bP g (s++t)=cQ (bP g s) t:=by
 have:=(aC2 (.live g,[],0) s t).1
 simp only [cQ,List.nil_append] at this
 exact this.symm
theorem aB4 (l:List Nat) (a b:Nat):jW (jW l a) b=jW l (a+b):=by
 unfold jW
 by_cases h:l=[]
 ·subst h; rfl
 ·have hl : l.length - 1 < l.length := by have := List.length_pos_iff.2 h; omega
  have e:(l.set (l.length - 1) (l.getD (l.length - 1) 0+a)).getD (l.length - 1) 0=l.getD (l.length - 1) 0+a:=by
   rw [List.getD_eq_getElem?_getD,List.getElem?_set_self hl] <;> rfl
  rw [List.length_set,e,List.set_set,Nat.add_assoc]
theorem zM (g:GS) (a b:List UInt8):eV (eV g a) b=eV g (a++b):=by
 unfold eV
 simp only [aGI,aB4,List.length_append,GS.mk.injEq,true_and,and_true]
 omega
theorem xI (g:GS) (a:List UInt8) (i:Option Inf):eV { g with data:=i } a={ eV g a with data:=i }:=rfl
def yN (k0:bI) (x:Out):List UInt8:=x.core.out.drop k0.out.length
theorem vI (g:GS) (i:Inf) (x:Out) (n:Nat):aBC g i x n=match x with
 | .wait k w c=>(.live { eV g (yN i.k x) with data:=some ⟨i.L,i.inp+n,k,w,c⟩ },yN i.k x,0)
 | .done _=>(.live { eV g (yN i.k x) with data:=none },yN i.k x,0)
 | .err e _=>(.dead,yN i.k x,eno e):=by cases x <;> rfl
theorem aJ1 (g:GS) (i:Inf) (k1:bI) (w1:cL) (c1:bX) (x:Out) (n:Nat) {t1 t2:List UInt8} (h1:k1.out=i.k.out++t1) (h2:x.core.out=k1.out++t2) (s:List UInt8) :
  cQ (.live { eV g t1 with data:=some ⟨i.L,i.inp+1,k1,w1,c1⟩ },t1,0) []=(.live { eV g t1 with data:=some ⟨i.L,i.inp+1,k1,w1,c1⟩ },t1,0) ∧
  (fun r:GR3=>((r.1,t1++r.2.1,r.2.2):GR3)) (cQ (aBC { eV g t1 with data:=some ⟨i.L,i.inp+1,k1,w1,c1⟩ } ⟨i.L,i.inp+1,k1,w1,c1⟩ x n) s)=cQ (aBC g i x (n+1)) s:=by
 refine ⟨by simp [cQ,bP], ?_⟩
 have e1:yN k1 x=t2:=by unfold yN; rw [h2,List.drop_left]
 have e2:yN i.k x=t1++t2:=by unfold yN; rw [h2,h1,List.append_assoc,List.drop_left]
 rw [vI,vI]
 simp only [e1,e2]
 cases x with
 | wait k w c=>simp only [cQ,xI,zM,List.append_assoc]; rw [show i.inp+1+n=i.inp+(n+1) by omega]
 | done k=>simp only [cQ,xI,zM,List.append_assoc]
 | err e k=>simp only [cQ]
theorem aDR {g:GS} {i:Inf} (hw:g.within=true) (hp:g.hd.part=8) (hd:g.data=some i) (c:UInt8):gE g c=aBC g i (Infl.run i.L (Infl.bitsOf [c]) (8 * i.inp) (.wait i.k i.w i.c)).2 1:=by
 unfold gE
 rw [hw,hd]
 simp [hp]
theorem xA [XR] : ∀ (s : List UInt8) (g : GS) (i : Inf), g.within = true → g.hd.part = 8 → g.data = some i → s ≠ [] →
  bP g s=cQ (aBC g i (Infl.run i.L (Infl.bitsOf s) (8 * i.inp) (.wait i.k i.w i.c)).2 s.length) (fB s i.inp (Infl.run i.L (Infl.bitsOf s) (8 * i.inp) (.wait i.k i.w i.c)))
 | [],_,_,_,_,_,h=>absurd rfl h
 | c :: t, g, i, hw, hp, hd, _ => by
  rw [lU,aDR hw hp hd]
  have hrl:=qD (L:=i.L) (Huff.loBits c.toNat 8) (8 * i.inp) (.wait i.k i.w i.c)
  have hbits:Huff.loBits c.toNat 8=c.toNat % 2 :: Huff.loBits (c.toNat / 2) 7:=rfl
  have hrf:8 * i.inp+1≤(Infl.run i.L (Huff.loBits c.toNat 8) (8 * i.inp) (.wait i.k i.w i.c)).1:=by rw [hbits]; exact tQ
  have hpos:=fun {k':bI} {w':cL} {c':bX} hh=>Infl.run_pos (L:=i.L) (Huff.loBits c.toNat 8) (8 * i.inp) (.wait i.k i.w i.c) (k:=k') (w:=w') (c:=c') hh
  rw [xZ] at hpos hrl
  have hext:=Infl.ext_run i.L (Huff.loBits c.toNat 8) (8 * i.inp) (.wait i.k i.w i.c)
  have e1:Infl.bitsOf [c]=Huff.loBits c.toNat 8:=by show Huff.loBits c.toNat 8++[]=_; rw [List.append_nil]
  rw [e1,nI]
  generalize hX:Infl.run i.L (Huff.loBits c.toNat 8) (8 * i.inp) (.wait i.k i.w i.c)=X at hrl hrf hpos hext ⊢
  obtain ⟨p,x⟩:=X
  simp only at hrl hrf hpos hext ⊢
  cases x with
  | err e k =>
   rw [Infl.run_err]
   first | done | rfl
  | done k =>
   rw [Infl.run_done]
   have hr:fB (c :: t) i.inp (p,.done k)=t:=by
    unfold fB
    simp only
    rw [show (p+7) / 8 - i.inp=1 by omega]
    first | done | rfl
   rw [hr]
   first | done | rfl
  | wait k w c1 =>
   have hp1:p=8 * (i.inp+1):=by rw [hpos rfl]; omega
   subst hp1
   obtain ⟨t1,ht1⟩:=hext
   have ht1:k.out=i.k.out++t1:=ht1
   have eg:k.out.drop i.k.out.length=t1:=by rw [ht1,List.drop_left]
   by_cases hne:t=[]
   ·subst hne
    have e0:Infl.bitsOf []=[]:=rfl
    rw [e0,Infl.run_nil]
    first | done | rfl
   ·have ih := xA t { eV g t1 with data := some ⟨i.L, i.inp + 1, k, w, c1⟩ } ⟨i.L, i.inp + 1, k, w, c1⟩ hw hp rfl hne
    have hext2:=Infl.ext_run i.L (Infl.bitsOf t) (8 * (i.inp+1)) (.wait k w c1)
    have hge:=(qD (L:=i.L) (Infl.bitsOf t) (8 * (i.inp+1)) (.wait k w c1)).1
    simp only at ih
    generalize hY:Infl.run i.L (Infl.bitsOf t) (8 * (i.inp+1)) (.wait k w c1)=Y at ih hext2 hge ⊢
    obtain ⟨q,y⟩:=Y
    obtain ⟨t2,ht2⟩:=hext2
    have ht2:y.core.out=k.out++t2:=ht2
    have hr:fB (c :: t) i.inp (q,y)=fB t (i.inp+1) (q,y):=by
     unfold fB
     cases y with
     | done k' =>
      simp only
      rw [show (q+7) / 8 - i.inp=((q+7) / 8 - (i.inp+1))+1 by omega,List.drop_succ_cons]
     | _=>rfl
    rw [hr]
    have h2:=(aJ1 g i k w c1 y t.length ht1 ht2 (fB t (i.inp+1) (q,y))).2
    simp only at h2
    rw [List.length_cons, ← h2, ← ih]
    show cQ (.live { eV g (k.out.drop i.k.out.length) with data:=some ⟨i.L,i.inp+1,k,w,c1⟩ },k.out.drop i.k.out.length,0) t=_
    rw [eg]
    first | done | rfl
end Go.Proofs.YtfoekpcljhbijaaGreatDoor
namespace Go.Proofs.YtfoekpcljhbijaaGreatDoor
open Go.GAM
open Go.Infl (bI cL bX Out Lim)
theorem aLS {L:Lim} {k:bI} {w:cL} {c:bX} (h:k.out.length≤L.output) (bs:List Nat) (i:Nat):(Infl.run L bs i (.wait k w c)).2.core.out.length≤L.output:=by
 have:=Infl.run_lims (L:=L) (m:=L.output) (Nat.le_refl _) bs i (.wait k w c) (.wait k w c) (.inl ⟨rfl,h⟩)
 rcases this with ⟨_,h⟩ | ⟨k',g1,g2,_⟩
 ·exact h
 ·have e : ({ L with output := L.output } : Lim) = L := rfl
  rw [e] at g1
  rw [g1]
  show k'.out.length≤_
  omega
structure uZ (h:Hd):Prop where
 part:h.part≤8
 count:h.count<2 ^ 40
 p0:h.part=0→h.count<3
 p1:h.part=1→h.count=0
 p2:h.part=2→h.count<6
 p3:h.part=3→h.count<2∧h.extra<256 ^ h.count
 pre:h.part<3→h.extra=0
 p7:h.part=7→h.count<2
 flags:h.flags<32
 extra:h.extra<65536
 check:h.check<65536
 name:h.name.length<2 ^ 40
 sum:∃ v:BitVec 32,h.sum=((v.toNat:Nat):Int)
theorem uZ.zero:uZ {}:=⟨by decide,by decide,fun _=>by decide,fun _=>rfl,fun _=>by decide,(fun h=>by cases h),fun _=>rfl,(fun h=>by cases h),by decide,by decide,by decide,by decide,⟨0,rfl⟩⟩
theorem aGB (fl ex : Nat) : ∀ (f p : Nat), p ≤ 8 → (8 < p + f ∨ p < 3 ∧ 0 < f) → rP fl ex f p ≤ 8 ∧ p ≤ rP fl ex f p
 | 0,p,h1,h2=>by omega
 | f + 1, p, h1, h2 => by
  unfold rP
  cases hw:yD fl ex p with
  | true=>exact ⟨by simpa using h1,by simp⟩
  | false =>
   have hp7:3≤p∧p≤7:=by
    unfold yD at hw
    split at hw <;> first | omega | cases hw
   have:=aGB fl ex f (p+1) (by omega) (.inl (by omega))
   simp only [Bool.false_eq_true,if_false]
   exact ⟨this.1,by omega⟩
theorem aOF {h:Hd} (hp:h.part<8) (hf:h.flags<32) (he:h.extra<65536) (hc:h.check<65536) (hn:h.name.length<2 ^ 40) (hs:∃ v:BitVec 32,h.sum=((v.toNat:Nat):Int)) (hpre:h.part<3→h.extra=0) (last:Bool)
  (hno:last=false→uZ h):uZ (eQ h last)∧(eQ h last).count≤h.count:=by
 unfold eQ
 cases last with
 | false=>exact ⟨hno rfl,Nat.le_refl _⟩
 | true =>
  obtain ⟨s1,s2⟩:=aGB h.flags h.extra 6 (h.part+1) (by omega) (by omega)
  simp only [if_true]
  refine ⟨⟨s1,by show 0<2 ^ 40; decide,fun e=>by show 0<3; decide,fun _=>rfl,fun _=>by show 0<6; decide,fun e=>⟨by show 0<2; decide, ?_⟩,fun e=>hpre ?_,fun _=>by show 0<2; decide,hf,he,hc,hn,hs⟩,Nat.zero_le _⟩
  ·have e : rP h.flags h.extra 6 (h.part + 1) = 3 := e
   rw [hpre (by omega)]; show 0<256 ^ 0; decide
  ·have e : rP h.flags h.extra 6 (h.part + 1) < 3 := e
   omega
theorem aFP {c:UInt8} {k:Nat} (hk:k<2):c.toNat * 2 ^ (8 * k)<2 ^ 16:=by
 have:=c.toNat_lt
 have hk2:k=0∨k=1:=by omega
 rcases hk2 with e | e <;> rw [e] <;> omega
theorem jX {h:Hd} {n m:Nat} (hp:h.part<8) (hf:h.flags<32) (he:h.extra<65536) (hc:h.check<65536) (hn:h.name.length<2 ^ 40) (hs:∃ v:BitVec 32,h.sum=((v.toNat:Nat):Int)) (hpre:h.part<3→h.extra=0) (last:Bool)
  (hno:last=false→uZ h) (h1:h.count≤n:=by exact Nat.le_refl _) (h2:h.name.length≤m:=by exact Nat.le_succ _):uZ (eQ h last)∧(eQ h last).count≤n∧(eQ h last).name.length≤m:=by
 obtain ⟨a,b⟩:=aOF hp hf he hc hn hs hpre last hno
 refine ⟨a,Nat.le_trans b h1, ?_⟩
 unfold eQ
 split <;> exact h2
theorem tk0 {h:Hd} {c:UInt8} (e:h.part=0):dC h c=if aA0[h.count]? = some c then .inr (eQ { h with sum:=cP h.sum [c],count:=h.count+1 } (h.count+1 == 3)) else .inl 2:=by simp only [dC,e]
theorem tk1 {h:Hd} {c:UInt8} (e:h.part=1):dC h c=if 31<c.toNat then .inl 2 else .inr (eQ { h with sum:=cP h.sum [c],count:=h.count+1,flags:=c.toNat } true):=by simp only [dC,e]
theorem tk2 {h:Hd} {c:UInt8} (e:h.part=2):dC h c = .inr (eQ { h with sum:=cP h.sum [c],count:=h.count+1 } (h.count+1 == 6)):=by simp only [dC,e]
theorem tk3 {h:Hd} {c:UInt8} (e:h.part=3):dC h c = .inr (eQ { h with sum:=cP h.sum [c],count:=h.count+1,extra:=h.extra ||| c.toNat * 2 ^ (8 * h.count) } (h.count+1 == 2)):=by simp only [dC,e]
theorem tk4 {h:Hd} {c:UInt8} (e:h.part=4):dC h c = .inr (eQ { h with sum:=cP h.sum [c],count:=h.count+1 } (h.count+1 == h.extra)):=by simp only [dC,e]
theorem tk5 {h:Hd} {c:UInt8} (e:h.part=5):dC h c=if c=0 then .inr (eQ { h with sum:=cP h.sum [c],count:=h.count+1 } true) else if 256<h.count+1 then .inl 3 else .inr { h with sum:=cP h.sum [c],count:=h.count+1,name:=h.name++[c] }:=by simp only [dC,e]
theorem tk6 {h:Hd} {c:UInt8} (e:h.part=6):dC h c = .inr (eQ { h with sum:=cP h.sum [c],count:=h.count+1 } (c == 0)):=by simp only [dC,e]
def chk (h:Hd) (c:UInt8):Nat:=(if h.count=0 then h.sum.toNat % 65536 else h.check) ^^^ c.toNat * 2 ^ (8 * h.count)
theorem tk7 {h:Hd} {c:UInt8} (e:h.part=7):dC h c=if h.count=1 then (if chk h c=0 then .inr (eQ { h with sum:=cP h.sum [c],count:=h.count+1,check:=chk h c } true) else .inl 8)
  else .inr { h with sum:=cP h.sum [c],count:=h.count+1,check:=chk h c }:=by simp only [dC,e,chk]
theorem aI6 {h h' : Hd} {c : UInt8} (H : uZ h) (hp : h.part < 8) (hN : h.count + 1 < 2 ^ 40) (hN2 : h.name.length + 1 < 2 ^ 40) (ht : dC h c = .inr h') : uZ h' ∧ h'.count ≤ h.count + 1 ∧ h'.name.length ≤ h.name.length + 1 := by
 have hsum:∃ v:BitVec 32,cP h.sum [c]=((v.toNat:Nat):Int):=sZ _ _
 have hcases:h.part=0∨h.part=1∨h.part=2∨h.part=3∨h.part=4∨h.part=5∨h.part=6∨h.part=7:=by omega
 have ck:(if h.count=0 then h.sum.toNat % 65536 else h.check)<2 ^ 16:=by
  split
  ·exact Nat.mod_lt _ (by decide)
  ·exact H.check
 rcases hcases with e | e | e | e | e | e | e | e
 ·rw [tk0 e] at ht
  split at ht
  ·cases ht
   refine jX (by exact hp) (by exact H.flags) (by exact H.extra) (by exact H.check) (by exact H.name) (by exact hsum) (by exact H.pre) _ fun hl=>?_
   have:=H.p0 e
   have hl:¬ h.count+1=3:=by simpa using hl
   exact ⟨H.part,hN,fun _=>by show h.count+1<3; omega,(fun e'=>by have e':h.part=1:=e'; omega),(fun e'=>by have e':h.part=2:=e'; omega),(fun e'=>by have e':h.part=3:=e'; omega),H.pre,(fun e'=>by have e':h.part=7:=e'; omega),H.flags,H.extra,H.check,H.name,hsum⟩
  ·cases ht
 ·rw [tk1 e] at ht
  split at ht
  ·cases ht
  ·rename_i hc
   cases ht
   exact jX (by exact hp) (by exact (show c.toNat<32 by omega)) (by exact H.extra) (by exact H.check) (by exact H.name) (by exact hsum) (by exact H.pre) true (fun h=>by cases h)
 ·rw [tk2 e] at ht
  cases ht
  refine jX (by exact hp) (by exact H.flags) (by exact H.extra) (by exact H.check) (by exact H.name) (by exact hsum) (by exact H.pre) _ fun hl=>?_
  have:=H.p2 e
  have hl:¬ h.count+1=6:=by simpa using hl
  exact ⟨H.part,hN,(fun e'=>by have e':h.part=0:=e'; omega),(fun e'=>by have e':h.part=1:=e'; omega),fun _=>by show h.count+1<6; omega,(fun e'=>by have e':h.part=3:=e'; omega),H.pre,(fun e'=>by have e':h.part=7:=e'; omega),H.flags,H.extra,H.check,H.name,hsum⟩
 ·rw [tk3 e] at ht
  cases ht
  obtain ⟨c1,c2⟩:=H.p3 e
  have hx:h.extra ||| c.toNat * 2 ^ (8 * h.count)<2 ^ 16:=Nat.or_lt_two_pow H.extra (aFP c1)
  refine jX (by exact hp) (by exact H.flags) (by exact hx) (by exact H.check) (by exact H.name) (by exact hsum) (by exact (fun e'=>by have e':h.part<3:=e'; omega)) _ fun hl=>?_
  have hl:¬ h.count+1=2:=by simpa using hl
  have h0:h.count=0:=by omega
  refine ⟨H.part,hN,(fun e'=>by have e':h.part=0:=e'; omega),(fun e'=>by have e':h.part=1:=e'; omega),(fun e'=>by have e':h.part=2:=e'; omega),fun _=>⟨by show h.count+1<2; omega, ?_⟩,(fun e'=>by have e':h.part<3:=e'; omega),(fun e'=>by have e':h.part=7:=e'; omega),H.flags,hx,H.check,H.name,hsum⟩
  show h.extra ||| c.toNat * 2 ^ (8 * h.count)<256 ^ (h.count+1)
  rw [h0] at c2 ⊢
  have c0:h.extra=0:=by simpa using c2
  rw [c0]
  have:=c.toNat_lt
  simp
  omega
 ·rw [tk4 e] at ht
  cases ht
  refine jX (by exact hp) (by exact H.flags) (by exact H.extra) (by exact H.check) (by exact H.name) (by exact hsum) (by exact (fun e'=>by have e':h.part<3:=e'; omega)) _ fun hl=>?_
  exact ⟨H.part,hN,(fun e'=>by have e':h.part=0:=e'; omega),(fun e'=>by have e':h.part=1:=e'; omega),(fun e'=>by have e':h.part=2:=e'; omega),(fun e'=>by have e':h.part=3:=e'; omega),(fun e'=>by have e':h.part<3:=e'; omega),(fun e'=>by have e':h.part=7:=e'; omega),H.flags,H.extra,H.check,H.name,hsum⟩
 ·rw [tk5 e] at ht
  split at ht
  ·cases ht
   exact jX (by exact hp) (by exact H.flags) (by exact H.extra) (by exact H.check) (by exact H.name) (by exact hsum) (by exact (fun e'=>by have e':h.part<3:=e'; omega)) true (fun h=>by cases h)
  ·split at ht
   ·cases ht
   ·rename_i hc hl
    cases ht
    refine ⟨⟨H.part,hN,(fun e'=>by have e':h.part=0:=e'; omega),(fun e'=>by have e':h.part=1:=e'; omega),(fun e'=>by have e':h.part=2:=e'; omega),(fun e'=>by have e':h.part=3:=e'; omega),(fun e'=>by have e':h.part<3:=e'; omega),(fun e'=>by have e':h.part=7:=e'; omega),H.flags,H.extra,H.check,by show (h.name++[c]).length<_; simp; omega,hsum⟩,Nat.le_refl _,by show (h.name++[c]).length≤_; simp⟩
 ·rw [tk6 e] at ht
  cases ht
  refine jX (by exact hp) (by exact H.flags) (by exact H.extra) (by exact H.check) (by exact H.name) (by exact hsum) (by exact (fun e'=>by have e':h.part<3:=e'; omega)) _ fun hl=>?_
  exact ⟨H.part,hN,(fun e'=>by have e':h.part=0:=e'; omega),(fun e'=>by have e':h.part=1:=e'; omega),(fun e'=>by have e':h.part=2:=e'; omega),(fun e'=>by have e':h.part=3:=e'; omega),(fun e'=>by have e':h.part<3:=e'; omega),(fun e'=>by have e':h.part=7:=e'; omega),H.flags,H.extra,H.check,H.name,hsum⟩
 ·rw [tk7 e] at ht
  have c1:=H.p7 e
  have hx:(if h.count=0 then h.sum.toNat % 65536 else h.check) ^^^ c.toNat * 2 ^ (8 * h.count)<2 ^ 16:=Nat.xor_lt_two_pow ck (aFP c1)
  split at ht
  ·split at ht
   ·cases ht
    exact jX (by exact hp) (by exact H.flags) (by exact H.extra) (by exact hx) (by exact H.name) (by exact hsum) (by exact (fun e'=>by have e':h.part<3:=e'; omega)) true (fun h=>by cases h)
   ·cases ht
  ·rename_i hc
   cases ht
   exact ⟨⟨H.part,hN,(fun e'=>by have e':h.part=0:=e'; omega),(fun e'=>by have e':h.part=1:=e'; omega),(fun e'=>by have e':h.part=2:=e'; omega),(fun e'=>by have e':h.part=3:=e'; omega),(fun e'=>by have e':h.part<3:=e'; omega),(fun _=>by show h.count+1<2; omega),H.flags,H.extra,hx,H.name,hsum⟩,Nat.le_refl _,Nat.le_succ _⟩
end Go.Proofs.YtfoekpcljhbijaaGreatDoor
namespace Go.Proofs.YtfoekpcljhbijaaGreatDoor
open Go.GAM Go.RowKit
section
variable {h:aA} {Q:AV→aA→Prop}
abbrev Bld (h:aA) (id off:Nat) (cs:List AV) (buf:AV) (l:List UInt8):Prop:=g9 prog 67 5 h id off cs buf l
theorem aOK {v:AV} (hk:Q v h):C Y65.id [v] h Q:=aGA (.inl (.inl (.inl ⟨z6,by simp [vB],hk⟩)))
theorem aKQ {α:Type} {l:List α} {i:Nat} {a:α} (h:l[i]? = some a):l.set i a=l:=by
 apply List.ext_getElem?
 intro j
 by_cases hj:i=j
 ·subst hj; rw [List.getElem?_set_self (aL h),h]
 ·rw [List.getElem?_set_ne hj]
theorem aB6 {id off n:Nat} {cs:List AV} {buf:AV} {l:List UInt8} (B:Bld h id off cs buf l) (hn:n=cs.length)
  (hq:∀ h',h'.length=h.length→Upd (· = id) h h'→Bld h' id off (cs.set off (.p (some ⟨id,n,off⟩))) buf l→Q (.tu []) h'):C Y50.id [.p (some ⟨id,n,off⟩)] h Q:=by
 subst hn
 refine Y50.call ?_
 simp only [Y50.t]
 have hr:=B.room
 have hne:off≠off+1:=by omega
 have cell1:∀ v:AV,(cs.set off v)[off+1]? = some buf:=fun v=>by rw [List.getElem?_set_ne hne]; exact B.cell
 have cell0:∀ v:AV,(cs.set off v)[off]? = some v:=fun v=>by rw [List.getElem?_set_self (by omega)]
 rcases B.addr with h0 | h0
 ·refine nU (nX (aE B.rec' rfl h0 (vW (by kernel_rfl) (bG (bB rfl ?_)))))
  refine aIJ B.rec' rfl (by omega) (aOK ?_)
  refine B.fromUnsafe (nU (nX ?_))
  refine B.store (by omega) rfl rfl rfl (.inr (cell0 _)) (cell1 _) B.is B.own fun h1 hl1 U1 B1=>?_
  exact .inl (hq h1 hl1 U1 B1)
 ·refine nU (nX (aE B.rec' rfl h0 (dI (by kernel_rfl) (bG (aN rfl ?_)))))
  refine nU (nX (aE B.rec' rfl h0 (aH7 (by kernel_rfl) (bG (aN rfl ?_)))))
  have e:cs.set off (.p (some ⟨id,cs.length,off⟩))=cs:=aKQ h0
  refine .inl (hq h rfl (Upd.refl _ _) ?_)
  rw [e]; exact B
def wrB (cs:List AV) (id off:Nat) (buf:AV):List AV:=(cs.set off (.p (some ⟨id,cs.length,off⟩))).set (off+1) buf
theorem aF8 {cs:List AV} {id off:Nat} {buf:AV}:(wrB cs id off buf).length=cs.length:=by simp [wrB]
theorem pN {id off n:Nat} {cs:List AV} {buf:AV} {l t:List UInt8} (B:Bld h id off cs buf l) (hn:n=cs.length) (hl:l.length+t.length<100000000)
  (hq:∀ buf' h',Upd (fun i=>i=id∨aS buf i) h h'→Bld h' id off (wrB cs id off buf') buf' (l++t)→(∀ i,aS buf' i→aS buf i∨h.length≤i)→Q (.tu [.i .i64 (t.length:Int),.ni]) h'):C Y39.id [.p (some ⟨id,n,off⟩),.s t] h Q:=by
 subst hn
 refine Y39.call ?_
 simp only [Y39.t]
 refine aB6 B rfl fun h1 hl1 U1 B1=>?_
 have hr:=B.room
 have hlt:=B.lt
 have hcl:cs.length=(cs.set off (.p (some ⟨id,cs.length,off⟩))).length:=by simp
 refine nU (nX (aE B1.rec' hcl B1.cell ?_))
 refine B1.is.append (t:=t) (fun K hK=>aLE hK) (by omega) fun v' h3 U3 T3 F3=>?_
 have hown:¬ aS v' id:=fun hi=>by
  rcases F3 id hi with h | h
  ·exact B.own h
  ·omega
 have hUall:Upd (fun i=>i=id∨aS buf i) h h3:=(U1.mono fun _ _ h=>Or.inl h).trans (U3.mono fun _ _ h=>.inr h) fun _ _ h=>h
 refine nU (nX ?_)
 rw [hcl]
 refine B1.put U3 T3 hown fun h4 hl4 U4 B4=>?_
 refine .inl (hq v' h4 (hUall.trans (U4.mono fun _ _ h=>.inl h) fun _ _ h=>h) B4 fun i hi=>?_)
 rcases F3 i hi with h | h
 ·exact .inl h
 ·exact .inr (by omega)
theorem zV {id off n:Nat} {cs:List AV} {buf:AV} {l:List UInt8} (B:Bld h id off cs buf l) (hn:n=cs.length) (hl:l.length≤100000000) (hq:∀ h',Upd (aS buf) h h'→h'.length=h.length→Q (.s l) h'):C Y33.id [.p (some ⟨id,n,off⟩)] h Q:=by
 subst hn
 refine Y33.call ?_
 simp only [Y33.t]
 have hlen:∀ K:Int→Prop,K (l.length:Int)→b6 buf K:=fun K hk=>by
  rcases B.is with ⟨rfl,rfl⟩ | ⟨_,_,rfl,_⟩ <;> exact hk
 refine nU (nX (aE B.rec' rfl B.cell (nU (nX (aE B.rec' rfl B.cell (hlen _ ?_))))))
 refine B.is.data ?_
 refine aE B.rec' rfl B.cell ⟨rfl, ?_⟩
 refine B.is.text (by kernel_rfl) (by kernel_rfl) (by omega) fun h1 hl1 U1=>?_
 exact dQ (.inl (hq h1 U1 hl1))
theorem rL {id n len i:Nat} {cap:Option Nat} {cs:List AV} {K:AV→Prop} (R:bA h id cs) (hn:n=cs.length) (hi:i<len) (hk:K (.p (some ⟨id,n,i⟩))):aZ 1 (.sl (some ⟨id,n,0⟩) len cap) (.i .i64 (i:Int)) h K:=by
 obtain ⟨b,h1,rfl,h3,h4⟩:=R
 subst hn
 refine ⟨by omega,by omega,⟨b,h1,h3,h3⟩, ?_⟩
 simpa using hk
theorem aOV {a b c d:UInt8} {K:AV→aA→Prop} (hk:∀ h',h'.length=h.length+1→Upd (fun _=>False) h h'→bA h' h.length [byteAV a,byteAV b,byteAV c,byteAV d]→(∃ b:ABlk,h'[h.length]? = some b∧b.sz=1∧b.floor≤4∧b.cells.length=4)→K (.sl (some ⟨h.length,4,0⟩) 4 none) h') :
  fW (.s [a,b,c,d]) h K:=
 hk _ (by simp) (Upd.app _ _) ⟨aW [byteAV a,byteAV b,byteAV c,byteAV d] 1 false,by simp,rfl,Nat.le_refl _,rfl⟩ ⟨aW [byteAV a,byteAV b,byteAV c,byteAV d] 1 false,by simp,rfl,Nat.le_refl _,rfl⟩
theorem sl3 {id:Nat} {K:AV→Prop} (hb:∃ b:ABlk,h[id]? = some b∧b.sz=1∧b.floor≤4∧b.cells.length=4) (hk:K (.sl (some ⟨id,4,0⟩) 4 (some 4))):bZ 1 (.sl (some ⟨id,4,0⟩) 4 none) (some (iN 0)) (some (iN 4)) (some (iN 4)) h K:=by
 obtain ⟨b,h1,h2,h3,h4⟩:=hb
 refine ⟨Nat.one_pos,fun _=>rfl,by omega,by omega,by decide,b,h1,by omega,h3,.inl h2,by omega,by decide,.inl (by decide), ?_⟩
 simpa using hk
theorem aM4 {id:Nat} {cap:Option Nat} {a b c d:UInt8} (R:bA h id [byteAV a,byteAV b,byteAV c,byteAV d]) (hq:Q (iN (dK [d,c,b,a])) h):C Y20.id [.sl (some ⟨id,4,0⟩) 4 cap] h Q:=by
 have ha:=a.toNat_lt
 have hb:=b.toNat_lt
 have hc:=c.toNat_lt
 have hd:=d.toNat_lt
 have step:∀ {x i:Nat} {e:UInt8},[byteAV a,byteAV b,byteAV c,byteAV d][i]? = some (byteAV e)→i<4→x<2 ^ 40→Y20.p0 (aH h Q) ((x * 256+e.toNat:Nat):Int) (.sl (some ⟨id,4,0⟩) 4 cap) 4 ((i+1:Nat):Int) h→Y20.p0 (aH h Q) (x:Int) (.sl (some ⟨id,4,0⟩) 4 cap) 4 (i:Int) h:=by
  intro x i e he hi hx H
  have he':=e.toNat_lt
  refine Y20.i0 ?_
  simp only [Y20.t0, ← Y20.p0.eq_1]
  refine bB (decide_eq_true (by omega)) (rL R rfl hi (aE R rfl he (dE ?_)))
  refine ⟨by decide, ?_⟩
  have e1:IntKind.wrap .i64 ((x:Int) * 2 ^ (min (8:Int).toNat IntKind.i64.bits))=(x:Int) * 256:=by
   show IntKind.wrap .i64 ((x:Int) * 2 ^ 8)=_
   rw [show (2:Int) ^ 8=256 by decide]
   exact bE (by omega) (by omega)
  have e2:IntKind.wrap .i64 ((e.toNat:Nat):Int)=((e.toNat:Nat):Int):=bE (by omega) (by omega)
  rw [e1,e2]
  refine aU (n:=((x * 256+e.toNat:Nat):Int)) (by rw [aOO (by omega) (by omega) (by omega)]; omega) ?_
  exact aU (n:=((i+1:Nat):Int)) (by rw [bE (by omega) (by omega)]; omega) H
 refine Y20.call ?_
 simp only [Y20.t, ← Y20.p0.eq_1]
 refine aLD ?_
 refine step (x:=0) (i:=0) (e:=a) rfl (by decide) (by decide) ?_
 refine step (i:=1) (e:=b) rfl (by decide) (by omega) ?_
 refine step (i:=2) (e:=c) rfl (by decide) (by omega) ?_
 refine step (i:=3) (e:=d) rfl (by decide) (by omega) ?_
 refine Y20.i0 ?_
 simp only [Y20.t0]
 refine aN (by decide) (.inl ?_)
 have:((((0 * 256+a.toNat) * 256+b.toNat) * 256+c.toNat) * 256+d.toNat)=dK [d,c,b,a]:=by simp only [dK]; omega
 rw [this]
 exact hq
theorem aJH {id:Nat} {cap:Option Nat} {a b c d:UInt8} (R:bA h id [byteAV a,byteAV b,byteAV c,byteAV d]) (hq:∀ h',h'.length=h.length→Upd (· = id) h h'→bA h' id [byteAV d,byteAV c,byteAV b,byteAV a]→Q (.tu []) h'):C Y19.id [.sl (some ⟨id,4,0⟩) 4 cap] h Q:=by
 refine Y19.call ?_
 simp only [Y19.t, ← Y19.p0.eq_1]
 refine aLD (aU (n:=((3:Nat):Int)) (by decide) ?_)
 refine Y19.i0 ?_
 simp only [Y19.t0, ← Y19.p0.eq_1]
 refine bB (by decide) ?_
 refine rL (i:=3) R rfl (by decide) (aE R rfl (v:=byteAV d) rfl (dE ?_))
 refine rL (i:=0) R rfl (by decide) (aE R rfl (v:=byteAV a) rfl (dE ?_))
 refine rL (i:=0) R rfl (by decide) (aI R rfl (by show 0<4; decide) (hk:=fun h1 l1 U1 R1=>?_))
 refine rL (i:=3) R1 rfl (by decide) (aI R1 rfl (by show 3<4; decide) (hk:=fun h2 l2 U2 R2=>?_))
 refine aU (n:=((1:Nat):Int)) (by decide) (aU (n:=((2:Nat):Int)) (by decide) ?_)
 refine Y19.i0 ?_
 simp only [Y19.t0, ← Y19.p0.eq_1]
 refine bB (by decide) ?_
 refine rL (i:=2) R2 rfl (by decide) (aE R2 rfl (v:=byteAV c) rfl (dE ?_))
 refine rL (i:=1) R2 rfl (by decide) (aE R2 rfl (v:=byteAV b) rfl (dE ?_))
 refine rL (i:=1) R2 rfl (by decide) (aI R2 rfl (by show 1<4; decide) (hk:=fun h3 l3 U3 R3=>?_))
 refine rL (i:=2) R3 rfl (by decide) (aI R3 rfl (by show 2<4; decide) (hk:=fun h4 l4 U4 R4=>?_))
 refine aU (n:=((2:Nat):Int)) (by decide) (aU (n:=((1:Nat):Int)) (by decide) ?_)
 refine Y19.i0 ?_
 simp only [Y19.t0]
 refine aN (by decide) (.inl (hq h4 (by omega) ?_ R4))
 exact ((U1.trans U2 fun _ _ h=>h).trans U3 fun _ _ h=>h).trans U4 fun _ _ h=>h
theorem aF3 {n:Nat} (h1:1≤n) (h7:n≤7) (hq:Q (.b true) h):C Y24.id [iN n] h Q:=by
 refine Y24.call ?_
 simp only [Y24.t, ← Y24.p0.eq_1]
 refine bB (decide_eq_true (by omega)) ?_
 refine Y24.i0 ?_
 simp only [Y24.t0]
 rw [decide_eq_true (by omega)]
 exact .inl hq
theorem rT {s:List UInt8} {at':Nat} (hs:s.length<2 ^ 40) (ha:at'+4≤s.length) (hq:Q (.tu [iN (dK ((s.take (at'+4)).drop at')),iN 0]) h):C Y15.id [.s s,iN at',iN 4] h Q:=by
 obtain ⟨a,b,c,d,e4⟩:∃ a b c d,(s.take (at'+4)).drop at'=[a,b,c,d]:=by
  have hl:((s.take (at'+4)).drop at').length=4:=by simp; omega
  match hL:(s.take (at'+4)).drop at',hl with
  | [a,b,c,d],_=>exact ⟨a,b,c,d,rfl⟩
 rw [e4] at hq
 refine Y15.call ?_
 simp only [Y15.t, ← Y15.p0.eq_1]
 refine aF3 (by decide) (by decide) (bG (bB rfl (bB (decide_eq_true (by omega)) (bB (decide_eq_true (by omega)) ?_))))
 refine aU (n:=((s.length - at':Nat):Int)) (by rw [bE (by omega) (by omega)]; omega) ?_
 rw [decide_eq_true (by omega)]
 refine Y15.i0 ?_
 simp only [Y15.t0, ← Y15.p1.eq_1]
 refine bB rfl (aU (n:=((at'+4:Nat):Int)) (by rw [bE (by omega) (by omega)]; omega) ?_)
 refine aK8 (by omega) ha ?_
 rw [e4]
 refine Y15.i1 ?_
 simp only [Y15.t1]
 refine Y16.call ?_
 simp only [Y16.t, ← Y16.p0.eq_1]
 refine aF3 (by decide) (by decide) (bG (aN rfl ?_))
 refine Y16.i0 ?_
 simp only [Y16.t0, ← Y16.p1.eq_1]
 refine aN rfl (aN rfl (aU (n:=((4:Nat):Int)) (by show IntKind.wrap .i64 (((4:Nat):Int) - 0)=_; decide) ?_))
 refine Y16.i1 ?_
 simp only [Y16.t1]
 refine aN rfl ?_
 refine aOV fun h1 l1 U1 R1 b1=>?_
 refine aU (n:=((4:Nat):Int)) (by decide) (aU (n:=((4:Nat):Int)) (by decide) ?_)
 refine sl3 b1 (.inl ?_)
 simp only [lC,kQ]
 refine aD (aJH R1 fun h2 l2 U2 R2=>aM4 R2 (aD ?_))
 refine tG rfl (Upd.ext (U1.own U2 (Nat.le_refl _))) hq
end
end Go.Proofs.YtfoekpcljhbijaaGreatDoor
namespace Go.Proofs.YtfoekpcljhbijaaGreatDoor
open Go.GAM Go.RowKit
structure GR where
 hd:Hd
 nm:AV
 out:Nat
 ratio:Nat
 data:AV
 crc:Int
 size:Nat
 trailer:List UInt8
 within:Bool
 dead:Bool
 names:AV
 sizes:AV
def GR.cells (r:GR):List AV:=[iN r.hd.part,iN r.hd.count,iN r.hd.flags,iN r.hd.extra,.i .u32 r.hd.sum,iN r.hd.check,r.nm,iN r.out,iN r.ratio,r.data,.i .u32 r.crc,iN r.size,.s r.trailer,.b r.within,.b r.dead,r.names,r.sizes]
abbrev zp (g:Nat):AV:=.p (some ⟨g,17,0⟩)
section
variable {h:aA} {Q:AV→aA→Prop} {g:Nat} {r:GR}
theorem aL6 {x y:Nat} (hx:x<2 ^ 62) (hy:y<2 ^ 62):(!decide (aX .and .i64 (x:Int) ((y:Nat):Int)=0))=(x &&& y != 0):=by
 rw [rX hx hy]
 by_cases e:x &&& y=0 <;> simp [e]
theorem aLO (hf : r.hd.flags < 32) : ∀ (f p : Nat) (h : aA), p ≤ 8 → (8 < p + f ∨ p < 3 ∧ 0 < f) → bA h g ({ r with hd := { r.hd with part := p } } : GR).cells →
  (∀ h',h'.length=h.length→Upd (· = g) h h'→bA h' g ({ r with hd:={ r.hd with part:=rP r.hd.flags r.hd.extra f p } }:GR).cells→Q (.tu []) h')→Y14.p0 Q (zp g) h:=by
 intro f
 induction f with
 | zero=>intro p h h1 h2; omega
 | succ f ih =>
  intro p h hp hpf R hq
  have out:∀ w,w=yD r.hd.flags r.hd.extra p→Y14.p1 Q (zp g) w h:=by
   rintro w rfl
   refine Y14.i1 ?_
   simp only [Y14.t1,bN,bK, ← Y14.p0.eq_1]
   unfold rP at hq
   cases hw:yD r.hd.flags r.hd.extra p with
   | true =>
    rw [hw] at hq
    exact bB rfl (hq h rfl (Upd.refl _ _) R)
   | false =>
    rw [hw] at hq
    have hp7:3≤p∧p≤7:=by
     unfold yD at hw
     split at hw <;> first | omega | cases hw
    refine aN rfl (aE R rfl rfl (aD ?_))
    refine aU (n:=((p+1:Nat):Int)) (by show IntKind.wrap .i64 ((p:Int)+1)=_; rw [bE (by omega) (by omega)]; omega) ?_
    refine aI R rfl (by show 0<17; decide) (hk:=fun h1 l1 U1 R1=>?_)
    exact ih (p+1) h1 (by omega) (.inl (by omega)) R1 fun h2 l2 U2 R2=>hq h2 (by omega) (U1.trans U2 fun _ _ h=>h) R2
  refine Y14.i0 ?_
  simp only [Y14.t0,bN,bK, ← Y14.p1.eq_1]
  refine aE R rfl rfl (aD ?_)
  show (bif decide ((p:Int)=3) then _ else _)
  have hR2:bA h g ({ r with hd:={ r.hd with part:=p } }:GR).cells:=R
  refine aQ (fun e=>?_) fun e3=>?_
  ·have e : p = 3 := by have e : (p : Int) = 3 := of_decide_eq_true e; omega
   refine aE R rfl rfl (aD (out _ ?_))
   subst e
   exact aL6 (x:=r.hd.flags) (y:=4) (by omega) (by decide)
  ·refine aQ (fun e => ?_) fun e4 => ?_
   ·have e : p = 4 := by have e : (p : Int) = 4 := of_decide_eq_true e; omega
    refine aE R rfl rfl (aD (out _ ?_))
    subst e
    show decide ((0:Int)<((r.hd.extra:Nat):Int))=decide (0<r.hd.extra)
    by_cases hx:0<r.hd.extra <;> simp [hx]
   ·refine aQ (fun e => ?_) fun e5 => ?_
    ·have e : p = 5 := by have e : (p : Int) = 5 := of_decide_eq_true e; omega
     refine aE R rfl rfl (aD (out _ ?_))
     subst e
     exact aL6 (x:=r.hd.flags) (y:=8) (by omega) (by decide)
    ·refine aQ (fun e => ?_) fun e6 => ?_
     ·have e : p = 6 := by have e : (p : Int) = 6 := of_decide_eq_true e; omega
      refine aE R rfl rfl (aD (aU rfl (out _ ?_)))
      subst e
      exact aL6 (x:=r.hd.flags) (y:=16) (by omega) (by decide)
     ·refine aQ (fun e => ?_) fun e7 => ?_
      ·have e : p = 7 := by have e : (p : Int) = 7 := of_decide_eq_true e; omega
       refine aE R rfl rfl (aD (out _ ?_))
       subst e
       exact aL6 (x:=r.hd.flags) (y:=2) (by omega) (by decide)
      ·refine out true ?_
       have e3:¬ (p:Int)=3:=of_decide_eq_false e3
       have e4:¬ (p:Int)=4:=of_decide_eq_false e4
       have e5:¬ (p:Int)=5:=of_decide_eq_false e5
       have e6:¬ (p:Int)=6:=of_decide_eq_false e6
       have e7:¬ (p:Int)=7:=of_decide_eq_false e7
       unfold yD
       split <;> first | rfl | omega
theorem aOS (hf:r.hd.flags<32) (hp:r.hd.part<8) (R:bA h g r.cells) (hq:∀ h',h'.length=h.length→Upd (· = g) h h'→bA h' g ({ r with hd:=eQ r.hd true }:GR).cells→Q (.tu []) h'):C Y42.id [zp g] h Q:=by
 refine Y42.call ?_
 simp only [Y42.t,bN,bK]
 refine aE R rfl rfl (aD ?_)
 refine aU (n:=((r.hd.part+1:Nat):Int)) (by rw [bE (by omega) (by omega)]; omega) ?_
 refine aI R rfl (by show 0<17; decide) (hk:=fun h1 l1 U1 R1=>?_)
 refine aI R1 rfl (by show 1<17; decide) (hk:=fun h2 l2 U2 R2=>?_)
 refine Y14.call ?_
 simp only [Y14.t, ← Y14.p0.eq_1]
 refine aLO (r:={ r with hd:={ r.hd with count:=0 } }) hf 6 (r.hd.part+1) h2 (by omega) (by omega) R2 fun h3 l3 U3 R3=>.inl (.inl ?_)
 exact hq h3 (by omega) ((U1.trans U2 fun _ _ h=>h).trans U3 fun _ _ h=>h) R3
theorem aOZ {x:Int} (hx:∃ v:BitVec 32,x=((v.toNat:Nat):Int)):IntKind.wrap .i64 (aX .and .u32 x 65535)=((x.toNat % 65536:Nat):Int):=by
 obtain ⟨v,rfl⟩:=hx
 have e:aX .and .u32 ((v.toNat:Nat):Int) 65535=((v.toNat % 65536:Nat):Int):=by
  show IntKind.wrap .u32 (((BitVec.ofInt 32 ((v.toNat:Nat):Int) &&& BitVec.ofInt 32 65535).toNat:Nat):Int)=_
  rw [aKZ,BitVec.toNat_and]
  have e2:(BitVec.ofInt 32 65535).toNat=2 ^ 16 - 1:=by decide
  rw [e2,Nat.and_two_pow_sub_one_eq_mod]
  have hlt:v.toNat % 2 ^ 16<65536:=Nat.mod_lt _ (by decide)
  show IntKind.wrap .u32 ((v.toNat % 2 ^ 16:Nat):Int)=((v.toNat % 65536:Nat):Int)
  rw [show (2:Nat) ^ 16=65536 by decide] at hlt ⊢
  generalize v.toNat % 65536=t at hlt ⊢
  simp only [IntKind.wrap,IntKind.bits,IntKind.signed,Bool.false_and]
  have:(2:Int) ^ 32=4294967296:=by decide
  rw [this]
  simp
  omega
 rw [e,Int.toNat_natCast]
 have hlt:v.toNat % 65536<65536:=Nat.mod_lt _ (by decide)
 exact bE (by omega) (by omega)
theorem aJ8 {x y:Nat} (hx:x<2 ^ 62) (hy:y<2 ^ 62):aX .xor .i64 x y=((x ^^^ y:Nat):Int):=by
 have h:x ^^^ y<2 ^ 62:=Nat.xor_lt_two_pow hx hy
 show IntKind.wrap .i64 (((BitVec.ofInt 64 (x:Int)) ^^^ (BitVec.ofInt 64 (y:Int))).toNat:Int)=_
 rw [BitVec.toNat_xor,Go.GAM.bits_nat (by omega),Go.GAM.bits_nat (by omega),bE (by omega) (by omega)]
theorem aC1 {c:UInt8} {k:Nat} (hk:k<2) {K:Int→Prop} (hq:K ((c.toNat * 2 ^ (8 * k):Nat):Int)):pQ .i64 (IntKind.wrap .i64 ((c.toNat:Nat):Int)) ((8 * k:Nat):Int) K:=by
 have hc:=c.toNat_lt
 have e:IntKind.wrap .i64 ((c.toNat:Nat):Int)=((c.toNat:Nat):Int):=bE (by omega) (by omega)
 rw [e]
 refine ⟨by omega, ?_⟩
 have e2:IntKind.wrap .i64 (((c.toNat:Nat):Int) * 2 ^ (min ((8 * k:Nat):Int).toNat IntKind.i64.bits))=((c.toNat * 2 ^ (8 * k):Nat):Int):=by
  have hk2:k=0∨k=1:=by omega
  rcases hk2 with rfl | rfl
  ·show IntKind.wrap .i64 (((c.toNat : Nat) : Int) * 2 ^ 0) = _
   rw [show (2:Int) ^ 0=1 by decide,Int.mul_one,bE (by omega) (by omega)]; simp
  ·show IntKind.wrap .i64 (((c.toNat : Nat) : Int) * 2 ^ 8) = _
   rw [show (2:Int) ^ 8=256 by decide,bE (by omega) (by omega)]
   show _=((c.toNat * 2 ^ 8:Nat):Int)
   rw [show (2:Nat) ^ 8=256 by decide]; omega
 rw [e2]; exact hq
end
end Go.Proofs.YtfoekpcljhbijaaGreatDoor
namespace Go.Proofs.YtfoekpcljhbijaaGreatDoor
open Go.GAM Go.RowKit
section
variable {h:aA} {Q:AV→aA→Prop} {g:Nat} {r:GR}
theorem aNX {c : UInt8} (H : uZ r.hd) (hp : r.hd.part < 8) (hs : ∃ v : BitVec 32, r.hd.sum = ((v.toNat : Nat) : Int)) (R : bA h g r.cells) (T : gT u8T h r.nm r.hd.name) (hv : ¬ aS r.nm g)
  (hqe:∀ e h' r',dC r.hd c = .inl e→Upd (fun i=>i=g∨aS r.nm i) h h'→bA h' g (GR.cells r')→Q (.i .i64 e) h')
  (hqo:∀ hd' h' nm',dC r.hd c = .inr hd'→Upd (fun i=>i=g∨aS r.nm i) h h'→bA h' g ({ r with hd:=hd',nm:=nm' }:GR).cells→gT u8T h' nm' hd'.name→(∀ i,aS nm' i→aS r.nm i∨h.length≤i)→¬ aS nm' g→Q (iN 0) h') :
  C Y2.id [zp g,byteAV c] h Q:=by
 have hc:=c.toNat_lt
 have hcnt:=H.count
 unfold byteAV
 refine Y2.call ?_
 simp only [Y2.t,bN,bK, ← Y2.p0.eq_1, ← Y2.p1.eq_1, ← Y2.p3.eq_1]
 refine aE R rfl rfl (dE (aE R rfl rfl (dE ?_)))
 refine eY (cs:=[byteAV c]) rfl rfl (hk:=fun y h1 l1 U1 R1 hy=>?_)
 have Ra:=R.upd U1 fun h=>h
 refine aE Ra rfl rfl (dE ⟨rfl, ?_⟩)
 have Yb:Byt h1 y [c]:=R1
 refine Yb.str (aIR (by show 1<9223372036854775807; decide) (dE ?_))
 refine aI Ra rfl (by show 4<17; decide) (hk:=fun h2 l2 U2 R2=>?_)
 refine aE R2 rfl rfl (aD ?_)
 refine aU (n:=((r.hd.count+1:Nat):Int)) (by show IntKind.wrap .i64 ((r.hd.count:Int)+1)=_; rw [bE (by omega) (by omega)]; omega) ?_
 refine aI R2 rfl (by show 1<17; decide) (hk:=fun h3 l3 U3 R3=>?_)
 have Uall:Upd (· = g) h h3:=((U1.mono fun _ _ h=>h.elim).trans U2 fun _ _ h=>h).trans U3 fun _ _ h=>h
 have UN:Upd (fun i=>i=g∨aS r.nm i) h h3:=Uall.mono fun _ _ h=>.inl h
 have T3:gT u8T h3 r.nm r.hd.name:=T.upd Uall fun i hi e=>hv (e ▸ hi)
 have hl3:h.length≤h3.length:=Uall.1
 have sum':=sZ r.hd.sum [c]
 have R3:bA h3 g ({ r with hd:={ r.hd with sum:=cP r.hd.sum [c],count:=r.hd.count+1 } }:GR).cells:=R3
 have fin:∀ (h':aA) (hd':Hd) (nm':AV) (last:Bool),Upd (fun i=>i=g∨aS r.nm i) h h'→bA h' g ({ r with hd:=hd',nm:=nm' }:GR).cells→hd'.flags<32→hd'.part<8 →
   (∀ h2 ,h2.length=h'.length→Upd (· = g) h' h2→bA h2 g ({ r with hd:=eQ hd' last,nm:=nm' }:GR).cells→Q (iN 0) h2)→Y2.p3 (aH h Q) (zp g) last h':=by
  intro h' hd' nm' last U' R' hf hp' hq
  have done:∀ h2,Q (iN 0) h2→Y2.p4 (aH h Q) h2:=fun h2 hq=>by
   refine Y2.i4 ?_
   simp only [Y2.t4]
   exact .inl hq
  refine Y2.i3 ?_
  simp only [Y2.t3, ← Y2.p4.eq_1]
  cases last with
  | true=>exact bB rfl (aOS (r:={ r with hd:=hd',nm:=nm' }) hf hp' R' fun h2 l2 U2 R2=>done h2 (hq h2 l2 U2 R2))
  | false=>exact aN rfl (done h' (hq h' rfl (Upd.refl _ _) R'))
 have adv_name:∀ (hd':Hd) (last:Bool),(eQ hd' last).name=hd'.name:=fun hd' last=>by unfold eQ; split <;> rfl
 have fin0:∀ (h':aA) (hd':Hd) (last:Bool),Upd (· = g) h3 h'→bA h' g ({ r with hd:=hd' }:GR).cells→hd'.flags<32→hd'.part<8→hd'.name=r.hd.name →
   (∀ h2 nm',Upd (fun i=>i=g∨aS r.nm i) h h2→bA h2 g ({ r with hd:=eQ hd' last,nm:=nm' }:GR).cells→gT u8T h2 nm' (eQ hd' last).name→(∀ i,aS nm' i→aS r.nm i∨h.length≤i)→¬ aS nm' g→Q (iN 0) h2)→Y2.p3 (aH h Q) (zp g) last h':=by
  intro h' hd' last U' R' hf hp' hn hq
  have UN':Upd (fun i=>i=g∨aS r.nm i) h h':=UN.trans U' fun i _ e=>.inl e
  refine fin h' hd' r.nm last UN' R' hf hp' fun h2 l2 U2 R2=>hq h2 r.nm (UN'.trans U2 fun i _ e=>.inl e) R2 ?_ (fun i hi=>.inl hi) hv
  rw [adv_name,hn]
  exact (T3.upd U' fun i hi e=>hv (e ▸ hi)).upd U2 fun i hi e=>hv (e ▸ hi)
 have dec3:∀ n k:Nat,decide (((n:Nat):Int)=((k:Nat):Int))=(n == k):=fun n k=>by
  by_cases h:n=k
  ·subst h
   rw [decide_eq_true rfl]; exact (beq_self_eq_true n).symm
  ·rw [decide_eq_false (by omega)]; exact (beq_eq_false_iff_ne.2 h).symm
 have np:∀ k:Int,((r.hd.part:Nat):Int)≠k→decide (((r.hd.part:Nat):Int)=k)=false:=fun k h=>decide_eq_false h
 have yp:∀ k:Int,((r.hd.part:Nat):Int)=k→decide (((r.hd.part:Nat):Int)=k)=true:=fun k h=>decide_eq_true h
 have dec0:decide (((c.toNat:Nat):Int)=0)=(c == 0):=by
  by_cases h:c=0
  ·subst h; rfl
  ·have h2 : ¬ ((c.toNat : Nat) : Int) = 0 := fun e => h (UInt8.toNat.inj (by show c.toNat = 0; omega))
   have h3:(c == 0)=false:=by simpa using h
   rw [h3]; exact decide_eq_false h2
 have hlast:∀ (h':aA) (hd':Hd) (last:Bool),dC r.hd c = .inr (eQ hd' last)→Upd (· = g) h3 h'→bA h' g ({ r with hd:=hd' }:GR).cells→hd'.flags<32→hd'.part<8→hd'.name=r.hd.name→Y2.p3 (aH h Q) (zp g) last h':=
  fun h' hd' last ht U' R' hf hp' hn=>fin0 h' hd' last U' R' hf hp' hn fun h2 nm' a b cc d e=>hqo _ h2 nm' ht a b cc d e
 refine aE R3 rfl rfl (aD ?_)
 show (bif decide (((r.hd.part:Nat):Int)=0) then _ else _)
 have hcases:r.hd.part=0∨r.hd.part=1∨r.hd.part=2∨r.hd.part=3∨r.hd.part=4∨r.hd.part=5∨r.hd.part=6∨r.hd.part=7:=by omega
 rcases hcases with hpe | hpe | hpe | hpe | hpe | hpe | hpe | hpe
 ·
  have hc3:=H.p0 hpe
  refine bB (yp _ (by omega)) (aE R3 rfl rfl (aD ?_))
  refine aU (n:=((r.hd.count:Nat):Int)) (by show IntKind.wrap .i64 (((r.hd.count+1:Nat):Int) - 1)=_; rw [bE (by omega) (by omega)]; omega) ?_
  obtain ⟨m,hm⟩:∃ m,aA0[r.hd.count]? = some m:=⟨_,List.getElem?_eq_getElem (by show r.hd.count<3; exact hc3)⟩
  refine qG (l:=aA0) hm ?_
  rw [aND]
  by_cases hcm:c=m
  ·rw [decide_eq_true hcm]
   refine aN rfl (aE R3 rfl rfl (aD ?_))
   show Y2.p3 (aH h Q) (zp g) (decide (((r.hd.count+1:Nat):Int)=((3:Nat):Int))) h3
   rw [dec3]
   exact hlast h3 _ _ (by rw [tk0 hpe,if_pos (by rw [hm,hcm])]) (Upd.refl _ _) R3 H.flags hp rfl
  ·rw [decide_eq_false hcm]
   exact bB rfl (.inl (hqe 2 h3 _ (by rw [tk0 hpe,hm,if_neg fun e=>hcm (Option.some.inj e).symm]) UN R3))
 ·
  have hc0:=H.p1 hpe
  refine aN (np _ (by omega)) (bB (yp _ (by omega)) ?_)
  have ew:IntKind.wrap .i64 ((c.toNat:Nat):Int)=((c.toNat:Nat):Int):=bE (by omega) (by omega)
  rw [ew]
  refine aQ (fun e=>?_) fun e=>?_
  ·have e : 31 < c.toNat := by have := of_decide_eq_true e; omega
   exact .inl (hqe 2 h3 _ (by rw [tk1 hpe,if_pos e]) UN R3)
  ·have e : ¬ 31 < c.toNat := by have := of_decide_eq_false e; omega
   refine aI R3 rfl (by show 2<17; decide) (hk:=fun h4 l4 U4 R4=>?_)
   exact hlast h4 { r.hd with sum:=cP r.hd.sum [c],count:=r.hd.count+1,flags:=c.toNat } true (by rw [tk1 hpe,if_neg e]) U4 R4 (by show c.toNat<32; omega) hp rfl
 ·
  refine aN (np _ (by omega)) (aN (np _ (by omega)) (bB (yp _ (by omega)) (aE R3 rfl rfl (aD ?_))))
  show Y2.p3 (aH h Q) (zp g) (decide (((r.hd.count+1:Nat):Int)=((6:Nat):Int))) h3
  rw [dec3]
  exact hlast h3 _ _ (tk2 hpe) (Upd.refl _ _) R3 H.flags hp rfl
 ·
  have hc3:=H.p3 hpe
  refine aN (np _ (by omega)) (aN (np _ (by omega)) (aN (np _ (by omega)) (bB (yp _ (by omega)) ?_)))
  refine aE R3 rfl rfl (aD (aE R3 rfl rfl (aD ?_)))
  refine aU (n:=((r.hd.count:Nat):Int)) (by show IntKind.wrap .i64 (((r.hd.count+1:Nat):Int) - 1)=_; rw [bE (by omega) (by omega)]; omega) ?_
  refine aU (n:=((8 * r.hd.count:Nat):Int)) (by rw [bE (by omega) (by omega)]; omega) ?_
  refine aC1 hc3.1 ?_
  have hsh:c.toNat * 2 ^ (8 * r.hd.count)<2 ^ 62:=by
   have hk2:r.hd.count=0∨r.hd.count=1:=by omega
   rcases hk2 with e | e <;> rw [e] <;> omega
  refine aU (n:=((r.hd.extra ||| c.toNat * 2 ^ (8 * r.hd.count):Nat):Int)) (aBR (x:=r.hd.extra) (Nat.lt_trans H.extra (by decide)) hsh) ?_
  refine aI R3 rfl (by show 3<17; decide) (hk:=fun h4 l4 U4 R4=>?_)
  refine aE R4 rfl rfl (aD ?_)
  show Y2.p3 (aH h Q) (zp g) (decide (((r.hd.count+1:Nat):Int)=((2:Nat):Int))) h4
  rw [dec3]
  exact hlast h4 { r.hd with sum:=cP r.hd.sum [c],count:=r.hd.count+1,extra:=r.hd.extra ||| c.toNat * 2 ^ (8 * r.hd.count) } _ (tk3 hpe) U4 R4 H.flags hp rfl
 ·
  refine aN (np _ (by omega)) (aN (np _ (by omega)) (aN (np _ (by omega)) (aN (np _ (by omega)) (bB (yp _ (by omega)) ?_))))
  refine aE R3 rfl rfl (aD (aE R3 rfl rfl (aD ?_)))
  show Y2.p3 (aH h Q) (zp g) (decide (((r.hd.count+1:Nat):Int)=((r.hd.extra:Nat):Int))) h3
  rw [dec3]
  exact hlast h3 _ _ (tk4 hpe) (Upd.refl _ _) R3 H.flags hp rfl
 ·
  refine aN (np _ (by omega)) (aN (np _ (by omega)) (aN (np _ (by omega)) (aN (np _ (by omega)) (aN (np _ (by omega)) (bB (yp _ (by omega)) ?_)))))
  rw [dec0]
  by_cases c0:c=0
  ·have e0 : (c == 0) = true := by simpa using c0
   rw [e0]
   refine aN rfl ?_
   refine Y2.i0 ?_
   simp only [Y2.t0, ← Y2.p3.eq_1]
   refine aN rfl (aN rfl ?_)
   exact hlast h3 _ true (by rw [tk5 hpe,if_pos c0]) (Upd.refl _ _) R3 H.flags hp rfl
  ·have e0 : (c == 0) = false := by simpa using c0
   rw [e0]
   refine bB rfl (aE R3 rfl rfl (aD ?_))
   refine Y2.i0 ?_
   simp only [Y2.t0,bN,bK, ← Y2.p3.eq_1]
   refine aQ (fun e=>?_) fun e=>?_
   ·have e : 256 < r.hd.count + 1 := by have e : (256 : Int) < ((r.hd.count + 1 : Nat) : Int) := of_decide_eq_true e; omega
    exact .inl (hqe 3 h3 _ (by rw [tk5 hpe,if_neg c0,if_pos e]) UN R3)
   ·have e : ¬ 256 < r.hd.count + 1 := by have e : ¬ (256 : Int) < ((r.hd.count + 1 : Nat) : Int) := of_decide_eq_false e; omega
    refine bB rfl (aE R3 rfl rfl ?_)
    refine eY (cs:=[byteAV c]) rfl rfl (hk:=fun y4 h4 l4 U4 R4 hy4=>?_)
    have hnl:=H.name
    refine (T3.upd U4 fun _ _ h=>h).append (t:=[c]) (fun K' hK=>R4.news hK) (by simp; omega) fun v5 h5 U5 B5 g5=>?_
    have R5:=(R3.upd U4 fun h=>h).upd U5 hv
    have hv5:¬ aS v5 g:=fun hh=>by
     rcases g5 g hh with h | h
     ·exact hv h
     ·have:=R3.lt; omega
    obtain ⟨s1,s2,s3⟩:=slv B5
    refine aI R5 rfl (by show 6<17; decide) s1 s2 s3 (hk:=fun h6 l6 U6 R6=>?_)
    have UN6:Upd (fun i=>i=g∨aS r.nm i) h h6:=((UN.trans (U4.mono fun _ _ h=>h.elim) fun _ _ h=>h).trans (U5.mono fun i _ h=>.inr h) fun _ _ h=>h).trans (U6.mono fun i _ h=>.inl h) fun _ _ h=>h
    refine fin h6 { r.hd with sum:=cP r.hd.sum [c],count:=r.hd.count+1,name:=r.hd.name++[c] } v5 false UN6 R6 H.flags hp fun h7 l7 U7 R7=>?_
    refine hqo { r.hd with sum:=cP r.hd.sum [c],count:=r.hd.count+1,name:=r.hd.name++[c] } h7 v5 (by rw [tk5 hpe,if_neg c0,if_neg e]) (UN6.trans U7 fun i _ e=>.inl e) R7 ((B5.upd U6 fun i hi e=>hv5 (e ▸ hi)).upd U7 fun i hi e=>hv5 (e ▸ hi)) (fun i hi=>?_) hv5
    rcases g5 i hi with h | h
    ·exact .inl h
    ·exact .inr (by omega)
 ·
  refine aN (np _ (by omega)) (aN (np _ (by omega)) (aN (np _ (by omega)) (aN (np _ (by omega)) (aN (np _ (by omega)) (aN (np _ (by omega)) (bB (yp _ (by omega)) ?_))))))
  rw [dec0]
  exact hlast h3 _ _ (tk6 hpe) (Upd.refl _ _) R3 H.flags hp rfl
 ·
  have hc2:=H.p7 hpe
  refine aN (np _ (by omega)) (aN (np _ (by omega)) (aN (np _ (by omega)) (aN (np _ (by omega)) (aN (np _ (by omega)) (aN (np _ (by omega)) (aN (np _ (by omega)) (bB (yp _ (by omega)) ?_)))))))
  have hsh:c.toNat * 2 ^ (8 * r.hd.count)<2 ^ 62:=by
   have hk2:r.hd.count=0∨r.hd.count=1:=by omega
   rcases hk2 with e | e <;> rw [e] <;> omega
  have ck0:(if r.hd.count=0 then r.hd.sum.toNat % 65536 else r.hd.check)<65536:=by
   split
   ·exact Nat.mod_lt _ (by decide)
   ·exact H.check
  have tail:∀ h4,Upd (· = g) h3 h4→bA h4 g ({ r with hd:={ r.hd with sum:=cP r.hd.sum [c],count:=r.hd.count+1,check:=if r.hd.count=0 then r.hd.sum.toNat % 65536 else r.hd.check } }:GR).cells→Y2.p1 (aH h Q) (zp g) ((c.toNat:Nat):Int) h4:=by
   intro h4 U4 R4
   refine Y2.i1 ?_
   simp only [Y2.t1,bN,bK, ← Y2.p2.eq_1]
   refine aE R4 rfl rfl (aD (aE R4 rfl rfl (aD ?_)))
   refine aU (n:=((r.hd.count:Nat):Int)) (by show IntKind.wrap .i64 (((r.hd.count+1:Nat):Int) - 1)=_; rw [bE (by omega) (by omega)]; omega) ?_
   refine aU (n:=((8 * r.hd.count:Nat):Int)) (by rw [bE (by omega) (by omega)]; omega) ?_
   refine aC1 hc2 ?_
   refine aU (n:=((chk r.hd c:Nat):Int)) (aJ8 (x:=if r.hd.count=0 then r.hd.sum.toNat % 65536 else r.hd.check) (Nat.lt_trans ck0 (by decide)) hsh) ?_
   refine aI R4 rfl (by show 5<17; decide) (hk:=fun h5 l5 U5 R5=>?_)
   have R5:bA h5 g ({ r with hd:={ r.hd with sum:=cP r.hd.sum [c],count:=r.hd.count+1,check:=chk r.hd c } }:GR).cells:=R5
   have U35:Upd (· = g) h3 h5:=U4.trans U5 fun _ _ h=>h
   refine aE R5 rfl rfl (aD ?_)
   refine aQ (fun e=>?_) fun e=>?_
   ·have e1 : r.hd.count = 1 := by have e : ((r.hd.count + 1 : Nat) : Int) = 2 := of_decide_eq_true e; omega
    rw [e]
    refine aE R5 rfl rfl (aD ?_)
    refine Y2.i2 ?_
    simp only [Y2.t2, ← Y2.p3.eq_1]
    refine aQ (fun ek=>?_) fun ek=>?_
    ·have ek : chk r.hd c ≠ 0 := fun h0 => by
      have ek:(!decide (((chk r.hd c:Nat):Int)=0))=true:=ek
      rw [h0] at ek; cases ek
     exact .inl (hqe 8 h5 _ (by rw [tk7 hpe,if_pos e1,if_neg ek]) (UN.trans U35 fun i _ e=>.inl e) R5)
    ·have ek : chk r.hd c = 0 := by
      have ek:(!decide (((chk r.hd c:Nat):Int)=0))=false:=ek
      have:=of_decide_eq_true (by simpa using ek:decide (((chk r.hd c:Nat):Int)=0)=true)
      omega
     exact hlast h5 { r.hd with sum:=cP r.hd.sum [c],count:=r.hd.count+1,check:=chk r.hd c } true (by rw [tk7 hpe,if_pos e1,if_pos ek]) U35 R5 H.flags hp rfl
   ·have e1 : ¬ r.hd.count = 1 := by have e : ¬ ((r.hd.count + 1 : Nat) : Int) = 2 := of_decide_eq_false e; omega
    rw [e]
    refine Y2.i2 ?_
    simp only [Y2.t2, ← Y2.p3.eq_1]
    refine aN rfl ?_
    exact hlast h5 { r.hd with sum:=cP r.hd.sum [c],count:=r.hd.count+1,check:=chk r.hd c } false (by rw [tk7 hpe,if_neg e1] <;> rfl) U35 R5 H.flags hp rfl
  refine aE R3 rfl rfl (aD ?_)
  refine aQ (fun e=>?_) fun e=>?_
  ·have e0 : r.hd.count = 0 := by have e : ((r.hd.count + 1 : Nat) : Int) = 1 := of_decide_eq_true e; omega
   refine aU rfl ?_
   rw [aOZ hs]
   refine aI R3 rfl (by show 5<17; decide) (hk:=fun h4 l4 U4 R4=>tail h4 U4 ?_)
   rw [if_pos e0]; exact R4
  ·have e0 : ¬ r.hd.count = 0 := by have e : ¬ ((r.hd.count + 1 : Nat) : Int) = 1 := of_decide_eq_false e; omega
   refine tail h3 (Upd.refl _ _) ?_
   rw [if_neg e0]; exact R3
end
end Go.Proofs.YtfoekpcljhbijaaGreatDoor
namespace Go.Proofs.YtfoekpcljhbijaaGreatDoor
open Go.GAM
open Go.Infl (bI cL bX Out Lim)
structure GOK (g:GS) (N:Nat):Prop where
 hd:uZ g.hd
 cnt:g.hd.count≤N
 nml:g.hd.name.length≤N
 out:g.out≤65536
 ratio:1≤g.ratio∧g.ratio≤1100
 size:g.size+g.out≤65536
 sizes:∀ x∈g.sizes,x+g.out≤65536
 len:g.names.length≤16
 same:g.sizes.length=g.names.length
 room:g.within=true→g.hd.part<8→g.names.length<16
 data:∀ i,g.data=some i→g.within=true∧g.hd.part=8∧i.L.output=g.out+i.k.out.length∧0<g.names.length∧i.inp≤N
 trail:g.within=true→g.data=none→g.hd.part=8→g.trailer.length<8
 fresh:g.within=true→g.hd.part<8→g.data=none
 idle:g.within=false→g.data=none
 crc:∃ v:BitVec 32,g.crc=((v.toNat:Nat):Int)
 tdat:∀ i,g.data=some i→g.trailer=[]
theorem GOK.mono {g:GS} {N M:Nat} (H:GOK g N) (h:N≤M):GOK g M:=
 { H with cnt:=Nat.le_trans H.cnt h,nml:=Nat.le_trans H.nml h,data:=fun i hi=>let ⟨a,b,c,d,e⟩:=H.data i hi; ⟨a,b,c,d,Nat.le_trans e h⟩ }
theorem GOK.begin {g:GS} {N:Nat} (H:GOK g N) (hw:g.within=false) (hn:g.names.length≠16):GOK { g with hd:={},within:=true } N:=
 { H with hd:=uZ.zero,cnt:=Nat.zero_le _,nml:=Nat.zero_le _,room:=fun _ _=>by have:=H.len; show g.names.length<16; omega,data:=(fun i hi=>by have hi:g.data=some i:=hi; rw [H.idle hw] at hi; cases hi),trail:=(fun _ _ h=>by cases h),fresh:=fun _ _=>H.idle hw,idle:=(fun h=>by cases h),tdat:=(fun i hi=>by have hi:g.data=some i:=hi; rw [H.idle hw] at hi; cases hi) }
theorem aKM {n:Nat} (h:n≤65536):bnd (n:Int) 0 65536=n:=by unfold bnd; omega
theorem GOK.hdr {g:GS} {N:Nat} {h':Hd} {c:UInt8} (H:GOK g N) (hN:N+1<2 ^ 40) (hw:g.within=true) (hp:g.hd.part<8) (ht:dC g.hd c = .inr h'):GOK (if h'.part=8 then aFJ { g with hd:=h' } else { g with hd:=h' }) (N+1):=by
 obtain ⟨a,b,d⟩:=aI6 H.hd hp (by have:=H.cnt; omega) (by have:=H.nml; omega) ht
 have hroom:=H.room hw hp
 split
 ·rename_i h8
  refine ⟨a,Nat.le_trans b (Nat.succ_le_succ H.cnt),Nat.le_trans d (Nat.succ_le_succ H.nml),H.out,H.ratio,by show 0+g.out≤65536; have:=H.out; omega, ?_, ?_, ?_,(fun _ h=>by have h:h'.part<8:=h; omega), ?_,(fun _ h=>by cases h),(fun _ h=>by have h:h'.part<8:=h; omega),(fun h=>by have h:g.within=false:=h; rw [hw] at h; cases h),⟨0,rfl⟩,fun _ _=>rfl⟩
  ·intro x hx
   rcases List.mem_append.1 hx with h | h
   ·exact H.sizes x h
   ·rw [List.mem_singleton.1 h]; show 0+g.out≤65536; have:=H.out; omega
  ·show (g.names++[h'.name]).length≤16; rw [List.length_append,List.length_singleton]; omega
  ·show (g.sizes++[0]).length=(g.names++[h'.name]).length; rw [List.length_append,List.length_append,H.same] <;> rfl
  ·intro i hi
   have hi:some _=some i:=hi
   cases hi
   refine ⟨hw,h8, ?_,by show 0<(g.names++[h'.name]).length; simp,Nat.zero_le _⟩
   show bnd (g.out:Int) 0 65536=g.out+0
   rw [aKM H.out] <;> rfl
 ·rename_i h8
  have hp8:=a.part
  exact ⟨a,Nat.le_trans b (Nat.succ_le_succ H.cnt),Nat.le_trans d (Nat.succ_le_succ H.nml),H.out,H.ratio,H.size,H.sizes,H.len,H.same,fun _ _=>hroom,(fun i hi=>by have hi:g.data=some i:=hi; rw [H.fresh hw hp] at hi; cases hi),(fun _ _ h=>absurd h h8),fun _ _=>H.fresh hw hp,(fun h=>by have h:g.within=false:=h; rw [hw] at h; cases h),H.crc,(fun i hi=>by have hi:g.data=some i:=hi; rw [H.fresh hw hp] at hi; cases hi)⟩
theorem GOK.dat {g : GS} {N n : Nat} {i : Inf} {b : List UInt8} {d : Option Inf} (H : GOK g N) (hd : g.data = some i) (hb : b.length ≤ g.out) (hD : ∀ j, d = some j → j.L.output = (g.out - b.length) + j.k.out.length ∧ j.inp ≤ N + n) : GOK { eV g b with data := d } (N + n) := by
 obtain ⟨a1,a2,a3,a4,a5⟩:=H.data i hd
 refine ⟨H.hd,Nat.le_trans H.cnt (Nat.le_add_right _ _),Nat.le_trans H.nml (Nat.le_add_right _ _),Nat.le_trans (Nat.sub_le _ _) H.out,H.ratio, ?_, ?_,H.len, ?_,H.room, ?_,(fun _ _ _=>by show g.trailer.length<8; rw [H.tdat i hd]; decide),(fun _ h=>by have h:g.hd.part<8:=h; omega),(fun h=>by have h:g.within=false:=h; rw [a1] at h; cases h),sZ _ _,fun _ _=>H.tdat i hd⟩
 ·show g.size + b.length + (g.out - b.length) ≤ 65536
  have:=H.size; omega
 ·intro x hx
  have hx:x∈g.sizes.set (g.sizes.length - 1) (g.sizes.getD (g.sizes.length - 1) 0+b.length):=hx
  show x+(g.out - b.length)≤65536
  rcases List.mem_or_eq_of_mem_set hx with h | h
  ·have:=H.sizes x h; omega
  ·have hlt : g.sizes.length - 1 < g.sizes.length := by rw [H.same]; omega
   have hm:g.sizes.getD (g.sizes.length - 1) 0∈g.sizes:=by
    rw [List.getD_eq_getElem?_getD,List.getElem?_eq_getElem hlt]; exact List.getElem_mem _
   have:=H.sizes _ hm
   omega
 ·show (g.sizes.set _ _).length = g.names.length
  rw [List.length_set,H.same]
 ·intro j hj
  obtain ⟨e1,e2⟩:=hD j hj
  exact ⟨a1,a2,e1,a4,e2⟩
theorem GOK.endd {g:GS} {N:Nat} {t:List UInt8} {w:Bool} (H:GOK g N) (hd:g.data=none) (hp:g.hd.part=8) (ht:w=true→t.length<8):GOK { g with trailer:=t,within:=w } (N+1):=
 { H.mono (Nat.le_succ N) with room:=(fun _ h=>by have h:g.hd.part<8:=h; omega),data:=(fun i hi=>by have hi:g.data=some i:=hi; rw [hd] at hi; cases hi),trail:=fun hw _ _=>ht hw,fresh:=fun _ _=>hd,idle:=fun _=>hd,tdat:=(fun i hi=>by have hi:g.data=some i:=hi; rw [hd] at hi; cases hi) }
end Go.Proofs.YtfoekpcljhbijaaGreatDoor
namespace Go.Proofs.YtfoekpcljhbijaaGreatDoor
open Go.GAM Go.RowKit
def mkR (g:GS) (nm data names sizes:AV) (dead:Bool):GR:=⟨g.hd,nm,g.out,g.ratio,data,g.crc,g.size,g.trailer,g.within,dead,names,sizes⟩
def aD9 (h:aA) (F:Nat→Prop) (data:AV):Option Inf→Prop
 | none=>data = .p none
 | some i=>∃ d dr told,data=dp d∧DSt i.L h F d dr told (.wait i.k i.w i.c) i.inp []
structure GzB (h:aA) (g:Nat) (O F:Nat→Prop) (gs:GS) (nm data names sizes:AV):Prop where
 recd:bA h g (mkR gs nm data names sizes false).cells
 nmT:gT u8T h nm gs.hd.name
 namesT:Stk h names (gs.names.map .s)
 sizesT:Stk h sizes (bH gs.sizes)
 gO:O g
 gF:¬ F g
 nmO:∀ i,aS nm i→O i∧i≠g∧¬ F i
 nsO:∀ i,aS names i→O i∧i≠g∧¬ F i∧¬ aS nm i
 szO:∀ i,aS sizes i→O i∧i≠g∧¬ F i∧¬ aS nm i∧¬ aS names i
 fO:∀ i,F i→O i
 lt:∀ i,O i→i<h.length
 ord:cU h
 oO:¬ O 0
 dat:aD9 h F data gs.data
structure GzV (h:aA) (g:Nat) (O F:Nat→Prop) (gs:GS) (N:Nat) (nm data names sizes:AV):Prop extends GzB h g O F gs nm data names sizes where
 ok:GOK gs N
def Gz (h:aA) (g:Nat) (O:Nat→Prop) (gs:GS) (N:Nat):Prop:=∃ F nm data names sizes,GzV h g O F gs N nm data names sizes
def GzD (h:aA) (g:Nat) (O:Nat→Prop):Prop:=(∃ r:GR,bA h g r.cells∧r.dead=true)∧O g∧(∀ i,O i→i<h.length)∧cU h∧¬ O 0
section
variable {h h':aA} {Q:AV→aA→Prop} {g:Nat} {O F:Nat→Prop} {gs:GS} {N:Nat} {nm data names sizes:AV}
theorem aD9.upd {M F':Nat→Prop} {i:Option Inf} (D:aD9 h F data i) (U:Upd M h h') (hM:∀ i,F i→¬ M i) (ho:¬ M 0) (hF:∀ i,i<h.length→F i→F' i):aD9 h' F' data i:=by
 cases i with
 | none=>exact D
 | some i =>
  obtain ⟨d,dr,told,e,S⟩:=D
  exact ⟨d,dr,told,e,S.upd U hM ho hF⟩
theorem GzV.upd {M:Nat→Prop} (V:GzV h g O F gs N nm data names sizes) (U:Upd M h h') (hM:∀ i,O i→¬ M i) (ho:¬ M 0):GzV h' g O F gs N nm data names sizes:=
 { V with recd:=V.recd.upd U (hM g V.gO),nmT:=V.nmT.upd U fun i hi=>hM i (V.nmO i hi).1,namesT:=V.namesT.upd U fun i hi=>hM i (V.nsO i hi).1,sizesT:=V.sizesT.upd U fun i hi=>hM i (V.szO i hi).1,lt:=fun i hi=>Nat.lt_of_lt_of_le (V.lt i hi) U.1,ord:=V.ord.upd U ho,dat:=V.dat.upd U (fun i hi=>hM i (V.fO i hi)) ho fun _ _ h=>h }
theorem Gz.upd {M:Nat→Prop} (V:Gz h g O gs N) (U:Upd M h h') (hM:∀ i,O i→¬ M i) (ho:¬ M 0):Gz h' g O gs N:=by
 obtain ⟨F,nm,data,names,sizes,V⟩:=V
 exact ⟨F,nm,data,names,sizes,V.upd U hM ho⟩
theorem GzD.upd {M:Nat→Prop} (V:GzD h g O) (U:Upd M h h') (hM:∀ i,O i→¬ M i) (ho:¬ M 0):GzD h' g O:=by
 obtain ⟨⟨r,R,hd⟩,gO,lt,ord,oO⟩:=V
 exact ⟨⟨r,R.upd U (hM g gO),hd⟩,gO,fun i hi=>Nat.lt_of_lt_of_le (lt i hi) U.1,ord.upd U ho,oO⟩
theorem aGW {id n k:Nat} {cs ws:List AV} {K:aA→Prop} (R:bA h id cs) (hn:n=cs.length) (hw:ws.length=k) (hkn:k≤n) (hc:ws.all AV.cellOK=true)
  (hk:∀ h',h'.length=h.length→Upd (· = id) h h'→bA h' id (ws++cs.drop k)→K h'):aR k (.p (some ⟨id,n,0⟩)) (.ag ws) h K:=by
 have hl:=R.lt
 obtain ⟨b,h1,rfl,h3,h4⟩:=R
 subst hn
 refine ⟨b,h1,h4,h3,rfl,(by show 0+k≤b.cells.length; omega),rfl,hw,hc, ?_⟩
 have e:wr b.cells 0 ws=ws++b.cells.drop k:=by
  have:=aBV ws [] b.cells (by omega)
  rw [List.nil_append,List.nil_append,List.length_nil] at this
  rw [this,hw]
 refine hk _ (by simp) (Upd.set _ _ _) ⟨_,List.getElem?_set_self hl,e, ?_,h4⟩
 rw [List.length_append,List.length_drop]; show b.cells.length≤_; omega
theorem aMX {c:UInt8} (V:GzV h g O F gs N nm data names sizes) (hw:gs.within=false)
  (hqe:∀ e,(c≠31∧e=2∨c=31∧gs.names.length=16∧e=3)→Q (.i .i64 e) h)
  (hqo:∀ h',c=31→gs.names.length≠16→h'.length=h.length→Upd (· = g) h h'→GzV h' g O F { gs with hd:={},within:=true } N aBU data names sizes→Q (iN 0) h'):C Y55.id [zp g,byteAV c] h Q:=by
 unfold byteAV
 refine Y55.call ?_
 simp only [Y55.t,bN,bK]
 refine qG (l:=[31,139,8]) (i:=0) (c:=31) rfl ?_
 rw [aND]
 by_cases hc:c=31
 ·rw [decide_eq_true hc]
  refine aN rfl (aE V.recd rfl rfl ?_)
  refine V.namesT.rd.len ?_
  have hl:(gs.names.map AV.s).length=gs.names.length:=by simp
  rw [hl]
  refine aQ (fun e=>?_) fun e=>?_
  ·have e : gs.names.length = 16 := by have := of_decide_eq_true e; omega
   exact .inl (hqe 3 (.inr ⟨hc,e,rfl⟩))
  ·have e : gs.names.length ≠ 16 := by have := of_decide_eq_false e; omega
   have hdat:gs.data=none:=V.ok.idle hw
   refine aGW (k:=7) V.recd rfl rfl (by show 7≤17; decide) rfl fun h1 l1 U1 R1=>?_
   refine aI R1 rfl (by show 13<17; decide) (hk:=fun h2 l2 U2 R2=>?_)
   have U12:Upd (· = g) h h2:=U1.trans U2 fun _ _ h=>h
   have hU:∀ i,F i→¬ (i=g):=fun i hi e=>V.gF (e ▸ hi)
   have ho:¬ (0=g):=fun e=>V.oO (by rw [e]; exact V.gO)
   refine .inl (hqo h2 hc e (by omega) U12 ⟨⟨R2,.inl ⟨rfl,rfl⟩,V.namesT.upd U12 fun i hi e=>(V.nsO i hi).2.1 e,V.sizesT.upd U12 fun i hi e=>(V.szO i hi).2.1 e,V.gO,V.gF,fun i hi=>hi.elim, ?_, ?_,V.fO,fun i hi=>(by have:=V.lt i hi; omega),V.ord.upd U12 ho,V.oO,V.dat.upd U12 hU ho fun _ _ h=>h⟩,V.ok.begin hw e⟩)
   ·exact fun i hi=>⟨(V.nsO i hi).1,(V.nsO i hi).2.1,(V.nsO i hi).2.2.1,fun h=>h⟩
   ·exact fun i hi=>⟨(V.szO i hi).1,(V.szO i hi).2.1,(V.szO i hi).2.2.1,fun h=>h,(V.szO i hi).2.2.2.2⟩
 ·rw [decide_eq_false hc]
  exact bB rfl (.inl (hqe 2 (.inl ⟨hc,rfl⟩)))
end
end Go.Proofs.YtfoekpcljhbijaaGreatDoor
namespace Go.Proofs.YtfoekpcljhbijaaGreatDoor
open Go.GAM Go.RowKit
open Go.Infl (bI cL bX Out Lim)
section
variable {h h':aA} {Q:AV→aA→Prop} {g:Nat} {O F:Nat→Prop} {gs:GS} {N:Nat} {nm data names sizes:AV}
theorem aCL {h:aA} {v:AV} {l:List AV} (S:Stk h v l):v.parts=[v]∧v.sizeOK=true∧v.cellOK=true:=by
 rcases S with ⟨rfl,_⟩ | ⟨id,b,rfl,_⟩ <;> exact ⟨rfl,rfl,rfl⟩
theorem aG7 {h : aA} {v x : AV} {l : List AV} (S : Stk h v l) {i : Nat} (hi : i < l.length) (hx : x.parts = [x]) (hs : x.sizeOK = true) (hc : x.cellOK = true) {K : aA → Prop} (hk : ∀ h', h'.length = h.length → Upd (aS v) h h' → Stk h' v (l.set i x) → K h') :
  aZ 1 v (.i .i64 (i:Int)) h fun a=>aR 1 a x h K:=by
 rcases S with ⟨rfl,rfl⟩ | ⟨id,b,rfl,h1,h2,h3,h4,h5,h6,h7⟩
 ·simp at hi
 ·have hl := aL h1
  refine ⟨by omega,by omega,⟨b,h1,h5,h5⟩, ?_⟩
  refine ⟨b,h1,h6,h5,rfl, ?_,hs,by rw [hx] <;> rfl,by rw [hx]; simp [hc], ?_⟩
  ·show 0 + (i : Int).toNat * 1 + 1 ≤ b.cells.length
   rw [Int.toNat_natCast]; omega
  ·have ew : wr b.cells (0 + (i : Int).toNat * 1) x.parts = b.cells.set i x := by rw [hx, Int.toNat_natCast, Nat.mul_one, Nat.zero_add] <;> rfl
   rw [ew]
   refine hk _ (by simp) ((Upd.set _ _ _).mono fun j _ e=>e.symm) (.inr ⟨id,{ b with cells:=b.cells.set i x,floor:=b.cells.length }, ?_,List.getElem?_set_self hl,h2,by simpa using h3, ?_,by simp,h6,h7⟩)
   ·simp
   ·show (b.cells.set i x).take (l.set i x).length = l.set i x
    rw [List.length_set,List.take_set,h4]
theorem aNR (V : GzB h g O F gs nm data names sizes) (hsame : gs.sizes.length = gs.names.length) (hw : gs.within = true) (hd : gs.data = none) (hn : gs.names.length < 16) {N' : Nat} (ok : GOK (aFJ gs) N')
  (hq:∀ h' O',Upd O h h'→(∀ i,O' i→O i∨h.length≤i)→Gz h' g O' (aFJ gs) N'→Q (.tu []) h'):C Y53.id [zp g] h Q:=by
 refine Y53.call ?_
 simp only [Y53.t,bN,bK]
 rw [aM9 (n:=17) V.recd rfl (by show 0+7+2≤17; omega)]
 show C Y36.id [.ag [iN gs.out,iN gs.ratio]] h _
 refine aOX V.ord fun h1 d r U1 hdl D1=>?_
 have hgl:=V.recd.lt
 have R1:=V.recd.upd U1 fun h=>h
 refine aI R1 rfl (by show 9<17; decide) (hk:=fun h2 l2 U2 R2=>?_)
 refine aI R2 rfl (by show 10<17; decide) (hk:=fun h3 l3 U3 R3=>?_)
 refine aI R3 rfl (by show 11<17; decide) (hk:=fun h4 l4 U4 R4=>?_)
 refine aI R4 rfl (by show 12<17; decide) (hk:=fun h5 l5 U5 R5=>?_)
 have U15:Upd (· = g) h h5:=((((U1.mono fun _ _ h=>h.elim).trans U2 fun _ _ h=>h).trans U3 fun _ _ h=>h).trans U4 fun _ _ h=>h).trans U5 fun _ _ h=>h
 have U25:Upd (· = g) h1 h5:=((U2.trans U3 fun _ _ h=>h).trans U4 fun _ _ h=>h).trans U5 fun _ _ h=>h
 have l15:h5.length=h1.length:=by omega
 have ngi:∀ {v:AV},(∀ i,aS v i→i≠g)→∀ i,aS v i→¬ (i=g):=fun hv i hi e=>hv i hi e
 have T5:=V.nmT.upd U15 (ngi fun i hi=>(V.nmO i hi).2.1)
 have S5:=V.namesT.upd U15 (ngi fun i hi=>(V.nsO i hi).2.1)
 have Z5:=V.sizesT.upd U15 (ngi fun i hi=>(V.szO i hi).2.1)
 refine aE R5 rfl rfl (aE R5 rfl rfl (gT.str T5 ?_))
 refine eY (cs:=[.s gs.hd.name]) rfl rfl (hk:=fun y h6 l6 U6 R6 hy=>?_)
 have Rg6:=R5.upd U6 fun h=>h
 refine aE Rg6 rfl rfl ⟨rfl, ?_⟩
 have hnl:(gs.names.map AV.s).length=gs.names.length:=by simp
 refine (S5.upd U6 fun _ _ h=>h).app1 R6 rfl (by rw [hnl]; omega) (by rw [hnl]; omega) fun v7 h7 U7 S7 g7=>?_
 have hv0:¬ aS names g:=fun hh=>(V.nsO g hh).2.1 rfl
 have Rg7:=Rg6.upd U7 hv0
 have hl1:=U1.1
 have hv7:∀ i,aS v7 i→aS names i∨h1.length≤i:=fun i hi=>(g7 i hi).imp (fun h=>h) fun h=>by omega
 have hv7g:¬ aS v7 g:=fun hh=>by
  rcases hv7 g hh with h | h
  ·exact hv0 h
  ·omega
 obtain ⟨s1,s2,s3⟩:=aCL S7
 refine aI Rg7 rfl (by show 15<17; decide) s1 s2 s3 (hk:=fun h8 l8 U8 R8=>?_)
 have S8:=S7.upd U8 fun i hi e=>hv7g (e ▸ hi)
 have Z7:Stk h7 sizes (bH gs.sizes):=(Z5.upd U6 fun _ _ h=>h).upd U7 fun i hi h=>(V.szO i hi).2.2.2.2 h
 have Z8:=Z7.upd U8 fun i hi e=>(V.szO i hi).2.1 e
 refine aE R8 rfl rfl ?_
 refine eY (cs:=[iN 0]) rfl rfl (hk:=fun y9 h9 l9 U9 R9 hy9=>?_)
 have hzl:(bH gs.sizes).length=gs.sizes.length:=aV _
 refine (Z8.upd U9 fun _ _ h=>h).app1 R9 rfl (by rw [hzl]; omega) (by rw [hzl]; omega) fun v10 h10 U10 Z10 g10=>?_
 have hz0:¬ aS sizes g:=fun hh=>(V.szO g hh).2.1 rfl
 have hU7:=U7.1
 have hU10:=U10.1
 have hU6:=U6.1
 have hv10:∀ i,aS v10 i→aS sizes i∨h8.length≤i:=fun i hi=>(g10 i hi).imp (fun h=>h) fun h=>by omega
 have hv10g:¬ aS v10 g:=fun hh=>by
  rcases hv10 g hh with h | h
  ·exact hz0 h
  ·omega
 have R10:=(R8.upd U9 fun h=>h).upd U10 hz0
 obtain ⟨t1,t2,t3⟩:=aCL Z10
 refine aI R10 rfl (by show 16<17; decide) t1 t2 t3 (hk:=fun h11 l11 U11 R11=>?_)
 have Oall:Upd O h h11:=by
  refine (U15.mono fun i _ e=>(e ▸ V.gO:O i)).trans ?_ fun _ _ h=>h
  refine ((((((U6.mono fun _ _ h=>h.elim).trans (U7.mono fun i _ hi=>(V.nsO i hi).1) fun _ _ h=>h).trans (U8.mono fun i _ e=>(e ▸ V.gO:O i)) fun _ _ h=>h).trans (U9.mono fun _ _ h=>h.elim) fun _ _ h=>h).trans (U10.mono fun i _ hi=>(V.szO i hi).1) fun _ _ h=>h).trans (U11.mono fun i _ e=>(e ▸ V.gO:O i)) fun _ _ h=>h)
 have hlt:∀ i,O i→i<h.length:=V.lt
 have hordl:=V.ord.lt
 let F1:Nat→Prop:=fun i=>h.length≤i∧i<h1.length
 have U1_11:Upd O h1 h11:=by
  refine (U25.mono fun i _ e=>(e ▸ V.gO:O i)).trans ?_ fun _ _ h=>h
  refine ((((((U6.mono fun _ _ h=>h.elim).trans (U7.mono fun i _ hi=>(V.nsO i hi).1) fun _ _ h=>h).trans (U8.mono fun i _ e=>(e ▸ V.gO:O i)) fun _ _ h=>h).trans (U9.mono fun _ _ h=>h.elim) fun _ _ h=>h).trans (U10.mono fun i _ hi=>(V.szO i hi).1) fun _ _ h=>h).trans (U11.mono fun i _ e=>(e ▸ V.gO:O i)) fun _ _ h=>h)
 have D11:DSt (aCM (gs.out:Int) (gs.ratio:Int)) h11 F1 d r 0 Infl.start 0 []:=D1.upd U1_11 (fun i hi hh=>by have:=hlt i hh; have hi:h.length≤i:=hi; omega) V.oO fun i hl hi=>⟨hi,hl⟩
 have hU11:h11.length=h10.length:=l11
 have Tn:gT u8T h11 nm gs.hd.name:=by
  have T6:=T5.upd U6 fun _ _ h=>h
  have T7:=T6.upd U7 fun i hi hn=>(V.nsO i hn).2.2.2 hi
  have T8:=T7.upd U8 fun i hi e=>(V.nmO i hi).2.1 e
  have T9:=T8.upd U9 fun _ _ h=>h
  have T10:=T9.upd U10 fun i hi hn=>(V.szO i hn).2.2.2.1 hi
  exact T10.upd U11 fun i hi e=>(V.nmO i hi).2.1 e
 have S11:Stk h11 v7 ((gs.names++[gs.hd.name]).map .s):=by
  rw [List.map_append]
  have S9:=S8.upd U9 fun _ _ h=>h
  have S10:=S9.upd U10 fun i hi hn=>by
   rcases g7 i hi with h | h
   ·exact (V.szO i hn).2.2.2.2 h
   ·have:=hlt i (V.szO i hn).1; omega
  exact S10.upd U11 fun i hi e=>hv7g (e ▸ hi)
 have Z11:Stk h11 v10 (bH (gs.sizes++[0])):=by
  have e:bH (gs.sizes++[0])=bH gs.sizes++[iN 0]:=by unfold bH; rw [List.map_append] <;> rfl
  rw [e]
  exact Z10.upd U11 fun i hi e=>hv10g (e ▸ hi)
 have hl8:h8.length=h7.length:=l8
 have b7:∀ i,aS v7 i→i<h7.length:=fun i hi=>S7.rd.lt hi
 have b10:∀ i,aS v10 i→i<h10.length:=fun i hi=>Z10.rd.lt hi
 have bnm:∀ i,aS nm i→i<h.length:=fun i hi=>V.nmT.lt hi
 have bns:∀ i,aS names i→i<h.length:=fun i hi=>hlt i (V.nsO i hi).1
 have bsz:∀ i,aS sizes i→i<h.length:=fun i hi=>hlt i (V.szO i hi).1
 have hU9:=U9.1
 refine .inl (hq h11 (fun i=>(O i∨h.length≤i)∧i<h11.length) Oall (fun i hi=>hi.1) ⟨F1,nm,dp d,v7,v10, ?_⟩)
 refine ⟨⟨R11,Tn,S11,Z11,⟨.inl V.gO,by omega⟩,fun hh=>by have hh:h.length≤g∧g<h1.length:=hh; omega,fun i hi=>⟨⟨.inl (V.nmO i hi).1,by have:=bnm i hi; omega⟩,(V.nmO i hi).2.1,fun hf=>by have:=bnm i hi; have hf:_≤i∧_:=hf; omega⟩,fun i hi=>?_,fun i hi=>?_,fun i hi=>⟨.inr hi.1,by have:=hi.2; omega⟩,fun i hi=>hi.2,V.ord.upd Oall V.oO,fun hh=>?_,⟨d,r,0,rfl,D11⟩⟩,ok⟩
 ·have hb := b7 i hi
  rcases g7 i hi with hn | hn
  ·exact ⟨⟨.inl (V.nsO i hn).1,by omega⟩,(V.nsO i hn).2.1,fun hf=>by have:=bns i hn; have hf:_≤i∧_:=hf; omega,(V.nsO i hn).2.2.2⟩
  ·exact ⟨⟨.inr (by omega),by omega⟩,by omega,fun hf=>by have hf:_∧i<h1.length:=hf; omega,fun hx=>by have:=bnm i hx; omega⟩
 ·have hb := b10 i hi
  rcases g10 i hi with hn | hn
  ·have := bsz i hn
   exact ⟨⟨.inl (V.szO i hn).1,by omega⟩,(V.szO i hn).2.1,fun hf=>by have hf:_≤i∧_:=hf; omega,(V.szO i hn).2.2.2.1,fun hx=>by
    rcases g7 i hx with h | h
    ·exact (V.szO i hn).2.2.2.2 h
    ·omega⟩
  ·exact ⟨⟨.inr (by omega),by omega⟩,by omega,fun hf=>by have hf:_∧i<h1.length:=hf; omega,fun hx=>by have:=bnm i hx; omega,fun hx=>by have:=b7 i hx; omega⟩
 ·rcases hh.1 with h | h
  ·exact V.oO h
  ·omega
end
end Go.Proofs.YtfoekpcljhbijaaGreatDoor
namespace Go.Proofs.YtfoekpcljhbijaaGreatDoor
open Go.GAM Go.RowKit
open Go.Infl (bI cL bX Out Lim)
section
variable {h h':aA} {Q:AV→aA→Prop} {g:Nat} {O F:Nat→Prop} {gs:GS} {N:Nat} {nm data names sizes:AV}
theorem aJ7 {e:Nat} (h:e=1∨e=2):eno e≠0:=by rcases h with rfl | rfl <;> decide
theorem aHZ {s:List UInt8} {i:Inf} (V:GzV h g O F gs N nm data names sizes) (hd:gs.data=some i) (hN:N+s.length<1099511627776)
  (hql:∀ h' (O':Nat→Prop) gs' b,Upd O h h'→(∀ j,O' j→O j∨h.length≤j)→Gz h' g O' gs' (N+(s.length - (fB s i.inp (Infl.run i.L (Infl.bitsOf s) (8 * i.inp) (.wait i.k i.w i.c))).length))→aBC gs i (Infl.run i.L (Infl.bitsOf s) (8 * i.inp) (.wait i.k i.w i.c)).2 s.length=(.live gs',b,0)→b.length≤gs.out →
   Q (.tu [.s b,.s (fB s i.inp (Infl.run i.L (Infl.bitsOf s) (8 * i.inp) (.wait i.k i.w i.c))),iN 0]) h')
  (hqe:∀ h' (O':Nat→Prop) r' b e,Upd O h h'→(∀ j,O' j→O j∨h.length≤j)→bA h' g (GR.cells r')→O' g→(∀ j,O' j→j<h'.length)→cU h'→¬ O' 0→aBC gs i (Infl.run i.L (Infl.bitsOf s) (8 * i.inp) (.wait i.k i.w i.c)).2 s.length=(.dead,b,e)→e≠0→b.length≤gs.out→Q (.tu [.s b,.s [],.i .i64 e]) h') :
  C Y10.id [zp g,.s s] h Q:=by
 have hdat:=V.dat
 rw [hd] at hdat
 obtain ⟨d,dr,told,rfl,D⟩:=hdat
 obtain ⟨k1,k2,k3,k4,k5⟩:=V.ok.data i hd
 have hout:=V.ok.out
 have hordl:=V.ord.lt
 have hgl:=V.lt
 let F1:Nat→Prop:=fun j=>F j∨h.length≤j
 have D':DSt i.L h F1 d dr told (.wait i.k i.w i.c) i.inp []:=D.upd (Upd.refl (fun _=>False) h) (fun _ _ h=>h) (fun h=>h) fun j _ hj=>.inl hj
 refine Y10.call ?_
 simp only [Y10.t,bN,bK, ← Y10.p0.eq_1]
 refine aE V.recd rfl rfl ?_
 have hF0:¬ F1 0:=fun hh=>by
  rcases hh with h | h
  ·exact V.oO (V.fO _ h)
  ·omega
 refine aOD hF0 (by omega) D' (fun j hj=>.inr hj) fun h1 r1 U1 D1=>?_
 simp only [lC,kQ]
 have hbound:=aLS (L:=i.L) (k:=i.k) (w:=i.w) (c:=i.c) (by omega) (Infl.bitsOf s) (8 * i.inp)
 obtain ⟨tx,htx⟩:=Infl.ext_run i.L (Infl.bitsOf s) (8 * i.inp) (.wait i.k i.w i.c)
 have hinf:=vI gs i (Infl.run i.L (Infl.bitsOf s) (8 * i.inp) (.wait i.k i.w i.c)).2 s.length
 have hpos:=fun {k':bI} {w':cL} {c':bX} hh=>Infl.run_pos (L:=i.L) (Infl.bitsOf s) (8 * i.inp) (.wait i.k i.w i.c) (k:=k') (w:=w') (c:=c') hh
 generalize hX:Infl.run i.L (Infl.bitsOf s) (8 * i.inp) (.wait i.k i.w i.c)=X at D1 hql hqe hbound htx hinf hpos ⊢
 obtain ⟨p,x⟩:=X
 simp only at D1 hql hqe hbound htx hinf hpos ⊢
 have htx:x.core.out=i.k.out++tx:=htx
 have hb:x.core.out.drop i.k.out.length=tx:=by rw [htx,List.drop_left]
 have hgrow:yN i.k x=tx:=hb
 rw [hgrow] at hinf
 rw [hb]
 have hlen:tx.length≤gs.out:=by rw [htx,List.length_append] at hbound; omega
 have hsz:=V.ok.size
 have hF1:∀ j,F1 j→j<h.length→F j:=fun j hj hl=>by
  rcases hj with h | h
  ·exact h
  ·omega
 have nF:∀ {P:Nat→Prop},(∀ j,P j→j<h.length∧¬ F j)→∀ j,P j→¬ F1 j:=fun hP j hj hf=>(hP j hj).2 (hF1 j hf (hP j hj).1)
 have gl:g<h.length:=V.recd.lt
 have R1:=V.recd.upd U1 fun hf=>V.gF (hF1 g hf gl)
 have bnm:∀ j,aS nm j→j<h.length:=fun j hj=>V.nmT.lt hj
 have bns:∀ j,aS names j→j<h.length:=fun j hj=>V.namesT.rd.lt hj
 have bsz:∀ j,aS sizes j→j<h.length:=fun j hj=>V.sizesT.rd.lt hj
 have T1:=V.nmT.upd U1 (nF (P:=aS nm) fun j hj=>⟨bnm j hj,(V.nmO j hj).2.2⟩)
 have S1:=V.namesT.upd U1 (nF (P:=aS names) fun j hj=>⟨bns j hj,(V.nsO j hj).2.2.1⟩)
 have Z1:=V.sizesT.upd U1 (nF (P:=aS sizes) fun j hj=>⟨bsz j hj,(V.szO j hj).2.2.1⟩)
 refine dQ (aD (aE R1 rfl rfl (dE (aIR (by omega) (dE ?_)))))
 refine aI R1 rfl (by show 10<17; decide) (hk:=fun h2 l2 U2 R2=>?_)
 refine aE R2 rfl rfl (aD ?_)
 refine aU (n:=((gs.size+tx.length:Nat):Int)) (by show IntKind.wrap .i64 ((gs.size:Int)+(tx.length:Int))=_; rw [bE (by omega) (by omega)]; omega) ?_
 refine aI R2 rfl (by show 11<17; decide) (hk:=fun h3 l3 U3 R3=>?_)
 refine aE R3 rfl rfl (aD ?_)
 refine aU (n:=((gs.out - tx.length:Nat):Int)) (by show IntKind.wrap .i64 ((gs.out:Int) - (tx.length:Int))=_; rw [bE (by omega) (by omega)]; omega) ?_
 refine aI R3 rfl (by show 7<17; decide) (hk:=fun h4 l4 U4 R4=>?_)
 have U14:Upd (· = g) h1 h4:=(U2.trans U3 fun _ _ h=>h).trans U4 fun _ _ h=>h
 have Z4:=Z1.upd U14 fun j hj e=>(V.szO j hj).2.1 e
 refine aE R4 rfl rfl (aE R4 rfl rfl (Z4.rd.len ?_))
 have hzl:(bH gs.sizes).length=gs.sizes.length:=aV _
 have hsame:=V.ok.same
 rw [hzl]
 refine aU (n:=((gs.sizes.length - 1:Nat):Int)) (by have:=V.ok.len; rw [bE (by omega) (by omega)]; omega) ?_
 have hlt:gs.sizes.length - 1<gs.sizes.length:=by omega
 have hat:gs.sizes[gs.sizes.length - 1]? = some (gs.sizes.getD (gs.sizes.length - 1) 0):=by rw [List.getD_eq_getElem?_getD,List.getElem?_eq_getElem hlt] <;> rfl
 have hmem:gs.sizes.getD (gs.sizes.length - 1) 0∈gs.sizes:=List.mem_of_getElem? hat
 have hzb:=V.ok.sizes _ hmem
 have RZ:RdI 1 h4 sizes (bH gs.sizes) gs.sizes.length:=by have:=Z4.rd.i; rwa [hzl] at this
 refine RdI.nat RZ hat (aD ?_)
 refine aU (n:=((gs.sizes.getD (gs.sizes.length - 1) 0+tx.length:Nat):Int)) (by rw [bE (by omega) (by omega)]; omega) ?_
 refine aG7 Z4 (x:=iN (gs.sizes.getD (gs.sizes.length - 1) 0+tx.length)) (by rw [hzl]; omega) rfl rfl rfl fun h5 l5 U5 Z5=>?_
 have hz0:¬ aS sizes g:=fun hh=>(V.szO g hh).2.1 rfl
 have R5:=R4.upd U5 hz0
 let O1:Nat→Prop:=fun j=>(O j∨h.length≤j)∧j<h5.length
 let F2:Nat→Prop:=fun j=>F1 j∧j<h1.length
 have hl1:=U1.1
 have U15:Upd (fun j=>j=g∨aS sizes j) h1 h5:=(U14.mono fun _ _ h=>.inl h).trans U5 fun _ _ h=>.inr h
 have UO:Upd O h h5:=((U1.mono fun j hl hj=>V.fO j (hF1 j hj hl)).trans (U15.mono fun j hl hj=>by
  rcases hj with h | h
  ·exact (h ▸ V.gO:O j)
  ·exact (V.szO j h).1) fun _ _ h=>h)
 have nF2:∀ j,F2 j→¬ (j=g∨aS sizes j):=fun j hj hh=>by
  rcases hh with rfl | hh
  ·exact V.gF (hF1 _ hj.1 gl)
  ·exact (V.szO j hh).2.2.1 (hF1 j hj.1 (bsz j hh))
 have no5:¬ (0=g∨aS sizes 0):=fun hh=>by
  rcases hh with h | h
  ·exact V.oO (by rw [h]; exact V.gO)
  ·exact V.oO (V.szO _ h).1
 have D5:∀ inp rest,DSt i.L h1 F1 d r1 i.k.out.length x inp rest→DSt i.L h5 F2 d r1 i.k.out.length x inp rest:=fun inp rest D=>by
  have Da:DSt i.L h1 F2 d r1 i.k.out.length x inp rest:=D.upd (Upd.refl (fun _=>False) h1) (fun _ _ h=>h) (fun h=>h) fun j hl hj=>⟨hj,hl⟩
  exact Da.upd U15 nF2 no5 fun _ _ h=>h
 have D5:=D5 _ _ D1
 have T5:=T1.upd U15 fun j hj hh=>by
  rcases hh with h | h
  ·exact (V.nmO j hj).2.1 h
  ·exact (V.szO j h).2.2.2.1 hj
 have S5:=S1.upd U15 fun j hj hh=>by
  rcases hh with h | h
  ·exact (V.nsO j hj).2.1 h
  ·exact (V.szO j h).2.2.2.2 hj
 have Z5':Stk h5 sizes (bH (jW gs.sizes tx.length)):=by
  unfold jW
  rw [← nQ]; exact Z5
 have hl5:h5.length=h1.length:=by omega
 have hO1:∀ j,O1 j→O j∨h.length≤j:=fun j hj=>hj.1
 have oO1:¬ O1 0:=fun hh=>by
  rcases hh.1 with h | h
  ·exact V.oO h
  ·omega
 have in1:∀ j,j<h.length→O j→O1 j:=fun j hj ho=>⟨.inl ho,by omega⟩
 have F2n:∀ j,j<h.length→¬ F j→¬ F2 j:=fun j hj hn hf=>hn (hF1 j hf.1 hj)
 have mk:∀ (h6:aA) (gs':GS) (data':AV) (N':Nat),h6.length=h5.length→Upd (· = g) h5 h6→bA h6 g (mkR gs' nm data' names sizes false).cells→gs'.hd.name=gs.hd.name→gs'.names=gs.names→gs'.sizes=jW gs.sizes tx.length→aD9 h6 F2 data' gs'.data→GOK gs' N'→Gz h6 g O1 gs' N':=by
  intro h6 gs' data' N' l6 U6 R6 e1 e2 e3 Dt ok
  refine ⟨F2,nm,data',names,sizes,⟨R6,by rw [e1]; exact T5.upd U6 fun j hj e=>(V.nmO j hj).2.1 e,by rw [e2]; exact S5.upd U6 fun j hj e=>(V.nsO j hj).2.1 e,by rw [e3]; exact Z5'.upd U6 fun j hj e=>(V.szO j hj).2.1 e,in1 g gl V.gO,F2n g gl V.gF, ?_, ?_, ?_, ?_,fun j hj=>by have:=hj.2; omega,(V.ord.upd UO V.oO).upd U6 fun e=>V.oO (by show O _; rw [e]; exact V.gO),oO1,Dt⟩,ok⟩
  ·exact fun j hj=>⟨in1 j (bnm j hj) (V.nmO j hj).1,(V.nmO j hj).2.1,F2n j (bnm j hj) (V.nmO j hj).2.2⟩
  ·exact fun j hj=>⟨in1 j (bns j hj) (V.nsO j hj).1,(V.nsO j hj).2.1,F2n j (bns j hj) (V.nsO j hj).2.2.1,(V.nsO j hj).2.2.2⟩
  ·exact fun j hj=>⟨in1 j (bsz j hj) (V.szO j hj).1,(V.szO j hj).2.1,F2n j (bsz j hj) (V.szO j hj).2.2.1,(V.szO j hj).2.2.2⟩
  ·intro j hj
   refine ⟨?_,by have:=hj.2; omega⟩
   rcases hj.1 with h | h
   ·exact .inl (V.fO j h)
   ·exact .inr h
 cases x with
 | err e k =>
  have he:e=1∨e=2:=D1.st.2.2
  have hc0:aFU (.err e k)=eno e:=rfl
  refine aN (decide_eq_false (by rw [hc0]; exact aJ7 he)) ?_
  refine Y10.i0 ?_
  simp only [Y10.t0, ← Y10.p1.eq_1]
  refine aN rfl (Y10.i1 ?_)
  simp only [Y10.t1]
  rw [hc0]
  exact .inl (hqe h5 O1 (mkR { eV gs tx with data:=some i } nm (dp d) names sizes false) tx (eno e) UO hO1 R5 (in1 g gl V.gO) (fun j hj=>hj.2) (V.ord.upd UO V.oO) oO1 hinf (aJ7 he) hlen)
 | wait k w c =>
  refine bB rfl (aE R5 rfl rfl (aKY D5 (bG ?_)))
  refine Y10.i0 ?_
  simp only [Y10.t0, ← Y10.p1.eq_1]
  refine aN rfl (Y10.i1 ?_)
  simp only [Y10.t1]
  refine .inl (hql h5 O1 _ tx UO hO1 (mk h5 { eV gs tx with data:=some ⟨i.L,i.inp+s.length,k,w,c⟩ } (dp d) (N+s.length) rfl (Upd.refl _ _) R5 rfl rfl rfl ⟨d,r1,_,rfl,D5⟩ ?_) hinf hlen)
  refine V.ok.dat hd hlen fun j hj=>?_
  cases hj
  have htx:k.out=i.k.out++tx:=htx
  refine ⟨?_,by show i.inp+s.length≤_; omega⟩
  show i.L.output=gs.out - tx.length+k.out.length
  rw [htx,List.length_append]; omega
 | done k =>
  refine bB rfl (aE R5 rfl rfl (aKY D5 (bG ?_)))
  refine Y10.i0 ?_
  simp only [Y10.t0,bN,bK, ← Y10.p1.eq_1]
  refine bB rfl (aE R5 rfl rfl (aOA D5 (dQ ?_)))
  refine aI R5 rfl (by show 9<17; decide) (hk:=fun h6 l6 U6 R6=>?_)
  refine Y10.i1 ?_
  simp only [Y10.t1]
  have UO6:Upd O h h6:=UO.trans U6 fun j _ e=>(e ▸ V.gO:O j)
  refine .inl (hql h6 O1 _ tx UO6 hO1 (mk h6 { eV gs tx with data:=none } (.p none) _ l6 U6 R6 rfl rfl rfl rfl ?_) hinf hlen)
  exact V.ok.dat hd hlen fun j hj=>by cases hj
end
end Go.Proofs.YtfoekpcljhbijaaGreatDoor
namespace Go.Proofs.YtfoekpcljhbijaaGreatDoor
open Go.GAM Go.RowKit
open Go.Infl (bI cL bX Out Lim)
section
variable {h h':aA} {Q:AV→aA→Prop} {g:Nat} {O F:Nat→Prop} {gs:GS} {N:Nat} {nm data names sizes:AV}
theorem zN:∀ l:List UInt8,dK l<256 ^ l.length
 | []=>by decide
 | c :: r => by
  have h:=zN r
  have hc:=c.toNat_lt
  rw [List.length_cons,Nat.pow_succ]
  show c.toNat+256 * dK r<_
  omega
theorem aCG {n:Nat} (h:n<4294967296):IntKind.wrap .u32 (n:Int)=(n:Int):=by
 simp only [IntKind.wrap,IntKind.bits,IntKind.signed,Bool.false_and]
 have:(2:Int) ^ 32=4294967296:=by decide
 rw [this]
 simp
 omega
theorem aPJ {c : UInt8} (V : GzV h g O F gs N nm data names sizes) (hw : gs.within = true) (hp : gs.hd.part = 8) (hd : gs.data = none)
  (hqe:∀ h' r' e,wM gs c=(.dead,[],e)→e≠0→Upd (· = g) h h'→bA h' g (GR.cells r')→Q (.i .i64 e) h')
  (hqo:∀ h' gs',wM gs c=(.live gs',[],0)→Upd (· = g) h h'→GzV h' g O F gs' (N+1) nm data names sizes→Q (iN 0) h') :
  C Y21.id [zp g,byteAV c] h Q:=by
 have htl:=V.ok.trail hw hd hp
 have hlen:(gs.trailer++[c]).length=gs.trailer.length+1:=by simp
 unfold byteAV
 refine Y21.call ?_
 simp only [Y21.t,bN,bK, ← Y21.p0.eq_1]
 refine aE V.recd rfl rfl (dQ ?_)
 refine eY (cs:=[byteAV c]) rfl rfl (hk:=fun y h1 l1 U1 R1 hy=>?_)
 have Ra:=V.recd.upd U1 fun h=>h
 refine aE Ra rfl rfl (dQ ⟨rfl, ?_⟩)
 have Yb:Byt h1 y [c]:=R1
 refine Yb.str ⟨by show ((gs.trailer.length+1:Nat):Int)≤_; omega, ?_⟩
 refine aI Ra rfl (by show 12<17; decide) (hk:=fun h2 l2 U2 R2=>?_)
 have U12:Upd (· = g) h h2:=(U1.mono fun _ _ h=>h.elim).trans U2 fun _ _ h=>h
 refine aE R2 rfl rfl (dQ ?_)
 have R2:bA h2 g (mkR { gs with trailer:=gs.trailer++[c] } nm data names sizes false).cells:=R2
 have hge:=U12.1
 have dat2:∀ h3,Upd (· = g) h2 h3→aD9 h3 F data gs.data:=fun h3 U3=>V.dat.upd (U12.trans U3 fun _ _ h=>h) (fun i hi e=>V.gF (e ▸ hi)) (fun e=>V.oO (by show O _; rw [e]; exact V.gO)) fun _ _ h=>h
 have vgo:∀ h3 w,Upd (· = g) h2 h3→bA h3 g (mkR { gs with trailer:=gs.trailer++[c],within:=w } nm data names sizes false).cells→(w=true→(gs.trailer++[c]).length<8)→GzV h3 g O F { gs with trailer:=gs.trailer++[c],within:=w } (N+1) nm data names sizes:=fun h3 w U3 R3 hl=>by
  have U:=U12.trans U3 fun _ _ h=>h
  have hU:=U.1
  exact { V with recd:=R3,nmT:=V.nmT.upd U fun i hi e=>(V.nmO i hi).2.1 e,namesT:=V.namesT.upd U fun i hi e=>(V.nsO i hi).2.1 e,sizesT:=V.sizesT.upd U fun i hi e=>(V.szO i hi).2.1 e,lt:=(fun i hi=>by have:=V.lt i hi; omega),ord:=V.ord.upd U (fun e=>V.oO (by show O _; rw [e]; exact V.gO)),dat:=dat2 h3 U3,ok:=V.ok.endd hd hp hl }
 refine aQ (fun e=>?_) fun e4=>?_
 ·have e : (gs.trailer ++ [c]).length = 4 := by have e : ((gs.trailer ++ [c]).length : Int) = 4 := of_decide_eq_true e; omega
  refine aE R2 rfl rfl (dQ ?_)
  refine rT (s:=gs.trailer++[c]) (at':=0) (by omega) (by omega) ?_
  simp only [lC,kQ,List.drop_zero]
  refine aD (aD (aE R2 rfl rfl (dE ?_)))
  have hlt:=zN ((gs.trailer++[c]).take (0+4))
  rw [List.length_take,e] at hlt
  rw [aCG (by exact hlt)]
  refine aQ (fun ek=>?_) fun ek=>?_
  ·have ek : (dK ((gs.trailer ++ [c]).take 4) : Int) ≠ gs.crc := fun hh => by
    have ek:(!decide (((dK ((gs.trailer++[c]).take (0+4)):Nat):Int)=gs.crc))=true:=ek
    rw [decide_eq_true hh] at ek; cases ek
   refine .inl (hqe h2 _ 8 ?_ (by decide) U12 R2)
   unfold wM
   simp only
   rw [if_pos ⟨e,ek⟩]
  ·have ek : (dK ((gs.trailer ++ [c]).take 4) : Int) = gs.crc := by
    have ek:(!decide (((dK ((gs.trailer++[c]).take (0+4)):Nat):Int)=gs.crc))=false:=ek
    exact of_decide_eq_true (by simpa using ek)
   refine Y21.i0 ?_
   simp only [Y21.t0]
   refine .inl (hqo h2 _ ?_ U12 (vgo h2 gs.within (Upd.refl _ _) R2 fun _=>by omega))
   unfold wM
   simp only
   rw [if_neg (fun hh=>hh.2 ek),if_neg (by omega)]
 ·have e4 : (gs.trailer ++ [c]).length ≠ 4 := by have e : ¬ ((gs.trailer ++ [c]).length : Int) = 4 := of_decide_eq_false e4; omega
  refine aQ (fun e=>?_) fun e8=>?_
  ·have e : (gs.trailer ++ [c]).length = 8 := by have e : ((gs.trailer ++ [c]).length : Int) = 8 := of_decide_eq_true e; omega
   refine aE R2 rfl rfl (dQ ?_)
   refine rT (s:=gs.trailer++[c]) (at':=4) (by omega) (by omega) ?_
   have et:(gs.trailer++[c]).take (4+4)=gs.trailer++[c]:=List.take_of_length_le (by omega)
   simp only [lC,kQ,et]
   refine aD (aD (aE R2 rfl rfl (aD ?_)))
   refine aQ (fun ek=>?_) fun ek=>?_
   ·have ek : dK ((gs.trailer ++ [c]).drop 4) ≠ gs.size := fun hh => by
     have ek:(!decide (((dK ((gs.trailer++[c]).drop 4):Nat):Int)=((gs.size:Nat):Int)))=true:=ek
     rw [hh,decide_eq_true rfl] at ek; cases ek
    refine .inl (hqe h2 _ 8 ?_ (by decide) U12 R2)
    unfold wM
    simp only
    rw [if_neg (fun hh=>e4 hh.1),if_pos e,if_neg ek]
   ·have ek : dK ((gs.trailer ++ [c]).drop 4) = gs.size := by
     have ek:(!decide (((dK ((gs.trailer++[c]).drop 4):Nat):Int)=((gs.size:Nat):Int)))=false:=ek
     have:=of_decide_eq_true (by simpa using ek:decide (((dK ((gs.trailer++[c]).drop 4):Nat):Int)=((gs.size:Nat):Int))=true)
     omega
    refine aI R2 rfl (by show 13<17; decide) (hk:=fun h3 l3 U3 R3=>?_)
    refine Y21.i0 ?_
    simp only [Y21.t0]
    refine .inl (hqo h3 _ ?_ (U12.trans U3 fun _ _ h=>h) (vgo h3 false U3 R3 fun h=>by cases h))
    unfold wM
    simp only
    rw [if_neg (fun hh=>e4 hh.1),if_pos e,if_pos ek]
  ·have e8 : (gs.trailer ++ [c]).length ≠ 8 := by have e : ¬ ((gs.trailer ++ [c]).length : Int) = 8 := of_decide_eq_false e8; omega
   refine Y21.i0 ?_
   simp only [Y21.t0]
   refine .inl (hqo h2 _ ?_ U12 (vgo h2 gs.within (Upd.refl _ _) R2 fun _=>by omega))
   unfold wM
   simp only
   rw [if_neg (fun hh=>e4 hh.1),if_neg e8]
def sP (o r:Int):GS:={ out:=bnd o 0 65536,ratio:=bnd r 1 1100 }
theorem aH5 (o r:Int):GOK (sP o r) 0:=
 { hd:=uZ.zero,cnt:=Nat.le_refl _,nml:=Nat.le_refl _,out:=(by show bnd o 0 65536≤_; unfold bnd; omega),ratio:=(by show 1≤bnd r 1 1100∧bnd r 1 1100≤_; unfold bnd; omega),size:=(by show 0+bnd o 0 65536≤_; unfold bnd; omega),sizes:=(fun x hx=>by cases hx),len:=Nat.zero_le _,same:=rfl,room:=(fun h=>by cases h),data:=(fun i hi=>by cases hi),trail:=(fun h=>by cases h),fresh:=(fun h=>by cases h),idle:=fun _=>rfl,crc:=⟨0,rfl⟩,tdat:=(fun i hi=>by cases hi) }
theorem aJZ {o r:Int} (OO:cU h) (hq:∀ h' g,Upd (fun _=>False) h h'→h.length≤g→Gz h' g (fun i=>h.length≤i∧i<h'.length) (sP o r) 0→Q (zp g) h'):C Y38.id [.ag [.i .i64 o,.i .i64 r]] h Q:=by
 have hol:=OO.lt
 refine Y38.call ?_
 simp only [Y38.t]
 refine b8 (hk:=fun h1 l1 U1 R1=>?_)
 have R1:bA h1 h.length [.i .i64 o,.i .i64 r]:=R1
 have e2:(AV.ag [.i .i64 o,.i .i64 r]).parts.length=2:=rfl
 simp only [e2,bK]
 refine aE R1 rfl rfl (aD ?_)
 refine aU (n:=((bnd o 0 65536:Nat):Int)) (aAO (lo:=0) (hi:=65536) o (by decide)) ?_
 refine aE R1 rfl rfl (aD ?_)
 refine aU (n:=((bnd r 1 1100:Nat):Int)) (aAO (lo:=1) (hi:=1100) r (by decide)) ?_
 refine aI R1 rfl (by show 0<2; decide) (hk:=fun h2 l2 U2 R2=>?_)
 refine aI R2 rfl (by show 1<2; decide) (hk:=fun h3 l3 U3 R3=>?_)
 have R3:bA h3 h.length [iN (bnd o 0 65536),iN (bnd r 1 1100)]:=R3
 rw [aM9 (n:=2) R3 rfl (by show 0+0+2≤2; omega)]
 refine aKJ (cs:=(mkR (sP o r) aBU (.p none) aBU aBU false).cells) rfl ?_
 refine b8 (hk:=fun h4 l4 U4 R4=>?_)
 have U13:Upd (· = h.length) h1 h3:=U2.trans U3 fun _ _ h=>h
 have U03:Upd (fun _=>False) h h3:=U1.own U13 (Nat.le_refl _)
 have U:Upd (fun _=>False) h h4:=U03.trans U4 fun _ _ h=>h
 have hU3:=U03.1
 have hl3:h3.length=h1.length:=by omega
 have hn:∀ i, ¬ aS aBU i:=fun i hi=>hi
 refine .inl (hq h4 h3.length U hU3 ⟨fun _=>False,aBU,.p none,aBU,aBU, ?_⟩)
 exact { recd:=R4,nmT:=.inl ⟨rfl,rfl⟩,namesT:=.inl ⟨rfl,rfl⟩,sizesT:=.inl ⟨rfl,rfl⟩,gO:=⟨hU3,by omega⟩,gF:=fun h=>h,nmO:=fun i hi=>(hn i hi).elim,nsO:=fun i hi=>(hn i hi).elim,szO:=fun i hi=>(hn i hi).elim,fO:=fun i hi=>hi.elim,lt:=fun i hi=>hi.2,ord:=OO.upd U fun h=>h,oO:=(fun hh=>by have:=hh.1; omega),dat:=rfl,ok:=aH5 o r }
def pW (g:GS):Int:=if g.within=true∨g.names=[] then 1 else 0
theorem aK3 (V:Gz h g O gs N) (hq:Q (.i .i64 (pW gs)) h):C Y18.id [zp g] h Q:=by
 obtain ⟨F,nm,data,names,sizes,V⟩:=V
 have fin:∀ b,(b=true→pW gs=1)→(b=false→pW gs=0)→Y18.p0 (aH h Q) b h:=fun b h1 h2=>by
  refine Y18.i0 ?_
  simp only [Y18.t0]
  cases b with
  | true=>rw [h1 rfl] at hq; exact bB rfl (.inl hq)
  | false=>rw [h2 rfl] at hq; exact aN rfl (.inl hq)
 refine Y18.call ?_
 simp only [Y18.t,bN,bK, ← Y18.p0.eq_1]
 refine dI (by kernel_rfl) (bG (aN rfl ?_))
 refine aE V.recd rfl rfl (bG (aN rfl ?_))
 refine aE V.recd rfl rfl (bG ?_)
 show (bif gs.within then _ else _)
 cases hw:gs.within with
 | true=>exact bB rfl (fin true (fun _=>by unfold pW; rw [if_pos (.inl hw)]) fun h=>by cases h)
 | false =>
  refine aN rfl (aE V.recd rfl rfl (V.namesT.rd.len ?_))
  have hl:(gs.names.map AV.s).length=gs.names.length:=by simp
  rw [hl]
  refine fin _ (fun e=>?_) fun e=>?_
  ·have e : (gs.names.length : Int) = 0 := of_decide_eq_true e
   unfold pW
   rw [if_pos (.inr (List.length_eq_zero_iff.1 (by omega)))]
  ·have e : ¬ (gs.names.length : Int) = 0 := of_decide_eq_false e
   unfold pW
   rw [if_neg]
   rintro (h | h)
   ·rw [hw] at h; cases h
   ·rw [h] at e; exact e rfl
theorem aH4 (V:GzD h g O) (hq:Q (.i .i64 10) h):C Y18.id [zp g] h Q:=by
 obtain ⟨⟨r,R,hd⟩,_⟩:=V
 refine Y18.call ?_
 simp only [Y18.t,bN,bK, ← Y18.p0.eq_1]
 refine dI (by kernel_rfl) (bG (aN rfl ?_))
 refine aE R rfl rfl (bG ?_)
 rw [show r.dead=true from hd]
 exact bB rfl (.inl hq)
end
end Go.Proofs.YtfoekpcljhbijaaGreatDoor
namespace Go.Proofs.YtfoekpcljhbijaaGreatDoor
open Go.GAM Go.RowKit
open Go.Infl (bI cL bX Out Lim)
def pre (l:List UInt8) (r:GR3):GR3:=(r.1,l++r.2.1,r.2.2)
theorem iI {gs:GS} {s s' l:List UInt8} {r:GR3} (h:bP gs s=cQ r s'):cQ (.live gs,l,0) s=cQ (pre l r) s':=by
 show ((bP gs s).1,l++(bP gs s).2.1,(bP gs s).2.2)=_
 rw [h]
 rcases r with ⟨x,b,e⟩
 cases x with
 | dead=>rfl
 | live g=>simp only [cQ,pre,List.append_assoc]
theorem aGK {hd:Hd} {c:UInt8} {e:Int} (h:dC hd c = .inl e):e=2∨e=3∨e=8:=by
 unfold dC at h
 simp only at h
 split at h <;> (repeat' split at h) <;> first | (cases h; done) | (injection h with h; subst h; simp)
theorem aMQ {L:Lim} {c:UInt8} {t:List UInt8} {i:Nat} {k:bI} {w:cL} {c':bX}:(fB (c :: t) i (Infl.run L (Infl.bitsOf (c :: t)) (8 * i) (.wait k w c'))).length<(c :: t).length:=by
 have e:Infl.bitsOf (c :: t)=c.toNat % 2 :: (Huff.loBits (c.toNat / 2) 7++Infl.bitsOf t):=rfl
 rw [e]
 have hf:=tQ (L:=L) (b:=c.toNat % 2) (bs:=Huff.loBits (c.toNat / 2) 7++Infl.bitsOf t) (i:=8 * i) (k:=k) (w:=w) (c:=c')
 generalize Infl.run L (c.toNat % 2 :: (Huff.loBits (c.toNat / 2) 7++Infl.bitsOf t)) (8 * i) (.wait k w c')=X at hf
 obtain ⟨p,x⟩:=X
 have hf:8 * i+1≤p:=hf
 cases x with
 | done k =>
  show ((c :: t).drop ((p+7) / 8 - i)).length<_
  rw [List.length_drop,List.length_cons]; omega
 | _=>exact Nat.zero_lt_succ _
theorem aKR {g g':GS} {i:Inf} {x:Out} {n:Nat} {b:List UInt8} {e:Int} (h:aBC g i x n=(.live g',b,e)):g'.out=g.out - b.length:=by
 rw [vI] at h
 cases x <;> simp only [Prod.mk.injEq,GO.live.injEq,reduceCtorEq,false_and] at h
 ·obtain ⟨h1,h2,_⟩:=h; rw [← h1, ← h2] <;> rfl
 ·obtain ⟨h1,h2,_⟩:=h; rw [← h1, ← h2] <;> rfl
theorem aI4 {g g':GS} {c:UInt8} {b:List UInt8} {e:Int} (h:wM g c=(.live g',b,e)):g'.out=g.out:=by
 unfold wM at h
 simp only at h
 repeat' split at h
 all_goals first | (simp only [Prod.mk.injEq,reduceCtorEq,false_and] at h; done) | (simp only [Prod.mk.injEq,GO.live.injEq] at h; rw [← h.1])
section
variable {h h' hb:aA} {Q:AV→aA→Prop} {g bid:Nat} {O O0 F:Nat→Prop} {gs gs0:GS} {N N1:Nat} {nm data names sizes:AV} {cs:List AV} {buf:AV} {l s0:List UInt8}
theorem aN1 {t:TypeId} {a:AA} {K:AV→Prop} (ht:jY prog t=true) (hk:K (.b true)):cD prog .neq t (.p (some a)) (.p none) K:=by
 simp only [cD,ht,cond_true]; exact hk
theorem aNW {t:TypeId} {K:AV→Prop} (ht:jY prog t=true) (hk:K (.b false)):cD prog .neq t (.p none) (.p none) K:=by
 simp only [cD,ht,cond_true]; exact hk
structure FS (hb h:aA) (bid:Nat) (O0 O:Nat→Prop) (cs:List AV) (buf:AV) (l:List UInt8):Prop where
 upd:Upd O0 hb h
 blks:∀ i,O i→O0 i∨hb.length≤i
 bld:Bld h bid 0 cs buf l
 two:2=cs.length
 bO:¬ O bid
 bufO:∀ i,aS buf i→¬ O i
 new:hb.length≤bid
 bufn:∀ i,aS buf i→hb.length≤i
 ordl:0<hb.length
theorem FS.step {O':Nat→Prop} (S:FS hb h bid O0 O cs buf l) (U:Upd O h h') (hO:∀ i,O' i→O i∨h.length≤i):FS hb h' bid O0 O' cs buf l:=
 { S with upd:=S.upd.trans U fun i hl hi=>(S.blks i hi).resolve_right (by omega),blks:=(fun i hi=>(hO i hi).elim (S.blks i) fun h=>.inr (Nat.le_trans S.upd.1 h)),bld:=S.bld.upd U S.bO S.bufO,bO:=(fun hh=>(hO _ hh).elim S.bO fun h=>by have:=S.bld.lt; omega),bufO:=(fun i hi hh=>(hO _ hh).elim (S.bufO i hi) fun h=>by have:=S.bld.is.lt hi; omega) }
theorem FS.write {l':List UInt8} {cs':List AV} {buf':AV} (S:FS hb h bid O0 O cs buf l) (U:Upd (fun i=>i=bid∨aS buf i) h h') (B:Bld h' bid 0 cs' buf' l') (h2:2=cs'.length) (hb':∀ i,aS buf' i→aS buf i∨h.length≤i) (lt:∀ i,O i→i<h.length):FS hb h' bid O0 O cs' buf' l':=
  { S with upd := S.upd.trans U (fun i hl hi => by
      rcases hi with hi | hi
      · have:=S.new; omega
      · have:=S.bufn i hi; omega),bld:=B,two:=h2,bufO:=(fun i hi hh=>(hb' i hi).elim (fun h=>S.bufO i h hh) fun h=>by have:=lt i hh; omega),bufn:=(fun i hi=>(hb' i hi).elim (S.bufn i) fun h=>Nat.le_trans S.upd.1 h) }
theorem FS.no (S:FS hb h bid O0 O cs buf l):¬ (0=bid∨aS buf 0):=fun hh=>by
 have:=S.ordl
 rcases hh with h | h
 ·have:=S.new; omega
 ·have:=S.bufn _ h; omega
theorem oT {s:List UInt8} {r:GR} {e:Int} (hqd:∀ h' O' b e,Upd O0 hb h'→(∀ i,O' i→O0 i∨hb.length≤i)→GzD h' g O'→bP gs0 s0=(.dead,b,e)→e≠0→b.length≤gs0.out→Q (.tu [.s b,.i .i64 e]) h')
  (S:FS hb h bid O0 O cs buf l) (R:bA h g (GR.cells r)) (gO:O g) (lt:∀ i,O i→i<h.length) (ord:cU h) (oO:¬ O 0) (he:e≠0) (hout:gs0.out≤65536) (hG:bP gs0 s0=(.dead,l,e)) (hl:l.length≤gs0.out) :
  Y4.p2 (aH hb Q) (zp g) s (.p (some ⟨bid,2,0⟩)) e h:=by
 refine Y4.i2 ?_
 simp only [Y4.t2,bN,bK]
 refine bB (by simp [he]) ?_
 refine aI R rfl (by show 14<17; decide) (hk:=fun h1 l1 U1 R1=>?_)
 have S1:FS hb h1 bid O0 O cs buf l:=S.step (U1.mono fun i _ e=>e ▸ gO) fun i hi=>.inl hi
 refine zV S1.bld S1.two (by omega) fun h2 U2 l2=>dQ (.inl (hqd h2 O l e (S1.upd.trans U2 fun i hl hi=>by have:=S1.bufn i hi; omega) S.blks ?_ hG he hl))
 refine ⟨⟨{ r with dead:=true },(show bA h1 g (GR.cells { r with dead:=true }) from R1).upd U2 fun hh=>S.bufO g hh gO,rfl⟩,gO,fun i hi=>by have:=lt i hi; omega,(ord.upd U1 fun e=>oO (by show O _; rw [e]; exact gO)).upd U2 fun hh=>S.no (.inr hh),oO⟩
theorem aMP (hqd : ∀ h' O' b e, Upd O0 hb h' → (∀ i, O' i → O0 i ∨ hb.length ≤ i) → GzD h' g O' → bP gs0 s0 = (.dead, b, e) → e ≠ 0 → b.length ≤ gs0.out → Q (.tu [.s b, .i .i64 e]) h')
    (hql:∀ h' O' gs' b,Upd O0 hb h'→(∀ i,O' i→O0 i∨hb.length≤i)→Gz h' g O' gs' N1→bP gs0 s0=(.live gs',b,0)→b.length+gs'.out≤gs0.out→Q (.tu [.s b,iN 0]) h') (hN1:N1<1099511627776) (hout:gs0.out≤65536) :
    ∀ (n:Nat) (s:List UInt8) (h:aA) (O:Nat→Prop) (gs:GS) (N:Nat) (cs:List AV) (buf:AV) (l:List UInt8),s.length<n→FS hb h bid O0 O cs buf l→Gz h g O gs N→N+s.length≤N1→bP gs0 s0=cQ (.live gs,l,0) s→l.length+gs.out≤gs0.out→Y4.p0 (aH hb Q) (zp g) s (.p (some ⟨bid,2,0⟩)) h:=by
  intro n
  induction n with
  | zero=>intro s h O gs N cs buf l hs; omega
  | succ n ih =>
    intro s h O gs N cs buf l hs S V hN hG ho
    cases s with
    | nil =>
      refine Y4.i0 ?_
      simp only [Y4.t0]
      refine aN (by simp) ?_
      refine zV S.bld S.two (by omega) fun h2 U2 l2=>dQ (.inl (hql h2 O gs l (S.upd.trans U2 fun i hl hi=>by have:=S.bufn i hi; omega) S.blks ?_ ?_ ho))
      · refine Gz.upd ?_ U2 (fun i hi hh => S.bufO i hh hi) fun hh => S.no (.inr hh)
        obtain ⟨F,nm,data,names,sizes,V⟩:=V
        exact ⟨F,nm,data,names,sizes,{ V with ok:=V.ok.mono (by simpa using hN) }⟩
      · rw [hG]; simp [cQ,bP]
    | cons c t =>
      have hs:t.length<n:=by simp at hs; omega
      have hN:N+1+t.length≤N1:=by simp at hN; omega
      have hne:(!(decide ((c :: t:List UInt8)=[])))=true:=by simp
      have W : ∀ (h : aA) (gs : GS), gs.within = true → FS hb h bid O0 O cs buf l → Gz h g O gs N → bP gs0 s0 = cQ (.live gs, l, 0) (c :: t) → l.length + gs.out ≤ gs0.out → Y4.p0 (aH hb Q) (zp g) (c :: t) (.p (some ⟨bid, 2, 0⟩)) h := by
        intro h gs hw S V hG ho
        obtain ⟨F,nm,data,names,sizes,V⟩:=V
        have goon:∀ (h':aA) (O':Nat→Prop) (gs':GS) (N':Nat) (cs':List AV) (buf':AV) (l' s':List UInt8),s'.length<n→FS hb h' bid O0 O' cs' buf' l'→Gz h' g O' gs' N'→N'+s'.length≤N1→bP gs0 s0=cQ (.live gs',l',0) s'→l'.length+gs'.out≤gs0.out→Y4.p2 (aH hb Q) (zp g) s' (.p (some ⟨bid,2,0⟩)) 0 h':=by
          intro h' O' gs' N' cs' buf' l' s' a1 a2 a3 a4 a5 a6
          refine Y4.i2 ?_
          simp only [Y4.t2, ← Y4.p0.eq_1]
          exact aN rfl (ih s' h' O' gs' N' cs' buf' l' a1 a2 a3 a4 a5 a6)
        have hp8:=V.ok.hd.part
        have step:bP gs (c :: t)=cQ (gE gs c) t:=lU gs c t
        refine Y4.i0 ?_
        simp only [Y4.t0,bN,bK, ← Y4.p1.eq_1, ← Y4.p2.eq_1]
        refine bB hne (aE V.recd rfl rfl (bG (aN (by show (!gs.within)=false; rw [hw] <;> rfl) ?_)))
        refine aE V.recd rfl rfl (aD ?_)
        by_cases hp:gs.hd.part<8
        · have hst : gE gs c = hdP gs c := by unfold gE; rw [hw]; simp [hp]
          refine bB (decide_eq_true (by show ((gs.hd.part:Nat):Int)<8; omega)) ?_
          refine qG (l:=c :: t) (i:=0) (c:=c) rfl ?_
          have hdn:=V.ok.fresh hw hp
          refine aNX (c:=c) (r:=mkR gs nm data names sizes false) V.ok.hd hp V.ok.hd.sum V.recd V.nmT (fun hh=>(V.nmO g hh).2.1 rfl) (fun e h1 r' ht U R=>?_) fun hd' h1 nm' ht U R T hnm hv=>?_
          · have he := aGK ht
            have e0:e≠0:=by omega
            refine aD (oP (l:=c :: t) (lo:=1) (by simp) (aN (decide_eq_false e0) ?_))
            refine Y4.i1 ?_
            simp only [Y4.t1, ← Y4.p2.eq_1]
            have UO:Upd O h h1:=U.mono fun i _ hi=>by
              rcases hi with rfl | hi
              · exact V.gO
              · exact (V.nmO i hi).1
            have hU:=U.1
            refine aN rfl (oT hqd (S.step UO fun i hi=>.inl hi) R V.gO (fun i hi=>by have:=V.lt i hi; omega) (V.ord.upd UO V.oO) V.oO e0 hout ?_ (by omega))
            rw [hG,iI step,hst]
            unfold hdP
            have ht:dC gs.hd c = .inl e:=ht
            rw [ht]
            simp [cQ,pre]
          · have ht : dC gs.hd c = .inr hd' := ht
            have hU:=U.1
            have UO:Upd O h h1:=U.mono fun i _ hi=>by
              rcases hi with rfl | hi
              · exact V.gO
              · exact (V.nmO i hi).1
            have hok:=V.ok.hdr (c:=c) (by omega) hw hp ht
            have hol:=V.ord.lt
            have bF:∀ i,F i→i<h.length:=fun i hi=>V.lt i (V.fO i hi)
            have bns:∀ j,aS names j→j<h.length:=fun j hj=>V.namesT.rd.lt hj
            have bsz:∀ j,aS sizes j→j<h.length:=fun j hj=>V.sizesT.rd.lt hj
            have B1:GzB h1 g (fun i=>(O i∨h.length≤i)∧i<h1.length) F { gs with hd:=hd' } nm' data names sizes:=by
              have hg:=V.lt g V.gO
              refine { recd:=R,nmT:=T,namesT:=V.namesT.upd U ?_,sizesT:=V.sizesT.upd U ?_,gO:=⟨.inl V.gO,by omega⟩,gF:=V.gF,nmO:=fun i hi=>?_,nsO:=fun i hi=>⟨⟨.inl (V.nsO i hi).1,by have:=bns i hi; omega⟩,(V.nsO i hi).2.1,(V.nsO i hi).2.2.1,fun hh=>?_⟩,szO:=fun i hi=>⟨⟨.inl (V.szO i hi).1,by have:=bsz i hi; omega⟩,(V.szO i hi).2.1,(V.szO i hi).2.2.1,fun hh=>?_,(V.szO i hi).2.2.2.2⟩,fO:=fun i hi=>⟨.inl (V.fO i hi),by have:=bF i hi; omega⟩,lt:=fun i hi=>hi.2,ord:=V.ord.upd UO V.oO,oO:=fun hh=>?_,dat:=?_ }
              · intro i hi hh
                rcases hh with hh | hh
                · exact (V.nsO i hi).2.1 hh
                · exact (V.nsO i hi).2.2.2 hh
              · intro i hi hh
                rcases hh with hh | hh
                · exact (V.szO i hi).2.1 hh
                · exact (V.szO i hi).2.2.2.1 hh
              · have hl := T.lt hi
                refine ⟨⟨?_,hl⟩,fun e=>hv (e ▸ hi),fun hf=>?_⟩
                · rcases hnm i hi with h | h
                  · exact .inl (V.nmO i h).1
                  · exact .inr h
                · rcases hnm i hi with h | h
                  · exact (V.nmO i h).2.2 hf
                  · have:=bF i hf; omega
              · rcases hnm i hh with h | h
                · exact (V.nsO i hi).2.2.2 h
                · have:=bns i hi; omega
              · rcases hnm i hh with h | h
                · exact (V.szO i hi).2.2.2.1 h
                · have:=bsz i hi; omega
              · rcases hh.1 with h | h
                · exact V.oO h
                · omega
              · have := V.dat
                rw [hdn] at this
                show aD9 h1 F data gs.data
                rw [hdn]; exact this
            have S1:FS hb h1 bid O0 (fun i=>(O i∨h.length≤i)∧i<h1.length) cs buf l:=S.step UO fun i hi=>hi.1
            refine aD (oP (l:=c :: t) (lo:=1) (by simp) (bB rfl (aE R rfl rfl (aD ?_))))
            refine Y4.i1 ?_
            simp only [Y4.t1, ← Y4.p2.eq_1]
            have hG2:∀ r,hdP gs c=(.live r,[],0)→bP gs0 s0=cQ (.live r,l,0) t:=fun r hr=>by
              rw [hG,iI step,hst,hr]
              simp only [pre,List.append_nil]
            refine aQ (fun e=>?_) fun e=>?_
            · have e : hd'.part = 8 := by have e : ((hd'.part : Nat) : Int) = 8 := of_decide_eq_true e; omega
              rw [if_pos e] at hok
              refine aNR B1 V.ok.same hw hdn (V.ok.room hw hp) hok fun h2 O2 U2 hO2 V2=>?_
              exact goon h2 O2 _ (N+1) cs buf l t hs (S1.step U2 hO2) V2 hN (hG2 _ (by unfold hdP; rw [ht]; simp only; rw [if_pos e])) ho
            · have e : hd'.part ≠ 8 := by have e : ¬ ((hd'.part : Nat) : Int) = 8 := of_decide_eq_false e; omega
              rw [if_neg e] at hok
              exact goon h1 _ _ (N+1) cs buf l t hs S1 ⟨F,nm',data,names,sizes,{ B1 with ok:=hok }⟩ hN (hG2 _ (by unfold hdP; rw [ht]; simp only; rw [if_neg e])) ho
        · have hp8 : gs.hd.part = 8 := by omega
          refine aN (decide_eq_false (by show ¬ ((gs.hd.part:Nat):Int)<8; omega)) ?_
          have hdat:=V.dat
          cases hd:gs.data with
          | some i =>
            rw [hd] at hdat
            obtain ⟨d,dr,told,rfl,D⟩:=hdat
            refine aE V.recd rfl rfl (aN1 (by kernel_rfl) (bG (bB rfl ?_)))
            have hchunk:=xA (c :: t) gs i hw hp8 hd (by simp)
            have hrl:=aMQ (L:=i.L) (c:=c) (t:=t) (i:=i.inp) (k:=i.k) (w:=i.w) (c':=i.c)
            refine aHZ V hd (by simp; omega) (fun h1 O1 gs1 b U hO V1 hinf hb1=>?_) fun h1 O1 r' b e U hO R gO lt ord oO hinf e0 hb1=>?_
            · simp only [lC, kQ, aJP]
              have S1:=S.step U hO
              refine dQ (dQ (aD ?_))
              refine pN S1.bld S1.two (by omega) fun buf2 h2 U2 B2 hb2=>?_
              obtain ⟨F1,nm1,data1,names1,sizes1,V1'⟩:=id V1
              have S2:=S1.write U2 B2 (by rw [aF8]; exact S1.two) hb2 V1'.lt
              have V2:=V1.upd U2 (fun i hi hh=>by
                rcases hh with rfl | hh
                · exact S1.bO hi
                · exact S1.bufO i hh hi) S1.no
              refine goon h2 O1 gs1 _ _ buf2 (l++b) _ (by simp at hrl; omega) S2 V2 (by simp at hrl ⊢; omega) ?_ ?_
              · rw [hG,iI hchunk,hinf] <;> rfl
              · have := aKR hinf
                rw [List.length_append]; omega
            · simp only [lC, kQ, aJP]
              have S1:=S.step U hO
              refine dQ (dQ (aD ?_))
              refine pN S1.bld S1.two (by omega) fun buf2 h2 U2 B2 hb2=>?_
              have S2:=S1.write U2 B2 (by rw [aF8]; exact S1.two) hb2 lt
              have hU2:=U2.1
              refine oT hqd S2 (R.upd U2 ?_) gO (fun i hi=>by have:=lt i hi; omega) (ord.upd U2 S1.no) oO e0 hout ?_ (by rw [List.length_append]; omega)
              · rintro (rfl | hh)
                · exact S1.bO gO
                · exact S1.bufO _ hh gO
              · rw [hG,iI hchunk,hinf] <;> rfl
          | none =>
            rw [hd] at hdat
            have hdat:data = .p none:=hdat
            subst hdat
            have hst:gE gs c=wM gs c:=by unfold gE; rw [hw,hd]; simp [hp8]
            refine aE V.recd rfl rfl (aNW (by kernel_rfl) (bG (aN rfl ?_)))
            refine qG (l:=c :: t) (i:=0) (c:=c) rfl ?_
            refine aPJ (c:=c) V hw hp8 hd (fun h1 r' e he e0 U R=>?_) fun h1 gs1 he U V1=>?_
            · refine aD (oP (l := c :: t) (lo := 1) (by simp) ?_)
              have UO:Upd O h h1:=U.mono fun i _ e=>e ▸ V.gO
              have hU:=U.1
              refine oT hqd (S.step UO fun i hi=>.inl hi) R V.gO (fun i hi=>by have:=V.lt i hi; omega) (V.ord.upd UO V.oO) V.oO e0 hout ?_ (by omega)
              rw [hG,iI step,hst,he]
              simp [cQ,pre]
            · refine aD (oP (l := c :: t) (lo := 1) (by simp) ?_)
              have UO:Upd O h h1:=U.mono fun i _ e=>e ▸ V.gO
              refine goon h1 O gs1 (N+1) cs buf l t hs (S.step UO fun i hi=>.inl hi) ⟨F,nm,_,names,sizes,V1⟩ hN ?_ (by have:=aI4 he; omega)
              rw [hG,iI step,hst,he]
              simp only [pre,List.append_nil]
      cases hw:gs.within with
      | true=>exact W h gs hw S V hG ho
      | false =>
        obtain ⟨F,nm,data,names,sizes,V⟩:=V
        have step:bP gs (c :: t)=cQ (gE gs c) t:=lU gs c t
        refine Y4.i0 ?_
        simp only [Y4.t0,bN,bK, ← Y4.p1.eq_1, ← Y4.p2.eq_1]
        refine bB hne (aE V.recd rfl rfl (bG (bB (by show (!gs.within)=true; rw [hw] <;> rfl) ?_)))
        refine qG (l:=c :: t) (i:=0) (c:=c) rfl ?_
        refine aMX (c:=c) V hw (fun e he=>?_) fun h1 hc hn hl U V1=>?_
        · have e0 : e ≠ 0 := by rcases he with ⟨_, rfl⟩ | ⟨_, _, rfl⟩ <;> decide
          refine aD (oT hqd S V.recd V.gO V.lt V.ord V.oO e0 hout ?_ (by omega))
          have hst:gE gs c=(.dead,[],e):=by
            unfold gE; rw [hw]
            rcases he with ⟨h1,rfl⟩ | ⟨h1,h2,rfl⟩
            · simp [h1]
            · simp [h1,h2]
          rw [hG,iI step,hst]
          simp [cQ,pre]
        · refine aD (Y4.i2 ?_)
          simp only [Y4.t2, ← Y4.p0.eq_1]
          refine aN rfl (W h1 { gs with hd:={},within:=true } rfl (S.step (U.mono fun i _ e=>e ▸ V.gO) fun i hi=>.inl hi) ⟨F,aBU,data,names,sizes,V1⟩ ?_ ho)
          have e1:gE gs c=gE { gs with hd:={},within:=true } c:=by
            unfold gE; rw [hw]; simp [hc,hn]
          rw [hG,iI step,iI (lU { gs with hd:={},within:=true } c t),e1]
end
end Go.Proofs.YtfoekpcljhbijaaGreatDoor
namespace Go.Proofs.YtfoekpcljhbijaaGreatDoor
open Go.GAM Go.RowKit
open Go.Infl (bI cL bX Out Lim)
section
variable {h:aA} {Q:AV→aA→Prop} {g:Nat} {O:Nat→Prop} {gs:GS} {N:Nat} {s:List UInt8}
theorem aGR {K:AV→aA→Prop} (hk:∀ h',h'.length=h.length+1→Upd (fun _=>False) h h'→Bld h' h.length 0 [.p none,.sl none 0 none] (.sl none 0 none) []→K (.p (some ⟨h.length,2,0⟩)) h'):dV (some 67) [.p none,.sl none 0 none] h K:=by
 refine hk _ (by simp) (Upd.app _ _) ?_
 exact { blk:=⟨aW [.p none,.sl none 0 none] 1 true (some 67),67,by simp,rfl,Nat.le_refl _,rfl,rfl,by kernel_rfl⟩,room:=by decide,addr:=.inl rfl,cell:=rfl,is:=.inl ⟨rfl,rfl⟩,own:=fun h=>h }
theorem aMS (V:Gz h g O gs N) (hN:N+s.length<1099511627776)
  (hql:∀ h' O' gs' b,Upd O h h'→(∀ i,O' i→O i∨h.length≤i)→Gz h' g O' gs' (N+s.length)→bP gs s=(.live gs',b,0)→b.length+gs'.out≤gs.out→Q (.tu [.s b,iN 0]) h')
  (hqd:∀ h' O' b e,Upd O h h'→(∀ i,O' i→O i∨h.length≤i)→GzD h' g O'→bP gs s=(.dead,b,e)→e≠0→b.length≤gs.out→Q (.tu [.s b,.i .i64 e]) h') :
  C Y4.id [zp g,.s s] h Q:=by
 obtain ⟨F,nm,data,names,sizes,V'⟩:=id V
 have hol:=V'.ord.lt
 refine Y4.call ?_
 simp only [Y4.t,bN,bK, ← Y4.p0.eq_1]
 refine dI (by kernel_rfl) (bG (aN rfl ?_))
 refine aE V'.recd rfl rfl (bG (aN rfl ?_))
 refine aGR fun h1 l1 U1 B1=>?_
 have hlt:=V'.lt
 refine aMP (N1:=N+s.length) hqd hql hN (by have:=V'.ok.out; omega) (s.length+1) s h1 O gs N _ _ [] (Nat.lt_succ_self _) ⟨U1.mono fun _ _ h=>h.elim,fun i hi=>.inl hi,B1,rfl,fun hh=>by have:=hlt _ hh; omega,fun i hi=>hi.elim,Nat.le_refl _,fun i hi=>hi.elim,hol⟩ (V.upd U1 (fun _ _ h=>h) fun h=>h) (Nat.le_refl _) ?_ (by show 0+gs.out≤gs.out; omega)
 show bP gs s=((bP gs s).1,[]++(bP gs s).2.1,(bP gs s).2.2)
 simp
end
end Go.Proofs.YtfoekpcljhbijaaGreatDoor
namespace Go.Proofs.YtfoekpcljhbijaaGreatDoor
open Go.GAM Go.RowKit
open Go.Infl (bI cL bX Out Lim)
def GzS (h:aA) (g:Nat) (O:Nat→Prop) (N:Nat):GO→Prop
 | .live gs=>Gz h g O gs N
 | .dead=>GzD h g O
def aPL:GO→Nat
 | .live gs=>gs.out
 | .dead=>0
def aN7:GO→Int
 | .live gs=>pW gs
 | .dead=>10
def aJD:GO→Bool
 | .live _=>true
 | .dead=>false
section
variable {h h':aA} {Q:AV→aA→Prop} {g:Nat} {O:Nat→Prop} {gs:GS} {x:GO} {N:Nat} {s:List UInt8}
theorem GzS.upd {M:Nat→Prop} (V:GzS h g O N x) (U:Upd M h h') (hM:∀ i,O i→¬ M i) (ho:¬ M 0):GzS h' g O N x:=by
 cases x with
 | live gs=>exact Gz.upd (show Gz h g O gs N from V) U hM ho
 | dead=>exact GzD.upd (show GzD h g O from V) U hM ho
theorem GzS.lt (V:GzS h g O N x):∀ i,O i→i<h.length:=by
 cases x with
 | live gs=>obtain ⟨F,nm,data,names,sizes,V⟩:=(show Gz h g O gs N from V); exact V.lt
 | dead=>exact (show GzD h g O from V).2.2.1
theorem aDF (V:GzS h g O N x) (hq:Q (.i .i64 (aN7 x)) h):C Y18.id [zp g] h Q:=by
 cases x with
 | live gs=>exact aK3 (show Gz h g O gs N from V) hq
 | dead=>exact aH4 (show GzD h g O from V) hq
theorem aFD (V:Gz h g O gs N) (hN:N+s.length<1099511627776)
  (hq:∀ h' O',Upd O h h'→(∀ i,O' i→O i∨h.length≤i)→GzS h' g O' (N+s.length) (bP gs s).1→((bP gs s).2.2=0↔aJD (bP gs s).1=true)→(bP gs s).2.1.length+aPL (bP gs s).1≤gs.out→Q (.tu [.s (bP gs s).2.1,.i .i64 (bP gs s).2.2]) h'):C Y4.id [zp g,.s s] h Q:=by
 refine aMS V hN (fun h1 O1 gs1 b U hO V1 e hb=>?_) fun h1 O1 b e U hO V1 hf e0 hb=>?_
 ·rw [e] at hq
  exact hq h1 O1 U hO V1 ⟨fun _=>rfl,fun _=>rfl⟩ hb
 ·rw [hf] at hq
  exact hq h1 O1 U hO V1 ⟨fun h=>absurd h e0,fun h=>by cases h⟩ (by show b.length+0≤_; omega)
theorem RdI.u8 {v:AV} {l:List Nat} {k:IntKind} {i n:Nat} (R:RdI 1 h v (l.map fun n:Nat=>.i .u8 (n:Int)) l.length) (U:Upd (fun _=>False) h h') (hx:l[i]? = some n) {K:AV→Prop} (hk:K (.i .u8 (n:Int))):aZ 1 v (.i k (i:Int)) h' fun a=>aC a h' K:=by
 obtain ⟨p,A,hp⟩:=R.at (aL hx)
 have e:((l.map fun n:Nat=>AV.i .u8 (n:Int)).drop (i * 1)).take 1=[.i .u8 (n:Int)]:=by
  rw [Nat.mul_one, ← List.map_drop,aD0 hx] <;> rfl
 rw [e] at A
 exact hp k h' _ U ((A.ext U).load1 hk)
end
end Go.Proofs.YtfoekpcljhbijaaGreatDoor
namespace Go.Proofs.YtfoekpcljhbijaaGreatDoor
open Go.GAM Go.RowKit Go.ChangeShapes
section
variable {H:Type} {enc:TypeId × Value→H} {w:World}
theorem aM2 {g:Nat} {cs:Array Value} {n:String} (hg:prog.globalNamed n=some g) (hv:w.var? prog n=some cs):aBO (gZ w fun _=>1) g (cs.toList.map (kC w fun _=>1)):=by
 obtain ⟨t,fr,h⟩:=aIK hg hv
 have hlt:g<w.heap.size:=(Array.getElem?_eq_some_iff.1 h).1
 refine ⟨kJ w (fun _=>1) g, ?_, ?_, ?_, ?_⟩
 ·unfold gZ
  rw [List.getElem?_append_left (by simpa using hlt),List.getElem?_map,List.getElem?_range hlt] <;> rfl
 ·simp only [kJ,h]
 ·simp only [kJ,h]; simp
 ·simp only [kJ,h]
theorem aOB {l : List (String × DataW Unit)} (h1 : ("intrusion/inflate.order", Rows.laid_intrusion_inflate_order) ∈ l) (hL : laidMet prog l w) : cU (gZ w fun _ => 1) := by
 obtain ⟨g,t,cs,fuel,p,hg,ht,hv,hd⟩:=aDZ h1 hL
 obtain rfl:=Option.some.inj ((show prog.globalNamed "intrusion/inflate.order" = some 0 by kernel_rfl).symm.trans hg)
 obtain rfl:=Option.some.inj ((show (prog.globals[0]?).map (·.type)=some 116 by kernel_rfl).symm.trans ht)
 have hG:=aM2 hg hv
 obtain ⟨xs,m,rfl,hx,hlen,hl,hf⟩:=DataW.trod_array Tryz.underlying116 hd
 have c1:prog.cellsOf 3=1:=by kernel_rfl
 have c19:prog.cellsOf 116=19:=by kernel_rfl
 rw [c19] at hlen
 rw [c1] at hf
 have hxs:xs.map (·.1)=Infl.order.map fun n:Nat=>(.lit (.int .i64 (n:Int)):DataW Unit):=by
  have:=(congrArg Prod.fst hx).symm
  unfold Rows.laid_intrusion_inflate_order at this
  exact DataW.agg.inj this
 have e:cs.toList.map (kC w fun _=>1)=bH Infl.order:=by
  refine List.ext_getElem? fun i=>?_
  by_cases hi:i<19
  ·have h1 := hf i hi
   have h2:(xs.map (·.1))[i]? = (Infl.order.map fun n:Nat=>(.lit (.int .i64 (n:Int)):DataW Unit))[i]?:=by rw [hxs]
   obtain ⟨c,hc⟩:∃ c,cs.toList[i]? = some c:=⟨_,List.getElem?_eq_getElem (by omega)⟩
   have h3:(cs.toList.drop (i * 1)).take 1=[c]:=by
    rw [Nat.mul_one,List.drop_eq_getElem_cons (by omega)]
    simp only [List.take_succ_cons,List.take_zero]
    rw [List.getElem?_eq_getElem (by omega)] at hc
    rw [Option.some.inj hc]
   rw [h3] at h1
   obtain ⟨o,ho⟩:∃ o,Infl.order[i]? = some o:=⟨_,List.getElem?_eq_getElem (by show i<19; exact hi)⟩
   rw [List.getElem?_map,List.getElem?_map, ← h1,ho] at h2
   cases hy:DataW.trod (fun _=>()) prog w 0 (fun _=>true) false m 3 [c] with
   | none=>rw [hy] at h2; cases h2
   | some y =>
    rw [hy] at h2
    obtain ⟨n,e1,e2,_⟩:=DataW.trod_int (show prog.underlying 3=some (.int .i64) by kernel_rfl) hy
    have e1:=List.singleton_inj.1 e1
    subst e1 e2
    have e3:n=(o:Int):=by simpa using h2
    unfold bH
    rw [List.getElem?_map,List.getElem?_map,hc,ho]
    simp [kC,qR,e3]
  ·have h0 : Infl.order.length = 19 := rfl
   rw [List.getElem?_eq_none (by simp at hlen ⊢; omega),List.getElem?_eq_none (by unfold bH; rw [List.length_map,h0]; omega)]
 rw [e] at hG
 exact hG
theorem aG8 {v a b:Value} (h:v.cells.toList=[a,b]):v = .agg #[a,b]:=by
 cases v <;> first | (simp [Value.cells] at h; done) | skip
 rename_i cs
 show Value.agg cs=_
 congr
 apply Array.ext'
 simpa [Value.cells] using h
theorem aL3 {v:Value} (k:InW enc prog w 23 v.cells.toList):∃ o ra:Int,aM (muC w fun _=>1) (.ag [.i .i64 o,.i .i64 ra]) v:=by
 obtain ⟨h1,h2⟩:=k.struct Tryz.underlying23
 have c2:prog.cellsOf 23=2:=by kernel_rfl
 have c1:prog.cellsOf 3=1:=by kernel_rfl
 rw [c2] at h1
 generalize hc:v.cells.toList=cs at h1 h2
 match cs,h1 with
 | [a, b], _ =>
  have k0:InW enc prog w 3 (([a,b].drop 0).take (prog.cellsOf 3)):=h2 0 _ rfl
  have k1:InW enc prog w 3 (([a,b].drop 1).take (prog.cellsOf 3)):=h2 1 _ rfl
  rw [c1] at k0 k1
  obtain ⟨o,f0,_⟩:=k0.int (show prog.underlying 3=some (.int .i64) by kernel_rfl)
  obtain ⟨ra,f1,_⟩:=k1.int (show prog.underlying 3=some (.int .i64) by kernel_rfl)
  have e0:a = .int .i64 o:=List.singleton_inj.1 (show [a]=[.int .i64 o] from f0)
  have e1:b = .int .i64 ra:=List.singleton_inj.1 (show [b]=[.int .i64 ra] from f1)
  subst e0
  subst e1
  rw [aG8 hc]
  exact ⟨o,ra,.ag _ _ (.cons _ _ _ _ (.i _ _) (.cons _ _ _ _ (.i _ _) .nil))⟩
theorem aHD {a:Option Addr} {len cap:Nat} (k:InW enc prog w 44 (Value.slice a len cap).cells.toList):∃ (av:AV) (l:List Nat),aM (muC w fun _=>1) av (.slice a len cap)∧RdI 1 (gZ w fun _=>1) av (l.map fun n:Nat=>.i .u8 (n:Int)) l.length∧∀ x∈l,x<256:=by
 obtain ⟨v',rows,e,R,_,_,h3,hv⟩:=k.slice (sz:=1) Tryz.underlying44 (by kernel_rfl) (by decide)
 obtain ⟨l,g1,g2,g3⟩:=aF6 (fun x:Nat=>[AV.i .u8 (x:Int)]) (kC w fun _=>1) (fun x=>x<256) rows fun r hr=>by
  obtain ⟨_,k⟩:=h3 r hr
  obtain ⟨n,rfl,hn⟩:=k.int (show prog.underlying 5=some (.int .u8) by kernel_rfl)
  have hn:0≤n∧n<256:=by
   simp [Lit.wf,IntKind.min,IntKind.max,IntKind.signed,IntKind.bits] at hn
   omega
  refine ⟨n.toNat, ?_,by omega⟩
  have e:((n.toNat:Nat):Int)=n:=by omega
  rw [e]
  first | done | rfl
 rw [uG] at g1
 rw [g1,g2] at R
 have:Value.slice a len cap=v':=by simpa [Value.cells] using e
 subst this
 exact ⟨_,l,hv,R,g3⟩
end
end Go.Proofs.YtfoekpcljhbijaaGreatDoor
namespace Go.Proofs.YtfoekpcljhbijaaGreatDoor
open Go.GAM Go.RowKit Go.ChangeShapes
open Go.Infl (bI cL bX Out Lim)
section
variable {h h0:aA} {Q:AV→aA→Prop} {s:List UInt8} {o ra:Int} {cuts:AV} {cl:List Nat}
structure aPR (h0 h:aA) (gs0:GS) (s:List UInt8) (o ra:Int) (g1 g2:Nat) (O1 O2:Nat→Prop) (x:GO) (acc:List UInt8) (err:Int) (rest:List UInt8):Prop where
 upd:Upd (fun _=>False) h0 h
 box:bA h h0.length [.i .i64 o,.i .i64 ra]
 s1:GzS h g1 O1 s.length (bP gs0 s).1
 s2:GzS h g2 O2 (s.length - rest.length) x
 dis:∀ i,O1 i→¬ O2 i
 n2:∀ i,O2 i→h0.length<i
 fed:∃ p,s=p++rest∧bP gs0 p=(x,acc,err)
 code:err=0↔aJD x=true
 bnd:acc.length+aPL x≤gs0.out
theorem wO {gs0:GS} {g1 g2:Nat} {O1 O2:Nat→Prop} {x:GO} {acc rest:List UInt8} {err i:Int} (hout:gs0.out=bnd o 0 65536) (hq:∀ h',Q (.b true) h') (T:aPR h0 h gs0 s o ra g1 g2 O1 O2 x acc err rest) (e:bP gs0 s=(x,acc,err)) :
  Y1.p3 (aH h0 Q) cuts (.p (some ⟨h0.length,2,0⟩)) (zp g1) (zp g2) (bP gs0 s).2.1 (bP gs0 s).2.2 acc err rest i false h:=by
 have s1:=T.s1
 rw [e] at s1 ⊢
 refine Y1.i3 ?_
 simp only [Y1.t3,bK, ← Y1.p5.eq_1]
 refine aN rfl (bB (by simp) (bB (by simp) ?_))
 refine aDF s1 (aD (aDF T.s2 (aD (bB (by simp) ?_))))
 refine aE T.box rfl rfl (aD (aU (n:=((bnd o 0 65536:Nat):Int)) (aAO (lo:=0) (hi:=65536) o (by decide)) ?_))
 have hb:=T.bnd
 refine bB (decide_eq_true (by rw [hout] at hb; omega)) (aFL (bG ?_))
 refine Y1.i5 ?_
 simp only [Y1.t5]
 exact .inl (hq h)
theorem aCV {gs0 : GS} {g1 g2 : Nat} {O1 : Nat → Prop} (RC : RdI 1 h0 cuts (cl.map fun n : Nat => .i .u8 (n : Int)) cl.length) (hcl : ∀ x ∈ cl, x < 256) (ho0 : 0 < h0.length) (hs : s.length ≤ 2000) (hc : cl.length ≤ 60) (hout : gs0.out = bnd o 0 65536) (hq : ∀ h', Q (.b true) h') :
  ∀ (n i : Nat) (h : aA) (O2 : Nat → Prop) (x : GO) (acc : List UInt8) (err : Int) (rest : List UInt8), i + n = cl.length + 1 → (n = 0 → rest = []) → aPR h0 h gs0 s o ra g1 g2 O1 O2 x acc err rest →
   Y1.p2 (aH h0 Q) cuts (.p (some ⟨h0.length,2,0⟩)) (zp g1) (zp g2) (bP gs0 s).2.1 (bP gs0 s).2.2 acc err rest (i:Int) h:=by
 intro n
 induction n with
 | zero =>
  intro i h O2 x acc err rest hi hn T
  obtain ⟨p,e1,e2⟩:=T.fed
  refine Y1.i2 ?_
  simp only [Y1.t2, ← Y1.p3.eq_1]
  refine RC.len (aN (decide_eq_false (by omega)) (wO hout hq T ?_))
  rw [e1,hn rfl,List.append_nil,e2]
 | succ n ih =>
  intro i h O2 x acc err rest hi hn T
  obtain ⟨p,e1,e2⟩:=T.fed
  have hrl:rest.length≤s.length:=by rw [e1,List.length_append]; omega
  refine Y1.i2 ?_
  simp only [Y1.t2, ← Y1.p3.eq_1]
  refine RC.len (bB (decide_eq_true (by omega)) ?_)
  by_cases e0:err=0
  ·rw [decide_eq_true e0]
   have hcode:=T.code.1 e0
   have s2:=T.s2
   have hb2:=T.bnd
   subst e0
   cases x with
   | dead=>cases hcode
   | live gs2 =>
    have go:∀ k:Nat,k≤rest.length→(n=0→k=rest.length)→Y1.p4 (aH h0 Q) cuts (.p (some ⟨h0.length,2,0⟩)) (zp g1) (zp g2) (bP gs0 s).2.1 (bP gs0 s).2.2 acc rest (i:Int) (k:Int) h:=by
     intro k hk hkn
     refine Y1.i4 ?_
     simp only [Y1.t4, ← Y1.p2.eq_1]
     refine aK2 hk ?_
     have htl:(rest.take k).length=k:=by rw [List.length_take]; omega
     refine aFD (show Gz h g2 O2 gs2 _ from s2) (by omega) fun h1 O3 U hO S3 hcode3 hb3=>?_
     simp only [lC,kQ]
     have hout0:gs0.out≤65536:=by rw [hout]; unfold bnd; omega
     have hb2:acc.length+gs2.out≤gs0.out:=hb2
     refine dQ (aD ⟨by omega,oP hk (aU (n:=((i+1:Nat):Int)) (by rw [bE (by omega) (by omega)]; omega) ?_)⟩)
     have hbox:=T.box.lt
     refine ih (i+1) h1 O3 _ _ _ _ (by omega) (fun h0=>?_) { upd:=T.upd.trans U fun j hj ho=>by have:=T.n2 j ho; omega,box:=T.box.upd U fun ho=>by have:=T.n2 _ ho; omega,s1:=T.s1.upd U T.dis fun ho=>by have:=T.n2 _ ho; omega,s2:=?_,dis:=fun j h1 h2=>?_,n2:=fun j hj=>?_,fed:=⟨p++rest.take k, ?_, ?_⟩,code:=hcode3,bnd:=by rw [List.length_append]; omega }
     ·rw [hkn h0,List.drop_length]
     ·have : s.length - (rest.drop k).length = s.length - rest.length + (rest.take k).length := by rw [List.length_drop, htl]; omega
      rw [this]; exact S3
     ·rcases hO j h2 with h | h
      ·exact T.dis j h1 h
      ·have:=T.s1.lt j h1; omega
     ·rcases hO j hj with h | h
      ·exact T.n2 j h
      ·omega
     ·rw [List.append_assoc,List.take_append_drop]; exact e1
     ·rw [zD,e2] <;> rfl
    refine Y1.i3 ?_
    simp only [Y1.t3, ← Y1.p4.eq_1]
    refine bB rfl (RC.len (aQ (fun e=>?_) fun e=>?_))
    ·have e : i < cl.length := by have := of_decide_eq_true e; omega
     have hx:cl[i]? = some cl[i]:=List.getElem?_eq_getElem e
     have hlt:=hcl _ (List.getElem_mem e)
     refine RdI.u8 RC T.upd hx (dE ?_)
     refine aU (n:=((min rest.length cl[i]:Nat):Int)) ?_ (go _ (Nat.min_le_left _ _) fun h=>by omega)
     rw [bE (by omega) (by omega)]
     unfold mmI
     simp only [cond_false]
     split <;> omega
    ·have e : ¬ i < cl.length := by have := of_decide_eq_false e; omega
     exact go rest.length (Nat.le_refl _) fun _=>rfl
  ·rw [decide_eq_false e0]
   refine wO hout hq T ?_
   have hd:x = .dead:=by
    cases x with
    | dead=>rfl
    | live gs2=>exact absurd (T.code.2 rfl) e0
   subst hd
   rw [e1,zD,e2] <;> rfl
theorem aDA (OO:cU h) (RC:RdI 1 h cuts (cl.map fun n:Nat=>.i .u8 (n:Int)) cl.length) (hcl:∀ x∈cl,x<256) (hq:∀ h',Q (.b true) h'):C Y1.id [.s s,.ag [.i .i64 o,.i .i64 ra],cuts] h Q:=by
 have hol:=OO.lt
 refine Y1.call ?_
 simp only [Y1.t, ← Y1.p0.eq_1]
 refine b8 (hk:=fun h1 l1 U1 R1=>?_)
 have R1:bA h1 h.length [.i .i64 o,.i .i64 ra]:=R1
 have e2:(AV.ag [.i .i64 o,.i .i64 ra]).parts.length=2:=rfl
 rw [e2]
 have aw:Y1.p0 (aH h Q) s cuts (.p (some ⟨h.length,2,0⟩)) true h1:=by
  refine Y1.i0 ?_
  simp only [Y1.t0]
  exact bB rfl (aFL (bG (.inl (hq h1))))
 refine aQ (fun _=>aw) fun e=>?_
 have hs:s.length≤2000:=by have:=of_decide_eq_false e; omega
 refine RC.len ?_
 by_cases e:(60:Int)<(cl.length:Int)
 ·rw [decide_eq_true e]; exact aw
 rw [decide_eq_false e]
 have O1:=OO.upd U1 fun h=>h
 refine Y1.i0 ?_
 simp only [Y1.t0, ← Y1.p1.eq_1]
 refine aN rfl (iY R1 rfl (iY R1 rfl (aJZ O1 fun h2 g1 U2 hg1 V1=>?_)))
 have R2:=R1.upd U2 fun h=>h
 have hU2:=U2.1
 refine iY R2 rfl ⟨rfl,aJZ (O1.upd U2 fun h=>h) fun h3 g2 U3 hg2 V2=>?_⟩
 refine dI (by kernel_rfl) (bG (aN rfl (dI (by kernel_rfl) (bG ?_))))
 refine Y1.i1 ?_
 simp only [Y1.t1, ← Y1.p2.eq_1]
 have hU3:=U3.1
 have V1':=V1.upd U3 (fun _ _ h=>h) fun h=>h
 refine aN rfl (aFD V1' (by omega) fun h4 O1' U4 hO S1 hcode hb=>?_)
 simp only [lC,kQ]
 refine dQ (aD ?_)
 have V2':GzS h4 g2 (fun i=>h2.length≤i∧i<h3.length) 0 (.live (sP o ra)):=Gz.upd V2 U4 (fun i hi hh=>by omega) fun hh=>by omega
 rw [Nat.zero_add] at S1
 refine aCV (gs0:=sP o ra) (O1:=O1') RC hcl hol hs (by omega) rfl hq (cl.length+1) 0 h4 _ (.live (sP o ra)) [] 0 s (by omega) (fun h=>by omega) { upd:=((U1.then U2).then U3).trans U4 fun i hi hh=>by omega,box:=(R2.upd U3 fun h=>h).upd U4 fun hh=>by omega,s1:=S1,s2:=by rw [Nat.sub_self]; exact V2',dis:=fun i h1 h2=>?_,n2:=fun i hi=>by omega,fed:=⟨[],rfl,rfl⟩,code:=⟨fun _=>rfl,fun _=>rfl⟩,bnd:=by show 0+bnd o 0 65536≤bnd o 0 65536; omega }
 rcases hO i h1 with h | h <;> omega
end
theorem walk_GzipPieces {H:Type} {enc:TypeId × Value→H} {s:ByteArray} {v1:Value} {a:Option Addr} {len cap:Nat} (W:World) (hL:laidMet Tryz.prog Rows.gzipPiecesRow.laid W) (k0:InW enc Tryz.prog W 9 (Value.string s).cells.toList) (k1:InW enc Tryz.prog W 23 v1.cells.toList)
  (k2:InW enc Tryz.prog W 44 (Value.slice a len cap).cells.toList):Calls Tryz.prog Y1.id #[.string s,v1,.slice a len cap] W fun e w'=>e = .returned (.bool true)∧Below W.heap.size W w':=by
 obtain ⟨o,ra,hv⟩:=aL3 k1
 obtain ⟨av,l,hl,R,h256⟩:=aHD k2
 exact aCC mixedOK sizeOK aN6 (by kernel_rfl) (szOf:=fun _=>1) (.cons _ _ _ _ (.s _ _ rfl) (.cons _ _ _ _ hv (.cons _ _ _ _ hl .nil))) (aDA (aOB (l:=Rows.gzipPiecesRow.laid) (List.mem_of_getElem? (i:=1) rfl) hL) R h256 fun _=>rfl)
end Go.Proofs.YtfoekpcljhbijaaGreatDoor
