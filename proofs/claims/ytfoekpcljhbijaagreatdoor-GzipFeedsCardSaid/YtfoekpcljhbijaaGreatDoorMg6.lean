/- Lemmas (several texts in one). -/
import Derived.Test.YtfoekpcljhbijaaGreatDoorMg5
set_option linter.unusedVariables false
set_option linter.unusedSimpArgs false
set_option linter.unusedSectionVars false
set_option maxRecDepth 20000
namespace Go.Proofs.YtfoekpcljhbijaaGreatDoor
open Go.GAM
open Go.Infl (bG cG bS Out Lim)
theorem aGQ:∀ x,x<286→257≤x→(Infl.least x).1+2 ^ (Infl.least x).2≤300∧(Infl.least x).2≤16:=by decide +kernel
theorem aOZ:∀ x,x<30→0<(Infl.farOf x).1∧(Infl.farOf x).1+2 ^ (Infl.farOf x).2≤32769∧(Infl.farOf x).2≤16:=by decide +kernel
section
variable [XR] {h:aA} {Q:AV→aA→Prop} {L:Lim} {F:Nat→Prop} {d:Nat} {r:DR} {out:List UInt8} {told:Nat}
theorem aQR {x:Nat} (h1:257≤x) (h2:x≤285) (hq:Q (.tu [iN (Infl.least x).1,iN (Infl.least x).2]) h):C Y82.id [iN x] h Q:=by
 refine Y82.call ?_
 simp only [Y82.t]
 unfold Infl.least at hq
 refine aI ?_ ?_ <;> intro e
 ·have e : x ≤ 264 := by simp at e; omega
  rw [if_pos e] at hq
  exact bZ (n:=((x - 254:Nat):Int)) (by omega) (by omega) (by omega) (.inl hq)
 ·have e : ¬ x ≤ 264 := by simp at e; omega
  rw [if_neg e] at hq
  refine aI ?_ ?_ <;> intro e2
  ·have e2 : x = 285 := by simp at e2; omega
   rw [if_pos e2] at hq
   exact .inl hq
  ·have e2 : ¬ x = 285 := by simp at e2; omega
   rw [if_neg e2] at hq
   refine bZ (n:=((x - 261:Nat):Int)) (by omega) (by omega) (by omega) ?_
   refine sI (n:=(((x - 261) / 4:Nat):Int)) (by decide) (by rw [Int.tdiv_eq_ediv_of_nonneg (by omega),aY (by omega) (by omega)]; omega) ?_
   refine bZ (n:=((x - 265:Nat):Int)) (by omega) (by omega) (by omega) ?_
   refine sN (n:=(((x - 265) % 4:Nat):Int)) (by decide) (by rw [Int.tmod_eq_emod_of_nonneg (by omega)]; omega) ?_
   refine bZ (n:=((4+(x - 265) % 4:Nat):Int)) (by omega) (by omega) (by omega) ?_
   have hp:2 ^ ((x - 261) / 4)≤2 ^ 6:=Nat.pow_le_pow_right (by decide) (by omega)
   have hm:(4+(x - 265) % 4) * 2 ^ ((x - 261) / 4)≤8 * 2 ^ 6:=Nat.mul_le_mul (by omega) hp
   refine fW (by omega) (by omega) ?_
   generalize (4+(x - 265) % 4) * 2 ^ ((x - 261) / 4)=y at *
   exact bZ (n:=((y+3:Nat):Int)) (by omega) (by omega) (by omega) (.inl hq)
theorem aJH {x:Nat} (h2:x≤29) (hq:Q (.tu [iN (Infl.farOf x).1,iN (Infl.farOf x).2]) h):C Y81.id [iN x] h Q:=by
 refine Y81.call ?_
 simp only [Y81.t]
 unfold Infl.farOf at hq
 refine aI ?_ ?_ <;> intro e
 ·have e : x < 4 := by simp at e; omega
  rw [if_pos e] at hq
  exact inc (by omega) (.inl hq)
 ·have e : ¬ x < 4 := by simp at e; omega
  rw [if_neg e] at hq
  refine sI (n:=((x / 2:Nat):Int)) (by decide) (by rw [Int.tdiv_eq_ediv_of_nonneg (by omega),aY (by omega) (by omega)]; omega) ?_
  refine bZ (n:=((x / 2 - 1:Nat):Int)) (by omega) (by omega) (by omega) ?_
  refine sN (n:=((x % 2:Nat):Int)) (by decide) (by rw [Int.tmod_eq_emod_of_nonneg (by omega)]; omega) ?_
  refine bZ (n:=((2+x % 2:Nat):Int)) (by omega) (by omega) (by omega) ?_
  have hp:2 ^ (x / 2 - 1)≤2 ^ 13:=Nat.pow_le_pow_right (by decide) (by omega)
  have hm:(2+x % 2) * 2 ^ (x / 2 - 1)≤4 * 2 ^ 13:=Nat.mul_le_mul (by omega) hp
  refine fW (by omega) (by omega) ?_
  generalize (2+x % 2) * 2 ^ (x / 2 - 1)=y at *
  exact inc (by omega) (.inl hq)
theorem vK {a b:List Nat} {ia ib:Nat} {syma symb:AV} (D:Dec L h F d r out told) (hF:∀ i,h.length≤i→F i) (hd:r.done=false) (T:Two h (Gd F d r) ia syma a ib symb b)
  (hq:∀ e h' r',dE (· = d) L h F d r told (Infl.litW ⟨out,r.last,r.skip⟩ a b) e h' r'→Q (.i .i64 e) h'):C Y59.id [dp d,cp ia,cp ib] h Q:=by
 refine Y59.call ?_
 simp only [Y59.t]
 refine cB (hk:=fun h1 l1 U1 R1=>?_)
 refine cB (hk:=fun h2 l2 U2 R2=>?_)
 refine cB (hk:=fun h3 l3 U3 R3=>?_)
 have U:=(U1.then U2).then U3
 have R1:=(R1.upd U2 fun h=>h).upd U3 fun h=>h
 have R2:=R2.upd U3 fun h=>h
 have ha:=T.1.recd.lt
 have hb:=T.2.recd.lt
 have G:∀ {i},h.length≤i→Gd F d r i∧i≠ia:=fun hi=>⟨D.gd hF hi,by omega⟩
 have B1:Bx h3 (fun i=>Gd F d r i∧i≠ia) (.p (some ⟨h.length,1,0⟩)) (dp d):=⟨_,rfl,R1,G (Nat.le_refl _)⟩
 have B2:Bx h3 (fun i=>Gd F d r i∧i≠ia) (.p (some ⟨h1.length,1,0⟩)) (cp ia):=⟨_,rfl,R2,G (by omega)⟩
 have B3:Bx h3 (fun i=>Gd F d r i∧i≠ia) (.p (some ⟨h2.length,1,0⟩)) (cp ib):=⟨_,rfl,R3,G (by omega)⟩
 refine aE R1 rfl rfl (aE R2 rfl rfl ?_)
 refine aAM (D.ext U) hd (l:=a) (ic:=ia) (sym:=syma) (c:=.lit a b) (T.1.upd U (fun _ _ h=>h) fun i _ hi=>hi.1) ⟨_,_,_,ib,symb,rfl,B1,B2,B3,T.2.upd U (fun _ _ h=>h) fun i _ hi=>hi,fun hs=>(T.1.gs ib hs).1.2 rfl⟩ ⟨by decide,by decide,fun v hv=>Nat.lt_of_lt_of_le hv (by have:=T.1.len; omega)⟩ fun h4 r4 P=>aC (.inl (hq 0 h4 r4 ?_))
 exact P.from U (fun _ _ h=>h.elim) (fun _ _ h=>h) rfl rfl rfl
theorem aJ3 {a b : List Nat} {va vb : AV} (D : Dec L h F d r out told) (hF : ∀ i, h.length ≤ i → F i) (hd : r.done = false) (Ra : RdI 1 h va (bI a) a.length) (Rb : RdI 1 h vb (bI b) b.length) (la : a.length ≤ 320) (lb : b.length ≤ 320) (a15 : ∀ x ∈ a, x ≤ 15) (b15 : ∀ x ∈ b, x ≤ 15)
  (hq:∀ e h' r',dE (· = d) L h F d r told (Infl.codes ⟨out,r.last,r.skip⟩ a b) e h' r'→Q (.i .i64 e) h'):C Y60.id [dp d,va,vb] h Q:=by
 refine Y60.call ?_
 simp only [Y60.t]
 refine aAW Ra la a15 (fun hn e he=>?_) fun ha h1 ia syma U1 A1=>?_
 ·simp only [cX, cW]
  refine aC (aN (by simp [he]) (.inl (hq 2 h r ?_)))
  unfold Infl.codes
  rw [if_neg fun hh=>hn hh.1]
  exact ⟨Upd.refl _ _,fun _ _ h=>h,D,rfl,rfl,rfl,rfl,.inl rfl,hd⟩
 ·simp only [cX, cW]
  refine aC (aG rfl ?_)
  refine aAW (Rb.ext U1) lb b15 (fun hn e he=>?_) fun hb h2 ib symb U2 A2=>?_
  ·simp only [cX, cW]
   refine aC (aN (by simp [he]) (.inl (hq 2 h1 r ?_)))
   unfold Infl.codes
   rw [if_neg fun hh=>hn hh.2]
   exact ⟨U1.mono fun _ _ h=>h.elim,fun _ _ h=>h,D.ext U1,rfl,rfl,rfl,rfl,.inl rfl,hd⟩
  ·simp only [cX, cW]
   refine aC (aG rfl ?_)
   have U:=U1.then U2
   have hlt:=A1.recd.lt
   have hge:=A2.g
   have hU1:=U1.1
   have T:Two h2 (Gd F d r) ia syma a ib symb b:=by
    refine ⟨{ A1.upd (G':=fun i=>h.length≤i) U2 (fun _ _ h=>h) (fun i hl hi=>hi) with g:=⟨D.gd hF A1.g,by omega⟩,gs:=fun i hi=>?_ },{ A2 with g:=⟨D.gd hF (by omega),by omega⟩,gs:=fun i hi=>?_ }⟩
    ·obtain ⟨g1, g2, g3⟩ := A1.gs i hi
     exact ⟨⟨D.gd hF g1,by omega⟩,g2,Nat.lt_of_lt_of_le g3 U2.1⟩
    ·obtain ⟨g1, g2, g3⟩ := A2.gs i hi
     exact ⟨⟨D.gd hF (by omega),by omega⟩,g2,g3⟩
   refine vK (D.ext U) (fun i hi=>hF i (Nat.le_trans U.1 hi)) hd T fun e h3 r3 P=>aC (.inl (hq e h3 r3 ?_))
   unfold Infl.codes
   rw [if_pos ⟨ha,hb⟩]
   exact P.from U (fun _ _ h=>h.elim) (fun _ _ h=>h) rfl rfl rfl
theorem aCQ:∀ x∈Infl.fixedL,x≤15:=by decide +kernel
theorem aCM:∀ x∈Infl.fixedD,x≤15:=by decide +kernel
theorem aR7 (D:Dec L h F d r out told) (hF:∀ i,h.length≤i→F i) (hd:r.done=false)
  (hq:∀ e h' r',dE (· = d) L h F d r told (Infl.codes ⟨out,r.last,r.skip⟩ Infl.fixedL Infl.fixedD) e h' r'→Q (.i .i64 e) h'):C Y68.id [dp d] h Q:=by
 refine Y68.call ?_
 simp only [Y68.t]
 refine aAV fun h1 v w U1 Rv Rw _ _=>?_
 simp only [cX,cW]
 refine aJ3 (D.ext U1) (fun i hi=>hF i (Nat.le_trans U1.1 hi)) hd Rv Rw (by decide +kernel) (by decide +kernel) aCQ aCM fun e h2 r2 P=>aC (.inl (hq e h2 r2 ?_))
 exact P.from U1 (fun _ _ h=>h.elim) (fun _ _ h=>h) rfl rfl rfl
theorem aR6 {x : Nat} {v : AV} (D : Dec L h F d r out told) (hF : ∀ i, h.length ≤ i → F i) (hd : r.done = false) (hc : Clo h (Gd F d r) d 0 (.p none) .block v) (hf : fit .block x)
  (hq:∀ e h' r',dE F L h F d r told (Infl.apply L r.input ⟨out,r.last,r.skip⟩ x .block) e h' r'→Q (.i .i64 e) h'):cL C v [iN x] h Q:=by
 obtain ⟨bd,rfl,B⟩:=hc
 have hf:x<8:=hf
 refine dV (by decide) (Y101.call ?_)
 simp only [Y101.t,B.ld,bE,bD]
 have hand:bA .and .i64 (x:Int) 1=((x % 2:Nat):Int):=by
  have:=mB (x:=x) (y:=1) (by omega) (by decide)
  rw [Nat.and_one_is_mod] at this
  exact this
 rw [hand]
 have hlast:decide (((x % 2:Nat):Int)=1)=(x % 2 == 1):=by
  rw [Bool.eq_iff_iff]; simp; omega
 rw [hlast]
 refine aJ D.recd rfl (ltr rfl) (hk:=fun h1 l1 U1 R1=>?_)
 have D1:Dec L h1 F d { r with last:=x % 2 == 1 } out told:=D.with U1 R1 rfl rfl rfl rfl
 have B1:Bx h1 (Gd F d { r with last:=x % 2 == 1 }) bd (dp d):=B.upd U1 (fun i hi e=>hi.2 (.inl e)) fun _ _ h=>h
 have hF1:∀ i,h1.length≤i→F i:=fun i hi=>hF i (by omega)
 refine aEM (a:=x) (b:=1) (by decide) ?_
 rw [B1.ld]
 have hx4:x / 2 ^ 1=x / 2:=rfl
 have hm:∀ {o:Out} {e:Int} {h':aA} {r':DR},dE (· = d) L h1 F d { r with last:=x % 2 == 1 } told o e h' r'→dE F L h F d r told o e h' r':=fun {o e h' r'} P=>by
  have P':dE F L h1 F d { r with last:=x % 2 == 1 } told o e h' r':=P.mono fun i _ e=>D.f i (.inl e)
  exact P'.from U1 (fun i _ e=>D.f i (.inl e)) (fun _ _ h=>h) rfl rfl rfl
 simp only [Infl.apply] at hq
 refine aI ?_ ?_ <;> intro e0
 ·have e0 : x / 2 = 0 := by simp at e0; omega
  simp only [e0] at hq
  simp only [bE,bD]
  refine aJ D1.recd rfl (ltr rfl) (hk:=fun h2 l2 U2 R2=>?_)
  have D2:Dec L h2 F d { r with last:=x % 2 == 1,skip:=true } out told:=D1.with U2 R2 rfl rfl rfl rfl
  have B2:Bx h2 (Gd F d { r with last:=x % 2 == 1,skip:=true }) bd (dp d):=B1.upd U2 (fun i hi e=>hi.2 (.inl e)) fun _ _ h=>h
  rw [B2.ld]
  refine aO6 D2 (fun i hi=>hF i (by omega)) hd fun e h3 r3 P=>aC (.inl (hq e h3 r3 ?_))
  refine hm (P.from U2 (fun i _ e=>e) (fun _ _ h=>h) rfl rfl rfl)
 ·refine aI ?_ ?_ <;> intro e1
  ·have e1 : x / 2 = 1 := by simp at e1; omega
   simp only [e1] at hq
   rw [B1.ld]
   refine aR7 D1 hF1 hd fun e h3 r3 P=>aC (.inl (hq e h3 r3 (hm P)))
  ·refine aI ?_ ?_ <;> intro e2
   ·have e2 : x / 2 = 2 := by simp at e2; omega
    simp only [e2] at hq
    rw [B1.ld]
    refine aLS D1 hF1 hd fun e h3 r3 P=>aC (.inl (hq e h3 r3 (hm P)))
   ·have e3 : x / 2 = 3 := by simp at e0 e1 e2; omega
    simp only [e3] at hq
    exact .inl (hq 2 h1 { r with last:=x % 2 == 1 } ⟨U1.mono fun i _ e=>D.f i (.inl e),fun _ _ h=>h,D1,rfl,rfl,rfl,rfl,.inl rfl,hd⟩)
theorem aKK {a b:List Nat} {ic ib:Nat} {sym symb:AV} (A:cO h (Gd F d r) ic a sym 0 0) (Bc:cO h (fun i=>Gd F d r i∧i≠ic) ib b symb 0 0) (hs:¬ aQ sym ib):Two h (Gd F d r) ic sym a ib symb b:=
 ⟨{ A with g:=⟨A.g,fun e=>Bc.g.2 e.symm⟩,gs:=fun i hi=>⟨⟨(A.gs i hi).1,fun e=>hs (e ▸ hi)⟩,(A.gs i hi).2⟩ },Bc⟩
theorem aUV {x ic : Nat} {sym : AV} {a b : List Nat} {v : AV} (D : Dec L h F d r out told) (hF : ∀ i, h.length ≤ i → F i) (hd : r.done = false) (A : cO h (Gd F d r) ic a sym 0 0) (hc : Clo h (fun i => Gd F d r i ∧ i ≠ ic) d ic sym (.lit a b) v) (hf : fit (.lit a b) x)
  (hq:∀ e h' r',dE F L h F d r told (Infl.apply L r.input ⟨out,r.last,r.skip⟩ x (.lit a b)) e h' r'→Q (.i .i64 e) h'):cL C v [iN x] h Q:=by
 obtain ⟨bd,ba,bb,ib,symb,rfl,B,Ba,Bb,Bc,hs⟩:=hc
 have hf:x<320:=hf
 have T:=aKK A Bc hs
 have w:∀ {y z},Bx h (fun i=>Gd F d r i∧i≠ic) y z→Bx h (Gd F d r) y z:=fun B=>B.upd (Upd.refl (fun _=>False) h) (fun _ _ h=>h) fun i _ hi=>hi.1
 have B:=w B
 have Ba:=w Ba
 have Bb:=w Bb
 refine dV (by decide) (Y79.call ?_)
 simp only [Y79.t,B.ld]
 simp only [Infl.apply,Infl.putP] at hq
 refine aI ?_ ?_ <;> intro e0
 ·have e0 : x < 256 := by simp at e0; omega
  rw [if_pos e0] at hq
  rw [aFP e0]
  refine aN2 D hF (fun hfull=>?_) fun hfull p f h1 U1 K1 D1=>?_
  ·refine aC (aN rfl (.inl (hq 16 h r ?_)))
   rw [if_pos hfull]
   exact ⟨Upd.refl _ _,fun _ _ h=>h,D,rfl,rfl,rfl,rfl,.inr rfl,hd⟩
  ·refine aC (aG rfl ?_)
   have B1:=B.upd U1 (fun i hi hm=>hi.2 hm) (iC K1)
   have Ba1:=Ba.upd U1 (fun i hi hm=>hi.2 hm) (iC K1)
   have Bb1:=Bb.upd U1 (fun i hi hm=>hi.2 hm) (iC K1)
   rw [B1.ld,Ba1.ld,Bb1.ld]
   refine vK D1 (fun i hi=>hF i (Nat.le_trans U1.1 hi)) hd (T.upd U1 (fun i hi hm=>hi.2 hm) (iC K1)) fun e h2 r2 P=>aC (.inl (hq e h2 r2 ?_))
   rw [if_neg (by simp [hfull])]
   exact (P.mono fun i _ e=>D1.f i (.inl e)).from U1 (fun i _ hm=>D.f i hm) K1 rfl rfl rfl
 ·have e0 : ¬ x < 256 := by simp at e0; omega
  rw [if_neg e0] at hq
  refine aI ?_ ?_ <;> intro e1
  ·have e1 : x = 256 := by simp at e1; omega
   rw [if_pos e1] at hq
   exact aEK D hF hd fun e h1 r1 P=>aC (.inl (hq e h1 r1 (P.mono fun i _ e=>D.f i (.inl e))))
  ·have e1 : ¬ x = 256 := by simp at e1; omega
   rw [if_neg e1] at hq
   refine aI ?_ ?_ <;> intro e2
   ·have e2 : 285 < x := by simp at e2; omega
    rw [if_pos e2] at hq
    exact .inl (hq 2 h r ⟨Upd.refl _ _,fun _ _ h=>h,D,rfl,rfl,rfl,rfl,.inl rfl,hd⟩)
   ·have e2 : ¬ 285 < x := by simp at e2; omega
    rw [if_neg e2] at hq
    obtain ⟨b1,b2⟩:=aGQ x (by omega) (by omega)
    refine aQR (by omega) (by omega) ?_
    simp only [cX,cW]
    refine aC (aC (fC fun h1 l1 U1 R1=>?_))
    refine aJ R1 rfl (ltr rfl) (hk:=fun h2 l2 U2 R2=>?_)
    have U:Upd (fun _=>False) h h2:=U1.own U2 (Nat.le_refl _)
    have up:∀ {y z},Bx h (Gd F d r) y z→Bx h2 (Gd F d r) y z:=fun B=>B.upd U (fun _ _ h=>h) fun _ _ h=>h
    have Bn:Bx h2 (Gd F d r) (.p (some ⟨h.length,1,0⟩)) (iN (Infl.least x).1):=⟨_,rfl,R2,D.gd hF (Nat.le_refl _)⟩
    rw [(up B).ld]
    refine eH (D.ext U) hd (c:=.more a b (Infl.least x).1) ⟨_,_,_,_,ic,sym,ib,symb,rfl,up B,up Bb,Bn,up Ba,T.upd U (fun _ _ h=>h) fun _ _ h=>h⟩ ⟨b2,by simp, ?_,fun v hv=>?_⟩ fun h3 r3 P=>aC (.inl (hq 0 h3 r3 ?_))
    ·by_cases hz : (Infl.least x).2 = 0
     ·exact .inr ⟨hz,rfl,trivial⟩
     ·exact .inl (by omega)
    ·show (Infl.least x).1+v≤300; omega
    ·exact (P.from U (fun _ _ h=>h.elim) (fun _ _ h=>h) rfl rfl rfl).mono fun i _ e=>D.f i (.inl e)
theorem aT5 {x n:Nat} {a b:List Nat} {v:AV} (D:Dec L h F d r out told) (hF:∀ i,h.length≤i→F i) (hd:r.done=false) (hc:Clo h (Gd F d r) d 0 (.p none) (.more a b n) v) (hf:fit (.more a b n) x)
  (hq:∀ e h' r',dE F L h F d r told (Infl.apply L r.input ⟨out,r.last,r.skip⟩ x (.more a b n)) e h' r'→Q (.i .i64 e) h'):cL C v [iN x] h Q:=by
 obtain ⟨bd,bb,bn,ba,ia,syma,ib,symb,rfl,B,Bb,Bn,Ba,T⟩:=hc
 have hf:n+x≤300:=hf
 refine dV (by decide) (Y97.call ?_)
 simp only [Y97.t]
 refine cB (hk:=fun h1 l1 U1 R1=>?_)
 have hib:=T.2.recd.lt
 have up:∀ {y z},Bx h (Gd F d r) y z→Bx h1 (Gd F d r) y z:=fun B=>B.upd U1 (fun _ _ h=>h) fun _ _ h=>h
 rw [(up B).ld,(up Bb).ld]
 have sep:∀ {y z},Bx h1 (Gd F d r) y z→Bx h1 (fun i=>Gd F d r i∧i≠ib) y z:=fun {y z} B=>by
  obtain ⟨id,e,R,g⟩:=B
  refine ⟨id,e,R,g, ?_⟩
  rintro rfl
  have R':=(T.2.recd.upd U1 fun h=>h)
  obtain ⟨b1,p1,p2,_⟩:=R
  obtain ⟨b2,q1,q2,_⟩:=R'
  rw [p1] at q1
  cases q1
  rw [p2] at q2
  have:=congrArg List.length q2
  rw [fR, ← cZ (cS b) aMW (by simp)] at this
  simp at this
 refine aAM (D.ext U1) hd (l:=b) (ic:=ib) (sym:=symb) (c:=.far a b (n+x)) (T.2.upd U1 (fun _ _ h=>h) fun i _ hi=>hi.1) ⟨bd,bn,_,ba,bb,n,x,ia,syma,rfl,rfl,sep (up B),sep (up Bn),sep (Bx.new R1 (D.gd hF (Nat.le_refl _))),sep (up Ba),sep (up Bb),T.1.upd U1 (fun _ _ h=>h) fun i _ hi=>hi,fun hs=>(T.2.gs ia hs).1.2 rfl⟩ ⟨by decide,by decide,fun v hv=>⟨hf,by have:=T.2.len; omega⟩⟩ fun h2 r2 P=>aC (.inl (hq 0 h2 r2 ?_))
 exact (P.from U1 (fun _ _ h=>h.elim) (fun _ _ h=>h) rfl rfl rfl).mono fun i _ e=>D.f i (.inl e)
theorem aU7 {x n ic:Nat} {sym:AV} {a b:List Nat} {v:AV} (D:Dec L h F d r out told) (hF:∀ i,h.length≤i→F i) (hd:r.done=false) (A:cO h (Gd F d r) ic b sym 0 0) (hc:Clo h (fun i=>Gd F d r i∧i≠ic) d ic sym (.far a b n) v) (hf:fit (.far a b n) x)
  (hq:∀ e h' r',dE F L h F d r told (Infl.apply L r.input ⟨out,r.last,r.skip⟩ x (.far a b n)) e h' r'→Q (.i .i64 e) h'):cL C v [iN x] h Q:=by
 obtain ⟨bd,bn,bm,ba,bb,n0,m,ia,syma,rfl,hn,B,Bn,Bm,Ba,Bb,Ac,hs⟩:=hc
 obtain ⟨hf1,hf2⟩:=hf
 have T:Two h (Gd F d r) ia syma a ic sym b:=by
  have:=aKK A Ac hs
  exact ⟨this.2,this.1⟩
 have w:∀ {y z},Bx h (fun i=>Gd F d r i∧i≠ic) y z→Bx h (Gd F d r) y z:=fun B=>B.upd (Upd.refl (fun _=>False) h) (fun _ _ h=>h) fun i _ hi=>hi.1
 refine dV (by decide) (Y94.call ?_)
 simp only [Y94.t]
 simp only [Infl.apply] at hq
 refine aI ?_ ?_ <;> intro e0
 ·have e0 : 29 < x := by simp at e0; omega
  rw [if_pos e0] at hq
  exact .inl (hq 2 h r ⟨Upd.refl _ _,fun _ _ h=>h,D,rfl,rfl,rfl,rfl,.inl rfl,hd⟩)
 ·have e0 : ¬ 29 < x := by simp at e0; omega
  rw [if_neg e0] at hq
  obtain ⟨b0,b1,b2⟩:=aOZ x (by omega)
  refine aJH (by omega) ?_
  simp only [cX,cW]
  refine aC (aC (fC fun h1 l1 U1 R1=>?_))
  refine aJ R1 rfl (ltr rfl) (hk:=fun h2 l2 U2 R2=>?_)
  have U:Upd (fun _=>False) h h2:=U1.own U2 (Nat.le_refl _)
  have up:∀ {y z},Bx h (fun i=>Gd F d r i∧i≠ic) y z→Bx h2 (Gd F d r) y z:=fun B=>(w B).upd U (fun _ _ h=>h) fun _ _ h=>h
  have Bf:Bx h2 (Gd F d r) (.p (some ⟨h.length,1,0⟩)) (iN (Infl.farOf x).1):=⟨_,rfl,R2,D.gd hF (Nat.le_refl _)⟩
  rw [(up B).ld]
  refine eH (D.ext U) hd (c:=.farMore a b n (Infl.farOf x).1) ⟨_,_,_,_,_,_,n0,m,ia,syma,ic,sym,rfl,hn,up B,up Bn,up Bm,Bf,up Ba,up Bb,T.upd U (fun _ _ h=>h) fun _ _ h=>h⟩ ⟨b2,by simp, ?_,fun v hv=>⟨hf1,b0,by omega⟩⟩ fun h3 r3 P=>aC (.inl (hq 0 h3 r3 ?_))
  ·by_cases hz : (Infl.farOf x).2 = 0
   ·exact .inr ⟨hz,rfl,trivial⟩
   ·exact .inl (by omega)
  ·exact (P.from U (fun _ _ h=>h.elim) (fun _ _ h=>h) rfl rfl rfl).mono fun i _ e=>D.f i (.inl e)
theorem aLC {x n f : Nat} {a b : List Nat} {v : AV} (D : Dec L h F d r out told) (hF : ∀ i, h.length ≤ i → F i) (hd : r.done = false) (hc : Clo h (Gd F d r) d 0 (.p none) (.farMore a b n f) v) (hf : fit (.farMore a b n f) x)
  (hq:∀ e h' r',dE F L h F d r told (Infl.apply L r.input ⟨out,r.last,r.skip⟩ x (.farMore a b n f)) e h' r'→Q (.i .i64 e) h'):cL C v [iN x] h Q:=by
 obtain ⟨bd,bn,bm,bf,ba,bb,n0,m,ia,syma,ib,symb,rfl,hn,B,Bn,Bm,Bf,Ba,Bb,T⟩:=hc
 obtain ⟨hf1,hf2,hf3⟩:=hf
 refine dV (by decide) (Y92.call ?_)
 simp only [Y92.t,B.ld,Bn.ld,Bm.ld,Bf.ld,mC]
 simp only [Infl.apply] at hq
 refine bZ (n:=(n:Int)) (by omega) (by omega) (by omega) ?_
 refine bZ (n:=((f+x:Nat):Int)) (by omega) (by omega) (by omega) ?_
 refine aUM (by omega) hf1 hf3 D hF (fun hlt=>?_) fun hge e h1 p f' t U1 K1 D1 he=>?_
 ·rw [if_pos hlt] at hq
  exact aC (aN rfl (.inl (hq 2 h r ⟨Upd.refl _ _,fun _ _ h=>h,D,rfl,rfl,rfl,rfl,.inl rfl,hd⟩)))
 ·rw [if_neg (by omega)] at hq
  have hcore:=aAP (L:=L) (input:=r.input) (far:=f+x) n ⟨out,r.last,r.skip⟩
  cases hcp:Infl.copyP L r.input (f+x) n ⟨out,r.last,r.skip⟩ with
  | mk k ok =>
   rw [hcp] at hcore D1 he hq
   simp only at hcore D1 he hq
   rcases he with ⟨rfl,rfl⟩ | ⟨rfl,rfl⟩
   ·refine aC (aG rfl ?_)
    have B1:=B.upd U1 (fun i hi hm=>hi.2 hm) (iC K1)
    have Ba1:=Ba.upd U1 (fun i hi hm=>hi.2 hm) (iC K1)
    have Bb1:=Bb.upd U1 (fun i hi hm=>hi.2 hm) (iC K1)
    rw [B1.ld,Ba1.ld,Bb1.ld]
    refine vK D1 (fun i hi=>hF i (Nat.le_trans U1.1 hi)) hd (T.upd U1 (fun i hi hm=>hi.2 hm) (iC K1)) fun e h2 r2 P=>aC (.inl (hq e h2 r2 ?_))
    rw [hcore]
    exact (P.mono fun i _ e=>D1.f i (.inl e)).from U1 (fun i _ hm=>D.f i hm) K1 rfl rfl rfl
   ·refine aC (aN rfl (.inl (hq 16 h1 { r with past := p, total := t, fresh := f' } ?_)))
    exact ⟨U1.mono fun i _ hm=>D.f i hm,K1,D1,rfl,rfl,rfl,rfl,.inr rfl,hd⟩
end
end Go.Proofs.YtfoekpcljhbijaaGreatDoor
namespace Go.GAM
def aDU (h:aA) (id:Nat) (cs:List AV):Prop:=∃ b:ABlk,h[id]? = some b∧b.cells=cs∧b.floor≤cs.length∧b.gl=true
theorem aDU.upd {M:Nat→Prop} {h h':aA} {id:Nat} {cs:List AV} (G:aDU h id cs) (U:Upd M h h') (hM:¬ M id):aDU h' id cs:=by
 obtain ⟨b,h1,h2⟩:=G
 exact ⟨b,(U.2 id (aV h1) hM).trans h1,h2⟩
theorem aDU.var {h:aA} {id:Nat} {cs:List AV} (G:aDU h id cs):aIC h id = .p (some ⟨id,cs.length,0⟩):=by
 obtain ⟨b,h1,rfl,h3,h4⟩:=G
 unfold aIC
 rw [h1]
 simp only [h4,Bool.true_and,Nat.ble_eq_true_of_le h3,cond_true]
theorem aDU.ld {h:aA} {id n o:Nat} {cs:List AV} {v:AV} {K:AV→Prop} (G:aDU h id cs) (hn:n=cs.length) (hc:cs[o]? = some v) (hk:K v):aD (.p (some ⟨id,n,o⟩)) h K:=by
 obtain ⟨b,h1,rfl,h3,h4⟩:=G
 subst hn
 have:=aV hc
 refine ⟨b,h1,⟨h3,Nat.le_refl _,this⟩, ?_⟩
 show K (b.cells.getD o .u)
 rw [getD_some hc]; exact hk
end Go.GAM
namespace Go.Proofs.YtfoekpcljhbijaaGreatDoor
open Go.GAM
open Go.Infl (bG cG bS Out Lim)
theorem Exa.rd {h:aA} {v:AV} {l:List Nat} (S:Exa h v l):Rd 1 h v (bI l) l.length:=by
 rcases S with ⟨rfl,rfl⟩ | ⟨id,b,rfl,h1,h2,h3,h4,h5⟩
 ·exact .inl ⟨rfl,rfl,rfl⟩
 ·have e : b.cells.length = l.length := by rw [h3, bB]
  exact .inr ⟨id,_,0,none,b,rfl,h1,.inl h2,h4,by omega,by omega,by rw [h3,List.drop_zero,Nat.mul_one, ← bB l,List.take_length]⟩
theorem Exa.app {ty:Option TypeId} {h:aA} {v y:AV} {l ns:List Nat} (S:Exa h v l) (R1:∀ K:List AV→Nat→Prop,K (bI ns) ns.length→fH 1 y h K) (hn:0<ns.length) (hlen:l.length+ns.length≤1000000) {K:AV→aA→Prop}
  (hk:∀ v' h',Upd (aQ v) h h'→Exa h' v' (l++ns)→(∀ i,aQ v' i→aQ v i∨h.length≤i)→K v' h'):bU ty 1 8 v y h K:=by
 refine ⟨Nat.one_pos,R1 _ ?_⟩
 rcases S with ⟨rfl,rfl⟩ | ⟨id,b,rfl,g1,g2,g3,g4,g5,g6⟩
 ·refine ⟨by omega, by omega, ?_⟩
  rw [if_neg (by omega)]
  exact hk _ _ ((Upd.app _ _).mono fun _ _ h=>h.elim) (.inr ⟨h.length,bC (bI ns) 1 false ty,by rw [bB] <;> rfl,by simp,rfl,rfl,by simp [bC,bB],rfl,rfl⟩) fun i hi=>.inr (by have e:h.length=i:=hi; omega)
 ·have hid := aV g1
  have e:b.cells.length=l.length:=by rw [g3,bB]
  have ea:(l++ns).length=l.length+ns.length:=List.length_append
  have ec:(b.cells.drop 0).take (l.length * 1)=bI l:=by rw [g3,List.drop_zero,Nat.mul_one, ← bB l,List.take_length]
  refine ⟨by omega,by omega,b,g1,g2,⟨g4,by simp only; omega,by simp only; omega⟩, ?_⟩
  cases hex:b.ex with
  | true =>
   refine .inr (.inl ⟨hn,.inr ⟨rfl,e.symm,rfl,by simp only; omega⟩, ?_⟩)
   simp only [ec]
   rw [← kE]
   refine hk _ _ ((Upd.app _ _).mono fun _ _ h=>h.elim) (.inr ⟨h.length,bC (bI (l++ns)) 1 false ty,by rw [bB,ea],by simp,rfl,rfl,by simp [bC,bB],rfl,rfl⟩) fun i hi=>.inr (by have e:h.length=i:=hi; omega)
  | false =>
   refine .inr (.inr (.inr (.inl ⟨hn,g5,e.symm,rfl,by omega,rfl,rfl,g6,uY _, ?_⟩)))
   refine hk _ _ ((Upd.set _ _ _).mono fun i _ h=>h.symm) (.inr ⟨id,{ b with cells:=b.cells++bI ns,ty:=gW b.ty ty }, ?_,by simp [hid,hex],g2,by simp only [g3]; rw [kE],by simp only; omega,g5,g6⟩) fun i hi=>.inl hi
   rw [List.length_append,bB,e,ea]
theorem Exa.front {h:aA} {v:AV} {l:List Nat} (S:Exa h v l) {n:Nat} (hn:n≤l.length) {K:AV→Prop} (hk:∀ v',RdI 1 h v' (bI (l.take n)) (l.take n).length→K v'):bW 1 v none (some (.i .i64 (n:Int))) none h K:=by
 obtain ⟨v',R,hv⟩:=S.rd.cutAt Nat.one_pos (lo:=none) (lo':=0) (hi:=n) (.inl ⟨rfl,rfl⟩) (Nat.zero_le _) hn
 refine hv _ (hk v' ?_)
 have e:(l.take n).length=n:=by rw [List.length_take]; omega
 rw [e]
 have:=R.i
 rw [Nat.zero_mul,List.drop_zero,Nat.mul_one,Nat.sub_zero] at this
 unfold bI at this ⊢
 rw [List.map_take]; exact this
theorem Exa.back {h:aA} {v:AV} {l:List Nat} (S:Exa h v l) {n:Nat} (hn:n≤l.length) {K:AV→Prop} (hk:∀ v',RdI 1 h v' (bI (l.drop n)) (l.drop n).length→K v'):bW 1 v (some (.i .i64 (n:Int))) none none h K:=by
 rcases S with ⟨rfl,rfl⟩ | ⟨id,b,rfl,g1,g2,g3,g4,g5,g6⟩
 ·have : n = 0 := by simpa using hn
  subst this
  exact ⟨by simp,rfl,rfl,rfl,fun h=>by simp at h,hk _ (.inl ⟨rfl,rfl,rfl⟩)⟩
 ·have e : b.cells.length = l.length := by rw [g3, bB]
  refine ⟨Nat.one_pos,fun h=>by simp at h,by omega,by simpa using hn,b,g1,by omega,by show b.floor≤l.length; omega,.inl g2,.inl (Nat.le_refl _), ?_⟩
  refine hk _ (.inr (.inr ⟨id,l.length,0+((n:Int).toNat) * 1,none,b, ?_,g1,by omega,by omega, ?_, ?_⟩))
  ·simp
  ·simp; omega
  ·rw [Int.toNat_natCast, Nat.mul_one, Nat.zero_add, Nat.mul_one, g3]
   unfold bI
   rw [← List.map_drop]
   exact List.take_of_length_le (by simp)
theorem eB.store {h:aA} {G:Nat→Prop} {v:AV} {l:List Nat} (A:eB h G v l) {k:IntKind} {i x:Nat} (hi:i<l.length) {K:aA→Prop} (hk:∀ h',h'.length=h.length→Upd (aQ v) h h'→eB h' G v (l.set i x)→K h') :
  aU 1 v (.i k (i:Int)) h fun a=>aP 1 a (iN x) h K:=by
 obtain ⟨id,b,rfl,h1,h2,h3,h4,h5,g⟩:=A
 have e:b.cells.length=l.length:=by rw [h2,bB]
 refine ⟨by omega,by omega,⟨b,h1,by show b.floor≤l.length; omega,by omega⟩, ?_⟩
 refine ⟨b,h1,h4,h3,e.symm,by simp only [Int.toNat_natCast]; omega,rfl,rfl,rfl, ?_⟩
 refine hk _ (by simp) ((Upd.set _ _ _).mono fun i _ h=>h.symm) ⟨id,_,by rw [List.length_set],List.getElem?_set_self (aV h1), ?_, ?_,h4,h5,g⟩
 ·show (b.cells).set (0 + (i : Int).toNat * 1) (iN x) = _
  rw [Int.toNat_natCast,Nat.mul_one,Nat.zero_add,h2,mM]
 ·show b.cells.length ≤ _
  rw [List.length_set]; omega
section
variable [XR] {h:aA} {Q:AV→aA→Prop} {L:Lim} {F:Nat→Prop} {d:Nat} {r:DR} {out:List UInt8} {told:Nat}
theorem vY {c l:List Nat} {lits dists ic:Nat} {symc lv:AV} (hc19:c.length≤19) (hl1:lits≤286) (hd1:dists≤30) (hll:l.length≤lits+dists) (h16:∀ x∈l,x<16) (D:Dec L h F d r out told) (hF:∀ i,h.length≤i→F i) (hd:r.done=false)
  (A:cO h (Gd F d r) ic c symc 0 0) (S:Lst h (fun i=>Gd F d r i∧i≠ic∧¬ aQ symc i) lv l)
  (hq:∀ e h' r',dE (· = d) L h F d r told (Infl.lensW ⟨out,r.last,r.skip⟩ c l lits dists) e h' r'→Q (.i .i64 e) h'):C Y56.id [dp d,cp ic,lv,iN lits,iN dists] h Q:=by
 refine Y56.call ?_
 simp only [Y56.t]
 refine cB (hk:=fun h1 l1 U1 R1=>?_)
 refine cB (hk:=fun h2 l2 U2 R2=>?_)
 refine cB (hs:=by rcases S.1 with ⟨rfl,_⟩ | ⟨id,b,rfl,_⟩ <;> rfl) (hk:=fun h3 l3 U3 R3=>?_)
 have hparts:lv.parts=[lv]:=by rcases S.1 with ⟨rfl,_⟩ | ⟨id,b,rfl,_⟩ <;> rfl
 rw [hparts] at R3 ⊢
 refine cB (hk:=fun h4 l4 U4 R4=>?_)
 refine cB (hk:=fun h5 l5 U5 R5=>?_)
 have U45:=U4.then U5
 have U35:=U3.then U45
 have U25:=U2.then U35
 have U:=U1.then U25
 have R1:=R1.upd U25 fun h=>h
 have R2:=R2.upd U35 fun h=>h
 have R3:=R3.upd U45 fun h=>h
 have R4:=R4.upd U5 fun h=>h
 have S5:Exa h5 lv l:=S.1.upd U fun _ _ h=>h
 refine aE R3 rfl rfl (S5.rd.len ?_)
 refine aE R4 rfl rfl (aC (aE R5 rfl rfl (aC ?_)))
 refine bZ (n:=((lits+dists:Nat):Int)) (by omega) (by omega) (by omega) ?_
 unfold Infl.lensW at hq
 refine aI ?_ ?_ <;> intro e
 ·have e : l.length = lits + dists := by simp at e; omega
  rw [if_pos e] at hq
  refine aE R1 rfl rfl (aE R3 rfl rfl (aE R4 rfl rfl (aC (S5.front (by omega) fun va Ra=>?_))))
  refine aE R3 rfl rfl (aE R4 rfl rfl (aC (S5.back (by omega) fun vb Rb=>?_)))
  refine aJ3 (D.ext U) (fun i hi=>hF i (Nat.le_trans U.1 hi)) hd Ra Rb (by rw [List.length_take]; omega) (by rw [List.length_drop]; omega) (fun x hx=>by have:=h16 x (List.mem_of_mem_take hx); omega) (fun x hx=>by have:=h16 x (List.mem_of_mem_drop hx); omega) fun e1 h6 r6 P=>aC (.inl (hq e1 h6 r6 ?_))
  exact P.from U (fun _ _ h=>h.elim) (fun _ _ h=>h) rfl rfl rfl
 ·have e : ¬ l.length = lits + dists := by simp at e; omega
  rw [if_neg e] at hq
  refine fC fun h6 l6 U6 R6=>?_
  refine aJ R6 rfl (ltr rfl) (hk:=fun h7 l7 U7 R7=>?_)
  have U67:Upd (fun _=>False) h5 h7:=U6.own U7 (Nat.le_refl _)
  have V:=U.then U67
  have R1:=R1.upd U67 fun h=>h
  have R2:=R2.upd U67 fun h=>h
  have R3:=R3.upd U67 fun h=>h
  have R4:=R4.upd U67 fun h=>h
  have R5:=R5.upd U67 fun h=>h
  have hic:=A.recd.lt
  have G:∀ {i},h.length≤i→(Gd F d r i∧i≠ic)∧¬ aQ lv i:=fun hi=>⟨⟨D.gd hF hi,by omega⟩,fun hs=>by have:=S.1.lt hs; omega⟩
  refine aE R1 rfl rfl (aE R2 rfl rfl ?_)
  refine aAM (D.ext V) hd (l:=c) (ic:=ic) (sym:=symc) (c:=.lens c l lits dists) (A.upd V (fun _ _ h=>h) fun i _ hi=>hi) ⟨_,_,_,_,_,_,lv,rfl,⟨S.1.upd V fun _ _ h=>h,fun i hi=>⟨(S.2 i hi).1,(S.2 i hi).2.1⟩⟩,fun i hi=>(S.2 i hi).2.2,⟨_,rfl,R1,G (Nat.le_refl _)⟩,⟨_,rfl,R2,G (by omega)⟩,⟨_,rfl,R3,G (by omega)⟩,⟨_,rfl,R4,G (by omega)⟩,⟨_,rfl,R5,G (by omega)⟩,⟨_,rfl,R7,G (by omega)⟩⟩
   ⟨by decide,by decide,fun v hv=>⟨hc19,hl1,hd1,by omega,h16,by omega⟩⟩ fun h8 r8 P=>aC (.inl (hq 0 h8 r8 ?_))
  exact P.from V (fun _ _ h=>h.elim) (fun _ _ h=>h) rfl rfl rfl
theorem aKA {l:List Nat} {i n lits dists:Nat} {lv:AV} (hl1:lits≤286) (hd1:dists≤30) (h19:l.length=19) (h8:∀ x∈l,x<8) (hin:i≤n) (hn:n≤19) (D:Dec L h F d r out told) (hF:∀ i,h.length≤i→F i) (hd:r.done=false) (A:eB h (Gd F d r) lv l)
  (hq:∀ e h' r',dE (· = d) L h F d r told (Infl.thirdW ⟨out,r.last,r.skip⟩ l i n lits dists) e h' r'→Q (.i .i64 e) h'):C Y62.id [dp d,lv,iN i,iN n,iN lits,iN dists] h Q:=by
 refine Y62.call ?_
 simp only [Y62.t]
 have hparts:lv.parts=[lv]:=by obtain ⟨id,b,rfl,_⟩:=A; rfl
 have hlt:∀ j,aQ lv j→j<h.length:=fun j hj=>A.rd.lt hj
 refine cB (hk:=fun h1 l1 U1 R1=>?_)
 refine cB (hs:=by obtain ⟨id,b,rfl,_⟩:=A; rfl) (hk:=fun h2 l2 U2 R2=>?_)
 rw [hparts] at R2 ⊢
 refine cB (hk:=fun h3 l3 U3 R3=>?_)
 refine cB (hk:=fun h4 l4 U4 R4=>?_)
 refine cB (hk:=fun h5 l5 U5 R5=>?_)
 refine cB (hk:=fun h6 l6 U6 R6=>?_)
 have U56:=U5.then U6
 have U46:=U4.then U56
 have U36:=U3.then U46
 have U26:=U2.then U36
 have U:=U1.then U26
 have R1:=R1.upd U26 fun h=>h
 have R2:=R2.upd U36 fun h=>h
 have R3:=R3.upd U46 fun h=>h
 have R4:=R4.upd U56 fun h=>h
 have R5:=R5.upd U6 fun h=>h
 have A6:eB h6 (Gd F d r) lv l:=A.upd U (fun _ _ h=>h) fun _ _ h=>h
 refine aE R3 rfl rfl (aC (aE R4 rfl rfl (aC ?_)))
 unfold Infl.thirdW at hq
 refine aI ?_ ?_ <;> intro e
 ·have e : i = n := by simp at e; omega
  rw [if_pos e] at hq
  refine aE R2 rfl rfl ?_
  refine aAW A6.rd.i (by omega) (fun x hx=>by have:=h8 x hx; omega) (fun hn e he=>?_) fun hok h7 ic sym U7 Ac=>?_
  ·simp only [cX, cW]
   rw [if_neg hn] at hq
   refine aC (aN (by simp [he]) (.inl (hq 2 h6 r ?_)))
   exact ⟨U.mono fun _ _ h=>h.elim,fun _ _ h=>h,D.ext U,rfl,rfl,rfl,rfl,.inl rfl,hd⟩
  ·simp only [cX, cW]
   rw [if_pos hok] at hq
   refine aC (aG rfl ?_)
   have V:=U.then U7
   have hU:=U.1
   have Ag:cO h7 (Gd F d r) ic l sym 0 0:={ Ac with g:=D.gd hF (Nat.le_trans hU Ac.g),gs:=fun i hi=>⟨D.gd hF (Nat.le_trans hU (Ac.gs i hi).1),(Ac.gs i hi).2⟩ }
   refine aE (R1.upd U7 fun h=>h) rfl rfl (aE (R5.upd U7 fun h=>h) rfl rfl (aC (aE (R6.upd U7 fun h=>h) rfl rfl (aC ?_))))
   refine vY (l:=[]) (by omega) hl1 hd1 (Nat.zero_le _) (fun x hx=>by cases hx) (D.ext V) (fun i hi=>hF i (Nat.le_trans V.1 hi)) hd Ag ⟨.inl ⟨rfl,rfl⟩,fun _ h=>h.elim⟩ fun e h8 r8 P=>aC (.inl (hq e h8 r8 ?_))
   exact P.from V (fun _ _ h=>h.elim) (fun _ _ h=>h) rfl rfl rfl
 ·have e : ¬ i = n := by simp at e; omega
  rw [if_neg e] at hq
  have G:∀ {i},h.length≤i→Gd F d r i∧¬ aQ lv i:=fun hi=>⟨D.gd hF hi,fun hs=>by have:=hlt _ hs; omega⟩
  refine aE R1 rfl rfl ?_
  refine eH (D.ext U) hd (c:=.third l i n lits dists) ⟨_,_,_,_,_,_,lv,rfl,A6,⟨_,rfl,R2,G (by omega)⟩,⟨_,rfl,R3,G (by omega)⟩,⟨_,rfl,R1,G (Nat.le_refl _)⟩,⟨_,rfl,R4,G (by omega)⟩,⟨_,rfl,R5,G (by omega)⟩,⟨_,rfl,R6,G (by omega)⟩⟩
   ⟨by decide,by decide,.inl (by decide),fun v hv=>⟨hl1,hd1,h19,by omega,hn,h8,hv⟩⟩ fun h7 r7 P=>aC (.inl (hq 0 h7 r7 ?_))
  exact P.from U (fun _ _ h=>h.elim) (fun _ _ h=>h) rfl rfl rfl
theorem aS8 {x lits dists:Nat} {v:AV} (D:Dec L h F d r out told) (hF:∀ i,h.length≤i→F i) (hd:r.done=false) (hc:Clo h (Gd F d r) d 0 (.p none) (.dyn3 lits dists) v) (hf:fit (.dyn3 lits dists) x)
  (hq:∀ e h' r',dE F L h F d r told (Infl.apply L r.input ⟨out,r.last,r.skip⟩ x (.dyn3 lits dists)) e h' r'→Q (.i .i64 e) h'):cL C v [iN x] h Q:=by
 obtain ⟨bd,bl,bs,rfl,B,Bl,Bs⟩:=hc
 obtain ⟨f1,f2,f3⟩:=hf
 refine dV (by decide) (Y80.call ?_)
 simp only [Y80.t,B.ld,Bl.ld,Bs.ld,mC]
 refine bZ (n:=((x+4:Nat):Int)) (by omega) (by omega) (by omega) ?_
 refine z3 (n:=19) (by decide) fun v h1 U1 A1=>?_
 have up:∀ {y z},Bx h (Gd F d r) y z→Bx h1 (Gd F d r) y z:=fun B=>B.upd U1 (fun _ _ h=>h) fun _ _ h=>h
 simp only [(up B).ld,(up Bl).ld,(up Bs).ld,mC,vS,true_and]
 refine aKA (l:=List.replicate 19 0) (i:=0) f1 f2 (by simp) (fun x hx=>by rw [(List.mem_replicate.1 hx).2]; decide) (by omega) (by omega) (D.ext U1) (fun i hi=>hF i (Nat.le_trans U1.1 hi)) hd (A1.mono fun i _ hi=>D.gd hF hi) fun e h2 r2 P=>aC (.inl (hq e h2 r2 ?_))
 exact (P.from U1 (fun _ _ h=>h.elim) (fun _ _ h=>h) rfl rfl rfl).mono fun i _ e=>D.f i (.inl e)
theorem aF3:∀ i,i<19→Infl.order[i]? = some (Infl.order.getD i 0)∧Infl.order.getD i 0<19:=by decide
abbrev dI (h:aA):Prop:=aDU h 0 (bI Infl.order)
theorem aRH {x i n lits dists:Nat} {l:List Nat} {v:AV} (O:dI h) (D:Dec L h F d r out told) (hF:∀ i,h.length≤i→F i) (hd:r.done=false) (hc:Clo h (Gd F d r) d 0 (.p none) (.third l i n lits dists) v) (hf:fit (.third l i n lits dists) x)
  (hq:∀ e h' r',dE F L h F d r told (Infl.apply L r.input ⟨out,r.last,r.skip⟩ x (.third l i n lits dists)) e h' r'→Q (.i .i64 e) h'):cL C v [iN x] h Q:=by
 obtain ⟨bl,bi,bd,bn,bt,bs,lv,rfl,A,Bl,Bi,B,Bn,Bt,Bs⟩:=hc
 obtain ⟨f1,f2,f3,f4,f5,f6,f7⟩:=hf
 obtain ⟨o1,o2⟩:=aF3 i (by omega)
 refine dV (by decide) (Y75.call ?_)
 simp only [Y75.t,Bl.ld,Bi.ld,mC]
 rw [O.var]
 refine ⟨by omega,by omega, ?_⟩
 refine O.ld (o:=0+(i:Int).toNat * 1) (v:=iN (Infl.order.getD i 0)) rfl (by rw [Int.toNat_natCast,Nat.mul_one,Nat.zero_add]; exact qI o1) (aC ?_)
 refine A.store (by omega) fun h1 l1 U1 A1=>?_
 have up:∀ {y z},Bx h (fun i=>Gd F d r i∧¬ aQ lv i) y z→Bx h1 (fun i=>Gd F d r i∧¬ aQ lv i) y z:=fun B=>B.upd U1 (fun i hi=>hi.2) fun _ _ h=>h
 simp only [(up B).ld,(up Bl).ld,(up Bi).ld,(up Bn).ld,(up Bt).ld,(up Bs).ld,mC]
 have hlv:∀ i,aQ lv i→Gd F d r i:=fun i hi=>by obtain ⟨id,b,rfl,_,_,_,_,_,g⟩:=A; have e:id=i:=hi; exact e ▸ g
 refine inc (by omega) ?_
 refine aKA (l:=l.set (Infl.order.getD i 0) x) (i:=i+1) f1 f2 (by rw [List.length_set]; exact f3) (fun y hy=>?_) (by omega) f5 (D.upd U1 fun i hm hi=>(hlv i hi).2 hm) (fun i hi=>hF i (by omega)) hd A1 fun e h2 r2 P=>aC (.inl (hq e h2 r2 ?_))
 ·rcases List.mem_or_eq_of_mem_set hy with h | h
  ·exact f6 y h
  ·rw [h]; exact f7
 ·exact (P.mono (N:=F) fun i _ e=>D.f i (.inl e)).from U1 (fun i _ hi=>(hlv i hi).1) (fun _ _ h=>h) rfl rfl rfl
theorem wN {bd bl bt bs bc lv symc:AV} {c l:List Nat} {lits dists ic bits m x:Nat} (D:Dec L h F d r out told) (hF:∀ i,h.length≤i→F i) (hd:r.done=false) (A:cO h (Gd F d r) ic c symc 0 0) (S:Lst h (fun i=>Gd F d r i∧i≠ic∧¬ aQ symc i) lv l)
  (B:Bx h (fun i=>Gd F d r i∧¬ aQ lv i) bd (dp d)) (Bl:Bx h (fun i=>Gd F d r i∧¬ aQ lv i) bl lv) (Bt:Bx h (fun i=>Gd F d r i∧¬ aQ lv i) bt (iN lits)) (Bs:Bx h (fun i=>Gd F d r i∧¬ aQ lv i) bs (iN dists)) (Bc:Bx h (fun i=>Gd F d r i∧¬ aQ lv i) bc (cp ic))
  (hb0:0<bits) (hb:bits≤7) (hfit:∀ v,v<2 ^ bits→fit (.rep c l lits dists m x) v)
  (hq:∀ h' r',dE (· = d) L h F d r told (.wait ⟨out,r.last,r.skip⟩ (.num bits 0 0) (.rep c l lits dists m x)) 0 h' r'→Q (iN 0) h'):cL C (Fn Y64.id [bd,bl,bt,bs,bc]) [iN bits,iN m,iN x] h Q:=by
 refine dV (by decide) (Y64.call ?_)
 simp only [Y64.t]
 refine cB (hk:=fun h1 l1 U1 R1=>?_)
 refine cB (hk:=fun h2 l2 U2 R2=>?_)
 have U:=U1.then U2
 have R1:=R1.upd U2 fun h=>h
 have up:∀ {y z},Bx h (fun i=>Gd F d r i∧¬ aQ lv i) y z→Bx h2 (fun i=>Gd F d r i∧¬ aQ lv i) y z:=fun B=>B.upd U (fun _ _ h=>h) fun _ _ h=>h
 have G:∀ {i},h.length≤i→Gd F d r i∧¬ aQ lv i:=fun hi=>⟨D.gd hF hi,fun hs=>by have:=S.1.lt hs; omega⟩
 rw [(up B).ld]
 refine eH (D.ext U) hd (c:=.rep c l lits dists m x) ⟨_,_,_,_,_,_,_,ic,symc,lv,rfl,S.upd U (fun _ _ h=>h) fun _ _ h=>h,A.upd U (fun _ _ h=>h) fun _ _ h=>h,up Bl,⟨_,rfl,R1,G (Nat.le_refl _)⟩,up Bt,up Bs,up B,up Bc,⟨_,rfl,R2,G (by omega)⟩⟩
  ⟨by omega,by simp,.inl hb0,hfit⟩ fun h3 r3 P=>aC (.inl (hq h3 r3 ?_))
 exact P.from U (fun _ _ h=>h.elim) (fun _ _ h=>h) rfl rfl rfl
theorem aTJ {x ic lits dists : Nat} {sym : AV} {c l : List Nat} {v : AV} (D : Dec L h F d r out told) (hF : ∀ i, h.length ≤ i → F i) (hd : r.done = false) (A : cO h (Gd F d r) ic c sym 0 0) (hc : Clo h (fun i => Gd F d r i ∧ i ≠ ic) d ic sym (.lens c l lits dists) v) (hf : fit (.lens c l lits dists) x)
  (hq:∀ e h' r',dE F L h F d r told (Infl.apply L r.input ⟨out,r.last,r.skip⟩ x (.lens c l lits dists)) e h' r'→Q (.i .i64 e) h'):cL C v [iN x] h Q:=by
 obtain ⟨bd,bc,bl,bt,bs,br,lv,rfl,S0,hns,B,Bc,Bl,Bt,Bs,Br⟩:=hc
 obtain ⟨f0,f1,f2,f3,f4,f5⟩:=hf
 have S:Lst h (fun i=>Gd F d r i∧i≠ic∧¬ aQ sym i) lv l:=⟨S0.1,fun i hi=>⟨(S0.2 i hi).1,(S0.2 i hi).2,hns i hi⟩⟩
 have w:∀ {y z},Bx h (fun i=>(Gd F d r i∧i≠ic)∧¬ aQ lv i) y z→Bx h (fun i=>Gd F d r i∧¬ aQ lv i) y z:=fun B=>B.upd (Upd.refl (fun _=>False) h) (fun _ _ h=>h) fun i _ hi=>⟨hi.1.1,hi.2⟩
 have B:=w B
 have Bc:=w Bc
 have Bl:=w Bl
 have Bt:=w Bt
 have Bs:=w Bs
 have Br:=w Br
 have hFd:∀ i,h.length≤i→F i:=hF
 refine dV (by decide) (Y49.call ?_)
 simp only [Y49.t, ← Y49.p0.eq_1]
 simp only [Infl.apply] at hq
 refine aI ?_ ?_ <;> intro e0
 ·have e0 : x < 16 := by simp at e0; omega
  rw [if_pos e0] at hq
  simp only [B.ld,Bc.ld,Bl.ld,Bt.ld,Bs.ld,mC]
  refine dH (cs:=bI [x]) rfl rfl fun y h1 l1 U1 R1 F1=>?_
  have up:∀ {y z},Bx h (fun i=>Gd F d r i∧¬ aQ lv i) y z→Bx h1 (fun i=>Gd F d r i∧¬ aQ lv i) y z:=fun B=>B.upd U1 (fun _ _ h=>h) fun _ _ h=>h
  simp only [(up B).ld,(up Bc).ld,(up Bl).ld,(up Bt).ld,(up Bs).ld,mC,vS,true_and]
  have S1:Exa h1 lv l:=S.1.upd U1 fun _ _ h=>h
  refine S1.app (ns:=[x]) (fun K hk=>R1.news hk) Nat.one_pos (by simp; omega) fun lv' h2 U2 S2 N2=>?_
  have up2:∀ {y z},Bx h (fun i=>Gd F d r i∧¬ aQ lv i) y z→Bx h2 (fun i=>Gd F d r i∧¬ aQ lv i) y z:=fun B=>(up B).upd U2 (fun i hi=>hi.2) fun _ _ h=>h
  simp only [(up2 B).ld,(up2 Bc).ld,(up2 Bt).ld,(up2 Bs).ld,mC,vS,true_and]
  have U:Upd (aQ lv) h h2:=(U1.mono fun _ _ h=>h.elim).trans U2 fun _ _ h=>h
  have hic:=A.recd.lt
  refine vY (l:=l++[x]) f0 f1 f2 (by simp; omega) (fun y hy=>?_) (D.upd U fun i hm hi=>(S.2 i hi).1.2 hm) (fun i hi=>hF i (Nat.le_trans U.1 hi)) hd { A with recd:=A.recd.upd U fun hs=>(S.2 ic hs).2.1 rfl,syms:=A.syms.upd U fun i hi hs=>(S.2 i hs).2.2 hi,gs:=fun i hi=>⟨(A.gs i hi).1,(A.gs i hi).2.1,Nat.lt_of_lt_of_le (A.gs i hi).2.2 U.1⟩ } ⟨S2,fun i hi=>?_⟩ fun e h3 r3 P=>aC (.inl (hq e h3 r3 ?_))
  ·rcases List.mem_append.1 hy with h | h
   ·exact f4 y h
   ·simp at h; omega
  ·rcases N2 i hi with g | g
   ·exact S.2 i g
   ·have := U1.1
    exact ⟨D.gd hF (by omega),by omega,fun hs=>by have:=(A.gs i hs).2.2; omega⟩
  ·exact (P.mono (N:=F) fun i _ e=>D.f i (.inl e)).from U (fun i _ hi=>(S.2 i hi).1.1) (fun _ _ h=>h) rfl rfl rfl
 ·have e0 : ¬ x < 16 := by simp at e0; omega
  rw [if_neg e0] at hq
  have P0 : ∀ t, t = decide (x = 16 ∧ l = []) → Y49.p0 (aH h Q) x bl br t h := fun t ht => by
   refine Y49.i0 ?_
   simp only [Y49.t0]
   by_cases h16:x=16
   ·rw [if_pos h16] at hq
    by_cases hl:l=[]
    ·rw [if_pos hl] at hq
     refine aN (by rw [ht]; exact decide_eq_true ⟨h16,hl⟩) (.inl (hq 2 h r ?_))
     exact ⟨Upd.refl _ _,fun _ _ h=>h,D,rfl,rfl,rfl,rfl,.inl rfl,hd⟩
    ·rw [if_neg hl] at hq
     refine aG (by rw [ht]; exact decide_eq_false fun hh=>hl hh.2) (aN (by simp; omega) ?_)
     have hpos:0<l.length:=List.length_pos_iff.2 hl
     simp only [Bl.ld,Br.ld]
     refine S.1.rd.len (bZ (n:=((l.length - 1:Nat):Int)) (by omega) (by omega) (by omega) ?_)
     have hlast:l[l.length - 1]? = some (l.getLastD 0):=by
      rw [List.getLastD_eq_getLast?,List.getLast?_eq_getElem?]
      rw [List.getElem?_eq_getElem (by omega)] <;> rfl
     have hx16:=f4 _ (List.mem_of_getElem? hlast)
     refine dJ S.1.rd.i hlast ?_
     refine wN (bits:=2) (m:=3) D hF hd A S B Bl Bt Bs Bc (by decide) (by decide) (fun v hv=>⟨f0,f1,f2,f3,f4,hx16,by decide,by omega⟩) fun h1 r1 P=>aC (.inl (hq 0 h1 r1 (P.mono fun i _ e=>D.f i (.inl e))))
   ·rw [if_neg h16] at hq
    refine aG (by rw [ht]; exact decide_eq_false fun hh=>h16 hh.1) (aG (by simp; omega) ?_)
    refine aI ?_ ?_ <;> intro e1
    ·have e1 : x = 17 := by simp at e1; omega
     rw [if_pos e1] at hq
     simp only [Br.ld]
     refine wN (bits:=3) (m:=3) (x:=0) D hF hd A S B Bl Bt Bs Bc (by decide) (by decide) (fun v hv=>⟨f0,f1,f2,f3,f4,by decide,by decide,by omega⟩) fun h1 r1 P=>aC (.inl (hq 0 h1 r1 (P.mono fun i _ e=>D.f i (.inl e))))
    ·have e1 : ¬ x = 17 := by simp at e1; omega
     rw [if_neg e1] at hq
     simp only [Br.ld]
     refine wN (bits:=7) (m:=11) (x:=0) D hF hd A S B Bl Bt Bs Bc (by decide) (by decide) (fun v hv=>⟨f0,f1,f2,f3,f4,by decide,by decide,by omega⟩) fun h1 r1 P=>aC (.inl (hq 0 h1 r1 (P.mono fun i _ e=>D.f i (.inl e))))
  refine aI ?_ ?_ <;> intro e1
  ·have e1 : x = 16 := by simp at e1; omega
   simp only [Bl.ld]
   refine S.1.rd.len (P0 _ ?_)
   rw [decide_eq_decide]
   constructor
   ·intro hh; exact ⟨e1,List.eq_nil_of_length_eq_zero (by omega)⟩
   ·rintro ⟨_,rfl⟩; rfl
  ·have e1 : ¬ x = 16 := by simp at e1; omega
   exact P0 _ (decide_eq_false fun hh=>e1 hh.1).symm
theorem aVE {x lits dists m y : Nat} {c l : List Nat} {v : AV} (D : Dec L h F d r out told) (hF : ∀ i, h.length ≤ i → F i) (hd : r.done = false) (hc : Clo h (Gd F d r) d 0 (.p none) (.rep c l lits dists m y) v) (hf : fit (.rep c l lits dists m y) x)
  (hq:∀ e h' r',dE F L h F d r told (Infl.apply L r.input ⟨out,r.last,r.skip⟩ x (.rep c l lits dists m y)) e h' r'→Q (.i .i64 e) h'):cL C v [iN x] h Q:=by
 obtain ⟨bl,bm,bt,bs,bd,bc,bx,ic,symc,lv,rfl,S,A,Bl,Bm,Bt,Bs,B,Bc,Bx'⟩:=hc
 obtain ⟨f0,f1,f2,f3,f4,f5,f6,f7⟩:=hf
 refine dV (by decide) (Y69.call ?_)
 simp only [Y69.t,B.ld,Bc.ld,Bl.ld,Bm.ld,Bt.ld,Bs.ld,Bx'.ld,mC]
 simp only [Infl.apply] at hq
 refine S.1.rd.len ?_
 refine bZ (n:=((l.length+m:Nat):Int)) (by omega) (by omega) (by omega) ?_
 refine bZ (n:=((l.length+(m+x):Nat):Int)) (by omega) (by omega) (by omega) ?_
 refine bZ (n:=((lits+dists:Nat):Int)) (by omega) (by omega) (by omega) ?_
 refine aI ?_ ?_ <;> intro e0
 ·have e0 : lits + dists < l.length + (m + x) := by simp at e0; omega
  rw [if_pos e0] at hq
  exact .inl (hq 2 h r ⟨Upd.refl _ _,fun _ _ h=>h,D,rfl,rfl,rfl,rfl,.inl rfl,hd⟩)
 ·have e0 : ¬ lits + dists < l.length + (m + x) := by simp at e0; omega
  rw [if_neg e0] at hq
  refine bZ (n:=((m+x:Nat):Int)) (by omega) (by omega) (by omega) ?_
  refine dH (cs:=bI [y]) rfl rfl fun z h1 l1 U1 R1 F1=>?_
  have up:∀ {y z},Bx h (fun i=>Gd F d r i∧¬ aQ lv i) y z→Bx h1 (fun i=>Gd F d r i∧¬ aQ lv i) y z:=fun B=>B.upd U1 (fun _ _ h=>h) fun _ _ h=>h
  simp only [(up B).ld,(up Bc).ld,(up Bl).ld,(up Bm).ld,(up Bt).ld,(up Bs).ld,(up Bx').ld,mC,vS,true_and]
  refine aHB R1.i (by omega) (by omega) fun h2 z2 U2 A2=>?_
  have U12:=U1.then U2
  have up2:∀ {y z},Bx h (fun i=>Gd F d r i∧¬ aQ lv i) y z→Bx h2 (fun i=>Gd F d r i∧¬ aQ lv i) y z:=fun B=>B.upd U12 (fun _ _ h=>h) fun _ _ h=>h
  simp only [(up2 B).ld,(up2 Bc).ld,(up2 Bl).ld,(up2 Bm).ld,(up2 Bt).ld,(up2 Bs).ld,(up2 Bx').ld,mC,vS,true_and]
  have S2:Exa h2 lv l:=S.1.upd U12 fun _ _ h=>h
  refine S2.app (ns:=List.replicate (m+x) y) (fun K hk=>A2.rd.i.news hk) (by simp; omega) (by simp; omega) fun lv' h3 U3 S3 N3=>?_
  have up3:∀ {y z},Bx h (fun i=>Gd F d r i∧¬ aQ lv i) y z→Bx h3 (fun i=>Gd F d r i∧¬ aQ lv i) y z:=fun B=>(up2 B).upd U3 (fun i hi=>hi.2) fun _ _ h=>h
  simp only [(up3 B).ld,(up3 Bc).ld,(up3 Bl).ld,(up3 Bm).ld,(up3 Bt).ld,(up3 Bs).ld,(up3 Bx').ld,mC,vS,true_and]
  have U:Upd (aQ lv) h h3:=(U12.mono fun _ _ h=>h.elim).trans U3 fun _ _ h=>h
  have hic:=A.recd.lt
  refine vY (l:=l++List.replicate (m+x) y) f0 f1 f2 (by simp; omega) (fun y' hy=>?_) (D.upd U fun i hm hi=>(S.2 i hi).1.2 hm) (fun i hi=>hF i (Nat.le_trans U.1 hi)) hd { A with recd:=A.recd.upd U fun hs=>(S.2 ic hs).2.1 rfl,syms:=A.syms.upd U fun i hi hs=>(S.2 i hs).2.2 hi,gs:=fun i hi=>⟨(A.gs i hi).1,(A.gs i hi).2.1,Nat.lt_of_lt_of_le (A.gs i hi).2.2 U.1⟩ } ⟨S3,fun i hi=>?_⟩ fun e h4 r4 P=>aC (.inl (hq e h4 r4 ?_))
  ·rcases List.mem_append.1 hy with h | h
   ·exact f4 y' h
   ·rw [(List.mem_replicate.1 h).2]; exact f5
  ·rcases N3 i hi with g | g
   ·exact S.2 i g
   ·have := U12.1
    exact ⟨D.gd hF (by omega),by omega,fun hs=>by have:=(A.gs i hs).2.2; omega⟩
  ·exact (P.mono (N:=F) fun i _ e=>D.f i (.inl e)).from U (fun i _ hi=>(S.2 i hi).1.1) (fun _ _ h=>h) rfl rfl rfl
end
end Go.Proofs.YtfoekpcljhbijaaGreatDoor
namespace Go.Proofs.YtfoekpcljhbijaaGreatDoor
open Go.GAM
open Go.Infl (bG cG bS Out Lim)
section
variable [XR] {h:aA} {Q:AV→aA→Prop} {v:AV} {l:List Nat}
theorem aJA (R:RdI 1 h v (bI l) l.length) (hl:l.length≤320) (hq:Q (iN (Huff.used l)) h) {h0':aA}:∀ (m i:Nat),i+m=l.length→Y23.p0 (aH h0' Q) v (Huff.used (l.take i)) i h:=by
 intro m
 induction m with
 | zero =>
  intro i hi
  obtain rfl:i=l.length:=by omega
  rw [List.take_length]
  refine Y23.i0 ?_
  simp only [Y23.t0]
  exact R.len (aG (by simp) (.inl hq))
 | succ m ih =>
  intro i hi
  obtain ⟨x,hx⟩:∃ x,l[i]? = some x:=⟨_,List.getElem?_eq_getElem (by omega)⟩
  have nxt:=ih (i+1) (by omega)
  rw [gT hx,aB0] at nxt
  have k2:=aK0 (l.take i)
  rw [List.length_take] at k2
  refine Y23.i0 ?_
  simp only [Y23.t0, ← Y23.p1.eq_1]
  refine R.len (aN (by simp; omega) (dJ R hx ?_))
  refine aI ?_ ?_ <;> intro e
  ·have e : 0 < x := by simp at e; omega
   rw [if_pos e] at nxt
   refine inc (by omega) (Y23.i1 ?_)
   simp only [Y23.t1, ← Y23.p0.eq_1]
   exact inc (by omega) nxt
  ·have e : ¬ 0 < x := by simp at e; omega
   rw [if_neg e] at nxt
   refine Y23.i1 ?_
   simp only [Y23.t1, ← Y23.p0.eq_1]
   exact inc (by omega) nxt
theorem aRO (R:RdI 1 h v (bI l) l.length) (hl:l.length≤320) (hq:Q (iN (Huff.used l)) h):C Y23.id [v] h Q:=by
 refine Y23.call ?_
 simp only [Y23.t, ← Y23.p0.eq_1]
 exact aJA R hl hq l.length 0 (by omega)
def fI (n:Nat):Int:=match n with
 | 0=>0
 | 1=>2
 | _=>1
theorem nJ {h0':aA} {e:Bool} (he:e=decide (Huff.kr l 15=32768∨Huff.used l=0∨Huff.used l=1∧Huff.kr l 15=16384)) (hk:Huff.kr l 15≤32768) (hq:Q (.i .i64 (fI (Huff.checkR l))) h):Y7.p3 (aH h0' Q) e h:=by
 refine Y7.i3 ?_
 simp only [Y7.t3]
 unfold Huff.checkR at hq
 rw [if_neg (show ¬ 2 ^ 15<Huff.kr l 15 by omega)] at hq
 by_cases hc:Huff.kr l 15=2 ^ 15∨Huff.used l=0∨Huff.used l=1∧Huff.kr l 15=2 ^ 14
 ·rw [if_pos hc] at hq
  exact aN (by rw [he]; exact decide_eq_true hc) (.inl hq)
 ·rw [if_neg hc] at hq
  exact aG (by rw [he]; exact decide_eq_false hc) (.inl hq)
theorem aG9 {h0' : aA} (R : RdI 1 h v (bI l) l.length) (hl : l.length ≤ 320) (h15 : ∀ x ∈ l, x ≤ 15) (hq : Q (.i .i64 (fI (Huff.checkR l))) h) : ∀ (m i : Nat), i + m = l.length → Y7.p0 (aH h0' Q) v (Huff.kr (l.take i) 15) i h := by
 intro m
 induction m with
 | zero =>
  intro i hi
  obtain rfl:i=l.length:=by omega
  rw [List.take_length]
  refine Y7.i0 ?_
  simp only [Y7.t0, ← Y7.p3.eq_1]
  refine R.len (aG (by simp) (aRO R hl (aC ?_)))
  refine aI ?_ ?_ <;> intro e
  ·have e : 32768 < Huff.kr l 15 := by simp at e; omega
   unfold Huff.checkR at hq
   rw [if_pos (show 2 ^ 15<Huff.kr l 15 from e)] at hq
   exact .inl hq
  ·have e : Huff.kr l 15 ≤ 32768 := by simp at e; omega
   refine aI ?_ ?_ <;> intro e1
   ·refine nJ ?_ e hq
    simp only [decide_eq_true_eq] at e1
    exact (decide_eq_true (by omega)).symm
   ·simp only [decide_eq_false_iff_not] at e1
    refine aI ?_ ?_ <;> intro e2
    ·simp only [decide_eq_true_eq] at e2
     exact nJ (decide_eq_true (by omega)).symm e hq
    ·simp only [decide_eq_false_iff_not] at e2
     refine aI ?_ ?_ <;> intro e3
     ·simp only [decide_eq_true_eq] at e3
      refine nJ ?_ e hq
      rw [decide_eq_decide]; omega
     ·simp only [decide_eq_false_iff_not] at e3
      exact nJ (decide_eq_false (by omega)).symm e hq
 | succ m ih =>
  intro i hi
  obtain ⟨x,hx⟩:∃ x,l[i]? = some x:=⟨_,List.getElem?_eq_getElem (by omega)⟩
  have hx15:x≤15:=h15 x (List.mem_of_getElem? hx)
  have nxt:=ih (i+1) (by omega)
  rw [gT hx,aE6] at nxt
  have k1:=aPV (L:=15) (l.take i)
  rw [List.length_take] at k1
  have k3:min i l.length * 2 ^ 15≤320 * 32768:=Nat.mul_le_mul (by omega) (by decide)
  refine Y7.i0 ?_
  simp only [Y7.t0, ← Y7.p1.eq_1]
  refine R.len (aN (by simp; omega) (dJ R hx (aG (by simp) (dJ R hx ?_))))
  refine Y7.i1 ?_
  simp only [Y7.t1, ← Y7.p2.eq_1]
  refine aG (by simp; omega) (dJ R hx ?_)
  refine aI ?_ ?_ <;> intro e
  ·have e : 0 < x := by simp at e; omega
   rw [if_pos ⟨e,hx15⟩] at nxt
   have hp:2 ^ (15 - x)≤32768:=Nat.pow_le_pow_right (n:=2) (by decide) (show 15 - x≤15 by omega)
   refine dJ R hx ?_
   refine bZ (n:=((15 - x:Nat):Int)) (by omega) (by omega) (by omega) ?_
   rw [wrap_u64 (by omega) (by omega)]
   have sh:∀ K:Int→Prop,K ((2 ^ (15 - x):Nat):Int)→mU .i64 1 ((15 - x:Nat):Int) K:=fun K hk=>fW (a:=1) (b:=15 - x) (by omega) (by rw [Nat.one_mul]; omega) (by rw [Nat.one_mul]; exact hk)
   refine sh _ ?_
   generalize 2 ^ (15 - x)=pw at hp nxt
   refine bZ (n:=((Huff.kr (l.take i) 15+pw:Nat):Int)) (by omega) (by omega) (by omega) ?_
   refine Y7.i2 ?_
   simp only [Y7.t2, ← Y7.p0.eq_1]
   exact inc (by omega) nxt
  ·have e : x = 0 := by simp at e; omega
   subst e
   rw [if_neg (by omega),Nat.add_zero] at nxt
   refine Y7.i2 ?_
   simp only [Y7.t2, ← Y7.p0.eq_1]
   exact inc (by omega) nxt
theorem pL (R:RdI 1 h v (bI l) l.length) (hl:l.length≤320) (h15:∀ x∈l,x≤15) (hq:Q (.i .i64 (fI (Huff.checkP l))) h):C Y7.id [v] h Q:=by
 rw [Huff.check_eq h15] at hq
 refine Y7.call ?_
 simp only [Y7.t, ← Y7.p0.eq_1]
 refine R.len (aG (by simp; omega) ?_)
 exact aG9 R hl h15 hq l.length 0 (by omega)
end
def pE (l:List Nat) (n i:Nat):List Nat:=(List.range l.length).map fun j=>if 0<l.getD j 0∧(l.getD j 0<n∨l.getD j 0=n∧j<i) then Huff.codeAt l j else 0
theorem aAF (l:List Nat) (n i:Nat):(pE l n i).length=l.length:=by simp [pE]
theorem yT {l:List Nat} {n i j:Nat} (h:j<l.length):(pE l n i)[j]? = some (if 0<l.getD j 0∧(l.getD j 0<n∨l.getD j 0=n∧j<i) then Huff.codeAt l j else 0):=by simp [pE,h]
theorem wR {l:List Nat} {n i j:Nat} (h:¬ j<l.length):(pE l n i)[j]? = none:=by rw [List.getElem?_eq_none]; rw [aAF]; omega
theorem aD4 {p q:Prop} [Decidable p] [Decidable q] {a b:Nat} (h:p↔q):(if p then a else b)=if q then a else b:=by
 by_cases hp:p
 ·rw [if_pos hp,if_pos (h.1 hp)]
 ·rw [if_neg hp,if_neg fun x=>hp (h.2 x)]
theorem aPJ {l:List Nat} {n i:Nat} (hi:i<l.length) (h0:0<n) (hn:l.getD i 0=n):(pE l n i).set i (Huff.codeAt l i)=pE l n (i+1):=by
 refine List.ext_getElem? fun j=>?_
 rw [List.getElem?_set]
 by_cases hj:j<l.length
 ·have a1 := yT (n := n) (i := i + 1) hj
  have a2:=yT (n:=n) (i:=i) hj
  rw [a1,a2]
  by_cases e:i=j
  ·subst e
   rw [if_pos rfl,if_pos (by rw [aAF]; exact hj),if_pos ⟨by omega,.inr ⟨hn,by omega⟩⟩]
  ·rw [if_neg e]
   congr 1
   exact aD4 ⟨fun h=>⟨h.1,h.2.imp id fun h=>⟨h.1,by omega⟩⟩,fun h=>⟨h.1,h.2.imp id fun h=>⟨h.1,by omega⟩⟩⟩
 ·rw [wR hj,if_neg (by omega),wR hj]
theorem aLN {l:List Nat} {n i:Nat} (hn:l.getD i 0≠n):pE l n (i+1)=pE l n i:=by
 refine List.map_congr_left fun j _=>aD4 ?_
 refine ⟨fun h=>⟨h.1,h.2.imp id fun h=>⟨h.1, ?_⟩⟩,fun h=>⟨h.1,h.2.imp id fun h=>⟨h.1,by omega⟩⟩⟩
 rcases Nat.lt_or_ge j i with g | g
 ·exact g
 ·have : j = i := by omega
  exact absurd (this ▸ h.1) hn
theorem aLX (l:List Nat) (n:Nat):pE l (n+1) 0=pE l n l.length:=by
 refine List.map_congr_left fun j hj=>aD4 ?_
 have hj:=List.mem_range.1 hj
 omega
theorem aMK (l:List Nat):pE l 1 0=List.replicate l.length 0:=by
 refine List.ext_getElem? fun j=>?_
 by_cases hj:j<l.length
 ·rw [yT hj,if_neg (by omega),List.getElem?_replicate,if_pos hj]
 ·rw [wR hj,List.getElem?_replicate,if_neg hj]
def wF (l:List Nat):List Nat:=pE l 16 0
theorem aCC {l:List Nat} {j:Nat} (h:j<l.length) (h0:0<l.getD j 0) (h15:l.getD j 0≤15):(wF l)[j]? = some (Huff.codeAt l j):=by
 unfold wF
 rw [yT h,if_pos ⟨h0,.inl (by omega)⟩]
section
variable [XR] {h:aA} {Q:AV→aA→Prop} {v:AV} {l:List Nat}
theorem aOC (l:List Nat) (i n:Nat):(l.take i).countP (· == n)≤l.length:=Nat.le_trans List.countP_le_length (by simp; omega)
theorem aK1 {h0 h0':aA} (hl:l.length≤320) (R0:RdI 1 h0 v (bI l) l.length) {n:Nat} (hn0:0<n) (hn:n≤15) {w:AV}
  (hq:∀ h',Upd (fun _=>False) h0 h'→eB h' (fun i=>h0.length≤i) w (pE l n l.length)→Y9.p1 (aH h0' Q) v w (Huff.fin l n) ((n+1:Nat):Int) h') :
  ∀ (m i:Nat) (h:aA),i+m=l.length→Upd (fun _=>False) h0 h→eB h (fun i=>h0.length≤i) w (pE l n i)→Y9.p2 (aH h0' Q) v w ((Huff.fst l n+(l.take i).countP (· == n):Nat):Int) n i h:=by
 intro m
 induction m with
 | zero =>
  intro i h hi U A
  obtain rfl:i=l.length:=by omega
  rw [List.take_length]
  refine Y9.i2 ?_
  simp only [Y9.t2, ← Y9.p1.eq_1]
  refine (R0.ext U).len (aG (by simp) (inc (by omega) ?_))
  have e:Huff.fst l n+l.countP (· == n)=Huff.fin l n:=by
   obtain ⟨k,rfl⟩:∃ k,n=k+1:=⟨n - 1,by omega⟩
   rfl
  rw [e]
  exact hq h U A
 | succ m ih =>
  intro i h hi U A
  obtain ⟨x,hx⟩:∃ x,l[i]? = some x:=⟨_,List.getElem?_eq_getElem (by omega)⟩
  have hg:l.getD i 0=x:=by rw [List.getD_eq_getElem?_getD,hx] <;> rfl
  have c1:=aOC l i n
  have f1:=aAS hl hn
  have nxt:∀ h',Upd (fun _=>False) h0 h'→eB h' (fun i=>h0.length≤i) w (pE l n (i+1))→Y9.p3 (aH h0' Q) v w ((Huff.fst l n+(l.take (i+1)).countP (· == n):Nat):Int) n i h':=fun h' U' A'=>by
   refine Y9.i3 ?_
   simp only [Y9.t3, ← Y9.p2.eq_1]
   exact inc (by omega) (ih (i+1) h' (by omega) U' A')
  rw [gT hx,List.countP_append] at nxt
  refine Y9.i2 ?_
  simp only [Y9.t2, ← Y9.p3.eq_1]
  refine (R0.ext U).len (aN (by simp; omega) (dJ (R0.ext U) hx ?_))
  refine aI ?_ ?_ <;> intro e
  ·have e : x = n := by simp at e; omega
   subst e
   refine A.store (by rw [aAF]; omega) fun h1 l1 U1 A1=>inc (by omega) ?_
   have hc:Huff.codeAt l i=Huff.fst l x+(l.take i).countP (· == x):=by unfold Huff.codeAt; rw [hg]
   rw [← hc,aPJ (by omega) hn0 hg] at A1
   have hown:∀ j,aQ w j→h0.length≤j:=fun j hj=>by obtain ⟨id,b,rfl,_,_,_,_,_,g⟩:=A; have e:id=j:=hj; exact e ▸ g
   have:=nxt h1 (U.ownP U1 hown) A1
   simpa [Nat.add_assoc] using this
  ·have e : ¬ x = n := by simp at e; omega
   have:=nxt h U (by rw [aLN (by rw [hg]; exact e)]; exact A)
   simpa [e] using this
theorem aH5 {h0 h0':aA} (hl:l.length≤320) (R0:RdI 1 h0 v (bI l) l.length) {w:AV} (hq:∀ h',Upd (fun _=>False) h0 h'→eB h' (fun i=>h0.length≤i) w (wF l)→Q w h') :
  ∀ (m n:Nat) (h:aA),n+1+m=16→Upd (fun _=>False) h0 h→eB h (fun i=>h0.length≤i) w (pE l (n+1) 0)→Y9.p1 (aH h0' Q) v w (Huff.fin l n) ((n+1:Nat):Int) h:=by
 intro m
 induction m with
 | zero =>
  intro n h hn U A
  obtain rfl:n=15:=by omega
  refine Y9.i1 ?_
  simp only [Y9.t1]
  exact aG (by simp) (.inl (hq h U A))
 | succ m ih =>
  intro n h hn U A
  have f1:=aAS hl (n:=n+1) (by omega)
  have f2:Huff.fst l (n+1)=2 * Huff.fin l n:=rfl
  refine Y9.i1 ?_
  simp only [Y9.t1, ← Y9.p2.eq_1]
  refine aN (by simp; omega) ?_
  refine bZ (n:=((Huff.fst l (n+1)+(l.take 0).countP (· == n+1):Nat):Int)) (by simp; omega) (by omega) (by simp; omega) ?_
  refine aK1 hl R0 (n:=n+1) (by omega) (by omega) (fun h' U' A'=>?_) l.length 0 h (by omega) U A
  exact ih (n+1) h' (by omega) U' (by rw [aLX]; exact A')
theorem aPG (R:RdI 1 h v (bI l) l.length) (hl:l.length≤320) (h15:∀ x∈l,x≤15) (hok:Huff.checkP l≠1) (hq:∀ h' w,Upd (fun _=>False) h h'→eB h' (fun i=>h.length≤i) w (wF l)→Q w h'):C Y9.id [v] h Q:=by
 have P0:Y9.p0 (aH h Q) v false h:=by
  refine Y9.i0 ?_
  simp only [Y9.t0, ← Y9.p1.eq_1]
  refine aG rfl (R.len ?_)
  refine z3 (by omega) fun w h1 U1 A1=>?_
  have:=aH5 hl R (w:=w) (fun h' U A=>hq h' w U A) 15 0 h1 (by omega) U1 (by rw [aMK]; exact A1) (h0':=h)
  exact this
 refine Y9.call ?_
 simp only [Y9.t, ← Y9.p0.eq_1]
 refine pL R hl h15 (aC ?_)
 have hck:fI (Huff.checkP l)=0∨fI (Huff.checkP l)=1:=by
  unfold fI
  split
  ·exact .inl rfl
  ·rename_i e; exact absurd e hok
  ·exact .inr rfl
 rcases hck with e | e
 ·rw [e]; exact aG rfl P0
 ·rw [e]; exact aN rfl P0
structure fN (h:aA) (G:Nat→Prop) (id:Nat) (l:List Nat) (lv cv:AV) (n x:Nat):Prop where
 recd:aZ h id [lv,cv,iN n,iN x]
 lens:RdI 1 h lv (bI l) l.length
 codes:RdI 1 h cv (bI (wF l)) (wF l).length
 g:G id
 gl:∀ i,aQ lv i→G i∧i≠id∧i<h.length
 gc:∀ i,aQ cv i→G i∧i≠id∧i<h.length
 ok:Huff.checkP l=0
 len:l.length≤320
 le:∀ x∈l,x≤15
theorem fN.upd {h h':aA} {G G' N:Nat→Prop} {id n x:Nat} {l:List Nat} {lv cv:AV} (A:fN h G id l lv cv n x) (U:Upd N h h') (hN:∀ i,G i→¬ N i) (hG:∀ i,i<h.length→G i→G' i):fN h' G' id l lv cv n x:=
 { A with recd:=A.recd.upd U (hN id A.g),lens:=A.lens.upd U fun i hi=>hN i (A.gl i hi).1,codes:=A.codes.upd U fun i hi=>hN i (A.gc i hi).1,g:=hG id A.recd.lt A.g,gl:=fun i hi=>⟨hG i (A.gl i hi).2.2 (A.gl i hi).1,(A.gl i hi).2.1,Nat.lt_of_lt_of_le (A.gl i hi).2.2 U.1⟩,gc:=fun i hi=>⟨hG i (A.gc i hi).2.2 (A.gc i hi).1,(A.gc i hi).2.1,Nat.lt_of_lt_of_le (A.gc i hi).2.2 U.1⟩ }
abbrev kp (c:Nat):AV:=.p (some ⟨c,4,0⟩)
theorem wS (R:RdI 1 h v (bI l) l.length) (hlt:∀ i,aQ v i→i<h.length) (hvk:v.parts=[v]∧v.sizeOK=true∧v.cellOK=true) (hl:l.length≤320) (h15:∀ x∈l,x≤15) (hq0:Huff.checkP l≠0→∀ e:Int,Q (.tu [.p none,.i .i64 e]) h)
  (hq:Huff.checkP l=0→∀ h' id cv,Upd (fun _=>False) h h'→fN h' (fun i=>aQ v i∨h.length≤i) id l v cv 0 0→h.length≤id→(∀ i,aQ cv i→h.length≤i)→Q (.tu [kp id,iN 0]) h'):C Y55.id [v] h Q:=by
 refine Y55.call ?_
 simp only [Y55.t]
 refine pL R hl h15 (aC ?_)
 by_cases hok:Huff.checkP l=0
 ·rw [hok]
  refine aG rfl (aPG R hl h15 (by rw [hok]; decide) fun h1 cv U1 A1=>?_)
  have hcvk:cv.parts=[cv]∧cv.sizeOK=true:=by obtain ⟨id,b,rfl,_⟩:=A1; exact ⟨rfl,rfl⟩
  have hcv:∀ i,aQ cv i→h.length≤i∧i<h1.length:=fun i hi=>by
   refine ⟨?_,A1.rd.lt hi⟩
   obtain ⟨id,b,rfl,_,_,_,_,_,g⟩:=A1
   have e:id=i:=hi
   exact e ▸ g
  refine aGX (cs:=[v,cv,iN 0,iN 0]) ?_ ?_
  ·unfold eZ
   rw [hvk.1,hvk.2.1]
   simp only [List.length_cons,List.length_nil,List.zipIdx_cons,List.zipIdx_nil,List.foldl_cons,List.foldl_nil,List.set_cons_zero,Nat.zero_add]
   unfold eZ
   rw [hcvk.1,hcvk.2]
   first | done | rfl
  refine cB (hk:=fun h2 l2 U2 R2=>.inl (hq hok h2 h1.length cv (U1.then U2) ?_ U1.1 fun i hi=>(hcv i hi).1))
  have U:=U1.then U2
  have hl1:=U1.1
  exact { recd:=R2,lens:=R.ext U,codes:=by rw [← bB]; exact (by have:=(A1.rd.i).ext U2; rw [bB]; exact this),g:=.inr U1.1,gl:=fun i hi=>⟨.inl hi,by have:=hlt i hi; omega,by have:=hlt i hi; omega⟩,gc:=fun i hi=>⟨.inr (hcv i hi).1,by have:=(hcv i hi).2; omega,by have:=(hcv i hi).2; omega⟩,ok:=hok,len:=hl,le:=h15 }
 ·have e : fI (Huff.checkP l) ≠ 0 := by
   unfold fI
   split
   ·contradiction
   ·decide
   ·decide
  exact aN (by simp [e]) (.inl (hq0 hok _))
theorem aIX {h0' : aA} {G : Nat → Prop} {id N X : Nat} {lv cv : AV} (A : fN h G id l lv cv N X) (hN0 : 0 < N) (hN : N ≤ 16) (hX : X < 2 ^ 16)
  (hq:match Huff.stepR l N X with
   | .sym i=>i<l.length→∀ h',Upd (· = id) h h'→aZ h' id [lv,cv,iN 0,iN 0]→Q (.tu [iN i,.b true,iN 0]) h'
   | .more=>Q (.tu [iN 0,.b false,iN 0]) h
   | .bad=>∀ h',Upd (· = id) h h'→aZ h' id [lv,cv,iN 0,iN 0]→Q (.tu [iN 0,.b false,iN 2]) h') :
  ∀ (m i : Nat), i + m = l.length → (∀ j, j < i → (l.getD j 0 == N && Huff.codeAt l j == X) = false) →
   Y12.p0 (aH h0' Q) (kp id) ((List.range i).any fun j=>decide (N<l.getD j 0)&&(Huff.codeAt l j >>> (l.getD j 0 - N)) == X) i h:=by
 intro m
 induction m with
 | zero =>
  intro i hi hno
  obtain rfl:i=l.length:=by omega
  have hf:(List.range l.length).find? (fun i=>l.getD i 0 == N&&Huff.codeAt l i == X)=none:=by
   rw [List.find?_eq_none]
   intro j hj
   rw [hno j (by simpa using hj)]; simp
  unfold Huff.stepR at hq
  rw [hf] at hq
  refine Y12.i0 ?_
  simp only [Y12.t0,bE,bD]
  refine aE A.recd rfl rfl (A.lens.len (aG (by simp) ?_))
  refine aI ?_ ?_ <;> intro e
  ·simp only [e, if_true] at hq
   exact .inl hq
  ·simp only [e, Bool.false_eq_true, if_false] at hq
   refine aJ A.recd rfl (ltr rfl) (hk:=fun h1 l1 U1 R1=>?_)
   refine aJ R1 rfl (ltr rfl) (hk:=fun h2 l2 U2 R2=>.inl (hq h2 (U1.trans U2 fun _ _ h=>h) R2))
 | succ m ih =>
  intro i hi hno
  obtain ⟨y,hy⟩:∃ y,l[i]? = some y:=⟨_,List.getElem?_eq_getElem (by omega)⟩
  have hg:l.getD i 0=y:=by rw [List.getD_eq_getElem?_getD,hy] <;> rfl
  have hy15:=A.le y (List.mem_of_getElem? hy)
  have hil:i<l.length:=aV hy
  have hcb:Huff.codeAt l i<2 ^ 40:=by
   unfold Huff.codeAt
   rw [hg]
   have:=aAS A.len hy15
   have h2:(l.take i).countP (· == y)≤l.length:=Nat.le_trans List.countP_le_length (by simp; omega)
   have:=A.len
   omega
  have nxt:∀ t,t=((List.range i).any (fun j=>decide (N<l.getD j 0)&&(Huff.codeAt l j >>> (l.getD j 0 - N)) == X)||(decide (N<y)&&(Huff.codeAt l i >>> (y - N)) == X))→(l.getD i 0 == N&&Huff.codeAt l i == X)=false→Y12.p3 (aH h0' Q) (kp id) t i h:=fun t ht hne=>by
   refine Y12.i3 ?_
   simp only [Y12.t3, ← Y12.p0.eq_1]
   refine inc (by have:=A.len; omega) ?_
   have:=ih (i+1) (by omega) fun j hj=>by
    by_cases e:j=i
    ·rw [e]; exact hne
    ·exact hno j (by omega)
   rw [List.range_succ,List.any_append] at this
   simp only [List.any_cons,List.any_nil,Bool.or_false,hg] at this
   rw [ht]; exact this
  have P1:∀ t,t=(l.getD i 0 == N&&Huff.codeAt l i == X)→Y12.p1 (aH h0' Q) (kp id) ((List.range i).any fun j=>decide (N<l.getD j 0)&&(Huff.codeAt l j >>> (l.getD j 0 - N)) == X) i t h:=fun t ht=>by
   refine Y12.i1 ?_
   simp only [Y12.t1,bE,bD, ← Y12.p2.eq_1]
   refine aI ?_ ?_ <;> intro e
   ·have hf : (List.range l.length).find? (fun i => l.getD i 0 == N && Huff.codeAt l i == X) = some i := by
     rw [List.find?_range_eq_some]
     refine ⟨by rw [← ht]; exact e,by simpa using hil,fun j hj=>by rw [hno j hj] <;> rfl⟩
    unfold Huff.stepR at hq
    rw [hf] at hq
    refine aJ A.recd rfl (ltr rfl) (hk:=fun h1 l1 U1 R1=>?_)
    refine aJ R1 rfl (ltr rfl) (hk:=fun h2 l2 U2 R2=>.inl (hq hil h2 (U1.trans U2 fun _ _ h=>h) R2))
   ·refine aE A.recd rfl rfl (dJ A.lens hy ?_)
    refine aE A.recd rfl rfl (aC ?_)
    have hne:(l.getD i 0 == N&&Huff.codeAt l i == X)=false:=by rw [← ht]; exact e
    have P2:∀ t,t=(decide (N<y)&&(Huff.codeAt l i >>> (y - N)) == X)→Y12.p2 (aH h0' Q) (kp id) ((List.range i).any fun j=>decide (N<l.getD j 0)&&(Huff.codeAt l j >>> (l.getD j 0 - N)) == X) i t h:=fun t ht=>by
     refine Y12.i2 ?_
     simp only [Y12.t2, ← Y12.p3.eq_1]
     refine aI ?_ ?_ <;> intro e
     ·exact nxt true (by rw [← ht,e]; simp) hne
     ·exact nxt _ (by rw [← ht,e]; simp) hne
    refine aI ?_ ?_ <;> intro e2
    ·have e2 : N < y := by simp at e2; omega
     refine aE A.recd rfl rfl (dJ A.codes (aCC hil (by omega) (by omega)) ?_)
     refine aE A.recd rfl rfl (dJ A.lens hy ?_)
     refine aE A.recd rfl rfl (aC ?_)
     refine bZ (n:=((y - N:Nat):Int)) (by omega) (by omega) (by omega) ?_
     rw [wrap_u64 (by omega) (by omega)]
     refine aEM (a:=Huff.codeAt l i) (b:=y - N) (by show y - N≤64; omega) ?_
     refine aE A.recd rfl rfl (aC (P2 _ ?_))
     rw [decide_eq_true e2,Bool.true_and,Nat.shiftRight_eq_div_pow,Bool.eq_iff_iff]
     generalize Huff.codeAt l i / 2 ^ (y - N)=z
     simp; omega
    ·have e2 : ¬ N < y := by simp at e2; omega
     exact P2 _ (by rw [decide_eq_false e2] <;> rfl)
  refine Y12.i0 ?_
  simp only [Y12.t0,bE,bD, ← Y12.p1.eq_1]
  refine aE A.recd rfl rfl (A.lens.len (aN (by simp; omega) ?_))
  refine aE A.recd rfl rfl (dJ A.lens hy ?_)
  refine aE A.recd rfl rfl (aC ?_)
  refine aI ?_ ?_ <;> intro e
  ·have e : y = N := by simp at e; omega
   refine aE A.recd rfl rfl (dJ A.codes (aCC hil (by omega) (by omega)) ?_)
   refine aE A.recd rfl rfl (aC (P1 _ ?_))
   rw [hg,e,beq_self_eq_true,Bool.true_and,Bool.eq_iff_iff]
   simp; omega
  ·have e : ¬ y = N := by simp at e; omega
   refine P1 _ ?_
   rw [hg]
   simp [e]
theorem aR8 {G:Nat→Prop} {id n x b:Nat} {lv cv:AV} (A:fN h G id l lv cv n x) (hn:n≤15) (hx:x<2 ^ n) (hb:b<2)
  (hq:∀ h',Upd (· = id) h h'→match Huff.stepR l (n+1) (2 * x+b) with
   | .sym i=>i<l.length→fN h' G id l lv cv 0 0→Q (.tu [iN i,.b true,iN 0]) h'
   | .more=>fN h' G id l lv cv (n+1) (2 * x+b)→Q (.tu [iN 0,.b false,iN 0]) h'
   | .bad=>fN h' G id l lv cv 0 0→Q (.tu [iN 0,.b false,iN 2]) h'):C Y12.id [kp id,iN b] h Q:=by
 have hx15:x<2 ^ 15:=Nat.lt_of_lt_of_le hx (Nat.pow_le_pow_right (by decide) hn)
 have mk:∀ {h1 n' x'},Upd (· = id) h h1→aZ h1 id [lv,cv,iN n',iN x']→fN h1 G id l lv cv n' x':=fun {h1 n' x'} U R=>{ A with recd:=R,lens:=A.lens.upd U fun i hi e=>(A.gl i hi).2.1 e,codes:=A.codes.upd U fun i hi e=>(A.gc i hi).2.1 e,gl:=fun i hi=>⟨(A.gl i hi).1,(A.gl i hi).2.1,Nat.lt_of_lt_of_le (A.gl i hi).2.2 U.1⟩,gc:=fun i hi=>⟨(A.gc i hi).1,(A.gc i hi).2.1,Nat.lt_of_lt_of_le (A.gc i hi).2.2 U.1⟩ }
 refine Y12.call ?_
 simp only [Y12.t, ← Y12.p0.eq_1]
 refine cF (by kernel_rfl) (aR (aG rfl ?_))
 simp only [bE,bD]
 refine aE A.recd rfl rfl (aC (inc (by omega) ?_))
 refine aJ A.recd rfl (ltr rfl) (hk:=fun h1 l1 U1 R1=>?_)
 refine aE R1 rfl rfl (aC ?_)
 refine bZ (n:=((2 * x:Nat):Int)) (by omega) (by omega) (by omega) ?_
 have hand:bA .and .i64 (b:Int) 1=(b:Int):=by
  have:=mB (x:=b) (y:=1) (by omega) (by decide)
  rw [aJ0 hb] at this
  exact this
 rw [hand]
 refine bZ (n:=((2 * x+b:Nat):Int)) (by omega) (by omega) (by omega) ?_
 refine aJ R1 rfl (ltr rfl) (hk:=fun h2 l2 U2 R2=>?_)
 have U:=U1.trans U2 fun _ _ h=>h
 have A2:fN h2 G id l lv cv (n+1) (2 * x+b):=mk U R2
 refine aIX A2 (by omega) (by omega) (by omega) ?_ l.length 0 (by omega) fun j hj=>by omega
 cases hs:Huff.stepR l (n+1) (2 * x+b) with
 | sym i =>
  intro hi h3 U3 R3
  have:=hq h3 (U.trans U3 fun _ _ h=>h)
  rw [hs] at this
  exact this hi (mk (U.trans U3 fun _ _ h=>h) R3)
 | more =>
  have:=hq h2 U
  rw [hs] at this
  exact this A2
 | bad =>
  intro h3 U3 R3
  have:=hq h3 (U.trans U3 fun _ _ h=>h)
  rw [hs] at this
  exact this (mk (U.trans U3 fun _ _ h=>h) R3)
end
end Go.Proofs.YtfoekpcljhbijaaGreatDoor
namespace Go.Proofs.YtfoekpcljhbijaaGreatDoor
open Go.GAM
open Go.Infl (bG cG bS Out Lim)
theorem aE1 {l : List Nat} {n c : Nat} (h15 : ∀ x ∈ l, x ≤ 15) (h : Huff.stepP l n c = .more) : n < 15 := by
 unfold Huff.stepP at h
 split at h
 ·cases h
 ·split at h
  ·have : Huff.longest l ≤ 15 := by
    rw [← kI h15]
    have:∀ n,lg l n≤n:=by
     intro n
     induction n with
     | zero=>exact Nat.le_refl _
     | succ n ih=>unfold lg; split <;> omega
    exact this 15
   omega
  ·cases h
section
variable [XR] {h:aA} {Q:AV→aA→Prop} {L:Lim} {s:List UInt8} {d:Nat} {r:RS} {out:List UInt8} {F:Infl.Fin}
def RUc (d id:Nat) (h:aA) (r:RS) (h':aA) (r':RS):Prop:=Upd (fun i=>eI d r i∨i=id) h h'∧r'.outv=r.outv
theorem aMR {h0 h0':aA} {r0:RS} {id:Nat} {l:List Nat} {lv cv:AV} {k:bG} {c:bS} {G:Nat→Prop} (hsk:k.skip=false) (ho:k.out=out) (hG:∀ i,G i→¬ eI d r0 i)
  (hq0:∀ h' r',RUc d id h0 r0 h' r'→RSt L s h' d r' out→oZ r' out F→Q (iN 0) h')
  (hq1:∀ i h' r',i<l.length→RUc d id h0 r0 h' r'→RSt L s h' d r' out→r'.stop=false→r0.at'<r'.at'→fN h' G id l lv cv 0 0→F=Infl.go L ((Infl.bitsOf s).drop r'.at') r'.at' (Infl.settle L ((r'.at'+7) / 8) 3 (Infl.apply L ((r'.at'+7) / 8) k i c))→Q (iN i) h') :
  ∀ (m : Nat) (h : aA) (r : RS) (n x : Nat), 8 * s.length - r.at' = m → RUc d id h0 r0 h r → r0.at' ≤ r.at' → RSt L s h d r out → r.stop = false → n ≤ 15 → x < 2 ^ n → Huff.fst l (n + 1) ≤ 2 * x → fN h G id l lv cv n x →
   F=Infl.go L ((Infl.bitsOf s).drop r.at') r.at' (.wait k (.sym l n x) c)→Y34.p0 (aH h0' Q) (rp d) (kp id) h:=by
 intro m
 induction m with
 | zero =>
  intro h r n x hm U hle0 S hl hn hx hfst A hF
  have hle:=S.le
  refine Y34.i0 ?_
  simp only [Y34.t0]
  refine pG S (fun e=>by rw [hl] at e; cases e) (fun _ hge h1 U1 S1=>?_) (fun _ hlt=>by omega)
  refine aC (bL S1 (aR (aN rfl (.inl ?_))))
  refine hq0 h1 { r with short:=true } ⟨U.1.trans U1 fun i _ e=>.inl (.inl e),U.2⟩ S1 ?_
  rw [List.drop_eq_nil_of_le (by rw [Infl.bits_len]; omega),Infl.go_nil] at hF
  rw [hF]
  exact ⟨ho,.inl ⟨rfl,rfl⟩⟩
 | succ m ih =>
  intro h r n x hm U hle0 S hl hn hx hfst A hF
  refine Y34.i0 ?_
  simp only [Y34.t0]
  refine pG S (fun e=>by rw [hl] at e; cases e) (fun _ hge=>by omega) (fun _ hlt b h1 hb hb2 U1 S1=>?_)
  have hl1:RS.stop { r with at':=r.at'+1 }=false:=hl
  refine aC (bL S1 (aR (aG hl1 ?_)))
  have hGd:∀ i,G i→¬ i=d:=fun i hi e=>hG i hi (.inl e)
  have A1:fN h1 G id l lv cv n x:=A.upd U1 hGd fun _ _ h=>h
  have Ua:RUc d id h0 r0 h1 { r with at':=r.at'+1 }:=⟨U.1.trans U1 fun i _ e=>.inl (.inl e),U.2⟩
  have hout:¬ aQ r.outv id:=fun hs=>hG id A.g (.inr (by rw [← U.2]; exact hs))
  have hdn:¬ d=id:=fun e=>hGd id A.g e.symm
  have hc2:2 * x+b<2 ^ (n+1):=by rw [Nat.pow_succ]; omega
  have hse:=Huff.step_eq (l:=l) (n:=n+1) (c:=2 * x+b) (by omega) hc2 (by omega) (Huff.check_ok A.le A.ok)
  rw [uW hb,Infl.go_sym hsk,hse] at hF
  refine aR8 A1 hn hx hb2 fun h2 U2=>?_
  have S2:RSt L s h2 d { r with at':=r.at'+1 } out:=S1.upd U2 fun i hm e=>by
   rcases hm with hm | hm
   ·exact hdn (hm.symm.trans e)
   ·exact hout (e ▸ hm)
  have Ub:RUc d id h0 r0 h2 { r with at':=r.at'+1 }:=⟨Ua.1.trans U2 fun i _ e=>.inr e,U.2⟩
  have hin:r.at' / 8+1=(r.at'+1+7) / 8:=by omega
  cases hs:Huff.stepR l (n+1) (2 * x+b) with
  | sym i =>
   rw [hs] at hF
   simp only at hF ⊢
   intro hi A2
   simp only [cX,cW,sE]
   refine aC (aR (aC (aG rfl (aN rfl (.inl ?_)))))
   refine hq1 i h2 _ hi Ub S2 hl (by show r0.at'<r.at'+1; omega) A2 ?_
   rw [hF,hin]
  | more =>
   rw [hs] at hF hse
   simp only at hF ⊢
   intro A2
   simp only [cX,cW,sE]
   refine aC (aR (aC (aG rfl (aG rfl ?_))))
   have hlt15:=aE1 A.le hse
   have hm2:Huff.fst l (n+1+1)≤2 * (2 * x+b):=Huff.step_more (b:=0) hse (by omega)
   exact ih h2 _ (n+1) (2 * x+b) (by show 8 * s.length - (r.at'+1)=m; omega) Ub (by show r0.at'≤r.at'+1; omega) S2 hl (by omega) hc2 hm2 A2 hF
  | bad =>
   rw [hs] at hF
   simp only at hF ⊢
   intro A2
   simp only [cX,cW,sE]
   refine aC (aR (aC (aN rfl ?_)))
   refine iD S2 (fun e=>by rw [show RS.stop { r with at':=r.at'+1 }=false from hl] at e; cases e) fun _ h3 U3 S3=>.inl ?_
   refine hq0 h3 { r with at':=r.at'+1,e:=2 } ⟨Ub.1.trans U3 fun i _ e=>.inl (.inl e),U.2⟩ S3 ?_
   rw [hF]
   have hsh:r.short=false:=by unfold RS.stop at hl; revert hl; cases r.short <;> simp
   exact ⟨ho,.inr (.inl ⟨hsh,rfl,rfl⟩)⟩
theorem rA {id:Nat} {l:List Nat} {lv cv:AV} {k:bG} {c:bS} {G:Nat→Prop} (hsk:k.skip=false) (ho:k.out=out) (hG:∀ i,G i→¬ eI d r i) (S:RSt L s h d r out) (hl:r.stop=false) (A:fN h G id l lv cv 0 0)
  (hF:F=Infl.go L ((Infl.bitsOf s).drop r.at') r.at' (.wait k (.sym l 0 0) c))
  (hq0:∀ h' r',RUc d id h r h' r'→RSt L s h' d r' out→oZ r' out F→Q (iN 0) h')
  (hq1:∀ i h' r',i<l.length→RUc d id h r h' r'→RSt L s h' d r' out→r'.stop=false→r.at'<r'.at'→fN h' G id l lv cv 0 0→F=Infl.go L ((Infl.bitsOf s).drop r'.at') r'.at' (Infl.settle L ((r'.at'+7) / 8) 3 (Infl.apply L ((r'.at'+7) / 8) k i c))→Q (iN i) h') :
  C Y34.id [rp d,kp id] h Q:=by
 refine Y34.call ?_
 simp only [Y34.t, ← Y34.p0.eq_1]
 refine cF (by kernel_rfl) (aR (aG rfl ?_))
 exact aMR hsk ho hG hq0 hq1 _ h r 0 0 rfl ⟨(Upd.refl _ _),rfl⟩ (Nat.le_refl _) S hl (by omega) (by decide) (Nat.le_refl _) A hF
theorem aE5 {p:AV} (hp:p = .p none∨∃ id,p=kp id) (S:RSt L s h d r out) (hst:r.stop=true) (hq:∀ h',Upd (· = d) h h'→RSt L s h' d r out→Q (iN 0) h'):C Y34.id [rp d,p] h Q:=by
 refine Y34.call ?_
 simp only [Y34.t, ← Y34.p0.eq_1]
 rcases hp with rfl | ⟨id,rfl⟩
 ·refine kN (by kernel_rfl) (aR (aN rfl ?_))
  exact iD S (fun _=>.inl (hq h (Upd.refl _ _) S)) fun e=>by rw [hst] at e; cases e
 ·refine cF (by kernel_rfl) (aR (aG rfl ?_))
  refine Y34.i0 ?_
  simp only [Y34.t0]
  refine pG S (fun _ h1 U1 S1=>?_) (fun e=>by rw [hst] at e; cases e) (fun e=>by rw [hst] at e; cases e)
  exact aC (bL S1 (aR (aN hst (.inl (hq h1 U1 S1)))))
theorem aIK {h0' : aA} {n y : Nat} (hn : n ≤ 1000) : ∀ (m i : Nat) (h : aA) (v : AV) (l : List Nat), i + m = n → l.length + m ≤ 10000 → Exa h v l →
  (∀ h' v',Upd (aQ v) h h'→Exa h' v' (l++List.replicate m y)→(∀ i,aQ v' i→aQ v i∨h.length≤i)→Q v' h')→Y32.p0 (aH h0' Q) v n y i h:=by
 intro m
 induction m with
 | zero =>
  intro i h v l hi hlen S hq
  obtain rfl:i=n:=by omega
  refine Y32.i0 ?_
  simp only [Y32.t0]
  exact aG (by simp) (.inl (hq h v (Upd.refl _ _) (by simpa using S) fun i hi=>.inl hi))
 | succ m ih =>
  intro i h v l hi hlen S hq
  refine Y32.i0 ?_
  simp only [Y32.t0, ← Y32.p0.eq_1]
  refine aN (by simp; omega) ?_
  refine dH (cs:=bI [y]) rfl rfl fun z h1 l1 U1 R1 F1=>?_
  have S1:Exa h1 v l:=S.upd U1 fun _ _ h=>h
  refine S1.app (ns:=[y]) (fun K hk=>R1.news hk) Nat.one_pos (by simp; omega) fun v2 h2 U2 S2 N2=>inc (by omega) ?_
  refine ih (i+1) h2 v2 (l++[y]) (by omega) (by simp; omega) S2 fun h3 v3 U3 S3 N3=>?_
  have hU1:=U1.1
  have hU2:=U2.1
  refine hq h3 v3 ?_ ?_ ?_
  ·refine (((U1.mono fun _ _ h => h.elim).trans U2 fun _ _ h => h)).trans U3 fun i hi hm => ?_
   rcases N2 i hm with g | g
   ·exact g
   ·omega
  ·rw [List.append_assoc] at S3
   rw [List.replicate_succ]
   exact S3
  ·intro i hi
   rcases N3 i hi with g | g
   ·rcases N2 i g with g2 | g2
    ·exact .inl g2
    ·right; omega
   ·right; omega
theorem tV {n y:Nat} {v:AV} {l:List Nat} (hn:n≤1000) (hlen:l.length+n≤10000) (S:Exa h v l) (hq:∀ h' v',Upd (aQ v) h h'→Exa h' v' (l++List.replicate n y)→(∀ i,aQ v' i→aQ v i∨h.length≤i)→Q v' h'):C Y32.id [v,iN n,iN y] h Q:=by
 refine Y32.call ?_
 simp only [Y32.t, ← Y32.p0.eq_1]
 exact aIK hn n 0 h v l (by omega) hlen S hq
theorem vD {n y:Nat} (hn:n≤1000) (hq:∀ h' v',Upd (fun _=>False) h h'→Exa h' v' (List.replicate n y)→(∀ i,aQ v' i→h.length≤i)→Q v' h'):C Y32.id [.sl none 0 none,iN n,iN y] h Q:=
 tV hn (by simp; omega) (.inl ⟨rfl,rfl⟩) fun h' v' U S N=>hq h' v' (U.mono fun _ _ h=>h) (by simpa using S) fun i hi=>(N i hi).elim (fun h=>h.elim) fun h=>h
theorem aON (hq:∀ h' v',Upd (fun _=>False) h h'→Exa h' v' Infl.fixedL→(∀ i,aQ v' i→h.length≤i)→Q v' h'):C Y84.id [] h Q:=by
 refine Y84.call ?_
 simp only [Y84.t]
 refine vD (n:=144) (y:=8) (by decide) fun h1 v1 U1 S1 N1=>?_
 refine tV (n:=112) (y:=9) (by decide) (by simp) S1 fun h2 v2 U2 S2 N2=>?_
 refine tV (n:=24) (y:=7) (by decide) (by simp) S2 fun h3 v3 U3 S3 N3=>?_
 refine tV (n:=8) (y:=8) (by decide) (by simp) S3 fun h4 v4 U4 S4 N4=>?_
 have n2:∀ i,aQ v2 i→h.length≤i:=fun i hi=>(N2 i hi).elim (N1 i) fun g=>Nat.le_trans U1.1 g
 have V2:Upd (fun _=>False) h h2:=U1.ownP U2 N1
 have n3:∀ i,aQ v3 i→h.length≤i:=fun i hi=>(N3 i hi).elim (n2 i) fun g=>Nat.le_trans V2.1 g
 have V3:Upd (fun _=>False) h h3:=V2.ownP U3 n2
 exact .inl (hq h4 v4 (V3.ownP U4 n3) S4 fun i hi=>(N4 i hi).elim (n3 i) fun g=>Nat.le_trans V3.1 g)
omit [XR] in
theorem aCG (k:bG):(Infl.block k).set:=by
 unfold Infl.block
 split
 ·trivial
 ·show 0<3; decide
omit [XR] in
theorem aJP (k:bG) (n:Nat):(Infl.raw k n).set:=by
 unfold Infl.raw
 split
 ·exact aCG k
 ·show 0<8; decide
def At (L:Lim) (s:List UInt8) (F:Infl.Fin) (r:RS) (out:List UInt8) (o:Out):Prop:=(r.stop=true∧oZ r out F)∨(r.stop=false∧F=Infl.go L ((Infl.bitsOf s).drop r.at') r.at' o)
theorem eE {r:RS} (h:r.stop=false):r.short=false∧r.e=0:=by
 unfold RS.stop at h
 rw [Bool.or_eq_false_iff] at h
 exact ⟨h.1,by simpa using h.2⟩
theorem aKF {c:UInt8} {f:bG→Out} {kl:Bool} (S:RSt L s h d r out) (hl:r.stop=false) (hset:∀ k,(f k).set)
  (hF:F=Infl.go L ((Infl.bitsOf s).drop r.at') r.at' (Infl.settle L ((r.at'+7) / 8) 3 (match Infl.putP L ((r.at'+7) / 8) ⟨out,kl,false⟩ c with | none=>.err 2 ⟨out,kl,false⟩ | some k'=>f k')))
  (hq:∀ h' r' out',RU d h r h' r'→RSt L s h' d r' out'→r'.at'=r.at'→(r'.stop=false→out'=out++[c])→At L s F r' out' (f ⟨out',kl,false⟩)→Q (.tu []) h'):C Y44.id [rp d,.i .u8 (c.toNat:Int)] h Q:=by
 obtain ⟨hsh,he⟩:=eE hl
 refine aIG S (fun e=>by rw [hl] at e; cases e) (fun _ hfull h1 U1 S1=>?_) fun _ hfull h1 v U1 S1=>?_
 ·unfold Infl.putP at hF
  rw [if_pos hfull] at hF
  simp only at hF
  rw [Infl.settle_set (by trivial),Infl.go_err] at hF
  refine hq h1 { r with e:=16 } out (RU.own U1 rfl) S1 rfl (fun e=>by unfold RS.stop at e; rw [hsh] at e; cases e) (.inl ⟨by unfold RS.stop; rw [hsh] <;> rfl, ?_⟩)
  rw [hF]
  exact ⟨rfl,.inr (.inr ⟨hsh,rfl,rfl⟩)⟩
 ·unfold Infl.putP at hF
  rw [if_neg (by simp [hfull])] at hF
  simp only at hF
  rw [Infl.settle_set (hset _)] at hF
  exact hq h1 { r with outv:=v } (out++[c]) U1 S1 rfl (fun _=>rfl) (.inr ⟨hl,hF⟩)
theorem aA0 {h0' : aA} {n : Nat} (hn : n < 65536) {kl : Bool} : ∀ (m i : Nat) (h : aA) (r : RS) (out : List UInt8), i + m = n → RSt L s h d r out → At L s F r out (Infl.raw ⟨out, kl, false⟩ m) →
  (∀ h' r' out',RU d h r h' r'→RSt L s h' d r' out'→(r'.stop=false→r.stop=false∧r.at'≤r'.at')→At L s F r' out' (Infl.block ⟨out',kl,false⟩)→Q (.tu []) h') →
  Y6.p2 (aH h0' Q) (rp d) n i h:=by
 intro m
 induction m with
 | zero =>
  intro i h r out hi S hF hq
  obtain rfl:i=n:=by omega
  refine Y6.i2 ?_
  simp only [Y6.t2, ← Y6.p3.eq_1]
  refine aG (by simp) (Y6.i3 ?_)
  simp only [Y6.t3]
  exact aG rfl (.inl (hq h r out (RU.refl _ _ _) S (fun e=>⟨e,Nat.le_refl _⟩) hF))
 | succ m ih =>
  intro i h r out hi S hF hq
  refine Y6.i2 ?_
  simp only [Y6.t2, ← Y6.p3.eq_1]
  refine aN (by simp; omega) (bL S (aR (Y6.i3 ?_)))
  simp only [Y6.t3, ← Y6.p2.eq_1]
  rcases hF with hF | ⟨hl,hF⟩
  ·rw [hF.1]
   exact aG rfl (.inl (hq h r out (RU.refl _ _ _) S (fun e=>by rw [hF.1] at e; cases e) (.inl hF)))
  ·rw [hl]
   refine aN rfl ?_
   have hraw:Infl.raw ⟨out,kl,false⟩ (m+1) = .wait ⟨out,kl,false⟩ (.num 8 0 0) (.raw (m+1)):=by unfold Infl.raw; rw [if_neg (by omega)]
   rw [hraw] at hF
   refine jU (F:=F) (n:=8) (k:=⟨out,kl,false⟩) (c:=.raw (m+1)) (by decide) rfl S hl rfl (by rw [if_pos (by decide)]; exact hF) (fun v h1 r1 hv U1 S1 hs1 hf1=>?_) (fun v h1 r1 hv U1 S1 hs1 hle1 hlt1 hF1=>?_)
   ·refine aC ?_
    rw [aFP hv]
    refine aIG S1 (fun _=>?_) (fun e=>by rw [hs1] at e; cases e) (fun e=>by rw [hs1] at e; cases e)
    refine inc (by omega) ?_
    have P3:Y6.p3 (aH h0' Q) (rp d) n ((i+1:Nat):Int) false h1:=by
     refine Y6.i3 ?_
     simp only [Y6.t3]
     exact aG rfl (.inl (hq h1 r1 out U1 S1 (fun e=>by rw [hs1] at e; cases e) (.inl ⟨hs1,hf1⟩)))
    refine Y6.i2 ?_
    simp only [Y6.t2, ← Y6.p3.eq_1]
    refine aI ?_ ?_ <;> intro e
    ·refine bL S1 (aR ?_)
     rw [hs1]
     exact P3
    ·exact P3
   ·refine aC ?_
    rw [aFP hv]
    refine aKF (f:=fun k'=>Infl.raw k' m) (kl:=kl) S1 hs1 (fun k=>aJP k m) hF1 fun h2 r2 o2 U2 S2 he2 ho2 hA2=>?_
    refine inc (by omega) ?_
    exact ih (i+1) h2 r2 o2 (by omega) S2 hA2 fun h3 r3 o3 U3 S3 hle3 hA3=>hq h3 r3 o3 ((U1.trans U2).trans U3) S3 (fun e=>⟨hl,by have:=(hle3 e).2; omega⟩) hA3
theorem aBJ {h0':aA} {kl:Bool} (hq:∀ h' r',RU d h r h' r'→RSt L s h' d r' out→r'.stop=false→r.at'≤r'.at'→F=Infl.go L ((Infl.bitsOf s).drop r'.at') r'.at' (.wait ⟨out,kl,false⟩ (.num 16 0 0) .stored1)→r'.at' % 8=0→Y6.p0 (aH h0' Q) (rp d) h') :
  ∀ (m:Nat) (h1:aA) (r1:RS),(8 - r1.at' % 8) % 8=m→RU d h r h1 r1→r.at'≤r1.at'→RSt L s h1 d r1 out→r1.stop=false→F=Infl.go L ((Infl.bitsOf s).drop r1.at') r1.at' (.wait ⟨out,kl,true⟩ (.num 16 0 0) .stored1)→Y6.p0 (aH h0' Q) (rp d) h1:=by
 intro m
 induction m with
 | zero =>
  intro h1 r1 hm U hle S hl hF
  refine hq h1 r1 U S hl hle ?_ (by omega)
  rw [hF]
  have:=Infl.go_skip' (L:=L) (w:=.num 16 0 0) (c:=.stored1) (bs:=(Infl.bitsOf s).drop r1.at') (i:=r1.at') (k:=⟨out,kl,true⟩) (by unfold Infl.gap; omega) rfl
  rw [this,show Infl.gap r1.at'=0 from hm,List.drop_zero,Nat.add_zero]
 | succ m ih =>
  intro h1 r1 hm U hle S hl hF
  have hsl:=S.sl
  have hle2:=S.le
  refine Y6.i0 ?_
  simp only [Y6.t0,bE,bD, ← Y6.p0.eq_1]
  refine aE S.recd rfl rfl (aC ?_)
  refine sN (n:=((r1.at' % 8:Nat):Int)) (by decide) (by rw [Int.tmod_eq_emod_of_nonneg (by omega)]; omega) ?_
  refine aN (by simp; omega) ?_
  refine aE S.recd rfl rfl (aC (inc (by omega) ?_))
  refine aJ S.recd rfl (ltr rfl) (hk:=fun h2 l2 U2 R2=>?_)
  have hlt:r1.at'+1≤8 * s.length:=by omega
  have S2:RSt L s h2 d { r1 with at':=r1.at'+1 } out:=S.with U2 R2 rfl hlt
  refine ih h2 { r1 with at':=r1.at'+1 } (by show (8 - (r1.at'+1) % 8) % 8=m; omega) (U.trans (RU.own U2 rfl)) (by show r.at'≤r1.at'+1; omega) S2 hl ?_
  obtain ⟨b,hb⟩:∃ b,(Infl.bitsOf s)[r1.at']? = some b:=⟨_,List.getElem?_eq_getElem (by rw [Infl.bits_len]; omega)⟩
  rw [hF,uW hb,Infl.go_bit,if_pos ⟨rfl,by omega⟩]
theorem aNE {kl : Bool} (S : RSt L s h d r out) (hl : r.stop = false) (hF : F = Infl.go L ((Infl.bitsOf s).drop r.at') r.at' (.wait ⟨out, kl, true⟩ (.num 16 0 0) .stored1))
  (hq:∀ h' r' out',RU d h r h' r'→RSt L s h' d r' out'→(r'.stop=false→r.at'≤r'.at')→At L s F r' out' (Infl.block ⟨out',kl,false⟩)→Q (.tu []) h'):C Y6.id [rp d] h Q:=by
 refine Y6.call ?_
 simp only [Y6.t, ← Y6.p0.eq_1]
 refine aBJ (r:=r) (kl:=kl) (F:=F) (fun h1 r1 U1 S1 hl1 hle1 hF1 hal=>?_) _ h r rfl (RU.refl _ _ _) (Nat.le_refl _) S hl hF
 have hsl:=S1.sl
 have hle2:=S1.le
 refine Y6.i0 ?_
 simp only [Y6.t0,bE,bD]
 refine aE S1.recd rfl rfl (aC ?_)
 refine sN (n:=((r1.at' % 8:Nat):Int)) (by decide) (by rw [Int.tmod_eq_emod_of_nonneg (by omega)]; omega) ?_
 refine aG (by rw [hal] <;> rfl) ?_
 have P1:∀ (n:Nat) (h':aA) (r':RS),n<65536→RU d h r h' r'→RSt L s h' d r' out→(r'.stop=false→r.at'≤r'.at')→At L s F r' out (Infl.raw ⟨out,kl,false⟩ n)→Y6.p1 (aH h Q) (rp d) n h':=fun n h' r' hn U' S' hle' hA'=>by
  refine Y6.i1 ?_
  simp only [Y6.t1, ← Y6.p2.eq_1]
  exact aA0 hn n 0 h' r' out (by omega) S' hA' fun h2 r2 o2 U2 S2 hle2 hA2=>hq h2 r2 o2 (U'.trans U2) S2 (fun e=>by
   have h1:=hle2 e
   have:=hle' h1.1
   omega) hA2
 refine jU (F:=F) (n:=16) (k:=⟨out,kl,false⟩) (c:=.stored1) (by decide) rfl S1 hl1 rfl (by rw [if_pos (by decide)]; exact hF1) (fun v h2 r2 hv U2 S2 hs2 hf2=>?_) (fun v h2 r2 hv U2 S2 hs2 hle2 hlt2 hF2=>?_)
 ·refine aC (jT (by decide) hs2 S2 fun h3 U3 S3 => aC ?_)
  have hv:v<65536:=hv
  refine bZ (n:=((65535 - v:Nat):Int)) (by omega) (by omega) (by omega) ?_
  have fin:∀ h',Upd (· = d) h2 h'→RSt L s h' d r2 out→Y6.p1 (aH h Q) (rp d) v h':=fun h' U' S'=>P1 v h' r2 hv ((U1.trans U2).trans (RU.own U' rfl)) S' (fun e=>by rw [hs2] at e; cases e) (.inl ⟨hs2,hf2⟩)
  refine aI ?_ ?_ <;> intro e
  ·refine iD S3 (fun _=>fin h3 U3 S3) fun e=>by rw [hs2] at e; cases e
  ·exact fin h3 U3 S3
 ·rw [Infl.settle_set (show (Infl.apply L ((r2.at' + 7) / 8) ⟨out, kl, false⟩ v .stored1).set by show 0 < 16; decide)] at hF2
  have hv:v<65536:=hv
  refine aC (jU (F:=F) (n:=16) (k:=⟨out,kl,false⟩) (c:=.stored2 v) (by decide) rfl S2 hs2 rfl (by rw [if_pos (by decide)]; exact hF2) (fun v2 h3 r3 hv3 U3 S3 hs3 hf3=>?_) (fun v2 h3 r3 hv3 U3 S3 hs3 hle3 hlt3 hF3=>?_))
  ·refine aC ?_
   refine bZ (n:=((65535 - v:Nat):Int)) (by omega) (by omega) (by omega) ?_
   have fin:Y6.p1 (aH h Q) (rp d) v h3:=P1 v h3 r3 hv ((U1.trans U2).trans U3) S3 (fun e=>by rw [hs3] at e; cases e) (.inl ⟨hs3,hf3⟩)
   refine aI ?_ ?_ <;> intro e
   ·refine iD S3 (fun _=>fin) fun e=>by rw [hs3] at e; cases e
   ·exact fin
  ·have hv3 : v2 < 65536 := hv3
   simp only [Infl.apply] at hF3
   refine aC ?_
   refine bZ (n:=((65535 - v:Nat):Int)) (by omega) (by omega) (by omega) ?_
   obtain ⟨hsh,he⟩:=eE hs3
   refine aI ?_ ?_ <;> intro e
   ·have e : ¬ v2 + v = 65535 := by simp at e; omega
    rw [if_neg e,Infl.settle_set (by trivial),Infl.go_err] at hF3
    refine iD S3 (fun e=>by rw [hs3] at e; cases e) fun _ h4 U4 S4=>P1 v h4 { r3 with e:=2 } hv (((U1.trans U2).trans U3).trans (RU.own U4 rfl)) S4 (fun e=>by unfold RS.stop at e; rw [hsh] at e; cases e) (.inl ⟨by unfold RS.stop; rw [hsh] <;> rfl, ?_⟩)
    rw [hF3]
    exact ⟨rfl,.inr (.inl ⟨hsh,rfl,rfl⟩)⟩
   ·have e : v2 + v = 65535 := by simp at e; omega
    rw [if_pos e,Infl.settle_set (aJP _ _)] at hF3
    exact P1 v h3 r3 hv ((U1.trans U2).trans U3) S3 (fun _=>by omega) (.inr ⟨hs3,hF3⟩)
end
end Go.Proofs.YtfoekpcljhbijaaGreatDoor
namespace Go.Proofs.YtfoekpcljhbijaaGreatDoor
open Go.GAM
open Go.Infl (bG cG bS Out Lim)
theorem aNI {P:Program} {t:TypeId} {K:AV→Prop} (ht:lF P t=true) (hk:K (.b false)):cI P .neq t (.p none) (.p none) K:=by
 show (bif lF P t then _ else _); rw [ht]; exact hk
theorem aC5 {P:Program} {t:TypeId} {a:AA} {K:AV→Prop} (ht:lF P t=true) (hk:K (.b true)):cI P .neq t (.p (some a)) (.p none) K:=by
 show (bif lF P t then _ else _); rw [ht]; exact hk
section
variable [XR] {h:aA} {Q:AV→aA→Prop} {L:Lim} {F:Nat→Prop} {d:Nat} {r:DR} {out:List UInt8} {told:Nat}
theorem aGV {x:Nat} {c:bS} {v:AV} (O:dI h) (D:Dec L h F d r out told) (hF:∀ i,h.length≤i→F i) (hd:r.done=false) (hk:pW c=none) (hc:Clo h (Gd F d r) d 0 (.p none) c v) (hf:fit c x)
  (hq:∀ e h' r',dE F L h F d r told (Infl.apply L r.input ⟨out,r.last,r.skip⟩ x c) e h' r'→Q (.i .i64 e) h'):cL C v [iN x] h Q:=by
 cases c with
 | block=>exact aR6 D hF hd hc hf hq
 | stored1=>exact aMY D hF hd hc hf hq
 | stored2 n=>exact aM3 D hF hd hc hf hq
 | raw n=>exact aVD D hF hd hc hf hq
 | lit a b=>cases hk
 | more a b n=>exact aT5 D hF hd hc hf hq
 | far a b n=>cases hk
 | farMore a b n f=>exact aLC D hF hd hc hf hq
 | dyn1=>exact aTQ D hF hd hc hf hq
 | dyn2 lits=>exact aTI D hF hd hc hf hq
 | dyn3 lits dists=>exact aS8 D hF hd hc hf hq
 | third l i n lits dists=>exact aRH O D hF hd hc hf hq
 | lens c l lits dists=>cases hk
 | rep c l lits dists m y=>exact aVE D hF hd hc hf hq
theorem aOL {x ic:Nat} {sym:AV} {l:List Nat} {c:bS} {v:AV} (D:Dec L h F d r out told) (hF:∀ i,h.length≤i→F i) (hd:r.done=false) (hk:pW c=some l) (A:cO h (Gd F d r) ic l sym 0 0) (hc:Clo h (fun i=>Gd F d r i∧i≠ic) d ic sym c v) (hf:fit c x)
  (hq:∀ e h' r',dE F L h F d r told (Infl.apply L r.input ⟨out,r.last,r.skip⟩ x c) e h' r'→Q (.i .i64 e) h'):cL C v [iN x] h Q:=by
 cases c <;> first | (cases hk; done) | skip
 case lit a b=>cases hk; exact aUV D hF hd A hc hf hq
 case far a b n=>cases hk; exact aU7 D hF hd A hc hf hq
 case lens c l lits dists=>cases hk; exact aTJ D hF hd A hc hf hq
theorem mG {x:Nat} {c:bS} {i:Nat} {k:bG} (hs:short c):(Infl.apply L i k x c).set:=by
 cases c <;> first | exact hs.elim | skip
 ·trivial
 ·simp only [Infl.apply]
  split
  ·trivial
  ·split <;> trivial
theorem nR {c:bS} {i a b:Nat} {k:bG} (hs:short c):Infl.settle L i 3 (.wait k (.num 0 a b) c)=Infl.apply L i k 0 c:=by
 show Infl.settle L i 2 (Infl.apply L i k 0 c)=_
 exact Infl.settle_set (mG hs)
theorem behind {h0':aA} {b:Bool} {x:Int} (hx:b=true) (hq:Q (.i .i64 x) h):Y5.p2 (aH h0' Q) (dp d) x b h:=by
 refine Y5.i2 ?_
 simp only [Y5.t2]
 exact aN hx (.inl hq)
theorem y1 {h0' h0 : aA} {r0 : DR} {o : Out} {e : Int} (O : dI h) (hF : ∀ i, h.length ≤ i → F i) (P : dE F L h0 F d r0 told o e h r) (hns : o.set)
  (hq:Q (.i .i64 e) h) (K:Int→Prop) :
  (bif (!decide ((e:Int)=0)) then Y5.p2 (aH h0' Q) (dp d) e true h else
   (aK (dp d) fun v75=>aB 7 v75 fun v76=>aD v76 h fun v77=>asB v77 fun c78=>Y5.p2 (aH h0' Q) (dp d) e c78 h)):=by
 refine aI ?_ ?_ <;> intro he
 ·exact behind rfl hq
 ·have he : e = 0 := by simpa using he
  simp only [bE,bD]
  refine aE P.dec.recd rfl rfl (aR ?_)
  cases hd:r.done with
  | true=>exact behind rfl hq
  | false =>
   refine Y5.i2 ?_
   simp only [Y5.t2,bE,bD, ← Y5.p3.eq_1]
   refine aG rfl ?_
   have P3:∀ t,t=false→Y5.p3 (aH h0' Q) (dp d) t h:=fun t ht=>by
    refine Y5.i3 ?_
    simp only [Y5.t3]
    rw [← he]
    exact aG ht (.inl hq)
   have hst:=P.st
   cases o with
   | done k=>rw [hst.2] at hd; cases hd
   | err x k =>
    obtain ⟨hx,hx2,_⟩:=hst
    rw [he] at hx
    rcases hx2 with rfl | rfl <;> exact absurd hx (by decide)
   | wait k w c =>
    obtain ⟨_,_,_,_,hw,hf⟩:=hst
    cases w with
    | num need hv acc =>
     obtain ⟨_,hcode,hneed,_⟩:=hw
     refine aE P.dec.recd rfl rfl ?_
     rw [hcode]
     refine kN (by kernel_rfl) (aR (aN rfl ?_))
     refine aE P.dec.recd rfl rfl (aC (P3 _ ?_))
     rw [hneed]
     have hns:0<need:=hns
     simp; omega
    | sym l n x =>
     obtain ⟨_,ic,sym,hcode,_⟩:=hw
     refine aE P.dec.recd rfl rfl ?_
     rw [hcode]
     exact cF (by kernel_rfl) (aR (aG rfl (P3 _ rfl)))
theorem aJ5 {h0' h0 : aA} {r0 : DR} {o : Out} {e : Int} (hF0 : ¬ F 0) (O : dI h) (hF : ∀ i, h.length ≤ i → F i) (P : dE F L h0 F d r0 told o e h r)
  (hq:∀ e h' r',dI h'→(Infl.settle L r0.input 3 o).set→dE F L h0 F d r0 told (Infl.settle L r0.input 3 o) e h' r'→Q (.i .i64 e) h') :
  (bif (!decide ((e:Int)=0)) then Y5.p2 (aH h0' Q) (dp d) e true h else
   (aK (dp d) fun v75=>aB 7 v75 fun v76=>aD v76 h fun v77=>asB v77 fun c78=>Y5.p2 (aH h0' Q) (dp d) e c78 h)):=by
 by_cases hns:o.set
 ·rw [Infl.settle_set hns] at hq
  exact y1 O hF P hns (hq e h r O hns P) fun _=>True
 ·obtain ⟨k, hv, acc, c, rfl⟩ : ∃ k hv acc c, o = .wait k (.num 0 hv acc) c := by
   cases o with
   | done k=>exact absurd trivial hns
   | err x k=>exact absurd trivial hns
   | wait k w c =>
    cases w with
    | sym l n x=>exact absurd trivial hns
    | num need hv acc =>
     have:need=0:=by
      have:¬ 0<need:=hns
      omega
     subst this
     exact ⟨k,hv,acc,c,rfl⟩
  have hst:=P.st
  obtain ⟨he,h1,h2,h3,hw,hf⟩:=hst
  obtain ⟨hco,hcode,hneed,hhv,hac,hclo⟩:=hw
  obtain ⟨_,_,f3,f4⟩:=hf
  have hsh:short c:=f3.elim (fun h=>by omega) fun h=>h.2.2
  rw [nR hsh] at hq
  subst he
  refine aG rfl ?_
  simp only [bE,bD]
  refine aE P.dec.recd rfl rfl (aR ?_)
  rw [h3]
  refine Y5.i2 ?_
  simp only [Y5.t2,bE,bD, ← Y5.p3.eq_1]
  refine aG rfl ?_
  refine aE P.dec.recd rfl rfl ?_
  rw [hcode]
  refine kN (by kernel_rfl) (aR (aN rfl ?_))
  refine aE P.dec.recd rfl rfl (aC ?_)
  rw [hneed]
  refine Y5.i3 ?_
  simp only [Y5.t3, ← Y5.p0.eq_1]
  refine aN rfl ?_
  refine Y5.i0 ?_
  simp only [Y5.t0,bE,bD, ← Y5.p2.eq_1]
  refine aE P.dec.recd rfl rfl ?_
  have hk:k=⟨k.out,r.last,r.skip⟩:=by rw [h1,h2]
  have hD:Dec L h F d r k.out told:=P.dec
  refine aGV (x:=0) O hD hF h3 hco hclo (f4 0 (by decide)) fun e2 h2 r2 P2=>aC ?_
  rw [P.inp, ← hk] at P2
  have P3:dE F L h0 F d r0 told (Infl.apply L r0.input k 0 c) e2 h2 r2:=P2.from P.upd (fun _ _ h=>h) P.keep P.inp P.bad P.rest
  have O2:dI h2:=O.upd P2.upd hF0
  exact y1 O2 (fun i hi=>hF i (Nat.le_trans P2.upd.1 hi)) P3 (mG hsh) (hq e2 h2 r2 O2 (mG hsh) P3) fun _=>True
theorem aLU {h0' h0:aA} {r0:DR} {x:Nat} {c:bS} (hF0:¬ F 0) (O:dI h) (D:Dec L h F d r out told) (hF:∀ i,h.length≤i→F i) (hd:r.done=false) (hk:pW c=none) (hc:Clo h (Gd F d r) d 0 (.p none) c r.next) (hf:fit c x)
  (U0:Upd F h0 h) (K0:∀ i,i<h0.length→Mut d r i→Mut d r0 i) (e1:r.input=r0.input) (e2:r.bad=r0.bad) (e3:r.rest=r0.rest)
  (hq:∀ e h' r',dI h'→(Infl.settle L r0.input 3 (Infl.apply L r0.input ⟨out,r.last,r.skip⟩ x c)).set→dE F L h0 F d r0 told (Infl.settle L r0.input 3 (Infl.apply L r0.input ⟨out,r.last,r.skip⟩ x c)) e h' r'→Q (.i .i64 e) h'):Y5.p1 (aH h0' Q) (dp d) x h:=by
 refine Y5.i1 ?_
 simp only [Y5.t1, ← Y5.p0.eq_1]
 refine Y5.i0 ?_
 simp only [Y5.t0,bE,bD, ← Y5.p2.eq_1]
 refine aE D.recd rfl rfl ?_
 refine aGV O D hF hd hk hc hf fun e h1 r1 P=>aC ?_
 rw [e1] at P
 exact aJ5 hF0 (O.upd P.upd hF0) (fun i hi=>hF i (Nat.le_trans P.upd.1 hi)) (P.from U0 (fun _ _ h=>h) K0 e1 e2 e3) hq
theorem aNB {h0' h0:aA} {r0:DR} {x ic:Nat} {sym:AV} {l:List Nat} {c:bS} (hF0:¬ F 0) (O:dI h) (D:Dec L h F d r out told) (hF:∀ i,h.length≤i→F i) (hd:r.done=false) (hk:pW c=some l) (A:cO h (Gd F d r) ic l sym 0 0) (hc:Clo h (fun i=>Gd F d r i∧i≠ic) d ic sym c r.next) (hf:fit c x)
  (U0:Upd F h0 h) (K0:∀ i,i<h0.length→Mut d r i→Mut d r0 i) (e1:r.input=r0.input) (e2:r.bad=r0.bad) (e3:r.rest=r0.rest)
  (hq:∀ e h' r',dI h'→(Infl.settle L r0.input 3 (Infl.apply L r0.input ⟨out,r.last,r.skip⟩ x c)).set→dE F L h0 F d r0 told (Infl.settle L r0.input 3 (Infl.apply L r0.input ⟨out,r.last,r.skip⟩ x c)) e h' r'→Q (.i .i64 e) h'):Y5.p1 (aH h0' Q) (dp d) x h:=by
 refine Y5.i1 ?_
 simp only [Y5.t1, ← Y5.p0.eq_1]
 refine Y5.i0 ?_
 simp only [Y5.t0,bE,bD, ← Y5.p2.eq_1]
 refine aE D.recd rfl rfl ?_
 refine aOL D hF hd hk A hc hf fun e h1 r1 P=>aC ?_
 rw [e1] at P
 exact aJ5 hF0 (O.upd P.upd hF0) (fun i hi=>hF i (Nat.le_trans P.upd.1 hi)) (P.from U0 (fun _ _ h=>h) K0 e1 e2 e3) hq
theorem aVB {a b k:Nat} (h:a<2 ^ k):a ||| b * 2 ^ k=a+b * 2 ^ k:=by
 rw [Nat.or_comm,Nat.mul_comm]
 have:=Nat.two_pow_add_eq_or_of_lt h b
 omega
theorem aVJ {w : cG} {c : bS} {b : Nat} (hb : b < 2) (hF0 : ¬ F 0) (O : dI h) (D : Dec L h F d r out told) (hF : ∀ i, h.length ≤ i → F i) (hd : r.done = false) (hw : xL h F d r w c) (hf : aHV w c) (hset : (Out.wait ⟨out, r.last, r.skip⟩ w c).set)
  (hq:∀ e h' r',dI h'→(Infl.bitP L r.input ⟨out,r.last,r.skip⟩ w c b).set→dE F L h F d r told (Infl.bitP L r.input ⟨out,r.last,r.skip⟩ w c b) e h' r'→Q (.i .i64 e) h'):C Y5.id [dp d,iN b] h Q:=by
 refine Y5.call ?_
 simp only [Y5.t,bE,bD, ← Y5.p1.eq_1]
 refine aE D.recd rfl rfl ?_
 cases w with
 | num need hv acc =>
  obtain ⟨hco,hcode,hneed,hhv,hacc,hclo⟩:=hw
  obtain ⟨f1,f2,f3,f4⟩:=hf
  have hset:0<need:=hset
  have hlt:hv<need:=f3.elim (fun h=>h) fun h=>by omega
  rw [hcode]
  refine aNI (by kernel_rfl) (aR (aG rfl ?_))
  refine aE D.recd rfl rfl (aC (aE D.recd rfl rfl (aC ?_)))
  rw [hacc,hhv]
  have p1:2 ^ hv≤2 ^ 16:=Nat.pow_le_pow_right (by decide) (by omega)
  have p2:b * 2 ^ hv≤1 * 2 ^ 16:=Nat.mul_le_mul (by omega) p1
  have p3:acc+b * 2 ^ hv<2 ^ (hv+1):=by
   have:b * 2 ^ hv≤1 * 2 ^ hv:=Nat.mul_le_mul_right _ (by omega)
   rw [Nat.pow_succ]; omega
  have p4:2 ^ (hv+1)≤2 ^ need:=Nat.pow_le_pow_right (by decide) (by omega)
  refine fW (by omega) (by omega) ?_
  have hor:bA .or .i64 ((acc:Nat):Int) ((b * 2 ^ hv:Nat):Int)=((acc+b * 2 ^ hv:Nat):Int):=by
   rw [aEB (by omega) (by omega),aVB f2]
  refine aT hor ?_
  generalize hA:acc+b * 2 ^ hv=A at *
  refine aJ D.recd rfl (ltr rfl) (hk:=fun h1 l1 U1 R1=>?_)
  refine aE R1 rfl rfl (aC ?_)
  rw [hhv]
  refine inc (by omega) ?_
  refine aJ R1 rfl (ltr rfl) (hk:=fun h2 l2 U2 R2=>?_)
  have U:=U1.trans U2 fun _ _ h=>h
  have D2:Dec L h2 F d { r with acc:=A,have':=hv+1 } out told:=D.with U R2 rfl rfl rfl rfl
  have O2:dI h2:=O.upd U fun e=>hF0 (e ▸ D.f d (.inl rfl))
  have clo2:=hclo.upd (G':=Gd F d { r with acc:=A,have':=hv+1 }) U (fun i hi e=>hi.2 (.inl e)) fun _ _ h=>h
  refine aE R2 rfl rfl (aC (aE R2 rfl rfl (aC ?_)))
  rw [hneed]
  rw [Infl.bit_num] at hq
  refine aI ?_ ?_ <;> intro e
  ·have e : hv + 1 < need := by simp at e; omega
   rw [if_pos e,hA] at hq
   refine .inl (hq 0 h2 { r with acc:=A,have':=hv+1 } O2 hset ⟨U.mono fun i _ e=>D.f i (.inl e),fun _ _ h=>h,D2,rfl,rfl,rfl,rfl,rfl,rfl,hd,⟨hco,hcode,hneed,rfl,rfl,clo2⟩,f1,p3,.inl e,f4⟩)
  ·have e : ¬ hv + 1 < need := by simp at e; omega
   rw [if_neg e,hA] at hq
   refine aE R2 rfl rfl (aC ?_)
   exact aLU (r0:=r) hF0 O2 D2 (fun i hi=>hF i (by omega)) hd hco clo2 (f4 A (by omega)) (U.mono fun i _ e=>D.f i (.inl e)) (fun _ _ h=>h) rfl rfl rfl hq
 | sym l n x =>
  obtain ⟨hco,ic,sym,hcode,A,hclo⟩:=hw
  obtain ⟨f1,f2,f3⟩:=hf
  rw [hcode]
  refine aC5 (by kernel_rfl) (aR (aN rfl ?_))
  refine aE D.recd rfl rfl ?_
  rw [hcode]
  rw [Infl.bit_sym] at hq
  refine aTV A f1 f2 hb fun h1 U1=>?_
  have hne:∀ i,Mut d r i→¬ i=ic:=fun i hm e=>A.g.2 (e ▸ hm)
  have D1:Dec L h1 F d r out told:=D.upd U1 hne
  have O1:dI h1:=O.upd U1 fun e=>hF0 (e ▸ A.g.1)
  have UF:Upd F h h1:=U1.mono fun i _ e=>e ▸ A.g.1
  have clo1:=hclo.upd (G':=fun i=>Gd F d r i∧i≠ic) U1 (fun i hi e=>hi.2 e) fun _ _ h=>h
  have A1:∀ {n' x'},aZ h1 ic (dQ l sym n' x')→cO h1 (Gd F d r) ic l sym n' x':=fun R=>{ A with recd:=R,syms:=A.syms.upd U1 fun i hi e=>(A.gs i hi).2.1 e,gs:=fun i hi=>⟨(A.gs i hi).1,(A.gs i hi).2.1,Nat.lt_of_lt_of_le (A.gs i hi).2.2 U1.1⟩ }
  have hF1:∀ i,h1.length≤i→F i:=fun i hi=>hF i (Nat.le_trans U1.1 hi)
  cases hs:Huff.stepP l (n+1) (2 * x+b) with
  | sym i =>
   simp only [hs] at hq ⊢
   intro R1 hi
   simp only [cX,cW,sE]
   refine aC (aR (aC (aG rfl (aG rfl ?_))))
   exact aNB hF0 O1 D1 hF1 hd hco (A1 R1) clo1 (f3 i hi) UF (fun _ _ h=>h) rfl rfl rfl hq
  | more =>
   simp only [hs] at hq ⊢
   intro R1
   simp only [cX,cW,sE]
   refine aC (aR (aC (aG rfl (aN rfl (.inl ?_)))))
   have hn1:n+1≤15:=by
    unfold Huff.stepP at hs
    split at hs
    ·cases hs
    ·split at hs
     ·have : Huff.longest l ≤ 15 := by
       rw [← kI A.le]
       have:∀ n,lg l n≤n:=by
        intro n
        induction n with
        | zero=>exact Nat.le_refl _
        | succ n ih=>unfold lg; split <;> omega
       exact this 15
      omega
     ·cases hs
   exact hq 0 h1 r O1 trivial ⟨UF,fun _ _ h=>h,D1,rfl,rfl,rfl,rfl,rfl,rfl,hd,⟨hco,ic,sym,hcode,A1 R1,clo1⟩,hn1,by rw [Nat.pow_succ]; omega,f3⟩
  | bad =>
   simp only [hs] at hq ⊢
   intro R1
   simp only [cX,cW,sE]
   refine aC (aR (aC (aN rfl (.inl ?_))))
   exact hq 2 h1 r O1 trivial ⟨UF,fun _ _ h=>h,D1,rfl,rfl,rfl,rfl,.inl rfl,hd⟩
end
end Go.Proofs.YtfoekpcljhbijaaGreatDoor
namespace Go.Proofs.YtfoekpcljhbijaaGreatDoor
open Go.GAM
open Go.Infl (bG cG bS Out Lim)
section
variable [XR] {h:aA} {Q:AV→aA→Prop} {L:Lim} {s:List UInt8} {d:Nat} {r:RS} {out:List UInt8} {F:Infl.Fin}
theorem aNU {x:Nat} (h1:257≤x) (h2:x≤285) (hq:Q (.tu [iN (Infl.least x).1,iN (Infl.least x).2]) h):C Y76.id [iN x] h Q:=by
 refine Y76.call ?_
 simp only [Y76.t]
 unfold Infl.least at hq
 refine aI ?_ ?_ <;> intro e
 ·have e : x ≤ 264 := by simp at e; omega
  rw [if_pos e] at hq
  exact bZ (n:=((x - 254:Nat):Int)) (by omega) (by omega) (by omega) (.inl hq)
 ·have e : ¬ x ≤ 264 := by simp at e; omega
  rw [if_neg e] at hq
  refine aI ?_ ?_ <;> intro e2
  ·have e2 : x = 285 := by simp at e2; omega
   rw [if_pos e2] at hq
   exact .inl hq
  ·have e2 : ¬ x = 285 := by simp at e2; omega
   rw [if_neg e2] at hq
   refine bZ (n:=((x - 261:Nat):Int)) (by omega) (by omega) (by omega) ?_
   refine sI (n:=(((x - 261) / 4:Nat):Int)) (by decide) (by rw [Int.tdiv_eq_ediv_of_nonneg (by omega),aY (by omega) (by omega)]; omega) ?_
   refine bZ (n:=((x - 265:Nat):Int)) (by omega) (by omega) (by omega) ?_
   refine sN (n:=(((x - 265) % 4:Nat):Int)) (by decide) (by rw [Int.tmod_eq_emod_of_nonneg (by omega)]; omega) ?_
   refine bZ (n:=((4+(x - 265) % 4:Nat):Int)) (by omega) (by omega) (by omega) ?_
   have hp:2 ^ ((x - 261) / 4)≤2 ^ 6:=Nat.pow_le_pow_right (by decide) (by omega)
   have hm:(4+(x - 265) % 4) * 2 ^ ((x - 261) / 4)≤8 * 2 ^ 6:=Nat.mul_le_mul (by omega) hp
   rw [wrap_u64 (by omega) (by omega)]
   refine fW (by omega) (by omega) ?_
   generalize (4+(x - 265) % 4) * 2 ^ ((x - 261) / 4)=y at *
   exact bZ (n:=((y+3:Nat):Int)) (by omega) (by omega) (by omega) (.inl hq)
theorem aT0 {x:Nat} (h2:x≤29) (hq:Q (.tu [iN (Infl.farOf x).1,iN (Infl.farOf x).2]) h):C Y90.id [iN x] h Q:=by
 refine Y90.call ?_
 simp only [Y90.t]
 unfold Infl.farOf at hq
 refine aI ?_ ?_ <;> intro e
 ·have e : x < 4 := by simp at e; omega
  rw [if_pos e] at hq
  exact inc (by omega) (.inl hq)
 ·have e : ¬ x < 4 := by simp at e; omega
  rw [if_neg e] at hq
  refine sI (n:=((x / 2:Nat):Int)) (by decide) (by rw [Int.tdiv_eq_ediv_of_nonneg (by omega),aY (by omega) (by omega)]; omega) ?_
  refine bZ (n:=((x / 2 - 1:Nat):Int)) (by omega) (by omega) (by omega) ?_
  refine sN (n:=((x % 2:Nat):Int)) (by decide) (by rw [Int.tmod_eq_emod_of_nonneg (by omega)]; omega) ?_
  refine bZ (n:=((2+x % 2:Nat):Int)) (by omega) (by omega) (by omega) ?_
  have hp:2 ^ (x / 2 - 1)≤2 ^ 13:=Nat.pow_le_pow_right (by decide) (by omega)
  have hm:(2+x % 2) * 2 ^ (x / 2 - 1)≤4 * 2 ^ 13:=Nat.mul_le_mul (by omega) hp
  rw [wrap_u64 (by omega) (by omega)]
  refine fW (by omega) (by omega) ?_
  generalize (2+x % 2) * 2 ^ (x / 2 - 1)=y at *
  exact inc (by omega) (.inl hq)
theorem RU.c {d id:Nat} {h0 h h':aA} {r0 r r':RS} (a:RU d h0 r0 h r) (b:RUc d id h r h' r') (hid:h0.length≤id):RU d h0 r0 h' r':=
 ⟨a.1.trans b.1 fun i hi hm=>hm.elim (a.2 i hi) fun e=>by omega,fun i hi hm=>a.2 i hi (by unfold eI at *; rw [b.2] at hm; exact hm)⟩
structure aBU (h:aA) (h0:aA) (d:Nat) (r:RS) (ia:Nat) (a:List Nat) (la ca:AV) (ib:Nat) (b:List Nat) (lb cb:AV):Prop where
 a:fN h (fun i=>¬ eI d r i∧i≠ib) ia a la ca 0 0
 b:fN h (fun i=>¬ eI d r i∧i≠ia) ib b lb cb 0 0
 na:h0.length≤ia
 nb:h0.length≤ib
theorem aBU.ru {h h' h0:aA} {r r':RS} {ia ib:Nat} {a b:List Nat} {la ca lb cb:AV} (T:aBU h h0 d r ia a la ca ib b lb cb) (U:RU d h r h' r'):aBU h' h0 d r' ia a la ca ib b lb cb:=
 ⟨T.a.upd U.1 (fun i hi hm=>hi.1 hm) fun i hl hi=>⟨fun hm=>hi.1 (U.2 i hl hm),hi.2⟩,T.b.upd U.1 (fun i hi hm=>hi.1 hm) fun i hl hi=>⟨fun hm=>hi.1 (U.2 i hl hm),hi.2⟩,T.na,T.nb⟩
theorem qZ {r r':RS} (e:r'.outv=r.outv) (i:Nat):eI d r' i↔eI d r i:=by unfold eI; rw [e]
def lits (a b:List Nat) (kl:Bool) (out:List UInt8):Out:=Infl.litW ⟨out,kl,false⟩ a b
theorem aU6 {h0 h0' : aA} {r0 : RS} {ia ib : Nat} {a b : List Nat} {la ca lb cb : AV} {kl : Bool} {n far : Nat} (hn : n ≤ 300) (hf0 : 0 < far)
  (hq:∀ h' r' out',RU d h0 r0 h' r'→aBU h' h0 d r' ia a la ca ib b lb cb→RSt L s h' d r' out'→(r'.stop=false→r.at'≤r'.at')→At L s F r' out' (lits a b kl out')→Y2.p0 (aH h0' Q) (rp d) (kp ia) (kp ib) h') :
  ∀ (m i : Nat) (h : aA) (r1 : RS) (out : List UInt8), i + m = n → RU d h0 r0 h r1 → aBU h h0 d r1 ia a la ca ib b lb cb → RSt L s h d r1 out → (r1.stop = false → r.at' ≤ r1.at') →
   (r1.stop=true∧oZ r1 out F∨r1.stop=false∧far≤out.length∧F=Infl.go L ((Infl.bitsOf s).drop r1.at') r1.at' (match Infl.copyP L ((r1.at'+7) / 8) far m ⟨out,kl,false⟩ with | (k',true)=>Infl.litW k' a b | (k',false)=>.err 2 k')) →
   Y2.p3 (aH h0' Q) (rp d) (kp ia) (kp ib) n far i h:=by
 have leave:∀ (i:Int) (h:aA) (r1:RS) (out:List UInt8),RU d h0 r0 h r1→aBU h h0 d r1 ia a la ca ib b lb cb→RSt L s h d r1 out→(r1.stop=false→r.at'≤r1.at')→At L s F r1 out (lits a b kl out)→Y2.p4 (aH h0' Q) (rp d) (kp ia) (kp ib) n far i false h:=fun i h r1 out U T S hle hA=>by
  refine Y2.i4 ?_
  simp only [Y2.t4, ← Y2.p0.eq_1]
  exact aG rfl (hq h r1 out U T S hle hA)
 intro m
 induction m with
 | zero =>
  intro i h r1 out hi U T S hle hF
  obtain rfl:i=n:=by omega
  refine Y2.i3 ?_
  simp only [Y2.t3, ← Y2.p4.eq_1]
  refine aG (by simp) (leave _ h r1 out U T S hle ?_)
  rcases hF with hF | ⟨hl,_,hF⟩
  ·exact .inl hF
  ·exact .inr ⟨hl,hF⟩
 | succ m ih =>
  intro i h r1 out hi U T S hle hF
  refine Y2.i3 ?_
  simp only [Y2.t3, ← Y2.p4.eq_1]
  refine aN (by simp; omega) (bL S (aR ?_))
  rcases hF with hF | ⟨hl,hfar,hF⟩
  ·rw [hF.1]
   exact leave _ h r1 out U T S hle (.inl hF)
  ·rw [hl]
   refine Y2.i4 ?_
   simp only [Y2.t4,bE,bD, ← Y2.p3.eq_1]
   refine aN rfl ?_
   have hlen:=S.len
   refine aE S.recd rfl rfl (aE S.recd rfl rfl (S.ob.rd.len ?_))
   simp only [List.length_map]
   have hfl:far≤9223372036854775807:=by omega
   refine bZ (n:=((out.length - far:Nat):Int)) (by omega) (by omega) (by omega) ?_
   obtain ⟨c,hc⟩:∃ c,out[out.length - far]? = some c:=⟨_,List.getElem?_eq_getElem (by omega)⟩
   refine S.ob.rd.byte (i:=out.length - far) hc ?_
   have hg:out.getD (out.length - far) 0=c:=by rw [List.getD_eq_getElem?_getD,hc] <;> rfl
   rw [Infl.copyP] at hF
   simp only at hF
   rw [hg] at hF
   obtain ⟨hsh,he⟩:=eE hl
   refine aIG S (fun e=>by rw [hl] at e; cases e) (fun _ hfull h1 U1 S1=>?_) fun _ hfull h1 v U1 S1=>?_
   ·unfold Infl.putP at hF
    rw [if_pos hfull] at hF
    simp only at hF
    rw [Infl.go_err] at hF
    have hst:RS.stop { r1 with e:=16 }=true:=by unfold RS.stop; rw [hsh] <;> rfl
    have hfit:oZ { r1 with e:=16 } out F:=by rw [hF]; exact ⟨rfl,.inr (.inr ⟨hsh,rfl,rfl⟩)⟩
    have Ua:RU d h r1 h1 { r1 with e:=16 }:=RU.own U1 rfl
    refine inc (by omega) (ih (i+1) h1 { r1 with e:=16 } out (by omega) (U.trans Ua) (T.ru Ua) S1 (fun e=>by rw [hst] at e; cases e) (.inl ⟨hst,hfit⟩))
   ·unfold Infl.putP at hF
    rw [if_neg (by simp [hfull])] at hF
    refine inc (by omega) (ih (i+1) h1 { r1 with outv:=v } (out++[c]) (by omega) (U.trans U1) (T.ru U1) S1 hle (.inr ⟨hl,by simp; omega,hF⟩))
theorem aBP {h0 h0' : aA} {r0 : RS} {ia ib : Nat} {a b : List Nat} {la ca lb cb : AV} {kl : Bool}
  (hq:∀ h' r' out',RU d h0 r0 h' r'→RSt L s h' d r' out'→(r'.stop=false→r0.at'≤r'.at')→At L s F r' out' (Infl.block ⟨out',kl,false⟩)→Q (.tu []) h') :
  ∀ (m : Nat) (h : aA) (r : RS) (out : List UInt8), (r.stop = false → 8 * s.length - r.at' ≤ m) → RU d h0 r0 h r → aBU h h0 d r ia a la ca ib b lb cb → RSt L s h d r out → (r.stop = false → r0.at' ≤ r.at') → At L s F r out (lits a b kl out) →
   Y2.p0 (aH h0' Q) (rp d) (kp ia) (kp ib) h:=by
 intro m
 induction m with
 | zero =>
  intro h r out hm U T S hle hA
  refine Y2.i0 ?_
  simp only [Y2.t0, ← Y2.p1.eq_1]
  refine bL S (aR ?_)
  rcases hA with hA | ⟨hl,hF⟩
  ·rw [hA.1]
   exact aG rfl (.inl (hq h r out U S hle (.inl hA)))
  ·rw [hl]
   refine aN rfl ?_
   have hle2:=S.le
   refine rA (F:=F) (k:=⟨out,kl,false⟩) (c:=.lit a b) (G:=fun i=>¬ eI d r i∧i≠ib) rfl rfl (fun i hi=>hi.1) S hl T.a hF (fun h1 r1 U1 S1 hf1=>?_) (fun i h1 r1 hi U1 S1 hs1 hlt1 A1 hF1=>?_)
   ·refine aC (bL S1 (aR ?_))
    rw [hf1.stop]
    refine aN rfl (Y2.i1 ?_)
    simp only [Y2.t1]
    exact aN rfl (.inl (hq h1 r1 out (U.c U1 T.na) S1 (fun e=>by rw [hf1.stop] at e; cases e) (.inl ⟨hf1.stop,hf1⟩)))
   ·have := S1.le
    have:=hm hl
    omega
 | succ m ih =>
  intro h r out hm U T S hle hA
  refine Y2.i0 ?_
  simp only [Y2.t0, ← Y2.p1.eq_1]
  refine bL S (aR ?_)
  rcases hA with hA | ⟨hl,hF⟩
  ·rw [hA.1]
   exact aG rfl (.inl (hq h r out U S hle (.inl hA)))
  rw [hl]
  refine aN rfl ?_
  have hle2:=S.le
  have hm:=hm hl
  have hle:=hle hl
  refine rA (F:=F) (k:=⟨out,kl,false⟩) (c:=.lit a b) (G:=fun i=>¬ eI d r i∧i≠ib) rfl rfl (fun i hi=>hi.1) S hl T.a hF (fun h1 r1 U1 S1 hf1=>?_) (fun x h1 r1 hi U1 S1 hs1 hlt1 A1 hF1=>?_)
  ·refine aC (bL S1 (aR ?_))
   rw [hf1.stop]
   refine aN rfl (Y2.i1 ?_)
   simp only [Y2.t1]
   exact aN rfl (.inl (hq h1 r1 out (U.c U1 T.na) S1 (fun e=>by rw [hf1.stop] at e; cases e) (.inl ⟨hf1.stop,hf1⟩)))
  have hx320:x<320:=Nat.lt_of_lt_of_le hi T.a.len
  have Ua:=U.c U1 T.na
  have T1:aBU h1 h0 d r1 ia a la ca ib b lb cb:=by
   have hne:ia≠ib:=T.a.g.2
   refine ⟨A1.upd (Upd.refl (fun _=>False) h1) (fun _ _ h=>h) fun i _ hi=>⟨fun hm=>hi.1 ((qZ U1.2 i).1 hm),hi.2⟩,T.b.upd U1.1 (fun i hi hm=>hm.elim hi.1 hi.2) fun i _ hi=>⟨fun hm=>hi.1 ((qZ U1.2 i).1 hm),hi.2⟩,T.na,T.nb⟩
  have hle1:=S1.le
  obtain ⟨hsh1,he1⟩:=eE hs1
  simp only [Infl.apply] at hF1
  refine aC (bL S1 (aR ?_))
  rw [hs1]
  refine aG rfl (Y2.i1 ?_)
  simp only [Y2.t1, ← Y2.p0.eq_1, ← Y2.p2.eq_1]
  refine aI ?_ ?_ <;> intro e256
  ·have e256 : x = 256 := by simp at e256; omega
   rw [if_neg (by omega),if_pos e256,Infl.settle_set (aCG _)] at hF1
   exact .inl (hq h1 r1 out Ua S1 (fun _=>by omega) (.inr ⟨hs1,hF1⟩))
  have e256:¬ x=256:=by simp at e256; omega
  refine aI ?_ ?_ <;> intro elt
  ·have elt : x < 256 := by simp at elt; omega
   rw [if_pos elt] at hF1
   rw [aFP elt]
   refine aKF (f:=fun k'=>Infl.litW k' a b) (kl:=kl) S1 hs1 (fun k=>trivial) hF1 fun h2 r2 o2 U2 S2 he2 ho2 hA2=>?_
   exact ih h2 r2 o2 (fun _=>by omega) (Ua.trans U2) (T1.ru U2) S2 (fun _=>by omega) hA2
  have elt:¬ x<256:=by simp at elt; omega
  rw [if_neg elt,if_neg e256] at hF1
  refine aI ?_ ?_ <;> intro e285
  ·have e285 : 285 < x := by simp at e285; omega
   rw [if_pos e285,Infl.settle_set (by trivial),Infl.go_err] at hF1
   refine iD S1 (fun e=>by rw [hs1] at e; cases e) fun _ h2 U2 S2=>.inl ?_
   have hst:RS.stop { r1 with e:=2 }=true:=by unfold RS.stop; rw [hsh1] <;> rfl
   refine hq h2 { r1 with e:=2 } out (Ua.trans (RU.own U2 rfl)) S2 (fun e=>by rw [hst] at e; cases e) (.inl ⟨hst, ?_⟩)
   rw [hF1]
   exact ⟨rfl,.inr (.inl ⟨hsh1,rfl,rfl⟩)⟩
  have e285:¬ 285<x:=by simp at e285; omega
  rw [if_neg e285] at hF1
  obtain ⟨b1,b2⟩:=aGQ x (by omega) (by omega)
  refine aNU (by omega) (by omega) ?_
  simp only [cX,cW]
  refine aC (aC ?_)
  refine jU (F:=F) (n:=(Infl.least x).2) (k:=⟨out,kl,false⟩) (c:=.more a b (Infl.least x).1) b2 rfl S1 hs1 rfl ?_ (fun v h2 r2 hv U2 S2 hs2 hf2=>?_) (fun v h2 r2 hv U2 S2 hs2 hle2 hlt2 hF2=>?_)
  ·by_cases hz : 0 < (Infl.least x).2
   ·rw [if_pos hz,hF1,Infl.settle_set (by exact hz)]
   ·have hz : (Infl.least x).2 = 0 := by omega
    rw [if_neg (by omega),hF1,hz,nR (c:=.more a b (Infl.least x).1) trivial,Infl.settle_set (mG (c:=.more a b (Infl.least x).1) trivial)]
  ·have stopA : ∀ (h3 : aA), Upd (· = d) h2 h3 → RSt L s h3 d r2 out → Q (.tu []) h3 := fun h3 U3 S3 => hq h3 r2 out ((Ua.trans U2).trans (RU.own U3 rfl)) S3 (fun e => by rw [hs2] at e; cases e) (.inl ⟨hs2, hf2⟩)
   refine aC (bZ (n:=(((Infl.least x).1+v:Nat):Int)) (by omega) (by omega) (by omega) ?_)
   refine aE5 (.inr ⟨ib,rfl⟩) S2 hs2 fun h3 U3 S3=>aC (bL S3 (aR ?_))
   rw [hs2]
   exact aN rfl (.inl (stopA h3 U3 S3))
  have Ub:=Ua.trans U2
  have T2:=T1.ru U2
  have hF2':F=Infl.go L ((Infl.bitsOf s).drop r2.at') r2.at' (.wait ⟨out,kl,false⟩ (.sym b 0 0) (.far a b ((Infl.least x).1+v))):=by
   rw [hF2,Infl.settle_set (by trivial)] <;> rfl
  refine aC (bZ (n:=(((Infl.least x).1+v:Nat):Int)) (by omega) (by omega) (by omega) ?_)
  have hnv:(Infl.least x).1+v≤300:=by omega
  generalize (Infl.least x).1+v=nn at hF2' hnv ⊢
  refine rA (F:=F) (k:=⟨out,kl,false⟩) (c:=.far a b nn) (G:=fun i=>¬ eI d r2 i∧i≠ia) rfl rfl (fun i hi=>hi.1) S2 hs2 T2.b hF2' (fun h3 r3 U3 S3 hf3=>?_) (fun y h3 r3 hy U3 S3 hs3 hlt3 B3 hF3=>?_)
  ·refine aC (bL S3 (aR ?_))
   rw [hf3.stop]
   exact aN rfl (.inl (hq h3 r3 out (Ub.c U3 T.nb) S3 (fun e=>by rw [hf3.stop] at e; cases e) (.inl ⟨hf3.stop,hf3⟩)))
  have Uc:=Ub.c U3 T.nb
  have T3:aBU h3 h0 d r3 ia a la ca ib b lb cb:=
   ⟨T2.a.upd U3.1 (fun i hi hm=>hm.elim hi.1 hi.2) fun i _ hi=>⟨fun hm=>hi.1 ((qZ U3.2 i).1 hm),hi.2⟩,B3.upd (Upd.refl (fun _=>False) h3) (fun _ _ h=>h) fun i _ hi=>⟨fun hm=>hi.1 ((qZ U3.2 i).1 hm),hi.2⟩,T.na,T.nb⟩
  obtain ⟨hsh3,he3⟩:=eE hs3
  have hle3:=S3.le
  simp only [Infl.apply] at hF3
  refine aC (bL S3 (aR ?_))
  rw [hs3]
  refine aG rfl ?_
  refine aI ?_ ?_ <;> intro e29
  ·have e29 : 29 < y := by simp at e29; omega
   rw [if_pos e29,Infl.settle_set (by trivial),Infl.go_err] at hF3
   refine iD S3 (fun e=>by rw [hs3] at e; cases e) fun _ h4 U4 S4=>.inl ?_
   have hst:RS.stop { r3 with e:=2 }=true:=by unfold RS.stop; rw [hsh3] <;> rfl
   refine hq h4 { r3 with e:=2 } out (Uc.trans (RU.own U4 rfl)) S4 (fun e=>by rw [hst] at e; cases e) (.inl ⟨hst, ?_⟩)
   rw [hF3]
   exact ⟨rfl,.inr (.inl ⟨hsh3,rfl,rfl⟩)⟩
  have e29:¬ 29<y:=by simp at e29; omega
  rw [if_neg e29] at hF3
  obtain ⟨c0,c1,c2⟩:=aOZ y (by omega)
  refine aT0 (by omega) ?_
  simp only [cX,cW]
  refine aC (aC ?_)
  have copyl:∀ (far:Nat) (h4:aA) (r4:RS),0<far→RU d h0 r0 h4 r4→aBU h4 h0 d r4 ia a la ca ib b lb cb→RSt L s h4 d r4 out→(r4.stop=false→r3.at'≤r4.at') →
    (r4.stop=true∧oZ r4 out F∨r4.stop=false∧far≤out.length∧F=Infl.go L ((Infl.bitsOf s).drop r4.at') r4.at' (match Infl.copyP L ((r4.at'+7) / 8) far nn ⟨out,kl,false⟩ with | (k',true)=>Infl.litW k' a b | (k',false)=>.err 2 k')) →
    Y2.p2 (aH h0' Q) (rp d) (kp ia) (kp ib) nn far h4:=fun far h4 r4 hf0 U4 T4 S4 hle4 hF4=>by
   refine Y2.i2 ?_
   simp only [Y2.t2, ← Y2.p3.eq_1]
   refine aU6 (r:=r3) (F:=F) (kl:=kl) (n:=nn) (far:=far) hnv hf0 (fun h5 r5 o5 U5 T5 S5 hle5 hA5=>?_) nn 0 h4 r4 out (by omega) U4 T4 S4 hle4 hF4
   exact ih h5 r5 o5 (fun e=>by have:=hle5 e; omega) U5 T5 S5 (fun e=>by have:=hle5 e; omega) hA5
  refine jU (F:=F) (n:=(Infl.farOf y).2) (k:=⟨out,kl,false⟩) (c:=.farMore a b nn (Infl.farOf y).1) c2 rfl S3 hs3 rfl ?_ (fun v2 h4 r4 hv4 U4 S4 hs4 hf4=>?_) (fun v2 h4 r4 hv4 U4 S4 hs4 hle4 hlt4 hF4=>?_)
  ·by_cases hz : 0 < (Infl.farOf y).2
   ·rw [if_pos hz,hF3,Infl.settle_set (by exact hz)]
   ·have hz : (Infl.farOf y).2 = 0 := by omega
    rw [if_neg (by omega),hF3,hz,nR (c:=.farMore a b nn (Infl.farOf y).1) trivial,Infl.settle_set (mG (c:=.farMore a b nn (Infl.farOf y).1) trivial)]
  ·refine aC (bZ (n := (((Infl.farOf y).1 + v2 : Nat) : Int)) (by omega) (by omega) (by omega) ?_)
   simp only [bE,bD]
   refine aE S4.recd rfl rfl (S4.ob.rd.len ?_)
   have fin:=copyl ((Infl.farOf y).1+v2) h4 r4 (by omega) (Uc.trans U4) (T3.ru U4) S4 (fun e=>by rw [hs4] at e; cases e) (.inl ⟨hs4,hf4⟩)
   refine aI ?_ ?_ <;> intro e
   ·exact iD S4 (fun _=>fin) fun e=>by rw [hs4] at e; cases e
   ·exact fin
  ·have Ud := Uc.trans U4
   have T4:=T3.ru U4
   simp only [Infl.apply] at hF4
   refine aC (bZ (n:=(((Infl.farOf y).1+v2:Nat):Int)) (by omega) (by omega) (by omega) ?_)
   simp only [bE,bD]
   refine aE S4.recd rfl rfl (S4.ob.rd.len ?_)
   rw [List.length_map]
   obtain ⟨hsh4,he4⟩:=eE hs4
   refine aI ?_ ?_ <;> intro e
   ·have e : out.length < (Infl.farOf y).1 + v2 := by simp at e; omega
    rw [if_pos e,Infl.settle_set (by trivial),Infl.go_err] at hF4
    have hst:RS.stop { r4 with e:=2 }=true:=by unfold RS.stop; rw [hsh4] <;> rfl
    refine iD S4 (fun e=>by rw [hs4] at e; cases e) fun _ h5 U5 S5=>?_
    have Ue:RU d h4 r4 h5 { r4 with e:=2 }:=RU.own U5 rfl
    refine copyl _ h5 { r4 with e:=2 } (by omega) (Ud.trans Ue) (T4.ru Ue) S5 (fun e=>by rw [hst] at e; cases e) (.inl ⟨hst, ?_⟩)
    rw [hF4]
    exact ⟨rfl,.inr (.inl ⟨hsh4,rfl,rfl⟩)⟩
   ·have e : ¬ out.length < (Infl.farOf y).1 + v2 := by simp at e; omega
    rw [if_neg e] at hF4
    refine copyl _ h4 r4 (by omega) Ud T4 S4 (fun _=>hle4) (.inr ⟨hs4,by omega, ?_⟩)
    have hset:(match Infl.copyP L ((r4.at'+7) / 8) ((Infl.farOf y).1+v2) nn ⟨out,kl,false⟩ with | (k',true)=>Infl.litW k' a b | (k',false)=>Out.err 2 k').set:=by
     cases Infl.copyP L ((r4.at'+7) / 8) ((Infl.farOf y).1+v2) nn ⟨out,kl,false⟩ with
     | mk k' ok=>cases ok <;> trivial
    rw [hF4]
    exact congrArg _ (Infl.settle_set hset)
end
end Go.Proofs.YtfoekpcljhbijaaGreatDoor
namespace Go.Proofs.YtfoekpcljhbijaaGreatDoor
open Go.GAM
open Go.Infl (bG cG bS Out Lim)
theorem m8 {k:bG} {n a b:Nat} {c:bS} (h:0<n):(Out.wait k (.num n a b) c).set:=h
theorem aB1 (k:bG) (a b:List Nat):(Infl.codes k a b).set:=by unfold Infl.codes; split <;> trivial
theorem aAT (k:bG) (c l:List Nat) (x y:Nat):(Infl.lensW k c l x y).set:=by
 unfold Infl.lensW; split
 ·exact aB1 _ _ _
 ·trivial
theorem aC2 (k:bG) (l:List Nat) (i n x y:Nat):(Infl.thirdW k l i n x y).set:=by
 unfold Infl.thirdW; split
 ·split
  ·exact aAT _ _ _ _ _
  ·trivial
 ·show 0<3; decide
theorem Exa.kind {h:aA} {v:AV} {l:List Nat} (S:Exa h v l):v.parts=[v]∧v.sizeOK=true∧v.cellOK=true:=by
 rcases S with ⟨rfl,_⟩ | ⟨id,b,rfl,_⟩ <;> exact ⟨rfl,rfl,rfl⟩
theorem Exa.store {h:aA} {v:AV} {l:List Nat} (S:Exa h v l) {k:IntKind} {i x:Nat} (hi:i<l.length) {K:aA→Prop} (hk:∀ h',h'.length=h.length→Upd (aQ v) h h'→Exa h' v (l.set i x)→K h') :
  aU 1 v (.i k (i:Int)) h fun a=>aP 1 a (iN x) h K:=by
 rcases S with ⟨rfl,rfl⟩ | ⟨id,b,rfl,h1,h2,h3,h4,h5,h6⟩
 ·simp at hi
 ·have e : b.cells.length = l.length := by rw [h3, bB]
  refine ⟨by omega,by omega,⟨b,h1,by show b.floor≤l.length; omega,by omega⟩, ?_⟩
  refine ⟨b,h1,h5,h4,e.symm,by simp only [Int.toNat_natCast]; omega,rfl,rfl,rfl, ?_⟩
  refine hk _ (by simp) ((Upd.set _ _ _).mono fun i _ h=>h.symm) (.inr ⟨id,{ b with cells:=wr b.cells (0+(i:Int).toNat * 1) (iN x).parts,floor:=b.cells.length },by rw [List.length_set],List.getElem?_set_self (aV h1),h2, ?_, ?_,h5,h6⟩)
  ·show (b.cells).set (0 + (i : Int).toNat * 1) (iN x) = _
   rw [Int.toNat_natCast,Nat.mul_one,Nat.zero_add,h3,mM]
  ·show b.cells.length ≤ _
   rw [List.length_set]; omega
section
variable [XR] {h:aA} {Q:AV→aA→Prop} {L:Lim} {s:List UInt8} {d:Nat} {r:RS} {out:List UInt8} {F:Infl.Fin}
theorem RU.more {d:Nat} {h0 h h':aA} {r0 r:RS} {M:Nat→Prop} (a:RU d h0 r0 h r) (U:Upd M h h') (hM:∀ i,M i→h0.length≤i):RU d h0 r0 h' r:=
 ⟨a.1.trans U fun i hi hm=>by have:=hM i hm; omega,a.2⟩
theorem tQ {n:Nat} {kl:Bool} {c:bS} (hn0:0<n) (hn:n≤16) (S:RSt L s h d r out) (hA:At L s F r out (.wait ⟨out,kl,false⟩ (.num n 0 0) c))
  (hq:∀ v h' r',v<2 ^ n→RU d h r h' r'→RSt L s h' d r' out→(r'.stop=false→r.stop=false∧r.at'<r'.at')→At L s F r' out (Infl.settle L ((r'.at'+7) / 8) 3 (Infl.apply L ((r'.at'+7) / 8) ⟨out,kl,false⟩ v c))→Q (iN v) h') :
  C Y14.id [rp d,iN n] h Q:=by
 rcases hA with hA | ⟨hl,hF⟩
 ·exact jT hn hA.1 S fun h1 U1 S1=>hq 0 h1 r (Nat.pow_pos (by decide)) (RU.own U1 rfl) S1 (fun e=>by rw [hA.1] at e; cases e) (.inl hA)
 ·exact jU (F:=F) (k:=⟨out,kl,false⟩) (c:=c) hn rfl S hl rfl (by rw [if_pos hn0]; exact hF) (fun v h1 r1 hv U1 S1 hs1 hf1=>hq v h1 r1 hv U1 S1 (fun e=>by rw [hs1] at e; cases e) (.inl ⟨hs1,hf1⟩)) fun v h1 r1 hv U1 S1 hs1 hle1 hlt1 hF1=>hq v h1 r1 hv U1 S1 (fun _=>⟨hl,hlt1 hn0⟩) (.inr ⟨hs1,hF1⟩)
theorem kC {k:bG} (ho:k.out=out) (S:RSt L s h d r out) (hA:At L s F r out (.err 1 k)) (hq:∀ h' r',RU d h r h' r'→RSt L s h' d r' out→r'.stop=true→oZ r' out F→Q (.tu []) h'):C Y50.id [rp d] h Q:=by
 refine iD S (fun e=>?_) fun hl h1 U1 S1=>?_
 ·rcases hA with hA | ⟨hl, _⟩
  ·exact hq h r (RU.refl _ _ _) S hA.1 hA.2
  ·rw [hl] at e; cases e
 ·obtain ⟨hsh, he⟩ := eE hl
  rcases hA with hA | ⟨_,hF⟩
  ·rw [hA.1] at hl; cases hl
  ·rw [Infl.go_err] at hF
   exact hq h1 { r with e:=2 } (RU.own U1 rfl) S1 (by unfold RS.stop; rw [hsh] <;> rfl) (by rw [hF]; exact ⟨ho,.inr (.inl ⟨hsh,rfl,rfl⟩)⟩)
theorem At.stop {o:Out} (hs:r.stop=true) (hA:At L s F r out o) (o':Out):At L s F r out o':=by
 rcases hA with hA | ⟨hl,_⟩
 ·exact .inl hA
 ·rw [hs] at hl; cases hl
structure uP (L:Lim) (s:List UInt8) (F:Infl.Fin) (d:Nat) (h0:aA) (r0:RS) (kl:Bool) (Q:AV→aA→Prop):Prop where
 stop:∀ h' r' out v w,RU d h0 r0 h' r'→RSt L s h' d r' out→r'.stop=true→oZ r' out F→Q (.tu [v,w]) h'
 live:∀ h' r' out (a b:List Nat) va vb,RU d h0 r0 h' r'→RSt L s h' d r' out→r'.stop=false→r0.at'≤r'.at'→RdI 1 h' va (bI a) a.length→RdI 1 h' vb (bI b) b.length→(∀ i,aQ va i→h0.length≤i∧i<h'.length∧¬ eI d r' i)→(∀ i,aQ vb i→h0.length≤i∧i<h'.length∧¬ eI d r' i) →
  va.parts=[va]∧va.sizeOK=true∧va.cellOK=true→vb.parts=[vb]∧vb.sizeOK=true∧vb.cellOK=true→a.length≤320→b.length≤320→(∀ x∈a,x≤15)→(∀ x∈b,x≤15)→Huff.checkP a=0→Huff.checkP b=0→F=Infl.go L ((Infl.bitsOf s).drop r'.at') r'.at' (Infl.litW ⟨out,kl,false⟩ a b)→Q (.tu [va,vb]) h'
theorem Exa.frontS {h:aA} {v:AV} {l:List Nat} (S:Exa h v l) {n:Nat} (hn:n≤l.length) {K:AV→Prop} (hk:∀ v',RdI 1 h v' (bI (l.take n)) (l.take n).length→(∀ i,aQ v' i→aQ v i)→v'.parts=[v']∧v'.sizeOK=true∧v'.cellOK=true→K v'):bW 1 v none (some (.i .i64 (n:Int))) none h K:=by
 rcases S with ⟨rfl,rfl⟩ | ⟨id,b,rfl,g1,g2,g3,g4,g5,g6⟩
 ·have : n = 0 := by simpa using hn
  subst this
  exact ⟨by simp,rfl,rfl,rfl,fun h=>by simp at h,hk _ (.inl ⟨rfl,by simp,by simp [bI]⟩) (fun _ h=>h) ⟨rfl,rfl,rfl⟩⟩
 ·have e : b.cells.length = l.length := by rw [g3, bB]
  refine ⟨Nat.one_pos,fun h=>by simp at h,by omega,by simp,b,g1,by omega,by show b.floor≤l.length; omega,.inl g2,.inl (by simpa using hn), ?_⟩
  refine hk _ (.inr (.inr ⟨id,l.length,0+0 * 1,none,b, ?_,g1,by omega,by omega, ?_, ?_⟩)) (fun _ h=>h) ⟨rfl,rfl,rfl⟩
  ·simp; omega
  ·simp; omega
  ·rw [show 0 + 0 * 1 = 0 from rfl, List.drop_zero, g3]
   unfold bI
   rw [← List.map_take,Nat.mul_one,List.length_take,Nat.min_eq_left hn]
theorem Exa.backS {h:aA} {v:AV} {l:List Nat} (S:Exa h v l) {n:Nat} (hn:n≤l.length) {K:AV→Prop} (hk:∀ v',RdI 1 h v' (bI (l.drop n)) (l.drop n).length→(∀ i,aQ v' i→aQ v i)→v'.parts=[v']∧v'.sizeOK=true∧v'.cellOK=true→K v'):bW 1 v (some (.i .i64 (n:Int))) none none h K:=by
 rcases S with ⟨rfl,rfl⟩ | ⟨id,b,rfl,g1,g2,g3,g4,g5,g6⟩
 ·have : n = 0 := by simpa using hn
  subst this
  exact ⟨by simp,rfl,rfl,rfl,fun h=>by simp at h,hk _ (.inl ⟨rfl,rfl,rfl⟩) (fun _ h=>h) ⟨rfl,rfl,rfl⟩⟩
 ·have e : b.cells.length = l.length := by rw [g3, bB]
  refine ⟨Nat.one_pos,fun h=>by simp at h,by omega,by simpa using hn,b,g1,by omega,by show b.floor≤l.length; omega,.inl g2,.inl (Nat.le_refl _), ?_⟩
  refine hk _ (.inr (.inr ⟨id,l.length,0+((n:Int).toNat) * 1,none,b, ?_,g1,by omega,by omega, ?_, ?_⟩)) (fun _ h=>h) ⟨rfl,rfl,rfl⟩
  ·simp
  ·simp; omega
  ·rw [Int.toNat_natCast, Nat.mul_one, Nat.zero_add, Nat.mul_one, g3]
   unfold bI
   rw [← List.map_drop]
   exact List.take_of_length_le (by simp)
theorem aGH {h0 h0' : aA} {r0 : RS} {lits dists : Nat} {l : List Nat} {v : AV} {kl : Bool} (hl1 : lits ≤ 288) (hl2 : dists ≤ 32) (hP : uP L s F d h0 r0 kl Q) (U : RU d h0 r0 h r) (S : RSt L s h d r out) (hle : r.stop = false → r0.at' ≤ r.at') (E : Exa h v l) (hN : ∀ i, aQ v i → h0.length ≤ i ∧ ¬ eI d r i) (h16 : ∀ x ∈ l, x < 16) (hlen : r.stop = false → l.length = lits + dists) {c : List Nat}
  (hA:At L s F r out (Infl.lensW ⟨out,kl,false⟩ c l lits dists)):Y0.p9 (aH h0' Q) (rp d) lits v h:=by
 refine Y0.i9 ?_
 simp only [Y0.t9, ← Y0.p10.eq_1]
 refine bL S (aR ?_)
 rcases hA with hA | ⟨hl,hF⟩
 ·rw [hA.1]
  exact aN rfl (.inl (hP.stop h r out _ _ U S hA.1 hA.2))
 ·rw [hl]
  have hlen:=hlen hl
  have hat:=hle hl
  refine aG rfl ?_
  unfold Infl.lensW at hF
  rw [if_pos hlen] at hF
  have hEl:∀ i,aQ v i→i<h.length:=fun i hi=>E.lt hi
  have la:(l.take lits).length≤320:=by rw [List.length_take]; omega
  have lb:(l.drop lits).length≤320:=by rw [List.length_drop]; omega
  have a15:∀ x∈l.take lits,x≤15:=fun x hx=>by have:=h16 x (List.mem_of_mem_take hx); omega
  have b15:∀ x∈l.drop lits,x≤15:=fun x hx=>by have:=h16 x (List.mem_of_mem_drop hx); omega
  refine E.frontS (by omega) fun va Ra Na Ka=>?_
  have hck:∀ n,fI n=0↔n=0:=fun n=>by
   unfold fI
   split
   ·simp
   ·simp
   ·rename_i h1 h2; simp; exact h1
  have P11:∀ (h1:aA) (r1:RS),RU d h r h1 r1→(r1.stop=true→RSt L s h1 d r1 out∧oZ r1 out F)→(r1.stop=false→r1=r∧h1=h∧Huff.checkP (l.take lits)=0∧Huff.checkP (l.drop lits)=0)→Y0.p11 (aH h0' Q) lits v h1:=fun h1 r1 U1 hs hlv=>by
   have E1:Exa h1 v l:=E.upd U1.1 fun i hi hm=>(hN i hi).2 hm
   refine Y0.i11 ?_
   simp only [Y0.t11]
   refine E1.frontS (by omega) fun v1 R1 N1 K1=>E1.backS (by omega) fun v2 R2 N2 K2=>.inl ?_
   cases hr:r1.stop with
   | true =>
    obtain ⟨S1,f1⟩:=hs hr
    exact hP.stop h1 r1 out _ _ (U.trans U1) S1 hr f1
   | false =>
    obtain ⟨rfl,rfl,c1,c2⟩:=hlv hr
    refine hP.live h1 r1 out _ _ v1 v2 U S hl hat R1 R2 (fun i hi=>⟨(hN i (N1 i hi)).1,hEl i (N1 i hi),(hN i (N1 i hi)).2⟩) (fun i hi=>⟨(hN i (N2 i hi)).1,hEl i (N2 i hi),(hN i (N2 i hi)).2⟩) K1 K2 la lb a15 b15 c1 c2 ?_
    rw [hF]
    unfold Infl.codes
    rw [if_pos ⟨c1,c2⟩]
  have bad:¬ (Huff.checkP (l.take lits)=0∧Huff.checkP (l.drop lits)=0)→Y0.p10 (aH h0' Q) (rp d) lits v true h:=fun hb=>by
   refine Y0.i10 ?_
   simp only [Y0.t10, ← Y0.p11.eq_1]
   refine aN rfl ?_
   unfold Infl.codes at hF
   rw [if_neg hb] at hF
   refine kC (k:=⟨out,kl,false⟩) (F:=F) rfl S (.inr ⟨hl,hF⟩) fun h1 r1 U1 S1 hs1 hf1=>?_
   exact P11 h1 r1 U1 (fun _=>⟨S1,hf1⟩) fun e=>by rw [hs1] at e; cases e
  refine pL Ra la a15 (aC ?_)
  refine aI ?_ ?_ <;> intro e
  ·refine bad fun hh => ?_
   rw [hh.1] at e
   simp [fI] at e
  ·have e : Huff.checkP (l.take lits) = 0 := (hck _).1 (by simpa using e)
   refine E.backS (by omega) fun vb Rb Nb Kb=>?_
   refine pL Rb lb b15 (aC ?_)
   by_cases hb:Huff.checkP (l.drop lits)=0
   ·rw [hb]
    refine Y0.i10 ?_
    simp only [Y0.t10, ← Y0.p11.eq_1]
    refine aG rfl (P11 h r (RU.refl _ _ _) (fun e=>by rw [hl] at e; cases e) fun _=>⟨rfl,rfl,e,hb⟩)
   ·have : (!decide (fI (Huff.checkP (l.drop lits)) = 0)) = true := by simp [hck, hb]
    rw [this]
    exact bad fun hh=>hb hh.2
def aKZ (h:aA) (A B:Nat) (d:Nat) (r:RS) (p:AV) (c:List Nat):Prop:=(p = .p none∨∃ id,p=kp id)∧(r.stop=false→∃ id lv cv,p=kp id∧fN h (fun i=>¬ eI d r i∧A≤i∧i<B) id c lv cv 0 0∧c.length≤19)
theorem aCW {h0 h0' : aA} {r0 : RS} {lits dists B : Nat} {kl : Bool} {c : List Nat} {p : AV} (hl1 : lits ≤ 288) (hl2 : dists ≤ 32) (hB : h0.length ≤ B) (hP : uP L s F d h0 r0 kl Q) :
  ∀ (m : Nat) (h : aA) (r : RS) (v : AV) (l : List Nat), (r.stop = false → lits + dists - l.length ≤ m) → RU d h0 r0 h r → RSt L s h d r out → (r.stop = false → r0.at' ≤ r.at') → Exa h v l → B ≤ h.length → (∀ i, aQ v i → B ≤ i ∧ ¬ eI d r i) → (∀ x ∈ l, x < 16) → l.length ≤ 1000 → (r.stop = false → l.length ≤ lits + dists) → aKZ h h0.length B d r p c →
   At L s F r out (Infl.lensW ⟨out,kl,false⟩ c l lits dists)→Y0.p5 (aH h0' Q) (rp d) lits dists p v h:=by
 have final:∀ (h:aA) (r:RS) (v:AV) (l:List Nat),RU d h0 r0 h r→RSt L s h d r out→(r.stop=false→r0.at'≤r.at')→Exa h v l→(∀ i,aQ v i→B≤i∧¬ eI d r i)→(∀ x∈l,x<16)→(r.stop=false→l.length=lits+dists)→At L s F r out (Infl.lensW ⟨out,kl,false⟩ c l lits dists)→Y0.p6 (aH h0' Q) (rp d) lits dists p v false h:=fun h r v l U S hle E hN h16 hlen hA=>by
  refine Y0.i6 ?_
  simp only [Y0.t6, ← Y0.p9.eq_1]
  exact aG rfl (aGH hl1 hl2 hP U S hle E (fun i hi=>⟨Nat.le_trans hB (hN i hi).1,(hN i hi).2⟩) h16 hlen hA)
 intro m
 induction m with
 | zero =>
  intro h r v l hm U S hle E hBh hN h16 hl1000 hll hc hA
  refine Y0.i5 ?_
  simp only [Y0.t5, ← Y0.p6.eq_1]
  refine E.rd.len (bZ (n:=((lits+dists:Nat):Int)) (by omega) (by omega) (by omega) ?_)
  refine aI ?_ ?_ <;> intro e
  ·refine bL S (aR ?_)
   cases hs:r.stop with
   | true=>exact final h r v l U S hle E hN h16 (fun e=>by rw [hs] at e; cases e) hA
   | false=>have:=hm hs; have:=hll hs; simp at e; omega
  ·exact final h r v l U S hle E hN h16 (fun hs=>by have:=hll hs; simp at e; omega) hA
 | succ m ih =>
  intro h r v l hm U S hle E hBh hN h16 hl1000 hll hc hA
  refine Y0.i5 ?_
  simp only [Y0.t5, ← Y0.p6.eq_1]
  refine E.rd.len (bZ (n:=((lits+dists:Nat):Int)) (by omega) (by omega) (by omega) ?_)
  refine aI ?_ ?_ <;> intro e
  ·have e : l.length < lits + dists := by simp at e; omega
   refine bL S (aR ?_)
   cases hs:r.stop with
   | true=>exact final h r v l U S hle E hN h16 (fun e=>by rw [hs] at e; cases e) hA
   | false=>
   obtain ⟨ic,lv,cv,rfl,A,hc19⟩:=hc.2 hs
   have hle:=hle hs
   rcases hA with hA | ⟨_,hF⟩
   ·rw [hA.1] at hs; cases hs
   unfold Infl.lensW at hF
   rw [if_neg (by omega)] at hF
   have P7:∀ (n y:Nat) (h1:aA) (r1:RS),0<n→n≤138→y<16→RU d h0 r0 h1 r1→RSt L s h1 d r1 out→(r1.stop=false→r0.at'≤r1.at')→Exa h1 v l→B≤h1.length→(∀ i,aQ v i→B≤i∧¬ eI d r1 i)→aKZ h1 h0.length B d r1 (kp ic) c →
     At L s F r1 out (if lits+dists<l.length+n then .err 1 ⟨out,kl,false⟩ else Infl.lensW ⟨out,kl,false⟩ c (l++List.replicate n y) lits dists)→Y0.p7 (aH h0' Q) (rp d) lits dists (kp ic) v y n h1:=fun n y h1 r1 hn0 hn hy U1 S1 hle1 E1 hB1 hN1 hc1 hA1=>by
    have P8:∀ (h2:aA) (r2:RS),RU d h0 r0 h2 r2→RSt L s h2 d r2 out→(r2.stop=false→r0.at'≤r2.at')→Exa h2 v l→B≤h2.length→(∀ i,aQ v i→B≤i∧¬ eI d r2 i)→aKZ h2 h0.length B d r2 (kp ic) c→(r2.stop=false→l.length+n≤lits+dists)→At L s F r2 out (Infl.lensW ⟨out,kl,false⟩ c (l++List.replicate n y) lits dists)→Y0.p8 (aH h0' Q) (rp d) lits dists (kp ic) v y n h2:=fun h2 r2 U2 S2 hle2 E2 hB2 hN2 hc2 hl2' hA2=>by
     refine Y0.i8 ?_
     simp only [Y0.t8, ← Y0.p5.eq_1]
     refine tV (by omega) (by omega) E2 fun h3 v3 U3 S3 N3=>?_
     have hvn:∀ i,aQ v i→h0.length≤i:=fun i hi=>Nat.le_trans hB (hN2 i hi).1
     refine ih h3 r2 v3 (l++List.replicate n y) (fun e=>?_) (U2.more U3 hvn) (S2.upd U3 fun i hm hi=>(hN2 i hi).2 hm) hle2 S3 (Nat.le_trans hB2 U3.1) (fun i hi=>?_) (fun x hx=>?_) (by simp; omega) (fun e=>by simp; exact hl2' e) ⟨hc2.1,fun e=>?_⟩ hA2
     ·have := hl2' e
      rw [List.length_append,List.length_replicate]
      have:=hm hs
      omega
     ·rcases N3 i hi with g | g
      ·exact hN2 i g
      ·exact ⟨by omega,fun hm=>by have:=S2.lt hm; omega⟩
     ·rcases List.mem_append.1 hx with g | g
      ·exact h16 x g
      ·rw [(List.mem_replicate.1 g).2]; exact hy
     ·obtain ⟨id, lv', cv', e1, A', e2⟩ := hc2.2 e
      exact ⟨id,lv',cv',e1,A'.upd U3 (fun i hi hm=>by have:=(hN2 i hm).1; omega) fun i _ hi=>hi,e2⟩
    refine Y0.i7 ?_
    simp only [Y0.t7, ← Y0.p8.eq_1]
    refine E1.rd.len (bZ (n:=((l.length+n:Nat):Int)) (by omega) (by omega) (by omega) (bZ (n:=((lits+dists:Nat):Int)) (by omega) (by omega) (by omega) ?_))
    refine aI ?_ ?_ <;> intro e1
    ·have e1 : lits + dists < l.length + n := by simp at e1; omega
     rw [if_pos e1] at hA1
     refine kC (k:=⟨out,kl,false⟩) (F:=F) rfl S1 hA1 fun h2 r2 U2 S2 hs2 hf2=>?_
     refine P8 h2 r2 (U1.trans U2) S2 (fun e=>by rw [hs2] at e; cases e) (E1.upd U2.1 fun i hi hm=>(hN1 i hi).2 hm) (Nat.le_trans hB1 U2.1.1) (fun i hi=>⟨(hN1 i hi).1,fun hm=>(hN1 i hi).2 (U2.2 i (E1.lt hi) hm)⟩) ⟨hc1.1,fun e=>by rw [hs2] at e; cases e⟩ (fun e=>by rw [hs2] at e; cases e) (.inl ⟨hs2,hf2⟩)
    ·have e1 : ¬ lits + dists < l.length + n := by simp at e1; omega
     rw [if_neg e1] at hA1
     exact P8 h1 r1 U1 S1 hle1 E1 hB1 hN1 hc1 (fun _=>by omega) hA1
   refine Y0.i6 ?_
   simp only [Y0.t6, ← Y0.p7.eq_1, ← Y0.p9.eq_1]
   refine aN rfl ?_
   have keepN:∀ {h1:aA} {r1:RS},r1.outv=r.outv→∀ i,aQ v i→B≤i∧¬ eI d r1 i:=fun {h1 r1} e i hi=>⟨(hN i hi).1,fun hm=>(hN i hi).2 ((qZ e i).1 hm)⟩
   have hicB:ic<B:=A.g.2.2
   have eN:∀ {h1:aA} {r1:RS},RUc d ic h r h1 r1→Exa h1 v l:=fun {h1 r1} U1=>E.upd U1.1 fun i hi hm=>hm.elim (hN i hi).2 fun e=>by have:=(hN i hi).1; omega
   refine rA (F:=F) (k:=⟨out,kl,false⟩) (c:=.lens c l lits dists) (G:=fun i=>¬ eI d r i∧h0.length≤i∧i<B) rfl rfl (fun i hi=>hi.1) S hs A hF (fun h1 r1 U1 S1 hf1=>?_) (fun x h1 r1 hx U1 S1 hs1 hlt1 A1 hF1=>?_)
   ·
    refine aC (aG rfl (aG rfl (aG rfl ?_)))
    exact P7 1 0 h1 r1 (by decide) (by decide) (by decide) (U.c U1 A.g.2.1) S1 (fun e=>by rw [hf1.stop] at e; cases e) (eN U1) (Nat.le_trans hBh U1.1.1) (keepN (h1:=h1) U1.2) ⟨.inr ⟨ic,rfl⟩,fun e=>by rw [hf1.stop] at e; cases e⟩ (.inl ⟨hf1.stop,hf1⟩)
   ·have hx19 : x < 19 := by omega
    have Ua:=U.c U1 A.g.2.1
    have E1:=eN U1
    have N1:=keepN (h1:=h1) U1.2
    have hB1:=Nat.le_trans hBh U1.1.1
    have A1':fN h1 (fun i=>¬ eI d r1 i∧h0.length≤i∧i<B) ic c lv cv 0 0:=A1.upd (Upd.refl (fun _=>False) h1) (fun _ _ h=>h) fun i _ hi=>⟨fun hm=>hi.1 ((qZ U1.2 i).1 hm),hi.2⟩
    have C1:aKZ h1 h0.length B d r1 (kp ic) c:=⟨.inr ⟨ic,rfl⟩,fun _=>⟨ic,lv,cv,rfl,A1',hc19⟩⟩
    simp only [Infl.apply] at hF1
    have more:∀ (bits mm y:Nat) (K:Int→aA→Prop),0<bits→bits≤7→0<mm→mm+2 ^ bits≤139→y<16→F=Infl.go L ((Infl.bitsOf s).drop r1.at') r1.at' (.wait ⟨out,kl,false⟩ (.num bits 0 0) (.rep c l lits dists mm y)) →
      (∀ (w:Nat) (h2:aA),w<2 ^ bits→Exa h2 v l→Y0.p7 (aH h0' Q) (rp d) lits dists (kp ic) v y ((mm+w:Nat):Int) h2→K w h2) →
      C Y14.id [rp d,iN bits] h1 fun v1 h2=>asI .i64 v1 fun n=>K n h2:=fun bits mm y K hb0 hb hm0 hmb hy hF2 hK=>by
     refine tQ (F:=F) (kl:=kl) (c:=.rep c l lits dists mm y) hb0 (by omega) S1 (.inr ⟨hs1,hF2⟩) fun w h2 r2 hw U2 S2 hl2 hA2=>aC ?_
     have E2:Exa h2 v l:=E1.upd U2.1 fun i hi hm=>(N1 i hi).2 hm
     refine hK w h2 hw E2 ?_
     refine P7 (mm+w) y h2 r2 (by omega) (by omega) hy (Ua.trans U2) S2 (fun e=>by have:=hl2 e; omega) E2 (Nat.le_trans hB1 U2.1.1) (fun i hi=>⟨(N1 i hi).1,fun hm=>(N1 i hi).2 (U2.2 i (E1.lt hi) hm)⟩) ⟨.inr ⟨ic,rfl⟩,fun _=>⟨ic,lv,cv,rfl,A1'.upd U2.1 (fun i hi hm=>hi.1 hm) fun i hl hi=>⟨fun hm=>hi.1 (U2.2 i hl hm),hi.2⟩,hc19⟩⟩ ?_
     rcases hA2 with hA2 | ⟨hs2,hF3⟩
     ·exact .inl hA2
     ·refine .inr ⟨hs2, ?_⟩
      simp only [Infl.apply] at hF3
      rw [hF3]
      refine congrArg _ (Infl.settle_set ?_)
      split
      ·trivial
      ·exact aAT _ _ _ _ _
    refine aC ?_
    refine aI ?_ ?_ <;> intro e16
    ·have e16 : x = 16 := by simp at e16; omega
     rw [if_neg (by omega),if_pos e16] at hF1
     refine E1.rd.len ?_
     refine aI ?_ ?_ <;> intro e0
     ·have e0 : l = [] := List.eq_nil_of_length_eq_zero (by simp at e0; simpa using e0)
      rw [if_pos e0,Infl.settle_set (by trivial)] at hF1
      refine kC (k:=⟨out,kl,false⟩) (F:=F) rfl S1 (.inr ⟨hs1,hF1⟩) fun h2 r2 U2 S2 hs2 hf2=>?_
      exact aGH (l:=l) (c:=c) hl1 hl2 hP (Ua.trans U2) S2 (fun e=>by rw [hs2] at e; cases e) (E1.upd U2.1 fun i hi hm=>(N1 i hi).2 hm) (fun i hi=>⟨Nat.le_trans hB (N1 i hi).1,fun hm=>(N1 i hi).2 (U2.2 i (E1.lt hi) hm)⟩) h16 (fun e=>by rw [hs2] at e; cases e) (.inl ⟨hs2,hf2⟩)
     ·have e0 : l ≠ [] := fun e => by rw [e] at e0; simp at e0
      rw [if_neg e0,Infl.settle_set (m8 (n:=2) (by decide))] at hF1
      have hpos:0<l.length:=List.length_pos_iff.2 e0
      have hlast:l[l.length - 1]? = some (l.getLastD 0):=by
       rw [List.getLastD_eq_getLast?,List.getLast?_eq_getElem?]
       rw [List.getElem?_eq_getElem (by omega)] <;> rfl
      refine more 2 3 (l.getLastD 0) _ (by decide) (by decide) (by decide) (by decide) (h16 _ (List.mem_of_getElem? hlast)) hF1 fun w h2 hw E2 hp7=>?_
      refine bZ (n:=((3+w:Nat):Int)) (by omega) (by omega) (by omega) (E2.rd.len ?_)
      refine bZ (n:=((l.length - 1:Nat):Int)) (by omega) (by omega) (by omega) ?_
      exact dJ E2.rd.i hlast hp7
    ·have e16 : ¬ x = 16 := by simp at e16; omega
     refine aI ?_ ?_ <;> intro e17
     ·have e17 : x = 17 := by simp at e17; omega
      rw [if_neg (by omega),if_neg e16,if_pos e17,Infl.settle_set (m8 (n:=3) (by decide))] at hF1
      refine more 3 3 0 _ (by decide) (by decide) (by decide) (by decide) (by decide) hF1 fun w h2 hw E2 hp7=>?_
      exact bZ (n:=((3+w:Nat):Int)) (by omega) (by omega) (by omega) hp7
     ·have e17 : ¬ x = 17 := by simp at e17; omega
      refine aI ?_ ?_ <;> intro e18
      ·have e18 : x = 18 := by simp at e18; omega
       rw [if_neg (by omega),if_neg e16,if_neg e17,Infl.settle_set (m8 (n:=7) (by decide))] at hF1
       refine more 7 11 0 _ (by decide) (by decide) (by decide) (by decide) (by decide) hF1 fun w h2 hw E2 hp7=>?_
       exact bZ (n:=((11+w:Nat):Int)) (by omega) (by omega) (by omega) hp7
      ·have e18 : ¬ x = 18 := by simp at e18; omega
       have hx16:x<16:=by omega
       rw [if_pos hx16,Infl.settle_set (aAT _ _ _ _ _)] at hF1
       refine P7 1 x h1 r1 (by decide) (by decide) hx16 Ua S1 (fun _=>by omega) E1 hB1 N1 C1 (.inr ⟨hs1, ?_⟩)
       rw [if_neg (by omega)]
       exact hF1
  ·exact final h r v l U S hle E hN h16 (fun hs=>by have:=hll hs; simp at e; omega) hA
end
end Go.Proofs.YtfoekpcljhbijaaGreatDoor
namespace Go.Proofs.YtfoekpcljhbijaaGreatDoor
open Go.GAM
open Go.Infl (bG cG bS Out Lim)
section
variable [XR] {h:aA} {Q:AV→aA→Prop} {L:Lim} {s:List UInt8} {d:Nat} {r:RS} {out:List UInt8} {F:Infl.Fin}
theorem aD6 {h0 h0':aA} {r0:RS} {lits dists:Nat} {c:List Nat} {v:AV} {kl:Bool} (hl1:lits≤288) (hl2:dists≤32) (hP:uP L s F d h0 r0 kl Q) (U:RU d h0 r0 h r) (S:RSt L s h d r out) (hle:r.stop=false→r0.at'≤r.at') (E:Exa h v c) (hN:∀ i,aQ v i→h0.length≤i∧¬ eI d r i) (hc19:c.length=19) (h8:∀ x∈c,x<8)
  (hA:At L s F r out (Infl.lensW ⟨out,kl,false⟩ c [] lits dists)) (hck:r.stop=false→Huff.checkP c=0):Y0.p4 (aH h0' Q) (rp d) lits dists v h:=by
 have c15:∀ x∈c,x≤15:=fun x hx=>by have:=h8 x hx; omega
 have hU1:=U.1.1
 refine Y0.i4 ?_
 simp only [Y0.t4, ← Y0.p5.eq_1]
 refine wS E.rd.i (fun i hi=>E.lt hi) E.kind (by omega) c15 (fun hn e=>?_) fun hok h1 id cv V A hid hcv=>?_
 ·simp only [cX, cW]
  refine aC ?_
  have hs:r.stop=true:=by
   cases hs:r.stop with
   | true=>rfl
   | false=>exact absurd (hck hs) hn
  exact aCW (c:=c) (B:=h.length) hl1 hl2 hU1 hP (lits+dists) h r _ [] (fun e=>by rw [hs] at e; cases e) U S hle (.inl ⟨rfl,rfl⟩) (Nat.le_refl _) (fun _ h=>h.elim) (fun x hx=>by cases hx) (by simp) (fun e=>by rw [hs] at e; cases e) ⟨.inl rfl,fun e=>by rw [hs] at e; cases e⟩ hA
 ·simp only [cX, cW]
  refine aC ?_
  have hV:=V.1
  refine aCW (c:=c) (B:=h1.length) hl1 hl2 (by omega) hP (lits+dists) h1 r _ [] (fun _=>Nat.le_refl _) (U.more V fun _ h=>h.elim) (S.upd V fun _ _ h=>h) hle (.inl ⟨rfl,rfl⟩) (Nat.le_refl _) (fun _ h=>h.elim) (fun x hx=>by cases hx) (by simp) (fun _=>Nat.zero_le _) ⟨.inr ⟨id,rfl⟩,fun _=>⟨id,v,cv,rfl, ?_,by omega⟩⟩ hA
  refine A.upd (Upd.refl (fun _=>False) h1) (fun _ _ h=>h) fun i hl hi=>?_
  rcases hi with hi | hi
  ·exact ⟨(hN i hi).2,(hN i hi).1,hl⟩
  ·exact ⟨fun hm=>by have:=S.lt hm; omega,by omega,hl⟩
theorem aRK {h0 h0' : aA} {r0 : RS} {lits dists n : Nat} {v7 v8 : AV} {kl : Bool} (hl1 : lits ≤ 288) (hl2 : dists ≤ 32) (hn : n ≤ 19) (hP : uP L s F d h0 r0 kl Q) :
  ∀ (m i : Nat) (h : aA) (r : RS) (c : List Nat), i + m = n → RU d h0 r0 h r → RSt L s h d r out → (r.stop = false → r0.at' ≤ r.at') → RdI 1 h v7 (bI Infl.order) 19 → (∀ i, aQ v7 i → h0.length ≤ i ∧ ¬ eI d r i ∧ ¬ aQ v8 i ∧ i < h.length) → Exa h v8 c → (∀ i, aQ v8 i → h0.length ≤ i ∧ ¬ eI d r i) → c.length = 19 → (∀ x ∈ c, x < 8) →
   At L s F r out (Infl.thirdW ⟨out,kl,false⟩ c i n lits dists)→Y0.p2 (aH h0' Q) (rp d) lits dists n v7 v8 i h:=by
 intro m
 induction m with
 | zero =>
  intro i h r c hi U S hle R7 N7 E8 N8 hc19 h8 hA
  obtain rfl:i=n:=by omega
  have c15:∀ x∈c,x≤15:=fun x hx=>by have:=h8 x hx; omega
  refine Y0.i2 ?_
  simp only [Y0.t2, ← Y0.p3.eq_1]
  refine aG (by simp) (bL S (aR ?_))
  cases hs:r.stop with
  | true =>
   refine aG rfl (Y0.i3 ?_)
   simp only [Y0.t3, ← Y0.p4.eq_1]
   exact aG rfl (aD6 (c:=c) (out:=out) hl1 hl2 hP U S hle E8 N8 hc19 h8 (At.stop hs hA _) fun e=>by rw [hs] at e; cases e)
  | false =>
   rcases hA with hA | ⟨_,hF⟩
   ·rw [hA.1] at hs; cases hs
   unfold Infl.thirdW at hF
   rw [if_pos rfl] at hF
   refine aN rfl (pL E8.rd.i (by omega) c15 (aC (Y0.i3 ?_)))
   simp only [Y0.t3, ← Y0.p4.eq_1]
   by_cases hok:Huff.checkP c=0
   ·rw [if_pos hok] at hF
    rw [hok]
    exact aG rfl (aD6 (c:=c) (out:=out) hl1 hl2 hP U S hle E8 N8 hc19 h8 (.inr ⟨hs,hF⟩) fun _=>hok)
   ·rw [if_neg hok] at hF
    have hne:(!decide (fI (Huff.checkP c)=0))=true:=by
     have:fI (Huff.checkP c)≠0:=by
      unfold fI
      split
      ·contradiction
      ·decide
      ·decide
     simp [this]
    refine aN hne (kC (k:=⟨out,kl,false⟩) (F:=F) rfl S (.inr ⟨hs,hF⟩) fun h1 r1 U1 S1 hs1 hf1=>?_)
    exact aD6 (c:=c) (out:=out) hl1 hl2 hP (U.trans U1) S1 (fun e=>by rw [hs1] at e; cases e) (E8.upd U1.1 fun i hi hm=>(N8 i hi).2 hm) (fun i hi=>⟨(N8 i hi).1,fun hm=>(N8 i hi).2 (U1.2 i (E8.lt hi) hm)⟩) hc19 h8 (.inl ⟨hs1,hf1⟩) fun e=>by rw [hs1] at e; cases e
 | succ m ih =>
  intro i h r c hi U S hle R7 N7 E8 N8 hc19 h8 hA
  obtain ⟨o1,o2⟩:=aF3 i (by omega)
  refine Y0.i2 ?_
  simp only [Y0.t2, ← Y0.p2.eq_1]
  refine aN (by simp; omega) ?_
  have hget:(bI Infl.order)[i * 1+0]? = some (iN (Infl.order.getD i 0)):=by rw [Nat.mul_one,Nat.add_zero]; exact qI o1
  rw [aPT R7 (by omega) (by omega),Int.toNat_natCast,aQN R7 (by omega) Nat.one_pos hget]
  refine aC ?_
  have hthird:Infl.thirdW ⟨out,kl,false⟩ c i n lits dists = .wait ⟨out,kl,false⟩ (.num 3 0 0) (.third c i n lits dists):=by unfold Infl.thirdW; rw [if_neg (by omega)]
  rw [hthird] at hA
  refine tQ (n:=3) (F:=F) (kl:=kl) (c:=.third c i n lits dists) (by decide) (by decide) S hA fun v h1 r1 hv U1 S1 hl1' hA1=>aC ?_
  have hv8:v<8:=hv
  have R71:RdI 1 h1 v7 (bI Infl.order) 19:=R7.upd U1.1 fun i hi hm=>(N7 i hi).2.1 hm
  have E81:Exa h1 v8 c:=E8.upd U1.1 fun i hi hm=>(N8 i hi).2 hm
  rw [aQN R71 (by omega) Nat.one_pos hget]
  refine aC ⟨rfl, ?_⟩
  rw [aPT R71 (by omega) (by omega),Int.toNat_natCast]
  refine ⟨rfl, ?_⟩
  refine E81.store (by omega) fun h2 l2 U2 E82=>inc (by omega) ?_
  refine ih (i+1) h2 r1 (c.set (Infl.order.getD i 0) v) (by omega) ((U.trans U1).more U2 fun i hi=>(N8 i hi).1) (S1.upd U2 fun i hm hi=>(N8 i hi).2 (U1.2 i (E8.lt hi) hm)) (fun e=>?_) (R71.upd U2 fun i hi hm=>(N7 i hi).2.2.1 hm) (fun i hi=>⟨(N7 i hi).1,fun hm=>(N7 i hi).2.1 (U1.2 i (N7 i hi).2.2.2 hm),(N7 i hi).2.2.1,by have:=(N7 i hi).2.2.2; have:=U1.1.1; omega⟩) E82 (fun i hi=>⟨(N8 i hi).1,fun hm=>(N8 i hi).2 (U1.2 i (E8.lt hi) hm)⟩) (by rw [List.length_set]; exact hc19) (fun x hx=>?_) ?_
  ·have := hl1' e
   have:=hle this.1
   omega
  ·rcases List.mem_or_eq_of_mem_set hx with g | g
   ·exact h8 x g
   ·rw [g]; exact hv8
  ·rcases hA1 with hA1 | ⟨hs1, hF1⟩
   ·exact .inl hA1
   ·refine .inr ⟨hs1, ?_⟩
    simp only [Infl.apply] at hF1
    rw [Infl.settle_set (aC2 _ _ _ _ _ _)] at hF1
    exact hF1
theorem aS5 {kl : Bool} (S : RSt L s h d r out) (hA : At L s F r out (.wait ⟨out, kl, false⟩ (.num 5 0 0) .dyn1)) (hP : uP L s F d h r kl Q) : C Y0.id [rp d] h Q := by
 have P1:∀ (lits dists:Nat) (h1:aA) (r1:RS),lits≤288→dists≤32→RU d h r h1 r1→RSt L s h1 d r1 out→(r1.stop=false→r.at'≤r1.at')→At L s F r1 out (.wait ⟨out,kl,false⟩ (.num 4 0 0) (.dyn3 lits dists))→Y0.p1 (aH h Q) (rp d) lits dists h1:=fun lits dists h1 r1 hl1 hl2 U1 S1 hle1 hA1=>by
  refine Y0.i1 ?_
  simp only [Y0.t1, ← Y0.p2.eq_1]
  refine tQ (n:=4) (F:=F) (kl:=kl) (c:=.dyn3 lits dists) (by decide) (by decide) S1 hA1 fun v h2 r2 hv U2 S2 hl2' hA2=>aC ?_
  have hv:v<16:=hv
  refine bZ (n:=((v+4:Nat):Int)) (by omega) (by omega) (by omega) ?_
  refine dH (cs:=bI Infl.order) rfl rfl fun v7 h3 l3 U3 R3 F3=>?_
  refine vD (n:=19) (y:=0) (by decide) fun h4 v8 U4 E4 N4=>?_
  have hU1:=U1.1.1
  have hU2:=U2.1.1
  have hU4:=U4.1
  have S3:RSt L s h4 d r2 out:=(S2.upd U3 fun _ _ h=>h).upd U4 fun _ _ h=>h
  have R4:=R3.i.ext U4
  refine aRK (n:=v+4) (out:=out) hl1 hl2 (by omega) hP (v+4) 0 h4 r2 (List.replicate 19 0) (by omega) (((U1.trans U2).more U3 fun _ h=>h.elim).more U4 fun _ h=>h.elim) S3 (fun e=>?_) R4 (fun i hi=>?_) E4 (fun i hi=>⟨by have:=N4 i hi; omega,fun hm=>by have:=N4 i hi; have:=S2.lt hm; omega⟩) (by simp) (fun x hx=>by rw [(List.mem_replicate.1 hx).2]; decide) ?_
  ·have := hl2' e
   have:=hle1 this.1
   omega
  ·have hlt : i < h3.length := R3.lt hi
   have hge:h2.length≤i:=F3 i hi
   exact ⟨by omega,fun hm=>by have:=S2.lt hm; omega,fun h8=>by have:=N4 i h8; omega,by omega⟩
  ·rcases hA2 with hA2 | ⟨hs2, hF2⟩
   ·exact .inl hA2
   ·refine .inr ⟨hs2, ?_⟩
    simp only [Infl.apply] at hF2
    rw [Infl.settle_set (aC2 _ _ _ _ _ _)] at hF2
    exact hF2
 have P0:∀ (lits:Nat) (h1:aA) (r1:RS),lits≤288→RU d h r h1 r1→RSt L s h1 d r1 out→(r1.stop=false→r.at'≤r1.at')→At L s F r1 out (.wait ⟨out,kl,false⟩ (.num 5 0 0) (.dyn2 lits))→Y0.p0 (aH h Q) (rp d) lits h1:=fun lits h1 r1 hl1 U1 S1 hle1 hA1=>by
  refine Y0.i0 ?_
  simp only [Y0.t0, ← Y0.p1.eq_1]
  refine tQ (n:=5) (F:=F) (kl:=kl) (c:=.dyn2 lits) (by decide) (by decide) S1 hA1 fun v h2 r2 hv U2 S2 hl2' hA2=>aC ?_
  have hv:v<32:=hv
  have hle2:r2.stop=false→r.at'≤r2.at':=fun e=>by have:=hl2' e; have:=hle1 this.1; omega
  refine bZ (n:=((v+1:Nat):Int)) (by omega) (by omega) (by omega) ?_
  simp only [Infl.apply] at hA2
  refine aI ?_ ?_ <;> intro e
  ·have e : 30 < v + 1 := by simp at e; omega
   rw [if_pos e,Infl.settle_set (by trivial)] at hA2
   refine kC (k:=⟨out,kl,false⟩) (F:=F) rfl S2 hA2 fun h3 r3 U3 S3 hs3 hf3=>?_
   exact P1 lits (v+1) h3 r3 hl1 (by omega) ((U1.trans U2).trans U3) S3 (fun e=>by rw [hs3] at e; cases e) (.inl ⟨hs3,hf3⟩)
  ·have e : ¬ 30 < v + 1 := by simp at e; omega
   rw [if_neg e,Infl.settle_set (m8 (n:=4) (by decide))] at hA2
   exact P1 lits (v+1) h2 r2 hl1 (by omega) (U1.trans U2) S2 hle2 hA2
 refine Y0.call ?_
 simp only [Y0.t, ← Y0.p0.eq_1]
 refine tQ (n:=5) (F:=F) (kl:=kl) (c:=.dyn1) (by decide) (by decide) S hA fun v h2 r2 hv U2 S2 hl2' hA2=>aC ?_
 have hv:v<32:=hv
 have hle2:r2.stop=false→r.at'≤r2.at':=fun e=>by have:=hl2' e; omega
 refine bZ (n:=((v+257:Nat):Int)) (by omega) (by omega) (by omega) ?_
 simp only [Infl.apply] at hA2
 refine aI ?_ ?_ <;> intro e
 ·have e : 286 < v + 257 := by simp at e; omega
  rw [if_pos e,Infl.settle_set (by trivial)] at hA2
  refine kC (k:=⟨out,kl,false⟩) (F:=F) rfl S2 hA2 fun h3 r3 U3 S3 hs3 hf3=>?_
  exact P0 (v+257) h3 r3 (by omega) (U2.trans U3) S3 (fun e=>by rw [hs3] at e; cases e) (.inl ⟨hs3,hf3⟩)
 ·have e : ¬ 286 < v + 257 := by simp at e; omega
  rw [if_neg e,Infl.settle_set (m8 (n:=5) (by decide))] at hA2
  exact P0 (v+257) h2 r2 (by omega) U2 S2 hle2 hA2
theorem aAX {a b:List Nat} {va vb:AV} {kl:Bool} (S:RSt L s h d r out) (Ra:RdI 1 h va (bI a) a.length) (Rb:RdI 1 h vb (bI b) b.length) (Na:∀ i,aQ va i→i<h.length∧¬ eI d r i) (Nb:∀ i,aQ vb i→i<h.length∧¬ eI d r i)
  (Ka:va.parts=[va]∧va.sizeOK=true∧va.cellOK=true) (Kb:vb.parts=[vb]∧vb.sizeOK=true∧vb.cellOK=true) (la:a.length≤320) (lb:b.length≤320) (a15:∀ x∈a,x≤15) (b15:∀ x∈b,x≤15) (ca:Huff.checkP a=0) (cb:Huff.checkP b=0)
  (hA:At L s F r out (lits a b kl out)) (hq:∀ h' r' out',RU d h r h' r'→RSt L s h' d r' out'→(r'.stop=false→r.at'≤r'.at')→At L s F r' out' (Infl.block ⟨out',kl,false⟩)→Q (.tu []) h'):C Y2.id [rp d,va,vb] h Q:=by
 refine Y2.call ?_
 simp only [Y2.t, ← Y2.p0.eq_1]
 refine wS Ra (fun i hi=>(Na i hi).1) Ka la a15 (fun hn _=>absurd ca hn) fun _ h1 ia cva U1 A1 hia hca=>?_
 simp only [cX,cW]
 refine aC (wS (Rb.ext U1) (fun i hi=>Nat.lt_of_lt_of_le (Nb i hi).1 U1.1) Kb lb b15 (fun hn _=>absurd cb hn) fun _ h2 ib cvb U2 B2 hib hcb=>?_)
 simp only [cX,cW]
 refine aC ?_
 have U:=U1.then U2
 have hU1:=U1.1
 have hial:=A1.recd.lt
 have S2:RSt L s h2 d r out:=S.upd U fun _ _ h=>h
 refine aBP (r0:=r) (a:=a) (b:=b) (la:=va) (ca:=cva) (lb:=vb) (cb:=cvb) hq (8 * s.length) h2 r out (fun _=>by omega) (RU.ext U) ⟨?_, ?_,hia,by omega⟩ S2 (fun _=>Nat.le_refl _) hA
 ·refine A1.upd U2 (fun _ _ h => h) fun i hl hi => ?_
  rcases hi with hi | hi
  ·exact ⟨(Na i hi).2,by have:=(Na i hi).1; omega⟩
  ·exact ⟨fun hm=>by have:=S.lt hm; omega,by omega⟩
 ·refine B2.upd (Upd.refl (fun _ => False) h2) (fun _ _ h => h) fun i hl hi => ?_
  rcases hi with hi | hi
  ·exact ⟨(Nb i hi).2,by have:=(Nb i hi).1; omega⟩
  ·exact ⟨fun hm=>by have:=S.lt hm; omega,by omega⟩
end
end Go.Proofs.YtfoekpcljhbijaaGreatDoor
namespace Go.Proofs.YtfoekpcljhbijaaGreatDoor
open Go.GAM
open Go.Infl (bG cG bS Out Lim)
structure DSt (L:Lim) (h:aA) (F:Nat→Prop) (d:Nat) (r:DR) (told:Nat) (o:Out) (inp:Nat) (rest:List UInt8):Prop where
 dec:Dec L h F d r o.core.out told
 ord:dI h
 rest:r.rest=rest
 st:match o with
  | .wait k w c=>r.input=inp∧r.last=k.last∧r.skip=k.skip∧r.done=false∧r.bad=false∧xL h F d r w c∧aHV w c∧(Out.wait k w c).set
  | .done _=>r.done=true∧r.bad=false
  | .err e _=>r.done=false∧r.bad=true∧(e=1∨e=2)
def aFZ:Out→Int
 | .err e _=>eno e
 | _=>0
section
variable [XR] {h:aA} {Q:AV→aA→Prop} {L:Lim} {F:Nat→Prop} {d:Nat} {r:DR} {out:List UInt8} {told:Nat}
theorem Dec.text {l:List UInt8} (D:Dec L h F d r out told) {K:List UInt8→Prop} (hk:K (out.drop told)):cJ r.fresh h K:=by
 refine Byt.str (l:=out.drop told) ?_ hk
 have:=D.fresh.rd
 rw [List.length_map] at this
 exact this
theorem aCB {w:cG} {c:bS} {k:bG} (hs:k.skip=true):∀ (bs:List Nat) (i:Nat),i % 8≠0→i % 8+bs.length=8→Infl.run L bs i (.wait k w c)=(i+bs.length,.wait k w c)
 | [],i,h1,h2=>by rw [Infl.run_nil] <;> rfl
 | b :: bs, i, h1, h2 => by
  rw [Infl.run_bit,if_pos ⟨hs,h1⟩]
  rw [List.length_cons] at h2 ⊢
  by_cases hb:bs=[]
  ·subst hb; rw [Infl.run_nil] <;> rfl
  ·have := List.length_pos_iff.2 hb
   rw [aCB hs bs (i+1) (by omega) (by omega)]
   congr 1; omega
theorem zW:∀ (n x:Nat),(Huff.loBits x n).length=n
 | 0,_=>rfl
 | n+1,x=>by unfold Huff.loBits; rw [List.length_cons,zW n]
theorem aPQ (c:UInt8) {k:Nat} (hk:k<8):bA .and .i64 ((c.toNat / 2 ^ k:Nat):Int) 1=((c.toNat / 2 ^ k % 2:Nat):Int):=by
 have hc:=c.toNat_lt
 have:c.toNat / 2 ^ k≤c.toNat:=Nat.div_le_self _ _
 have:=mB (x:=c.toNat / 2 ^ k) (y:=1) (by omega) (by decide)
 rw [Nat.and_one_is_mod] at this
 exact this
def Nxt (Q:AV→aA→Prop) (d:Nat) (s:List UInt8) (i:Nat) (told:Nat) (h':aA):Out→Prop
 | .wait ..=>Y1.p1 Q (dp d) s s.length ((i+1:Nat):Int) h'
 | .done _=>Y1.p4 Q (dp d) h'
 | .err e k=>Q (.tu [.s (k.out.drop told),.i .i64 (eno e)]) h'
theorem aNG {hb : aA} {s : List UInt8} {i : Nat} {ch : UInt8} (hc : s[i]? = some ch) (hslen : s.length < 1099511627776) (hF0 : ¬ F 0) {inp : Nat} (hinp : 0 < inp) :
  ∀ (m k:Nat) (h:aA) (r:DR) (kc:bG) (w:cG) (c:bS),k+m=8→(k=0→kc.skip=false)→DSt L h F d r told (.wait kc w c) inp []→(∀ i,h.length≤i→F i) →
  (∀ h' r',Upd F h h'→DSt L h' F d r' told (Infl.run L (Huff.loBits (ch.toNat / 2 ^ k) m) (8 * (inp - 1)+k) (.wait kc w c)).2 inp (match (Infl.run L (Huff.loBits (ch.toNat / 2 ^ k) m) (8 * (inp - 1)+k) (.wait kc w c)).2 with | .done _=>s.drop (i+1) | _=>[]) →
   Nxt (aH hb Q) d s i told h' (Infl.run L (Huff.loBits (ch.toNat / 2 ^ k) m) (8 * (inp - 1)+k) (.wait kc w c)).2) →
  Y1.p2 (aH hb Q) (dp d) s i k s.length i h:=by
 intro m
 induction m with
 | zero =>
  intro k h r kc w c hkm hk0 S hF hq
  obtain rfl:k=8:=by omega
  have hsi:=aV hc
  obtain ⟨s1,s2,s3,s4,s5,s6,s7,s8⟩:=S.st
  have P3:Y1.p3 (aH hb Q) (dp d) s i (8:Nat) s.length i false h:=by
   refine Y1.i3 ?_
   simp only [Y1.t3,bE,bD, ← Y1.p1.eq_1]
   refine aG rfl ?_
   refine aE S.dec.recd rfl rfl (aR ?_)
   rw [s4]
   refine aG rfl (inc (by omega) ?_)
   exact hq h r (Upd.refl _ _) S
  refine Y1.i2 ?_
  simp only [Y1.t2, ← Y1.p3.eq_1]
  exact aG (by decide) P3
 | succ m ih =>
  intro k h r kc w c hkm hk0 S hF hq
  have hsi:=aV hc
  obtain ⟨s1,s2,s3,s4,s5,s6,s7,s8⟩:=S.st
  have hch:=ch.toNat_lt
  refine Y1.i2 ?_
  simp only [Y1.t2,bE,bD, ← Y1.p3.eq_1]
  refine aN (by simp; omega) ?_
  refine aE S.dec.recd rfl rfl (aR ?_)
  cases hsk:kc.skip with
  | true =>
   rw [s3,hsk]
   refine aG rfl ?_
   have hk:k≠0:=fun e=>by rw [hk0 e] at hsk; cases hsk
   rw [aCB hsk _ _ (by omega) (by rw [zW]; omega)] at hq
   refine Y1.i3 ?_
   simp only [Y1.t3,bE,bD, ← Y1.p1.eq_1]
   refine aG rfl ?_
   refine aE S.dec.recd rfl rfl (aR ?_)
   rw [s4]
   refine aG rfl (inc (by omega) ?_)
   exact hq h r (Upd.refl _ _) S
  | false =>
   rw [s3,hsk]
   refine aN rfl ?_
   refine aE S.dec.recd rfl rfl (aR ?_)
   rw [s4]
   refine Y1.i3 ?_
   simp only [Y1.t3,bE,bD, ← Y1.p2.eq_1]
   refine aN rfl ?_
   refine eQ hc ?_
   rw [aY (by omega) (by omega)]
   refine aEM (a:=ch.toNat) (b:=k) (by show k≤64; omega) ?_
   rw [aPQ ch (by omega)]
   have hb2:ch.toNat / 2 ^ k % 2<2:=Nat.mod_lt _ (by decide)
   have hcore:(⟨kc.out,r.last,r.skip⟩:bG)={ kc with skip:=false }:=by rw [s2,s3,hsk]
   have hpos:(8 * (inp - 1)+k) / 8+1=inp:=by omega
   have hlo:Huff.loBits (ch.toNat / 2 ^ k) (m+1)=ch.toNat / 2 ^ k % 2 :: Huff.loBits (ch.toNat / 2 ^ (k+1)) m:=by
    rw [Nat.pow_succ, ← Nat.div_div_eq_div_mul] <;> rfl
   rw [hlo,Infl.run_bit,if_neg (by rw [hsk]; simp),hpos] at hq
   refine aVJ hb2 hF0 S.ord S.dec hF s4 s6 s7 (by cases w <;> exact s8) fun e h1 r1 O1 hset P=>aC ?_
   rw [s1] at P hset
   have hcore':(⟨(Out.wait kc w c).core.out,r.last,r.skip⟩:bG)={ kc with skip:=false }:=hcore
   rw [hcore'] at P hset
   generalize Infl.bitP L inp { kc with skip:=false } w c (ch.toNat / 2 ^ k % 2)=o at P hq hset
   have hF1:∀ i,h1.length≤i→F i:=fun i hi=>hF i (Nat.le_trans P.upd.1 hi)
   have hrest:=P.rest.trans S.rest
   have hbad:=P.bad.trans s5
   have hst:=P.st
   cases o with
   | err x kx =>
    obtain ⟨hx,hx2,hdn⟩:=hst
    rw [Infl.run_err] at hq
    refine aN (by rw [hx]; rcases hx2 with rfl | rfl <;> decide) ?_
    refine aJ P.dec.recd rfl (ltr rfl) (hk:=fun h2 l2 U2 R2=>?_)
    have D2:Dec L h2 F d { r1 with bad:=true } kx.out told:=P.dec.with U2 R2 rfl rfl rfl rfl
    refine aE R2 rfl rfl ?_
    refine D2.text (l:=kx.out) ?_
    have O2:dI h2:=O1.upd U2 fun e=>hF0 (e ▸ D2.f d (.inl rfl))
    have:=hq h2 { r1 with bad:=true } (P.upd.trans (U2.mono fun i _ e=>D2.f i (.inl e)) fun _ _ h=>h) ⟨D2,O2,hrest,hdn,rfl,hx2⟩
    rw [hx]
    exact this
   | done kx =>
    obtain ⟨hx,hdn⟩:=hst
    rw [Infl.run_done] at hq
    subst hx
    refine aG rfl (inc (by omega) ?_)
    refine Y1.i2 ?_
    simp only [Y1.t2,bE,bD, ← Y1.p3.eq_1]
    have P3:Y1.p3 (aH hb Q) (dp d) s i ((k+1:Nat):Int) s.length i false h1:=by
     refine Y1.i3 ?_
     simp only [Y1.t3,bE,bD, ← Y1.p4.eq_1]
     refine aG rfl ?_
     refine aE P.dec.recd rfl rfl (aR ?_)
     rw [hdn]
     refine aN rfl (inc (by omega) (jF (by omega) ?_))
     refine aJ P.dec.recd rfl (ltr rfl) (hk:=fun h2 l2 U2 R2=>?_)
     have D2:Dec L h2 F d { r1 with rest:=s.drop (i+1) } kx.out told:=P.dec.with U2 R2 rfl rfl rfl rfl
     have O2:dI h2:=O1.upd U2 fun e=>hF0 (e ▸ D2.f d (.inl rfl))
     exact hq h2 { r1 with rest:=s.drop (i+1) } (P.upd.trans (U2.mono fun i _ e=>D2.f i (.inl e)) fun _ _ h=>h) ⟨D2,O2,rfl,hdn,hbad⟩
    refine aI ?_ ?_ <;> intro e8
    ·refine aE P.dec.recd rfl rfl (aR ?_)
     cases r1.skip with
     | true=>exact aG rfl P3
     | false =>
      refine aN rfl (aE P.dec.recd rfl rfl (aR ?_))
      rw [hdn]
      exact P3
    ·exact P3
   | wait kx wx cx =>
    obtain ⟨hx,w1,w2,w3,w4,w5⟩:=hst
    subst hx
    refine aG rfl (inc (by omega) ?_)
    refine ih (k+1) h1 r1 kx wx cx (by omega) (fun e=>by omega) ⟨P.dec,O1,hrest,P.inp.trans s1,w1,w2,w3,hbad,w4,w5,by cases wx <;> exact hset⟩ hF1 fun h2 r2 U2 S2=>?_
    exact hq h2 r2 (P.upd.trans U2 fun _ _ h=>h) S2
theorem pX {o:Out} (c:UInt8) (t:List UInt8) (i:Nat):Infl.run L (Infl.bitsOf (c :: t)) i o=Infl.run L (Infl.bitsOf t) (Infl.run L (Huff.loBits c.toNat 8) i o).1 (Infl.run L (Huff.loBits c.toNat 8) i o).2:=by
 show Infl.run L (Huff.loBits c.toNat 8++Infl.bitsOf t) i o=_
 exact Infl.run_append _ _ _ _
omit [XR] in
theorem qG:∀ (bs:List Nat) (i:Nat) (o:Out),i≤(Infl.run L bs i o).1∧(Infl.run L bs i o).1≤i+bs.length
 | bs,i,.done k=>by rw [Infl.run_done]; exact ⟨Nat.le_refl _,Nat.le_add_right _ _⟩
 | bs,i,.err e k=>by rw [Infl.run_err]; exact ⟨Nat.le_refl _,Nat.le_add_right _ _⟩
 | [],i,.wait k w c=>by rw [Infl.run_nil]; exact ⟨Nat.le_refl _,Nat.le_refl _⟩
 | b :: bs, i, .wait k w c => by
  rw [Infl.run_bit,List.length_cons]
  split
  ·have:=qG bs (i+1) (.wait k w c); omega
  ·have:=qG bs (i+1) (Infl.bitP L (i / 8+1) { k with skip:=false } w c b); omega
theorem vV {b:Nat} {bs:List Nat} {i:Nat} {k:bG} {w:cG} {c:bS}:i+1≤(Infl.run L (b :: bs) i (.wait k w c)).1:=by
 rw [Infl.run_bit]
 split
 ·exact (qG bs (i+1) _).1
 ·exact (qG bs (i+1) _).1
def dR (s:List UInt8) (inp:Nat) (x:Nat × Out):List UInt8:=match x.2 with
 | .done _=>s.drop ((x.1+7) / 8 - inp)
 | _=>[]
theorem aMD {hb : aA} {s : List UInt8} (hslen : s.length < 1099511627776) (hF0 : ¬ F 0) {inp0 : Nat} (hin : inp0 + s.length ≤ 1099511627776) :
  ∀ (t:List UInt8) (i:Nat) (h:aA) (r:DR) (kc:bG) (w:cG) (c:bS),s.drop i=t→i≤s.length→DSt L h F d r told (.wait kc w c) (inp0+i) []→(∀ i,h.length≤i→F i) →
  (∀ h' r',Upd F h h'→DSt L h' F d r' told (Infl.run L (Infl.bitsOf t) (8 * (inp0+i)) (.wait kc w c)).2 (inp0+s.length) (dR s inp0 (Infl.run L (Infl.bitsOf t) (8 * (inp0+i)) (.wait kc w c))) →
   Q (.tu [.s ((Infl.run L (Infl.bitsOf t) (8 * (inp0+i)) (.wait kc w c)).2.core.out.drop told),.i .i64 (aFZ (Infl.run L (Infl.bitsOf t) (8 * (inp0+i)) (.wait kc w c)).2)]) h') →
  Y1.p1 (aH hb Q) (dp d) s s.length i h:=by
 have tail:∀ (h:aA) (r:DR) (o:Out) (inp:Nat) (rest:List UInt8),DSt L h F d r told o inp rest→aFZ o=0→Q (.tu [.s (o.core.out.drop told),.i .i64 0]) h→Y1.p4 (aH hb Q) (dp d) h:=fun h r o inp rest S ho hq=>by
  refine Y1.i4 ?_
  simp only [Y1.t4,bE,bD]
  refine aE S.dec.recd rfl rfl (S.dec.text (l:=o.core.out) (.inl hq))
 intro t
 induction t with
 | nil =>
  intro i h r kc w c ht hi S hF hq
  have:i=s.length:=by have:=aPM ht; omega
  subst this
  rw [show Infl.bitsOf []=[] from rfl,Infl.run_nil] at hq
  refine Y1.i1 ?_
  simp only [Y1.t1, ← Y1.p4.eq_1]
  refine aG (by simp) (tail h r _ _ _ S rfl (hq h r (Upd.refl _ _) S))
 | cons ch t ih =>
  intro i h r kc w c ht hi S hF hq
  have hsi:=aRX ht
  have hat:=aHZ ht
  have htn:=aM5 ht
  obtain ⟨s1,s2,s3,s4,s5,s6,s7,s8⟩:=S.st
  refine Y1.i1 ?_
  simp only [Y1.t1,bE,bD, ← Y1.p2.eq_1]
  refine aN (by simp; omega) ?_
  refine aE S.dec.recd rfl rfl (aC ?_)
  rw [s1]
  refine inc (by omega) ?_
  refine aJ S.dec.recd rfl (ltr rfl) (hk:=fun h1 l1 U1 R1=>?_)
  refine aJ R1 rfl (ltr rfl) (hk:=fun h2 l2 U2 R2=>?_)
  have U:=U1.trans U2 fun _ _ h=>h
  have UF:Upd F h h2:=U.mono fun i _ e=>S.dec.f i (.inl e)
  have D2:Dec L h2 F d { r with input:=inp0+i+1,skip:=false } kc.out told:=by
   have D:=S.dec
   exact { recd:=R2,past:=D.past.upd U fun i hi e=>D.d1 (e ▸ hi),fresh:=D.fresh.upd U fun i hi e=>D.d2 (e ▸ hi),total:=D.total,told:=D.told,d1:=D.d1,d2:=D.d2,d3:=D.d3,lim:=D.lim,inp:=by show inp0+i+1≤_; omega,len:=D.len,f:=D.f }
  have O2:dI h2:=S.ord.upd U fun e=>hF0 (e ▸ D2.f d (.inl rfl))
  have W2:xL h2 F d { r with input:=inp0+i+1,skip:=false } w c:=by
   cases w with
   | num need hv acc =>
    obtain ⟨w1,w2,w3,w4,w5,w6⟩:=s6
    exact ⟨w1,w2,w3,w4,w5,w6.upd U (fun i hi e=>hi.2 (.inl e)) fun _ _ h=>h⟩
   | sym l n x =>
    obtain ⟨w1,ic,sym,w2,w3,w4⟩:=s6
    exact ⟨w1,ic,sym,w2,w3.upd U (fun i hi e=>hi.2 (.inl e)) fun _ _ h=>h,w4.upd U (fun i hi e=>hi.1.2 (.inl e)) fun _ _ h=>h⟩
  have S2:DSt L h2 F d { r with input:=inp0+i+1,skip:=false } told (.wait { kc with skip:=false } w c) (inp0+i+1) []:=⟨D2,O2,S.rest,rfl,s2,rfl,s4,s5,W2,s7,by cases w <;> exact s8⟩
  have hbits:Huff.loBits ch.toNat 8=ch.toNat % 2 :: Huff.loBits (ch.toNat / 2) 7:=rfl
  have hal:Infl.run L (Huff.loBits ch.toNat 8) (8 * (inp0+i)) (.wait kc w c)=Infl.run L (Huff.loBits ch.toNat 8) (8 * (inp0+i)) (.wait { kc with skip:=false } w c):=by
   rw [hbits]; exact Infl.run_aligned (by omega)
  have hrl:=qG (L:=L) (Huff.loBits ch.toNat 8) (8 * (inp0+i)) (.wait { kc with skip:=false } w c)
  have hrf:8 * (inp0+i)+1≤(Infl.run L (Huff.loBits ch.toNat 8) (8 * (inp0+i)) (.wait { kc with skip:=false } w c)).1:=by rw [hbits]; exact vV
  rw [zW] at hrl
  rw [pX,hal] at hq
  refine aNG (inp:=inp0+i+1) hat hslen hF0 (by omega) 8 0 h2 _ { kc with skip:=false } w c rfl (fun _=>rfl) S2 (fun i hi=>hF i (by omega)) fun h3 r3 U3 S3=>?_
  rw [Nat.pow_zero,Nat.div_one,show 8 * (inp0+i+1 - 1)+0=8 * (inp0+i) by omega] at S3 ⊢
  have hpos:=fun {k':bG} {w':cG} {c':bS} hh=>Infl.run_pos (L:=L) (Huff.loBits ch.toNat 8) (8 * (inp0+i)) (.wait { kc with skip:=false } w c) (k:=k') (w:=w') (c:=c') hh
  rw [zW] at hpos
  generalize hX:Infl.run L (Huff.loBits ch.toNat 8) (8 * (inp0+i)) (.wait { kc with skip:=false } w c)=X at S3 hq hrl hrf hpos ⊢
  obtain ⟨p,o⟩:=X
  simp only at S3 hq hrl hrf hpos ⊢
  have UF3:Upd F h h3:=UF.trans U3 fun _ _ h=>h
  cases o with
  | wait k' w' c' =>
   have hp:p=8 * (inp0+(i+1)):=by rw [hpos rfl]; omega
   subst hp
   refine ih (i+1) h3 r3 k' w' c' htn (by omega) S3 (fun i hi=>hF i (Nat.le_trans UF3.1 hi)) fun h4 r4 U4 S4=>?_
   exact hq h4 r4 (UF3.trans U4 fun _ _ h=>h) S4
  | done k' =>
   rw [Infl.run_done] at hq
   have hr:dR s inp0 (p,.done k')=s.drop (i+1):=by
    unfold dR
    simp only
    congr 1; omega
   rw [hr] at hq
   exact tail h3 r3 _ _ _ S3 rfl (hq h3 r3 UF3 ⟨S3.dec,S3.ord,S3.rest,S3.st⟩)
  | err e' k' =>
   rw [Infl.run_err] at hq
   exact .inl (hq h3 r3 UF3 ⟨S3.dec,S3.ord,S3.rest,S3.st⟩)
theorem aTH {s:List UInt8} {kc:bG} {w:cG} {c:bS} {inp:Nat} (hF0:¬ F 0) (hs:inp+s.length<1099511627776) (S:DSt L h F d r told (.wait kc w c) inp []) (hF:∀ i,h.length≤i→F i)
  (hq:∀ h' r',Upd F h h'→DSt L h' F d r' kc.out.length (Infl.run L (Infl.bitsOf s) (8 * inp) (.wait kc w c)).2 (inp+s.length) (dR s inp (Infl.run L (Infl.bitsOf s) (8 * inp) (.wait kc w c))) →
   Q (.tu [.s ((Infl.run L (Infl.bitsOf s) (8 * inp) (.wait kc w c)).2.core.out.drop kc.out.length),.i .i64 (aFZ (Infl.run L (Infl.bitsOf s) (8 * inp) (.wait kc w c)).2)]) h') :
  C Y1.id [dp d,.s s] h Q:=by
 obtain ⟨s1,s2,s3,s4,s5,s6,s7,s8⟩:=S.st
 refine Y1.call ?_
 simp only [Y1.t, ← Y1.p0.eq_1]
 refine cF (by kernel_rfl) (aR (aG rfl ?_))
 simp only [bE,bD]
 refine aE S.dec.recd rfl rfl (aR ?_)
 rw [s5]
 refine aG rfl (aE S.dec.recd rfl rfl (aR ?_))
 rw [s4]
 refine Y1.i0 ?_
 simp only [Y1.t0,bE,bD, ← Y1.p1.eq_1]
 refine aG rfl ?_
 refine aJ S.dec.recd rfl (ltr rfl) (hk:=fun h1 l1 U1 R1=>?_)
 have UF:Upd F h h1:=U1.mono fun i _ e=>S.dec.f i (.inl e)
 have D1:Dec L h1 F d { r with fresh:=.sl none 0 none } kc.out kc.out.length:=by
  have D:=S.dec
  exact { recd:=R1,past:=D.past.upd U1 fun i hi e=>D.d1 (e ▸ hi),fresh:=.inl ⟨rfl,by simp⟩,total:=D.total,told:=Nat.le_refl _,d1:=D.d1,d2:=fun h=>h,d3:=fun _ _ h=>h,lim:=D.lim,inp:=D.inp,len:=D.len,f:=fun i hi=>hi.elim (fun e=>D.f i (.inl e)) fun hi=>hi.elim (fun e=>D.f i (.inr (.inl e))) fun e=>e.elim }
 have O1:dI h1:=S.ord.upd U1 fun e=>hF0 (e ▸ D1.f d (.inl rfl))
 have hg:∀ i,Gd F d r i→Gd F d { r with fresh:=.sl none 0 none } i:=fun i hi=>⟨hi.1,fun m=>hi.2 (m.elim .inl fun m=>m.elim (fun e=>.inr (.inl e)) fun e=>e.elim)⟩
 have W1:xL h1 F d { r with fresh:=.sl none 0 none } w c:=by
  cases w with
  | num need hv acc =>
   obtain ⟨w1,w2,w3,w4,w5,w6⟩:=s6
   exact ⟨w1,w2,w3,w4,w5,w6.upd U1 (fun i hi e=>hi.2 (.inl e)) fun i _ h=>hg i h⟩
  | sym l n x =>
   obtain ⟨w1,ic,sym,w2,w3,w4⟩:=s6
   exact ⟨w1,ic,sym,w2,w3.upd U1 (fun i hi e=>hi.2 (.inl e)) fun i _ h=>hg i h,w4.upd U1 (fun i hi e=>hi.1.2 (.inl e)) fun i _ h=>⟨hg i h.1,h.2⟩⟩
 refine aMD (inp0:=inp) (by omega) hF0 (by omega) s 0 h1 { r with fresh:=.sl none 0 none } kc w c (List.drop_zero) (Nat.zero_le _) ⟨D1,O1,S.rest,s1,s2,s3,s4,s5,W1,s7,s8⟩ (fun i hi=>hF i (by omega)) fun h2 r2 U2 S2=>?_
 exact hq h2 r2 (UF.trans U2 fun _ _ h=>h) S2
theorem aOJ {o:Out} {inp:Nat} {rest:List UInt8} (S:DSt L h F d r told o inp rest) (hq:Q (.b (match o with | .done _=>true | _=>false)) h):C Y51.id [dp d] h Q:=by
 refine Y51.call ?_
 simp only [Y51.t, ← Y51.p0.eq_1]
 refine aC5 (by kernel_rfl) (aR (aN rfl ?_))
 simp only [bE,bD]
 refine aE S.dec.recd rfl rfl (aR ?_)
 refine Y51.i0 ?_
 simp only [Y51.t0]
 have hst:=S.st
 cases o with
 | wait k w c=>rw [hst.2.2.2.1]; exact .inl hq
 | err e k=>rw [hst.1]; exact .inl hq
 | done k=>rw [hst.1]; exact .inl hq
theorem aT4 {o:Out} {inp:Nat} {rest:List UInt8} (S:DSt L h F d r told o inp rest) (hq:Q (.s rest) h):C Y100.id [dp d] h Q:=by
 refine Y100.call ?_
 simp only [Y100.t]
 refine cF (by kernel_rfl) (aR (aG rfl ?_))
 simp only [bE,bD]
 refine aE S.dec.recd rfl rfl (bM ?_)
 rw [S.rest]
 exact .inl hq
def bnd (n:Int) (lo hi:Nat):Nat:=(min (max n lo) hi).toNat
theorem aDO (n:Int) {lo hi:Nat} (h:lo≤hi):mmI false (mmI true n (lo:Int)) (hi:Int)=(bnd n lo hi:Int):=by
 unfold mmI bnd
 simp only [cond_true,cond_false]
 split <;> split <;> omega
def dZ (o ra:Int):Lim:=⟨bnd o 0 65536,bnd ra 1 1100⟩
theorem aU0 {o ra : Int} (O : dI h) (hq : ∀ h' d r, Upd (fun _ => False) h h' → h.length ≤ d → DSt (dZ o ra) h' (fun i => h.length ≤ i) d r 0 Infl.start 0 [] → Q (dp d) h') : C Y65.id [.ag [.i .i64 o, .i .i64 ra]] h Q := by
  have bb:∀ {n:Int} {lo hi:Nat} {h:aA} {Q:AV→aA→Prop},lo≤hi→Q (iN (bnd n lo hi)) h→C Y61.id [.i .i64 n,iN lo,iN hi] h Q:=fun {n lo hi h Q} hl hq=>by
    refine Y61.call ?_
    simp only [Y61.t]
    exact aT (aDO n hl) (.inl hq)
  refine Y65.call ?_
  simp only [Y65.t]
  refine cB (hk:=fun h1 l1 U1 R1=>?_)
  have R1:aZ h1 h.length [.i .i64 o,.i .i64 ra]:=R1
  have e2:(AV.ag [.i .i64 o,.i .i64 ra]).parts.length=2:=rfl
  simp only [e2,bD]
  refine aE R1 rfl rfl (aC (aE R1 rfl rfl (aC ?_)))
  refine bb (lo:=0) (hi:=65536) (by decide) (aC ?_)
  refine aE R1 rfl rfl (aC ⟨rfl, ?_⟩)
  refine bb (lo:=1) (hi:=1100) (by decide) (aC ?_)
  refine aGX (cs:=DR.cells (dZ o ra) ⟨.sl none 0 none,0,.sl none 0 none,0,false,false,false,false,[],0,0,0,.p none,.nf⟩) rfl ?_
  refine cB (hk:=fun h2 l2 U2 R2=>?_)
  have U:=U1.then U2
  have D2:Dec (dZ o ra) h2 (fun i=>h.length≤i) h1.length ⟨.sl none 0 none,0,.sl none 0 none,0,false,false,false,false,[],0,0,0,.p none,.nf⟩ [] 0:=
    { recd:=R2,past:=.inl ⟨rfl,rfl⟩,fresh:=.inl ⟨rfl,rfl⟩,total:=rfl,told:=Nat.le_refl _,d1:=fun h=>h,d2:=fun h=>h,d3:=fun _ h=>h.elim,lim:=⟨by show bnd o 0 65536≤_; unfold bnd; omega,by show bnd ra 1 1100≤_; unfold bnd; omega⟩,inp:=by decide,len:=by decide,f:=fun i hi=>by
        rcases hi with e | e | e
        · subst e; exact U1.1
        · exact e.elim
        · exact e.elim }
  refine aEK D2 (fun i hi=>Nat.le_trans U.1 hi) rfl fun e h3 r3 P=>aC (.inl ?_)
  have hU3:Upd (fun _=>False) h h3:=U.own P.upd U1.1
  obtain ⟨w0,w1,w2,w3,w4,w5⟩:=P.st
  exact hq h3 h1.length r3 hU3 U1.1 ⟨P.dec,O.upd hU3 fun h=>h,P.rest,P.inp,w1,w2,w3,P.bad,w4,w5,by show 0<3; decide⟩
end
end Go.Proofs.YtfoekpcljhbijaaGreatDoor
namespace Go.Proofs.YtfoekpcljhbijaaGreatDoor
open Go.GAM
open Go.Infl (bG cG bS Out Lim)
def aRE (e:Nat):Int:=if e=3 then 1 else if e=0 then 0 else eno e
section
variable [XR] {h:aA} {Q:AV→aA→Prop} {L:Lim} {s:List UInt8} {d:Nat} {r:RS} {out:List UInt8} {F:Infl.Fin}
theorem aFW {n:Int} {lo hi:Nat} (hl:lo≤hi) (hq:Q (iN (bnd n lo hi)) h):C Y66.id [.i .i64 n,iN lo,iN hi] h Q:=by
 refine Y66.call ?_
 simp only [Y66.t]
 unfold bnd at hq
 refine aI ?_ ?_ <;> intro e
 ·have e : n < lo := by simpa using e
  rw [show (min (max n lo) hi).toNat=lo by omega] at hq
  exact .inl hq
 ·have e : ¬ n < lo := by simpa using e
  refine aI ?_ ?_ <;> intro e2
  ·have e2 : (hi : Int) < n := by simpa using e2
   rw [show (min (max n lo) hi).toNat=hi by omega] at hq
   exact .inl hq
  ·have e2 : ¬ (hi : Int) < n := by simpa using e2
   have hq':Q (.i .i64 (((min (max n (lo:Int)) (hi:Int)).toNat:Nat):Int)) h:=hq
   rw [show (((min (max n (lo:Int)) (hi:Int)).toNat:Nat):Int)=n by omega] at hq'
   exact .inl hq'
theorem aLB {h0' : aA} {b0 : Nat} {k : bG} (hb0 : b0 < 2) (hsk : k.skip = false) : ∀ (m j acc : Nat) (h : aA) (r : RS), j + m = 2 → acc < 2 ^ j → RSt L s h d r out → r.stop = false → k.out = out →
  F=(if j<2 then Infl.go L ((Infl.bitsOf s).drop r.at') r.at' (.wait k (.num 3 (j+1) (b0+2 * acc)) .block) else Infl.go L ((Infl.bitsOf s).drop r.at') r.at' (Infl.settle L ((r.at'+7) / 8) 3 (Infl.apply L ((r.at'+7) / 8) k (b0+2 * acc) .block))) →
  (∀ v h' r',v<4→RU d h r h' r'→RSt L s h' d r' out→r'.stop=true→oZ r' out F→Q (iN v) h') →
  (∀ v h' r',v<4→RU d h r h' r'→RSt L s h' d r' out→r'.stop=false→r.at'≤r'.at'→F=Infl.go L ((Infl.bitsOf s).drop r'.at') r'.at' (Infl.settle L ((r'.at'+7) / 8) 3 (Infl.apply L ((r'.at'+7) / 8) k (b0+2 * v) .block))→Q (iN v) h') →
  Y14.p0 (aH h0' Q) (rp d) (2:Nat) acc j h:=by
 intro m
 induction m with
 | zero =>
  intro j acc h r hj ha S hl ho hF hq0 hq1
  obtain rfl:j=2:=by omega
  rw [if_neg (Nat.lt_irrefl _)] at hF
  refine Y14.i0 ?_
  simp only [Y14.t0]
  exact aG (by simp) (.inl (hq1 acc h r ha (RU.refl _ _ _) S hl (Nat.le_refl _) hF))
 | succ m ih =>
  intro j acc h r hj ha S hl ho hF hq0 hq1
  have hjn:2 ^ (j+1)≤2 ^ 2:=Nat.pow_le_pow_right (by decide) (by omega)
  have hj1:2 ^ (j+1)=2 * 2 ^ j:=by rw [Nat.pow_succ]; omega
  rw [if_pos (by omega)] at hF
  refine Y14.i0 ?_
  simp only [Y14.t0, ← Y14.p0.eq_1]
  refine aN (by simp; omega) ?_
  refine pG S (fun e=>by rw [hl] at e; cases e) (fun _ hge h1 U1 S1=>?_) (fun _ hlt b h1 hb hb2 U1 S1=>?_)
  ·refine aC ?_
   rw [wrap_u64 (by omega) (by omega)]
   refine fW (a:=0) (b:=j) (by omega) (by omega) ?_
   refine bZ (n:=(acc:Int)) (by omega) (by omega) (by omega) (inc (by omega) ?_)
   refine qM (by decide) (r:={ r with short:=true }) rfl m (j+1) acc h1 (by omega) (by omega) S1 fun h2 U2 S2=>?_
   refine hq0 acc h2 { r with short:=true } (by omega) (RU.own (U1.trans U2 fun _ _ h=>h) rfl) S2 rfl ?_
   rw [List.drop_eq_nil_of_le (by rw [Infl.bits_len]; omega),Infl.go_nil] at hF
   rw [hF]
   exact ⟨ho,.inl ⟨rfl,rfl⟩⟩
  ·refine aC ?_
   rw [wrap_u64 (by omega) (by omega)]
   have hm:b * 2 ^ j≤1 * 2 ^ j:=Nat.mul_le_mul_right _ (by omega)
   refine fW (a:=b) (b:=j) (by omega) (by omega) ?_
   have hmod:b0+2 * acc+b * 2 ^ (j+1)=b0+2 * (acc+b * 2 ^ j):=by
    have:b * 2 ^ (j+1)=2 * (b * 2 ^ j):=by rw [hj1,Nat.mul_left_comm]
    omega
   generalize hB:b * 2 ^ j=B at *
   refine bZ (n:=((acc+B:Nat):Int)) (by omega) (by omega) (by omega) (inc (by omega) ?_)
   have hcore:({ k with skip:=false }:bG)=k:=by cases k; simp only at hsk; subst hsk; rfl
   rw [uW hb,Infl.go_bit,if_neg (by simp [hsk]),hcore,Infl.bit_num,hmod] at hF
   have hin:r.at' / 8+1=(r.at'+1+7) / 8:=by omega
   refine ih (j+1) (acc+B) h1 { r with at':=r.at'+1 } (by omega) (by omega) S1 hl ho ?_ (fun v h2 r2 hv U2 S2 hs hf=>hq0 v h2 r2 hv ((RU.own U1 rfl).trans U2) S2 hs hf) (fun v h2 r2 hv U2 S2 hs hle hf=>hq1 v h2 r2 hv ((RU.own U1 rfl).trans U2) S2 hs (by simp only at hle; omega) hf)
   rw [hF, ← hin]
   by_cases hjn2:j+1<2
   ·rw [if_pos (by omega),if_pos hjn2]
   ·rw [if_neg (by omega),if_neg hjn2]
theorem aTG {h0':aA} (S:RSt L s h d r out) (hF:(r.stop=true∧oZ r out F)∨(r.stop=false∧F.out=out∧F.e=0∧F.pos=r.at')) (hq:∀ n:Int,(F.e=0→n=(((F.pos+7) / 8:Nat):Int))→Q (.tu [.s F.out,.i .i64 (aRE F.e),.i .i64 n]) h):Y10.p2 (aH h0' Q) (rp d) h:=by
 have hle:=S.le
 have hsl:=S.sl
 have htx:∀ {K:List UInt8→Prop},K out→cJ r.outv h K:=fun {K} hk=>by
  refine Byt.str (l:=out) ?_ hk
  have:=S.ob.rd
  rw [List.length_map] at this
  exact this
 have rest:r.short=false→F.out=out→(∀ n:Int,(F.e=0→n=(((F.pos+7) / 8:Nat):Int))→Q (.tu [.s out,.i .i64 r.e,.i .i64 n]) h)→(F.e=0→F.pos=r.at')→Y10.p2 (aH h0' Q) (rp d) h:=fun hsh ho hq hp=>by
  refine Y10.i2 ?_
  simp only [Y10.t2,bE,bD]
  refine aE S.recd rfl rfl (aR ?_)
  rw [hsh]
  refine aG rfl ?_
  refine aE S.recd rfl rfl (htx ?_)
  refine aE S.recd rfl rfl (aC (aE S.recd rfl rfl (aC ?_)))
  refine bZ (n:=((r.at'+7:Nat):Int)) (by omega) (by omega) (by omega) ?_
  refine sI (n:=(((r.at'+7) / 8:Nat):Int)) (by decide) (by rw [Int.tdiv_eq_ediv_of_nonneg (by omega),aY (by omega) (by omega)]; omega) ?_
  exact .inl (hq _ fun e=>by rw [hp e])
 rcases hF with ⟨hs,ho,h1 | ⟨h1,h2,h3⟩ | ⟨h1,h2,h3⟩⟩ | ⟨hs,ho,he,hp⟩
 ·refine Y10.i2 ?_
  simp only [Y10.t2,bE,bD]
  refine aE S.recd rfl rfl (aR ?_)
  rw [h1.1]
  refine aN rfl ?_
  refine aE S.recd rfl rfl (htx (.inl ?_))
  have:=hq 0 (fun e=>by rw [h1.2] at e; cases e)
  rw [ho,h1.2] at this
  exact this
 ·rw [ho, h3] at hq
  refine rest h1 ho (fun n hn=>?_) (fun e=>by rw [h3] at e; cases e)
  rw [h2]
  exact hq n (fun e=>by cases e)
 ·rw [ho, h3] at hq
  refine rest h1 ho (fun n hn=>?_) (fun e=>by rw [h3] at e; cases e)
  rw [h2]
  exact hq n (fun e=>by cases e)
 ·obtain ⟨hsh, he0⟩ := eE hs
  rw [ho] at hq
  refine rest hsh ho (fun n hn=>?_) (fun _=>hp)
  rw [he0]
  have:=hq n hn
  rw [he] at this
  exact this
theorem aOQ {h0 h0' : aA} {d : Nat} (hd0 : h0.length ≤ d)
  (hq:∀ h' n,Upd (fun _=>False) h0 h'→(F.e=0→n=(((F.pos+7) / 8:Nat):Int))→Q (.tu [.s F.out,.i .i64 (aRE F.e),.i .i64 n]) h') :
  ∀ (m : Nat) (h : aA) (r : RS) (out : List UInt8) (kl : Bool), (r.stop = false → 8 * s.length - r.at' ≤ m) → Upd (fun _ => False) h0 h → (∀ i, aQ r.outv i → h0.length ≤ i) → RSt L s h d r out → At L s F r out (Infl.block ⟨out, kl, false⟩) →
   Y10.p0 (aH h0' Q) (rp d) (if kl then 1 else 0) h:=by
 have mutd:∀ (r:RS),(∀ i,aQ r.outv i→h0.length≤i)→∀ i,eI d r i→h0.length≤i:=fun r hr i hm=>hm.elim (fun e=>e ▸ hd0) (hr i)
 have P2:∀ (h:aA) (r:RS) (out:List UInt8),Upd (fun _=>False) h0 h→RSt L s h d r out→((r.stop=true∧oZ r out F)∨(r.stop=false∧F.out=out∧F.e=0∧F.pos=r.at'))→Y10.p2 (aH h0' Q) (rp d) h:=fun h r out U S hF=>aTG S hF fun n hn=>hq h n U hn
 have leave:∀ (h:aA) (r:RS) (out:List UInt8),Upd (fun _=>False) h0 h→RSt L s h d r out→((r.stop=true∧oZ r out F)∨(r.stop=false∧F.out=out∧F.e=0∧F.pos=r.at'))→Y10.p1 (aH h0' Q) (rp d) false h:=fun h r out U S hF=>by
  refine Y10.i1 ?_
  simp only [Y10.t1, ← Y10.p2.eq_1]
  exact aG rfl (P2 h r out U S hF)
 have stopped:∀ (h:aA) (r:RS) (out:List UInt8) (x:Int),Upd (fun _=>False) h0 h→RSt L s h d r out→r.stop=true→oZ r out F→Y10.p0 (aH h0' Q) (rp d) x h:=fun h r out x U S hs hf=>by
  refine Y10.i0 ?_
  simp only [Y10.t0, ← Y10.p1.eq_1]
  refine aI ?_ ?_ <;> intro e
  ·refine bL S (aR ?_)
   rw [hs]
   exact leave h r out U S (.inl ⟨hs,hf⟩)
  ·exact leave h r out U S (.inl ⟨hs,hf⟩)
 intro m
 induction m with
 | zero =>
  intro h r out kl hm U N S hA
  rcases hA with hA | ⟨hl,hF⟩
  ·exact stopped h r out _ U S hA.1 hA.2
  ·have hm := hm hl
   have hle:=S.le
   refine Y10.i0 ?_
   simp only [Y10.t0, ← Y10.p1.eq_1]
   cases kl with
   | true =>
    have hb:Infl.block ⟨out,true,false⟩ = .done ⟨out,true,false⟩:=rfl
    rw [hb,Infl.go_done] at hF
    exact aG rfl (leave h r out U S (.inr ⟨hl,by rw [hF],by rw [hF],by rw [hF]⟩))
   | false =>
    have hb:Infl.block ⟨out,false,false⟩ = .wait ⟨out,false,false⟩ (.num 3 0 0) .block:=rfl
    rw [hb] at hF
    refine aN rfl (bL S (aR ?_))
    rw [hl]
    refine Y10.i1 ?_
    simp only [Y10.t1, ← Y10.p2.eq_1]
    refine aN rfl ?_
    refine pG S (fun e=>by rw [hl] at e; cases e) (fun _ hge h1 U1 S1=>?_) (fun _ hlt=>by omega)
    have V1:Upd (fun _=>False) h0 h1:=U.own U1 hd0
    refine aC (jT (r:={ r with short:=true }) (by decide) rfl S1 fun h2 U2 S2=>aC (bL S2 (aR (aN rfl ?_))))
    refine P2 h2 { r with short:=true } out (V1.own U2 hd0) S2 (.inl ⟨rfl, ?_⟩)
    rw [List.drop_eq_nil_of_le (by rw [Infl.bits_len]; omega),Infl.go_nil] at hF
    rw [hF]
    exact ⟨rfl,.inl ⟨rfl,rfl⟩⟩
 | succ m ih =>
  intro h r out kl hm U N S hA
  rcases hA with hA | ⟨hl,hF⟩
  ·exact stopped h r out _ U S hA.1 hA.2
  have hm:=hm hl
  have hle:=S.le
  refine Y10.i0 ?_
  simp only [Y10.t0, ← Y10.p1.eq_1]
  cases kl with
  | true =>
   have hb:Infl.block ⟨out,true,false⟩ = .done ⟨out,true,false⟩:=rfl
   rw [hb,Infl.go_done] at hF
   exact aG rfl (leave h r out U S (.inr ⟨hl,by rw [hF],by rw [hF],by rw [hF]⟩))
  | false=>
  have hb:Infl.block ⟨out,false,false⟩ = .wait ⟨out,false,false⟩ (.num 3 0 0) .block:=rfl
  rw [hb] at hF
  refine aN rfl (bL S (aR ?_))
  rw [hl]
  refine Y10.i1 ?_
  simp only [Y10.t1, ← Y10.p2.eq_1, ← Y10.p0.eq_1]
  refine aN rfl ?_
  refine pG S (fun e=>by rw [hl] at e; cases e) (fun _ hge h1 U1 S1=>?_) (fun _ hlt b0 h1 hb0 hb02 U1 S1=>?_)
  ·have V1 : Upd (fun _ => False) h0 h1 := U.own U1 hd0
   refine aC (jT (r:={ r with short:=true }) (by decide) rfl S1 fun h2 U2 S2=>aC (bL S2 (aR (aN rfl ?_))))
   refine P2 h2 { r with short:=true } out (V1.own U2 hd0) S2 (.inl ⟨rfl, ?_⟩)
   rw [List.drop_eq_nil_of_le (by rw [Infl.bits_len]; omega),Infl.go_nil] at hF
   rw [hF]
   exact ⟨rfl,.inl ⟨rfl,rfl⟩⟩
  rw [uW hb0,Infl.go_bit,if_neg (by simp),Infl.bit_num,if_pos (by decide)] at hF
  refine aC (Y14.call ?_)
  simp only [Y14.t, ← Y14.p0.eq_1]
  have Ua:RU d h r h1 { r with at':=r.at'+1 }:=RU.own U1 rfl
  have later:∀ (h2:aA) (r2:RS),RU d h r h2 r2→Upd (fun _=>False) h0 h2∧∀ i,aQ r2.outv i→h0.length≤i:=fun h2 r2 U2=>by
   refine ⟨U.ownP U2.1 (mutd r N),fun i hi=>?_⟩
   rcases Nat.lt_or_ge i h.length with g | g
   ·exact mutd r N i (U2.2 i g (.inr hi))
   ·exact Nat.le_trans U.1 g
  refine aLB (F:=F) (k:=⟨out,false,false⟩) hb02 rfl 2 0 0 h1 { r with at':=r.at'+1 } rfl (by decide) S1 hl rfl (by rw [if_pos (by decide),hF]; simp) (fun v h2 r2 hv U2 S2 hs2 hf2=>?_) (fun v h2 r2 hv U2 S2 hs2 hle2 hF2=>?_)
  ·refine aC (bL S2 (aR ?_))
   rw [hs2]
   exact aN rfl (P2 h2 r2 out (later h2 r2 (Ua.trans U2)).1 S2 (.inl ⟨hs2,hf2⟩))
  ·refine aC (bL S2 (aR ?_))
   rw [hs2]
   refine aG rfl ?_
   have Ub:=Ua.trans U2
   obtain ⟨V2,N2⟩:=later h2 r2 Ub
   have hle2':r.at'<r2.at':=by simp only at hle2; omega
   have hlast:(b0:Int)=if (decide (b0=1)) then 1 else 0:=by
    obtain rfl | rfl:b0=0∨b0=1:=by omega
    ·rfl
    ·rfl
   have hmod:(b0+2 * v) % 2=b0:=by omega
   have hdiv:(b0+2 * v) / 2=v:=by omega
   have hkl:((b0+2 * v) % 2 == 1)=decide (b0=1):=by rw [hmod,Bool.eq_iff_iff]; simp
   simp only [Infl.apply,hdiv,hkl] at hF2
   have go':∀ (h3:aA) (r3:RS) (o3:List UInt8),RU d h2 r2 h3 r3→RSt L s h3 d r3 o3→(r3.stop=false→r2.at'≤r3.at')→At L s F r3 o3 (Infl.block ⟨o3,decide (b0=1),false⟩)→Y10.p0 (aH h0' Q) (rp d) b0 h3:=fun h3 r3 o3 U3 S3 hle3 hA3=>by
    obtain ⟨V3,N3⟩:=later h3 r3 (Ub.trans U3)
    rw [hlast]
    exact ih h3 r3 o3 (decide (b0=1)) (fun e=>by have:=hle3 e; omega) V3 N3 S3 hA3
   refine aI ?_ ?_ <;> intro e0
   ·have e0 : v = 0 := by simp at e0; omega
    subst e0
    simp only at hF2
    rw [Infl.settle_set (m8 (n:=16) (by decide))] at hF2
    exact aNE (kl:=decide (b0=1)) S2 hs2 hF2 go'
   refine aI ?_ ?_ <;> intro e1
   ·have e1 : v = 1 := by simp at e1; omega
    subst e1
    simp only at hF2
    rw [Infl.settle_set (aB1 _ _ _)] at hF2
    refine aON fun h3 va U3 E3 N3=>vD (n:=32) (y:=5) (by decide) fun h4 vb U4 E4 N4=>?_
    have U34:=U3.then U4
    have S4:RSt L s h4 d r2 out:=S2.upd U34 fun _ _ h=>h
    have E3':Exa h4 va Infl.fixedL:=E3.upd U4 fun _ _ h=>h
    have hU3:=U3.1
    refine aAX (a:=Infl.fixedL) (b:=Infl.fixedD) (kl:=decide (b0=1)) (F:=F) S4 E3'.rd.i E4.rd.i (fun i hi=>⟨E3'.lt hi,fun hm=>by have:=N3 i hi; have:=S2.lt hm; omega⟩) (fun i hi=>⟨E4.lt hi,fun hm=>by have:=N4 i hi; have:=S2.lt hm; omega⟩) E3'.kind E4.kind (by decide +kernel) (by decide +kernel) aCQ aCM Infl.fixed_ok.1 Infl.fixed_ok.2 (.inr ⟨hs2, ?_⟩) fun h5 r5 o5 U5 S5 hle5 hA5=>go' h5 r5 o5 ((RU.ext U34).trans U5) S5 hle5 hA5
    rw [hF2]
    unfold Infl.codes
    rw [if_pos Infl.fixed_ok] <;> rfl
   refine aI ?_ ?_ <;> intro e2
   ·have e2 : v = 2 := by simp at e2; omega
    subst e2
    simp only at hF2
    rw [Infl.settle_set (m8 (n:=5) (by decide))] at hF2
    refine aS5 (F:=F) (kl:=decide (b0=1)) S2 (.inr ⟨hs2,hF2⟩) ⟨fun h3 r3 o3 v3 w3 U3 S3 hs3 hf3=>?_,fun h3 r3 o3 a b va vb U3 S3 hs3 hle3 Ra Rb Na Nb Ka Kb la lb a15 b15 ca cb hF3=>?_⟩
    ·simp only [cX, cW]
     refine bL S3 (aR ?_)
     rw [hs3]
     exact aG rfl (go' h3 r3 o3 U3 S3 (fun e=>by rw [hs3] at e; cases e) (.inl ⟨hs3,hf3⟩))
    ·simp only [cX, cW]
     refine bL S3 (aR ?_)
     rw [hs3]
     refine aN rfl ?_
     exact aAX (a:=a) (b:=b) (kl:=decide (b0=1)) (F:=F) S3 Ra Rb (fun i hi=>(Na i hi).2) (fun i hi=>(Nb i hi).2) Ka Kb la lb a15 b15 ca cb (.inr ⟨hs3,hF3⟩) fun h5 r5 o5 U5 S5 hle5 hA5=>go' h5 r5 o5 (U3.trans U5) S5 (fun e=>by have:=hle5 e; omega) hA5
   ·have e3 : v = 3 := by simp at e0 e1 e2; omega
    subst e3
    simp only at hF2
    rw [Infl.settle_set (by trivial)] at hF2
    exact kC (k:=⟨out,decide (b0=1),false⟩) (F:=F) rfl S2 (.inr ⟨hs2,hF2⟩) fun h3 r3 U3 S3 hs3 hf3=>go' h3 r3 out U3 S3 (fun e=>by rw [hs3] at e; cases e) (.inl ⟨hs3,hf3⟩)
theorem aUB {o ra:Int} (hsl:s.length≤1073741824) (hq:∀ h' n,Upd (fun _=>False) h h'→((Infl.go (dZ o ra) (Infl.bitsOf s) 0 Infl.start).e=0→n=((((Infl.go (dZ o ra) (Infl.bitsOf s) 0 Infl.start).pos+7) / 8:Nat):Int)) →
   Q (.tu [.s (Infl.go (dZ o ra) (Infl.bitsOf s) 0 Infl.start).out,.i .i64 (aRE (Infl.go (dZ o ra) (Infl.bitsOf s) 0 Infl.start).e),.i .i64 n]) h'):C Y10.id [.s s,.ag [.i .i64 o,.i .i64 ra]] h Q:=by
 refine Y10.call ?_
 simp only [Y10.t, ← Y10.p0.eq_1]
 refine cB (hk:=fun h1 l1 U1 R1=>?_)
 have R1:aZ h1 h.length [.i .i64 o,.i .i64 ra]:=R1
 have e2:(AV.ag [.i .i64 o,.i .i64 ra]).parts.length=2:=rfl
 simp only [e2,bD]
 refine aE R1 rfl rfl (aC (aE R1 rfl rfl (aC ?_)))
 refine aFW (lo:=0) (hi:=65536) (by decide) (aC ?_)
 refine aE R1 rfl rfl (aC ⟨rfl, ?_⟩)
 refine aFW (lo:=1) (hi:=1100) (by decide) (aC ?_)
 refine cB (hk:=fun h2 l2 U2 R2=>?_)
 have U:=U1.then U2
 have S2:RSt (dZ o ra) s h2 h1.length ⟨0,.sl none 0 none,false,0⟩ []:=
  { recd:=R2,ob:=.inl ⟨rfl,rfl⟩,d1:=fun h=>h,le:=Nat.zero_le _,len:=by decide,lim:=⟨by show bnd o 0 65536≤_; unfold bnd; omega,by show bnd ra 1 1100≤_; unfold bnd; omega⟩,sl:=hsl }
 exact aOQ (F:=Infl.go (dZ o ra) (Infl.bitsOf s) 0 Infl.start) U1.1 (fun h' n U' hn=>hq h' n U' hn) (8 * s.length) h2 ⟨0,.sl none 0 none,false,0⟩ [] false (fun _=>by simp) U (fun _ h=>h.elim) S2 (.inr ⟨rfl,rfl⟩)
end
end Go.Proofs.YtfoekpcljhbijaaGreatDoor
namespace Go.Proofs.YtfoekpcljhbijaaGreatDoor
open Go.GAM
open Go.Infl (bG cG bS Out Lim)
theorem aSS {e:Nat} (h:e=1∨e=2):aRE e=eno e∧eno e≠0:=by rcases h with rfl | rfl <;> exact ⟨rfl,by decide⟩
section
variable [XR] {h:aA} {Q:AV→aA→Prop} {L:Lim} {s:List UInt8} {o ra:Int}
theorem dI.lt (O:dI h):0<h.length:=by obtain ⟨b,hb,_⟩:=O; exact aV hb
def oH:Out→Prop
 | .err e _=>e=1∨e=2
 | _=>True
abbrev qp (d:Nat):AV:=.p (some ⟨d,7,0⟩)
def RF (o ra:Int) (S:List UInt8) (told:Nat) (over fail:Bool) (after:List UInt8):List AV:=[.i .i64 o,.i .i64 ra,.s S,iN told,.b over,.b fail,.s after]
theorem aRR (hq:∀ h' d,Upd (fun _=>False) h h'→h.length≤d→aZ h' d (RF o ra [] 0 false false [])→Q (qp d) h'):C Y99.id [.ag [.i .i64 o,.i .i64 ra]] h Q:=by
 refine Y99.call ?_
 simp only [Y99.t]
 refine cB (hk:=fun h1 l1 U1 R1=>?_)
 have R1:aZ h1 h.length [.i .i64 o,.i .i64 ra]:=R1
 have e2:(AV.ag [.i .i64 o,.i .i64 ra]).parts.length=2:=rfl
 rw [e2]
 refine iG R1 rfl ?_
 refine aGX (cs:=RF o ra [] 0 false false []) rfl ?_
 exact cB (hk:=fun h2 l2 U2 R2=>.inl (hq h2 _ (U1.then U2) U1.1 R2))
theorem aFF {d told:Nat} {S after:List UInt8} {over fail:Bool} (R:aZ h d (RF o ra S told over fail after)) (hq:Q (.b over) h):C Y96.id [qp d] h Q:=by
 refine Y96.call ?_
 simp only [Y96.t,bE,bD]
 exact aE R rfl rfl (aR (.inl hq))
theorem aNV {d told:Nat} {S after:List UInt8} {over fail:Bool} (R:aZ h d (RF o ra S told over fail after)) (hq:Q (.s after) h):C Y86.id [qp d] h Q:=by
 refine Y86.call ?_
 simp only [Y86.t,bE,bD]
 exact aE R rfl rfl (bM (.inl hq))
theorem aNQ {d told : Nat} {S after : List UInt8} (R : aZ h d (RF o ra S told false false after)) (hlen : (S ++ s).length < 1073741824) (ht : told ≤ (Infl.run (dZ o ra) (Infl.bitsOf (S ++ s)) 0 Infl.start).2.core.out.length) (hok : oH (Infl.run (dZ o ra) (Infl.bitsOf (S ++ s)) 0 Infl.start).2)
  (hpos:∀ k,(Infl.run (dZ o ra) (Infl.bitsOf (S++s)) 0 Infl.start).2 = .done k→((Infl.run (dZ o ra) (Infl.bitsOf (S++s)) 0 Infl.start).1+7) / 8≤(S++s).length)
  (hq : ∀ h', Upd (fun i => i = d) h h' → aZ h' d (match Infl.run (dZ o ra) (Infl.bitsOf (S ++ s)) 0 Infl.start with
    | (_,.wait k _ _)=>RF o ra (S++s) k.out.length false false after
    | (_,.err _ k)=>RF o ra (S++s) k.out.length false true after
    | (p,.done k)=>RF o ra (S++s) k.out.length true false ((S++s).drop ((p+7) / 8))) →
   Q (.tu [.s ((Infl.run (dZ o ra) (Infl.bitsOf (S++s)) 0 Infl.start).2.core.out.drop told),.i .i64 (aFZ (Infl.run (dZ o ra) (Infl.bitsOf (S++s)) 0 Infl.start).2)]) h'):C Y52.id [qp d,.s s] h Q:=by
 refine Y52.call ?_
 simp only [Y52.t,bE,bD, ← Y52.p0.eq_1]
 refine aE R rfl rfl (aR (aG rfl (aE R rfl rfl (aR ?_))))
 refine Y52.i0 ?_
 simp only [Y52.t0,bE,bD]
 refine aG rfl (aE R rfl rfl (bM ⟨by rw [List.length_append] at hlen; omega, ?_⟩))
 refine aJ R rfl (ltr rfl) (hk:=fun h1 l1 U1 R1=>?_)
 refine aE R1 rfl rfl (bM ?_)
 rw [aKR (n:=7) R1 rfl (by show 0+0+2≤7; omega)]
 refine aUB (o:=o) (ra:=ra) (by omega) fun h2 n U2 hn=>?_
 simp only [cX,cW,sE]
 have R2:=R1.upd U2 fun h=>h
 have hU1:Upd (fun i=>i=d) h h2:=U1.trans U2 fun _ _ h=>h.elim
 rw [Infl.go_run] at hn ⊢
 generalize hX:Infl.run (dZ o ra) (Infl.bitsOf (S++s)) 0 Infl.start=X at hok hn ht hpos hq ⊢
 obtain ⟨p,x⟩:=X
 simp only at hok hn ht hpos hq ⊢
 refine bM (aC (aC ?_))
 refine aE R2 rfl rfl (aC (jF ht ?_))
 refine aJ R2 rfl (ltr rfl) (hk:=fun h3 l3 U3 R3=>?_)
 have hU3:=hU1.trans U3 fun _ _ h=>h
 cases x with
 | wait k w c=>exact aN rfl (.inl (hq h3 hU3 R3))
 | err e k =>
  obtain ⟨h1',h2'⟩:=aSS hok
  have hc:(Out.err e k).code=e:=rfl
  have hne1:eno e≠1:=by rcases hok with rfl | rfl <;> decide
  simp only [hc,h1']
  refine aG (by simp [hne1]) (aN (by simp [h2']) ?_)
  exact aJ R3 rfl (ltr rfl) (hk:=fun h4 l4 U4 R4=>.inl (hq h4 (hU3.trans U4 fun _ _ h=>h) R4))
 | done k =>
  have hn:=hn rfl
  subst hn
  refine aG rfl (aG rfl ?_)
  refine aJ R3 rfl (ltr rfl) (hk:=fun h4 l4 U4 R4=>?_)
  refine aE R4 rfl rfl (bM (jF (hpos k rfl) ?_))
  exact aJ R4 rfl (ltr rfl) (hk:=fun h5 l5 U5 R5=>.inl (hq h5 ((hU3.trans U4 fun _ _ h=>h).trans U5 fun _ _ h=>h) R5))
end
end Go.Proofs.YtfoekpcljhbijaaGreatDoor
namespace Go.Proofs.YtfoekpcljhbijaaGreatDoor
open Go.GAM
open Go.Infl (bG cG bS Out Lim)
theorem xL.upd {h h':aA} {F F' N:Nat→Prop} {d:Nat} {r:DR} {w:cG} {c:bS} (W:xL h F d r w c) (U:Upd N h h') (hN:∀ i,F i→¬ N i) (hG:∀ i,i<h.length→F i→F' i):xL h' F' d r w c:=by
 cases w with
 | num need hv acc =>
  obtain ⟨w1,w2,w3,w4,w5,w6⟩:=W
  exact ⟨w1,w2,w3,w4,w5,w6.upd U (fun i hi=>hN i hi.1) fun i hl hi=>⟨hG i hl hi.1,hi.2⟩⟩
 | sym l n x =>
  obtain ⟨w1,ic,sym,w2,w3,w4⟩:=W
  exact ⟨w1,ic,sym,w2,w3.upd U (fun i hi=>hN i hi.1) fun i hl hi=>⟨hG i hl hi.1,hi.2⟩,w4.upd U (fun i hi=>hN i hi.1.1) fun i hl hi=>⟨⟨hG i hl hi.1.1,hi.1.2⟩,hi.2⟩⟩
theorem DSt.upd {L:Lim} {h h':aA} {F F' N:Nat→Prop} {d:Nat} {r:DR} {told inp:Nat} {o:Out} {rest:List UInt8} (S:DSt L h F d r told o inp rest) (U:Upd N h h') (hN:∀ i,F i→¬ N i) (hO:¬ N 0) (hG:∀ i,i<h.length→F i→F' i):DSt L h' F' d r told o inp rest where
 dec:={ S.dec.upd U fun i hm=>hN i (S.dec.f i hm) with f:=fun i hm=>hG i (S.dec.lt hm) (S.dec.f i hm) }
 ord:=S.ord.upd U hO
 rest:=S.rest
 st:=by
  have hst:=S.st
  cases o with
  | wait k w c=>exact ⟨hst.1,hst.2.1,hst.2.2.1,hst.2.2.2.1,hst.2.2.2.2.1,hst.2.2.2.2.2.1.upd U hN hG,hst.2.2.2.2.2.2⟩
  | done k=>exact hst
  | err e k=>exact hst
theorem aQO (a b:List UInt8):Infl.bitsOf (a++b)=Infl.bitsOf a++Infl.bitsOf b:=List.flatMap_append
def aEC (L:Lim) (S:List UInt8):Nat × Out:=Infl.run L (Infl.bitsOf S) 0 Infl.start
theorem aQG (L:Lim):aEC L []=(0,Infl.start):=Infl.run_nil
theorem aN0 {L:Lim} {S:List UInt8} {k:bG} {w:cG} {c:bS} (h:(aEC L S).2 = .wait k w c):aEC L S=(8 * S.length,.wait k w c):=by
 have:=Infl.run_pos _ _ _ h
 rw [Infl.bits_len,Nat.zero_add] at this
 exact Prod.ext this h
theorem aOY {L:Lim} {S s:List UInt8} {k:bG} {w:cG} {c:bS} (h:(aEC L S).2 = .wait k w c):aEC L (S++s)=Infl.run L (Infl.bitsOf s) (8 * S.length) (.wait k w c):=by
 have:=aN0 h
 unfold aEC at this ⊢
 rw [aQO,Infl.run_append,this]
theorem aP1 {S s:List UInt8} {p:Nat} (h:8 * S.length≤p):(S++s).drop ((p+7) / 8)=s.drop ((p+7) / 8 - S.length):=by
 rw [List.drop_append,List.drop_eq_nil_of_le (by omega),List.nil_append]
def aS6:Out→Bool
 | .done _=>true
 | _=>false
def aVC:Out→Bool
 | .err _ _=>true
 | _=>false
end Go.Proofs.YtfoekpcljhbijaaGreatDoor
namespace Go.Proofs.YtfoekpcljhbijaaGreatDoor
open Go.GAM
open Go.Infl (bG cG bS Out Lim)
structure Hd where
 part:Nat:=0
 count:Nat:=0
 flags:Nat:=0
 extra:Nat:=0
 sum:Int:=0
 check:Nat:=0
 name:List UInt8:=[]
def gD (flags extra part:Nat):Bool:=match part with
 | 3=>flags &&& 4 != 0
 | 4=>decide (0<extra)
 | 5=>flags &&& 8 != 0
 | 6=>flags &&& 16 != 0
 | 7=>flags &&& 2 != 0
 | _=>true
def eG (flags extra:Nat):Nat→Nat→Nat
 | 0,part=>part
 | f+1,part=>if gD flags extra part then part else eG flags extra f (part+1)
def eV (h:Hd) (last:Bool):Hd:=if last then { h with part:=eG h.flags h.extra 6 (h.part+1),count:=0 } else h
def dW:List UInt8:=[31,139,8]
def dB (h : Hd) (c : UInt8) : Int ⊕ Hd :=
 let h1:={ h with sum:=bQ h.sum [c],count:=h.count+1 }
 match h.part with
 | 0=>if dW[h.count]? = some c then .inr (eV h1 (h.count+1 == 3)) else .inl 2
 | 1=>if 31<c.toNat then .inl 2 else .inr (eV { h1 with flags:=c.toNat } true)
 | 2=>.inr (eV h1 (h.count+1 == 6))
 | 3=>.inr (eV { h1 with extra:=h.extra ||| c.toNat * 2 ^ (8 * h.count) } (h.count+1 == 2))
 | 4=>.inr (eV h1 (h.count+1 == h.extra))
 | 5=>if c=0 then .inr (eV h1 true) else if 256<h.count+1 then .inl 3 else .inr { h1 with name:=h.name++[c] }
 | 6=>.inr (eV h1 (c == 0))
 | 7 =>
  let k:=(if h.count=0 then h.sum.toNat % 65536 else h.check) ^^^ c.toNat * 2 ^ (8 * h.count)
  if h.count=1 then (if k=0 then .inr (eV { h1 with check:=k } true) else .inl 8) else .inr { h1 with check:=k }
 | _=>.inr h1
structure Inf where
 L:Lim
 inp:Nat
 k:bG
 w:cG
 c:bS
structure GS where
 hd:Hd:={}
 out:Nat
 ratio:Nat
 data:Option Inf:=none
 crc:Int:=0
 size:Nat:=0
 trailer:List UInt8:=[]
 within:Bool:=false
 names:List (List UInt8):=[]
 sizes:List Nat:=[]
inductive GO where
 | live (g:GS)
 | dead
def fF (l:List Nat) (n:Nat):List Nat:=l.set (l.length - 1) (l.getD (l.length - 1) 0+n)
def fQ (g:GS) (b:List UInt8):GS:={ g with crc:=bQ g.crc b,size:=g.size+b.length,out:=g.out - b.length,sizes:=fF g.sizes b.length }
def aGW (g:GS):GS:={ g with data:=some ⟨dZ g.out g.ratio,0,⟨[],false,false⟩,.num 3 0 0,.block⟩,crc:=0,size:=0,trailer:=[],names:=g.names++[g.hd.name],sizes:=g.sizes++[0] }
def bN:List UInt8→Nat
 | []=>0
 | c :: r=>c.toNat+256 * bN r
abbrev GR3:=GO × List UInt8 × Int
def hdP (g:GS) (c:UInt8):GR3:=match dB g.hd c with
 | .inl e=>(.dead,[],e)
 | .inr h=>if h.part=8 then (.live (aGW { g with hd:=h }),[],0) else (.live { g with hd:=h },[],0)
def aER (g:GS) (i:Inf) (x:Out) (n:Nat):GR3:=match x with
 | .wait k w c=>(.live { fQ g (k.out.drop i.k.out.length) with data:=some ⟨i.L,i.inp+n,k,w,c⟩ },k.out.drop i.k.out.length,0)
 | .done k=>(.live { fQ g (k.out.drop i.k.out.length) with data:=none },k.out.drop i.k.out.length,0)
 | .err e k=>(.dead,k.out.drop i.k.out.length,eno e)
def rD (g:GS) (c:UInt8):GR3:=
 let t:=g.trailer++[c]
 if t.length=4∧(bN (t.take 4):Int)≠g.crc then (.dead,[],8)
 else if t.length=8 then (if bN (t.drop 4)=g.size then (.live { g with trailer:=t,within:=false },[],0) else (.dead,[],8))
 else (.live { g with trailer:=t },[],0)
def dO (g : GS) (c : UInt8) : GR3 :=
 if !g.within then (if c≠31 then (.dead,[],2) else if g.names.length=16 then (.dead,[],3) else hdP { g with hd:={},within:=true } c)
 else if g.hd.part<8 then hdP g c
 else match g.data with
  | some i=>aER g i (Infl.run i.L (Infl.bitsOf [c]) (8 * i.inp) (.wait i.k i.w i.c)).2 1
  | none=>rD g c
def cC (g : GS) : List UInt8 → GR3
 | []=>(.live g,[],0)
 | c :: s => match dO g c with
  | (.dead,b,e)=>(.dead,b,e)
  | (.live g',b,_)=>((cC g' s).1,b++(cC g' s).2.1,(cC g' s).2.2)
def dG (r:GR3) (s:List UInt8):GR3:=match r with
 | (.live g,b,_)=>((cC g s).1,b++(cC g s).2.1,(cC g s).2.2)
 | r=>r
theorem j6 (g:GS) (c:UInt8) (s:List UInt8):cC g (c :: s)=dG (dO g c) s:=by
 rw [cC]
 generalize dO g c=r
 rcases r with ⟨x,b,e⟩
 cases x <;> rfl
theorem aGE (l:List Nat) (a b:Nat):fF (fF l a) b=fF l (a+b):=by
 unfold fF
 by_cases h:l=[]
 ·subst h; rfl
 ·have hl : l.length - 1 < l.length := by have := List.length_pos_iff.2 h; omega
  have e:(l.set (l.length - 1) (l.getD (l.length - 1) 0+a)).getD (l.length - 1) 0=l.getD (l.length - 1) 0+a:=by
   rw [List.getD_eq_getElem?_getD,List.getElem?_set_self hl] <;> rfl
  rw [List.length_set,e,List.set_set,Nat.add_assoc]
theorem aCO (g:GS) (a b:List UInt8):fQ (fQ g a) b=fQ g (a++b):=by
 unfold fQ
 simp only [aCL,aGE,List.length_append,GS.mk.injEq,true_and,and_true]
 omega
theorem aAG (g:GS) (a:List UInt8) (i:Option Inf):fQ { g with data:=i } a={ fQ g a with data:=i }:=rfl
def aAB (k0:bG) (x:Out):List UInt8:=x.core.out.drop k0.out.length
theorem tA (g:GS) (i:Inf) (x:Out) (n:Nat):aER g i x n=match x with
 | .wait k w c=>(.live { fQ g (aAB i.k x) with data:=some ⟨i.L,i.inp+n,k,w,c⟩ },aAB i.k x,0)
 | .done _=>(.live { fQ g (aAB i.k x) with data:=none },aAB i.k x,0)
 | .err e _=>(.dead,aAB i.k x,eno e):=by cases x <;> rfl
theorem aPU (g:GS) (i:Inf) (k1:bG) (w1:cG) (c1:bS) (x:Out) (n:Nat) {t1 t2:List UInt8} (h1:k1.out=i.k.out++t1) (h2:x.core.out=k1.out++t2) (s:List UInt8) :
  dG (.live { fQ g t1 with data:=some ⟨i.L,i.inp+1,k1,w1,c1⟩ },t1,0) []=(.live { fQ g t1 with data:=some ⟨i.L,i.inp+1,k1,w1,c1⟩ },t1,0) ∧
  (fun r:GR3=>((r.1,t1++r.2.1,r.2.2):GR3)) (dG (aER { fQ g t1 with data:=some ⟨i.L,i.inp+1,k1,w1,c1⟩ } ⟨i.L,i.inp+1,k1,w1,c1⟩ x n) s)=dG (aER g i x (n+1)) s:=by
 refine ⟨by simp [dG,cC], ?_⟩
 have e1:aAB k1 x=t2:=by unfold aAB; rw [h2,List.drop_left]
 have e2:aAB i.k x=t1++t2:=by unfold aAB; rw [h2,h1,List.append_assoc,List.drop_left]
 rw [tA,tA]
 simp only [e1,e2]
 cases x with
 | wait k w c=>simp only [dG,aAG,aCO,List.append_assoc]; rw [show i.inp+1+n=i.inp+(n+1) by omega]
 | done k=>simp only [dG,aAG,aCO,List.append_assoc]
 | err e k=>simp only [dG]
theorem aIJ {g:GS} {i:Inf} (hw:g.within=true) (hp:g.hd.part=8) (hd:g.data=some i) (c:UInt8):dO g c=aER g i (Infl.run i.L (Infl.bitsOf [c]) (8 * i.inp) (.wait i.k i.w i.c)).2 1:=by
 unfold dO
 rw [hw,hd]
 simp [hp]
theorem sY [XR] : ∀ (s : List UInt8) (g : GS) (i : Inf), g.within = true → g.hd.part = 8 → g.data = some i → s ≠ [] →
  cC g s=dG (aER g i (Infl.run i.L (Infl.bitsOf s) (8 * i.inp) (.wait i.k i.w i.c)).2 s.length) (dR s i.inp (Infl.run i.L (Infl.bitsOf s) (8 * i.inp) (.wait i.k i.w i.c)))
 | [],_,_,_,_,_,h=>absurd rfl h
 | c :: t, g, i, hw, hp, hd, _ => by
  rw [j6,aIJ hw hp hd]
  have hrl:=qG (L:=i.L) (Huff.loBits c.toNat 8) (8 * i.inp) (.wait i.k i.w i.c)
  have hbits:Huff.loBits c.toNat 8=c.toNat % 2 :: Huff.loBits (c.toNat / 2) 7:=rfl
  have hrf:8 * i.inp+1≤(Infl.run i.L (Huff.loBits c.toNat 8) (8 * i.inp) (.wait i.k i.w i.c)).1:=by rw [hbits]; exact vV
  have hpos:=fun {k':bG} {w':cG} {c':bS} hh=>Infl.run_pos (L:=i.L) (Huff.loBits c.toNat 8) (8 * i.inp) (.wait i.k i.w i.c) (k:=k') (w:=w') (c:=c') hh
  rw [zW] at hpos hrl
  have hext:=Infl.ext_run i.L (Huff.loBits c.toNat 8) (8 * i.inp) (.wait i.k i.w i.c)
  have e1:Infl.bitsOf [c]=Huff.loBits c.toNat 8:=by show Huff.loBits c.toNat 8++[]=_; rw [List.append_nil]
  rw [e1,pX]
  generalize hX:Infl.run i.L (Huff.loBits c.toNat 8) (8 * i.inp) (.wait i.k i.w i.c)=X at hrl hrf hpos hext ⊢
  obtain ⟨p,x⟩:=X
  simp only at hrl hrf hpos hext ⊢
  cases x with
  | err e k =>
   rw [Infl.run_err]
   first | done | rfl
  | done k =>
   rw [Infl.run_done]
   have hr:dR (c :: t) i.inp (p,.done k)=t:=by
    unfold dR
    simp only
    rw [show (p+7) / 8 - i.inp=1 by omega]
    first | done | rfl
   rw [hr]
   first | done | rfl
  | wait k w c1 =>
   have hp1:p=8 * (i.inp+1):=by rw [hpos rfl]; omega
   subst hp1
   obtain ⟨t1,ht1⟩:=hext
   have ht1:k.out=i.k.out++t1:=ht1
   have eg:k.out.drop i.k.out.length=t1:=by rw [ht1,List.drop_left]
   by_cases hne:t=[]
   ·subst hne
    have e0:Infl.bitsOf []=[]:=rfl
    rw [e0,Infl.run_nil]
    first | done | rfl
   ·have ih := sY t { fQ g t1 with data := some ⟨i.L, i.inp + 1, k, w, c1⟩ } ⟨i.L, i.inp + 1, k, w, c1⟩ hw hp rfl hne
    have hext2:=Infl.ext_run i.L (Infl.bitsOf t) (8 * (i.inp+1)) (.wait k w c1)
    have hge:=(qG (L:=i.L) (Infl.bitsOf t) (8 * (i.inp+1)) (.wait k w c1)).1
    simp only at ih
    generalize hY:Infl.run i.L (Infl.bitsOf t) (8 * (i.inp+1)) (.wait k w c1)=Y at ih hext2 hge ⊢
    obtain ⟨q,y⟩:=Y
    obtain ⟨t2,ht2⟩:=hext2
    have ht2:y.core.out=k.out++t2:=ht2
    have hr:dR (c :: t) i.inp (q,y)=dR t (i.inp+1) (q,y):=by
     unfold dR
     cases y with
     | done k' =>
      simp only
      rw [show (q+7) / 8 - i.inp=((q+7) / 8 - (i.inp+1))+1 by omega,List.drop_succ_cons]
     | _=>rfl
    rw [hr]
    have h2:=(aPU g i k w c1 y t.length ht1 ht2 (dR t (i.inp+1) (q,y))).2
    simp only at h2
    rw [List.length_cons, ← h2, ← ih]
    show dG (.live { fQ g (k.out.drop i.k.out.length) with data:=some ⟨i.L,i.inp+1,k,w,c1⟩ },k.out.drop i.k.out.length,0) t=_
    rw [eg]
    first | done | rfl
end Go.Proofs.YtfoekpcljhbijaaGreatDoor
namespace Go.Infl
open Go.Huff
def uM (m:Nat) (x' x:Out):Prop:=(x'=x∧x.core.out.length≤m)∨∃ k,x' = .err 2 k∧k.out.length=m∧∃ t,t≠[]∧x.core.out=k.out++t
section
variable {L:Lim} {m:Nat}
theorem uM.same {x:Out} (h:x.core.out.length≤m):uM m x x:=.inl ⟨rfl,h⟩
theorem uM.put {i:Nat} {k:bG} {c:UInt8} {f:bG→Out} (hm:m≤L.output) (hk:k.out.length≤m) (hf:∀ k',mR k'.out (f k')) (ih:∀ k',putP L i k c=some k'→k'.out.length≤m→uM m (f k') (f k')) :
  uM m (match putP { L with output:=m } i k c with | none=>.err 2 k | some k'=>f k') (match putP L i k c with | none=>.err 2 k | some k'=>f k'):=by
 unfold putP
 by_cases hlt:k.out.length<m
 ·have e : full { L with output := m } i k.out = full L i k.out := by
   unfold full
   rw [decide_eq_false (show ¬ m≤k.out.length by omega),decide_eq_false (show ¬ L.output≤k.out.length by omega)]
  rw [e]
  cases hq:full L i k.out with
  | true=>exact .same hk
  | false =>
   exact ih _ (by unfold putP; rw [hq] <;> rfl) (by simp; omega)
 ·have hfull : full { L with output := m } i k.out = true := by
   unfold full
   rw [decide_eq_true (show m≤k.out.length by omega)] <;> rfl
  rw [hfull]
  cases hq:full L i k.out with
  | true=>exact .same hk
  | false =>
   obtain ⟨t,ht⟩:=hf { k with out:=k.out++[c] }
   exact .inr ⟨k,rfl,by omega,c :: t,by simp,by simpa using ht⟩
theorem aBX (hm : m ≤ L.output) {i d : Nat} : ∀ (n : Nat) (k : bG), k.out.length ≤ m →
  (copyP { L with output:=m } i d n k=copyP L i d n k∧(copyP L i d n k).1.out.length≤m)∨∃ k',copyP { L with output:=m } i d n k=(k',false)∧k'.out.length=m∧∃ t,t≠[]∧(copyP L i d n k).1.out=k'.out++t
 | 0,k,hk=>.inl ⟨rfl,hk⟩
 | n + 1, k, hk => by
  unfold copyP putP
  by_cases hlt:k.out.length<m
  ·have e : full { L with output := m } i k.out = full L i k.out := by
    unfold full
    rw [decide_eq_false (show ¬ m≤k.out.length by omega),decide_eq_false (show ¬ L.output≤k.out.length by omega)]
   rw [e]
   cases hq:full L i k.out with
   | true=>exact .inl ⟨rfl,hk⟩
   | false=>exact aBX hm n { k with out:=k.out++[k.out.getD (k.out.length - d) 0] } (by simp; omega)
  ·have hfull : full { L with output := m } i k.out = true := by
    unfold full
    rw [decide_eq_true (show m≤k.out.length by omega)] <;> rfl
   rw [hfull]
   cases hq:full L i k.out with
   | true=>exact .inl ⟨rfl,hk⟩
   | false =>
    obtain ⟨t,ht⟩:=zM (L:=L) (i:=i) (d:=d) n { k with out:=k.out++[k.out.getD (k.out.length - d) 0] }
    exact .inr ⟨k,rfl,by omega,_ :: t,by simp,by simpa using ht⟩
theorem aCF {k:bG} (h:k.out.length≤m):(block k).core.out.length≤m:=by unfold block; split <;> exact h
theorem aKO {k:bG} {n:Nat} (h:k.out.length≤m):(raw k n).core.out.length≤m:=by unfold raw; split; exact aCF h; exact h
theorem aCV {k:bG} {a b:List Nat} (h:k.out.length≤m):(codes k a b).core.out.length≤m:=by unfold codes; split <;> exact h
theorem z8 {k:bG} {c l:List Nat} {x y:Nat} (h:k.out.length≤m):(lensW k c l x y).core.out.length≤m:=by unfold lensW; split; exact aCV h; exact h
theorem aB8 {k:bG} {l:List Nat} {i n x y:Nat} (h:k.out.length≤m):(thirdW k l i n x y).core.out.length≤m:=by
 unfold thirdW
 split
 ·split
  ·exact z8 h
  ·exact h
 ·exact h
theorem sU (hm : m ≤ L.output) {i v : Nat} {k : bG} (hk : k.out.length ≤ m) (c : bS) : uM m (apply { L with output := m } i k v c) (apply L i k v c) := by
 cases c with
 | block =>
  refine .same ?_
  rw [apply]
  split
  ·exact hk
  ·exact aCV hk
  ·exact hk
  ·exact hk
 | stored1=>exact .same hk
 | stored2 n=>refine .same ?_; rw [apply]; split; exact aKO hk; exact hk
 | raw n=>exact uM.put (f:=fun k'=>raw k' (n - 1)) hm hk (fun k'=>aE8 k' _) fun k' _ h=>.same (aKO h)
 | lit a b =>
  rw [apply,apply]
  by_cases h1:v<256
  ·rw [if_pos h1, if_pos h1]
   exact uM.put (f:=fun k'=>litW k' a b) hm hk (fun k'=>⟨[],(List.append_nil _).symm⟩) fun k' _ h=>.same h
  ·rw [if_neg h1, if_neg h1]
   refine .same ?_
   split
   ·exact aCF hk
   ·split <;> exact hk
 | more a b n=>exact .same hk
 | far a b n=>refine .same ?_; rw [apply]; split <;> exact hk
 | farMore a b n d =>
  rw [apply,apply]
  by_cases h1:k.out.length<d+v
  ·rw [if_pos h1,if_pos h1]; exact .same hk
  ·rw [if_neg h1, if_neg h1]
   rcases aBX (L:=L) (i:=i) (d:=d+v) hm n k hk with ⟨g1,g2⟩ | ⟨k',g1,g2,t,g3,g4⟩
   ·rw [g1]
    refine .same ?_
    split <;> rename_i q hq <;> rw [hq] at g2 <;> exact g2
   ·rw [g1]
    refine .inr ⟨k',rfl,g2,t,g3, ?_⟩
    split <;> rename_i q hq <;> rw [hq] at g4 <;> exact g4
 | dyn1=>refine .same ?_; rw [apply]; split <;> exact hk
 | dyn2 n=>refine .same ?_; rw [apply]; split <;> exact hk
 | dyn3 a b=>exact .same (aB8 hk)
 | third l x n a b=>exact .same (aB8 hk)
 | lens c l a b =>
  refine .same ?_
  rw [apply]
  split
  ·exact z8 hk
  ·split
   ·split <;> exact hk
   ·split <;> exact hk
 | rep c l a b n x=>refine .same ?_; rw [apply]; split; exact hk; exact z8 hk
theorem zI {i e f:Nat} {k:bG}:settle L i f (.err e k) = .err e k:=settle_set (by trivial)
theorem xP (hm : m ≤ L.output) {i : Nat} : ∀ (f : Nat) (x' x : Out), uM m x' x → uM m (settle { L with output := m } i f x') (settle L i f x)
  | f, x', x, h => by
    rcases h with ⟨rfl,hl⟩ | ⟨k,rfl,g2,t,g3,g4⟩
    · induction f generalizing x' with
      | zero=>exact .same hl
      | succ f ih =>
        match x',hl with
        | .wait k (.num (n+1) a b) c,hl=>exact .same hl
        | .wait k (.sym l n x) c,hl=>exact .same hl
        | .done k,hl=>exact .same hl
        | .err e k,hl=>exact .same hl
        | .wait k (.num 0 a b) c, hl =>
          show uM m (settle _ i f (apply _ i k 0 c)) (settle L i f (apply L i k 0 c))
          rcases sU (L:=L) (i:=i) (v:=0) (k:=k) hm hl c with ⟨h1,h2⟩ | ⟨k',h1,h2,t,h3,h4⟩
          · rw [h1]; exact ih _ h2
          · rw [h1, zI]
            obtain ⟨u,hu⟩:=kF L i f (apply L i k 0 c)
            exact .inr ⟨k',rfl,h2,t++u,by simp [h3],by rw [hu,h4,List.append_assoc]⟩
    · rw [zI]
      obtain ⟨u,hu⟩:=kF L i f x
      exact .inr ⟨k,rfl,g2,t++u,by simp [g3],by rw [hu,g4,List.append_assoc]⟩
theorem aP8 (hm:m≤L.output) {i b:Nat} {k:bG} {w:cG} {c:bS} (hk:k.out.length≤m):uM m (bitP { L with output:=m } i k w c b) (bitP L i k w c b):=by
 cases w with
 | num n h a =>
  rw [bit_num,bit_num]
  split
  ·exact .same hk
  ·exact xP hm 3 _ _ (sU hm hk c)
 | sym l n x =>
  rw [bit_sym,bit_sym]
  split
  ·exact xP hm 3 _ _ (sU hm hk c)
  ·exact .same hk
  ·exact .same hk
theorem run_lims (hm:m≤L.output):∀ (bs:List Nat) (i:Nat) (x' x:Out),uM m x' x→uM m (run { L with output:=m } bs i x').2 (run L bs i x).2
 | bs, i, x', x, .inr ⟨k, g1, g2, t, g3, g4⟩ => by
  subst g1
  rw [run_err]
  obtain ⟨u,hu⟩:=ext_run L bs i x
  exact .inr ⟨k,rfl,g2,t++u,by simp [g3],by rw [hu,g4,List.append_assoc]⟩
 | bs,i,x',.done k,.inl ⟨g1,hl⟩=>by subst g1; rw [run_done,run_done]; exact .same hl
 | bs,i,x',.err e k,.inl ⟨g1,hl⟩=>by subst g1; rw [run_err,run_err]; exact .same hl
 | [],i,x',.wait k w c,.inl ⟨g1,hl⟩=>by subst g1; rw [run_nil,run_nil]; exact .same hl
 | b :: r, i, x', .wait k w c, .inl ⟨g1, hl⟩ => by
  subst g1
  rw [run_bit,run_bit]
  split
  ·exact run_lims hm r _ _ _ (.same hl)
  ·exact run_lims hm r _ _ _ (aP8 hm hl)
end
end Go.Infl
namespace Go.Proofs.YtfoekpcljhbijaaGreatDoor
open Go.GAM
open Go.Infl (bG cG bS Out Lim)
theorem aKI {L:Lim} {k:bG} {w:cG} {c:bS} (h:k.out.length≤L.output) (bs:List Nat) (i:Nat):(Infl.run L bs i (.wait k w c)).2.core.out.length≤L.output:=by
 have:=Infl.run_lims (L:=L) (m:=L.output) (Nat.le_refl _) bs i (.wait k w c) (.wait k w c) (.inl ⟨rfl,h⟩)
 rcases this with ⟨_,h⟩ | ⟨k',g1,g2,_⟩
 ·exact h
 ·have e : ({ L with output := L.output } : Lim) = L := rfl
  rw [e] at g1
  rw [g1]
  show k'.out.length≤_
  omega
structure vT (h:Hd):Prop where
 part:h.part≤8
 count:h.count<2 ^ 40
 p0:h.part=0→h.count<3
 p1:h.part=1→h.count=0
 p2:h.part=2→h.count<6
 p3:h.part=3→h.count<2∧h.extra<256 ^ h.count
 pre:h.part<3→h.extra=0
 p7:h.part=7→h.count<2
 flags:h.flags<32
 extra:h.extra<65536
 check:h.check<65536
 name:h.name.length<2 ^ 40
 sum:∃ v:BitVec 32,h.sum=((v.toNat:Nat):Int)
theorem vT.zero:vT {}:=⟨by decide,by decide,fun _=>by decide,fun _=>rfl,fun _=>by decide,(fun h=>by cases h),fun _=>rfl,(fun h=>by cases h),by decide,by decide,by decide,by decide,⟨0,rfl⟩⟩
theorem aJZ (fl ex : Nat) : ∀ (f p : Nat), p ≤ 8 → (8 < p + f ∨ p < 3 ∧ 0 < f) → eG fl ex f p ≤ 8 ∧ p ≤ eG fl ex f p
 | 0,p,h1,h2=>by omega
 | f + 1, p, h1, h2 => by
  unfold eG
  cases hw:gD fl ex p with
  | true=>exact ⟨by simpa using h1,by simp⟩
  | false =>
   have hp7:3≤p∧p≤7:=by
    unfold gD at hw
    split at hw <;> first | omega | cases hw
   have:=aJZ fl ex f (p+1) (by omega) (.inl (by omega))
   simp only [Bool.false_eq_true,if_false]
   exact ⟨this.1,by omega⟩
theorem aT2 {h:Hd} (hp:h.part<8) (hf:h.flags<32) (he:h.extra<65536) (hc:h.check<65536) (hn:h.name.length<2 ^ 40) (hs:∃ v:BitVec 32,h.sum=((v.toNat:Nat):Int)) (hpre:h.part<3→h.extra=0) (last:Bool)
  (hno:last=false→vT h):vT (eV h last)∧(eV h last).count≤h.count:=by
 unfold eV
 cases last with
 | false=>exact ⟨hno rfl,Nat.le_refl _⟩
 | true =>
  obtain ⟨s1,s2⟩:=aJZ h.flags h.extra 6 (h.part+1) (by omega) (by omega)
  simp only [if_true]
  refine ⟨⟨s1,by show 0<2 ^ 40; decide,fun e=>by show 0<3; decide,fun _=>rfl,fun _=>by show 0<6; decide,fun e=>⟨by show 0<2; decide, ?_⟩,fun e=>hpre ?_,fun _=>by show 0<2; decide,hf,he,hc,hn,hs⟩,Nat.zero_le _⟩
  ·have e : eG h.flags h.extra 6 (h.part + 1) = 3 := e
   rw [hpre (by omega)]; show 0<256 ^ 0; decide
  ·have e : eG h.flags h.extra 6 (h.part + 1) < 3 := e
   omega
theorem aKM {c:UInt8} {k:Nat} (hk:k<2):c.toNat * 2 ^ (8 * k)<2 ^ 16:=by
 have:=c.toNat_lt
 have hk2:k=0∨k=1:=by omega
 rcases hk2 with e | e <;> rw [e] <;> omega
theorem lI {h:Hd} {n m:Nat} (hp:h.part<8) (hf:h.flags<32) (he:h.extra<65536) (hc:h.check<65536) (hn:h.name.length<2 ^ 40) (hs:∃ v:BitVec 32,h.sum=((v.toNat:Nat):Int)) (hpre:h.part<3→h.extra=0) (last:Bool)
  (hno:last=false→vT h) (h1:h.count≤n:=by exact Nat.le_refl _) (h2:h.name.length≤m:=by exact Nat.le_succ _):vT (eV h last)∧(eV h last).count≤n∧(eV h last).name.length≤m:=by
 obtain ⟨a,b⟩:=aT2 hp hf he hc hn hs hpre last hno
 refine ⟨a,Nat.le_trans b h1, ?_⟩
 unfold eV
 split <;> exact h2
theorem tk0 {h:Hd} {c:UInt8} (e:h.part=0):dB h c=if dW[h.count]? = some c then .inr (eV { h with sum:=bQ h.sum [c],count:=h.count+1 } (h.count+1 == 3)) else .inl 2:=by simp only [dB,e]
theorem tk1 {h:Hd} {c:UInt8} (e:h.part=1):dB h c=if 31<c.toNat then .inl 2 else .inr (eV { h with sum:=bQ h.sum [c],count:=h.count+1,flags:=c.toNat } true):=by simp only [dB,e]
theorem tk2 {h:Hd} {c:UInt8} (e:h.part=2):dB h c = .inr (eV { h with sum:=bQ h.sum [c],count:=h.count+1 } (h.count+1 == 6)):=by simp only [dB,e]
theorem tk3 {h:Hd} {c:UInt8} (e:h.part=3):dB h c = .inr (eV { h with sum:=bQ h.sum [c],count:=h.count+1,extra:=h.extra ||| c.toNat * 2 ^ (8 * h.count) } (h.count+1 == 2)):=by simp only [dB,e]
theorem tk4 {h:Hd} {c:UInt8} (e:h.part=4):dB h c = .inr (eV { h with sum:=bQ h.sum [c],count:=h.count+1 } (h.count+1 == h.extra)):=by simp only [dB,e]
theorem tk5 {h:Hd} {c:UInt8} (e:h.part=5):dB h c=if c=0 then .inr (eV { h with sum:=bQ h.sum [c],count:=h.count+1 } true) else if 256<h.count+1 then .inl 3 else .inr { h with sum:=bQ h.sum [c],count:=h.count+1,name:=h.name++[c] }:=by simp only [dB,e]
theorem tk6 {h:Hd} {c:UInt8} (e:h.part=6):dB h c = .inr (eV { h with sum:=bQ h.sum [c],count:=h.count+1 } (c == 0)):=by simp only [dB,e]
def chk (h:Hd) (c:UInt8):Nat:=(if h.count=0 then h.sum.toNat % 65536 else h.check) ^^^ c.toNat * 2 ^ (8 * h.count)
theorem tk7 {h:Hd} {c:UInt8} (e:h.part=7):dB h c=if h.count=1 then (if chk h c=0 then .inr (eV { h with sum:=bQ h.sum [c],count:=h.count+1,check:=chk h c } true) else .inl 8)
  else .inr { h with sum:=bQ h.sum [c],count:=h.count+1,check:=chk h c }:=by simp only [dB,e,chk]
theorem aPO {h h' : Hd} {c : UInt8} (H : vT h) (hp : h.part < 8) (hN : h.count + 1 < 2 ^ 40) (hN2 : h.name.length + 1 < 2 ^ 40) (ht : dB h c = .inr h') : vT h' ∧ h'.count ≤ h.count + 1 ∧ h'.name.length ≤ h.name.length + 1 := by
 have hsum:∃ v:BitVec 32,bQ h.sum [c]=((v.toNat:Nat):Int):=rB _ _
 have hcases:h.part=0∨h.part=1∨h.part=2∨h.part=3∨h.part=4∨h.part=5∨h.part=6∨h.part=7:=by omega
 have ck:(if h.count=0 then h.sum.toNat % 65536 else h.check)<2 ^ 16:=by
  split
  ·exact Nat.mod_lt _ (by decide)
  ·exact H.check
 rcases hcases with e | e | e | e | e | e | e | e
 ·rw [tk0 e] at ht
  split at ht
  ·cases ht
   refine lI (by exact hp) (by exact H.flags) (by exact H.extra) (by exact H.check) (by exact H.name) (by exact hsum) (by exact H.pre) _ fun hl=>?_
   have:=H.p0 e
   have hl:¬ h.count+1=3:=by simpa using hl
   exact ⟨H.part,hN,fun _=>by show h.count+1<3; omega,(fun e'=>by have e':h.part=1:=e'; omega),(fun e'=>by have e':h.part=2:=e'; omega),(fun e'=>by have e':h.part=3:=e'; omega),H.pre,(fun e'=>by have e':h.part=7:=e'; omega),H.flags,H.extra,H.check,H.name,hsum⟩
  ·cases ht
 ·rw [tk1 e] at ht
  split at ht
  ·cases ht
  ·rename_i hc
   cases ht
   exact lI (by exact hp) (by exact (show c.toNat<32 by omega)) (by exact H.extra) (by exact H.check) (by exact H.name) (by exact hsum) (by exact H.pre) true (fun h=>by cases h)
 ·rw [tk2 e] at ht
  cases ht
  refine lI (by exact hp) (by exact H.flags) (by exact H.extra) (by exact H.check) (by exact H.name) (by exact hsum) (by exact H.pre) _ fun hl=>?_
  have:=H.p2 e
  have hl:¬ h.count+1=6:=by simpa using hl
  exact ⟨H.part,hN,(fun e'=>by have e':h.part=0:=e'; omega),(fun e'=>by have e':h.part=1:=e'; omega),fun _=>by show h.count+1<6; omega,(fun e'=>by have e':h.part=3:=e'; omega),H.pre,(fun e'=>by have e':h.part=7:=e'; omega),H.flags,H.extra,H.check,H.name,hsum⟩
 ·rw [tk3 e] at ht
  cases ht
  obtain ⟨c1,c2⟩:=H.p3 e
  have hx:h.extra ||| c.toNat * 2 ^ (8 * h.count)<2 ^ 16:=Nat.or_lt_two_pow H.extra (aKM c1)
  refine lI (by exact hp) (by exact H.flags) (by exact hx) (by exact H.check) (by exact H.name) (by exact hsum) (by exact (fun e'=>by have e':h.part<3:=e'; omega)) _ fun hl=>?_
  have hl:¬ h.count+1=2:=by simpa using hl
  have h0:h.count=0:=by omega
  refine ⟨H.part,hN,(fun e'=>by have e':h.part=0:=e'; omega),(fun e'=>by have e':h.part=1:=e'; omega),(fun e'=>by have e':h.part=2:=e'; omega),fun _=>⟨by show h.count+1<2; omega, ?_⟩,(fun e'=>by have e':h.part<3:=e'; omega),(fun e'=>by have e':h.part=7:=e'; omega),H.flags,hx,H.check,H.name,hsum⟩
  show h.extra ||| c.toNat * 2 ^ (8 * h.count)<256 ^ (h.count+1)
  rw [h0] at c2 ⊢
  have c0:h.extra=0:=by simpa using c2
  rw [c0]
  have:=c.toNat_lt
  simp
  omega
 ·rw [tk4 e] at ht
  cases ht
  refine lI (by exact hp) (by exact H.flags) (by exact H.extra) (by exact H.check) (by exact H.name) (by exact hsum) (by exact (fun e'=>by have e':h.part<3:=e'; omega)) _ fun hl=>?_
  exact ⟨H.part,hN,(fun e'=>by have e':h.part=0:=e'; omega),(fun e'=>by have e':h.part=1:=e'; omega),(fun e'=>by have e':h.part=2:=e'; omega),(fun e'=>by have e':h.part=3:=e'; omega),(fun e'=>by have e':h.part<3:=e'; omega),(fun e'=>by have e':h.part=7:=e'; omega),H.flags,H.extra,H.check,H.name,hsum⟩
 ·rw [tk5 e] at ht
  split at ht
  ·cases ht
   exact lI (by exact hp) (by exact H.flags) (by exact H.extra) (by exact H.check) (by exact H.name) (by exact hsum) (by exact (fun e'=>by have e':h.part<3:=e'; omega)) true (fun h=>by cases h)
  ·split at ht
   ·cases ht
   ·rename_i hc hl
    cases ht
    refine ⟨⟨H.part,hN,(fun e'=>by have e':h.part=0:=e'; omega),(fun e'=>by have e':h.part=1:=e'; omega),(fun e'=>by have e':h.part=2:=e'; omega),(fun e'=>by have e':h.part=3:=e'; omega),(fun e'=>by have e':h.part<3:=e'; omega),(fun e'=>by have e':h.part=7:=e'; omega),H.flags,H.extra,H.check,by show (h.name++[c]).length<_; simp; omega,hsum⟩,Nat.le_refl _,by show (h.name++[c]).length≤_; simp⟩
 ·rw [tk6 e] at ht
  cases ht
  refine lI (by exact hp) (by exact H.flags) (by exact H.extra) (by exact H.check) (by exact H.name) (by exact hsum) (by exact (fun e'=>by have e':h.part<3:=e'; omega)) _ fun hl=>?_
  exact ⟨H.part,hN,(fun e'=>by have e':h.part=0:=e'; omega),(fun e'=>by have e':h.part=1:=e'; omega),(fun e'=>by have e':h.part=2:=e'; omega),(fun e'=>by have e':h.part=3:=e'; omega),(fun e'=>by have e':h.part<3:=e'; omega),(fun e'=>by have e':h.part=7:=e'; omega),H.flags,H.extra,H.check,H.name,hsum⟩
 ·rw [tk7 e] at ht
  have c1:=H.p7 e
  have hx:(if h.count=0 then h.sum.toNat % 65536 else h.check) ^^^ c.toNat * 2 ^ (8 * h.count)<2 ^ 16:=Nat.xor_lt_two_pow ck (aKM c1)
  split at ht
  ·split at ht
   ·cases ht
    exact lI (by exact hp) (by exact H.flags) (by exact H.extra) (by exact hx) (by exact H.name) (by exact hsum) (by exact (fun e'=>by have e':h.part<3:=e'; omega)) true (fun h=>by cases h)
   ·cases ht
  ·rename_i hc
   cases ht
   exact ⟨⟨H.part,hN,(fun e'=>by have e':h.part=0:=e'; omega),(fun e'=>by have e':h.part=1:=e'; omega),(fun e'=>by have e':h.part=2:=e'; omega),(fun e'=>by have e':h.part=3:=e'; omega),(fun e'=>by have e':h.part<3:=e'; omega),(fun _=>by show h.count+1<2; omega),H.flags,H.extra,hx,H.name,hsum⟩,Nat.le_refl _,Nat.le_succ _⟩
end Go.Proofs.YtfoekpcljhbijaaGreatDoor
namespace Go.Proofs.YtfoekpcljhbijaaGreatDoor
open Go.GAM
open Go.Infl (bG cG bS Out Lim)
structure GOK (g:GS) (N:Nat):Prop where
 hd:vT g.hd
 cnt:g.hd.count≤N
 nml:g.hd.name.length≤N
 out:g.out≤65536
 ratio:1≤g.ratio∧g.ratio≤1100
 size:g.size+g.out≤65536
 sizes:∀ x∈g.sizes,x+g.out≤65536
 len:g.names.length≤16
 same:g.sizes.length=g.names.length
 room:g.within=true→g.hd.part<8→g.names.length<16
 data:∀ i,g.data=some i→g.within=true∧g.hd.part=8∧i.L.output=g.out+i.k.out.length∧0<g.names.length∧i.inp≤N
 trail:g.within=true→g.data=none→g.hd.part=8→g.trailer.length<8
 fresh:g.within=true→g.hd.part<8→g.data=none
 idle:g.within=false→g.data=none
 crc:∃ v:BitVec 32,g.crc=((v.toNat:Nat):Int)
 tdat:∀ i,g.data=some i→g.trailer=[]
theorem GOK.mono {g:GS} {N M:Nat} (H:GOK g N) (h:N≤M):GOK g M:=
 { H with cnt:=Nat.le_trans H.cnt h,nml:=Nat.le_trans H.nml h,data:=fun i hi=>let ⟨a,b,c,d,e⟩:=H.data i hi; ⟨a,b,c,d,Nat.le_trans e h⟩ }
theorem GOK.begin {g:GS} {N:Nat} (H:GOK g N) (hw:g.within=false) (hn:g.names.length≠16):GOK { g with hd:={},within:=true } N:=
 { H with hd:=vT.zero,cnt:=Nat.zero_le _,nml:=Nat.zero_le _,room:=fun _ _=>by have:=H.len; show g.names.length<16; omega,data:=(fun i hi=>by have hi:g.data=some i:=hi; rw [H.idle hw] at hi; cases hi),trail:=(fun _ _ h=>by cases h),fresh:=fun _ _=>H.idle hw,idle:=(fun h=>by cases h),tdat:=(fun i hi=>by have hi:g.data=some i:=hi; rw [H.idle hw] at hi; cases hi) }
theorem aPK {n:Nat} (h:n≤65536):bnd (n:Int) 0 65536=n:=by unfold bnd; omega
theorem GOK.hdr {g:GS} {N:Nat} {h':Hd} {c:UInt8} (H:GOK g N) (hN:N+1<2 ^ 40) (hw:g.within=true) (hp:g.hd.part<8) (ht:dB g.hd c = .inr h'):GOK (if h'.part=8 then aGW { g with hd:=h' } else { g with hd:=h' }) (N+1):=by
 obtain ⟨a,b,d⟩:=aPO H.hd hp (by have:=H.cnt; omega) (by have:=H.nml; omega) ht
 have hroom:=H.room hw hp
 split
 ·rename_i h8
  refine ⟨a,Nat.le_trans b (Nat.succ_le_succ H.cnt),Nat.le_trans d (Nat.succ_le_succ H.nml),H.out,H.ratio,by show 0+g.out≤65536; have:=H.out; omega, ?_, ?_, ?_,(fun _ h=>by have h:h'.part<8:=h; omega), ?_,(fun _ h=>by cases h),(fun _ h=>by have h:h'.part<8:=h; omega),(fun h=>by have h:g.within=false:=h; rw [hw] at h; cases h),⟨0,rfl⟩,fun _ _=>rfl⟩
  ·intro x hx
   rcases List.mem_append.1 hx with h | h
   ·exact H.sizes x h
   ·rw [List.mem_singleton.1 h]; show 0+g.out≤65536; have:=H.out; omega
  ·show (g.names++[h'.name]).length≤16; rw [List.length_append,List.length_singleton]; omega
  ·show (g.sizes++[0]).length=(g.names++[h'.name]).length; rw [List.length_append,List.length_append,H.same] <;> rfl
  ·intro i hi
   have hi:some _=some i:=hi
   cases hi
   refine ⟨hw,h8, ?_,by show 0<(g.names++[h'.name]).length; simp,Nat.zero_le _⟩
   show bnd (g.out:Int) 0 65536=g.out+0
   rw [aPK H.out] <;> rfl
 ·rename_i h8
  have hp8:=a.part
  exact ⟨a,Nat.le_trans b (Nat.succ_le_succ H.cnt),Nat.le_trans d (Nat.succ_le_succ H.nml),H.out,H.ratio,H.size,H.sizes,H.len,H.same,fun _ _=>hroom,(fun i hi=>by have hi:g.data=some i:=hi; rw [H.fresh hw hp] at hi; cases hi),(fun _ _ h=>absurd h h8),fun _ _=>H.fresh hw hp,(fun h=>by have h:g.within=false:=h; rw [hw] at h; cases h),H.crc,(fun i hi=>by have hi:g.data=some i:=hi; rw [H.fresh hw hp] at hi; cases hi)⟩
theorem GOK.dat {g : GS} {N n : Nat} {i : Inf} {b : List UInt8} {d : Option Inf} (H : GOK g N) (hd : g.data = some i) (hb : b.length ≤ g.out) (hD : ∀ j, d = some j → j.L.output = (g.out - b.length) + j.k.out.length ∧ j.inp ≤ N + n) : GOK { fQ g b with data := d } (N + n) := by
 obtain ⟨a1,a2,a3,a4,a5⟩:=H.data i hd
 refine ⟨H.hd,Nat.le_trans H.cnt (Nat.le_add_right _ _),Nat.le_trans H.nml (Nat.le_add_right _ _),Nat.le_trans (Nat.sub_le _ _) H.out,H.ratio, ?_, ?_,H.len, ?_,H.room, ?_,(fun _ _ _=>by show g.trailer.length<8; rw [H.tdat i hd]; decide),(fun _ h=>by have h:g.hd.part<8:=h; omega),(fun h=>by have h:g.within=false:=h; rw [a1] at h; cases h),rB _ _,fun _ _=>H.tdat i hd⟩
 ·show g.size + b.length + (g.out - b.length) ≤ 65536
  have:=H.size; omega
 ·intro x hx
  have hx:x∈g.sizes.set (g.sizes.length - 1) (g.sizes.getD (g.sizes.length - 1) 0+b.length):=hx
  show x+(g.out - b.length)≤65536
  rcases List.mem_or_eq_of_mem_set hx with h | h
  ·have:=H.sizes x h; omega
  ·have hlt : g.sizes.length - 1 < g.sizes.length := by rw [H.same]; omega
   have hm:g.sizes.getD (g.sizes.length - 1) 0∈g.sizes:=by
    rw [List.getD_eq_getElem?_getD,List.getElem?_eq_getElem hlt]; exact List.getElem_mem _
   have:=H.sizes _ hm
   omega
 ·show (g.sizes.set _ _).length = g.names.length
  rw [List.length_set,H.same]
 ·intro j hj
  obtain ⟨e1,e2⟩:=hD j hj
  exact ⟨a1,a2,e1,a4,e2⟩
theorem GOK.endd {g:GS} {N:Nat} {t:List UInt8} {w:Bool} (H:GOK g N) (hd:g.data=none) (hp:g.hd.part=8) (ht:w=true→t.length<8):GOK { g with trailer:=t,within:=w } (N+1):=
 { H.mono (Nat.le_succ N) with room:=(fun _ h=>by have h:g.hd.part<8:=h; omega),data:=(fun i hi=>by have hi:g.data=some i:=hi; rw [hd] at hi; cases hi),trail:=fun hw _ _=>ht hw,fresh:=fun _ _=>hd,idle:=fun _=>hd,tdat:=(fun i hi=>by have hi:g.data=some i:=hi; rw [hd] at hi; cases hi) }
end Go.Proofs.YtfoekpcljhbijaaGreatDoor
namespace Go.Proofs.YtfoekpcljhbijaaGreatDoor
open Go.GAM
abbrev HR:=List UInt8 × Bool × Int
def gS:List UInt8→Option Nat
 | []=>none
 | c :: l=>if c=0 then some 0 else (gS l).map (· + 1)
def eX (p:List UInt8) (pos:Nat):List UInt8 × Nat × Bool:=match gS (p.drop pos) with
 | some j=>((p.drop pos).take j,pos+j+1,true)
 | none=>(p.drop pos,0,false)
def aA4 (p:List UInt8) (fl pos:Nat) (name:List UInt8):HR:=
 if fl &&& 2=0 then (name,p.length == pos,0)
 else if p.length<pos+2 then ([],false,0)
 else if bN ((p.take (pos+2)).drop pos)≠(bQ 0 (p.take pos)).toNat % 65536 then ([],false,8) else (name,true,0)
def aE2 (p:List UInt8) (fl pos:Nat) (name:List UInt8):HR:=
 if fl &&& 16≠0 then (if (eX p pos).2.2 then aA4 p fl (eX p pos).2.1 name else ([],false,0)) else aA4 p fl pos name
def qF (p:List UInt8) (fl pos:Nat):HR:=
 if fl &&& 8≠0 then (if 256<(eX p pos).1.length then ([],false,3) else if (eX p pos).2.2 then aE2 p fl (eX p pos).2.1 (eX p pos).1 else ([],false,0)) else aE2 p fl pos []
def iU (p:List UInt8) (fl:Nat):HR:=
 if fl &&& 4≠0 then (if p.length<12 then ([],false,0) else if p.length<12+bN ((p.take 12).drop 10) then ([],false,0) else qF p fl (12+bN ((p.take 12).drop 10))) else qF p fl 10
def dU (p:List UInt8):Bool:=decide (p.take 3=dW.take p.length)&&(match p[3]? with
 | some c=>decide (c.toNat<32)
 | none=>true)
def dT (p:List UInt8):HR:=if dU p then (if p.length<10 then ([],false,0) else iU p (p.getD 3 0).toNat) else ([],false,2)
theorem tC:∀ (l:List UInt8) (t:List UInt8),gS l=none→gS (l++t)=(gS t).map (· + l.length)
 | [],t,_=>by simp
 | c :: l, t, h => by
  have hc:¬ c=0:=fun e=>by rw [gS,if_pos e] at h; cases h
  rw [gS,if_neg hc] at h
  have h2:gS l=none:=by cases hi:gS l <;> rw [hi] at h <;> first | rfl | cases h
  rw [List.cons_append,gS,if_neg hc,tC l t h2]
  cases gS t with
  | none=>rfl
  | some j=>simp [Nat.add_assoc]
theorem rC {l:List UInt8} {c:UInt8} (h:gS l=none):gS (l++[c])=if c=0 then some l.length else none:=by
 rw [tC l [c] h]
 by_cases hc:c=0 <;> simp [gS,hc]
theorem nT {p:List UInt8} {pos:Nat} (h:gS (p.drop pos)=none):eX p pos=(p.drop pos,0,false):=by
 unfold eX; rw [h]
theorem zT {p t:List UInt8} {pos:Nat} (hp:pos≤p.length) (h:gS (p.drop pos)=none):eX (p++[0]++t) pos=(p.drop pos,p.length+1,true):=by
 unfold eX
 have e:(p++[0]++t).drop pos=p.drop pos++([0]++t):=by rw [List.append_assoc,List.drop_append_of_le_length hp]
 rw [e,tC _ _ h]
 simp [gS]
 omega
def Inv (p:List UInt8) (h:Hd):Prop:=h.sum=bQ 0 p∧match h.part with
 | 0=>p=dW.take h.count∧h.count<3∧h.name=[]
 | 1=>p=dW∧h.name=[]
 | 2=>h.name=[]∧h.count<6∧p.length=4+h.count∧(∀ t,dU (p++t)=true)∧∀ t,((p++t).getD 3 0).toNat=h.flags
 | 3=>h.name=[]∧h.flags &&& 4≠0∧h.count<2∧p.length=10+h.count∧h.extra=bN (p.drop 10)∧∀ t,dT (p++t)=iU (p++t) h.flags
 | 4=>h.name=[]∧h.flags &&& 4≠0∧h.count<h.extra∧p.length=12+h.count∧h.extra=bN ((p.take 12).drop 10)∧∀ t,dT (p++t)=iU (p++t) h.flags
 | 5=>h.flags &&& 8≠0∧h.count≤256∧∃ pos,p.length=pos+h.count∧p.drop pos=h.name∧gS h.name=none∧∀ t,dT (p++t)=qF (p++t) h.flags pos
 | 6=>h.flags &&& 16≠0∧∃ pos,pos≤p.length∧gS (p.drop pos)=none∧∀ t,dT (p++t)=aE2 (p++t) h.flags pos h.name
 | 7=>h.flags &&& 2≠0∧h.count<2∧∃ pos,p.length=pos+h.count∧(h.count=1→h.check=((bQ 0 (p.take pos)).toNat % 65536) ^^^ bN (p.drop pos))∧∀ t,dT (p++t)=aA4 (p++t) h.flags pos h.name
 | _=>dT p=(h.name,true,0)
theorem gN (fl ex f k:Nat):eG fl ex (f+1) k=if gD fl ex k then k else eG fl ex f (k+1):=rfl
section
variable {p:List UInt8} {h:Hd}
theorem aPS {f:Nat} (hs:h.sum=bQ 0 p) (H:∀ t,dT (p++t)=aA4 (p++t) h.flags p.length h.name):Inv p { h with part:=eG h.flags h.extra (f+2) 7,count:=0 }:=by
 rw [gN]
 by_cases hw:h.flags &&& 2=0
 ·rw [if_neg (by simp [gD, hw]), gN, if_pos (by rfl)]
  refine ⟨hs, ?_⟩
  show dT p=(h.name,true,0)
  have:=H []
  rw [List.append_nil] at this
  rw [this]; simp [aA4,hw]
 ·rw [if_pos (by simpa [gD] using hw)]
  exact ⟨hs,hw,by show 0<2; decide,p.length,rfl,(fun h=>by cases h),H⟩
theorem aQI {f:Nat} (hs:h.sum=bQ 0 p) (H:∀ t,dT (p++t)=aE2 (p++t) h.flags p.length h.name):Inv p { h with part:=eG h.flags h.extra (f+3) 6,count:=0 }:=by
 rw [gN]
 by_cases hw:h.flags &&& 16=0
 ·rw [if_neg (by simp [gD, hw])]
  exact aPS hs fun t=>by rw [H t]; unfold aE2; rw [if_neg (by simpa using hw)]
 ·rw [if_pos (by simpa [gD] using hw)]
  exact ⟨hs,hw,p.length,Nat.le_refl _,by rw [List.drop_length] <;> rfl,H⟩
theorem aHO {f:Nat} (hn:h.name=[]) (hs:h.sum=bQ 0 p) (H:∀ t,dT (p++t)=qF (p++t) h.flags p.length):Inv p { h with part:=eG h.flags h.extra (f+4) 5,count:=0 }:=by
 rw [gN]
 by_cases hw:h.flags &&& 8=0
 ·rw [if_neg (by simp [gD, hw])]
  exact aQI hs fun t=>by rw [H t]; unfold qF; rw [if_neg (by simpa using hw),hn]
 ·rw [if_pos (by simpa [gD] using hw)]
  exact ⟨hs,hw,Nat.zero_le _,p.length,rfl,by rw [List.drop_length]; exact hn.symm,by show gS h.name=none; rw [hn] <;> rfl,H⟩
end
end Go.Proofs.YtfoekpcljhbijaaGreatDoor
