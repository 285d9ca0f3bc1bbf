/- Lemmas (several texts in one). -/
import Derived.Test.YtfoekpcljhbijaaGreatDoorRows
import Derived.OpenShut
import Derived.Test.YtfoekpcljhbijaaGreatDoorMg7
set_option linter.unusedVariables false
set_option linter.unusedSimpArgs false
set_option linter.unusedSectionVars false
set_option maxRecDepth 20000
namespace Go.Proofs.YtfoekpcljhbijaaGreatDoor
open Go.GAM Go.RowKit
open Go.Infl (bG cG bS Out Lim)
section
variable {h h' h0:aA} {Q:AV→aA→Prop} {g:Nat} {O:Nat→Prop} {gs:GS} {ra:Int} {N:Nat} {r:RR} {ms:List (List UInt8 × List UInt8)}
theorem aLI (s:List UInt8) (i:Nat) (X:Nat × Out):dR s i X=s.drop (s.length - (dR s i X).length):=by
 unfold dR
 split
 ·rw [List.length_drop]
  by_cases hk:(X.1+7) / 8 - i≤s.length
  ·congr 1; omega
  ·rw [List.drop_of_length_le (by omega),List.drop_of_length_le (by omega)]
 ·rw [List.drop_of_length_le (by simp)]
theorem aSQ {c : UInt8} {t : List UInt8} (V : kK h g O gs ra N r ms) (hN : N + (c :: t).length < 1073741824)
  (hqe:∀ h' r' b e (n:Nat),cC gs (c :: t)=(.dead,b,e)→e≠0→b.length≤gs.out→n≤(c :: t).length→Upd O h h'→aZ h' g (RR.cells r')→Q (.tu [.s b,iN n,.i .i64 e]) h')
  (hqo:∀ h' O' gs' r' ms' b (n:Nat),cC gs (c :: t)=dG (.live gs',b,0) ((c :: t).drop n)→0<n→n≤(c :: t).length→b.length+gs'.out≤gs.out→Upd O h h'→(∀ i,O' i→O i∨h.length≤i)→kK h' g O' gs' ra (N+n) r' ms'→Q (.tu [.s b,iN n,iN 0]) h'):C Y47.id [rzp g,.s (c :: t)] h Q:=by
 have hsl:(c :: t).length=t.length+1:=rfl
 have gl:=V.recd.lt
 refine Y47.call ?_
 simp only [Y47.t,bE,bD, ← Y47.p0.eq_1]
 have oneP:gs.data=none→Y47.p0 (aH h Q) (rzp g) (c :: t) false h:=fun hnd=>by
  have step:cC gs (c :: t)=dG (dO gs c) t:=j6 gs c t
  refine Y47.i0 ?_
  simp only [Y47.t0]
  refine aG rfl (aFN (l:=c :: t) (hi:=1) (by simp) ?_)
  refine aTU (c:=c) V (by omega) hnd (fun h1 r1 e he e0 U R=>aC (.inl ?_)) fun h1 O1 gs1 r1 ms1 he U hO V1=>aC (.inl ?_)
  ·exact hqe h1 r1 [] e 1 (by rw [step,he] <;> rfl) e0 (Nat.zero_le _) (by simp) U R
  ·have hout : gs1.out ≤ gs.out := by
    have h1:=V1.out; have h2:=V.out
    revert he
    unfold dO hdP
    intro he
    repeat' split at he
    all_goals first | (simp only [Prod.mk.injEq,reduceCtorEq,false_and] at he; done) | (simp only [Prod.mk.injEq,GO.live.injEq] at he; rw [← he.1]; exact Nat.le_refl _) | skip
    ·rename_i hd; rw [hnd] at hd; cases hd
    ·rw [aFB he]; exact Nat.le_refl _
   exact hqo h1 O1 gs1 r1 ms1 [] 1 (by rw [step,he] <;> rfl) Nat.one_pos (by simp) (by show 0+gs1.out≤gs.out; omega) U hO V1
 cases hd:gs.data with
 | none =>
  by_cases hwp:gs.within=true∧gs.hd.part=8
  ·obtain ⟨d1, d2, d3, d4, d, d5, d6, d7⟩ := V.dat hwp.1 hwp.2
   rw [hd] at d7
   obtain ⟨o,S,told,after,R⟩:=d7
   refine aE V.recd rfl rfl ?_
   rw [d5]
   refine aEE (by kernel_rfl) (aR (aN rfl (aE V.recd rfl rfl ?_)))
   rw [d5]
   exact aFF R (aR (oneP hd))
  ·have hnil : r.data = .p none := by
    cases hw:gs.within with
    | false=>exact (V.idle hw).2.1
    | true=>exact (V.hdr hw (by have:=V.ok.hd.part; have:¬ gs.hd.part=8:=fun h=>hwp ⟨hw,h⟩; omega)).2.2.1
   refine aE V.recd rfl rfl ?_
   rw [hnil]
   exact aC6 (by kernel_rfl) (aR (aG rfl (oneP hd)))
 | some i =>
  obtain ⟨k1,k2,k3,k4,k5⟩:=V.ok.data i hd
  obtain ⟨d1,d2,d3,d4,d,d5,d6,d7⟩:=V.dat k1 k2
  rw [hd] at d7
  obtain ⟨o,S,R,hst,hS,hL⟩:=d7
  have hchunk:=sY (c :: t) gs i k1 k2 hd (by simp)
  have hrl:=aKE (L:=i.L) (c:=c) (t:=t) (i:=i.inp) (k:=i.k) (w:=i.w) (c':=i.c)
  have hrd:=aLI (c :: t) i.inp (Infl.run i.L (Infl.bitsOf (c :: t)) (8 * i.inp) (.wait i.k i.w i.c))
  have hinf:=tA gs i (Infl.run i.L (Infl.bitsOf (c :: t)) (8 * i.inp) (.wait i.k i.w i.c)).2 (c :: t).length
  have hbound:=aKI (L:=i.L) (k:=i.k) (w:=i.w) (c:=i.c) (by omega) (Infl.bitsOf (c :: t)) (8 * i.inp)
  obtain ⟨tx,htx⟩:=Infl.ext_run i.L (Infl.bitsOf (c :: t)) (8 * i.inp) (.wait i.k i.w i.c)
  have heo:=aJJ i.L (Infl.bitsOf (c :: t)) (8 * i.inp) (.wait i.k i.w i.c) True.intro
  have hle:=qG (L:=i.L) (Infl.bitsOf (c :: t)) (8 * i.inp) (.wait i.k i.w i.c)
  have hpos:=fun {k':bG} {w':cG} {c':bS} hh=>Infl.run_pos (L:=i.L) (Infl.bitsOf (c :: t)) (8 * i.inp) (.wait i.k i.w i.c) (k:=k') (w:=w') (c:=c') hh
  rw [Infl.bits_len] at hle hpos
  have hrun:Infl.run (dZ (o:Int) ra) (Infl.bitsOf (S++c :: t)) 0 Infl.start=Infl.run i.L (Infl.bitsOf (c :: t)) (8 * i.inp) (.wait i.k i.w i.c):=by
   rw [← hL, ← hS]; exact aOY (by rw [hst])
  refine aE V.recd rfl rfl ?_
  rw [d5]
  refine aEE (by kernel_rfl) (aR (aN rfl (aE V.recd rfl rfl ?_)))
  rw [d5]
  refine aFF R (aR ?_)
  refine Y47.i0 ?_
  simp only [Y47.t0,bE,bD]
  refine aN rfl (aE V.recd rfl rfl ?_)
  rw [d5]
  refine aNQ R (by rw [List.length_append]; omega) ?_ ?_ ?_ fun h1 U1 R1=>?_
  ·rw [hrun,htx,List.length_append]; exact Nat.le_add_right _ _
  ·rw [hrun]; exact heo
  ·intro k _; rw [hrun,List.length_append,hS]; omega
  rw [hrun] at R1 ⊢
  generalize hX:Infl.run i.L (Infl.bitsOf (c :: t)) (8 * i.inp) (.wait i.k i.w i.c)=X at R1 hchunk hrl hrd hinf hbound htx heo hle hpos ⊢
  obtain ⟨p,x⟩:=X
  simp only at R1 hinf hbound htx heo hle hpos hchunk ⊢
  have htx:x.core.out=i.k.out++tx:=htx
  have hb:x.core.out.drop i.k.out.length=tx:=by rw [htx,List.drop_left]
  have hgrow:aAB i.k x=tx:=hb
  rw [hgrow] at hinf
  rw [hb]
  have hlen:tx.length≤gs.out:=by rw [htx,List.length_append] at hbound; omega
  have R1:aZ h1 d (RF (o:Int) ra (S++c :: t) x.core.out.length (aS6 x) (aVC x) (dR (c :: t) i.inp (p,x))):=by
   cases x with
   | wait k w c'=>exact R1
   | err e k=>exact R1
   | done k =>
    have:(S++c :: t).drop ((p+7) / 8)=dR (c :: t) i.inp (p,.done k):=by
     rw [aP1 (by rw [hS]; exact hle.1),hS] <;> rfl
    rw [← this]; exact R1
  generalize hrest:dR (c :: t) i.inp (p,x)=rest at R1 hchunk hrl hrd
  have hdg:=d6.2.1
  have Rg1:=V.recd.upd U1 fun e=>hdg e.symm
  have hsz:=V.ok.size
  have hgo:=V.ok.out
  have eout:=V.out
  simp only [cX,cW]
  refine bM (aC (aE Rg1 rfl rfl (aC ?_)))
  refine aT (n:=((gs.out - tx.length:Nat):Int)) (by rw [eout,aY (by omega) (by omega)]; omega) ?_
  refine aJ Rg1 rfl (by show 5<13; decide) (hk:=fun h2 l2 U2 R2=>?_)
  refine aE R2 rfl rfl (cY (aQH (by omega) (cY ?_)))
  refine aJ R2 rfl (by show 9<13; decide) (hk:=fun h3 l3 U3 R3=>?_)
  refine aE R3 rfl rfl (aC ?_)
  refine aT (n:=((gs.size+tx.length:Nat):Int)) (by show IntKind.wrap .i64 ((r.size:Int)+(tx.length:Int))=_; rw [d4,aY (by omega) (by omega)]; omega) ?_
  refine aJ R3 rfl (by show 10<13; decide) (hk:=fun h4 l4 U4 R4=>?_)
  have U24:Upd (· = g) h1 h4:=(U2.trans U3 fun _ _ h=>h).trans U4 fun _ _ h=>h
  have hmne:ms≠[]:=by
   intro hh
   have:=V.names
   rw [hh] at this
   rw [this] at k4
   exact absurd k4 (by decide)
  obtain ⟨ms0,m,rfl⟩:∃ ms0 m,ms=ms0++[m]:=⟨ms.dropLast,ms.getLast hmne,(List.dropLast_concat_getLast hmne).symm⟩
  have hml:(ms0++[m]).length=ms0.length+1:=by simp
  have hm16:ms0.length<16:=by
   have h1:=V.ok.len
   rw [V.names,List.length_map,hml] at h1; omega
  have mem4:Arr 2 h4 r.members (vL (ms0++[m])) (ms0++[m]).length:=(V.mem.upd U1 fun j hj e=>d6.2.2.1 (e ▸ hj)).upd U24 fun j hj e=>(V.memO j hj).2 e
  have hcl:∀ l:List (List UInt8 × List UInt8),(vL l).length=l.length * 2:=by
   intro l
   induction l with
   | nil=>rfl
   | cons a l ih=>simp [vL] at ih ⊢; omega
  have hw1:IntKind.wrap .i64 (((ms0++[m]).length:Int) - 1)=((ms0.length:Nat):Int):=by rw [hml,aY (by omega) (by omega)]; omega
  refine aE R4 rfl rfl (aE R4 rfl rfl (mem4.rd.len (aT hw1 ?_)))
  refine aE R4 rfl rfl (aE R4 rfl rfl (mem4.rd.len (aT hw1 ?_)))
  have hat:(vL (ms0++[m]))[ms0.length * 2+1]? = some (.s m.2):=by
   rw [qW,List.getElem?_append_right (by rw [hcl]; omega),hcl]
   have:ms0.length * 2+1 - ms0.length * 2=1:=by omega
   rw [this] <;> rfl
  have hmt:m.2.length≤65536:=by
   have:=V.ok.sizes m.2.length (by rw [V.sizes,List.map_append]; simp)
   omega
  refine mem4.rd.fld (by rw [hml]; omega) (by decide) hat (bM ⟨by omega, ?_⟩)
  refine aMA mem4 (x:=.s (m.2++tx)) (by rw [hml]; omega) (by decide) rfl rfl rfl fun h5 l5 U5 A5=>?_
  have hset:(vL (ms0++[m])).set (ms0.length * 2+1) (.s (m.2++tx))=vL (ms0++[(m.1,m.2++tx)]):=by
   rw [qW,qW,List.set_append_right _ _ (by rw [hcl]; omega),hcl]
   have:ms0.length * 2+1 - ms0.length * 2=1:=by omega
   rw [this] <;> rfl
  rw [hset] at A5
  have hgm:¬ aQ r.members g:=fun hh=>(V.memO g hh).2 rfl
  have R5:=R4.upd U5 hgm
  have Rd5:=(R1.upd U24 fun e=>hdg e).upd U5 d6.2.2.1
  refine aE R5 rfl rfl ?_
  rw [d5]
  refine aNV Rd5 (bM ?_)
  have hrest2:rest.length≤(c :: t).length:=by omega
  refine aT (n:=(((c :: t).length - rest.length:Nat):Int)) (by rw [aY (by omega) (by omega)]; omega) ?_
  have UO5:Upd O h h5:=((U1.mono fun j _ e=>by have e:j=d:=e; rw [e]; exact d6.1).trans (U24.mono fun j _ e=>e ▸ V.gO) fun _ _ h=>h).trans (U5.mono fun j _ hj=>(V.memO j hj).1) fun _ _ h=>h
  have l1:=U1.1
  have R5':aZ h5 g (RR.cells { r with out:=gs.out - tx.length,crc:=bQ r.crc tx,size:=gs.size+tx.length }):=R5
  have live:∀ (dat:Option Inf),aMH h5 ra d dat→(∀ j,dat=some j→j.L.output=(gs.out - tx.length)+j.k.out.length∧j.inp≤N+((c :: t).length - rest.length))→kK h5 g O { fQ gs tx with data:=dat } ra (N+((c :: t).length - rest.length)) { r with out:=gs.out - tx.length,crc:=bQ r.crc tx,size:=gs.size+tx.length } (ms0++[(m.1,m.2++tx)]):=by
   intro dat D hD
   refine { recd:=R5',mem:=(by rw [List.length_append] at A5 ⊢; exact A5),spn:=?_,gO:=V.gO,memO:=V.memO,spnO:=V.spnO,lt:=fun j hj=>by have:=V.lt j hj; omega,bad:=V.bad,ratio:=V.ratio,out:=rfl,names:=(by show gs.names=_; rw [V.names,List.map_append,List.map_append] <;> rfl),sizes:=?_,begun:=V.begun,idle:=(fun hh=>by have hh:gs.within=false:=hh; rw [k1] at hh; cases hh),hdr:=(fun _ hh=>by have hh:gs.hd.part<8:=hh; omega),dat:=fun _ _=>⟨d1,d2,(by show bQ r.crc tx=bQ gs.crc tx; rw [d3]),rfl,d,d5,d6,D⟩,nam:=V.nam,ok:=V.ok.dat hd hlen hD }
   ·obtain ⟨l, n, A, hn⟩ := V.spn
    exact ⟨l,n,((A.upd U1 fun j hj e=>d6.2.2.2 (e ▸ hj)).upd U24 fun j hj e=>(V.spnO j hj).2.1 e).upd U5 fun j hj hh=>(V.spnO j hj).2.2 hh,Nat.le_trans hn (Nat.le_add_right _ _)⟩
   ·show fF gs.sizes tx.length = _
    rw [V.sizes,List.map_append,List.map_append]
    show fF (_++[m.2.length]) tx.length=_++[(m.2++tx).length]
    rw [aDJ,List.length_append]
  rw [hinf] at hchunk
  cases x with
  | err e k =>
   have he:e=1∨e=2:=heo
   exact .inl (hqe h5 _ tx (eno e) _ hchunk (aJF he) hlen (by omega) UO5 R5')
  | wait k w c' =>
   have hr0:rest=[]:=hrest.symm
   subst hr0
   have hpw:=hpos rfl
   refine .inl (hqo h5 O _ _ _ tx _ (by rw [← hrd]; exact hchunk) (by simp) (by omega) (by show tx.length+(gs.out - tx.length)≤_; omega) UO5 (fun j hj=>.inl hj) (live (some ⟨i.L,i.inp+(c :: t).length,k,w,c'⟩) ⟨o,S++c :: t,Rd5, ?_,by rw [List.length_append,hS],hL⟩ fun j hj=>?_))
   ·show aEC i.L (S ++ c :: t) = _
    have:aEC i.L (S++c :: t)=(p,.wait k w c'):=by rw [hL]; exact hrun.trans hX
    rw [this,List.length_append,hS]
    congr 1
    omega
   ·cases hj
    have htx:k.out=i.k.out++tx:=htx
    refine ⟨?_,by show i.inp+(c :: t).length≤N+((c :: t).length - 0); omega⟩
    show i.L.output=gs.out - tx.length+k.out.length
    rw [htx,List.length_append]; omega
  | done k =>
   exact .inl (hqo h5 O _ _ _ tx _ (by rw [← hrd]; exact hchunk) (by omega) (by omega) (by show tx.length+(gs.out - tx.length)≤_; omega) UO5 (fun j hj=>.inl hj) (live none ⟨(o:Int),S++c :: t,_,_,Rd5⟩ fun j hj=>by cases hj))
end
end Go.Proofs.YtfoekpcljhbijaaGreatDoor
namespace Go.Proofs.YtfoekpcljhbijaaGreatDoor
open Go.GAM Go.RowKit
open Go.Infl (bG cG bS Out Lim)
section
variable {h h' hb:aA} {Q:AV→aA→Prop} {g:Nat} {O O0:Nat→Prop} {gs gs0:GS} {ra:Int} {N N1:Nat} {r:RR} {ms:List (List UInt8 × List UInt8)} {s s0:List UInt8}
theorem kK.mono {M:Nat} (V:kK h g O gs ra N r ms) (hM:N≤M):kK h g O gs ra M r ms:=
 { V with spn:=(by obtain ⟨l,n,A,hn⟩:=V.spn; exact ⟨l,n,A,Nat.le_trans hn hM⟩),hdr:=(fun a b=>by obtain ⟨c1,c2,c3,c4,c5,c6,c7⟩:=V.hdr a b; exact ⟨c1,c2,c3,c4,c5,c6,Nat.le_trans c7 hM⟩),ok:=V.ok.mono hM }
def aPX (h:aA) (g:Nat) (O:Nat→Prop):Prop:=(∃ r:RR,aZ h g r.cells∧r.bad=true)∧O g∧∀ i,O i→i<h.length
theorem aQV (hqd : ∀ h' O' b e, Upd O0 hb h' → (∀ i, O' i → O0 i ∨ hb.length ≤ i) → aPX h' g O' → cC gs0 s0 = (.dead, b, e) → e ≠ 0 → Q (.tu [.s b, .i .i64 e]) h')
    (hql:∀ h' O' gs' r' ms' b,Upd O0 hb h'→(∀ i,O' i→O0 i∨hb.length≤i)→kK h' g O' gs' ra N1 r' ms'→cC gs0 s0=(.live gs',b,0)→Q (.tu [.s b,iN 0]) h') (hN1:N1<1073741824) (hout:gs0.out≤65536) :
    ∀ (n:Nat) (s:List UInt8) (h:aA) (O:Nat→Prop) (gs:GS) (N:Nat) (r:RR) (ms:List (List UInt8 × List UInt8)) (acc:List UInt8),s.length<n→Upd O0 hb h→(∀ i,O i→O0 i∨hb.length≤i)→kK h g O gs ra N r ms→N+2 * s.length≤N1→cC gs0 s0=dG (.live gs,acc,0) s→acc.length+gs.out≤gs0.out→Y21.p0 (aH hb Q) (rzp g) s acc h:=by
  intro n
  induction n with
  | zero=>intro s h O gs N r ms acc hs; omega
  | succ n ih =>
    intro s h O gs N r ms acc hs UB hB V hN hG ho
    cases s with
    | nil =>
      refine Y21.i0 ?_
      simp only [Y21.t0]
      refine aG (by decide) (.inl (hql h O gs r ms acc UB hB (V.mono (by simpa using hN)) ?_))
      rw [hG]; simp [dG,cC]
    | cons c t =>
      have hcl:(c :: t).length=t.length+1:=rfl
      refine Y21.i0 ?_
      simp only [Y21.t0,bE,bD, ← Y21.p1.eq_1]
      refine aN (decide_eq_true (by omega)) ?_
      have ub:∀ {h1:aA},Upd O h h1→Upd O0 hb h1:=fun U=>UB.trans U fun i hl hi=>(hB i hi).resolve_right (by omega)
      refine aSQ V (by omega) (fun h1 r1 b e k he e0 hbl hk U R=>?_) fun h1 O1 gs1 r1 ms1 b k he k0 hk hbl U hO V1=>?_
      · simp only [cX, cW, sE]
        refine bM (aC (aC ⟨by omega,aN (by simp [e0]) ?_⟩))
        refine aJ R rfl (by show 11<13; decide) (hk:=fun h2 l2 U2 R2=>?_)
        have U1:=U.1
        refine .inl (hqd h2 O (acc++b) e (ub (U.trans U2 fun i _ e=>e ▸ V.gO)) hB ⟨⟨{ r1 with bad:=true },R2,rfl⟩,V.gO,fun i hi=>by have:=V.lt i hi; omega⟩ ?_ e0)
        rw [hG]
        show ((cC gs (c :: t)).1,acc++(cC gs (c :: t)).2.1,(cC gs (c :: t)).2.2)=_
        rw [he]
      · simp only [cX, cW, sE]
        refine bM (aC (aC ⟨by omega,aG rfl (jF hk ?_)⟩))
        refine aE V1.recd rfl rfl (aC (aT rfl ?_))
        refine aE V1.recd rfl rfl (aC (aT rfl ?_))
        have sp:∀ (a b:Int) (K:aA→Prop),(∀ h2,h2.length=h1.length→Upd (· = g) h1 h2→aZ h2 g (RR.cells { r1 with si:=a,so:=b })→K h2)→aP 2 (.p (some ⟨g,13,2⟩)) (.ag [.i .i64 a,.i .i64 b]) h1 K:=by
          intro a b K hK
          have hl:=V1.recd.lt
          obtain ⟨bl,g1,g2,g3,g4⟩:=V1.recd
          have hlen:bl.cells.length=13:=by rw [g2] <;> rfl
          refine ⟨bl,g1,g4,by rw [g2] at hlen; show bl.floor≤13; exact g3,by rw [hlen],by show 2+2≤13; omega,rfl,rfl,rfl, ?_⟩
          have e:wr bl.cells 2 [.i .i64 a,.i .i64 b]=RR.cells { r1 with si:=a,so:=b }:=by rw [g2] <;> rfl
          show K (h1.set g { bl with cells:=wr bl.cells 2 [.i .i64 a,.i .i64 b],floor:=bl.cells.length })
          rw [e]
          refine hK _ (by simp) (Upd.set _ _ _) ⟨_,List.getElem?_set_self hl,rfl, ?_,g4⟩
          show bl.cells.length≤(RR.cells { r1 with si:=a,so:=b }).length
          rw [hlen]; exact Nat.le_refl _
        refine sp _ _ _ fun h2 l2 U2 R2=>?_
        generalize IntKind.wrap .i64 (r1.si+(k:Int))=si at R2
        generalize IntKind.wrap .i64 (r1.so+(b.length:Int))=so at R2
        have V2:kK h2 g O1 gs1 ra (N+k) { r1 with si:=si,so:=so } ms1:=
          { V1 with recd:=R2,mem:=V1.mem.upd U2 fun i hi e=>(V1.memO i hi).2 e,spn:=(by obtain ⟨l,m,A,hm⟩:=V1.spn; exact ⟨l,m,A.upd U2 fun i hi e=>(V1.spnO i hi).2.1 e,hm⟩),lt:=fun i hi=>(by have:=V1.lt i hi; omega),dat:=(fun a b=>by obtain ⟨c1,c2,c3,c4,d,c5,c6,c7⟩:=V1.dat a b; exact ⟨c1,c2,c3,c4,d,c5,c6,c7.upd U2 fun e=>c6.2.1 e⟩) }
        have hdl:((c :: t).drop k).length=(c :: t).length - k:=List.length_drop
        have U02:Upd O h h2:=U.trans U2 fun i hl e=>by
          rcases hO g V1.gO with h | h
          · exact (e ▸ h:O i)
          · have:=V.recd.lt; have e:i=g:=e; omega
        have hO2:∀ i,O1 i→O0 i∨hb.length≤i:=fun i hi=>(hO i hi).elim (hB i) fun h=>.inr (Nat.le_trans UB.1 h)
        have hG2:cC gs0 s0=dG (.live gs1,acc++b,0) ((c :: t).drop k):=by rw [hG,iF he] <;> rfl
        have hout2:(acc++b).length+gs1.out≤gs0.out:=by rw [List.length_append]; omega
        have no:Y21.p1 (aH hb Q) (rzp g) ((c :: t).drop k) (acc++b) false h2:=by
          refine Y21.i1 ?_
          simp only [Y21.t1, ← Y21.p0.eq_1]
          exact aG rfl (ih _ h2 O1 gs1 (N+k) _ ms1 (acc++b) (by omega) (ub U02) hO2 V2 (by omega) hG2 hout2)
        refine aE R2 rfl rfl ?_
        have hdat:r1.data = .p none∨∃ d,r1.data=qp d:=by
          cases hw:gs1.within with
          | false=>exact .inl (V1.idle hw).2.1
          | true =>
            by_cases hp:gs1.hd.part=8
            · obtain ⟨_, _, _, _, d, e, _⟩ := V1.dat hw hp
              exact .inr ⟨d,e⟩
            · exact .inl (V1.hdr hw (by have:=V1.ok.hd.part; omega)).2.2.1
        rcases hdat with hdn | ⟨d,hdn⟩
        · rw [show ({ r1 with si := si, so := so } : RR).data = .p none from hdn]
          refine kN (by kernel_rfl) (aR (aN rfl (aE R2 rfl rfl (bM ?_))))
          cases hdec:decide (({ r1 with si:=si,so:=so }:RR).head=[]) with
          | false=>exact no
          | true =>
            refine Y21.i1 ?_
            simp only [Y21.t1,bE,bD, ← Y21.p0.eq_1]
            refine aN rfl (aE R2 rfl rfl ?_)
            rw [aKR (n:=13) R2 rfl (by show 0+2+2≤13; omega)]
            refine dH (cs:=[.i .i64 si,.i .i64 so]) rfl rfl (hk:=fun y h3 l3 U3 R3 hy=>?_)
            have Rg3:=R2.upd U3 fun h=>h
            refine aE Rg3 rfl rfl ⟨rfl, ?_⟩
            obtain ⟨l,m,A,hm⟩:=V2.spn
            refine (A.upd U3 fun _ _ h=>h).append (ns:=[.i .i64 si,.i .i64 so]) (k:=1) (by decide) (fun K hK=>R3.news hK) rfl rfl (by omega) (by omega) fun v4 h4 U4 A4 F4=>?_
            have hgs:¬ aQ r1.spans g:=fun hh=>(V1.spnO g hh).2.1 rfl
            have Rg4:=Rg3.upd U4 hgs
            obtain ⟨s1,s2,s3⟩:=aGF A4
            refine aJ Rg4 rfl (by show 1<13; decide) s1 s2 s3 (hk:=fun h5 l5 U5 R5=>?_)
            have hl:=V2.lt
            have u3:=U3.1
            have u4:=U4.1
            have v4n:∀ i,aQ v4 i→aQ r1.spans i∨h2.length≤i:=fun i hi=>(F4 i hi).imp (fun h=>h) fun h=>by omega
            have v4g:¬ aQ v4 g:=fun hh=>by
              rcases v4n g hh with h | h
              · exact hgs h
              · have:=V2.recd.lt; omega
            have b4:∀ i,aQ v4 i→i<h4.length:=fun i hi=>A4.rd.lt hi
            have gl2:=V2.recd.lt
            have Um:Upd (fun i=>aQ r1.spans i∨i=g) h2 h5:=((U3.mono fun _ _ h=>h.elim).trans (U4.mono fun _ _ h=>.inl h) fun _ _ h=>h).trans (U5.mono fun _ _ h=>.inr h) fun _ _ h=>h
            have UO5:Upd O1 h2 h5:=Um.mono fun i _ hi=>by
              rcases hi with h | h
              · exact (V1.spnO i h).1
              · exact h ▸ V1.gO
            refine ih _ h5 (fun i=>(O1 i∨h2.length≤i)∧i<h5.length) gs1 (N+k+1) { r1 with si:=si,so:=so,spans:=v4 } ms1 (acc++b) (by omega) ((ub U02).trans UO5 fun i hl hi=>(hO2 i hi).resolve_right (by omega)) (fun i hi=>?_) ?_ (by omega) hG2 hout2
            · rcases hi.1 with h | h
              · exact hO2 i h
              · have:=(ub U02).1; exact .inr (by omega)
            · have V3 := V2.mono (Nat.le_succ (N + k))
              exact { V3 with recd:=R5,mem:=V2.mem.upd Um fun i hi hh=>(by
                  rcases hh with h | h
                  · exact (V1.spnO i h).2.2 hi
                  · exact (V1.memO i hi).2 h),spn:=⟨_,_,A4.upd U5 fun i hi e=>v4g (e ▸ hi),Nat.succ_le_succ hm⟩,gO:=⟨.inl V1.gO,by omega⟩,memO:=fun i hi=>⟨⟨.inl (V1.memO i hi).1,by have:=hl i (V1.memO i hi).1; omega⟩,(V1.memO i hi).2⟩,spnO:=fun i hi=>⟨⟨(v4n i hi).imp (fun h=>(V1.spnO i h).1) fun h=>h,by have:=b4 i hi; omega⟩,fun e=>v4g (e ▸ hi),fun hh=>(by
                  rcases v4n i hi with h | h
                  · exact (V1.spnO i h).2.2 hh
                  · have:=hl i (V1.memO i hh).1; omega)⟩,lt:=fun i hi=>hi.2,dat:=fun a b=>(by
                  obtain ⟨_,_,_,_,d,e,_⟩:=V1.dat a b
                  rw [hdn] at e; cases e) }
        · rw [show ({ r1 with si := si, so := so } : RR).data = qp d from hdn]
          exact cF (by kernel_rfl) (aR (aG rfl no))
theorem aFL (V:kK h g O gs ra N r ms) (hN:N+2 * s.length<1073741824)
  (hqd:∀ h' O' b e,Upd O h h'→(∀ i,O' i→O i∨h.length≤i)→aPX h' g O'→cC gs s=(.dead,b,e)→e≠0→Q (.tu [.s b,.i .i64 e]) h')
  (hql:∀ h' O' gs' r' ms' b,Upd O h h'→(∀ i,O' i→O i∨h.length≤i)→kK h' g O' gs' ra (N+2 * s.length) r' ms'→cC gs s=(.live gs',b,0)→Q (.tu [.s b,iN 0]) h'):C Y21.id [rzp g,.s s] h Q:=by
 refine Y21.call ?_
 simp only [Y21.t,bE,bD, ← Y21.p0.eq_1]
 refine cF (by kernel_rfl) (aR (aG rfl ?_))
 refine aE V.recd rfl rfl (aR (aG V.bad ?_))
 refine aQV hqd hql hN (by have:=V.ok.out; omega) (s.length+1) s h O gs N r ms [] (Nat.lt_succ_self _) (Upd.refl _ _) (fun i hi=>.inl hi) V (Nat.le_refl _) ?_ (by show 0+gs.out≤gs.out; omega)
 show cC gs s=((cC gs s).1,[]++(cC gs s).2.1,(cC gs s).2.2)
 simp
theorem aMF (V:aPX h g O) (hq:Q (.tu [.s [],.i .i64 10]) h):C Y21.id [rzp g,.s s] h Q:=by
 obtain ⟨⟨r,R,hb⟩,_⟩:=V
 refine Y21.call ?_
 simp only [Y21.t,bE,bD, ← Y21.p0.eq_1]
 refine cF (by kernel_rfl) (aR (aG rfl ?_))
 exact aE R rfl rfl (aR (aN hb (.inl hq)))
theorem zP (V:aPX h g O) (hq:Q (.i .i64 10) h):C Y39.id [rzp g] h Q:=by
 obtain ⟨⟨r,R,hb⟩,_⟩:=V
 refine Y39.call ?_
 simp only [Y39.t,bE,bD, ← Y39.p0.eq_1]
 refine cF (by kernel_rfl) (aR (aG rfl ?_))
 exact aE R rfl rfl (aR (aN hb (.inl hq)))
theorem aQK (V:GzD h g O) (hq:Q (.tu [.s [],.i .i64 10]) h):C Y8.id [zp g,.s s] h Q:=by
 obtain ⟨⟨r,R,hd⟩,_⟩:=V
 refine Y8.call ?_
 simp only [Y8.t,bE,bD, ← Y8.p0.eq_1]
 refine cF (by kernel_rfl) (aR (aG rfl ?_))
 exact aE R rfl rfl (aR (aN hd (.inl hq)))
end
end Go.Proofs.YtfoekpcljhbijaaGreatDoor
namespace Go.Proofs.YtfoekpcljhbijaaGreatDoor
open Go.GAM Go.RowKit Go.ChangeShapes
section
variable {H:Type} {enc:TypeId × Value→H} {w:World}
theorem aQ9 {g:Nat} {cs:Array Value} {n:String} (hg:prog.globalNamed n=some g) (hv:w.var? prog n=some cs):aDU (jB w fun _=>1) g (cs.toList.map (kL w fun _=>1)):=by
 obtain ⟨t,fr,h⟩:=aLR hg hv
 have hlt:g<w.heap.size:=(Array.getElem?_eq_some_iff.1 h).1
 refine ⟨lQ w (fun _=>1) g, ?_, ?_, ?_, ?_⟩
 ·unfold jB
  rw [List.getElem?_append_left (by simpa using hlt),List.getElem?_map,List.getElem?_range hlt] <;> rfl
 ·simp only [lQ,h]
 ·simp only [lQ,h]; simp
 ·simp only [lQ,h]
theorem aUC {l : List (String × DataW Unit)} (h1 : ("intrusion/inflate.order", Rows.laid_intrusion_inflate_order) ∈ l) (hL : laidMet prog l w) : dI (jB w fun _ => 1) := by
 obtain ⟨g,t,cs,fuel,p,hg,ht,hv,hd⟩:=aH1 h1 hL
 obtain rfl:=Option.some.inj ((show prog.globalNamed "intrusion/inflate.order" = some 0 by kernel_rfl).symm.trans hg)
 obtain rfl:=Option.some.inj ((show (prog.globals[0]?).map (·.type)=some 116 by kernel_rfl).symm.trans ht)
 have hG:=aQ9 hg hv
 obtain ⟨xs,m,rfl,hx,hlen,hl,hf⟩:=DataW.trod_array Tryz.underlying116 hd
 have c1:prog.cellsOf 3=1:=by kernel_rfl
 have c19:prog.cellsOf 116=19:=by kernel_rfl
 rw [c19] at hlen
 rw [c1] at hf
 have hxs:xs.map (·.1)=Infl.order.map fun n:Nat=>(.lit (.int .i64 (n:Int)):DataW Unit):=by
  have:=(congrArg Prod.fst hx).symm
  unfold Rows.laid_intrusion_inflate_order at this
  exact DataW.agg.inj this
 have e:cs.toList.map (kL w fun _=>1)=bI Infl.order:=by
  refine List.ext_getElem? fun i=>?_
  by_cases hi:i<19
  ·have h1 := hf i hi
   have h2:(xs.map (·.1))[i]? = (Infl.order.map fun n:Nat=>(.lit (.int .i64 (n:Int)):DataW Unit))[i]?:=by rw [hxs]
   obtain ⟨c,hc⟩:∃ c,cs.toList[i]? = some c:=⟨_,List.getElem?_eq_getElem (by omega)⟩
   have h3:(cs.toList.drop (i * 1)).take 1=[c]:=by
    rw [Nat.mul_one,List.drop_eq_getElem_cons (by omega)]
    simp only [List.take_succ_cons,List.take_zero]
    rw [List.getElem?_eq_getElem (by omega)] at hc
    rw [Option.some.inj hc]
   rw [h3] at h1
   obtain ⟨o,ho⟩:∃ o,Infl.order[i]? = some o:=⟨_,List.getElem?_eq_getElem (by show i<19; exact hi)⟩
   rw [List.getElem?_map,List.getElem?_map, ← h1,ho] at h2
   cases hy:DataW.trod (fun _=>()) prog w 0 (fun _=>true) false m 3 [c] with
   | none=>rw [hy] at h2; cases h2
   | some y =>
    rw [hy] at h2
    obtain ⟨n,e1,e2,_⟩:=DataW.trod_int (show prog.underlying 3=some (.int .i64) by kernel_rfl) hy
    have e1:=List.singleton_inj.1 e1
    subst e1 e2
    have e3:n=(o:Int):=by simpa using h2
    unfold bI
    rw [List.getElem?_map,List.getElem?_map,hc,ho]
    simp [kL,uL,e3]
  ·have h0 : Infl.order.length = 19 := rfl
   rw [List.getElem?_eq_none (by simp at hlen ⊢; omega),List.getElem?_eq_none (by unfold bI; rw [List.length_map,h0]; omega)]
 rw [e] at hG
 exact hG
theorem aLH {v a b:Value} (h:v.cells.toList=[a,b]):v = .agg #[a,b]:=by
 cases v <;> first | (simp [Value.cells] at h; done) | skip
 rename_i cs
 show Value.agg cs=_
 congr
 apply Array.ext'
 simpa [Value.cells] using h
theorem aR2 {v:Value} (k:InW enc prog w 23 v.cells.toList):∃ o ra:Int,aX (muC w fun _=>1) (.ag [.i .i64 o,.i .i64 ra]) v:=by
 obtain ⟨h1,h2⟩:=k.struct Tryz.underlying23
 have c2:prog.cellsOf 23=2:=by kernel_rfl
 have c1:prog.cellsOf 3=1:=by kernel_rfl
 rw [c2] at h1
 generalize hc:v.cells.toList=cs at h1 h2
 match cs,h1 with
 | [a, b], _ =>
  have k0:InW enc prog w 3 (([a,b].drop 0).take (prog.cellsOf 3)):=h2 0 _ rfl
  have k1:InW enc prog w 3 (([a,b].drop 1).take (prog.cellsOf 3)):=h2 1 _ rfl
  rw [c1] at k0 k1
  obtain ⟨o,f0,_⟩:=k0.int (show prog.underlying 3=some (.int .i64) by kernel_rfl)
  obtain ⟨ra,f1,_⟩:=k1.int (show prog.underlying 3=some (.int .i64) by kernel_rfl)
  have e0:a = .int .i64 o:=List.singleton_inj.1 (show [a]=[.int .i64 o] from f0)
  have e1:b = .int .i64 ra:=List.singleton_inj.1 (show [b]=[.int .i64 ra] from f1)
  subst e0
  subst e1
  rw [aLH hc]
  exact ⟨o,ra,.ag _ _ (.cons _ _ _ _ (.i _ _) (.cons _ _ _ _ (.i _ _) .nil))⟩
end
end Go.Proofs.YtfoekpcljhbijaaGreatDoor
namespace Go.Proofs.YtfoekpcljhbijaaGreatDoor
open Go.GAM Go.RowKit Go.ChangeShapes
open Go.Infl (bG cG bS Out Lim)
section
variable {h hb:aA} {Q:AV→aA→Prop} {o ra:Int} {texts:AV} {tl:List (List UInt8)} {g1 g2:Nat}
def aVM (ra:Int) (h:aA) (g1 g2:Nat) (O1 O2:Nat→Prop) (N:Nat):Prop:=(∃ gs r ms,Gz h g1 O1 gs N∧kK h g2 O2 gs ra N r ms)∨(GzD h g1 O1∧aPX h g2 O2)
theorem Gz.mono {g:Nat} {O:Nat→Prop} {gs:GS} {N M:Nat} (V:Gz h g O gs N) (hM:N≤M):Gz h g O gs M:=by
 obtain ⟨F,nm,data,names,sizes,V⟩:=V
 exact ⟨F,nm,data,names,sizes,{ V with ok:=V.ok.mono hM }⟩
theorem Gz.lt' {g:Nat} {O:Nat→Prop} {gs:GS} {N:Nat} (V:Gz h g O gs N):∀ i,O i→i<h.length:=by
 obtain ⟨F,nm,data,names,sizes,V⟩:=V
 exact V.lt
theorem aHK (RC : RdI 1 hb texts (tl.map .s) tl.length) (hol : 0 < hb.length) (h60 : tl.length ≤ 60) (hq : ∀ h', Q (.b true) h') : ∀ (n i : Nat) (h : aA) (O1 O2 : Nat → Prop), i + n = tl.length → Upd (fun _ => False) hb h → (∀ j, O1 j → ¬ O2 j) → (∀ j, O1 j → hb.length ≤ j) → (∀ j, O2 j → hb.length ≤ j) → aVM ra h g1 g2 O1 O2 (1200 * i) → Y26.p0 (aH hb Q) texts (zp g1) (rzp g2) (tl.length : Int) (i : Int) h := by
 intro n
 induction n with
 | zero =>
  intro i h O1 O2 hi U dis n1 n2 S
  refine Y26.i0 ?_
  simp only [Y26.t0]
  exact aG (decide_eq_false (by omega)) (aD8 (aR (.inl (hq h))))
 | succ n ih =>
  intro i h O1 O2 hi U dis n1 n2 S
  obtain ⟨x,hx⟩:∃ x,tl[i]? = some x:=⟨_,List.getElem?_eq_getElem (by omega)⟩
  have next:∀ (h2:aA) (O1' O2':Nat→Prop),Upd (fun _=>False) hb h2→(∀ j,O1' j→¬ O2' j)→(∀ j,O1' j→hb.length≤j)→(∀ j,O2' j→hb.length≤j)→aVM ra h2 g1 g2 O1' O2' (1200 * (i+1))→Y26.p1 (aH hb Q) texts (zp g1) (rzp g2) (tl.length:Int) (i:Int) false h2:=by
   intro h2 O1' O2' a1 a2 a3 a4 a5
   refine Y26.i1 ?_
   simp only [Y26.t1, ← Y26.p0.eq_1]
   exact aG rfl (aT (n:=((i+1:Nat):Int)) (by rw [aY (by omega) (by omega)]; omega) (ih (i+1) h2 O1' O2' (by omega) a1 a2 a3 a4 a5))
  refine Y26.i0 ?_
  simp only [Y26.t0, ← Y26.p1.eq_1]
  refine aN (decide_eq_true (by omega)) (RdI.str RC U hx ?_)
  refine aI (fun _=>aD8 (aR (.inl (hq h)))) fun e=>?_
  have hxl:x.length≤600:=by have:=of_decide_eq_false e; omega
  refine RdI.str RC U hx ?_
  have hU:=U.1
  rcases S with ⟨gs,r,ms,V,W⟩ | ⟨V,W⟩
  ·have facts : ∀ (h1 : aA) (O1' : Nat → Prop), Upd O1 h h1 → (∀ j, O1' j → O1 j ∨ h.length ≤ j) → Upd (fun _ => False) hb h1 ∧ kK h1 g2 O2 gs ra (1200 * i) r ms ∧ (∀ j, O1' j → ¬ O2 j) ∧ (∀ j, O1' j → hb.length ≤ j) := fun h1 O1' U1 hO => by
    refine ⟨U.trans U1 fun j hl hj=>by have:=n1 j hj; omega,W.upd U1 fun j h2 h1=>dis j h1 h2,fun j h1 h2=>?_,fun j hj=>?_⟩
    ·rcases hO j h1 with h | h
     ·exact dis j h h2
     ·have:=W.lt j h2; omega
    ·rcases hO j hj with h | h
     ·exact n1 j h
     ·omega
   have facts2:∀ (h1 h2:aA) (O1' O2':Nat→Prop),Upd (fun _=>False) hb h1→Upd O2 h1 h2→(∀ j,O2' j→O2 j∨h1.length≤j)→(∀ j,O1' j→¬ O2 j)→(∀ j,O1' j→j<h1.length)→Upd (fun _=>False) hb h2∧(∀ j,O1' j→¬ O2' j)∧(∀ j,O2' j→hb.length≤j):=fun h1 h2 O1' O2' Ub U2 hO d l=>by
    have:=Ub.1
    refine ⟨Ub.trans U2 fun j hl hj=>by have:=n2 j hj; omega,fun j a b=>?_,fun j hj=>?_⟩
    ·rcases hO j b with h | h
     ·exact d j a h
     ·have:=l j a; omega
    ·rcases hO j hj with h | h
     ·exact n2 j h
     ·omega
   have ho2:¬ O2 0:=fun hh=>by have:=n2 _ hh; omega
   refine aR1 V (by omega) (fun h1 O1' gs' b U1 hO V1 e hb1=>?_) fun h1 O1' b e U1 hO V1 he e0 hb1=>?_
   ·obtain ⟨Ub, W1, d1, m1⟩ := facts h1 O1' U1 hO
    simp only [cX,cW]
    refine bM (aC (RdI.str RC Ub hx ?_))
    refine aFL W1 (by omega) (fun h2 O2' b2 e2 U2 hO2 W2 he2 e20=>?_) fun h2 O2' gs2 r2 ms2 b2 U2 hO2 W2 he2=>?_
    ·rw [e] at he2; cases he2
    ·rw [e] at he2
     cases he2
     obtain ⟨Ub2,d2,m2⟩:=facts2 h1 h2 O1' O2' Ub U2 hO2 d1 V1.lt'
     have V2:=V1.upd U2 d1 ho2
     simp only [cX,cW]
     refine bM (aC (aG (by simp) (aG (by simp) ?_)))
     refine aPP V2 (aC (aLV W2 (aC ?_)))
     rw [decide_eq_true rfl]
     exact next h2 O1' O2' Ub2 d2 m1 m2 (.inl ⟨gs',r2,ms2,V2.mono (by omega),W2.mono (by omega)⟩)
   ·obtain ⟨Ub, W1, d1, m1⟩ := facts h1 O1' U1 hO
    simp only [cX,cW]
    refine bM (aC (RdI.str RC Ub hx ?_))
    refine aFL W1 (by omega) (fun h2 O2' b2 e2 U2 hO2 W2 he2 e20=>?_) fun h2 O2' gs2 r2 ms2 b2 U2 hO2 W2 he2=>?_
    ·rw [he] at he2
     cases he2
     obtain ⟨Ub2,d2,m2⟩:=facts2 h1 h2 O1' O2' Ub U2 hO2 d1 V1.2.2.1
     have V2:=V1.upd U2 d1 ho2
     simp only [cX,cW]
     refine bM (aC (aG (by simp) (aG (by simp) ?_)))
     refine aCP V2 (aC (zP W2 (aC ?_)))
     rw [decide_eq_true rfl]
     exact next h2 O1' O2' Ub2 d2 m1 m2 (.inr ⟨V2,W2⟩)
    ·rw [he] at he2; cases he2
  ·refine aQK V ?_
   simp only [cX,cW]
   refine bM (aC (RdI.str RC U hx (aMF W ?_)))
   simp only [cX,cW]
   refine bM (aC (aG (by simp) (aG (by simp) ?_)))
   refine aCP V (aC (zP W (aC ?_)))
   rw [decide_eq_true rfl]
   exact next h O1 O2 U dis n1 n2 (.inr ⟨V,W⟩)
theorem aIL (OO:dI h) (RC:RdI 1 h texts (tl.map .s) tl.length) (hq:∀ h',Q (.b true) h'):C Y26.id [.ag [.i .i64 o,.i .i64 ra],texts] h Q:=by
 have hol:=OO.lt
 refine Y26.call ?_
 simp only [Y26.t, ← Y26.p0.eq_1]
 refine cB (hk:=fun h1 l1 U1 R1=>?_)
 have R1:aZ h1 h.length [.i .i64 o,.i .i64 ra]:=R1
 have e2:(AV.ag [.i .i64 o,.i .i64 ra]).parts.length=2:=rfl
 rw [e2]
 refine RC.len ?_
 refine aI (fun _=>aD8 (aR (.inl (hq h1)))) fun e=>?_
 have h60:tl.length≤60:=by have:=of_decide_eq_false e; omega
 refine iG R1 rfl (iG R1 rfl (aTF (OO.upd U1 fun h=>h) fun h2 g1 U2 hg1 V1=>?_))
 have R2:=R1.upd U2 fun h=>h
 have hU2:=U2.1
 refine iG R2 rfl ⟨rfl,aQ8 fun h3 g2 r U3 hg2 V2=>?_⟩
 refine cF (by kernel_rfl) (aR (aG rfl (RC.len ?_)))
 have hU3:=U3.1
 exact aHK RC hol h60 hq tl.length 0 h3 (fun i=>h1.length≤i∧i<h2.length) (fun i=>h2.length≤i∧i<h3.length) (by omega) ((U1.then U2).then U3) (fun j a b=>by omega) (fun j a=>by omega) (fun j a=>by omega) (.inl ⟨_,r,[],V1.upd U3 (fun _ _ h=>h) fun h=>h,V2⟩)
end
theorem walk_GzipFeeds {H:Type} {enc:TypeId × Value→H} {v0:Value} {a:Option Addr} {len cap:Nat} (W:World) (hL:laidMet Tryz.prog Rows.gzipFeedsRow.laid W) (k0:InW enc Tryz.prog W 23 v0.cells.toList)
  (k1:InW enc Tryz.prog W 24 (Value.slice a len cap).cells.toList):Calls Tryz.prog Y26.id #[v0,.slice a len cap] W fun e w'=>e = .returned (.bool true)∧Below W.heap.size W w':=by
 obtain ⟨o,ra,hv⟩:=aR2 k0
 obtain ⟨v',l,e,R,_,_,_,hl⟩:=k1.strs Tryz.underlying24 Tryz.underlying9 (by kernel_rfl)
 have:Value.slice a len cap=v':=by simpa [Value.cells] using e
 subst this
 exact aGT mixedOK sizeOK aTB (by kernel_rfl) (szOf:=fun _=>1) (.cons _ _ _ _ hv (.cons _ _ _ _ hl .nil)) (aIL (aUC (l:=Rows.gzipFeedsRow.laid) (List.mem_of_getElem? (i:=1) rfl) hL) R fun _=>rfl)
end Go.Proofs.YtfoekpcljhbijaaGreatDoor
