/- Lemmas (several texts in one). -/
import Derived.Lib.ItoaNum
import Derived.Test.YtcdkpkkdolmfdaaGreatDoorMg7
set_option linter.unusedVariables false
set_option linter.unusedSimpArgs false
set_option linter.unusedSectionVars false
set_option maxRecDepth 20000
namespace Go.GAM
end Go.GAM
namespace Go.Proofs.YtcdkpkkdolmfdaaGreatDoor
open Go.GAM Go.RowKit
section
variable {h0:aA} {Q:AV→aA→Prop}
theorem aFY {y mo da hh mi s : Nat} {h : aA} (hy : 1970 ≤ y) (hy2 : y ≤ 89999) (hmo : 1 ≤ mo ∧ mo ≤ 12) (hda : 1 ≤ da ∧ da ≤ 99) (h23 : hh ≤ 99) (h59 : mi ≤ 99) (h60 : s ≤ 99) (hq : Q (.i .i64 (aF3 y mo da hh mi s : Nat)) h) :
  C Y23.id [.i .i64 (y:Int),.i .i64 (mo:Int),.i .i64 (da:Int),.i .i64 (hh:Int),.i .i64 (mi:Int),.i .i64 (s:Int)] h Q:=by
 have hb:=y6 hy hy2
 refine Y23.call ?_
 simp only [Y23.t, ← Y23.p0.eq_1]
 have p2:∀ k m',m'+k=mo→1≤m'→Y23.p2 (aK h Q) y mo da hh mi s ((eX y+fN y m':Nat):Int) m' h:=by
  intro k
  induction k with
  | zero =>
   intro m' hm _
   have:m'=mo:=by omega
   subst this
   have hmb:=tB y m'
   unfold aF3 at hq
   refine Y23.i2 ?_
   simp only [Y23.t2]
   refine aM (by rw [decide_eq_false_iff_not]; omega) ?_
   refine aI (n:=((eX y+fN y m'+da:Nat):Int)) (by rw [aJ (by omega) (by omega)]; omega) ?_
   refine aI (n:=((eX y+fN y m'+da - 1:Nat):Int)) (by rw [aJ (by omega) (by omega)]; omega) ?_
   refine aI (n:=(((eX y+fN y m'+da - 1) * 86400:Nat):Int)) (by rw [aJ (by omega) (by omega)]; omega) ?_
   refine aI (n:=((hh * 3600:Nat):Int)) (by rw [aJ (by omega) (by omega)]; omega) ?_
   refine aI (n:=(((eX y+fN y m'+da - 1) * 86400+hh * 3600:Nat):Int)) (by rw [aJ (by omega) (by omega)]; omega) ?_
   refine aI (n:=((mi * 60:Nat):Int)) (by rw [aJ (by omega) (by omega)]; omega) ?_
   refine aI (n:=(((eX y+fN y m'+da - 1) * 86400+hh * 3600+mi * 60:Nat):Int)) (by rw [aJ (by omega) (by omega)]; omega) ?_
   refine aI (n:=(((eX y+fN y m'+da - 1) * 86400+hh * 3600+mi * 60+s:Nat):Int)) (by rw [aJ (by omega) (by omega)]; omega) (.inl hq)
  | succ k ih =>
   intro m' hm h1
   have hms:=pG (y:=y) h1
   have hmb:=tB y m'
   have hdb:=iK y m'
   refine Y23.i2 ?_
   simp only [Y23.t2, ← Y23.p2.eq_1]
   refine aO (by rw [decide_eq_true_eq]; omega) (aEW (aS ?_))
   refine aI (n:=((eX y+fN y (m'+1):Nat):Int)) (by rw [aJ (by omega) (by omega)]; omega) (inc (by omega) ?_)
   exact ih (m'+1) (by omega) (by omega)
 have p0:∀ k y',y'+k=y→1970≤y'→Y23.p0 (aK h Q) y mo da hh mi s ((eX y':Nat):Int) y' h:=by
  intro k
  induction k with
  | zero =>
   intro y' hy' _
   have:y'=y:=by omega
   subst this
   refine Y23.i0 ?_
   simp only [Y23.t0, ← Y23.p2.eq_1]
   refine aM (by rw [decide_eq_false_iff_not]; omega) ?_
   have:=p2 (mo - 1) 1 (by omega) (by omega)
   rw [aKA,Nat.add_zero] at this
   exact this
  | succ k ih =>
   intro y' hy' h1
   have hbs:=tY h1
   have hbb:=y6 (y:=y') h1 (by omega)
   have p1:∀ x:Nat,x=eX (y'+1)→Y23.p1 (aK h Q) y mo da hh mi s x y' h:=by
    intro x hx
    subst hx
    refine Y23.i1 ?_
    simp only [Y23.t1, ← Y23.p0.eq_1]
    exact inc (by omega) (ih (y'+1) (by omega) (by omega))
   unfold yJ at hbs
   refine Y23.i0 ?_
   simp only [Y23.t0, ← Y23.p1.eq_1]
   refine aO (by rw [decide_eq_true_eq]; omega) (aI (n:=((eX y'+365:Nat):Int)) (by rw [aJ (by omega) (by omega)]; omega) (aEY (aQ (aG (fun e=>?_) fun e=>?_))))
   ·rw [if_pos e] at hbs
    exact inc (by omega) (p1 _ (by omega))
   ·rw [if_neg (by rw [e]; simp)] at hbs
    exact p1 _ (by omega)
 have:=p0 (y - 1970) 1970 (by omega) (by omega)
 rw [aI0] at this
 exact this
theorem aAP {h hx:aA} {v:AV} {s:List UInt8} {y mo da hh mi se:Nat} (E:Ext h hx) (R:Rd 1 hx v ([mo,da,hh,mi,se].map num) 5) (hy2:y≤89999) (hmo2:mo≤99) (hda2:da≤99) (h23:hh≤99) (h59:mi≤99) (h60:se≤99)
  (hq:Q (sM (s5 y mo da hh mi se)) h):Y4.p3 (aK h Q) s v y (14:Nat) hx:=by
 obtain ⟨id,ver,off,cap,b,rfl,A⟩:=R.at (by omega)
 have R:=A.rd cap
 unfold s5 sM at hq
 have p6:∀ b:Bool,(b=true↔sW y mo da hh mi se)→Y4.p6 (aK h Q) (.sl (some ⟨id,ver,off⟩) 5 cap) y b hx:=by
  intro b hb
  refine Y4.i6 ?_
  simp only [Y4.t6]
  refine aG (fun e=>?_) fun e=>?_
  ·rw [if_pos (hb.1 e)] at hq
   exact aV rfl E hq
  ·have hg : ¬ sW y mo da hh mi se := fun hh => by have := hb.2 hh; rw [e] at this; cases this
   rw [if_neg hg] at hq
   unfold sW at hg
   refine b8 A (i:=0) (by omega) (cN A (by omega) rfl (b8 A (i:=1) (by omega) (cN A (by omega) rfl (b8 A (i:=2) (by omega) (cN A (by omega) rfl (b8 A (i:=3) (by omega) (cN A (by omega) rfl (b8 A (i:=4) (by omega) (cN A (by omega) rfl ?_)))))))))
   refine aFY (by omega) (by omega) (by omega) (by omega) (by omega) (by omega) (by omega) (aS ?_)
   refine b8 A (i:=4) (by omega) ⟨rfl,b8 A (i:=3) (by omega) ⟨rfl,b8 A (i:=2) (by omega) ⟨rfl,b8 A (i:=1) (by omega) ⟨rfl,b8 A (i:=0) (by omega) ⟨rfl,aV rfl E hq⟩⟩⟩⟩⟩
 have hdd:=iK y mo
 unfold sW at p6
 refine Y4.i3 ?_
 simp only [Y4.t3, ← Y4.p6.eq_1]
 refine aM (by simp) ?_
 refine aG (fun e1=>p6 _ ?_) fun e1=>b8 A (i:=0) (by omega) (cN A (by omega) rfl ?_)
 ·simp only [decide_eq_true_eq] at e1; simp; omega
 refine aG (fun e2=>p6 _ ?_) fun e2=>b8 A (i:=0) (by omega) (cN A (by omega) rfl ?_)
 ·simp only [decide_eq_true_eq] at e2; simp; omega
 refine aG (fun e3=>p6 _ ?_) fun e3=>b8 A (i:=1) (by omega) (cN A (by omega) rfl ?_)
 ·simp only [decide_eq_true_eq] at e3; simp; omega
 refine aG (fun e4=>p6 _ ?_) fun e4=>b8 A (i:=1) (by omega) (cN A (by omega) rfl (b8 A (i:=0) (by omega) (cN A (by omega) rfl (aEW (aS ?_)))))
 ·simp only [decide_eq_true_eq] at e4; simp; omega
 simp only [decide_eq_false_iff_not] at e1 e2 e3 e4
 refine b8 A (i:=0) (by omega) ⟨rfl,cN A (by omega) rfl ⟨rfl,b8 A (i:=1) (by omega) ⟨rfl,cN A (by omega) rfl ⟨rfl,b8 A (i:=1) (by omega) ⟨rfl,cN A (by omega) rfl ⟨rfl,b8 A (i:=0) (by omega) ⟨rfl,cN A (by omega) rfl ⟨rfl,b8 A (i:=0) (by omega) ⟨rfl, ?_⟩⟩⟩⟩⟩⟩⟩⟩⟩
 refine aG (fun e5=>p6 _ ?_) fun e5=>R.nat (i:=2) (by omega) rfl ?_
 ·simp only [decide_eq_true_eq] at e5; simp; omega
 refine aG (fun e6=>p6 _ ?_) fun e6=>R.nat (i:=3) (by omega) rfl ?_
 ·simp only [decide_eq_true_eq] at e6; simp; omega
 refine aG (fun e7=>p6 _ ?_) fun e7=>R.nat (i:=4) (by omega) rfl (p6 _ ?_)
 ·simp only [decide_eq_true_eq] at e7; simp; omega
 simp only [decide_eq_false_iff_not] at e5 e6 e7
 rw [decide_eq_true_eq]; omega
def sX:Nat→Nat→List Nat→List UInt8→Nat × List Nat
 | _,y,f,[]=>(y,f)
 | i,y,f,c :: r=>if i<4 then sX (i+1) (10 * y+(c.toNat - 48)) f r else if i % 2=0 then sX (i+1) y (f++[10 * (c.toNat - 48)]) r else sX (i+1) y (f.set (f.length - 1) (f.getD (f.length - 1) 0+(c.toNat - 48))) r
theorem aIV {h hx0 : aA} {s : List UInt8} (E0 : Upd (fun _ => False) h hx0) (hbad : (s.take 14).all digB = false → Q (.tu [.i .i64 0, .b false]) h) (hl : s.length = 15) :
  ∀ (r : List UInt8) (i y : Nat) (f : List Nat) (v : AV) (hx : aA), (s.take 14).drop i = r → i ≤ 14 → (i ≤ 4 → y < 10 ^ i) → (4 ≤ i → y < 10000) → (i ≤ 4 → f = []) → f.length ≤ i → (4 < i → i % 2 = 1 → f ≠ []) → (∀ n ∈ f, n ≤ 99) → (i % 2 = 1 → 4 < i → f.getD (f.length - 1) 0 ≤ 90) → eW 1 hx0 hx v (f.map num) f.length → ((s.take 14).all digB = r.all digB) →
   ((s.take 14).all digB=true→∀ v hx,eW 1 hx0 hx v ((sX i y f r).2.map num) (sX i y f r).2.length→Y4.p3 (aK h Q) s v (sX i y f r).1 (14:Nat) hx)→Y4.p3 (aK h Q) s v y i hx:=by
 intro r
 induction r with
 | nil =>
  intro i y f v hx hr hi _ _ _ _ _ _ _ A he fin
  have hle:=cB hr
  rw [List.length_take] at hle
  have:i=14:=by omega
  subst this
  exact fin (by rw [he] <;> rfl) v hx A
 | cons c r ih =>
  intro i y f v hx hr hi hy1 hy2 hf0 hfl hfne hfb hfo A he fin
  obtain ⟨g1,g2,g3⟩:=aDU hr
  have hc:=c.toNat_lt
  have hdr:=eO g1
  have E:Ext h hx:=(E0.trans A.upd fun _ _ h=>h).ext
  refine Y4.i3 ?_
  simp only [Y4.t3, ← Y4.p4.eq_1]
  refine aO (by simp; omega) (cQ hdr ?_)
  have p4bad:digB c=false→Y4.p4 (aK h Q) s v y i true hx:=by
   intro hd
   refine Y4.i4 ?_
   simp only [Y4.t4]
   exact aO rfl (aV rfl E (hbad (by rw [he,List.all_cons,hd] <;> rfl)))
  have p4ok:digB c=true→Y4.p4 (aK h Q) s v y i false hx:=by
   intro hd
   have hdb:=dA hd
   have he':(s.take 14).all digB=r.all digB:=by rw [he,List.all_cons,hd,Bool.true_and]
   have p5:∀ (y':Nat) (f':List Nat) (v':AV) (h':aA),sX i y f (c :: r)=sX (i+1) y' f' r→(i+1≤4→y'<10 ^ (i+1))→(4≤i+1→y'<10000)→(i+1≤4→f'=[])→f'.length≤i+1→(4<i+1→(i+1) % 2=1→f'≠[])→(∀ n∈f',n≤99)→((i+1) % 2=1→4<i+1→f'.getD (f'.length - 1) 0≤90)→eW 1 hx0 h' v' (f'.map num) f'.length→Y4.p5 (aK h Q) s v' y' i h':=by
    intro y' f' v' h' hT a1 a2 a3 a4 a5 a6 a7 A'
    refine Y4.i5 ?_
    simp only [Y4.t5, ← Y4.p3.eq_1]
    refine inc (by omega) (ih (i+1) y' f' v' h' g3 (by omega) a1 a2 a3 a4 a5 a6 a7 A' he' fun ha v hx A=>?_)
    rw [hT] at fin
    exact fin ha v hx A
   refine Y4.i4 ?_
   simp only [Y4.t4, ← Y4.p5.eq_1]
   refine aM rfl (cQ hdr ?_)
   refine aI (n:=((c.toNat - 48:Nat):Int)) (by rw [aJ (n:=(c.toNat:Int)) (by omega) (by omega),aJ (by omega) (by omega)]; omega) ?_
   by_cases h4:i<4
   ·have hp : 10 ^ (i + 1) = 10 ^ i * 10 := Nat.pow_succ ..
    have hp4:10 ^ (i+1)≤10 ^ 4:=Nat.pow_le_pow_right (by omega) (by omega)
    have hy:=hy1 (by omega)
    refine aO (by simp; omega) ?_
    refine aI (n:=((10 * y:Nat):Int)) (by rw [aJ (by omega) (by omega)]; omega) ?_
    refine aI (n:=((10 * y+(c.toNat - 48):Nat):Int)) (by rw [aJ (by omega) (by omega)]; omega) ?_
    exact p5 _ f v hx (by rw [sX,if_pos h4]) (fun _=>by omega) (fun _=>by omega) (fun _=>hf0 (by omega)) (by omega) (fun _ _=>by omega) hfb (fun _ _=>by omega) A
   ·refine aM (by simp; omega) (iR (b := 2) (by omega) ?_)
    by_cases h2:i % 2=0
    ·refine aO (by simp; omega) ?_
     refine aI (n:=((10 * (c.toNat - 48):Nat):Int)) (by rw [aJ (by omega) (by omega)]; omega) ?_
     refine eW.build A (by decide) (ns:=[num (10 * (c.toNat - 48))]) rfl rfl rfl (by omega) (by omega) fun v' h' A'=>?_
     refine p5 y (f++[10 * (c.toNat - 48)]) v' h' (by rw [sX,if_neg h4,if_pos h2]) (fun h=>by omega) (fun _=>hy2 (by omega)) (fun h=>by omega) (by simp; omega) (fun _ _=>by simp) ?_ ?_ ?_
     ·intro n hn
      rcases List.mem_append.1 hn with h | h
      ·exact hfb n h
      ·simp at h; omega
     ·intro _ _
      rw [List.length_append]
      simp only [List.length_singleton,Nat.add_sub_cancel]
      rw [List.getD_eq_getElem?_getD,List.getElem?_append_right (Nat.le_refl _),Nat.sub_self]
      show 10 * (c.toNat - 48)≤90
      omega
     ·rw [List.map_append,List.length_append]; exact A'
    ·refine aM (by simp; omega) (A.arr.rd.len ?_)
     have hne:=hfne (by omega) (by omega)
     have hfp:=List.length_pos_iff.2 hne
     refine aI (n:=((f.length - 1:Nat):Int)) (by rw [aJ (by omega) (by omega)]; omega) ?_
     obtain ⟨z,hz⟩:∃ z,f[f.length - 1]? = some z:=⟨_,List.getElem?_eq_getElem (by omega)⟩
     have hzb:=hfb z (List.mem_of_getElem? hz)
     have hzg:f.getD (f.length - 1) 0=z:=getD_some hz
     refine A.arr.rd.nat (by omega) hz ?_
     refine aI (n:=((z+(c.toNat - 48):Nat):Int)) (by rw [aJ (by omega) (by omega)]; omega) ?_
     have hzo:=hfo (by omega) (by omega)
     rw [hzg] at hzo
     refine eW.store A (i:=f.length - 1) (x:=num (z+(c.toNat - 48))) (by omega) rfl rfl rfl fun h' A'=>?_
     refine p5 y (f.set (f.length - 1) (z+(c.toNat - 48))) v h' (by rw [sX,if_neg h4,if_neg h2,hzg]) (fun h=>by omega) (fun _=>hy2 (by omega)) (fun h=>by omega) (by simp; omega) (fun _ h=>by omega) ?_ (fun h=>by omega) ?_
     ·intro n hn
      rcases List.mem_or_eq_of_mem_set hn with h | h
      ·exact hfb n h
      ·omega
     ·rw [List.map_set,List.length_set]; exact A'
  have p4:∀ b,b = !digB c→Y4.p4 (aK h Q) s v y i b hx:=by
   intro b hb
   cases hd:digB c with
   | false=>rw [hd] at hb; rw [hb]; exact p4bad hd
   | true=>rw [hd] at hb; rw [hb]; exact p4ok hd
  unfold digB at p4
  refine aG (fun e=>p4 _ ?_) fun e=>cQ hdr (p4 _ ?_)
  ·simp only [decide_eq_true_eq] at e
   rw [decide_eq_false (by omega:¬ 48≤c.toNat)] <;> rfl
  ·simp only [decide_eq_false_iff_not] at e
   rw [decide_eq_true (by omega:48≤c.toNat),Bool.true_and, ← decide_not,decide_eq_decide]; omega
theorem aNB {α:Type} {l:List α} (h:l.length=14):∃ c0 c1 c2 c3 c4 c5 c6 c7 c8 c9 c10 c11 c12 c13,l=[c0,c1,c2,c3,c4,c5,c6,c7,c8,c9,c10,c11,c12,c13]:=by
 match l,h with
 | [c0,c1,c2,c3,c4,c5,c6,c7,c8,c9,c10,c11,c12,c13],_=>exact ⟨c0,c1,c2,c3,c4,c5,c6,c7,c8,c9,c10,c11,c12,c13,rfl⟩
theorem vQ {h hx : aA} {s : List UInt8} (E : Upd (fun _ => False) h hx) (hl : s.length = 15) (hq : Q (sM (if s.getD 14 0 = 90 ∧ (s.take 14).all digB = true then uR (cS (s.take 14)) else (0, false))) h) : Y4.p2 (aK h Q) s hx := by
 refine Y4.i2 ?_
 simp only [Y4.t2, ← Y4.p3.eq_1]
 obtain ⟨c,hc1,hc2⟩:=xP hl
 rw [hc2] at hq
 refine kL hc1 ?_
 rw [show (90:Int)=(((90:UInt8).toNat:Nat):Int) from rfl,iV]
 by_cases h90:c=90
 ·rw [decide_eq_true h90]
  refine aM rfl ?_
  refine aIV E (fun hb=>?_) hl (s.take 14) 0 0 [] _ hx rfl (by omega) (by simp) (by omega) (fun _=>rfl) (by simp) (fun h=>by omega) (by simp) (fun _ h=>by omega) (eW.start 1 hx) rfl fun ha v h2 A=>?_
  ·rw [if_neg (fun hh => by rw [hb] at hh; cases hh.2)] at hq
   exact hq
  ·rw [if_pos ⟨h90, ha⟩] at hq
   obtain ⟨c0,c1,c2,c3,c4,c5,c6,c7,c8,c9,c10,c11,c12,c13,hs⟩:=aNB (l:=s.take 14) (by rw [List.length_take]; omega)
   rw [hs] at hq A ⊢
   rw [hs] at ha
   simp only [List.all_cons,Bool.and_eq_true] at ha
   obtain ⟨d0,d1,d2,d3,d4,d5,d6,d7,d8,d9,d10,d11,d12,d13,_⟩:=ha
   have d0:=dA d0
   have d1:=dA d1
   have d2:=dA d2
   have d3:=dA d3
   have d4:=dA d4
   have d5:=dA d5
   have d6:=dA d6
   have d7:=dA d7
   have d8:=dA d8
   have d9:=dA d9
   have d10:=dA d10
   have d11:=dA d11
   have d12:=dA d12
   have d13:=dA d13
   have hT:sX 0 0 [] [c0,c1,c2,c3,c4,c5,c6,c7,c8,c9,c10,c11,c12,c13]=(10 * (10 * (10 * (10 * 0+(c0.toNat - 48))+(c1.toNat - 48))+(c2.toNat - 48))+(c3.toNat - 48),[10 * (c4.toNat - 48)+(c5.toNat - 48),10 * (c6.toNat - 48)+(c7.toNat - 48),10 * (c8.toNat - 48)+(c9.toNat - 48),10 * (c10.toNat - 48)+(c11.toNat - 48),10 * (c12.toNat - 48)+(c13.toNat - 48)]):=rfl
   rw [hT] at A ⊢
   refine aAP ((E.trans A.upd fun _ _ h=>h).ext) A.arr.rd (by omega) (by omega) (by omega) (by omega) (by omega) (by omega) ?_
   have e:uR (cS [c0,c1,c2,c3,c4,c5,c6,c7,c8,c9,c10,c11,c12,c13])=s5 (10 * (10 * (10 * (10 * 0+(c0.toNat - 48))+(c1.toNat - 48))+(c2.toNat - 48))+(c3.toNat - 48)) (10 * (c4.toNat - 48)+(c5.toNat - 48)) (10 * (c6.toNat - 48)+(c7.toNat - 48)) (10 * (c8.toNat - 48)+(c9.toNat - 48)) (10 * (c10.toNat - 48)+(c11.toNat - 48)) (10 * (c12.toNat - 48)+(c13.toNat - 48)):=by
    show s5 _ _ _ _ _ _=_
    congr 1 <;> omega
   rw [← e]; exact hq
 ·rw [decide_eq_false h90]
  rw [if_neg (fun hh=>h90 hh.1)] at hq
  exact aO rfl (aV rfl E.ext hq)
theorem aFC {d : Der} {cs : List AV} {F : Nat → Prop} {h : aA} (D : DV h F d cs) (hs : d.data.length ≤ 100000) (hq : Q (sM (cP d)) h) : C Y4.id [.ag cs] h Q := by
 refine Y4.call ?_
 simp only [Y4.t, ← Y4.p0.eq_1]
 refine D.box fun h1 hl1 U1 B D1=>aN (aP B D.len.symm D.dat (bC (aT B D.len.symm (lB D1 (aQ ?_)))))
 have no2:bY 23 d=true→bY 24 d=false:=by
  obtain ⟨c,t,m,s,ks⟩:=d
  intro h
  have h:(decide (c=0)&&(decide (t=23)&&(!m&&decide (ks.length=0))))=true:=h
  show (decide (c=0)&&(decide (t=24)&&(!m&&decide (ks.length=0))))=false
  simp only [Bool.and_eq_true,decide_eq_true_eq] at h
  rw [decide_eq_true h.1,decide_eq_false (show ¬ t=24 by omega)] <;> rfl
 unfold cP qH at hq
 have p0 : ∀ b, b = (bY 23 d && decide (d.data.length = 13)) → Y4.p0 (aK h Q) (.p (some ⟨h.length, 5, 0⟩)) d.data b h1 := by
  intro b hb
  refine Y4.i0 ?_
  simp only [Y4.t0, ← Y4.p1.eq_1, ← Y4.p2.eq_1]
  refine aG (fun e=>?_) fun e=>aT B D.len.symm (lB D1 (aQ ?_))
  ·subst e
   have hb:=hb.symm
   rw [Bool.and_eq_true,decide_eq_true_eq] at hb
   rw [if_neg (by rw [no2 hb.1]; simp),if_pos hb.1,if_pos hb.2] at hq
   simp only at hq
   obtain ⟨c0,hc0⟩:∃ c,d.data[0]? = some c:=⟨_,List.getElem?_eq_getElem (by omega)⟩
   rw [getD_some hc0] at hq
   refine kL (i:=0) hc0 ?_
   refine aG (fun e=>⟨by simp; omega,vQ U1 (by simp; omega) ?_⟩) fun e=>⟨by simp; omega,vQ U1 (by simp; omega) ?_⟩
   ·have h53 : 53 ≤ c0.toNat := by simp only [decide_eq_true_eq] at e; omega
    simp only [if_pos h53] at hq
    exact hq
   ·have h53 : ¬ 53 ≤ c0.toNat := by simp only [decide_eq_false_iff_not] at e; omega
    simp only [if_neg h53] at hq
    exact hq
  ·subst e
   have p1 : ∀ b, b = (bY 24 d && decide (d.data.length = 15)) → Y4.p1 (aK h Q) d.data b h1 := by
    intro b hb2
    refine Y4.i1 ?_
    simp only [Y4.t1, ← Y4.p2.eq_1]
    refine aG (fun e=>?_) fun e=>?_
    ·subst e
     have hb2:=hb2.symm
     rw [Bool.and_eq_true,decide_eq_true_eq] at hb2
     rw [if_pos hb2.1,if_pos hb2.2] at hq
     exact vQ U1 hb2.2 hq
    ·subst e
     have hn:(if bY 24 d=true then (if d.data.length=15 then some d.data else none) else if bY 23 d=true then (if d.data.length=13 then some ((if 53≤(d.data.getD 0 0).toNat then [49,57] else [50,48])++d.data) else none) else none)=none:=by
      by_cases h24:bY 24 d=true
      ·rw [if_pos h24,if_neg (fun hh=>by rw [h24,hh] at hb2; cases hb2)]
      ·rw [if_neg h24]
       by_cases h23:bY 23 d=true
       ·rw [if_pos h23,if_neg (fun hh=>by rw [h23,hh] at hb; cases hb)]
       ·rw [if_neg h23]
     rw [hn] at hq
     exact aV rfl U1.ext hq
   refine aG (fun e=>p1 _ ?_) fun e=>p1 _ ?_
   ·rw [e,Bool.true_and,decide_eq_decide]; omega
   ·rw [e] <;> rfl
 refine aG (fun e=>p0 _ ?_) fun e=>p0 _ ?_
 ·rw [e,Bool.true_and,decide_eq_decide]; omega
 ·rw [e] <;> rfl
end
end Go.Proofs.YtcdkpkkdolmfdaaGreatDoor
namespace Go.GAM
end Go.GAM
namespace Go.Proofs.YtcdkpkkdolmfdaaGreatDoor
open Go.GAM Go.RowKit
instance (s:List UInt8):Decidable (yP s):=by unfold yP; infer_instance
section
variable {h0:aA} {Q:AV→aA→Prop}
end
end Go.Proofs.YtcdkpkkdolmfdaaGreatDoor
namespace Go.Proofs.YtcdkpkkdolmfdaaGreatDoor
open Go.GAM Go.RowKit
section
variable {h0:aA} {Q:AV→aA→Prop}
theorem rL {n : Nat} {h : aA} (hn : n < 1000000000) (hq : Q (.s (Lib.decDigits n)) h) : C Y39.id [.i .i64 (n : Int)] h Q := by
 refine Y39.call ?_
 simp only [Y39.t, ← Y39.p0.eq_1]
 have go:∀ m n acc hx,n≤m→n<1000000000→acc.length+(Lib.decDigits n).length≤1000→Upd (fun _=>False) h hx→Q (.s (Lib.decDigits n++acc)) h→Y39.p0 (aK h Q) n acc hx:=by
  intro m
  induction m with
  | zero =>
   intro n acc hx hm hn hl U hq
   have:n=0:=by omega
   subst this
   refine Y39.i0 ?_
   simp only [Y39.t0]
   refine aM rfl (aI (n:=((48:Nat):Int)) (by rw [aJ (by omega) (by omega)] <;> rfl) ?_)
   rw [dF,gU]
   rw [Lib.decDigits_one (by omega)] at hq
   exact Tx.one U fun v h1 T _=>T.str ⟨by simp; omega,aV rfl T.upd.ext hq⟩
  | succ m ih =>
   intro n acc hx hm hn hl U hq
   refine Y39.i0 ?_
   simp only [Y39.t0, ← Y39.p0.eq_1]
   by_cases h9:9<n
   ·rw [Lib.decDigits, dif_neg (by omega)] at hq hl
    rw [List.length_append,List.length_singleton] at hl
    refine aO (by simp; omega) (iR (b:=10) (by omega) ?_)
    refine aI (n:=((48+n % 10:Nat):Int)) (by rw [aJ (by omega) (by omega)]; omega) ?_
    rw [dF,gU]
    refine Tx.one U fun v h1 T _=>T.str ⟨by simp; omega,j4 (b:=10) (by omega) (by omega) ?_⟩
    exact ih (n / 10) _ h1 (by omega) (by omega) (by simp; omega) T.upd (by simpa using hq)
   ·rw [Lib.decDigits_one (by omega)] at hq
    refine aM (by simp; omega) (aI (n:=((48+n:Nat):Int)) (by rw [aJ (by omega) (by omega)]; omega) ?_)
    rw [dF,gU]
    exact Tx.one U fun v h1 T _=>T.str ⟨by simp; omega,aV rfl T.upd.ext hq⟩
 have hl:=cZ hn
 exact go n n [] h (Nat.le_refl _) hn (by simp; omega) (Upd.refl _ _) (by simpa using hq)
theorem aG4 {s : List UInt8} {h hx : aA} (E : Ext h hx) (hs : s.length ≤ 100000) (hlast : ∀ c, s[s.length - 1]? = some c → c.toNat < 128) : ∀ (r : List UInt8) (i n : Nat) (begun : Bool) (done : List Nat), s.drop i = r → i ≤ s.length → n < 268435456 → (begun = true → 0 < i ∧ ∃ c, s[i - 1]? = some c ∧ 128 ≤ c.toNat) → done.length ≤ i → (∀ m ∈ done, m < 268435456) →
  Q (zD (m9 (f6 r n begun) done)) h→Y10.p1 (aK h Q) s (eH done) n begun i hx:=by
 intro r
 induction r with
 | nil =>
  intro i n begun done hr hi hn hb hd hbd hq
  have hle:=cB hr
  have hbf:begun=false:=by
   cases hbg:begun with
   | false=>rfl
   | true =>
    obtain ⟨h1,c,h2,h3⟩:=hb hbg
    have:i=s.length:=by omega
    rw [this] at h2
    have:=hlast c h2
    omega
  subst hbf
  refine Y10.i1 ?_
  simp only [Y10.t1]
  have:m9 (f6 [] n false) done=(eH done,true):=by simp [f6,m9]
  rw [this] at hq
  exact aM (by simp; omega) (aV rfl E hq)
 | cons c r ih =>
  intro i n begun done hr hi hn hb hd hbd hq
  have hlt:=cI hr
  have hnx:=b4 hr
  have hci:=b7 hr
  have hc:=c.toNat_lt
  have htb:=aGS hbd
  have hm:=Nat.mod_lt c.toNat (show 0<128 by omega)
  have p4:∀ (o:List Nat) (n':Nat) (b':Bool),n'<268435456→(b'=true→128≤c.toNat)→o.length≤i+1→(∀ m∈o,m<268435456)→Q (zD (m9 (f6 r n' b') o)) h→Y10.p4 (aK h Q) s (eH o) n' b' i hx:=by
   intro o n' b' hn' hb' ho hob hq
   refine Y10.i4 ?_
   simp only [Y10.t4, ← Y10.p1.eq_1]
   exact inc (by omega) (ih (i+1) n' b' o hnx (by omega) hn' (fun hh=>⟨by omega,c,by rw [Nat.add_sub_cancel]; exact hci,hb' hh⟩) ho hob hq)
  have p2 : ∀ b, b = decide (begun = false ∧ c.toNat = 128) → Y10.p2 (aK h Q) s (eH done) n i b hx := by
   intro b hbb
   unfold f6 at hq
   refine Y10.i2 ?_
   simp only [Y10.t2, ← Y10.p3.eq_1, ← Y10.p4.eq_1]
   refine aG (fun e=>?_) fun e=>?_
   ·subst e
    rw [if_pos (of_decide_eq_true hbb.symm)] at hq
    exact aV rfl E hq
   ·subst e
    rw [if_neg (of_decide_eq_false hbb.symm)] at hq
    refine aI (n:=((n * 128:Nat):Int)) (by rw [aJ (by omega) (by omega)]; omega) (cQ hr ?_)
    rw [aJ (by omega) (by omega)]
    refine iR (b:=128) (by omega) (aI (n:=((n * 128+c.toNat % 128:Nat):Int)) (by rw [aJ (by omega) (by omega)]; omega) ?_)
    by_cases h28:268435456≤n * 128+c.toNat % 128
    ·rw [if_pos h28] at hq
     exact aO (by simp; omega) (aV rfl E hq)
    rw [if_neg h28] at hq
    refine aM (by simp; omega) (cQ hr ?_)
    by_cases h128:128≤c.toNat
    ·rw [if_pos h128] at hq
     exact aO (by simp; omega) (p4 done _ true (by omega) (fun _=>h128) (by omega) hbd hq)
    rw [if_neg h128] at hq
    have p3:Q (zD (m9 (f6 r 0 false) (done++[n * 128+c.toNat % 128]))) h→Y10.p3 (aK h Q) s (eH (done++[n * 128+c.toNat % 128])) i hx:=by
     intro hq
     refine Y10.i3 ?_
     simp only [Y10.t3, ← Y10.p4.eq_1]
     refine p4 _ 0 false (by omega) (fun hh=>by cases hh) (by simp; omega) ?_ hq
     intro m hm
     rcases List.mem_append.1 hm with h | h
     ·exact hbd m h
     ·simp at h; omega
    generalize n * 128+c.toNat % 128=z at *
    have hq:Q (zD (m9 (f6 r 0 false) (done++[z]))) h:=by
     have:m9 (match f6 r 0 false with | none=>none | some l=>some (z :: l)) done=m9 (f6 r 0 false) (done++[z]):=by
      cases f6 r 0 false <;> simp [m9]
     rw [← this]; exact hq
    refine aM (by simp; omega) ?_
    cases hdn:done with
    | nil =>
     rw [hdn] at p3 hq
     have d1:=cZ (n:=min (z / 40) 2) (by omega)
     have d2:=cZ (n:=z - 40 * min (z / 40) 2) (by omega)
     refine aO rfl (j4 (b:=40) (by omega) (by omega) ?_)
     rw [show mmI false ((z / 40:Nat):Int) 2=((min (z / 40) 2:Nat):Int) from aFJ _ 2]
     refine rL (by omega) (bC ⟨by simp; omega, ?_⟩)
     refine aI (n:=((40 * min (z / 40) 2:Nat):Int)) (by rw [aJ (by omega) (by omega)]; omega) ?_
     refine aI (n:=((z - 40 * min (z / 40) 2:Nat):Int)) (by rw [aJ (by omega) (by omega)]; omega) ?_
     refine rL (by omega) (bC ⟨by simp; omega, ?_⟩)
     have:=p3 hq
     rw [List.nil_append] at this
     simpa [eH] using this
    | cons a dn =>
     rw [← hdn]
     have hne:done≠[]:=by rw [hdn]; simp
     have d1:=cZ (n:=z) (by omega)
     refine aM (by simp [aGL hne]) (rL (by omega) (bC ⟨by simp; omega,⟨by simp; omega, ?_⟩⟩))
     have:=p3 hq
     rw [aDA hne] at this
     exact this
  refine Y10.i1 ?_
  simp only [Y10.t1, ← Y10.p2.eq_1]
  refine aO (by simp; omega) ?_
  cases begun with
  | false =>
   refine aO rfl (cQ hr (p2 _ ?_))
   rw [decide_eq_decide]; simp; omega
  | true=>exact aM rfl (p2 _ (by simp))
theorem rS:∀ (s:List UInt8) (n:Nat) (b:Bool) (c:UInt8),s[s.length - 1]? = some c→s≠[]→128≤c.toNat→f6 s n b=none
 | [],n,b,c,h,hne,_=>absurd rfl hne
 | [a], n, b, c, h, hne, hc => by
  simp at h; subst h
  unfold f6
  split
  ·rfl
  split
  ·rfl
  simp [f6]
 | a :: a2 :: r, n, b, c, h, hne, hc => by
  have hr:(a2 :: r)[(a2 :: r).length - 1]? = some c:=by
   simpa using h
  unfold f6
  split
  ·rfl
  split
  ·rfl
  split
  ·exact rS (a2 :: r) _ _ c hr (by simp) hc
  ·rw [rS (a2 :: r) _ _ c hr (by simp) hc]
theorem aIL {d:Der} {cs:List AV} {F:Nat→Prop} {h:aA} (D:DV h F d cs) (hs:d.data.length≤100000) (hq:Q (zD (eA d)) h):C Y10.id [.ag cs] h Q:=by
 refine Y10.call ?_
 simp only [Y10.t, ← Y10.p0.eq_1]
 refine D.box fun h1 hl1 U1 B D1=>aN (aP B D.len.symm D.dat (bC (aT B D.len.symm (lB D1 (aQ ?_)))))
 unfold eA at hq
 generalize d.data=s at *
 have bad:eA d=eA d→(¬ (bY 6 d=true∧s≠[])∨f6 s 0 false=none)→Y10.p0 (aK h Q) s true h1:=by
  intro _ hb
  refine Y10.i0 ?_
  simp only [Y10.t0]
  refine aO rfl (aV rfl U1.ext ?_)
  rcases hb with hb | hb
  ·rw [if_neg hb] at hq; exact hq
  ·rw [hb] at hq
   simp only at hq
   have:(if bY 6 d=true∧s≠[] then (([]:List UInt8),false) else ([],false))=([],false):=by split <;> rfl
   rw [this] at hq; exact hq
 refine aG (fun e=>bad rfl (.inl fun hh=>by rw [hh.1] at e; cases e)) fun e=>?_
 have hp:bY 6 d=true:=by simpa using e
 by_cases hne:s=[]
 ·exact aO (by simp [hne]) (bad rfl (.inl fun hh=>hh.2 hne))
 have hlp:=List.length_pos_iff.2 hne
 obtain ⟨c,hc⟩:∃ c,s[s.length - 1]? = some c:=⟨_,List.getElem?_eq_getElem (by omega)⟩
 refine aM (by simp [hne]) (aI (n:=((s.length - 1:Nat):Int)) (by rw [aJ (by omega) (by omega)]; omega) (kL hc ?_))
 by_cases h128:128≤c.toNat
 ·rw [decide_eq_true (by omega)]
  exact bad rfl (.inr (rS s 0 false c hc hne h128))
 ·rw [decide_eq_false (by omega)]
  rw [if_pos ⟨hp,hne⟩] at hq
  refine Y10.i0 ?_
  simp only [Y10.t0, ← Y10.p1.eq_1]
  refine aM rfl ?_
  refine aG4 (h:=h) U1.ext hs (fun c' hc'=>by rw [hc] at hc'; cases hc'; omega) s 0 0 false [] rfl (by omega) (by omega) (fun hh=>by cases hh) (by simp) (by simp) ?_
  have:m9 (f6 s 0 false) []=(match f6 s 0 false with | none=>([],false) | some l=>(eH l,true)):=by
   cases f6 s 0 false <;> rfl
  rw [this]; exact hq
end
end Go.Proofs.YtcdkpkkdolmfdaaGreatDoor
namespace Go.Proofs.YtcdkpkkdolmfdaaGreatDoor
open Go.GAM Go.RowKit
section
variable {h0:aA} {Q:AV→aA→Prop}
end
end Go.Proofs.YtcdkpkkdolmfdaaGreatDoor
namespace Go.Proofs.YtcdkpkkdolmfdaaGreatDoor
open Go.GAM Go.RowKit
end Go.Proofs.YtcdkpkkdolmfdaaGreatDoor
namespace Go.Proofs.YtcdkpkkdolmfdaaGreatDoor
open Go.GAM Go.RowKit
theorem aJO (a:UInt8):eS [a]=a.toNat:=by simp [eS]
theorem aJF (a b:UInt8):eS [a,b]=a.toNat * 256+b.toNat:=by simp [eS]
theorem nB {n:Nat} (h:n<256):(UInt8.ofNat n).toNat=n:=by rw [UInt8.toNat_ofNat']; omega
theorem aFT {n : Nat} (h : n < 65536) (r : List UInt8) : kC (rJ n ++ r) = .ok (n, r) := by
 unfold rJ
 split
 ·rename_i h1
  rw [List.singleton_append,kC,nB (by omega),if_pos h1]
 ·split
  ·rename_i h1 h2
   show kC (129 :: UInt8.ofNat n :: r)=_
   rw [kC,if_neg (by decide),if_neg (by decide),if_neg (by show ¬ (r.length+1)<1; omega)]
   have e:(UInt8.ofNat n :: r).take ((129:UInt8).toNat - 128)=[UInt8.ofNat n]:=rfl
   rw [e,aJO,nB (by omega),if_neg (by
    rw [show 8 * ((129:UInt8).toNat - 128 - 1)=0 from rfl,Nat.pow_zero]; omega)]
   rfl
  ·rename_i h1 h2
   show kC (130 :: UInt8.ofNat (n / 256) :: UInt8.ofNat n :: r)=_
   rw [kC,if_neg (by decide),if_neg (by decide),if_neg (by show ¬ (r.length+1+1)<2; omega)]
   have e:(UInt8.ofNat (n / 256) :: UInt8.ofNat n :: r).take ((130:UInt8).toNat - 128)=[UInt8.ofNat (n / 256),UInt8.ofNat n]:=rfl
   have e2:(UInt8.ofNat (n / 256)).toNat * 256+(UInt8.ofNat n).toNat=n:=by
    rw [UInt8.toNat_ofNat',UInt8.toNat_ofNat']; omega
   rw [e,aJF,e2,if_neg (by
    rw [show 8 * ((130:UInt8).toNat - 128 - 1)=8 from rfl]; omega)]
   rfl
theorem aIB {s r : List UInt8} {n : Nat} (h : kC s = .ok (n, r)) (hn : n < 65536) : s = rJ n ++ r := by
 cases s with
 | nil=>cases h
 | cons c s =>
  have hc:=c.toNat_lt
  rw [kC] at h
  split at h
  ·rename_i h1
   cases h
   unfold rJ
   rw [if_pos h1,UInt8.ofNat_toNat] <;> rfl
  ·rename_i h1
   split at h
   ·cases h
   ·rename_i h2
    split at h
    ·cases h
    ·rename_i h3
     split at h
     ·cases h
     ·rename_i h4
      cases h
      have hk:c.toNat - 128=1∨c.toNat - 128=2∨c.toNat - 128=3:=by omega
      rcases hk with hk | hk | hk
      ·rw [hk] at h3 h4 hn ⊢
       obtain ⟨a,s',rfl⟩:∃ a s',s=a :: s':=by
        cases s with
        | nil=>simp at h3
        | cons a s'=>exact ⟨a,s',rfl⟩
       have e:(a :: s').take 1=[a]:=rfl
       rw [e,aJO] at h4 hn ⊢
       have ha:=a.toNat_lt
       have hc2:c=129:=UInt8.toNat_inj.1 (by show c.toNat=129; omega)
       unfold rJ
       rw [if_neg (by omega),if_pos (by omega),UInt8.ofNat_toNat,hc2] <;> rfl
      ·rw [hk] at h3 h4 hn ⊢
       obtain ⟨a,b,s',rfl⟩:∃ a b s',s=a :: b :: s':=by
        match s,h3 with
        | [],h3=>simp at h3
        | [a],h3=>simp at h3
        | a :: b :: s',_=>exact ⟨a,b,s',rfl⟩
       have e:(a :: b :: s').take 2=[a,b]:=rfl
       rw [e,aJF] at h4 hn ⊢
       have ha:=a.toNat_lt
       have hb:=b.toNat_lt
       have hc2:c=130:=UInt8.toNat_inj.1 (by show c.toNat=130; omega)
       rw [show 8 * (2 - 1)=8 from rfl] at h4
       have e1:UInt8.ofNat ((a.toNat * 256+b.toNat) / 256)=a:=by
        rw [show (a.toNat * 256+b.toNat) / 256=a.toNat by omega,UInt8.ofNat_toNat]
       have e2:UInt8.ofNat (a.toNat * 256+b.toNat)=b:=UInt8.toNat_inj.1 (by rw [UInt8.toNat_ofNat']; omega)
       unfold rJ
       rw [if_neg (by omega),if_neg (by omega),e1,e2,hc2] <;> rfl
      ·exfalso
       rw [hk] at h3 h4 hn
       rw [show 8 * (3 - 1)=16 from rfl] at h4
       omega
theorem aLU {c t:Int} {m:Bool} (hc:0≤c∧c≤3) (ht:0≤t∧t≤30):(hdB c t m).toNat=c.toNat * 64+t.toNat+if m=true then 32 else 0:=by
 unfold hdB
 rw [nB]
 split <;> omega
theorem aKZ : ∀ m,
  (∀ (d:Der) (lvl n f:Nat) (rest:List UInt8),d.sz≤m→2 * (cR d).length+1≤f→(cR d).length≤65535→(eY lvl n d).1=0→iD f lvl n (cR d++rest) = .ok (d,rest,(eY lvl n d).2)) ∧
  (∀ (ks:List Der) (lvl n f:Nat),szs ks≤m→2 * (cD ks).length+2≤f→(cD ks).length≤65535→(iZ (lvl+1) n ks).1=0→iP f lvl n (cD ks) = .ok (ks,(iZ (lvl+1) n ks).2)):=by
 intro m
 induction m with
 | zero =>
  refine ⟨fun d lvl n f rest hd=>absurd hd (by have:=fW d; omega),fun ks lvl n f hk hf _ _=>?_⟩
  cases ks with
  | nil =>
   obtain ⟨f,rfl⟩:∃ g,f=g+1:=⟨f - 1,by omega⟩
   unfold iP iZ cD; rfl
  | cons k r=>have:=fW k; unfold szs at hk; omega
 | succ m ih =>
  have hV:∀ (d:Der) (lvl n f:Nat) (rest:List UInt8),d.sz≤m+1→2 * (cR d).length+1≤f→(cR d).length≤65535→(eY lvl n d).1=0→iD f lvl n (cR d++rest) = .ok (d,rest,(eY lvl n d).2):=by
   intro d lvl n f rest hd hf hl hc
   obtain ⟨c,t,mm,s,ks⟩:=d
   obtain ⟨f,rfl⟩:∃ g,f=g+1:=⟨f - 1,by omega⟩
   unfold Der.sz at hd
   unfold eY at hc ⊢
   split at hc
   ·cases hc
   rename_i c1
   split at hc
   ·cases hc
   rename_i c2
   split at hc
   ·cases hc
   rename_i c3
   split at hc
   ·cases hc
   rename_i c4
   rw [if_neg c1,if_neg c2,if_neg c3,if_neg c4]
   have hh:=aLU (c:=c) (t:=t) (m:=mm) (by omega) (by omega)
   unfold cR at hf hl ⊢
   generalize hct:s++cD ks=content at *
   simp only [List.cons_append,List.length_cons,List.length_append] at hf hl
   have hcl:content.length<65536:=by omega
   rw [List.cons_append,List.cons_append,List.append_assoc]
   unfold iD
   simp only
   have e32:(hdB c t mm).toNat % 32=t.toNat:=by rw [hh]; split <;> omega
   have e64:(hdB c t mm).toNat / 64=c.toNat:=by rw [hh]; split <;> omega
   rw [if_neg (by rw [e32]; omega),if_neg c3,if_neg c4,aFT hcl]
   simp only
   rw [if_neg (by rw [List.length_append]; omega),List.take_left' rfl,List.drop_left' rfl,e32,e64,Int.toNat_of_nonneg (by omega),Int.toNat_of_nonneg (by omega)]
   cases mm with
   | false =>
    have hks:ks=[]:=Classical.byContradiction fun h=>c2 (.inr ⟨rfl,h⟩)
    subst hks
    rw [if_pos (by rw [hh]; simp; omega)]
    have:content=s:=by rw [← hct]; simp [cD]
    rw [this]
    unfold iZ; rfl
   | true =>
    have hs:s=[]:=Classical.byContradiction fun h=>c2 (.inl ⟨rfl,h⟩)
    subst hs
    rw [if_neg (by rw [hh]; simp; omega)]
    have:content=cD ks:=by rw [← hct] <;> rfl
    rw [this] at hf hcl ⊢
    rw [ih.2 ks lvl (n+1) f (by omega) (by omega) (by omega) hc]
  refine ⟨hV,fun ks=>?_⟩
  induction ks with
  | nil =>
   intro lvl n f _ hf _ _
   obtain ⟨f,rfl⟩:∃ g,f=g+1:=⟨f - 1,by omega⟩
   unfold iP iZ cD; rfl
  | cons k r ihr =>
   intro lvl n f hk hf hl hc
   obtain ⟨f,rfl⟩:∃ g,f=g+1:=⟨f - 1,by omega⟩
   unfold szs at hk
   have hbk:cD (k :: r)=cR k++cD r:=by rw [cD]
   rw [hbk,List.length_append] at hf hl
   rw [hbk]
   rw [uI] at hc ⊢
   split at hc
   ·rename_i h1; exact absurd hc h1
   rename_i h1
   rw [if_neg h1]
   have h1:(eY (lvl+1) n k).1=0:=by simpa using h1
   have hv:=hV k (lvl+1) n f (cD r) (by omega) (by omega) (by omega) h1
   obtain ⟨x,b,hb⟩:∃ x b,cR k=x :: b:=by
    obtain ⟨c,t,mm,s,ks⟩:=k
    unfold cR
    exact ⟨_,_,rfl⟩
   have hlen:0<(cR k).length:=by rw [hb]; simp
   rw [hb] at hv ⊢
   unfold iP
   simp only [List.cons_append] at hv ⊢
   rw [hv]
   simp only
   rw [ihr lvl _ f (by omega) (by omega) (by omega) hc]
theorem aL2 : ∀ f,
  (∀ (lvl n:Nat) (s:List UInt8) (d:Der) (r:List UInt8) (n':Nat),s.length≤65535→iD f lvl n s = .ok (d,r,n')→s=cR d++r∧eY lvl n d=(0,n')) ∧
  (∀ (lvl n:Nat) (s:List UInt8) (ks:List Der) (n':Nat),s.length≤65535→iP f lvl n s = .ok (ks,n')→s=cD ks∧iZ (lvl+1) n ks=(0,n')):=by
 intro f
 induction f with
 | zero =>
  refine ⟨fun lvl n s d r n' _ h=>?_,fun lvl n s ks n' _ h=>?_⟩
  ·unfold iD at h; cases h
  ·unfold iP at h; cases h
 | succ f ih =>
  refine ⟨fun lvl n s d r n' hs h=>?_,fun lvl n s ks n' hs h=>?_⟩
  ·unfold iD at h
   cases s with
   | nil=>cases h
   | cons c s =>
    have hc:=c.toNat_lt
    simp only [List.length_cons] at hs
    simp only at h
    split at h
    ·cases h
    rename_i e31
    split at h
    ·cases h
    rename_i e24
    split at h
    ·cases h
    rename_i e256
    split at h
    ·cases h
    ·rename_i k t hl
     have hsh:=iB hl
     split at h
     ·cases h
     ·rename_i hk
      have hinv:=aIB hl (by omega)
      have htk:(t.take k).length=k:=by rw [List.length_take]; omega
      have hhd:∀ mm:Bool,(mm=true↔c.toNat / 32 % 2≠0)→hdB (c.toNat / 64:Nat) (c.toNat % 32:Nat) mm=c:=by
       intro mm hm
       unfold hdB
       rw [Int.toNat_natCast,Int.toNat_natCast]
       apply UInt8.toNat_inj.1
       rw [UInt8.toNat_ofNat']
       cases mm with
       | true=>have:=hm.1 rfl; simp; omega
       | false =>
        have:¬ c.toNat / 32 % 2≠0:=fun hh=>by have:=hm.2 hh; cases this
        simp; omega
      split at h
      ·rename_i hm
       cases h
       refine ⟨?_, ?_⟩
       ·unfold cR
        rw [hhd false (by simp [hm]),cD,List.append_nil,htk,List.cons_append,List.cons_append,List.append_assoc,List.take_append_drop, ← hinv]
       ·unfold eY
        rw [if_neg (by omega),if_neg (by simp),if_neg e24,if_neg e256]
        unfold iZ; rfl
      ·rename_i hm
       split at h
       ·cases h
       ·rename_i ks n2 hd
        cases h
        obtain ⟨g1,g2⟩:=ih.2 lvl (n+1) (t.take k) ks n' (by omega) hd
        refine ⟨?_, ?_⟩
        ·unfold cR
         rw [hhd true (by simp [hm]),List.nil_append, ← g1,htk,List.cons_append,List.cons_append,List.append_assoc,List.take_append_drop, ← hinv]
        ·unfold eY
         rw [if_neg (by omega),if_neg (by simp),if_neg e24,if_neg e256,g2]
  ·unfold iP at h
   cases s with
   | nil=>cases h; unfold cD iZ; exact ⟨rfl,rfl⟩
   | cons c s =>
    simp only at h
    split at h
    ·cases h
    ·rename_i d t n2 hv
     have hsh:=(jB f).1 _ _ _ _ _ _ hv
     obtain ⟨g1,g2⟩:=ih.1 (lvl+1) n (c :: s) d t n2 hs hv
     split at h
     ·cases h
     ·rename_i ks2 n3 hk
      cases h
      obtain ⟨g3,g4⟩:=ih.2 lvl n2 t ks2 n' (by omega) hk
      refine ⟨?_, ?_⟩
      ·rw [g1,g3,cD]
      ·rw [uI,g2,if_neg (by simp),g4]
theorem oU {d:Der} {t:List UInt8} (h:gY d = .ok t):t=cR d∧t.length≤65535∧jX t = .ok d∧2≤t.length∧(∀ x,x.length+t.length≤65535→x≠[]→jX (t++x) = .error 2):=by
 unfold gY at h
 split at h
 ·cases h
 rename_i h1
 split at h
 ·cases h
 rename_i h2
 cases h
 have h1:(eY 1 0 d).1=0:=by simpa using h1
 have key:=fun f rest hf=>(aKZ d.sz).1 d 1 0 f rest (Nat.le_refl _) hf (by omega) h1
 refine ⟨rfl,by omega, ?_, ?_, ?_⟩
 ·unfold jX
  rw [if_neg h2]
  have:=key (2 * (cR d).length+1) [] (Nat.le_refl _)
  rw [List.append_nil] at this
  rw [this] <;> rfl
 ·obtain ⟨c, t, mm, s, ks⟩ := d
  unfold cR
  have:1≤(rJ (s++cD ks).length).length:=by unfold rJ; split <;> (try split) <;> simp
  simp only [List.length_cons,List.length_append] at *
  omega
 ·intro x hx hne
  unfold jX
  rw [if_neg (by rw [List.length_append]; omega),key _ x (by rw [List.length_append]; omega)]
  simp only
  rw [if_neg hne]
theorem aDH {s:List UInt8} {y:Der} (h:jX s = .ok y):gY y = .ok s:=by
 unfold jX at h
 split at h
 ·cases h
 rename_i hl
 split at h
 ·cases h
 ·rename_i d r n hv
  split at h
  ·rename_i hr
   cases h
   subst hr
   obtain ⟨g1,g2⟩:=(aL2 _).1 _ _ _ _ _ _ (by omega) hv
   rw [List.append_nil] at g1
   unfold gY
   rw [g2,if_neg (by simp), ← g1,if_neg hl]
  ·cases h
theorem mT {s:List UInt8} {e:Int} (h:jX s = .error e):e≠0:=by
 unfold jX at h
 split at h
 ·cases h; decide
 split at h
 ·rename_i hv; cases h; exact (pI _).1 _ _ _ _ (Nat.le_refl _) hv
 ·split at h
  ·cases h
  ·cases h; decide
end Go.Proofs.YtcdkpkkdolmfdaaGreatDoor
namespace Go.Proofs.YtcdkpkkdolmfdaaGreatDoor
open Go.GAM Go.RowKit
theorem aK0 (k:Nat):(iA k).all digB=true:=by
 unfold iA digB
 simp only [List.all_cons,List.all_nil,Bool.and_true,Bool.and_eq_true,decide_eq_true_eq,UInt8.toNat_ofNat']
 omega
theorem aJU (k:Nat) (r:List UInt8):cS (iA k++r)=(k % 100) :: cS r:=by
 show (((UInt8.ofNat (48+k / 10 % 10)).toNat - 48) * 10+((UInt8.ofNat (48+k % 10)).toNat - 48)) :: cS r=_
 rw [UInt8.toNat_ofNat',UInt8.toNat_ofNat']
 congr 1
 omega
theorem aBD {n y m d:Nat} (hn:n≤253402300799) (D:aGG (n / 86400) y m d) :
  ∃ t:Int, ∃ s,lQ y m d (n % 86400)=cO 0 t false s∧s.length≤15∧cP (.mk 0 t false s [])=((n:Int),true):=by
 have hy:=D.y4 (by omega)
 have hy0:=D.y0
 have hb:=iK y m
 have hm:=D.m1
 have hm0:=D.m0
 have hd:=D.d1
 have hd0:=D.d0
 have hr:n % 86400<86400:=Nat.mod_lt _ (by omega)
 have hfin:∀ r,r=n % 86400→s5 y m (d+1) (r / 3600) (r / 60 % 60) (r % 60)=((n:Int),true):=by
  rintro r rfl
  unfold s5
  rw [if_neg (by unfold sW; omega)]
  unfold aF3
  congr 1
  omega
 generalize hre:n % 86400=r at *
 have hfull:∀ c:List UInt8,c=iA (y / 100)++jM y m d r→(if c.getD 14 0=90∧(c.take 14).all digB=true then uR (cS (c.take 14)) else (0,false))=((n:Int),true):=by
  rintro c rfl
  have e:(iA (y / 100)++jM y m d r).take 14=iA (y / 100)++(iA y++(iA m++(iA (d+1)++(iA (r / 3600)++(iA (r / 60 % 60)++(iA (r % 60)++[])))))):=rfl
  rw [e]
  rw [if_pos ⟨rfl,by simp only [List.all_append,aK0,List.all_nil,Bool.and_self]⟩]
  simp only [aJU]
  rw [show cS []=[] from rfl]
  show s5 (100 * (y / 100 % 100)+y % 100) (m % 100) ((d+1) % 100) (r / 3600 % 100) (r / 60 % 60 % 100) (r % 60 % 100)=_
  rw [show 100 * (y / 100 % 100)+y % 100=y by omega,show m % 100=m by omega,show (d+1) % 100=d+1 by omega,show r / 3600 % 100=r / 3600 by omega,show r / 60 % 60 % 100=r / 60 % 60 by omega,show r % 60 % 100=r % 60 by omega]
  exact hfin r rfl
 unfold lQ
 by_cases h50:y<2050
 ·rw [if_pos h50]
  refine ⟨23,_,rfl,by show 13≤15; omega, ?_⟩
  unfold cP qH
  rw [if_neg (by simp [bY]),if_pos (by simp [bY]),if_pos (show (Der.mk 0 23 false (jM y m d r) []).data.length=13 from rfl)]
  have e:(if 53≤((jM y m d r).getD 0 0).toNat then [49,57] else [50,48]:List UInt8)=iA (y / 100):=by
   show (if 53≤(UInt8.ofNat (48+y / 10 % 10)).toNat then [49,57] else [50,48]:List UInt8)=_
   rw [UInt8.toNat_ofNat']
   by_cases h2:y<2000
   ·rw [if_pos (by omega),show y / 100=19 by omega] <;> rfl
   ·rw [if_neg (by omega),show y / 100=20 by omega] <;> rfl
  show (match some ((if 53≤((jM y m d r).getD 0 0).toNat then [49,57] else [50,48]:List UInt8)++jM y m d r) with
   | none=>(0,false)
   | some s=>if s.getD 14 0=90∧(s.take 14).all digB=true then uR (cS (s.take 14)) else (0,false))=_
  rw [e]
  exact hfull _ rfl
 ·rw [if_neg h50]
  refine ⟨24,_,rfl,by show 15≤15; omega, ?_⟩
  unfold cP qH
  rw [if_pos (by simp [bY]),if_pos (show (Der.mk 0 24 false (iA (y / 100)++jM y m d r) []).data.length=15 from rfl)]
  exact hfull _ rfl
end Go.Proofs.YtcdkpkkdolmfdaaGreatDoor
namespace Go.Proofs.YtcdkpkkdolmfdaaGreatDoor
open Go.GAM Go.RowKit
section
variable {h:aA} {Q:AV→aA→Prop}
abbrev Bld (h:aA) (id off:Nat) (cs:List AV) (buf:AV) (l:List UInt8):Prop:=iQ prog 110 5 h id off cs buf l
theorem aND {f:FuncId} {v:AV} (hm:(f,aCH)∈fR) (hk:Q v h):C f [v] h Q:=aH4 hm hk
theorem aH5 {α:Type} {l:List α} {i:Nat} {a:α} (h:l[i]? = some a):l.set i a=l:=by
 apply List.ext_getElem?
 intro j
 by_cases hj:i=j
 ·subst hj; rw [List.getElem?_set_self (bH h),h]
 ·rw [List.getElem?_set_ne hj]
theorem aBQ {id off n:Nat} {cs:List AV} {buf:AV} {l:List UInt8} (B:Bld h id off cs buf l) (hn:n=cs.length)
  (hq:∀ h',h'.length=h.length→Upd (· = id) h h'→Bld h' id off (cs.set off (.p (some ⟨id,n,off⟩))) buf l→Q (.tu []) h'):C Y91.id [.p (some ⟨id,n,off⟩)] h Q:=by
 subst hn
 refine Y91.call ?_
 simp only [Y91.t]
 have hr:=B.room
 have hne:off≠off+1:=by omega
 have cell1:∀ v:AV,(cs.set off v)[off+1]? = some buf:=fun v=>by rw [List.getElem?_set_ne hne]; exact B.cell
 have cell0:∀ v:AV,(cs.set off v)[off]? = some v:=fun v=>by rw [List.getElem?_set_self (by omega)]
 rcases B.addr with h0 | h0
 ·refine bI (aN (aP B.rec' rfl h0 (aJ8 (by kernel_rfl) (aQ (aO rfl ?_)))))
  refine qW B.rec' rfl (by omega) (aND Y104.row ?_)
  refine B.fromUnsafe (bI (aN ?_))
  refine B.store (by omega) rfl rfl rfl (.inr (cell0 _)) (cell1 _) B.is B.own fun h1 hl1 U1 B1=>?_
  exact .inl (hq h1 hl1 U1 B1)
 ·refine bI (aN (aP B.rec' rfl h0 (aHO (by kernel_rfl) (aQ (aM rfl ?_)))))
  refine bI (aN (aP B.rec' rfl h0 (aG0 (by kernel_rfl) (aQ (aM rfl ?_)))))
  have e:cs.set off (.p (some ⟨id,cs.length,off⟩))=cs:=aH5 h0
  refine .inl (hq h rfl (Upd.refl _ _) ?_)
  rw [e]; exact B
def wrB (cs:List AV) (id off:Nat) (buf:AV):List AV:=(cs.set off (.p (some ⟨id,cs.length,off⟩))).set (off+1) buf
theorem aMC {cs:List AV} {id off:Nat} {buf:AV}:(wrB cs id off buf).length=cs.length:=by simp [wrB]
theorem aBJ {id off n:Nat} {cs:List AV} {buf:AV} {l:List UInt8} {c:UInt8} {k:Int} (B:Bld h id off cs buf l) (hn:n=cs.length) (hk:k=(c.toNat:Int)) (hl:l.length<100000000)
  (hq:∀ buf' h',Upd (fun i=>i=id∨bU buf i) h h'→Bld h' id off (wrB cs id off buf') buf' (l++[c])→(∀ i,bU buf' i→bU buf i∨h.length≤i)→Q .ni h'):C Y85.id [.p (some ⟨id,n,off⟩),.i .u8 k] h Q:=by
 subst hn; subst hk
 refine Y85.call ?_
 simp only [Y85.t]
 refine aBQ B rfl fun h1 hl1 U1 B1=>?_
 have hr:=B.room
 have hlt:=B.lt
 have hcl:cs.length=(cs.set off (.p (some ⟨id,cs.length,off⟩))).length:=by simp
 refine bI (aN (aP B1.rec' hcl B1.cell ?_))
 refine eG (cs:=[byteAV c]) rfl rfl fun y h2 hl2 U2 R2 F2=>?_
 have B2:=B1.upd U2 (fun h=>h) fun _ _ h=>h
 refine B2.is.append (t:=[c]) (fun K hK=>R2.news hK) (by simp; omega) fun v' h3 U3 T3 F3=>?_
 have hown:¬ bU v' id:=fun hi=>by
  rcases F3 id hi with h | h
  ·exact B.own h
  ·omega
 have hUall:Upd (fun i=>i=id∨bU buf i) h h3:=((U1.mono fun _ _ h=>Or.inl h).trans (U2.mono fun _ _ h=>h.elim) fun _ _ h=>h).trans (U3.mono fun _ _ h=>.inr h) fun _ _ h=>h
 refine bI (aN ?_)
 rw [hcl]
 refine B2.put U3 T3 hown fun h4 hl4 U4 B4=>?_
 refine .inl (hq v' h4 (hUall.trans (U4.mono fun _ _ h=>.inl h) fun _ _ h=>h) B4 fun i hi=>?_)
 rcases F3 i hi with h | h
 ·exact .inl h
 ·exact .inr (by omega)
theorem aHA {id off n:Nat} {cs:List AV} {buf:AV} {l:List UInt8} (B:Bld h id off cs buf l) (hn:n=cs.length) (hl:l.length≤100000000) (hq:∀ h',Upd (bU buf) h h'→h'.length=h.length→Q (.s l) h'):C Y86.id [.p (some ⟨id,n,off⟩)] h Q:=by
 subst hn
 refine Y86.call ?_
 simp only [Y86.t]
 have hlen:∀ K:Int→Prop,K (l.length:Int)→bN buf K:=fun K hk=>by
  rcases B.is with ⟨rfl,rfl⟩ | ⟨_,_,rfl,_⟩ <;> exact hk
 refine bI (aN (aP B.rec' rfl B.cell (bI (aN (aP B.rec' rfl B.cell (hlen _ ?_))))))
 refine B.is.data ?_
 refine aP B.rec' rfl B.cell ⟨rfl, ?_⟩
 refine B.is.text (by kernel_rfl) (by kernel_rfl) (by omega) fun h1 hl1 U1=>?_
 refine bC ?_
 have R1:=B.rec'.upd U1 B.own
 refine aP R1 rfl B.cell ⟨rfl,aP R1 rfl B.cell ⟨rfl,.inl (hq h1 U1 hl1)⟩⟩
def bL:List UInt8→List UInt8→List (List UInt8)
 | cur,[]=>[cur]
 | cur,[c]=>if c=44 then [cur,[]] else [cur++[c]]
 | cur,c :: d :: r=>if c=92 then bL (cur++[c,d]) r else if c=44 then cur :: bL [] (d :: r) else bL (cur++[c]) (d :: r)
theorem hP:∀ (cur s:List UInt8),(bL cur s).length≤s.length+1
 | cur,[]=>by simp [bL]
 | cur,[c]=>by unfold bL; split <;> simp
 | cur, c :: d :: r => by
  have h1:=hP (cur++[c,d]) r
  have h2:=hP [] (d :: r)
  have h3:=hP (cur++[c]) (d :: r)
  unfold bL
  simp only [List.length_cons] at *
  split
  ·omega
  ·split
   ·simp only [List.length_cons]; omega
   ·omega
def cM:List UInt8→List UInt8
 | []=>[]
 | [c]=>[c]
 | c :: d :: r=>if c=92 then d :: cM r else c :: cM (d :: r)
theorem o0:∀ s:List UInt8,(cM s).length≤s.length
 | []=>by simp [cM]
 | [c]=>by simp [cM]
 | c :: d :: r => by
  have h1:=o0 r
  have h2:=o0 (d :: r)
  unfold cM
  split <;> simp only [List.length_cons] at * <;> omega
theorem aIT {s : List UInt8} (hs : s.length ≤ 1000000) (hq : ∀ v h', fZ h h' v ((bL [] s).map .s) → Q v h') :
  ∀ (k i:Nat) (v:AV) (frm:Nat) (done:List (List UInt8)) (hx:aA),s.length≤i+k→i≤s.length+1→frm≤i→frm≤s.length→fZ h hx v (done.map .s)→done.length≤i→done++bL ((s.take i).drop frm) (s.drop i)=bL [] s →
  Y34.p0 (aK h Q) s v (frm:Int) (i:Int) hx:=by
 intro k
 induction k using Nat.strongRecOn with
 | _ k ih =>
  intro i v frm done hx hk hi hf hf2 S hd he
  refine Y34.i0 ?_
  simp only [Y34.t0, ← Y34.p1.eq_1]
  by_cases hlt:i<s.length
  ·refine aO (decide_eq_true (by omega)) ?_
   obtain ⟨c,hc⟩:∃ c,s[i]? = some c:=⟨s[i],List.getElem?_eq_getElem hlt⟩
   have hdr:=eO hc
   refine cQ hdr ?_
   have p1:∀ (v:AV) (frm j:Nat) (done:List (List UInt8)) (hy:aA),i≤j→j≤s.length→frm≤j+1→frm≤s.length→fZ h hy v (done.map .s)→done.length≤j+1→done++bL ((s.take (j+1)).drop frm) (s.drop (j+1))=bL [] s →
     Y34.p1 (aK h Q) s v (frm:Int) (j:Int) hy:=by
    intro v frm j done hy hij hjs hf hf2 S hd he
    refine Y34.i1 ?_
    simp only [Y34.t1, ← Y34.p0.eq_1]
    exact inc (by omega) (ih (s.length - (j+1)) (by omega) (j+1) v frm done hy (by omega) (by omega) hf hf2 S hd he)
   rw [hdr] at he
   have htk:∀ frm,frm≤i→(s.take (i+1)).drop frm=(s.take i).drop frm++[c]:=fun frm hf=>by
    rw [dI hc,List.drop_append_of_le_length (by simp; omega)]
   refine aG (fun e=>?_) fun e=>?_
   ·have e92 : c = 92 := by rw [show (92 : Int) = ((92 : UInt8).toNat : Int) by rfl, iV] at e; exact of_decide_eq_true e
    refine aI (show IntKind.wrap .i64 ((i:Int)+1)=((i+1:Nat):Int) by rw [aJ (by omega) (by omega)]; omega) ?_
    refine p1 v frm (i+1) done hx (by omega) (by omega) (by omega) hf2 S (by omega) ?_
    rw [← he]
    cases hr:s.drop (i+1) with
    | nil =>
     have hl1:=cB hr
     have e1:s.take (i+1+1)=s.take (i+1):=by rw [List.take_of_length_le (by omega),List.take_of_length_le (by omega)]
     have e2:s.drop (i+1+1)=[]:=List.drop_eq_nil_of_le (by omega)
     rw [e1,e2,htk frm hf,e92]
     simp [bL]
    | cons d r =>
     have hd1:=b7 hr
     have e2:=b4 hr
     rw [dI hd1,List.drop_append_of_le_length (by have:=cI hr; simp; omega),htk frm hf,e2,e92]
     conv=>rhs; rw [bL,if_pos rfl]
     simp
   ·have e92 : c ≠ 92 := by rw [show (92 : Int) = ((92 : UInt8).toNat : Int) by rfl, iV] at e; exact of_decide_eq_false e
    refine aG (fun e2=>?_) fun e2=>?_
    ·have e44 : c = 44 := by rw [show (44 : Int) = ((44 : UInt8).toNat : Int) by rfl, iV] at e2; exact of_decide_eq_true e2
     refine tS hf (by omega) ?_
     refine fZ.push S rfl rfl (by simp; omega) (by simp; omega) fun v' h' S' _ _=>?_
     refine aI (show IntKind.wrap .i64 ((i:Int)+1)=((i+1:Nat):Int) by rw [aJ (by omega) (by omega)]; omega) ?_
     refine p1 v' (i+1) i (done++[(s.take i).drop frm]) h' (Nat.le_refl _) (by omega) (Nat.le_refl _) (by omega) (by simpa using S') (by simp; omega) ?_
     rw [← he]
     have e3:(s.take (i+1)).drop (i+1)=[]:=List.drop_eq_nil_of_le (by simp; omega)
     rw [e3]
     cases hr:s.drop (i+1) with
     | nil=>simp [bL,e44]
     | cons d r=>simp [bL,e44]
    ·have e44 : c ≠ 44 := by rw [show (44 : Int) = ((44 : UInt8).toNat : Int) by rfl, iV] at e2; exact of_decide_eq_false e2
     refine p1 v frm i done hx (Nat.le_refl _) (by omega) (by omega) hf2 S (by omega) ?_
     rw [← he,htk frm hf]
     cases hr:s.drop (i+1) with
     | nil=>simp [bL,e44]
     | cons d r=>simp [bL,e44,e92]
  ·refine aM (decide_eq_false (by omega)) ?_
   have e1:s.take i=s:=List.take_of_length_le (by omega)
   have e2:s.drop i=[]:=List.drop_eq_nil_of_le (by omega)
   rw [e1,e2] at he
   refine gN hf2 ?_
   refine fZ.push S rfl rfl (by simp; omega) (by simp; omega) fun v' h' S' _ _=>?_
   refine .inl (hq v' h' ?_)
   rw [← he]
   simpa [bL] using S'
theorem aB6 {s:List UInt8} (hs:s.length≤1000000) (hq:∀ v h',fZ h h' v ((bL [] s).map .s)→Q v h'):C Y34.id [.s s] h Q:=by
 refine Y34.call ?_
 simp only [Y34.t, ← Y34.p0.eq_1]
 exact aIT hs hq s.length 0 _ 0 [] h (by omega) (by omega) (by omega) (by omega) (fZ.start h) (by simp) (by simp)
theorem aIY {s : List UInt8} (hs : s.length ≤ 1000000) (hq : Q (.s (cM s)) h) {id : Nat} (hid : h.length ≤ id) :
  ∀ (k i:Nat) (cs:List AV) (buf:AV) (done:List UInt8) (hx:aA),s.length≤i+k→i≤s.length→cs.length=2→Upd (fun _=>False) h hx→(∀ j,bU buf j→h.length≤j)→Bld hx id 0 cs buf done→done.length≤i→done++cM (s.drop i)=cM s →
  Y25.p0 (aK h Q) s (.p (some ⟨id,2,0⟩)) (i:Int) hx:=by
 intro k
 induction k using Nat.strongRecOn with
 | _ k ih =>
  intro i cs buf done hx hk hi hcl U hb B hd he
  refine Y25.i0 ?_
  simp only [Y25.t0, ← Y25.p1.eq_1]
  by_cases hlt:i<s.length
  ·refine aO (decide_eq_true (by omega)) ?_
   obtain ⟨c,hc⟩:∃ c,s[i]? = some c:=⟨s[i],List.getElem?_eq_getElem hlt⟩
   have hdr:=eO hc
   refine cQ hdr ?_
   rw [hdr] at he
   have p2:∀ (j:Nat) (d:UInt8),i≤j→s[j]? = some d→done++d :: cM (s.drop (j+1))=cM s→Y25.p2 (aK h Q) s (.p (some ⟨id,2,0⟩)) (j:Int) hx:=by
    intro j d hij hjd he
    have hjl:=bH hjd
    refine Y25.i2 ?_
    simp only [Y25.t2, ← Y25.p0.eq_1]
    refine cQ (eO hjd) ?_
    refine aBJ B hcl.symm rfl (by omega) fun buf' h' U' B' F'=>?_
    refine inc (by omega) ?_
    have hlen:=U.1
    refine ih (s.length - (j+1)) (by omega) (j+1) _ buf' _ h' (by omega) (by omega) (by rw [aMC,hcl]) (U.trans U' fun j hj hm=>?_) (fun j hj=>?_) B' (by simp; omega) (by simpa using he)
    ·rcases hm with rfl | hm
     ·omega
     ·have:=hb j hm; omega
    ·rcases F' j hj with h | h
     ·exact hb j h
     ·omega
   have p1t:∀ d,s[i+1]? = some d→c=92→Y25.p1 (aK h Q) s (.p (some ⟨id,2,0⟩)) (i:Int) true hx:=by
    intro d hd1 hc92
    refine Y25.i1 ?_
    simp only [Y25.t1, ← Y25.p2.eq_1]
    refine aO rfl (aI (show IntKind.wrap .i64 ((i:Int)+1)=((i+1:Nat):Int) by rw [aJ (by omega) (by omega)]; omega) ?_)
    refine p2 (i+1) d (by omega) hd1 ?_
    rw [← he,eO hd1,hc92]
    simp [cM]
   have p1f:(c≠92∨s.drop (i+1)=[])→Y25.p1 (aK h Q) s (.p (some ⟨id,2,0⟩)) (i:Int) false hx:=by
    intro hn
    refine Y25.i1 ?_
    simp only [Y25.t1, ← Y25.p2.eq_1]
    refine aM rfl (p2 i c (Nat.le_refl _) hc ?_)
    rw [← he]
    cases hr:s.drop (i+1) with
    | nil=>simp [cM]
    | cons d r =>
     rw [hr] at hn
     have hn':c≠92:=hn.resolve_right (by simp)
     simp [cM,hn']
   refine aG (fun e=>?_) fun e=>?_
   ·have e92 : c = 92 := by rw [show (92 : Int) = ((92 : UInt8).toNat : Int) by rfl, iV] at e; exact of_decide_eq_true e
    refine aI (show IntKind.wrap .i64 ((i:Int)+1)=((i+1:Nat):Int) by rw [aJ (by omega) (by omega)]; omega) ?_
    by_cases h2:i+1<s.length
    ·rw [decide_eq_true (by omega : ((i + 1 : Nat) : Int) < (s.length : Int))]
     exact p1t s[i+1] (List.getElem?_eq_getElem h2) e92
    ·rw [decide_eq_false (by omega : ¬ ((i + 1 : Nat) : Int) < (s.length : Int))]
     exact p1f (.inr (List.drop_eq_nil_of_le (by omega)))
   ·have e92 : c ≠ 92 := by rw [show (92 : Int) = ((92 : UInt8).toNat : Int) by rfl, iV] at e; exact of_decide_eq_false e
    exact p1f (.inl e92)
  ·refine aM (decide_eq_false (by omega)) ?_
   rw [List.drop_eq_nil_of_le (by omega)] at he
   simp only [cM,List.append_nil] at he
   subst he
   refine aHA B hcl.symm (by omega) fun h' U' hl'=>bC ?_
   refine aV rfl (U.trans U' fun j hj hm=>?_).ext hq
   have:=hb j hm; omega
theorem aAH {s:List UInt8} (hs:s.length≤1000000) (hq:Q (.s (cM s)) h):C Y25.id [.s s] h Q:=by
 refine Y25.call ?_
 simp only [Y25.t, ← Y25.p0.eq_1]
 have U:Upd (fun _=>False) h (h++[bP [.p none,.sl none 0 none] 1 true (some 110)]):=Upd.app _ _
 refine aIY hs hq (Nat.le_refl _) s.length 0 [.p none,.sl none 0 none] _ [] _ (by omega) (by omega) rfl U (fun j hj=>(show bU (.sl none 0 none) j from hj).elim) ?_ (by simp) (by simp)
 exact ⟨⟨bP [.p none,.sl none 0 none] 1 true (some 110),110,by simp,rfl,Nat.le_refl _,rfl,rfl,by kernel_rfl⟩,by decide,.inl rfl,rfl,.inl ⟨rfl,rfl⟩,fun h=>h.elim⟩
end
end Go.Proofs.YtcdkpkkdolmfdaaGreatDoor
namespace Go.GAM
def jS (h:aA) (id:Nat) (cs:List AV):Prop:=∃ b:ABlk,h[id]? = some b∧b.cells=cs∧b.floor≤cs.length∧b.gl=true
theorem jS.upd {M:Nat→Prop} {h h':aA} {id:Nat} {cs:List AV} (G:jS h id cs) (U:Upd M h h') (hM:¬ M id):jS h' id cs:=by
 obtain ⟨b,h1,h2⟩:=G
 exact ⟨b,(U.2 id (bH h1) hM).trans h1,h2⟩
theorem jS.var {h:aA} {id:Nat} {cs:List AV} (G:jS h id cs):bE h id = .p (some ⟨id,cs.length,0⟩):=by
 obtain ⟨b,h1,rfl,h3,h4⟩:=G
 unfold bE
 rw [h1]
 simp only [h4,Bool.true_and,Nat.ble_eq_true_of_le h3,cond_true]
theorem jS.loadN {h:aA} {id n:Nat} {cs:List AV} {K:AV→Prop} (G:jS h id cs) (hn:n=cs.length) (hk:K (.ag cs)):aD n (bE h id) h K:=by
 rw [G.var]
 obtain ⟨b,h1,rfl,h3,h4⟩:=G
 subst hn
 refine ⟨b,h1,⟨h3,Nat.le_refl _,by simp⟩, ?_⟩
 simpa using hk
theorem jS.load1 {h:aA} {id:Nat} {v:AV} {K:AV→Prop} (G:jS h id [v]) (hk:K v):aE (bE h id) h K:=by
 rw [G.var]
 obtain ⟨b,h1,h2,h3,h4⟩:=G
 refine ⟨b,h1,⟨h3,by rw [h2]; exact Nat.le_refl _,by simp⟩, ?_⟩
 rw [h2]; exact hk
end Go.GAM
namespace Go.Proofs.YtcdkpkkdolmfdaaGreatDoor
open Go.GAM Go.RowKit
section
variable {h:aA} {Q:AV→aA→Prop}
theorem RdI.elem {sz:Nat} {h:aA} {v:AV} {cs:List AV} {len:Nat} (R:RdI sz h v cs len) {k:IntKind} {i:Int} (h0:0≤i) (h1:i<len) {K:AV→Prop} (hk:K (.ag ((cs.drop (i.toNat * sz)).take sz))) :
  aB sz v (.i k i) h fun a=>aD sz a h K:=by
 obtain ⟨j,rfl⟩:∃ j:Nat,i=j:=⟨i.toNat,by omega⟩
 obtain ⟨p,A,hp⟩:=R.at (i:=j) (by omega)
 exact hp k h _ (Upd.refl _ _) (A.loadN (by simpa using hk))
def cH:List (List UInt8 × List UInt8):=[([67,78],[50,46,53,46,52,46,51]),([79],[50,46,53,46,52,46,49,48]),([79,85],[50,46,53,46,52,46,49,49]),([67],[50,46,53,46,52,46,54])]
structure CG (h:aA):Prop where
 seq:jS h 0 [.i .i64 0,.i .i64 16,.b true]
 set:jS h 8 [.i .i64 0,.i .i64 17,.b true]
 att:∃ v,jS h 7 [v]∧RdI 2 h v (cH.flatMap fun x=>[.s x.1,.s x.2]) 4
theorem CG.ext {h':aA} (G:CG h) (U:Upd (fun _=>False) h h'):CG h':=by
 obtain ⟨v,g1,g2⟩:=G.att
 exact ⟨G.seq.upd U fun h=>h,G.set.upd U fun h=>h,v,g1.upd U fun h=>h,g2.ext U⟩
def shp (c t:Int) (m:Bool):AV:=.ag [.i .i64 c,.i .i64 t,.b m]
theorem aH6 {c t c' t':Int} {m m':Bool} {K:AV→Prop} (hk:K (.b (decide (c=c')&&(decide (t=t')&&(m == m'))))):gB prog .eql 46 (shp c t m) (shp c' t' m') K:=by
 have hg:Program.eqGuardType prog prog.depth 46=false:=by kernel_rfl
 have hst:prog.stoodInHeld 46=false:=by kernel_rfl
 have hi:=aEJ (P:=prog) (d:=62) (kt:=3) (q:=.i64) (by kernel_rfl)
 have h4:prog.underlying 4=some .bool:=Tryz.underlying4
 have h3:prog.underlying 3=some (.int .i64):=by kernel_rfl
 have e:aEq prog 64 46 (shp c t m) (shp c' t' m')=some (decide (c=c')&&(decide (t=t')&&(m == m'))):=by
  show aEq prog (63+1) 46 (.ag [.i .i64 c,.i .i64 t,.b m]) (.ag [.i .i64 c',.i .i64 t',.b m'])=_
  unfold aEq
  rw [show prog.underlying 46=_ from Tryz.underlying46]
  simp only [hst]
  have hb:aEq prog 63 4 (.b m) (.b m')=some (m == m'):=by
   show aEq prog (62+1) 4 (.b m) (.b m')=_
   unfold aEq
   rw [h4]
  simp [hi,hb,h3,h4]
  rw [Bool.eq_iff_iff]; simp
 show (bif Program.eqGuardType prog prog.depth 46 then False else match aEq prog 64 46 (shp c t m) (shp c' t' m') with
  | some r=>fF .eql r K
  | none=>False)
 rw [hg,e]
 exact hk
def isS (c t:Int) (m:Bool):Der→Bool | .mk c' t' m' _ _=>decide (c'=c)&&(decide (t'=t)&&(m' == m))
def Der.kids:Der→List Der | .mk _ _ _ _ ks=>ks
theorem dJ {c t:Int} {m:Bool} {d:Der} {cs:List AV} {F:Nat→Prop} (D:DV h F d cs) (hq:Q (.b (isS c t m d)) h):C Y55.id [shp c t m,.ag cs] h Q:=by
 refine Y55.call ?_
 simp only [Y55.t]
 refine dY rfl fun h1 hl1 U1 R1=>?_
 have D1:=D.ext U1
 refine D1.box fun h2 hl2 U2 R2 D2=>?_
 have R1':=R1.upd U2 fun h=>h
 have hcl:=D.len
 cases D with
 | @mk c' t' m' s ks v rows ks1 sv1 f1 o1=>
 refine aN (aP R2 hcl.symm rfl (aS (aN (aP R2 hcl.symm rfl (aS (aN (aP R2 hcl.symm rfl (aQ ?_))))))))
 refine aT R1' rfl ?_
 refine aH6 (aQ ?_)
 exact aV rfl (U1.trans U2 fun _ _ h=>h).ext hq
theorem DV.kidsLen {d:Der} {cs:List AV} {F:Nat→Prop} (D:DV h F d cs):∃ v rows,cs[4]? = some v∧DVs h F d.kids rows∧kO 5 h v rows.flatten rows.length∧rows.length=d.kids.length∧(∀ i,bU v i→F i∧i<h.length):=by
 cases D with
 | @mk c' t' m' s ks v rows ks1 sv1 f1 o1=>exact ⟨v,rows,rfl,ks1,sv1,ks1.length.symm,f1⟩
theorem mK {c t n:Int} {m:Bool} {d:Der} {cs:List AV} {F:Nat→Prop} (D:DV h F d cs) {v:AV} (hv:cs[4]? = some v) (hq:∀ h',Upd (fun _=>False) h h'→Q (.tu [v,.b (isS c t m d&&(decide (n<0)||decide ((d.kids.length:Int)=n)))]) h') :
  C Y36.id [shp c t m,.ag cs,.i .i64 n] h Q:=by
 refine Y36.call ?_
 simp only [Y36.t, ← Y36.p0.eq_1]
 refine dY rfl fun h1 hl1 U1 R1=>?_
 have D1:=D.ext U1
 refine D1.box fun h2 hl2 U2 R2 D2=>?_
 have R1':=R1.upd U2 fun h=>h
 have hcl:=D.len
 obtain ⟨v',rows,hv',hks,hsa,hrl,_⟩:=D2.kidsLen
 rw [hv] at hv'; cases hv'
 have p0:∀ b,b=(isS c t m d&&(decide (n<0)||decide ((d.kids.length:Int)=n)))→Y36.p0 (aK h Q) v b h2:=by
  intro b hb
  refine Y36.i0 ?_
  simp only [Y36.t0]
  subst hb
  exact .inl (hq h2 (U1.trans U2 fun _ _ h=>h))
 refine aN (aP R2 hcl.symm hv (aT R1' rfl (aT R2 hcl.symm ?_)))
 refine dJ D2 (aQ (aP R2 hcl.symm hv ⟨rfl, ?_⟩))
 refine aG (fun e=>?_) fun e=>p0 _ (by rw [e] <;> rfl)
 refine aG (fun e2=>p0 _ (by rw [e,e2] <;> rfl)) fun e2=>?_
 refine aN (aP R2 hcl.symm hv (hsa.len (p0 _ ?_)))
 rw [e,e2,hrl] <;> rfl
end
end Go.Proofs.YtcdkpkkdolmfdaaGreatDoor
namespace Go.Proofs.YtcdkpkkdolmfdaaGreatDoor
open Go.GAM Go.RowKit
theorem DV.cells' {h:aA} {F:Nat→Prop} {d:Der} {cs:List AV} (D:DV h F d cs):cs.all AV.cellOK=true:=by
 cases D with
 | mk _ _ _ hc=>simp [AV.cellOK] at hc ⊢; exact hc
def gQ (o:List UInt8):List UInt8:=cH.foldl (fun n x=>if x.2=o then x.1 else n) []
def sps:List UInt8:=[92,44,61]
def gJ (a b:Der):Option (List UInt8):=
 if (eA a).2=true∧(eU b).2=true∧gQ (eA a).1≠[] then some ((gQ (eA a).1++[61])++bW sps (eU b).1) else none
def lD (s : Der) : Option (List UInt8) :=
 if isS 0 17 true s=true then match s.kids with
  | [k] => if isS 0 16 true k = true then match k.kids with
   | [a,b]=>gJ a b
   | _=>none
   else none
  | _=>none
 else none
def fK : List Der → Option (List (List UInt8))
 | []=>some []
 | s :: r => match lD s with
  | none=>none
  | some x => match fK r with
   | none=>none
   | some l=>some (x :: l)
def cE (d:Der):Option (List UInt8):=if isS 0 16 true d=true then (fK d.kids).map fun l=>Lib.join l [44] else none
def pU:Option (List UInt8)→AV
 | none=>.tu [.s [],.i .i64 2]
 | some t=>.tu [.s t,.i .i64 0]
def oQ (d:Der):Prop:=d.kids.length≤4000∧∀ s∈d.kids, ∀ k∈s.kids, ∀ x∈k.kids,x.data.length≤100000
theorem oO (o:List UInt8):(gQ o).length≤2:=by
 have:∀ (l:List (List UInt8 × List UInt8)) (n:List UInt8),n.length≤2→(∀ x∈l,x.1.length≤2)→(l.foldl (fun n x=>if x.2=o then x.1 else n) n).length≤2:=by
  intro l
  induction l with
  | nil=>intro n hn _; exact hn
  | cons x l ih =>
   intro n hn hl
   rw [List.foldl_cons]
   refine ih _ ?_ fun y hy=>hl y (by simp [hy])
   split
   ·exact hl x (by simp)
   ·exact hn
 exact this cH [] (by simp) (by decide)
theorem uW:sps.Nodup:=by decide
theorem uV (b:Der):(eU b).1.length≤b.data.length:=by unfold eU; split <;> simp
theorem yE {a b:Der} {x:List UInt8} (h:gJ a b=some x) (hb:b.data.length≤100000):x.length≤200010:=by
 unfold gJ at h
 split at h
 ·cases h
  have h1:=oO (eA a).1
  have h2:=iI uW (eU b).1
  have h3:=nZ uW (eU b).1
  have h4:=uV b
  simp only [List.length_append,List.length_cons,List.length_nil]; omega
 ·cases h
theorem aIQ {s : Der} {x : List UInt8} (h : lD s = some x) (hb : ∀ k ∈ s.kids, ∀ x ∈ k.kids, x.data.length ≤ 100000) : x.length ≤ 200010 := by
 unfold lD at h
 split at h
 ·split at h
  ·rename_i k hk
   split at h
   ·split at h
    ·rename_i a b hab
     exact yE h (hb k (by rw [hk]; simp) b (by rw [hab]; simp))
    ·cases h
   ·cases h
  ·cases h
 ·cases h
theorem aAR (sep : UInt8) (M : Nat) : ∀ l : List (List UInt8), (∀ x ∈ l, x.length ≤ M) → (Lib.join l [sep]).length ≤ l.length * (M + 1)
 | [],_=>by simp [Lib.join_nil]
 | x :: r, h => by
  rw [Lib.join_cons,List.length_append,List.length_cons]
  have hx:=h x (by simp)
  have key:∀ r:List (List UInt8),(∀ x∈r,x.length≤M)→(Lib.joinTail [sep] r).length≤r.length * (M+1):=by
   intro r
   induction r with
   | nil=>intro _; simp [Lib.joinTail]
   | cons y r ih =>
    intro hr
    have:=ih fun z hz=>hr z (by simp [hz])
    have hy:=hr y (by simp)
    unfold Lib.joinTail at *
    simp only [List.map_cons,List.flatten_cons,List.length_append,List.length_cons,List.length_nil,Nat.add_mul,Nat.one_mul] at *
    omega
  have:=key r fun z hz=>h z (by simp [hz])
  rw [Nat.add_mul,Nat.one_mul]; omega
section
variable {h:aA} {Q:AV→aA→Prop}
def kU (ok:Bool) (done:List (List UInt8)) (r:List Der):Option (List UInt8):=match fK r with
 | none=>none
 | some l=>if ok=true then some (Lib.join (done++l) [44]) else none
theorem kO.row {h:aA} {F:Nat→Prop} {v:AV} {ks:List Der} {rows:List (List AV)} (hks:DVs h F ks rows) (S:kO 5 h v rows.flatten rows.length) {i:Nat} {k:Der} (hk:ks[i]? = some k) :
  ∃ id ver off cap r, v = .sl (some ⟨id, ver, off⟩) rows.length cap ∧ DV h F k r ∧
   ∀ h',Upd (fun _=>False) h h'→(∀ (kk:IntKind) (K:AV→Prop),K (.p (some ⟨id,ver,off+i * 5⟩))→aB 5 v (.i kk (i:Int)) h' K)∧∀ K:AV→Prop,K (.ag r)→aD 5 (.p (some ⟨id,ver,off+i * 5⟩)) h' K:=by
 obtain ⟨r,hr,D⟩:=hks.get hk
 have hi:i<rows.length:=bH hr
 obtain ⟨id,ver,off,cap,b,rfl,RA⟩:=S.at (by omega)
 refine ⟨id,ver,off,cap,r,rfl,D,fun h' U=>?_⟩
 have RA':=RA.upd U fun h=>h
 exact ⟨fun kk K hK=>b8 RA' hi hK,fun K hK=>tW RA' hi (nF rows i r hks.len5 hr) hK⟩
theorem aMB {x5 x10 x14 : Bool} {x6 v va : AV} {x12 x13 : List UInt8} {n i : Int} {h0 : aA} (hA : RdI 2 h0 va (cH.flatMap fun x => [.s x.1, .s x.2]) 4)
  (next:∀ (h':aA) (b:Bool),Upd (fun _=>False) h h'→b = !(x10&&(x14 && !(decide (gQ x12=[]))))→Y15.p3 Q x5 x6 x13 (gQ x12) v n i b h') :
  ∀ (k j:Nat) (hx:aA),4=j+k→Upd (fun _=>False) h0 hx→Upd (fun _=>False) h hx→Y15.p1 Q x5 x6 x10 x12 x13 x14 ((cH.take j).foldl (fun n x=>if x.2=x12 then x.1 else n) []) v n i va 4 (j:Int) hx:=by
 intro k
 induction k with
 | zero =>
  intro j hx hj U0 U
  obtain rfl:j=4:=by omega
  refine Y15.i1 ?_
  simp only [Y15.t1, ← Y15.p3.eq_1]
  refine aM (by decide) ?_
  have e:(cH.take 4).foldl (fun n x=>if x.2=x12 then x.1 else n) []=gQ x12:=rfl
  rw [e]
  cases x10 with
  | false=>exact aO rfl (next hx true U (by simp))
  | true =>
   refine aM rfl ?_
   cases x14 with
   | false=>exact aO rfl (next hx true U (by simp))
   | true=>exact aM rfl (next hx _ U (by simp))
 | succ k ih =>
  intro j hx hj U0 U
  obtain ⟨x,hc⟩:∃ x,cH[j]? = some x:=⟨cH[j]'(by show j<4; omega),List.getElem?_eq_getElem _⟩
  have htk:=dI hc
  refine Y15.i1 ?_
  simp only [Y15.t1, ← Y15.p2.eq_1]
  refine aO (decide_eq_true (by omega)) ?_
  have hrow:((cH.flatMap fun x=>[AV.s x.1,AV.s x.2]).drop (j * 2)).take 2=[.s x.1,.s x.2]:=by
   have:∀ j x,cH[j]? = some x→((cH.flatMap fun x=>[AV.s x.1,AV.s x.2]).drop (j * 2)).take 2=[.s x.1,.s x.2]:=by
    intro j x hjx
    have hj4:j<4:=bH hjx
    match j,hj4 with
    | 0,_=>simp [cH] at hjx ⊢; subst hjx; simp
    | 1,_=>simp [cH] at hjx ⊢; subst hjx; simp
    | 2,_=>simp [cH] at hjx ⊢; subst hjx; simp
    | 3,_=>simp [cH] at hjx ⊢; subst hjx; simp
   exact this j x hc
  refine RdI.elem (hA.ext U0) (by omega) (by omega) ?_
  simp only [Int.toNat_natCast]
  rw [hrow]
  refine bQ fun h1 hl1 U1 R1=>?_
  refine aU R1 rfl rfl rfl fun h2 hl2 U2 R2=>?_
  have U02:Upd (fun _=>False) hx h2:=U1.trans U2 fun i hi e=>by omega
  have nxt:∀ x15,x15=(cH.take (j+1)).foldl (fun n x=>if x.2=x12 then x.1 else n) []→Y15.p2 Q x5 x6 x10 x12 x13 x14 x15 v n i va 4 (j:Int) h2:=by
   intro x15 he
   refine Y15.i2 ?_
   simp only [Y15.t2, ← Y15.p1.eq_1]
   subst he
   exact inc (by omega) (ih (j+1) h2 (by omega) (U0.trans U02 fun _ _ h=>h) (U.trans U02 fun _ _ h=>h))
  refine aN (aP R2 rfl rfl (bC ?_))
  refine aG (fun e=>?_) fun e=>?_
  ·refine aN (aP R2 rfl rfl (bC (nxt _ ?_)))
   rw [htk,List.foldl_append,List.foldl_cons,List.foldl_nil,if_pos (of_decide_eq_true e)]
  ·refine nxt _ ?_
   rw [htk,List.foldl_append,List.foldl_cons,List.foldl_nil,if_neg (of_decide_eq_false e)]
theorem aOZ (ok:Bool) (done:List (List UInt8)) (s:Der) (r:List Der):kU ok done (s :: r)=match lD s with
  | none=>none
  | some x=>kU ok (done++[x]) r:=by
 have e:fK (s :: r)=match lD s with
  | none=>none
  | some x => match fK r with
   | none=>none
   | some l=>some (x :: l):=rfl
 unfold kU
 rw [e]
 cases lD s with
 | none=>rfl
 | some x=>cases fK r <;> simp
theorem aLA (G : CG h) {F : Nat → Prop} {d : Der} (hB : oQ d) {v : AV} {rows : List (List AV)} (hks : DVs h F d.kids rows) (hsa : kO 5 h v rows.flatten rows.length) {ok : Bool} :
  ∀ (r:List Der) (i:Nat) (v6:AV) (done:List (List UInt8)) (hx:aA),d.kids.drop i=r→i≤d.kids.length→Upd (fun _=>False) h hx→fZ h hx v6 (done.map .s)→done.length≤i→(∀ x∈done,x.length≤200010) →
  Q (pU (kU ok done r)) h→Y15.p0 (aK h Q) ok v6 v (rows.length:Int) (i:Int) hx:=by
 have hrl:=hks.length
 intro r
 induction r with
 | nil =>
  intro i v6 done hx hr hi U S hd hdl hq
  have hle:=cB hr
  have hN:=hB.1
  refine Y15.i0 ?_
  simp only [Y15.t0]
  refine aM (decide_eq_false (by omega)) ?_
  have hq:Q (pU (if ok=true then some (Lib.join (done++[]) [44]) else none)) h:=hq
  rw [List.append_nil] at hq
  cases ok with
  | false=>exact aO rfl (aV rfl U.ext hq)
  | true =>
   refine aM rfl (aMX (ls:=done) ?_ ?_ (by omega) (bC (aV rfl U.ext hq)))
   ·have:=S.stk.rd; rwa [List.length_map] at this
   ·have h1 := aAR 44 200010 done hdl
    have h2:done.length * (200010+1)≤4000 * (200010+1):=Nat.mul_le_mul_right _ (by omega)
    omega
 | cons s r ih =>
  intro i v6 done hx hr hi U S hd hdl hq
  have hN:=hB.1
  have hlt:=cI hr
  have hnx:=b4 hr
  have hsi:=b7 hr
  have hsm:=List.mem_of_getElem? hsi
  rw [aOZ] at hq
  refine Y15.i0 ?_
  simp only [Y15.t0, ← Y15.p1.eq_1]
  refine aO (decide_eq_true (by omega)) ?_
  obtain ⟨id,ver,off,cap,rw1,rfl,Ds,hrd⟩:=kO.row hks hsa hsi
  obtain ⟨k1,k2⟩:=hrd hx U
  refine k1 _ _ (k2 _ ?_)
  have hcl:=Ds.len
  refine bQ fun h1 hl1 U1 R1=>?_
  refine aU R1 rfl hcl Ds.cells' fun h2 hl2 U2 R2=>?_
  have Ux2:Upd (fun _=>False) hx h2:=U1.trans U2 fun i hi e=>by omega
  have U02:Upd (fun _=>False) h h2:=U.trans Ux2 fun _ _ h=>h
  refine (G.ext U02).set.loadN rfl (aT R2 hcl.symm ?_)
  have Ds2:=Ds.ext U02
  obtain ⟨vs,rs,hvs,hkss,hsas,hrls,_⟩:=Ds2.kidsLen
  refine mK Ds2 hvs fun h3 U3=>?_
  refine aZ (bA (aQ ?_))
  have U03:=U02.trans U3 fun _ _ h=>h
  have fail:∀ hy,Upd (fun _=>False) h hy→lD s=none→aK h Q (.tu [.s [],.i .i64 2]) hy:=by
   intro hy Uy he
   rw [he] at hq
   exact aV rfl Uy.ext hq
  refine aG (fun e=>fail _ U03 ?_) fun e=>?_
  ·unfold lD
   split
   ·rename_i hs
    split
    ·rename_i k hk
     rw [hs,hk] at e
     simp at e
    ·rfl
   ·rfl
  have e:isS 0 17 true s=true∧s.kids.length=1:=by
   simp at e
   exact ⟨e.1,by omega⟩
  obtain ⟨k,hk⟩:∃ k,s.kids=[k]:=by
   match hh:s.kids with
   | [k]=>exact ⟨k,rfl⟩
   | []=>rw [hh] at e; simp at e
   | _ :: _ :: _=>rw [hh] at e; simp at e
  have hset:lD s=if isS 0 16 true k=true then (match k.kids with
   | [a,b]=>gJ a b
   | _=>none) else none:=by
   unfold lD
   rw [if_pos e.1,hk]
  refine (G.ext U03).seq.loadN rfl ?_
  obtain ⟨id1,ver1,off1,cap1,rw2,rfl,Dk,hrd1⟩:=kO.row hkss hsas (i:=0) (k:=k) (by rw [hk] <;> rfl)
  obtain ⟨m1,m2⟩:=hrd1 h3 U3
  refine m1 _ _ (m2 _ ?_)
  have Dk3:=Dk.ext U3
  obtain ⟨vk,rk,hvk,hksk,hsak,hrlk,_⟩:=Dk3.kidsLen
  refine mK Dk3 hvk fun h4 U4=>?_
  have U04:=U03.trans U4 fun _ _ h=>h
  obtain ⟨n1,n2⟩:=hrd1 h4 (U3.trans U4 fun _ _ h=>h)
  refine n1 _ _ ⟨rfl, ?_⟩
  refine aZ (bA (aQ ?_))
  refine aG (fun e2=>fail _ U04 ?_) fun e2=>?_
  ·rw [hset]
   split
   ·rename_i hs
    split
    ·rename_i a b hab
     rw [hs,hab] at e2
     simp at e2
    ·rfl
   ·rfl
  have e2:isS 0 16 true k=true∧k.kids.length=2:=by
   simp at e2
   exact ⟨e2.1,by omega⟩
  obtain ⟨a,b,hab⟩:∃ a b,k.kids=[a,b]:=by
   match hh:k.kids with
   | [a,b]=>exact ⟨a,b,rfl⟩
   | []=>rw [hh] at e2; simp at e2
   | [_]=>rw [hh] at e2; simp at e2
   | _ :: _ :: _ :: _=>rw [hh] at e2; simp at e2
  have hset:lD s=gJ a b:=by rw [hset,if_pos e2.1,hab]
  have hkm:k∈s.kids:=by rw [hk]; simp
  have hda:=hB.2 s hsm k hkm a (by rw [hab]; simp)
  have hdb:=hB.2 s hsm k hkm b (by rw [hab]; simp)
  obtain ⟨id2,ver2,off2,cap2,ra,hva,Da,hrda⟩:=kO.row hksk hsak (i:=0) (k:=a) (by rw [hab] <;> rfl)
  obtain ⟨id3,ver3,off3,cap3,rb,hvb,Db,hrdb⟩:=kO.row hksk hsak (i:=1) (k:=b) (by rw [hab] <;> rfl)
  subst hva
  cases hvb
  obtain ⟨a1,a2⟩:=hrda h4 U4
  obtain ⟨b1,b2⟩:=hrdb h4 U4
  refine a1 _ _ (a2 _ ?_)
  refine aMR (Da.ext U4) hda (aZ (bC (bA (aQ ?_))))
  refine b1 _ _ (b2 _ ?_)
  refine aNI (Db.ext U4) hdb (aZ (bC (bA (aQ ?_))))
  obtain ⟨va,g1,g2⟩:=(G.ext U04).att
  refine g1.load1 (g2.len ?_)
  refine aMB g2 (fun h5 bb U5 hb=>?_) 4 0 h4 rfl (Upd.refl _ _) (Upd.refl _ _)
  have U05:=U04.trans U5 fun _ _ h=>h
  refine Y15.i3 ?_
  simp only [Y15.t3, ← Y15.p0.eq_1]
  refine aG (fun e3=>fail _ U05 ?_) fun e3=>?_
  ·rw [hset]
   unfold gJ
   rw [if_neg]
   intro hh
   rw [e3,hh.1,hh.2.1] at hb
   simp at hb
   exact hh.2.2 hb
  have hh:(eA a).2=true∧(eU b).2=true∧gQ (eA a).1≠[]:=by
   rw [e3] at hb
   have hb:=hb.symm
   simp at hb
   exact hb
  have hset:lD s=some ((gQ (eA a).1++[61])++bW sps (eU b).1):=by
   rw [hset]; unfold gJ; rw [if_pos hh]
  have hxl:=aIQ hset fun k hk x hx=>hB.2 s hsm k hk x hx
  rw [hset] at hq
  have hl1:=oO (eA a).1
  have hl2:=uV b
  refine ⟨by simp; omega, ?_⟩
  refine eG (cs:=(fO sps).map .s) rfl rfl fun y h6 hl6 U6 R6 F6=>?_
  refine aH2 (sp:=sps) (by decide) R6 (by decide) fun idp h7 U7 hn7 N7=>?_
  refine aGO (sp:=sps) (by omega) uW (by decide) (by decide) N7 fun h8 U8 _=>?_
  refine bC ⟨by simp only [List.length_append,List.length_cons,List.length_nil] at hxl ⊢; omega, ?_⟩
  have U58:Upd (fun _=>False) h5 h8:=((U6.trans U7 fun _ _ h=>h).trans U8 fun i hi e=>by have:=U6.1; omega)
  have U08:=U05.trans U58 fun _ _ h=>h
  have Ux8:Upd (fun _=>False) hx h8:=(((Ux2.trans U3 fun _ _ h=>h).trans U4 fun _ _ h=>h).trans U5 fun _ _ h=>h).trans U58 fun _ _ h=>h
  have S8:fZ h h8 v6 (done.map .s):=⟨U08,S.stk.upd Ux8 fun _ _ h=>h,S.new⟩
  refine fZ.push S8 rfl rfl (by simp; omega) (by simp; omega) fun v' h9 S9 U9 _=>?_
  refine inc (by omega) (ih (i+1) v' (done++[(gQ (eA a).1++[61])++bW sps (eU b).1]) h9 hnx (by omega) S9.upd (by simpa using S9) (by simp; omega) (fun x hx=>?_) hq)
  rcases List.mem_append.1 hx with h | h
  ·exact hdl x h
  ·simp at h; subst h; simpa using hxl
theorem aIX (G:CG h) {F:Nat→Prop} {d:Der} {cs:List AV} (D:DV h F d cs) (hB:oQ d) (hq:Q (pU (cE d)) h):C Y15.id [.ag cs] h Q:=by
 refine Y15.call ?_
 simp only [Y15.t, ← Y15.p0.eq_1]
 refine D.box fun h1 hl1 U1 R1 D1=>?_
 refine (G.ext U1).seq.loadN rfl (aT R1 D.len.symm ?_)
 obtain ⟨v,rows,hv,hks,hsa,hrl,_⟩:=D1.kidsLen
 refine mK D1 hv fun h2 U2=>aZ (bA (aQ ?_))
 have U02:=U1.trans U2 fun _ _ h=>h
 obtain ⟨v',rows',hv',hks',hsa',hrl',_⟩:=D.kidsLen
 have hdv:v'=v:=by rw [hv] at hv'; exact (Option.some.inj hv').symm
 subst hdv
 have hsl:∀ K:Int→Prop,K (rows'.length:Int)→bN v' K:=fun K hk=>hsa'.len hk
 refine hsl _ ?_
 have e:(isS 0 16 true d&&(decide ((-1:Int)<0)||decide ((d.kids.length:Int) = -1)))=isS 0 16 true d:=by
  rw [show decide ((-1:Int)<0)=true by decide,Bool.true_or,Bool.and_true]
 rw [e]
 refine aLA G hB hks' hsa' d.kids 0 _ [] h2 rfl (by omega) U02 ⟨U02,.inl ⟨rfl,rfl⟩,fun _ h=>h.elim⟩ (by simp) (fun x hx=>by cases hx) ?_
 have e2:kU (isS 0 16 true d) [] d.kids=cE d:=by
  unfold kU cE
  cases fK d.kids with
  | none=>simp
  | some l=>by_cases hh:isS 0 16 true d=true <;> simp [hh]
 rw [e2]; exact hq
end
end Go.Proofs.YtcdkpkkdolmfdaaGreatDoor
namespace Go.Proofs.YtcdkpkkdolmfdaaGreatDoor
open Go.GAM Go.RowKit
section
variable {h:aA} {Q:AV→aA→Prop}
theorem rK {c t:Int} {m:Bool} {v:AV} (hv:∃ a n cap,v = .sl a n cap) (hq:∀ h',Upd (fun _=>False) h h'→Q (.ag [.i .i64 c,.i .i64 t,.b true,.s [],v]) h'):C Y37.id [shp c t m,v] h Q:=by
 obtain ⟨a,n,cap,rfl⟩:=hv
 refine Y37.call ?_
 simp only [Y37.t]
 refine dY rfl fun h1 hl1 U1 R1=>?_
 refine bQ fun h2 hl2 U2 R2=>?_
 have R1':=R1.upd U2 fun h=>h
 refine aN (aP R1' rfl rfl (aS (aN (aP R1' rfl rfl (aS ?_)))))
 refine zG (cs:=[.i .i64 c,.i .i64 t,.b true,.s [],.sl a n cap]) rfl ?_
 refine aU R2 rfl rfl rfl fun h3 hl3 U3 R3=>aT R3 rfl ?_
 exact .inl (hq h3 ((U1.trans U2 fun _ _ h=>h).trans U3 fun i hi e=>by omega))
theorem gA {c t:Int} {m:Bool} {s:List UInt8} (hq:Q (.ag (cO c t false s)) h):C Y66.id [shp c t m,.s s] h Q:=by
 refine Y66.call ?_
 simp only [Y66.t]
 refine dY rfl fun h1 hl1 U1 R1=>?_
 refine bQ fun h2 hl2 U2 R2=>?_
 have R1':=R1.upd U2 fun h=>h
 refine aN (aP R1' rfl rfl (aS (aN (aP R1' rfl rfl (aS ?_)))))
 refine aU R2 rfl rfl rfl fun h3 hl3 U3 R3=>aT R3 rfl ?_
 exact aV rfl ((U1.trans U2 fun _ _ h=>h).trans U3 fun i hi e=>by omega).ext hq
def dC (o:List UInt8):List UInt8:=match lZ o with
 | .ok l=>l
 | .error _=>[]
theorem lG:∀ x∈cH,lZ x.2 = .ok (dC x.2)∧(dC x.2).length≤10:=by
 intro x hx
 simp only [cH,List.mem_cons,List.not_mem_nil,or_false] at hx
 rcases hx with rfl | rfl | rfl | rfl
 ·exact ⟨by kernel_rfl,by decide +kernel⟩
 ·exact ⟨by kernel_rfl,by decide +kernel⟩
 ·exact ⟨by kernel_rfl,by decide +kernel⟩
 ·exact ⟨by kernel_rfl,by decide +kernel⟩
def gI (o text:List UInt8):Der:=.mk 0 17 true [] [.mk 0 16 true [] [.mk 0 6 false (dC o) [],.mk 0 12 false (cM text) []]]
def kidsOf (part:List UInt8):List Der:=cH.flatMap fun x=>if x.1=(m6 part 61).1 then [gI x.2 (m6 part 61).2.1] else []
def g8 (ks:List Der):Der:=.mk 0 16 true [] ks
def bK (s : List UInt8) : Der × Int :=
 if 512<s.length then (.zero,3) else if s=[] then (g8 [],0) else
  if cE (g8 ((bL [] s).flatMap kidsOf))=some s then (g8 ((bL [] s).flatMap kidsOf),0) else (.zero,5)
theorem Arr.cell {sz:Nat} {h:aA} {v:AV} {cs:List AV} {n:Nat} (A:Arr sz h v cs n):v.parts=[v]∧v.sizeOK=true∧v.cellOK=true:=by
 rcases A with ⟨rfl,_⟩ | ⟨_,_,rfl,_⟩ <;> exact ⟨rfl,rfl,rfl⟩
structure NSt (h0 hb h:aA) (id0 id1:Nat) (v:AV) (ks:List Der):Prop where
 ub:Upd (fun _=>False) h0 hb
 upd:Upd (· = id1) hb h
 n0:h0.length≤id0
 n1:h0.length≤id1
 l0:id0<hb.length
 l1:id1<hb.length
 ne:id0≠id1
 r0:bB h id0 z5
 r1:bB h id1 [.i .i64 0,.i .i64 16,.b true,.s [],v]
 arr:∃ rows,Arr 5 h v rows.flatten rows.length∧DVs h (fun i=>hb.length≤i∧¬ bU v i) ks rows
 new:∀ i,bU v i→hb.length≤i
theorem NSt.ext {h0 hb h h':aA} {id0 id1:Nat} {v:AV} {ks:List Der} (S:NSt h0 hb h id0 id1 v ks) (U:Upd (fun _=>False) h h'):NSt h0 hb h' id0 id1 v ks:=by
 obtain ⟨rows,A,D⟩:=S.arr
 exact ⟨S.ub,S.upd.trans (U.mono fun _ _ h=>h.elim) fun _ _ h=>h,S.n0,S.n1,S.l0,S.l1,S.ne,S.r0.upd U fun h=>h,S.r1.upd U fun h=>h,⟨rows,A.upd U fun _ _ h=>h,D.upd U fun i hi _=>⟨fun h=>h,hi⟩⟩,S.new⟩
theorem NSt.low {h0 hb h:aA} {id0 id1:Nat} {v:AV} {ks:List Der} (S:NSt h0 hb h id0 id1 v ks):Upd (fun _=>False) h0 h:=
 S.ub.trans S.upd fun i hi e=>by have:=S.n1; omega
theorem NSt.val {h0 hb h:aA} {id0 id1:Nat} {v:AV} {ks:List Der} (S:NSt h0 hb h id0 id1 v ks):DV h (fun i=>h0.length≤i) (g8 ks) [.i .i64 0,.i .i64 16,.b true,.s [],v]:=by
 obtain ⟨rows,A,D⟩:=S.arr
 have hb0:=S.ub.1
 exact .mk (D.upd (Upd.refl (fun _=>False) h) fun i hi _=>⟨fun h=>h,by omega⟩) (.inl A.rd) (fun i hi=>⟨by have:=S.new i hi; omega,A.rd.lt hi⟩) (Arr.cell A).2.2
theorem NSt.push {h0 hb h:aA} {id0 id1:Nat} {v y:AV} {ks:List Der} {k:Der} {r:List AV} {ty:Option TypeId} (S:NSt h0 hb h id0 id1 v ks) (hn:ks.length≤4000) (R:Rd 5 h y r 1) (hrl:r.length=5) (hrc:r.all AV.cellOK=true)
  (D:DV h (fun i=>hb.length≤i∧¬ bU v i) k r) {K:AV→aA→Prop}
  (hk:∀ v' h',Upd (bU v) h h'→bB h' id1 [.i .i64 0,.i .i64 16,.b true,.s [],v]→(v'.parts=[v']∧v'.sizeOK=true∧v'.cellOK=true)→(∀ h'',h''.length=h'.length→Upd (· = id1) h' h''→bB h'' id1 [.i .i64 0,.i .i64 16,.b true,.s [],v']→NSt h0 hb h'' id0 id1 v' (ks++[k]))→K v' h') :
  bS ty 5 64 v y h K:=by
 obtain ⟨rows,A,Ds⟩:=S.arr
 have hrows:=Ds.length
 have hl0:=S.l0
 have hl1:=S.l1
 have hbh:=S.upd.1
 refine A.append (by decide) (ns:=r) (k:=1) (fun K hK=>R.news hK) (by omega) hrc (by omega) (by omega) fun v' h' U A' F=>?_
 have out:∀ i,i<hb.length→¬ bU v i:=fun i hi hs=>by have:=S.new i hs; omega
 refine hk v' h' U (S.r1.upd U (out _ hl1)) (Arr.cell A') fun h'' hl'' U'' R''=>?_
 have hnew':∀ i,bU v' i→hb.length≤i:=fun i hi=>by
  rcases F i hi with hh | hh
  ·exact S.new i hh
  ·omega
 have Dall:=Ds.app D
 have e1:(rows++[r]).flatten=rows.flatten++r:=by simp
 have e2:(rows++[r]).length=rows.length+1:=by simp
 refine ⟨S.ub,(S.upd.trans U fun i hi hs=>absurd hs (out i hi)).trans U'' fun _ _ h=>h,S.n0,S.n1,hl0,hl1,S.ne,(S.r0.upd U (out _ hl0)).upd U'' S.ne,R'',⟨rows++[r], ?_, ?_⟩,hnew'⟩
 ·rw [e1, e2]
  exact A'.upd U'' fun i hi e=>by have:=hnew' i hi; omega
 ·have D1 : DVs h' (fun i => hb.length ≤ i ∧ ¬ bU v' i) (ks ++ [k]) (rows ++ [r]) := Dall.upd U fun i hi hil => ⟨hi.2, hi.1, fun hs => by
   rcases F i hs with hh | hh
   ·exact hi.2 hh
   ·omega⟩
  exact D1.upd U'' fun i hi _=>⟨by omega,hi⟩
theorem aHF {h0 hb : aA} (G : CG h0) {va : AV} (gva : jS h0 7 [va]) (hA : RdI 2 h0 va (cH.flatMap fun x => [.s x.1, .s x.2]) 4) {id0 id1 : Nat} {s name text : List UInt8} {x26 : AV} {n27 i28 : Int} (ht : text.length ≤ 1000000) {ks0 : List Der} (hk0 : ks0.length ≤ 3000)
  (next:∀ v h',NSt h0 hb h' id0 id1 v (ks0++cH.flatMap fun x=>if x.1=name then [gI x.2 text] else [])→aR (IntKind.wrap .i64 (i28+1)) fun n125=>Y13.p0 (aK h0 Q) s (.p (some ⟨id0,5,0⟩)) (.p (some ⟨id1,5,0⟩)) x26 n27 n125 h') :
  ∀ (k j:Nat) (v:AV) (hx:aA),4=j+k→NSt h0 hb hx id0 id1 v (ks0++(cH.take j).flatMap fun x=>if x.1=name then [gI x.2 text] else []) →
  Y13.p1 (aK h0 Q) s (.p (some ⟨id0,5,0⟩)) (.p (some ⟨id1,5,0⟩)) name text x26 n27 i28 va 4 (j:Int) hx:=by
 intro k
 induction k with
 | zero =>
  intro j v hx hj S
  obtain rfl:j=4:=by omega
  refine Y13.i1 ?_
  simp only [Y13.t1, ← Y13.p0.eq_1]
  exact aM (by decide) (next v hx S)
 | succ k ih =>
  intro j v hx hj S
  obtain ⟨x,hc⟩:∃ x,cH[j]? = some x:=⟨cH[j]'(by show j<4; omega),List.getElem?_eq_getElem _⟩
  have hxm:=List.mem_of_getElem? hc
  have htk:=dI hc
  refine Y13.i1 ?_
  simp only [Y13.t1, ← Y13.p2.eq_1]
  refine aO (decide_eq_true (by omega)) ?_
  have hrow:((cH.flatMap fun x=>[AV.s x.1,AV.s x.2]).drop (j * 2)).take 2=[.s x.1,.s x.2]:=by
   have:∀ j x,cH[j]? = some x→((cH.flatMap fun x=>[AV.s x.1,AV.s x.2]).drop (j * 2)).take 2=[.s x.1,.s x.2]:=by
    intro j x hjx
    have hj4:j<4:=bH hjx
    match j,hj4 with
    | 0,_=>simp [cH] at hjx ⊢; subst hjx; simp
    | 1,_=>simp [cH] at hjx ⊢; subst hjx; simp
    | 2,_=>simp [cH] at hjx ⊢; subst hjx; simp
    | 3,_=>simp [cH] at hjx ⊢; subst hjx; simp
   exact this j x hc
  refine RdI.elem (hA.ext S.low) (by omega) (by omega) ?_
  simp only [Int.toNat_natCast]
  rw [hrow]
  refine bQ fun h1 hl1 U1 R1=>?_
  refine aU R1 rfl rfl rfl fun h2 hl2 U2 R2=>?_
  have U02:Upd (fun _=>False) hx h2:=U1.trans U2 fun i hi e=>by omega
  have S2:=S.ext U02
  have nxt:∀ v' h',NSt h0 hb h' id0 id1 v' (ks0++(cH.take (j+1)).flatMap fun x=>if x.1=name then [gI x.2 text] else [])→Y13.p2 (aK h0 Q) s (.p (some ⟨id0,5,0⟩)) (.p (some ⟨id1,5,0⟩)) name text x26 n27 i28 va 4 (j:Int) h':=by
   intro v' h' S'
   refine Y13.i2 ?_
   simp only [Y13.t2, ← Y13.p1.eq_1]
   exact inc (by omega) (ih (j+1) v' h' (by omega) S')
  refine aN (aP R2 rfl rfl (bC ?_))
  refine aG (fun e=>?_) fun e=>nxt v h2 (by
   rw [htk,List.flatMap_append]
   simp only [List.flatMap_cons,List.flatMap_nil,List.append_nil,if_neg (of_decide_eq_false e)]
   exact S2)
  have e:=of_decide_eq_true e
  obtain ⟨ho1,ho2⟩:=lG x hxm
  refine aN (aP R2 rfl rfl (bC ?_))
  refine zM fun h3 U3=>?_
  rw [ho1]
  simp only [aLE]
  refine aZ (bA (aS ?_))
  refine bQ fun h4 hl4 U4 R4=>?_
  refine aU R4 rfl rfl rfl fun h5 hl5 U5 R5=>?_
  have U25:Upd (fun _=>False) h2 h5:=(U3.trans U4 fun _ _ h=>h).trans U5 fun i hi e=>by have:=U3.1; omega
  have S5:=S2.ext U25
  have l65:∀ hz (K:AV→Prop),Upd (fun _=>False) h5 hz→K (.ag (cO 0 6 false (dC x.2)))→aD 5 (.p (some ⟨h3.length,5,0⟩)) hz K:=fun hz K U hK=>aT (R5.upd U fun h=>h) rfl hK
  have l1:∀ hz (K:AV→Prop),Upd (fun _=>False) h5 hz→K (shp 0 16 true)→aD 3 (bE hz 0) hz K:=fun hz K U hK=>(G.ext (S5.low.trans U fun _ _ h=>h)).seq.loadN rfl hK
  have l3:∀ hz (K:AV→Prop),Upd (fun _=>False) h5 hz→K (shp 0 17 true)→aD 3 (bE hz 8) hz K:=fun hz K U hK=>(G.ext (S5.low.trans U fun _ _ h=>h)).set.loadN rfl hK
  have l69:∀ hz (K:AV→Prop),Upd (fun _=>False) h5 hz→K v→aE (.p (some ⟨id1,5,0+4⟩)) hz K:=fun hz K U hK=>aP (S5.r1.upd U fun h=>h) rfl rfl hK
  have r0:=Upd.refl (fun _=>False) h5
  refine aN (l69 _ _ r0 (l3 _ _ r0 (l1 _ _ r0 (l65 _ _ r0 ?_))))
  refine aAH ht (bC ?_)
  refine l65 _ _ r0 ⟨rfl,l1 _ _ r0 ⟨rfl,l3 _ _ r0 ⟨rfl,l69 _ _ r0 ⟨rfl, ?_⟩⟩⟩⟩
  refine gA (m:=false) ?_
  refine l65 _ _ r0 ⟨rfl,l1 _ _ r0 ⟨rfl,l3 _ _ r0 ⟨rfl,l69 _ _ r0 ⟨rfl, ?_⟩⟩⟩⟩
  refine eG (cs:=cO 0 6 false (dC x.2)++cO 0 12 false (cM text)) rfl rfl fun y1 h6 hl6 U6 R6 F6=>?_
  refine l1 _ _ U6 ⟨rfl,l3 _ _ U6 ⟨rfl,l69 _ _ U6 ⟨rfl, ?_⟩⟩⟩
  have hy1:∃ a n cap,y1 = .sl a n cap:=by
   rcases R6 with ⟨rfl,_⟩ | ⟨_,_,_,_,_,rfl,_⟩ <;> exact ⟨_,_,_,rfl⟩
  refine rK hy1 fun h7 U7=>?_
  have U57:=U6.trans U7 fun _ _ h=>h
  refine l65 _ _ U57 ⟨rfl,l3 _ _ U57 ⟨rfl,l69 _ _ U57 ⟨rfl, ?_⟩⟩⟩
  refine eG (cs:=[.i .i64 0,.i .i64 16,.b true,.s [],y1]) (by obtain ⟨a,n,cap,rfl⟩:=hy1; rfl) rfl fun y2 h8 hl8 U8 R8 F8=>?_
  have U58:=U57.trans U8 fun _ _ h=>h
  refine l65 _ _ U58 ⟨rfl,l1 _ _ U58 ⟨rfl,l3 _ _ U58 ⟨rfl,l69 _ _ U58 ⟨rfl, ?_⟩⟩⟩⟩
  have hy2:∃ a n cap,y2 = .sl a n cap:=by
   rcases R8 with ⟨rfl,_⟩ | ⟨_,_,_,_,_,rfl,_⟩ <;> exact ⟨_,_,_,rfl⟩
  refine rK hy2 fun h9 U9=>?_
  have U59:=U58.trans U9 fun _ _ h=>h
  refine l65 _ _ U59 ⟨rfl,l1 _ _ U59 ⟨rfl,l69 _ _ U59 ⟨rfl, ?_⟩⟩⟩
  refine eG (cs:=[.i .i64 0,.i .i64 17,.b true,.s [],y2]) (by obtain ⟨a,n,cap,rfl⟩:=hy2; rfl) rfl fun y3 h10 hl10 U10 R10 F10=>?_
  have U510:=U59.trans U10 fun _ _ h=>h
  refine l65 _ _ U510 ⟨rfl,l1 _ _ U510 ⟨rfl,l3 _ _ U510 ⟨rfl,l69 _ _ U510 ⟨rfl, ?_⟩⟩⟩⟩
  have S10:=S5.ext U510
  have hbh5:=S5.upd.1
  have vlt:∀ i,bU v i→i<h5.length:=fun i hi=>by obtain ⟨rows,A,_⟩:=S5.arr; exact A.rd.lt hi
  have V1:DV h10 (fun i=>hb.length≤i∧¬ bU v i) (.mk 0 16 true [] [.mk 0 6 false (dC x.2) [],.mk 0 12 false (cM text) []]) [.i .i64 0,.i .i64 16,.b true,.s [],y1]:=by
   have hks:DVs h10 (fun i=>hb.length≤i∧¬ bU v i) [.mk 0 6 false (dC x.2) [],.mk 0 12 false (cM text) []] [cO 0 6 false (dC x.2),cO 0 12 false (cM text)]:=.cons (DV.leaf _ _ _ _ _ _) (.cons (DV.leaf _ _ _ _ _ _) .nil)
   have R6':=R6.upd (((U7.trans U8 fun _ _ h=>h).trans U9 fun _ _ h=>h).trans U10 fun _ _ h=>h) fun _ _ h=>h
   refine .mk hks (.inl (by simpa using R6')) (fun i hi=>⟨⟨by have:=F6 i hi; omega,fun hs=>by have:=F6 i hi; have:=vlt i hs; omega⟩,R6'.lt hi⟩) (by obtain ⟨a,n,cap,rfl⟩:=hy1; rfl)
  have V2:DV h10 (fun i=>hb.length≤i∧¬ bU v i) (gI x.2 text) [.i .i64 0,.i .i64 17,.b true,.s [],y2]:=by
   have hks:=DVs.cons V1 DVs.nil
   have R8':=R8.upd (U9.trans U10 fun _ _ h=>h) fun _ _ h=>h
   have h58:=U57.1
   refine .mk hks (.inl (by simpa using R8')) (fun i hi=>⟨⟨by have:=F8 i hi; omega,fun hs=>by have:=F8 i hi; have:=vlt i hs; omega⟩,R8'.lt hi⟩) (by obtain ⟨a,n,cap,rfl⟩:=hy2; rfl)
  have hkl:(ks0++(cH.take j).flatMap fun x=>if x.1=name then [gI x.2 text] else []).length≤4000:=by
   have:∀ l:List (List UInt8 × List UInt8),(l.flatMap fun x=>if x.1=name then [gI x.2 text] else []).length≤l.length:=by
    intro l
    induction l with
    | nil=>simp
    | cons a l ih =>
     rw [List.flatMap_cons,List.length_append,List.length_cons]
     have:(if a.1=name then [gI a.2 text] else []).length≤1:=by split <;> simp
     omega
   have:=this (cH.take j)
   simp only [List.length_append,List.length_take] at *
   omega
  refine S10.push hkl R10 rfl (by obtain ⟨a,n,cap,rfl⟩:=hy2; rfl) V2 fun v' h11 U11 R11 hv' fin=>?_
  have id65:¬ bU v h3.length:=fun hs=>by
   obtain ⟨rows,A,_⟩:=S2.arr
   have:=A.rd.lt hs; have:=U3.1; omega
  have lo:∀ g,g<h0.length→¬ bU v g:=fun g hg hs=>by have:=S.new g hs; have:=S.ub.1; omega
  have G10:=G.ext S10.low
  have G11:CG h11:=by
   have hu:Upd (fun _=>False) h0 h11:=S10.low.trans U11 fun i hi hs=>(lo i hi hs)
   exact G.ext hu
  refine aT ((R5.upd U510 fun h=>h).upd U11 id65) rfl ⟨rfl, ?_⟩
  refine G11.seq.loadN rfl ⟨rfl,G11.set.loadN rfl ⟨rfl, ?_⟩⟩
  refine aN (b5 R11 rfl (by simp) hv'.1 hv'.2.1 hv'.2.2 fun h12 hl12 U12 R12=>?_)
  refine nxt v' h12 ?_
  have S12:=fin h12 hl12 U12 R12
  rw [htk,List.flatMap_append]
  simp only [List.flatMap_cons,List.flatMap_nil,List.append_nil,if_pos e]
  rw [List.append_assoc] at S12
  exact S12
theorem aEB (part:List UInt8):(kidsOf part).length≤4:=by
 have:∀ l:List (List UInt8 × List UInt8),(l.flatMap fun x=>if x.1=(m6 part 61).1 then [gI x.2 (m6 part 61).2.1] else []).length≤l.length:=by
  intro l
  induction l with
  | nil=>simp
  | cons a l ih =>
   rw [List.flatMap_cons,List.length_append,List.length_cons]
   have:(if a.1=(m6 part 61).1 then [gI a.2 (m6 part 61).2.1] else []).length≤1:=by split <;> simp
   omega
 exact this cH
theorem z1 {part:List UInt8} (hp:part.length≤1000):∀ s∈kidsOf part, ∀ k∈s.kids, ∀ x∈k.kids,x.data.length≤100000:=by
 intro s hs k hk x hx
 unfold kidsOf at hs
 obtain ⟨a,ha,hs⟩:=List.mem_flatMap.1 hs
 split at hs
 ·simp only [List.mem_singleton] at hs
  subst hs
  simp only [gI,Der.kids,List.mem_singleton] at hk
  subst hk
  simp only [Der.kids,List.mem_cons,List.not_mem_nil,or_false] at hx
  rcases hx with rfl | rfl
  ·have := (lG a ha).2
   simp only [Der.data]; omega
  ·have h1 := o0 (m6 part 61).2.1
   have h2:(m6 part 61).2.1.length≤part.length:=by unfold m6; split <;> simp
   simp only [Der.data]; omega
 ·cases hs
theorem jU : ∀ (cur s : List UInt8), ∀ x ∈ bL cur s, x.length ≤ cur.length + s.length
 | cur,[],x,hx=>by simp [bL] at hx; subst hx; simp
 | cur, [c], x, hx => by
  unfold bL at hx
  split at hx
  ·simp at hx; rcases hx with rfl | rfl <;> simp
  ·simp at hx; subst hx; simp
 | cur, c :: d :: r, x, hx => by
  unfold bL at hx
  split at hx
  ·have := jU (cur ++ [c, d]) r x hx
   simp at this ⊢; omega
  ·split at hx
   ·rcases List.mem_cons.1 hx with rfl | hx
    ·simp
    ·have := jU [] (d :: r) x hx
     simp at this ⊢; omega
   ·have := jU (cur ++ [c]) (d :: r) x hx
    simp at this ⊢; omega
def aNJ (h:aA) (Q:AV→aA→Prop) (r:Der × Int):Prop:=∀ h' cs,Upd (fun _=>False) h h'→DV h' (fun i=>h.length≤i) r.1 cs→Q (.tu [.ag cs,.i .i64 r.2]) h'
theorem vM {h0 hb hx:aA} {id0 id1:Nat} {v:AV} {ks:List Der} (S:NSt h0 hb hx id0 id1 v ks) {bad:Bool} (hq:aNJ h0 Q (if bad=true then (Der.zero,5) else (g8 ks,0))) :
  Y13.p3 (aK h0 Q) (.p (some ⟨id0,5,0⟩)) (.p (some ⟨id1,5,0⟩)) bad hx:=by
 refine Y13.i3 ?_
 simp only [Y13.t3]
 have hid0:=S.n0
 cases bad with
 | true =>
  refine aO rfl ?_
  refine aU S.r0 rfl rfl rfl fun h1 hl1 U1 R1=>aT R1 rfl ?_
  exact .inl (hq h1 z5 (S.low.trans U1 fun i hi e=>by omega) (DV.zero _ _))
 | false =>
  refine aM rfl (aT S.r1 rfl ?_)
  have V:=S.val
  refine aU S.r0 rfl rfl V.cells' fun h1 hl1 U1 R1=>aT R1 rfl ?_
  refine .inl (hq h1 _ (S.low.trans U1 fun i hi e=>by omega) ?_)
  have S1:DV h1 (fun i=>h0.length≤i) (g8 ks) [.i .i64 0,.i .i64 16,.b true,.s [],v]:=by
   obtain ⟨rows,A,D⟩:=S.arr
   have hl0:=S.l0
   have hb0:=S.ub.1
   have A1:=A.upd U1 fun i hi e=>by have:=S.new i hi; omega
   exact .mk (D.upd U1 fun i hi _=>⟨by omega,by omega⟩) (.inl A1.rd) (fun i hi=>⟨by have:=S.new i hi; omega,A1.rd.lt hi⟩) (Arr.cell A).2.2
  exact S1
theorem aFX {h0 hb : aA} (G : CG h0) {id0 id1 : Nat} {s : List UInt8} (hs : s.length ≤ 512) {x26 : AV} (P26 : Rd 1 hb x26 ((bL [] s).map .s) (bL [] s).length) (hid1 : ¬ bU x26 id1) (hne : s ≠ [])
  (hq:aNJ h0 Q (bK s)) :
  ∀ (r:List (List UInt8)) (i:Nat) (v:AV) (hx:aA),(bL [] s).drop i=r→i≤(bL [] s).length→NSt h0 hb hx id0 id1 v (((bL [] s).take i).flatMap kidsOf) →
  Y13.p0 (aK h0 Q) s (.p (some ⟨id0,5,0⟩)) (.p (some ⟨id1,5,0⟩)) x26 ((bL [] s).length:Int) (i:Int) hx:=by
 have hpl:=hP [] s
 have hpm:=jU [] s
 have fl:∀ l:List (List UInt8),(l.flatMap kidsOf).length≤4 * l.length:=by
  intro l
  induction l with
  | nil=>simp
  | cons a l ih =>
   have:=aEB a
   rw [List.flatMap_cons,List.length_append,List.length_cons]; omega
 intro r
 induction r with
 | nil =>
  intro i v hx hr hi S
  have hle:=cB hr
  refine Y13.i0 ?_
  simp only [Y13.t0, ← Y13.p3.eq_1]
  refine aM (decide_eq_false (by omega)) ?_
  rw [List.take_of_length_le hle] at S
  have hsh:oQ (g8 ((bL [] s).flatMap kidsOf)):=by
   refine ⟨?_,fun t ht k hk x hx=>?_⟩
   ·have := fl (bL [] s)
    show ((bL [] s).flatMap kidsOf).length≤4000
    omega
   ·have ht : t ∈ (bL [] s).flatMap kidsOf := ht
    obtain ⟨part,hp,ht⟩:=List.mem_flatMap.1 ht
    exact z1 (by have:=hpm part hp; simp at this; omega) t ht k hk x hx
  refine aT S.r1 rfl ?_
  refine aIX (G.ext S.low) S.val hsh ?_
  have hnf:bK s=if cE (g8 ((bL [] s).flatMap kidsOf))=some s then (g8 ((bL [] s).flatMap kidsOf),0) else (.zero,5):=by
   unfold bK
   rw [if_neg (by omega),if_neg hne]
  rw [hnf] at hq
  cases hN:cE (g8 ((bL [] s).flatMap kidsOf)) with
  | none =>
   rw [hN,if_neg (by simp)] at hq
   simp only [pU]
   refine aZ (bC (bA (aS (aO rfl ?_))))
   exact vM S (bad:=true) (by rw [if_pos rfl]; exact hq)
  | some t =>
   rw [hN] at hq
   simp only [pU]
   refine aZ (bC (bA (aS (aM rfl ?_))))
   refine vM S ?_
   by_cases hts:t=s
   ·subst hts
    rw [if_pos rfl] at hq
    rw [if_neg (by simp)]; exact hq
   ·rw [if_neg (by simpa using hts)] at hq
    rw [if_pos (by simpa using hts)]; exact hq
 | cons part r ih =>
  intro i v hx hr hi S
  have hlt:=cI hr
  have hnx:=b4 hr
  have hpi:=b7 hr
  have hpp:=hpm part (List.mem_of_getElem? hpi)
  simp only [List.length_nil,Nat.zero_add] at hpp
  have htk:=dI hpi
  refine Y13.i0 ?_
  simp only [Y13.t0, ← Y13.p1.eq_1]
  refine aO (decide_eq_true (by omega)) ?_
  have P1:=P26.upd S.upd fun j hj e=>hid1 (e ▸ hj)
  refine P1.cell (by decide) hlt (by rw [Nat.mul_one,List.getElem?_map,hpi] <;> rfl) (bC ?_)
  refine aOX (by omega) ?_
  refine aZ (bC (bA (bC (gP (aQ ?_)))))
  obtain ⟨va,g1,g2⟩:=G.att
  refine (g1.upd S.low fun h=>h).load1 ((g2.ext S.low).len ?_)
  have hk0:=fl ((bL [] s).take i)
  have htl:(m6 part 61).2.1.length≤part.length:=by unfold m6; split <;> simp
  have htk2:((bL [] s).take i).length≤(bL [] s).length:=by rw [List.length_take]; omega
  refine aHF (ks0:=((bL [] s).take i).flatMap kidsOf) G g1 g2 (by omega) (by omega) (fun v' h' S'=>?_) 4 0 v hx rfl (by simpa using S)
  refine inc (by omega) (ih (i+1) v' h' hnx (by omega) ?_)
  rw [htk,List.flatMap_append]
  simpa [kidsOf] using S'
theorem kQ {s:List UInt8} (G:CG h) (hs:s.length≤9223372036854775807) (hq:aNJ h Q (bK s)):C Y13.id [.s s] h Q:=by
 refine Y13.call ?_
 simp only [Y13.t, ← Y13.p0.eq_1]
 refine bQ fun h1 hl1 U1 R1=>?_
 refine aG (fun e=>?_) fun e=>?_
 ·have e : 512 < s.length := by have := of_decide_eq_true e; omega
  refine aU R1 rfl rfl rfl fun h2 hl2 U2 R2=>aT R2 rfl (.inl ?_)
  unfold bK at hq
  rw [if_pos e] at hq
  exact hq h2 z5 (U1.trans U2 fun i hi e=>by omega) (DV.zero _ _)
 ·have e : s.length ≤ 512 := by have := of_decide_eq_false e; omega
  refine (G.ext U1).seq.loadN rfl ?_
  refine rK ⟨none,0,none,rfl⟩ fun h2 U2=>?_
  have U02:=U1.trans U2 fun _ _ h=>h
  refine bQ fun h3 hl3 U3 R3=>?_
  refine aU R3 rfl rfl rfl fun h4 hl4 U4 R4=>?_
  have U24:Upd (fun _=>False) h2 h4:=U3.trans U4 fun i hi e=>by omega
  have U04:=U02.trans U24 fun _ _ h=>h
  have hh1:=U2.1
  refine aG (fun e2=>?_) fun e2=>?_
  ·have e2 := of_decide_eq_true e2
   unfold bK at hq
   rw [if_neg (by omega),if_pos e2] at hq
   refine aT R4 rfl ?_
   refine aU ((R1.upd U2 fun h=>h).upd U24 fun h=>h) rfl rfl rfl fun h5 hl5 U5 R5=>aT R5 rfl (.inl ?_)
   exact hq h5 _ (U04.trans U5 fun i hi e=>by omega) (DV.leaf _ _ _ _ _ _)
  ·have e2 := of_decide_eq_false e2
   refine aB6 (by omega) fun v h5 N5=>?_
   have hrd:=N5.stk.rd
   rw [List.length_map] at hrd
   refine hrd.len ?_
   have hlt:h2.length<h4.length:=by omega
   have U45:=N5.upd
   refine aFX (hb:=h5) G e hrd (fun hi=>by have:=N5.new _ hi; omega) e2 hq (bL [] s) 0 _ h5 rfl (by omega) ⟨U04.trans U45 fun _ _ h=>h,Upd.refl _ _,Nat.le_refl _,by omega,by have:=U45.1; omega,by have:=U45.1; omega,by omega,((R1.upd U2 fun h=>h).upd U24 fun h=>h).upd U45 fun h=>h,R4.upd U45 fun h=>h,⟨[],Arr.nil _ _,.nil⟩,fun i hi=>hi.elim⟩
def tK:List (List UInt8)→List UInt8
 | []=>[]
 | p :: r=>if kE p [67,78,61]=true then cM (p.drop 3) else tK r
def yY (s:List UInt8):List UInt8:=if (bK s).2=0 then tK (bL [] s) else []
theorem aIE {s : List UInt8} (G : CG h) (hs : s.length ≤ 9223372036854775807) (hq : Q (.s (yY s)) h) : C Y47.id [.s s] h Q := by
 refine Y47.call ?_
 simp only [Y47.t, ← Y47.p0.eq_1]
 refine kQ G hs fun h1 cs U1 D1=>?_
 refine aZ (bA (aS ?_))
 refine bQ fun h2 hl2 U2 R2=>?_
 refine aU R2 rfl D1.len D1.cells' fun h3 hl3 U3 R3=>?_
 have U03:Upd (fun _=>False) h h3:=(U1.trans U2 fun _ _ h=>h).trans U3 fun i hi e=>by have:=U1.1; omega
 unfold yY at hq
 refine aG (fun e=>?_) fun e=>?_
 ·have e : (bK s).2 ≠ 0 := by simpa using e
  rw [if_neg e] at hq
  exact aV rfl U03.ext hq
 ·have e : (bK s).2 = 0 := by simpa using e
  rw [if_pos e] at hq
  have hs5:s.length≤512:=by
   apply Classical.byContradiction
   intro hh
   unfold bK at e
   rw [if_pos (by omega)] at e
   cases e
  refine aB6 (by omega) fun v h4 N4=>?_
  have hrd:=N4.stk.rd
  rw [List.length_map] at hrd
  refine hrd.len ?_
  have hpm:=jU [] s
  have U04:=U03.trans N4.upd fun _ _ h=>h
  have go:∀ (r:List (List UInt8)) (i:Nat),(bL [] s).drop i=r→i≤(bL [] s).length→Q (.s (tK r)) h→Y47.p0 (aK h Q) v ((bL [] s).length:Int) (i:Int) h4:=by
   have hpl:=hP [] s
   intro r
   induction r with
   | nil =>
    intro i hr hi hq
    have:=cB hr
    refine Y47.i0 ?_
    simp only [Y47.t0]
    exact aM (decide_eq_false (by omega)) (aV rfl U04.ext hq)
   | cons p r ih =>
    intro i hr hi hq
    have hlt:=cI hr
    have hpi:=b7 hr
    have hpp:=hpm p (List.mem_of_getElem? hpi)
    simp only [List.length_nil,Nat.zero_add] at hpp
    refine Y47.i0 ?_
    simp only [Y47.t0, ← Y47.p0.eq_1]
    refine aO (decide_eq_true (by omega)) ?_
    refine hrd.cell (by decide) hlt (by rw [Nat.mul_one,List.getElem?_map,hpi] <;> rfl) (bC ?_)
    refine aCU (by omega) ?_
    refine aZ (bC (bA (aQ ?_)))
    unfold tK at hq
    refine aG (fun e=>?_) fun e=>?_
    ·rw [if_pos e] at hq
     rw [if_pos e]
     exact aAH (by simp; omega) (bC (aV rfl U04.ext hq))
    ·rw [if_neg (by rw [e]; simp)] at hq
     exact inc (by omega) (ih (i+1) (b4 hr) (by omega) hq)
  exact go _ 0 rfl (by omega) hq
end
end Go.Proofs.YtcdkpkkdolmfdaaGreatDoor
namespace Go.Proofs.YtcdkpkkdolmfdaaGreatDoor
open Go.GAM Go.RowKit
section
variable {h:aA} {Q:AV→aA→Prop}
def oC (t:List UInt8):Bool:=decide (t=[67,78])||(decide (t=[79])||(decide (t=[79,85])||decide (t=[67])))
end
end Go.Proofs.YtcdkpkkdolmfdaaGreatDoor
namespace Go.Proofs.YtcdkpkkdolmfdaaGreatDoor
open Go.GAM Go.RowKit
section
variable {h:aA} {Q:AV→aA→Prop}
end
end Go.Proofs.YtcdkpkkdolmfdaaGreatDoor
namespace Go.Proofs.YtcdkpkkdolmfdaaGreatDoor
open Go.GAM Go.RowKit
abbrev Att:=List UInt8 × List UInt8
def aC7 (c:UInt8):Bool:=decide (c=61) || !fL c
def fS:List UInt8→Option (List UInt8 × List UInt8)
 | []=>some ([],[])
 | [c]=>if c=44 then some ([],[c]) else if aC7 c=true∨c=92 then none else some ([c],[])
 | c :: d :: r => if c = 44 then some ([], c :: d :: r) else if aC7 c = true then none else
   if c=92 then (if d∈sps then (fS r).map fun p=>(d :: p.1,p.2) else none) else (fS (d :: r)).map fun p=>(c :: p.1,p.2)
def jK : Nat → List UInt8 → Option (List Att)
 | 0,_=>none
 | n + 1, s => if oC (s.takeWhile (· ≠ 61)) = false ∨ s.dropWhile (· ≠ 61) = [] then none else match fS ((s.dropWhile (· ≠ 61)).drop 1) with
  | none=>none
  | some (v,[])=>some [(s.takeWhile (· ≠ 61),v)]
  | some (v,_ :: r)=>(jK n r).map ((s.takeWhile (· ≠ 61),v) :: ·)
def rR (s:List UInt8):Option (List Att):=if s=[] then some [] else jK (s.length+1) s
def eJ (a:Att):List UInt8:=(a.1++[61])++bW sps a.2
def okA (a:Att):Prop:=oC a.1=true∧a.2.all fL=true
def gK (l:List Att):List UInt8:=Lib.join (l.map eJ) [44]
theorem nX (a:Att):gK [a]=eJ a:=by unfold gK; simp [Lib.join_cons,Lib.joinTail]
theorem jH (a b:Att) (l:List Att):gK (a :: b :: l)=eJ a++44 :: gK (b :: l):=by
 unfold gK; simp [Lib.join_cons,Lib.joinTail]
theorem aI1 {c:UInt8} (h:c∈sps):fL c=true:=by
 simp only [sps,List.mem_cons,List.not_mem_nil,or_false] at h
 rcases h with rfl | rfl | rfl <;> rfl
theorem pX {c:UInt8}:c∈sps↔c=92∨c=44∨c=61:=by simp [sps]
theorem hH (c:UInt8) (v:List UInt8):bW sps (c :: v)=(if c∈sps then [92,c] else [c])++bW sps v:=rfl
theorem aDO (c:UInt8) (X:List UInt8) (h:c ∉ sps) (ht:fL c=true):fS (c :: X)=(fS X).map fun p=>(c :: p.1,p.2):=by
 rw [pX] at h
 have h1:c≠92:=fun e=>h (.inl e)
 have h2:c≠44:=fun e=>h (.inr (.inl e))
 have h3:c≠61:=fun e=>h (.inr (.inr e))
 have hb:aC7 c=false:=by unfold aC7; rw [decide_eq_false h3,ht] <;> rfl
 cases X with
 | nil=>unfold fS; rw [if_neg h2,if_neg (by rw [hb]; simp [h1])] <;> rfl
 | cons d r=>rw [fS,if_neg h2,if_neg (by rw [hb]; simp),if_neg h1]
theorem aF4 (c:UInt8) (X:List UInt8) (h:c∈sps):fS (92 :: c :: X)=(fS X).map fun p=>(c :: p.1,p.2):=by
 rw [fS,if_neg (by decide),if_neg (by decide),if_pos rfl,if_pos h]
theorem lH:∀ (v r:List UInt8),v.all fL=true→(r=[]∨∃ r',r=44 :: r')→fS (bW sps v++r)=some (v,r)
 | [], r, _, hr => by
  rcases hr with rfl | ⟨r',rfl⟩
  ·rfl
  ·cases r' <;> rfl
 | c :: v, r, hv, hr => by
  simp only [List.all_cons,Bool.and_eq_true] at hv
  rw [hH]
  by_cases h:c∈sps
  ·rw [if_pos h]
   show fS (92 :: c :: (bW sps v++r))=_
   rw [aF4 c _ h,lH v r hv.2 hr] <;> rfl
  ·rw [if_neg h]
   show fS (c :: (bW sps v++r))=_
   rw [aDO c _ h hv.1,lH v r hv.2 hr] <;> rfl
theorem o8 : ∀ (s : List UInt8) (v r : List UInt8), fS s = some (v, r) → s = bW sps v ++ r ∧ v.all fL = true ∧ (r = [] ∨ ∃ r', r = 44 :: r')
 | [], v, r, h => by
  unfold fS at h; cases h
  exact ⟨rfl,rfl,.inl rfl⟩
 | [c], v, r, h => by
  unfold fS at h
  split at h
  ·rename_i e; subst e; cases h
   exact ⟨rfl,rfl,.inr ⟨[],rfl⟩⟩
  ·rename_i e
   split at h
   ·cases h
   ·rename_i e2
    cases h
    have hb:¬ aC7 c=true:=fun e=>e2 (.inl e)
    have h92:c≠92:=fun e=>e2 (.inr e)
    unfold aC7 at hb
    simp only [Bool.or_eq_true,decide_eq_true_eq,Bool.not_eq_true',not_or] at hb
    have ht:fL c=true:=by simpa using hb.2
    have hs:c ∉ sps:=fun h=>by
     rcases pX.1 h with h | h | h
     ·exact h92 h
     ·exact e h
     ·exact hb.1 h
    refine ⟨?_,by simp [ht],.inl rfl⟩
    rw [hH,if_neg hs] <;> rfl
 | c :: d :: r0, v, r, h => by
  rw [fS] at h
  split at h
  ·rename_i e; subst e; cases h
   exact ⟨rfl,rfl,.inr ⟨_,rfl⟩⟩
  ·rename_i e
   split at h
   ·cases h
   ·rename_i hb
    unfold aC7 at hb
    simp only [Bool.or_eq_true,decide_eq_true_eq,Bool.not_eq_true',not_or] at hb
    have ht:fL c=true:=by simpa using hb.2
    split at h
    ·rename_i e92
     subst e92
     split at h
     ·rename_i hd
      cases hs:fS r0 with
      | none=>rw [hs] at h; cases h
      | some p =>
       obtain ⟨v',r'⟩:=p
       rw [hs] at h; cases h
       obtain ⟨h1,h2,h3⟩:=o8 r0 v' r' hs
       refine ⟨?_,by simp [h2,aI1 hd],h3⟩
       rw [hH,if_pos hd]
       show 92 :: d :: r0=92 :: d :: (bW sps v'++r')
       rw [h1]
     ·cases h
    ·rename_i h92
     cases hs:fS (d :: r0) with
     | none=>rw [hs] at h; cases h
     | some p =>
      obtain ⟨v',r'⟩:=p
      rw [hs] at h; cases h
      obtain ⟨h1,h2,h3⟩:=o8 (d :: r0) v' r' hs
      have hns:c ∉ sps:=fun h=>by
       rcases pX.1 h with h | h | h
       ·exact h92 h
       ·exact e h
       ·exact hb.1 h
      refine ⟨?_,by simp [h2,ht],h3⟩
      rw [hH,if_neg hns]
      show c :: d :: r0=c :: (bW sps v'++r')
      rw [h1]
theorem fD {t:List UInt8} (h:oC t=true):t=[67,78]∨t=[79]∨t=[79,85]∨t=[67]:=by
 unfold oC at h
 simp only [Bool.or_eq_true,decide_eq_true_eq] at h
 exact h
theorem qQ {t X:List UInt8} (h:oC t=true):(t++61 :: X).takeWhile (· ≠ 61)=t∧(t++61 :: X).dropWhile (· ≠ 61)=61 :: X:=by
 rcases fD h with rfl | rfl | rfl | rfl <;> exact ⟨by simp [List.takeWhile],by simp [List.dropWhile]⟩
theorem mQ : ∀ (n : Nat) (s : List UInt8) (l : List Att), jK n s = some l → s = gK l ∧ (∀ a ∈ l, okA a) ∧ l ≠ []
 | 0,s,l,h=>by cases h
 | n + 1, s, l, h => by
  unfold jK at h
  split at h
  ·cases h
  ·rename_i e
   rw [not_or] at e
   obtain ⟨e1,e2⟩:=e
   have e1:oC (s.takeWhile (· ≠ 61))=true:=by simpa using e1
   have hs:s.takeWhile (· ≠ 61)++s.dropWhile (· ≠ 61)=s:=List.takeWhile_append_dropWhile
   obtain ⟨c,X,hX⟩:∃ c X,s.dropWhile (· ≠ 61)=c :: X:=by
    cases hd:s.dropWhile (· ≠ 61) with
    | nil=>exact absurd hd e2
    | cons c X=>exact ⟨c,X,rfl⟩
   have hc:c=61:=by
    have:=List.head?_dropWhile_not (fun x:UInt8=>decide (x≠61)) s
    rw [hX] at this
    simpa using this
   subst hc
   generalize ht:s.takeWhile (· ≠ 61)=t at *
   rw [hX] at h hs
   have one:∀ v:List UInt8,eJ (t,v)=t++61 :: bW sps v:=fun v=>by simp [eJ]
   split at h
   ·cases h
   ·rename_i v hv
    cases h
    obtain ⟨h1,h2,h3⟩:=o8 _ _ _ hv
    refine ⟨?_,fun a ha=>by cases List.mem_singleton.1 ha; exact ⟨e1,h2⟩,by simp⟩
    rw [nX,one, ← hs]
    have h1:X=bW sps v++[]:=h1
    rw [h1,List.append_nil]
   ·rename_i v c r hv
    obtain ⟨h1,h2,h3⟩:=o8 _ _ _ hv
    have h3:c=44:=by rcases h3 with h | ⟨r',h⟩ <;> cases h; rfl
    subst h3
    cases hr:jK n r with
    | none=>rw [hr] at h; cases h
    | some l' =>
     rw [hr] at h; cases h
     obtain ⟨g1,g2,g3⟩:=mQ n r l' hr
     refine ⟨?_,fun a ha=>?_,by simp⟩
     ·cases l' with
      | nil=>exact absurd rfl g3
      | cons b l' =>
       rw [jH,one, ← g1, ← hs]
       have h1:X=bW sps v++44 :: r:=h1
       rw [h1,List.append_assoc] <;> rfl
     ·rcases List.mem_cons.1 ha with rfl | ha
      ·exact ⟨e1,h2⟩
      ·exact g2 a ha
theorem uT:∀ (l:List Att) (n:Nat),(∀ a∈l,okA a)→l≠[]→l.length≤n→jK n (gK l)=some l
 | [],n,_,h,_=>absurd rfl h
 | [a], n, ha, _, hn => by
  obtain ⟨n,rfl⟩:∃ m,n=m+1:=⟨n - 1,by simp at hn; omega⟩
  obtain ⟨h1,h2⟩:=ha a (by simp)
  have hv:=lH a.2 [] h2 (.inl rfl)
  rw [List.append_nil] at hv
  rw [nX,show eJ a=a.1++61 :: bW sps a.2 by simp [eJ]]
  unfold jK
  rw [(qQ h1).1,(qQ h1).2,if_neg (by rw [h1]; simp)]
  show (match fS (bW sps a.2) with
   | none=>none
   | some (v,[])=>some [(a.1,v)]
   | some (v,_ :: r)=>(jK n r).map ((a.1,v) :: ·))=_
  rw [hv]
 | a :: b :: l, n, ha, _, hn => by
  obtain ⟨n,rfl⟩:∃ m,n=m+1:=⟨n - 1,by simp at hn; omega⟩
  obtain ⟨h1,h2⟩:=ha a (by simp)
  have ih:=uT (b :: l) n (fun x hx=>ha x (by simp [List.mem_cons.1 hx])) (by simp) (by simp at hn ⊢; omega)
  have hv:=lH a.2 (44 :: gK (b :: l)) h2 (.inr ⟨_,rfl⟩)
  rw [jH,show eJ a++44 :: gK (b :: l)=a.1++61 :: (bW sps a.2++44 :: gK (b :: l)) by simp [eJ]]
  unfold jK
  rw [(qQ h1).1,(qQ h1).2,if_neg (by rw [h1]; simp)]
  show (match fS (bW sps a.2++44 :: gK (b :: l)) with
   | none=>none
   | some (v,[])=>some [(a.1,v)]
   | some (v,_ :: r)=>(jK n r).map ((a.1,v) :: ·))=_
  rw [hv]
  show (jK n (gK (b :: l))).map ((a.1,a.2) :: ·)=_
  rw [ih] <;> rfl
theorem dB (c:UInt8) (cur X:List UInt8) (h1:c≠92) (h2:c≠44):bL cur (c :: X)=bL (cur++[c]) X:=by
 cases X with
 | nil=>unfold bL; rw [if_neg h2]
 | cons d r =>
  conv=>lhs; unfold bL
  rw [if_neg h1,if_neg h2]
theorem aCX (c:UInt8) (cur X:List UInt8):bL cur (92 :: c :: X)=bL (cur++[92,c]) X:=by
 conv=>lhs; unfold bL
 rw [if_pos rfl]
theorem zY (cur X:List UInt8):bL cur (44 :: X)=cur :: bL [] X:=by
 cases X with
 | nil=>rfl
 | cons d r =>
  conv=>lhs; unfold bL
  rw [if_neg (by decide),if_pos rfl]
theorem iG:∀ (v cur X:List UInt8),bL cur (bW sps v++X)=bL (cur++bW sps v) X
 | [],cur,X=>by simp [qN]
 | c :: v, cur, X => by
  rw [hH]
  by_cases h:c∈sps
  ·rw [if_pos h]
   show bL cur (92 :: c :: (bW sps v++X))=_
   rw [aCX,iG v,List.append_assoc]
  ·rw [if_neg h]
   show bL cur (c :: (bW sps v++X))=_
   rw [pX,not_or,not_or] at h
   rw [dB c _ _ h.1 h.2.1,iG v,List.append_assoc]
theorem vA {a:Att} (h:oC a.1=true) (X:List UInt8):bL [] (eJ a++X)=bL (eJ a) X:=by
 obtain ⟨t,v⟩:=a
 show bL [] (((t++[61])++bW sps v)++X)=bL ((t++[61])++bW sps v) X
 rcases fD h with rfl | rfl | rfl | rfl
 ·show bL [] (67 :: 78 :: 61 :: (bW sps v ++ X)) = _
  rw [dB _ _ _ (by decide) (by decide),dB _ _ _ (by decide) (by decide),dB _ _ _ (by decide) (by decide),iG] <;> rfl
 ·show bL [] (79 :: 61 :: (bW sps v ++ X)) = _
  rw [dB _ _ _ (by decide) (by decide),dB _ _ _ (by decide) (by decide),iG] <;> rfl
 ·show bL [] (79 :: 85 :: 61 :: (bW sps v ++ X)) = _
  rw [dB _ _ _ (by decide) (by decide),dB _ _ _ (by decide) (by decide),dB _ _ _ (by decide) (by decide),iG] <;> rfl
 ·show bL [] (67 :: 61 :: (bW sps v ++ X)) = _
  rw [dB _ _ _ (by decide) (by decide),dB _ _ _ (by decide) (by decide),iG] <;> rfl
theorem j8:∀ l:List Att,(∀ a∈l,okA a)→l≠[]→bL [] (gK l)=l.map eJ
 | [],_,h=>absurd rfl h
 | [a], ha, _ => by
  have:=vA (ha a (by simp)).1 []
  rw [List.append_nil] at this
  rw [nX,this] <;> rfl
 | a :: b :: l, ha, _ => by
  rw [jH,vA (ha a (by simp)).1,zY,j8 (b :: l) (fun x hx=>ha x (by simp [List.mem_cons.1 hx])) (by simp)] <;> rfl
theorem oT:∀ v:List UInt8,cM (bW sps v)=v
 | []=>rfl
 | c :: v => by
  have ih:=oT v
  rw [hH]
  by_cases h:c∈sps
  ·rw [if_pos h]
   show cM (92 :: c :: bW sps v)=_
   rw [cM,if_pos rfl,ih]
  ·rw [if_neg h]
   show cM (c :: bW sps v)=_
   rw [pX,not_or] at h
   cases hX:bW sps v with
   | nil=>rw [hX] at ih; rw [← ih] <;> rfl
   | cons d r=>rw [cM,if_neg h.1, ← hX,ih]
theorem aKP {a:Att} (h:oC a.1=true):m6 (eJ a) 61=(a.1,bW sps a.2,true):=by
 obtain ⟨t,v⟩:=a
 have key:Lib.indexByte (eJ (t,v)) 61=(t.length:Int):=by
  show Lib.indexByte ((t++[61])++bW sps v) 61=_
  rcases fD h with rfl | rfl | rfl | rfl <;> simp [Lib.indexByte]
 unfold m6
 rw [key,if_pos (by omega)]
 have e:eJ (t,v)=t++61 :: bW sps v:=by simp [eJ]
 rw [e]
 simp
def mM (t:List UInt8):List UInt8:=cH.foldr (fun x n=>if x.1=t then x.2 else n) []
theorem pO {t:List UInt8} (h:oC t=true):(t,mM t)∈cH:=by
 rcases fD h with rfl | rfl | rfl | rfl <;> decide +kernel
theorem aM7 {x:Att} (h:x∈cH):oC x.1=true:=by
 simp only [cH,List.mem_cons,List.not_mem_nil,or_false] at h
 rcases h with rfl | rfl | rfl | rfl <;> rfl
theorem aLG {x:Att} (h:x∈cH):(eA (.mk 0 6 false (dC x.2) [])).2=true∧gQ (eA (.mk 0 6 false (dC x.2) [])).1=x.1:=by
 simp only [cH,List.mem_cons,List.not_mem_nil,or_false] at h
 rcases h with rfl | rfl | rfl | rfl <;> exact ⟨by kernel_rfl,by kernel_rfl⟩
theorem aLI:∀ t:List UInt8,oC t=true→∀ X,(cH.flatMap fun x=>if x.1=t then [gI x.2 X] else [])=[gI (mM t) X]:=by
 intro t ht X
 rcases fD ht with rfl | rfl | rfl | rfl <;> rfl
theorem xX {a:Att} (h:oC a.1=true):kidsOf (eJ a)=[gI (mM a.1) (bW sps a.2)]:=by
 unfold kidsOf
 rw [aKP h]
 exact aLI a.1 h _
theorem aFQ {x:Att} (h:x∈cH) (X:List UInt8):lD (gI x.2 X)=if (cM X).all fL=true then some (eJ (x.1,cM X)) else none:=by
 obtain ⟨h1,h2⟩:=aLG h
 show gJ (.mk 0 6 false (dC x.2) []) (.mk 0 12 false (cM X) [])=_
 unfold gJ
 rw [h1,h2]
 have hd:eU (.mk 0 12 false (cM X) [])=if (cM X).all fL=true then (cM X,true) else ([],false):=by
  unfold eU
  show (if (true||_)=true∧(cM X).all fL=true then _ else _)=_
  rw [Bool.true_or]
  simp only [true_and]
  rfl
 rw [hd]
 have hne:x.1≠[]:=by
  simp only [cH,List.mem_cons,List.not_mem_nil,or_false] at h
  rcases h with rfl | rfl | rfl | rfl <;> decide
 split
 ·rw [if_pos ⟨rfl,rfl,hne⟩] <;> rfl
 ·rw [if_neg (by rintro ⟨_,h,_⟩; cases h)]
theorem wA:∀ l:List Att,(∀ a∈l,okA a)→fK ((l.map eJ).flatMap kidsOf)=some (l.map eJ)
 | [],_=>rfl
 | a :: l, ha => by
  have ih:=wA l fun x hx=>ha x (by simp [hx])
  obtain ⟨h1,h2⟩:=ha a (by simp)
  rw [List.map_cons,List.flatMap_cons,xX h1]
  show fK (gI (mM a.1) (bW sps a.2) :: (l.map eJ).flatMap kidsOf)=_
  unfold fK
  have:=aFQ (pO h1) (bW sps a.2)
  rw [oT,if_pos h2] at this
  rw [show lD (gI (mM a.1) (bW sps a.2))=some (eJ a) from this,ih]
theorem aC9 {l:List Att} (h:∀ a∈l,okA a):cE (g8 ((l.map eJ).flatMap kidsOf))=some (gK l):=by
 unfold cE
 show (if true=true then (fK ((l.map eJ).flatMap kidsOf)).map (fun l=>Lib.join l [44]) else none)=_
 rw [if_pos rfl,wA l h] <;> rfl
theorem aAE : ∀ (ks : List Der) (xs : List (List UInt8)), fK ks = some xs → (∀ k ∈ ks, ∃ x X, x ∈ cH ∧ k = gI x.2 X) → ∃ l : List Att, xs = l.map eJ ∧ ∀ a ∈ l, okA a
 | [],xs,h,_=>by unfold fK at h; cases h; exact ⟨[],rfl,by simp⟩
 | k :: ks, xs, h, hk => by
  obtain ⟨x,X,hx,rfl⟩:=hk k (by simp)
  unfold fK at h
  rw [aFQ hx] at h
  split at h
  ·cases h
  ·rename_i y hy
   split at hy
   ·rename_i ht
    cases hy
    split at h
    ·cases h
    ·rename_i l' hl'
     cases h
     obtain ⟨l,rfl,hl⟩:=aAE ks l' hl' fun k hk'=>hk k (by simp [hk'])
     refine ⟨(x.1,cM X) :: l,rfl,fun a ha=>?_⟩
     rcases List.mem_cons.1 ha with rfl | ha
     ·exact ⟨aM7 (x:=x) hx,ht⟩
     ·exact hl a ha
   ·cases hy
theorem xZ {s : List UInt8} (hne : s ≠ []) (hl : s.length ≤ 512) : (∃ l, jK (s.length + 1) s = some l ∧ s = gK l ∧ (∀ a ∈ l, okA a) ∧ l ≠ [] ∧ (bK s).2 = 0) ∨ (jK (s.length + 1) s = none ∧ (bK s).2 = 5) := by
 cases hs:jK (s.length+1) s with
 | some l =>
  obtain ⟨h1,h2,h3⟩:=mQ _ _ _ hs
  refine .inl ⟨l,rfl,h1,h2,h3, ?_⟩
  unfold bK
  rw [if_neg (by omega),if_neg hne,if_pos (by rw [h1,j8 l h2 h3]; exact aC9 h2)]
 | none =>
  refine .inr ⟨rfl, ?_⟩
  unfold bK
  rw [if_neg (by omega),if_neg hne]
  split
  ·rename_i h
   exfalso
   unfold cE at h
   have h:((fK ((bL [] s).flatMap kidsOf)).map fun l=>Lib.join l [44])=some s:=h
   cases hk:fK ((bL [] s).flatMap kidsOf) with
   | none=>rw [hk] at h; cases h
   | some xs =>
    rw [hk] at h
    have h:Lib.join xs [44]=s:=Option.some.inj h
    obtain ⟨l,rfl,hl'⟩:=aAE _ _ hk fun k hk'=>by
     obtain ⟨p,hp,hp2⟩:=List.mem_flatMap.1 hk'
     unfold kidsOf at hp2
     obtain ⟨x,hx,hx2⟩:=List.mem_flatMap.1 hp2
     split at hx2
     ·exact ⟨x,_,hx,List.mem_singleton.1 hx2⟩
     ·cases hx2
    have hl0:l≠[]:=by
     rintro rfl
     exact hne (by rw [← h]; exact Lib.join_nil _)
    have h:gK l=s:=h
    have hlen:l.length≤s.length+1:=by
     have:=hP [] s
     rw [← h,j8 l hl' hl0] at this
     rw [← h]; simpa using this
    have:=uT l (s.length+1) hl' hl0 hlen
    rw [h,hs] at this
    cases this
  ·rfl
end Go.Proofs.YtcdkpkkdolmfdaaGreatDoor
namespace Go.Proofs.YtcdkpkkdolmfdaaGreatDoor
open Go.GAM Go.RowKit
section
variable {h0:aA} {Q:AV→aA→Prop} {s:List UInt8} {x4:AV} {done:List Att} {t:List UInt8} {h:aA}
end
end Go.Proofs.YtcdkpkkdolmfdaaGreatDoor
namespace Go.GAM
theorem dM {id ver off o:Nat} {K:AV→Prop}:aC o (.p (some ⟨id,ver,off⟩)) K=K (.p (some ⟨id,ver,off+o⟩)):=rfl
theorem cG {l:List UInt8} {K:List UInt8→Prop}:asS (.s l) K=K l:=rfl
theorem aML {b:Bool} {K:Bool→Prop}:asB (.b b) K=K b:=rfl
theorem iS {n:Int} {K:Int→Prop}:asI .i64 (.i .i64 n) K=K n:=rfl
theorem bJ {v:AV} {A:Prop}:(v=v∧A)=A:=by simp
theorem fT {h:aA} {id n o:Nat} {cs:List AV} {v:AV} {K:AV→Prop} (R:bB h id cs) (hn:n=cs.length) (hc:cs[o]? = some v):aE (.p (some ⟨id,n,o⟩)) h K=K v:=by
 refine propext ⟨fun hk=>?_,fun hk=>aP R hn hc hk⟩
 obtain ⟨b,h1,_,h2⟩:=hk
 obtain ⟨b',g1,g2,_⟩:=R
 have h1:h[id]? = some b:=h1
 rw [g1] at h1
 cases h1
 have h2:K (b.cells.getD o .u):=h2
 rw [g2,getD_some hc] at h2
 exact h2
theorem aCL {h:aA} {id n o k:Nat} {cs:List AV} {K:AV→Prop} (R:bB h id cs) (hn:n=cs.length) (hk:o+k≤cs.length):aD k (.p (some ⟨id,n,o⟩)) h K=K (.ag ((cs.drop o).take k)):=by
 obtain ⟨b,g1,g2,g3,g4⟩:=R
 refine propext ⟨fun h'=>?_,fun h'=>⟨b,g1,⟨by rw [hn]; exact g3,by rw [hn,g2]; exact Nat.le_refl _,by rw [hn]; exact hk⟩,by rw [g2]; exact h'⟩⟩
 obtain ⟨b',h1,_,h2⟩:=h'
 have h1:h[id]? = some b':=h1
 rw [g1] at h1
 cases h1
 rw [g2] at h2
 exact h2
def ptr (v:AV) (sz i o:Nat):AV:=match v with
 | .sl (some a) _ _=>.p (some ⟨a.id,a.ver,a.off+i * sz+o⟩)
 | _=>.u
theorem aON {sz:Nat} {h:aA} {v:AV} {cs:List AV} {len:Nat} (R:RdI sz h v cs len) {k:IntKind} {n:Int} (h0:0≤n) (h1:n<len) {K:AV→Prop}:aB sz v (.i k n) h K=K (ptr v sz n.toNat 0):=by
 rcases R with ⟨rfl,rfl,rfl⟩ | ⟨rfl,_⟩ | ⟨id,ver,off,cap,b,rfl,h2,h4,h5,h6,h7⟩
 ·omega
 ·omega
 ·exact propext ⟨fun hk=>hk.2.2.2,fun hk=>⟨h0,h1,⟨b,h2,h4,by omega⟩,hk⟩⟩
theorem aN2 {v:AV} {sz i o o':Nat} {h:aA} {cs:List AV} {len:Nat} (R:RdI sz h v cs len) (hi:i<len) {K:AV→Prop}:aC o' (ptr v sz i o) K=K (ptr v sz i (o+o')):=by
 rcases R with ⟨rfl,rfl,rfl⟩ | ⟨rfl,_⟩ | ⟨id,ver,off,cap,b,rfl,h2,h4,h5,h6,h7⟩
 ·omega
 ·omega
 ·show K _ = K _
  unfold ptr
  simp only [Nat.add_assoc]
theorem aMP {v:AV} {sz i o:Nat} {h:aA} {cs:List AV} {len:Nat} {c:AV} (R:RdI sz h v cs len) (hi:i<len) (ho:o<sz) (hc:cs[i * sz+o]? = some c) {K:AV→Prop}:aE (ptr v sz i o) h K=K c:=by
 rcases R with ⟨rfl,rfl,rfl⟩ | ⟨rfl,_⟩ | ⟨id,ver,off,cap,b,rfl,h2,h4,h5,h6,h7⟩
 ·omega
 ·omega
 ·have e1 : (i + 1) * sz ≤ len * sz := Nat.mul_le_mul_right _ (by omega)
  rw [Nat.add_mul] at e1
  have hcell:b.cells.getD (off+i * sz+o) .u=c:=by
   rw [← h7,List.getElem?_take_of_lt (by omega),List.getElem?_drop] at hc
   exact getD_some (by rw [← hc]; congr 1; omega)
  refine propext ⟨fun hk=>?_,fun hk=>⟨b,h2,⟨h4,h5,by simp only; omega⟩,by simp only; rw [hcell]; exact hk⟩⟩
  obtain ⟨b',g1,_,g2⟩:=hk
  have g1:h[id]? = some b':=g1
  rw [h2] at g1
  cases g1
  have g2:K (b.cells.getD (off+i * sz+o) .u):=g2
  rw [hcell] at g2
  exact g2
theorem aN0 {v:AV} {sz i:Nat} {h:aA} {cs:List AV} {len:Nat} (R:RdI sz h v cs len) (hi:i<len) {K:AV→Prop}:aD sz (ptr v sz i 0) h K=K (.ag ((cs.drop (i * sz)).take sz)):=by
 rcases R with ⟨rfl,rfl,rfl⟩ | ⟨rfl,_⟩ | ⟨id,ver,off,cap,b,rfl,h2,h4,h5,h6,h7⟩
 ·omega
 ·omega
 ·have e1 : (i + 1) * sz ≤ len * sz := Nat.mul_le_mul_right _ (by omega)
  rw [Nat.add_mul] at e1
  have hcell:(b.cells.drop (off+i * sz)).take sz=(cs.drop (i * sz)).take sz:=by
   rw [← h7,List.drop_take,List.drop_drop,List.take_take,Nat.min_eq_left (by omega)]
  refine propext ⟨fun hk=>?_,fun hk=>⟨b,h2,⟨h4,h5,by simp only; omega⟩,by simp only [Nat.add_zero]; rw [hcell]; exact hk⟩⟩
  obtain ⟨b',g1,_,g2⟩:=hk
  have g1:h[id]? = some b':=g1
  rw [h2] at g1
  cases g1
  have g2:K (.ag ((b.cells.drop (off+i * sz+0)).take sz)):=g2
  rw [Nat.add_zero,hcell] at g2
  exact g2
theorem RdI.upd {sz:Nat} {M:Nat→Prop} {h h':aA} {v:AV} {cs:List AV} {len:Nat} (R:RdI sz h v cs len) (U:Upd M h h') (hM:∀ id,bU v id→¬ M id):RdI sz h' v cs len:=by
 rcases R with h1 | h1 | ⟨id,ver,off,cap,b,rfl,h2,h3⟩
 ·exact .inl h1
 ·exact .inr (.inl h1)
 ·exact .inr (.inr ⟨id,ver,off,cap,b,rfl,(U.2 id (bH h2) (hM id rfl)).trans h2,h3⟩)
theorem RdI.plen {sz:Nat} {h:aA} {v:AV} {cs:List AV} {len:Nat} (R:RdI sz h v cs len) {K:Int→Prop}:bN v K=K (len:Int):=by
 rcases R with ⟨rfl,rfl,rfl⟩ | ⟨rfl,_,a,c,rfl⟩ | ⟨id,ver,off,cap,b,rfl,h2⟩ <;> rfl
theorem Stk.app1 {ty : Option TypeId} {bytes : Nat} {h : aA} {v x y : AV} {l : List AV} (S : Stk h v l) (R1 : Rd 1 h y [x] 1) (hx : x.cellOK = true) (hlen : (l.length + 1) * bytes ≤ 140737488355328) (hl2 : l.length + 1 ≤ 9223372036854775807) {K : AV → aA → Prop}
  (hk:∀ v' h',Upd (bU v) h h'→Stk h' v' (l++[x])→(∀ i,bU v' i→bU v i∨h.length≤i)→K v' h'):bS ty 1 bytes v y h K:=by
 refine ⟨Nat.one_pos,R1.news ?_⟩
 rcases S with ⟨rfl,rfl⟩ | ⟨id,b,rfl,g1,g2,g3,g4,g5,g6,g7⟩
 ·refine ⟨by simpa using hlen, by omega, ?_⟩
  rw [if_neg (by decide)]
  exact hk _ _ ((Upd.app _ _).mono fun _ _ h=>h.elim) (.inr ⟨h.length,bP [x] 1 false ty,by simp [bP],by simp,rfl,by simp [bP],by simp [bP],by simp [bP],rfl,rfl⟩) fun i hi=>.inr (by have e:h.length=i:=hi; omega)
 ·have hid := bH g1
  refine ⟨hlen,by omega,b,g1,g2,⟨g5,Nat.le_refl _,by simp only; omega⟩, ?_⟩
  by_cases hfull:l.length=b.cells.length
  ·cases hex : b.ex with
   | true =>
    refine .inr (.inl ⟨Nat.one_pos,.inr ⟨rfl,rfl,rfl,by simp only; omega⟩, ?_⟩)
    refine hk _ _ ((Upd.app _ _).mono fun _ _ h=>h.elim) (.inr ⟨h.length,bP (l++[x]) 1 false ty, ?_, ?_,rfl,by simp [bP],by simp only [bP,List.length_append]; exact List.take_of_length_le (by simp),by simp [bP],rfl,rfl⟩) fun i hi=>.inr (by have e:h.length=i:=hi; omega)
    ·simp [bP,g4,g3]
    ·simp [g4]
   | false =>
    refine .inr (.inr (.inr (.inl ⟨Nat.one_pos,g6,rfl,rfl,by omega,rfl,rfl,g7,by simp [hx], ?_⟩)))
    have hcl:b.cells=l:=by rw [hfull,List.take_length] at g4; exact g4
    refine hk _ _ ((Upd.set _ _ _).mono fun i _ h=>h.symm) (.inr ⟨id,{ b with cells:=b.cells++[x],ty:=jI b.ty ty }, ?_,by simp [hid,hex],g2,by simp; omega, ?_,by simp; omega,g6,g7⟩) fun i hi=>.inl hi
    ·simp
    ·simp only [hcl]
     rw [List.take_of_length_le (by simp)]
  ·refine .inr (.inr (.inl ⟨Nat.one_pos, g6, rfl, by simp only; omega, .inl rfl, by simp [hx], ?_⟩))
   refine hk _ _ ((Upd.set _ _ _).mono fun i _ h=>h.symm) (.inr ⟨id,{ b with cells:=wr b.cells (0+l.length * 1) [x],floor:=b.cells.length }, ?_,show (h.set id _)[id]? = some _ from List.getElem?_set_self hid,g2, ?_, ?_, ?_,g6,g7⟩) fun i hi=>.inl hi
   ·simp [wr]
   ·simp [wr]; omega
   ·simp only [wr, Nat.zero_add, Nat.mul_one, List.length_append, List.length_cons, List.length_nil]
    apply List.ext_getElem?
    intro i
    by_cases h1:i<l.length
    ·rw [List.getElem?_take_of_lt (by omega), List.getElem?_set_ne (by omega), List.getElem?_append_left h1]
     conv=>rhs; rw [← g4]
     rw [List.getElem?_take_of_lt h1]
    ·by_cases h2 : i = l.length
     ·subst h2
      rw [List.getElem?_take_of_lt (by omega),List.getElem?_set_self (by omega),List.getElem?_append_right (by omega)]
      simp
     ·rw [List.getElem?_eq_none (by simp; omega),List.getElem?_eq_none (by simp; omega)]
   ·simp [wr]
theorem fZ.app1 {ty:Option TypeId} {bytes:Nat} {h0 h:aA} {v x y:AV} {l:List AV} (S:fZ h0 h v l) (R1:Rd 1 h y [x] 1) (hx:x.cellOK=true) (hlen:(l.length+1) * bytes≤140737488355328) (hl2:l.length+1≤9223372036854775807) {K:AV→aA→Prop}
  (hk:∀ v' h',fZ h0 h' v' (l++[x])→Upd (bU v) h h'→(∀ i,bU v' i→bU v i∨h.length≤i)→K v' h'):bS ty 1 bytes v y h K:=
 S.stk.app1 R1 hx hlen hl2 fun v' h' U S' F=>hk v' h' ⟨S.upd.trans U fun i hi hs=>absurd (S.new i hs) (by omega),S',fun i hi=>by
  rcases F i hi with h | h
  ·exact S.new i h
  ·exact Nat.le_trans S.upd.1 h⟩ U F
end Go.GAM
namespace Go.GAM
inductive Ev (α:Type) where
 | ok (a:α)
 | no (c:Nat)
deriving Inhabited
def iF {α:Type} (c:Bool) (n:Nat) (x:Ev α):Ev α:=bif c then x else .no n
structure CB where
 b:ABlk
 n:Nat
inductive Tr where
 | e
 | n (v:Option CB) (l r:Tr)
structure HS where
 t:Tr
 n:Nat
end Go.GAM
namespace Go.GAM
abbrev EvS:=Ev (AV × HS)
end Go.GAM
namespace Go.GAM
section
variable {P:Program}
abbrev aOA:=FuncId→List AV→HS→EvS
end
end Go.GAM
namespace Go.GAM
section
variable {P:Program} {RC:aOA} {RA:bT} {nt:Nat}
end
end Go.GAM
namespace Go.GAM
end Go.GAM
namespace Go.GAM
open Go.RowKit
section
variable {w:World}
end
end Go.GAM
namespace Go.Proofs.YtcdkpkkdolmfdaaGreatDoor
open Go.GAM Go.RowKit
def j5 (d:Der):Bool:=isS 0 3 false d
def dZ (d:Der):Bool:=isS 0 1 false d&&decide (d.data.length=1)
def cJ (d:Der):Bool:=isS 0 16 true d
def sY (n:Nat):UInt8:=if n<10 then UInt8.ofNat (48+n) else UInt8.ofNat (87+n)
def hZ (l:List UInt8):List UInt8:=l.flatMap fun c=>[sY (c.toNat / 16),sY (c.toNat % 16)]
def altOid:List UInt8:=[50,46,53,46,50,57,46,49,55]
def basOid:List UInt8:=[50,46,53,46,50,57,46,49,57]
def dD (d:Der):Option (List UInt8 × List UInt8):=match d.kids with
 | [a,b]=>if (cJ d&&(isS 0 4 false b&&(eA a).2))=true then some ((eA a).1,b.data) else none
 | [a,t,b]=>if (cJ d&&(dZ t&&(isS 0 4 false b&&(eA a).2)))=true then some ((eA a).1,b.data) else none
 | _=>none
def cL:List (List UInt8)→List Der→List (List UInt8)
 | ns,[]=>ns
 | ns,y :: r=>if (isS 2 2 false y&&decide (ns.length<16))=true then cL (ns++[g9 y.data]) r else cL ns r
def nQ (ks:List Der):Bool:=match ks with
 | []=>false
 | k :: _=>dZ k && !decide (k.data=[0])
def cX (s:List UInt8):Option (List Der):=match jX s with
 | .ok v=>if cJ v=true then some v.kids else none
 | .error _=>none
def cU : List Der → Bool → Bool → List (List UInt8) × Bool → Option (List (List UInt8) × Bool)
 | [],_,_,x=>some x
 | d :: r, nm, bs, x => match dD d with
  | none=>none
  | some (t, s) =>
   if t=altOid∧nm=false then (match cX s with
    | some ks=>cU r true bs (cL x.1 ks,x.2)
    | none=>none)
   else if t=basOid∧bs=false then (match cX s with
    | some ks=>cU r nm true (x.1,nQ ks)
    | none=>none)
   else cU r nm bs x
def s9 (a:Der):Bool:=isS 2 0 true a&&(match a.kids with
 | [v]=>(zB v).2&&decide ((zB v).1=2)
 | _=>false)
def eR (e:Der):Option (Int × Int):=if cJ e=true then (match e.kids with
 | [p,q]=>if ((cP p).2&&(cP q).2)=true then some ((cP p).1,(cP q).1) else none
 | _=>none) else none
def nG (g : Der) : Option (List UInt8) := if cJ g = true then (match g.kids with
 | [p, q] => if (cJ p && j5 q) = true then (match q.data with
  | c :: r=>if c=0 then some r else none
  | []=>none) else none
 | _=>none) else none
def oW : List Der → Option (List (List UInt8) × Bool)
 | []=>some ([],false)
 | [x] => if isS 2 3 true x = true then (match x.kids with
  | [k]=>if cJ k=true then cU k.kids false false ([],false) else none
  | _=>none) else none
 | _=>none
def bX (l : List Der) : Option eF := match l with
 | a :: b :: c :: d :: e :: f :: g :: x =>
  if (s9 a&&(isS 0 2 false b&&(!decide (b.data=[])&&cJ c)))=true then
   match cE d,cE f,eR e,nG g,oW x with
   | some i,some s,some t,some k,some n=>some ⟨hZ b.data,i,s,t.1,t.2,n.1,n.2,k⟩
   | _,_,_,_,_=>none
  else none
 | _=>none
def lK (s : List UInt8) : Except Int eF := if 65535 < s.length then .error 3 else match jX s with
 | .error e=>.error e
 | .ok d => if cJ d = true then (match d.kids with
  | [a, b, c] => if (cJ a && (cJ b && j5 c)) = true then (match bX a.kids with
   | some c=>.ok c
   | none=>.error 2) else .error 2
  | _=>.error 2) else .error 2
def oY (c:UInt8):Option Nat:=if 48≤c.toNat∧c.toNat≤57 then some (c.toNat - 48) else if 97≤c.toNat∧c.toNat≤102 then some (c.toNat - 87) else none
def iM : List UInt8 → Option (List UInt8)
 | []=>some []
 | a :: b :: r => match oY a, oY b, iM r with
  | some x,some y,some l=>some (UInt8.ofNat (16 * x+y) :: l)
  | _,_,_=>none
 | [_]=>none
def wC (l:List UInt8):Bool:=match l with
 | a :: b :: _=>(decide (a.toNat=0)&&decide (b.toNat<128))||(decide (a.toNat=255)&&decide (128≤b.toNat))
 | _=>false
def cW (s:List UInt8):Option (List UInt8):=if s=[]∨s.length % 2=1∨40<s.length then none else match iM s with
 | none=>none
 | some l=>if wC l=true then none else some l
def fB (ks:List Der):Der:=.mk 0 16 true [] ks
def dT (c t:Int) (s:List UInt8):Der:=.mk c t false s []
def mC (o:List UInt8):Der:=dT 0 6 (dC o)
def oX:List UInt8:=[49,46,50,46,56,52,48,46,49,48,48,52,53,46,52,46,51,46,50]
def oE:Der:=fB [mC oX]
def kJ (o s:List UInt8):Der:=fB [mC o,dT 0 4 s]
def zX (names:List (List UInt8)):Der:=fB (names.map fun n=>dT 2 2 n)
def xD:Der:=fB [dT 0 1 [255]]
def sV (names:List (List UInt8)):Except Int (List Der):=if names=[] then .ok [] else match gY (zX names) with
 | .error e=>.error e
 | .ok s=>.ok [kJ altOid s]
def s4 (auth:Bool):Except Int (List Der):=if auth=true then (match gY xD with
 | .error e=>.error e
 | .ok s=>.ok [kJ basOid s]) else .ok []
def kY (number:List UInt8) (iss sub f u:Der) (key:List UInt8):List Der:=
 [.mk 2 0 true [] [dT 0 2 [2]],dT 0 2 number,oE,iss,fB [f,u],sub,fB [oE,dT 0 3 (0 :: key)]]
def gL (ext:List Der):List Der:=if ext=[] then [] else [.mk 2 3 true [] [fB ext]]
def aIM (number:List UInt8) (iss sub f u:Der) (key:List UInt8) (ext:List Der):Der:=
 fB [fB (kY number iss sub f u key++gL ext),oE,dT 0 3 (0 :: (key++[0,0,0,0,0,0,0,0]).take 8)]
def pK (y m d r:Nat):Der:=if y<2050 then dT 0 23 (jM y m d r) else dT 0 24 (iA (y / 100)++jM y m d r)
def nM (n:Int) (t:Der):Prop:=∃ k y m d:Nat,n=(k:Int)∧k≤253402300799∧aGG (k / 86400) y m d∧t=pK y m d (k % 86400)
def gD (c:eF):Int:=
 if c.frm<0∨253402300799<c.til∨c.til<c.frm then 4 else
 if (bK c.issuer).2≠0∨(bK c.subject).2≠0 then 5 else
 if c.names.any (fun n=>!decide (g9 n=n))=true then 5 else
 if cW c.serial=none then 2 else
 if 16<c.names.length∨1024<c.key.length then 3 else 0
def lT (c:eF) (f u:Der):Except Int (List UInt8):=if gD c≠0 then .error (gD c) else match sV c.names,s4 c.auth with
 | .error e,_=>.error e
 | .ok _,.error e=>.error e
 | .ok a,.ok b=>gY (aIM ((cW c.serial).getD []) (bK c.issuer).1 (bK c.subject).1 f u c.key (a++b))
end Go.Proofs.YtcdkpkkdolmfdaaGreatDoor
namespace Go.Proofs.YtcdkpkkdolmfdaaGreatDoor
open Go.GAM Go.RowKit
theorem qY {c:UInt8} {x:Nat} (h:oY c=some x):sY x=c∧x<16:=by
 unfold oY at h
 have hc:UInt8.ofNat c.toNat=c:=by simp
 split at h
 ·rename_i e
  cases h
  refine ⟨?_,by omega⟩
  unfold sY
  rw [if_pos (by omega),show 48+(c.toNat - 48)=c.toNat by omega,hc]
 ·split at h
  ·rename_i e
   cases h
   refine ⟨?_,by omega⟩
   unfold sY
   rw [if_neg (by omega),show 87+(c.toNat - 87)=c.toNat by omega,hc]
  ·cases h
theorem wI:∀ (s l:List UInt8),iM s=some l→hZ l=s
 | [],l,h=>by unfold iM at h; cases h; rfl
 | [_],l,h=>by unfold iM at h; cases h
 | a :: b :: r, l, h => by
  unfold iM at h
  split at h
  ·rename_i x y l' hx hy hl
   cases h
   have ih:=wI r l' hl
   obtain ⟨g1,g2⟩:=qY hx
   obtain ⟨g3,g4⟩:=qY hy
   have e:(UInt8.ofNat (16 * x+y)).toNat=16 * x+y:=nB (by omega)
   show [sY ((UInt8.ofNat (16 * x+y)).toNat / 16),sY ((UInt8.ofNat (16 * x+y)).toNat % 16)]++hZ l'=_
   rw [e,show (16 * x+y) / 16=x by omega,show (16 * x+y) % 16=y by omega,g1,g3,ih] <;> rfl
  ·cases h
theorem sQ {s l : List UInt8} (h : cW s = some l) : hZ l = s ∧ l ≠ [] := by
 unfold cW at h
 split at h
 ·cases h
 ·rename_i e
  split at h
  ·cases h
  ·rename_i l' hl
   split at h
   ·cases h
   ·cases h
    have:=wI s l hl
    refine ⟨this, ?_⟩
    rintro rfl
    exact e (.inl this.symm)
theorem xV {s:List UInt8} (h:(bK s).2=0):cE (bK s).1=some s:=by
 unfold bK at *
 by_cases h1:512<s.length
 ·rw [if_pos h1] at h; cases h
 rw [if_neg h1] at *
 by_cases h2:s=[]
 ·rw [if_pos h2] at *; subst h2; rfl
 rw [if_neg h2] at *
 by_cases h3:cE (g8 ((bL [] s).flatMap kidsOf))=some s
 ·rw [if_pos h3] at *; exact h3
 ·rw [if_neg h3] at h; cases h
theorem yA {n:Int} {t:Der} (h:nM n t):cP t=(n,true):=by
 obtain ⟨k,y,m,d,rfl,hk,D,rfl⟩:=h
 obtain ⟨t,s,h1,_,h2⟩:=aBD hk D
 unfold lQ cO at h1
 unfold pK
 by_cases hy:y<2050
 ·rw [if_pos hy] at *
  simp only [List.cons.injEq,AV.i.injEq,AV.s.injEq,true_and,and_true] at h1
  obtain ⟨rfl,rfl⟩:=h1
  exact h2
 ·rw [if_neg hy] at *
  simp only [List.cons.injEq,AV.i.injEq,AV.s.injEq,true_and,and_true] at h1
  obtain ⟨rfl,rfl⟩:=h1
  exact h2
theorem aK1:eA (mC altOid)=(altOid,true):=by kernel_rfl
theorem aLP:eA (mC basOid)=(basOid,true):=by kernel_rfl
theorem aEK (s:List UInt8):dD (kJ altOid s)=some (altOid,s):=by
 show (if (true&&(true&&(eA (mC altOid)).2))=true then some ((eA (mC altOid)).1,s) else none)=_
 rw [aK1] <;> rfl
theorem aE0 (s:List UInt8):dD (kJ basOid s)=some (basOid,s):=by
 show (if (true&&(true&&(eA (mC basOid)).2))=true then some ((eA (mC basOid)).1,s) else none)=_
 rw [aLP] <;> rfl
theorem pY:∀ (ns acc:List (List UInt8)),acc.length+ns.length≤16→(∀ n∈ns,g9 n=n)→cL acc (ns.map fun n=>dT 2 2 n)=acc++ns
 | [],acc,_,_=>by simp [cL]
 | n :: ns, acc, h, hl => by
  simp only [List.length_cons] at h
  rw [List.map_cons]
  unfold cL
  have e:isS 2 2 false (dT 2 2 n)=true:=rfl
  rw [e,decide_eq_true (show acc.length<16 by omega),if_pos (show (true&&true)=true from rfl)]
  show cL (acc++[g9 n]) _=_
  rw [hl n (by simp),pY ns (acc++[n]) (by simp; omega) fun x hx=>hl x (by simp [hx]),List.append_assoc] <;> rfl
theorem oB {ks:List Der} {s:List UInt8} (h:gY (fB ks) = .ok s):cX s=some ks:=by
 unfold cX
 rw [(oU h).2.2.1] <;> rfl
theorem aHZ {names : List (List UInt8)} {auth : Bool} {a b : List Der} (ha : sV names = .ok a) (hb : s4 auth = .ok b) (hl : ∀ n ∈ names, g9 n = n) (h16 : names.length ≤ 16) : oW (gL (a ++ b)) = some (names, auth) := by
 have hadd:=pY names [] (by simpa using h16) hl
 rw [List.nil_append] at hadd
 have hab:(altOid=basOid)=False:=eq_false (by decide)
 have hba:(basOid=altOid)=False:=eq_false (by decide)
 unfold sV at ha
 unfold s4 at hb
 cases auth with
 | false =>
  rw [if_neg (by decide)] at hb
  cases hb
  split at ha
  ·rename_i e; subst e; cases ha; rfl
  ·split at ha
   ·cases ha
   ·rename_i s hs
    cases ha
    show cU [kJ altOid s] false false ([],false)=_
    unfold cU
    rw [aEK]
    simp only
    rw [if_pos (by simp),oB hs]
    simp only
    rw [hadd] <;> rfl
 | true =>
  rw [if_pos rfl] at hb
  split at hb
  ·cases hb
  ·rename_i t ht
   cases hb
   have hau:nQ [dT 0 1 [255]]=true:=by decide
   split at ha
   ·rename_i e; subst e; cases ha
    show cU [kJ basOid t] false false ([],false)=_
    unfold cU
    rw [aE0]
    simp only
    rw [if_neg (by simp [hba]),if_pos (by simp),oB (ks:=[dT 0 1 [255]]) ht]
    simp only
    rw [hau] <;> rfl
   ·split at ha
    ·cases ha
    ·rename_i s hs
     cases ha
     show cU [kJ altOid s,kJ basOid t] false false ([],false)=_
     unfold cU
     rw [aEK]
     simp only
     rw [if_pos (by simp),oB hs]
     simp only
     rw [hadd]
     unfold cU
     rw [aE0]
     simp only
     rw [if_neg (by simp [hba]),if_pos (by simp),oB (ks:=[dT 0 1 [255]]) ht]
     simp only
     rw [hau] <;> rfl
theorem round {c : eF} {f u : Der} {s : List UInt8} (hf : nM c.frm f) (hu : nM c.til u) (h : lT c f u = .ok s) : lK s = .ok c := by
 unfold lT at h
 split at h
 ·cases h
 ·rename_i hc
  have hc:gD c=0:=by simpa using hc
  unfold gD at hc
  split at hc
  ·cases hc
  ·split at hc
   ·cases hc
   ·rename_i hn
    split at hc
    ·cases hc
    ·rename_i hlow
     split at hc
     ·cases hc
     ·rename_i hser
      split at hc
      ·cases hc
      ·rename_i hlen
       rw [not_or] at hn hlen
       have hi:(bK c.issuer).2=0:=by simpa using hn.1
       have hs:(bK c.subject).2=0:=by simpa using hn.2
       have hl:∀ n∈c.names,g9 n=n:=by simpa using hlow
       cases hx:cW c.serial with
       | none=>exact absurd hx hser
       | some num =>
        rw [hx] at h
        obtain ⟨g1,g2⟩:=sQ hx
        split at h
        ·cases h
        ·cases h
        ·rename_i a b ha hb
         obtain ⟨_,e1,e2,_⟩:=oU h
         unfold lK
         rw [if_neg (by omega),e2]
         simp only [Option.getD_some]
         rw [if_pos (show cJ (aIM num (bK c.issuer).1 (bK c.subject).1 f u c.key (a++b))=true from rfl)]
         have hk:(aIM num (bK c.issuer).1 (bK c.subject).1 f u c.key (a++b)).kids=[fB (kY num (bK c.issuer).1 (bK c.subject).1 f u c.key++gL (a++b)),oE,dT 0 3 (0 :: (c.key++[0,0,0,0,0,0,0,0]).take 8)]:=rfl
         rw [hk]
         simp only
         rw [if_pos (show (cJ (fB (kY num (bK c.issuer).1 (bK c.subject).1 f u c.key++gL (a++b)))&&(cJ oE&&j5 (dT 0 3 (0 :: List.take 8 (c.key++[0,0,0,0,0,0,0,0])))))=true from rfl)]
         rw [show (fB (kY num (bK c.issuer).1 (bK c.subject).1 f u c.key++gL (a++b))).kids=kY num (bK c.issuer).1 (bK c.subject).1 f u c.key++gL (a++b) from rfl]
         have ht:eR (fB [f,u])=some (c.frm,c.til):=by
          show (if ((cP f).2&&(cP u).2)=true then some ((cP f).1,(cP u).1) else none)=_
          rw [yA hf,yA hu] <;> rfl
         have hcon:bX (kY num (bK c.issuer).1 (bK c.subject).1 f u c.key++gL (a++b))=some c:=by
          unfold kY bX
          simp only [List.cons_append,List.nil_append]
          rw [if_pos (by
           show (s9 _&&(isS 0 2 false (dT 0 2 num)&&(!decide (num=[])&&true)))=true
           rw [decide_eq_false g2] <;> rfl),xV hi,xV hs,ht,aHZ ha hb hl (by omega)]
          show some _=_
          show some (eF.mk (hZ num) c.issuer c.subject c.frm c.til c.names c.auth c.key)=_
          rw [g1]
         rw [hcon]
end Go.Proofs.YtcdkpkkdolmfdaaGreatDoor
namespace Go.Proofs.YtcdkpkkdolmfdaaGreatDoor
open Go.GAM Go.RowKit
theorem aG7 : ∀ f, (∀ lvl n s d r n', iD f lvl n s = .ok (d, r, n') → n' = n + d.sz) ∧ (∀ lvl n s ks n', iP f lvl n s = .ok (ks, n') → n' = n + szs ks) := by
 intro f
 induction f with
 | zero =>
  refine ⟨fun lvl n s d r n' h=>?_,fun lvl n s ks n' h=>?_⟩
  ·unfold iD at h; cases h
  ·unfold iP at h; cases h
 | succ f ih =>
  refine ⟨fun lvl n s d r n' h=>?_,fun lvl n s ks n' h=>?_⟩
  ·unfold iD at h
   cases s with
   | nil=>cases h
   | cons c s =>
    simp only at h
    split at h
    ·cases h
    split at h
    ·cases h
    split at h
    ·cases h
    split at h
    ·cases h
    ·split at h
     ·cases h
     ·split at h
      ·cases h
       simp only [Der.sz,szs]
      ·split at h
       ·cases h
       ·rename_i ks n2 hk
        cases h
        have:=ih.2 _ _ _ _ _ hk
        simp only [Der.sz]; omega
  ·unfold iP at h
   cases s with
   | nil=>cases h; simp [szs]
   | cons c s =>
    simp only at h
    split at h
    ·cases h
    ·rename_i d t n1 hv
     split at h
     ·cases h
     ·rename_i ks' n2 hk
      cases h
      have h1:=ih.1 _ _ _ _ _ _ hv
      have h2:=ih.2 _ _ _ _ _ hk
      simp only [szs]; omega
def Fit (d:Der):Prop:=(cR d).length≤65535∧d.sz≤256∧wfV d
theorem Fit.of {s : List UInt8} {d : Der} (h : jX s = .ok d) : Fit d := by
 have h1:=aDH h
 have h2:=h
 unfold jX at h2
 unfold gY at h1
 split at h1
 ·cases h1
 ·rename_i hc
  have hc:(eY 1 0 d).1=0:=by simpa using hc
  split at h1
  ·cases h1
  ·rename_i hb
   refine ⟨by omega, ?_,(aKL d.sz).1 d 1 0 (Nat.le_refl _) hc⟩
   split at h2
   ·cases h2
   ·split at h2
    ·cases h2
    ·rename_i d' r n hv
     split at h2
     ·cases h2
      have g1:=(aG7 _).1 _ _ _ _ _ _ hv
      have g2:=(jB _).1 _ _ _ _ _ _ hv
      omega
     ·cases h2
theorem aAN {c t:Int} {m:Bool} {s:List UInt8} {ks:List Der}:s.length+(cD ks).length≤(cR (.mk c t m s ks)).length:=by
 unfold cR
 simp only [List.length_append,List.length_cons]; omega
theorem uK:∀ {ks:List Der} {k:Der},k∈ks→(cR k).length≤(cD ks).length
 | [],_,h=>by cases h
 | a :: r, k, h => by
  unfold cD
  rw [List.length_append]
  rcases List.mem_cons.1 h with rfl | h
  ·omega
  ·have:=uK h; omega
theorem Fit.data {d:Der} (h:Fit d):d.data.length≤65535:=by
 obtain ⟨c,t,m,s,ks⟩:=d
 have:=aAN (c:=c) (t:=t) (m:=m) (s:=s) (ks:=ks)
 have:=h.1
 show s.length≤65535
 omega
theorem Fit.kid {d k:Der} (h:Fit d) (hk:k∈d.kids):Fit k:=by
 obtain ⟨c,t,m,s,ks⟩:=d
 have hk:k∈ks:=hk
 obtain ⟨h1,h2,h3⟩:=h
 have:=aAN (c:=c) (t:=t) (m:=m) (s:=s) (ks:=ks)
 have:=uK hk
 have g:=tF hk
 unfold wfV at h3
 refine ⟨by omega, ?_,zH h3.2.2.2 hk⟩
 simp only [Der.sz] at h2; omega
theorem Fit.few {d:Der} (h:Fit d):d.kids.length≤256:=by
 obtain ⟨c,t,m,s,ks⟩:=d
 have:=tE ks
 have:=h.2.1
 simp only [Der.sz] at this
 show ks.length≤256
 omega
def Der.made:Der→Bool | .mk _ _ m _ _=>m
theorem Fit.prim {d:Der} (h:Fit d) (hm:d.made=false):d.kids=[]:=by
 obtain ⟨c,t,m,s,ks⟩:=d
 have:=h.2.2
 unfold wfV at this
 exact this.2.2.1 hm
theorem Fit.names {d:Der} (h:Fit d):oQ d:=⟨by have:=h.few; omega,fun s hs k hk x hx=>by
 have:=(((h.kid hs).kid hk).kid hx).data; omega⟩
theorem aFM:∀ (r:List UInt8) (m:Int),0≤m→m≤aED m r
 | [],m,_=>Int.le_refl _
 | c :: r, m, h => by
  show m≤aED (m * 256+(c.toNat:Int)) r
  have:=aFM r (m * 256+(c.toNat:Int)) (by omega)
  omega
theorem aBX:∀ (r:List UInt8) (m:Int),m<0→aED m r<0
 | [],m,h=>h
 | c :: r, m, h => by
  show aED (m * 256+(c.toNat:Int)) r<0
  have:=c.toNat_lt
  exact aBX r _ (by omega)
theorem aJH {s:List UInt8} (h:nH s=false):aNX s=2↔s=[2]:=by
 match s,h with
 | [],h=>cases h
 | [a], _ =>
  show (if a.toNat<128 then (a.toNat:Int) else (a.toNat:Int) - 256)=2↔_
  constructor
  ·intro h
   have ha:=a.toNat_lt
   have:a.toNat=2:=by split at h <;> omega
   have:a=2:=UInt8.toNat.inj this
   rw [this]
  ·intro h
   cases h; rfl
 | a :: b :: r, h =>
  refine ⟨fun h2=>?_,fun h2=>by simp at h2⟩
  exfalso
  rw [tN] at h
  simp only [Bool.or_eq_false_iff,Bool.and_eq_false_iff,decide_eq_false_iff_not] at h
  have ha:=a.toNat_lt
  have hb:=b.toNat_lt
  have h2:aED ((if a.toNat<128 then (a.toNat:Int) else (a.toNat:Int) - 256) * 256+(b.toNat:Int)) r=2:=h2
  by_cases hx:a.toNat<128
  ·rw [if_pos hx] at h2
   have:=aFM r ((a.toNat:Int) * 256+(b.toNat:Int)) (by omega)
   omega
  ·rw [if_neg hx] at h2
   have:=aBX r (((a.toNat:Int) - 256) * 256+(b.toNat:Int)) (by omega)
   omega
theorem aLR {v:Der} (h:Fit v):((zB v).2&&decide ((zB v).1=2))=(isS 0 2 false v&&decide (v.data=[2])):=by
 have hp:bY 2 v=isS 0 2 false v:=by
  have:=h.prim
  obtain ⟨c,t,m,s,ks⟩:=v
  show (decide (c=0)&&(decide (t=2)&&(!m&&decide (ks.length=0))))=(decide (c=0)&&(decide (t=2)&&(m == false)))
  cases m with
  | true=>simp
  | false =>
   have:ks=[]:=this rfl
   subst this; simp
 unfold zB
 rw [← hp]
 by_cases h1:bY 2 v=true∧nH v.data=false
 ·rw [if_pos h1, h1.1]
  simp only [Bool.true_and]
  rw [decide_eq_decide]
  exact aJH h1.2
 ·rw [if_neg h1]
  simp only [Bool.false_and]
  symm
  rw [Bool.and_eq_false_iff]
  by_cases h2:bY 2 v=true
  ·right
   rw [decide_eq_false_iff_not]
   intro h3
   exact h1 ⟨h2,by rw [h3] <;> rfl⟩
  ·left; simpa using h2
end Go.Proofs.YtcdkpkkdolmfdaaGreatDoor
namespace Go.GAM
theorem aPO {h:aA} {id n:Nat} {cs:List AV} {K:AV→Prop} (G:jS h id cs) (hn:n=cs.length):aD n (bE h id) h K=K (.ag cs):=by
 refine propext ⟨fun hk=>?_,fun hk=>G.loadN hn hk⟩
 rw [G.var] at hk
 obtain ⟨b,h1,rfl,h3,h4⟩:=G
 obtain ⟨b',g1,g2,g3⟩:=hk
 have g1:h[id]? = some b':=g1
 rw [h1] at g1
 cases g1
 subst hn
 simpa using g3
theorem aX {h:aA} {id:Nat} {a b c:AV} {K:AV→Prop} (G:jS h id [a,b,c]):aD 3 (bE h id) h K=K (.ag [a,b,c]):=aPO (n:=3) G rfl
end Go.GAM
namespace Go.Proofs.YtcdkpkkdolmfdaaGreatDoor
open Go.GAM Go.RowKit
structure CG2 (h:aA):Prop where
 g:CG h
 bits:jS h 1 [.i .i64 0,.i .i64 3,.b false]
 ver:jS h 2 [.i .i64 2,.i .i64 0,.b true]
 int:jS h 3 [.i .i64 0,.i .i64 2,.b false]
 host:jS h 4 [.i .i64 2,.i .i64 2,.b false]
 tru:jS h 5 [.i .i64 0,.i .i64 1,.b false]
 ext:jS h 6 [.i .i64 2,.i .i64 3,.b true]
 oct:jS h 9 [.i .i64 0,.i .i64 4,.b false]
theorem CG2.up {h h':aA} (G:CG2 h) (U:Upd (fun _=>False) h h'):CG2 h':=
 ⟨G.g.ext U,G.bits.upd U fun h=>h,G.ver.upd U fun h=>h,G.int.upd U fun h=>h,G.host.upd U fun h=>h,G.tru.upd U fun h=>h,G.ext.upd U fun h=>h,G.oct.upd U fun h=>h⟩
structure KL (h:aA) (F:Nat→Prop) (v:AV) (ks:List Der) (rows:List (List AV)):Prop where
 dv:DVs h F ks rows
 sl:kO 5 h v rows.flatten rows.length
 sf:∀ i,bU v i→F i
theorem KL.up {h h':aA} {F:Nat→Prop} {v:AV} {ks:List Der} {rows:List (List AV)} (L:KL h F v ks rows) (U:Upd (fun _=>False) h h'):KL h' F v ks rows:=
 ⟨L.dv.upd U fun i hF hi=>⟨fun h=>h,hF⟩,L.sl.upd U fun _ _ _ h=>h,L.sf⟩
theorem KL.rd {h:aA} {F:Nat→Prop} {v:AV} {ks:List Der} {rows:List (List AV)} (L:KL h F v ks rows):RdI 5 h v rows.flatten ks.length:=by
 rw [L.dv.length]; exact L.sl.i
structure KAt (hb:aA) (F:Nat→Prop) (v:AV) (i:Nat) (k:Der) (r:List AV):Prop where
 dv:DV hb F k r
 idx:∀ (h:aA),Upd (fun _=>False) hb h→∀ K:AV→Prop,aB 5 v (.i .i64 (i:Int)) h K=K (ptr v 5 i 0)
 ld:∀ (h:aA),Upd (fun _=>False) hb h→∀ K:AV→Prop,aD 5 (ptr v 5 i 0) h K=K (.ag r)
 fa:∀ (o:Nat) (K:AV→Prop),aC o (ptr v 5 i 0) K=K (ptr v 5 i o)
 f3:∀ (h:aA),Upd (fun _=>False) hb h→∀ K:AV→Prop,aE (ptr v 5 i 3) h K=K (.s k.data)
 f4:∃ w rs,r[4]? = some w∧KL hb F w k.kids rs∧∀ (h:aA),Upd (fun _=>False) hb h→∀ K:AV→Prop,aE (ptr v 5 i 4) h K=K w
theorem KL.at {hb:aA} {F:Nat→Prop} {v:AV} {ks:List Der} {rows:List (List AV)} (L:KL hb F v ks rows) {i:Nat} {k:Der} (hk:ks[i]? = some k):∃ r,KAt hb F v i k r:=by
 obtain ⟨r,hr,D⟩:=L.dv.get hk
 have hi:i<ks.length:=bH hk
 have hrow:=nF rows i r L.dv.len5 hr
 have hl5:=D.len
 have cell:∀ (o:Nat) (c:AV),o<5→r[o]? = some c→rows.flatten[i * 5+o]? = some c:=by
  intro o c ho hc
  rw [← hrow,List.getElem?_take_of_lt ho,List.getElem?_drop] at hc
  exact hc
 have hd3:=D.dat
 obtain ⟨w,rs,g1,g2,g3,g4,g5⟩:=D.kidsLen
 refine ⟨r,D,fun h U K=>?_,fun h U K=>?_,fun o K=>?_,fun h U K=>?_,w,rs,g1,⟨g2,g3,fun i hi=>(g5 i hi).1⟩,fun h U K=>?_⟩
 ·exact aON ((L.up U).rd) (by omega) (by omega)
 ·rw [aN0 ((L.up U).rd) hi,hrow]
 ·rw [aN2 (L.rd) hi,Nat.zero_add]
 ·exact aMP ((L.up U).rd) hi (by omega) (cell 3 _ (by omega) hd3)
 ·exact aMP ((L.up U).rd) hi (by omega) (cell 4 _ (by omega) g1)
theorem KAt.row {hb:aA} {F:Nat→Prop} {v:AV} {i:Nat} {k:Der} {r:List AV} (A:KAt hb F v i k r):r.length=5:=A.dv.len
section
variable {h:aA} {Q:AV→aA→Prop} {id:Nat} {cs:List AV} {bad:Bool}
theorem aDV {ok:Bool} (R:bB h id cs) (hl:cs.length=9) (hb:cs[8]? = some (.b bad)) (hq:∀ h',Upd (· = id) h h'→bB h' id (cs.set 8 (.b (bad || !ok)))→Q (.b (!(bad || !ok))) h') :
  C Y30.id [.p (some ⟨id,9,0⟩),.b ok] h Q:=by
 refine Y30.call ?_
 simp only [Y30.t, ← Y30.p0.eq_1]
 have fin:∀ b,b=(bad || !ok)→aL 1 (.p (some ⟨id,9,8⟩)) (.b b) h fun h7=>Y30.p0 (aK h Q) (.p (some ⟨id,9,0⟩)) h7:=by
  intro b hb
  subst hb
  refine b5 R hl.symm (by omega) rfl rfl rfl fun h' hl' U R'=>?_
  refine Y30.i0 ?_
  simp only [Y30.t0]
  refine bI (aN (aP (v:=.b (bad || !ok)) R' (by rw [List.length_set]; exact hl.symm) (by rw [List.getElem?_set_self (by omega)]) (aQ (.inl (hq h' U R')))))
 refine bI (aN (aP R hl.symm hb (aQ (aG (fun e=>?_) fun e=>?_))))
 ·exact bI (aN (fin _ (by rw [e] <;> rfl)))
 ·exact bI (aN (fin _ (by rw [e] <;> rfl)))
def txt:Option (List UInt8)→List UInt8
 | some t=>t
 | none=>[]
theorem aFO {d:Der} {r:List AV} {F:Nat→Prop} (G:CG h) (D:DV h F d r) (hs:oQ d) (hid:∀ i,F i→i≠id) (R:bB h id cs) (hl:cs.length=9) (hb:cs[8]? = some (.b bad))
  (hq:∀ h',Upd (· = id) h h'→bB h' id (cs.set 8 (.b (bad||(cE d).isNone)))→Q (.s (txt (cE d))) h') :
  C Y78.id [.p (some ⟨id,9,0⟩),.ag r] h Q:=by
 refine Y78.call ?_
 simp only [Y78.t]
 refine D.box fun h1 hl1 U1 R1 D1=>?_
 refine aT R1 D1.len.symm ?_
 refine aIX (G.ext U1) D1 hs ?_
 have fin:∀ (ok:Bool) (t:List UInt8),ok = !(cE d).isNone→t=txt (cE d)→C Y30.id [.p (some ⟨id,9,0⟩),.b ok] h1 fun v11 h12=>asB v11 fun c13=>aK h Q (.s t) h12:=by
  intro ok t ho ht
  refine aDV (R.upd U1 fun h=>h) hl hb fun h' U2 R2=>aQ (.inl ?_)
  subst ht ho
  rw [Bool.not_not] at R2
  exact hq h' ((U1.mono fun _ _ h=>h.elim).trans U2 fun _ _ h=>h) R2
 cases hn:cE d with
 | none=>exact aZ (bC (bA (aS (fin _ _ (by rw [hn] <;> rfl) (by rw [hn] <;> rfl)))))
 | some t=>exact aZ (bC (bA (aS (fin _ _ (by rw [hn] <;> rfl) (by rw [hn] <;> rfl)))))
end
end Go.Proofs.YtcdkpkkdolmfdaaGreatDoor
namespace Go.Proofs.YtcdkpkkdolmfdaaGreatDoor
open Go.GAM Go.RowKit
def pc (ser iss sub:List UInt8) (frm til:Int) (nv:AV) (au:Bool) (key:List UInt8) (bad:Bool):List AV:=[.s ser,.s iss,.s sub,.i .i64 frm,.i .i64 til,nv,.b au,.s key,.b bad]
abbrev sκ:List UInt8→AV:=fun x=>AV.s x
section
variable {hb:aA} {id mid:Nat} {ser iss sub key:List UInt8} {frm til:Int} {Q:AV→aA→Prop}
def rY (hb:aA) (id:Nat) (ser iss sub key:List UInt8) (frm til:Int) (Q:AV→aA→Prop) (res:Option (List (List UInt8) × Bool)):Prop:=
 ∀ h' nv au bad,Upd (fun _=>False) hb h'→bB h' id (pc ser iss sub frm til nv au key bad)→bad=res.isNone→(∀ x,res=some x→au=x.2∧RdI 1 h' nv (x.1.map .s) x.1.length∧∀ i,bU nv i→hb.length≤i)→Q (.tu []) h'
structure ESt (hb:aA) (id mid:Nat) (ser iss sub key:List UInt8) (frm til:Int) (h:aA) (kv:List (List UInt8 × AV)) (nm bs:Bool) (ns:List (List UInt8)) (au:Bool) (nv:AV):Prop where
 r:bB h id (pc ser iss sub frm til nv au key false)
 m:k9 sκ h mid kv
 sa:(lkM kv altOid).getD (.b false) = .b nm
 sb:(lkM kv basOid).getD (.b false) = .b bs
 sx:∀ t, ∃ b,(lkM kv t).getD (.b false) = .b b
 s:fZ hb h nv (ns.map .s)
 ni:∀ i,bU nv i→i≠id∧i≠mid
 il:hb.length≤id
 ml:hb.length≤mid
 ne:mid≠id
variable {h:aA} {kv:List (List UInt8 × AV)} {nm bs:Bool} {ns:List (List UInt8)} {au:Bool} {nv:AV}
theorem ESt.up {h':aA} (S:ESt hb id mid ser iss sub key frm til h kv nm bs ns au nv) (U:Upd (fun _=>False) h h'):ESt hb id mid ser iss sub key frm til h' kv nm bs ns au nv:=
 ⟨S.r.upd U fun h=>h,S.m.upd U fun h=>h,S.sa,S.sb,S.sx,⟨S.s.upd.trans U fun _ _ h=>h,S.s.stk.upd U fun _ _ h=>h,S.s.new⟩,S.ni,S.il,S.ml,S.ne⟩
theorem ESt.u (S:ESt hb id mid ser iss sub key frm til h kv nm bs ns au nv):Upd (fun _=>False) hb h:=S.s.upd
theorem aFK {h:aA} {v:AV} {l:List AV} (S:Stk h v l):v.parts=[v]∧v.sizeOK=true∧v.cellOK=true:=by
 rcases S with ⟨rfl,_⟩ | ⟨_,_,rfl,_⟩ <;> exact ⟨rfl,rfl,rfl⟩
theorem mR (S:ESt hb id mid ser iss sub key frm til h kv nm bs ns au nv) {ok:Bool} {K:AV→aA→Prop}
  (h1:ok=true→∀ h',Upd (· = id) h h'→ESt hb id mid ser iss sub key frm til h' kv nm bs ns au nv→K (.b true) h')
  (h2:ok=false→∀ h',Upd (· = id) h h'→Upd (fun _=>False) hb h'→bB h' id (pc ser iss sub frm til nv au key true)→K (.b false) h'):C Y30.id [.p (some ⟨id,9,0⟩),.b ok] h K:=by
 refine aDV S.r rfl rfl fun h' U R=>?_
 have U':Upd (fun _=>False) hb h':=S.u.own U S.il
 cases ok with
 | true=>exact h1 rfl h' U ⟨R,S.m.upd U S.ne,S.sa,S.sb,S.sx,⟨U',S.s.stk.upd U fun i hi e=>(S.ni i hi).1 e,S.s.new⟩,S.ni,S.il,S.ml,S.ne⟩
 | false=>exact h2 rfl h' U U' R
variable {v:AV} {l:List Der} {rows:List (List AV)} {F:Nat→Prop} (G:CG2 hb) (L:KL hb F v l rows) (hF:∀ i,F i→i<hb.length) (hfit:∀ k∈l,Fit k) (hl:l.length≤256)
theorem aBI {r:List Der} {d:Der} {x:List (List UInt8) × Bool} (hq:rY hb id ser iss sub key frm til Q (cU (d :: r) nm bs x)) (hx:dD d=none) {h':aA} (U:Upd (fun _=>False) hb h') (R:bB h' id (pc ser iss sub frm til nv au key true)):Q (.tu []) h':=by
 unfold cU at hq
 rw [hx] at hq
 exact hq h' nv au true U R rfl fun x h=>by cases h
theorem aGC {r:List Der} {d:Der} {t s:List UInt8} {x:List (List UInt8) × Bool} (hq:rY hb id ser iss sub key frm til Q (cU (d :: r) nm bs x)) (hx:dD d=some (t,s)) (ht:(t=altOid∧nm=false)∨(t=basOid∧bs=false)) (hi:cX s=none) {h':aA} (U:Upd (fun _=>False) hb h') (R:bB h' id (pc ser iss sub frm til nv au key true)):Q (.tu []) h':=by
 unfold cU at hq
 rw [hx] at hq
 simp only at hq
 have hne:altOid≠basOid:=by decide
 rcases ht with ⟨h1,h2⟩ | ⟨h1,h2⟩
 ·rw [if_pos ⟨h1, h2⟩, hi] at hq
  exact hq h' nv au true U R rfl fun x h=>by cases h
 ·rw [if_neg (by rintro ⟨h3, _⟩; exact hne (h3.symm.trans h1)), if_pos ⟨h1, h2⟩, hi] at hq
  exact hq h' nv au true U R rfl fun x h=>by cases h
theorem ESt.names (S:ESt hb id mid ser iss sub key frm til h kv nm bs ns au nv) {h':aA} {ns':List (List UInt8)} {nv':AV} (N:fZ hb h' nv' (ns'.map .s)) (R:bB h' id (pc ser iss sub frm til nv' au key false)) (M:k9 sκ h' mid kv) (ni:∀ i,bU nv' i→i≠id∧i≠mid) :
  ESt hb id mid ser iss sub key frm til h' kv nm bs ns' au nv':=⟨R,M,S.sa,S.sb,S.sx,N,ni,S.il,S.ml,S.ne⟩
theorem aM0 (G : CG2 hb) {w : AV} {ks : List Der} {rs : List (List AV)} {hc : aA} {lo : Nat} {F2 : Nat → Prop} (K2 : KL hc F2 w ks rs) (hF2 : ∀ i, F2 i → lo ≤ i ∧ i < hc.length) (hid : id < lo) (hmid : mid < lo) (hlo : lo ≤ hc.length) (hfk : ∀ k ∈ ks, Fit k) (hkl : ks.length ≤ 256) {n i : Nat} :
  ∀ (r : List Der) (j : Nat) (h : aA) (nv : AV) (ns : List (List UInt8)), ks.drop j = r → ns.length + r.length ≤ 10000 → Upd (fun a => a < lo) hc h → ESt hb id mid ser iss sub key frm til h kv nm bs ns au nv → (∀ i, bU nv i → i < lo ∨ hc.length ≤ i) →
   (∀ h' nv',ESt hb id mid ser iss sub key frm til h' kv nm bs (cL ns r) au nv'→Y0.p10 Q (.p (some ⟨id,9,0⟩)) (.mp (some mid)) v n i h') →
   Y0.p7 Q (.p (some ⟨id,9,0⟩)) (.mp (some mid)) v n i w (ks.length:Nat) (j:Nat) h:=by
 intro r
 induction r with
 | nil =>
  intro j h nv ns hr hn U S hnv hq
  have:=cB hr
  refine Y0.i7 ?_
  simp only [Y0.t7, ← Y0.p10.eq_1]
  exact aM (by simp; omega) (hq h nv S)
 | cons d r ih =>
  intro j h nv ns hr hn U S hnv hq
  have hlt:=cI hr
  have hj:=b7 hr
  have hfd:=hfk d (List.mem_of_getElem? hj)
  have K2':KL h F2 w ks rs:=⟨K2.dv.upd U fun a ha _=>⟨fun e=>by have:=hF2 a ha; omega,ha⟩,K2.sl.upd U fun a ha _ e=>by have:=hF2 a (K2.sf a ha); omega,K2.sf⟩
  obtain ⟨rr,A⟩:=K2'.at hj
  have nxt:∀ h' nv' ns',cL ns' r=cL ns (d :: r)→ns'.length≤ns.length+1→Upd (fun a=>a<lo) hc h'→ESt hb id mid ser iss sub key frm til h' kv nm bs ns' au nv'→(∀ i,bU nv' i→i<lo∨hc.length≤i)→Y0.p9 Q (.p (some ⟨id,9,0⟩)) (.mp (some mid)) v n i w (ks.length:Nat) (j:Nat) h':=by
   intro h' nv' ns' he hl U' S' hnv'
   refine Y0.i9 ?_
   simp only [Y0.t9, ← Y0.p7.eq_1]
   refine inc (by omega) (ih (j+1) h' nv' ns' (b4 hr) (by simp at hn; omega) U' S' hnv' ?_)
   rw [he]; exact hq
  refine Y0.i7 ?_
  simp only [Y0.t7, ← Y0.p8.eq_1]
  refine aO (by simp; omega) ?_
  simp only [A.idx h (Upd.refl _ _),A.ld h (Upd.refl _ _)]
  refine bQ fun h1 hl1 U1 R1=>?_
  refine aU R1 rfl A.dv.len A.dv.cells' fun h2 hl2 U2 R2=>?_
  have U02:Upd (fun _=>False) h h2:=U1.own U2 (Nat.le_refl _)
  have S2:=S.up U02
  have D2:=A.dv.ext U02
  have Uc2:Upd (fun a=>a<lo) hc h2:=U.trans (U02.mono fun _ _ h=>h.elim) fun _ _ h=>h
  simp only [aX (G.up S2.u).host]
  refine aT R2 A.dv.len.symm ?_
  refine dJ D2 (aQ ?_)
  have off:(isS 2 2 false d&&decide (ns.length<16))=false→Y0.p8 Q (.p (some ⟨id,9,0⟩)) (.mp (some mid)) (.p (some ⟨h.length,5,0⟩)) v n i w (ks.length:Nat) (j:Nat) false h2:=by
   intro e
   refine Y0.i8 ?_
   simp only [Y0.t8, ← Y0.p9.eq_1]
   refine aM rfl (nxt h2 nv ns ?_ (by omega) Uc2 S2 hnv)
   conv=>rhs; unfold cL
   rw [e] <;> rfl
  refine aG (fun e=>?_) fun e=>off (by rw [e] <;> rfl)
  have hnl:(ns.map AV.s).length=ns.length:=List.length_map ..
  refine bI (aN (aN (aP S2.r rfl rfl ?_)))
  refine S2.s.stk.rd.len ?_
  rw [hnl]
  by_cases h16:ns.length<16
  ·rw [decide_eq_true (show (ns.length : Int) < 16 by omega)]
   refine Y0.i8 ?_
   simp only [Y0.t8, ← Y0.p9.eq_1]
   refine aO rfl ?_
   have hd3:=A.dv.dat
   refine bI (aN (aN (aP S2.r rfl rfl ?_)))
   refine aN (aP R2 A.dv.len.symm hd3 (bC ?_))
   refine aFH (by have:=hfd.data; omega) (bC ?_)
   refine aP S2.r rfl rfl ⟨rfl, ?_⟩
   refine eG (cs:=[.s (g9 d.data)]) (len:=1) rfl rfl fun y h3 hl3 U3 R3 F3=>?_
   have S3:=S2.up U3
   refine aP (R2.upd U3 fun h=>h) A.dv.len.symm hd3 (bC ⟨rfl, ?_⟩)
   refine aP S3.r rfl rfl ⟨rfl, ?_⟩
   refine S3.s.app1 R3 rfl (by rw [hnl]; omega) (by rw [hnl]; omega) fun nv' h4 N4 U4 F4=>?_
   have hrid:¬ bU nv h.length:=fun e=>by
    have:=Rd.lt S.s.stk.rd e
    omega
   refine aP ((R2.upd U3 fun h=>h).upd U4 hrid) A.dv.len.symm hd3 (bC ⟨rfl, ?_⟩)
   have np:=aFK N4.stk
   have hidnv:¬ bU nv id:=fun e=>(S.ni id e).1 rfl
   have hmidnv:¬ bU nv mid:=fun e=>(S.ni mid e).2 rfl
   have hlen3:h.length≤h3.length:=Nat.le_trans U02.1 U3.1
   have Uc3:Upd (fun a=>a<lo) hc h3:=Uc2.trans (U3.mono fun _ _ h=>h.elim) fun _ _ h=>h
   have Uc4:Upd (fun a=>a<lo) hc h4:=Uc3.trans U4 fun a ha e=>by have:=hnv a e; omega
   refine bI (aN (aN (b5 (S3.r.upd U4 hidnv) rfl (by show 5<9; omega) np.1 np.2.1 np.2.2 fun h5 hl5 U5 R5=>?_)))
   have hni:∀ a,bU nv' a→a≠id∧a≠mid:=fun a e=>by
    rcases F4 a e with h | h
    ·exact S.ni a h
    ·have:=U.1; omega
   refine nxt h5 nv' (ns++[g9 d.data]) ?_ (by simp) (Uc4.trans U5 fun a ha e=>by omega) (S3.names ⟨N4.upd.own U5 S.il, ?_,N4.new⟩ R5 ((S3.m.upd U4 hmidnv).upd U5 S.ne) hni) fun a e=>?_
   ·conv => rhs; unfold cL
    rw [e,decide_eq_true h16] <;> rfl
   ·rw [List.map_append]
    exact N4.stk.upd U5 fun a ha e=>(hni a ha).1 e
   ·rcases F4 a e with h | h
    ·exact hnv a h
    ·have:=U.1; omega
  ·rw [decide_eq_false (show ¬ (ns.length : Int) < 16 by omega)]
   exact off (by rw [e,decide_eq_false h16] <;> rfl)
theorem gW:∀ (r:List Der) (ns:List (List UInt8)),ns.length≤16→(cL ns r).length≤16
 | [],ns,h=>by unfold cL; exact h
 | y :: r, ns, h => by
  unfold cL
  split
  ·rename_i e
   rw [Bool.and_eq_true,decide_eq_true_eq] at e
   exact gW r _ (by simp; omega)
  ·exact gW r ns h
theorem aKH {d:Der} {r:List Der} {t s:List UInt8} {x:List (List UInt8) × Bool} (hx:dD d=some (t,s)) (h1:¬ (t=altOid∧nm=false)) (h2:¬ (t=basOid∧bs=false)):cU (d :: r) nm bs x=cU r nm bs x:=by
 conv=>lhs; unfold cU
 rw [hx]
 simp only
 rw [if_neg h1,if_neg h2]
theorem aJP {d:Der} {r ks:List Der} {s:List UInt8} {x:List (List UInt8) × Bool} (hx:dD d=some (altOid,s)) (hi:cX s=some ks):cU (d :: r) false bs x=cU r true bs (cL x.1 ks,x.2):=by
 conv=>lhs; unfold cU
 rw [hx]
 simp only
 rw [if_pos (by simp),hi]
theorem aKG {d:Der} {r ks:List Der} {s:List UInt8} {x:List (List UInt8) × Bool} (hx:dD d=some (basOid,s)) (hi:cX s=some ks):cU (d :: r) nm false x=cU r nm true (x.1,nQ ks):=by
 have hne:¬ basOid=altOid:=by decide
 conv=>lhs; unfold cU
 rw [hx]
 simp only
 rw [if_neg (by rintro ⟨h,_⟩; exact hne h),if_pos (by simp),hi]
def Nx (hb : aA) (id mid : Nat) (ser iss sub key : List UInt8) (frm til : Int) (Q : AV → aA → Prop) (v : AV) (n i : Nat) (r : List Der) : Prop :=
 ∀ (h' : aA) (kv' : List (List UInt8 × AV)) (nm' bs' : Bool) (ns' : List (List UInt8)) (au' : Bool) (nv' : AV), ESt hb id mid ser iss sub key frm til h' kv' nm' bs' ns' au' nv' → ns'.length ≤ 16 → rY hb id ser iss sub key frm til Q (cU r nm' bs' (ns', au')) →
  Y0.p0 Q (.p (some ⟨id,9,0⟩)) (.mp (some mid)) v n (i+1:Nat) h'
section
variable {n i:Nat} {r:List Der} {d:Der} {t s:List UInt8} (nx:Nx hb id mid ser iss sub key frm til Q v n i r) (hn:n≤300) (hi:i≤300)
include nx hn hi
theorem y8 (S:ESt hb id mid ser iss sub key frm til h kv nm bs ns au nv) (h16:ns.length≤16) (hq:rY hb id ser iss sub key frm til Q (cU r nm bs (ns,au))):Y0.p10 Q (.p (some ⟨id,9,0⟩)) (.mp (some mid)) v n i h:=by
 refine Y0.i10 ?_
 simp only [Y0.t10, ← Y0.p0.eq_1]
 exact inc (by omega) (nx h kv nm bs ns au nv S h16 hq)
theorem aLZ (G:CG2 hb) {F2:Nat→Prop} {d2:Der} {cs2:List AV} {rid2:Nat} (S:ESt hb id mid ser iss sub key frm til h kv nm true ns au nv) (h16:ns.length≤16) (D2:DV h F2 d2 cs2) (R2:bB h rid2 cs2) (hr2:rid2≠id) (hF2:∀ a,F2 a→a≠id) (hf2:Fit d2)
  (hq:rY hb id ser iss sub key frm til Q (cU r nm true (ns,nQ d2.kids))):Y0.p5 Q (.p (some ⟨id,9,0⟩)) (.mp (some mid)) basOid (.p (some ⟨rid2,5,0⟩)) v n i false h:=by
 have fin:∀ (b:Bool) (h:aA),b=nQ d2.kids→ESt hb id mid ser iss sub key frm til h kv nm true ns au nv→aL 1 (.p (some ⟨id,9,6⟩)) (.b b) h fun h'=>Y0.p6 Q (.p (some ⟨id,9,0⟩)) (.mp (some mid)) v n i h':=by
  intro b h hb' S
  refine b5 S.r rfl (by show 6<9; omega) rfl rfl rfl fun h' hl' U R'=>?_
  refine Y0.i6 ?_
  simp only [Y0.t6, ← Y0.p10.eq_1]
  refine y8 nx hn hi (au:=b) ⟨R',S.m.upd U S.ne,S.sa,S.sb,S.sx,⟨S.u.own U S.il,S.s.stk.upd U fun a ha e=>(S.ni a ha).1 e,S.s.new⟩,S.ni,S.il,S.ml,S.ne⟩ h16 ?_
  rw [hb']; exact hq
 obtain ⟨w,rs,g1,g2,g3,g4,g5⟩:=D2.kidsLen
 have K2:KL h F2 w d2.kids rs:=⟨g2,g3,fun i hi=>(g5 i hi).1⟩
 refine Y0.i5 ?_
 simp only [Y0.t5]
 refine aM rfl (dV (n:=true) (by decide) (aO rfl ?_))
 refine aN (aP R2 D2.len.symm g1 ?_)
 rw [K2.rd.plen]
 cases hk:d2.kids with
 | nil =>
  refine aM (by simp) (bI (aN (aN (fin _ h (by rw [hk] <;> rfl) S))))
 | cons k kr =>
  rw [hk] at K2
  obtain ⟨rk,A⟩:=K2.at (i:=0) (k:=k) rfl
  have hfk:Fit k:=hf2.kid (by rw [hk]; simp)
  have i0:∀ (h':aA),Upd (fun _=>False) h h'→∀ K:AV→Prop,aB 5 w (.i .i64 0) h' K=K (ptr w 5 0 0):=A.idx
  refine aO (by simp) ?_
  simp only [aX (G.up S.u).tru]
  refine aN (aP R2 D2.len.symm g1 ?_)
  simp only [i0 h (Upd.refl _ _),A.ld h (Upd.refl _ _)]
  refine dJ A.dv (aQ ?_)
  simp only [i0 h (Upd.refl _ _),bJ]
  refine ⟨trivial, ?_⟩
  refine aP R2 D2.len.symm g1 ?_
  refine ⟨rfl, ?_⟩
  refine aP R2 D2.len.symm g1 ?_
  refine ⟨rfl, ?_⟩
  refine aG (fun e=>?_) fun e=>bI (aN (aN (fin _ h (by
   rw [hk]
   show false=(dZ k&&_)
   unfold dZ
   rw [e] <;> rfl) S)))
  refine aN (aP R2 D2.len.symm g1 ?_)
  simp only [i0 h (Upd.refl _ _),A.fa,A.f3 h (Upd.refl _ _),cG]
  refine aG (fun e2=>?_) fun e2=>bI (aN (aN (fin _ h (by
   rw [hk]
   show false=(dZ k&&_)
   unfold dZ
   have e2:=of_decide_eq_false e2
   rw [e,decide_eq_false (show ¬ k.data.length=1 by omega)] <;> rfl) S)))
  refine aN (aP R2 D2.len.symm g1 ?_)
  simp only [i0 h (Upd.refl _ _),A.fa,A.f3 h (Upd.refl _ _),cG]
  refine bI (aN (aN (fin _ h (by
   rw [hk]
   show (!decide (k.data=[0]))=(dZ k && !decide (k.data=[0]))
   unfold dZ
   have e2:=of_decide_eq_true e2
   rw [e,decide_eq_true (show k.data.length=1 by omega)] <;> rfl) S)))
theorem aL8 (G:CG2 hb) {F2:Nat→Prop} {d2:Der} {cs2:List AV} {rid2 lo:Nat} (S:ESt hb id mid ser iss sub key frm til h kv true bs ns au nv) (h16:ns.length≤16) (D2:DV h F2 d2 cs2) (R2:bB h rid2 cs2) (hF2:∀ a,F2 a→lo≤a) (hid:id<lo) (hmid:mid<lo) (hlo:lo≤h.length) (hnv:∀ a,bU nv a→a<lo) (hf2:Fit d2)
  (hq:rY hb id ser iss sub key frm til Q (cU r true bs (cL ns d2.kids,au))):Y0.p5 Q (.p (some ⟨id,9,0⟩)) (.mp (some mid)) altOid (.p (some ⟨rid2,5,0⟩)) v n i false h:=by
 obtain ⟨w,rs,g1,g2,g3,g4,g5⟩:=D2.kidsLen
 refine Y0.i5 ?_
 simp only [Y0.t5, ← Y0.p7.eq_1]
 refine aM rfl (dV (n:=false) (by decide) (aM rfl ?_))
 refine aN (aP R2 D2.len.symm g1 ?_)
 have K2:KL h (fun a=>F2 a∧a<h.length) w d2.kids rs:=by
  refine ⟨?_,g3,fun i hi=>⟨(g5 i hi).1,(g5 i hi).2⟩⟩
  exact g2.upd (Upd.refl (fun _=>False) h) fun a ha hlt=>⟨fun h=>h,ha,hlt⟩
 rw [K2.rd.plen]
 have hkl:=hf2.few
 exact aM0 G K2 (lo:=lo) (fun a ha=>⟨hF2 a ha.1,ha.2⟩) hid hmid hlo (fun k hk=>hf2.kid hk) hkl d2.kids 0 h nv ns rfl (by omega) (Upd.refl _ _) S (fun a ha=>.inl (hnv a ha)) fun h' nv' S'=>y8 nx hn hi S' (gW _ _ h16) hq
end
end
end Go.Proofs.YtcdkpkkdolmfdaaGreatDoor
namespace Go.Proofs.YtcdkpkkdolmfdaaGreatDoor
open Go.GAM Go.RowKit
theorem aJK (t:List UInt8):aCT prog 9 (sκ t)=true:=by
 unfold aCT; rw [show prog.underlying 9=some .string from Tryz.underlying9]
section
variable {hb:aA} {id mid:Nat} {ser iss sub key:List UInt8} {frm til:Int} {Q:AV→aA→Prop} {h:aA} {kv:List (List UInt8 × AV)} {nm bs:Bool} {ns:List (List UInt8)} {au:Bool} {nv:AV}
variable {v:AV} {n i:Nat} {r:List Der} {d:Der} {t s:List UInt8} (nx:Nx hb id mid ser iss sub key frm til Q v n i r) (hn:n≤300) (hi:i≤300) (G:CG2 hb)
variable {F:Nat→Prop} {w0:AV} {j:Nat} {last:Der} {rl cs:List AV} {rid:Nat}
theorem ESt.seen (S:ESt hb id mid ser iss sub key frm til h kv nm bs ns au nv) {t:List UInt8} {h':aA} (U:Upd (· = mid) h h') (M:k9 sκ h' mid (upM kv t (.b true))) :
  ESt hb id mid ser iss sub key frm til h' (upM kv t (.b true)) (nm||decide (t=altOid)) (bs||decide (t=basOid)) ns au nv:=by
 have key:∀ (o:List UInt8) (b:Bool),(lkM kv o).getD (.b false) = .b b→(lkM (upM kv t (.b true)) o).getD (.b false) = .b (b||decide (t=o)):=by
  intro o b hb'
  rw [aKN]
  by_cases e:o=t
  ·rw [if_pos e,decide_eq_true e.symm,Bool.or_true] <;> rfl
  ·rw [if_neg e,decide_eq_false (fun h=>e h.symm),Bool.or_false]; exact hb'
 refine ⟨S.r.upd U fun e=>S.ne e.symm,M,key _ _ S.sa,key _ _ S.sb,fun o=>?_,⟨S.u.own U S.ml,S.s.stk.upd U fun a ha e=>(S.ni a ha).2 e,S.s.new⟩,S.ni,S.il,S.ml,S.ne⟩
 obtain ⟨b,hb'⟩:=S.sx o
 exact ⟨_,key o b hb'⟩
include nx hn hi G
theorem aN4 (S : ESt hb id mid ser iss sub key frm til h kv nm bs ns au nv) (h16 : ns.length ≤ 16) (A : KAt hb F w0 j last rl) (hj : j ≤ 300) (R : bB h rid cs) (hcl : cs.length = 5) (hw : cs[4]? = some w0) (hri : rid ≠ id) (hrm : rid ≠ mid) (hs : last.data = s) (hfl : Fit last)
  (hx:dD d=some (t,s)) (ht:(t=altOid∧nm=false)∨(t=basOid∧bs=false)) (hq:rY hb id ser iss sub key frm til Q (cU (d :: r) nm bs (ns,au))) :
  Y0.p4 Q (.p (some ⟨id,9,0⟩)) (.mp (some mid)) (.p (some ⟨rid,5,0⟩)) ((j+1:Nat):Int) t v n i false h:=by
 have hne:altOid≠basOid:=by decide
 refine Y0.i4 ?_
 simp only [Y0.t4, ← Y0.p5.eq_1]
 refine aM rfl (aGU S.m aIS (aJK t) rfl fun h1 hl1 U1 M1=>?_)
 have S1:=S.seen U1 M1
 have R1:=R.upd U1 hrm
 refine aN (aP R1 hcl.symm hw ?_)
 refine aI (n:=(j:Int)) (by rw [aJ (by omega) (by omega)]; omega) ?_
 simp only [A.idx h1 S1.u,A.fa,A.f3 h1 S1.u,cG]
 have fail:cX s=none→∀ h' rid2,Upd (fun _=>False) hb h'→bB h' id (pc ser iss sub frm til nv au key true)→Y0.p5 Q (.p (some ⟨id,9,0⟩)) (.mp (some mid)) t rid2 v n i true h':=by
  intro hin h' rid2 U' R'
  refine Y0.i5 ?_
  simp only [Y0.t5]
  exact aO rfl (aGC hq hx ht hin U' R')
 rw [hs]
 refine aBA ?_
 cases hd:jX s with
 | error e =>
  intro h2 U2
  have hin:cX s=none:=by unfold cX; rw [hd]
  have S2:=S1.up U2
  refine aZ (bA (aS ?_))
  refine bQ fun h3 hl3 U3 R3=>?_
  refine aU R3 rfl rfl rfl fun h4 hl4 U4 R4=>?_
  have U24:Upd (fun _=>False) h2 h4:=U3.own U4 (Nat.le_refl _)
  refine aM (decide_eq_false (mT hd)) ?_
  refine mR (S2.up U24) (fun e=>by cases e) fun _ h5 V5 U5 R5=>aQ ?_
  exact fail hin h5 _ U5 R5
 | ok d2 =>
  intro cs2 h2 U2 D2
  have hf2:=Fit.of hd
  have S2:=S1.up U2
  refine aZ (bA (aS ?_))
  refine bQ fun h3 hl3 U3 R3=>?_
  refine aU R3 rfl D2.len D2.cells' fun h4 hl4 U4 R4=>?_
  have U24:Upd (fun _=>False) h2 h4:=U3.own U4 (Nat.le_refl _)
  have S4:=S2.up U24
  have D4:=D2.ext U24
  refine aO rfl ?_
  simp only [aX (G.up S4.u).g.seq]
  refine aT R4 D2.len.symm ?_
  refine dJ D4 (aQ ?_)
  refine mR S4 (fun e h5 U5 S5=>aQ ?_) fun e h5 V5 U5 R5=>aQ ?_
  ·have hin : cX s = some d2.kids := by
    unfold cX; rw [hd]; simp only
    rw [if_pos (show cJ d2=true from e)]
   have hidlt:id<h1.length:=S1.r.lt
   have hmlt:mid<h1.length:=M1.lt
   have hl12:=U2.1
   have D5:DV h5 (fun i=>h1.length≤i) d2 cs2:=D4.upd U5 fun a ha _=>⟨by omega,ha⟩
   have R5:=R4.upd U5 (by omega)
   show Y0.p5 Q (.p (some ⟨id,9,0⟩)) (.mp (some mid)) t (.p (some ⟨h2.length,5,0⟩)) v n i false h5
   rcases ht with ⟨rfl,hnm⟩ | ⟨rfl,hbs⟩
   ·subst hnm
    rw [aJP hx hin] at hq
    have S5':ESt hb id mid ser iss sub key frm til h5 (upM kv altOid (.b true)) true bs ns au nv:=by
     have:=S5
     rw [decide_eq_false hne,Bool.or_false,decide_eq_true rfl] at this
     exact this
    exact aL8 nx hn hi G S5' h16 D5 R5 (lo:=h1.length) (fun a ha=>ha) hidlt hmlt (by have:=U24.1; have:=U5.1; omega) (fun a ha=>Rd.lt S1.s.stk.rd ha) hf2 hq
   ·subst hbs
    rw [aKG hx hin] at hq
    have S5':ESt hb id mid ser iss sub key frm til h5 (upM kv basOid (.b true)) nm true ns au nv:=by
     have:=S5
     rw [decide_eq_false (fun h=>hne h.symm),Bool.or_false,decide_eq_true rfl] at this
     exact this
    exact aLZ nx hn hi G S5' h16 D5 R5 (by omega) (fun a ha=>by omega) hf2 hq
  ·have hin : cX s = none := by
    unfold cX; rw [hd]; simp only
    rw [if_neg (show ¬ cJ d2=true by rw [show cJ d2=false from e]; decide)]
   exact fail hin h5 _ U5 R5
theorem aNU (S:ESt hb id mid ser iss sub key frm til h kv nm bs ns au nv) (h16:ns.length≤16) (A:KAt hb F w0 j last rl) (hj:j≤300) (R:bB h rid cs) (hcl:cs.length=5) (hw:cs[4]? = some w0) (hri:rid≠id) (hrm:rid≠mid) (hs:last.data=s) (hfl:Fit last)
  (hx:dD d=some (t,s)) (hq:rY hb id ser iss sub key frm til Q (cU (d :: r) nm bs (ns,au))) :
  Y0.p3 Q (.p (some ⟨id,9,0⟩)) (.mp (some mid)) (.p (some ⟨rid,5,0⟩)) ((j+1:Nat):Int) t v n i false h:=by
 have skip:¬ (t=altOid∧nm=false)→¬ (t=basOid∧bs=false)→Y0.p4 Q (.p (some ⟨id,9,0⟩)) (.mp (some mid)) (.p (some ⟨rid,5,0⟩)) ((j+1:Nat):Int) t v n i true h:=by
  intro h1 h2
  refine Y0.i4 ?_
  simp only [Y0.t4, ← Y0.p10.eq_1]
  rw [aKH hx h1 h2] at hq
  exact aO rfl (y8 nx hn hi S h16 hq)
 have go:(t=altOid∧nm=false)∨(t=basOid∧bs=false)→Y0.p4 Q (.p (some ⟨id,9,0⟩)) (.mp (some mid)) (.p (some ⟨rid,5,0⟩)) ((j+1:Nat):Int) t v n i false h:=
  fun ht=>aN4 nx hn hi G S h16 A hj R hcl hw hri hrm hs hfl hx ht hq
 have hne:altOid≠basOid:=by decide
 refine Y0.i3 ?_
 simp only [Y0.t3, ← Y0.p4.eq_1]
 refine aM rfl (aF2 S.m aIS (aJK t) (z:=.b false) (by kernel_rfl) ?_)
 obtain ⟨b,hb'⟩:=S.sx t
 rw [hb']
 refine aQ ?_
 by_cases h1:t=altOid
 ·subst h1
  obtain rfl:b=nm:=by have:=S.sa; rw [hb'] at this; injection this
  cases b with
  | true=>exact aO rfl (skip (by simp) fun h=>hne h.1)
  | false=>exact aM rfl (dV (n:=false) (by decide) (aM rfl (go (.inl ⟨rfl,rfl⟩))))
 ·have e1 : (!decide (t = [50, 46, 53, 46, 50, 57, 46, 49, 55])) = true := by rw [decide_eq_false (show ¬ t = [50, 46, 53, 46, 50, 57, 46, 49, 55] from h1)] <;> rfl
  by_cases h2:t=basOid
  ·subst h2
   obtain rfl:b=bs:=by have:=S.sb; rw [hb'] at this; injection this
   cases b with
   | true=>exact aO rfl (skip (fun h=>h1 h.1) (by simp))
   | false=>exact aM rfl (dV (n:=true) e1 (aO rfl (dV (n:=false) (by decide) (go (.inr ⟨rfl,rfl⟩)))))
  ·have e2 : (!decide (t = [50, 46, 53, 46, 50, 57, 46, 49, 57])) = true := by rw [decide_eq_false (show ¬ t = [50, 46, 53, 46, 50, 57, 46, 49, 57] from h2)] <;> rfl
   cases b with
   | true=>exact aO rfl (skip (fun h=>h1 h.1) fun h=>h2 h.1)
   | false=>exact aM rfl (dV (n:=true) e1 (aO rfl (dV (n:=true) e2 (skip (fun h=>h1 h.1) fun h=>h2 h.1))))
theorem aIZ {ok crit : Bool} (S : ESt hb id mid ser iss sub key frm til h kv nm bs ns au nv) (h16 : ns.length ≤ 16) (A : KAt hb F w0 j last rl) (hj : j ≤ 300) (R : bB h rid cs) (hcl : cs.length = 5) (hw : cs[4]? = some w0) (hri : rid ≠ id) (hrm : rid ≠ mid) (hfl : Fit last)
  (hx:dD d=if (crit&&(isS 0 4 false last&&ok))=true then some (t,last.data) else none) (hq:rY hb id ser iss sub key frm til Q (cU (d :: r) nm bs (ns,au))) :
  Y0.p2 Q (.p (some ⟨id,9,0⟩)) (.mp (some mid)) (.p (some ⟨rid,5,0⟩)) ((j+1:Nat):Int) t ok crit v n i h:=by
 have fail:dD d=none→∀ h',Upd (fun _=>False) hb h'→bB h' id (pc ser iss sub frm til nv au key true)→Y0.p3 Q (.p (some ⟨id,9,0⟩)) (.mp (some mid)) (.p (some ⟨rid,5,0⟩)) ((j+1:Nat):Int) t v n i true h':=by
  intro hin h' U' R'
  refine Y0.i3 ?_
  simp only [Y0.t3]
  exact aO rfl (aBI hq hin U' R')
 refine Y0.i2 ?_
 simp only [Y0.t2, ← Y0.p3.eq_1,bJ,true_and]
 refine aG (fun e1=>?_) fun e1=>?_
 ·refine aG (fun e2 => ?_) fun e2 => ?_
  ·simp only [aX (G.up S.u).oct]
   refine aN (aP R hcl.symm hw ?_)
   refine aI (n:=(j:Int)) (by rw [aJ (by omega) (by omega)]; omega) ?_
   simp only [A.idx h S.u,A.ld h S.u]
   refine dJ (A.dv.ext S.u) (aQ ?_)
   simp only [A.idx h S.u,bJ,true_and]
   refine aP R hcl.symm hw ⟨rfl, ?_⟩
   have fin:∀ (c:Bool) (h':aA),Upd (fun _=>False) hb h'→bB h' rid cs→Y0.p3 Q (.p (some ⟨id,9,0⟩)) (.mp (some mid)) (.p (some ⟨rid,5,0⟩)) ((j+1:Nat):Int) t v n i (!c) h' →
     aD 5 (ptr w0 5 j 0) h' fun v79=>AV.ag rl=v79∧aB 5 w0 (AV.i .i64 (j:Int)) h' fun v80=>ptr w0 5 j 0=v80∧aE (.p (some ⟨rid,5,0+4⟩)) h' fun v81=>w0=v81∧aD 3 (bE h' 9) h' fun v82=>AV.ag [.i .i64 0,.i .i64 4,.b false]=v82 ∧
      Y0.p3 Q (.p (some ⟨id,9,0⟩)) (.mp (some mid)) (.p (some ⟨rid,5,0⟩)) ((j+1:Nat):Int) t v n i (!c) h':=by
    intro c h' U' R' hk
    simp only [A.ld h' U',A.idx h' U',bJ,true_and]
    refine aP R' hcl.symm hw ⟨rfl, ?_⟩
    simp only [aX (G.up U').oct,bJ,true_and]
    exact hk
   refine mR S (fun e h5 U5 S5=>aQ (fin true h5 S5.u (R.upd U5 hri) ?_)) fun e h5 V5 U5 R5=>aQ (fin false h5 U5 (R.upd V5 hri) ?_)
   ·refine aNU nx hn hi G S5 h16 A hj (R.upd U5 hri) hcl hw hri hrm rfl hfl ?_ hq
    rw [hx,e1,e2,e] <;> rfl
   ·exact fail (by rw [hx,e1,e2,e] <;> rfl) h5 U5 R5
  ·refine mR S (fun e => by cases e) fun _ h5 V5 U5 R5 => aQ ?_
   exact fail (by rw [hx,e2] <;> rfl) h5 U5 R5
 ·refine mR S (fun e => by cases e) fun _ h5 V5 U5 R5 => aQ ?_
  exact fail (by rw [hx,e1,Bool.and_false,Bool.and_false] <;> rfl) h5 U5 R5
theorem aKE {r':List AV} (S:ESt hb id mid ser iss sub key frm til h kv nm bs ns au nv) (h16:ns.length≤16) {v1:AV} {i1:Nat} (A:KAt hb F v1 i1 d r') (R:bB h rid r') (hri:rid≠id) (hrm:rid≠mid) (hfd:Fit d)
  (hs:cJ d=true) (hk:d.kids.length=2∨d.kids.length=3) (hq:rY hb id ser iss sub key frm til Q (cU (d :: r) nm bs (ns,au))) :
  Y0.p1 Q (.p (some ⟨id,9,0⟩)) (.mp (some mid)) (.p (some ⟨rid,5,0⟩)) (d.kids.length:Nat) v n i false h:=by
 obtain ⟨w,rs,g1,K,_⟩:=A.f4
 have hcl:=A.row
 have hk0:d.kids[0]? = some (d.kids[0]'(by omega)):=List.getElem?_eq_getElem _
 generalize d.kids[0]'(by omega)=k0 at hk0
 obtain ⟨r0,A0⟩:=K.at hk0
 have hf0:Fit k0:=hfd.kid (List.mem_of_getElem? hk0)
 have a0:∀ (h':aA),Upd (fun _=>False) hb h'→∀ K:AV→Prop,aB 5 w (.i .i64 0) h' K=K (ptr w 5 0 0):=A0.idx
 refine Y0.i1 ?_
 simp only [Y0.t1, ← Y0.p2.eq_1]
 refine aM rfl (aN (aP R hcl.symm g1 ?_))
 simp only [a0 h S.u,A0.ld h S.u]
 refine aMR (A0.dv.ext S.u) (by have:=hf0.data; omega) ?_
 refine aZ (bC (bA (aQ ?_)))
 rcases hk with hk | hk
 ·have hk1 : d.kids[1]? = some (d.kids[1]'(by omega)) := List.getElem?_eq_getElem _
  generalize d.kids[1]'(by omega)=k1 at hk1
  obtain ⟨r1,A1⟩:=K.at hk1
  rw [hk]
  refine aO rfl (aIZ (j:=1) nx hn hi G S h16 A1 (by omega) R hcl g1 hri hrm (hfd.kid (List.mem_of_getElem? hk1)) ?_ hq)
  have hkk:d.kids=[k0,k1]:=by
   match hd:d.kids,hk with
   | [x,y],_=>rw [hd] at hk0 hk1; simp at hk0 hk1; rw [hk0,hk1]
  unfold dD
  rw [hkk]
  simp only
  rw [hs,Bool.true_and]
 ·have hk1 : d.kids[1]? = some (d.kids[1]'(by omega)) := List.getElem?_eq_getElem _
  generalize d.kids[1]'(by omega)=k1 at hk1
  have hk2:d.kids[2]? = some (d.kids[2]'(by omega)):=List.getElem?_eq_getElem _
  generalize d.kids[2]'(by omega)=k2 at hk2
  obtain ⟨r1,A1⟩:=K.at hk1
  obtain ⟨r2,A2⟩:=K.at hk2
  have a1:∀ (h':aA),Upd (fun _=>False) hb h'→∀ K:AV→Prop,aB 5 w (.i .i64 1) h' K=K (ptr w 5 1 0):=A1.idx
  have hkk:d.kids=[k0,k1,k2]:=by
   match hd:d.kids,hk with
   | [x,y,z],_=>rw [hd] at hk0 hk1 hk2; simp at hk0 hk1 hk2; rw [hk0,hk1,hk2]
  have hx:∀ b,b=dZ k1→dD d=if (b&&(isS 0 4 false k2&&(eA k0).2))=true then some ((eA k0).1,k2.data) else none:=by
   intro b hb'
   subst hb'
   unfold dD
   rw [hkk]
   simp only
   rw [hs,Bool.true_and]
  have go:∀ b,b=dZ k1→Y0.p2 Q (.p (some ⟨id,9,0⟩)) (.mp (some mid)) (.p (some ⟨rid,5,0⟩)) (3:Int) (eA k0).1 (eA k0).2 b v n i h:=fun b hb'=>
   aIZ (j:=2) nx hn hi G S h16 A2 (by omega) R hcl g1 hri hrm (hfd.kid (List.mem_of_getElem? hk2)) (hx b hb') hq
  rw [hk]
  refine aM rfl ?_
  simp only [aX (G.up S.u).tru]
  refine aN (aP R hcl.symm g1 ?_)
  simp only [a1 h S.u,A1.ld h S.u]
  refine dJ (A1.dv.ext S.u) (aQ ?_)
  simp only [a1 h S.u,bJ,true_and]
  refine aP R hcl.symm g1 ⟨rfl, ?_⟩
  refine aG (fun e=>?_) fun e=>go false (by unfold dZ; rw [e] <;> rfl)
  refine aN (aP R hcl.symm g1 ?_)
  rw [a1 h S.u,A1.fa,A1.f3 h S.u,cG]
  refine go _ ?_
  unfold dZ
  rw [e,Bool.true_and,decide_eq_decide]; omega
end
section
variable {hb:aA} {id mid:Nat} {ser iss sub key:List UInt8} {frm til:Int} {Q:AV→aA→Prop} {v:AV} {l:List Der} {rows:List (List AV)} {F:Nat→Prop}
theorem aNH (G : CG2 hb) (L : KL hb F v l rows) (hfit : ∀ k ∈ l, Fit k) (hl : l.length ≤ 256) : ∀ (r : List Der) (i : Nat) (h : aA) (kv : List (List UInt8 × AV)) (nm bs : Bool) (ns : List (List UInt8)) (au : Bool) (nv : AV), l.drop i = r → ESt hb id mid ser iss sub key frm til h kv nm bs ns au nv → ns.length ≤ 16 →
  rY hb id ser iss sub key frm til Q (cU r nm bs (ns,au))→Y0.p0 Q (.p (some ⟨id,9,0⟩)) (.mp (some mid)) v (l.length:Nat) (i:Nat) h:=by
 intro r
 induction r with
 | nil =>
  intro i h kv nm bs ns au nv hr S h16 hq
  have:=cB hr
  refine Y0.i0 ?_
  simp only [Y0.t0]
  refine aM (by simp; omega) (hq h nv au false S.u S.r rfl fun x hx=>?_)
  unfold cU at hx
  cases hx
  have:=S.s.stk.rd.i
  rw [List.length_map] at this
  exact ⟨rfl,this,S.s.new⟩
 | cons d r ih =>
  intro i h kv nm bs ns au nv hr S h16 hq
  have hlt:=cI hr
  have hj:=b7 hr
  have hfd:=hfit d (List.mem_of_getElem? hj)
  have nx:Nx hb id mid ser iss sub key frm til Q v l.length i r:=fun h' kv' nm' bs' ns' au' nv' S' h16' hq'=>ih (i+1) h' kv' nm' bs' ns' au' nv' (b4 hr) S' h16' hq'
  obtain ⟨r',A⟩:=L.at hj
  have hcl:=A.row
  obtain ⟨w,rs,g1,K,_⟩:=A.f4
  refine Y0.i0 ?_
  simp only [Y0.t0, ← Y0.p1.eq_1]
  refine aO (by simp; omega) ?_
  simp only [A.idx h S.u,A.ld h S.u]
  refine bQ fun h1 hl1 U1 R1=>?_
  refine aU R1 rfl hcl A.dv.cells' fun h2 hl2 U2 R2=>?_
  have U02:Upd (fun _=>False) h h2:=U1.own U2 (Nat.le_refl _)
  have S2:=S.up U02
  refine aN (aP R2 hcl.symm g1 ?_)
  rw [(K.up S2.u).rd.plen]
  simp only [aX (G.up S2.u).g.seq]
  refine aT R2 hcl.symm ?_
  refine dJ (A.dv.ext S2.u) (aQ ?_)
  have hri:h.length≠id:=by have:=S.r.lt; omega
  have hrm:h.length≠mid:=by have:=S.m.lt; omega
  have fail:dD d=none→∀ h',Upd (fun _=>False) hb h'→bB h' id (pc ser iss sub frm til nv au key true)→Y0.p1 Q (.p (some ⟨id,9,0⟩)) (.mp (some mid)) (.p (some ⟨h.length,5,0⟩)) (d.kids.length:Nat) v l.length i true h':=by
   intro hin h' U' R'
   refine Y0.i1 ?_
   simp only [Y0.t1]
   exact aO rfl (aBI hq hin U' R')
  have nos:cJ d=false→dD d=none:=by
   intro e
   unfold dD
   split
   ·rw [e] <;> rfl
   ·rw [e] <;> rfl
   ·rfl
  refine aG (fun e=>?_) fun e=>?_
  ·refine aG (fun e2 => ?_) fun e2 => ?_
   ·refine mR S2 (fun _ h3 U3 S3 => aQ ?_) fun e => by cases e
    have e2:=of_decide_eq_true e2
    exact aKE nx (by omega) (by omega) G S3 h16 A (R2.upd U3 hri) hri hrm hfd e (.inl (by omega)) hq
   ·have e2 := of_decide_eq_false e2
    refine mR S2 (fun e3 h3 U3 S3=>aQ ?_) fun e3 h3 V3 U3 R3=>aQ (fail ?_ h3 U3 R3)
    ·have e3 := of_decide_eq_true e3
     exact aKE nx (by omega) (by omega) G S3 h16 A (R2.upd U3 hri) hri hrm hfd e (.inr (by omega)) hq
    ·have e3 := of_decide_eq_false e3
     unfold dD
     split
     ·rename_i hk; rw [hk] at e2; exact absurd rfl e2
     ·rename_i hk; rw [hk] at e3; exact absurd rfl e3
     ·rfl
  ·refine mR S2 (fun e=>by cases e) fun _ h3 V3 U3 R3=>aQ (fail (nos e) h3 U3 R3)
theorem zI {h:aA} (G:CG2 hb) (L:KL hb F v l rows) (hfit:∀ k∈l,Fit k) (hl:l.length≤256) (U:Upd (fun _=>False) hb h) (hid:hb.length≤id) (R:bB h id (pc ser iss sub frm til (.sl none 0 none) false key false))
  (hq:rY hb id ser iss sub key frm til Q (cU l false false ([],false))):C Y0.id [.p (some ⟨id,9,0⟩),v] h Q:=by
 refine Y0.call ?_
 simp only [Y0.t, ← Y0.p0.eq_1]
 refine aC4 sκ fun h1 hl1 U1 M1=>?_
 have U01:=U.trans U1 fun _ _ h=>h
 rw [(L.up U01).rd.plen]
 have hlt:=R.lt
 have hq':rY hb id ser iss sub key frm til (aK h Q) (cU l false false ([],false)):=fun h' nv au bad a b c d=>.inl (hq h' nv au bad a b c d)
 have S:ESt hb id h.length ser iss sub key frm til h1 [] false false [] false (.sl none 0 none):=
  ⟨R.upd U1 fun h=>h,M1,rfl,rfl,fun t=>⟨false,rfl⟩,⟨U01,.inl ⟨rfl,rfl⟩,fun i hi=>hi.elim⟩,fun i hi=>hi.elim,hid,U.1,by omega⟩
 exact aNH G L hfit hl l 0 h1 [] false false [] false _ rfl S (by simp) hq'
end
end Go.Proofs.YtcdkpkkdolmfdaaGreatDoor
namespace Go.GAM
theorem aI9 {l:List UInt8} {k:IntKind} {lo hi:Nat} {K:List UInt8→Prop} (h:lo≤hi) (h2:hi≤l.length) (hk:K ((l.take hi).drop lo)):bV (.s l) (some (.i k lo)) (some (.i k hi)) K:=by
 refine ⟨by omega,by omega,by simpa using h,by simpa using h2, ?_⟩
 simpa using hk
end Go.GAM
namespace Go.Proofs.YtcdkpkkdolmfdaaGreatDoor
open Go.GAM Go.RowKit
abbrev vD:List UInt8:=[48,49,50,51,52,53,54,55,56,57,97,98,99,100,101,102]
theorem nU:∀ x,x<16→(vD.take (x+1)).drop x=[sY x]:=by decide
theorem aM6 (c:UInt8):cC .and .u8 (c.toNat:Int) 15=((c.toNat % 16:Nat):Int):=by
 have:=aHH (x:=c.toNat) (y:=15) c.toNat_lt (by omega)
 rw [show ((15:Nat):Int)=15 from rfl] at this
 rw [this,show 15=2 ^ 4 - 1 from rfl,Nat.and_two_pow_sub_one_eq_mod]
theorem tO (l:List UInt8):(hZ l).length=2 * l.length:=by
 induction l with
 | nil=>rfl
 | cons c l ih=>show (_++hZ l).length=_; rw [List.length_append,ih]; simp; omega
theorem yX (l:List UInt8) (c:UInt8):hZ (l++[c])=hZ l++([sY (c.toNat / 16)]++[sY (c.toNat % 16)]):=by simp [hZ]
theorem aCR {l p:List UInt8} {h:aA} {Q:AV→aA→Prop} (hk:Q (.b (kE l p)) h):C Y92.id [.s l,.s p] h Q:=by
 refine Y92.call ?_
 simp only [Y92.t]
 exact r8 (aQ (.inl hk))
def sR (hb : aA) (id : Nat) (Q : AV → aA → Prop) (res : Option eF) : Prop :=
 ∀ h' ser iss sub frm til nv au key bad, Upd (fun _ => False) hb h' → bB h' id (pc ser iss sub frm til nv au key bad) → bad = res.isNone →
  (∀ c,res=some c→c.serial=ser∧c.issuer=iss∧c.subject=sub∧c.frm=frm∧c.til=til∧c.auth=au∧c.key=key∧RdI 1 h' nv (c.names.map .s) c.names.length∧∀ i,bU nv i→hb.length≤i)→Q (.tu []) h'
section
variable {hb h:aA} {id:Nat} {ser iss sub key:List UInt8} {frm til:Int} {nv:AV} {au bad:Bool} {Q:AV→aA→Prop}
theorem sR.fail (hq:sR hb id Q none) (U:Upd (fun _=>False) hb h) (R:bB h id (pc ser iss sub frm til nv au key true)):Q (.tu []) h:=
 hq h _ _ _ _ _ _ _ _ true U R rfl fun c h=>by cases h
theorem kM {ok:Bool} {K:AV→aA→Prop} (U:Upd (fun _=>False) hb h) (hid:hb.length≤id) (R:bB h id (pc ser iss sub frm til nv au key bad))
  (hk:∀ h',Upd (fun _=>False) hb h'→bB h' id (pc ser iss sub frm til nv au key (bad || !ok))→K (.b (!(bad || !ok))) h'):C Y30.id [.p (some ⟨id,9,0⟩),.b ok] h K:=
 aDV R rfl rfl fun h' U' R'=>hk h' (U.own U' hid) R'
variable {F:Nat→Prop} (hF:∀ i,F i→i<hb.length) (hid:hb.length≤id) (G:CG2 hb)
include hid G in
theorem aDK {w:AV} {k:Der} {r:List AV} (A:KAt hb F w 0 k r) (hk:Fit k) (U:Upd (fun _=>False) hb h) (R:bB h id (pc ser iss sub frm til (.sl none 0 none) false key false))
  (hq:sR hb id Q ((cU k.kids false false ([],false)).map fun n=>⟨ser,iss,sub,frm,til,n.1,n.2,key⟩)):Y12.p3 Q (.p (some ⟨id,9,0⟩)) w true h:=by
 obtain ⟨w2,rs,_,K2,ld⟩:=A.f4
 have a0:∀ (h':aA),Upd (fun _=>False) hb h'→∀ K:AV→Prop,aB 5 w (.i .i64 0) h' K=K (ptr w 5 0 0):=A.idx
 refine Y12.i3 ?_
 simp only [Y12.t3]
 refine aO rfl ?_
 simp only [a0 h U,A.fa,ld h U]
 refine zI G K2 (fun x hx=>hk.kid hx) hk.few U hid R fun h' nv au bad U' R' hb' hx=>?_
 refine hq h' ser iss sub frm til nv au key bad U' R' (by rw [hb']; simp) fun c hc=>?_
 cases he:cU k.kids false false ([],false) with
 | none=>rw [he] at hc; cases hc
 | some n =>
  rw [he] at hc
  cases hc
  obtain ⟨h1,h2,h3⟩:=hx n he
  exact ⟨rfl,rfl,rfl,rfl,rfl,h1.symm,rfl,h2,h3⟩
variable {a b c d e f g:Der} {xs:List Der} {v:AV} {rows:List (List AV)}
include hid G in
theorem aD4 (L : KL hb F v (a :: b :: c :: d :: e :: f :: g :: xs) rows) (hxs : xs.length ≤ 1) (hfx : ∀ x ∈ xs, Fit x) {w : AV} {q : Der} {r : List AV} (Aq : KAt hb F w 1 q r) (hkey : q.data = 0 :: key) (U : Upd (fun _ => False) hb h) (R : bB h id (pc ser iss sub frm til (.sl none 0 none) false [] false))
  (hq:sR hb id Q ((oW xs).map fun n=>⟨ser,iss,sub,frm,til,n.1,n.2,key⟩)):Y12.p2 Q (.p (some ⟨id,9,0⟩)) v w false h:=by
 have a1:∀ (h':aA),Upd (fun _=>False) hb h'→∀ K:AV→Prop,aB 5 w (.i .i64 1) h' K=K (ptr w 5 1 0):=Aq.idx
 refine Y12.i2 ?_
 simp only [Y12.t2, ← Y12.p3.eq_1]
 refine aM rfl ?_
 simp only [a1 h U,Aq.fa,Aq.f3 h U,cG]
 rw [hkey]
 refine gN (lo:=1) (by simp) (bI (aN (aN (b5 R rfl (by show 7<9; omega) rfl rfl rfl fun h1 hl1 U1 R1=>?_))))
 have V1:=U.own U1 hid
 rw [(L.up V1).rd.plen]
 match xs,hxs,L,hfx,hq with
 | [], _, L, hfx, hq =>
  refine aM (by simp) (hq h1 ser iss sub frm til _ false key false V1 R1 rfl fun c hc=>?_)
  cases hc
  exact ⟨rfl,rfl,rfl,rfl,rfl,rfl,rfl,(Rd.i (.inl ⟨rfl,rfl,rfl⟩)),fun i hi=>hi.elim⟩
 | [x], _, L, hfx, hq =>
  obtain ⟨rx,Ax⟩:=L.at (i:=7) (k:=x) rfl
  have a7:∀ (h':aA),Upd (fun _=>False) hb h'→∀ K:AV→Prop,aB 5 v (.i .i64 7) h' K=K (ptr v 5 7 0):=Ax.idx
  have hfit:=hfx x (by simp)
  obtain ⟨wx,rsx,gx,Kx,ldx⟩:=Ax.f4
  refine aO (by simp) ?_
  simp only [aX (G.up V1).ext,a7 h1 V1,Ax.ld h1 V1]
  refine mK (Ax.dv.ext V1) gx fun h2 U2=>?_
  have V2:=V1.trans U2 fun _ _ h=>h
  have R2:=R1.upd U2 fun h=>h
  simp only [a7 h2 V2,bJ,true_and]
  refine aZ (bA (aQ ?_))
  refine aG (fun e=>?_) fun e=>?_
  ·rw [Bool.and_eq_true, Bool.or_eq_true, decide_eq_true_eq, decide_eq_true_eq] at e
   obtain ⟨e1,e2⟩:=e
   have e2:x.kids.length=1:=by omega
   obtain ⟨k,hk⟩:∃ k,x.kids=[k]:=by
    match x.kids,e2 with
    | [k],_=>exact ⟨k,rfl⟩
   obtain ⟨rk,Ak⟩:=Kx.at (i:=0) (k:=k) (by rw [hk] <;> rfl)
   have a0:∀ (h':aA),Upd (fun _=>False) hb h'→∀ K:AV→Prop,aB 5 wx (.i .i64 0) h' K=K (ptr wx 5 0 0):=Ak.idx
   simp only [aX (G.up V2).g.seq,a0 h2 V2,Ak.ld h2 V2]
   refine dJ (Ak.dv.ext V2) (aQ ?_)
   simp only [a0 h2 V2,bJ,true_and]
   refine kM V2 hid R2 fun h3 V3 R3=>aQ ?_
   simp only [aX (G.up V3).g.seq,a0 h3 V3,Ak.ld h3 V3,bJ,true_and, ← Y12.p3.eq_1]
   have hx:oW [x]=if cJ k=true then cU k.kids false false ([],false) else none:=by
    unfold oW
    simp only [hk,e1,if_true]
   rw [hx] at hq
   cases hs:isS 0 16 true k with
   | true =>
    rw [hs] at R3
    rw [if_pos (show cJ k=true from hs)] at hq
    exact aDK hid G Ak (hfit.kid (by rw [hk]; simp)) V3 R3 hq
   | false =>
    rw [hs] at R3
    rw [if_neg (show ¬ cJ k=true by show ¬ isS 0 16 true k=true; rw [hs]; simp)] at hq
    refine Y12.i3 ?_
    simp only [Y12.t3]
    exact aM rfl (sR.fail hq V3 R3)
  ·refine kM V2 hid R2 fun h3 V3 R3 => aQ ?_
   have hx:oW [x]=none:=by
    unfold oW
    by_cases e1:isS 2 3 true x=true
    ·rw [e1] at e
     simp only [e1,if_true]
     split
     ·rename_i k hk
      rw [hk] at e
      simp at e
     ·rfl
    ·simp only [e1,if_false]; rfl
   rw [hx] at hq
   refine Y12.i3 ?_
   simp only [Y12.t3]
   exact aM rfl (sR.fail hq V3 R3)
end
end Go.Proofs.YtcdkpkkdolmfdaaGreatDoor
namespace Go.Proofs.YtcdkpkkdolmfdaaGreatDoor
open Go.GAM Go.RowKit
theorem pB {l r:List UInt8} {k:IntKind} {lo hi:Nat} {K:List UInt8→Prop} (h:lo≤hi) (h2:hi≤l.length) (he:(l.take hi).drop lo=r) (hk:K r):bV (.s l) (some (.i k lo)) (some (.i k hi)) K:=
 aI9 h h2 (by rw [he]; exact hk)
def eL (a b c:Der):Bool:=s9 a&&(isS 0 2 false b&&(!decide (b.data=[])&&cJ c))
section
variable {a b c d e f g:Der} {xs:List Der}
theorem rU:bX (a :: b :: c :: d :: e :: f :: g :: xs)=(if eL a b c=true then (match cE d,cE f,eR e,nG g,oW xs with
  | some i,some s,some t,some k,some n=>some (⟨hZ b.data,i,s,t.1,t.2,n.1,n.2,k⟩:eF)
  | _,_,_,_,_=>none) else none):=rfl
theorem aGM (h:eL a b c=false):bX (a :: b :: c :: d :: e :: f :: g :: xs)=none:=by
 rw [rU,if_neg (by rw [h]; simp)]
theorem aOL (h:cE d=none):bX (a :: b :: c :: d :: e :: f :: g :: xs)=none:=by
 rw [rU,h]
 by_cases hh:eL a b c=true
 ·rw [if_pos hh]
 ·rw [if_neg hh]
theorem aO1 (h:cE f=none):bX (a :: b :: c :: d :: e :: f :: g :: xs)=none:=by
 rw [rU,h]
 by_cases hh:eL a b c=true
 ·rw [if_pos hh]; cases cE d <;> rfl
 ·rw [if_neg hh]
theorem aGR (h:eR e=none):bX (a :: b :: c :: d :: e :: f :: g :: xs)=none:=by
 rw [rU,h]
 by_cases hh:eL a b c=true
 ·rw [if_pos hh]; cases cE d <;> cases cE f <;> rfl
 ·rw [if_neg hh]
theorem aF7 (h:nG g=none):bX (a :: b :: c :: d :: e :: f :: g :: xs)=none:=by
 rw [rU,h]
 by_cases hh:eL a b c=true
 ·rw [if_pos hh]; cases cE d <;> cases cE f <;> cases eR e <;> rfl
 ·rw [if_neg hh]
theorem aMM {i s k:List UInt8} {t:Int × Int} (h:eL a b c=true) (h2:cE d=some i) (h3:cE f=some s) (h4:eR e=some t) (h5:nG g=some k) :
  bX (a :: b :: c :: d :: e :: f :: g :: xs)=(oW xs).map fun n=>⟨hZ b.data,i,s,t.1,t.2,n.1,n.2,k⟩:=by
 rw [rU,if_pos h,h2,h3,h4,h5]
 cases oW xs <;> rfl
theorem aEL {e:Der} (h:e.kids.length=2):∃ p q,e.kids=[p,q]:=by
 match e.kids,h with
 | [p,q],_=>exact ⟨p,q,rfl⟩
theorem aJ0 {e:Der} (h:(isS 0 16 true e&&(decide ((2:Int)<0)||decide ((e.kids.length:Int)=2)))=false):eR e=none:=by
 unfold eR
 split
 ·rename_i h1
  split
  ·rename_i p q hk
   rw [show isS 0 16 true e=true from h1,hk] at h
   simp at h
  ·rfl
 ·rfl
theorem aNC {g:Der} (h:(isS 0 16 true g&&(decide ((2:Int)<0)||decide ((g.kids.length:Int)=2)))=false):nG g=none:=by
 unfold nG
 split
 ·rename_i h1
  split
  ·rename_i p q hk
   rw [show isS 0 16 true g=true from h1,hk] at h
   simp at h
  ·rfl
 ·rfl
theorem aEN {e:Der} (h:(isS 0 16 true e&&(decide ((2:Int)<0)||decide ((e.kids.length:Int)=2)))=true):cJ e=true∧e.kids.length=2:=by
 rw [Bool.and_eq_true,Bool.or_eq_true,decide_eq_true_eq,decide_eq_true_eq] at h
 exact ⟨h.1,by omega⟩
end
section
variable {hb h:aA} {id:Nat} {Q:AV→aA→Prop} {F:Nat→Prop} (hF:∀ i,F i→i<hb.length) (hid:hb.length≤id) (G:CG2 hb)
variable {a b c d e f g:Der} {xs:List Der} {v:AV} {rows:List (List AV)} (L:KL hb F v (a :: b :: c :: d :: e :: f :: g :: xs) rows) (hfit:∀ k∈a :: b :: c :: d :: e :: f :: g :: xs,Fit k) (hxs:xs.length≤1)
 (hq:sR hb id Q (bX (a :: b :: c :: d :: e :: f :: g :: xs)))
include hid hq in
theorem lP {w:AV} {ser iss sub key:List UInt8} {frm til:Int} {nv:AV} {au:Bool} (U:Upd (fun _=>False) hb h) (R:bB h id (pc ser iss sub frm til nv au key true)) (hc:bX (a :: b :: c :: d :: e :: f :: g :: xs)=none) :
  Y12.p2 Q (.p (some ⟨id,9,0⟩)) v w true h:=by
 rw [hc] at hq
 refine Y12.i2 ?_
 simp only [Y12.t2]
 exact aO rfl (sR.fail hq U R)
include hF hid G L hfit hxs hq in
theorem aAF {bad : Bool} (hbad : bad = !eL a b c) (U : Upd (fun _ => False) hb h) (R : bB h id (pc (hZ b.data) [] [] 0 0 (.sl none 0 none) false [] bad)) :
  Y12.p1 Q (.p (some ⟨id,9,0⟩)) v (b.data.length:Nat) (b.data.length:Nat) h:=by
 obtain ⟨r3,A3⟩:=L.at (i:=3) (k:=d) rfl
 obtain ⟨r4,A4⟩:=L.at (i:=4) (k:=e) rfl
 obtain ⟨r5,A5⟩:=L.at (i:=5) (k:=f) rfl
 obtain ⟨r6,A6⟩:=L.at (i:=6) (k:=g) rfl
 have a3:∀ (h':aA),Upd (fun _=>False) hb h'→∀ K:AV→Prop,aB 5 v (.i .i64 3) h' K=K (ptr v 5 3 0):=A3.idx
 have a4:∀ (h':aA),Upd (fun _=>False) hb h'→∀ K:AV→Prop,aB 5 v (.i .i64 4) h' K=K (ptr v 5 4 0):=A4.idx
 have a5:∀ (h':aA),Upd (fun _=>False) hb h'→∀ K:AV→Prop,aB 5 v (.i .i64 5) h' K=K (ptr v 5 5 0):=A5.idx
 have a6:∀ (h':aA),Upd (fun _=>False) hb h'→∀ K:AV→Prop,aB 5 v (.i .i64 6) h' K=K (ptr v 5 6 0):=A6.idx
 obtain ⟨w4,rs4,g4,K4,ld4⟩:=A4.f4
 obtain ⟨w6,rs6,g6,K6,ld6⟩:=A6.f4
 have fd:Fit d:=hfit d (by simp)
 have fe:Fit e:=hfit e (by simp)
 have ff:Fit f:=hfit f (by simp)
 have fg:Fit g:=hfit g (by simp)
 have hne:∀ i,F i→i≠id:=fun i hi=>by have:=hF i hi; omega
 refine Y12.i1 ?_
 simp only [Y12.t1, ← Y12.p2.eq_1]
 refine aM (by simp) ?_
 simp only [a3 h U,A3.ld h U,a5 h U,A5.ld h U]
 refine aFO (G.up U).g (A3.dv.ext U) fd.names hne R rfl rfl fun h1 U1 R1=>?_
 have V1:=U.own U1 hid
 simp only [cG,A5.ld h1 V1,a5 h1 V1,a3 h1 V1,bJ,true_and]
 refine aFO (G.up V1).g (A5.dv.ext V1) ff.names hne R1 rfl rfl fun h2 U2 R2=>?_
 have V2:=V1.own U2 hid
 simp only [cG,a5 h2 V2,A3.ld h2 V2,a3 h2 V2,bJ,true_and]
 refine bI (aN (aN (b5 R2 rfl (by show 1<9; omega) rfl rfl rfl fun h3 hl3 U3 R3=>?_)))
 have V3:=V2.own U3 hid
 simp only [a5 h3 V3,bJ,true_and]
 refine bI (aN (aN (b5 R3 rfl (by show 2<9; omega) rfl rfl rfl fun h4 hl4 U4 R4=>?_)))
 have V4:=V3.own U4 hid
 have R4:bB h4 id (pc (hZ b.data) (txt (cE d)) (txt (cE f)) 0 0 (.sl none 0 none) false [] ((bad||(cE d).isNone)||(cE f).isNone)):=R4
 simp only [aX (G.up V4).g.seq,a4 h4 V4,A4.ld h4 V4]
 refine mK (A4.dv.ext V4) g4 fun h5 U5=>?_
 have V5:=V4.trans U5 fun _ _ h=>h
 have R5:=R4.upd U5 fun h=>h
 simp only [a4 h5 V5,bJ,true_and]
 refine aZ (bA (aQ ?_))
 refine kM V5 hid R5 fun h6 V6 R6=>aQ ?_
 cases hB:(((bad||(cE d).isNone)||(cE f).isNone) || !(isS 0 16 true e&&(decide ((2:Int)<0)||decide ((e.kids.length:Int)=2)))) with
 | true =>
  rw [hB] at R6
  refine aO rfl (sR.fail ?_ V6 R6)
  rw [Bool.or_eq_true,Bool.or_eq_true,Bool.or_eq_true] at hB
  rcases hB with ((h1 | h1) | h1) | h1
  ·rw [aGM (by rw [hbad] at h1; simpa using h1)] at hq; exact hq
  ·rw [aOL (by simpa using h1)] at hq; exact hq
  ·rw [aO1 (by simpa using h1)] at hq; exact hq
  ·rw [aGR (aJ0 (by rw [← Bool.not_eq_true']; exact h1))] at hq; exact hq
 | false =>
  rw [hB] at R6
  rw [Bool.or_eq_false_iff,Bool.or_eq_false_iff,Bool.or_eq_false_iff] at hB
  obtain ⟨⟨⟨hb0,hb1⟩,hb2⟩,hb3⟩:=hB
  have hb3:(isS 0 16 true e&&(decide ((2:Int)<0)||decide ((e.kids.length:Int)=2)))=true:=by simpa using hb3
  have hhead:eL a b c=true:=by rw [hbad] at hb0; simpa using hb0
  obtain ⟨i,hi⟩:∃ i,cE d=some i:=by cases hn:cE d with
   | none=>rw [hn] at hb1; cases hb1
   | some i=>exact ⟨i,rfl⟩
  obtain ⟨s,hs⟩:∃ s,cE f=some s:=by cases hn:cE f with
   | none=>rw [hn] at hb2; cases hb2
   | some i=>exact ⟨i,rfl⟩
  rw [hi,hs] at R6
  obtain ⟨he1,he2⟩:=aEN hb3
  obtain ⟨p,q,hpq⟩:=aEL he2
  obtain ⟨rp,Ap⟩:=K4.at (i:=0) (k:=p) (by rw [hpq] <;> rfl)
  obtain ⟨rq,Aq⟩:=K4.at (i:=1) (k:=q) (by rw [hpq] <;> rfl)
  have b0:∀ (h':aA),Upd (fun _=>False) hb h'→∀ K:AV→Prop,aB 5 w4 (.i .i64 0) h' K=K (ptr w4 5 0 0):=Ap.idx
  have b1:∀ (h':aA),Upd (fun _=>False) hb h'→∀ K:AV→Prop,aB 5 w4 (.i .i64 1) h' K=K (ptr w4 5 1 0):=Aq.idx
  have fp:Fit p:=fe.kid (by rw [hpq]; simp)
  have fq:Fit q:=fe.kid (by rw [hpq]; simp)
  have htimes:eR e=if ((cP p).2&&(cP q).2)=true then some ((cP p).1,(cP q).1) else none:=by
   unfold eR; rw [if_pos he1,hpq]
  refine aM rfl ?_
  simp only [b0 h6 V6,Ap.ld h6 V6]
  refine aJ4 (Ap.dv.ext V6) (by have:=fp.data; omega) ?_
  refine aZ (aS (bA (aQ ?_)))
  simp only [b1 h6 V6,Aq.ld h6 V6]
  refine aJ4 (Aq.dv.ext V6) (by have:=fq.data; omega) ?_
  refine aZ (aS (bA (aQ ?_)))
  refine bI (aN (aN (b5 R6 rfl (by show 3<9; omega) rfl rfl rfl fun h7 hl7 U7 R7=>?_)))
  have V7:=V6.own U7 hid
  refine bI (aN (aN (b5 R7 rfl (by show 4<9; omega) rfl rfl rfl fun h8 hl8 U8 R8=>?_)))
  have V8:=V7.own U8 hid
  have R8:bB h8 id (pc (hZ b.data) i s (cP p).1 (cP q).1 (.sl none 0 none) false [] false):=R8
  simp only [aX (G.up V8).g.seq,a6 h8 V8,A6.ld h8 V8]
  refine mK (A6.dv.ext V8) g6 fun h9 U9=>?_
  have V9:=V8.trans U9 fun _ _ h=>h
  have R9:=R8.upd U9 fun h=>h
  simp only [a6 h9 V9,bJ,true_and]
  refine aZ (bA (aQ ?_))
  have bad9:bX (a :: b :: c :: d :: e :: f :: g :: xs)=none→C Y30.id [.p (some ⟨id,9,0⟩),.b false] h9 fun x h'=>asB x fun y=>Y12.p2 Q (.p (some ⟨id,9,0⟩)) v w6 (!y) h':=fun hc=>
   kM V9 hid R9 fun h' V' R'=>aQ (lP hid hq V' R' hc)
  have notimes:((cP p).2&&(cP q).2)=false→bX (a :: b :: c :: d :: e :: f :: g :: xs)=none:=fun hh=>aGR (by rw [htimes,hh] <;> rfl)
  refine aG (fun e1=>?_) fun e1=>bad9 (notimes (by rw [e1] <;> rfl))
  refine aG (fun e2=>?_) fun e2=>bad9 (notimes (by rw [e1,e2] <;> rfl))
  have htimes:eR e=some ((cP p).1,(cP q).1):=by rw [htimes,e1,e2] <;> rfl
  refine aG (fun e3=>?_) fun e3=>bad9 (aF7 (aNC e3))
  obtain ⟨hg1,hg2⟩:=aEN e3
  obtain ⟨p',q',hpq'⟩:=aEL hg2
  obtain ⟨rp',Ap'⟩:=K6.at (i:=0) (k:=p') (by rw [hpq'] <;> rfl)
  obtain ⟨rq',Aq'⟩:=K6.at (i:=1) (k:=q') (by rw [hpq'] <;> rfl)
  have d0:∀ (h':aA),Upd (fun _=>False) hb h'→∀ K:AV→Prop,aB 5 w6 (.i .i64 0) h' K=K (ptr w6 5 0 0):=Ap'.idx
  have d1:∀ (h':aA),Upd (fun _=>False) hb h'→∀ K:AV→Prop,aB 5 w6 (.i .i64 1) h' K=K (ptr w6 5 1 0):=Aq'.idx
  have fq':Fit q':=fg.kid (by rw [hpq']; simp)
  have hkey:nG g=if (cJ p'&&j5 q')=true then (match q'.data with
    | c :: r=>if c=0 then some r else none
    | []=>none) else none:=by unfold nG; rw [if_pos hg1,hpq'] <;> rfl
  simp only [aX (G.up V9).g.seq,d0 h9 V9,Ap'.ld h9 V9]
  refine dJ (Ap'.dv.ext V9) (aQ ?_)
  simp only [d0 h9 V9,bJ,true_and]
  refine aG (fun e4=>?_) fun e4=>?_
  ·simp only [aX (G.up V9).bits, d1 h9 V9, Aq'.ld h9 V9]
   refine dJ (Aq'.dv.ext V9) (aQ ?_)
   simp only [d1 h9 V9,d0 h9 V9,Ap'.ld h9 V9,aX (G.up V9).g.seq,bJ,true_and]
   refine aG (fun e5=>?_) fun e5=>?_
   ·simp only [d1 h9 V9, Aq'.fa, Aq'.f3 h9 V9, cG]
    refine aCR (aQ ?_)
    simp only [d1 h9 V9,Aq'.ld h9 V9,d0 h9 V9,Ap'.ld h9 V9,aX (G.up V9).g.seq,aX (G.up V9).bits,bJ,true_and]
    refine kM V9 hid R9 fun h10 V10 R10=>aQ ?_
    simp only [Aq'.f3 h10 V10,cG,d1 h10 V10,Aq'.ld h10 V10,d0 h10 V10,Ap'.ld h10 V10,aX (G.up V10).g.seq,aX (G.up V10).bits,bJ,true_and]
    rw [show (cJ p'&&j5 q')=true by show (isS 0 16 true p'&&isS 0 3 false q')=true; rw [e4,e5] <;> rfl,if_pos rfl] at hkey
    cases hp:kE q'.data [0] with
    | true =>
     rw [hp] at R10
     obtain ⟨key,hk⟩:∃ key,q'.data=0 :: key:=by
      unfold kE at hp
      have hp:=of_decide_eq_true hp
      cases hd:q'.data with
      | nil=>rw [hd] at hp; cases hp
      | cons x r =>
       rw [hd] at hp
       simp at hp
       exact ⟨r,by rw [hp]⟩
     rw [hk] at hkey
     simp only [if_true] at hkey
     refine aD4 hid G L hxs (fun x hx=>hfit x (by simp [hx])) Aq' hk V10 R10 ?_
     rw [aMM hhead hi hs htimes hkey] at hq
     exact hq
    | false =>
     rw [hp] at R10
     refine lP hid hq V10 R10 (aF7 ?_)
     rw [hkey]
     split
     ·rename_i x r hd
      split
      ·rename_i hx
       subst hx
       unfold kE at hp
       rw [hd] at hp
       simp at hp
      ·rfl
     ·rfl
   ·refine kM V9 hid R9 fun h10 V10 R10 => aQ ?_
    simp only [bJ,true_and,d1 h10 V10,Aq'.ld h10 V10,d0 h10 V10,Ap'.ld h10 V10,aX (G.up V10).g.seq,aX (G.up V10).bits]
    refine lP hid hq V10 R10 (aF7 ?_)
    rw [hkey,if_neg (by show ¬ (isS 0 16 true p'&&isS 0 3 false q')=true; rw [e5]; simp)]
  ·refine kM V9 hid R9 fun h10 V10 R10 => aQ ?_
   simp only [bJ,true_and,d0 h10 V10,Ap'.ld h10 V10,aX (G.up V10).g.seq]
   refine lP hid hq V10 R10 (aF7 ?_)
   rw [hkey,if_neg (by show ¬ (isS 0 16 true p'&&isS 0 3 false q')=true; rw [e4]; simp)]
end
end Go.Proofs.YtcdkpkkdolmfdaaGreatDoor
namespace Go.Proofs.YtcdkpkkdolmfdaaGreatDoor
open Go.GAM Go.RowKit
section
variable {hb h:aA} {id:Nat} {Q:AV→aA→Prop} {F:Nat→Prop} (hF:∀ i,F i→i<hb.length) (hid:hb.length≤id) (G:CG2 hb)
variable {a b c d e f g:Der} {xs:List Der} {v:AV} {rows:List (List AV)} (L:KL hb F v (a :: b :: c :: d :: e :: f :: g :: xs) rows) (hfit:∀ k∈a :: b :: c :: d :: e :: f :: g :: xs,Fit k) (hxs:xs.length≤1)
 (hq:sR hb id Q (bX (a :: b :: c :: d :: e :: f :: g :: xs)))
include hF hid G L hfit hxs hq in
theorem aD3 {bad:Bool} (hbad:bad = !eL a b c):∀ (k i:Nat) (h:aA),i+k=b.data.length→Upd (fun _=>False) hb h→bB h id (pc (hZ (b.data.take i)) [] [] 0 0 (.sl none 0 none) false [] bad) →
  Y12.p1 Q (.p (some ⟨id,9,0⟩)) v (b.data.length:Nat) i h:=by
 intro k
 induction k with
 | zero =>
  intro i h hi U R
  obtain rfl:i=b.data.length:=by omega
  rw [List.take_length] at R
  exact aAF hF hid G L hfit hxs hq hbad U R
 | succ k ih =>
  intro i h hi U R
  have hlt:i<b.data.length:=by omega
  obtain ⟨r1,A1⟩:=L.at (i:=1) (k:=b) rfl
  have a1:∀ (h':aA),Upd (fun _=>False) hb h'→∀ K:AV→Prop,aB 5 v (.i .i64 1) h' K=K (ptr v 5 1 0):=A1.idx
  have fb:Fit b:=hfit b (by simp)
  have hlen:=fb.data
  have hhl:=tO (b.data.take i)
  rw [List.length_take,Nat.min_eq_left (by omega)] at hhl
  refine Y12.i1 ?_
  simp only [Y12.t1, ← Y12.p1.eq_1]
  refine aO (by simp; omega) ?_
  simp only [a1 h U,A1.fa,A1.f3 h U,cG]
  have hc:=(b.data[i]).toNat_lt
  refine cQ (i:=i) (List.drop_eq_getElem_cons hlt) ?_
  refine bI (aN (aN (aP R rfl rfl (bC ?_))))
  refine nI (b:=4) (by decide) (nI (b:=4) (by decide) ?_)
  have e16:(b.data[i]).toNat / 2 ^ 4=(b.data[i]).toNat / 16:=rfl
  rw [e16]
  refine aI (n:=(((b.data[i]).toNat / 16+1:Nat):Int)) (by rw [iH (by omega) (by omega)]; omega) ?_
  refine pB (lo:=(b.data[i]).toNat / 16) (hi:=(b.data[i]).toNat / 16+1) (by omega) (by show _≤16; omega) (nU _ (by omega)) ?_
  rw [aM6]
  refine aI (n:=(((b.data[i]).toNat % 16+1:Nat):Int)) (by rw [iH (by omega) (by omega)]; omega) ?_
  refine pB (lo:=(b.data[i]).toNat % 16) (hi:=(b.data[i]).toNat % 16+1) (by omega) (by show _≤16; omega) (nU _ (by omega)) ?_
  refine ⟨by simp,⟨by rw [hhl]; simp; omega, ?_⟩⟩
  refine bI (aN (aN (b5 R rfl (by show 0<9; omega) rfl rfl rfl fun h1 hl1 U1 R1=>?_)))
  have R1:bB h1 id (pc (hZ (b.data.take i)++([sY ((b.data[i]).toNat / 16)]++[sY ((b.data[i]).toNat % 16)])) [] [] 0 0 (.sl none 0 none) false [] bad):=R1
  rw [← yX, ← List.take_succ_eq_append_getElem hlt] at R1
  exact inc (by omega) (ih (i+1) h1 (by omega) (U.own U1 hid) R1)
include hF hid G L hfit hxs hq in
theorem wO {bad:Bool} (hbad:bad = !eL a b c) (U:Upd (fun _=>False) hb h) (R:bB h id (pc [] [] [] 0 0 (.sl none 0 none) false [] bad)):Y12.p0 Q (.p (some ⟨id,9,0⟩)) v h:=by
 obtain ⟨r1,A1⟩:=L.at (i:=1) (k:=b) rfl
 have a1:∀ (h':aA),Upd (fun _=>False) hb h'→∀ K:AV→Prop,aB 5 v (.i .i64 1) h' K=K (ptr v 5 1 0):=A1.idx
 refine Y12.i0 ?_
 simp only [Y12.t0, ← Y12.p1.eq_1]
 simp only [a1 h U,A1.fa,A1.f3 h U,cG]
 exact aD3 hF hid G L hfit hxs hq hbad b.data.length 0 h (by omega) U R
include hF hid G L hfit hxs hq in
theorem aGK (U : Upd (fun _ => False) hb h) (R : bB h id (pc [] [] [] 0 0 (.sl none 0 none) false [] false)) : C Y12.id [.p (some ⟨id, 9, 0⟩), v] h Q := by
 have hq:sR hb id (aK h Q) (bX (a :: b :: c :: d :: e :: f :: g :: xs)):=fun h' ser iss sub frm til nv au key bad x1 x2 x3 x4=>.inl (hq h' ser iss sub frm til nv au key bad x1 x2 x3 x4)
 obtain ⟨r0,A0⟩:=L.at (i:=0) (k:=a) rfl
 obtain ⟨r1,A1⟩:=L.at (i:=1) (k:=b) rfl
 obtain ⟨r2,A2⟩:=L.at (i:=2) (k:=c) rfl
 have a0:∀ (h':aA),Upd (fun _=>False) hb h'→∀ K:AV→Prop,aB 5 v (.i .i64 0) h' K=K (ptr v 5 0 0):=A0.idx
 have a1:∀ (h':aA),Upd (fun _=>False) hb h'→∀ K:AV→Prop,aB 5 v (.i .i64 1) h' K=K (ptr v 5 1 0):=A1.idx
 have a2:∀ (h':aA),Upd (fun _=>False) hb h'→∀ K:AV→Prop,aB 5 v (.i .i64 2) h' K=K (ptr v 5 2 0):=A2.idx
 obtain ⟨w0,rs0,g0,K0,ld0⟩:=A0.f4
 have fa':Fit a:=hfit a (by simp)
 refine Y12.call ?_
 simp only [Y12.t, ← Y12.p0.eq_1]
 simp only [aX (G.up U).ver,a0 h U,A0.ld h U]
 refine mK (A0.dv.ext U) g0 fun h1 U1=>?_
 have V1:=U.trans U1 fun _ _ h=>h
 have R1:=R.upd U1 fun h=>h
 simp only [a0 h1 V1,bJ,true_and]
 refine aZ (bA (aQ ?_))
 refine kM V1 hid R1 fun h2 V2 R2=>aQ ?_
 cases hB:(isS 2 0 true a&&(decide ((1:Int)<0)||decide ((a.kids.length:Int)=1))) with
 | false =>
  rw [hB] at R2
  refine aO rfl (sR.fail ?_ V2 R2)
  rw [aGM (by
   unfold eL s9
   cases e1:isS 2 0 true a with
   | false=>rfl
   | true =>
    rw [e1] at hB
    split
    ·rename_i x hx; rw [hx] at hB; simp at hB
    ·rfl)] at hq
  exact hq
 | true =>
  rw [hB] at R2
  rw [Bool.and_eq_true,Bool.or_eq_true,decide_eq_true_eq,decide_eq_true_eq] at hB
  obtain ⟨hB1,hB2⟩:=hB
  obtain ⟨x,hx⟩:∃ x,a.kids=[x]:=by
   match a.kids,(show a.kids.length=1 by omega) with
   | [x],_=>exact ⟨x,rfl⟩
  obtain ⟨rx,Ax⟩:=K0.at (i:=0) (k:=x) (by rw [hx] <;> rfl)
  have x0:∀ (h':aA),Upd (fun _=>False) hb h'→∀ K:AV→Prop,aB 5 w0 (.i .i64 0) h' K=K (ptr w0 5 0 0):=Ax.idx
  have fx:Fit x:=fa'.kid (by rw [hx]; simp)
  have hv:s9 a=((zB x).2&&decide ((zB x).1=2)):=by unfold s9; rw [hB1,hx] <;> rfl
  refine aM rfl ?_
  simp only [x0 h2 V2,Ax.ld h2 V2]
  refine aOH (Ax.dv.ext V2) (by have:=fx.data; omega) ?_
  refine aZ (aS (bA (aQ ?_)))
  have bad3:∀ {hh:aA},Upd (fun _=>False) hb hh→bB hh id (pc [] [] [] 0 0 (.sl none 0 none) false [] (false || !true))→eL a b c=false→∀ (K:aA→Prop),(∀ h',Upd (fun _=>False) hb h'→bB h' id (pc [] [] [] 0 0 (.sl none 0 none) false [] true)→Y12.p0 (aK h Q) (.p (some ⟨id,9,0⟩)) v h'→K h')→C Y30.id [.p (some ⟨id,9,0⟩),.b false] hh fun y h'=>asB y fun _=>K h':=fun VV RR hh K hK=>
   kM VV hid RR fun h' V' R'=>aQ (hK h' V' R' (wO hF hid G L hfit hxs hq (by rw [hh] <;> rfl) V' R'))
  refine aG (fun e1=>?_) fun e1=>?_
  ·refine aG (fun e2 => ?_) fun e2 => ?_
   ·simp only [aX (G.up V2).int, a1 h2 V2, A1.ld h2 V2]
    refine dJ (A1.dv.ext V2) (aQ ?_)
    simp only [a1 h2 V2,bJ,true_and]
    refine aG (fun e3=>?_) fun e3=>?_
    ·simp only [a1 h2 V2, A1.fa, A1.f3 h2 V2, cG]
     refine aG (fun e4=>?_) fun e4=>?_
     ·simp only [aX (G.up V2).g.seq, a2 h2 V2, A2.ld h2 V2]
      refine dJ (A2.dv.ext V2) (aQ ?_)
      simp only [a2 h2 V2,A1.f3 h2 V2,cG,a1 h2 V2,A1.ld h2 V2,aX (G.up V2).int,bJ,true_and]
      refine kM V2 hid R2 fun h3 V3 R3=>aQ ?_
      simp only [a2 h3 V3,A2.ld h3 V3,A1.f3 h3 V3,cG,a1 h3 V3,A1.ld h3 V3,aX (G.up V3).int,aX (G.up V3).g.seq,bJ,true_and]
      refine wO hF hid G L hfit hxs hq ?_ V3 R3
      unfold eL
      rw [hv,e1,e2,show isS 0 2 false b=true from e3,e4]
      first | done | rfl
     ·refine bad3 V2 R2 (by unfold eL; rw [e4]; simp) _ fun h3 V3 R3 hp => ?_
      simp only [A1.f3 h3 V3,cG,a1 h3 V3,A1.ld h3 V3,aX (G.up V3).int,bJ,true_and]
      exact hp
    ·refine bad3 V2 R2 (by unfold eL; rw [show isS 0 2 false b = false from e3]; simp) _ fun h3 V3 R3 hp => ?_
     simp only [a1 h3 V3,A1.ld h3 V3,aX (G.up V3).int,bJ,true_and]
     exact hp
   ·refine bad3 V2 R2 (by unfold eL; rw [hv, e2]; simp) _ fun h3 V3 R3 hp => ?_
    exact hp
  ·refine bad3 V2 R2 (by unfold eL; rw [hv, e1]; simp) _ fun h3 V3 R3 hp => ?_
   exact hp
end
end Go.Proofs.YtcdkpkkdolmfdaaGreatDoor
namespace Go.Proofs.YtcdkpkkdolmfdaaGreatDoor
open Go.GAM Go.RowKit
def certZ:List AV:=[.s [],.s [],.s [],.i .i64 0,.i .i64 0,.sl none 0 none,.b false,.s []]
def aBN (h:aA) (Q:AV→aA→Prop):Except Int eF→Prop
 | .error e=>∀ h',Upd (fun _=>False) h h'→Q (.tu [.ag certZ,.i .i64 e]) h'
 | .ok c=>∀ cs h',Upd (fun _=>False) h h'→CV h' c cs→Q (.tu [.ag cs,.i .i64 0]) h'
section
variable {h h0:aA} {id:Nat} {Q:AV→aA→Prop} {s:List UInt8}
theorem gE {e:Int} {cs:List AV} (hq:aBN h0 Q (.error e)) (U:Upd (fun _=>False) h0 h) (hid:h0.length≤id) (R:bB h id cs) (hl:cs.length=8) {K:AV→aA→Prop} (hK:∀ h',Q (.tu [.ag certZ,.i .i64 e]) h'→K (.ag certZ) h') :
  aL 8 (.p (some ⟨id,8,0⟩)) (.ag certZ) h fun h4=>aD 8 (.p (some ⟨id,8,0⟩)) h4 fun v=>K v h4:=by
 refine aU R hl.symm rfl rfl fun h1 hl1 U1 R1=>aT R1 rfl (hK h1 (hq h1 (U.own U1 hid)))
theorem aGP {v:AV} {cs:List AV} (hq:aBN h0 Q (.error 2)) (U:Upd (fun _=>False) h0 h) (hid:h0.length≤id) (R:bB h id cs) (hl:cs.length=8):Y41.p0 (aK h0 Q) (.p (some ⟨id,8,0⟩)) v true h:=by
 refine Y41.i0 ?_
 simp only [Y41.t0]
 exact aO rfl (gE hq U hid R hl fun h' hx=>.inl hx)
theorem aMQ {l:List Der} (h1:7≤l.length):∃ a b c d e f g xs,l=a :: b :: c :: d :: e :: f :: g :: xs:=by
 match l,h1 with
 | a :: b :: c :: d :: e :: f :: g :: xs,_=>exact ⟨a,b,c,d,e,f,g,xs,rfl⟩
def zK (o:Option eF):Except Int eF:=match o with
 | some c=>.ok c
 | none=>.error 2
theorem aGQ {F:Nat→Prop} {v:AV} {x:Der} {rx cs:List AV} (G:CG2 h) (A:KAt h F v 0 x rx) (hF:∀ i,F i→i<h.length) (fx:Fit x) (h7:7≤x.kids.length) (h8:x.kids.length≤8) (hq:aBN h0 Q (zK (bX x.kids))) (U:Upd (fun _=>False) h0 h) (hid:h0.length≤id) (R:bB h id cs) (hl:cs.length=8) :
  Y41.p0 (aK h0 Q) (.p (some ⟨id,8,0⟩)) v false h:=by
 have hidl:=R.lt
 obtain ⟨w,rs,g,K,ld⟩:=A.f4
 have a0:∀ (h':aA),Upd (fun _=>False) h h'→∀ K:AV→Prop,aB 5 v (.i .i64 0) h' K=K (ptr v 5 0 0):=A.idx
 obtain ⟨a,b,c,d,e,f,g',xs,hks⟩:=aMQ h7
 rw [hks] at K hq h8
 refine Y41.i0 ?_
 simp only [Y41.t0]
 refine aM rfl (dY rfl fun h1 hl1 U1 R1=>?_)
 rw [a0 h1 U1,A.fa,ld h1 U1]
 refine aGK (hb:=h) (id:=h.length) hF (Nat.le_refl _) G K (fun k hk=>fx.kid (by rw [hks]; exact hk)) (by simp at h8; omega) (fun h2 ser iss sub frm til nv au key bad U2 R2 hb' hc=>?_) U1 R1
 have hU2:Upd (fun _=>False) h0 h2:=U.trans U2 fun _ _ h=>h
 have Rr:bB h2 id cs:=R.upd U2 fun h=>h
 refine bI (aN (aP R2 rfl rfl (aQ ?_)))
 cases hs:bX (a :: b :: c :: d :: e :: f :: g' :: xs) with
 | none =>
  rw [hs] at hb' hq
  subst hb'
  exact aO rfl (gE hq hU2 hid Rr hl fun h' hx=>.inl hx)
 | some y =>
  rw [hs] at hb' hq
  subst hb'
  obtain ⟨e1,e2,e3,e4,e5,e6,e7,e8,e9⟩:=hc y hs
  subst e1 e2 e3 e4 e5 e6 e7
  refine aM rfl (bI (aN ?_))
  obtain ⟨bl,g1,g2,g3,g4⟩:=R2
  refine ⟨bl,g1,⟨g3,by rw [g2]; exact Nat.le_refl _,by show 0+0+8≤9; omega⟩, ?_⟩
  rw [g2]
  show aL 8 _ (.ag (jR y nv)) h2 _
  have V:CV h2 y (jR y nv):=⟨nv,rfl,e8⟩
  refine aU Rr hl.symm V.len V.ok fun h3 hl3 U3 R3=>aT R3 V.len.symm (.inl (hq _ h3 (hU2.own U3 hid) ?_))
  refine ⟨nv,rfl,e8.upd U3 fun i hi e=>?_⟩
  have:=e9 i hi
  omega
end
end Go.Proofs.YtcdkpkkdolmfdaaGreatDoor
namespace Go.Proofs.YtcdkpkkdolmfdaaGreatDoor
open Go.GAM Go.RowKit
def fP (d:Der):Except Int eF:=if cJ d=true then (match d.kids with
 | [a,b,c]=>if (cJ a&&(cJ b&&j5 c))=true then zK (bX a.kids) else .error 2
 | _=>.error 2) else .error 2
theorem rG (s:List UInt8):lK s=if 65535<s.length then .error 3 else match jX s with
 | .error e=>.error e
 | .ok d=>fP d:=by
 unfold lK fP zK
 rfl
theorem sK {l:List Der} (h:l.length<7):bX l=none:=by
 unfold bX
 split
 ·simp at h; omega
 ·rfl
theorem qJ {l:List Der} (h:8<l.length):bX l=none:=by
 unfold bX
 split
 ·rename_i a b c d e f g x
  have hx:oW x=none:=by
   match x,h with
   | [],h=>simp at h
   | [_],h=>simp at h
   | _ :: _ :: _,_=>rfl
  rw [hx]
  split
  ·split
   ·rename_i h5; cases h5
   ·rfl
  ·rfl
 ·rfl
theorem aFL {s : List UInt8} {h : aA} {Q : AV → aA → Prop} (G : CG2 h) (hq : aBN h Q (lK s)) : C Y41.id [.s s] h Q := by
 refine Y41.call ?_
 simp only [Y41.t, ← Y41.p0.eq_1]
 refine bQ fun h1 hl1 U1 R1=>?_
 rw [rG] at hq
 refine aG (fun e=>?_) fun e=>?_
 ·have e := of_decide_eq_true e
  rw [if_pos (by omega)] at hq
  exact gE hq U1 (Nat.le_refl _) R1 rfl fun h' hx=>.inl hx
 ·have e := of_decide_eq_false e
  rw [if_neg (by omega)] at hq
  refine aBA ?_
  cases hd:jX s with
  | error e =>
   rw [hd] at hq
   intro h2 U2
   refine aZ (bA (aS (bQ fun h3 hl3 U3 R3=>aU R3 rfl rfl rfl fun h4 hl4 U4 R4=>?_)))
   have V4:Upd (fun _=>False) h1 h4:=(U2.then U3).own U4 (by have:=U2.1; omega)
   refine aO (by simp [mT hd]) ?_
   exact gE hq (U1.then V4) (Nat.le_refl _) (R1.upd V4 fun h=>h) rfl fun h' hx=>.inl hx
  | ok d =>
   rw [hd] at hq
   intro cs h2 U2 D2
   have fd:=Fit.of hd
   refine aZ (bA (aS (bQ fun h3 hl3 U3 R3=>aU R3 rfl D2.len D2.cells' fun h4 hl4 U4 R4=>?_)))
   have U24:Upd (fun _=>False) h2 h4:=U3.own U4 (Nat.le_refl _)
   have V4:Upd (fun _=>False) h1 h4:=(U2.then U3).own U4 (by have:=U2.1; omega)
   have D4:=D2.ext U24
   have G4:CG2 h4:=G.up (U1.then V4)
   have R14:=R1.upd V4 fun h=>h
   refine aM rfl ?_
   simp only [aX G4.g.seq]
   refine aT R4 D2.len.symm ?_
   obtain ⟨w,rs,g1,g2,g3,g4,g5⟩:=D4.kidsLen
   refine mK D4 g1 fun h5 U5=>?_
   have U05:Upd (fun _=>False) h h5:=(U1.then V4).then U5
   have V5:Upd (fun _=>False) h1 h5:=V4.then U5
   have K:KL h5 (fun i=>h1.length≤i∧i<h4.length) w d.kids rs:=⟨(D4.upd U5 (F':=fun i=>h1.length≤i∧i<h4.length) fun i hi hl=>⟨fun h=>h,hi,hl⟩) |> fun D5=>by
    exact (g2.upd U5 fun i hi hl=>⟨fun h=>h,hi,hl⟩),g3.upd U5 fun _ _ _ h=>h,fun i hi=>⟨(g5 i hi).1,(g5 i hi).2⟩⟩
   have R15:=R14.upd U5 fun h=>h
   have G5:=G4.up U5
   refine aZ (bA (aQ ?_))
   have hq:aBN h Q (fP d):=hq
   have hF:∀ i,(h1.length≤i∧i<h4.length)→i<h5.length:=fun i hi=>Nat.lt_of_lt_of_le hi.2 U5.1
   have fail:fP d = .error 2→Y41.p0 (aK h Q) (.p (some ⟨h.length,8,0⟩)) w true h5:=by
    intro hp
    rw [hp] at hq
    exact aGP hq U05 (Nat.le_refl _) R15 rfl
   cases hs:(isS 0 16 true d&&(decide ((3:Int)<0)||decide ((d.kids.length:Int)=3))) with
   | false =>
    refine aO rfl (fail ?_)
    unfold fP
    split
    ·rename_i h1
     rw [show isS 0 16 true d=true from h1] at hs
     split
     ·rename_i hk; rw [hk] at hs; simp at hs
     ·rfl
    ·rfl
   | true =>
    rw [Bool.and_eq_true,Bool.or_eq_true,decide_eq_true_eq,decide_eq_true_eq] at hs
    obtain ⟨hs1,hs2⟩:=hs
    obtain ⟨a,b,c,hk⟩:∃ a b c,d.kids=[a,b,c]:=by
     match d.kids,(show d.kids.length=3 by omega) with
     | [a,b,c],_=>exact ⟨a,b,c,rfl⟩
    have hp:fP d=if (cJ a&&(cJ b&&j5 c))=true then zK (bX a.kids) else .error 2:=by
     unfold fP
     rw [if_pos (show cJ d=true from hs1),hk]
    obtain ⟨ra,A0⟩:=K.at (i:=0) (k:=a) (by rw [hk] <;> rfl)
    obtain ⟨rb,A1⟩:=K.at (i:=1) (k:=b) (by rw [hk] <;> rfl)
    obtain ⟨rc,A2⟩:=K.at (i:=2) (k:=c) (by rw [hk] <;> rfl)
    have u:=Upd.refl (fun _=>False) h5
    have a0:∀ K:AV→Prop,aB 5 w (.i .i64 0) h5 K=K (ptr w 5 0 0):=A0.idx h5 u
    have a1:∀ K:AV→Prop,aB 5 w (.i .i64 1) h5 K=K (ptr w 5 1 0):=A1.idx h5 u
    have a2:∀ K:AV→Prop,aB 5 w (.i .i64 2) h5 K=K (ptr w 5 2 0):=A2.idx h5 u
    obtain ⟨w',rs',e1,K',ld⟩:=A0.f4
    have fa:Fit a:=fd.kid (by rw [hk]; simp)
    refine aM rfl ?_
    simp only [aX G5.g.seq,aX G5.bits,a0,a1,a2,A0.ld h5 u,A1.ld h5 u,A2.ld h5 u,A0.fa,ld h5 u,K'.rd.plen,bJ,true_and]
    refine dJ A0.dv (aQ ?_)
    simp only [aX G5.g.seq,aX G5.bits,a0,a1,a2,A0.ld h5 u,A1.ld h5 u,A2.ld h5 u,A0.fa,ld h5 u,K'.rd.plen,bJ,true_and]
    refine aG (fun e=>?_) fun e=>?_
    ·have e : isS 0 16 true a = false := by simpa using e
     exact fail (by rw [hp,show cJ a=false from e] <;> rfl)
    have ea:cJ a=true:=show isS 0 16 true a=true by simpa using e
    refine dJ A1.dv (aQ ?_)
    simp only [aX G5.g.seq,aX G5.bits,a0,a1,a2,A0.ld h5 u,A1.ld h5 u,A2.ld h5 u,A0.fa,ld h5 u,K'.rd.plen,bJ,true_and]
    refine aG (fun e=>?_) fun e=>?_
    ·have e : isS 0 16 true b = false := by simpa using e
     exact fail (by rw [hp,show cJ b=false from e,ea] <;> rfl)
    have eb:cJ b=true:=show isS 0 16 true b=true by simpa using e
    refine dJ A2.dv (aQ ?_)
    simp only [aX G5.g.seq,aX G5.bits,a0,a1,a2,A0.ld h5 u,A1.ld h5 u,A2.ld h5 u,A0.fa,ld h5 u,K'.rd.plen,bJ,true_and]
    refine aG (fun e=>?_) fun e=>?_
    ·have e : isS 0 3 false c = false := by simpa using e
     exact fail (by rw [hp,show j5 c=false from e,ea,eb] <;> rfl)
    have ec:j5 c=true:=show isS 0 3 false c=true by simpa using e
    have hp:fP d=zK (bX a.kids):=by rw [hp,ea,eb,ec] <;> rfl
    rw [hp] at hq fail
    refine aG (fun e=>?_) fun e=>?_
    ·have e := of_decide_eq_true e
     exact fail (by rw [sK (by omega)] <;> rfl)
    have e:=of_decide_eq_false e
    by_cases e8:8<a.kids.length
    ·rw [decide_eq_true (by omega)]
     exact fail (by rw [qJ e8] <;> rfl)
    rw [decide_eq_false (by omega)]
    exact aGQ G5 A0 hF fa (by omega) (by omega) hq U05 (Nat.le_refl _) R15 rfl
end Go.Proofs.YtcdkpkkdolmfdaaGreatDoor
namespace Go.GAM
theorem b3 {ty:Option TypeId} {n:Nat} {cells:List AV} {h:aA} {K:AV→aA→Prop} (hn:cells.length=n) (hk:∀ h',h'.length=h.length+1→Upd (fun _=>False) h h'→bB h' h.length cells→K (.p (some ⟨h.length,n,0⟩)) h'):bR ty cells h K:=by
 subst hn; exact bQ hk
theorem tI {ty:Option TypeId} {n:Nat} {x:AV} {h:aA} {K:AV→aA→Prop} (hn:x.parts.length=n) (hs:x.sizeOK=true:=by rfl) (hk:∀ h',h'.length=h.length+1→Upd (fun _=>False) h h'→bB h' h.length x.parts→K (.p (some ⟨h.length,n,0⟩)) h'):dX ty x h K:=by
 subst hn; exact dY hs hk
end Go.GAM
namespace Go.Proofs.YtcdkpkkdolmfdaaGreatDoor
open Go.GAM Go.RowKit
section
variable {h:aA} {Q:AV→aA→Prop}
theorem fH {c t:Int} {m:Bool} {d:Der} {cs:List AV} {F:Nat→Prop} (D:DV h F d cs) (hq:Q (.b (isS c t m d)) h):C Y31.id [.ag cs,.i .i64 c,.i .i64 t,.b m] h Q:=by
 cases D with
 | @mk c' t' m' s ks v rows Dk sv fv ov=>
 refine Y31.call ?_
 simp only [Y31.t, ← Y31.p0.eq_1]
 refine dY rfl fun h1 hl1 U1 R1=>?_
 have E:=U1.ext
 have fin:∀ b,b=isS c t m (.mk c' t' m' s ks)→Y31.p0 (aK h Q) b h1:=by
  intro b hb; subst hb
  refine Y31.i0 ?_
  simp only [Y31.t0]
  exact aV rfl E hq
 refine aN (aP R1 rfl rfl (aS (aG (fun e=>?_) fun e=>fin _ (by show false=(decide (c'=c)&&_); rw [e] <;> rfl))))
 refine aN (aP R1 rfl rfl (aS (aG (fun e2=>?_) fun e2=>fin _ (by show false=(decide (c'=c)&&(decide (t'=t)&&_)); rw [e,e2] <;> rfl))))
 exact aN (aP R1 rfl rfl (aQ (fin _ (by show _=(decide (c'=c)&&(decide (t'=t)&&_)); rw [e,e2] <;> rfl))))
theorem aEF {d:Der} {cs:List AV} {F:Nat→Prop} (D:DV h F d cs) (hq:Q (.b (j5 d)) h):C Y79.id [.ag cs] h Q:=by
 refine Y79.call ?_
 simp only [Y79.t]
 exact D.box fun h1 hl1 U1 R1 D1=>aT R1 D1.len.symm (fH D1 (aQ (aV rfl U1.ext hq)))
theorem aCI {d:Der} {cs:List AV} {F:Nat→Prop} (D:DV h F d cs) (hq:Q (.b (dZ d)) h):C Y54.id [.ag cs] h Q:=by
 refine Y54.call ?_
 simp only [Y54.t, ← Y54.p0.eq_1]
 refine D.box fun h1 hl1 U1 R1 D1=>aT R1 D1.len.symm (fH D1 (aQ ?_))
 have fin:∀ b,b=dZ d→Y54.p0 (aK h Q) b h1:=by
  intro b hb; subst hb
  refine Y54.i0 ?_
  simp only [Y54.t0]
  exact aV rfl U1.ext hq
 refine aG (fun e=>aN (aP R1 D1.len.symm D1.dat (bC (fin _ ?_)))) fun e=>fin _ ?_
 ·unfold dZ; rw [e,Bool.true_and,decide_eq_decide]; omega
 ·unfold dZ; rw [e] <;> rfl
theorem aNW {s:List UInt8} (hs:s.length≤100000000) (hq:Q (.s (hZ s)) h):C Y44.id [.s s] h Q:=by
 refine Y44.call ?_
 simp only [Y44.t, ← Y44.p0.eq_1]
 have loop:∀ (k i:Nat),i+k=s.length→Y44.p0 (aK h Q) s vD (hZ (s.take i)) i h:=by
  intro k
  induction k with
  | zero =>
   intro i hi
   obtain rfl:i=s.length:=by omega
   refine Y44.i0 ?_
   simp only [Y44.t0, ← Y44.p0.eq_1]
   rw [List.take_length]
   exact aM (by simp) (.inl hq)
  | succ k ih =>
   intro i hi
   have hlt:i<s.length:=by omega
   have hhl:=tO (s.take i)
   rw [List.length_take,Nat.min_eq_left (by omega)] at hhl
   have hc:=(s[i]).toNat_lt
   refine Y44.i0 ?_
   simp only [Y44.t0, ← Y44.p0.eq_1]
   refine aO (by simp; omega) ?_
   refine cQ (i:=i) (List.drop_eq_getElem_cons hlt) ?_
   rw [aJ (by omega) (by omega)]
   refine j4 (b:=16) (by omega) (by omega) ?_
   refine cQ (i:=i) (List.drop_eq_getElem_cons hlt) ?_
   rw [aJ (by omega) (by omega)]
   refine iR (b:=16) (by omega) ?_
   refine aI (n:=(((s[i]).toNat / 16+1:Nat):Int)) (by rw [aJ (by omega) (by omega)]; omega) ?_
   refine pB (by omega) (by show _≤16; omega) (nU _ (by omega)) ?_
   refine ⟨by rw [hhl]; simp; omega, ?_⟩
   refine aI (n:=(((s[i]).toNat % 16+1:Nat):Int)) (by rw [aJ (by omega) (by omega)]; omega) ?_
   refine pB (by omega) (by show _≤16; omega) (nU _ (by omega)) ?_
   refine ⟨by simp [hhl]; omega, ?_⟩
   refine inc (by omega) ?_
   rw [List.append_assoc, ← yX, ← List.take_succ_eq_append_getElem hlt]
   exact ih (i+1) (by omega)
 exact loop s.length 0 (by omega)
theorem zP (o:List UInt8):gQ o=if o=[50,46,53,46,52,46,51] then [67,78] else if o=[50,46,53,46,52,46,49,48] then [79] else if o=[50,46,53,46,52,46,49,49] then [79,85] else if o=[50,46,53,46,52,46,54] then [67] else []:=by
 by_cases h1:o=[50,46,53,46,52,46,51]
 ·subst h1; decide
 by_cases h2:o=[50,46,53,46,52,46,49,48]
 ·subst h2; decide
 by_cases h3:o=[50,46,53,46,52,46,49,49]
 ·subst h3; decide
 by_cases h4:o=[50,46,53,46,52,46,54]
 ·subst h4; decide
 rw [if_neg h1,if_neg h2,if_neg h3,if_neg h4]
 unfold gQ cH
 simp only [List.foldl]
 rw [if_neg (fun h=>h4 h.symm),if_neg (fun h=>h3 h.symm),if_neg (fun h=>h2 h.symm),if_neg (fun h=>h1 h.symm)]
def iL (d:Der):List UInt8 × Bool:=if (eA d).2=true∧gQ (eA d).1≠[] then (gQ (eA d).1,true) else ([],false)
theorem aL4 {d:Der} {cs:List AV} {F:Nat→Prop} (D:DV h F d cs) (hd:d.data.length≤100000) (hq:Q (.tu [.s (iL d).1,.b (iL d).2]) h):C Y82.id [.ag cs] h Q:=by
 refine Y82.call ?_
 simp only [Y82.t]
 refine D.box fun h1 hl1 U1 R1 D1=>aT R1 D1.len.symm (aIL D1 hd (aZ (bC (bA (aQ ?_)))))
 unfold iL at hq
 rw [zP] at hq
 cases hb:(eA d).2 with
 | false =>
  rw [hb] at hq
  exact aO rfl (aV rfl U1.ext (by simpa using hq))
 | true =>
  rw [hb] at hq
  refine aM rfl ?_
  generalize (eA d).1=o at hq
  by_cases h1:o=[50,46,53,46,52,46,51]
  ·exact aO (decide_eq_true h1) (aV rfl U1.ext (by simpa [h1] using hq))
  refine aM (decide_eq_false h1) ?_
  by_cases h2:o=[50,46,53,46,52,46,49,48]
  ·exact dV (decide_eq_true h2) (aO rfl (aV rfl U1.ext (by simpa [h2] using hq)))
  refine dV (decide_eq_false h2) (aM rfl ?_)
  by_cases h3:o=[50,46,53,46,52,46,49,49]
  ·exact dV (decide_eq_true h3) (aO rfl (aV rfl U1.ext (by simpa [h3] using hq)))
  refine dV (decide_eq_false h3) (aM rfl ?_)
  by_cases h4:o=[50,46,53,46,52,46,54]
  ·exact aO (decide_eq_true h4) (aV rfl U1.ext (by simpa [h4] using hq))
  exact aM (decide_eq_false h4) (aV rfl U1.ext (by simpa [h1,h2,h3,h4] using hq))
end
end Go.Proofs.YtcdkpkkdolmfdaaGreatDoor
