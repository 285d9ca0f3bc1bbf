/- Lemmas (several texts in one). -/
import Derived.Lib.ItoaNum
import Derived.Test.YtcdkpkkdolmfdaaGreatDoorMg7
set_option linter.unusedVariables false
set_option linter.unusedSimpArgs false
set_option linter.unusedSectionVars false
set_option maxRecDepth 20000
namespace Go.GAM
end Go.GAM
namespace Go.Proofs.YtcdkpkkdolmfdaaGreatDoor
open Go.GAM Go.RowKit
def cU:List UInt8→List Nat
 | a :: b :: r=>((a.toNat - 48) * 10+(b.toNat - 48)) :: cU r
 | _=>[]
def aGH (y mo da h mi s:Nat):Nat:=(fB y+fR y mo+da - 1) * 86400+h * 3600+mi * 60+s
def tL (y mo da h mi s:Nat):Prop:=y<1970∨mo<1∨12<mo∨da<1∨k7 y mo<da∨23<h∨59<mi∨59<s
instance (y mo da h mi s:Nat):Decidable (tL y mo da h mi s):=by unfold tL; infer_instance
def tJ (y mo da h mi s:Nat):Int × Bool:=if tL y mo da h mi s then (0,false) else ((aGH y mo da h mi s:Nat),true)
def uX (p:List Nat):Int × Bool:=match p with
 | [a,b,mo,da,h,mi,s]=>tJ (100 * a+b) mo da h mi s
 | _=>(0,false)
def pR (d:Der):Option (List UInt8):=
 if bZ 24 d=true then (if d.data.length=15 then some d.data else none) else
 if bZ 23 d=true then (if d.data.length=13 then some ((if 53≤(d.data.getD 0 0).toNat then [49,57] else [50,48])++d.data) else none) else none
def cT (d:Der):Int × Bool:=match pR d with
 | none=>(0,false)
 | some s=>if s.getD 14 0=90∧(s.take 14).all digB=true then uX (cU (s.take 14)) else (0,false)
theorem uA (y m:Nat):fR y m≤31 * m:=by
 induction m with
 | zero=>simp [fR]
 | succ k ih =>
  have:=iM y k
  show fR y k+(if k=0 then 0 else k7 y k)≤_
  split <;> omega
theorem z6 {y:Nat} (h:1970≤y) (h2:y≤89999):fB y≤40000000:=by
 have:=aJ5 (a:=1970) (b:=y) (by omega) h
 rw [aIR] at this; omega
section
variable {h0:aA} {Q:AV→aA→Prop}
theorem aMC (c:UInt8) (h:aA) (K:AV→aA→Prop) (hk:K (.b (digB c)) h):C Y64.id [.i .u8 (c.toNat:Int)] h K:=by
 refine Y64.call ?_
 simp only [Y64.t, ← Y64.p0.eq_1]
 have p0:∀ b,b=digB c→Y64.p0 (aL h K) b h:=by
  intro b hb
  refine Y64.i0 ?_
  simp only [Y64.t0]
  subst hb
  exact .inl hk
 unfold digB at p0
 refine aG (fun e=>p0 _ ?_) fun e=>p0 _ ?_
 ·simp only [decide_eq_true_eq] at e
  rw [decide_eq_true (by omega:48≤c.toNat),Bool.true_and,decide_eq_decide]; omega
 ·simp only [decide_eq_false_iff_not] at e
  rw [decide_eq_false (by omega:¬ 48≤c.toNat)] <;> rfl
def sU (x:Int × Bool):AV:=.tu [.i .i64 x.1,.b x.2]
theorem aLN {h hx:aA} {v:AV} {y x mo da hh mi s:Nat} (E:Ext h hx) (R:Rd 1 hx v ([x,mo,da,hh,mi,s].map num) 6) (hy:1970≤y) (hy2:y≤89999) (hmo:mo≤12) (hda:1≤da∧da≤31) (h23:hh≤99) (h59:mi≤99) (h60:s≤99)
  (hq:Q (.tu [.i .i64 (aGH y mo da hh mi s:Nat),.b true]) h):∀ k m',m'+k=mo→1≤m'→Y6.p5 (aL h Q) v y ((fB y+fR y m'+da - 1:Nat):Int) m' hx:=by
 have hb:=z6 hy hy2
 intro k
 induction k with
 | zero =>
  intro m' hm h1
  have:m'=mo:=by omega
  subst this
  have hm:=uA y m'
  refine Y6.i5 ?_
  simp only [Y6.t5]
  refine R.nat (i:=1) (by omega) rfl (aN (by rw [decide_eq_false_iff_not]; omega) ?_)
  unfold aGH at hq
  refine aI (n:=(((fB y+fR y m'+da - 1) * 86400:Nat):Int)) (by rw [aJ (by omega) (by omega)]; omega) (R.nat (i:=3) (by omega) rfl ?_)
  refine aI (n:=((hh * 3600:Nat):Int)) (by rw [aJ (by omega) (by omega)]; omega) ?_
  refine aI (n:=(((fB y+fR y m'+da - 1) * 86400+hh * 3600:Nat):Int)) (by rw [aJ (by omega) (by omega)]; omega) (R.nat (i:=4) (by omega) rfl ?_)
  refine aI (n:=((mi * 60:Nat):Int)) (by rw [aJ (by omega) (by omega)]; omega) ?_
  refine aI (n:=(((fB y+fR y m'+da - 1) * 86400+hh * 3600+mi * 60:Nat):Int)) (by rw [aJ (by omega) (by omega)]; omega) (R.nat (i:=5) (by omega) rfl ?_)
  refine aI (n:=(((fB y+fR y m'+da - 1) * 86400+hh * 3600+mi * 60+s:Nat):Int)) (by rw [aJ (by omega) (by omega)]; omega) (aU rfl E hq)
 | succ k ih =>
  intro m' hm h1
  have hms:=qZ (y:=y) h1
  have hmb:=uA y m'
  have hdb:=iM y m'
  refine Y6.i5 ?_
  simp only [Y6.t5, ← Y6.p5.eq_1]
  refine R.nat (i:=1) (by omega) rfl (aO (by rw [decide_eq_true_eq]; omega) (uB (aQ ?_)))
  refine aI (n:=((fB y+fR y (m'+1)+da - 1:Nat):Int)) (by rw [aJ (by omega) (by omega)]; omega) (inc (by omega) ?_)
  exact ih (m'+1) (by omega) (by omega)
theorem aAC {h hx:aA} {v:AV} {y x mo da hh mi s:Nat} (E:Ext h hx) (R:Rd 1 hx v ([x,mo,da,hh,mi,s].map num) 6) (hy2:y≤89999) (hmo2:mo≤99) (hda2:da≤99) (h23:hh≤99) (h59:mi≤99) (h60:s≤99)
  (hq:Q (sU (tJ y mo da hh mi s)) h):Y6.p3 (aL h Q) v y hx:=by
 obtain ⟨id,ver,off,cap,b,rfl,A⟩:=R.at (by omega)
 have R:=A.rd cap
 unfold tJ sU at hq
 have p4:∀ b:Bool,(b=true↔tL y mo da hh mi s)→Y6.p4 (aL h Q) (.sl (some ⟨id,ver,off⟩) 6 cap) y b hx:=by
  intro b hb
  refine Y6.i4 ?_
  simp only [Y6.t4, ← Y6.p5.eq_1]
  refine aG (fun e=>?_) fun e=>?_
  ·rw [if_pos (hb.1 e)] at hq
   exact aU rfl E hq
  ·have hg : ¬ tL y mo da hh mi s := fun hh => by have := hb.2 hh; rw [e] at this; cases this
   rw [if_neg hg] at hq
   unfold tL at hg
   have hdd:=iM y mo
   have hbb:=z6 (y:=y) (by omega) hy2
   refine b9 A (i:=2) (by omega) (cO A (by omega) rfl (m6 (by omega) (by omega) (aQ (cO A (by omega) rfl ⟨rfl,b9 A (i:=2) (by omega) ⟨rfl, ?_⟩⟩))))
   refine aI (n:=((fB y+da:Nat):Int)) (by rw [aJ (by omega) (by omega)]; omega) ?_
   refine aI (n:=((fB y+fR y 1+da - 1:Nat):Int)) (by rw [aJO,aJ (by omega) (by omega)]; omega) ?_
   exact aLN E R (by omega) hy2 (by omega) (by omega) h23 h59 h60 hq (mo - 1) 1 (by omega) (by omega)
 have hdd:=iM y mo
 unfold tL at p4
 refine Y6.i3 ?_
 simp only [Y6.t3, ← Y6.p4.eq_1]
 refine aG (fun e1=>p4 _ ?_) fun e1=>b9 A (i:=1) (by omega) (cO A (by omega) rfl ?_)
 ·simp only [decide_eq_true_eq] at e1; simp; omega
 refine aG (fun e2=>p4 _ ?_) fun e2=>b9 A (i:=1) (by omega) (cO A (by omega) rfl ?_)
 ·simp only [decide_eq_true_eq] at e2; simp; omega
 refine aG (fun e3=>p4 _ ?_) fun e3=>b9 A (i:=2) (by omega) (cO A (by omega) rfl ?_)
 ·simp only [decide_eq_true_eq] at e3; simp; omega
 refine aG (fun e4=>p4 _ ?_) fun e4=>b9 A (i:=2) (by omega) (cO A (by omega) rfl (b9 A (i:=1) (by omega) (cO A (by omega) rfl (uB (aQ ?_)))))
 ·simp only [decide_eq_true_eq] at e4; simp; omega
 simp only [decide_eq_false_iff_not] at e1 e2 e3 e4
 refine b9 A (i:=1) (by omega) ⟨rfl,cO A (by omega) rfl ⟨rfl,b9 A (i:=2) (by omega) ⟨rfl,cO A (by omega) rfl ⟨rfl,b9 A (i:=2) (by omega) ⟨rfl,cO A (by omega) rfl ⟨rfl,b9 A (i:=1) (by omega) ⟨rfl,cO A (by omega) rfl ⟨rfl,b9 A (i:=1) (by omega) ⟨rfl, ?_⟩⟩⟩⟩⟩⟩⟩⟩⟩
 refine aG (fun e5=>p4 _ ?_) fun e5=>R.nat (i:=3) (by omega) rfl ?_
 ·simp only [decide_eq_true_eq] at e5; simp; omega
 refine aG (fun e6=>p4 _ ?_) fun e6=>R.nat (i:=4) (by omega) rfl ?_
 ·simp only [decide_eq_true_eq] at e6; simp; omega
 refine aG (fun e7=>p4 _ ?_) fun e7=>R.nat (i:=5) (by omega) rfl (p4 _ ?_)
 ·simp only [decide_eq_true_eq] at e7; simp; omega
 simp only [decide_eq_false_iff_not] at e5 e6 e7
 rw [decide_eq_true_eq]; omega
theorem yK:∀ (l:List UInt8),l.all digB=true→∀ n∈cU l,n≤99
 | [],_,n,hn=>by simp [cU] at hn
 | [a],_,n,hn=>by simp [cU] at hn
 | a :: b :: r, h, n, hn => by
  simp only [List.all_cons,Bool.and_eq_true] at h
  have:=dF h.1
  have:=dF h.2.1
  simp only [cU,List.mem_cons] at hn
  rcases hn with rfl | hn
  ·omega
  ·exact yK r h.2.2 n hn
theorem uV:∀ l:List UInt8,(cU l).length=l.length / 2
 | []=>by simp [cU]
 | [a]=>by simp [cU]
 | a :: b :: r => by
  have:=uV r
  simp only [cU,List.length_cons,this]; omega
theorem aPN {α:Type} {l:List α} (h:l.length=7):∃ a b c d e f g,l=[a,b,c,d,e,f,g]:=by
 match l,h with
 | [a,b,c,d,e,f,g],_=>exact ⟨a,b,c,d,e,f,g,rfl⟩
theorem aO5 {α:Type} {l:List α} (h:l.length=6):∃ a b c d e f,l=[a,b,c,d,e,f]:=by
 match l,h with
 | [a,b,c,d,e,f],_=>exact ⟨a,b,c,d,e,f,rfl⟩
theorem aMW {h hx0:aA} {sz:Nat}:∀ (k:Nat) (ds:List UInt8) (done:List Nat) (v:AV) (hx:aA),ds.length=2 * k→k≤100→done.length+k≤100→ds.all digB=true→gB hx0 hx v (done.map num) →
  (∀ v hx,gB hx0 hx v ((done++cU ds).map num)→Y6.p2 (aL h Q) sz [] v hx)→Y6.p2 (aL h Q) sz ds v hx:=by
 intro k
 induction k with
 | zero =>
  intro ds done v hx hl _ _ _ S fin
  have:ds=[]:=List.eq_nil_of_length_eq_zero (by omega)
  subst this
  exact fin v hx (by simpa [cU] using S)
 | succ k ih =>
  intro ds done v hx hl hk hd hall S fin
  match ds,hl with
  | [],hl=>simp at hl
  | [a],hl=>simp at hl; omega
  | a :: b :: r, hl =>
   simp only [List.all_cons,Bool.and_eq_true] at hall
   have ha:=dF hall.1
   have hb:=dF hall.2.1
   refine Y6.i2 ?_
   simp only [Y6.t2, ← Y6.p2.eq_1]
   refine aO (by simp) (cS (i:=0) rfl ?_)
   refine aI (n:=((a.toNat - 48:Nat):Int)) (by rw [iJ (by omega) (by omega)]; omega) ?_
   refine aI (n:=(((a.toNat - 48) * 10:Nat):Int)) (by rw [aJ (n:=((a.toNat - 48:Nat):Int)) (by omega) (by omega),aJ (by omega) (by omega)]; omega) (cS (i:=1) rfl ?_)
   refine aI (n:=((b.toNat - 48:Nat):Int)) (by rw [iJ (by omega) (by omega)]; omega) ?_
   refine aI (n:=(((a.toNat - 48) * 10+(b.toNat - 48):Nat):Int)) (by rw [aJ (n:=((b.toNat - 48:Nat):Int)) (by omega) (by omega),aJ (by omega) (by omega)]; omega) ?_
   refine S.push rfl rfl (by simp; omega) (by simp; omega) fun v' h' S' _ _=>gY (lo:=2) (by simp) ?_
   refine ih r (done++[(a.toNat - 48) * 10+(b.toNat - 48)]) v' h' (by simp at hl; omega) (by omega) (by simp; omega) hall.2.2 (by rw [List.map_append]; exact S') fun v2 h2 S2=>fin v2 h2 ?_
   simpa [cU] using S2
theorem yU {l:List UInt8} {n:Nat} (h:l.length=n+1):∃ c,l[n]? = some c∧l.getD n 0=c:=by
 obtain ⟨c,hc⟩:∃ c,l[n]? = some c:=⟨_,List.getElem?_eq_getElem (by omega)⟩
 exact ⟨c,hc,getD_some hc⟩
theorem aIB {d : Der} {cs : List AV} {F : Nat → Prop} {h : aA} (D : DV h F d cs) (hs : d.data.length ≤ 100000) (hq : Q (sU (cT d)) h) : C Y6.id [.ag cs] h Q := by
 refine Y6.call ?_
 simp only [Y6.t, ← Y6.p0.eq_1]
 refine D.box fun h1 hl1 U1 B D1=>aT B D.len.symm (lQ D1 (aS ?_))
 have p1bad:∀ sz:Nat,cT d=(0,false)→Y6.p1 (aL h Q) (.p (some ⟨h.length,5,0⟩)) sz true h1:=by
  intro sz he
  rw [he] at hq
  refine Y6.i1 ?_
  simp only [Y6.t1]
  exact aO rfl (aU rfl U1.ext hq)
 have p1 : ∀ n : Nat, (n = 12 ∨ n = 14) → d.data.length = n + 1 →
   (cT d=if (d.data.take n).all digB=true then (if n=14 then uX (cU (d.data.take 14)) else uX ((if 50≤(cU (d.data.take 12)).getD 0 0 then 19 else 20) :: cU (d.data.take 12))) else (0,false)) →
   Y6.p1 (aL h Q) (.p (some ⟨h.length,5,0⟩)) ((n+1:Nat):Int) false h1:=by
  intro n hn hl he
  rw [he] at hq
  refine Y6.i1 ?_
  simp only [Y6.t1, ← Y6.p2.eq_1]
  refine aN rfl (aK (aM B D.len.symm D.dat (bA ?_)))
  refine aI (n:=(n:Int)) (by rw [aJ (by omega) (by omega)]; omega) (kW (by omega) (Tx.ofStr fun v h2 T=>?_))
  have E2:=(U1.trans T.upd fun _ _ h=>h)
  refine wE (p:=digB) rfl aMC T.byt (by simp; omega) (aS ?_)
  cases ha:(d.data.take n).all digB with
  | false =>
   rw [ha,if_neg (by simp)] at hq
   exact aO rfl (aU rfl E2.ext hq)
  | true =>
   rw [ha,if_pos rfl] at hq
   refine aN rfl ?_
   have hbd:=yK _ ha
   have hpl:=uV (d.data.take n)
   rw [List.length_take,Nat.min_eq_left (by omega)] at hpl
   refine aMW (sz:=n+1) (n / 2) (d.data.take n) [] _ h2 (by rw [List.length_take]; omega) (by omega) (by simp; omega) ha (gB.start h2) fun v hx S=>?_
   rw [List.nil_append] at S
   have E:Ext h hx:=(E2.trans S.upd fun _ _ h=>h).ext
   have R:=S.stk.rd
   rw [List.length_map] at R
   refine Y6.i2 ?_
   simp only [Y6.t2, ← Y6.p3.eq_1]
   refine aN (by simp) ?_
   rcases hn with rfl | rfl
   ·rw [if_neg (by omega)] at hq
    obtain ⟨b,mo,da,hh,mi,s,hp⟩:=aO5 hpl
    rw [hp] at hq R hbd
    have bb:=hbd b (by simp)
    refine R.nat (i:=0) (by simp) rfl ?_
    refine aI (n:=((b+2000:Nat):Int)) (by rw [aJ (by omega) (by omega)]; omega) (aN (by simp) (R.nat (i:=0) (by simp) rfl ?_))
    have hq:Q (sU (tJ ((if 50≤b then 1900 else 2000)+b) mo da hh mi s)) h:=by
     have e:uX ((if 50≤b then 19 else 20) :: [b,mo,da,hh,mi,s])=tJ ((if 50≤b then 1900 else 2000)+b) mo da hh mi s:=by
      unfold uX
      simp only
      congr 1
      split <;> omega
     rw [← e]; exact hq
    refine aG (fun e=>R.nat (i:=0) (by simp) rfl ?_) fun e=>?_
    ·rw [if_pos (by simp only [decide_eq_true_eq] at e; omega)] at hq
     refine aI (n:=((1900+b:Nat):Int)) (by rw [aJ (by omega) (by omega)]; omega) ?_
     exact aAC E R (by omega) (hbd _ (by simp)) (hbd _ (by simp)) (hbd _ (by simp)) (hbd _ (by simp)) (hbd _ (by simp)) hq
    ·rw [if_neg (by simp only [decide_eq_false_iff_not] at e; omega)] at hq
     rw [Nat.add_comm]
     exact aAC E R (by omega) (hbd _ (by simp)) (hbd _ (by simp)) (hbd _ (by simp)) (hbd _ (by simp)) (hbd _ (by simp)) hq
   ·rw [if_pos rfl] at hq
    obtain ⟨a,b,mo,da,hh,mi,s,hp⟩:=aPN hpl
    rw [hp] at hq R hbd
    have ba:=hbd a (by simp)
    have bb:=hbd b (by simp)
    refine R.nat (i:=0) (by simp) rfl ?_
    refine aI (n:=((a+2000:Nat):Int)) (by rw [aJ (by omega) (by omega)]; omega) (aO (by simp) (R.nat (i:=0) (by simp) rfl ?_))
    refine aI (n:=((100 * a:Nat):Int)) (by rw [aJ (by omega) (by omega)]; omega) (R.nat (i:=1) (by simp) rfl ?_)
    refine aI (n:=((100 * a+b:Nat):Int)) (by rw [aJ (by omega) (by omega)]; omega) (R.dropAt Nat.one_pos (lo:=1) (by simp) fun v' R'=>?_)
    exact aAC E R' (by omega) (hbd _ (by simp)) (hbd _ (by simp)) (hbd _ (by simp)) (hbd _ (by simp)) (hbd _ (by simp)) hq
 have p0:∀ n:Nat,(n=12∨n=14)→(d.data.length≠n+1→cT d=(0,false)) →
   (d.data.length=n+1→cT d=if d.data.getD n 0=90∧(d.data.take n).all digB=true then (if n=14 then uX (cU (d.data.take 14)) else uX ((if 50≤(cU (d.data.take 12)).getD 0 0 then 19 else 20) :: cU (d.data.take 12))) else (0,false)) →
   Y6.p0 (aL h Q) (.p (some ⟨h.length,5,0⟩)) ((n+1:Nat):Int) h1:=by
  intro n hn he1 he2
  refine Y6.i0 ?_
  simp only [Y6.t0, ← Y6.p1.eq_1]
  refine aK (aM B D.len.symm D.dat (bA ?_))
  by_cases hl:d.data.length=n+1
  ·refine aN (by rw [hl]; simp) (aK (aM B D.len.symm D.dat (bA ?_)))
   refine aI (n:=(n:Int)) (by rw [aJ (by omega) (by omega)]; omega) ?_
   obtain ⟨c,hc1,hc2⟩:=yU hl
   have he2:=he2 hl
   rw [hc2] at he2
   refine kM hc1 ?_
   rw [show (90:Int)=(((90:UInt8).toNat:Nat):Int) from rfl,iZ]
   by_cases h90:c=90
   ·rw [decide_eq_true h90]
    refine p1 n hn hl ?_
    rw [he2]
    simp [h90]
   ·rw [decide_eq_false h90]
    refine p1bad _ ?_
    rw [he2,if_neg (fun hh=>h90 hh.1)]
  ·refine aO (by simp; omega) (p1bad _ (he1 hl))
 refine aG (fun e=>p0 14 (.inr rfl) (fun hl=>?_) fun hl=>?_) fun e=>aT B D.len.symm (lQ D1 (aS ?_))
 ·unfold cT pR
  rw [if_pos e,if_neg hl]
 ·unfold cT pR
  rw [if_pos e,if_pos hl]
  simp only [if_true]
 ·refine aG (fun e2 => ?_) fun e2 => p0 12 (.inl rfl) (fun hl => ?_) fun hl => ?_
  ·have : cT d = (0, false) := by
    unfold cT pR
    rw [if_neg (by rw [e]; simp),if_neg (by have:=e2; simp at this; rw [this]; simp)]
   rw [this] at hq
   exact aU rfl U1.ext hq
  ·unfold cT pR
   rw [if_neg (by rw [e]; simp),if_pos (by simpa using e2),if_neg hl]
  ·have hp : bZ 23 d = true := by simpa using e2
   obtain ⟨c0,r,hd⟩:∃ c0 r,d.data=c0 :: r:=by
    cases hd:d.data with
    | nil=>rw [hd] at hl; cases hl
    | cons a r=>exact ⟨a,r,rfl⟩
   obtain ⟨c1,r',hr⟩:∃ c1 r',r=c1 :: r':=by
    cases r with
    | nil=>rw [hd] at hl; cases hl
    | cons a r=>exact ⟨a,r,rfl⟩
   unfold cT pR
   rw [if_neg (by rw [e]; simp),if_pos hp,if_pos hl]
   simp only
   have h0:d.data.getD 0 0=c0:=by rw [hd] <;> rfl
   have t12:d.data.take 12=c0 :: c1 :: r'.take 10:=by rw [hd,hr] <;> rfl
   rw [h0]
   have key:∀ x y:UInt8,digB x=true→digB y=true→(([x,y]++d.data).getD 14 0=d.data.getD 12 0)∧(([x,y]++d.data).take 14).all digB=(d.data.take 12).all digB∧cU (([x,y]++d.data).take 14)=((x.toNat - 48) * 10+(y.toNat - 48)) :: cU (d.data.take 12):=by
    intro x y hx hy
    exact ⟨rfl,by simp [hx,hy],rfl⟩
   by_cases h53:53≤c0.toNat
   ·rw [if_pos h53]
    obtain ⟨k1,k2,k3⟩:=key 49 57 (by decide) (by decide)
    rw [k1,k2,k3]
    by_cases hc:d.data.getD 12 0=90∧(d.data.take 12).all digB=true
    ·rw [if_pos hc, if_pos hc]
     simp only [if_neg (show ¬ (12=14) by omega)]
     have hg:(cU (d.data.take 12)).getD 0 0=(c0.toNat - 48) * 10+(c1.toNat - 48):=by rw [t12] <;> rfl
     rw [hg,if_pos (by omega)] <;> rfl
    ·rw [if_neg hc,if_neg hc]
   ·rw [if_neg h53]
    obtain ⟨k1,k2,k3⟩:=key 50 48 (by decide) (by decide)
    rw [k1,k2,k3]
    by_cases hc:d.data.getD 12 0=90∧(d.data.take 12).all digB=true
    ·rw [if_pos hc, if_pos hc]
     simp only [if_neg (show ¬ (12=14) by omega)]
     have hg:(cU (d.data.take 12)).getD 0 0=(c0.toNat - 48) * 10+(c1.toNat - 48):=by rw [t12] <;> rfl
     have hall:=hc.2
     rw [t12] at hall
     simp only [List.all_cons,Bool.and_eq_true] at hall
     have:=dF hall.1
     have:=dF hall.2.1
     rw [hg,if_neg (by omega)] <;> rfl
    ·rw [if_neg hc,if_neg hc]
end
end Go.Proofs.YtcdkpkkdolmfdaaGreatDoor
namespace Go.GAM
end Go.GAM
namespace Go.Proofs.YtcdkpkkdolmfdaaGreatDoor
open Go.GAM Go.RowKit
section
variable {h0:aA} {Q:AV→aA→Prop}
theorem aGZ {y mo da hh mi s : Nat} {h : aA} (hy : 1970 ≤ y) (hy2 : y ≤ 89999) (hmo : 1 ≤ mo ∧ mo ≤ 12) (hda : 1 ≤ da ∧ da ≤ 99) (h23 : hh ≤ 99) (h59 : mi ≤ 99) (h60 : s ≤ 99) (hq : Q (.i .i64 (aGH y mo da hh mi s : Nat)) h) :
  C Y21.id [.i .i64 (y:Int),.i .i64 (mo:Int),.i .i64 (da:Int),.i .i64 (hh:Int),.i .i64 (mi:Int),.i .i64 (s:Int)] h Q:=by
 have hb:=z6 hy hy2
 refine Y21.call ?_
 simp only [Y21.t, ← Y21.p0.eq_1]
 have p2:∀ k m',m'+k=mo→1≤m'→Y21.p2 (aL h Q) y mo da hh mi s ((fB y+fR y m':Nat):Int) m' h:=by
  intro k
  induction k with
  | zero =>
   intro m' hm _
   have:m'=mo:=by omega
   subst this
   have hmb:=uA y m'
   unfold aGH at hq
   refine Y21.i2 ?_
   simp only [Y21.t2]
   refine aN (by rw [decide_eq_false_iff_not]; omega) ?_
   refine aI (n:=((fB y+fR y m'+da:Nat):Int)) (by rw [aJ (by omega) (by omega)]; omega) ?_
   refine aI (n:=((fB y+fR y m'+da - 1:Nat):Int)) (by rw [aJ (by omega) (by omega)]; omega) ?_
   refine aI (n:=(((fB y+fR y m'+da - 1) * 86400:Nat):Int)) (by rw [aJ (by omega) (by omega)]; omega) ?_
   refine aI (n:=((hh * 3600:Nat):Int)) (by rw [aJ (by omega) (by omega)]; omega) ?_
   refine aI (n:=(((fB y+fR y m'+da - 1) * 86400+hh * 3600:Nat):Int)) (by rw [aJ (by omega) (by omega)]; omega) ?_
   refine aI (n:=((mi * 60:Nat):Int)) (by rw [aJ (by omega) (by omega)]; omega) ?_
   refine aI (n:=(((fB y+fR y m'+da - 1) * 86400+hh * 3600+mi * 60:Nat):Int)) (by rw [aJ (by omega) (by omega)]; omega) ?_
   refine aI (n:=(((fB y+fR y m'+da - 1) * 86400+hh * 3600+mi * 60+s:Nat):Int)) (by rw [aJ (by omega) (by omega)]; omega) (.inl hq)
  | succ k ih =>
   intro m' hm h1
   have hms:=qZ (y:=y) h1
   have hmb:=uA y m'
   have hdb:=iM y m'
   refine Y21.i2 ?_
   simp only [Y21.t2, ← Y21.p2.eq_1]
   refine aO (by rw [decide_eq_true_eq]; omega) (aE6 (aQ ?_))
   refine aI (n:=((fB y+fR y (m'+1):Nat):Int)) (by rw [aJ (by omega) (by omega)]; omega) (inc (by omega) ?_)
   exact ih (m'+1) (by omega) (by omega)
 have p0:∀ k y',y'+k=y→1970≤y'→Y21.p0 (aL h Q) y mo da hh mi s ((fB y':Nat):Int) y' h:=by
  intro k
  induction k with
  | zero =>
   intro y' hy' _
   have:y'=y:=by omega
   subst this
   refine Y21.i0 ?_
   simp only [Y21.t0, ← Y21.p2.eq_1]
   refine aN (by rw [decide_eq_false_iff_not]; omega) ?_
   have:=p2 (mo - 1) 1 (by omega) (by omega)
   rw [aJO,Nat.add_zero] at this
   exact this
  | succ k ih =>
   intro y' hy' h1
   have hbs:=vN h1
   have hbb:=z6 (y:=y') h1 (by omega)
   have p1:∀ x:Nat,x=fB (y'+1)→Y21.p1 (aL h Q) y mo da hh mi s x y' h:=by
    intro x hx
    subst hx
    refine Y21.i1 ?_
    simp only [Y21.t1, ← Y21.p0.eq_1]
    exact inc (by omega) (ih (y'+1) (by omega) (by omega))
   unfold yW at hbs
   refine Y21.i0 ?_
   simp only [Y21.t0, ← Y21.p1.eq_1]
   refine aO (by rw [decide_eq_true_eq]; omega) (aI (n:=((fB y'+365:Nat):Int)) (by rw [aJ (by omega) (by omega)]; omega) (aE2 (aS (aG (fun e=>?_) fun e=>?_))))
   ·rw [if_pos e] at hbs
    exact inc (by omega) (p1 _ (by omega))
   ·rw [if_neg (by rw [e]; simp)] at hbs
    exact p1 _ (by omega)
 have:=p0 (y - 1970) 1970 (by omega) (by omega)
 rw [aIR] at this
 exact this
theorem aCA {h hx:aA} {v:AV} {s:List UInt8} {y mo da hh mi se:Nat} (E:Ext h hx) (R:Rd 1 hx v ([mo,da,hh,mi,se].map num) 5) (hy2:y≤89999) (hmo2:mo≤99) (hda2:da≤99) (h23:hh≤99) (h59:mi≤99) (h60:se≤99)
  (hq:Q (sU (tJ y mo da hh mi se)) h):Y4.p3 (aL h Q) s v y (14:Nat) hx:=by
 obtain ⟨id,ver,off,cap,b,rfl,A⟩:=R.at (by omega)
 have R:=A.rd cap
 unfold tJ sU at hq
 have p6:∀ b:Bool,(b=true↔tL y mo da hh mi se)→Y4.p6 (aL h Q) (.sl (some ⟨id,ver,off⟩) 5 cap) y b hx:=by
  intro b hb
  refine Y4.i6 ?_
  simp only [Y4.t6]
  refine aG (fun e=>?_) fun e=>?_
  ·rw [if_pos (hb.1 e)] at hq
   exact aU rfl E hq
  ·have hg : ¬ tL y mo da hh mi se := fun hh => by have := hb.2 hh; rw [e] at this; cases this
   rw [if_neg hg] at hq
   unfold tL at hg
   refine b9 A (i:=0) (by omega) (cO A (by omega) rfl (b9 A (i:=1) (by omega) (cO A (by omega) rfl (b9 A (i:=2) (by omega) (cO A (by omega) rfl (b9 A (i:=3) (by omega) (cO A (by omega) rfl (b9 A (i:=4) (by omega) (cO A (by omega) rfl ?_)))))))))
   refine aGZ (by omega) (by omega) (by omega) (by omega) (by omega) (by omega) (by omega) (aQ ?_)
   refine b9 A (i:=4) (by omega) ⟨rfl,b9 A (i:=3) (by omega) ⟨rfl,b9 A (i:=2) (by omega) ⟨rfl,b9 A (i:=1) (by omega) ⟨rfl,b9 A (i:=0) (by omega) ⟨rfl,aU rfl E hq⟩⟩⟩⟩⟩
 have hdd:=iM y mo
 unfold tL at p6
 refine Y4.i3 ?_
 simp only [Y4.t3, ← Y4.p6.eq_1]
 refine aN (by simp) ?_
 refine aG (fun e1=>p6 _ ?_) fun e1=>b9 A (i:=0) (by omega) (cO A (by omega) rfl ?_)
 ·simp only [decide_eq_true_eq] at e1; simp; omega
 refine aG (fun e2=>p6 _ ?_) fun e2=>b9 A (i:=0) (by omega) (cO A (by omega) rfl ?_)
 ·simp only [decide_eq_true_eq] at e2; simp; omega
 refine aG (fun e3=>p6 _ ?_) fun e3=>b9 A (i:=1) (by omega) (cO A (by omega) rfl ?_)
 ·simp only [decide_eq_true_eq] at e3; simp; omega
 refine aG (fun e4=>p6 _ ?_) fun e4=>b9 A (i:=1) (by omega) (cO A (by omega) rfl (b9 A (i:=0) (by omega) (cO A (by omega) rfl (aE6 (aQ ?_)))))
 ·simp only [decide_eq_true_eq] at e4; simp; omega
 simp only [decide_eq_false_iff_not] at e1 e2 e3 e4
 refine b9 A (i:=0) (by omega) ⟨rfl,cO A (by omega) rfl ⟨rfl,b9 A (i:=1) (by omega) ⟨rfl,cO A (by omega) rfl ⟨rfl,b9 A (i:=1) (by omega) ⟨rfl,cO A (by omega) rfl ⟨rfl,b9 A (i:=0) (by omega) ⟨rfl,cO A (by omega) rfl ⟨rfl,b9 A (i:=0) (by omega) ⟨rfl, ?_⟩⟩⟩⟩⟩⟩⟩⟩⟩
 refine aG (fun e5=>p6 _ ?_) fun e5=>R.nat (i:=2) (by omega) rfl ?_
 ·simp only [decide_eq_true_eq] at e5; simp; omega
 refine aG (fun e6=>p6 _ ?_) fun e6=>R.nat (i:=3) (by omega) rfl ?_
 ·simp only [decide_eq_true_eq] at e6; simp; omega
 refine aG (fun e7=>p6 _ ?_) fun e7=>R.nat (i:=4) (by omega) rfl (p6 _ ?_)
 ·simp only [decide_eq_true_eq] at e7; simp; omega
 simp only [decide_eq_false_iff_not] at e5 e6 e7
 rw [decide_eq_true_eq]; omega
def tO:Nat→Nat→List Nat→List UInt8→Nat × List Nat
 | _,y,f,[]=>(y,f)
 | i,y,f,c :: r=>if i<4 then tO (i+1) (10 * y+(c.toNat - 48)) f r else if i % 2=0 then tO (i+1) y (f++[10 * (c.toNat - 48)]) r else tO (i+1) y (f.set (f.length - 1) (f.getD (f.length - 1) 0+(c.toNat - 48))) r
theorem aKE {h hx0 : aA} {s : List UInt8} (E0 : Upd (fun _ => False) h hx0) (hbad : (s.take 14).all digB = false → Q (.tu [.i .i64 0, .b false]) h) (hl : s.length = 15) :
  ∀ (r : List UInt8) (i y : Nat) (f : List Nat) (v : AV) (hx : aA), (s.take 14).drop i = r → i ≤ 14 → (i ≤ 4 → y < 10 ^ i) → (4 ≤ i → y < 10000) → (i ≤ 4 → f = []) → f.length ≤ i → (4 < i → i % 2 = 1 → f ≠ []) → (∀ n ∈ f, n ≤ 99) → (i % 2 = 1 → 4 < i → f.getD (f.length - 1) 0 ≤ 90) → eX 1 hx0 hx v (f.map num) f.length → ((s.take 14).all digB = r.all digB) →
   ((s.take 14).all digB=true→∀ v hx,eX 1 hx0 hx v ((tO i y f r).2.map num) (tO i y f r).2.length→Y4.p3 (aL h Q) s v (tO i y f r).1 (14:Nat) hx)→Y4.p3 (aL h Q) s v y i hx:=by
 intro r
 induction r with
 | nil =>
  intro i y f v hx hr hi _ _ _ _ _ _ _ A he fin
  have hle:=cA hr
  rw [List.length_take] at hle
  have:i=14:=by omega
  subst this
  exact fin (by rw [he] <;> rfl) v hx A
 | cons c r ih =>
  intro i y f v hx hr hi hy1 hy2 hf0 hfl hfne hfb hfo A he fin
  obtain ⟨g1,g2,g3⟩:=aDR hr
  have hc:=c.toNat_lt
  have hdr:=eR g1
  have E:Ext h hx:=(E0.trans A.upd fun _ _ h=>h).ext
  refine Y4.i3 ?_
  simp only [Y4.t3, ← Y4.p4.eq_1]
  refine aO (by simp; omega) (cS hdr ?_)
  have p4bad:digB c=false→Y4.p4 (aL h Q) s v y i true hx:=by
   intro hd
   refine Y4.i4 ?_
   simp only [Y4.t4]
   exact aO rfl (aU rfl E (hbad (by rw [he,List.all_cons,hd] <;> rfl)))
  have p4ok:digB c=true→Y4.p4 (aL h Q) s v y i false hx:=by
   intro hd
   have hdb:=dF hd
   have he':(s.take 14).all digB=r.all digB:=by rw [he,List.all_cons,hd,Bool.true_and]
   have p5:∀ (y':Nat) (f':List Nat) (v':AV) (h':aA),tO i y f (c :: r)=tO (i+1) y' f' r→(i+1≤4→y'<10 ^ (i+1))→(4≤i+1→y'<10000)→(i+1≤4→f'=[])→f'.length≤i+1→(4<i+1→(i+1) % 2=1→f'≠[])→(∀ n∈f',n≤99)→((i+1) % 2=1→4<i+1→f'.getD (f'.length - 1) 0≤90)→eX 1 hx0 h' v' (f'.map num) f'.length→Y4.p5 (aL h Q) s v' y' i h':=by
    intro y' f' v' h' hT a1 a2 a3 a4 a5 a6 a7 A'
    refine Y4.i5 ?_
    simp only [Y4.t5, ← Y4.p3.eq_1]
    refine inc (by omega) (ih (i+1) y' f' v' h' g3 (by omega) a1 a2 a3 a4 a5 a6 a7 A' he' fun ha v hx A=>?_)
    rw [hT] at fin
    exact fin ha v hx A
   refine Y4.i4 ?_
   simp only [Y4.t4, ← Y4.p5.eq_1]
   refine aN rfl (cS hdr ?_)
   refine aI (n:=((c.toNat - 48:Nat):Int)) (by rw [aJ (n:=(c.toNat:Int)) (by omega) (by omega),aJ (by omega) (by omega)]; omega) ?_
   by_cases h4:i<4
   ·have hp : 10 ^ (i + 1) = 10 ^ i * 10 := Nat.pow_succ ..
    have hp4:10 ^ (i+1)≤10 ^ 4:=Nat.pow_le_pow_right (by omega) (by omega)
    have hy:=hy1 (by omega)
    refine aO (by simp; omega) ?_
    refine aI (n:=((10 * y:Nat):Int)) (by rw [aJ (by omega) (by omega)]; omega) ?_
    refine aI (n:=((10 * y+(c.toNat - 48):Nat):Int)) (by rw [aJ (by omega) (by omega)]; omega) ?_
    exact p5 _ f v hx (by rw [tO,if_pos h4]) (fun _=>by omega) (fun _=>by omega) (fun _=>hf0 (by omega)) (by omega) (fun _ _=>by omega) hfb (fun _ _=>by omega) A
   ·refine aN (by simp; omega) (iW (b := 2) (by omega) ?_)
    by_cases h2:i % 2=0
    ·refine aO (by simp; omega) ?_
     refine aI (n:=((10 * (c.toNat - 48):Nat):Int)) (by rw [aJ (by omega) (by omega)]; omega) ?_
     refine eX.build A (by decide) (ns:=[num (10 * (c.toNat - 48))]) rfl rfl rfl (by omega) (by omega) fun v' h' A'=>?_
     refine p5 y (f++[10 * (c.toNat - 48)]) v' h' (by rw [tO,if_neg h4,if_pos h2]) (fun h=>by omega) (fun _=>hy2 (by omega)) (fun h=>by omega) (by simp; omega) (fun _ _=>by simp) ?_ ?_ ?_
     ·intro n hn
      rcases List.mem_append.1 hn with h | h
      ·exact hfb n h
      ·simp at h; omega
     ·intro _ _
      rw [List.length_append]
      simp only [List.length_singleton,Nat.add_sub_cancel]
      rw [List.getD_eq_getElem?_getD,List.getElem?_append_right (Nat.le_refl _),Nat.sub_self]
      show 10 * (c.toNat - 48)≤90
      omega
     ·rw [List.map_append,List.length_append]; exact A'
    ·refine aN (by simp; omega) (A.arr.rd.len ?_)
     have hne:=hfne (by omega) (by omega)
     have hfp:=List.length_pos_iff.2 hne
     refine aI (n:=((f.length - 1:Nat):Int)) (by rw [aJ (by omega) (by omega)]; omega) ?_
     obtain ⟨z,hz⟩:∃ z,f[f.length - 1]? = some z:=⟨_,List.getElem?_eq_getElem (by omega)⟩
     have hzb:=hfb z (List.mem_of_getElem? hz)
     have hzg:f.getD (f.length - 1) 0=z:=getD_some hz
     refine A.arr.rd.nat (by omega) hz ?_
     refine aI (n:=((z+(c.toNat - 48):Nat):Int)) (by rw [aJ (by omega) (by omega)]; omega) ?_
     have hzo:=hfo (by omega) (by omega)
     rw [hzg] at hzo
     refine eX.store A (i:=f.length - 1) (x:=num (z+(c.toNat - 48))) (by omega) rfl rfl rfl fun h' A'=>?_
     refine p5 y (f.set (f.length - 1) (z+(c.toNat - 48))) v h' (by rw [tO,if_neg h4,if_neg h2,hzg]) (fun h=>by omega) (fun _=>hy2 (by omega)) (fun h=>by omega) (by simp; omega) (fun _ h=>by omega) ?_ (fun h=>by omega) ?_
     ·intro n hn
      rcases List.mem_or_eq_of_mem_set hn with h | h
      ·exact hfb n h
      ·omega
     ·rw [List.map_set,List.length_set]; exact A'
  have p4:∀ b,b = !digB c→Y4.p4 (aL h Q) s v y i b hx:=by
   intro b hb
   cases hd:digB c with
   | false=>rw [hd] at hb; rw [hb]; exact p4bad hd
   | true=>rw [hd] at hb; rw [hb]; exact p4ok hd
  unfold digB at p4
  refine aG (fun e=>p4 _ ?_) fun e=>cS hdr (p4 _ ?_)
  ·simp only [decide_eq_true_eq] at e
   rw [decide_eq_false (by omega:¬ 48≤c.toNat)] <;> rfl
  ·simp only [decide_eq_false_iff_not] at e
   rw [decide_eq_true (by omega:48≤c.toNat),Bool.true_and, ← decide_not,decide_eq_decide]; omega
theorem aOE {α:Type} {l:List α} (h:l.length=14):∃ c0 c1 c2 c3 c4 c5 c6 c7 c8 c9 c10 c11 c12 c13,l=[c0,c1,c2,c3,c4,c5,c6,c7,c8,c9,c10,c11,c12,c13]:=by
 match l,h with
 | [c0,c1,c2,c3,c4,c5,c6,c7,c8,c9,c10,c11,c12,c13],_=>exact ⟨c0,c1,c2,c3,c4,c5,c6,c7,c8,c9,c10,c11,c12,c13,rfl⟩
theorem wQ {h hx : aA} {s : List UInt8} (E : Upd (fun _ => False) h hx) (hl : s.length = 15) (hq : Q (sU (if s.getD 14 0 = 90 ∧ (s.take 14).all digB = true then uX (cU (s.take 14)) else (0, false))) h) : Y4.p2 (aL h Q) s hx := by
 refine Y4.i2 ?_
 simp only [Y4.t2, ← Y4.p3.eq_1]
 obtain ⟨c,hc1,hc2⟩:=yU hl
 rw [hc2] at hq
 refine kM hc1 ?_
 rw [show (90:Int)=(((90:UInt8).toNat:Nat):Int) from rfl,iZ]
 by_cases h90:c=90
 ·rw [decide_eq_true h90]
  refine aN rfl ?_
  refine aKE E (fun hb=>?_) hl (s.take 14) 0 0 [] _ hx rfl (by omega) (by simp) (by omega) (fun _=>rfl) (by simp) (fun h=>by omega) (by simp) (fun _ h=>by omega) (eX.start 1 hx) rfl fun ha v h2 A=>?_
  ·rw [if_neg (fun hh => by rw [hb] at hh; cases hh.2)] at hq
   exact hq
  ·rw [if_pos ⟨h90, ha⟩] at hq
   obtain ⟨c0,c1,c2,c3,c4,c5,c6,c7,c8,c9,c10,c11,c12,c13,hs⟩:=aOE (l:=s.take 14) (by rw [List.length_take]; omega)
   rw [hs] at hq A ⊢
   rw [hs] at ha
   simp only [List.all_cons,Bool.and_eq_true] at ha
   obtain ⟨d0,d1,d2,d3,d4,d5,d6,d7,d8,d9,d10,d11,d12,d13,_⟩:=ha
   have d0:=dF d0
   have d1:=dF d1
   have d2:=dF d2
   have d3:=dF d3
   have d4:=dF d4
   have d5:=dF d5
   have d6:=dF d6
   have d7:=dF d7
   have d8:=dF d8
   have d9:=dF d9
   have d10:=dF d10
   have d11:=dF d11
   have d12:=dF d12
   have d13:=dF d13
   have hT:tO 0 0 [] [c0,c1,c2,c3,c4,c5,c6,c7,c8,c9,c10,c11,c12,c13]=(10 * (10 * (10 * (10 * 0+(c0.toNat - 48))+(c1.toNat - 48))+(c2.toNat - 48))+(c3.toNat - 48),[10 * (c4.toNat - 48)+(c5.toNat - 48),10 * (c6.toNat - 48)+(c7.toNat - 48),10 * (c8.toNat - 48)+(c9.toNat - 48),10 * (c10.toNat - 48)+(c11.toNat - 48),10 * (c12.toNat - 48)+(c13.toNat - 48)]):=rfl
   rw [hT] at A ⊢
   refine aCA ((E.trans A.upd fun _ _ h=>h).ext) A.arr.rd (by omega) (by omega) (by omega) (by omega) (by omega) (by omega) ?_
   have e:uX (cU [c0,c1,c2,c3,c4,c5,c6,c7,c8,c9,c10,c11,c12,c13])=tJ (10 * (10 * (10 * (10 * 0+(c0.toNat - 48))+(c1.toNat - 48))+(c2.toNat - 48))+(c3.toNat - 48)) (10 * (c4.toNat - 48)+(c5.toNat - 48)) (10 * (c6.toNat - 48)+(c7.toNat - 48)) (10 * (c8.toNat - 48)+(c9.toNat - 48)) (10 * (c10.toNat - 48)+(c11.toNat - 48)) (10 * (c12.toNat - 48)+(c13.toNat - 48)):=by
    show tJ _ _ _ _ _ _=_
    congr 1 <;> omega
   rw [← e]; exact hq
 ·rw [decide_eq_false h90]
  rw [if_neg (fun hh=>h90 hh.1)] at hq
  exact aO rfl (aU rfl E.ext hq)
theorem aF9 {d : Der} {cs : List AV} {F : Nat → Prop} {h : aA} (D : DV h F d cs) (hs : d.data.length ≤ 100000) (hq : Q (sU (cT d)) h) : C Y4.id [.ag cs] h Q := by
 refine Y4.call ?_
 simp only [Y4.t, ← Y4.p0.eq_1]
 refine D.box fun h1 hl1 U1 B D1=>aK (aM B D.len.symm D.dat (bA (aT B D.len.symm (kY D1 (aS ?_)))))
 have no2:bZ 23 d=true→bZ 24 d=false:=by
  obtain ⟨c,t,m,s,ks⟩:=d
  intro h
  have h:(decide (c=0)&&(decide (t=23)&&(!m&&decide (ks.length=0))))=true:=h
  show (decide (c=0)&&(decide (t=24)&&(!m&&decide (ks.length=0))))=false
  simp only [Bool.and_eq_true,decide_eq_true_eq] at h
  rw [decide_eq_true h.1,decide_eq_false (show ¬ t=24 by omega)] <;> rfl
 unfold cT pR at hq
 have p0 : ∀ b, b = (bZ 23 d && decide (d.data.length = 13)) → Y4.p0 (aL h Q) (.p (some ⟨h.length, 5, 0⟩)) d.data b h1 := by
  intro b hb
  refine Y4.i0 ?_
  simp only [Y4.t0, ← Y4.p1.eq_1, ← Y4.p2.eq_1]
  refine aG (fun e=>?_) fun e=>aT B D.len.symm (kY D1 (aS ?_))
  ·subst e
   have hb:=hb.symm
   rw [Bool.and_eq_true,decide_eq_true_eq] at hb
   rw [if_neg (by rw [no2 hb.1]; simp),if_pos hb.1,if_pos hb.2] at hq
   simp only at hq
   obtain ⟨c0,hc0⟩:∃ c,d.data[0]? = some c:=⟨_,List.getElem?_eq_getElem (by omega)⟩
   rw [getD_some hc0] at hq
   refine kM (i:=0) hc0 ?_
   refine aG (fun e=>⟨by simp; omega,wQ U1 (by simp; omega) ?_⟩) fun e=>⟨by simp; omega,wQ U1 (by simp; omega) ?_⟩
   ·have h53 : 53 ≤ c0.toNat := by simp only [decide_eq_true_eq] at e; omega
    simp only [if_pos h53] at hq
    exact hq
   ·have h53 : ¬ 53 ≤ c0.toNat := by simp only [decide_eq_false_iff_not] at e; omega
    simp only [if_neg h53] at hq
    exact hq
  ·subst e
   have p1 : ∀ b, b = (bZ 24 d && decide (d.data.length = 15)) → Y4.p1 (aL h Q) d.data b h1 := by
    intro b hb2
    refine Y4.i1 ?_
    simp only [Y4.t1, ← Y4.p2.eq_1]
    refine aG (fun e=>?_) fun e=>?_
    ·subst e
     have hb2:=hb2.symm
     rw [Bool.and_eq_true,decide_eq_true_eq] at hb2
     rw [if_pos hb2.1,if_pos hb2.2] at hq
     exact wQ U1 hb2.2 hq
    ·subst e
     have hn:(if bZ 24 d=true then (if d.data.length=15 then some d.data else none) else if bZ 23 d=true then (if d.data.length=13 then some ((if 53≤(d.data.getD 0 0).toNat then [49,57] else [50,48])++d.data) else none) else none)=none:=by
      by_cases h24:bZ 24 d=true
      ·rw [if_pos h24,if_neg (fun hh=>by rw [h24,hh] at hb2; cases hb2)]
      ·rw [if_neg h24]
       by_cases h23:bZ 23 d=true
       ·rw [if_pos h23,if_neg (fun hh=>by rw [h23,hh] at hb; cases hb)]
       ·rw [if_neg h23]
     rw [hn] at hq
     exact aU rfl U1.ext hq
   refine aG (fun e=>p1 _ ?_) fun e=>p1 _ ?_
   ·rw [e,Bool.true_and,decide_eq_decide]; omega
   ·rw [e] <;> rfl
 refine aG (fun e=>p0 _ ?_) fun e=>p0 _ ?_
 ·rw [e,Bool.true_and,decide_eq_decide]; omega
 ·rw [e] <;> rfl
end
end Go.Proofs.YtcdkpkkdolmfdaaGreatDoor
namespace Go.GAM
end Go.GAM
namespace Go.Proofs.YtcdkpkkdolmfdaaGreatDoor
open Go.GAM Go.RowKit
instance (s:List UInt8):Decidable (yH s):=by unfold yH; infer_instance
section
variable {h0:aA} {Q:AV→aA→Prop}
end
end Go.Proofs.YtcdkpkkdolmfdaaGreatDoor
namespace Go.Proofs.YtcdkpkkdolmfdaaGreatDoor
open Go.GAM Go.RowKit
section
variable {h0:aA} {Q:AV→aA→Prop}
theorem sB {n : Nat} {h : aA} (hn : n < 1000000000) (hq : Q (.s (Lib.decDigits n)) h) : C Y45.id [.i .i64 (n : Int)] h Q := by
 refine Y45.call ?_
 simp only [Y45.t, ← Y45.p0.eq_1]
 have go:∀ m n acc hx,n≤m→n<1000000000→acc.length+(Lib.decDigits n).length≤1000→Upd (fun _=>False) h hx→Q (.s (Lib.decDigits n++acc)) h→Y45.p0 (aL h Q) n acc hx:=by
  intro m
  induction m with
  | zero =>
   intro n acc hx hm hn hl U hq
   have:n=0:=by omega
   subst this
   refine Y45.i0 ?_
   simp only [Y45.t0]
   refine aN rfl (aI (n:=((48:Nat):Int)) (by rw [aJ (by omega) (by omega)] <;> rfl) ?_)
   rw [cJ,eT]
   rw [Lib.decDigits_one (by omega)] at hq
   exact Tx.one U fun v h1 T _=>T.str ⟨by simp; omega,aU rfl T.upd.ext hq⟩
  | succ m ih =>
   intro n acc hx hm hn hl U hq
   refine Y45.i0 ?_
   simp only [Y45.t0, ← Y45.p0.eq_1]
   by_cases h9:9<n
   ·rw [Lib.decDigits, dif_neg (by omega)] at hq hl
    rw [List.length_append,List.length_singleton] at hl
    refine aO (by simp; omega) (iW (b:=10) (by omega) ?_)
    refine aI (n:=((48+n % 10:Nat):Int)) (by rw [aJ (by omega) (by omega)]; omega) ?_
    rw [cJ,eT]
    refine Tx.one U fun v h1 T _=>T.str ⟨by simp; omega,j3 (b:=10) (by omega) (by omega) ?_⟩
    exact ih (n / 10) _ h1 (by omega) (by omega) (by simp; omega) T.upd (by simpa using hq)
   ·rw [Lib.decDigits_one (by omega)] at hq
    refine aN (by simp; omega) (aI (n:=((48+n:Nat):Int)) (by rw [aJ (by omega) (by omega)]; omega) ?_)
    rw [cJ,eT]
    exact Tx.one U fun v h1 T _=>T.str ⟨by simp; omega,aU rfl T.upd.ext hq⟩
 have hl:=dA hn
 exact go n n [] h (Nat.le_refl _) hn (by simp; omega) (Upd.refl _ _) (by simpa using hq)
theorem aGQ {s : List UInt8} {h hx : aA} (E : Ext h hx) (hs : s.length ≤ 100000) (hlast : ∀ c, s[s.length - 1]? = some c → c.toNat < 128) : ∀ (r : List UInt8) (i n : Nat) (begun : Bool) (done : List Nat), s.drop i = r → i ≤ s.length → n < 268435456 → (begun = true → 0 < i ∧ ∃ c, s[i - 1]? = some c ∧ 128 ≤ c.toNat) → done.length ≤ i → (∀ m ∈ done, m < 268435456) →
  Q (zE (nK (gI r n begun) done)) h→Y10.p1 (aL h Q) s (eL done) n begun i hx:=by
 intro r
 induction r with
 | nil =>
  intro i n begun done hr hi hn hb hd hbd hq
  have hle:=cA hr
  have hbf:begun=false:=by
   cases hbg:begun with
   | false=>rfl
   | true =>
    obtain ⟨h1,c,h2,h3⟩:=hb hbg
    have:i=s.length:=by omega
    rw [this] at h2
    have:=hlast c h2
    omega
  subst hbf
  refine Y10.i1 ?_
  simp only [Y10.t1]
  have:nK (gI [] n false) done=(eL done,true):=by simp [gI,nK]
  rw [this] at hq
  exact aN (by simp; omega) (aU rfl E hq)
 | cons c r ih =>
  intro i n begun done hr hi hn hb hd hbd hq
  have hlt:=cG hr
  have hnx:=b3 hr
  have hci:=b4 hr
  have hc:=c.toNat_lt
  have htb:=aHH hbd
  have hm:=Nat.mod_lt c.toNat (show 0<128 by omega)
  have p4:∀ (o:List Nat) (n':Nat) (b':Bool),n'<268435456→(b'=true→128≤c.toNat)→o.length≤i+1→(∀ m∈o,m<268435456)→Q (zE (nK (gI r n' b') o)) h→Y10.p4 (aL h Q) s (eL o) n' b' i hx:=by
   intro o n' b' hn' hb' ho hob hq
   refine Y10.i4 ?_
   simp only [Y10.t4, ← Y10.p1.eq_1]
   exact inc (by omega) (ih (i+1) n' b' o hnx (by omega) hn' (fun hh=>⟨by omega,c,by rw [Nat.add_sub_cancel]; exact hci,hb' hh⟩) ho hob hq)
  have p2 : ∀ b, b = decide (begun = false ∧ c.toNat = 128) → Y10.p2 (aL h Q) s (eL done) n i b hx := by
   intro b hbb
   unfold gI at hq
   refine Y10.i2 ?_
   simp only [Y10.t2, ← Y10.p3.eq_1, ← Y10.p4.eq_1]
   refine aG (fun e=>?_) fun e=>?_
   ·subst e
    rw [if_pos (of_decide_eq_true hbb.symm)] at hq
    exact aU rfl E hq
   ·subst e
    rw [if_neg (of_decide_eq_false hbb.symm)] at hq
    refine aI (n:=((n * 128:Nat):Int)) (by rw [aJ (by omega) (by omega)]; omega) (cS hr ?_)
    rw [aJ (by omega) (by omega)]
    refine iW (b:=128) (by omega) (aI (n:=((n * 128+c.toNat % 128:Nat):Int)) (by rw [aJ (by omega) (by omega)]; omega) ?_)
    by_cases h28:268435456≤n * 128+c.toNat % 128
    ·rw [if_pos h28] at hq
     exact aO (by simp; omega) (aU rfl E hq)
    rw [if_neg h28] at hq
    refine aN (by simp; omega) (cS hr ?_)
    by_cases h128:128≤c.toNat
    ·rw [if_pos h128] at hq
     exact aO (by simp; omega) (p4 done _ true (by omega) (fun _=>h128) (by omega) hbd hq)
    rw [if_neg h128] at hq
    have p3:Q (zE (nK (gI r 0 false) (done++[n * 128+c.toNat % 128]))) h→Y10.p3 (aL h Q) s (eL (done++[n * 128+c.toNat % 128])) i hx:=by
     intro hq
     refine Y10.i3 ?_
     simp only [Y10.t3, ← Y10.p4.eq_1]
     refine p4 _ 0 false (by omega) (fun hh=>by cases hh) (by simp; omega) ?_ hq
     intro m hm
     rcases List.mem_append.1 hm with h | h
     ·exact hbd m h
     ·simp at h; omega
    generalize n * 128+c.toNat % 128=z at *
    have hq:Q (zE (nK (gI r 0 false) (done++[z]))) h:=by
     have:nK (match gI r 0 false with | none=>none | some l=>some (z :: l)) done=nK (gI r 0 false) (done++[z]):=by
      cases gI r 0 false <;> simp [nK]
     rw [← this]; exact hq
    refine aN (by simp; omega) ?_
    cases hdn:done with
    | nil =>
     rw [hdn] at p3 hq
     have d1:=dA (n:=min (z / 40) 2) (by omega)
     have d2:=dA (n:=z - 40 * min (z / 40) 2) (by omega)
     refine aO rfl (j3 (b:=40) (by omega) (by omega) ?_)
     rw [show mmI false ((z / 40:Nat):Int) 2=((min (z / 40) 2:Nat):Int) from aE5 _ 2]
     refine sB (by omega) (bA ⟨by simp; omega, ?_⟩)
     refine aI (n:=((40 * min (z / 40) 2:Nat):Int)) (by rw [aJ (by omega) (by omega)]; omega) ?_
     refine aI (n:=((z - 40 * min (z / 40) 2:Nat):Int)) (by rw [aJ (by omega) (by omega)]; omega) ?_
     refine sB (by omega) (bA ⟨by simp; omega, ?_⟩)
     have:=p3 hq
     rw [List.nil_append] at this
     simpa [eL] using this
    | cons a dn =>
     rw [← hdn]
     have hne:done≠[]:=by rw [hdn]; simp
     have d1:=dA (n:=z) (by omega)
     refine aN (by simp [aHK hne]) (sB (by omega) (bA ⟨by simp; omega,⟨by simp; omega, ?_⟩⟩))
     have:=p3 hq
     rw [aEW hne] at this
     exact this
  refine Y10.i1 ?_
  simp only [Y10.t1, ← Y10.p2.eq_1]
  refine aO (by simp; omega) ?_
  cases begun with
  | false =>
   refine aO rfl (cS hr (p2 _ ?_))
   rw [decide_eq_decide]; simp; omega
  | true=>exact aN rfl (p2 _ (by simp))
theorem rZ:∀ (s:List UInt8) (n:Nat) (b:Bool) (c:UInt8),s[s.length - 1]? = some c→s≠[]→128≤c.toNat→gI s n b=none
 | [],n,b,c,h,hne,_=>absurd rfl hne
 | [a], n, b, c, h, hne, hc => by
  simp at h; subst h
  unfold gI
  split
  ·rfl
  split
  ·rfl
  simp [gI]
 | a :: a2 :: r, n, b, c, h, hne, hc => by
  have hr:(a2 :: r)[(a2 :: r).length - 1]? = some c:=by
   simpa using h
  unfold gI
  split
  ·rfl
  split
  ·rfl
  split
  ·exact rZ (a2 :: r) _ _ c hr (by simp) hc
  ·rw [rZ (a2 :: r) _ _ c hr (by simp) hc]
theorem aKA {d:Der} {cs:List AV} {F:Nat→Prop} {h:aA} (D:DV h F d cs) (hs:d.data.length≤100000) (hq:Q (zE (eB d)) h):C Y10.id [.ag cs] h Q:=by
 refine Y10.call ?_
 simp only [Y10.t, ← Y10.p0.eq_1]
 refine D.box fun h1 hl1 U1 B D1=>aK (aM B D.len.symm D.dat (bA (aT B D.len.symm (kY D1 (aS ?_)))))
 unfold eB at hq
 generalize d.data=s at *
 have bad:eB d=eB d→(¬ (bZ 6 d=true∧s≠[])∨gI s 0 false=none)→Y10.p0 (aL h Q) s true h1:=by
  intro _ hb
  refine Y10.i0 ?_
  simp only [Y10.t0]
  refine aO rfl (aU rfl U1.ext ?_)
  rcases hb with hb | hb
  ·rw [if_neg hb] at hq; exact hq
  ·rw [hb] at hq
   simp only at hq
   have:(if bZ 6 d=true∧s≠[] then (([]:List UInt8),false) else ([],false))=([],false):=by split <;> rfl
   rw [this] at hq; exact hq
 refine aG (fun e=>bad rfl (.inl fun hh=>by rw [hh.1] at e; cases e)) fun e=>?_
 have hp:bZ 6 d=true:=by simpa using e
 by_cases hne:s=[]
 ·exact aO (by simp [hne]) (bad rfl (.inl fun hh=>hh.2 hne))
 have hlp:=List.length_pos_iff.2 hne
 obtain ⟨c,hc⟩:∃ c,s[s.length - 1]? = some c:=⟨_,List.getElem?_eq_getElem (by omega)⟩
 refine aN (by simp [hne]) (aI (n:=((s.length - 1:Nat):Int)) (by rw [aJ (by omega) (by omega)]; omega) (kM hc ?_))
 by_cases h128:128≤c.toNat
 ·rw [decide_eq_true (by omega)]
  exact bad rfl (.inr (rZ s 0 false c hc hne h128))
 ·rw [decide_eq_false (by omega)]
  rw [if_pos ⟨hp,hne⟩] at hq
  refine Y10.i0 ?_
  simp only [Y10.t0, ← Y10.p1.eq_1]
  refine aN rfl ?_
  refine aGQ (h:=h) U1.ext hs (fun c' hc'=>by rw [hc] at hc'; cases hc'; omega) s 0 0 false [] rfl (by omega) (by omega) (fun hh=>by cases hh) (by simp) (by simp) ?_
  have:nK (gI s 0 false) []=(match gI s 0 false with | none=>([],false) | some l=>(eL l,true)):=by
   cases gI s 0 false <;> rfl
  rw [this]; exact hq
end
end Go.Proofs.YtcdkpkkdolmfdaaGreatDoor
namespace Go.Proofs.YtcdkpkkdolmfdaaGreatDoor
open Go.GAM Go.RowKit
section
variable {h0:aA} {Q:AV→aA→Prop}
end
end Go.Proofs.YtcdkpkkdolmfdaaGreatDoor
namespace Go.Proofs.YtcdkpkkdolmfdaaGreatDoor
open Go.GAM Go.RowKit
end Go.Proofs.YtcdkpkkdolmfdaaGreatDoor
namespace Go.Proofs.YtcdkpkkdolmfdaaGreatDoor
open Go.GAM Go.RowKit
theorem aI8 (a:UInt8):eW [a]=a.toNat:=by simp [eW]
theorem aK5 (a b:UInt8):eW [a,b]=a.toNat * 256+b.toNat:=by simp [eW]
theorem nC {n:Nat} (h:n<256):(UInt8.ofNat n).toNat=n:=by rw [UInt8.toNat_ofNat']; omega
theorem aHC {n : Nat} (h : n < 65536) (r : List UInt8) : kQ (oN n ++ r) = .ok (n, r) := by
 unfold oN
 split
 ·rename_i h1
  rw [List.singleton_append,kQ,nC (by omega),if_pos h1]
 ·split
  ·rename_i h1 h2
   show kQ (129 :: UInt8.ofNat n :: r)=_
   rw [kQ,if_neg (by decide),if_neg (by decide),if_neg (by show ¬ (r.length+1)<1; omega)]
   have e:(UInt8.ofNat n :: r).take ((129:UInt8).toNat - 128)=[UInt8.ofNat n]:=rfl
   rw [e,aI8,nC (by omega),if_neg (by
    rw [show 8 * ((129:UInt8).toNat - 128 - 1)=0 from rfl,Nat.pow_zero]; omega)]
   rfl
  ·rename_i h1 h2
   show kQ (130 :: UInt8.ofNat (n / 256) :: UInt8.ofNat n :: r)=_
   rw [kQ,if_neg (by decide),if_neg (by decide),if_neg (by show ¬ (r.length+1+1)<2; omega)]
   have e:(UInt8.ofNat (n / 256) :: UInt8.ofNat n :: r).take ((130:UInt8).toNat - 128)=[UInt8.ofNat (n / 256),UInt8.ofNat n]:=rfl
   have e2:(UInt8.ofNat (n / 256)).toNat * 256+(UInt8.ofNat n).toNat=n:=by
    rw [UInt8.toNat_ofNat',UInt8.toNat_ofNat']; omega
   rw [e,aK5,e2,if_neg (by
    rw [show 8 * ((130:UInt8).toNat - 128 - 1)=8 from rfl]; omega)]
   rfl
theorem aIS {s r : List UInt8} {n : Nat} (h : kQ s = .ok (n, r)) (hn : n < 65536) : s = oN n ++ r := by
 cases s with
 | nil=>cases h
 | cons c s =>
  have hc:=c.toNat_lt
  rw [kQ] at h
  split at h
  ·rename_i h1
   cases h
   unfold oN
   rw [if_pos h1,UInt8.ofNat_toNat] <;> rfl
  ·rename_i h1
   split at h
   ·cases h
   ·rename_i h2
    split at h
    ·cases h
    ·rename_i h3
     split at h
     ·cases h
     ·rename_i h4
      cases h
      have hk:c.toNat - 128=1∨c.toNat - 128=2∨c.toNat - 128=3:=by omega
      rcases hk with hk | hk | hk
      ·rw [hk] at h3 h4 hn ⊢
       obtain ⟨a,s',rfl⟩:∃ a s',s=a :: s':=by
        cases s with
        | nil=>simp at h3
        | cons a s'=>exact ⟨a,s',rfl⟩
       have e:(a :: s').take 1=[a]:=rfl
       rw [e,aI8] at h4 hn ⊢
       have ha:=a.toNat_lt
       have hc2:c=129:=UInt8.toNat_inj.1 (by show c.toNat=129; omega)
       unfold oN
       rw [if_neg (by omega),if_pos (by omega),UInt8.ofNat_toNat,hc2] <;> rfl
      ·rw [hk] at h3 h4 hn ⊢
       obtain ⟨a,b,s',rfl⟩:∃ a b s',s=a :: b :: s':=by
        match s,h3 with
        | [],h3=>simp at h3
        | [a],h3=>simp at h3
        | a :: b :: s',_=>exact ⟨a,b,s',rfl⟩
       have e:(a :: b :: s').take 2=[a,b]:=rfl
       rw [e,aK5] at h4 hn ⊢
       have ha:=a.toNat_lt
       have hb:=b.toNat_lt
       have hc2:c=130:=UInt8.toNat_inj.1 (by show c.toNat=130; omega)
       rw [show 8 * (2 - 1)=8 from rfl] at h4
       have e1:UInt8.ofNat ((a.toNat * 256+b.toNat) / 256)=a:=by
        rw [show (a.toNat * 256+b.toNat) / 256=a.toNat by omega,UInt8.ofNat_toNat]
       have e2:UInt8.ofNat (a.toNat * 256+b.toNat)=b:=UInt8.toNat_inj.1 (by rw [UInt8.toNat_ofNat']; omega)
       unfold oN
       rw [if_neg (by omega),if_neg (by omega),e1,e2,hc2] <;> rfl
      ·exfalso
       rw [hk] at h3 h4 hn
       rw [show 8 * (3 - 1)=16 from rfl] at h4
       omega
theorem aL4 {c t:Int} {m:Bool} (hc:0≤c∧c≤3) (ht:0≤t∧t≤30):(hdB c t m).toNat=c.toNat * 64+t.toNat+if m=true then 32 else 0:=by
 unfold hdB
 rw [nC]
 split <;> omega
theorem aMT : ∀ m,
  (∀ (d:Der) (lvl n f:Nat) (rest:List UInt8),d.sz≤m→2 * (cQ d).length+1≤f→(cQ d).length≤65535→(eG lvl n d).1=0→iH f lvl n (cQ d++rest) = .ok (d,rest,(eG lvl n d).2)) ∧
  (∀ (ks:List Der) (lvl n f:Nat),szs ks≤m→2 * (b8 ks).length+2≤f→(b8 ks).length≤65535→(g8 (lvl+1) n ks).1=0→iS f lvl n (b8 ks) = .ok (ks,(g8 (lvl+1) n ks).2)):=by
 intro m
 induction m with
 | zero =>
  refine ⟨fun d lvl n f rest hd=>absurd hd (by have:=dU d; omega),fun ks lvl n f hk hf _ _=>?_⟩
  cases ks with
  | nil =>
   obtain ⟨f,rfl⟩:∃ g,f=g+1:=⟨f - 1,by omega⟩
   unfold iS g8 b8; rfl
  | cons k r=>have:=dU k; unfold szs at hk; omega
 | succ m ih =>
  have hV:∀ (d:Der) (lvl n f:Nat) (rest:List UInt8),d.sz≤m+1→2 * (cQ d).length+1≤f→(cQ d).length≤65535→(eG lvl n d).1=0→iH f lvl n (cQ d++rest) = .ok (d,rest,(eG lvl n d).2):=by
   intro d lvl n f rest hd hf hl hc
   obtain ⟨c,t,mm,s,ks⟩:=d
   obtain ⟨f,rfl⟩:∃ g,f=g+1:=⟨f - 1,by omega⟩
   unfold Der.sz at hd
   unfold eG at hc ⊢
   split at hc
   ·cases hc
   rename_i c1
   split at hc
   ·cases hc
   rename_i c2
   split at hc
   ·cases hc
   rename_i c3
   split at hc
   ·cases hc
   rename_i c4
   rw [if_neg c1,if_neg c2,if_neg c3,if_neg c4]
   have hh:=aL4 (c:=c) (t:=t) (m:=mm) (by omega) (by omega)
   unfold cQ at hf hl ⊢
   generalize hct:s++b8 ks=content at *
   simp only [List.cons_append,List.length_cons,List.length_append] at hf hl
   have hcl:content.length<65536:=by omega
   rw [List.cons_append,List.cons_append,List.append_assoc]
   unfold iH
   simp only
   have e32:(hdB c t mm).toNat % 32=t.toNat:=by rw [hh]; split <;> omega
   have e64:(hdB c t mm).toNat / 64=c.toNat:=by rw [hh]; split <;> omega
   rw [if_neg (by rw [e32]; omega),if_neg c3,if_neg c4,aHC hcl]
   simp only
   rw [if_neg (by rw [List.length_append]; omega),List.take_left' rfl,List.drop_left' rfl,e32,e64,Int.toNat_of_nonneg (by omega),Int.toNat_of_nonneg (by omega)]
   cases mm with
   | false =>
    have hks:ks=[]:=Classical.byContradiction fun h=>c2 (.inr ⟨rfl,h⟩)
    subst hks
    rw [if_pos (by rw [hh]; simp; omega)]
    have:content=s:=by rw [← hct]; simp [b8]
    rw [this]
    unfold g8; rfl
   | true =>
    have hs:s=[]:=Classical.byContradiction fun h=>c2 (.inl ⟨rfl,h⟩)
    subst hs
    rw [if_neg (by rw [hh]; simp; omega)]
    have:content=b8 ks:=by rw [← hct] <;> rfl
    rw [this] at hf hcl ⊢
    rw [ih.2 ks lvl (n+1) f (by omega) (by omega) (by omega) hc]
  refine ⟨hV,fun ks=>?_⟩
  induction ks with
  | nil =>
   intro lvl n f _ hf _ _
   obtain ⟨f,rfl⟩:∃ g,f=g+1:=⟨f - 1,by omega⟩
   unfold iS g8 b8; rfl
  | cons k r ihr =>
   intro lvl n f hk hf hl hc
   obtain ⟨f,rfl⟩:∃ g,f=g+1:=⟨f - 1,by omega⟩
   unfold szs at hk
   have hbk:b8 (k :: r)=cQ k++b8 r:=by rw [b8]
   rw [hbk,List.length_append] at hf hl
   rw [hbk]
   rw [rI] at hc ⊢
   split at hc
   ·rename_i h1; exact absurd hc h1
   rename_i h1
   rw [if_neg h1]
   have h1:(eG (lvl+1) n k).1=0:=by simpa using h1
   have hv:=hV k (lvl+1) n f (b8 r) (by omega) (by omega) (by omega) h1
   obtain ⟨x,b,hb⟩:∃ x b,cQ k=x :: b:=by
    obtain ⟨c,t,mm,s,ks⟩:=k
    unfold cQ
    exact ⟨_,_,rfl⟩
   have hlen:0<(cQ k).length:=by rw [hb]; simp
   rw [hb] at hv ⊢
   unfold iS
   simp only [List.cons_append] at hv ⊢
   rw [hv]
   simp only
   rw [ihr lvl _ f (by omega) (by omega) (by omega) hc]
theorem aLF : ∀ f,
  (∀ (lvl n:Nat) (s:List UInt8) (d:Der) (r:List UInt8) (n':Nat),s.length≤65535→iH f lvl n s = .ok (d,r,n')→s=cQ d++r∧eG lvl n d=(0,n')) ∧
  (∀ (lvl n:Nat) (s:List UInt8) (ks:List Der) (n':Nat),s.length≤65535→iS f lvl n s = .ok (ks,n')→s=b8 ks∧g8 (lvl+1) n ks=(0,n')):=by
 intro f
 induction f with
 | zero =>
  refine ⟨fun lvl n s d r n' _ h=>?_,fun lvl n s ks n' _ h=>?_⟩
  ·unfold iH at h; cases h
  ·unfold iS at h; cases h
 | succ f ih =>
  refine ⟨fun lvl n s d r n' hs h=>?_,fun lvl n s ks n' hs h=>?_⟩
  ·unfold iH at h
   cases s with
   | nil=>cases h
   | cons c s =>
    have hc:=c.toNat_lt
    simp only [List.length_cons] at hs
    simp only at h
    split at h
    ·cases h
    rename_i e31
    split at h
    ·cases h
    rename_i e24
    split at h
    ·cases h
    rename_i e256
    split at h
    ·cases h
    ·rename_i k t hl
     have hsh:=iF hl
     split at h
     ·cases h
     ·rename_i hk
      have hinv:=aIS hl (by omega)
      have htk:(t.take k).length=k:=by rw [List.length_take]; omega
      have hhd:∀ mm:Bool,(mm=true↔c.toNat / 32 % 2≠0)→hdB (c.toNat / 64:Nat) (c.toNat % 32:Nat) mm=c:=by
       intro mm hm
       unfold hdB
       rw [Int.toNat_natCast,Int.toNat_natCast]
       apply UInt8.toNat_inj.1
       rw [UInt8.toNat_ofNat']
       cases mm with
       | true=>have:=hm.1 rfl; simp; omega
       | false =>
        have:¬ c.toNat / 32 % 2≠0:=fun hh=>by have:=hm.2 hh; cases this
        simp; omega
      split at h
      ·rename_i hm
       cases h
       refine ⟨?_, ?_⟩
       ·unfold cQ
        rw [hhd false (by simp [hm]),b8,List.append_nil,htk,List.cons_append,List.cons_append,List.append_assoc,List.take_append_drop, ← hinv]
       ·unfold eG
        rw [if_neg (by omega),if_neg (by simp),if_neg e24,if_neg e256]
        unfold g8; rfl
      ·rename_i hm
       split at h
       ·cases h
       ·rename_i ks n2 hd
        cases h
        obtain ⟨g1,g2⟩:=ih.2 lvl (n+1) (t.take k) ks n' (by omega) hd
        refine ⟨?_, ?_⟩
        ·unfold cQ
         rw [hhd true (by simp [hm]),List.nil_append, ← g1,htk,List.cons_append,List.cons_append,List.append_assoc,List.take_append_drop, ← hinv]
        ·unfold eG
         rw [if_neg (by omega),if_neg (by simp),if_neg e24,if_neg e256,g2]
  ·unfold iS at h
   cases s with
   | nil=>cases h; unfold b8 g8; exact ⟨rfl,rfl⟩
   | cons c s =>
    simp only at h
    split at h
    ·cases h
    ·rename_i d t n2 hv
     have hsh:=(jE f).1 _ _ _ _ _ _ hv
     obtain ⟨g1,g2⟩:=ih.1 (lvl+1) n (c :: s) d t n2 hs hv
     split at h
     ·cases h
     ·rename_i ks2 n3 hk
      cases h
      obtain ⟨g3,g4⟩:=ih.2 lvl n2 t ks2 n' (by omega) hk
      refine ⟨?_, ?_⟩
      ·rw [g1,g3,b8]
      ·rw [rI,g2,if_neg (by simp),g4]
theorem o8 {d:Der} {t:List UInt8} (h:gE d = .ok t):t=cQ d∧t.length≤65535∧j5 t = .ok d∧2≤t.length∧(∀ x,x.length+t.length≤65535→x≠[]→j5 (t++x) = .error 2):=by
 unfold gE at h
 split at h
 ·cases h
 rename_i h1
 split at h
 ·cases h
 rename_i h2
 cases h
 have h1:(eG 1 0 d).1=0:=by simpa using h1
 have key:=fun f rest hf=>(aMT d.sz).1 d 1 0 f rest (Nat.le_refl _) hf (by omega) h1
 refine ⟨rfl,by omega, ?_, ?_, ?_⟩
 ·unfold j5
  rw [if_neg h2]
  have:=key (2 * (cQ d).length+1) [] (Nat.le_refl _)
  rw [List.append_nil] at this
  rw [this] <;> rfl
 ·obtain ⟨c, t, mm, s, ks⟩ := d
  unfold cQ
  have:1≤(oN (s++b8 ks).length).length:=by unfold oN; split <;> (try split) <;> simp
  simp only [List.length_cons,List.length_append] at *
  omega
 ·intro x hx hne
  unfold j5
  rw [if_neg (by rw [List.length_append]; omega),key _ x (by rw [List.length_append]; omega)]
  simp only
  rw [if_neg hne]
theorem aEK {s:List UInt8} {y:Der} (h:j5 s = .ok y):gE y = .ok s:=by
 unfold j5 at h
 split at h
 ·cases h
 rename_i hl
 split at h
 ·cases h
 ·rename_i d r n hv
  split at h
  ·rename_i hr
   cases h
   subst hr
   obtain ⟨g1,g2⟩:=(aLF _).1 _ _ _ _ _ _ (by omega) hv
   rw [List.append_nil] at g1
   unfold gE
   rw [g2,if_neg (by simp), ← g1,if_neg hl]
  ·cases h
theorem nS {s:List UInt8} {e:Int} (h:j5 s = .error e):e≠0:=by
 unfold j5 at h
 split at h
 ·cases h; decide
 split at h
 ·rename_i hv; cases h; exact (pS _).1 _ _ _ _ (Nat.le_refl _) hv
 ·split at h
  ·cases h
  ·cases h; decide
end Go.Proofs.YtcdkpkkdolmfdaaGreatDoor
namespace Go.Proofs.YtcdkpkkdolmfdaaGreatDoor
open Go.GAM Go.RowKit
theorem aMM (k:Nat):(iD k).all digB=true:=by
 unfold iD digB
 simp only [List.all_cons,List.all_nil,Bool.and_true,Bool.and_eq_true,decide_eq_true_eq,UInt8.toNat_ofNat']
 omega
theorem aJ2 (k:Nat) (r:List UInt8):cU (iD k++r)=(k % 100) :: cU r:=by
 show (((UInt8.ofNat (48+k / 10 % 10)).toNat - 48) * 10+((UInt8.ofNat (48+k % 10)).toNat - 48)) :: cU r=_
 rw [UInt8.toNat_ofNat',UInt8.toNat_ofNat']
 congr 1
 omega
theorem aA0 {n y m d:Nat} (hn:n≤253402300799) (D:aGR (n / 86400) y m d) :
  ∃ t:Int, ∃ s,mG y m d (n % 86400)=cR 0 t false s∧s.length≤15∧cT (.mk 0 t false s [])=((n:Int),true):=by
 have hy:=D.y4 (by omega)
 have hy0:=D.y0
 have hb:=iM y m
 have hm:=D.m1
 have hm0:=D.m0
 have hd:=D.d1
 have hd0:=D.d0
 have hr:n % 86400<86400:=Nat.mod_lt _ (by omega)
 have hfin:∀ r,r=n % 86400→tJ y m (d+1) (r / 3600) (r / 60 % 60) (r % 60)=((n:Int),true):=by
  rintro r rfl
  unfold tJ
  rw [if_neg (by unfold tL; omega)]
  unfold aGH
  congr 1
  omega
 generalize hre:n % 86400=r at *
 have hfull:∀ c:List UInt8,c=iD (y / 100)++jT y m d r→(if c.getD 14 0=90∧(c.take 14).all digB=true then uX (cU (c.take 14)) else (0,false))=((n:Int),true):=by
  rintro c rfl
  have e:(iD (y / 100)++jT y m d r).take 14=iD (y / 100)++(iD y++(iD m++(iD (d+1)++(iD (r / 3600)++(iD (r / 60 % 60)++(iD (r % 60)++[])))))):=rfl
  rw [e]
  rw [if_pos ⟨rfl,by simp only [List.all_append,aMM,List.all_nil,Bool.and_self]⟩]
  simp only [aJ2]
  rw [show cU []=[] from rfl]
  show tJ (100 * (y / 100 % 100)+y % 100) (m % 100) ((d+1) % 100) (r / 3600 % 100) (r / 60 % 60 % 100) (r % 60 % 100)=_
  rw [show 100 * (y / 100 % 100)+y % 100=y by omega,show m % 100=m by omega,show (d+1) % 100=d+1 by omega,show r / 3600 % 100=r / 3600 by omega,show r / 60 % 60 % 100=r / 60 % 60 by omega,show r % 60 % 100=r % 60 by omega]
  exact hfin r rfl
 unfold mG
 by_cases h50:y<2050
 ·rw [if_pos h50]
  refine ⟨23,_,rfl,by show 13≤15; omega, ?_⟩
  unfold cT pR
  rw [if_neg (by simp [bZ]),if_pos (by simp [bZ]),if_pos (show (Der.mk 0 23 false (jT y m d r) []).data.length=13 from rfl)]
  have e:(if 53≤((jT y m d r).getD 0 0).toNat then [49,57] else [50,48]:List UInt8)=iD (y / 100):=by
   show (if 53≤(UInt8.ofNat (48+y / 10 % 10)).toNat then [49,57] else [50,48]:List UInt8)=_
   rw [UInt8.toNat_ofNat']
   by_cases h2:y<2000
   ·rw [if_pos (by omega),show y / 100=19 by omega] <;> rfl
   ·rw [if_neg (by omega),show y / 100=20 by omega] <;> rfl
  show (match some ((if 53≤((jT y m d r).getD 0 0).toNat then [49,57] else [50,48]:List UInt8)++jT y m d r) with
   | none=>(0,false)
   | some s=>if s.getD 14 0=90∧(s.take 14).all digB=true then uX (cU (s.take 14)) else (0,false))=_
  rw [e]
  exact hfull _ rfl
 ·rw [if_neg h50]
  refine ⟨24,_,rfl,by show 15≤15; omega, ?_⟩
  unfold cT pR
  rw [if_pos (by simp [bZ]),if_pos (show (Der.mk 0 24 false (iD (y / 100)++jT y m d r) []).data.length=15 from rfl)]
  exact hfull _ rfl
end Go.Proofs.YtcdkpkkdolmfdaaGreatDoor
namespace Go.Proofs.YtcdkpkkdolmfdaaGreatDoor
open Go.GAM Go.RowKit
section
variable {h:aA} {Q:AV→aA→Prop}
abbrev Bld (h:aA) (id off:Nat) (cs:List AV) (buf:AV) (l:List UInt8):Prop:=iU prog 110 5 h id off cs buf l
theorem aNM {f:FuncId} {v:AV} (hm:(f,aC7)∈fY) (hk:Q v h):C f [v] h Q:=aKX hm hk
theorem aKH {α:Type} {l:List α} {i:Nat} {a:α} (h:l[i]? = some a):l.set i a=l:=by
 apply List.ext_getElem?
 intro j
 by_cases hj:i=j
 ·subst hj; rw [List.getElem?_set_self (bH h),h]
 ·rw [List.getElem?_set_ne hj]
theorem aAR {id off n:Nat} {cs:List AV} {buf:AV} {l:List UInt8} (B:Bld h id off cs buf l) (hn:n=cs.length)
  (hq:∀ h',h'.length=h.length→Upd (· = id) h h'→Bld h' id off (cs.set off (.p (some ⟨id,n,off⟩))) buf l→Q (.tu []) h'):C Y88.id [.p (some ⟨id,n,off⟩)] h Q:=by
 subst hn
 refine Y88.call ?_
 simp only [Y88.t]
 have hr:=B.room
 have hne:off≠off+1:=by omega
 have cell1:∀ v:AV,(cs.set off v)[off+1]? = some buf:=fun v=>by rw [List.getElem?_set_ne hne]; exact B.cell
 have cell0:∀ v:AV,(cs.set off v)[off]? = some v:=fun v=>by rw [List.getElem?_set_self (by omega)]
 rcases B.addr with h0 | h0
 ·refine bI (aK (aM B.rec' rfl h0 (aJ7 (by kernel_rfl) (aS (aO rfl ?_)))))
  refine sG B.rec' rfl (by omega) (aNM Y110.row ?_)
  refine B.fromUnsafe (bI (aK ?_))
  refine B.store (by omega) rfl rfl rfl (.inr (cell0 _)) (cell1 _) B.is B.own fun h1 hl1 U1 B1=>?_
  exact .inl (hq h1 hl1 U1 B1)
 ·refine bI (aK (aM B.rec' rfl h0 (aGK (by kernel_rfl) (aS (aN rfl ?_)))))
  refine bI (aK (aM B.rec' rfl h0 (aG0 (by kernel_rfl) (aS (aN rfl ?_)))))
  have e:cs.set off (.p (some ⟨id,cs.length,off⟩))=cs:=aKH h0
  refine .inl (hq h rfl (Upd.refl _ _) ?_)
  rw [e]; exact B
def wrB (cs:List AV) (id off:Nat) (buf:AV):List AV:=(cs.set off (.p (some ⟨id,cs.length,off⟩))).set (off+1) buf
theorem aML {cs:List AV} {id off:Nat} {buf:AV}:(wrB cs id off buf).length=cs.length:=by simp [wrB]
theorem aB1 {id off n:Nat} {cs:List AV} {buf:AV} {l:List UInt8} {c:UInt8} {k:Int} (B:Bld h id off cs buf l) (hn:n=cs.length) (hk:k=(c.toNat:Int)) (hl:l.length<100000000)
  (hq:∀ buf' h',Upd (fun i=>i=id∨bU buf i) h h'→Bld h' id off (wrB cs id off buf') buf' (l++[c])→(∀ i,bU buf' i→bU buf i∨h.length≤i)→Q .ni h'):C Y98.id [.p (some ⟨id,n,off⟩),.i .u8 k] h Q:=by
 subst hn; subst hk
 refine Y98.call ?_
 simp only [Y98.t]
 refine aAR B rfl fun h1 hl1 U1 B1=>?_
 have hr:=B.room
 have hlt:=B.lt
 have hcl:cs.length=(cs.set off (.p (some ⟨id,cs.length,off⟩))).length:=by simp
 refine bI (aK (aM B1.rec' hcl B1.cell ?_))
 refine eQ (cs:=[byteAV c]) rfl rfl fun y h2 hl2 U2 R2 F2=>?_
 have B2:=B1.upd U2 (fun h=>h) fun _ _ h=>h
 refine B2.is.append (t:=[c]) (fun K hK=>R2.news hK) (by simp; omega) fun v' h3 U3 T3 F3=>?_
 have hown:¬ bU v' id:=fun hi=>by
  rcases F3 id hi with h | h
  ·exact B.own h
  ·omega
 have hUall:Upd (fun i=>i=id∨bU buf i) h h3:=((U1.mono fun _ _ h=>Or.inl h).trans (U2.mono fun _ _ h=>h.elim) fun _ _ h=>h).trans (U3.mono fun _ _ h=>.inr h) fun _ _ h=>h
 refine bI (aK ?_)
 rw [hcl]
 refine B2.put U3 T3 hown fun h4 hl4 U4 B4=>?_
 refine .inl (hq v' h4 (hUall.trans (U4.mono fun _ _ h=>.inl h) fun _ _ h=>h) B4 fun i hi=>?_)
 rcases F3 i hi with h | h
 ·exact .inl h
 ·exact .inr (by omega)
theorem aG8 {id off n:Nat} {cs:List AV} {buf:AV} {l:List UInt8} (B:Bld h id off cs buf l) (hn:n=cs.length) (hl:l.length≤100000000) (hq:∀ h',Upd (bU buf) h h'→h'.length=h.length→Q (.s l) h'):C Y91.id [.p (some ⟨id,n,off⟩)] h Q:=by
 subst hn
 refine Y91.call ?_
 simp only [Y91.t]
 have hlen:∀ K:Int→Prop,K (l.length:Int)→bJ buf K:=fun K hk=>by
  rcases B.is with ⟨rfl,rfl⟩ | ⟨_,_,rfl,_⟩ <;> exact hk
 refine bI (aK (aM B.rec' rfl B.cell (bI (aK (aM B.rec' rfl B.cell (hlen _ ?_))))))
 refine B.is.data ?_
 refine aM B.rec' rfl B.cell ⟨rfl, ?_⟩
 refine B.is.text (by kernel_rfl) (by kernel_rfl) (by omega) fun h1 hl1 U1=>?_
 refine bA ?_
 have R1:=B.rec'.upd U1 B.own
 refine aM R1 rfl B.cell ⟨rfl,aM R1 rfl B.cell ⟨rfl,.inl (hq h1 U1 hl1)⟩⟩
def bM:List UInt8→List UInt8→List (List UInt8)
 | cur,[]=>[cur]
 | cur,[c]=>if c=44 then [cur,[]] else [cur++[c]]
 | cur,c :: d :: r=>if c=92 then bM (cur++[c,d]) r else if c=44 then cur :: bM [] (d :: r) else bM (cur++[c]) (d :: r)
theorem iB:∀ (cur s:List UInt8),(bM cur s).length≤s.length+1
 | cur,[]=>by simp [bM]
 | cur,[c]=>by unfold bM; split <;> simp
 | cur, c :: d :: r => by
  have h1:=iB (cur++[c,d]) r
  have h2:=iB [] (d :: r)
  have h3:=iB (cur++[c]) (d :: r)
  unfold bM
  simp only [List.length_cons] at *
  split
  ·omega
  ·split
   ·simp only [List.length_cons]; omega
   ·omega
def cP:List UInt8→List UInt8
 | []=>[]
 | [c]=>[c]
 | c :: d :: r=>if c=92 then d :: cP r else c :: cP (d :: r)
theorem pF:∀ s:List UInt8,(cP s).length≤s.length
 | []=>by simp [cP]
 | [c]=>by simp [cP]
 | c :: d :: r => by
  have h1:=pF r
  have h2:=pF (d :: r)
  unfold cP
  split <;> simp only [List.length_cons] at * <;> omega
theorem aJA {s : List UInt8} (hs : s.length ≤ 1000000) (hq : ∀ v h', gB h h' v ((bM [] s).map .s) → Q v h') :
  ∀ (k i:Nat) (v:AV) (frm:Nat) (done:List (List UInt8)) (hx:aA),s.length≤i+k→i≤s.length+1→frm≤i→frm≤s.length→gB h hx v (done.map .s)→done.length≤i→done++bM ((s.take i).drop frm) (s.drop i)=bM [] s →
  Y38.p0 (aL h Q) s v (frm:Int) (i:Int) hx:=by
 intro k
 induction k using Nat.strongRecOn with
 | _ k ih =>
  intro i v frm done hx hk hi hf hf2 S hd he
  refine Y38.i0 ?_
  simp only [Y38.t0, ← Y38.p1.eq_1]
  by_cases hlt:i<s.length
  ·refine aO (decide_eq_true (by omega)) ?_
   obtain ⟨c,hc⟩:∃ c,s[i]? = some c:=⟨s[i],List.getElem?_eq_getElem hlt⟩
   have hdr:=eR hc
   refine cS hdr ?_
   have p1:∀ (v:AV) (frm j:Nat) (done:List (List UInt8)) (hy:aA),i≤j→j≤s.length→frm≤j+1→frm≤s.length→gB h hy v (done.map .s)→done.length≤j+1→done++bM ((s.take (j+1)).drop frm) (s.drop (j+1))=bM [] s →
     Y38.p1 (aL h Q) s v (frm:Int) (j:Int) hy:=by
    intro v frm j done hy hij hjs hf hf2 S hd he
    refine Y38.i1 ?_
    simp only [Y38.t1, ← Y38.p0.eq_1]
    exact inc (by omega) (ih (s.length - (j+1)) (by omega) (j+1) v frm done hy (by omega) (by omega) hf hf2 S hd he)
   rw [hdr] at he
   have htk:∀ frm,frm≤i→(s.take (i+1)).drop frm=(s.take i).drop frm++[c]:=fun frm hf=>by
    rw [dH hc,List.drop_append_of_le_length (by simp; omega)]
   refine aG (fun e=>?_) fun e=>?_
   ·have e92 : c = 92 := by rw [show (92 : Int) = ((92 : UInt8).toNat : Int) by rfl, iZ] at e; exact of_decide_eq_true e
    refine aI (show IntKind.wrap .i64 ((i:Int)+1)=((i+1:Nat):Int) by rw [aJ (by omega) (by omega)]; omega) ?_
    refine p1 v frm (i+1) done hx (by omega) (by omega) (by omega) hf2 S (by omega) ?_
    rw [← he]
    cases hr:s.drop (i+1) with
    | nil =>
     have hl1:=cA hr
     have e1:s.take (i+1+1)=s.take (i+1):=by rw [List.take_of_length_le (by omega),List.take_of_length_le (by omega)]
     have e2:s.drop (i+1+1)=[]:=List.drop_eq_nil_of_le (by omega)
     rw [e1,e2,htk frm hf,e92]
     simp [bM]
    | cons d r =>
     have hd1:=b4 hr
     have e2:=b3 hr
     rw [dH hd1,List.drop_append_of_le_length (by have:=cG hr; simp; omega),htk frm hf,e2,e92]
     conv=>rhs; rw [bM,if_pos rfl]
     simp
   ·have e92 : c ≠ 92 := by rw [show (92 : Int) = ((92 : UInt8).toNat : Int) by rfl, iZ] at e; exact of_decide_eq_false e
    refine aG (fun e2=>?_) fun e2=>?_
    ·have e44 : c = 44 := by rw [show (44 : Int) = ((44 : UInt8).toNat : Int) by rfl, iZ] at e2; exact of_decide_eq_true e2
     refine wT hf (by omega) ?_
     refine gB.push S rfl rfl (by simp; omega) (by simp; omega) fun v' h' S' _ _=>?_
     refine aI (show IntKind.wrap .i64 ((i:Int)+1)=((i+1:Nat):Int) by rw [aJ (by omega) (by omega)]; omega) ?_
     refine p1 v' (i+1) i (done++[(s.take i).drop frm]) h' (Nat.le_refl _) (by omega) (Nat.le_refl _) (by omega) (by simpa using S') (by simp; omega) ?_
     rw [← he]
     have e3:(s.take (i+1)).drop (i+1)=[]:=List.drop_eq_nil_of_le (by simp; omega)
     rw [e3]
     cases hr:s.drop (i+1) with
     | nil=>simp [bM,e44]
     | cons d r=>simp [bM,e44]
    ·have e44 : c ≠ 44 := by rw [show (44 : Int) = ((44 : UInt8).toNat : Int) by rfl, iZ] at e2; exact of_decide_eq_false e2
     refine p1 v frm i done hx (Nat.le_refl _) (by omega) (by omega) hf2 S (by omega) ?_
     rw [← he,htk frm hf]
     cases hr:s.drop (i+1) with
     | nil=>simp [bM,e44]
     | cons d r=>simp [bM,e44,e92]
  ·refine aN (decide_eq_false (by omega)) ?_
   have e1:s.take i=s:=List.take_of_length_le (by omega)
   have e2:s.drop i=[]:=List.drop_eq_nil_of_le (by omega)
   rw [e1,e2] at he
   refine gY hf2 ?_
   refine gB.push S rfl rfl (by simp; omega) (by simp; omega) fun v' h' S' _ _=>?_
   refine .inl (hq v' h' ?_)
   rw [← he]
   simpa [bM] using S'
theorem aCG {s:List UInt8} (hs:s.length≤1000000) (hq:∀ v h',gB h h' v ((bM [] s).map .s)→Q v h'):C Y38.id [.s s] h Q:=by
 refine Y38.call ?_
 simp only [Y38.t, ← Y38.p0.eq_1]
 exact aJA hs hq s.length 0 _ 0 [] h (by omega) (by omega) (by omega) (by omega) (gB.start h) (by simp) (by simp)
theorem aJH {s : List UInt8} (hs : s.length ≤ 1000000) (hq : Q (.s (cP s)) h) {id : Nat} (hid : h.length ≤ id) :
  ∀ (k i:Nat) (cs:List AV) (buf:AV) (done:List UInt8) (hx:aA),s.length≤i+k→i≤s.length→cs.length=2→Upd (fun _=>False) h hx→(∀ j,bU buf j→h.length≤j)→Bld hx id 0 cs buf done→done.length≤i→done++cP (s.drop i)=cP s →
  Y24.p0 (aL h Q) s (.p (some ⟨id,2,0⟩)) (i:Int) hx:=by
 intro k
 induction k using Nat.strongRecOn with
 | _ k ih =>
  intro i cs buf done hx hk hi hcl U hb B hd he
  refine Y24.i0 ?_
  simp only [Y24.t0, ← Y24.p1.eq_1]
  by_cases hlt:i<s.length
  ·refine aO (decide_eq_true (by omega)) ?_
   obtain ⟨c,hc⟩:∃ c,s[i]? = some c:=⟨s[i],List.getElem?_eq_getElem hlt⟩
   have hdr:=eR hc
   refine cS hdr ?_
   rw [hdr] at he
   have p2:∀ (j:Nat) (d:UInt8),i≤j→s[j]? = some d→done++d :: cP (s.drop (j+1))=cP s→Y24.p2 (aL h Q) s (.p (some ⟨id,2,0⟩)) (j:Int) hx:=by
    intro j d hij hjd he
    have hjl:=bH hjd
    refine Y24.i2 ?_
    simp only [Y24.t2, ← Y24.p0.eq_1]
    refine cS (eR hjd) ?_
    refine aB1 B hcl.symm rfl (by omega) fun buf' h' U' B' F'=>?_
    refine inc (by omega) ?_
    have hlen:=U.1
    refine ih (s.length - (j+1)) (by omega) (j+1) _ buf' _ h' (by omega) (by omega) (by rw [aML,hcl]) (U.trans U' fun j hj hm=>?_) (fun j hj=>?_) B' (by simp; omega) (by simpa using he)
    ·rcases hm with rfl | hm
     ·omega
     ·have:=hb j hm; omega
    ·rcases F' j hj with h | h
     ·exact hb j h
     ·omega
   have p1t:∀ d,s[i+1]? = some d→c=92→Y24.p1 (aL h Q) s (.p (some ⟨id,2,0⟩)) (i:Int) true hx:=by
    intro d hd1 hc92
    refine Y24.i1 ?_
    simp only [Y24.t1, ← Y24.p2.eq_1]
    refine aO rfl (aI (show IntKind.wrap .i64 ((i:Int)+1)=((i+1:Nat):Int) by rw [aJ (by omega) (by omega)]; omega) ?_)
    refine p2 (i+1) d (by omega) hd1 ?_
    rw [← he,eR hd1,hc92]
    simp [cP]
   have p1f:(c≠92∨s.drop (i+1)=[])→Y24.p1 (aL h Q) s (.p (some ⟨id,2,0⟩)) (i:Int) false hx:=by
    intro hn
    refine Y24.i1 ?_
    simp only [Y24.t1, ← Y24.p2.eq_1]
    refine aN rfl (p2 i c (Nat.le_refl _) hc ?_)
    rw [← he]
    cases hr:s.drop (i+1) with
    | nil=>simp [cP]
    | cons d r =>
     rw [hr] at hn
     have hn':c≠92:=hn.resolve_right (by simp)
     simp [cP,hn']
   refine aG (fun e=>?_) fun e=>?_
   ·have e92 : c = 92 := by rw [show (92 : Int) = ((92 : UInt8).toNat : Int) by rfl, iZ] at e; exact of_decide_eq_true e
    refine aI (show IntKind.wrap .i64 ((i:Int)+1)=((i+1:Nat):Int) by rw [aJ (by omega) (by omega)]; omega) ?_
    by_cases h2:i+1<s.length
    ·rw [decide_eq_true (by omega : ((i + 1 : Nat) : Int) < (s.length : Int))]
     exact p1t s[i+1] (List.getElem?_eq_getElem h2) e92
    ·rw [decide_eq_false (by omega : ¬ ((i + 1 : Nat) : Int) < (s.length : Int))]
     exact p1f (.inr (List.drop_eq_nil_of_le (by omega)))
   ·have e92 : c ≠ 92 := by rw [show (92 : Int) = ((92 : UInt8).toNat : Int) by rfl, iZ] at e; exact of_decide_eq_false e
    exact p1f (.inl e92)
  ·refine aN (decide_eq_false (by omega)) ?_
   rw [List.drop_eq_nil_of_le (by omega)] at he
   simp only [cP,List.append_nil] at he
   subst he
   refine aG8 B hcl.symm (by omega) fun h' U' hl'=>bA ?_
   refine aU rfl (U.trans U' fun j hj hm=>?_).ext hq
   have:=hb j hm; omega
theorem aBU {s:List UInt8} (hs:s.length≤1000000) (hq:Q (.s (cP s)) h):C Y24.id [.s s] h Q:=by
 refine Y24.call ?_
 simp only [Y24.t, ← Y24.p0.eq_1]
 have U:Upd (fun _=>False) h (h++[bP [.p none,.sl none 0 none] 1 true (some 110)]):=Upd.app _ _
 refine aJH hs hq (Nat.le_refl _) s.length 0 [.p none,.sl none 0 none] _ [] _ (by omega) (by omega) rfl U (fun j hj=>(show bU (.sl none 0 none) j from hj).elim) ?_ (by simp) (by simp)
 exact ⟨⟨bP [.p none,.sl none 0 none] 1 true (some 110),110,by simp,rfl,Nat.le_refl _,rfl,rfl,by kernel_rfl⟩,by decide,.inl rfl,rfl,.inl ⟨rfl,rfl⟩,fun h=>h.elim⟩
end
end Go.Proofs.YtcdkpkkdolmfdaaGreatDoor
namespace Go.GAM
def jM (h:aA) (id:Nat) (cs:List AV):Prop:=∃ b:ABlk,h[id]? = some b∧b.cells=cs∧b.floor≤cs.length∧b.gl=true
theorem jM.upd {M:Nat→Prop} {h h':aA} {id:Nat} {cs:List AV} (G:jM h id cs) (U:Upd M h h') (hM:¬ M id):jM h' id cs:=by
 obtain ⟨b,h1,h2⟩:=G
 exact ⟨b,(U.2 id (bH h1) hM).trans h1,h2⟩
theorem jM.var {h:aA} {id:Nat} {cs:List AV} (G:jM h id cs):bE h id = .p (some ⟨id,cs.length,0⟩):=by
 obtain ⟨b,h1,rfl,h3,h4⟩:=G
 unfold bE
 rw [h1]
 simp only [h4,Bool.true_and,Nat.ble_eq_true_of_le h3,cond_true]
theorem jM.loadN {h:aA} {id n:Nat} {cs:List AV} {K:AV→Prop} (G:jM h id cs) (hn:n=cs.length) (hk:K (.ag cs)):aD n (bE h id) h K:=by
 rw [G.var]
 obtain ⟨b,h1,rfl,h3,h4⟩:=G
 subst hn
 refine ⟨b,h1,⟨h3,Nat.le_refl _,by simp⟩, ?_⟩
 simpa using hk
theorem jM.load1 {h:aA} {id:Nat} {v:AV} {K:AV→Prop} (G:jM h id [v]) (hk:K v):aE (bE h id) h K:=by
 rw [G.var]
 obtain ⟨b,h1,h2,h3,h4⟩:=G
 refine ⟨b,h1,⟨h3,by rw [h2]; exact Nat.le_refl _,by simp⟩, ?_⟩
 rw [h2]; exact hk
end Go.GAM
namespace Go.Proofs.YtcdkpkkdolmfdaaGreatDoor
open Go.GAM Go.RowKit
section
variable {h:aA} {Q:AV→aA→Prop}
theorem RdI.elem {sz:Nat} {h:aA} {v:AV} {cs:List AV} {len:Nat} (R:RdI sz h v cs len) {k:IntKind} {i:Int} (h0:0≤i) (h1:i<len) {K:AV→Prop} (hk:K (.ag ((cs.drop (i.toNat * sz)).take sz))) :
  aB sz v (.i k i) h fun a=>aD sz a h K:=by
 obtain ⟨j,rfl⟩:∃ j:Nat,i=j:=⟨i.toNat,by omega⟩
 obtain ⟨p,A,hp⟩:=R.at (i:=j) (by omega)
 exact hp k h _ (Upd.refl _ _) (A.loadN (by simpa using hk))
def cK:List (List UInt8 × List UInt8):=[([67,78],[50,46,53,46,52,46,51]),([79],[50,46,53,46,52,46,49,48]),([79,85],[50,46,53,46,52,46,49,49]),([67],[50,46,53,46,52,46,54])]
structure CG (h:aA):Prop where
 seq:jM h 0 [.i .i64 0,.i .i64 16,.b true]
 set:jM h 8 [.i .i64 0,.i .i64 17,.b true]
 att:∃ v,jM h 7 [v]∧RdI 2 h v (cK.flatMap fun x=>[.s x.1,.s x.2]) 4
theorem CG.ext {h':aA} (G:CG h) (U:Upd (fun _=>False) h h'):CG h':=by
 obtain ⟨v,g1,g2⟩:=G.att
 exact ⟨G.seq.upd U fun h=>h,G.set.upd U fun h=>h,v,g1.upd U fun h=>h,g2.ext U⟩
def shp (c t:Int) (m:Bool):AV:=.ag [.i .i64 c,.i .i64 t,.b m]
theorem aKW {c t c' t':Int} {m m':Bool} {K:AV→Prop} (hk:K (.b (decide (c=c')&&(decide (t=t')&&(m == m'))))):gD prog .eql 46 (shp c t m) (shp c' t' m') K:=by
 have hg:Program.eqGuardType prog prog.depth 46=false:=by kernel_rfl
 have hst:prog.stoodInHeld 46=false:=by kernel_rfl
 have hi:=aFL (P:=prog) (d:=62) (kt:=3) (q:=.i64) (by kernel_rfl)
 have h4:prog.underlying 4=some .bool:=Tryz.underlying4
 have h3:prog.underlying 3=some (.int .i64):=by kernel_rfl
 have e:aEq prog 64 46 (shp c t m) (shp c' t' m')=some (decide (c=c')&&(decide (t=t')&&(m == m'))):=by
  show aEq prog (63+1) 46 (.ag [.i .i64 c,.i .i64 t,.b m]) (.ag [.i .i64 c',.i .i64 t',.b m'])=_
  unfold aEq
  rw [show prog.underlying 46=_ from Tryz.underlying46]
  simp only [hst]
  have hb:aEq prog 63 4 (.b m) (.b m')=some (m == m'):=by
   show aEq prog (62+1) 4 (.b m) (.b m')=_
   unfold aEq
   rw [h4]
  simp [hi,hb,h3,h4]
  rw [Bool.eq_iff_iff]; simp
 show (bif Program.eqGuardType prog prog.depth 46 then False else match aEq prog 64 46 (shp c t m) (shp c' t' m') with
  | some r=>fH .eql r K
  | none=>False)
 rw [hg,e]
 exact hk
def isS (c t:Int) (m:Bool):Der→Bool | .mk c' t' m' _ _=>decide (c'=c)&&(decide (t'=t)&&(m' == m))
def Der.kids:Der→List Der | .mk _ _ _ _ ks=>ks
theorem dL {c t:Int} {m:Bool} {d:Der} {cs:List AV} {F:Nat→Prop} (D:DV h F d cs) (hq:Q (.b (isS c t m d)) h):C Y59.id [shp c t m,.ag cs] h Q:=by
 refine Y59.call ?_
 simp only [Y59.t]
 refine dP rfl fun h1 hl1 U1 R1=>?_
 have D1:=D.ext U1
 refine D1.box fun h2 hl2 U2 R2 D2=>?_
 have R1':=R1.upd U2 fun h=>h
 have hcl:=D.len
 cases D with
 | @mk c' t' m' s ks v rows ks1 sv1 f1 o1=>
 refine aK (aM R2 hcl.symm rfl (aQ (aK (aM R2 hcl.symm rfl (aQ (aK (aM R2 hcl.symm rfl (aS ?_))))))))
 refine aT R1' rfl ?_
 refine aKW (aS ?_)
 exact aU rfl (U1.trans U2 fun _ _ h=>h).ext hq
theorem DV.kidsLen {d:Der} {cs:List AV} {F:Nat→Prop} (D:DV h F d cs):∃ v rows,cs[4]? = some v∧DVs h F d.kids rows∧kL 5 h v rows.flatten rows.length∧rows.length=d.kids.length∧(∀ i,bU v i→F i∧i<h.length):=by
 cases D with
 | @mk c' t' m' s ks v rows ks1 sv1 f1 o1=>exact ⟨v,rows,rfl,ks1,sv1,ks1.length.symm,f1⟩
theorem nY {c t n:Int} {m:Bool} {d:Der} {cs:List AV} {F:Nat→Prop} (D:DV h F d cs) {v:AV} (hv:cs[4]? = some v) (hq:∀ h',Upd (fun _=>False) h h'→Q (.tu [v,.b (isS c t m d&&(decide (n<0)||decide ((d.kids.length:Int)=n)))]) h') :
  C Y40.id [shp c t m,.ag cs,.i .i64 n] h Q:=by
 refine Y40.call ?_
 simp only [Y40.t, ← Y40.p0.eq_1]
 refine dP rfl fun h1 hl1 U1 R1=>?_
 have D1:=D.ext U1
 refine D1.box fun h2 hl2 U2 R2 D2=>?_
 have R1':=R1.upd U2 fun h=>h
 have hcl:=D.len
 obtain ⟨v',rows,hv',hks,hsa,hrl,_⟩:=D2.kidsLen
 rw [hv] at hv'; cases hv'
 have p0:∀ b,b=(isS c t m d&&(decide (n<0)||decide ((d.kids.length:Int)=n)))→Y40.p0 (aL h Q) v b h2:=by
  intro b hb
  refine Y40.i0 ?_
  simp only [Y40.t0]
  subst hb
  exact .inl (hq h2 (U1.trans U2 fun _ _ h=>h))
 refine aK (aM R2 hcl.symm hv (aT R1' rfl (aT R2 hcl.symm ?_)))
 refine dL D2 (aS (aM R2 hcl.symm hv ⟨rfl, ?_⟩))
 refine aG (fun e=>?_) fun e=>p0 _ (by rw [e] <;> rfl)
 refine aG (fun e2=>p0 _ (by rw [e,e2] <;> rfl)) fun e2=>?_
 refine aK (aM R2 hcl.symm hv (hsa.len (p0 _ ?_)))
 rw [e,e2,hrl] <;> rfl
end
end Go.Proofs.YtcdkpkkdolmfdaaGreatDoor
namespace Go.Proofs.YtcdkpkkdolmfdaaGreatDoor
open Go.GAM Go.RowKit
theorem DV.cells' {h:aA} {F:Nat→Prop} {d:Der} {cs:List AV} (D:DV h F d cs):cs.all AV.cellOK=true:=by
 cases D with
 | mk _ _ _ hc=>simp [AV.cellOK] at hc ⊢; exact hc
def gU (o:List UInt8):List UInt8:=cK.foldl (fun n x=>if x.2=o then x.1 else n) []
def sps:List UInt8:=[92,44,61]
def gK (a b:Der):Option (List UInt8):=
 if (eB a).2=true∧(eY b).2=true∧gU (eB a).1≠[] then some ((gU (eB a).1++[61])++bW sps (eY b).1) else none
def k6 (s : Der) : Option (List UInt8) :=
 if isS 0 17 true s=true then match s.kids with
  | [k] => if isS 0 16 true k = true then match k.kids with
   | [a,b]=>gK a b
   | _=>none
   else none
  | _=>none
 else none
def fO : List Der → Option (List (List UInt8))
 | []=>some []
 | s :: r => match k6 s with
  | none=>none
  | some x => match fO r with
   | none=>none
   | some l=>some (x :: l)
def cF (d:Der):Option (List UInt8):=if isS 0 16 true d=true then (fO d.kids).map fun l=>Lib.join l [44] else none
def pT:Option (List UInt8)→AV
 | none=>.tu [.s [],.i .i64 2]
 | some t=>.tu [.s t,.i .i64 0]
def o0 (d:Der):Prop:=d.kids.length≤4000∧∀ s∈d.kids, ∀ k∈s.kids, ∀ x∈k.kids,x.data.length≤100000
theorem pD (o:List UInt8):(gU o).length≤2:=by
 have:∀ (l:List (List UInt8 × List UInt8)) (n:List UInt8),n.length≤2→(∀ x∈l,x.1.length≤2)→(l.foldl (fun n x=>if x.2=o then x.1 else n) n).length≤2:=by
  intro l
  induction l with
  | nil=>intro n hn _; exact hn
  | cons x l ih =>
   intro n hn hl
   rw [List.foldl_cons]
   refine ih _ ?_ fun y hy=>hl y (by simp [hy])
   split
   ·exact hl x (by simp)
   ·exact hn
 exact this cK [] (by simp) (by decide)
theorem uF:sps.Nodup:=by decide
theorem wU (b:Der):(eY b).1.length≤b.data.length:=by unfold eY; split <;> simp
theorem zD {a b:Der} {x:List UInt8} (h:gK a b=some x) (hb:b.data.length≤100000):x.length≤200010:=by
 unfold gK at h
 split at h
 ·cases h
  have h1:=pD (eB a).1
  have h2:=iK uF (eY b).1
  have h3:=oD uF (eY b).1
  have h4:=wU b
  simp only [List.length_append,List.length_cons,List.length_nil]; omega
 ·cases h
theorem aKR {s : Der} {x : List UInt8} (h : k6 s = some x) (hb : ∀ k ∈ s.kids, ∀ x ∈ k.kids, x.data.length ≤ 100000) : x.length ≤ 200010 := by
 unfold k6 at h
 split at h
 ·split at h
  ·rename_i k hk
   split at h
   ·split at h
    ·rename_i a b hab
     exact zD h (hb k (by rw [hk]; simp) b (by rw [hab]; simp))
    ·cases h
   ·cases h
  ·cases h
 ·cases h
theorem aBQ (sep : UInt8) (M : Nat) : ∀ l : List (List UInt8), (∀ x ∈ l, x.length ≤ M) → (Lib.join l [sep]).length ≤ l.length * (M + 1)
 | [],_=>by simp [Lib.join_nil]
 | x :: r, h => by
  rw [Lib.join_cons,List.length_append,List.length_cons]
  have hx:=h x (by simp)
  have key:∀ r:List (List UInt8),(∀ x∈r,x.length≤M)→(Lib.joinTail [sep] r).length≤r.length * (M+1):=by
   intro r
   induction r with
   | nil=>intro _; simp [Lib.joinTail]
   | cons y r ih =>
    intro hr
    have:=ih fun z hz=>hr z (by simp [hz])
    have hy:=hr y (by simp)
    unfold Lib.joinTail at *
    simp only [List.map_cons,List.flatten_cons,List.length_append,List.length_cons,List.length_nil,Nat.add_mul,Nat.one_mul] at *
    omega
  have:=key r fun z hz=>h z (by simp [hz])
  rw [Nat.add_mul,Nat.one_mul]; omega
section
variable {h:aA} {Q:AV→aA→Prop}
def lL (ok:Bool) (done:List (List UInt8)) (r:List Der):Option (List UInt8):=match fO r with
 | none=>none
 | some l=>if ok=true then some (Lib.join (done++l) [44]) else none
theorem kL.row {h:aA} {F:Nat→Prop} {v:AV} {ks:List Der} {rows:List (List AV)} (hks:DVs h F ks rows) (S:kL 5 h v rows.flatten rows.length) {i:Nat} {k:Der} (hk:ks[i]? = some k) :
  ∃ id ver off cap r, v = .sl (some ⟨id, ver, off⟩) rows.length cap ∧ DV h F k r ∧
   ∀ h',Upd (fun _=>False) h h'→(∀ (kk:IntKind) (K:AV→Prop),K (.p (some ⟨id,ver,off+i * 5⟩))→aB 5 v (.i kk (i:Int)) h' K)∧∀ K:AV→Prop,K (.ag r)→aD 5 (.p (some ⟨id,ver,off+i * 5⟩)) h' K:=by
 obtain ⟨r,hr,D⟩:=hks.get hk
 have hi:i<rows.length:=bH hr
 obtain ⟨id,ver,off,cap,b,rfl,RA⟩:=S.at (by omega)
 refine ⟨id,ver,off,cap,r,rfl,D,fun h' U=>?_⟩
 have RA':=RA.upd U fun h=>h
 exact ⟨fun kk K hK=>b9 RA' hi hK,fun K hK=>m8 RA' hi (jI rows i r hks.len5 hr) hK⟩
theorem aMJ {x5 x10 x14 : Bool} {x6 v va : AV} {x12 x13 : List UInt8} {n i : Int} {h0 : aA} (hA : RdI 2 h0 va (cK.flatMap fun x => [.s x.1, .s x.2]) 4)
  (next:∀ (h':aA) (b:Bool),Upd (fun _=>False) h h'→b = !(x10&&(x14 && !(decide (gU x12=[]))))→Y15.p3 Q x5 x6 x13 (gU x12) v n i b h') :
  ∀ (k j:Nat) (hx:aA),4=j+k→Upd (fun _=>False) h0 hx→Upd (fun _=>False) h hx→Y15.p1 Q x5 x6 x10 x12 x13 x14 ((cK.take j).foldl (fun n x=>if x.2=x12 then x.1 else n) []) v n i va 4 (j:Int) hx:=by
 intro k
 induction k with
 | zero =>
  intro j hx hj U0 U
  obtain rfl:j=4:=by omega
  refine Y15.i1 ?_
  simp only [Y15.t1, ← Y15.p3.eq_1]
  refine aN (by decide) ?_
  have e:(cK.take 4).foldl (fun n x=>if x.2=x12 then x.1 else n) []=gU x12:=rfl
  rw [e]
  cases x10 with
  | false=>exact aO rfl (next hx true U (by simp))
  | true =>
   refine aN rfl ?_
   cases x14 with
   | false=>exact aO rfl (next hx true U (by simp))
   | true=>exact aN rfl (next hx _ U (by simp))
 | succ k ih =>
  intro j hx hj U0 U
  obtain ⟨x,hc⟩:∃ x,cK[j]? = some x:=⟨cK[j]'(by show j<4; omega),List.getElem?_eq_getElem _⟩
  have htk:=dH hc
  refine Y15.i1 ?_
  simp only [Y15.t1, ← Y15.p2.eq_1]
  refine aO (decide_eq_true (by omega)) ?_
  have hrow:((cK.flatMap fun x=>[AV.s x.1,AV.s x.2]).drop (j * 2)).take 2=[.s x.1,.s x.2]:=by
   have:∀ j x,cK[j]? = some x→((cK.flatMap fun x=>[AV.s x.1,AV.s x.2]).drop (j * 2)).take 2=[.s x.1,.s x.2]:=by
    intro j x hjx
    have hj4:j<4:=bH hjx
    match j,hj4 with
    | 0,_=>simp [cK] at hjx ⊢; subst hjx; simp
    | 1,_=>simp [cK] at hjx ⊢; subst hjx; simp
    | 2,_=>simp [cK] at hjx ⊢; subst hjx; simp
    | 3,_=>simp [cK] at hjx ⊢; subst hjx; simp
   exact this j x hc
  refine RdI.elem (hA.ext U0) (by omega) (by omega) ?_
  simp only [Int.toNat_natCast]
  rw [hrow]
  refine bR fun h1 hl1 U1 R1=>?_
  refine aW R1 rfl rfl rfl fun h2 hl2 U2 R2=>?_
  have U02:Upd (fun _=>False) hx h2:=U1.trans U2 fun i hi e=>by omega
  have nxt:∀ x15,x15=(cK.take (j+1)).foldl (fun n x=>if x.2=x12 then x.1 else n) []→Y15.p2 Q x5 x6 x10 x12 x13 x14 x15 v n i va 4 (j:Int) h2:=by
   intro x15 he
   refine Y15.i2 ?_
   simp only [Y15.t2, ← Y15.p1.eq_1]
   subst he
   exact inc (by omega) (ih (j+1) h2 (by omega) (U0.trans U02 fun _ _ h=>h) (U.trans U02 fun _ _ h=>h))
  refine aK (aM R2 rfl rfl (bA ?_))
  refine aG (fun e=>?_) fun e=>?_
  ·refine aK (aM R2 rfl rfl (bA (nxt _ ?_)))
   rw [htk,List.foldl_append,List.foldl_cons,List.foldl_nil,if_pos (of_decide_eq_true e)]
  ·refine nxt _ ?_
   rw [htk,List.foldl_append,List.foldl_cons,List.foldl_nil,if_neg (of_decide_eq_false e)]
theorem aPZ (ok:Bool) (done:List (List UInt8)) (s:Der) (r:List Der):lL ok done (s :: r)=match k6 s with
  | none=>none
  | some x=>lL ok (done++[x]) r:=by
 have e:fO (s :: r)=match k6 s with
  | none=>none
  | some x => match fO r with
   | none=>none
   | some l=>some (x :: l):=rfl
 unfold lL
 rw [e]
 cases k6 s with
 | none=>rfl
 | some x=>cases fO r <;> simp
theorem aL7 (G : CG h) {F : Nat → Prop} {d : Der} (hB : o0 d) {v : AV} {rows : List (List AV)} (hks : DVs h F d.kids rows) (hsa : kL 5 h v rows.flatten rows.length) {ok : Bool} :
  ∀ (r:List Der) (i:Nat) (v6:AV) (done:List (List UInt8)) (hx:aA),d.kids.drop i=r→i≤d.kids.length→Upd (fun _=>False) h hx→gB h hx v6 (done.map .s)→done.length≤i→(∀ x∈done,x.length≤200010) →
  Q (pT (lL ok done r)) h→Y15.p0 (aL h Q) ok v6 v (rows.length:Int) (i:Int) hx:=by
 have hrl:=hks.length
 intro r
 induction r with
 | nil =>
  intro i v6 done hx hr hi U S hd hdl hq
  have hle:=cA hr
  have hN:=hB.1
  refine Y15.i0 ?_
  simp only [Y15.t0]
  refine aN (decide_eq_false (by omega)) ?_
  have hq:Q (pT (if ok=true then some (Lib.join (done++[]) [44]) else none)) h:=hq
  rw [List.append_nil] at hq
  cases ok with
  | false=>exact aO rfl (aU rfl U.ext hq)
  | true =>
   refine aN rfl (aOO (ls:=done) ?_ ?_ (by omega) (bA (aU rfl U.ext hq)))
   ·have:=S.stk.rd; rwa [List.length_map] at this
   ·have h1 := aBQ 44 200010 done hdl
    have h2:done.length * (200010+1)≤4000 * (200010+1):=Nat.mul_le_mul_right _ (by omega)
    omega
 | cons s r ih =>
  intro i v6 done hx hr hi U S hd hdl hq
  have hN:=hB.1
  have hlt:=cG hr
  have hnx:=b3 hr
  have hsi:=b4 hr
  have hsm:=List.mem_of_getElem? hsi
  rw [aPZ] at hq
  refine Y15.i0 ?_
  simp only [Y15.t0, ← Y15.p1.eq_1]
  refine aO (decide_eq_true (by omega)) ?_
  obtain ⟨id,ver,off,cap,rw1,rfl,Ds,hrd⟩:=kL.row hks hsa hsi
  obtain ⟨k1,k2⟩:=hrd hx U
  refine k1 _ _ (k2 _ ?_)
  have hcl:=Ds.len
  refine bR fun h1 hl1 U1 R1=>?_
  refine aW R1 rfl hcl Ds.cells' fun h2 hl2 U2 R2=>?_
  have Ux2:Upd (fun _=>False) hx h2:=U1.trans U2 fun i hi e=>by omega
  have U02:Upd (fun _=>False) h h2:=U.trans Ux2 fun _ _ h=>h
  refine (G.ext U02).set.loadN rfl (aT R2 hcl.symm ?_)
  have Ds2:=Ds.ext U02
  obtain ⟨vs,rs,hvs,hkss,hsas,hrls,_⟩:=Ds2.kidsLen
  refine nY Ds2 hvs fun h3 U3=>?_
  refine aY (aZ (aS ?_))
  have U03:=U02.trans U3 fun _ _ h=>h
  have fail:∀ hy,Upd (fun _=>False) h hy→k6 s=none→aL h Q (.tu [.s [],.i .i64 2]) hy:=by
   intro hy Uy he
   rw [he] at hq
   exact aU rfl Uy.ext hq
  refine aG (fun e=>fail _ U03 ?_) fun e=>?_
  ·unfold k6
   split
   ·rename_i hs
    split
    ·rename_i k hk
     rw [hs,hk] at e
     simp at e
    ·rfl
   ·rfl
  have e:isS 0 17 true s=true∧s.kids.length=1:=by
   simp at e
   exact ⟨e.1,by omega⟩
  obtain ⟨k,hk⟩:∃ k,s.kids=[k]:=by
   match hh:s.kids with
   | [k]=>exact ⟨k,rfl⟩
   | []=>rw [hh] at e; simp at e
   | _ :: _ :: _=>rw [hh] at e; simp at e
  have hset:k6 s=if isS 0 16 true k=true then (match k.kids with
   | [a,b]=>gK a b
   | _=>none) else none:=by
   unfold k6
   rw [if_pos e.1,hk]
  refine (G.ext U03).seq.loadN rfl ?_
  obtain ⟨id1,ver1,off1,cap1,rw2,rfl,Dk,hrd1⟩:=kL.row hkss hsas (i:=0) (k:=k) (by rw [hk] <;> rfl)
  obtain ⟨m1,m2⟩:=hrd1 h3 U3
  refine m1 _ _ (m2 _ ?_)
  have Dk3:=Dk.ext U3
  obtain ⟨vk,rk,hvk,hksk,hsak,hrlk,_⟩:=Dk3.kidsLen
  refine nY Dk3 hvk fun h4 U4=>?_
  have U04:=U03.trans U4 fun _ _ h=>h
  obtain ⟨n1,n2⟩:=hrd1 h4 (U3.trans U4 fun _ _ h=>h)
  refine n1 _ _ ⟨rfl, ?_⟩
  refine aY (aZ (aS ?_))
  refine aG (fun e2=>fail _ U04 ?_) fun e2=>?_
  ·rw [hset]
   split
   ·rename_i hs
    split
    ·rename_i a b hab
     rw [hs,hab] at e2
     simp at e2
    ·rfl
   ·rfl
  have e2:isS 0 16 true k=true∧k.kids.length=2:=by
   simp at e2
   exact ⟨e2.1,by omega⟩
  obtain ⟨a,b,hab⟩:∃ a b,k.kids=[a,b]:=by
   match hh:k.kids with
   | [a,b]=>exact ⟨a,b,rfl⟩
   | []=>rw [hh] at e2; simp at e2
   | [_]=>rw [hh] at e2; simp at e2
   | _ :: _ :: _ :: _=>rw [hh] at e2; simp at e2
  have hset:k6 s=gK a b:=by rw [hset,if_pos e2.1,hab]
  have hkm:k∈s.kids:=by rw [hk]; simp
  have hda:=hB.2 s hsm k hkm a (by rw [hab]; simp)
  have hdb:=hB.2 s hsm k hkm b (by rw [hab]; simp)
  obtain ⟨id2,ver2,off2,cap2,ra,hva,Da,hrda⟩:=kL.row hksk hsak (i:=0) (k:=a) (by rw [hab] <;> rfl)
  obtain ⟨id3,ver3,off3,cap3,rb,hvb,Db,hrdb⟩:=kL.row hksk hsak (i:=1) (k:=b) (by rw [hab] <;> rfl)
  subst hva
  cases hvb
  obtain ⟨a1,a2⟩:=hrda h4 U4
  obtain ⟨b1,b2⟩:=hrdb h4 U4
  refine a1 _ _ (a2 _ ?_)
  refine aND (Da.ext U4) hda (aY (bA (aZ (aS ?_))))
  refine b1 _ _ (b2 _ ?_)
  refine aOL (Db.ext U4) hdb (aY (bA (aZ (aS ?_))))
  obtain ⟨va,g1,g2⟩:=(G.ext U04).att
  refine g1.load1 (g2.len ?_)
  refine aMJ g2 (fun h5 bb U5 hb=>?_) 4 0 h4 rfl (Upd.refl _ _) (Upd.refl _ _)
  have U05:=U04.trans U5 fun _ _ h=>h
  refine Y15.i3 ?_
  simp only [Y15.t3, ← Y15.p0.eq_1]
  refine aG (fun e3=>fail _ U05 ?_) fun e3=>?_
  ·rw [hset]
   unfold gK
   rw [if_neg]
   intro hh
   rw [e3,hh.1,hh.2.1] at hb
   simp at hb
   exact hh.2.2 hb
  have hh:(eB a).2=true∧(eY b).2=true∧gU (eB a).1≠[]:=by
   rw [e3] at hb
   have hb:=hb.symm
   simp at hb
   exact hb
  have hset:k6 s=some ((gU (eB a).1++[61])++bW sps (eY b).1):=by
   rw [hset]; unfold gK; rw [if_pos hh]
  have hxl:=aKR hset fun k hk x hx=>hB.2 s hsm k hk x hx
  rw [hset] at hq
  have hl1:=pD (eB a).1
  have hl2:=wU b
  refine ⟨by simp; omega, ?_⟩
  refine eQ (cs:=(fQ sps).map .s) rfl rfl fun y h6 hl6 U6 R6 F6=>?_
  refine aI3 (sp:=sps) (by decide) R6 (by decide) fun idp h7 U7 hn7 N7=>?_
  refine aHB (sp:=sps) (by omega) uF (by decide) (by decide) N7 fun h8 U8 _=>?_
  refine bA ⟨by simp only [List.length_append,List.length_cons,List.length_nil] at hxl ⊢; omega, ?_⟩
  have U58:Upd (fun _=>False) h5 h8:=((U6.trans U7 fun _ _ h=>h).trans U8 fun i hi e=>by have:=U6.1; omega)
  have U08:=U05.trans U58 fun _ _ h=>h
  have Ux8:Upd (fun _=>False) hx h8:=(((Ux2.trans U3 fun _ _ h=>h).trans U4 fun _ _ h=>h).trans U5 fun _ _ h=>h).trans U58 fun _ _ h=>h
  have S8:gB h h8 v6 (done.map .s):=⟨U08,S.stk.upd Ux8 fun _ _ h=>h,S.new⟩
  refine gB.push S8 rfl rfl (by simp; omega) (by simp; omega) fun v' h9 S9 U9 _=>?_
  refine inc (by omega) (ih (i+1) v' (done++[(gU (eB a).1++[61])++bW sps (eY b).1]) h9 hnx (by omega) S9.upd (by simpa using S9) (by simp; omega) (fun x hx=>?_) hq)
  rcases List.mem_append.1 hx with h | h
  ·exact hdl x h
  ·simp at h; subst h; simpa using hxl
theorem aJL (G:CG h) {F:Nat→Prop} {d:Der} {cs:List AV} (D:DV h F d cs) (hB:o0 d) (hq:Q (pT (cF d)) h):C Y15.id [.ag cs] h Q:=by
 refine Y15.call ?_
 simp only [Y15.t, ← Y15.p0.eq_1]
 refine D.box fun h1 hl1 U1 R1 D1=>?_
 refine (G.ext U1).seq.loadN rfl (aT R1 D.len.symm ?_)
 obtain ⟨v,rows,hv,hks,hsa,hrl,_⟩:=D1.kidsLen
 refine nY D1 hv fun h2 U2=>aY (aZ (aS ?_))
 have U02:=U1.trans U2 fun _ _ h=>h
 obtain ⟨v',rows',hv',hks',hsa',hrl',_⟩:=D.kidsLen
 have hdv:v'=v:=by rw [hv] at hv'; exact (Option.some.inj hv').symm
 subst hdv
 have hsl:∀ K:Int→Prop,K (rows'.length:Int)→bJ v' K:=fun K hk=>hsa'.len hk
 refine hsl _ ?_
 have e:(isS 0 16 true d&&(decide ((-1:Int)<0)||decide ((d.kids.length:Int) = -1)))=isS 0 16 true d:=by
  rw [show decide ((-1:Int)<0)=true by decide,Bool.true_or,Bool.and_true]
 rw [e]
 refine aL7 G hB hks' hsa' d.kids 0 _ [] h2 rfl (by omega) U02 ⟨U02,.inl ⟨rfl,rfl⟩,fun _ h=>h.elim⟩ (by simp) (fun x hx=>by cases hx) ?_
 have e2:lL (isS 0 16 true d) [] d.kids=cF d:=by
  unfold lL cF
  cases fO d.kids with
  | none=>simp
  | some l=>by_cases hh:isS 0 16 true d=true <;> simp [hh]
 rw [e2]; exact hq
end
end Go.Proofs.YtcdkpkkdolmfdaaGreatDoor
namespace Go.Proofs.YtcdkpkkdolmfdaaGreatDoor
open Go.GAM Go.RowKit
section
variable {h:aA} {Q:AV→aA→Prop}
theorem r8 {c t:Int} {m:Bool} {v:AV} (hv:∃ a n cap,v = .sl a n cap) (hq:∀ h',Upd (fun _=>False) h h'→Q (.ag [.i .i64 c,.i .i64 t,.b true,.s [],v]) h'):C Y41.id [shp c t m,v] h Q:=by
 obtain ⟨a,n,cap,rfl⟩:=hv
 refine Y41.call ?_
 simp only [Y41.t]
 refine dP rfl fun h1 hl1 U1 R1=>?_
 refine bR fun h2 hl2 U2 R2=>?_
 have R1':=R1.upd U2 fun h=>h
 refine aK (aM R1' rfl rfl (aQ (aK (aM R1' rfl rfl (aQ ?_)))))
 refine zY (cs:=[.i .i64 c,.i .i64 t,.b true,.s [],.sl a n cap]) rfl ?_
 refine aW R2 rfl rfl rfl fun h3 hl3 U3 R3=>aT R3 rfl ?_
 exact .inl (hq h3 ((U1.trans U2 fun _ _ h=>h).trans U3 fun i hi e=>by omega))
theorem gA {c t:Int} {m:Bool} {s:List UInt8} (hq:Q (.ag (cR c t false s)) h):C Y70.id [shp c t m,.s s] h Q:=by
 refine Y70.call ?_
 simp only [Y70.t]
 refine dP rfl fun h1 hl1 U1 R1=>?_
 refine bR fun h2 hl2 U2 R2=>?_
 have R1':=R1.upd U2 fun h=>h
 refine aK (aM R1' rfl rfl (aQ (aK (aM R1' rfl rfl (aQ ?_)))))
 refine aW R2 rfl rfl rfl fun h3 hl3 U3 R3=>aT R3 rfl ?_
 exact aU rfl ((U1.trans U2 fun _ _ h=>h).trans U3 fun i hi e=>by omega).ext hq
def dG (o:List UInt8):List UInt8:=match mL o with
 | .ok l=>l
 | .error _=>[]
theorem lF:∀ x∈cK,mL x.2 = .ok (dG x.2)∧(dG x.2).length≤10:=by
 intro x hx
 simp only [cK,List.mem_cons,List.not_mem_nil,or_false] at hx
 rcases hx with rfl | rfl | rfl | rfl
 ·exact ⟨by kernel_rfl,by decide +kernel⟩
 ·exact ⟨by kernel_rfl,by decide +kernel⟩
 ·exact ⟨by kernel_rfl,by decide +kernel⟩
 ·exact ⟨by kernel_rfl,by decide +kernel⟩
def gL (o text:List UInt8):Der:=.mk 0 17 true [] [.mk 0 16 true [] [.mk 0 6 false (dG o) [],.mk 0 12 false (cP text) []]]
def kidsOf (part:List UInt8):List Der:=cK.flatMap fun x=>if x.1=(nZ part 61).1 then [gL x.2 (nZ part 61).2.1] else []
def hC (ks:List Der):Der:=.mk 0 16 true [] ks
def bK (s : List UInt8) : Der × Int :=
 if 512<s.length then (.zero,3) else if s=[] then (hC [],0) else
  if cF (hC ((bM [] s).flatMap kidsOf))=some s then (hC ((bM [] s).flatMap kidsOf),0) else (.zero,5)
theorem Arr.cell {sz:Nat} {h:aA} {v:AV} {cs:List AV} {n:Nat} (A:Arr sz h v cs n):v.parts=[v]∧v.sizeOK=true∧v.cellOK=true:=by
 rcases A with ⟨rfl,_⟩ | ⟨_,_,rfl,_⟩ <;> exact ⟨rfl,rfl,rfl⟩
structure NSt (h0 hb h:aA) (id0 id1:Nat) (v:AV) (ks:List Der):Prop where
 ub:Upd (fun _=>False) h0 hb
 upd:Upd (· = id1) hb h
 n0:h0.length≤id0
 n1:h0.length≤id1
 l0:id0<hb.length
 l1:id1<hb.length
 ne:id0≠id1
 r0:bC h id0 z5
 r1:bC h id1 [.i .i64 0,.i .i64 16,.b true,.s [],v]
 arr:∃ rows,Arr 5 h v rows.flatten rows.length∧DVs h (fun i=>hb.length≤i∧¬ bU v i) ks rows
 new:∀ i,bU v i→hb.length≤i
theorem NSt.ext {h0 hb h h':aA} {id0 id1:Nat} {v:AV} {ks:List Der} (S:NSt h0 hb h id0 id1 v ks) (U:Upd (fun _=>False) h h'):NSt h0 hb h' id0 id1 v ks:=by
 obtain ⟨rows,A,D⟩:=S.arr
 exact ⟨S.ub,S.upd.trans (U.mono fun _ _ h=>h.elim) fun _ _ h=>h,S.n0,S.n1,S.l0,S.l1,S.ne,S.r0.upd U fun h=>h,S.r1.upd U fun h=>h,⟨rows,A.upd U fun _ _ h=>h,D.upd U fun i hi _=>⟨fun h=>h,hi⟩⟩,S.new⟩
theorem NSt.low {h0 hb h:aA} {id0 id1:Nat} {v:AV} {ks:List Der} (S:NSt h0 hb h id0 id1 v ks):Upd (fun _=>False) h0 h:=
 S.ub.trans S.upd fun i hi e=>by have:=S.n1; omega
theorem NSt.val {h0 hb h:aA} {id0 id1:Nat} {v:AV} {ks:List Der} (S:NSt h0 hb h id0 id1 v ks):DV h (fun i=>h0.length≤i) (hC ks) [.i .i64 0,.i .i64 16,.b true,.s [],v]:=by
 obtain ⟨rows,A,D⟩:=S.arr
 have hb0:=S.ub.1
 exact .mk (D.upd (Upd.refl (fun _=>False) h) fun i hi _=>⟨fun h=>h,by omega⟩) (.inl A.rd) (fun i hi=>⟨by have:=S.new i hi; omega,A.rd.lt hi⟩) (Arr.cell A).2.2
theorem NSt.push {h0 hb h:aA} {id0 id1:Nat} {v y:AV} {ks:List Der} {k:Der} {r:List AV} {ty:Option TypeId} (S:NSt h0 hb h id0 id1 v ks) (hn:ks.length≤4000) (R:Rd 5 h y r 1) (hrl:r.length=5) (hrc:r.all AV.cellOK=true)
  (D:DV h (fun i=>hb.length≤i∧¬ bU v i) k r) {K:AV→aA→Prop}
  (hk:∀ v' h',Upd (bU v) h h'→bC h' id1 [.i .i64 0,.i .i64 16,.b true,.s [],v]→(v'.parts=[v']∧v'.sizeOK=true∧v'.cellOK=true)→(∀ h'',h''.length=h'.length→Upd (· = id1) h' h''→bC h'' id1 [.i .i64 0,.i .i64 16,.b true,.s [],v']→NSt h0 hb h'' id0 id1 v' (ks++[k]))→K v' h') :
  bQ ty 5 64 v y h K:=by
 obtain ⟨rows,A,Ds⟩:=S.arr
 have hrows:=Ds.length
 have hl0:=S.l0
 have hl1:=S.l1
 have hbh:=S.upd.1
 refine A.append (by decide) (ns:=r) (k:=1) (fun K hK=>R.news hK) (by omega) hrc (by omega) (by omega) fun v' h' U A' F=>?_
 have out:∀ i,i<hb.length→¬ bU v i:=fun i hi hs=>by have:=S.new i hs; omega
 refine hk v' h' U (S.r1.upd U (out _ hl1)) (Arr.cell A') fun h'' hl'' U'' R''=>?_
 have hnew':∀ i,bU v' i→hb.length≤i:=fun i hi=>by
  rcases F i hi with hh | hh
  ·exact S.new i hh
  ·omega
 have Dall:=Ds.app D
 have e1:(rows++[r]).flatten=rows.flatten++r:=by simp
 have e2:(rows++[r]).length=rows.length+1:=by simp
 refine ⟨S.ub,(S.upd.trans U fun i hi hs=>absurd hs (out i hi)).trans U'' fun _ _ h=>h,S.n0,S.n1,hl0,hl1,S.ne,(S.r0.upd U (out _ hl0)).upd U'' S.ne,R'',⟨rows++[r], ?_, ?_⟩,hnew'⟩
 ·rw [e1, e2]
  exact A'.upd U'' fun i hi e=>by have:=hnew' i hi; omega
 ·have D1 : DVs h' (fun i => hb.length ≤ i ∧ ¬ bU v' i) (ks ++ [k]) (rows ++ [r]) := Dall.upd U fun i hi hil => ⟨hi.2, hi.1, fun hs => by
   rcases F i hs with hh | hh
   ·exact hi.2 hh
   ·omega⟩
  exact D1.upd U'' fun i hi _=>⟨by omega,hi⟩
theorem aHD {h0 hb : aA} (G : CG h0) {va : AV} (gva : jM h0 7 [va]) (hA : RdI 2 h0 va (cK.flatMap fun x => [.s x.1, .s x.2]) 4) {id0 id1 : Nat} {s name text : List UInt8} {x26 : AV} {n27 i28 : Int} (ht : text.length ≤ 1000000) {ks0 : List Der} (hk0 : ks0.length ≤ 3000)
  (next:∀ v h',NSt h0 hb h' id0 id1 v (ks0++cK.flatMap fun x=>if x.1=name then [gL x.2 text] else [])→aR (IntKind.wrap .i64 (i28+1)) fun n125=>Y13.p0 (aL h0 Q) s (.p (some ⟨id0,5,0⟩)) (.p (some ⟨id1,5,0⟩)) x26 n27 n125 h') :
  ∀ (k j:Nat) (v:AV) (hx:aA),4=j+k→NSt h0 hb hx id0 id1 v (ks0++(cK.take j).flatMap fun x=>if x.1=name then [gL x.2 text] else []) →
  Y13.p1 (aL h0 Q) s (.p (some ⟨id0,5,0⟩)) (.p (some ⟨id1,5,0⟩)) name text x26 n27 i28 va 4 (j:Int) hx:=by
 intro k
 induction k with
 | zero =>
  intro j v hx hj S
  obtain rfl:j=4:=by omega
  refine Y13.i1 ?_
  simp only [Y13.t1, ← Y13.p0.eq_1]
  exact aN (by decide) (next v hx S)
 | succ k ih =>
  intro j v hx hj S
  obtain ⟨x,hc⟩:∃ x,cK[j]? = some x:=⟨cK[j]'(by show j<4; omega),List.getElem?_eq_getElem _⟩
  have hxm:=List.mem_of_getElem? hc
  have htk:=dH hc
  refine Y13.i1 ?_
  simp only [Y13.t1, ← Y13.p2.eq_1]
  refine aO (decide_eq_true (by omega)) ?_
  have hrow:((cK.flatMap fun x=>[AV.s x.1,AV.s x.2]).drop (j * 2)).take 2=[.s x.1,.s x.2]:=by
   have:∀ j x,cK[j]? = some x→((cK.flatMap fun x=>[AV.s x.1,AV.s x.2]).drop (j * 2)).take 2=[.s x.1,.s x.2]:=by
    intro j x hjx
    have hj4:j<4:=bH hjx
    match j,hj4 with
    | 0,_=>simp [cK] at hjx ⊢; subst hjx; simp
    | 1,_=>simp [cK] at hjx ⊢; subst hjx; simp
    | 2,_=>simp [cK] at hjx ⊢; subst hjx; simp
    | 3,_=>simp [cK] at hjx ⊢; subst hjx; simp
   exact this j x hc
  refine RdI.elem (hA.ext S.low) (by omega) (by omega) ?_
  simp only [Int.toNat_natCast]
  rw [hrow]
  refine bR fun h1 hl1 U1 R1=>?_
  refine aW R1 rfl rfl rfl fun h2 hl2 U2 R2=>?_
  have U02:Upd (fun _=>False) hx h2:=U1.trans U2 fun i hi e=>by omega
  have S2:=S.ext U02
  have nxt:∀ v' h',NSt h0 hb h' id0 id1 v' (ks0++(cK.take (j+1)).flatMap fun x=>if x.1=name then [gL x.2 text] else [])→Y13.p2 (aL h0 Q) s (.p (some ⟨id0,5,0⟩)) (.p (some ⟨id1,5,0⟩)) name text x26 n27 i28 va 4 (j:Int) h':=by
   intro v' h' S'
   refine Y13.i2 ?_
   simp only [Y13.t2, ← Y13.p1.eq_1]
   exact inc (by omega) (ih (j+1) v' h' (by omega) S')
  refine aK (aM R2 rfl rfl (bA ?_))
  refine aG (fun e=>?_) fun e=>nxt v h2 (by
   rw [htk,List.flatMap_append]
   simp only [List.flatMap_cons,List.flatMap_nil,List.append_nil,if_neg (of_decide_eq_false e)]
   exact S2)
  have e:=of_decide_eq_true e
  obtain ⟨ho1,ho2⟩:=lF x hxm
  refine aK (aM R2 rfl rfl (bA ?_))
  refine aAL fun h3 U3=>?_
  rw [ho1]
  simp only [aK7]
  refine aY (aZ (aQ ?_))
  refine bR fun h4 hl4 U4 R4=>?_
  refine aW R4 rfl rfl rfl fun h5 hl5 U5 R5=>?_
  have U25:Upd (fun _=>False) h2 h5:=(U3.trans U4 fun _ _ h=>h).trans U5 fun i hi e=>by have:=U3.1; omega
  have S5:=S2.ext U25
  have l65:∀ hz (K:AV→Prop),Upd (fun _=>False) h5 hz→K (.ag (cR 0 6 false (dG x.2)))→aD 5 (.p (some ⟨h3.length,5,0⟩)) hz K:=fun hz K U hK=>aT (R5.upd U fun h=>h) rfl hK
  have l1:∀ hz (K:AV→Prop),Upd (fun _=>False) h5 hz→K (shp 0 16 true)→aD 3 (bE hz 0) hz K:=fun hz K U hK=>(G.ext (S5.low.trans U fun _ _ h=>h)).seq.loadN rfl hK
  have l3:∀ hz (K:AV→Prop),Upd (fun _=>False) h5 hz→K (shp 0 17 true)→aD 3 (bE hz 8) hz K:=fun hz K U hK=>(G.ext (S5.low.trans U fun _ _ h=>h)).set.loadN rfl hK
  have l69:∀ hz (K:AV→Prop),Upd (fun _=>False) h5 hz→K v→aE (.p (some ⟨id1,5,0+4⟩)) hz K:=fun hz K U hK=>aM (S5.r1.upd U fun h=>h) rfl rfl hK
  have r0:=Upd.refl (fun _=>False) h5
  refine aK (l69 _ _ r0 (l3 _ _ r0 (l1 _ _ r0 (l65 _ _ r0 ?_))))
  refine aBU ht (bA ?_)
  refine l65 _ _ r0 ⟨rfl,l1 _ _ r0 ⟨rfl,l3 _ _ r0 ⟨rfl,l69 _ _ r0 ⟨rfl, ?_⟩⟩⟩⟩
  refine gA (m:=false) ?_
  refine l65 _ _ r0 ⟨rfl,l1 _ _ r0 ⟨rfl,l3 _ _ r0 ⟨rfl,l69 _ _ r0 ⟨rfl, ?_⟩⟩⟩⟩
  refine eQ (cs:=cR 0 6 false (dG x.2)++cR 0 12 false (cP text)) rfl rfl fun y1 h6 hl6 U6 R6 F6=>?_
  refine l1 _ _ U6 ⟨rfl,l3 _ _ U6 ⟨rfl,l69 _ _ U6 ⟨rfl, ?_⟩⟩⟩
  have hy1:∃ a n cap,y1 = .sl a n cap:=by
   rcases R6 with ⟨rfl,_⟩ | ⟨_,_,_,_,_,rfl,_⟩ <;> exact ⟨_,_,_,rfl⟩
  refine r8 hy1 fun h7 U7=>?_
  have U57:=U6.trans U7 fun _ _ h=>h
  refine l65 _ _ U57 ⟨rfl,l3 _ _ U57 ⟨rfl,l69 _ _ U57 ⟨rfl, ?_⟩⟩⟩
  refine eQ (cs:=[.i .i64 0,.i .i64 16,.b true,.s [],y1]) (by obtain ⟨a,n,cap,rfl⟩:=hy1; rfl) rfl fun y2 h8 hl8 U8 R8 F8=>?_
  have U58:=U57.trans U8 fun _ _ h=>h
  refine l65 _ _ U58 ⟨rfl,l1 _ _ U58 ⟨rfl,l3 _ _ U58 ⟨rfl,l69 _ _ U58 ⟨rfl, ?_⟩⟩⟩⟩
  have hy2:∃ a n cap,y2 = .sl a n cap:=by
   rcases R8 with ⟨rfl,_⟩ | ⟨_,_,_,_,_,rfl,_⟩ <;> exact ⟨_,_,_,rfl⟩
  refine r8 hy2 fun h9 U9=>?_
  have U59:=U58.trans U9 fun _ _ h=>h
  refine l65 _ _ U59 ⟨rfl,l1 _ _ U59 ⟨rfl,l69 _ _ U59 ⟨rfl, ?_⟩⟩⟩
  refine eQ (cs:=[.i .i64 0,.i .i64 17,.b true,.s [],y2]) (by obtain ⟨a,n,cap,rfl⟩:=hy2; rfl) rfl fun y3 h10 hl10 U10 R10 F10=>?_
  have U510:=U59.trans U10 fun _ _ h=>h
  refine l65 _ _ U510 ⟨rfl,l1 _ _ U510 ⟨rfl,l3 _ _ U510 ⟨rfl,l69 _ _ U510 ⟨rfl, ?_⟩⟩⟩⟩
  have S10:=S5.ext U510
  have hbh5:=S5.upd.1
  have vlt:∀ i,bU v i→i<h5.length:=fun i hi=>by obtain ⟨rows,A,_⟩:=S5.arr; exact A.rd.lt hi
  have V1:DV h10 (fun i=>hb.length≤i∧¬ bU v i) (.mk 0 16 true [] [.mk 0 6 false (dG x.2) [],.mk 0 12 false (cP text) []]) [.i .i64 0,.i .i64 16,.b true,.s [],y1]:=by
   have hks:DVs h10 (fun i=>hb.length≤i∧¬ bU v i) [.mk 0 6 false (dG x.2) [],.mk 0 12 false (cP text) []] [cR 0 6 false (dG x.2),cR 0 12 false (cP text)]:=.cons (DV.leaf _ _ _ _ _ _) (.cons (DV.leaf _ _ _ _ _ _) .nil)
   have R6':=R6.upd (((U7.trans U8 fun _ _ h=>h).trans U9 fun _ _ h=>h).trans U10 fun _ _ h=>h) fun _ _ h=>h
   refine .mk hks (.inl (by simpa using R6')) (fun i hi=>⟨⟨by have:=F6 i hi; omega,fun hs=>by have:=F6 i hi; have:=vlt i hs; omega⟩,R6'.lt hi⟩) (by obtain ⟨a,n,cap,rfl⟩:=hy1; rfl)
  have V2:DV h10 (fun i=>hb.length≤i∧¬ bU v i) (gL x.2 text) [.i .i64 0,.i .i64 17,.b true,.s [],y2]:=by
   have hks:=DVs.cons V1 DVs.nil
   have R8':=R8.upd (U9.trans U10 fun _ _ h=>h) fun _ _ h=>h
   have h58:=U57.1
   refine .mk hks (.inl (by simpa using R8')) (fun i hi=>⟨⟨by have:=F8 i hi; omega,fun hs=>by have:=F8 i hi; have:=vlt i hs; omega⟩,R8'.lt hi⟩) (by obtain ⟨a,n,cap,rfl⟩:=hy2; rfl)
  have hkl:(ks0++(cK.take j).flatMap fun x=>if x.1=name then [gL x.2 text] else []).length≤4000:=by
   have:∀ l:List (List UInt8 × List UInt8),(l.flatMap fun x=>if x.1=name then [gL x.2 text] else []).length≤l.length:=by
    intro l
    induction l with
    | nil=>simp
    | cons a l ih =>
     rw [List.flatMap_cons,List.length_append,List.length_cons]
     have:(if a.1=name then [gL a.2 text] else []).length≤1:=by split <;> simp
     omega
   have:=this (cK.take j)
   simp only [List.length_append,List.length_take] at *
   omega
  refine S10.push hkl R10 rfl (by obtain ⟨a,n,cap,rfl⟩:=hy2; rfl) V2 fun v' h11 U11 R11 hv' fin=>?_
  have id65:¬ bU v h3.length:=fun hs=>by
   obtain ⟨rows,A,_⟩:=S2.arr
   have:=A.rd.lt hs; have:=U3.1; omega
  have lo:∀ g,g<h0.length→¬ bU v g:=fun g hg hs=>by have:=S.new g hs; have:=S.ub.1; omega
  have G10:=G.ext S10.low
  have G11:CG h11:=by
   have hu:Upd (fun _=>False) h0 h11:=S10.low.trans U11 fun i hi hs=>(lo i hi hs)
   exact G.ext hu
  refine aT ((R5.upd U510 fun h=>h).upd U11 id65) rfl ⟨rfl, ?_⟩
  refine G11.seq.loadN rfl ⟨rfl,G11.set.loadN rfl ⟨rfl, ?_⟩⟩
  refine aK (b7 R11 rfl (by simp) hv'.1 hv'.2.1 hv'.2.2 fun h12 hl12 U12 R12=>?_)
  refine nxt v' h12 ?_
  have S12:=fin h12 hl12 U12 R12
  rw [htk,List.flatMap_append]
  simp only [List.flatMap_cons,List.flatMap_nil,List.append_nil,if_pos e]
  rw [List.append_assoc] at S12
  exact S12
theorem aDB (part:List UInt8):(kidsOf part).length≤4:=by
 have:∀ l:List (List UInt8 × List UInt8),(l.flatMap fun x=>if x.1=(nZ part 61).1 then [gL x.2 (nZ part 61).2.1] else []).length≤l.length:=by
  intro l
  induction l with
  | nil=>simp
  | cons a l ih =>
   rw [List.flatMap_cons,List.length_append,List.length_cons]
   have:(if a.1=(nZ part 61).1 then [gL a.2 (nZ part 61).2.1] else []).length≤1:=by split <;> simp
   omega
 exact this cK
theorem aAD {part:List UInt8} (hp:part.length≤1000):∀ s∈kidsOf part, ∀ k∈s.kids, ∀ x∈k.kids,x.data.length≤100000:=by
 intro s hs k hk x hx
 unfold kidsOf at hs
 obtain ⟨a,ha,hs⟩:=List.mem_flatMap.1 hs
 split at hs
 ·simp only [List.mem_singleton] at hs
  subst hs
  simp only [gL,Der.kids,List.mem_singleton] at hk
  subst hk
  simp only [Der.kids,List.mem_cons,List.not_mem_nil,or_false] at hx
  rcases hx with rfl | rfl
  ·have := (lF a ha).2
   simp only [Der.data]; omega
  ·have h1 := pF (nZ part 61).2.1
   have h2:(nZ part 61).2.1.length≤part.length:=by unfold nZ; split <;> simp
   simp only [Der.data]; omega
 ·cases hs
theorem jL : ∀ (cur s : List UInt8), ∀ x ∈ bM cur s, x.length ≤ cur.length + s.length
 | cur,[],x,hx=>by simp [bM] at hx; subst hx; simp
 | cur, [c], x, hx => by
  unfold bM at hx
  split at hx
  ·simp at hx; rcases hx with rfl | rfl <;> simp
  ·simp at hx; subst hx; simp
 | cur, c :: d :: r, x, hx => by
  unfold bM at hx
  split at hx
  ·have := jL (cur ++ [c, d]) r x hx
   simp at this ⊢; omega
  ·split at hx
   ·rcases List.mem_cons.1 hx with rfl | hx
    ·simp
    ·have := jL [] (d :: r) x hx
     simp at this ⊢; omega
   ·have := jL (cur ++ [c]) (d :: r) x hx
    simp at this ⊢; omega
def aNT (h:aA) (Q:AV→aA→Prop) (r:Der × Int):Prop:=∀ h' cs,Upd (fun _=>False) h h'→DV h' (fun i=>h.length≤i) r.1 cs→Q (.tu [.ag cs,.i .i64 r.2]) h'
theorem uY {h0 hb hx:aA} {id0 id1:Nat} {v:AV} {ks:List Der} (S:NSt h0 hb hx id0 id1 v ks) {bad:Bool} (hq:aNT h0 Q (if bad=true then (Der.zero,5) else (hC ks,0))) :
  Y13.p3 (aL h0 Q) (.p (some ⟨id0,5,0⟩)) (.p (some ⟨id1,5,0⟩)) bad hx:=by
 refine Y13.i3 ?_
 simp only [Y13.t3]
 have hid0:=S.n0
 cases bad with
 | true =>
  refine aO rfl ?_
  refine aW S.r0 rfl rfl rfl fun h1 hl1 U1 R1=>aT R1 rfl ?_
  exact .inl (hq h1 z5 (S.low.trans U1 fun i hi e=>by omega) (DV.zero _ _))
 | false =>
  refine aN rfl (aT S.r1 rfl ?_)
  have V:=S.val
  refine aW S.r0 rfl rfl V.cells' fun h1 hl1 U1 R1=>aT R1 rfl ?_
  refine .inl (hq h1 _ (S.low.trans U1 fun i hi e=>by omega) ?_)
  have S1:DV h1 (fun i=>h0.length≤i) (hC ks) [.i .i64 0,.i .i64 16,.b true,.s [],v]:=by
   obtain ⟨rows,A,D⟩:=S.arr
   have hl0:=S.l0
   have hb0:=S.ub.1
   have A1:=A.upd U1 fun i hi e=>by have:=S.new i hi; omega
   exact .mk (D.upd U1 fun i hi _=>⟨by omega,by omega⟩) (.inl A1.rd) (fun i hi=>⟨by have:=S.new i hi; omega,A1.rd.lt hi⟩) (Arr.cell A).2.2
  exact S1
theorem aH0 {h0 hb : aA} (G : CG h0) {id0 id1 : Nat} {s : List UInt8} (hs : s.length ≤ 512) {x26 : AV} (P26 : Rd 1 hb x26 ((bM [] s).map .s) (bM [] s).length) (hid1 : ¬ bU x26 id1) (hne : s ≠ [])
  (hq:aNT h0 Q (bK s)) :
  ∀ (r:List (List UInt8)) (i:Nat) (v:AV) (hx:aA),(bM [] s).drop i=r→i≤(bM [] s).length→NSt h0 hb hx id0 id1 v (((bM [] s).take i).flatMap kidsOf) →
  Y13.p0 (aL h0 Q) s (.p (some ⟨id0,5,0⟩)) (.p (some ⟨id1,5,0⟩)) x26 ((bM [] s).length:Int) (i:Int) hx:=by
 have hpl:=iB [] s
 have hpm:=jL [] s
 have fl:∀ l:List (List UInt8),(l.flatMap kidsOf).length≤4 * l.length:=by
  intro l
  induction l with
  | nil=>simp
  | cons a l ih =>
   have:=aDB a
   rw [List.flatMap_cons,List.length_append,List.length_cons]; omega
 intro r
 induction r with
 | nil =>
  intro i v hx hr hi S
  have hle:=cA hr
  refine Y13.i0 ?_
  simp only [Y13.t0, ← Y13.p3.eq_1]
  refine aN (decide_eq_false (by omega)) ?_
  rw [List.take_of_length_le hle] at S
  have hsh:o0 (hC ((bM [] s).flatMap kidsOf)):=by
   refine ⟨?_,fun t ht k hk x hx=>?_⟩
   ·have := fl (bM [] s)
    show ((bM [] s).flatMap kidsOf).length≤4000
    omega
   ·have ht : t ∈ (bM [] s).flatMap kidsOf := ht
    obtain ⟨part,hp,ht⟩:=List.mem_flatMap.1 ht
    exact aAD (by have:=hpm part hp; simp at this; omega) t ht k hk x hx
  refine aT S.r1 rfl ?_
  refine aJL (G.ext S.low) S.val hsh ?_
  have hnf:bK s=if cF (hC ((bM [] s).flatMap kidsOf))=some s then (hC ((bM [] s).flatMap kidsOf),0) else (.zero,5):=by
   unfold bK
   rw [if_neg (by omega),if_neg hne]
  rw [hnf] at hq
  cases hN:cF (hC ((bM [] s).flatMap kidsOf)) with
  | none =>
   rw [hN,if_neg (by simp)] at hq
   simp only [pT]
   refine aY (bA (aZ (aQ (aO rfl ?_))))
   exact uY S (bad:=true) (by rw [if_pos rfl]; exact hq)
  | some t =>
   rw [hN] at hq
   simp only [pT]
   refine aY (bA (aZ (aQ (aN rfl ?_))))
   refine uY S ?_
   by_cases hts:t=s
   ·subst hts
    rw [if_pos rfl] at hq
    rw [if_neg (by simp)]; exact hq
   ·rw [if_neg (by simpa using hts)] at hq
    rw [if_pos (by simpa using hts)]; exact hq
 | cons part r ih =>
  intro i v hx hr hi S
  have hlt:=cG hr
  have hnx:=b3 hr
  have hpi:=b4 hr
  have hpp:=hpm part (List.mem_of_getElem? hpi)
  simp only [List.length_nil,Nat.zero_add] at hpp
  have htk:=dH hpi
  refine Y13.i0 ?_
  simp only [Y13.t0, ← Y13.p1.eq_1]
  refine aO (decide_eq_true (by omega)) ?_
  have P1:=P26.upd S.upd fun j hj e=>hid1 (e ▸ hj)
  refine P1.cell (by decide) hlt (by rw [Nat.mul_one,List.getElem?_map,hpi] <;> rfl) (bA ?_)
  refine aOZ (by omega) ?_
  refine aY (bA (aZ (bA (gW (aS ?_)))))
  obtain ⟨va,g1,g2⟩:=G.att
  refine (g1.upd S.low fun h=>h).load1 ((g2.ext S.low).len ?_)
  have hk0:=fl ((bM [] s).take i)
  have htl:(nZ part 61).2.1.length≤part.length:=by unfold nZ; split <;> simp
  have htk2:((bM [] s).take i).length≤(bM [] s).length:=by rw [List.length_take]; omega
  refine aHD (ks0:=((bM [] s).take i).flatMap kidsOf) G g1 g2 (by omega) (by omega) (fun v' h' S'=>?_) 4 0 v hx rfl (by simpa using S)
  refine inc (by omega) (ih (i+1) v' h' hnx (by omega) ?_)
  rw [htk,List.flatMap_append]
  simpa [kidsOf] using S'
theorem lK {s:List UInt8} (G:CG h) (hs:s.length≤9223372036854775807) (hq:aNT h Q (bK s)):C Y13.id [.s s] h Q:=by
 refine Y13.call ?_
 simp only [Y13.t, ← Y13.p0.eq_1]
 refine bR fun h1 hl1 U1 R1=>?_
 refine aG (fun e=>?_) fun e=>?_
 ·have e : 512 < s.length := by have := of_decide_eq_true e; omega
  refine aW R1 rfl rfl rfl fun h2 hl2 U2 R2=>aT R2 rfl (.inl ?_)
  unfold bK at hq
  rw [if_pos e] at hq
  exact hq h2 z5 (U1.trans U2 fun i hi e=>by omega) (DV.zero _ _)
 ·have e : s.length ≤ 512 := by have := of_decide_eq_false e; omega
  refine (G.ext U1).seq.loadN rfl ?_
  refine r8 ⟨none,0,none,rfl⟩ fun h2 U2=>?_
  have U02:=U1.trans U2 fun _ _ h=>h
  refine bR fun h3 hl3 U3 R3=>?_
  refine aW R3 rfl rfl rfl fun h4 hl4 U4 R4=>?_
  have U24:Upd (fun _=>False) h2 h4:=U3.trans U4 fun i hi e=>by omega
  have U04:=U02.trans U24 fun _ _ h=>h
  have hh1:=U2.1
  refine aG (fun e2=>?_) fun e2=>?_
  ·have e2 := of_decide_eq_true e2
   unfold bK at hq
   rw [if_neg (by omega),if_pos e2] at hq
   refine aT R4 rfl ?_
   refine aW ((R1.upd U2 fun h=>h).upd U24 fun h=>h) rfl rfl rfl fun h5 hl5 U5 R5=>aT R5 rfl (.inl ?_)
   exact hq h5 _ (U04.trans U5 fun i hi e=>by omega) (DV.leaf _ _ _ _ _ _)
  ·have e2 := of_decide_eq_false e2
   refine aCG (by omega) fun v h5 N5=>?_
   have hrd:=N5.stk.rd
   rw [List.length_map] at hrd
   refine hrd.len ?_
   have hlt:h2.length<h4.length:=by omega
   have U45:=N5.upd
   refine aH0 (hb:=h5) G e hrd (fun hi=>by have:=N5.new _ hi; omega) e2 hq (bM [] s) 0 _ h5 rfl (by omega) ⟨U04.trans U45 fun _ _ h=>h,Upd.refl _ _,Nat.le_refl _,by omega,by have:=U45.1; omega,by have:=U45.1; omega,by omega,((R1.upd U2 fun h=>h).upd U24 fun h=>h).upd U45 fun h=>h,R4.upd U45 fun h=>h,⟨[],Arr.nil _ _,.nil⟩,fun i hi=>hi.elim⟩
def tY:List (List UInt8)→List UInt8
 | []=>[]
 | p :: r=>if kR p [67,78,61]=true then cP (p.drop 3) else tY r
def zO (s:List UInt8):List UInt8:=if (bK s).2=0 then tY (bM [] s) else []
theorem aIX {s : List UInt8} (G : CG h) (hs : s.length ≤ 9223372036854775807) (hq : Q (.s (zO s)) h) : C Y51.id [.s s] h Q := by
 refine Y51.call ?_
 simp only [Y51.t, ← Y51.p0.eq_1]
 refine lK G hs fun h1 cs U1 D1=>?_
 refine aY (aZ (aQ ?_))
 refine bR fun h2 hl2 U2 R2=>?_
 refine aW R2 rfl D1.len D1.cells' fun h3 hl3 U3 R3=>?_
 have U03:Upd (fun _=>False) h h3:=(U1.trans U2 fun _ _ h=>h).trans U3 fun i hi e=>by have:=U1.1; omega
 unfold zO at hq
 refine aG (fun e=>?_) fun e=>?_
 ·have e : (bK s).2 ≠ 0 := by simpa using e
  rw [if_neg e] at hq
  exact aU rfl U03.ext hq
 ·have e : (bK s).2 = 0 := by simpa using e
  rw [if_pos e] at hq
  have hs5:s.length≤512:=by
   apply Classical.byContradiction
   intro hh
   unfold bK at e
   rw [if_pos (by omega)] at e
   cases e
  refine aCG (by omega) fun v h4 N4=>?_
  have hrd:=N4.stk.rd
  rw [List.length_map] at hrd
  refine hrd.len ?_
  have hpm:=jL [] s
  have U04:=U03.trans N4.upd fun _ _ h=>h
  have go:∀ (r:List (List UInt8)) (i:Nat),(bM [] s).drop i=r→i≤(bM [] s).length→Q (.s (tY r)) h→Y51.p0 (aL h Q) v ((bM [] s).length:Int) (i:Int) h4:=by
   have hpl:=iB [] s
   intro r
   induction r with
   | nil =>
    intro i hr hi hq
    have:=cA hr
    refine Y51.i0 ?_
    simp only [Y51.t0]
    exact aN (decide_eq_false (by omega)) (aU rfl U04.ext hq)
   | cons p r ih =>
    intro i hr hi hq
    have hlt:=cG hr
    have hpi:=b4 hr
    have hpp:=hpm p (List.mem_of_getElem? hpi)
    simp only [List.length_nil,Nat.zero_add] at hpp
    refine Y51.i0 ?_
    simp only [Y51.t0, ← Y51.p0.eq_1]
    refine aO (decide_eq_true (by omega)) ?_
    refine hrd.cell (by decide) hlt (by rw [Nat.mul_one,List.getElem?_map,hpi] <;> rfl) (bA ?_)
    refine aBB (by omega) ?_
    refine aY (bA (aZ (aS ?_)))
    unfold tY at hq
    refine aG (fun e=>?_) fun e=>?_
    ·rw [if_pos e] at hq
     rw [if_pos e]
     exact aBU (by simp; omega) (bA (aU rfl U04.ext hq))
    ·rw [if_neg (by rw [e]; simp)] at hq
     exact inc (by omega) (ih (i+1) (b3 hr) (by omega) hq)
  exact go _ 0 rfl (by omega) hq
end
end Go.Proofs.YtcdkpkkdolmfdaaGreatDoor
namespace Go.Proofs.YtcdkpkkdolmfdaaGreatDoor
open Go.GAM Go.RowKit
section
variable {h:aA} {Q:AV→aA→Prop}
def oP (t:List UInt8):Bool:=decide (t=[67,78])||(decide (t=[79])||(decide (t=[79,85])||decide (t=[67])))
end
end Go.Proofs.YtcdkpkkdolmfdaaGreatDoor
namespace Go.Proofs.YtcdkpkkdolmfdaaGreatDoor
open Go.GAM Go.RowKit
section
variable {h:aA} {Q:AV→aA→Prop}
end
end Go.Proofs.YtcdkpkkdolmfdaaGreatDoor
namespace Go.Proofs.YtcdkpkkdolmfdaaGreatDoor
open Go.GAM Go.RowKit
abbrev Att:=List UInt8 × List UInt8
def aEB (c:UInt8):Bool:=decide (c=61) || !fP c
def fW:List UInt8→Option (List UInt8 × List UInt8)
 | []=>some ([],[])
 | [c]=>if c=44 then some ([],[c]) else if aEB c=true∨c=92 then none else some ([c],[])
 | c :: d :: r => if c = 44 then some ([], c :: d :: r) else if aEB c = true then none else
   if c=92 then (if d∈sps then (fW r).map fun p=>(d :: p.1,p.2) else none) else (fW (d :: r)).map fun p=>(c :: p.1,p.2)
def jP : Nat → List UInt8 → Option (List Att)
 | 0,_=>none
 | n + 1, s => if oP (s.takeWhile (· ≠ 61)) = false ∨ s.dropWhile (· ≠ 61) = [] then none else match fW ((s.dropWhile (· ≠ 61)).drop 1) with
  | none=>none
  | some (v,[])=>some [(s.takeWhile (· ≠ 61),v)]
  | some (v,_ :: r)=>(jP n r).map ((s.takeWhile (· ≠ 61),v) :: ·)
def rY (s:List UInt8):Option (List Att):=if s=[] then some [] else jP (s.length+1) s
def eJ (a:Att):List UInt8:=(a.1++[61])++bW sps a.2
def okA (a:Att):Prop:=oP a.1=true∧a.2.all fP=true
def gN (l:List Att):List UInt8:=Lib.join (l.map eJ) [44]
theorem oJ (a:Att):gN [a]=eJ a:=by unfold gN; simp [Lib.join_cons,Lib.joinTail]
theorem jK (a b:Att) (l:List Att):gN (a :: b :: l)=eJ a++44 :: gN (b :: l):=by
 unfold gN; simp [Lib.join_cons,Lib.joinTail]
theorem aIJ {c:UInt8} (h:c∈sps):fP c=true:=by
 simp only [sps,List.mem_cons,List.not_mem_nil,or_false] at h
 rcases h with rfl | rfl | rfl <;> rfl
theorem qT {c:UInt8}:c∈sps↔c=92∨c=44∨c=61:=by simp [sps]
theorem iG (c:UInt8) (v:List UInt8):bW sps (c :: v)=(if c∈sps then [92,c] else [c])++bW sps v:=rfl
theorem aDZ (c:UInt8) (X:List UInt8) (h:c ∉ sps) (ht:fP c=true):fW (c :: X)=(fW X).map fun p=>(c :: p.1,p.2):=by
 rw [qT] at h
 have h1:c≠92:=fun e=>h (.inl e)
 have h2:c≠44:=fun e=>h (.inr (.inl e))
 have h3:c≠61:=fun e=>h (.inr (.inr e))
 have hb:aEB c=false:=by unfold aEB; rw [decide_eq_false h3,ht] <;> rfl
 cases X with
 | nil=>unfold fW; rw [if_neg h2,if_neg (by rw [hb]; simp [h1])] <;> rfl
 | cons d r=>rw [fW,if_neg h2,if_neg (by rw [hb]; simp),if_neg h1]
theorem aGU (c:UInt8) (X:List UInt8) (h:c∈sps):fW (92 :: c :: X)=(fW X).map fun p=>(c :: p.1,p.2):=by
 rw [fW,if_neg (by decide),if_neg (by decide),if_pos rfl,if_pos h]
theorem mA:∀ (v r:List UInt8),v.all fP=true→(r=[]∨∃ r',r=44 :: r')→fW (bW sps v++r)=some (v,r)
 | [], r, _, hr => by
  rcases hr with rfl | ⟨r',rfl⟩
  ·rfl
  ·cases r' <;> rfl
 | c :: v, r, hv, hr => by
  simp only [List.all_cons,Bool.and_eq_true] at hv
  rw [iG]
  by_cases h:c∈sps
  ·rw [if_pos h]
   show fW (92 :: c :: (bW sps v++r))=_
   rw [aGU c _ h,mA v r hv.2 hr] <;> rfl
  ·rw [if_neg h]
   show fW (c :: (bW sps v++r))=_
   rw [aDZ c _ h hv.1,mA v r hv.2 hr] <;> rfl
theorem rH : ∀ (s : List UInt8) (v r : List UInt8), fW s = some (v, r) → s = bW sps v ++ r ∧ v.all fP = true ∧ (r = [] ∨ ∃ r', r = 44 :: r')
 | [], v, r, h => by
  unfold fW at h; cases h
  exact ⟨rfl,rfl,.inl rfl⟩
 | [c], v, r, h => by
  unfold fW at h
  split at h
  ·rename_i e; subst e; cases h
   exact ⟨rfl,rfl,.inr ⟨[],rfl⟩⟩
  ·rename_i e
   split at h
   ·cases h
   ·rename_i e2
    cases h
    have hb:¬ aEB c=true:=fun e=>e2 (.inl e)
    have h92:c≠92:=fun e=>e2 (.inr e)
    unfold aEB at hb
    simp only [Bool.or_eq_true,decide_eq_true_eq,Bool.not_eq_true',not_or] at hb
    have ht:fP c=true:=by simpa using hb.2
    have hs:c ∉ sps:=fun h=>by
     rcases qT.1 h with h | h | h
     ·exact h92 h
     ·exact e h
     ·exact hb.1 h
    refine ⟨?_,by simp [ht],.inl rfl⟩
    rw [iG,if_neg hs] <;> rfl
 | c :: d :: r0, v, r, h => by
  rw [fW] at h
  split at h
  ·rename_i e; subst e; cases h
   exact ⟨rfl,rfl,.inr ⟨_,rfl⟩⟩
  ·rename_i e
   split at h
   ·cases h
   ·rename_i hb
    unfold aEB at hb
    simp only [Bool.or_eq_true,decide_eq_true_eq,Bool.not_eq_true',not_or] at hb
    have ht:fP c=true:=by simpa using hb.2
    split at h
    ·rename_i e92
     subst e92
     split at h
     ·rename_i hd
      cases hs:fW r0 with
      | none=>rw [hs] at h; cases h
      | some p =>
       obtain ⟨v',r'⟩:=p
       rw [hs] at h; cases h
       obtain ⟨h1,h2,h3⟩:=rH r0 v' r' hs
       refine ⟨?_,by simp [h2,aIJ hd],h3⟩
       rw [iG,if_pos hd]
       show 92 :: d :: r0=92 :: d :: (bW sps v'++r')
       rw [h1]
     ·cases h
    ·rename_i h92
     cases hs:fW (d :: r0) with
     | none=>rw [hs] at h; cases h
     | some p =>
      obtain ⟨v',r'⟩:=p
      rw [hs] at h; cases h
      obtain ⟨h1,h2,h3⟩:=rH (d :: r0) v' r' hs
      have hns:c ∉ sps:=fun h=>by
       rcases qT.1 h with h | h | h
       ·exact h92 h
       ·exact e h
       ·exact hb.1 h
      refine ⟨?_,by simp [h2,ht],h3⟩
      rw [iG,if_neg hns]
      show c :: d :: r0=c :: (bW sps v'++r')
      rw [h1]
theorem fI {t:List UInt8} (h:oP t=true):t=[67,78]∨t=[79]∨t=[79,85]∨t=[67]:=by
 unfold oP at h
 simp only [Bool.or_eq_true,decide_eq_true_eq] at h
 exact h
theorem rF {t X:List UInt8} (h:oP t=true):(t++61 :: X).takeWhile (· ≠ 61)=t∧(t++61 :: X).dropWhile (· ≠ 61)=61 :: X:=by
 rcases fI h with rfl | rfl | rfl | rfl <;> exact ⟨by simp [List.takeWhile],by simp [List.dropWhile]⟩
theorem nF : ∀ (n : Nat) (s : List UInt8) (l : List Att), jP n s = some l → s = gN l ∧ (∀ a ∈ l, okA a) ∧ l ≠ []
 | 0,s,l,h=>by cases h
 | n + 1, s, l, h => by
  unfold jP at h
  split at h
  ·cases h
  ·rename_i e
   rw [not_or] at e
   obtain ⟨e1,e2⟩:=e
   have e1:oP (s.takeWhile (· ≠ 61))=true:=by simpa using e1
   have hs:s.takeWhile (· ≠ 61)++s.dropWhile (· ≠ 61)=s:=List.takeWhile_append_dropWhile
   obtain ⟨c,X,hX⟩:∃ c X,s.dropWhile (· ≠ 61)=c :: X:=by
    cases hd:s.dropWhile (· ≠ 61) with
    | nil=>exact absurd hd e2
    | cons c X=>exact ⟨c,X,rfl⟩
   have hc:c=61:=by
    have:=List.head?_dropWhile_not (fun x:UInt8=>decide (x≠61)) s
    rw [hX] at this
    simpa using this
   subst hc
   generalize ht:s.takeWhile (· ≠ 61)=t at *
   rw [hX] at h hs
   have one:∀ v:List UInt8,eJ (t,v)=t++61 :: bW sps v:=fun v=>by simp [eJ]
   split at h
   ·cases h
   ·rename_i v hv
    cases h
    obtain ⟨h1,h2,h3⟩:=rH _ _ _ hv
    refine ⟨?_,fun a ha=>by cases List.mem_singleton.1 ha; exact ⟨e1,h2⟩,by simp⟩
    rw [oJ,one, ← hs]
    have h1:X=bW sps v++[]:=h1
    rw [h1,List.append_nil]
   ·rename_i v c r hv
    obtain ⟨h1,h2,h3⟩:=rH _ _ _ hv
    have h3:c=44:=by rcases h3 with h | ⟨r',h⟩ <;> cases h; rfl
    subst h3
    cases hr:jP n r with
    | none=>rw [hr] at h; cases h
    | some l' =>
     rw [hr] at h; cases h
     obtain ⟨g1,g2,g3⟩:=nF n r l' hr
     refine ⟨?_,fun a ha=>?_,by simp⟩
     ·cases l' with
      | nil=>exact absurd rfl g3
      | cons b l' =>
       rw [jK,one, ← g1, ← hs]
       have h1:X=bW sps v++44 :: r:=h1
       rw [h1,List.append_assoc] <;> rfl
     ·rcases List.mem_cons.1 ha with rfl | ha
      ·exact ⟨e1,h2⟩
      ·exact g2 a ha
theorem vL:∀ (l:List Att) (n:Nat),(∀ a∈l,okA a)→l≠[]→l.length≤n→jP n (gN l)=some l
 | [],n,_,h,_=>absurd rfl h
 | [a], n, ha, _, hn => by
  obtain ⟨n,rfl⟩:∃ m,n=m+1:=⟨n - 1,by simp at hn; omega⟩
  obtain ⟨h1,h2⟩:=ha a (by simp)
  have hv:=mA a.2 [] h2 (.inl rfl)
  rw [List.append_nil] at hv
  rw [oJ,show eJ a=a.1++61 :: bW sps a.2 by simp [eJ]]
  unfold jP
  rw [(rF h1).1,(rF h1).2,if_neg (by rw [h1]; simp)]
  show (match fW (bW sps a.2) with
   | none=>none
   | some (v,[])=>some [(a.1,v)]
   | some (v,_ :: r)=>(jP n r).map ((a.1,v) :: ·))=_
  rw [hv]
 | a :: b :: l, n, ha, _, hn => by
  obtain ⟨n,rfl⟩:∃ m,n=m+1:=⟨n - 1,by simp at hn; omega⟩
  obtain ⟨h1,h2⟩:=ha a (by simp)
  have ih:=vL (b :: l) n (fun x hx=>ha x (by simp [List.mem_cons.1 hx])) (by simp) (by simp at hn ⊢; omega)
  have hv:=mA a.2 (44 :: gN (b :: l)) h2 (.inr ⟨_,rfl⟩)
  rw [jK,show eJ a++44 :: gN (b :: l)=a.1++61 :: (bW sps a.2++44 :: gN (b :: l)) by simp [eJ]]
  unfold jP
  rw [(rF h1).1,(rF h1).2,if_neg (by rw [h1]; simp)]
  show (match fW (bW sps a.2++44 :: gN (b :: l)) with
   | none=>none
   | some (v,[])=>some [(a.1,v)]
   | some (v,_ :: r)=>(jP n r).map ((a.1,v) :: ·))=_
  rw [hv]
  show (jP n (gN (b :: l))).map ((a.1,a.2) :: ·)=_
  rw [ih] <;> rfl
theorem dD (c:UInt8) (cur X:List UInt8) (h1:c≠92) (h2:c≠44):bM cur (c :: X)=bM (cur++[c]) X:=by
 cases X with
 | nil=>unfold bM; rw [if_neg h2]
 | cons d r =>
  conv=>lhs; unfold bM
  rw [if_neg h1,if_neg h2]
theorem aD4 (c:UInt8) (cur X:List UInt8):bM cur (92 :: c :: X)=bM (cur++[92,c]) X:=by
 conv=>lhs; unfold bM
 rw [if_pos rfl]
theorem aAK (cur X:List UInt8):bM cur (44 :: X)=cur :: bM [] X:=by
 cases X with
 | nil=>rfl
 | cons d r =>
  conv=>lhs; unfold bM
  rw [if_neg (by decide),if_pos rfl]
theorem hH:∀ (v cur X:List UInt8),bM cur (bW sps v++X)=bM (cur++bW sps v) X
 | [],cur,X=>by simp [rC]
 | c :: v, cur, X => by
  rw [iG]
  by_cases h:c∈sps
  ·rw [if_pos h]
   show bM cur (92 :: c :: (bW sps v++X))=_
   rw [aD4,hH v,List.append_assoc]
  ·rw [if_neg h]
   show bM cur (c :: (bW sps v++X))=_
   rw [qT,not_or,not_or] at h
   rw [dD c _ _ h.1 h.2.1,hH v,List.append_assoc]
theorem vC {a:Att} (h:oP a.1=true) (X:List UInt8):bM [] (eJ a++X)=bM (eJ a) X:=by
 obtain ⟨t,v⟩:=a
 show bM [] (((t++[61])++bW sps v)++X)=bM ((t++[61])++bW sps v) X
 rcases fI h with rfl | rfl | rfl | rfl
 ·show bM [] (67 :: 78 :: 61 :: (bW sps v ++ X)) = _
  rw [dD _ _ _ (by decide) (by decide),dD _ _ _ (by decide) (by decide),dD _ _ _ (by decide) (by decide),hH] <;> rfl
 ·show bM [] (79 :: 61 :: (bW sps v ++ X)) = _
  rw [dD _ _ _ (by decide) (by decide),dD _ _ _ (by decide) (by decide),hH] <;> rfl
 ·show bM [] (79 :: 85 :: 61 :: (bW sps v ++ X)) = _
  rw [dD _ _ _ (by decide) (by decide),dD _ _ _ (by decide) (by decide),dD _ _ _ (by decide) (by decide),hH] <;> rfl
 ·show bM [] (67 :: 61 :: (bW sps v ++ X)) = _
  rw [dD _ _ _ (by decide) (by decide),dD _ _ _ (by decide) (by decide),hH] <;> rfl
theorem kA:∀ l:List Att,(∀ a∈l,okA a)→l≠[]→bM [] (gN l)=l.map eJ
 | [],_,h=>absurd rfl h
 | [a], ha, _ => by
  have:=vC (ha a (by simp)).1 []
  rw [List.append_nil] at this
  rw [oJ,this] <;> rfl
 | a :: b :: l, ha, _ => by
  rw [jK,vC (ha a (by simp)).1,aAK,kA (b :: l) (fun x hx=>ha x (by simp [List.mem_cons.1 hx])) (by simp)] <;> rfl
theorem o3:∀ v:List UInt8,cP (bW sps v)=v
 | []=>rfl
 | c :: v => by
  have ih:=o3 v
  rw [iG]
  by_cases h:c∈sps
  ·rw [if_pos h]
   show cP (92 :: c :: bW sps v)=_
   rw [cP,if_pos rfl,ih]
  ·rw [if_neg h]
   show cP (c :: bW sps v)=_
   rw [qT,not_or] at h
   cases hX:bW sps v with
   | nil=>rw [hX] at ih; rw [← ih] <;> rfl
   | cons d r=>rw [cP,if_neg h.1, ← hX,ih]
theorem aLV {a:Att} (h:oP a.1=true):nZ (eJ a) 61=(a.1,bW sps a.2,true):=by
 obtain ⟨t,v⟩:=a
 have key:Lib.indexByte (eJ (t,v)) 61=(t.length:Int):=by
  show Lib.indexByte ((t++[61])++bW sps v) 61=_
  rcases fI h with rfl | rfl | rfl | rfl <;> simp [Lib.indexByte]
 unfold nZ
 rw [key,if_pos (by omega)]
 have e:eJ (t,v)=t++61 :: bW sps v:=by simp [eJ]
 rw [e]
 simp
def nU (t:List UInt8):List UInt8:=cK.foldr (fun x n=>if x.1=t then x.2 else n) []
theorem pY {t:List UInt8} (h:oP t=true):(t,nU t)∈cK:=by
 rcases fI h with rfl | rfl | rfl | rfl <;> decide +kernel
theorem aN6 {x:Att} (h:x∈cK):oP x.1=true:=by
 simp only [cK,List.mem_cons,List.not_mem_nil,or_false] at h
 rcases h with rfl | rfl | rfl | rfl <;> rfl
theorem aMI {x:Att} (h:x∈cK):(eB (.mk 0 6 false (dG x.2) [])).2=true∧gU (eB (.mk 0 6 false (dG x.2) [])).1=x.1:=by
 simp only [cK,List.mem_cons,List.not_mem_nil,or_false] at h
 rcases h with rfl | rfl | rfl | rfl <;> exact ⟨by kernel_rfl,by kernel_rfl⟩
theorem aK9:∀ t:List UInt8,oP t=true→∀ X,(cK.flatMap fun x=>if x.1=t then [gL x.2 X] else [])=[gL (nU t) X]:=by
 intro t ht X
 rcases fI ht with rfl | rfl | rfl | rfl <;> rfl
theorem xX {a:Att} (h:oP a.1=true):kidsOf (eJ a)=[gL (nU a.1) (bW sps a.2)]:=by
 unfold kidsOf
 rw [aLV h]
 exact aK9 a.1 h _
theorem aF1 {x:Att} (h:x∈cK) (X:List UInt8):k6 (gL x.2 X)=if (cP X).all fP=true then some (eJ (x.1,cP X)) else none:=by
 obtain ⟨h1,h2⟩:=aMI h
 show gK (.mk 0 6 false (dG x.2) []) (.mk 0 12 false (cP X) [])=_
 unfold gK
 rw [h1,h2]
 have hd:eY (.mk 0 12 false (cP X) [])=if (cP X).all fP=true then (cP X,true) else ([],false):=by
  unfold eY
  show (if (true||_)=true∧(cP X).all fP=true then _ else _)=_
  rw [Bool.true_or]
  simp only [true_and]
  rfl
 rw [hd]
 have hne:x.1≠[]:=by
  simp only [cK,List.mem_cons,List.not_mem_nil,or_false] at h
  rcases h with rfl | rfl | rfl | rfl <;> decide
 split
 ·rw [if_pos ⟨rfl,rfl,hne⟩] <;> rfl
 ·rw [if_neg (by rintro ⟨_,h,_⟩; cases h)]
theorem wG:∀ l:List Att,(∀ a∈l,okA a)→fO ((l.map eJ).flatMap kidsOf)=some (l.map eJ)
 | [],_=>rfl
 | a :: l, ha => by
  have ih:=wG l fun x hx=>ha x (by simp [hx])
  obtain ⟨h1,h2⟩:=ha a (by simp)
  rw [List.map_cons,List.flatMap_cons,xX h1]
  show fO (gL (nU a.1) (bW sps a.2) :: (l.map eJ).flatMap kidsOf)=_
  unfold fO
  have:=aF1 (pY h1) (bW sps a.2)
  rw [o3,if_pos h2] at this
  rw [show k6 (gL (nU a.1) (bW sps a.2))=some (eJ a) from this,ih]
theorem aEN {l:List Att} (h:∀ a∈l,okA a):cF (hC ((l.map eJ).flatMap kidsOf))=some (gN l):=by
 unfold cF
 show (if true=true then (fO ((l.map eJ).flatMap kidsOf)).map (fun l=>Lib.join l [44]) else none)=_
 rw [if_pos rfl,wG l h] <;> rfl
theorem aCX : ∀ (ks : List Der) (xs : List (List UInt8)), fO ks = some xs → (∀ k ∈ ks, ∃ x X, x ∈ cK ∧ k = gL x.2 X) → ∃ l : List Att, xs = l.map eJ ∧ ∀ a ∈ l, okA a
 | [],xs,h,_=>by unfold fO at h; cases h; exact ⟨[],rfl,by simp⟩
 | k :: ks, xs, h, hk => by
  obtain ⟨x,X,hx,rfl⟩:=hk k (by simp)
  unfold fO at h
  rw [aF1 hx] at h
  split at h
  ·cases h
  ·rename_i y hy
   split at hy
   ·rename_i ht
    cases hy
    split at h
    ·cases h
    ·rename_i l' hl'
     cases h
     obtain ⟨l,rfl,hl⟩:=aCX ks l' hl' fun k hk'=>hk k (by simp [hk'])
     refine ⟨(x.1,cP X) :: l,rfl,fun a ha=>?_⟩
     rcases List.mem_cons.1 ha with rfl | ha
     ·exact ⟨aN6 (x:=x) hx,ht⟩
     ·exact hl a ha
   ·cases hy
theorem xV {s : List UInt8} (hne : s ≠ []) (hl : s.length ≤ 512) : (∃ l, jP (s.length + 1) s = some l ∧ s = gN l ∧ (∀ a ∈ l, okA a) ∧ l ≠ [] ∧ (bK s).2 = 0) ∨ (jP (s.length + 1) s = none ∧ (bK s).2 = 5) := by
 cases hs:jP (s.length+1) s with
 | some l =>
  obtain ⟨h1,h2,h3⟩:=nF _ _ _ hs
  refine .inl ⟨l,rfl,h1,h2,h3, ?_⟩
  unfold bK
  rw [if_neg (by omega),if_neg hne,if_pos (by rw [h1,kA l h2 h3]; exact aEN h2)]
 | none =>
  refine .inr ⟨rfl, ?_⟩
  unfold bK
  rw [if_neg (by omega),if_neg hne]
  split
  ·rename_i h
   exfalso
   unfold cF at h
   have h:((fO ((bM [] s).flatMap kidsOf)).map fun l=>Lib.join l [44])=some s:=h
   cases hk:fO ((bM [] s).flatMap kidsOf) with
   | none=>rw [hk] at h; cases h
   | some xs =>
    rw [hk] at h
    have h:Lib.join xs [44]=s:=Option.some.inj h
    obtain ⟨l,rfl,hl'⟩:=aCX _ _ hk fun k hk'=>by
     obtain ⟨p,hp,hp2⟩:=List.mem_flatMap.1 hk'
     unfold kidsOf at hp2
     obtain ⟨x,hx,hx2⟩:=List.mem_flatMap.1 hp2
     split at hx2
     ·exact ⟨x,_,hx,List.mem_singleton.1 hx2⟩
     ·cases hx2
    have hl0:l≠[]:=by
     rintro rfl
     exact hne (by rw [← h]; exact Lib.join_nil _)
    have h:gN l=s:=h
    have hlen:l.length≤s.length+1:=by
     have:=iB [] s
     rw [← h,kA l hl' hl0] at this
     rw [← h]; simpa using this
    have:=vL l (s.length+1) hl' hl0 hlen
    rw [h,hs] at this
    cases this
  ·rfl
end Go.Proofs.YtcdkpkkdolmfdaaGreatDoor
namespace Go.Proofs.YtcdkpkkdolmfdaaGreatDoor
open Go.GAM Go.RowKit
section
variable {h0:aA} {Q:AV→aA→Prop} {s:List UInt8} {x4:AV} {done:List Att} {t:List UInt8} {h:aA}
end
end Go.Proofs.YtcdkpkkdolmfdaaGreatDoor
namespace Go.GAM
theorem dC {id ver off o:Nat} {K:AV→Prop}:aC o (.p (some ⟨id,ver,off⟩)) K=K (.p (some ⟨id,ver,off+o⟩)):=rfl
theorem cI {l:List UInt8} {K:List UInt8→Prop}:asS (.s l) K=K l:=rfl
theorem aM6 {b:Bool} {K:Bool→Prop}:asB (.b b) K=K b:=rfl
theorem iV {n:Int} {K:Int→Prop}:asI .i64 (.i .i64 n) K=K n:=rfl
theorem bL {v:AV} {A:Prop}:(v=v∧A)=A:=by simp
theorem fL {h:aA} {id n o:Nat} {cs:List AV} {v:AV} {K:AV→Prop} (R:bC h id cs) (hn:n=cs.length) (hc:cs[o]? = some v):aE (.p (some ⟨id,n,o⟩)) h K=K v:=by
 refine propext ⟨fun hk=>?_,fun hk=>aM R hn hc hk⟩
 obtain ⟨b,h1,_,h2⟩:=hk
 obtain ⟨b',g1,g2,_⟩:=R
 have h1:h[id]? = some b:=h1
 rw [g1] at h1
 cases h1
 have h2:K (b.cells.getD o .u):=h2
 rw [g2,getD_some hc] at h2
 exact h2
theorem aB4 {h:aA} {id n o k:Nat} {cs:List AV} {K:AV→Prop} (R:bC h id cs) (hn:n=cs.length) (hk:o+k≤cs.length):aD k (.p (some ⟨id,n,o⟩)) h K=K (.ag ((cs.drop o).take k)):=by
 obtain ⟨b,g1,g2,g3,g4⟩:=R
 refine propext ⟨fun h'=>?_,fun h'=>⟨b,g1,⟨by rw [hn]; exact g3,by rw [hn,g2]; exact Nat.le_refl _,by rw [hn]; exact hk⟩,by rw [g2]; exact h'⟩⟩
 obtain ⟨b',h1,_,h2⟩:=h'
 have h1:h[id]? = some b':=h1
 rw [g1] at h1
 cases h1
 rw [g2] at h2
 exact h2
def ptr (v:AV) (sz i o:Nat):AV:=match v with
 | .sl (some a) _ _=>.p (some ⟨a.id,a.ver,a.off+i * sz+o⟩)
 | _=>.u
theorem aO3 {sz:Nat} {h:aA} {v:AV} {cs:List AV} {len:Nat} (R:RdI sz h v cs len) {k:IntKind} {n:Int} (h0:0≤n) (h1:n<len) {K:AV→Prop}:aB sz v (.i k n) h K=K (ptr v sz n.toNat 0):=by
 rcases R with ⟨rfl,rfl,rfl⟩ | ⟨rfl,_⟩ | ⟨id,ver,off,cap,b,rfl,h2,h4,h5,h6,h7⟩
 ·omega
 ·omega
 ·exact propext ⟨fun hk=>hk.2.2.2,fun hk=>⟨h0,h1,⟨b,h2,h4,by omega⟩,hk⟩⟩
theorem aN2 {v:AV} {sz i o o':Nat} {h:aA} {cs:List AV} {len:Nat} (R:RdI sz h v cs len) (hi:i<len) {K:AV→Prop}:aC o' (ptr v sz i o) K=K (ptr v sz i (o+o')):=by
 rcases R with ⟨rfl,rfl,rfl⟩ | ⟨rfl,_⟩ | ⟨id,ver,off,cap,b,rfl,h2,h4,h5,h6,h7⟩
 ·omega
 ·omega
 ·show K _ = K _
  unfold ptr
  simp only [Nat.add_assoc]
theorem aNF {v:AV} {sz i o:Nat} {h:aA} {cs:List AV} {len:Nat} {c:AV} (R:RdI sz h v cs len) (hi:i<len) (ho:o<sz) (hc:cs[i * sz+o]? = some c) {K:AV→Prop}:aE (ptr v sz i o) h K=K c:=by
 rcases R with ⟨rfl,rfl,rfl⟩ | ⟨rfl,_⟩ | ⟨id,ver,off,cap,b,rfl,h2,h4,h5,h6,h7⟩
 ·omega
 ·omega
 ·have e1 : (i + 1) * sz ≤ len * sz := Nat.mul_le_mul_right _ (by omega)
  rw [Nat.add_mul] at e1
  have hcell:b.cells.getD (off+i * sz+o) .u=c:=by
   rw [← h7,List.getElem?_take_of_lt (by omega),List.getElem?_drop] at hc
   exact getD_some (by rw [← hc]; congr 1; omega)
  refine propext ⟨fun hk=>?_,fun hk=>⟨b,h2,⟨h4,h5,by simp only; omega⟩,by simp only; rw [hcell]; exact hk⟩⟩
  obtain ⟨b',g1,_,g2⟩:=hk
  have g1:h[id]? = some b':=g1
  rw [h2] at g1
  cases g1
  have g2:K (b.cells.getD (off+i * sz+o) .u):=g2
  rw [hcell] at g2
  exact g2
theorem aOK {v:AV} {sz i:Nat} {h:aA} {cs:List AV} {len:Nat} (R:RdI sz h v cs len) (hi:i<len) {K:AV→Prop}:aD sz (ptr v sz i 0) h K=K (.ag ((cs.drop (i * sz)).take sz)):=by
 rcases R with ⟨rfl,rfl,rfl⟩ | ⟨rfl,_⟩ | ⟨id,ver,off,cap,b,rfl,h2,h4,h5,h6,h7⟩
 ·omega
 ·omega
 ·have e1 : (i + 1) * sz ≤ len * sz := Nat.mul_le_mul_right _ (by omega)
  rw [Nat.add_mul] at e1
  have hcell:(b.cells.drop (off+i * sz)).take sz=(cs.drop (i * sz)).take sz:=by
   rw [← h7,List.drop_take,List.drop_drop,List.take_take,Nat.min_eq_left (by omega)]
  refine propext ⟨fun hk=>?_,fun hk=>⟨b,h2,⟨h4,h5,by simp only; omega⟩,by simp only [Nat.add_zero]; rw [hcell]; exact hk⟩⟩
  obtain ⟨b',g1,_,g2⟩:=hk
  have g1:h[id]? = some b':=g1
  rw [h2] at g1
  cases g1
  have g2:K (.ag ((b.cells.drop (off+i * sz+0)).take sz)):=g2
  rw [Nat.add_zero,hcell] at g2
  exact g2
theorem RdI.upd {sz:Nat} {M:Nat→Prop} {h h':aA} {v:AV} {cs:List AV} {len:Nat} (R:RdI sz h v cs len) (U:Upd M h h') (hM:∀ id,bU v id→¬ M id):RdI sz h' v cs len:=by
 rcases R with h1 | h1 | ⟨id,ver,off,cap,b,rfl,h2,h3⟩
 ·exact .inl h1
 ·exact .inr (.inl h1)
 ·exact .inr (.inr ⟨id,ver,off,cap,b,rfl,(U.2 id (bH h2) (hM id rfl)).trans h2,h3⟩)
theorem RdI.plen {sz:Nat} {h:aA} {v:AV} {cs:List AV} {len:Nat} (R:RdI sz h v cs len) {K:Int→Prop}:bJ v K=K (len:Int):=by
 rcases R with ⟨rfl,rfl,rfl⟩ | ⟨rfl,_,a,c,rfl⟩ | ⟨id,ver,off,cap,b,rfl,h2⟩ <;> rfl
theorem Stk.app1 {ty : Option TypeId} {bytes : Nat} {h : aA} {v x y : AV} {l : List AV} (S : Stk h v l) (R1 : Rd 1 h y [x] 1) (hx : x.cellOK = true) (hlen : (l.length + 1) * bytes ≤ 140737488355328) (hl2 : l.length + 1 ≤ 9223372036854775807) {K : AV → aA → Prop}
  (hk:∀ v' h',Upd (bU v) h h'→Stk h' v' (l++[x])→(∀ i,bU v' i→bU v i∨h.length≤i)→K v' h'):bQ ty 1 bytes v y h K:=by
 refine ⟨Nat.one_pos,R1.news ?_⟩
 rcases S with ⟨rfl,rfl⟩ | ⟨id,b,rfl,g1,g2,g3,g4,g5,g6,g7⟩
 ·refine ⟨by simpa using hlen, by omega, ?_⟩
  rw [if_neg (by decide)]
  exact hk _ _ ((Upd.app _ _).mono fun _ _ h=>h.elim) (.inr ⟨h.length,bP [x] 1 false ty,by simp [bP],by simp,rfl,by simp [bP],by simp [bP],by simp [bP],rfl,rfl⟩) fun i hi=>.inr (by have e:h.length=i:=hi; omega)
 ·have hid := bH g1
  refine ⟨hlen,by omega,b,g1,g2,⟨g5,Nat.le_refl _,by simp only; omega⟩, ?_⟩
  by_cases hfull:l.length=b.cells.length
  ·cases hex : b.ex with
   | true =>
    refine .inr (.inl ⟨Nat.one_pos,.inr ⟨rfl,rfl,rfl,by simp only; omega⟩, ?_⟩)
    refine hk _ _ ((Upd.app _ _).mono fun _ _ h=>h.elim) (.inr ⟨h.length,bP (l++[x]) 1 false ty, ?_, ?_,rfl,by simp [bP],by simp only [bP,List.length_append]; exact List.take_of_length_le (by simp),by simp [bP],rfl,rfl⟩) fun i hi=>.inr (by have e:h.length=i:=hi; omega)
    ·simp [bP,g4,g3]
    ·simp [g4]
   | false =>
    refine .inr (.inr (.inr (.inl ⟨Nat.one_pos,g6,rfl,rfl,by omega,rfl,rfl,g7,by simp [hx], ?_⟩)))
    have hcl:b.cells=l:=by rw [hfull,List.take_length] at g4; exact g4
    refine hk _ _ ((Upd.set _ _ _).mono fun i _ h=>h.symm) (.inr ⟨id,{ b with cells:=b.cells++[x],ty:=jO b.ty ty }, ?_,by simp [hid,hex],g2,by simp; omega, ?_,by simp; omega,g6,g7⟩) fun i hi=>.inl hi
    ·simp
    ·simp only [hcl]
     rw [List.take_of_length_le (by simp)]
  ·refine .inr (.inr (.inl ⟨Nat.one_pos, g6, rfl, by simp only; omega, .inl rfl, by simp [hx], ?_⟩))
   refine hk _ _ ((Upd.set _ _ _).mono fun i _ h=>h.symm) (.inr ⟨id,{ b with cells:=wr b.cells (0+l.length * 1) [x],floor:=b.cells.length }, ?_,show (h.set id _)[id]? = some _ from List.getElem?_set_self hid,g2, ?_, ?_, ?_,g6,g7⟩) fun i hi=>.inl hi
   ·simp [wr]
   ·simp [wr]; omega
   ·simp only [wr, Nat.zero_add, Nat.mul_one, List.length_append, List.length_cons, List.length_nil]
    apply List.ext_getElem?
    intro i
    by_cases h1:i<l.length
    ·rw [List.getElem?_take_of_lt (by omega), List.getElem?_set_ne (by omega), List.getElem?_append_left h1]
     conv=>rhs; rw [← g4]
     rw [List.getElem?_take_of_lt h1]
    ·by_cases h2 : i = l.length
     ·subst h2
      rw [List.getElem?_take_of_lt (by omega),List.getElem?_set_self (by omega),List.getElem?_append_right (by omega)]
      simp
     ·rw [List.getElem?_eq_none (by simp; omega),List.getElem?_eq_none (by simp; omega)]
   ·simp [wr]
theorem gB.app1 {ty:Option TypeId} {bytes:Nat} {h0 h:aA} {v x y:AV} {l:List AV} (S:gB h0 h v l) (R1:Rd 1 h y [x] 1) (hx:x.cellOK=true) (hlen:(l.length+1) * bytes≤140737488355328) (hl2:l.length+1≤9223372036854775807) {K:AV→aA→Prop}
  (hk:∀ v' h',gB h0 h' v' (l++[x])→Upd (bU v) h h'→(∀ i,bU v' i→bU v i∨h.length≤i)→K v' h'):bQ ty 1 bytes v y h K:=
 S.stk.app1 R1 hx hlen hl2 fun v' h' U S' F=>hk v' h' ⟨S.upd.trans U fun i hi hs=>absurd (S.new i hs) (by omega),S',fun i hi=>by
  rcases F i hi with h | h
  ·exact S.new i h
  ·exact Nat.le_trans S.upd.1 h⟩ U F
end Go.GAM
namespace Go.GAM
inductive Ev (α:Type) where
 | ok (a:α)
 | no (c:Nat)
deriving Inhabited
def iI {α:Type} (c:Bool) (n:Nat) (x:Ev α):Ev α:=bif c then x else .no n
structure CB where
 b:ABlk
 n:Nat
inductive Tr where
 | e
 | n (v:Option CB) (l r:Tr)
structure HS where
 t:Tr
 n:Nat
end Go.GAM
namespace Go.GAM
abbrev EvS:=Ev (AV × HS)
end Go.GAM
namespace Go.GAM
section
variable {P:Program}
abbrev aPX:=FuncId→List AV→HS→EvS
end
end Go.GAM
namespace Go.GAM
section
variable {P:Program} {RC:aPX} {RA:bT} {nt:Nat}
end
end Go.GAM
namespace Go.GAM
end Go.GAM
namespace Go.GAM
open Go.RowKit
section
variable {w:World}
end
end Go.GAM
namespace Go.Proofs.YtcdkpkkdolmfdaaGreatDoor
open Go.GAM Go.RowKit
def kE (d:Der):Bool:=isS 0 3 false d
def eA (d:Der):Bool:=isS 0 1 false d&&decide (d.data.length=1)
def cL (d:Der):Bool:=isS 0 16 true d
def tP (n:Nat):UInt8:=if n<10 then UInt8.ofNat (48+n) else UInt8.ofNat (87+n)
def hZ (l:List UInt8):List UInt8:=l.flatMap fun c=>[tP (c.toNat / 16),tP (c.toNat % 16)]
def altOid:List UInt8:=[50,46,53,46,50,57,46,49,55]
def basOid:List UInt8:=[50,46,53,46,50,57,46,49,57]
def dB (d:Der):Option (List UInt8 × List UInt8):=match d.kids with
 | [a,b]=>if (cL d&&(isS 0 4 false b&&(eB a).2))=true then some ((eB a).1,b.data) else none
 | [a,t,b]=>if (cL d&&(eA t&&(isS 0 4 false b&&(eB a).2)))=true then some ((eB a).1,b.data) else none
 | _=>none
def cN:List (List UInt8)→List Der→List (List UInt8)
 | ns,[]=>ns
 | ns,y :: r=>if (isS 2 2 false y&&decide (ns.length<16))=true then cN (ns++[iE y.data]) r else cN ns r
def oA (ks:List Der):Bool:=match ks with
 | []=>false
 | k :: _=>eA k && !decide (k.data=[0])
def cY (s:List UInt8):Option (List Der):=match j5 s with
 | .ok v=>if cL v=true then some v.kids else none
 | .error _=>none
def cW : List Der → Bool → Bool → List (List UInt8) × Bool → Option (List (List UInt8) × Bool)
 | [],_,_,x=>some x
 | d :: r, nm, bs, x => match dB d with
  | none=>none
  | some (t, s) =>
   if t=altOid∧nm=false then (match cY s with
    | some ks=>cW r true bs (cN x.1 ks,x.2)
    | none=>none)
   else if t=basOid∧bs=false then (match cY s with
    | some ks=>cW r nm true (x.1,oA ks)
    | none=>none)
   else cW r nm bs x
def tQ (a:Der):Bool:=isS 2 0 true a&&(match a.kids with
 | [v]=>(zZ v).2&&decide ((zZ v).1=2)
 | _=>false)
def eV (e:Der):Option (Int × Int):=if cL e=true then (match e.kids with
 | [p,q]=>if ((cT p).2&&(cT q).2)=true then some ((cT p).1,(cT q).1) else none
 | _=>none) else none
def nT (g : Der) : Option (List UInt8) := if cL g = true then (match g.kids with
 | [p, q] => if (cL p && kE q) = true then (match q.data with
  | c :: r=>if c=0 then some r else none
  | []=>none) else none
 | _=>none) else none
def o4 : List Der → Option (List (List UInt8) × Bool)
 | []=>some ([],false)
 | [x] => if isS 2 3 true x = true then (match x.kids with
  | [k]=>if cL k=true then cW k.kids false false ([],false) else none
  | _=>none) else none
 | _=>none
def bX (l : List Der) : Option eH := match l with
 | a :: b :: c :: d :: e :: f :: g :: x =>
  if (tQ a&&(isS 0 2 false b&&(!decide (b.data=[])&&cL c)))=true then
   match cF d,cF f,eV e,nT g,o4 x with
   | some i,some s,some t,some k,some n=>some ⟨hZ b.data,i,s,t.1,t.2,n.1,n.2,k⟩
   | _,_,_,_,_=>none
  else none
 | _=>none
def mJ (s : List UInt8) : Except Int eH := if 65535 < s.length then .error 3 else match j5 s with
 | .error e=>.error e
 | .ok d => if cL d = true then (match d.kids with
  | [a, b, c] => if (cL a && (cL b && kE c)) = true then (match bX a.kids with
   | some c=>.ok c
   | none=>.error 2) else .error 2
  | _=>.error 2) else .error 2
def o9 (c:UInt8):Option Nat:=if 48≤c.toNat∧c.toNat≤57 then some (c.toNat - 48) else if 97≤c.toNat∧c.toNat≤102 then some (c.toNat - 87) else none
def iL : List UInt8 → Option (List UInt8)
 | []=>some []
 | a :: b :: r => match o9 a, o9 b, iL r with
  | some x,some y,some l=>some (UInt8.ofNat (16 * x+y) :: l)
  | _,_,_=>none
 | [_]=>none
def vX (l:List UInt8):Bool:=match l with
 | a :: b :: _=>(decide (a.toNat=0)&&decide (b.toNat<128))||(decide (a.toNat=255)&&decide (128≤b.toNat))
 | _=>false
def cX (s:List UInt8):Option (List UInt8):=if s=[]∨s.length % 2=1∨40<s.length then none else match iL s with
 | none=>none
 | some l=>if vX l=true then none else some l
def fD (ks:List Der):Der:=.mk 0 16 true [] ks
def dW (c t:Int) (s:List UInt8):Der:=.mk c t false s []
def mN (o:List UInt8):Der:=dW 0 6 (dG o)
def pG:List UInt8:=[49,46,50,46,56,52,48,46,49,48,48,52,53,46,52,46,51,46,50]
def oQ:Der:=fD [mN pG]
def kU (o s:List UInt8):Der:=fD [mN o,dW 0 4 s]
def zK (names:List (List UInt8)):Der:=fD (names.map fun n=>dW 2 2 n)
def xM:Der:=fD [dW 0 1 [255]]
def tI (names:List (List UInt8)):Except Int (List Der):=if names=[] then .ok [] else match gE (zK names) with
 | .error e=>.error e
 | .ok s=>.ok [kU altOid s]
def tB (auth:Bool):Except Int (List Der):=if auth=true then (match gE xM with
 | .error e=>.error e
 | .ok s=>.ok [kU basOid s]) else .ok []
def lM (number:List UInt8) (iss sub f u:Der) (key:List UInt8):List Der:=
 [.mk 2 0 true [] [dW 0 2 [2]],dW 0 2 number,oQ,iss,fD [f,u],sub,fD [oQ,dW 0 3 (0 :: key)]]
def gJ (ext:List Der):List Der:=if ext=[] then [] else [.mk 2 3 true [] [fD ext]]
def aKS (number:List UInt8) (iss sub f u:Der) (key:List UInt8) (ext:List Der):Der:=
 fD [fD (lM number iss sub f u key++gJ ext),oQ,dW 0 3 (0 :: (key++[0,0,0,0,0,0,0,0]).take 8)]
def qX (y m d r:Nat):Der:=if y<2050 then dW 0 23 (jT y m d r) else dW 0 24 (iD (y / 100)++jT y m d r)
def mU (n:Int) (t:Der):Prop:=∃ k y m d:Nat,n=(k:Int)∧k≤253402300799∧aGR (k / 86400) y m d∧t=qX y m d (k % 86400)
def gF (c:eH):Int:=
 if c.frm<0∨253402300799<c.til∨c.til<c.frm then 4 else
 if (bK c.issuer).2≠0∨(bK c.subject).2≠0 then 5 else
 if c.names.any (fun n=>!decide (iE n=n))=true then 5 else
 if cX c.serial=none then 2 else
 if 16<c.names.length∨1024<c.key.length then 3 else 0
def lT (c:eH) (f u:Der):Except Int (List UInt8):=if gF c≠0 then .error (gF c) else match tI c.names,tB c.auth with
 | .error e,_=>.error e
 | .ok _,.error e=>.error e
 | .ok a,.ok b=>gE (aKS ((cX c.serial).getD []) (bK c.issuer).1 (bK c.subject).1 f u c.key (a++b))
end Go.Proofs.YtcdkpkkdolmfdaaGreatDoor
namespace Go.Proofs.YtcdkpkkdolmfdaaGreatDoor
open Go.GAM Go.RowKit
theorem sD {c:UInt8} {x:Nat} (h:o9 c=some x):tP x=c∧x<16:=by
 unfold o9 at h
 have hc:UInt8.ofNat c.toNat=c:=by simp
 split at h
 ·rename_i e
  cases h
  refine ⟨?_,by omega⟩
  unfold tP
  rw [if_pos (by omega),show 48+(c.toNat - 48)=c.toNat by omega,hc]
 ·split at h
  ·rename_i e
   cases h
   refine ⟨?_,by omega⟩
   unfold tP
   rw [if_neg (by omega),show 87+(c.toNat - 87)=c.toNat by omega,hc]
  ·cases h
theorem uK:∀ (s l:List UInt8),iL s=some l→hZ l=s
 | [],l,h=>by unfold iL at h; cases h; rfl
 | [_],l,h=>by unfold iL at h; cases h
 | a :: b :: r, l, h => by
  unfold iL at h
  split at h
  ·rename_i x y l' hx hy hl
   cases h
   have ih:=uK r l' hl
   obtain ⟨g1,g2⟩:=sD hx
   obtain ⟨g3,g4⟩:=sD hy
   have e:(UInt8.ofNat (16 * x+y)).toNat=16 * x+y:=nC (by omega)
   show [tP ((UInt8.ofNat (16 * x+y)).toNat / 16),tP ((UInt8.ofNat (16 * x+y)).toNat % 16)]++hZ l'=_
   rw [e,show (16 * x+y) / 16=x by omega,show (16 * x+y) % 16=y by omega,g1,g3,ih] <;> rfl
  ·cases h
theorem sW {s l : List UInt8} (h : cX s = some l) : hZ l = s ∧ l ≠ [] := by
 unfold cX at h
 split at h
 ·cases h
 ·rename_i e
  split at h
  ·cases h
  ·rename_i l' hl
   split at h
   ·cases h
   ·cases h
    have:=uK s l hl
    refine ⟨this, ?_⟩
    rintro rfl
    exact e (.inl this.symm)
theorem yD {s:List UInt8} (h:(bK s).2=0):cF (bK s).1=some s:=by
 unfold bK at *
 by_cases h1:512<s.length
 ·rw [if_pos h1] at h; cases h
 rw [if_neg h1] at *
 by_cases h2:s=[]
 ·rw [if_pos h2] at *; subst h2; rfl
 rw [if_neg h2] at *
 by_cases h3:cF (hC ((bM [] s).flatMap kidsOf))=some s
 ·rw [if_pos h3] at *; exact h3
 ·rw [if_neg h3] at h; cases h
theorem zB {n:Int} {t:Der} (h:mU n t):cT t=(n,true):=by
 obtain ⟨k,y,m,d,rfl,hk,D,rfl⟩:=h
 obtain ⟨t,s,h1,_,h2⟩:=aA0 hk D
 unfold mG cR at h1
 unfold qX
 by_cases hy:y<2050
 ·rw [if_pos hy] at *
  simp only [List.cons.injEq,AV.i.injEq,AV.s.injEq,true_and,and_true] at h1
  obtain ⟨rfl,rfl⟩:=h1
  exact h2
 ·rw [if_neg hy] at *
  simp only [List.cons.injEq,AV.i.injEq,AV.s.injEq,true_and,and_true] at h1
  obtain ⟨rfl,rfl⟩:=h1
  exact h2
theorem aLS:eB (mN altOid)=(altOid,true):=by kernel_rfl
theorem aLG:eB (mN basOid)=(basOid,true):=by kernel_rfl
theorem aFN (s:List UInt8):dB (kU altOid s)=some (altOid,s):=by
 show (if (true&&(true&&(eB (mN altOid)).2))=true then some ((eB (mN altOid)).1,s) else none)=_
 rw [aLS] <;> rfl
theorem aF7 (s:List UInt8):dB (kU basOid s)=some (basOid,s):=by
 show (if (true&&(true&&(eB (mN basOid)).2))=true then some ((eB (mN basOid)).1,s) else none)=_
 rw [aLG] <;> rfl
theorem qD:∀ (ns acc:List (List UInt8)),acc.length+ns.length≤16→(∀ n∈ns,iE n=n)→cN acc (ns.map fun n=>dW 2 2 n)=acc++ns
 | [],acc,_,_=>by simp [cN]
 | n :: ns, acc, h, hl => by
  simp only [List.length_cons] at h
  rw [List.map_cons]
  unfold cN
  have e:isS 2 2 false (dW 2 2 n)=true:=rfl
  rw [e,decide_eq_true (show acc.length<16 by omega),if_pos (show (true&&true)=true from rfl)]
  show cN (acc++[iE n]) _=_
  rw [hl n (by simp),qD ns (acc++[n]) (by simp; omega) fun x hx=>hl x (by simp [hx]),List.append_assoc] <;> rfl
theorem oM {ks:List Der} {s:List UInt8} (h:gE (fD ks) = .ok s):cY s=some ks:=by
 unfold cY
 rw [(o8 h).2.2.1] <;> rfl
theorem aI2 {names : List (List UInt8)} {auth : Bool} {a b : List Der} (ha : tI names = .ok a) (hb : tB auth = .ok b) (hl : ∀ n ∈ names, iE n = n) (h16 : names.length ≤ 16) : o4 (gJ (a ++ b)) = some (names, auth) := by
 have hadd:=qD names [] (by simpa using h16) hl
 rw [List.nil_append] at hadd
 have hab:(altOid=basOid)=False:=eq_false (by decide)
 have hba:(basOid=altOid)=False:=eq_false (by decide)
 unfold tI at ha
 unfold tB at hb
 cases auth with
 | false =>
  rw [if_neg (by decide)] at hb
  cases hb
  split at ha
  ·rename_i e; subst e; cases ha; rfl
  ·split at ha
   ·cases ha
   ·rename_i s hs
    cases ha
    show cW [kU altOid s] false false ([],false)=_
    unfold cW
    rw [aFN]
    simp only
    rw [if_pos (by simp),oM hs]
    simp only
    rw [hadd] <;> rfl
 | true =>
  rw [if_pos rfl] at hb
  split at hb
  ·cases hb
  ·rename_i t ht
   cases hb
   have hau:oA [dW 0 1 [255]]=true:=by decide
   split at ha
   ·rename_i e; subst e; cases ha
    show cW [kU basOid t] false false ([],false)=_
    unfold cW
    rw [aF7]
    simp only
    rw [if_neg (by simp [hba]),if_pos (by simp),oM (ks:=[dW 0 1 [255]]) ht]
    simp only
    rw [hau] <;> rfl
   ·split at ha
    ·cases ha
    ·rename_i s hs
     cases ha
     show cW [kU altOid s,kU basOid t] false false ([],false)=_
     unfold cW
     rw [aFN]
     simp only
     rw [if_pos (by simp),oM hs]
     simp only
     rw [hadd]
     unfold cW
     rw [aF7]
     simp only
     rw [if_neg (by simp [hba]),if_pos (by simp),oM (ks:=[dW 0 1 [255]]) ht]
     simp only
     rw [hau] <;> rfl
theorem round {c : eH} {f u : Der} {s : List UInt8} (hf : mU c.frm f) (hu : mU c.til u) (h : lT c f u = .ok s) : mJ s = .ok c := by
 unfold lT at h
 split at h
 ·cases h
 ·rename_i hc
  have hc:gF c=0:=by simpa using hc
  unfold gF at hc
  split at hc
  ·cases hc
  ·split at hc
   ·cases hc
   ·rename_i hn
    split at hc
    ·cases hc
    ·rename_i hlow
     split at hc
     ·cases hc
     ·rename_i hser
      split at hc
      ·cases hc
      ·rename_i hlen
       rw [not_or] at hn hlen
       have hi:(bK c.issuer).2=0:=by simpa using hn.1
       have hs:(bK c.subject).2=0:=by simpa using hn.2
       have hl:∀ n∈c.names,iE n=n:=by simpa using hlow
       cases hx:cX c.serial with
       | none=>exact absurd hx hser
       | some num =>
        rw [hx] at h
        obtain ⟨g1,g2⟩:=sW hx
        split at h
        ·cases h
        ·cases h
        ·rename_i a b ha hb
         obtain ⟨_,e1,e2,_⟩:=o8 h
         unfold mJ
         rw [if_neg (by omega),e2]
         simp only [Option.getD_some]
         rw [if_pos (show cL (aKS num (bK c.issuer).1 (bK c.subject).1 f u c.key (a++b))=true from rfl)]
         have hk:(aKS num (bK c.issuer).1 (bK c.subject).1 f u c.key (a++b)).kids=[fD (lM num (bK c.issuer).1 (bK c.subject).1 f u c.key++gJ (a++b)),oQ,dW 0 3 (0 :: (c.key++[0,0,0,0,0,0,0,0]).take 8)]:=rfl
         rw [hk]
         simp only
         rw [if_pos (show (cL (fD (lM num (bK c.issuer).1 (bK c.subject).1 f u c.key++gJ (a++b)))&&(cL oQ&&kE (dW 0 3 (0 :: List.take 8 (c.key++[0,0,0,0,0,0,0,0])))))=true from rfl)]
         rw [show (fD (lM num (bK c.issuer).1 (bK c.subject).1 f u c.key++gJ (a++b))).kids=lM num (bK c.issuer).1 (bK c.subject).1 f u c.key++gJ (a++b) from rfl]
         have ht:eV (fD [f,u])=some (c.frm,c.til):=by
          show (if ((cT f).2&&(cT u).2)=true then some ((cT f).1,(cT u).1) else none)=_
          rw [zB hf,zB hu] <;> rfl
         have hcon:bX (lM num (bK c.issuer).1 (bK c.subject).1 f u c.key++gJ (a++b))=some c:=by
          unfold lM bX
          simp only [List.cons_append,List.nil_append]
          rw [if_pos (by
           show (tQ _&&(isS 0 2 false (dW 0 2 num)&&(!decide (num=[])&&true)))=true
           rw [decide_eq_false g2] <;> rfl),yD hi,yD hs,ht,aI2 ha hb hl (by omega)]
          show some _=_
          show some (eH.mk (hZ num) c.issuer c.subject c.frm c.til c.names c.auth c.key)=_
          rw [g1]
         rw [hcon]
end Go.Proofs.YtcdkpkkdolmfdaaGreatDoor
namespace Go.Proofs.YtcdkpkkdolmfdaaGreatDoor
open Go.GAM Go.RowKit
theorem aH5 : ∀ f, (∀ lvl n s d r n', iH f lvl n s = .ok (d, r, n') → n' = n + d.sz) ∧ (∀ lvl n s ks n', iS f lvl n s = .ok (ks, n') → n' = n + szs ks) := by
 intro f
 induction f with
 | zero =>
  refine ⟨fun lvl n s d r n' h=>?_,fun lvl n s ks n' h=>?_⟩
  ·unfold iH at h; cases h
  ·unfold iS at h; cases h
 | succ f ih =>
  refine ⟨fun lvl n s d r n' h=>?_,fun lvl n s ks n' h=>?_⟩
  ·unfold iH at h
   cases s with
   | nil=>cases h
   | cons c s =>
    simp only at h
    split at h
    ·cases h
    split at h
    ·cases h
    split at h
    ·cases h
    split at h
    ·cases h
    ·split at h
     ·cases h
     ·split at h
      ·cases h
       simp only [Der.sz,szs]
      ·split at h
       ·cases h
       ·rename_i ks n2 hk
        cases h
        have:=ih.2 _ _ _ _ _ hk
        simp only [Der.sz]; omega
  ·unfold iS at h
   cases s with
   | nil=>cases h; simp [szs]
   | cons c s =>
    simp only at h
    split at h
    ·cases h
    ·rename_i d t n1 hv
     split at h
     ·cases h
     ·rename_i ks' n2 hk
      cases h
      have h1:=ih.1 _ _ _ _ _ _ hv
      have h2:=ih.2 _ _ _ _ _ hk
      simp only [szs]; omega
def Fit (d:Der):Prop:=(cQ d).length≤65535∧d.sz≤256∧wfV d
theorem Fit.of {s : List UInt8} {d : Der} (h : j5 s = .ok d) : Fit d := by
 have h1:=aEK h
 have h2:=h
 unfold j5 at h2
 unfold gE at h1
 split at h1
 ·cases h1
 ·rename_i hc
  have hc:(eG 1 0 d).1=0:=by simpa using hc
  split at h1
  ·cases h1
  ·rename_i hb
   refine ⟨by omega, ?_,(aDO d.sz).1 d 1 0 (Nat.le_refl _) hc⟩
   split at h2
   ·cases h2
   ·split at h2
    ·cases h2
    ·rename_i d' r n hv
     split at h2
     ·cases h2
      have g1:=(aH5 _).1 _ _ _ _ _ _ hv
      have g2:=(jE _).1 _ _ _ _ _ _ hv
      omega
     ·cases h2
theorem aBV {c t:Int} {m:Bool} {s:List UInt8} {ks:List Der}:s.length+(b8 ks).length≤(cQ (.mk c t m s ks)).length:=by
 unfold cQ
 simp only [List.length_append,List.length_cons]; omega
theorem uJ:∀ {ks:List Der} {k:Der},k∈ks→(cQ k).length≤(b8 ks).length
 | [],_,h=>by cases h
 | a :: r, k, h => by
  unfold b8
  rw [List.length_append]
  rcases List.mem_cons.1 h with rfl | h
  ·omega
  ·have:=uJ h; omega
theorem Fit.data {d:Der} (h:Fit d):d.data.length≤65535:=by
 obtain ⟨c,t,m,s,ks⟩:=d
 have:=aBV (c:=c) (t:=t) (m:=m) (s:=s) (ks:=ks)
 have:=h.1
 show s.length≤65535
 omega
theorem Fit.kid {d k:Der} (h:Fit d) (hk:k∈d.kids):Fit k:=by
 obtain ⟨c,t,m,s,ks⟩:=d
 have hk:k∈ks:=hk
 obtain ⟨h1,h2,h3⟩:=h
 have:=aBV (c:=c) (t:=t) (m:=m) (s:=s) (ks:=ks)
 have:=uJ hk
 have g:=mB hk
 unfold wfV at h3
 refine ⟨by omega, ?_,tS h3.2.2.2 hk⟩
 simp only [Der.sz] at h2; omega
theorem Fit.few {d:Der} (h:Fit d):d.kids.length≤256:=by
 obtain ⟨c,t,m,s,ks⟩:=d
 have:=lY ks
 have:=h.2.1
 simp only [Der.sz] at this
 show ks.length≤256
 omega
def Der.made:Der→Bool | .mk _ _ m _ _=>m
theorem Fit.prim {d:Der} (h:Fit d) (hm:d.made=false):d.kids=[]:=by
 obtain ⟨c,t,m,s,ks⟩:=d
 have:=h.2.2
 unfold wfV at this
 exact this.2.2.1 hm
theorem Fit.names {d:Der} (h:Fit d):o0 d:=⟨by have:=h.few; omega,fun s hs k hk x hx=>by
 have:=(((h.kid hs).kid hk).kid hx).data; omega⟩
theorem aFR:∀ (r:List UInt8) (m:Int),0≤m→m≤aEE m r
 | [],m,_=>Int.le_refl _
 | c :: r, m, h => by
  show m≤aEE (m * 256+(c.toNat:Int)) r
  have:=aFR r (m * 256+(c.toNat:Int)) (by omega)
  omega
theorem aCP:∀ (r:List UInt8) (m:Int),m<0→aEE m r<0
 | [],m,h=>h
 | c :: r, m, h => by
  show aEE (m * 256+(c.toNat:Int)) r<0
  have:=c.toNat_lt
  exact aCP r _ (by omega)
theorem aI4 {s:List UInt8} (h:nL s=false):aN5 s=2↔s=[2]:=by
 match s,h with
 | [],h=>cases h
 | [a], _ =>
  show (if a.toNat<128 then (a.toNat:Int) else (a.toNat:Int) - 256)=2↔_
  constructor
  ·intro h
   have ha:=a.toNat_lt
   have:a.toNat=2:=by split at h <;> omega
   have:a=2:=UInt8.toNat.inj this
   rw [this]
  ·intro h
   cases h; rfl
 | a :: b :: r, h =>
  refine ⟨fun h2=>?_,fun h2=>by simp at h2⟩
  exfalso
  rw [vV] at h
  simp only [Bool.or_eq_false_iff,Bool.and_eq_false_iff,decide_eq_false_iff_not] at h
  have ha:=a.toNat_lt
  have hb:=b.toNat_lt
  have h2:aEE ((if a.toNat<128 then (a.toNat:Int) else (a.toNat:Int) - 256) * 256+(b.toNat:Int)) r=2:=h2
  by_cases hx:a.toNat<128
  ·rw [if_pos hx] at h2
   have:=aFR r ((a.toNat:Int) * 256+(b.toNat:Int)) (by omega)
   omega
  ·rw [if_neg hx] at h2
   have:=aCP r (((a.toNat:Int) - 256) * 256+(b.toNat:Int)) (by omega)
   omega
theorem aL8 {v:Der} (h:Fit v):((zZ v).2&&decide ((zZ v).1=2))=(isS 0 2 false v&&decide (v.data=[2])):=by
 have hp:bZ 2 v=isS 0 2 false v:=by
  have:=h.prim
  obtain ⟨c,t,m,s,ks⟩:=v
  show (decide (c=0)&&(decide (t=2)&&(!m&&decide (ks.length=0))))=(decide (c=0)&&(decide (t=2)&&(m == false)))
  cases m with
  | true=>simp
  | false =>
   have:ks=[]:=this rfl
   subst this; simp
 unfold zZ
 rw [← hp]
 by_cases h1:bZ 2 v=true∧nL v.data=false
 ·rw [if_pos h1, h1.1]
  simp only [Bool.true_and]
  rw [decide_eq_decide]
  exact aI4 h1.2
 ·rw [if_neg h1]
  simp only [Bool.false_and]
  symm
  rw [Bool.and_eq_false_iff]
  by_cases h2:bZ 2 v=true
  ·right
   rw [decide_eq_false_iff_not]
   intro h3
   exact h1 ⟨h2,by rw [h3] <;> rfl⟩
  ·left; simpa using h2
end Go.Proofs.YtcdkpkkdolmfdaaGreatDoor
namespace Go.GAM
theorem aQD {h:aA} {id n:Nat} {cs:List AV} {K:AV→Prop} (G:jM h id cs) (hn:n=cs.length):aD n (bE h id) h K=K (.ag cs):=by
 refine propext ⟨fun hk=>?_,fun hk=>G.loadN hn hk⟩
 rw [G.var] at hk
 obtain ⟨b,h1,rfl,h3,h4⟩:=G
 obtain ⟨b',g1,g2,g3⟩:=hk
 have g1:h[id]? = some b':=g1
 rw [h1] at g1
 cases g1
 subst hn
 simpa using g3
theorem aX {h:aA} {id:Nat} {a b c:AV} {K:AV→Prop} (G:jM h id [a,b,c]):aD 3 (bE h id) h K=K (.ag [a,b,c]):=aQD (n:=3) G rfl
end Go.GAM
namespace Go.Proofs.YtcdkpkkdolmfdaaGreatDoor
open Go.GAM Go.RowKit
structure CG2 (h:aA):Prop where
 g:CG h
 bits:jM h 1 [.i .i64 0,.i .i64 3,.b false]
 ver:jM h 2 [.i .i64 2,.i .i64 0,.b true]
 int:jM h 3 [.i .i64 0,.i .i64 2,.b false]
 host:jM h 4 [.i .i64 2,.i .i64 2,.b false]
 tru:jM h 5 [.i .i64 0,.i .i64 1,.b false]
 ext:jM h 6 [.i .i64 2,.i .i64 3,.b true]
 oct:jM h 9 [.i .i64 0,.i .i64 4,.b false]
theorem CG2.up {h h':aA} (G:CG2 h) (U:Upd (fun _=>False) h h'):CG2 h':=
 ⟨G.g.ext U,G.bits.upd U fun h=>h,G.ver.upd U fun h=>h,G.int.upd U fun h=>h,G.host.upd U fun h=>h,G.tru.upd U fun h=>h,G.ext.upd U fun h=>h,G.oct.upd U fun h=>h⟩
structure KL (h:aA) (F:Nat→Prop) (v:AV) (ks:List Der) (rows:List (List AV)):Prop where
 dv:DVs h F ks rows
 sl:kL 5 h v rows.flatten rows.length
 sf:∀ i,bU v i→F i
theorem KL.up {h h':aA} {F:Nat→Prop} {v:AV} {ks:List Der} {rows:List (List AV)} (L:KL h F v ks rows) (U:Upd (fun _=>False) h h'):KL h' F v ks rows:=
 ⟨L.dv.upd U fun i hF hi=>⟨fun h=>h,hF⟩,L.sl.upd U fun _ _ _ h=>h,L.sf⟩
theorem KL.rd {h:aA} {F:Nat→Prop} {v:AV} {ks:List Der} {rows:List (List AV)} (L:KL h F v ks rows):RdI 5 h v rows.flatten ks.length:=by
 rw [L.dv.length]; exact L.sl.i
structure KAt (hb:aA) (F:Nat→Prop) (v:AV) (i:Nat) (k:Der) (r:List AV):Prop where
 dv:DV hb F k r
 idx:∀ (h:aA),Upd (fun _=>False) hb h→∀ K:AV→Prop,aB 5 v (.i .i64 (i:Int)) h K=K (ptr v 5 i 0)
 ld:∀ (h:aA),Upd (fun _=>False) hb h→∀ K:AV→Prop,aD 5 (ptr v 5 i 0) h K=K (.ag r)
 fa:∀ (o:Nat) (K:AV→Prop),aC o (ptr v 5 i 0) K=K (ptr v 5 i o)
 f3:∀ (h:aA),Upd (fun _=>False) hb h→∀ K:AV→Prop,aE (ptr v 5 i 3) h K=K (.s k.data)
 f4:∃ w rs,r[4]? = some w∧KL hb F w k.kids rs∧∀ (h:aA),Upd (fun _=>False) hb h→∀ K:AV→Prop,aE (ptr v 5 i 4) h K=K w
theorem KL.at {hb:aA} {F:Nat→Prop} {v:AV} {ks:List Der} {rows:List (List AV)} (L:KL hb F v ks rows) {i:Nat} {k:Der} (hk:ks[i]? = some k):∃ r,KAt hb F v i k r:=by
 obtain ⟨r,hr,D⟩:=L.dv.get hk
 have hi:i<ks.length:=bH hk
 have hrow:=jI rows i r L.dv.len5 hr
 have hl5:=D.len
 have cell:∀ (o:Nat) (c:AV),o<5→r[o]? = some c→rows.flatten[i * 5+o]? = some c:=by
  intro o c ho hc
  rw [← hrow,List.getElem?_take_of_lt ho,List.getElem?_drop] at hc
  exact hc
 have hd3:=D.dat
 obtain ⟨w,rs,g1,g2,g3,g4,g5⟩:=D.kidsLen
 refine ⟨r,D,fun h U K=>?_,fun h U K=>?_,fun o K=>?_,fun h U K=>?_,w,rs,g1,⟨g2,g3,fun i hi=>(g5 i hi).1⟩,fun h U K=>?_⟩
 ·exact aO3 ((L.up U).rd) (by omega) (by omega)
 ·rw [aOK ((L.up U).rd) hi,hrow]
 ·rw [aN2 (L.rd) hi,Nat.zero_add]
 ·exact aNF ((L.up U).rd) hi (by omega) (cell 3 _ (by omega) hd3)
 ·exact aNF ((L.up U).rd) hi (by omega) (cell 4 _ (by omega) g1)
theorem KAt.row {hb:aA} {F:Nat→Prop} {v:AV} {i:Nat} {k:Der} {r:List AV} (A:KAt hb F v i k r):r.length=5:=A.dv.len
section
variable {h:aA} {Q:AV→aA→Prop} {id:Nat} {cs:List AV} {bad:Bool}
theorem aD7 {ok:Bool} (R:bC h id cs) (hl:cs.length=9) (hb:cs[8]? = some (.b bad)) (hq:∀ h',Upd (· = id) h h'→bC h' id (cs.set 8 (.b (bad || !ok)))→Q (.b (!(bad || !ok))) h') :
  C Y32.id [.p (some ⟨id,9,0⟩),.b ok] h Q:=by
 refine Y32.call ?_
 simp only [Y32.t, ← Y32.p0.eq_1]
 have fin:∀ b,b=(bad || !ok)→aP 1 (.p (some ⟨id,9,8⟩)) (.b b) h fun h7=>Y32.p0 (aL h Q) (.p (some ⟨id,9,0⟩)) h7:=by
  intro b hb
  subst hb
  refine b7 R hl.symm (by omega) rfl rfl rfl fun h' hl' U R'=>?_
  refine Y32.i0 ?_
  simp only [Y32.t0]
  refine bI (aK (aM (v:=.b (bad || !ok)) R' (by rw [List.length_set]; exact hl.symm) (by rw [List.getElem?_set_self (by omega)]) (aS (.inl (hq h' U R')))))
 refine bI (aK (aM R hl.symm hb (aS (aG (fun e=>?_) fun e=>?_))))
 ·exact bI (aK (fin _ (by rw [e] <;> rfl)))
 ·exact bI (aK (fin _ (by rw [e] <;> rfl)))
def txt:Option (List UInt8)→List UInt8
 | some t=>t
 | none=>[]
theorem aFY {d:Der} {r:List AV} {F:Nat→Prop} (G:CG h) (D:DV h F d r) (hs:o0 d) (hid:∀ i,F i→i≠id) (R:bC h id cs) (hl:cs.length=9) (hb:cs[8]? = some (.b bad))
  (hq:∀ h',Upd (· = id) h h'→bC h' id (cs.set 8 (.b (bad||(cF d).isNone)))→Q (.s (txt (cF d))) h') :
  C Y82.id [.p (some ⟨id,9,0⟩),.ag r] h Q:=by
 refine Y82.call ?_
 simp only [Y82.t]
 refine D.box fun h1 hl1 U1 R1 D1=>?_
 refine aT R1 D1.len.symm ?_
 refine aJL (G.ext U1) D1 hs ?_
 have fin:∀ (ok:Bool) (t:List UInt8),ok = !(cF d).isNone→t=txt (cF d)→C Y32.id [.p (some ⟨id,9,0⟩),.b ok] h1 fun v11 h12=>asB v11 fun c13=>aL h Q (.s t) h12:=by
  intro ok t ho ht
  refine aD7 (R.upd U1 fun h=>h) hl hb fun h' U2 R2=>aS (.inl ?_)
  subst ht ho
  rw [Bool.not_not] at R2
  exact hq h' ((U1.mono fun _ _ h=>h.elim).trans U2 fun _ _ h=>h) R2
 cases hn:cF d with
 | none=>exact aY (bA (aZ (aQ (fin _ _ (by rw [hn] <;> rfl) (by rw [hn] <;> rfl)))))
 | some t=>exact aY (bA (aZ (aQ (fin _ _ (by rw [hn] <;> rfl) (by rw [hn] <;> rfl)))))
end
end Go.Proofs.YtcdkpkkdolmfdaaGreatDoor
namespace Go.Proofs.YtcdkpkkdolmfdaaGreatDoor
open Go.GAM Go.RowKit
def pc (ser iss sub:List UInt8) (frm til:Int) (nv:AV) (au:Bool) (key:List UInt8) (bad:Bool):List AV:=[.s ser,.s iss,.s sub,.i .i64 frm,.i .i64 til,nv,.b au,.s key,.b bad]
abbrev sκ:List UInt8→AV:=fun x=>AV.s x
section
variable {hb:aA} {id mid:Nat} {ser iss sub key:List UInt8} {frm til:Int} {Q:AV→aA→Prop}
def r9 (hb:aA) (id:Nat) (ser iss sub key:List UInt8) (frm til:Int) (Q:AV→aA→Prop) (res:Option (List (List UInt8) × Bool)):Prop:=
 ∀ h' nv au bad,Upd (fun _=>False) hb h'→bC h' id (pc ser iss sub frm til nv au key bad)→bad=res.isNone→(∀ x,res=some x→au=x.2∧RdI 1 h' nv (x.1.map .s) x.1.length∧∀ i,bU nv i→hb.length≤i)→Q (.tu []) h'
structure ESt (hb:aA) (id mid:Nat) (ser iss sub key:List UInt8) (frm til:Int) (h:aA) (kv:List (List UInt8 × AV)) (nm bs:Bool) (ns:List (List UInt8)) (au:Bool) (nv:AV):Prop where
 r:bC h id (pc ser iss sub frm til nv au key false)
 m:lA sκ h mid kv
 sa:(lkM kv altOid).getD (.b false) = .b nm
 sb:(lkM kv basOid).getD (.b false) = .b bs
 sx:∀ t, ∃ b,(lkM kv t).getD (.b false) = .b b
 s:gB hb h nv (ns.map .s)
 ni:∀ i,bU nv i→i≠id∧i≠mid
 il:hb.length≤id
 ml:hb.length≤mid
 ne:mid≠id
variable {h:aA} {kv:List (List UInt8 × AV)} {nm bs:Bool} {ns:List (List UInt8)} {au:Bool} {nv:AV}
theorem ESt.up {h':aA} (S:ESt hb id mid ser iss sub key frm til h kv nm bs ns au nv) (U:Upd (fun _=>False) h h'):ESt hb id mid ser iss sub key frm til h' kv nm bs ns au nv:=
 ⟨S.r.upd U fun h=>h,S.m.upd U fun h=>h,S.sa,S.sb,S.sx,⟨S.s.upd.trans U fun _ _ h=>h,S.s.stk.upd U fun _ _ h=>h,S.s.new⟩,S.ni,S.il,S.ml,S.ne⟩
theorem ESt.u (S:ESt hb id mid ser iss sub key frm til h kv nm bs ns au nv):Upd (fun _=>False) hb h:=S.s.upd
theorem aF4 {h:aA} {v:AV} {l:List AV} (S:Stk h v l):v.parts=[v]∧v.sizeOK=true∧v.cellOK=true:=by
 rcases S with ⟨rfl,_⟩ | ⟨_,_,rfl,_⟩ <;> exact ⟨rfl,rfl,rfl⟩
theorem nN (S:ESt hb id mid ser iss sub key frm til h kv nm bs ns au nv) {ok:Bool} {K:AV→aA→Prop}
  (h1:ok=true→∀ h',Upd (· = id) h h'→ESt hb id mid ser iss sub key frm til h' kv nm bs ns au nv→K (.b true) h')
  (h2:ok=false→∀ h',Upd (· = id) h h'→Upd (fun _=>False) hb h'→bC h' id (pc ser iss sub frm til nv au key true)→K (.b false) h'):C Y32.id [.p (some ⟨id,9,0⟩),.b ok] h K:=by
 refine aD7 S.r rfl rfl fun h' U R=>?_
 have U':Upd (fun _=>False) hb h':=S.u.own U S.il
 cases ok with
 | true=>exact h1 rfl h' U ⟨R,S.m.upd U S.ne,S.sa,S.sb,S.sx,⟨U',S.s.stk.upd U fun i hi e=>(S.ni i hi).1 e,S.s.new⟩,S.ni,S.il,S.ml,S.ne⟩
 | false=>exact h2 rfl h' U U' R
variable {v:AV} {l:List Der} {rows:List (List AV)} {F:Nat→Prop} (G:CG2 hb) (L:KL hb F v l rows) (hF:∀ i,F i→i<hb.length) (hfit:∀ k∈l,Fit k) (hl:l.length≤256)
theorem aB7 {r:List Der} {d:Der} {x:List (List UInt8) × Bool} (hq:r9 hb id ser iss sub key frm til Q (cW (d :: r) nm bs x)) (hx:dB d=none) {h':aA} (U:Upd (fun _=>False) hb h') (R:bC h' id (pc ser iss sub frm til nv au key true)):Q (.tu []) h':=by
 unfold cW at hq
 rw [hx] at hq
 exact hq h' nv au true U R rfl fun x h=>by cases h
theorem aH2 {r:List Der} {d:Der} {t s:List UInt8} {x:List (List UInt8) × Bool} (hq:r9 hb id ser iss sub key frm til Q (cW (d :: r) nm bs x)) (hx:dB d=some (t,s)) (ht:(t=altOid∧nm=false)∨(t=basOid∧bs=false)) (hi:cY s=none) {h':aA} (U:Upd (fun _=>False) hb h') (R:bC h' id (pc ser iss sub frm til nv au key true)):Q (.tu []) h':=by
 unfold cW at hq
 rw [hx] at hq
 simp only at hq
 have hne:altOid≠basOid:=by decide
 rcases ht with ⟨h1,h2⟩ | ⟨h1,h2⟩
 ·rw [if_pos ⟨h1, h2⟩, hi] at hq
  exact hq h' nv au true U R rfl fun x h=>by cases h
 ·rw [if_neg (by rintro ⟨h3, _⟩; exact hne (h3.symm.trans h1)), if_pos ⟨h1, h2⟩, hi] at hq
  exact hq h' nv au true U R rfl fun x h=>by cases h
theorem ESt.names (S:ESt hb id mid ser iss sub key frm til h kv nm bs ns au nv) {h':aA} {ns':List (List UInt8)} {nv':AV} (N:gB hb h' nv' (ns'.map .s)) (R:bC h' id (pc ser iss sub frm til nv' au key false)) (M:lA sκ h' mid kv) (ni:∀ i,bU nv' i→i≠id∧i≠mid) :
  ESt hb id mid ser iss sub key frm til h' kv nm bs ns' au nv':=⟨R,M,S.sa,S.sb,S.sx,N,ni,S.il,S.ml,S.ne⟩
theorem aNV (G : CG2 hb) {w : AV} {ks : List Der} {rs : List (List AV)} {hc : aA} {lo : Nat} {F2 : Nat → Prop} (K2 : KL hc F2 w ks rs) (hF2 : ∀ i, F2 i → lo ≤ i ∧ i < hc.length) (hid : id < lo) (hmid : mid < lo) (hlo : lo ≤ hc.length) (hfk : ∀ k ∈ ks, Fit k) (hkl : ks.length ≤ 256) {n i : Nat} :
  ∀ (r : List Der) (j : Nat) (h : aA) (nv : AV) (ns : List (List UInt8)), ks.drop j = r → ns.length + r.length ≤ 10000 → Upd (fun a => a < lo) hc h → ESt hb id mid ser iss sub key frm til h kv nm bs ns au nv → (∀ i, bU nv i → i < lo ∨ hc.length ≤ i) →
   (∀ h' nv',ESt hb id mid ser iss sub key frm til h' kv nm bs (cN ns r) au nv'→Y0.p10 Q (.p (some ⟨id,9,0⟩)) (.mp (some mid)) v n i h') →
   Y0.p7 Q (.p (some ⟨id,9,0⟩)) (.mp (some mid)) v n i w (ks.length:Nat) (j:Nat) h:=by
 intro r
 induction r with
 | nil =>
  intro j h nv ns hr hn U S hnv hq
  have:=cA hr
  refine Y0.i7 ?_
  simp only [Y0.t7, ← Y0.p10.eq_1]
  exact aN (by simp; omega) (hq h nv S)
 | cons d r ih =>
  intro j h nv ns hr hn U S hnv hq
  have hlt:=cG hr
  have hj:=b4 hr
  have hfd:=hfk d (List.mem_of_getElem? hj)
  have K2':KL h F2 w ks rs:=⟨K2.dv.upd U fun a ha _=>⟨fun e=>by have:=hF2 a ha; omega,ha⟩,K2.sl.upd U fun a ha _ e=>by have:=hF2 a (K2.sf a ha); omega,K2.sf⟩
  obtain ⟨rr,A⟩:=K2'.at hj
  have nxt:∀ h' nv' ns',cN ns' r=cN ns (d :: r)→ns'.length≤ns.length+1→Upd (fun a=>a<lo) hc h'→ESt hb id mid ser iss sub key frm til h' kv nm bs ns' au nv'→(∀ i,bU nv' i→i<lo∨hc.length≤i)→Y0.p9 Q (.p (some ⟨id,9,0⟩)) (.mp (some mid)) v n i w (ks.length:Nat) (j:Nat) h':=by
   intro h' nv' ns' he hl U' S' hnv'
   refine Y0.i9 ?_
   simp only [Y0.t9, ← Y0.p7.eq_1]
   refine inc (by omega) (ih (j+1) h' nv' ns' (b3 hr) (by simp at hn; omega) U' S' hnv' ?_)
   rw [he]; exact hq
  refine Y0.i7 ?_
  simp only [Y0.t7, ← Y0.p8.eq_1]
  refine aO (by simp; omega) ?_
  simp only [A.idx h (Upd.refl _ _),A.ld h (Upd.refl _ _)]
  refine bR fun h1 hl1 U1 R1=>?_
  refine aW R1 rfl A.dv.len A.dv.cells' fun h2 hl2 U2 R2=>?_
  have U02:Upd (fun _=>False) h h2:=U1.own U2 (Nat.le_refl _)
  have S2:=S.up U02
  have D2:=A.dv.ext U02
  have Uc2:Upd (fun a=>a<lo) hc h2:=U.trans (U02.mono fun _ _ h=>h.elim) fun _ _ h=>h
  simp only [aX (G.up S2.u).host]
  refine aT R2 A.dv.len.symm ?_
  refine dL D2 (aS ?_)
  have off:(isS 2 2 false d&&decide (ns.length<16))=false→Y0.p8 Q (.p (some ⟨id,9,0⟩)) (.mp (some mid)) (.p (some ⟨h.length,5,0⟩)) v n i w (ks.length:Nat) (j:Nat) false h2:=by
   intro e
   refine Y0.i8 ?_
   simp only [Y0.t8, ← Y0.p9.eq_1]
   refine aN rfl (nxt h2 nv ns ?_ (by omega) Uc2 S2 hnv)
   conv=>rhs; unfold cN
   rw [e] <;> rfl
  refine aG (fun e=>?_) fun e=>off (by rw [e] <;> rfl)
  have hnl:(ns.map AV.s).length=ns.length:=List.length_map ..
  refine bI (aK (aK (aM S2.r rfl rfl ?_)))
  refine S2.s.stk.rd.len ?_
  rw [hnl]
  by_cases h16:ns.length<16
  ·rw [decide_eq_true (show (ns.length : Int) < 16 by omega)]
   refine Y0.i8 ?_
   simp only [Y0.t8, ← Y0.p9.eq_1]
   refine aO rfl ?_
   have hd3:=A.dv.dat
   refine bI (aK (aK (aM S2.r rfl rfl ?_)))
   refine aK (aM R2 A.dv.len.symm hd3 (bA ?_))
   refine aFB (by have:=hfd.data; omega) (bA ?_)
   refine aM S2.r rfl rfl ⟨rfl, ?_⟩
   refine eQ (cs:=[.s (iE d.data)]) (len:=1) rfl rfl fun y h3 hl3 U3 R3 F3=>?_
   have S3:=S2.up U3
   refine aM (R2.upd U3 fun h=>h) A.dv.len.symm hd3 (bA ⟨rfl, ?_⟩)
   refine aM S3.r rfl rfl ⟨rfl, ?_⟩
   refine S3.s.app1 R3 rfl (by rw [hnl]; omega) (by rw [hnl]; omega) fun nv' h4 N4 U4 F4=>?_
   have hrid:¬ bU nv h.length:=fun e=>by
    have:=Rd.lt S.s.stk.rd e
    omega
   refine aM ((R2.upd U3 fun h=>h).upd U4 hrid) A.dv.len.symm hd3 (bA ⟨rfl, ?_⟩)
   have np:=aF4 N4.stk
   have hidnv:¬ bU nv id:=fun e=>(S.ni id e).1 rfl
   have hmidnv:¬ bU nv mid:=fun e=>(S.ni mid e).2 rfl
   have hlen3:h.length≤h3.length:=Nat.le_trans U02.1 U3.1
   have Uc3:Upd (fun a=>a<lo) hc h3:=Uc2.trans (U3.mono fun _ _ h=>h.elim) fun _ _ h=>h
   have Uc4:Upd (fun a=>a<lo) hc h4:=Uc3.trans U4 fun a ha e=>by have:=hnv a e; omega
   refine bI (aK (aK (b7 (S3.r.upd U4 hidnv) rfl (by show 5<9; omega) np.1 np.2.1 np.2.2 fun h5 hl5 U5 R5=>?_)))
   have hni:∀ a,bU nv' a→a≠id∧a≠mid:=fun a e=>by
    rcases F4 a e with h | h
    ·exact S.ni a h
    ·have:=U.1; omega
   refine nxt h5 nv' (ns++[iE d.data]) ?_ (by simp) (Uc4.trans U5 fun a ha e=>by omega) (S3.names ⟨N4.upd.own U5 S.il, ?_,N4.new⟩ R5 ((S3.m.upd U4 hmidnv).upd U5 S.ne) hni) fun a e=>?_
   ·conv => rhs; unfold cN
    rw [e,decide_eq_true h16] <;> rfl
   ·rw [List.map_append]
    exact N4.stk.upd U5 fun a ha e=>(hni a ha).1 e
   ·rcases F4 a e with h | h
    ·exact hnv a h
    ·have:=U.1; omega
  ·rw [decide_eq_false (show ¬ (ns.length : Int) < 16 by omega)]
   exact off (by rw [e,decide_eq_false h16] <;> rfl)
theorem gZ:∀ (r:List Der) (ns:List (List UInt8)),ns.length≤16→(cN ns r).length≤16
 | [],ns,h=>by unfold cN; exact h
 | y :: r, ns, h => by
  unfold cN
  split
  ·rename_i e
   rw [Bool.and_eq_true,decide_eq_true_eq] at e
   exact gZ r _ (by simp; omega)
  ·exact gZ r ns h
theorem aJ1 {d:Der} {r:List Der} {t s:List UInt8} {x:List (List UInt8) × Bool} (hx:dB d=some (t,s)) (h1:¬ (t=altOid∧nm=false)) (h2:¬ (t=basOid∧bs=false)):cW (d :: r) nm bs x=cW r nm bs x:=by
 conv=>lhs; unfold cW
 rw [hx]
 simp only
 rw [if_neg h1,if_neg h2]
theorem aKJ {d:Der} {r ks:List Der} {s:List UInt8} {x:List (List UInt8) × Bool} (hx:dB d=some (altOid,s)) (hi:cY s=some ks):cW (d :: r) false bs x=cW r true bs (cN x.1 ks,x.2):=by
 conv=>lhs; unfold cW
 rw [hx]
 simp only
 rw [if_pos (by simp),hi]
theorem aKO {d:Der} {r ks:List Der} {s:List UInt8} {x:List (List UInt8) × Bool} (hx:dB d=some (basOid,s)) (hi:cY s=some ks):cW (d :: r) nm false x=cW r nm true (x.1,oA ks):=by
 have hne:¬ basOid=altOid:=by decide
 conv=>lhs; unfold cW
 rw [hx]
 simp only
 rw [if_neg (by rintro ⟨h,_⟩; exact hne h),if_pos (by simp),hi]
def Nx (hb : aA) (id mid : Nat) (ser iss sub key : List UInt8) (frm til : Int) (Q : AV → aA → Prop) (v : AV) (n i : Nat) (r : List Der) : Prop :=
 ∀ (h' : aA) (kv' : List (List UInt8 × AV)) (nm' bs' : Bool) (ns' : List (List UInt8)) (au' : Bool) (nv' : AV), ESt hb id mid ser iss sub key frm til h' kv' nm' bs' ns' au' nv' → ns'.length ≤ 16 → r9 hb id ser iss sub key frm til Q (cW r nm' bs' (ns', au')) →
  Y0.p0 Q (.p (some ⟨id,9,0⟩)) (.mp (some mid)) v n (i+1:Nat) h'
section
variable {n i:Nat} {r:List Der} {d:Der} {t s:List UInt8} (nx:Nx hb id mid ser iss sub key frm til Q v n i r) (hn:n≤300) (hi:i≤300)
include nx hn hi
theorem aAE (S:ESt hb id mid ser iss sub key frm til h kv nm bs ns au nv) (h16:ns.length≤16) (hq:r9 hb id ser iss sub key frm til Q (cW r nm bs (ns,au))):Y0.p10 Q (.p (some ⟨id,9,0⟩)) (.mp (some mid)) v n i h:=by
 refine Y0.i10 ?_
 simp only [Y0.t10, ← Y0.p0.eq_1]
 exact inc (by omega) (nx h kv nm bs ns au nv S h16 hq)
theorem aMU (G:CG2 hb) {F2:Nat→Prop} {d2:Der} {cs2:List AV} {rid2:Nat} (S:ESt hb id mid ser iss sub key frm til h kv nm true ns au nv) (h16:ns.length≤16) (D2:DV h F2 d2 cs2) (R2:bC h rid2 cs2) (hr2:rid2≠id) (hF2:∀ a,F2 a→a≠id) (hf2:Fit d2)
  (hq:r9 hb id ser iss sub key frm til Q (cW r nm true (ns,oA d2.kids))):Y0.p5 Q (.p (some ⟨id,9,0⟩)) (.mp (some mid)) basOid (.p (some ⟨rid2,5,0⟩)) v n i false h:=by
 have fin:∀ (b:Bool) (h:aA),b=oA d2.kids→ESt hb id mid ser iss sub key frm til h kv nm true ns au nv→aP 1 (.p (some ⟨id,9,6⟩)) (.b b) h fun h'=>Y0.p6 Q (.p (some ⟨id,9,0⟩)) (.mp (some mid)) v n i h':=by
  intro b h hb' S
  refine b7 S.r rfl (by show 6<9; omega) rfl rfl rfl fun h' hl' U R'=>?_
  refine Y0.i6 ?_
  simp only [Y0.t6, ← Y0.p10.eq_1]
  refine aAE nx hn hi (au:=b) ⟨R',S.m.upd U S.ne,S.sa,S.sb,S.sx,⟨S.u.own U S.il,S.s.stk.upd U fun a ha e=>(S.ni a ha).1 e,S.s.new⟩,S.ni,S.il,S.ml,S.ne⟩ h16 ?_
  rw [hb']; exact hq
 obtain ⟨w,rs,g1,g2,g3,g4,g5⟩:=D2.kidsLen
 have K2:KL h F2 w d2.kids rs:=⟨g2,g3,fun i hi=>(g5 i hi).1⟩
 refine Y0.i5 ?_
 simp only [Y0.t5]
 refine aN rfl (dX (n:=true) (by decide) (aO rfl ?_))
 refine aK (aM R2 D2.len.symm g1 ?_)
 rw [K2.rd.plen]
 cases hk:d2.kids with
 | nil =>
  refine aN (by simp) (bI (aK (aK (fin _ h (by rw [hk] <;> rfl) S))))
 | cons k kr =>
  rw [hk] at K2
  obtain ⟨rk,A⟩:=K2.at (i:=0) (k:=k) rfl
  have hfk:Fit k:=hf2.kid (by rw [hk]; simp)
  have i0:∀ (h':aA),Upd (fun _=>False) h h'→∀ K:AV→Prop,aB 5 w (.i .i64 0) h' K=K (ptr w 5 0 0):=A.idx
  refine aO (by simp) ?_
  simp only [aX (G.up S.u).tru]
  refine aK (aM R2 D2.len.symm g1 ?_)
  simp only [i0 h (Upd.refl _ _),A.ld h (Upd.refl _ _)]
  refine dL A.dv (aS ?_)
  simp only [i0 h (Upd.refl _ _),bL]
  refine ⟨trivial, ?_⟩
  refine aM R2 D2.len.symm g1 ?_
  refine ⟨rfl, ?_⟩
  refine aM R2 D2.len.symm g1 ?_
  refine ⟨rfl, ?_⟩
  refine aG (fun e=>?_) fun e=>bI (aK (aK (fin _ h (by
   rw [hk]
   show false=(eA k&&_)
   unfold eA
   rw [e] <;> rfl) S)))
  refine aK (aM R2 D2.len.symm g1 ?_)
  simp only [i0 h (Upd.refl _ _),A.fa,A.f3 h (Upd.refl _ _),cI]
  refine aG (fun e2=>?_) fun e2=>bI (aK (aK (fin _ h (by
   rw [hk]
   show false=(eA k&&_)
   unfold eA
   have e2:=of_decide_eq_false e2
   rw [e,decide_eq_false (show ¬ k.data.length=1 by omega)] <;> rfl) S)))
  refine aK (aM R2 D2.len.symm g1 ?_)
  simp only [i0 h (Upd.refl _ _),A.fa,A.f3 h (Upd.refl _ _),cI]
  refine bI (aK (aK (fin _ h (by
   rw [hk]
   show (!decide (k.data=[0]))=(eA k && !decide (k.data=[0]))
   unfold eA
   have e2:=of_decide_eq_true e2
   rw [e,decide_eq_true (show k.data.length=1 by omega)] <;> rfl) S)))
theorem aMP (G:CG2 hb) {F2:Nat→Prop} {d2:Der} {cs2:List AV} {rid2 lo:Nat} (S:ESt hb id mid ser iss sub key frm til h kv true bs ns au nv) (h16:ns.length≤16) (D2:DV h F2 d2 cs2) (R2:bC h rid2 cs2) (hF2:∀ a,F2 a→lo≤a) (hid:id<lo) (hmid:mid<lo) (hlo:lo≤h.length) (hnv:∀ a,bU nv a→a<lo) (hf2:Fit d2)
  (hq:r9 hb id ser iss sub key frm til Q (cW r true bs (cN ns d2.kids,au))):Y0.p5 Q (.p (some ⟨id,9,0⟩)) (.mp (some mid)) altOid (.p (some ⟨rid2,5,0⟩)) v n i false h:=by
 obtain ⟨w,rs,g1,g2,g3,g4,g5⟩:=D2.kidsLen
 refine Y0.i5 ?_
 simp only [Y0.t5, ← Y0.p7.eq_1]
 refine aN rfl (dX (n:=false) (by decide) (aN rfl ?_))
 refine aK (aM R2 D2.len.symm g1 ?_)
 have K2:KL h (fun a=>F2 a∧a<h.length) w d2.kids rs:=by
  refine ⟨?_,g3,fun i hi=>⟨(g5 i hi).1,(g5 i hi).2⟩⟩
  exact g2.upd (Upd.refl (fun _=>False) h) fun a ha hlt=>⟨fun h=>h,ha,hlt⟩
 rw [K2.rd.plen]
 have hkl:=hf2.few
 exact aNV G K2 (lo:=lo) (fun a ha=>⟨hF2 a ha.1,ha.2⟩) hid hmid hlo (fun k hk=>hf2.kid hk) hkl d2.kids 0 h nv ns rfl (by omega) (Upd.refl _ _) S (fun a ha=>.inl (hnv a ha)) fun h' nv' S'=>aAE nx hn hi S' (gZ _ _ h16) hq
end
end
end Go.Proofs.YtcdkpkkdolmfdaaGreatDoor
namespace Go.Proofs.YtcdkpkkdolmfdaaGreatDoor
open Go.GAM Go.RowKit
theorem aIT (t:List UInt8):aCD prog 9 (sκ t)=true:=by
 unfold aCD; rw [show prog.underlying 9=some .string from Tryz.underlying9]
section
variable {hb:aA} {id mid:Nat} {ser iss sub key:List UInt8} {frm til:Int} {Q:AV→aA→Prop} {h:aA} {kv:List (List UInt8 × AV)} {nm bs:Bool} {ns:List (List UInt8)} {au:Bool} {nv:AV}
variable {v:AV} {n i:Nat} {r:List Der} {d:Der} {t s:List UInt8} (nx:Nx hb id mid ser iss sub key frm til Q v n i r) (hn:n≤300) (hi:i≤300) (G:CG2 hb)
variable {F:Nat→Prop} {w0:AV} {j:Nat} {last:Der} {rl cs:List AV} {rid:Nat}
theorem ESt.seen (S:ESt hb id mid ser iss sub key frm til h kv nm bs ns au nv) {t:List UInt8} {h':aA} (U:Upd (· = mid) h h') (M:lA sκ h' mid (upM kv t (.b true))) :
  ESt hb id mid ser iss sub key frm til h' (upM kv t (.b true)) (nm||decide (t=altOid)) (bs||decide (t=basOid)) ns au nv:=by
 have key:∀ (o:List UInt8) (b:Bool),(lkM kv o).getD (.b false) = .b b→(lkM (upM kv t (.b true)) o).getD (.b false) = .b (b||decide (t=o)):=by
  intro o b hb'
  rw [aJ6]
  by_cases e:o=t
  ·rw [if_pos e,decide_eq_true e.symm,Bool.or_true] <;> rfl
  ·rw [if_neg e,decide_eq_false (fun h=>e h.symm),Bool.or_false]; exact hb'
 refine ⟨S.r.upd U fun e=>S.ne e.symm,M,key _ _ S.sa,key _ _ S.sb,fun o=>?_,⟨S.u.own U S.ml,S.s.stk.upd U fun a ha e=>(S.ni a ha).2 e,S.s.new⟩,S.ni,S.il,S.ml,S.ne⟩
 obtain ⟨b,hb'⟩:=S.sx o
 exact ⟨_,key o b hb'⟩
include nx hn hi G
theorem aNP (S : ESt hb id mid ser iss sub key frm til h kv nm bs ns au nv) (h16 : ns.length ≤ 16) (A : KAt hb F w0 j last rl) (hj : j ≤ 300) (R : bC h rid cs) (hcl : cs.length = 5) (hw : cs[4]? = some w0) (hri : rid ≠ id) (hrm : rid ≠ mid) (hs : last.data = s) (hfl : Fit last)
  (hx:dB d=some (t,s)) (ht:(t=altOid∧nm=false)∨(t=basOid∧bs=false)) (hq:r9 hb id ser iss sub key frm til Q (cW (d :: r) nm bs (ns,au))) :
  Y0.p4 Q (.p (some ⟨id,9,0⟩)) (.mp (some mid)) (.p (some ⟨rid,5,0⟩)) ((j+1:Nat):Int) t v n i false h:=by
 have hne:altOid≠basOid:=by decide
 refine Y0.i4 ?_
 simp only [Y0.t4, ← Y0.p5.eq_1]
 refine aN rfl (aGY S.m aK4 (aIT t) rfl fun h1 hl1 U1 M1=>?_)
 have S1:=S.seen U1 M1
 have R1:=R.upd U1 hrm
 refine aK (aM R1 hcl.symm hw ?_)
 refine aI (n:=(j:Int)) (by rw [aJ (by omega) (by omega)]; omega) ?_
 simp only [A.idx h1 S1.u,A.fa,A.f3 h1 S1.u,cI]
 have fail:cY s=none→∀ h' rid2,Upd (fun _=>False) hb h'→bC h' id (pc ser iss sub frm til nv au key true)→Y0.p5 Q (.p (some ⟨id,9,0⟩)) (.mp (some mid)) t rid2 v n i true h':=by
  intro hin h' rid2 U' R'
  refine Y0.i5 ?_
  simp only [Y0.t5]
  exact aO rfl (aH2 hq hx ht hin U' R')
 rw [hs]
 refine aCR ?_
 cases hd:j5 s with
 | error e =>
  intro h2 U2
  have hin:cY s=none:=by unfold cY; rw [hd]
  have S2:=S1.up U2
  refine aY (aZ (aQ ?_))
  refine bR fun h3 hl3 U3 R3=>?_
  refine aW R3 rfl rfl rfl fun h4 hl4 U4 R4=>?_
  have U24:Upd (fun _=>False) h2 h4:=U3.own U4 (Nat.le_refl _)
  refine aN (decide_eq_false (nS hd)) ?_
  refine nN (S2.up U24) (fun e=>by cases e) fun _ h5 V5 U5 R5=>aS ?_
  exact fail hin h5 _ U5 R5
 | ok d2 =>
  intro cs2 h2 U2 D2
  have hf2:=Fit.of hd
  have S2:=S1.up U2
  refine aY (aZ (aQ ?_))
  refine bR fun h3 hl3 U3 R3=>?_
  refine aW R3 rfl D2.len D2.cells' fun h4 hl4 U4 R4=>?_
  have U24:Upd (fun _=>False) h2 h4:=U3.own U4 (Nat.le_refl _)
  have S4:=S2.up U24
  have D4:=D2.ext U24
  refine aO rfl ?_
  simp only [aX (G.up S4.u).g.seq]
  refine aT R4 D2.len.symm ?_
  refine dL D4 (aS ?_)
  refine nN S4 (fun e h5 U5 S5=>aS ?_) fun e h5 V5 U5 R5=>aS ?_
  ·have hin : cY s = some d2.kids := by
    unfold cY; rw [hd]; simp only
    rw [if_pos (show cL d2=true from e)]
   have hidlt:id<h1.length:=S1.r.lt
   have hmlt:mid<h1.length:=M1.lt
   have hl12:=U2.1
   have D5:DV h5 (fun i=>h1.length≤i) d2 cs2:=D4.upd U5 fun a ha _=>⟨by omega,ha⟩
   have R5:=R4.upd U5 (by omega)
   show Y0.p5 Q (.p (some ⟨id,9,0⟩)) (.mp (some mid)) t (.p (some ⟨h2.length,5,0⟩)) v n i false h5
   rcases ht with ⟨rfl,hnm⟩ | ⟨rfl,hbs⟩
   ·subst hnm
    rw [aKJ hx hin] at hq
    have S5':ESt hb id mid ser iss sub key frm til h5 (upM kv altOid (.b true)) true bs ns au nv:=by
     have:=S5
     rw [decide_eq_false hne,Bool.or_false,decide_eq_true rfl] at this
     exact this
    exact aMP nx hn hi G S5' h16 D5 R5 (lo:=h1.length) (fun a ha=>ha) hidlt hmlt (by have:=U24.1; have:=U5.1; omega) (fun a ha=>Rd.lt S1.s.stk.rd ha) hf2 hq
   ·subst hbs
    rw [aKO hx hin] at hq
    have S5':ESt hb id mid ser iss sub key frm til h5 (upM kv basOid (.b true)) nm true ns au nv:=by
     have:=S5
     rw [decide_eq_false (fun h=>hne h.symm),Bool.or_false,decide_eq_true rfl] at this
     exact this
    exact aMU nx hn hi G S5' h16 D5 R5 (by omega) (fun a ha=>by omega) hf2 hq
  ·have hin : cY s = none := by
    unfold cY; rw [hd]; simp only
    rw [if_neg (show ¬ cL d2=true by rw [show cL d2=false from e]; decide)]
   exact fail hin h5 _ U5 R5
theorem aOP (S:ESt hb id mid ser iss sub key frm til h kv nm bs ns au nv) (h16:ns.length≤16) (A:KAt hb F w0 j last rl) (hj:j≤300) (R:bC h rid cs) (hcl:cs.length=5) (hw:cs[4]? = some w0) (hri:rid≠id) (hrm:rid≠mid) (hs:last.data=s) (hfl:Fit last)
  (hx:dB d=some (t,s)) (hq:r9 hb id ser iss sub key frm til Q (cW (d :: r) nm bs (ns,au))) :
  Y0.p3 Q (.p (some ⟨id,9,0⟩)) (.mp (some mid)) (.p (some ⟨rid,5,0⟩)) ((j+1:Nat):Int) t v n i false h:=by
 have skip:¬ (t=altOid∧nm=false)→¬ (t=basOid∧bs=false)→Y0.p4 Q (.p (some ⟨id,9,0⟩)) (.mp (some mid)) (.p (some ⟨rid,5,0⟩)) ((j+1:Nat):Int) t v n i true h:=by
  intro h1 h2
  refine Y0.i4 ?_
  simp only [Y0.t4, ← Y0.p10.eq_1]
  rw [aJ1 hx h1 h2] at hq
  exact aO rfl (aAE nx hn hi S h16 hq)
 have go:(t=altOid∧nm=false)∨(t=basOid∧bs=false)→Y0.p4 Q (.p (some ⟨id,9,0⟩)) (.mp (some mid)) (.p (some ⟨rid,5,0⟩)) ((j+1:Nat):Int) t v n i false h:=
  fun ht=>aNP nx hn hi G S h16 A hj R hcl hw hri hrm hs hfl hx ht hq
 have hne:altOid≠basOid:=by decide
 refine Y0.i3 ?_
 simp only [Y0.t3, ← Y0.p4.eq_1]
 refine aN rfl (aHO S.m aK4 (aIT t) (z:=.b false) (by kernel_rfl) ?_)
 obtain ⟨b,hb'⟩:=S.sx t
 rw [hb']
 refine aS ?_
 by_cases h1:t=altOid
 ·subst h1
  obtain rfl:b=nm:=by have:=S.sa; rw [hb'] at this; injection this
  cases b with
  | true=>exact aO rfl (skip (by simp) fun h=>hne h.1)
  | false=>exact aN rfl (dX (n:=false) (by decide) (aN rfl (go (.inl ⟨rfl,rfl⟩))))
 ·have e1 : (!decide (t = [50, 46, 53, 46, 50, 57, 46, 49, 55])) = true := by rw [decide_eq_false (show ¬ t = [50, 46, 53, 46, 50, 57, 46, 49, 55] from h1)] <;> rfl
  by_cases h2:t=basOid
  ·subst h2
   obtain rfl:b=bs:=by have:=S.sb; rw [hb'] at this; injection this
   cases b with
   | true=>exact aO rfl (skip (fun h=>h1 h.1) (by simp))
   | false=>exact aN rfl (dX (n:=true) e1 (aO rfl (dX (n:=false) (by decide) (go (.inr ⟨rfl,rfl⟩)))))
  ·have e2 : (!decide (t = [50, 46, 53, 46, 50, 57, 46, 49, 57])) = true := by rw [decide_eq_false (show ¬ t = [50, 46, 53, 46, 50, 57, 46, 49, 57] from h2)] <;> rfl
   cases b with
   | true=>exact aO rfl (skip (fun h=>h1 h.1) fun h=>h2 h.1)
   | false=>exact aN rfl (dX (n:=true) e1 (aO rfl (dX (n:=true) e2 (skip (fun h=>h1 h.1) fun h=>h2 h.1))))
theorem aJX {ok crit : Bool} (S : ESt hb id mid ser iss sub key frm til h kv nm bs ns au nv) (h16 : ns.length ≤ 16) (A : KAt hb F w0 j last rl) (hj : j ≤ 300) (R : bC h rid cs) (hcl : cs.length = 5) (hw : cs[4]? = some w0) (hri : rid ≠ id) (hrm : rid ≠ mid) (hfl : Fit last)
  (hx:dB d=if (crit&&(isS 0 4 false last&&ok))=true then some (t,last.data) else none) (hq:r9 hb id ser iss sub key frm til Q (cW (d :: r) nm bs (ns,au))) :
  Y0.p2 Q (.p (some ⟨id,9,0⟩)) (.mp (some mid)) (.p (some ⟨rid,5,0⟩)) ((j+1:Nat):Int) t ok crit v n i h:=by
 have fail:dB d=none→∀ h',Upd (fun _=>False) hb h'→bC h' id (pc ser iss sub frm til nv au key true)→Y0.p3 Q (.p (some ⟨id,9,0⟩)) (.mp (some mid)) (.p (some ⟨rid,5,0⟩)) ((j+1:Nat):Int) t v n i true h':=by
  intro hin h' U' R'
  refine Y0.i3 ?_
  simp only [Y0.t3]
  exact aO rfl (aB7 hq hin U' R')
 refine Y0.i2 ?_
 simp only [Y0.t2, ← Y0.p3.eq_1,bL,true_and]
 refine aG (fun e1=>?_) fun e1=>?_
 ·refine aG (fun e2 => ?_) fun e2 => ?_
  ·simp only [aX (G.up S.u).oct]
   refine aK (aM R hcl.symm hw ?_)
   refine aI (n:=(j:Int)) (by rw [aJ (by omega) (by omega)]; omega) ?_
   simp only [A.idx h S.u,A.ld h S.u]
   refine dL (A.dv.ext S.u) (aS ?_)
   simp only [A.idx h S.u,bL,true_and]
   refine aM R hcl.symm hw ⟨rfl, ?_⟩
   have fin:∀ (c:Bool) (h':aA),Upd (fun _=>False) hb h'→bC h' rid cs→Y0.p3 Q (.p (some ⟨id,9,0⟩)) (.mp (some mid)) (.p (some ⟨rid,5,0⟩)) ((j+1:Nat):Int) t v n i (!c) h' →
     aD 5 (ptr w0 5 j 0) h' fun v79=>AV.ag rl=v79∧aB 5 w0 (AV.i .i64 (j:Int)) h' fun v80=>ptr w0 5 j 0=v80∧aE (.p (some ⟨rid,5,0+4⟩)) h' fun v81=>w0=v81∧aD 3 (bE h' 9) h' fun v82=>AV.ag [.i .i64 0,.i .i64 4,.b false]=v82 ∧
      Y0.p3 Q (.p (some ⟨id,9,0⟩)) (.mp (some mid)) (.p (some ⟨rid,5,0⟩)) ((j+1:Nat):Int) t v n i (!c) h':=by
    intro c h' U' R' hk
    simp only [A.ld h' U',A.idx h' U',bL,true_and]
    refine aM R' hcl.symm hw ⟨rfl, ?_⟩
    simp only [aX (G.up U').oct,bL,true_and]
    exact hk
   refine nN S (fun e h5 U5 S5=>aS (fin true h5 S5.u (R.upd U5 hri) ?_)) fun e h5 V5 U5 R5=>aS (fin false h5 U5 (R.upd V5 hri) ?_)
   ·refine aOP nx hn hi G S5 h16 A hj (R.upd U5 hri) hcl hw hri hrm rfl hfl ?_ hq
    rw [hx,e1,e2,e] <;> rfl
   ·exact fail (by rw [hx,e1,e2,e] <;> rfl) h5 U5 R5
  ·refine nN S (fun e => by cases e) fun _ h5 V5 U5 R5 => aS ?_
   exact fail (by rw [hx,e2] <;> rfl) h5 U5 R5
 ·refine nN S (fun e => by cases e) fun _ h5 V5 U5 R5 => aS ?_
  exact fail (by rw [hx,e1,Bool.and_false,Bool.and_false] <;> rfl) h5 U5 R5
theorem aJK {r':List AV} (S:ESt hb id mid ser iss sub key frm til h kv nm bs ns au nv) (h16:ns.length≤16) {v1:AV} {i1:Nat} (A:KAt hb F v1 i1 d r') (R:bC h rid r') (hri:rid≠id) (hrm:rid≠mid) (hfd:Fit d)
  (hs:cL d=true) (hk:d.kids.length=2∨d.kids.length=3) (hq:r9 hb id ser iss sub key frm til Q (cW (d :: r) nm bs (ns,au))) :
  Y0.p1 Q (.p (some ⟨id,9,0⟩)) (.mp (some mid)) (.p (some ⟨rid,5,0⟩)) (d.kids.length:Nat) v n i false h:=by
 obtain ⟨w,rs,g1,K,_⟩:=A.f4
 have hcl:=A.row
 have hk0:d.kids[0]? = some (d.kids[0]'(by omega)):=List.getElem?_eq_getElem _
 generalize d.kids[0]'(by omega)=k0 at hk0
 obtain ⟨r0,A0⟩:=K.at hk0
 have hf0:Fit k0:=hfd.kid (List.mem_of_getElem? hk0)
 have a0:∀ (h':aA),Upd (fun _=>False) hb h'→∀ K:AV→Prop,aB 5 w (.i .i64 0) h' K=K (ptr w 5 0 0):=A0.idx
 refine Y0.i1 ?_
 simp only [Y0.t1, ← Y0.p2.eq_1]
 refine aN rfl (aK (aM R hcl.symm g1 ?_))
 simp only [a0 h S.u,A0.ld h S.u]
 refine aND (A0.dv.ext S.u) (by have:=hf0.data; omega) ?_
 refine aY (bA (aZ (aS ?_)))
 rcases hk with hk | hk
 ·have hk1 : d.kids[1]? = some (d.kids[1]'(by omega)) := List.getElem?_eq_getElem _
  generalize d.kids[1]'(by omega)=k1 at hk1
  obtain ⟨r1,A1⟩:=K.at hk1
  rw [hk]
  refine aO rfl (aJX (j:=1) nx hn hi G S h16 A1 (by omega) R hcl g1 hri hrm (hfd.kid (List.mem_of_getElem? hk1)) ?_ hq)
  have hkk:d.kids=[k0,k1]:=by
   match hd:d.kids,hk with
   | [x,y],_=>rw [hd] at hk0 hk1; simp at hk0 hk1; rw [hk0,hk1]
  unfold dB
  rw [hkk]
  simp only
  rw [hs,Bool.true_and]
 ·have hk1 : d.kids[1]? = some (d.kids[1]'(by omega)) := List.getElem?_eq_getElem _
  generalize d.kids[1]'(by omega)=k1 at hk1
  have hk2:d.kids[2]? = some (d.kids[2]'(by omega)):=List.getElem?_eq_getElem _
  generalize d.kids[2]'(by omega)=k2 at hk2
  obtain ⟨r1,A1⟩:=K.at hk1
  obtain ⟨r2,A2⟩:=K.at hk2
  have a1:∀ (h':aA),Upd (fun _=>False) hb h'→∀ K:AV→Prop,aB 5 w (.i .i64 1) h' K=K (ptr w 5 1 0):=A1.idx
  have hkk:d.kids=[k0,k1,k2]:=by
   match hd:d.kids,hk with
   | [x,y,z],_=>rw [hd] at hk0 hk1 hk2; simp at hk0 hk1 hk2; rw [hk0,hk1,hk2]
  have hx:∀ b,b=eA k1→dB d=if (b&&(isS 0 4 false k2&&(eB k0).2))=true then some ((eB k0).1,k2.data) else none:=by
   intro b hb'
   subst hb'
   unfold dB
   rw [hkk]
   simp only
   rw [hs,Bool.true_and]
  have go:∀ b,b=eA k1→Y0.p2 Q (.p (some ⟨id,9,0⟩)) (.mp (some mid)) (.p (some ⟨rid,5,0⟩)) (3:Int) (eB k0).1 (eB k0).2 b v n i h:=fun b hb'=>
   aJX (j:=2) nx hn hi G S h16 A2 (by omega) R hcl g1 hri hrm (hfd.kid (List.mem_of_getElem? hk2)) (hx b hb') hq
  rw [hk]
  refine aN rfl ?_
  simp only [aX (G.up S.u).tru]
  refine aK (aM R hcl.symm g1 ?_)
  simp only [a1 h S.u,A1.ld h S.u]
  refine dL (A1.dv.ext S.u) (aS ?_)
  simp only [a1 h S.u,bL,true_and]
  refine aM R hcl.symm g1 ⟨rfl, ?_⟩
  refine aG (fun e=>?_) fun e=>go false (by unfold eA; rw [e] <;> rfl)
  refine aK (aM R hcl.symm g1 ?_)
  rw [a1 h S.u,A1.fa,A1.f3 h S.u,cI]
  refine go _ ?_
  unfold eA
  rw [e,Bool.true_and,decide_eq_decide]; omega
end
section
variable {hb:aA} {id mid:Nat} {ser iss sub key:List UInt8} {frm til:Int} {Q:AV→aA→Prop} {v:AV} {l:List Der} {rows:List (List AV)} {F:Nat→Prop}
theorem aOJ (G : CG2 hb) (L : KL hb F v l rows) (hfit : ∀ k ∈ l, Fit k) (hl : l.length ≤ 256) : ∀ (r : List Der) (i : Nat) (h : aA) (kv : List (List UInt8 × AV)) (nm bs : Bool) (ns : List (List UInt8)) (au : Bool) (nv : AV), l.drop i = r → ESt hb id mid ser iss sub key frm til h kv nm bs ns au nv → ns.length ≤ 16 →
  r9 hb id ser iss sub key frm til Q (cW r nm bs (ns,au))→Y0.p0 Q (.p (some ⟨id,9,0⟩)) (.mp (some mid)) v (l.length:Nat) (i:Nat) h:=by
 intro r
 induction r with
 | nil =>
  intro i h kv nm bs ns au nv hr S h16 hq
  have:=cA hr
  refine Y0.i0 ?_
  simp only [Y0.t0]
  refine aN (by simp; omega) (hq h nv au false S.u S.r rfl fun x hx=>?_)
  unfold cW at hx
  cases hx
  have:=S.s.stk.rd.i
  rw [List.length_map] at this
  exact ⟨rfl,this,S.s.new⟩
 | cons d r ih =>
  intro i h kv nm bs ns au nv hr S h16 hq
  have hlt:=cG hr
  have hj:=b4 hr
  have hfd:=hfit d (List.mem_of_getElem? hj)
  have nx:Nx hb id mid ser iss sub key frm til Q v l.length i r:=fun h' kv' nm' bs' ns' au' nv' S' h16' hq'=>ih (i+1) h' kv' nm' bs' ns' au' nv' (b3 hr) S' h16' hq'
  obtain ⟨r',A⟩:=L.at hj
  have hcl:=A.row
  obtain ⟨w,rs,g1,K,_⟩:=A.f4
  refine Y0.i0 ?_
  simp only [Y0.t0, ← Y0.p1.eq_1]
  refine aO (by simp; omega) ?_
  simp only [A.idx h S.u,A.ld h S.u]
  refine bR fun h1 hl1 U1 R1=>?_
  refine aW R1 rfl hcl A.dv.cells' fun h2 hl2 U2 R2=>?_
  have U02:Upd (fun _=>False) h h2:=U1.own U2 (Nat.le_refl _)
  have S2:=S.up U02
  refine aK (aM R2 hcl.symm g1 ?_)
  rw [(K.up S2.u).rd.plen]
  simp only [aX (G.up S2.u).g.seq]
  refine aT R2 hcl.symm ?_
  refine dL (A.dv.ext S2.u) (aS ?_)
  have hri:h.length≠id:=by have:=S.r.lt; omega
  have hrm:h.length≠mid:=by have:=S.m.lt; omega
  have fail:dB d=none→∀ h',Upd (fun _=>False) hb h'→bC h' id (pc ser iss sub frm til nv au key true)→Y0.p1 Q (.p (some ⟨id,9,0⟩)) (.mp (some mid)) (.p (some ⟨h.length,5,0⟩)) (d.kids.length:Nat) v l.length i true h':=by
   intro hin h' U' R'
   refine Y0.i1 ?_
   simp only [Y0.t1]
   exact aO rfl (aB7 hq hin U' R')
  have nos:cL d=false→dB d=none:=by
   intro e
   unfold dB
   split
   ·rw [e] <;> rfl
   ·rw [e] <;> rfl
   ·rfl
  refine aG (fun e=>?_) fun e=>?_
  ·refine aG (fun e2 => ?_) fun e2 => ?_
   ·refine nN S2 (fun _ h3 U3 S3 => aS ?_) fun e => by cases e
    have e2:=of_decide_eq_true e2
    exact aJK nx (by omega) (by omega) G S3 h16 A (R2.upd U3 hri) hri hrm hfd e (.inl (by omega)) hq
   ·have e2 := of_decide_eq_false e2
    refine nN S2 (fun e3 h3 U3 S3=>aS ?_) fun e3 h3 V3 U3 R3=>aS (fail ?_ h3 U3 R3)
    ·have e3 := of_decide_eq_true e3
     exact aJK nx (by omega) (by omega) G S3 h16 A (R2.upd U3 hri) hri hrm hfd e (.inr (by omega)) hq
    ·have e3 := of_decide_eq_false e3
     unfold dB
     split
     ·rename_i hk; rw [hk] at e2; exact absurd rfl e2
     ·rename_i hk; rw [hk] at e3; exact absurd rfl e3
     ·rfl
  ·refine nN S2 (fun e=>by cases e) fun _ h3 V3 U3 R3=>aS (fail (nos e) h3 U3 R3)
theorem zR {h:aA} (G:CG2 hb) (L:KL hb F v l rows) (hfit:∀ k∈l,Fit k) (hl:l.length≤256) (U:Upd (fun _=>False) hb h) (hid:hb.length≤id) (R:bC h id (pc ser iss sub frm til (.sl none 0 none) false key false))
  (hq:r9 hb id ser iss sub key frm til Q (cW l false false ([],false))):C Y0.id [.p (some ⟨id,9,0⟩),v] h Q:=by
 refine Y0.call ?_
 simp only [Y0.t, ← Y0.p0.eq_1]
 refine aDY sκ fun h1 hl1 U1 M1=>?_
 have U01:=U.trans U1 fun _ _ h=>h
 rw [(L.up U01).rd.plen]
 have hlt:=R.lt
 have hq':r9 hb id ser iss sub key frm til (aL h Q) (cW l false false ([],false)):=fun h' nv au bad a b c d=>.inl (hq h' nv au bad a b c d)
 have S:ESt hb id h.length ser iss sub key frm til h1 [] false false [] false (.sl none 0 none):=
  ⟨R.upd U1 fun h=>h,M1,rfl,rfl,fun t=>⟨false,rfl⟩,⟨U01,.inl ⟨rfl,rfl⟩,fun i hi=>hi.elim⟩,fun i hi=>hi.elim,hid,U.1,by omega⟩
 exact aOJ G L hfit hl l 0 h1 [] false false [] false _ rfl S (by simp) hq'
end
end Go.Proofs.YtcdkpkkdolmfdaaGreatDoor
namespace Go.GAM
theorem aJV {l:List UInt8} {k:IntKind} {lo hi:Nat} {K:List UInt8→Prop} (h:lo≤hi) (h2:hi≤l.length) (hk:K ((l.take hi).drop lo)):bV (.s l) (some (.i k lo)) (some (.i k hi)) K:=by
 refine ⟨by omega,by omega,by simpa using h,by simpa using h2, ?_⟩
 simpa using hk
end Go.GAM
namespace Go.Proofs.YtcdkpkkdolmfdaaGreatDoor
open Go.GAM Go.RowKit
abbrev vW:List UInt8:=[48,49,50,51,52,53,54,55,56,57,97,98,99,100,101,102]
theorem oE:∀ x,x<16→(vW.take (x+1)).drop x=[tP x]:=by decide
theorem aNJ (c:UInt8):cD .and .u8 (c.toNat:Int) 15=((c.toNat % 16:Nat):Int):=by
 have:=aGW (x:=c.toNat) (y:=15) c.toNat_lt (by omega)
 rw [show ((15:Nat):Int)=15 from rfl] at this
 rw [this,show 15=2 ^ 4 - 1 from rfl,Nat.and_two_pow_sub_one_eq_mod]
theorem uI (l:List UInt8):(hZ l).length=2 * l.length:=by
 induction l with
 | nil=>rfl
 | cons c l ih=>show (_++hZ l).length=_; rw [List.length_append,ih]; simp; omega
theorem zA (l:List UInt8) (c:UInt8):hZ (l++[c])=hZ l++([tP (c.toNat / 16)]++[tP (c.toNat % 16)]):=by simp [hZ]
theorem aB5 {l p:List UInt8} {h:aA} {Q:AV→aA→Prop} (hk:Q (.b (kR l p)) h):C Y93.id [.s l,.s p] h Q:=by
 refine Y93.call ?_
 simp only [Y93.t]
 exact sT (aS (.inl hk))
def tM (hb : aA) (id : Nat) (Q : AV → aA → Prop) (res : Option eH) : Prop :=
 ∀ h' ser iss sub frm til nv au key bad, Upd (fun _ => False) hb h' → bC h' id (pc ser iss sub frm til nv au key bad) → bad = res.isNone →
  (∀ c,res=some c→c.serial=ser∧c.issuer=iss∧c.subject=sub∧c.frm=frm∧c.til=til∧c.auth=au∧c.key=key∧RdI 1 h' nv (c.names.map .s) c.names.length∧∀ i,bU nv i→hb.length≤i)→Q (.tu []) h'
section
variable {hb h:aA} {id:Nat} {ser iss sub key:List UInt8} {frm til:Int} {nv:AV} {au bad:Bool} {Q:AV→aA→Prop}
theorem tM.fail (hq:tM hb id Q none) (U:Upd (fun _=>False) hb h) (R:bC h id (pc ser iss sub frm til nv au key true)):Q (.tu []) h:=
 hq h _ _ _ _ _ _ _ _ true U R rfl fun c h=>by cases h
theorem kJ {ok:Bool} {K:AV→aA→Prop} (U:Upd (fun _=>False) hb h) (hid:hb.length≤id) (R:bC h id (pc ser iss sub frm til nv au key bad))
  (hk:∀ h',Upd (fun _=>False) hb h'→bC h' id (pc ser iss sub frm til nv au key (bad || !ok))→K (.b (!(bad || !ok))) h'):C Y32.id [.p (some ⟨id,9,0⟩),.b ok] h K:=
 aD7 R rfl rfl fun h' U' R'=>hk h' (U.own U' hid) R'
variable {F:Nat→Prop} (hF:∀ i,F i→i<hb.length) (hid:hb.length≤id) (G:CG2 hb)
include hid G in
theorem aDF {w:AV} {k:Der} {r:List AV} (A:KAt hb F w 0 k r) (hk:Fit k) (U:Upd (fun _=>False) hb h) (R:bC h id (pc ser iss sub frm til (.sl none 0 none) false key false))
  (hq:tM hb id Q ((cW k.kids false false ([],false)).map fun n=>⟨ser,iss,sub,frm,til,n.1,n.2,key⟩)):Y12.p3 Q (.p (some ⟨id,9,0⟩)) w true h:=by
 obtain ⟨w2,rs,_,K2,ld⟩:=A.f4
 have a0:∀ (h':aA),Upd (fun _=>False) hb h'→∀ K:AV→Prop,aB 5 w (.i .i64 0) h' K=K (ptr w 5 0 0):=A.idx
 refine Y12.i3 ?_
 simp only [Y12.t3]
 refine aO rfl ?_
 simp only [a0 h U,A.fa,ld h U]
 refine zR G K2 (fun x hx=>hk.kid hx) hk.few U hid R fun h' nv au bad U' R' hb' hx=>?_
 refine hq h' ser iss sub frm til nv au key bad U' R' (by rw [hb']; simp) fun c hc=>?_
 cases he:cW k.kids false false ([],false) with
 | none=>rw [he] at hc; cases hc
 | some n =>
  rw [he] at hc
  cases hc
  obtain ⟨h1,h2,h3⟩:=hx n he
  exact ⟨rfl,rfl,rfl,rfl,rfl,h1.symm,rfl,h2,h3⟩
variable {a b c d e f g:Der} {xs:List Der} {v:AV} {rows:List (List AV)}
include hid G in
theorem aDQ (L : KL hb F v (a :: b :: c :: d :: e :: f :: g :: xs) rows) (hxs : xs.length ≤ 1) (hfx : ∀ x ∈ xs, Fit x) {w : AV} {q : Der} {r : List AV} (Aq : KAt hb F w 1 q r) (hkey : q.data = 0 :: key) (U : Upd (fun _ => False) hb h) (R : bC h id (pc ser iss sub frm til (.sl none 0 none) false [] false))
  (hq:tM hb id Q ((o4 xs).map fun n=>⟨ser,iss,sub,frm,til,n.1,n.2,key⟩)):Y12.p2 Q (.p (some ⟨id,9,0⟩)) v w false h:=by
 have a1:∀ (h':aA),Upd (fun _=>False) hb h'→∀ K:AV→Prop,aB 5 w (.i .i64 1) h' K=K (ptr w 5 1 0):=Aq.idx
 refine Y12.i2 ?_
 simp only [Y12.t2, ← Y12.p3.eq_1]
 refine aN rfl ?_
 simp only [a1 h U,Aq.fa,Aq.f3 h U,cI]
 rw [hkey]
 refine gY (lo:=1) (by simp) (bI (aK (aK (b7 R rfl (by show 7<9; omega) rfl rfl rfl fun h1 hl1 U1 R1=>?_))))
 have V1:=U.own U1 hid
 rw [(L.up V1).rd.plen]
 match xs,hxs,L,hfx,hq with
 | [], _, L, hfx, hq =>
  refine aN (by simp) (hq h1 ser iss sub frm til _ false key false V1 R1 rfl fun c hc=>?_)
  cases hc
  exact ⟨rfl,rfl,rfl,rfl,rfl,rfl,rfl,(Rd.i (.inl ⟨rfl,rfl,rfl⟩)),fun i hi=>hi.elim⟩
 | [x], _, L, hfx, hq =>
  obtain ⟨rx,Ax⟩:=L.at (i:=7) (k:=x) rfl
  have a7:∀ (h':aA),Upd (fun _=>False) hb h'→∀ K:AV→Prop,aB 5 v (.i .i64 7) h' K=K (ptr v 5 7 0):=Ax.idx
  have hfit:=hfx x (by simp)
  obtain ⟨wx,rsx,gx,Kx,ldx⟩:=Ax.f4
  refine aO (by simp) ?_
  simp only [aX (G.up V1).ext,a7 h1 V1,Ax.ld h1 V1]
  refine nY (Ax.dv.ext V1) gx fun h2 U2=>?_
  have V2:=V1.trans U2 fun _ _ h=>h
  have R2:=R1.upd U2 fun h=>h
  simp only [a7 h2 V2,bL,true_and]
  refine aY (aZ (aS ?_))
  refine aG (fun e=>?_) fun e=>?_
  ·rw [Bool.and_eq_true, Bool.or_eq_true, decide_eq_true_eq, decide_eq_true_eq] at e
   obtain ⟨e1,e2⟩:=e
   have e2:x.kids.length=1:=by omega
   obtain ⟨k,hk⟩:∃ k,x.kids=[k]:=by
    match x.kids,e2 with
    | [k],_=>exact ⟨k,rfl⟩
   obtain ⟨rk,Ak⟩:=Kx.at (i:=0) (k:=k) (by rw [hk] <;> rfl)
   have a0:∀ (h':aA),Upd (fun _=>False) hb h'→∀ K:AV→Prop,aB 5 wx (.i .i64 0) h' K=K (ptr wx 5 0 0):=Ak.idx
   simp only [aX (G.up V2).g.seq,a0 h2 V2,Ak.ld h2 V2]
   refine dL (Ak.dv.ext V2) (aS ?_)
   simp only [a0 h2 V2,bL,true_and]
   refine kJ V2 hid R2 fun h3 V3 R3=>aS ?_
   simp only [aX (G.up V3).g.seq,a0 h3 V3,Ak.ld h3 V3,bL,true_and, ← Y12.p3.eq_1]
   have hx:o4 [x]=if cL k=true then cW k.kids false false ([],false) else none:=by
    unfold o4
    simp only [hk,e1,if_true]
   rw [hx] at hq
   cases hs:isS 0 16 true k with
   | true =>
    rw [hs] at R3
    rw [if_pos (show cL k=true from hs)] at hq
    exact aDF hid G Ak (hfit.kid (by rw [hk]; simp)) V3 R3 hq
   | false =>
    rw [hs] at R3
    rw [if_neg (show ¬ cL k=true by show ¬ isS 0 16 true k=true; rw [hs]; simp)] at hq
    refine Y12.i3 ?_
    simp only [Y12.t3]
    exact aN rfl (tM.fail hq V3 R3)
  ·refine kJ V2 hid R2 fun h3 V3 R3 => aS ?_
   have hx:o4 [x]=none:=by
    unfold o4
    by_cases e1:isS 2 3 true x=true
    ·rw [e1] at e
     simp only [e1,if_true]
     split
     ·rename_i k hk
      rw [hk] at e
      simp at e
     ·rfl
    ·simp only [e1,if_false]; rfl
   rw [hx] at hq
   refine Y12.i3 ?_
   simp only [Y12.t3]
   exact aN rfl (tM.fail hq V3 R3)
end
end Go.Proofs.YtcdkpkkdolmfdaaGreatDoor
namespace Go.Proofs.YtcdkpkkdolmfdaaGreatDoor
open Go.GAM Go.RowKit
theorem pZ {l r:List UInt8} {k:IntKind} {lo hi:Nat} {K:List UInt8→Prop} (h:lo≤hi) (h2:hi≤l.length) (he:(l.take hi).drop lo=r) (hk:K r):bV (.s l) (some (.i k lo)) (some (.i k hi)) K:=
 aJV h h2 (by rw [he]; exact hk)
def eN (a b c:Der):Bool:=tQ a&&(isS 0 2 false b&&(!decide (b.data=[])&&cL c))
section
variable {a b c d e f g:Der} {xs:List Der}
theorem rV:bX (a :: b :: c :: d :: e :: f :: g :: xs)=(if eN a b c=true then (match cF d,cF f,eV e,nT g,o4 xs with
  | some i,some s,some t,some k,some n=>some (⟨hZ b.data,i,s,t.1,t.2,n.1,n.2,k⟩:eH)
  | _,_,_,_,_=>none) else none):=rfl
theorem aGM (h:eN a b c=false):bX (a :: b :: c :: d :: e :: f :: g :: xs)=none:=by
 rw [rV,if_neg (by rw [h]; simp)]
theorem aO6 (h:cF d=none):bX (a :: b :: c :: d :: e :: f :: g :: xs)=none:=by
 rw [rV,h]
 by_cases hh:eN a b c=true
 ·rw [if_pos hh]
 ·rw [if_neg hh]
theorem aP3 (h:cF f=none):bX (a :: b :: c :: d :: e :: f :: g :: xs)=none:=by
 rw [rV,h]
 by_cases hh:eN a b c=true
 ·rw [if_pos hh]; cases cF d <;> rfl
 ·rw [if_neg hh]
theorem aH3 (h:eV e=none):bX (a :: b :: c :: d :: e :: f :: g :: xs)=none:=by
 rw [rV,h]
 by_cases hh:eN a b c=true
 ·rw [if_pos hh]; cases cF d <;> cases cF f <;> rfl
 ·rw [if_neg hh]
theorem aGI (h:nT g=none):bX (a :: b :: c :: d :: e :: f :: g :: xs)=none:=by
 rw [rV,h]
 by_cases hh:eN a b c=true
 ·rw [if_pos hh]; cases cF d <;> cases cF f <;> cases eV e <;> rfl
 ·rw [if_neg hh]
theorem aM8 {i s k:List UInt8} {t:Int × Int} (h:eN a b c=true) (h2:cF d=some i) (h3:cF f=some s) (h4:eV e=some t) (h5:nT g=some k) :
  bX (a :: b :: c :: d :: e :: f :: g :: xs)=(o4 xs).map fun n=>⟨hZ b.data,i,s,t.1,t.2,n.1,n.2,k⟩:=by
 rw [rV,if_pos h,h2,h3,h4,h5]
 cases o4 xs <;> rfl
theorem aFC {e:Der} (h:e.kids.length=2):∃ p q,e.kids=[p,q]:=by
 match e.kids,h with
 | [p,q],_=>exact ⟨p,q,rfl⟩
theorem aID {e:Der} (h:(isS 0 16 true e&&(decide ((2:Int)<0)||decide ((e.kids.length:Int)=2)))=false):eV e=none:=by
 unfold eV
 split
 ·rename_i h1
  split
  ·rename_i p q hk
   rw [show isS 0 16 true e=true from h1,hk] at h
   simp at h
  ·rfl
 ·rfl
theorem aNN {g:Der} (h:(isS 0 16 true g&&(decide ((2:Int)<0)||decide ((g.kids.length:Int)=2)))=false):nT g=none:=by
 unfold nT
 split
 ·rename_i h1
  split
  ·rename_i p q hk
   rw [show isS 0 16 true g=true from h1,hk] at h
   simp at h
  ·rfl
 ·rfl
theorem aFH {e:Der} (h:(isS 0 16 true e&&(decide ((2:Int)<0)||decide ((e.kids.length:Int)=2)))=true):cL e=true∧e.kids.length=2:=by
 rw [Bool.and_eq_true,Bool.or_eq_true,decide_eq_true_eq,decide_eq_true_eq] at h
 exact ⟨h.1,by omega⟩
end
section
variable {hb h:aA} {id:Nat} {Q:AV→aA→Prop} {F:Nat→Prop} (hF:∀ i,F i→i<hb.length) (hid:hb.length≤id) (G:CG2 hb)
variable {a b c d e f g:Der} {xs:List Der} {v:AV} {rows:List (List AV)} (L:KL hb F v (a :: b :: c :: d :: e :: f :: g :: xs) rows) (hfit:∀ k∈a :: b :: c :: d :: e :: f :: g :: xs,Fit k) (hxs:xs.length≤1)
 (hq:tM hb id Q (bX (a :: b :: c :: d :: e :: f :: g :: xs)))
include hid hq in
theorem lX {w:AV} {ser iss sub key:List UInt8} {frm til:Int} {nv:AV} {au:Bool} (U:Upd (fun _=>False) hb h) (R:bC h id (pc ser iss sub frm til nv au key true)) (hc:bX (a :: b :: c :: d :: e :: f :: g :: xs)=none) :
  Y12.p2 Q (.p (some ⟨id,9,0⟩)) v w true h:=by
 rw [hc] at hq
 refine Y12.i2 ?_
 simp only [Y12.t2]
 exact aO rfl (tM.fail hq U R)
include hF hid G L hfit hxs hq in
theorem aBK {bad : Bool} (hbad : bad = !eN a b c) (U : Upd (fun _ => False) hb h) (R : bC h id (pc (hZ b.data) [] [] 0 0 (.sl none 0 none) false [] bad)) :
  Y12.p1 Q (.p (some ⟨id,9,0⟩)) v (b.data.length:Nat) (b.data.length:Nat) h:=by
 obtain ⟨r3,A3⟩:=L.at (i:=3) (k:=d) rfl
 obtain ⟨r4,A4⟩:=L.at (i:=4) (k:=e) rfl
 obtain ⟨r5,A5⟩:=L.at (i:=5) (k:=f) rfl
 obtain ⟨r6,A6⟩:=L.at (i:=6) (k:=g) rfl
 have a3:∀ (h':aA),Upd (fun _=>False) hb h'→∀ K:AV→Prop,aB 5 v (.i .i64 3) h' K=K (ptr v 5 3 0):=A3.idx
 have a4:∀ (h':aA),Upd (fun _=>False) hb h'→∀ K:AV→Prop,aB 5 v (.i .i64 4) h' K=K (ptr v 5 4 0):=A4.idx
 have a5:∀ (h':aA),Upd (fun _=>False) hb h'→∀ K:AV→Prop,aB 5 v (.i .i64 5) h' K=K (ptr v 5 5 0):=A5.idx
 have a6:∀ (h':aA),Upd (fun _=>False) hb h'→∀ K:AV→Prop,aB 5 v (.i .i64 6) h' K=K (ptr v 5 6 0):=A6.idx
 obtain ⟨w4,rs4,g4,K4,ld4⟩:=A4.f4
 obtain ⟨w6,rs6,g6,K6,ld6⟩:=A6.f4
 have fd:Fit d:=hfit d (by simp)
 have fe:Fit e:=hfit e (by simp)
 have ff:Fit f:=hfit f (by simp)
 have fg:Fit g:=hfit g (by simp)
 have hne:∀ i,F i→i≠id:=fun i hi=>by have:=hF i hi; omega
 refine Y12.i1 ?_
 simp only [Y12.t1, ← Y12.p2.eq_1]
 refine aN (by simp) ?_
 simp only [a3 h U,A3.ld h U,a5 h U,A5.ld h U]
 refine aFY (G.up U).g (A3.dv.ext U) fd.names hne R rfl rfl fun h1 U1 R1=>?_
 have V1:=U.own U1 hid
 simp only [cI,A5.ld h1 V1,a5 h1 V1,a3 h1 V1,bL,true_and]
 refine aFY (G.up V1).g (A5.dv.ext V1) ff.names hne R1 rfl rfl fun h2 U2 R2=>?_
 have V2:=V1.own U2 hid
 simp only [cI,a5 h2 V2,A3.ld h2 V2,a3 h2 V2,bL,true_and]
 refine bI (aK (aK (b7 R2 rfl (by show 1<9; omega) rfl rfl rfl fun h3 hl3 U3 R3=>?_)))
 have V3:=V2.own U3 hid
 simp only [a5 h3 V3,bL,true_and]
 refine bI (aK (aK (b7 R3 rfl (by show 2<9; omega) rfl rfl rfl fun h4 hl4 U4 R4=>?_)))
 have V4:=V3.own U4 hid
 have R4:bC h4 id (pc (hZ b.data) (txt (cF d)) (txt (cF f)) 0 0 (.sl none 0 none) false [] ((bad||(cF d).isNone)||(cF f).isNone)):=R4
 simp only [aX (G.up V4).g.seq,a4 h4 V4,A4.ld h4 V4]
 refine nY (A4.dv.ext V4) g4 fun h5 U5=>?_
 have V5:=V4.trans U5 fun _ _ h=>h
 have R5:=R4.upd U5 fun h=>h
 simp only [a4 h5 V5,bL,true_and]
 refine aY (aZ (aS ?_))
 refine kJ V5 hid R5 fun h6 V6 R6=>aS ?_
 cases hB:(((bad||(cF d).isNone)||(cF f).isNone) || !(isS 0 16 true e&&(decide ((2:Int)<0)||decide ((e.kids.length:Int)=2)))) with
 | true =>
  rw [hB] at R6
  refine aO rfl (tM.fail ?_ V6 R6)
  rw [Bool.or_eq_true,Bool.or_eq_true,Bool.or_eq_true] at hB
  rcases hB with ((h1 | h1) | h1) | h1
  ·rw [aGM (by rw [hbad] at h1; simpa using h1)] at hq; exact hq
  ·rw [aO6 (by simpa using h1)] at hq; exact hq
  ·rw [aP3 (by simpa using h1)] at hq; exact hq
  ·rw [aH3 (aID (by rw [← Bool.not_eq_true']; exact h1))] at hq; exact hq
 | false =>
  rw [hB] at R6
  rw [Bool.or_eq_false_iff,Bool.or_eq_false_iff,Bool.or_eq_false_iff] at hB
  obtain ⟨⟨⟨hb0,hb1⟩,hb2⟩,hb3⟩:=hB
  have hb3:(isS 0 16 true e&&(decide ((2:Int)<0)||decide ((e.kids.length:Int)=2)))=true:=by simpa using hb3
  have hhead:eN a b c=true:=by rw [hbad] at hb0; simpa using hb0
  obtain ⟨i,hi⟩:∃ i,cF d=some i:=by cases hn:cF d with
   | none=>rw [hn] at hb1; cases hb1
   | some i=>exact ⟨i,rfl⟩
  obtain ⟨s,hs⟩:∃ s,cF f=some s:=by cases hn:cF f with
   | none=>rw [hn] at hb2; cases hb2
   | some i=>exact ⟨i,rfl⟩
  rw [hi,hs] at R6
  obtain ⟨he1,he2⟩:=aFH hb3
  obtain ⟨p,q,hpq⟩:=aFC he2
  obtain ⟨rp,Ap⟩:=K4.at (i:=0) (k:=p) (by rw [hpq] <;> rfl)
  obtain ⟨rq,Aq⟩:=K4.at (i:=1) (k:=q) (by rw [hpq] <;> rfl)
  have b0:∀ (h':aA),Upd (fun _=>False) hb h'→∀ K:AV→Prop,aB 5 w4 (.i .i64 0) h' K=K (ptr w4 5 0 0):=Ap.idx
  have b1:∀ (h':aA),Upd (fun _=>False) hb h'→∀ K:AV→Prop,aB 5 w4 (.i .i64 1) h' K=K (ptr w4 5 1 0):=Aq.idx
  have fp:Fit p:=fe.kid (by rw [hpq]; simp)
  have fq:Fit q:=fe.kid (by rw [hpq]; simp)
  have htimes:eV e=if ((cT p).2&&(cT q).2)=true then some ((cT p).1,(cT q).1) else none:=by
   unfold eV; rw [if_pos he1,hpq]
  refine aN rfl ?_
  simp only [b0 h6 V6,Ap.ld h6 V6]
  refine aIB (Ap.dv.ext V6) (by have:=fp.data; omega) ?_
  refine aY (aQ (aZ (aS ?_)))
  simp only [b1 h6 V6,Aq.ld h6 V6]
  refine aIB (Aq.dv.ext V6) (by have:=fq.data; omega) ?_
  refine aY (aQ (aZ (aS ?_)))
  refine bI (aK (aK (b7 R6 rfl (by show 3<9; omega) rfl rfl rfl fun h7 hl7 U7 R7=>?_)))
  have V7:=V6.own U7 hid
  refine bI (aK (aK (b7 R7 rfl (by show 4<9; omega) rfl rfl rfl fun h8 hl8 U8 R8=>?_)))
  have V8:=V7.own U8 hid
  have R8:bC h8 id (pc (hZ b.data) i s (cT p).1 (cT q).1 (.sl none 0 none) false [] false):=R8
  simp only [aX (G.up V8).g.seq,a6 h8 V8,A6.ld h8 V8]
  refine nY (A6.dv.ext V8) g6 fun h9 U9=>?_
  have V9:=V8.trans U9 fun _ _ h=>h
  have R9:=R8.upd U9 fun h=>h
  simp only [a6 h9 V9,bL,true_and]
  refine aY (aZ (aS ?_))
  have bad9:bX (a :: b :: c :: d :: e :: f :: g :: xs)=none→C Y32.id [.p (some ⟨id,9,0⟩),.b false] h9 fun x h'=>asB x fun y=>Y12.p2 Q (.p (some ⟨id,9,0⟩)) v w6 (!y) h':=fun hc=>
   kJ V9 hid R9 fun h' V' R'=>aS (lX hid hq V' R' hc)
  have notimes:((cT p).2&&(cT q).2)=false→bX (a :: b :: c :: d :: e :: f :: g :: xs)=none:=fun hh=>aH3 (by rw [htimes,hh] <;> rfl)
  refine aG (fun e1=>?_) fun e1=>bad9 (notimes (by rw [e1] <;> rfl))
  refine aG (fun e2=>?_) fun e2=>bad9 (notimes (by rw [e1,e2] <;> rfl))
  have htimes:eV e=some ((cT p).1,(cT q).1):=by rw [htimes,e1,e2] <;> rfl
  refine aG (fun e3=>?_) fun e3=>bad9 (aGI (aNN e3))
  obtain ⟨hg1,hg2⟩:=aFH e3
  obtain ⟨p',q',hpq'⟩:=aFC hg2
  obtain ⟨rp',Ap'⟩:=K6.at (i:=0) (k:=p') (by rw [hpq'] <;> rfl)
  obtain ⟨rq',Aq'⟩:=K6.at (i:=1) (k:=q') (by rw [hpq'] <;> rfl)
  have d0:∀ (h':aA),Upd (fun _=>False) hb h'→∀ K:AV→Prop,aB 5 w6 (.i .i64 0) h' K=K (ptr w6 5 0 0):=Ap'.idx
  have d1:∀ (h':aA),Upd (fun _=>False) hb h'→∀ K:AV→Prop,aB 5 w6 (.i .i64 1) h' K=K (ptr w6 5 1 0):=Aq'.idx
  have fq':Fit q':=fg.kid (by rw [hpq']; simp)
  have hkey:nT g=if (cL p'&&kE q')=true then (match q'.data with
    | c :: r=>if c=0 then some r else none
    | []=>none) else none:=by unfold nT; rw [if_pos hg1,hpq'] <;> rfl
  simp only [aX (G.up V9).g.seq,d0 h9 V9,Ap'.ld h9 V9]
  refine dL (Ap'.dv.ext V9) (aS ?_)
  simp only [d0 h9 V9,bL,true_and]
  refine aG (fun e4=>?_) fun e4=>?_
  ·simp only [aX (G.up V9).bits, d1 h9 V9, Aq'.ld h9 V9]
   refine dL (Aq'.dv.ext V9) (aS ?_)
   simp only [d1 h9 V9,d0 h9 V9,Ap'.ld h9 V9,aX (G.up V9).g.seq,bL,true_and]
   refine aG (fun e5=>?_) fun e5=>?_
   ·simp only [d1 h9 V9, Aq'.fa, Aq'.f3 h9 V9, cI]
    refine aB5 (aS ?_)
    simp only [d1 h9 V9,Aq'.ld h9 V9,d0 h9 V9,Ap'.ld h9 V9,aX (G.up V9).g.seq,aX (G.up V9).bits,bL,true_and]
    refine kJ V9 hid R9 fun h10 V10 R10=>aS ?_
    simp only [Aq'.f3 h10 V10,cI,d1 h10 V10,Aq'.ld h10 V10,d0 h10 V10,Ap'.ld h10 V10,aX (G.up V10).g.seq,aX (G.up V10).bits,bL,true_and]
    rw [show (cL p'&&kE q')=true by show (isS 0 16 true p'&&isS 0 3 false q')=true; rw [e4,e5] <;> rfl,if_pos rfl] at hkey
    cases hp:kR q'.data [0] with
    | true =>
     rw [hp] at R10
     obtain ⟨key,hk⟩:∃ key,q'.data=0 :: key:=by
      unfold kR at hp
      have hp:=of_decide_eq_true hp
      cases hd:q'.data with
      | nil=>rw [hd] at hp; cases hp
      | cons x r =>
       rw [hd] at hp
       simp at hp
       exact ⟨r,by rw [hp]⟩
     rw [hk] at hkey
     simp only [if_true] at hkey
     refine aDQ hid G L hxs (fun x hx=>hfit x (by simp [hx])) Aq' hk V10 R10 ?_
     rw [aM8 hhead hi hs htimes hkey] at hq
     exact hq
    | false =>
     rw [hp] at R10
     refine lX hid hq V10 R10 (aGI ?_)
     rw [hkey]
     split
     ·rename_i x r hd
      split
      ·rename_i hx
       subst hx
       unfold kR at hp
       rw [hd] at hp
       simp at hp
      ·rfl
     ·rfl
   ·refine kJ V9 hid R9 fun h10 V10 R10 => aS ?_
    simp only [bL,true_and,d1 h10 V10,Aq'.ld h10 V10,d0 h10 V10,Ap'.ld h10 V10,aX (G.up V10).g.seq,aX (G.up V10).bits]
    refine lX hid hq V10 R10 (aGI ?_)
    rw [hkey,if_neg (by show ¬ (isS 0 16 true p'&&isS 0 3 false q')=true; rw [e5]; simp)]
  ·refine kJ V9 hid R9 fun h10 V10 R10 => aS ?_
   simp only [bL,true_and,d0 h10 V10,Ap'.ld h10 V10,aX (G.up V10).g.seq]
   refine lX hid hq V10 R10 (aGI ?_)
   rw [hkey,if_neg (by show ¬ (isS 0 16 true p'&&isS 0 3 false q')=true; rw [e4]; simp)]
end
end Go.Proofs.YtcdkpkkdolmfdaaGreatDoor
namespace Go.Proofs.YtcdkpkkdolmfdaaGreatDoor
open Go.GAM Go.RowKit
section
variable {hb h:aA} {id:Nat} {Q:AV→aA→Prop} {F:Nat→Prop} (hF:∀ i,F i→i<hb.length) (hid:hb.length≤id) (G:CG2 hb)
variable {a b c d e f g:Der} {xs:List Der} {v:AV} {rows:List (List AV)} (L:KL hb F v (a :: b :: c :: d :: e :: f :: g :: xs) rows) (hfit:∀ k∈a :: b :: c :: d :: e :: f :: g :: xs,Fit k) (hxs:xs.length≤1)
 (hq:tM hb id Q (bX (a :: b :: c :: d :: e :: f :: g :: xs)))
include hF hid G L hfit hxs hq in
theorem aDM {bad:Bool} (hbad:bad = !eN a b c):∀ (k i:Nat) (h:aA),i+k=b.data.length→Upd (fun _=>False) hb h→bC h id (pc (hZ (b.data.take i)) [] [] 0 0 (.sl none 0 none) false [] bad) →
  Y12.p1 Q (.p (some ⟨id,9,0⟩)) v (b.data.length:Nat) i h:=by
 intro k
 induction k with
 | zero =>
  intro i h hi U R
  obtain rfl:i=b.data.length:=by omega
  rw [List.take_length] at R
  exact aBK hF hid G L hfit hxs hq hbad U R
 | succ k ih =>
  intro i h hi U R
  have hlt:i<b.data.length:=by omega
  obtain ⟨r1,A1⟩:=L.at (i:=1) (k:=b) rfl
  have a1:∀ (h':aA),Upd (fun _=>False) hb h'→∀ K:AV→Prop,aB 5 v (.i .i64 1) h' K=K (ptr v 5 1 0):=A1.idx
  have fb:Fit b:=hfit b (by simp)
  have hlen:=fb.data
  have hhl:=uI (b.data.take i)
  rw [List.length_take,Nat.min_eq_left (by omega)] at hhl
  refine Y12.i1 ?_
  simp only [Y12.t1, ← Y12.p1.eq_1]
  refine aO (by simp; omega) ?_
  simp only [a1 h U,A1.fa,A1.f3 h U,cI]
  have hc:=(b.data[i]).toNat_lt
  refine cS (i:=i) (List.drop_eq_getElem_cons hlt) ?_
  refine bI (aK (aK (aM R rfl rfl (bA ?_))))
  refine lU (b:=4) (by decide) (lU (b:=4) (by decide) ?_)
  have e16:(b.data[i]).toNat / 2 ^ 4=(b.data[i]).toNat / 16:=rfl
  rw [e16]
  refine aI (n:=(((b.data[i]).toNat / 16+1:Nat):Int)) (by rw [iJ (by omega) (by omega)]; omega) ?_
  refine pZ (lo:=(b.data[i]).toNat / 16) (hi:=(b.data[i]).toNat / 16+1) (by omega) (by show _≤16; omega) (oE _ (by omega)) ?_
  rw [aNJ]
  refine aI (n:=(((b.data[i]).toNat % 16+1:Nat):Int)) (by rw [iJ (by omega) (by omega)]; omega) ?_
  refine pZ (lo:=(b.data[i]).toNat % 16) (hi:=(b.data[i]).toNat % 16+1) (by omega) (by show _≤16; omega) (oE _ (by omega)) ?_
  refine ⟨by simp,⟨by rw [hhl]; simp; omega, ?_⟩⟩
  refine bI (aK (aK (b7 R rfl (by show 0<9; omega) rfl rfl rfl fun h1 hl1 U1 R1=>?_)))
  have R1:bC h1 id (pc (hZ (b.data.take i)++([tP ((b.data[i]).toNat / 16)]++[tP ((b.data[i]).toNat % 16)])) [] [] 0 0 (.sl none 0 none) false [] bad):=R1
  rw [← zA, ← List.take_succ_eq_append_getElem hlt] at R1
  exact inc (by omega) (ih (i+1) h1 (by omega) (U.own U1 hid) R1)
include hF hid G L hfit hxs hq in
theorem uT {bad:Bool} (hbad:bad = !eN a b c) (U:Upd (fun _=>False) hb h) (R:bC h id (pc [] [] [] 0 0 (.sl none 0 none) false [] bad)):Y12.p0 Q (.p (some ⟨id,9,0⟩)) v h:=by
 obtain ⟨r1,A1⟩:=L.at (i:=1) (k:=b) rfl
 have a1:∀ (h':aA),Upd (fun _=>False) hb h'→∀ K:AV→Prop,aB 5 v (.i .i64 1) h' K=K (ptr v 5 1 0):=A1.idx
 refine Y12.i0 ?_
 simp only [Y12.t0, ← Y12.p1.eq_1]
 simp only [a1 h U,A1.fa,A1.f3 h U,cI]
 exact aDM hF hid G L hfit hxs hq hbad b.data.length 0 h (by omega) U R
include hF hid G L hfit hxs hq in
theorem aGL (U : Upd (fun _ => False) hb h) (R : bC h id (pc [] [] [] 0 0 (.sl none 0 none) false [] false)) : C Y12.id [.p (some ⟨id, 9, 0⟩), v] h Q := by
 have hq:tM hb id (aL h Q) (bX (a :: b :: c :: d :: e :: f :: g :: xs)):=fun h' ser iss sub frm til nv au key bad x1 x2 x3 x4=>.inl (hq h' ser iss sub frm til nv au key bad x1 x2 x3 x4)
 obtain ⟨r0,A0⟩:=L.at (i:=0) (k:=a) rfl
 obtain ⟨r1,A1⟩:=L.at (i:=1) (k:=b) rfl
 obtain ⟨r2,A2⟩:=L.at (i:=2) (k:=c) rfl
 have a0:∀ (h':aA),Upd (fun _=>False) hb h'→∀ K:AV→Prop,aB 5 v (.i .i64 0) h' K=K (ptr v 5 0 0):=A0.idx
 have a1:∀ (h':aA),Upd (fun _=>False) hb h'→∀ K:AV→Prop,aB 5 v (.i .i64 1) h' K=K (ptr v 5 1 0):=A1.idx
 have a2:∀ (h':aA),Upd (fun _=>False) hb h'→∀ K:AV→Prop,aB 5 v (.i .i64 2) h' K=K (ptr v 5 2 0):=A2.idx
 obtain ⟨w0,rs0,g0,K0,ld0⟩:=A0.f4
 have fa':Fit a:=hfit a (by simp)
 refine Y12.call ?_
 simp only [Y12.t, ← Y12.p0.eq_1]
 simp only [aX (G.up U).ver,a0 h U,A0.ld h U]
 refine nY (A0.dv.ext U) g0 fun h1 U1=>?_
 have V1:=U.trans U1 fun _ _ h=>h
 have R1:=R.upd U1 fun h=>h
 simp only [a0 h1 V1,bL,true_and]
 refine aY (aZ (aS ?_))
 refine kJ V1 hid R1 fun h2 V2 R2=>aS ?_
 cases hB:(isS 2 0 true a&&(decide ((1:Int)<0)||decide ((a.kids.length:Int)=1))) with
 | false =>
  rw [hB] at R2
  refine aO rfl (tM.fail ?_ V2 R2)
  rw [aGM (by
   unfold eN tQ
   cases e1:isS 2 0 true a with
   | false=>rfl
   | true =>
    rw [e1] at hB
    split
    ·rename_i x hx; rw [hx] at hB; simp at hB
    ·rfl)] at hq
  exact hq
 | true =>
  rw [hB] at R2
  rw [Bool.and_eq_true,Bool.or_eq_true,decide_eq_true_eq,decide_eq_true_eq] at hB
  obtain ⟨hB1,hB2⟩:=hB
  obtain ⟨x,hx⟩:∃ x,a.kids=[x]:=by
   match a.kids,(show a.kids.length=1 by omega) with
   | [x],_=>exact ⟨x,rfl⟩
  obtain ⟨rx,Ax⟩:=K0.at (i:=0) (k:=x) (by rw [hx] <;> rfl)
  have x0:∀ (h':aA),Upd (fun _=>False) hb h'→∀ K:AV→Prop,aB 5 w0 (.i .i64 0) h' K=K (ptr w0 5 0 0):=Ax.idx
  have fx:Fit x:=fa'.kid (by rw [hx]; simp)
  have hv:tQ a=((zZ x).2&&decide ((zZ x).1=2)):=by unfold tQ; rw [hB1,hx] <;> rfl
  refine aN rfl ?_
  simp only [x0 h2 V2,Ax.ld h2 V2]
  refine aOX (Ax.dv.ext V2) (by have:=fx.data; omega) ?_
  refine aY (aQ (aZ (aS ?_)))
  have bad3:∀ {hh:aA},Upd (fun _=>False) hb hh→bC hh id (pc [] [] [] 0 0 (.sl none 0 none) false [] (false || !true))→eN a b c=false→∀ (K:aA→Prop),(∀ h',Upd (fun _=>False) hb h'→bC h' id (pc [] [] [] 0 0 (.sl none 0 none) false [] true)→Y12.p0 (aL h Q) (.p (some ⟨id,9,0⟩)) v h'→K h')→C Y32.id [.p (some ⟨id,9,0⟩),.b false] hh fun y h'=>asB y fun _=>K h':=fun VV RR hh K hK=>
   kJ VV hid RR fun h' V' R'=>aS (hK h' V' R' (uT hF hid G L hfit hxs hq (by rw [hh] <;> rfl) V' R'))
  refine aG (fun e1=>?_) fun e1=>?_
  ·refine aG (fun e2 => ?_) fun e2 => ?_
   ·simp only [aX (G.up V2).int, a1 h2 V2, A1.ld h2 V2]
    refine dL (A1.dv.ext V2) (aS ?_)
    simp only [a1 h2 V2,bL,true_and]
    refine aG (fun e3=>?_) fun e3=>?_
    ·simp only [a1 h2 V2, A1.fa, A1.f3 h2 V2, cI]
     refine aG (fun e4=>?_) fun e4=>?_
     ·simp only [aX (G.up V2).g.seq, a2 h2 V2, A2.ld h2 V2]
      refine dL (A2.dv.ext V2) (aS ?_)
      simp only [a2 h2 V2,A1.f3 h2 V2,cI,a1 h2 V2,A1.ld h2 V2,aX (G.up V2).int,bL,true_and]
      refine kJ V2 hid R2 fun h3 V3 R3=>aS ?_
      simp only [a2 h3 V3,A2.ld h3 V3,A1.f3 h3 V3,cI,a1 h3 V3,A1.ld h3 V3,aX (G.up V3).int,aX (G.up V3).g.seq,bL,true_and]
      refine uT hF hid G L hfit hxs hq ?_ V3 R3
      unfold eN
      rw [hv,e1,e2,show isS 0 2 false b=true from e3,e4]
      first | done | rfl
     ·refine bad3 V2 R2 (by unfold eN; rw [e4]; simp) _ fun h3 V3 R3 hp => ?_
      simp only [A1.f3 h3 V3,cI,a1 h3 V3,A1.ld h3 V3,aX (G.up V3).int,bL,true_and]
      exact hp
    ·refine bad3 V2 R2 (by unfold eN; rw [show isS 0 2 false b = false from e3]; simp) _ fun h3 V3 R3 hp => ?_
     simp only [a1 h3 V3,A1.ld h3 V3,aX (G.up V3).int,bL,true_and]
     exact hp
   ·refine bad3 V2 R2 (by unfold eN; rw [hv, e2]; simp) _ fun h3 V3 R3 hp => ?_
    exact hp
  ·refine bad3 V2 R2 (by unfold eN; rw [hv, e1]; simp) _ fun h3 V3 R3 hp => ?_
   exact hp
end
end Go.Proofs.YtcdkpkkdolmfdaaGreatDoor
