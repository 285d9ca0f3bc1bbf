/- Lemmas (several texts in one). -/
import Derived.Test.YtcdkpkkdolmfdaaGreatDoorRows
import Derived.DataElems
import Derived.Test.YtcdkpkkdolmfdaaGreatDoorMg6
set_option linter.unusedVariables false
set_option linter.unusedSimpArgs false
set_option linter.unusedSectionVars false
set_option maxRecDepth 20000
namespace Go.GAM
theorem foldl_wr (off:Nat):∀ (r:List AV) (k:Nat) (cs:List AV),(r.zipIdx k).foldl (fun cs (c,j)=>cs.set (off+j) c) cs=wr cs (off+k) r
  | [],_,_=>rfl
  | c :: r, k, cs => by
    rw [List.zipIdx_cons,List.foldl_cons,foldl_wr off r (k+1)]
    first | done | rfl
theorem wr_app:∀ (ws cs pre post:List AV),ws.length=cs.length→wr (pre++(cs++post)) pre.length ws=pre++(ws++post)
  | [], cs, pre, post, h => by
    have:cs=[]:=List.eq_nil_of_length_eq_zero (by simpa using h.symm)
    subst this; rfl
  | w :: ws,[],pre,post,h=>by simp at h
  | w :: ws, c :: cs, pre, post, h => by
    show wr ((pre++(c :: (cs++post))).set pre.length w) (pre.length+1) ws=_
    have e:(pre++(c :: (cs++post))).set pre.length w=(pre++[w])++(cs++post):=by simp
    rw [e]
    have:=wr_app ws cs (pre++[w]) post (by simpa using h)
    simpa using this
def rowParts (sz:Nat):Nat→List (List AV)→List (Nat × Nat × AV)
  | _,[]=>[]
  | o,r :: rs=>(o,sz,.ag r) :: rowParts sz (o+sz) rs
theorem fillA_rows (sz:Nat):∀ (rows:List (List AV)) (pre zeros:List AV),(∀ r∈rows,r.length=sz)→zeros.length=rows.length * sz→fillA (pre++zeros) (rowParts sz pre.length rows)=some (pre++rows.flatten)
  | [], pre, zeros, _, h => by
    have:zeros=[]:=List.eq_nil_of_length_eq_zero (by simpa using h)
    subst this; rfl
  | r :: rs, pre, zeros, hr, h => by
    have h1:=hr r (by simp)
    rw [List.length_cons,Nat.add_mul,Nat.one_mul] at h
    have hz:zeros=zeros.take sz++zeros.drop sz:=(List.take_append_drop sz zeros).symm
    unfold rowParts fillA
    have hc:((AV.ag r).sizeOK&&(AV.ag r).parts.length == sz&&decide (pre.length+(AV.ag r).parts.length≤(pre++zeros).length))=true:=by
      show (true&&r.length == sz&&decide (pre.length+r.length≤(pre++zeros).length))=true
      rw [h1,List.length_append,h]
      simp
    rw [if_pos hc]
    show fillA (r.zipIdx.foldl (fun cs (c,j)=>cs.set (pre.length+j) c) (pre++zeros)) _=_
    have hf:=foldl_wr pre.length r 0 (pre++zeros)
    rw [hf,Nat.add_zero]
    have hw:wr (pre++zeros) pre.length r=(pre++r)++zeros.drop sz:=by
      conv=>lhs; rw [hz]
      rw [wr_app r (zeros.take sz) pre (zeros.drop sz) (by rw [List.length_take,h1]; omega),List.append_assoc]
    rw [hw]
    have ih:=fillA_rows sz rs (pre++r) (zeros.drop sz) (fun x hx=>hr x (by simp [hx])) (by rw [List.length_drop]; omega)
    rw [List.length_append,h1] at ih
    rw [ih]
    simp
end Go.GAM
namespace Go.Proofs.YtcdkpkkdolmfdaaGreatDoor
open Go.GAM Go.RowKit
def bodyS (c:Cert) (ks:List Der):Except Int (List UInt8):=match altE c.names with
  | .error e=>.error e
  | .ok a=>authS c ks a
theorem alg_ok:oidOfS algOid = .ok (oidDat algOid):=by kernel_rfl
theorem buildS_is {c:Cert} {f u:Der} (h:checkE c=0):buildS c f u=bodyS c (listD ((serialS c.serial).getD []) (nameOfS c.issuer).1 (nameOfS c.subject).1 f u c.key):=by
  unfold buildS bodyS authS
  rw [if_neg (by simpa using h)]
  cases altE c.names with
  | error e=>rfl
  | ok a =>
    cases basE c.auth with
    | error e=>rfl
    | ok b=>rfl
theorem TimeD.leaf {n:Int} {t:Der} (h:TimeD n t):∃ k y m d tag s,n=((k:Nat):Int)∧k≤253402300799∧Date (k / 86400) y m d∧timeOfS y m d (k % 86400)=leafC 0 tag false s∧t=datD 0 tag s∧s.length≤15:=by
  obtain ⟨k,y,m,d,rfl,hk,D,rfl⟩:=h
  obtain ⟨t',s',h1,h2,_⟩:=time_inv hk D
  refine ⟨k,y,m,d,t',s',rfl,hk,D,h1, ?_,h2⟩
  unfold timeOfS leafC at h1
  unfold timeDer
  by_cases hy:y<2050
  · rw [if_pos hy] at *
    simp only [List.cons.injEq,AV.i.injEq,AV.s.injEq,true_and,and_true] at h1
    obtain ⟨rfl,rfl⟩:=h1; rfl
  · rw [if_neg hy] at *
    simp only [List.cons.injEq,AV.i.injEq,AV.s.injEq,true_and,and_true] at h1
    obtain ⟨rfl,rfl⟩:=h1; rfl
section
variable {h0 hb:AHeap} {Q:AV→AHeap→Prop} {c:Cert} {nv wk:AV} {id0 idk:Nat} (B:BCtx hb c nv wk id0 idk) (E0:Ext h0 hb) {n4:Nat} {x14:AV} {ks:List Der}
include B E0 in
theorem cbuild_p0 (hkl : ks.length ≤ 4000) (hb0 : hb.length ≤ n4) (hnl : c.names.length ≤ 4000) (hne : c.names ≠ []) (hsz : (altD c.names).sz ≤ 100000) (hds : dsum (altD c.names) ≤ 60000) (hz : ∀ a b, altE c.names = .ok a → basE c.auth = .ok b → BSz c (ks ++ moreD (a ++ b)))
    (hq:Q (encR (bodyS c ks)) h0):∀ (r:List (List UInt8)) (i:Nat) (h:AHeap) (v:AV),c.names.drop i=r→n4≤h.length→LSt (fun i=>i<n4) hb h x14 ks→LSt (fun i=>n4≤i) hb h v ((c.names.take i).map fun n=>datD 2 2 n) →
      Y4.p0 (kRet h0 Q) (.p (some ⟨id0,8,0⟩)) (.p (some ⟨idk,5,0⟩)) x14 (.sl none 0 none) v nv (c.names.length:Nat) i h:=by
  intro r
  induction r with
  | nil =>
    intro i h v hr hn4 S14 S16
    have hi:=drop_end hr
    rw [List.take_of_length_le hi] at S16
    have E:=S14.ext
    have G:CG2 h:=B.g.up E.u
    refine Y4.i0 ?_
    simp only [Y4.t0,Y4.j0,Y4.j1]
    refine bif_f (by simp; omega) ?_
    simp only [q_gl3 G.g.seq]
    refine shapeOf_l (c:=0) (t:=16) (m:=true) S16.low ?_
    have D:DV h (fun i=>i<h.length) (altD c.names) [.i .i64 0,.i .i64 16,.b true,.s [],v]:=(S16.val 0 16 true []).upd (Upd.refl (fun _=>False) h) fun i _ hi=>⟨fun h=>h,hi⟩
    refine extended_c alt_ok G D (fun i hi=>hi) hsz hds ?_
    have ha:altE c.names=(match encS (altD c.names) with
        | .error e=>.error e
        | .ok s=>.ok [extD altOid s]):=by unfold altE; rw [if_neg hne] <;> rfl
    unfold bodyS at hq
    cases he:encS (altD c.names) with
    | error e =>
      rw [he] at ha
      rw [ha] at hq
      intro h1 r U1 D1
      refine st_ext0 (st_ext1 (st_asI (st_allocN (n:=5) rfl fun h2 hl2 U2 R2=>st_storeN R2 rfl D1.len D1.cells' fun h3 hl3 U3 R3=>?_)))
      have V3:Upd (fun _=>False) h h3:=(U1.then U2).own U3 U1.1
      exact bif_t (by simp [enc_err he]) (kRet_pure rfl (E0.trans (E.trans V3.ext)) hq)
    | ok s =>
      rw [he] at ha
      rw [ha] at hq
      intro h1 r U1 D1
      refine st_ext0 (st_ext1 (st_asI (st_allocN (n:=5) rfl fun h2 hl2 U2 R2=>st_storeN R2 rfl D1.len D1.cells' fun h3 hl3 U3 R3=>?_)))
      have U13:Upd (fun _=>False) h1 h3:=U2.own U3 (Nat.le_refl _)
      refine bif_f rfl (st_loadN R3 D1.len.symm ?_)
      have hr:fillA z5 [(0,5,.ag r)]=some r:=by
        obtain ⟨c',t,m,s',a,n,cap,rfl⟩:=D1.row; rfl
      refine st_buildA (cs:=r) (len:=1) hr (by rw [D1.len]) fun y h4 hl4 U4 A4 N4=>?_
      have V4:=U1.then (U13.then U4)
      have S15:LSt (fun i=>n4≤i) hb h4 (.sl none 0 none) []:=LSt.nil (E.trans V4.ext)
      refine S15.push (by simp) A4.rd (D1.upd (U13.then U4) fun i hi _=>⟨fun h=>h,by omega,fun h=>h⟩) (fun i hi=>by have:=V4.1; omega) fun v' h5 U5 S5=>?_
      have S14':=(S14.up V4).upM U5 (fun i hi hs=>hs) fun i hi=>hi.elim
      exact cbuild_p1 B E0 S14' S5 (by have:=V4.1; have:=U5.1; omega) hkl (by simp) hb0 (fun b hb'=>hz _ b ha hb') hq
  | cons x r ih =>
    intro i h v hr hn4 S14 S16
    have hlt:=drop_lt hr
    have hx:=at_of_drop hr
    have E:=S14.ext
    have G:CG2 h:=B.g.up E.u
    refine Y4.i0 ?_
    simp only [Y4.t0,Y4.j0,Y4.j1]
    refine bif_t (by simp; omega) (B.s.str E.u hx ?_)
    simp only [q_gl3 G.host]
    refine shapeVal_c (c:=2) (t:=2) (m:=false) ?_
    refine st_buildA (cs:=leafC 2 2 false x) (len:=1) rfl rfl fun y h1 hl1 U1 A1 N1=>?_
    refine (S16.up U1).push (by rw [List.length_map,List.length_take]; omega) A1.rd (DV.leaf _ _ 2 2 false x) (fun i hi=>by have:=U1.1; omega) fun v' h2 U2 S2=>?_
    have htk:(c.names.take (i+1)).map (fun n=>datD 2 2 n)=(c.names.take i).map (fun n=>datD 2 2 n)++[datD 2 2 x]:=by rw [take_snoc hx,List.map_append] <;> rfl
    rw [show Der.mk 2 2 false x []=datD 2 2 x from rfl, ← htk] at S2
    have S14':=(S14.up U1).upM U2 (fun i hi hs=>by have:=(S16.new i hs).2; omega) fun i hi=>(S16.new i hi).1
    exact inc (by omega) (ih (i+1) h2 v' (drop_next hr) (by have:=U1.1; have:=U2.1; omega) S14' S2)
end
structure BOK (c:Cert) (f u:Der):Prop extends CBd c where
  t:checkE c=0→TimeD c.frm f∧TimeD c.til u
  a:(altD c.names).sz≤100000
  ad:dsum (altD c.names)≤60000
  z:checkE c=0→∀ a b,altE c.names = .ok a→basE c.auth = .ok b→BSz c (listD ((serialS c.serial).getD []) (nameOfS c.issuer).1 (nameOfS c.subject).1 f u c.key++moreD (a++b))
  nl:c.names.length≤4000
theorem serT_ok {c : Cert} (h : checkE c = 0) : serT (serialS c.serial) = .tu [.s ((serialS c.serial).getD []), .b true] := by
  rw [checkE_is] at h
  split at h
  · cases h
  · split at h
    · cases h
    · split at h
      · cases h
      · split at h
        · cases h
        · rename_i hs
          cases hx:serialS c.serial with
          | none=>exact absurd hx hs
          | some l=>rfl
theorem key_ok' {c : Cert} (h : checkE c = 0) : c.key.length ≤ 1024 := by
  rw [checkE_is] at h
  split at h
  · cases h
  · split at h
    · cases h
    · split at h
      · cases h
      · split at h
        · cases h
        · split at h
          · cases h
          · rename_i hl
            unfold longB at hl
            simp only [decide_eq_true_eq] at hl
            omega
set_option maxHeartbeats 4000000 in
theorem certBuild_c {h : AHeap} {Q : AV → AHeap → Prop} {c : Cert} {cs : List AV} {f u : Der} (G : CG2 h) (V : CV h c cs) (B : BOK c f u) (hq : Q (encR (buildS c f u)) h) : C Y4.id [.ag cs] h Q := by
  obtain ⟨nv,rfl,S⟩:=V
  refine Y4.call ?_
  simp only [Y4.t,Y4.j0,Y4.j1]
  refine st_boxN (n:=8) rfl rfl fun h1 hl1 U1 R1=>?_
  have R1:RecAt h1 h.length (certC c nv):=R1
  refine st_loadN R1 rfl (check_c (G.g.ext U1) ⟨nv,rfl,S.ext U1⟩ B.toCBd (st_asI ?_))
  by_cases hc:checkE c=0
  rotate_left
  · refine bif_t (by simp [hc]) (kRet_pure rfl U1.ext ?_)
    unfold buildS at hq
    rw [if_pos hc] at hq
    exact hq
  rw [buildS_is hc] at hq
  obtain ⟨tf,tu'⟩:=B.t hc
  obtain ⟨k1,y1,m1,d1,g1,s1,e1,n1,D1,t1,f1,_⟩:=tf.leaf
  obtain ⟨k2,y2,m2,d2,g2,s2,e2,n2,D2,t2,f2,_⟩:=tu'.leaf
  have hkey:=key_ok' hc
  refine bif_f (by simp [hc]) (oidOf_c fun h2 U2=>?_)
  rw [show ([49,46,50,46,56,52,48,46,49,48,48,52,53,46,52,46,51,46,50]:List UInt8)=algOid from rfl,alg_ok]
  refine st_ext0 (st_ext1 (st_asI (st_allocN (n:=5) rfl fun h3 hl3 U3 R3=>st_storeN R3 rfl rfl rfl fun h4 hl4 U4 R4=>?_)))
  have V4:Upd (fun _=>False) h1 h4:=(U2.then U3).own U4 U2.1
  simp only [q_gl3 (G.up (U1.then V4)).g.seq]
  refine st_loadN R4 rfl ?_
  refine st_buildA (cs:=leafC 0 6 false (oidDat algOid)) (len:=1) rfl rfl fun wk h5 hl5 U5 A5 N5=>?_
  refine shapeOf_l (c:=0) (t:=16) (m:=true) A5.low ?_
  obtain ⟨xk,nk,kk,hwk,_⟩:=A5.low
  refine st_allocN (n:=5) rfl fun h6 hl6 U6 R6=>st_storeN (ws:=algR wk) R6 rfl rfl (by unfold algR; rw [hwk] <;> rfl) fun h7 hl7 U7 R7=>?_
  have U57:Upd (fun _=>False) h5 h7:=U6.own U7 (Nat.le_refl _)
  have V7:Upd (fun _=>False) h1 h7:=V4.then (U5.then U57)
  have ld:∀ (h':AHeap),Upd (fun _=>False) h1 h'→∀ (o:Nat) (x:AV),(certC c nv)[o]? = some x→∀ K:AV→Prop,pLoad1 (.p (some ⟨h.length,8,o⟩)) h' K=K x:=fun h' U o x hx K=>q_ld (R1.upd U fun h=>h) rfl hx
  simp only [q_fld,Nat.zero_add,ld h7 V7 0 _ rfl,q_asS]
  refine serial_c ?_
  rw [serT_ok hc]
  refine st_ext0 (st_asS (st_ext1 (st_asB ?_)))
  simp only [q_fld,Nat.zero_add,ld h7 V7 1 _ rfl,q_asS]
  refine nameOf_c (G.g.ext (U1.then V7)) B.i fun h8 ri U8 Di=>?_
  refine st_ext0 (st_ext1 (st_asI (st_allocN (n:=5) rfl fun h9 hl9 U9 R9=>st_storeN R9 rfl Di.len Di.cells' fun h10 hl10 U10 R10=>?_)))
  have U810:Upd (fun _=>False) h8 h10:=U9.own U10 (Nat.le_refl _)
  have V10:Upd (fun _=>False) h1 h10:=V7.then (U8.then U810)
  simp only [q_fld,Nat.zero_add,ld h10 V10 2 _ rfl,q_asS]
  refine nameOf_c (G.g.ext (U1.then V10)) B.j fun h11 rs U11 Ds=>?_
  refine st_ext0 (st_ext1 (st_asI (st_allocN (n:=5) rfl fun h12 hl12 U12 R12=>st_storeN R12 rfl Ds.len Ds.cells' fun h13 hl13 U13 R13=>?_)))
  have U1113:Upd (fun _=>False) h11 h13:=U12.own U13 (Nat.le_refl _)
  have U1013:Upd (fun _=>False) h10 h13:=U11.then U1113
  have V13:Upd (fun _=>False) h1 h13:=V10.then U1013
  have U713:Upd (fun _=>False) h7 h13:=U8.then (U810.then U1013)
  have Gx:∀ h',Upd (fun _=>False) h13 h'→CG2 h':=fun h' U=>G.up (U1.then (V13.then U))
  have l7:∀ h',Upd (fun _=>False) h13 h'→∀ K:AV→Prop,pLoad1 (.p (some ⟨h.length,8,7⟩)) h' K=K (.s c.key):=fun h' U=>ld h' (V13.then U) 7 _ rfl
  have l4:∀ h',Upd (fun _=>False) h13 h'→∀ K:AV→Prop,pLoad1 (.p (some ⟨h.length,8,4⟩)) h' K=K (.i .i64 c.til):=fun h' U=>ld h' (V13.then U) 4 _ rfl
  have l3:∀ h',Upd (fun _=>False) h13 h'→∀ K:AV→Prop,pLoad1 (.p (some ⟨h.length,8,3⟩)) h' K=K (.i .i64 c.frm):=fun h' U=>ld h' (V13.then U) 3 _ rfl
  have l5:∀ h',Upd (fun _=>False) h13 h'→∀ K:AV→Prop,pLoad1 (.p (some ⟨h.length,8,5⟩)) h' K=K nv:=fun h' U=>ld h' (V13.then U) 5 _ rfl
  have lk:∀ h',Upd (fun _=>False) h13 h'→∀ K:AV→Prop,pLoadN 5 (.p (some ⟨h5.length,5,0⟩)) h' K=K (.ag (algR wk)):=fun h' U K=>q_ldN (k:=5) ((R7.upd U713 fun h=>h).upd U fun h=>h) rfl (by show 0+5≤5; omega)
  obtain ⟨ci,ti,mi,si,xi,ni,pi,hri⟩:=Di.row
  obtain ⟨cj,tj,mj,sj,xj,nj,pj,hrs⟩:=Ds.row
  have li:∀ h',Upd (fun _=>False) h13 h'→∀ K:AV→Prop,pLoadN 5 (.p (some ⟨h8.length,5,0⟩)) h' K=K (.ag ri):=fun h' U K=>by
    have:=q_ldN (k:=5) (o:=0) (n:=5) (K:=K) ((R10.upd U1013 fun h=>h).upd U fun h=>h) Di.len.symm (by rw [Di.len]; omega)
    rw [this,List.drop_zero,List.take_of_length_le (by rw [Di.len]; omega)]
  have ls:∀ h',Upd (fun _=>False) h13 h'→∀ K:AV→Prop,pLoadN 5 (.p (some ⟨h11.length,5,0⟩)) h' K=K (.ag rs):=fun h' U K=>by
    have:=q_ldN (k:=5) (o:=0) (n:=5) (K:=K) (R13.upd U fun h=>h) Ds.len.symm (by rw [Ds.len]; omega)
    rw [this,List.drop_zero,List.take_of_length_le (by rw [Ds.len]; omega)]
  have u13:=Upd.refl (fun _=>False) h13
  simp only [q_gl3 (Gx _ u13).g.seq,q_gl3 (Gx _ u13).bits,q_gl3 (Gx _ u13).ver,q_gl3 (Gx _ u13).int,q_fld,Nat.zero_add,l7 _ u13,l4 _ u13,l3 _ u13,lk _ u13,li _ u13,ls _ u13,q_asS,q_asI]
  refine ⟨by simp <;> omega, ?_⟩
  refine intOf_c ?_
  rw [show intOfS 2=leafC 0 2 false [2] by kernel_rfl]
  simp only [q_gl3 (Gx _ u13).g.seq,q_gl3 (Gx _ u13).bits,q_gl3 (Gx _ u13).ver,q_gl3 (Gx _ u13).int,l7 _ u13,l4 _ u13,l3 _ u13,lk _ u13,li _ u13,ls _ u13,q_asS,q_asI,q_same,true_and]
  refine st_buildA (cs:=leafC 0 2 false [2]) (len:=1) rfl rfl fun wa h14 hl14 U14 A14 N14=>?_
  have u14:=u13.then U14
  simp only [q_gl3 (Gx _ u14).g.seq,q_gl3 (Gx _ u14).bits,q_gl3 (Gx _ u14).ver,q_gl3 (Gx _ u14).int,l7 _ u14,l4 _ u14,l3 _ u14,lk _ u14,li _ u14,ls _ u14,q_asS,q_asI,q_same,true_and]
  refine shapeOf_l (c:=2) (t:=0) (m:=true) A14.low ?_
  simp only [q_gl3 (Gx _ u14).g.seq,q_gl3 (Gx _ u14).bits,q_gl3 (Gx _ u14).ver,q_gl3 (Gx _ u14).int,l7 _ u14,l4 _ u14,l3 _ u14,lk _ u14,li _ u14,ls _ u14,q_asS,q_asI,q_same,true_and]
  refine shapeVal_c (c:=0) (t:=2) (m:=false) ?_
  simp only [q_gl3 (Gx _ u14).g.seq,q_gl3 (Gx _ u14).bits,q_gl3 (Gx _ u14).ver,q_gl3 (Gx _ u14).int,l7 _ u14,l4 _ u14,l3 _ u14,lk _ u14,li _ u14,ls _ u14,q_asS,q_asI,q_same,true_and]
  have tmf:∀ {K:AV→AHeap→Prop} {hx:AHeap},K (.ag (leafC 0 g1 false s1)) hx→C Y15.id [.i .i64 c.frm] hx K:=fun hk=>by rw [e1]; exact timeOf_c n1 D1 (by rw [t1]; exact hk)
  have tmu:∀ {K:AV→AHeap→Prop} {hx:AHeap},K (.ag (leafC 0 g2 false s2)) hx→C Y15.id [.i .i64 c.til] hx K:=fun hk=>by rw [e2]; exact timeOf_c n2 D2 (by rw [t2]; exact hk)
  refine tmf ?_
  simp only [q_gl3 (Gx _ u14).g.seq,q_gl3 (Gx _ u14).bits,q_gl3 (Gx _ u14).ver,q_gl3 (Gx _ u14).int,l7 _ u14,l4 _ u14,l3 _ u14,lk _ u14,li _ u14,ls _ u14,q_asS,q_asI,q_same,true_and]
  refine tmu ?_
  simp only [q_gl3 (Gx _ u14).g.seq,q_gl3 (Gx _ u14).bits,q_gl3 (Gx _ u14).ver,q_gl3 (Gx _ u14).int,l7 _ u14,l4 _ u14,l3 _ u14,lk _ u14,li _ u14,ls _ u14,q_asS,q_asI,q_same,true_and]
  refine st_buildA (cs:=leafC 0 g1 false s1++leafC 0 g2 false s2) (len:=2) rfl rfl fun wb h15 hl15 U15 A15 N15=>?_
  have u15:=u14.then U15
  simp only [q_gl3 (Gx _ u15).g.seq,q_gl3 (Gx _ u15).bits,q_gl3 (Gx _ u15).ver,q_gl3 (Gx _ u15).int,l7 _ u15,l4 _ u15,l3 _ u15,lk _ u15,li _ u15,ls _ u15,q_asS,q_asI,q_same,true_and]
  refine shapeOf_l (c:=0) (t:=16) (m:=true) A15.low ?_
  simp only [q_gl3 (Gx _ u15).g.seq,q_gl3 (Gx _ u15).bits,q_gl3 (Gx _ u15).ver,q_gl3 (Gx _ u15).int,l7 _ u15,l4 _ u15,l3 _ u15,lk _ u15,li _ u15,ls _ u15,q_asS,q_asI,q_same,true_and]
  refine shapeVal_c (c:=0) (t:=3) (m:=false) ?_
  simp only [q_gl3 (Gx _ u15).g.seq,q_gl3 (Gx _ u15).bits,q_gl3 (Gx _ u15).ver,q_gl3 (Gx _ u15).int,l7 _ u15,l4 _ u15,l3 _ u15,lk _ u15,li _ u15,ls _ u15,q_asS,q_asI,q_same,true_and]
  refine st_buildA (cs:=algR wk++leafC 0 3 false (0 :: c.key)) (len:=2) (by unfold algR; rw [hwk] <;> rfl) rfl fun wc h16 hl16 U16 A16 N16=>?_
  have u16:=u15.then U16
  simp only [q_gl3 (Gx _ u16).g.seq,q_gl3 (Gx _ u16).bits,q_gl3 (Gx _ u16).ver,q_gl3 (Gx _ u16).int,l7 _ u16,l4 _ u16,l3 _ u16,lk _ u16,li _ u16,ls _ u16,q_asS,q_asI,q_same,true_and]
  refine shapeOf_l (c:=0) (t:=16) (m:=true) A16.low ?_
  simp only [q_gl3 (Gx _ u16).g.seq,q_gl3 (Gx _ u16).bits,q_gl3 (Gx _ u16).ver,q_gl3 (Gx _ u16).int,l7 _ u16,l4 _ u16,l3 _ u16,lk _ u16,li _ u16,ls _ u16,q_asS,q_asI,q_same,true_and]
  obtain ⟨xa,na,pa,hwa,_⟩:=A14.low
  obtain ⟨xb,nb,pb,hwb,_⟩:=A15.low
  obtain ⟨xc,nc,pc',hwc,_⟩:=A16.low
  have hf7:=fillA_rows 5 [[.i .i64 2,.i .i64 0,.b true,.s [],wa],leafC 0 2 false ((serialS c.serial).getD []),algR wk,ri,[.i .i64 0,.i .i64 16,.b true,.s [],wb],rs,[.i .i64 0,.i .i64 16,.b true,.s [],wc]] [] (z5++(z5++(z5++(z5++(z5++(z5++z5)))))) (by
    intro r hr
    simp only [List.mem_cons,List.not_mem_nil,or_false] at hr
    rcases hr with rfl | rfl | rfl | rfl | rfl | rfl | rfl
    · rfl
    · rfl
    · rfl
    · exact Di.len
    · rfl
    · exact Ds.len
    · rfl) rfl
  refine st_buildA (len:=7) hf7 (by simp [Di.len,Ds.len,leafC,algR]) fun w7 h17 hl17 U17 A17 N17=>?_
  have u17:=u16.then U17
  simp only [q_gl3 (Gx _ u17).g.seq,q_gl3 (Gx _ u17).bits,q_gl3 (Gx _ u17).ver,q_gl3 (Gx _ u17).int,l7 _ u17,l4 _ u17,l3 _ u17,l5 _ u17,lk _ u17,li _ u17,ls _ u17,q_asS,q_asI,q_same,true_and,q_fld,Nat.zero_add,(S.ext (U1.then (V13.then u17))).plen]
  have hh1:=U1.1
  have hl113:=V13.1
  have hl7:=V7.1
  have h57:=U57.1
  have h713:=U713.1
  have h1316:=u16.1
  have BC:BCtx h16 c nv wk h.length h5.length:=⟨Gx _ u16,R1.upd (V13.then u16) fun h=>h,(R7.upd U713 fun h=>h).upd u16 fun h=>h,(A5.rd.upd (U57.then U713) fun _ _ h=>h).upd u16 fun _ _ h=>h,S.ext (U1.then (V13.then u16))⟩
  have E0:Ext h h16:=(U1.then (V13.then u16)).ext
  have hno:∀ i,i<h16.length→i<h17.length∧¬ SlAt w7 i:=fun i hi=>⟨by have:=U17.1; omega,fun hs=>by have:=N17 i hs; omega⟩
  have U1417:Upd (fun _=>False) h14 h17:=(U15.then U16).then U17
  have S14:LSt (fun i=>i<h17.length) h16 h17 w7 (listD ((serialS c.serial).getD []) (nameOfS c.issuer).1 (nameOfS c.subject).1 f u c.key):=by
    refine ⟨U17.ext,⟨[[.i .i64 2,.i .i64 0,.b true,.s [],wa],leafC 0 2 false ((serialS c.serial).getD []),algR wk,ri,[.i .i64 0,.i .i64 16,.b true,.s [],wb],rs,[.i .i64 0,.i .i64 16,.b true,.s [],wc]], ?_, ?_⟩,fun i hi=>⟨by have:=N17 i hi; omega,by have:=N17 i hi; have:=U17.1; omega⟩⟩
    · rw [List.nil_append] at A17; exact A17
    · refine .cons ?_ (.cons (DV.leaf _ _ _ _ _ _) (.cons ?_ (.cons ?_ (.cons ?_ (.cons ?_ (.cons ?_ .nil))))))
      · exact DV.of (A14.rd.upd U1417 fun _ _ h=>h) (DVs.one (DV.leaf _ _ _ _ _ _)) rfl rfl fun i hi=>hno i (by have:=A14.rd.lt hi; have:=U15.1; have:=U16.1; omega)
      · exact BC.alg U17.ext fun i hi=>hno i (BC.ak.lt hi)
      · exact Di.upd ((U810.then U1013).then u17) fun i hi hl=>⟨fun h=>h,hno i (by have:=U810.1; have:=U1013.1; omega)⟩
      · rw [f1, f2]
        exact DV.of (A15.rd.upd (U16.then U17) fun _ _ h=>h) (DVs.two (DV.leaf _ _ _ _ _ _) (DV.leaf _ _ _ _ _ _)) rfl rfl fun i hi=>hno i (by have:=A15.rd.lt hi; have:=U16.1; omega)
      · exact Ds.upd (U1113.then u17) fun i hi hl=>⟨fun h=>h,hno i (by have:=U1113.1; omega)⟩
      · exact DV.of (A16.rd.upd U17 fun _ _ h=>h) (DVs.two (BC.alg U17.ext fun i hi=>hno i (BC.ak.lt hi)) (DV.leaf _ _ _ _ _ _)) rfl rfl fun i hi=>hno i (A16.rd.lt hi)
  have hkl:(listD ((serialS c.serial).getD []) (nameOfS c.issuer).1 (nameOfS c.subject).1 f u c.key).length≤4000:=by show 7≤4000; omega
  by_cases hn:c.names=[]
  · refine bif_f (by simp [hn]) ?_
    have ha:altE c.names = .ok []:=by unfold altE; rw [if_pos hn]
    unfold bodyS at hq
    rw [ha] at hq
    exact cbuild_p1 BC E0 S14 (LSt.nil U17.ext) (Nat.le_refl _) hkl (by simp) U17.1 (fun b hb=>B.z hc [] b ha hb) hq
  · refine bif_t (decide_eq_true (by have := List.length_pos_iff.2 hn; omega)) ?_
    exact cbuild_p0 BC E0 hkl U17.1 B.nl hn B.a B.ad (B.z hc) hq c.names 0 h17 _ rfl (Nat.le_refl _) S14 (LSt.nil U17.ext)
end Go.Proofs.YtcdkpkkdolmfdaaGreatDoor
namespace Go.Proofs.YtcdkpkkdolmfdaaGreatDoor
open Go.GAM Go.RowKit Go.ChangeShapes
section
variable {H:Type} {enc:TypeId × Value→H} {w:World}
abbrev hW (w:World):AHeap:=heapC w fun _=>1
theorem slI {held:Bool} {e t:TypeId} {sz fuel:Nat} {cs:List Value} {x:DataW H × List MemPlace} (ht:prog.underlying t=some (.slice e)) (hc:prog.cellsOf e=sz) (hz:0<sz) (h:DataW.trod enc prog w 0 (fun _=>true) held fuel t cs=some x) :
    ∃ (v:Value) (rows:List (List Value)),cs=[v]∧RdI sz (hW w) (absV w (fun _=>1) v) (rows.flatten.map (absV w fun _=>1)) rows.length∧rows.length≤maxLen∧∀ r∈rows,r.length=sz∧∃ n y,DataW.trod enc prog w 0 (fun _=>true) held n e r=some y:=by
  rcases row_openV ht h with ⟨rfl,_⟩ | ⟨a,len,cap,n,rows,ds,rs,hf,rfl,_,_,hl,hm,hrl,hr,_,hcell⟩
  · exact ⟨_,[],rfl,.inl ⟨rfl,rfl,rfl⟩,by simp,fun r hr=>by cases hr⟩
  have hlen:=rows_len rows fun r hr'=>(hr r hr').1.trans hc
  by_cases hc0:cap=0
  · subst hc0
    have hl0:len=0:=by omega
    subst hl0
    exact ⟨.slice (some a) 0 0,[],rfl,.inr (.inl ⟨rfl,rfl,⟨w.heap.size,0,0⟩,some 0,rfl⟩),by simp,fun r hr=>by cases hr⟩
  · obtain ⟨ver, b, h1, h2, h3, h4, h5, h6⟩ := canon_sliceI (szOf := fun _ => 1) hl hc0 hz hz (by rw [hlen, hrl]) hcell
    rw [rows_take rows len fun r hr'=>(hr r hr').1.trans hc] at h6
    refine ⟨_,rows.take len,rfl,.inr (.inr ⟨a.block,ver,a.off,some cap,b, ?_,h2,h3,h4, ?_, ?_⟩),by rw [List.length_take,hrl]; omega,fun r hr'=>?_⟩
    · rw [h1,List.length_take,hrl,Nat.min_eq_left hl]
    · rw [List.length_take,hrl,Nat.min_eq_left hl]; exact h5
    · rw [List.length_take,hrl,Nat.min_eq_left hl,h6]
    · obtain ⟨g1, y, g2⟩ := hr r (List.mem_of_mem_take hr')
      exact ⟨g1.trans hc,n,y,g2⟩
theorem names_row {fuel : Nat} {cs : List Value} {x : DataW H × List MemPlace} (h : DataW.trod enc prog w 0 (fun _ => true) true fuel 23 cs = some x) :
    ∃ (v:Value) (l:List (List UInt8)),cs=[v]∧RdI 1 (hW w) (absV w (fun _=>1) v) (l.map .s) l.length∧l.length≤maxLen∧∀ n∈l,n.length≤maxLen:=by
  obtain ⟨v,rows,rfl,hr,hm,hrow⟩:=slI Tryz.underlying23 (show prog.cellsOf 9=1 by kernel_rfl) (by decide) h
  have:∀ rows:List (List Value),(∀ r∈rows,r.length=1∧∃ n y,DataW.trod enc prog w 0 (fun _=>true) true n 9 r=some y)→∃ l:List (List UInt8),rows.flatten.map (absV w fun _=>1)=l.map .s∧rows.length=l.length∧∀ n∈l,n.length≤maxLen:=by
    intro rows
    induction rows with
    | nil=>intro _; exact ⟨[],rfl,rfl,fun n hn=>by cases hn⟩
    | cons r rows ih =>
      intro hr
      obtain ⟨l,h1,h2,h3⟩:=ih fun r hr'=>hr r (by simp [hr'])
      obtain ⟨_,n,y,hy⟩:=hr r (by simp)
      obtain ⟨s,rfl,_,hs⟩:=DataW.trod_string Tryz.underlying9 hy
      refine ⟨s.data.toList :: l, ?_,by simp [h2],fun n hn=>?_⟩
      · simp only [List.flatten_cons,List.map_append,h1]; rfl
      · rcases List.mem_cons.1 hn with rfl | hn
        · simpa using hs
        · exact h3 n hn
  obtain ⟨l,h1,h2,h3⟩:=this rows hrow
  rw [h1,h2] at hr
  exact ⟨v,l,rfl,hr,h2 ▸ hm,h3⟩
def wfC (c:Cert):Prop:=c.names.length≤maxLen∧(∀ n∈c.names,n.length≤maxLen)∧c.subject.length≤maxLen∧c.issuer.length≤maxLen
theorem cert_row {fuel:Nat} {cs:List Value} {x:DataW H × List MemPlace} (h:DataW.trod enc prog w 0 (fun _=>true) true fuel 25 cs=some x):∃ c:Cert,CV (hW w) c (cs.map (absV w fun _=>1))∧wfC c:=by
  cases fuel with
  | zero=>simp [DataW.trod] at h
  | succ fuel=>
  obtain ⟨xs,n,hn,_,hlen,hl,hf⟩:=DataW.trod_struct Tryz.underlying25 h
  have c36:prog.cellsOf 25=8:=by kernel_rfl
  have c3:prog.cellsOf 3=1:=by kernel_rfl
  have c4:prog.cellsOf 4=1:=by kernel_rfl
  have c9:prog.cellsOf 9=1:=by kernel_rfl
  have c34:prog.cellsOf 23=1:=by kernel_rfl
  rw [c36] at hlen
  have hn:fuel=n:=by omega
  subst hn
  match cs,hlen with
  | [v0, v1, v2, v3, v4, v5, v6, v7], _ =>
    have hxl:xs.length=8:=hl
    have f0:DataW.trod enc prog w 0 (fun _=>true) true fuel 9 (([v0,v1,v2,v3,v4,v5,v6,v7].drop 0).take (prog.cellsOf 9))=xs[0]?:=hf 0 _ rfl
    have f1:DataW.trod enc prog w 0 (fun _=>true) true fuel 9 (([v0,v1,v2,v3,v4,v5,v6,v7].drop 1).take (prog.cellsOf 9))=xs[1]?:=hf 1 _ rfl
    have f2:DataW.trod enc prog w 0 (fun _=>true) true fuel 9 (([v0,v1,v2,v3,v4,v5,v6,v7].drop 2).take (prog.cellsOf 9))=xs[2]?:=hf 2 _ rfl
    have f3:DataW.trod enc prog w 0 (fun _=>true) true fuel 3 (([v0,v1,v2,v3,v4,v5,v6,v7].drop 3).take (prog.cellsOf 3))=xs[3]?:=hf 3 _ rfl
    have f4:DataW.trod enc prog w 0 (fun _=>true) true fuel 3 (([v0,v1,v2,v3,v4,v5,v6,v7].drop 4).take (prog.cellsOf 3))=xs[4]?:=hf 4 _ rfl
    have f5:DataW.trod enc prog w 0 (fun _=>true) true fuel 23 (([v0,v1,v2,v3,v4,v5,v6,v7].drop 5).take (prog.cellsOf 23))=xs[5]?:=hf 5 _ rfl
    have f6:DataW.trod enc prog w 0 (fun _=>true) true fuel 4 (([v0,v1,v2,v3,v4,v5,v6,v7].drop 6).take (prog.cellsOf 4))=xs[6]?:=hf 6 _ rfl
    have f7:DataW.trod enc prog w 0 (fun _=>true) true fuel 9 (([v0,v1,v2,v3,v4,v5,v6,v7].drop 7).take (prog.cellsOf 9))=xs[7]?:=hf 7 _ rfl
    rw [c9] at f0 f1 f2 f7
    rw [c3] at f3 f4
    rw [c4] at f6
    rw [c34] at f5
    rw [List.getElem?_eq_getElem (by omega)] at f0 f1 f2 f3 f4 f5 f6 f7
    obtain ⟨s0,e0,_,b0⟩:=DataW.trod_string Tryz.underlying9 f0
    obtain ⟨s1,e1,_,b1⟩:=DataW.trod_string Tryz.underlying9 f1
    obtain ⟨s2,e2,_,b2⟩:=DataW.trod_string Tryz.underlying9 f2
    obtain ⟨i3,e3,_,_⟩:=DataW.trod_int (show prog.underlying 3=some (.int .i64) by kernel_rfl) f3
    obtain ⟨i4,e4,_,_⟩:=DataW.trod_int (show prog.underlying 3=some (.int .i64) by kernel_rfl) f4
    obtain ⟨v5',l,e5,hr,hnl,hn⟩:=names_row f5
    obtain ⟨m6,e6,_⟩:=DataW.trod_bool Tryz.underlying4 f6
    obtain ⟨s7,e7,_,b7⟩:=DataW.trod_string Tryz.underlying9 f7
    have g0:v0 = .string s0:=List.singleton_inj.1 e0
    have g1:v1 = .string s1:=List.singleton_inj.1 e1
    have g2:v2 = .string s2:=List.singleton_inj.1 e2
    have g3:v3 = .int .i64 i3:=List.singleton_inj.1 e3
    have g4:v4 = .int .i64 i4:=List.singleton_inj.1 e4
    have g5:v5=v5':=List.singleton_inj.1 e5
    have g6:v6 = .bool m6:=List.singleton_inj.1 e6
    have g7:v7 = .string s7:=List.singleton_inj.1 e7
    subst g0 g1 g2 g3 g4 g5 g6 g7
    exact ⟨⟨s0.data.toList,s1.data.toList,s2.data.toList,i3,i4,l,m6,s7.data.toList⟩,⟨_,rfl,hr⟩,hnl,hn,by simpa using b2,by simpa using b1⟩
theorem cert_arg {v:Value} {d:DataW H} {p:List MemPlace} (k:DataW.Trod enc prog w 0 (fun _=>true) true 25 v d p) :
    ∃ (cs:List AV) (c:Cert),VRel (muC w fun _=>1) (.ag cs) v∧CV (hW w) c cs:=by
  obtain ⟨fuel,h⟩:=k
  obtain ⟨c,hc,_⟩:=cert_row h
  cases v with
  | agg cs=>exact ⟨_,c,.ag _ _ (by
      have:∀ vs:List Value,VRels (muC w fun _=>1) (vs.map (absV w fun _=>1)) vs:=absVs_rel
      exact this _),hc⟩
  | _ =>
    have:=hc.len
    simp [Value.cells] at this
theorem gl_of {g:Nat} {cs:Array Value} {n:String} (hg:prog.globalNamed n=some g) (hv:w.var? prog n=some cs):GlAt (hW w) g (cs.toList.map (absV w fun _=>1)):=by
  obtain ⟨t,fr,h⟩:=var_shape hg hv
  have hlt:g<w.heap.size:=(Array.getElem?_eq_some_iff.1 h).1
  refine ⟨blkC w (fun _=>1) g, ?_, ?_, ?_, ?_⟩
  · unfold hW heapC
    rw [List.getElem?_append_left (by simpa using hlt),List.getElem?_map,List.getElem?_range hlt] <;> rfl
  · simp only [blkC,h]
  · simp only [blkC,h]; simp
  · simp only [blkC,h]
theorem shape_row {held:Bool} {fuel:Nat} {cs:List Value} {d:DataW H} {p:List MemPlace} {c t:Int} {m:Bool} (hd:d = .agg [.lit (.int .i64 c),.lit (.int .i64 t),.lit (.bool m)]) (h:DataW.trod enc prog w 0 (fun _=>true) held fuel 46 cs=some (d,p)) :
    cs=[.int .i64 c,.int .i64 t,.bool m]:=by
  cases fuel with
  | zero=>simp [DataW.trod] at h
  | succ fuel=>
  obtain ⟨xs,n,hn,hx,hlen,hl,hf⟩:=DataW.trod_struct Tryz.underlying46 h
  have c78:prog.cellsOf 46=3:=by kernel_rfl
  have c3:prog.cellsOf 3=1:=by kernel_rfl
  have c4:prog.cellsOf 4=1:=by kernel_rfl
  rw [c78] at hlen
  have hn:fuel=n:=by omega
  subst hn
  match cs,hlen with
  | [v0, v1, v2], _ =>
    have hxl:xs.length=3:=hl
    have f0:DataW.trod enc prog w 0 (fun _=>true) held fuel 3 (([v0,v1,v2].drop 0).take (prog.cellsOf 3))=xs[0]?:=hf 0 _ rfl
    have f1:DataW.trod enc prog w 0 (fun _=>true) held fuel 3 (([v0,v1,v2].drop 1).take (prog.cellsOf 3))=xs[1]?:=hf 1 _ rfl
    have f2:DataW.trod enc prog w 0 (fun _=>true) held fuel 4 (([v0,v1,v2].drop 2).take (prog.cellsOf 4))=xs[2]?:=hf 2 _ rfl
    rw [c3] at f0 f1
    rw [c4] at f2
    match xs,hxl with
    | [y0, y1, y2], _ =>
      obtain ⟨i0,e0,d0,_⟩:=DataW.trod_int (show prog.underlying 3=some (.int .i64) by kernel_rfl) f0
      obtain ⟨i1,e1,d1,_⟩:=DataW.trod_int (show prog.underlying 3=some (.int .i64) by kernel_rfl) f1
      obtain ⟨m2,e2,d2⟩:=DataW.trod_bool Tryz.underlying4 f2
      have g0:v0 = .int .i64 i0:=List.singleton_inj.1 e0
      have g1:v1 = .int .i64 i1:=List.singleton_inj.1 e1
      have g2:v2 = .bool m2:=List.singleton_inj.1 e2
      subst g0 g1 g2 d0 d1 d2 hd
      simp at hx
      obtain ⟨⟨rfl,rfl,rfl⟩,_⟩:=hx
      rfl
theorem pair_row {held:Bool} {fuel:Nat} {cs:List Value} {d:DataW H} {p:List MemPlace} {a b:List UInt8} (hd:d = .agg [.lit (.string a),.lit (.string b)]) (h:DataW.trod enc prog w 0 (fun _=>true) held fuel 74 cs=some (d,p)) :
    cs.map (absV w fun _=>1)=[.s a,.s b]:=by
  cases fuel with
  | zero=>simp [DataW.trod] at h
  | succ fuel=>
  obtain ⟨xs,n,hn,hx,hlen,hl,hf⟩:=DataW.trod_struct Tryz.underlying74 h
  have c82:prog.cellsOf 74=2:=by kernel_rfl
  have c9:prog.cellsOf 9=1:=by kernel_rfl
  rw [c82] at hlen
  have hn:fuel=n:=by omega
  subst hn
  match cs,hlen with
  | [v0, v1], _ =>
    have hxl:xs.length=2:=hl
    have f0:DataW.trod enc prog w 0 (fun _=>true) held fuel 9 (([v0,v1].drop 0).take (prog.cellsOf 9))=xs[0]?:=hf 0 _ rfl
    have f1:DataW.trod enc prog w 0 (fun _=>true) held fuel 9 (([v0,v1].drop 1).take (prog.cellsOf 9))=xs[1]?:=hf 1 _ rfl
    rw [c9] at f0 f1
    match xs,hxl with
    | [y0, y1], _ =>
      obtain ⟨s0,e0,d0,_⟩:=DataW.trod_string Tryz.underlying9 f0
      obtain ⟨s1,e1,d1,_⟩:=DataW.trod_string Tryz.underlying9 f1
      have g0:v0 = .string s0:=List.singleton_inj.1 e0
      have g1:v1 = .string s1:=List.singleton_inj.1 e1
      subst g0 g1 d0 d1 hd
      simp at hx
      obtain ⟨⟨rfl,rfl⟩,_⟩:=hx
      rfl
def attD {H:Type} (x:List UInt8 × List UInt8):DataW H:=.agg [.lit (.string x.1),.lit (.string x.2)]
theorem att_rows {held:Bool} {n:Nat}:∀ (rows:List (List Value)) (l:List (List UInt8 × List UInt8)),rows.length=l.length→(∀ (i:Nat) (r:List Value) (d:DataW H),rows[i]? = some r→(l.map attD)[i]? = some d→∃ p,DataW.trod enc prog w 0 (fun _=>true) held n 74 r=some (d,p)) →
    rows.flatten.map (absV w fun _=>1)=l.flatMap fun x=>[.s x.1,.s x.2]
  | [],[],_,_=>rfl
  | r :: rows, x :: l, hl, h => by
    obtain ⟨p,hp⟩:=h 0 r (attD x) rfl rfl
    rw [List.flatten_cons,List.map_append,pair_row rfl hp,att_rows rows l (by simpa using hl) fun i r d h1 h2=>h (i+1) r d (by simpa using h1) (by simpa using h2)]
    first | done | rfl
theorem cg2_of {l : List (String × DataW Unit)} (h5 : ("intrusion/certificate.sequence", Rows.laid_intrusion_certificate_sequence) ∈ l) (h4 : ("intrusion/certificate.attributes", Rows.laid_intrusion_certificate_attributes) ∈ l) (h6 : ("intrusion/certificate.set", Rows.laid_intrusion_certificate_set) ∈ l) (h9 : ("intrusion/certificate.bits", Rows.laid_intrusion_certificate_bits) ∈ l) (h11 : ("intrusion/certificate.version", Rows.laid_intrusion_certificate_version) ∈ l) (h7 : ("intrusion/certificate.integer", Rows.laid_intrusion_certificate_integer) ∈ l) (h13 : ("intrusion/certificate.hostName", Rows.laid_intrusion_certificate_hostName) ∈ l) (h10 : ("intrusion/certificate.truth", Rows.laid_intrusion_certificate_truth) ∈ l) (h12 : ("intrusion/certificate.extension", Rows.laid_intrusion_certificate_extension) ∈ l) (h8 : ("intrusion/certificate.octets", Rows.laid_intrusion_certificate_octets) ∈ l) (hL : laidMet prog l w) : CG2 (hW w) := by
  refine ⟨⟨?_, ?_, ?_⟩, ?_, ?_, ?_, ?_, ?_, ?_, ?_⟩
  · obtain ⟨g, t, cs, fuel, p, hg, ht, hv, hd⟩ := laid_shape h5 hL
    obtain rfl:=Option.some.inj ((show prog.globalNamed "intrusion/certificate.sequence" = some 0 by kernel_rfl).symm.trans hg)
    obtain rfl:=Option.some.inj ((show (prog.globals[0]?).map (·.type)=some 46 by kernel_rfl).symm.trans ht)
    have:=gl_of hg hv
    rw [shape_row rfl hd] at this
    exact this
  · obtain ⟨g, t, cs, fuel, p, hg, ht, hv, hd⟩ := laid_shape h6 hL
    obtain rfl:=Option.some.inj ((show prog.globalNamed "intrusion/certificate.set" = some 8 by kernel_rfl).symm.trans hg)
    obtain rfl:=Option.some.inj ((show (prog.globals[8]?).map (·.type)=some 46 by kernel_rfl).symm.trans ht)
    have:=gl_of hg hv
    rw [shape_row rfl hd] at this
    exact this
  · obtain ⟨g, t, cs, fuel, p, hg, ht, hv, hd⟩ := laid_shape h4 hL
    obtain rfl:=Option.some.inj ((show prog.globalNamed "intrusion/certificate.attributes" = some 7 by kernel_rfl).symm.trans hg)
    obtain rfl:=Option.some.inj ((show (prog.globals[7]?).map (·.type)=some 72 by kernel_rfl).symm.trans ht)
    have hG:=gl_of hg hv
    have c82:prog.cellsOf 74=2:=by kernel_rfl
    rcases row_openV Tryz.underlying72 hd with ⟨_,hx⟩ | ⟨a,len,cap,n,rows,ds,rs,_,hc,hx,hdl,hl,_,hrl,hr,hrd,hcell⟩
    · cases hx
    · rw [hc] at hG
      refine ⟨_,hG, ?_⟩
      have hds:ds=attrs.map attD:=by
        have:=hx
        unfold Rows.laid_intrusion_certificate_attributes at this
        simp only [DataW.slice.injEq] at this
        exact this.1.symm
      have hlen4:len=4:=by rw [← hdl,hds] <;> rfl
      have hrl2:=rows_len rows fun r hr'=>(hr r hr').1.trans c82
      obtain ⟨ver,b,g1,g2,g3,g4,g5,g6⟩:=canon_sliceI (szOf:=fun _=>1) (sz:=2) hl (by omega) (by decide) (by decide) (by rw [hrl2,hrl]) hcell
      rw [rows_take rows len fun r hr'=>(hr r hr').1.trans c82] at g6
      rw [att_rows (held:=false) (n:=n) (rows.take len) attrs (by rw [List.length_take,hrl]; simp [attrs]; omega) (fun i r d q1 q2=>hrd i r d (by rw [List.getElem?_take] at q1; split at q1; exact q1; cases q1) (by rw [hds]; exact q2))] at g6
      subst hlen4
      refine .inr (.inr ⟨a.block,ver,a.off,some cap,b, ?_,g2,g3,g4,g5,g6⟩)
      rw [← g1]
  · obtain ⟨g, t, cs, fuel, p, hg, ht, hv, hd⟩ := laid_shape h9 hL
    obtain rfl:=Option.some.inj ((show prog.globalNamed "intrusion/certificate.bits" = some 1 by kernel_rfl).symm.trans hg)
    obtain rfl:=Option.some.inj ((show (prog.globals[1]?).map (·.type)=some 46 by kernel_rfl).symm.trans ht)
    have:=gl_of hg hv
    rw [shape_row rfl hd] at this
    exact this
  · obtain ⟨g, t, cs, fuel, p, hg, ht, hv, hd⟩ := laid_shape h11 hL
    obtain rfl:=Option.some.inj ((show prog.globalNamed "intrusion/certificate.version" = some 2 by kernel_rfl).symm.trans hg)
    obtain rfl:=Option.some.inj ((show (prog.globals[2]?).map (·.type)=some 46 by kernel_rfl).symm.trans ht)
    have:=gl_of hg hv
    rw [shape_row rfl hd] at this
    exact this
  · obtain ⟨g, t, cs, fuel, p, hg, ht, hv, hd⟩ := laid_shape h7 hL
    obtain rfl:=Option.some.inj ((show prog.globalNamed "intrusion/certificate.integer" = some 3 by kernel_rfl).symm.trans hg)
    obtain rfl:=Option.some.inj ((show (prog.globals[3]?).map (·.type)=some 46 by kernel_rfl).symm.trans ht)
    have:=gl_of hg hv
    rw [shape_row rfl hd] at this
    exact this
  · obtain ⟨g, t, cs, fuel, p, hg, ht, hv, hd⟩ := laid_shape h13 hL
    obtain rfl:=Option.some.inj ((show prog.globalNamed "intrusion/certificate.hostName" = some 4 by kernel_rfl).symm.trans hg)
    obtain rfl:=Option.some.inj ((show (prog.globals[4]?).map (·.type)=some 46 by kernel_rfl).symm.trans ht)
    have:=gl_of hg hv
    rw [shape_row rfl hd] at this
    exact this
  · obtain ⟨g, t, cs, fuel, p, hg, ht, hv, hd⟩ := laid_shape h10 hL
    obtain rfl:=Option.some.inj ((show prog.globalNamed "intrusion/certificate.truth" = some 5 by kernel_rfl).symm.trans hg)
    obtain rfl:=Option.some.inj ((show (prog.globals[5]?).map (·.type)=some 46 by kernel_rfl).symm.trans ht)
    have:=gl_of hg hv
    rw [shape_row rfl hd] at this
    exact this
  · obtain ⟨g, t, cs, fuel, p, hg, ht, hv, hd⟩ := laid_shape h12 hL
    obtain rfl:=Option.some.inj ((show prog.globalNamed "intrusion/certificate.extension" = some 6 by kernel_rfl).symm.trans hg)
    obtain rfl:=Option.some.inj ((show (prog.globals[6]?).map (·.type)=some 46 by kernel_rfl).symm.trans ht)
    have:=gl_of hg hv
    rw [shape_row rfl hd] at this
    exact this
  · obtain ⟨g, t, cs, fuel, p, hg, ht, hv, hd⟩ := laid_shape h8 hL
    obtain rfl:=Option.some.inj ((show prog.globalNamed "intrusion/certificate.octets" = some 9 by kernel_rfl).symm.trans hg)
    obtain rfl:=Option.some.inj ((show (prog.globals[9]?).map (·.type)=some 46 by kernel_rfl).symm.trans ht)
    have:=gl_of hg hv
    rw [shape_row rfl hd] at this
    exact this
end
end Go.Proofs.YtcdkpkkdolmfdaaGreatDoor
namespace Go.Proofs.YtcdkpkkdolmfdaaGreatDoor
open Go.GAM Go.RowKit
theorem rend_len:∀ l:List Att,(∀ a∈l,attB a.1=true)→3 * l.length≤(rendJ l).length+1∧(l.map fun a=>a.2.length).sum≤(rendJ l).length
  | [],_=>by simp
  | [a], h => by
    have h1:=h a (by simp)
    have h2:1≤a.1.length:=by rcases attB_cases h1 with e | e | e | e <;> rw [e] <;> simp
    have h3:=escS_len sps_nd a.2
    rw [rendJ_one]
    unfold rend1
    simp only [List.length_append,List.length_cons,List.length_nil,List.map_cons,List.map_nil,List.sum_cons,List.sum_nil]
    omega
  | a :: b :: l, h => by
    have h1:=h a (by simp)
    have h2:1≤a.1.length:=by rcases attB_cases h1 with e | e | e | e <;> rw [e] <;> simp
    have h3:=escS_len sps_nd a.2
    obtain ⟨i1,i2⟩:=rend_len (b :: l) fun x hx=>h x (by simp [hx])
    rw [rendJ_cons]
    unfold rend1
    simp only [List.length_append,List.length_cons,List.length_nil,List.map_cons,List.sum_cons] at *
    omega
theorem setA_sz (l:List Att):szs (l.map setA)=4 * l.length:=by
  induction l with
  | nil=>rfl
  | cons a l ih =>
    show (setA a).sz+szs (l.map setA)=_
    rw [ih]
    simp only [setA,Der.sz,szs,List.length_cons]; omega
theorem setA_ds (l:List Att) (h:∀ a∈l,attB a.1=true):dsums (l.map setA)≤50 * l.length+(l.map fun a=>a.2.length).sum:=by
  induction l with
  | nil=>simp [dsums]
  | cons a l ih =>
    have h1:=(idenS_is (h a (by simp))).2.2
    have ih:=ih fun x hx=>h x (by simp [hx])
    show dsum (setA a)+dsums (l.map setA)≤_
    simp only [setA,dsum,dsums,List.length_cons,List.length_nil,List.map_cons,List.sum_cons] at *
    omega
theorem name_sz {s : List UInt8} (h : (nameOfS s).2 = 0) : (nameOfS s).1.sz ≤ 1000 ∧ dsum (nameOfS s).1 ≤ 10000 := by
  have hl:s.length≤512:=by
    unfold nameOfS at h
    by_cases hl:512<s.length
    · rw [if_pos hl] at h; cases h
    · omega
  cases ha:attrsS s with
  | none=>rw [attrs_bad hl ha] at h; cases h
  | some l =>
    obtain ⟨e,hok,_⟩:=attrs_okA hl ha
    rw [e]
    have hr:(rendJ l).length≤512∨l=[]:=by
      unfold attrsS at ha
      by_cases hn:s=[]
      · rw [if_pos hn] at ha; cases ha; exact .inr rfl
      · rw [if_neg hn] at ha
        rw [(scanA_is _ _ _ ha).1] at hl; exact .inl hl
    have h1:=setA_sz l
    have h2:=setA_ds l hok
    obtain ⟨g1,g2⟩:=rend_len l hok
    show (outOf (l.map setA)).sz≤1000∧dsum (outOf (l.map setA))≤10000
    unfold outOf
    simp only [Der.sz,dsum,List.length_nil]
    rcases hr with hr | rfl
    · omega
    · simp [szs,dsums]
structure CSm (c:Cert):Prop where
  n:c.names.length≤20
  s:∀ x∈c.names,x.length≤1000
  i:c.issuer.length≤1000000
  j:c.subject.length≤1000000
theorem alt_sz (l:List (List UInt8)):szs (l.map fun n=>datD 2 2 n)=l.length:=by
  induction l with
  | nil=>rfl
  | cons a l ih =>
    show (datD 2 2 a).sz+szs (l.map fun n=>datD 2 2 n)=_
    rw [ih]; simp only [datD,Der.sz,szs,List.length_cons]; omega
theorem alt_ds (l:List (List UInt8)) (h:∀ x∈l,x.length≤1000):dsums (l.map fun n=>datD 2 2 n)≤1010 * l.length:=by
  induction l with
  | nil=>simp [dsums]
  | cons a l ih =>
    have h1:=h a (by simp)
    have ih:=ih fun x hx=>h x (by simp [hx])
    show dsum (datD 2 2 a)+dsums (l.map fun n=>datD 2 2 n)≤_
    rw [show dsum (datD 2 2 a)=a.length+10+0 from rfl,List.length_cons]; omega
theorem enc_len {d:Der} {s:List UInt8} (h:encS d = .ok s):s.length≤dsum d:=by
  have:=bytes_len d
  rw [(dec_of_enc h).1]; exact this
theorem alg_len:(oidDat algOid).length≤20∧(oidDat altOid).length≤20∧(oidDat basOid).length≤20:=by
  refine ⟨?_, ?_, ?_⟩ <;> decide +kernel
theorem szs_app:∀ a b:List Der,szs (a++b)=szs a+szs b
  | [],b=>by simp [szs]
  | k :: a,b=>by simp only [List.cons_append,szs,szs_app a b]; omega
theorem ser_len {s l:List UInt8} (h:serialS s=some l):l.length≤40:=by
  have h1:=(serial_back h).1
  have h2:=hexS_len l
  rw [h1] at h2
  unfold serialS at h
  split at h
  · cases h
  · rename_i e
    have:s.length≤40:=by
      rcases Nat.lt_or_ge 40 s.length with hh | hh
      · exact absurd (.inr (.inr hh)) e
      · exact hh
    omega
theorem BOK.of {c : Cert} {f u : Der} (hs : CSm c) (ht : checkE c = 0 → TimeD c.frm f ∧ TimeD c.til u) : BOK c f u := by
  obtain ⟨a1,a2,a3⟩:=alg_len
  have hsz:=alt_sz c.names
  have hds:=alt_ds c.names hs.s
  have hn:=hs.n
  refine { n:=by omega,s:=fun x hx=>by have:=hs.s x hx; omega,i:=by have:=hs.i; omega,j:=by have:=hs.j; omega,t:=ht,a:=?_,ad:=?_,z:=fun hc a b ha hb=>?_,nl:=by omega }
  · show 1 + szs (c.names.map fun n => datD 2 2 n) ≤ 100000
    omega
  · show ([] : List UInt8).length + 10 + dsums (c.names.map fun n => datD 2 2 n) ≤ 60000
    simp only [List.length_nil]; omega
  · obtain ⟨tf, tu'⟩ := ht hc
    obtain ⟨_,_,_,_,g1,s1,_,_,_,_,f1,l1⟩:=tf.leaf
    obtain ⟨_,_,_,_,g2,s2,_,_,_,_,f2,l2⟩:=tu'.leaf
    have hk:=key_ok' hc
    have hnm:(nameOfS c.issuer).2=0∧(nameOfS c.subject).2=0:=by
      unfold checkE at hc
      split at hc
      · cases hc
      · split at hc
        · cases hc
        · rename_i hx
          rw [not_or] at hx
          exact ⟨by simpa using hx.1,by simpa using hx.2⟩
    obtain ⟨i1,i2⟩:=name_sz hnm.1
    obtain ⟨j1,j2⟩:=name_sz hnm.2
    have hser:((serialS c.serial).getD []).length≤40:=by
      cases hx:serialS c.serial with
      | none=>simp
      | some l=>exact ser_len hx
    have hext:szs (a++b)≤6∧dsums (a++b)≤30000:=by
      have ha':szs a≤3∧dsums a≤25000:=by
        unfold altE at ha
        split at ha
        · cases ha; simp [szs,dsums]
        · split at ha
          · cases ha
          · rename_i s hx
            cases ha
            have:=enc_len hx
            have e:dsum (altD c.names)=0+10+dsums (c.names.map fun n=>datD 2 2 n):=rfl
            simp only [extD,oidD',datD,seqD,szs,Der.sz,dsums,dsum,List.length_nil]
            omega
      have hb':szs b≤3∧dsums b≤200:=by
        unfold basE at hb
        split at hb
        · split at hb
          · cases hb
          · rename_i s hx
            cases hb
            have:=enc_len hx
            have e:dsum basD=21:=by decide
            simp only [extD,oidD',datD,seqD,szs,Der.sz,dsums,dsum,List.length_nil]
            omega
        · cases hb; simp [szs,dsums]
      rw [szs_app,dsums_app]; omega
    have hmore:szs (moreD (a++b))≤8∧dsums (moreD (a++b))≤30020:=by
      unfold moreD
      split
      · simp [szs,dsums]
      · simp only [seqD,szs,Der.sz,dsums,dsum,List.length_nil]; omega
    have ht8:((c.key++z8b).take 8).length≤8:=by rw [List.length_take]; omega
    refine ⟨by omega, ?_, ?_⟩
    · simp only [seqD, datD, algD, oidD', Der.sz, szs, szs_app, listD, f1, f2]
      omega
    · simp only [seqD, datD, algD, oidD', dsum, dsums, dsums_app, listD, f1, f2, List.length_nil, List.length_cons]
      omega
def oneC:Cert:=⟨[48,48],[67,78,61,97,44,79,61,98],[67,78,61,120],5,2600000000,[[120],[42,46,121]],true,[107,101,121]⟩
def oneF:Der:=timeDer 1970 1 0 5
def oneU:Der:=timeDer 2052 5 21 51200
theorem one_t:TimeD oneC.frm oneF∧TimeD oneC.til oneU:=
  ⟨⟨5,1970,1,0,rfl,by decide,⟨by decide,by decide +kernel,by decide +kernel,by decide,by decide,by decide +kernel,by decide +kernel⟩,rfl⟩,⟨2600000000,2052,5,21,rfl,by decide,⟨by decide,by decide +kernel,by decide +kernel,by decide,by decide,by decide +kernel,by decide +kernel⟩,rfl⟩⟩
theorem one_sm:CSm oneC:=⟨by decide,by decide,by decide,by decide⟩
def okOf:Except Int (List UInt8)→Option (List UInt8)
  | .ok l=>some l
  | .error _=>none
theorem one_b:(okOf (buildS oneC oneF oneU)).isSome=true:=by kernel_rfl
theorem one_ok:∃ l,buildS oneC oneF oneU = .ok l∧parseS l = .ok oneC:=by
  have h:=one_b
  cases hb:buildS oneC oneF oneU with
  | error e=>rw [hb] at h; cases h
  | ok l=>exact ⟨l,rfl,round one_t.1 one_t.2 hb⟩
end Go.Proofs.YtcdkpkkdolmfdaaGreatDoor
namespace Go.Proofs.YtcdkpkkdolmfdaaGreatDoor
open Go.GAM Go.RowKit
section
variable {h:AHeap} {Q:AV→AHeap→Prop}
theorem lawOne_c (hq:∀ cs h',Upd (fun _=>False) h h'→CV h' oneC cs→Q (.ag cs) h'):C Y58.id [] h Q:=by
  refine Y58.call ?_
  simp only [Y58.t]
  refine st_allocN (n:=8) rfl fun h1 hl1 U1 R1=>?_
  refine st_build (cs:=[.s [120],.s [42,46,121]]) rfl rfl fun v h2 hl2 U2 R2 F2=>?_
  obtain ⟨aa,nn,kk,rfl⟩:=R2.i.isSl
  refine st_pb (cs:=certC oneC (.sl aa nn kk)) rfl ?_
  refine st_storeN (R1.upd U2 fun h=>h) rfl rfl rfl fun h3 hl3 U3 R3=>st_loadN R3 rfl (.inl (hq _ h3 ((U1.then U2).own U3 (Nat.le_refl _)) ⟨_,rfl,R2.i.upd U3 fun i hi e=>?_⟩))
  have:=F2 i hi
  omega
theorem none_is:nameOfS [67,78,61,97,61,98]=(.zero,5):=by
  have:(nameOfS [67,78,61,97,61,98]).2=5:=by kernel_rfl
  unfold nameOfS at this ⊢
  rw [if_neg (by decide),if_neg (by decide)] at this ⊢
  split at this
  · cases this
  · rename_i hx; rw [if_neg hx]
theorem com_is:commonS [79,61,120,44,67,78,61,97,92,44,98]=[97,44,98]:=by kernel_rfl
theorem awake_c (G:CG2 h) (hq:∀ h',Upd (fun _=>False) h h'→Q (.b true) h'):C Y37.id [] h Q:=by
  refine Y37.call ?_
  simp only [Y37.t,Y37.j0]
  obtain ⟨l,hb,hp⟩:=one_ok
  refine lawOne_c fun cs1 h1 U1 V1=>?_
  refine certBuild_c (G.up U1) V1 (BOK.of one_sm fun _=>one_t) ?_
  rw [hb]
  refine st_ext0 (st_asS (st_ext1 (st_asI ?_)))
  refine parse_c (G.up U1) ?_
  rw [hp]
  intro cs2 h2 U2 V2
  refine st_ext0 (st_ext1 (st_asI (st_allocN (n:=8) rfl fun h3 hl3 U3 R3=>st_storeN R3 rfl V2.len V2.ok fun h4 hl4 U4 R4=>?_)))
  have U24:Upd (fun _=>False) h2 h4:=U3.own U4 (Nat.le_refl _)
  have W4:=(U1.then U2).then U24
  refine nameOf_c (G.up W4).g (by decide) ?_
  rw [none_is]
  intro h5 cs5 U5 D5
  refine st_ext0 (st_ext1 (st_asI (st_allocN (n:=5) rfl fun h6 hl6 U6 R6=>st_storeN R6 rfl D5.len D5.cells' fun h7 hl7 U7 R7=>?_)))
  have U57:Upd (fun _=>False) h5 h7:=U6.own U7 (Nat.le_refl _)
  have U47:=U5.then U57
  have W7:=W4.then U47
  have R47:=R4.upd U47 fun h=>h
  refine bif_t rfl (bif_t rfl (st_loadN R47 V2.len.symm ?_))
  refine lawOne_c fun cs8 h8 U8 V8=>?_
  have R48:=R47.upd U8 fun h=>h
  refine st_loadN R48 V2.len.symm ⟨rfl, ?_⟩
  refine Rsame_c (c:=oneC) (V2.ext (U24.then (U47.then U8))) V8 (by decide) (st_asB (bif_t rfl ?_))
  refine common_c (G.up (W7.then U8)).g (by decide) ?_
  rw [com_is]
  refine st_asS (st_loadN R48 V2.len.symm ⟨rfl,bif_t (by decide) ?_⟩)
  refine Y37.i0 ?_
  simp only [Y37.t0]
  exact .inl (hq h8 (W7.then U8))
def smallB (c:Cert):Bool:=decide (c.names.length≤20∧c.issuer.length≤2000∧c.subject.length≤2000∧c.serial.length≤2000∧c.key.length≤2000)&&c.names.all fun n=>decide (n.length≤100)
theorem lawSmall_c {c : Cert} {cs : List AV} (V : CV h c cs) (hq : Q (.b (smallB c)) h) : C Y21.id [.ag cs] h Q := by
  obtain ⟨v,rfl,S⟩:=V
  refine Y21.call ?_
  simp only [Y21.t,Y21.j0]
  refine st_boxN (n:=8) rfl rfl fun h1 hl1 U1 R1=>?_
  have R1:RecAt h1 h.length (certC c v):=R1
  have S1:=S.ext U1
  have ld:∀ (o:Nat) (x:AV),(certC c v)[o]? = some x→∀ K:AV→Prop,pLoad1 (.p (some ⟨h.length,8,o⟩)) h1 K=K x:=fun o x hx K=>q_ld R1 rfl hx
  have p1:c.names.length≤20→∀ (r:List (List UInt8)) (i:Nat),c.names.drop i=r→Q (.b (r.all fun n=>decide (n.length≤100))) h→Y21.p1 (kRet h Q) (.p (some ⟨h.length,8,0⟩)) i h1:=by
    intro h20 r
    induction r with
    | nil =>
      intro i hr hk
      have:=drop_end hr
      refine Y21.i1 ?_
      simp only [Y21.t1,Y21.j1]
      simp only [q_fld,Nat.zero_add,ld 5 _ rfl,S1.plen]
      exact bif_f (by simp; omega) (kRet_pure rfl U1.ext hk)
    | cons x r ih =>
      intro i hr hk
      have hlt:=drop_lt hr
      have hx:=at_of_drop hr
      refine Y21.i1 ?_
      simp only [Y21.t1,Y21.j1]
      simp only [q_fld,Nat.zero_add,ld 5 _ rfl,S1.plen]
      refine bif_t (by simp; omega) (S1.str (Upd.refl _ _) hx ?_)
      by_cases h100:100<x.length
      · refine bif_t (decide_eq_true (by omega)) (kRet_pure rfl U1.ext ?_)
        rw [show ((x :: r).all fun n=>decide (n.length≤100))=false by simp; intro h; omega] at hk
        exact hk
      · refine bif_f (decide_eq_false (by omega)) (inc (by omega) (ih (i + 1) (drop_next hr) ?_))
        rw [show ((x :: r).all fun n=>decide (n.length≤100))=r.all fun n=>decide (n.length≤100) by simp; intro h; omega] at hk
        exact hk
  have p0:∀ b,b = !decide (c.names.length≤20∧c.issuer.length≤2000∧c.subject.length≤2000∧c.serial.length≤2000∧c.key.length≤2000)→Y21.p0 (kRet h Q) (.p (some ⟨h.length,8,0⟩)) b h1:=by
    intro b hb
    subst hb
    refine Y21.i0 ?_
    simp only [Y21.t0,Y21.j1]
    unfold smallB at hq
    by_cases hc:c.names.length≤20∧c.issuer.length≤2000∧c.subject.length≤2000∧c.serial.length≤2000∧c.key.length≤2000
    · rw [decide_eq_true hc] at hq ⊢
      exact bif_f rfl (p1 hc.1 c.names 0 rfl (by simpa using hq))
    · rw [decide_eq_false hc] at hq ⊢
      exact bif_t rfl (kRet_pure rfl U1.ext hq)
  simp only [q_fld,Nat.zero_add,ld 5 _ rfl,S1.plen,ld 1 _ rfl,ld 2 _ rfl,ld 0 _ rfl,ld 7 _ rfl,q_asS]
  refine bif_both (fun e=>p0 _ ?_) fun e1=>?_
  · have e := of_decide_eq_true e
    symm; rw [Bool.not_eq_true',decide_eq_false_iff_not]; omega
  have e1:=of_decide_eq_false e1
  refine bif_both (fun e=>p0 _ ?_) fun e2=>?_
  · have e := of_decide_eq_true e
    symm; rw [Bool.not_eq_true',decide_eq_false_iff_not]; omega
  have e2:=of_decide_eq_false e2
  refine bif_both (fun e=>p0 _ ?_) fun e3=>?_
  · have e := of_decide_eq_true e
    symm; rw [Bool.not_eq_true',decide_eq_false_iff_not]; omega
  have e3:=of_decide_eq_false e3
  refine bif_both (fun e=>p0 _ ?_) fun e4=>?_
  · have e := of_decide_eq_true e
    symm; rw [Bool.not_eq_true',decide_eq_false_iff_not]; omega
  have e4:=of_decide_eq_false e4
  refine p0 _ ?_
  by_cases h7:c.key.length≤2000
  · rw [decide_eq_false (by omega),decide_eq_true (⟨by omega,by omega,by omega,by omega,h7⟩:_∧_)] <;> rfl
  · rw [decide_eq_true (by omega),decide_eq_false fun h=>h7 h.2.2.2.2] <;> rfl
theorem small_sm {c:Cert} (h:smallB c=true):CSm c:=by
  unfold smallB at h
  rw [Bool.and_eq_true,decide_eq_true_eq,List.all_eq_true] at h
  obtain ⟨⟨h1,h2,h3,h4,h5⟩,h6⟩:=h
  refine ⟨h1,fun x hx=>?_,by omega,by omega⟩
  have:=h6 x hx
  simp only [decide_eq_true_eq] at this
  omega
theorem timeD_ex {n:Int} (h0:0≤n) (h1:n≤253402300799):∃ t,TimeD n t:=by
  obtain ⟨y,m,d,D⟩:=date_is (n.toNat / 86400)
  exact ⟨_,n.toNat,y,m,d,by omega,by omega,D,rfl⟩
theorem times_ex (c:Cert):∃ f u:Der,checkE c=0→TimeD c.frm f∧TimeD c.til u:=by
  by_cases hc:checkE c=0
  · have hr : 0 ≤ c.frm ∧ c.frm ≤ 253402300799 ∧ 0 ≤ c.til ∧ c.til ≤ 253402300799 := by
      unfold checkE at hc
      split at hc
      · cases hc
      · omega
    obtain ⟨f,hf⟩:=timeD_ex hr.1 hr.2.1
    obtain ⟨u,hu⟩:=timeD_ex hr.2.2.1 hr.2.2.2
    exact ⟨f,u,fun _=>⟨hf,hu⟩⟩
  · exact ⟨.zero,.zero,fun h=>absurd h hc⟩
theorem build_zero {c : Cert} {f u : Der} {e : Int} (h : buildS c f u = .error e) : e ≠ 0 := by
  unfold buildS at h
  split at h
  · cases h; assumption
  · split at h
    · rename_i hx
      cases h
      unfold altE at hx
      split at hx
      · cases hx
      · split at hx
        · rename_i hy; cases hx; exact enc_err hy
        · cases hx
    · rename_i hx
      cases h
      unfold basE at hx
      split at hx
      · split at hx
        · rename_i hy; cases hx; exact enc_err hy
        · cases hx
      · cases hx
    · exact enc_err h
end
end Go.Proofs.YtcdkpkkdolmfdaaGreatDoor
set_option maxRecDepth 100000
namespace Go.Proofs.YtcdkpkkdolmfdaaGreatDoor
open Go.GAM
variable [XR]
noncomputable def Y27.body:Code:=(Tryz.f6.body).getD .skip
def Y27.ann:Ann:=(.seq 0 [1] .leaf (.seq 0 [1] (.seq 0 [1,9] .leaf (.br (.seq 0 [2] .leaf .leaf) .leaf)) (.seq 0 [1,3,4] .leaf (.seq 0 [1,3] (.seq 0 [1,3,17] .leaf (.br (.seq 1 [2] .leaf .leaf) .leaf)) (.seq 0 [1,5,6] .leaf (.seq 2 [2] .leaf .leaf))))))
theorem Y27.body_eq:Tryz.f6.body=some Y27.body:=by kernel_rfl
theorem Y27.dist:noTwice (places Y27.ann Y27.body)=true:=by kernel_rfl
noncomputable def Y27.J (Q:AV→AHeap→Prop):JT:=funJ prog C Tryz.f6 Y27.ann Y27.body Q
theorem Y27.goR {Q:AV→AHeap→Prop} {k:Nat} {p:List Nat} (hl:lookJ (places Y27.ann Y27.body) k=some (p,false)) {e:Env} {h:AHeap} (hk:atJ prog C 38 (Y27.J Q) false p Y27.ann Y27.body e h (kFun prog Tryz.f6 Q)):Y27.J Q k e h:=goJ_run (P:=prog) (fn:=Tryz.f6) (ann:=Y27.ann) (body:=Y27.body) (Q:=Q) (k:=k) (p:=p) (e:=e) (h:=h) (acall_le X) Y27.dist hl hk
def Y27.p0 (Q:AV→AHeap→Prop) (x2:Bool) (h:AHeap):Prop:=Y27.J Q 1 [(2,(AV.b x2))] h
theorem Y27.j0 (Q:AV→AHeap→Prop) (x2:Bool) (h:AHeap):Y27.J Q 1 [(2,(AV.b x2))] h=Y27.p0 Q x2 h:=rfl
def Y27.p1 (Q:AV→AHeap→Prop) (x2:Bool) (h:AHeap):Prop:=Y27.J Q 2 [(2,(AV.b x2))] h
theorem Y27.j1 (Q:AV→AHeap→Prop) (x2:Bool) (h:AHeap):Y27.J Q 2 [(2,(AV.b x2))] h=Y27.p1 Q x2 h:=rfl
def Y27.t0 (J:JT) (Q:AV→AHeap→Prop) (x2:Bool) (h:AHeap):Prop:=
Q (AV.b x2) h
theorem Y27.t0_eq (J:JT) (Q:AV→AHeap→Prop) (x2:Bool) (h:AHeap):Y27.t0 J Q x2 h=atJ prog C 38 J false [1,1,1,0,1,0,1] Y27.ann Y27.body [(2,(AV.b x2))] h (kFun prog Tryz.f6 Q):=by kernel_rfl
theorem Y27.i0 {Q:AV→AHeap→Prop} {x2:Bool} {h:AHeap} (H:Y27.t0 (Y27.J Q) Q x2 h):Y27.p0 Q x2 h:=Y27.goR (k:=1) (p:=[1,1,1,0,1,0,1]) (by kernel_rfl) ((Y27.t0_eq (Y27.J Q) Q x2 h).mp H)
def Y27.t1 (J:JT) (Q:AV→AHeap→Prop) (x2:Bool) (h:AHeap):Prop:=
Q (AV.b x2) h
theorem Y27.t1_eq (J:JT) (Q:AV→AHeap→Prop) (x2:Bool) (h:AHeap):Y27.t1 J Q x2 h=atJ prog C 38 J false [1,1,1,1,1,1] Y27.ann Y27.body [(2,(AV.b x2))] h (kFun prog Tryz.f6 Q):=by kernel_rfl
theorem Y27.i1 {Q:AV→AHeap→Prop} {x2:Bool} {h:AHeap} (H:Y27.t1 (Y27.J Q) Q x2 h):Y27.p1 Q x2 h:=Y27.goR (k:=2) (p:=[1,1,1,1,1,1]) (by kernel_rfl) ((Y27.t1_eq (Y27.J Q) Q x2 h).mp H)
def Y27.t (J:JT) (Q:AV→AHeap→Prop) (x0:AV) (h:AHeap):Prop:=
pBox (some 25) x0 h fun v0 h1=>
pLoadN 8 v0 h1 fun v3=>
C Y21.id [v3] h1 fun v4 h5=>
asB v4 fun c6=>
(bif (!c6) then
(C Y37.id [] h5 fun v8 h9=>
asB v8 fun c10=>
Q (AV.b c10) h9)
else
(pLoadN 8 v0 h5 fun v13=>
C Y4.id [v13] h5 fun v14 h15=>
pExtract 0 v14 fun v16=>
asS v16 fun l17=>
pExtract 1 v14 fun v18=>
asI .i64 v18 fun n19=>
(bif (!decide ((n19:Int)=0)) then
((bif (decide ((l17:List UInt8)=[])) then
(C Y37.id [] h15 fun v22 h23=>
asB v22 fun c24=>
J 1 [(2,(AV.b c24))] h23)
else
(J 1 [(2,(AV.b false))] h15)))
else
(C Y30.id [(AV.s l17)] h15 fun v28 h29=>
pExtract 0 v28 fun v30=>
pExtract 1 v28 fun v31=>
asI .i64 v31 fun n32=>
pAlloc (some 25) [(AV.s []),(AV.s []),(AV.s []),(AV.i .i64 0),(AV.i .i64 0),(AV.sl none 0 none),(AV.b false),(AV.s [])] h29 fun v33 h34=>
pStore 8 v33 v30 h34 fun h35=>
(bif (decide ((n32:Int)=0)) then
(pLoadN 8 v0 h35 fun v37=>
pLoadN 8 v33 h35 fun v38=>
C Y22.id [v37,v38] h35 fun v39 h40=>
asB v39 fun c41=>
(bif c41 then
(C Y37.id [] h40 fun v42 h43=>
asB v42 fun c44=>
J 2 [(2,(AV.b c44))] h43)
else
(J 2 [(2,(AV.b false))] h40)))
else
(J 2 [(2,(AV.b false))] h35))))))
theorem Y27.t_eq (J:JT) (Q:AV→AHeap→Prop) (x0:AV) (h:AHeap):Y27.t J Q x0 h=exJ prog C 38 J Y27.ann Y27.body (initEnv 0 [x0]) h (kFun prog Tryz.f6 Q):=by kernel_rfl
theorem Y27.call {K:AV→AHeap→Prop} {x0:AV} {h:AHeap} (H:Y27.t (Y27.J (kRet h K)) (kRet h K) x0 h):C Y27.id [x0] h K:=
  callJ (P:=prog) (fn:=Tryz.f6) (ann:=Y27.ann) (body:=Y27.body) Tryz.func6 Y27.body_eq (by kernel_rfl) Y27.dist (by kernel_rfl) ((Y27.t_eq (Y27.J (kRet h K)) (kRet h K) x0 h).mp H)
end Go.Proofs.YtcdkpkkdolmfdaaGreatDoor
namespace Go.Proofs.YtcdkpkkdolmfdaaGreatDoor
open Go.GAM Go.RowKit Go.ChangeShapes
theorem roundTrip_c {c:Cert} {cs:List AV} {h:AHeap} (G:CG2 h) (V:CV h c cs):C Y27.id [.ag cs] h Yes:=by
  refine Y27.call ?_
  simp only [Y27.t,Y27.j0,Y27.j1]
  refine st_boxN V.len rfl fun h1 hl1 U1 R1=>?_
  have R1:RecAt h1 h.length cs:=R1
  have V1:=V.ext U1
  have G1:=G.up U1
  refine st_loadN R1 V.len.symm (lawSmall_c V1 (st_asB ?_))
  refine bif_both (fun e=>awake_c G1 fun h' _=>st_asB kRet_yes) fun e=>?_
  have hs:smallB c=true:=by simpa using e
  have sm:=small_sm hs
  obtain ⟨f,u,hfu⟩:=times_ex c
  refine st_loadN R1 V.len.symm (certBuild_c G1 V1 (BOK.of sm hfu) ?_)
  cases hb:buildS c f u with
  | error e =>
    refine st_ext0 (st_asS (st_ext1 (st_asI (bif_t (by simp [build_zero hb]) (bif_t (by simp) (awake_c G1 fun h' _=>st_asB ?_))))))
    refine Y27.i0 ?_
    simp only [Y27.t0]
    exact kRet_yes
  | ok l =>
    have hc:checkE c=0:=by
      unfold buildS at hb
      split at hb
      · cases hb
      · rename_i hx; simpa using hx
    obtain ⟨hf,hu⟩:=hfu hc
    have hp:=round hf hu hb
    refine st_ext0 (st_asS (st_ext1 (st_asI (bif_f rfl (parse_c G1 ?_)))))
    rw [hp]
    intro cs2 h2 U2 V2
    refine st_ext0 (st_ext1 (st_asI (st_allocN (n:=8) rfl fun h3 hl3 U3 R3=>st_storeN R3 rfl V2.len V2.ok fun h4 hl4 U4 R4=>?_)))
    have U24:Upd (fun _=>False) h2 h4:=U3.own U4 (Nat.le_refl _)
    have U14:=U2.then U24
    refine bif_t rfl (st_loadN (R1.upd U14 fun h=>h) V.len.symm (st_loadN R4 V2.len.symm ?_))
    refine Rsame_c (V1.ext U14) (V2.ext U24) (by have:=sm.n; omega) (st_asB (bif_t rfl (awake_c (G1.up U14) fun h' _=>st_asB ?_)))
    refine Y27.i1 ?_
    simp only [Y27.t1]
    exact kRet_yes
theorem walk_CertificateRoundTrip {H:Type} {enc:TypeId × Value→H} {v0:Value} {d0:DataW H} {p0:List MemPlace} (W:World) (hL:laidMet Tryz.prog Rows.certificateRoundTripRow.laid W) (k0:DataW.Trod enc Tryz.prog W 0 (fun _=>true) true 25 v0 d0 p0) :
    Calls Tryz.prog Y27.id #[v0] W fun e w'=>e = .returned (.bool true)∧Below W.heap.size W w':=by
  obtain ⟨cs,c,hv,hq⟩:=cert_arg k0
  exact law_callsAt mixedOK sizeOK (soundX (tab_ok (l:=Rows.certificateRoundTripRow.laid) (List.mem_of_getElem? (i:=2) rfl) hL)) (by kernel_rfl) (szOf:=fun _=>1) (.cons _ _ _ _ hv .nil)
    (roundTrip_c (cg2_of (l:=Rows.certificateRoundTripRow.laid) (List.mem_of_getElem? (i:=5) rfl) (List.mem_of_getElem? (i:=4) rfl) (List.mem_of_getElem? (i:=6) rfl) (List.mem_of_getElem? (i:=9) rfl) (List.mem_of_getElem? (i:=11) rfl) (List.mem_of_getElem? (i:=7) rfl) (List.mem_of_getElem? (i:=13) rfl) (List.mem_of_getElem? (i:=10) rfl) (List.mem_of_getElem? (i:=12) rfl) (List.mem_of_getElem? (i:=8) rfl) hL) hq)
end Go.Proofs.YtcdkpkkdolmfdaaGreatDoor
