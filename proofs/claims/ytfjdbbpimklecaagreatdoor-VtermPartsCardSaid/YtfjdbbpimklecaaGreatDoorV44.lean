/- A part of this seat's proofs, by an abstract machine. Conditions: each law's. -/
import Derived.Test.YtfjdbbpimklecaaGreatDoorV41
import Derived.Test.YtfjdbbpimklecaaGreatDoorV43
import Derived.Test.YtfjdbbpimklecaaGreatDoorV31
import Derived.Test.YtfjdbbpimklecaaGreatDoorRows
import Derived.Test.YtfjdbbpimklecaaGreatDoorV37
import Derived.Test.YtfjdbbpimklecaaGreatDoorV34
set_option maxHeartbeats 40000000
set_option maxRecDepth 100000
namespace Go.Proofs.YtfjdbbpimklecaaGreatDoor
section
open Go.AM
attribute [local irreducible] zb
def JD(o:AOp):AOp:=⟨o.k,o.a,o.b,o.t.take 20⟩
theorem UT(o:AOp):(Qb (JD o)).length≤40:=by
 have d1:=QR (min o.a 9999+1)
 have d2:=QR (min o.b 9999+1)
 have d3:=QR o.a
 have hb:∀c:List UInt8,c.length=1→(byL o.a c).length≤40:=fun c hc=>by
  unfold byL
  split
  ·simp[hc]
  ·simp only[List.length_append,List.length_cons,List.length_nil,hc];omega
 unfold Qb JD
 simp only
 refine zx (Q:=fun s:List UInt8=>s.length≤40) (fun _=>by rw[List.length_take];omega) fun _=>zx (Q:=fun s:List UInt8=>s.length≤40) (fun _=>by simp only[List.length_append,List.length_cons,List.length_nil];omega) fun _=>?_
 refine zx (Q:=fun s:List UInt8=>s.length≤40) (fun _=>by simp) fun _=>zx (Q:=fun s:List UInt8=>s.length≤40) (fun _=>by simp) fun _=>zx (Q:=fun s:List UInt8=>s.length≤40) (fun _=>by simp) fun _=>zx (Q:=fun s:List UInt8=>s.length≤40) (fun _=>by simp) fun _=>zx (Q:=fun s:List UInt8=>s.length≤40) (fun _=>by simp) fun _=>?_
 exact zx (Q:=fun s:List UInt8=>s.length≤40) (fun _=>hb _ rfl) fun _=>zx (Q:=fun s:List UInt8=>s.length≤40) (fun _=>hb _ rfl) fun _=>zx (Q:=fun s:List UInt8=>s.length≤40) (fun _=>hb _ rfl) fun _=>zx (Q:=fun s:List UInt8=>s.length≤40) (fun _=>hb _ rfl) fun _=>by simp
def ptA(l:List AOp)(m:Nat):Nat→List UInt8
 |0=>[]
 |i+1=>if i<m then ptA l m i++Qb (JD (l.getD i ⟨0,0,0,[]⟩))else ptA l m i
def ptB(l:List AOp)(m:Nat):Nat→List UInt8
 |0=>[]
 |i+1=>if i<m then ptB l m i else ptB l m i++Qb (JD (l.getD i ⟨0,0,0,[]⟩))
theorem YC(l:List AOp)(m:Nat):∀i,(ptA l m i).length≤40*i
 |0=>by simp[ptA]
 |i+1=>by
  have:=YC l m i
  have h:=UT (l.getD i ⟨0,0,0,[]⟩)
  unfold ptA
  split
  ·rw[List.length_append];omega
  ·omega
theorem JS(l:List AOp)(m:Nat):∀i,(ptB l m i).length≤40*i
 |0=>by simp[ptB]
 |i+1=>by
  have:=JS l m i
  have h:=UT (l.getD i ⟨0,0,0,[]⟩)
  unfold ptB
  split
  ·omega
  ·rw[List.length_append];omega
theorem zjb:∃k n,∀j,elemAt [] j=PV.int k n:=⟨_,_,fun j=>(show elemAt [] j=default by simp[elemAt]).trans rfl⟩
theorem Ko [Gi](hD:∀b arr, @Gi.val doorGi b=some arr→Gi.val b=some arr)(hE:xm)(rows cols k:Int)(l:List AOp)(hl:∀o∈l,o.ok):CR Tryz.prog 8 [] [.p (.int .i64 rows),.p (.int .i64 cols),.p (vD l),.p (.int .i64 k)] [] (is (.p (.bool true))):=by
 obtain⟨m1,hm1,e1⟩:=zeS rows 7 (by omega)
 obtain⟨m2,hm2,e2⟩:=zeS cols 15 (by omega)
 obtain⟨m,hm,e3⟩:=zeS k 15 (by omega)
 simp[go_sem]at e1 e2 e3
 obtain⟨R,hR⟩:∃R:Nat,R=1+m1:=⟨_,rfl⟩
 obtain⟨C,hC⟩:∃C:Nat,C=2+m2:=⟨_,rfl⟩
 have wR:IntKind.i64.wrap (1+(m1:Int))=(R:Int):=by rw[wrap64 (by omega) (by omega)];omega
 have wC:IntKind.i64.wrap (2+(m2:Int))=(C:Int):=by rw[wrap64 (by omega) (by omega)];omega
 have aw:=wY hE
 refine walk Tryz.func8 22 [] [] [] ?_
 simp (maxSteps:=1000000) [go_sem,Tryz.f8,e1,e2,wR,wC,vD]
 refine xU 0 (fun _:Unit=>True) (fun _=>[(9,.p (.str (ptA l m (min l.length 30)))),(10,.p (.str (ptB l m (min l.length 30)))),(11,.p (.int .i64 (min l.length 30:Nat))),(12,.zK)]) (fun _=>[]) ?_ ?_
 ·refine loop (fun i:Nat=>i≤min l.length 30) (fun i=>[(9,.p (.str (ptA l m i))),(10,.p (.str (ptB l m i))),(11,.p (.int .i64 i)),(12,.zK)]) (fun i=>[]) (fun i=>30-i) 0 (Nat.zero_le _) (fun i hi=>?_) (h0:=by simp[go_sem,LeS,leV,leR,leA,ptA,ptB])
  have la:=YC l m i
  have lb:=JS l m i
  have sa:ptA l m (i+1)=if i<m then ptA l m i++Qb (JD (l.getD i ⟨0,0,0,[]⟩))else ptA l m i:=rfl
  have sb:ptB l m (i+1)=if i<m then ptB l m i else ptB l m i++Qb (JD (l.getD i ⟨0,0,0,[]⟩)):=rfl
  have w1:IntKind.i64.wrap ((i:Int)+1)=((i+1:Nat):Int):=qD (by omega)
  by_cases d:i<l.length
  ·by_cases d30:i<30
   ·have em:elemAt (l.map opP) i=opP (l.getD i ⟨0,0,0,[]⟩):=by
     rw[zu opP l i d,List.getD_eq_getElem?_getD,List.getElem?_eq_getElem d];rfl
    have ho:(l.getD i ⟨0,0,0,[]⟩).ok:=by
     rw[List.getD_eq_getElem?_getD,List.getElem?_eq_getElem d]
     exact hl _ (List.getElem_mem d)
    have pl:=UT (l.getD i ⟨0,0,0,[]⟩)
    have rp:=zkf hD (zgx (JD (l.getD i ⟨0,0,0,[]⟩)) ho.1 ho.2)
    have d30':(i:Int)<30:=by omega
    generalize Qb (JD (l.getD i ⟨0,0,0,[]⟩))=S at*
    generalize l.getD i ⟨0,0,0,[]⟩=o at em rp
    obtain⟨ok,oa,ob,ot⟩:=o
    simp only[JD,opP]at rp em
    generalize ptA l m i=A at*
    generalize ptB l m i=B at*
    simp (maxSteps:=1000000) [go_sem,d,d30',em]
    refine Zn (fun _:Unit=>True) (fun _=>[]) (fun _=>[([12],[.p (.int .i64 ok),.p (.int .i64 oa),.p (.int .i64 ob),.p (.str (ot.take 20))])]) ?_ ?_
    ·by_cases q:20<ot.length
     ·have q':(20:Int)<ot.length:=by omega
      have ec:AM.cut ot 0 20=ot.take 20:=by unfold AM.cut;simp
      simp (maxSteps:=1000000) [go_sem,q',ec]
      exact⟨by omega,zR () trivial (by simp[go_sem])⟩
     ·have q':¬(20:Int)<ot.length:=by omega
      have ec:ot.take 20=ot:=List.take_of_length_le (by omega)
      simp (maxSteps:=1000000) [go_sem,q']
      exact zR () trivial (by simp[go_sem,ec])
    ·rintro _ ts _
     by_cases q:i<m
     ·rw[if_pos q]at sa sb
      have q':(i:Int)<m:=by omega
      simp (maxSteps:=1000000) [go_sem,e3,q']
      refine zD rp ?_
      simp (maxSteps:=1000000) [go_sem,w1]
      refine⟨by omega,?_⟩
      exact next (i+1) (by omega) (h3:=by show 30- (i+1)<30-i;omega) (h2:=by simp[go_sem,LeS,leV,leR,leA,sa,sb])
     ·rw[if_neg q]at sa sb
      have q':¬(i:Int)<m:=by omega
      simp (maxSteps:=1000000) [go_sem,e3,q']
      refine zD rp ?_
      simp (maxSteps:=1000000) [go_sem,w1]
      refine⟨by omega,?_⟩
      exact next (i+1) (by omega) (h3:=by show 30- (i+1)<30-i;omega) (h2:=by simp[go_sem,LeS,leV,leR,leA,sa,sb])
   ·have d30':¬(i:Int)<30:=by omega
    have ei:min l.length 30=i:=by omega
    simp (maxSteps:=1000000) [go_sem,d,d30']
    exact ZY () trivial (by simp[go_sem,ei])
  ·have ei:min l.length 30=i:=by omega
   simp (maxSteps:=1000000) [go_sem,d]
   exact ZY () trivial (by simp[go_sem,ei])
 ·rintro _ ts _
  have la:=YC l m (min l.length 30)
  have lb:=JS l m (min l.length 30)
  have hmin:min l.length 30≤30:=by omega
  generalize min l.length 30=n at*
  generalize ptA l m n=A at*
  generalize ptB l m n=B at*
  have tA:=YF A (by omega)
  have tB:=YF B (by omega)
  rcases hTA:tkL A with ⟨MA,pA,eA⟩
  rcases hTB:tkL B with ⟨MB,pB,eB⟩
  rw[hTA]at tA
  rw[hTB]at tB
  simp only[vD]at tA tB
  simp (maxSteps:=1000000) [go_sem]
  refine zD tA ?_
  simp (maxSteps:=1000000) [go_sem]
  refine zD tB ?_
  have lA:=Vp A
  have lB:=Vp B
  have rA:=VA A
  have rB:=VA B
  rw[hTA]at lA rA
  rw[hTB]at lB rB
  simp only at lA lB rA rB
  have ok0:=Ys R C (by omega) (by omega)
  have ok1:=Qz (by omega) ok0 A
  obtain⟨k0,n0,el0⟩:=zjb
  rcases List.eq_nil_or_concat MA with hM|⟨M1,x,hM⟩
  ·subst hM
   cases MB with
   |nil=>
    by_cases qA:eA=0
    ·by_cases qB:eB=0
     ·have pA0:pA=0:=by
       rcases rA with h|h
       ·exact h.2
       ·exact absurd (h.1.symm.trans qA) (by decide)
      have pB0:pB=0:=by
       rcases rB with h|h
       ·exact h.2
       ·exact absurd (h.1.symm.trans qB) (by decide)
      subst qA;subst qB;subst pA0;subst pB0
      clear rA rB
      have hP:=jc (R:=R) (C:=C) (t:=Zj R C) hTA hTB (fun _ _ h=>by cases h)
      obtain⟨T,hW⟩:∃T,zU R C (Zj R C) (A++B)=T:=⟨_,rfl⟩
      rw[hW]at hP
      have okT:=Qz (by omega) ok0 (A++B)
      rw[hW]at okT
      have hTl:T.l.length≤1000000:=by
       rw[okT.hl]
       have:R*C≤8*17:=Nat.mul_le_mul (by omega) (by omega)
       omega
      simp (maxSteps:=1000000) [go_sem,el0]
      refine zD yM ?_
      simp (maxSteps:=1000000) [go_sem]
      refine call [] Ql ?_
      rintro _ _ ⟨rfl,e,rfl,hT⟩
      obtain⟨z0,y0,rfl⟩:∃z y,e=.pt z y:=by
       obtain⟨c,b,j,f,p,_,rfl⟩:=hT
       exact⟨_,_,rfl⟩
      have wr1:=qM hE hT R C (Zj R C) A (by omega) (by omega) ok0 (by omega) (by omega)
      have wr2:=qM hE hT R C (zU R C (Zj R C) A) B (by omega) (by omega) ok1 (by omega) (by omega)
      have wr3:=qM hE hT R C (Zj R C) (A++B) (by omega) (by omega) ok0 (by omega) (by rw[List.length_append];omega)
      rw[hP]at wr2
      rw[hW]at wr3
      have s1:=ZF (.pt z0 y0) R C T (by omega) (by omega) okT.hl
      have sm:=kM R C T.l T.r T.c hTl
      have bl:=xp (.pt z0 y0) R C T
      unfold wO ZJ at s1 sm
      generalize qQ T.l=G at s1 sm
      generalize zU R C (Zj R C) A=T1 at wr1 wr2
      simp (maxSteps:=1000000) [go_sem]
      refine call [([0],[20]),([1],[20,1]),([2],[20,2])] (Qj (.pt z0 y0) ⟨_,_,rfl⟩ R C (by omega) (by omega)) ?_
      rintro _ _ ⟨rfl,rfl⟩
      simp (maxSteps:=1000000) [go_sem,vt,zf]
      refine call [([0],[21]),([1],[21,1]),([2],[21,2])] (Qj (.pt z0 y0) ⟨_,_,rfl⟩ R C (by omega) (by omega)) ?_
      rintro _ _ ⟨rfl,rfl⟩
      simp (maxSteps:=1000000) [go_sem,vt,zf,zd]
      refine call [([0],[20]),([1],[20,1]),([2],[20,2])] wr1 ?_ (hr:=by simp[go_sem,vt,zf])
      rintro _ _ ⟨rfl,rfl⟩
      simp (maxSteps:=1000000) [go_sem,vt,zf,zd]
      refine call [([0],[20]),([1],[20,1]),([2],[20,2])] wr2 ?_ (hr:=by simp[go_sem,vt,zf])
      rintro _ _ ⟨rfl,rfl⟩
      simp (maxSteps:=1000000) [go_sem,vt,zf,zd]
      refine⟨by omega,call [([0],[21]),([1],[21,1]),([2],[21,2])] wr3 ?_ (hr:=by simp[go_sem,vt,zf])⟩
      rintro _ _ ⟨rfl,rfl⟩
      simp (maxSteps:=1000000) [go_sem,vt,zf,zd]
      refine call [([0],[20]),([1],[20,1]),([1,1],[20,2])] s1 ?_ (hr:=by simp[go_sem,vtS,zf])
      rintro _ _ ⟨rfl,rfl⟩
      simp (maxSteps:=1000000) [go_sem,vtS,zf,zd]
      refine call [([0],[21]),([1],[21,1]),([1,1],[21,2])] s1 ?_ (hr:=by simp[go_sem,vtS,zf])
      rintro _ _ ⟨rfl,rfl⟩
      simp (maxSteps:=1000000) [go_sem,vtS,zf,zd]
      refine zD sm ?_
      simp (maxSteps:=1000000) [go_sem,zd]
      refine call [([0],[20]),([1],[20,1]),([2],[20,2])] bl ?_ (hr:=by simp[go_sem,vt,zf])
      rintro _ _ ⟨rfl,rfl⟩
      simp (maxSteps:=1000000) [go_sem,vt,zf,zd]
      refine call [([0],[21]),([1],[21,1]),([2],[21,2])] bl ?_ (hr:=by simp[go_sem,vt,zf])
      rintro _ _ ⟨rfl,rfl⟩
      simp (maxSteps:=1000000) [go_sem,vt,zf,zd]
      refine zD aw ?_
      simp (maxSteps:=1000000) [go_sem]
      exact ret
     ·simp (maxSteps:=1000000) [go_sem,el0,qA,qB]
      refine zD aw ?_
      simp (maxSteps:=1000000) [go_sem]
      exact ret
    ·simp (maxSteps:=1000000) [go_sem,el0,qA]
     refine zD aw ?_
     simp (maxSteps:=1000000) [go_sem]
     exact ret
   |cons y O1=>
    have em2:elemAt ((y::O1).map opP) 0=.agg [.int .i64 y.k,.int .i64 y.a,.int .i64 y.b,.str y.t]:=rfl
    have hlB:((y::O1).map opP).length=O1.length+1:=by simp
    generalize hOB:(y::O1).map opP=OB at em2 hlB⊢
    by_cases qA:eA=0
    ·by_cases qB:eB=0
     ·have pA0:pA=0:=by
       rcases rA with h|h
       ·exact h.2
       ·exact absurd (h.1.symm.trans qA) (by decide)
      have pB0:pB=0:=by
       rcases rB with h|h
       ·exact h.2
       ·exact absurd (h.1.symm.trans qB) (by decide)
      subst qA;subst qB;subst pA0;subst pB0
      clear rA rB
      have hP:=jc (R:=R) (C:=C) (t:=Zj R C) hTA hTB (fun _ _ h=>by cases h)
      obtain⟨T,hW⟩:∃T,zU R C (Zj R C) (A++B)=T:=⟨_,rfl⟩
      rw[hW]at hP
      have okT:=Qz (by omega) ok0 (A++B)
      rw[hW]at okT
      have hTl:T.l.length≤1000000:=by
       rw[okT.hl]
       have:R*C≤8*17:=Nat.mul_le_mul (by omega) (by omega)
       omega
      simp (maxSteps:=1000000) [go_sem,el0,em2,hlB]
      refine zD yM ?_
      simp (maxSteps:=1000000) [go_sem]
      refine call [] Ql ?_
      rintro _ _ ⟨rfl,e,rfl,hT⟩
      obtain⟨z0,y0,rfl⟩:∃z y,e=.pt z y:=by
       obtain⟨c,b,j,f,p,_,rfl⟩:=hT
       exact⟨_,_,rfl⟩
      have wr1:=qM hE hT R C (Zj R C) A (by omega) (by omega) ok0 (by omega) (by omega)
      have wr2:=qM hE hT R C (zU R C (Zj R C) A) B (by omega) (by omega) ok1 (by omega) (by omega)
      have wr3:=qM hE hT R C (Zj R C) (A++B) (by omega) (by omega) ok0 (by omega) (by rw[List.length_append];omega)
      rw[hP]at wr2
      rw[hW]at wr3
      have s1:=ZF (.pt z0 y0) R C T (by omega) (by omega) okT.hl
      have sm:=kM R C T.l T.r T.c hTl
      have bl:=xp (.pt z0 y0) R C T
      unfold wO ZJ at s1 sm
      generalize qQ T.l=G at s1 sm
      generalize zU R C (Zj R C) A=T1 at wr1 wr2
      simp (maxSteps:=1000000) [go_sem]
      refine call [([0],[20]),([1],[20,1]),([2],[20,2])] (Qj (.pt z0 y0) ⟨_,_,rfl⟩ R C (by omega) (by omega)) ?_
      rintro _ _ ⟨rfl,rfl⟩
      simp (maxSteps:=1000000) [go_sem,vt,zf]
      refine call [([0],[21]),([1],[21,1]),([2],[21,2])] (Qj (.pt z0 y0) ⟨_,_,rfl⟩ R C (by omega) (by omega)) ?_
      rintro _ _ ⟨rfl,rfl⟩
      simp (maxSteps:=1000000) [go_sem,vt,zf,zd]
      refine call [([0],[20]),([1],[20,1]),([2],[20,2])] wr1 ?_ (hr:=by simp[go_sem,vt,zf])
      rintro _ _ ⟨rfl,rfl⟩
      simp (maxSteps:=1000000) [go_sem,vt,zf,zd]
      refine call [([0],[20]),([1],[20,1]),([2],[20,2])] wr2 ?_ (hr:=by simp[go_sem,vt,zf])
      rintro _ _ ⟨rfl,rfl⟩
      simp (maxSteps:=1000000) [go_sem,vt,zf,zd]
      refine⟨by omega,call [([0],[21]),([1],[21,1]),([2],[21,2])] wr3 ?_ (hr:=by simp[go_sem,vt,zf])⟩
      rintro _ _ ⟨rfl,rfl⟩
      simp (maxSteps:=1000000) [go_sem,vt,zf,zd]
      refine call [([0],[20]),([1],[20,1]),([1,1],[20,2])] s1 ?_ (hr:=by simp[go_sem,vtS,zf])
      rintro _ _ ⟨rfl,rfl⟩
      simp (maxSteps:=1000000) [go_sem,vtS,zf,zd]
      refine call [([0],[21]),([1],[21,1]),([1,1],[21,2])] s1 ?_ (hr:=by simp[go_sem,vtS,zf])
      rintro _ _ ⟨rfl,rfl⟩
      simp (maxSteps:=1000000) [go_sem,vtS,zf,zd]
      refine zD sm ?_
      simp (maxSteps:=1000000) [go_sem,zd]
      refine call [([0],[20]),([1],[20,1]),([2],[20,2])] bl ?_ (hr:=by simp[go_sem,vt,zf])
      rintro _ _ ⟨rfl,rfl⟩
      simp (maxSteps:=1000000) [go_sem,vt,zf,zd]
      refine call [([0],[21]),([1],[21,1]),([2],[21,2])] bl ?_ (hr:=by simp[go_sem,vt,zf])
      rintro _ _ ⟨rfl,rfl⟩
      simp (maxSteps:=1000000) [go_sem,vt,zf,zd]
      refine zD aw ?_
      simp (maxSteps:=1000000) [go_sem]
      exact ret
     ·simp (maxSteps:=1000000) [go_sem,el0,em2,hlB,qA,qB]
      refine zD aw ?_
      simp (maxSteps:=1000000) [go_sem]
      exact ret
    ·simp (maxSteps:=1000000) [go_sem,el0,em2,hlB,qA]
     refine zD aw ?_
     simp (maxSteps:=1000000) [go_sem]
     exact ret
  ·have hn1:MA.length=M1.length+1:=by rw[hM];simp
   have em1:elemAt (MA.map opP) M1.length=.agg [.int .i64 x.k,.int .i64 x.a,.int .i64 x.b,.str x.t]:=by
    rw[zu opP MA _ (by omega)]
    subst hM
    simp[opP]
   have hlast:MA.getLast?=some x:=by rw[hM];simp
   have wl:IntKind.i64.wrap (M1.length:Int)=(M1.length:Int):=wrap64 (by omega) (by omega)
   clear hM
   generalize M1.length=n1 at hn1 em1 wl
   have nlt:(n1:Int)< (n1:Int)+1:=by omega
   cases MB with
   |nil=>
    by_cases qA:eA=0
    ·by_cases qB:eB=0
     ·have pA0:pA=0:=by
       rcases rA with h|h
       ·exact h.2
       ·exact absurd (h.1.symm.trans qA) (by decide)
      have pB0:pB=0:=by
       rcases rB with h|h
       ·exact h.2
       ·exact absurd (h.1.symm.trans qB) (by decide)
      subst qA;subst qB;subst pA0;subst pB0
      clear rA rB
      have hP:=jc (R:=R) (C:=C) (t:=Zj R C) hTA hTB (fun _ _ _ h=>by cases h)
      obtain⟨T,hW⟩:∃T,zU R C (Zj R C) (A++B)=T:=⟨_,rfl⟩
      rw[hW]at hP
      have okT:=Qz (by omega) ok0 (A++B)
      rw[hW]at okT
      have hTl:T.l.length≤1000000:=by
       rw[okT.hl]
       have:R*C≤8*17:=Nat.mul_le_mul (by omega) (by omega)
       omega
      simp (maxSteps:=1000000) [go_sem,hn1,em1,wl,nlt,el0]
      refine zD yM ?_
      simp (maxSteps:=1000000) [go_sem]
      refine call [] Ql ?_
      rintro _ _ ⟨rfl,e,rfl,hT⟩
      obtain⟨z0,y0,rfl⟩:∃z y,e=.pt z y:=by
       obtain⟨c,b,j,f,p,_,rfl⟩:=hT
       exact⟨_,_,rfl⟩
      have wr1:=qM hE hT R C (Zj R C) A (by omega) (by omega) ok0 (by omega) (by omega)
      have wr2:=qM hE hT R C (zU R C (Zj R C) A) B (by omega) (by omega) ok1 (by omega) (by omega)
      have wr3:=qM hE hT R C (Zj R C) (A++B) (by omega) (by omega) ok0 (by omega) (by rw[List.length_append];omega)
      rw[hP]at wr2
      rw[hW]at wr3
      have s1:=ZF (.pt z0 y0) R C T (by omega) (by omega) okT.hl
      have sm:=kM R C T.l T.r T.c hTl
      have bl:=xp (.pt z0 y0) R C T
      unfold wO ZJ at s1 sm
      generalize qQ T.l=G at s1 sm
      generalize zU R C (Zj R C) A=T1 at wr1 wr2
      simp (maxSteps:=1000000) [go_sem]
      refine call [([0],[20]),([1],[20,1]),([2],[20,2])] (Qj (.pt z0 y0) ⟨_,_,rfl⟩ R C (by omega) (by omega)) ?_
      rintro _ _ ⟨rfl,rfl⟩
      simp (maxSteps:=1000000) [go_sem,vt,zf]
      refine call [([0],[21]),([1],[21,1]),([2],[21,2])] (Qj (.pt z0 y0) ⟨_,_,rfl⟩ R C (by omega) (by omega)) ?_
      rintro _ _ ⟨rfl,rfl⟩
      simp (maxSteps:=1000000) [go_sem,vt,zf,zd]
      refine call [([0],[20]),([1],[20,1]),([2],[20,2])] wr1 ?_ (hr:=by simp[go_sem,vt,zf])
      rintro _ _ ⟨rfl,rfl⟩
      simp (maxSteps:=1000000) [go_sem,vt,zf,zd]
      refine call [([0],[20]),([1],[20,1]),([2],[20,2])] wr2 ?_ (hr:=by simp[go_sem,vt,zf])
      rintro _ _ ⟨rfl,rfl⟩
      simp (maxSteps:=1000000) [go_sem,vt,zf,zd]
      refine⟨by omega,call [([0],[21]),([1],[21,1]),([2],[21,2])] wr3 ?_ (hr:=by simp[go_sem,vt,zf])⟩
      rintro _ _ ⟨rfl,rfl⟩
      simp (maxSteps:=1000000) [go_sem,vt,zf,zd]
      refine call [([0],[20]),([1],[20,1]),([1,1],[20,2])] s1 ?_ (hr:=by simp[go_sem,vtS,zf])
      rintro _ _ ⟨rfl,rfl⟩
      simp (maxSteps:=1000000) [go_sem,vtS,zf,zd]
      refine call [([0],[21]),([1],[21,1]),([1,1],[21,2])] s1 ?_ (hr:=by simp[go_sem,vtS,zf])
      rintro _ _ ⟨rfl,rfl⟩
      simp (maxSteps:=1000000) [go_sem,vtS,zf,zd]
      refine zD sm ?_
      simp (maxSteps:=1000000) [go_sem,zd]
      refine call [([0],[20]),([1],[20,1]),([2],[20,2])] bl ?_ (hr:=by simp[go_sem,vt,zf])
      rintro _ _ ⟨rfl,rfl⟩
      simp (maxSteps:=1000000) [go_sem,vt,zf,zd]
      refine call [([0],[21]),([1],[21,1]),([2],[21,2])] bl ?_ (hr:=by simp[go_sem,vt,zf])
      rintro _ _ ⟨rfl,rfl⟩
      simp (maxSteps:=1000000) [go_sem,vt,zf,zd]
      refine zD aw ?_
      simp (maxSteps:=1000000) [go_sem]
      exact ret
     ·simp (maxSteps:=1000000) [go_sem,hn1,em1,wl,nlt,el0,qA,qB]
      refine zD aw ?_
      simp (maxSteps:=1000000) [go_sem]
      exact ret
    ·simp (maxSteps:=1000000) [go_sem,hn1,em1,wl,nlt,el0,qA]
     refine zD aw ?_
     simp (maxSteps:=1000000) [go_sem]
     exact ret
   |cons y O1=>
    have em2:elemAt ((y::O1).map opP) 0=.agg [.int .i64 y.k,.int .i64 y.a,.int .i64 y.b,.str y.t]:=rfl
    have hlB:((y::O1).map opP).length=O1.length+1:=by simp
    generalize hOB:(y::O1).map opP=OB at em2 hlB⊢
    by_cases qA:eA=0
    ·by_cases qB:eB=0
     ·have pA0:pA=0:=by
       rcases rA with h|h
       ·exact h.2
       ·exact absurd (h.1.symm.trans qA) (by decide)
      have pB0:pB=0:=by
       rcases rB with h|h
       ·exact h.2
       ·exact absurd (h.1.symm.trans qB) (by decide)
      subst qA;subst qB;subst pA0;subst pB0
      clear rA rB
      by_cases qx:x.k=1
      ·by_cases qy:y.k=1
       ·simp (maxSteps:=1000000) [go_sem,hn1,em1,em2,hlB,wl,nlt,qx,qy]
        refine zD aw ?_
        simp (maxSteps:=1000000) [go_sem]
        exact ret
       ·have hc:∀a b,MA.getLast?=some a→(y::O1).head?=some b→¬(a.k=1∧b.k=1):=fun a b ha hb h=>by
         injection hb with hb
         exact qy (hb▸h.2)
        have hP:=jc (R:=R) (C:=C) (t:=Zj R C) hTA hTB hc
        obtain⟨T,hW⟩:∃T,zU R C (Zj R C) (A++B)=T:=⟨_,rfl⟩
        rw[hW]at hP
        have okT:=Qz (by omega) ok0 (A++B)
        rw[hW]at okT
        have hTl:T.l.length≤1000000:=by
         rw[okT.hl]
         have:R*C≤8*17:=Nat.mul_le_mul (by omega) (by omega)
         omega
        simp (maxSteps:=1000000) [go_sem,hn1,em1,em2,hlB,wl,nlt,qx,qy]
        refine zD yM ?_
        simp (maxSteps:=1000000) [go_sem]
        refine call [] Ql ?_
        rintro _ _ ⟨rfl,e,rfl,hT⟩
        obtain⟨z0,y0,rfl⟩:∃z y,e=.pt z y:=by
         obtain⟨c,b,j,f,p,_,rfl⟩:=hT
         exact⟨_,_,rfl⟩
        have wr1:=qM hE hT R C (Zj R C) A (by omega) (by omega) ok0 (by omega) (by omega)
        have wr2:=qM hE hT R C (zU R C (Zj R C) A) B (by omega) (by omega) ok1 (by omega) (by omega)
        have wr3:=qM hE hT R C (Zj R C) (A++B) (by omega) (by omega) ok0 (by omega) (by rw[List.length_append];omega)
        rw[hP]at wr2
        rw[hW]at wr3
        have s1:=ZF (.pt z0 y0) R C T (by omega) (by omega) okT.hl
        have sm:=kM R C T.l T.r T.c hTl
        have bl:=xp (.pt z0 y0) R C T
        unfold wO ZJ at s1 sm
        generalize qQ T.l=G at s1 sm
        generalize zU R C (Zj R C) A=T1 at wr1 wr2
        simp (maxSteps:=1000000) [go_sem]
        refine call [([0],[20]),([1],[20,1]),([2],[20,2])] (Qj (.pt z0 y0) ⟨_,_,rfl⟩ R C (by omega) (by omega)) ?_
        rintro _ _ ⟨rfl,rfl⟩
        simp (maxSteps:=1000000) [go_sem,vt,zf]
        refine call [([0],[21]),([1],[21,1]),([2],[21,2])] (Qj (.pt z0 y0) ⟨_,_,rfl⟩ R C (by omega) (by omega)) ?_
        rintro _ _ ⟨rfl,rfl⟩
        simp (maxSteps:=1000000) [go_sem,vt,zf,zd]
        refine call [([0],[20]),([1],[20,1]),([2],[20,2])] wr1 ?_ (hr:=by simp[go_sem,vt,zf])
        rintro _ _ ⟨rfl,rfl⟩
        simp (maxSteps:=1000000) [go_sem,vt,zf,zd]
        refine call [([0],[20]),([1],[20,1]),([2],[20,2])] wr2 ?_ (hr:=by simp[go_sem,vt,zf])
        rintro _ _ ⟨rfl,rfl⟩
        simp (maxSteps:=1000000) [go_sem,vt,zf,zd]
        refine⟨by omega,call [([0],[21]),([1],[21,1]),([2],[21,2])] wr3 ?_ (hr:=by simp[go_sem,vt,zf])⟩
        rintro _ _ ⟨rfl,rfl⟩
        simp (maxSteps:=1000000) [go_sem,vt,zf,zd]
        refine call [([0],[20]),([1],[20,1]),([1,1],[20,2])] s1 ?_ (hr:=by simp[go_sem,vtS,zf])
        rintro _ _ ⟨rfl,rfl⟩
        simp (maxSteps:=1000000) [go_sem,vtS,zf,zd]
        refine call [([0],[21]),([1],[21,1]),([1,1],[21,2])] s1 ?_ (hr:=by simp[go_sem,vtS,zf])
        rintro _ _ ⟨rfl,rfl⟩
        simp (maxSteps:=1000000) [go_sem,vtS,zf,zd]
        refine zD sm ?_
        simp (maxSteps:=1000000) [go_sem,zd]
        refine call [([0],[20]),([1],[20,1]),([2],[20,2])] bl ?_ (hr:=by simp[go_sem,vt,zf])
        rintro _ _ ⟨rfl,rfl⟩
        simp (maxSteps:=1000000) [go_sem,vt,zf,zd]
        refine call [([0],[21]),([1],[21,1]),([2],[21,2])] bl ?_ (hr:=by simp[go_sem,vt,zf])
        rintro _ _ ⟨rfl,rfl⟩
        simp (maxSteps:=1000000) [go_sem,vt,zf,zd]
        refine zD aw ?_
        simp (maxSteps:=1000000) [go_sem]
        exact ret
      ·have hc:∀a b,MA.getLast?=some a→(y::O1).head?=some b→¬(a.k=1∧b.k=1):=fun a b ha hb h=>by
        rw[hlast]at ha
        injection ha with ha
        exact qx (ha▸h.1)
       have hP:=jc (R:=R) (C:=C) (t:=Zj R C) hTA hTB hc
       obtain⟨T,hW⟩:∃T,zU R C (Zj R C) (A++B)=T:=⟨_,rfl⟩
       rw[hW]at hP
       have okT:=Qz (by omega) ok0 (A++B)
       rw[hW]at okT
       have hTl:T.l.length≤1000000:=by
        rw[okT.hl]
        have:R*C≤8*17:=Nat.mul_le_mul (by omega) (by omega)
        omega
       simp (maxSteps:=1000000) [go_sem,hn1,em1,em2,hlB,wl,nlt,qx]
       refine zD yM ?_
       simp (maxSteps:=1000000) [go_sem]
       refine call [] Ql ?_
       rintro _ _ ⟨rfl,e,rfl,hT⟩
       obtain⟨z0,y0,rfl⟩:∃z y,e=.pt z y:=by
        obtain⟨c,b,j,f,p,_,rfl⟩:=hT
        exact⟨_,_,rfl⟩
       have wr1:=qM hE hT R C (Zj R C) A (by omega) (by omega) ok0 (by omega) (by omega)
       have wr2:=qM hE hT R C (zU R C (Zj R C) A) B (by omega) (by omega) ok1 (by omega) (by omega)
       have wr3:=qM hE hT R C (Zj R C) (A++B) (by omega) (by omega) ok0 (by omega) (by rw[List.length_append];omega)
       rw[hP]at wr2
       rw[hW]at wr3
       have s1:=ZF (.pt z0 y0) R C T (by omega) (by omega) okT.hl
       have sm:=kM R C T.l T.r T.c hTl
       have bl:=xp (.pt z0 y0) R C T
       unfold wO ZJ at s1 sm
       generalize qQ T.l=G at s1 sm
       generalize zU R C (Zj R C) A=T1 at wr1 wr2
       simp (maxSteps:=1000000) [go_sem]
       refine call [([0],[20]),([1],[20,1]),([2],[20,2])] (Qj (.pt z0 y0) ⟨_,_,rfl⟩ R C (by omega) (by omega)) ?_
       rintro _ _ ⟨rfl,rfl⟩
       simp (maxSteps:=1000000) [go_sem,vt,zf]
       refine call [([0],[21]),([1],[21,1]),([2],[21,2])] (Qj (.pt z0 y0) ⟨_,_,rfl⟩ R C (by omega) (by omega)) ?_
       rintro _ _ ⟨rfl,rfl⟩
       simp (maxSteps:=1000000) [go_sem,vt,zf,zd]
       refine call [([0],[20]),([1],[20,1]),([2],[20,2])] wr1 ?_ (hr:=by simp[go_sem,vt,zf])
       rintro _ _ ⟨rfl,rfl⟩
       simp (maxSteps:=1000000) [go_sem,vt,zf,zd]
       refine call [([0],[20]),([1],[20,1]),([2],[20,2])] wr2 ?_ (hr:=by simp[go_sem,vt,zf])
       rintro _ _ ⟨rfl,rfl⟩
       simp (maxSteps:=1000000) [go_sem,vt,zf,zd]
       refine⟨by omega,call [([0],[21]),([1],[21,1]),([2],[21,2])] wr3 ?_ (hr:=by simp[go_sem,vt,zf])⟩
       rintro _ _ ⟨rfl,rfl⟩
       simp (maxSteps:=1000000) [go_sem,vt,zf,zd]
       refine call [([0],[20]),([1],[20,1]),([1,1],[20,2])] s1 ?_ (hr:=by simp[go_sem,vtS,zf])
       rintro _ _ ⟨rfl,rfl⟩
       simp (maxSteps:=1000000) [go_sem,vtS,zf,zd]
       refine call [([0],[21]),([1],[21,1]),([1,1],[21,2])] s1 ?_ (hr:=by simp[go_sem,vtS,zf])
       rintro _ _ ⟨rfl,rfl⟩
       simp (maxSteps:=1000000) [go_sem,vtS,zf,zd]
       refine zD sm ?_
       simp (maxSteps:=1000000) [go_sem,zd]
       refine call [([0],[20]),([1],[20,1]),([2],[20,2])] bl ?_ (hr:=by simp[go_sem,vt,zf])
       rintro _ _ ⟨rfl,rfl⟩
       simp (maxSteps:=1000000) [go_sem,vt,zf,zd]
       refine call [([0],[21]),([1],[21,1]),([2],[21,2])] bl ?_ (hr:=by simp[go_sem,vt,zf])
       rintro _ _ ⟨rfl,rfl⟩
       simp (maxSteps:=1000000) [go_sem,vt,zf,zd]
       refine zD aw ?_
       simp (maxSteps:=1000000) [go_sem]
       exact ret
     ·simp (maxSteps:=1000000) [go_sem,hn1,em1,em2,hlB,wl,nlt,qA,qB]
      refine zD aw ?_
      simp (maxSteps:=1000000) [go_sem]
      exact ret
    ·simp (maxSteps:=1000000) [go_sem,hn1,em1,em2,hlB,wl,nlt,qA]
     refine zD aw ?_
     simp (maxSteps:=1000000) [go_sem]
     exact ret
end
section
open Go.ChangeShapes Go.WideShapes Go.ChangeAt Go.RowKit Go.AM
theorem vK(os:Os)(started:os.Started)(H:Type)(enc:TypeId×Value→H):
  ReturnsInHanded {} Tryz.checked os 8 .any (fun w args=>(Rows.vtermPartsSpec.pre enc Tryz.prog Tryz.f8 [] false w args∧laidMetH Tryz.prog yd w)∧sizedMet enc Tryz.prog Tryz.f8 (OpenSpec.ofChange Rows.vtermPartsSpec) false w args)
   (Rows.vtermPartsSpec.post enc Tryz.prog Tryz.f8 false true false false):=by
 refine returnsInHanded_of_change_and (C:=Tryz.checked) (X:=fun w _=>laidMetH Tryz.prog yd w) (fun _ _ _ hh h=>h.of_heap hh) Tryz.own started (by kernel_rfl) Tryz.func8
  (ChangeSpec.witness_shaped (enc:=enc) (C:=Tryz.checked) (os:=os) (X:=fun w _=>laidMetH Tryz.prog yd w) false (World.laidAll Tryz.prog os yd) #[.int .i64 0,.int .i64 0,.slice none 0 0,.int .i64 0] 8 (World.laidAll_os _ _ _) (World.shaped_of_ZipB (by kernel_rfl) (by kernel_rfl)) (by kernel_rfl) (by kernel_rfl) (by kernel_rfl) (K1 os _)) ?_
 intro W base args ds gs before hval hW _ _ hL _
 obtain⟨te,pe,hgl⟩:=WY hL
 letI:Gi:=vGi te pe
 refine WN (C:=Tryz.checked) (Qs:=[fun x=>∃n,x=.int .i64 n∧ -9223372036854775808≤n∧n≤9223372036854775807,fun x=>∃n,x=.int .i64 n∧ -9223372036854775808≤n∧n≤9223372036854775807,fun x=>∃l:List AOp,(∀o∈l,o.ok)∧x=vD l,fun x=>∃n,x=.int .i64 n∧ -9223372036854775808≤n∧n≤9223372036854775807]) (tb:=4) Tryz.laidOut rfl (by kernel_rfl) rfl (by kernel_rfl) ?_ ?_ ?_ W base args ds gs before hval hW hgl
 ·intro ds h
  match ds,h with
  | [_,_,_,_],_=>rfl
 ·exact⟨yC (by kernel_rfl) fun W=>kn,yC (by kernel_rfl) fun W=>kn,yC (by kernel_rfl) fun W=>zbr,yC (by kernel_rfl) fun W=>kn,trivial⟩
 ·intro xs q
  rcases xs with _|⟨x1,_|⟨x2,_|⟨x3,_|⟨x4,_|⟨x5,xs⟩⟩⟩⟩⟩
  ·exact q.elim
  ·exact q.2.elim
  ·exact q.2.2.elim
  ·exact q.2.2.2.elim
  ·obtain⟨a0,rfl,h0⟩:=q.1
   obtain⟨a1,rfl,h1⟩:=q.2.1
   obtain⟨a2,h2,rfl⟩:=q.2.2.1
   obtain⟨a3,rfl,h3⟩:=q.2.2.2.1
   exact Ko (zfM te pe) (zcB te pe) a0 a1 a3 a2 h2
  ·exact q.2.2.2.2.elim
theorem vL:joinedFacts Tryz.pinned.checked.prog 8 Tryz.f8 Rows.vtermPartsSpec Rows.vtermPartsRow=true:=by
 simp only[joinedFacts,Bool.and_eq_true]
 repeat'(apply And.intro)
 all_goals as_aux_lemma=>kernel_rfl
theorem Ue:Rows.VtermPartsSaid:=
 OpenClaim.holds_of_wide 8 Tryz.f8 rfl rfl rfl rfl rfl rfl rfl ⟨rfl,rfl,rfl,rfl,rfl⟩ rfl rfl rfl rfl rfl (by kernel_rfl) Tryz.func8 vL
  (of_decide_eq_true (by kernel_rfl)) (by unfold Func.isWrapper;first|(rw[if_pos (by decide+kernel)];kernel_rfl)|(rw[if_neg (by decide+kernel)];exact⟨rfl,rfl⟩))
  (fun os started H enc _=>vK os started H enc)
end
end Go.Proofs.YtfjdbbpimklecaaGreatDoor
