/- A part of the proof of this seat's statements, by an abstract machine: what each operation does to values, and what the law's functions compute. Conditions: as each law says. -/
import Derived.Test.YtjefahhmkcfiiaaGreatN27
section
namespace Go.Proofs.YtjefahhmkcfiiaaGreat
open Go.AM
set_option maxHeartbeats 4000000
set_option maxRecDepth 10000
theorem ZN.num [Gi] {l:List Row} {k:Int}(h:ZN l k)(hn:l.length<2^31):CR Tryz.prog 65 [] [.p (zC l),.p (.int .i64 k)] [] (fun x rs=>rs=[]∧∃e,x=.p e∧ye 1 1114112 (fun j=>[.int .i64 (qN 0 j ((qj l k).map QU))]) e):=
 zdY l k h.rise h.b hn h.n h.nJ (fun s hs=>by
  have:=h.bJ s hs
  have:=h.riseJ.le s hs
  omega)
def zmg:OT:=.now 0 0 (.now 1 0 (.now 2 0 (.now 3 0 (.now 4 0 (.now 5 0 (.now 6 0 (.now 7 0 (.now 8 0 (.now 9 2 (.now 11 2 (.mk [(10,.mk [(12,.now 13 0 (.mk [(14,.mk [(15,.now 16 0 (.mk [(17,.mk [])]))])]))]),(12,.now 13 0 (.mk [(10,.mk [(14,.mk [(15,.now 16 0 (.mk [(17,.mk [])]))])]),(14,.now 10 0 (.mk [(15,.now 16 0 (.mk [(17,.mk [])]))]))]))])))))))))))
def zkh:OT:=.now 0 0 (.now 1 0 (.now 2 0 (.now 3 0 (.now 4 0 (.now 5 0 (.now 6 0 (.now 7 0 (.now 8 0 (.now 9 0 (.now 10 0 (.mk [])))))))))))
def jx(s:Span):QC Za:=⟨s.f,s.t,⟨s.a,s.b⟩⟩
def Ze(l:List Row):zR where
 cls i:=qN 0 i ((qj l 1).map QU)
 brk i:=qN 0 i ((qj l 4).map QU)
 cnj i:=qN 0 i ((qj l 6).map QU)
 flg i:=Ql (qj l 5) (qj l 7) (qj l 8) (qj l 3) i
 par i:=qN ⟨0,0⟩ i ((qj l 2).map jx)
def Z9(K:List Int):List PV:=K.map fun k=>.int .i32 k
theorem zc7(K:List Int):(Z9 K).all (fun k=>okC [.i .i32] k.cells)=true:=by
 simp[Z9,okC,PV.cells]
theorem zam(K:List Int):∀x:PV,x∈Z9 K→(match x with|.agg _=>true|_=>false)=false∧okC [.i .i32] (match x with|.agg cs=>cs|x=>[x])=true:=fun x h=>by
 obtain⟨d,_,rfl⟩:=List.mem_map.1 h;exact⟨rfl,rfl⟩
theorem zfg(c:Int)(K:List Int):(qM [.int .i32 c] (Z9 K) (qm K) 0=none∧yj c K=K++[c])∨∃j,qM [.int .i32 c] (Z9 K) (qm K) 0=some (j,.bool true)∧yj c K=K∧(qm K).set j (.bool true)=qm K∧j< (qm K).length:=by
 have hn:=jZ (kc:=[.i .i32]) (key:=[.int .i32 c]) rfl (ks:=Z9 K) (xs:=qm K) (i:=0) (zc7 K) (by simp[Z9,qm])
 by_cases h:c∈K
 ·have hs:qM [.int .i32 c] (Z9 K) (qm K) 0≠none:=fun e=>by
   have:=hn.1 e (.int .i32 c) (by simp[Z9,h])
   exact this rfl
  obtain⟨⟨j,x⟩,hj⟩:=Option.ne_none_iff_exists'.1 hs
  obtain⟨_,k,h3,h4,h5⟩:=Z7 (kc:=[.i .i32]) rfl (zc7 K) hj
  have hx:x=.bool true:=by
   simp only[qm,List.getElem?_map,Option.map_eq_some_iff]at h5
   obtain⟨_,_,rfl⟩:=h5;rfl
  subst hx
  have h5':(qm K)[j]?=some (.bool true):=by simpa using h5
  exact .inr ⟨j,hj,if_pos h,yT h5',(List.getElem?_eq_some_iff.1 h5').1⟩
 ·exact .inl ⟨hn.2 fun k hk e=>by
   obtain⟨d,hd,rfl⟩:=List.mem_map.1 hk
   simp only[PV.cells]at e
   injection e with e _;injection e with _ e;subst e
   exact h hd,if_neg h⟩
theorem zbV {ks xs:List PV}(h:ks.length=xs.length)(a b:PV):(xs++[a]).set ks.length b=xs++[b]:=by
 rw[h,List.set_append_right _ _ (Nat.le_refl _)];simp
def ckP(m:List (Za×Int)):List PV:=m.map fun x=>.agg (qg x.1)
def cxP(m:List (Za×Int)):List PV:=m.map fun x=>.int .i32 x.2
theorem ckP_ok(m:List (Za×Int)):(ckP m).all (fun k=>okC [.i .i32,.i .i32] k.cells)=true:=by
 simp[ckP,okC,PV.cells,qg]
theorem ckP_key(m:List (Za×Int)):∀x:PV,x∈ckP m→(match x with|.agg _=>true|_=>false)=true∧okC [.i .i32,.i .i32] (match x with|.agg cs=>cs|x=>[x])=true:=fun x h=>by
 obtain⟨d,_,rfl⟩:=List.mem_map.1 h;exact⟨rfl,rfl⟩
theorem XU {p q:Za}(h:qg p=qg q):p=q:=by
 cases p;cases q;simp only[qg]at h
 injection h with h1 h2;injection h1 with _ h1;injection h2 with h2 _;injection h2 with _ h2
 subst h1;subst h2;rfl
theorem ckP_find(q:Za)(m:List (Za×Int)):(qM (qg q) (ckP m) (cxP m) 0=none∧∀x∈m,x.1≠q)∨∃j r,qM (qg q) (ckP m) (cxP m) 0=some (j,.int .i32 r)∧(q,r)∈m:=by
 have hn:=jZ (kc:=[.i .i32,.i .i32]) (key:=qg q) rfl (ks:=ckP m) (xs:=cxP m) (i:=0) (ckP_ok m) (by simp[ckP,cxP])
 by_cases h:qM (qg q) (ckP m) (cxP m) 0=none
 ·exact .inl ⟨h,fun x hx e=>hn.1 h (.agg (qg x.1)) (List.mem_map.2 ⟨x,hx,rfl⟩) (by rw[e];rfl)⟩
 ·obtain⟨⟨j,x⟩,hj⟩:=Option.ne_none_iff_exists'.1 h
  obtain⟨_,k,h3,h4,h5⟩:=Z7 (kc:=[.i .i32,.i .i32]) rfl (ckP_ok m) hj
  simp only[Nat.sub_zero,ckP,cxP,List.getElem?_map,Option.map_eq_some_iff]at h3 h5
  obtain⟨y,hy,rfl⟩:=h3
  obtain⟨z,hz,rfl⟩:=h5
  rw[hy]at hz;injection hz with hz;subst hz
  have:=XU h4
  subst this
  exact .inr ⟨j,_,hj,List.mem_of_getElem? hy⟩
def yn(t:zR)(st:List (Za×Int)×List Int)(r:Nat):List (Za×Int)×List Int:=
 if(∀x∈st.1,x.1≠t.par r)∧Xi t r=false then(st.1++[(t.par r,(r:Int))],yj (t.par r).b st.2)else st
def Q5(f n:Nat):List Nat:=(List.range n).map (f+·)
theorem za7(f n:Nat):Q5 f (n+1)=Q5 f n++[f+n]:=by simp[Q5,List.range_succ]
def yI(t:zR)(st:List (Za×Int)×List Int)(s:Span):List (Za×Int)×List Int:=(Q5 s.f.toNat (s.t.toNat+1-s.f.toNat)).foldl (yn t) st
theorem za9 {α:Type}(zero:α)(j:Int):∀l:List (QC α),qN zero j l=zero∨∃p∈l,qN zero j l=p.v
 | []=>.inl rfl
 |p::l=>by
  simp only[qN]
  split
  ·exact .inr ⟨p,by simp,rfl⟩
  ·rcases za9 zero j l with h|⟨q,hq,h⟩
   ·exact .inl h
   ·exact .inr ⟨q,by simp[hq],h⟩
theorem zfd [Gi](l:List Row)(hn:l.length<2^31)(h1:ZN l 1)(h2:ZN l 2)(h3:ZN l 3)(h4:ZN l 4)(h5:ZN l 5)(h6:ZN l 6)(h7:ZN l 7)(h8:ZN l 8)
  (hp:∀s∈qj l 2,0≤s.a∧s.a<1114112∧0≤s.b∧s.b<1114112):
  CR Tryz.prog 17 [] [.p (zC l)] [] (fun x rs=>∃c b j f p,Qp (Ze l) c b j f p∧x=.lp [25] 0∧rs=[([25],[.p c,.p b,.p j,.p f,.p p,.om [22] (ckP ((qj l 2).foldl (yI (Ze l)) ([],[])).1) (cxP ((qj l 2).foldl (yI (Ze l)) ([],[])).1),.om [23] (Z9 ((qj l 2).foldl (yI (Ze l)) ([],[])).2) (qm ((qj l 2).foldl (yI (Ze l)) ([],[])).2)])]):=by
 refine zM [200017,200019] mixed 14 [28,29,30,56,57,58] Tryz.func17 rfl (by kernel_rfl) rfl (by simp) (by simp) ?_
 simp (maxSteps:=1000000) [go_sem,Tryz.f17]
 refine⟨⟨rfl,by simp[Tryz.f65]⟩,zb [] (h1.num hn) (by simp[go_sem]) ⟨by simp[go_sem],by simp[go_sem]⟩ (by simp[go_sem]) ?_⟩
 rintro _ rs ⟨rfl,c,rfl,hc⟩
 simp (maxSteps:=1000000) [go_sem]
 refine⟨⟨rfl,by simp[Tryz.f65]⟩,zb [] (h4.num hn) (by simp[go_sem]) ⟨by simp[go_sem],by simp[go_sem]⟩ (by simp[go_sem]) ?_⟩
 rintro _ rs ⟨rfl,b,rfl,hb⟩
 simp (maxSteps:=1000000) [go_sem]
 refine⟨⟨rfl,by simp[Tryz.f65]⟩,zb [] (h6.num hn) (by simp[go_sem]) ⟨by simp[go_sem],by simp[go_sem]⟩ (by simp[go_sem]) ?_⟩
 rintro _ rs ⟨rfl,j,rfl,hj⟩
 simp (maxSteps:=1000000) [go_sem]
 refine⟨⟨rfl,by simp[Tryz.f66]⟩,zb [] (zgu l hn h5 h7 h8 h3) (by simp[go_sem]) ⟨by simp[go_sem],by simp[go_sem]⟩ (by simp[go_sem]) ?_⟩
 rintro _ rs ⟨rfl,f,rfl,hf⟩
 obtain⟨ci,cb,rfl,hc⟩:=hc
 obtain⟨bi,bb,rfl,hb⟩:=hb
 obtain⟨ji,jb,rfl,hj⟩:=hj
 obtain⟨fi,fb,rfl,hf⟩:=hf
 simp (maxSteps:=1000000) [go_sem]
 refine⟨⟨rfl,rfl⟩,⟨rfl,by simp[Tryz.f67]⟩,zb [] (Xs l 2 h2.rise h2.b hn h2.n) (by simp[go_sem]) ⟨by simp[go_sem],by simp[go_sem]⟩ (by simp[go_sem]) ?_⟩
 rintro _ rs ⟨rfl,rfl⟩
 have hn2:=h2.nJ
 have hr2:=h2.riseJ
 have hb2:=h2.bJ
 have hpl:∀i:Nat,(Ze l).par i=qN ⟨0,0⟩ i ((qj l 2).map jx):=fun _=>rfl
 generalize hJ:Z2 (zO l 2)=J
 have hJ':qj l 2=J:=hJ
 rw[hJ']at hn2 hr2 hb2 hp
 simp only[hJ']at hpl⊢
 obtain⟨M,hM⟩:∃M,M=J.map fun s=>Wy (jx s):=⟨_,rfl⟩
 have hMl:M.length=J.length:=by rw[hM];simp
 simp (maxSteps:=1000000) [go_sem,zK]
 refine zi (fun i:Nat=>i≤J.length) (fun i=>[(4,.os [4] 4 (M.take i)),(30,.p (.int .i64 i))]) (fun _=>[]) (fun i=>J.length-i) 0 (by omega) (by simp[go_sem,LeS,leV,leR,leA,leL]) (fun i hi=>?_)
 simp (maxSteps:=1000000) [go_sem]
 refine zx (fun h=>?_) (fun h=>?_)
 ·have hil:i<J.length:=by omega
  have em:=zq z8 J i hil
  have w1:IntKind.i64.wrap ((i:Int)+1)=((i+1:Nat):Int):=by rw[wrap64 (by omega) (by omega)];rfl
  have htake:M.take (i+1)=M.take i++[Wy (jx J[i])]:=by
   rw[List.take_add_one,hM,List.getElem?_map,List.getElem?_eq_getElem hil];rfl
  have hle:(M.take i).length≤256:=by rw[List.length_take];omega
  have hab:=hp J[i] (List.getElem_mem _)
  generalize J[i]=r at em htake hab
  have w2:IntKind.i32.wrap r.a=r.a:=by simp[IntKind.wrap,IntKind.signed,IntKind.bits];omega
  have w3:IntKind.i32.wrap r.b=r.b:=by simp[IntKind.wrap,IntKind.signed,IntKind.bits];omega
  simp (maxSteps:=1000000) [go_sem,em,h,z8,w1,w2,w3]
  refine⟨by rw[List.length_take]at hle;omega,zc (i+1) (by omega) (by simp[go_sem,LeS,leV,leR,leA,leL,htake,Wy,jx,qg]) (by omega)⟩
 have hil:i=J.length:=by omega
 subst hil
 have hall:M.take J.length=(J.map jx).map Wy:=by rw[←hMl,List.take_length,hM,List.map_map];rfl
 rw[hall]
 simp (maxSteps:=1000000) [go_sem]
 refine⟨⟨rfl,by simp[Tryz.f68]⟩,zb [] (zgB (J.map jx) 1114112 (by omega) (by omega) (by simp;omega) (fun p hp'=>?_)) (by simp[go_sem]) ⟨by simp[go_sem],by simp[go_sem,xi]⟩ (by simp[go_sem]) ?_⟩
 ·obtain⟨s,hs,rfl⟩:=List.mem_map.1 hp'
  have:=hb2 s hs
  have:=hr2.le s hs
  simp only[jx]
  omega
 rintro _ rs ⟨rfl,e,rfl,pi,pb,rfl,hpp⟩
 simp (maxSteps:=1000000) [go_sem]
 have hT:Qp (Ze l) (.pt 3 (Qy 1 1114112 ci cb)) (.pt 3 (Qy 1 1114112 bi bb)) (.pt 3 (Qy 1 1114112 ji jb)) (.pt 3 (Qy 4 1114112 fi fb)) (.pt 3 (Qy 2 1114112 pi pb)):=
  ⟨⟨ci,cb,rfl,hc⟩,⟨bi,bb,rfl,hb⟩,⟨ji,jb,rfl,hj⟩,⟨fi,fb,rfl,hf⟩,⟨pi,pb,rfl,fun i hi=>by have e:=hpp i hi;rw[←hJ']at e;exact e⟩⟩
 generalize PV.pt 3 (Qy 1 1114112 ci cb)=c at hT
 generalize PV.pt 3 (Qy 1 1114112 bi bb)=b at hT
 generalize PV.pt 3 (Qy 1 1114112 ji jb)=j at hT
 generalize PV.pt 3 (Qy 4 1114112 fi fb)=f at hT
 generalize PV.pt 3 (Qy 2 1114112 pi pb)=p at hT
 have hpr:∀i:Nat,0≤((Ze l).par i).a∧((Ze l).par i).a<1114112:=fun i=>by
  rw[hpl]
  rcases za9 (⟨0,0⟩:Za) i (J.map jx)with h|⟨q,hq,h⟩
  ·rw[h];decide
  ·rw[h]
   obtain⟨x,hx,rfl⟩:=List.mem_map.1 hq
   have:=hp x hx
   exact⟨this.1,this.2.1⟩
 generalize Ze l=t at hT hpr⊢
 clear hpp hpl hc hb hj hf hall
 have cells:∀a b c d:List PV,True:=fun _ _ _ _=>trivial
 refine zi (fun i:Nat=>i≤J.length) (fun i=>[(58,.p (.int .i64 i))]) (fun i=>[([25],[.p c,.p b,.p j,.p f,.p p,.om [22] (ckP ((J.take i).foldl (yI t) ([],[])).1) (cxP ((J.take i).foldl (yI t) ([],[])).1),.om [23] (Z9 ((J.take i).foldl (yI t) ([],[])).2) (qm ((J.take i).foldl (yI t) ([],[])).2)])]) (fun i=>J.length-i) 0 (by omega) (by simp[go_sem,LeS,leV,leR,leA,leL,ckP,cxP,Z9,qm]) (fun i hi=>?_)
 simp (maxSteps:=1000000) [go_sem]
 refine zx (fun h=>?_) (fun h=>?_)
 ·have hil:i<J.length:=by omega
  have em:=zq z8 J i hil
  have w1:IntKind.i64.wrap ((i:Int)+1)=((i+1:Nat):Int):=by rw[wrap64 (by omega) (by omega)];rfl
  have htk:(J.take (i+1)).foldl (yI t) ([],[])=yI t ((J.take i).foldl (yI t) ([],[])) J[i]:=by
   rw[List.take_add_one,List.getElem?_eq_getElem hil,List.foldl_append];rfl
  have hs2:=hb2 J[i] (List.getElem_mem _)
  have hs3:=hr2.le J[i] (List.getElem_mem _)
  generalize J[i]=s at em htk hs2 hs3
  generalize (J.take i).foldl (yI t) ([],[])=st at htk
  obtain⟨sf,sz,sa,sb⟩:=s
  simp only at hs2 hs3
  obtain⟨f0,rfl⟩:=Int.eq_ofNat_of_zero_le hs2.1
  obtain⟨t0,rfl⟩:=Int.eq_ofNat_of_zero_le (Int.le_trans hs2.1 hs3)
  have w2:IntKind.i32.wrap (f0:Int)=f0:=by simp[IntKind.wrap,IntKind.signed,IntKind.bits];omega
  simp (maxSteps:=1000000) [go_sem,em,h,z8,w2]
  refine zi (fun k:Nat=>f0+k≤t0+1) (fun k=>[(10,.p (.int .i32 ((f0+k:Nat):Int)))]) (fun k=>[([25],[.p c,.p b,.p j,.p f,.p p,.om [22] (ckP ((Q5 f0 k).foldl (yn t) st).1) (cxP ((Q5 f0 k).foldl (yn t) st).1),.om [23] (Z9 ((Q5 f0 k).foldl (yn t) st).2) (qm ((Q5 f0 k).foldl (yn t) st).2)])]) (fun k=>t0+1-f0-k) 0 (by omega) (by simp[go_sem,LeS,leV,leR,leA,leL,Q5]) (fun k hk=>?_)
  obtain⟨r,hr⟩:∃r,r=f0+k:=⟨_,rfl⟩
  have hstep:=za7 f0 k
  have w3:IntKind.i64.wrap (r:Int)=r:=wrap64 (by omega) (by omega)
  have w4:IntKind.i32.wrap ((r:Int)+1)=((r+1:Nat):Int):=by simp[IntKind.wrap,IntKind.signed,IntKind.bits];omega
  have ek:(f0:Int)+((k:Int)+1)=(r:Int)+1:=by omega
  simp only[←hr]at hstep⊢
  simp (maxSteps:=1000000) [go_sem,w3]
  refine zx (fun h5=>?_) (fun h5=>?_)
  ·have hstep2:(Q5 f0 (k+1)).foldl (yn t) st=yn t ((Q5 f0 k).foldl (yn t) st) r:=by rw[hstep,List.foldl_append];rfl
   generalize (Q5 f0 k).foldl (yn t) st=sk at hstep2
   obtain⟨q,hq⟩:∃q,t.par r=q:=⟨_,rfl⟩
   simp (maxSteps:=1000000) [go_sem,w3]
   refine⟨⟨rfl,by simp[Tryz.f69]⟩,zb [] (Ux hT.p (by omega) (i:=r) (by omega)) (by simp[go_sem]) ⟨by simp[go_sem],by simp[go_sem]⟩ (by simp[go_sem]) ?_⟩
   rintro _ rs ⟨rfl,rfl⟩
   rw[hq]
   rcases ckP_find q sk.1 with ⟨hf1,hf2⟩|⟨jj,x,hf1,hf2⟩
   ·simp (maxSteps:=1000000) [go_sem,qg]
    refine Zg zkh (by kernel_rfl) ?_
    simp only[qg]at hf1
    simp (maxSteps:=1000000) [go_sem,zkh,Zx,mapOf,jv,hf1]
    refine⟨ckP_key _,⟨rfl,by simp[Tryz.f70]⟩,zb [([0],[25]),([901],[22]),([902],[23])] (zjM hT (ckP sk.1) (cxP sk.1) (Z9 sk.2) (qm sk.2) (i:=r) (by omega) (hpr r)) (by simp[go_sem,zD]) ⟨by simp[go_sem],by simp[go_sem]⟩ (by simp[go_sem,xk]) ?_⟩
    rintro _ rs ⟨rfl,rfl⟩
    cases ho:Xi t r with
    |true=>
     have hs1:yn t sk r=sk:=by unfold yn;rw[if_neg (fun h=>by rw[ho]at h;simp at h)]
     simp (maxSteps:=1000000) [go_sem,xk,w4]
     exact zc (k+1) (by omega) (by simp[go_sem,LeS,leV,leR,leA,leL,hstep2,hs1,ek]) (by omega)
    |false=>
     have hs1:yn t sk r=(sk.1++[(q,(r:Int))],yj q.b sk.2):=by unfold yn;rw[if_pos ⟨by rw[hq];exact hf2,ho⟩,hq]
     simp (maxSteps:=1000000) [go_sem,xk]
     refine Zg zmg (by kernel_rfl) ?_
     have l1:(ckP sk.1).length=(cxP sk.1).length:=by simp[ckP,cxP]
     have l2:(Z9 sk.2).length=(qm sk.2).length:=by simp[Z9,qm]
     have e1:=zbV l1 (.int .i32 0) (.int .i32 r)
     have e2:=zbV l2 (.bool false) (.bool true)
     have e3:ckP sk.1++[.agg [.int .i32 q.a,.int .i32 q.b]]=ckP (sk.1++[(q,(r:Int))]):=by simp[ckP,qg]
     have e4:cxP sk.1++[.int .i32 (r:Int)]=cxP (sk.1++[(q,(r:Int))]):=by simp[cxP]
     have l3:(ckP sk.1).length< (cxP sk.1).length+1:=by omega
     have l4:(Z9 sk.2).length< (qm sk.2).length+1:=by omega
     rcases zfg q.b sk.2 with ⟨g1,g2⟩|⟨j2,g1,g2,g3,g4⟩
     ·have e5:Z9 sk.2++[.int .i32 q.b]=Z9 (yj q.b sk.2):=by rw[g2];simp[Z9]
      have e6:qm sk.2++[.bool true]=qm (yj q.b sk.2):=by rw[g2];simp[qm]
      simp (maxSteps:=1000000) [go_sem,zmg,hf1,g1,e1,e2,l3,l4]
      exact⟨ckP_key _,zam _,zc (k+1) (by omega) (by simp[go_sem,LeS,leV,leR,leA,leL,hstep2,hs1,ek,w4,←e3,←e4,←e5,←e6]) (by omega)⟩
     ·simp (maxSteps:=1000000) [go_sem,zmg,hf1,g1,e1,g3,g4,l3]
      exact⟨ckP_key _,zam _,zc (k+1) (by omega) (by simp[go_sem,LeS,leV,leR,leA,leL,hstep2,hs1,ek,w4,←e3,←e4,g2]) (by omega)⟩
   ·have hs1:yn t sk r=sk:=by unfold yn;rw[if_neg (fun h=>h.1 _ hf2 hq.symm)]
    simp (maxSteps:=1000000) [go_sem,qg]
    refine Zg zkh (by kernel_rfl) ?_
    simp only[qg]at hf1
    simp (maxSteps:=1000000) [go_sem,zkh,Zx,mapOf,jv,hf1,w4]
    exact⟨ckP_key _,zc (k+1) (by omega) (by simp[go_sem,LeS,leV,leR,leA,leL,hstep2,hs1,ek]) (by omega)⟩
  ·have hk2:k=t0+1-f0:=by omega
   simp (maxSteps:=1000000) [go_sem,w1]
   have hfin:yI t st ⟨f0,t0,sa,sb⟩=(Q5 f0 k).foldl (yn t) st:=by simp[yI,hk2]
   exact zc (i+1) (by omega) (by simp[go_sem,LeS,leV,leR,leA,leL,htk,hfin]) (by omega)
 ·obtain rfl:i=J.length:=by omega
  simp (maxSteps:=1000000) [go_sem]
  exact zl [[25]] (.lp [25] 0) ⟨rfl,by simp⟩ (by simp[go_sem,zf,leA,leT]) ⟨c,b,j,f,p,hT,rfl,by simp[go_sem]⟩
def made(l:List Row):List (Za×Int)×List Int:=(qj l 2).foldl (yI (Ze l)) ([],[])
theorem zjt [Gi](l:List Row)(hn:l.length<2^31)(h1:ZN l 1)(h2:ZN l 2)(h3:ZN l 3)(h4:ZN l 4)(h5:ZN l 5)(h6:ZN l 6)(h7:ZN l 7)(h8:ZN l 8)
  (hp:∀s∈qj l 2,0≤s.a∧s.a<1114112∧0≤s.b∧s.b<1114112):
  CR Tryz.prog 17 [] [.p (zC l)] [] (fun x rs=>rs=[]∧∃c b j f p,Qp (Ze l) c b j f p∧x=.p (zE c b j f p (ckP (made l).1) (cxP (made l).1) (Z9 (made l).2) (qm (made l).2))):=by
 refine CR.zkx (zfd l hn h1 h2 h3 h4 h5 h6 h7 h8 hp) ?_
 rintro x rs ⟨c,b,j,f,p,hT,rfl,rfl⟩
 exact⟨_,zka rfl rfl,rfl,c,b,j,f,p,hT,rfl⟩
end Go.Proofs.YtjefahhmkcfiiaaGreat
end
section
namespace Go.Proofs.YtjefahhmkcfiiaaGreat
open Go.AM
set_option maxHeartbeats 4000000
set_option maxRecDepth 10000
end Go.Proofs.YtjefahhmkcfiiaaGreat
end
section
namespace Go.Proofs.YtjefahhmkcfiiaaGreat
open Go.AM
set_option maxHeartbeats 4000000
set_option maxRecDepth 100000
def chainB:List Span→Bool
 | []=>true
 | [s]=>decide (s.f≤s.t)
 |s::x::l=>decide (s.f≤s.t)&&decide (s.t<x.f)&&chainB (x::l)
theorem wx:∀l:List Span,chainB l=true→qY l
 | [],_=>trivial
 | [s],h=>⟨by simpa[chainB]using h,by simp,trivial⟩
 |s::x::l,h=>by
  simp only[chainB,Bool.and_eq_true,decide_eq_true_eq]at h
  obtain⟨⟨h1,h2⟩,h3⟩:=h
  have ih:=wx (x::l) h3
  refine⟨h1,fun y hy=>?_,ih⟩
  rcases List.mem_cons.1 hy with rfl|hy
  ·exact h2
  ·have:=ih.2.1 y hy
   have:=ih.1
   omega
def Wj(l:List Row)(k:Int):Bool:=
 chainB (zO l k)&&(zO l k).all (fun s=>decide (-1000000000≤s.t)&&decide (s.t≤1000000000))&&decide ((zO l k).length<256)&&
 chainB (qj l k)&&(qj l k).all (fun s=>decide (0≤s.f)&&decide (s.t≤1114111))&&decide ((qj l k).length<256)
theorem j5 {l:List Row} {k:Int}(h:Wj l k=true):ZN l k:=by
 simp only[Wj,Bool.and_eq_true,decide_eq_true_eq,List.all_eq_true]at h
 obtain⟨⟨⟨⟨⟨h1,h2⟩,h3⟩,h4⟩,h5⟩,h6⟩:=h
 exact⟨wx _ h1,h2,h3,wx _ h4,h5,h6⟩
def zeM(l:List Row):Bool:=(qj l 2).all fun s=>decide (0≤s.a)&&decide (s.a<1114112)&&decide (0≤s.b)&&decide (s.b<1114112)
theorem zod:Wj za 1=true:=by decide+kernel
theorem zon:Wj za 2=true:=by decide+kernel
theorem zor:Wj za 3=true:=by decide+kernel
theorem zot:Wj za 4=true:=by decide+kernel
theorem zol:Wj za 5=true:=by decide+kernel
theorem zoj:Wj za 6=true:=by decide+kernel
theorem zoe:Wj za 7=true:=by decide+kernel
theorem zn6:Wj za 8=true:=by decide+kernel
theorem znO:zeM za=true:=by decide+kernel
theorem zaI:za.length<2^31:=by decide+kernel
def T0:zR:=Ze za
def M0:List (Za×Int)×List Int:=made za
def ZR(x:PV):Prop:=∃c b j f p,Qp T0 c b j f p∧x=zE c b j f p (ckP M0.1) (cxP M0.1) (Z9 M0.2) (qm M0.2)
theorem UG [Gi]:CR Tryz.prog 17 [] [.p (zC za)] [] (fun x rs=>rs=[]∧∃e,x=.p e∧ZR e):=by
 have hp:∀s∈qj za 2,0≤s.a∧s.a<1114112∧0≤s.b∧s.b<1114112:=by
  have:=znO
  simp only[zeM,Bool.and_eq_true,decide_eq_true_eq,List.all_eq_true]at this
  exact fun s hs=>⟨(this s hs).1.1.1,(this s hs).1.1.2,(this s hs).1.2,(this s hs).2⟩
 intro w g vs h1 h2
 refine(zjt za zaI (j5 zod) (j5 zon) (j5 zor) (j5 zot) (j5 zol) (j5 zoj) (j5 zoe) (j5 zn6) hp w g vs h1 h2).mono ?_
 rintro e w' ⟨v,x,rs',g',h3,⟨rfl,c,b,j,f,p,hT,rfl⟩,h4⟩
 exact⟨v,_,_,g',h3,⟨rfl,_,rfl,c,b,j,f,p,hT,rfl⟩,h4⟩
end Go.Proofs.YtjefahhmkcfiiaaGreat
end
section
namespace Go.Proofs.YtjefahhmkcfiiaaGreat
open Go.AM
set_option maxHeartbeats 4000000
set_option maxRecDepth 10000
def rn(x:Int):Nat:=if 0≤x∧x<1114112 then x.toNat else 1114112
theorem VN {x:Int}(h:0≤x∧x<1114112):rn x=x.toNat:=if_pos h
theorem wI {x:Int}(h:¬(0≤x∧x<1114112)):rn x=1114112:=if_neg h
structure Z3(t:zR):Prop where
 c:t.cls 1114112=0
 b:t.brk 1114112=0
 j:t.cnj 1114112=0
 f:t.flg 1114112=⟨false,false,false,false⟩
 p:t.par 1114112=⟨0,0⟩
theorem je:Z3 T0:=⟨by decide+kernel,by decide+kernel,by decide+kernel,by decide+kernel,by decide+kernel⟩
theorem uy [Gi] {val:Nat→Int} {e:PV}(h:ye 1 1114112 (fun j=>[.int .i64 (val j)]) e)(hz:val 1114112=0)(i:Int):CR Tryz.prog 170 [] [.p e,.p (.int .i64 i)] [] (is (.p (.int .i64 (val (rn i))))):=by
 by_cases hi:0≤i∧i<1114112
 ·rw[VN hi]
  have e1:((i.toNat:Nat):Int)=i:=by omega
  have:=Xn h (by omega) (i:=i.toNat) (by omega)
  rw[e1]at this
  exact this
 ·rw[wI hi,hz]
  obtain⟨idx,blocks,rfl,_⟩:=h
  refine zM [] mixed 6 [] Tryz.func170 rfl (by kernel_rfl) rfl (by simp) (by simp) ?_
  by_cases h0:i<0
  ·simp[go_sem,Tryz.f170,Qy,h0]
   exact zg (.p (.int .i64 0)) rfl (by simp[go_sem,zf,leA,leT]) ⟨rfl,rfl⟩
  ·have h1:(1114112:Int)≤i:=by omega
   simp[go_sem,Tryz.f170,Qy,h0,h1]
   exact zg (.p (.int .i64 0)) rfl (by simp[go_sem,zf,leA,leT]) ⟨rfl,rfl⟩
theorem Xx [Gi] {val:Nat→Flags} {e:PV}(h:ye 4 1114112 (fun j=>qB (val j)) e)(hz:val 1114112=⟨false,false,false,false⟩)(i:Int):CR Tryz.prog 123 [] [.p e,.p (.int .i64 i)] [] (is (.p (.agg (qB (val (rn i)))))):=by
 by_cases hi:0≤i∧i<1114112
 ·rw[VN hi]
  have e1:((i.toNat:Nat):Int)=i:=by omega
  have:=zap h (by omega) (i:=i.toNat) (by omega)
  rw[e1]at this
  exact this
 ·rw[wI hi,hz]
  obtain⟨idx,blocks,rfl,_⟩:=h
  refine zM [] mixed 6 [] Tryz.func123 rfl (by kernel_rfl) rfl (by simp) (by simp) ?_
  by_cases h0:i<0
  ·simp[go_sem,Tryz.f123,Qy,h0]
   exact zg (.p (.agg [.bool false,.bool false,.bool false,.bool false])) rfl (by simp[go_sem,zf,leA,leT]) ⟨rfl,rfl⟩
  ·have h1:(1114112:Int)≤i:=by omega
   simp[go_sem,Tryz.f123,Qy,h0,h1]
   exact zg (.p (.agg [.bool false,.bool false,.bool false,.bool false])) rfl (by simp[go_sem,zf,leA,leT]) ⟨rfl,rfl⟩
theorem zhQ [Gi] {val:Nat→Za} {e:PV}(h:ye 2 1114112 (fun j=>qg (val j)) e)(hz:val 1114112=⟨0,0⟩)(i:Int):CR Tryz.prog 69 [] [.p e,.p (.int .i64 i)] [] (is (.p (.agg (qg (val (rn i)))))):=by
 by_cases hi:0≤i∧i<1114112
 ·rw[VN hi]
  have e1:((i.toNat:Nat):Int)=i:=by omega
  have:=Ux h (by omega) (i:=i.toNat) (by omega)
  rw[e1]at this
  exact this
 ·rw[wI hi,hz]
  obtain⟨idx,blocks,rfl,_⟩:=h
  refine zM [] mixed 6 [] Tryz.func69 rfl (by kernel_rfl) rfl (by simp) (by simp) ?_
  by_cases h0:i<0
  ·simp[go_sem,Tryz.f69,Qy,h0]
   exact zg (.p (.agg [.int .i32 0,.int .i32 0])) rfl (by simp[go_sem,zf,leA,leT]) ⟨rfl,rfl⟩
  ·have h1:(1114112:Int)≤i:=by omega
   simp[go_sem,Tryz.f69,Qy,h0,h1]
   exact zg (.p (.agg [.int .i32 0,.int .i32 0])) rfl (by simp[go_sem,zf,leA,leT]) ⟨rfl,rfl⟩
def wo(t:zR)(i:Int):Int:=if 44032≤i∧i≤55203 then(if(i-44032)%28=0 then 12 else 13)else t.brk (rn i)
def KL(t:zR)(i:Int):Int:=if t.cnj (rn i)≠0 then t.cnj (rn i)else if(wo t i=4∨wo t i=5)∧i≠8204 then 3 else 0
theorem Q9 [Gi] {t:zR} {c b j f p:PV}(h:Qp t c b j f p)(ck cx sk sx:List PV)(hz:Z3 t) {i:Int}(hi: -2147483648≤i∧i<2147483648):
  CR Tryz.prog 124 [] [.p (zE c b j f p ck cx sk sx),.p (.int .i32 i)] [] (is (.p (.int .i64 (t.cls (rn i))))):=by
 have w1:IntKind.i64.wrap i=i:=wrap64 (by omega) (by omega)
 refine zm mixed 5 [] Tryz.func124 rfl (by kernel_rfl) rfl (by simp) (by simp) ?_
 obtain⟨_,_,e,_⟩:=id h.c
 simp (maxSteps:=1000000) [go_sem,Tryz.f124,zE,w1]
 refine⟨⟨rfl,by simp[Tryz.f170]⟩,zb [] (uy h.c hz.c i) (by simp[go_sem]) ⟨by simp[go_sem],by simp[go_sem]⟩ (by simp[go_sem]) ?_⟩
 rintro _ rs ⟨rfl,rfl⟩
 simp (maxSteps:=1000000) [go_sem]
 exact zg (.p (.int .i64 (t.cls (rn i)))) rfl (by simp[go_sem,zf,leA,leT]) ⟨rfl,rfl⟩
theorem VB [Gi] {t:zR} {c b j f p:PV}(h:Qp t c b j f p)(ck cx sk sx:List PV)(hz:Z3 t) {i:Int}(hi: -2147483648≤i∧i<2147483648):
  CR Tryz.prog 122 [] [.p (zE c b j f p ck cx sk sx),.p (.int .i32 i)] [] (is (JW (t.par (rn i)))):=by
 have w1:IntKind.i64.wrap i=i:=wrap64 (by omega) (by omega)
 refine zM [4] mixed 8 [] Tryz.func122 rfl (by kernel_rfl) rfl (by simp) (by simp) ?_
 simp (maxSteps:=1000000) [go_sem,Tryz.f122,zE,w1]
 refine⟨⟨rfl,by simp[Tryz.f69]⟩,zb [] (zhQ h.p hz.p i) (by simp[go_sem]) ⟨by simp[go_sem],by simp[go_sem]⟩ (by simp[go_sem]) ?_⟩
 rintro _ rs ⟨rfl,rfl⟩
 generalize t.par (rn i)=q
 simp (maxSteps:=1000000) [go_sem,qg]
 exact zg (.tup [.p (.int .i32 q.a),.p (.int .i32 q.b),.p (.bool (!decide (q.a=0) ||!decide (q.b=0)))]) rfl (by simp[go_sem,zf,leA,leT,leP]) ⟨rfl,rfl⟩
theorem zdv [Gi] {t:zR} {c b j f p:PV}(h:Qp t c b j f p)(ck cx sk sx:List PV)(hz:Z3 t) {i:Int}(hi: -2147483648≤i∧i<2147483648):
  CR Tryz.prog 203 [] [.p (zE c b j f p ck cx sk sx),.p (.int .i32 i)] [] (is (.p (.bool (t.flg (rn i)).p))):=by
 have w1:IntKind.i64.wrap i=i:=wrap64 (by omega) (by omega)
 refine zm mixed 5 [] Tryz.func203 rfl (by kernel_rfl) rfl (by simp) (by simp) ?_
 simp (maxSteps:=1000000) [go_sem,Tryz.f203,zE,w1]
 refine⟨⟨rfl,by simp[Tryz.f123]⟩,zb [] (Xx h.f hz.f i) (by simp[go_sem]) ⟨by simp[go_sem],by simp[go_sem]⟩ (by simp[go_sem]) ?_⟩
 rintro _ rs ⟨rfl,rfl⟩
 generalize t.flg (rn i)=q
 simp (maxSteps:=1000000) [go_sem,qB]
 exact zg (.p (.bool q.p)) rfl (by simp[go_sem,zf,leA,leT]) ⟨rfl,rfl⟩
theorem Yg [Gi] {t:zR} {c b j f p:PV}(h:Qp t c b j f p)(ck cx sk sx:List PV)(hz:Z3 t) {i:Int}(hi: -2147483648≤i∧i<2147483648):
  CR Tryz.prog 131 [] [.p (zE c b j f p ck cx sk sx),.p (.int .i32 i)] [] (is (.p (.bool (t.flg (rn i)).l))):=by
 have w1:IntKind.i64.wrap i=i:=wrap64 (by omega) (by omega)
 refine zm mixed 5 [] Tryz.func131 rfl (by kernel_rfl) rfl (by simp) (by simp) ?_
 simp (maxSteps:=1000000) [go_sem,Tryz.f131,zE,w1]
 refine⟨⟨rfl,by simp[Tryz.f123]⟩,zb [] (Xx h.f hz.f i) (by simp[go_sem]) ⟨by simp[go_sem],by simp[go_sem]⟩ (by simp[go_sem]) ?_⟩
 rintro _ rs ⟨rfl,rfl⟩
 generalize t.flg (rn i)=q
 simp (maxSteps:=1000000) [go_sem,qB]
 exact zg (.p (.bool q.l)) rfl (by simp[go_sem,zf,leA,leT]) ⟨rfl,rfl⟩
theorem Uu [Gi] {t:zR} {c b j f p:PV}(h:Qp t c b j f p)(ck cx sk sx:List PV)(hz:Z3 t) {i:Int}(hi: -2147483648≤i∧i<2147483648):
  CR Tryz.prog 202 [] [.p (zE c b j f p ck cx sk sx),.p (.int .i32 i)] [] (is (.p (.int .i64 (wo t i)))):=by
 have w1:IntKind.i64.wrap i=i:=wrap64 (by omega) (by omega)
 refine zm mixed 6 [] Tryz.func202 rfl (by kernel_rfl) rfl (by simp) (by simp) ?_
 have hB:44032≤i→i≤55203→(i-44032).tmod 28=(i-44032)%28:=fun h1 _=>Int.tmod_eq_emod_of_nonneg (by omega)
 have w2:44032≤i→IntKind.i32.wrap (i-44032)=i-44032:=fun _=>by simp[IntKind.wrap,IntKind.signed,IntKind.bits];omega
 by_cases h1:44032≤i∧i≤55203
 ·have a1:(44032:Int)≤i:=by omega
  have a2:i≤55203:=by omega
  have a3:=hB h1.1 h1.2
  have w3:=w2 h1.1
  generalize hm:(i-44032)%28=m at a3
  by_cases h2:m=0
  ·subst h2
   have e:wo t i=12:=by unfold wo;rw[if_pos h1,if_pos hm]
   rw[e]
   simp (maxSteps:=1000000) [go_sem,Tryz.f202,zE,w3,a1,a2,a3]
   exact zg (.p (.int .i64 12)) rfl (by simp[go_sem,zf,leA,leT]) ⟨rfl,rfl⟩
  ·have e:wo t i=13:=by unfold wo;rw[if_pos h1,if_neg (by omega)]
   rw[e]
   simp (maxSteps:=1000000) [go_sem,Tryz.f202,zE,w3,a1,a2,a3,h2]
   exact zg (.p (.int .i64 13)) rfl (by simp[go_sem,zf,leA,leT]) ⟨rfl,rfl⟩
 ·have e:wo t i=t.brk (rn i):=by unfold wo;rw[if_neg h1]
  rw[e]
  by_cases a1:(44032:Int)≤i
  ·have a2:¬(i≤55203):=by omega
   simp (maxSteps:=1000000) [go_sem,Tryz.f202,zE,w1,a1,a2]
   refine⟨⟨rfl,by simp[Tryz.f170]⟩,zb [] (uy h.b hz.b i) (by simp[go_sem]) ⟨by simp[go_sem],by simp[go_sem]⟩ (by simp[go_sem]) ?_⟩
   rintro _ rs ⟨rfl,rfl⟩
   simp (maxSteps:=1000000) [go_sem]
   exact zg (.p (.int .i64 (t.brk (rn i)))) rfl (by simp[go_sem,zf,leA,leT]) ⟨rfl,rfl⟩
  ·simp (maxSteps:=1000000) [go_sem,Tryz.f202,zE,w1,a1]
   refine⟨⟨rfl,by simp[Tryz.f170]⟩,zb [] (uy h.b hz.b i) (by simp[go_sem]) ⟨by simp[go_sem],by simp[go_sem]⟩ (by simp[go_sem]) ?_⟩
   rintro _ rs ⟨rfl,rfl⟩
   simp (maxSteps:=1000000) [go_sem]
   exact zg (.p (.int .i64 (t.brk (rn i)))) rfl (by simp[go_sem,zf,leA,leT]) ⟨rfl,rfl⟩
theorem zdW [Gi] {t:zR} {c b j f p:PV}(h:Qp t c b j f p)(ck cx sk sx:List PV)(hz:Z3 t) {i:Int}(hi: -2147483648≤i∧i<2147483648):
  CR Tryz.prog 204 [] [.p (zE c b j f p ck cx sk sx),.p (.int .i32 i)] [] (is (.p (.int .i64 (KL t i)))):=by
 have w1:IntKind.i64.wrap i=i:=wrap64 (by omega) (by omega)
 refine zm mixed 7 [] Tryz.func204 rfl (by kernel_rfl) rfl (by simp) (by simp) ?_
 simp (maxSteps:=1000000) [go_sem,Tryz.f204,zE,w1]
 refine⟨⟨rfl,by simp[Tryz.f170]⟩,zb [] (uy h.j hz.j i) (by simp[go_sem]) ⟨by simp[go_sem],by simp[go_sem]⟩ (by simp[go_sem]) ?_⟩
 rintro _ rs ⟨rfl,rfl⟩
 simp (maxSteps:=1000000) [go_sem]
 by_cases h1:t.cnj (rn i)=0
 ·simp (maxSteps:=1000000) [go_sem,h1]
  refine⟨⟨rfl,by simp[Tryz.f202]⟩,zb [] (Uu h ck cx sk sx hz hi) (by simp[go_sem]) ⟨by simp[go_sem],by simp[go_sem,zE]⟩ (by simp[go_sem]) ?_⟩
  rintro _ rs ⟨rfl,rfl⟩
  have e:KL t i=if(wo t i=4∨wo t i=5)∧i≠8204 then 3 else 0:=by unfold KL;rw[if_neg (fun h=>h h1)]
  rw[e]
  generalize wo t i=v
  by_cases h2:(v=4∨v=5)∧i≠8204
  ·rw[if_pos h2]
   have h3:¬(i=8204):=by omega
   rcases h2.1 with rfl|rfl
   ·simp (maxSteps:=1000000) [go_sem,h3]
    exact zg (.p (.int .i64 3)) rfl (by simp[go_sem,zf,leA,leT]) ⟨rfl,rfl⟩
   ·simp (maxSteps:=1000000) [go_sem,h3]
    exact zg (.p (.int .i64 3)) rfl (by simp[go_sem,zf,leA,leT]) ⟨rfl,rfl⟩
  ·rw[if_neg h2]
   by_cases h4:v=4
   ·have h3:i=8204:=by omega
    simp (maxSteps:=1000000) [go_sem,h4,h3]
    exact zg (.p (.int .i64 0)) rfl (by simp[go_sem,zf,leA,leT]) ⟨rfl,rfl⟩
   ·by_cases h5:v=5
    ·have h3:i=8204:=by omega
     simp (maxSteps:=1000000) [go_sem,h5,h3]
     exact zg (.p (.int .i64 0)) rfl (by simp[go_sem,zf,leA,leT]) ⟨rfl,rfl⟩
    ·simp (maxSteps:=1000000) [go_sem,h4,h5]
     exact zg (.p (.int .i64 0)) rfl (by simp[go_sem,zf,leA,leT]) ⟨rfl,rfl⟩
 ·have e:KL t i=t.cnj (rn i):=by unfold KL;rw[if_pos h1]
  rw[e]
  simp (maxSteps:=1000000) [go_sem,h1]
  exact zg (.p (.int .i64 (t.cnj (rn i)))) rfl (by simp[go_sem,zf,leA,leT]) ⟨rfl,rfl⟩
end Go.Proofs.YtjefahhmkcfiiaaGreat
end
