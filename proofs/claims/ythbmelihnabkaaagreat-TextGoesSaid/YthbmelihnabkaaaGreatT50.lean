/- A part of the proof of this seat's statements, by an abstract machine: what each operation does to values, and what the law's functions compute. Conditions: as each law says. -/
import Derived.Test.YthbmelihnabkaaaGreatT49
import Derived.Test.YthbmelihnabkaaaGreatT42
import Derived.Test.YthbmelihnabkaaaGreatT45
import Derived.Test.YthbmelihnabkaaaGreatT44
import Derived.Test.YthbmelihnabkaaaGreatT37
section
namespace Go.Proofs.YthbmelihnabkaaaGreat
open Go.AM
set_option maxHeartbeats 4000000
set_option maxRecDepth 10000
attribute [local irreducible] za
theorem qJ.num {L:List (List Int)} {o:List (Nat×Nat)}(h:qJ L L.length o):o.length≤L.length:=by
 have key:∀(o:List (Nat×Nat)) (b:Nat),(∀w∈o,b≤w.1∧w.1<w.2∧w.2≤L.length)→o.Pairwise (fun v w=>v.2<w.1)→o.length≤L.length-b:=by
  intro o
  induction o with
  |nil=>intro b _ _;simp
  |cons w o ih=>
   intro b h1 h2
   have a:=h1 w (by simp)
   have:=ih (b+1) (fun v hv=>by
    have c:=(List.pairwise_cons.1 h2).1 v hv
    have d:=h1 v (List.mem_cons_of_mem _ hv)
    omega) (List.pairwise_cons.1 h2).2
   simp only[List.length_cons];omega
 have:=key o 0 (fun w hw=>⟨Nat.zero_le _,(h.seg w hw).1,(h.seg w hw).2.1⟩) h.ord
 omega
theorem zg8 [Gi] {l:List Int} {L:List (List Int)}(h:Ln l L) {a:Nat}(ha:l.length<a):CR Tryz.prog 28 [] [.p (zI za),.p (zh l),.p (.int .i64 a)] [] (is (.p (.int .i64 (l.length:Nat)))):=by
 refine walk Tryz.func28 9 [] [] [] ?_
 have hs:=h.sum
 have hcl:=h.cl
 have hln:=h.n
 have hlen:=hcl.len
 simp (maxSteps:=1000000) [go_sem,Tryz.f28]
 refine call [] (Uk h) ?_
 rintro _ _ ⟨o,ho,rfl,rfl⟩
 have hol:=ho.num
 simp (maxSteps:=1000000) [go_sem]
 refine loop (fun i:Nat=>i≤o.length) (fun i=>[(8,.p (.int .i64 (i:Nat)))]) (fun _=>[]) (fun i=>o.length-i) 0 (Nat.zero_le _) (fun i hi=>?_)
 by_cases c1:i<o.length
 ·have g1:(i:Int)<o.length:=by omega
  have em:=zeW (L:=L) c1
  have hmem:o[i]∈o:=List.getElem_mem _
  obtain⟨w,hw⟩:∃w,o[i]=w:=⟨_,rfl⟩
  rw[hw]at em hmem
  have hw2:=(ho.seg w hmem).2.1
  have hp:=yY hcl hw2
  have w1:IntKind.i64.wrap ((i:Int)+1)=((i+1:Nat):Int):=zT (by omega)
  have c3':¬(a:Int)<plc L w.2:=by omega
  simp (maxSteps:=1000000) [go_sem,ya,g1,em,wP,c3',w1]
  exact next (i+1) c1 (h3:=by show o.length- (i+1)<o.length-i;omega)
 ·have g1:¬(i:Int)<o.length:=by omega
  simp (maxSteps:=1000000) [go_sem,ya,g1]
  exact ret
theorem zb5 [Gi](s:List Int)(a n:Int)(hs:∀x∈s,zD x):CR Tryz.prog 5 [] [.p (zh s),.p (.int .i64 a),.p (.int .i64 n)] [] (is (.p (.bool true))):=by
 refine walk Tryz.func5 13 [] [] [] ?_
 simp (maxSteps:=1000000) [go_sem,Tryz.f5]
 refine zn zbg ?_
 simp (maxSteps:=1000000) [go_sem]
 refine zn (zaQ s 60 (by decide)) ?_
 have hl:(s.take 60).length≤60:=by rw[List.length_take];omega
 have hr:∀x∈s.take 60,zD x:=fun x hx=>hs x (List.mem_of_mem_take hx)
 generalize s.take 60=l at hl hr
 simp (maxSteps:=1000000) [go_sem]
 refine zn (zkv za yS l (by omega) hr) ?_
 simp (maxSteps:=1000000) [go_sem]
 refine call [] Wk ?_
 rintro _ _ ⟨rfl,e,rfl,hT⟩
 have hnew:=zlc hT l (by omega) hr
 have hln:=lnC l (by omega) hr
 have hsh:=zn9 l hl
 generalize qv za l=t at hnew hln hsh
 obtain⟨L,hL⟩:∃L,L=z8 za t:=⟨_,rfl⟩
 rw[←hL]at hnew hln hsh
 have hsum:=hln.sum
 have hcl:=hln.cl
 have hlt:=hln.n
 obtain⟨z0,e0,rfl⟩:=ym hT
 simp (maxSteps:=1000000) [go_sem]
 refine call [] hnew ?_
 rintro _ _ ⟨X,hX,_,rfl,rfl⟩
 obtain⟨B,hB⟩:∃B:Int,B=max (min n 200) (-200):=⟨_,rfl⟩
 have hgo:goK L a B=goK L a n:=by
  have:=yp L a
  unfold goK;omega
 have hfl:=XJ hln a
 have hT1:=Xf (.pt z0 e0) hX a
 have hT2:=zih (.pt z0 e0) hX a n
 have hD2:=zll hln a B (by omega)
 rw[hgo]at hD2
 have hT3:=zjk hT hX (by rw[hln.flat];exact hln) a n
 have kl:=yp L a
 simp (maxSteps:=1000000) [go_sem]
 refine qO (fun _:Unit=>True) (fun _=>[(10,.p (.int .i64 (min n 200)))]) (fun _=>[]) ?_ ?_
 ·by_cases q:200<n
  ·have he:min n 200=200:=by omega
   simp (maxSteps:=1000000) [go_sem,q]
   exact zN () trivial (by simp[go_sem,he])
  ·have he:min n 200=n:=by omega
   simp (maxSteps:=1000000) [go_sem,q]
   exact zN () trivial (by simp[go_sem,he])
 intro _ ts _
 simp (maxSteps:=1000000) [go_sem]
 refine qO (fun _:Unit=>True) (fun _=>[(10,.p (.int .i64 B))]) (fun _=>[]) ?_ ?_
 ·by_cases q:min n 200< -200
  ·have he:B= -200:=by omega
   simp (maxSteps:=1000000) [go_sem,q]
   exact zN () trivial (by simp[go_sem,he])
  ·have he:B=min n 200:=by omega
   simp (maxSteps:=1000000) [go_sem,q]
   exact zN () trivial (by simp[go_sem,he])
 intro _ ts2 _
 simp (maxSteps:=1000000) [go_sem]
 refine zn hfl ?_
 simp (maxSteps:=1000000) [go_sem]
 by_cases q:0<n
 ·have he:zcB L a n=wW L (cnt (pl L) a):=by unfold zcB;rw[if_neg (by omega),if_neg (by omega)]
  have q':¬n<0:=by omega
  rw[he]at hT3
  simp (maxSteps:=1000000) [go_sem,q]
  obtain⟨u0,hu0⟩:∃u0:Nat,(u0:Int)=max a 0:=⟨(max a 0).toNat,by omega⟩
  have hc0:cnt (pl L) u0=cnt (pl L) a:=by
   by_cases g:a≤0
   ·rw[WN g,WN (by omega)]
   ·have:(u0:Int)=a:=by omega
    rw[this]
  refine qO (fun _:Unit=>True) (fun _=>[(12,.p (.int .i64 u0))]) (fun _=>[]) ?_ ?_
  ·by_cases g:a<0
   ·have he:(u0:Int)=0:=by omega
    simp (maxSteps:=1000000) [go_sem,g]
    exact zN () trivial (by simp[go_sem,he])
   ·have he:(u0:Int)=a:=by omega
    simp (maxSteps:=1000000) [go_sem,g]
    exact zN () trivial (by simp[go_sem,he])
  intro _ ts3 _
  have kc:=zfy L a
  simp (maxSteps:=1000000) [go_sem]
  refine loop (fun u:Nat=>cnt (pl L) u=cnt (pl L) a) (fun u=>[(12,.p (.int .i64 u))]) (fun _=>[]) (fun u=>t.length-u) u0 hc0 (fun u hu=>?_)
  by_cases d:u<t.length∧isB L u=false
  ·obtain⟨d,hv⟩:=d
   have hb:=y5 hln (u:Nat)
   rw[hv]at hb
   have hn1:=zjR hcl (i:=u) (by omega)
   rw[hv,if_neg (by decide),Nat.add_zero,hu]at hn1
   have w1:IntKind.i64.wrap ((u:Int)+1)=((u+1:Nat):Int):=zT (by omega)
   simp (maxSteps:=1000000) [go_sem,d]
   refine zn hb ?_
   simp (maxSteps:=1000000) [go_sem,w1]
   exact next (u+1) (by rw[←hn1];rfl) (h3:=by show t.length- (u+1)<t.length-u;omega)
  ·have hf:CR Tryz.prog 28 [] [.p (zI za),.p (zh t),.p (.int .i64 u)] [] (is (.p (.int .i64 (plc L (wW L (cnt (pl L) a)):Nat)))):=by
    by_cases d2:u<t.length
    ·have hv:isB L u=true:=by
      cases h:isB L u with
      |true=>rfl
      |false=>exact absurd ⟨d2,h⟩ d
     have hst:=Xx hcl hv
     rw[hu]at hst
     have hf:=zfW hln kc
     rw[hst]at hf
     exact hf
    ·have hce:=zgh hcl (a:=(u:Int)) (by omega)
     rw[hu]at hce
     have hlast:plc L (wW L (cnt (pl L) a))=t.length:=by rw[hce,zcY,qF,hsum]
     rw[hlast]
     by_cases g:u=t.length
     ·have:=zfW hln (Nat.le_refl L.length)
      rw[zcY,qF,hsum]at this
      rw[g];exact this
     ·exact zg8 hln (by omega)
   by_cases d2:u<t.length
   ·have hv:isB L u=true:=by
     cases h:isB L u with
     |true=>rfl
     |false=>exact absurd ⟨d2,h⟩ d
    have hb:=y5 hln (u:Nat)
    rw[hv]at hb
    simp (maxSteps:=1000000) [go_sem,d2]
    refine zn hb ?_
    simp (maxSteps:=1000000) [go_sem]
    refine zn hf ?_
    simp (maxSteps:=1000000) [go_sem,q']
    refine call (xm 21) hT1 ?_
    rintro _ _ ⟨rfl,rfl⟩
    simp (maxSteps:=1000000) [go_sem]
    refine zn hfl ?_
    simp (maxSteps:=1000000) [go_sem]
    refine call (xm 21) hT2 ?_
    rintro _ _ ⟨rfl,rfl⟩
    simp (maxSteps:=1000000) [go_sem]
    refine zn hD2 ?_
    simp (maxSteps:=1000000) [go_sem]
    refine call (xm 21) hT3 ?_
    rintro _ _ ⟨rfl,rfl⟩
    simp (maxSteps:=1000000) [go_sem]
    refine zn ye ?_
    simp (maxSteps:=1000000) [go_sem]
    exact ret
   ·simp (maxSteps:=1000000) [go_sem,d2]
    refine zn hf ?_
    simp (maxSteps:=1000000) [go_sem,q']
    refine call (xm 21) hT1 ?_
    rintro _ _ ⟨rfl,rfl⟩
    simp (maxSteps:=1000000) [go_sem]
    refine zn hfl ?_
    simp (maxSteps:=1000000) [go_sem]
    refine call (xm 21) hT2 ?_
    rintro _ _ ⟨rfl,rfl⟩
    simp (maxSteps:=1000000) [go_sem]
    refine zn hD2 ?_
    simp (maxSteps:=1000000) [go_sem]
    refine call (xm 21) hT3 ?_
    rintro _ _ ⟨rfl,rfl⟩
    simp (maxSteps:=1000000) [go_sem]
    refine zn ye ?_
    simp (maxSteps:=1000000) [go_sem]
    exact ret
 ·simp (maxSteps:=1000000) [go_sem,q]
  by_cases q2:n<0
  ·have he:zcB L a n=YF L (kf L a):=by unfold zcB;rw[if_pos q2]
   rw[he]at hT3
   simp (maxSteps:=1000000) [go_sem,q2]
   refine zn hfl ?_
   simp (maxSteps:=1000000) [go_sem]
   refine zn (zks hln kl) ?_
   simp (maxSteps:=1000000) [go_sem]
   refine call (xm 21) hT1 ?_
   rintro _ _ ⟨rfl,rfl⟩
   simp (maxSteps:=1000000) [go_sem]
   refine zn hfl ?_
   simp (maxSteps:=1000000) [go_sem]
   refine call (xm 21) hT2 ?_
   rintro _ _ ⟨rfl,rfl⟩
   simp (maxSteps:=1000000) [go_sem]
   refine zn hD2 ?_
   simp (maxSteps:=1000000) [go_sem]
   refine call (xm 21) hT3 ?_
   rintro _ _ ⟨rfl,rfl⟩
   simp (maxSteps:=1000000) [go_sem]
   refine zn ye ?_
   simp (maxSteps:=1000000) [go_sem]
   exact ret
  ·have he:zcB L a n=kf L a:=by unfold zcB;rw[if_neg q2,if_pos (by omega)]
   rw[he]at hT3
   simp (maxSteps:=1000000) [go_sem,q2]
   refine call (xm 21) hT1 ?_
   rintro _ _ ⟨rfl,rfl⟩
   simp (maxSteps:=1000000) [go_sem]
   refine zn hfl ?_
   simp (maxSteps:=1000000) [go_sem]
   refine call (xm 21) hT2 ?_
   rintro _ _ ⟨rfl,rfl⟩
   simp (maxSteps:=1000000) [go_sem]
   refine zn hD2 ?_
   simp (maxSteps:=1000000) [go_sem]
   refine call (xm 21) hT3 ?_
   rintro _ _ ⟨rfl,rfl⟩
   simp (maxSteps:=1000000) [go_sem]
   refine zn ye ?_
   simp (maxSteps:=1000000) [go_sem]
   exact ret
end Go.Proofs.YthbmelihnabkaaaGreat
end
