/- A part of the proof of this seat's statements, by an abstract machine: what each operation does to values, and what the law's functions compute. Conditions: as each law says. -/
import Derived.Test.YthbmelihnabkaaaGreatW44
section
namespace Go.Proofs.YthbmelihnabkaaaGreat
open Go.AM
set_option maxHeartbeats 4000000
set_option maxRecDepth 10000
attribute [local irreducible] za
def Zi(l s:List Int)(b p:Nat):Nat→Nat→Nat
 |0,m=>m
 |k+1,m=>if p≤k∧b<m∧l.getD k 0=s.getD (m-1) 0 then Zi l s b p k (m-1)else m
theorem zjU [Gi](l s:List Int)(hl:l.length<2^31)(hs:s.length<2^31)(b o c p:Nat)(ho:o≤l.length)(hc:c≤s.length)(hb:b<2^31)(hp:p<2^31):
  CR Tryz.prog 67 [] [.p (zh l),.p (zh s),.p (xA b o c),.p (.int .i64 p)] [] (is (.p (.int .i64 (Zi l s b p o c:Nat)))):=by
 refine walk Tryz.func67 11 [] [1] [] ?_
 simp (maxSteps:=1000000) [go_sem,Tryz.f67,xA]
 refine loop (fun i:Nat×Nat=>i.1≤l.length∧i.2≤s.length∧Zi l s b p i.1 i.2=Zi l s b p o c) (fun i=>[(9,.p (.int .i64 i.1)),(10,.p (.int .i64 i.2))]) (fun _=>[]) (fun i=>i.1) (o,c) ⟨ho,hc,rfl⟩ (fun i hi=>?_)
 obtain⟨k,m⟩:=i
 obtain⟨i1,i2,i3⟩:=hi
 simp only at i1 i2 i3
 rw[←i3]
 by_cases d1:p<k
 ·obtain⟨k',hk⟩:∃k',k=k'+1:=⟨k-1,by omega⟩
  by_cases d2:b<m
  ·obtain⟨m',hm⟩:∃m',m=m'+1:=⟨m-1,by omega⟩
   have w1:IntKind.i64.wrap ((k:Int)-1)=(k':Int):=zq (by omega) hk
   have w2:IntKind.i64.wrap ((m:Int)-1)=(m':Int):=zq (by omega) hm
   have a1:k'<l.length:=by omega
   have a2:m'<s.length:=by omega
   have e1:=Qj a1
   have e2:=Qj a2
   have hst:Zi l s b p k m=if l.getD k' 0=s.getD m' 0 then Zi l s b p k' m' else m:=by
    rw[hk,hm]
    unfold Zi
    have e3:m'+1-1=m':=rfl
    rw[e3]
    by_cases q:l.getD k' 0=s.getD m' 0
    ·rw[if_pos ⟨by omega,by omega,q⟩,if_pos q]
     cases k'<;>rfl
    ·rw[if_neg (fun h=>q h.2.2),if_neg q]
   generalize l.getD k' 0=x at e1 hst
   generalize s.getD m' 0=y at e2 hst
   rw[hst]
   by_cases q:x=y
   ·simp (maxSteps:=1000000) [go_sem,d1,d2,w1,w2,e1,e2,a1,a2,q]
    exact next (k',m') ⟨by show k'≤_;omega,by show m'≤_;omega,rfl⟩ (h3:=by show k'<k;omega)
   ·simp (maxSteps:=1000000) [go_sem,d1,d2,w1,w2,e1,e2,a1,a2,q]
    exact ret
  ·have hst:Zi l s b p k m=m:=by
    rw[hk];unfold Zi;rw[if_neg (fun h=>d2 h.2.1)]
   rw[hst]
   obtain⟨x1,y1,z1⟩:=zx s (IntKind.i64.wrap ((m:Int)-1)).toNat
   obtain⟨x2,y2,z2⟩:=zx l (IntKind.i64.wrap ((k:Int)-1)).toNat
   by_cases z3:x2=x1
   ·simp (maxSteps:=1000000) [go_sem,d1,d2,z1,z2,z3]
    exact ret
   ·simp (maxSteps:=1000000) [go_sem,d1,d2,z1,z2,z3]
    exact ret
 ·have hst:Zi l s b p k m=m:=by
   cases k with
   |zero=>rfl
   |succ k=>unfold Zi;rw[if_neg (fun h=>d1 (by omega))]
  rw[hst]
  obtain⟨x1,y1,z1⟩:=zx s (IntKind.i64.wrap ((m:Int)-1)).toNat
  obtain⟨x2,y2,z2⟩:=zx l (IntKind.i64.wrap ((k:Int)-1)).toNat
  by_cases z3:x2=x1
  ·simp (maxSteps:=1000000) [go_sem,d1,z1,z2,z3]
   exact ret
  ·simp (maxSteps:=1000000) [go_sem,d1,z1,z2,z3]
   exact ret
def yD(b:Nat)(x y:List Int):PV:=.agg [.int .i64 b,zh x,zh y]
def ziz:OT:=.now 0 2 (.now 2 0 (.now 3 0 (.now 4 0 (.now 5 0 (.now 6 0 (.now 7 0 (.now 9 2 (.now 10 2 (.now 12 2 (.mk [(1,.mk [(8,.now 11 0 (.now 13 0 (.now 14 0 (.mk [(15,.now 16 0 (.mk [(17,.mk [])]))])))),(11,.mk [(8,.now 13 0 (.now 14 0 (.mk [(15,.now 16 0 (.mk [(17,.mk [])]))]))),(13,.mk [(8,.now 14 0 (.mk [(15,.now 16 0 (.mk [(17,.mk [])]))])),(14,.mk [(8,.mk [(15,.now 16 0 (.mk [(17,.mk [])]))])])])]),(13,.mk [(8,.now 11 0 (.now 14 0 (.mk [(15,.now 16 0 (.mk [(17,.mk [])]))]))),(11,.mk [(8,.now 14 0 (.mk [(15,.now 16 0 (.mk [(17,.mk [])]))])),(14,.mk [(8,.mk [(15,.now 16 0 (.mk [(17,.mk [])]))])])])])]),(8,.now 11 0 (.now 13 0 (.now 14 0 (.mk [(1,.mk [(15,.now 16 0 (.mk [(17,.mk [])]))]),(15,.now 1 0 (.now 16 0 (.mk [(17,.mk [])])))])))),(11,.mk [(1,.mk [(8,.now 13 0 (.now 14 0 (.mk [(15,.now 16 0 (.mk [(17,.mk [])]))]))),(13,.mk [(8,.now 14 0 (.mk [(15,.now 16 0 (.mk [(17,.mk [])]))])),(14,.mk [(8,.mk [(15,.now 16 0 (.mk [(17,.mk [])]))])])])]),(8,.now 13 0 (.now 14 0 (.mk [(1,.mk [(15,.now 16 0 (.mk [(17,.mk [])]))]),(15,.now 1 0 (.now 16 0 (.mk [(17,.mk [])])))]))),(13,.mk [(1,.mk [(8,.now 14 0 (.mk [(15,.now 16 0 (.mk [(17,.mk [])]))])),(14,.mk [(8,.mk [(15,.now 16 0 (.mk [(17,.mk [])]))])])]),(8,.now 14 0 (.mk [(1,.mk [(15,.now 16 0 (.mk [(17,.mk [])]))]),(15,.now 1 0 (.now 16 0 (.mk [(17,.mk [])])))])),(14,.mk [(1,.mk [(8,.mk [(15,.now 16 0 (.mk [(17,.mk [])]))])]),(8,.mk [(1,.mk [(15,.now 16 0 (.mk [(17,.mk [])]))]),(15,.now 1 0 (.now 16 0 (.mk [(17,.mk [])])))])])])]),(13,.mk [(1,.mk [(8,.now 11 0 (.now 14 0 (.mk [(15,.now 16 0 (.mk [(17,.mk [])]))]))),(11,.mk [(8,.now 14 0 (.mk [(15,.now 16 0 (.mk [(17,.mk [])]))])),(14,.mk [(8,.mk [(15,.now 16 0 (.mk [(17,.mk [])]))])])])]),(8,.now 11 0 (.now 14 0 (.mk [(1,.mk [(15,.now 16 0 (.mk [(17,.mk [])]))]),(15,.now 1 0 (.now 16 0 (.mk [(17,.mk [])])))]))),(11,.mk [(1,.mk [(8,.now 14 0 (.mk [(15,.now 16 0 (.mk [(17,.mk [])]))])),(14,.mk [(8,.mk [(15,.now 16 0 (.mk [(17,.mk [])]))])])]),(8,.now 14 0 (.mk [(1,.mk [(15,.now 16 0 (.mk [(17,.mk [])]))]),(15,.now 1 0 (.now 16 0 (.mk [(17,.mk [])])))])),(14,.mk [(1,.mk [(8,.mk [(15,.now 16 0 (.mk [(17,.mk [])]))])]),(8,.mk [(1,.mk [(15,.now 16 0 (.mk [(17,.mk [])]))]),(15,.now 1 0 (.now 16 0 (.mk [(17,.mk [])])))])])])])]))))))))))
theorem zeO [Gi](l s:List Int)(hl:l.length<2^31)(hs:s.length<2^31)(b o c:Nat)(h1:b≤o)(h2:b≤c)(ho:o≤l.length)(hc:c≤s.length):
  CR Tryz.prog 68 [] [.p (zh l),.p (zh s),.p (xA b o c)] [] (is (.p (yD b (cut l b o) (cut s b c)))):=by
 refine walk Tryz.func68 7 [] [200001] [] ?_
 have q1:(cut l (b:Nat) (o:Nat)).length*4≤140737488355328:=by
  unfold cut;rw[List.length_take,List.length_drop];omega
 have q2:(cut s (b:Nat) (c:Nat)).length*4≤140737488355328:=by
  unfold cut;rw[List.length_take,List.length_drop];omega
 simp (maxSteps:=1000000) [go_sem,Tryz.f68,xA]
 refine zfF ziz {n:=24,nv:=7,vs:=[(0,.p (.sl 1 (zr l))),(1,.p (.sl 1 (zr s))),(2,.p (.agg [.int .i64 b,.int .i64 o,.int .i64 c])),(5,.lp [5] 0),(6,.lp [6] 0)],ts:=[],rs:=[([5],[.p (.int .i64 b),.p (.int .i64 o),.p (.int .i64 c)]),([6],[.p (.int .i64 b),.p (.sl 1 (zr (cut l b o))),.p (.sl 1 (zr (cut s b c)))])]} (by kernel_rfl) ?_ ?_
 ·simp (maxSteps:=1000000) [go_sem,ziz,LeS,leV,leR,leA,leL,q1,q2,h1,h2,ho,hc]
 ·simp (maxSteps:=1000000) [go_sem]
  exact ret (hx:=by simp[go_sem,zd,leA,leT,yD])
end Go.Proofs.YthbmelihnabkaaaGreat
end
