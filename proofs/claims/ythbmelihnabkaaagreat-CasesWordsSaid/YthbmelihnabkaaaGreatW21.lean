/- A part of the proof of this seat's statements, by an abstract machine: what each operation does to values, and what the law's functions compute. Conditions: as each law says. -/
import Derived.Test.YthbmelihnabkaaaGreatW20
import Derived.Test.YthbmelihnabkaaaGreatW17
import Derived.Test.YthbmelihnabkaaaGreatW19
import Derived.Test.YthbmelihnabkaaaGreatW18
section
namespace Go.Proofs.YthbmelihnabkaaaGreat
open Go.AM
set_option maxHeartbeats 8000000
set_option maxRecDepth 10000
def VW:OT:=.now 0 2 (.now 1 2 (.now 2 2 (.now 3 2 (.now 5 0 (.now 6 0 (.mk [(4,.mk [(7,.mk [(8,.mk [(9,.now 10 0 (.now 11 0 (.mk [(12,.mk [])])))])])]),(7,.now 4 1 (.mk [(8,.mk [(9,.now 10 0 (.now 11 0 (.mk [(12,.mk [])])))])]))]))))))
structure BS(α:Type)where
 idx:List Nat
 blocks:List (List PV)
 k2:List PV
 x2:List PV
 v:α
 u:Int
structure BI {α:Type}(ag:Bool)(kc:List Kc)(w size:Nat)(cells:α→List PV)(zero:α)(l:List (QH α))(b:BS α):Prop where
 ok:yi w size (fun j=>cells (qS zero j l)) b.idx b.blocks
 bl:∀x∈b.blocks,okC (qH 128 kc) x=true
 ev:jX ag kc b.blocks b.k2 b.x2
 le:b.blocks.length≤b.idx.length
 lt:128*b.idx.length<size+128
 u0:0≤b.u
 u1:b.u<size
 vl:∀j:Int,(128*b.idx.length:Nat)≤j→j≤b.u→qS zero j l=b.v
def wS {α:Type}(w size:Nat)(b:BS α):List (Tok×List AV):=
 [([20],[.p (.int .i64 size),.os [20,1] 1 (b.idx.map fun k:Nat=>.int .i64 k),.os [20,2] (128*w) (b.blocks.map .agg)]),([25],[.lp [20] 0,.om [22] (b.blocks.map .agg) (ja b.blocks.length),.om [23] b.k2 b.x2])]
theorem zdV [Gi](l:List (QH Int))(size:Nat)(h0:0<size)(hs:size<2^28)(hn:l.length<2^31)(hb:∀p∈l, -1000000000≤p.f∧p.f≤1000000000):
  CR Tryz.prog 90 [] [.p (.int .i64 size),.p (.int .i64 0),.p (xi l)] []
   (fun x rs=>∃idx blocks,x=.lp [20] 0∧yi 1 size (fun j=>[.int .i64 (qS 0 j l)]) idx blocks∧size≤128*idx.length∧rs=[([20],[.p (.int .i64 size),.os [20,1] 1 (idx.map fun k:Nat=>.int .i64 k),.os [20,2] 128 (blocks.map .agg)])]):=by
 refine zS [200026] mixed 16 [88] Tryz.func90 rfl (by kernel_rfl) rfl (by simp) (by simp) ?_
 have e0:¬(size:Int)<1:=by omega
 have w0:IntKind.i64.wrap ((size:Int)-1)=(size:Int)-1:=wrap64 (by omega) (by omega)
 simp (maxSteps:=1000000) (disch:=omega) [go_sem,Tryz.f90,e0,w0]
 refine⟨rfl,⟨rfl,rfl⟩,⟨rfl,by simp[Tryz.f141]⟩,?_⟩
 refine zc [] (YN l 0 0 ((size:Int)-1) hn hb) (by simp[go_sem]) ⟨by simp[go_sem],by simp[go_sem]⟩ (by simp[go_sem]) ?_
 rintro y rs ⟨rfl,rfl⟩
 obtain⟨f1,f2,f3⟩:=ZU 0 0 l ((size:Int)-1) (by omega)
 generalize ZC 0 0 l ((size:Int)-1)=r at f1 f2 f3
 obtain⟨v0,u0⟩:=r
 simp only at f1 f2 f3
 simp (maxSteps:=1000000) (disch:=omega) [go_sem]
 refine zm (fun b:BS Int=>BI false [.i .i64] 1 size (fun v=>[.int .i64 v]) 0 l b) (fun b=>[(9,.p (.int .i64 b.v)),(10,.p (.int .i64 b.u)),(11,.p (.int .i64 (128*(b.idx.length:Int))))]) (fun b=>wS 1 size b) (fun b=>size+128-128*b.idx.length) ⟨[],[],[],[],v0,u0⟩
  ⟨.nil _ _ _,by simp,⟨rfl,by simp,by simp⟩,by simp,by simp,f1,by show u0< (size:Int);omega,fun j h1 h2=>f3 j (by simpa using h1) h2⟩ ?_ (fun b hI=>?_)
 ·simp[go_sem,LeS,leV,leR,leA,leL,wS,ja]
 obtain⟨idx,blocks,k2,x2,v,u⟩:=b
 obtain⟨i1,i2,i3,i4,i5,i6,i7,i8⟩:=hI
 simp only at i1 i2 i3 i4 i5 i6 i7 i8
 simp (maxSteps:=1000000) (disch:=omega) [go_sem,wS]
 refine zw (fun hat=>?_) (fun hat=>?_)
 ·simp (maxSteps:=1000000) (disch:=omega) [go_sem]
  refine Zt (fun r:Int×Int=>0≤r.2∧r.2<size∧128*(idx.length:Int)≤r.2∧∀j,128*(idx.length:Int)≤j→j≤r.2→qS 0 j l=r.1) (fun r=>[(9,.p (.int .i64 r.1)),(10,.p (.int .i64 r.2))]) (fun _=>[]) (zw (fun hu=>?_) (fun hu=>?_)) ?_
  ·simp (maxSteps:=1000000) (disch:=omega) [go_sem]
   refine⟨⟨rfl,by simp[Tryz.f141]⟩,?_⟩
   refine zc [] (YN l 0 (128*(idx.length:Int)) ((size:Int)-1) hn hb) (by simp[go_sem]) ⟨by simp[go_sem],by simp[go_sem,w0]⟩ (by simp[go_sem]) ?_
   rintro y rs ⟨rfl,rfl⟩
   obtain⟨g1,g2,g3⟩:=ZU 0 (128*(idx.length:Int)) l ((size:Int)-1) (by omega)
   generalize ZC 0 (128*(idx.length:Int)) l ((size:Int)-1)=r at g1 g2 g3
   obtain⟨v',u'⟩:=r
   simp only at g1 g2 g3
   simp (maxSteps:=1000000) (disch:=omega) [go_sem]
   exact zW (v',u') ⟨by show 0≤u';omega,by show u'< (size:Int);omega,g1,g3⟩ (by simp[go_sem])
  ·simp (maxSteps:=1000000) (disch:=omega) [go_sem]
   exact zW (v,u) ⟨i6,i7,by show 128*(idx.length:Int)≤u;omega,i8⟩ (by simp[go_sem])
  ·clear i6 i7 i8
   rintro⟨v',u'⟩ ts ⟨j1,j2,j3,j4⟩
   simp only at j1 j2 j3 j4
   have w1:IntKind.i64.wrap (128*(idx.length:Int)+128)=128*(idx.length:Int)+128:=wrap64 (by omega) (by omega)
   have w2:IntKind.i64.wrap (min (128*(idx.length:Int)+128) (size:Int)-1)=min (128*(idx.length:Int)+128) (size:Int)-1:=wrap64 (by omega) (by omega)
   simp (maxSteps:=1000000) (disch:=omega) [go_sem,w1,w2]
   refine zw (fun hu=>?_) (fun hu=>?_)
   ·simp (maxSteps:=1000000) (disch:=omega) [go_sem]
    refine⟨⟨rfl,by simp[Tryz.f142]⟩,?_⟩
    refine zc [([0],[25]),([1],[20]),([902],[22]),([903],[23]),([904],[20,1]),([905],[20,2])] (zhn true size idx blocks k2 x2 v' i2 (by omega) i3) (by simp[go_sem]) ⟨by simp[go_sem],by simp[go_sem]⟩ (by simp[go_sem,zV,Zo]) ?_
    rintro _ _ ⟨kk,bl,k2',x2',rfl,hk,hbl,hE,rfl⟩
    simp (maxSteps:=1000000) (disch:=omega) [go_sem,zV,Zo]
    have hbn:bl.length≤blocks.length+1:=by rcases hbl with rfl|rfl<;>simp
    have i1':=i1.grow hbl
    have i2':∀x∈bl,okC (qH 128 [.i .i64]) x=true:=fun x hx=>by
     rcases hbl with rfl|rfl
     ·exact i2 x hx
     ·rcases List.mem_append.1 hx with hx|hx
      ·exact i2 x hx
      ·rw[List.mem_singleton.1 hx];exact xM 128 rfl
    refine zm (fun id:List Nat=>yi 1 size (fun j=>[.int .i64 (qS 0 j l)]) id bl∧idx.length≤id.length∧128*id.length<size+128∧(id.length=idx.length∨idx.length<id.length)) (fun id=>[(11,.p (.int .i64 (128*(id.length:Int))))]) (fun id=>[([20],[.p (.int .i64 size),.os [20,1] 1 (id.map fun k:Nat=>.int .i64 k),.os [20,2] 128 (bl.map .agg)])]) (fun id=>size+128-128*id.length) idx ⟨i1',Nat.le_refl _,i5,.inl rfl⟩ ?_ (fun id hid=>?_)
    ·simp[go_sem,LeS,leV,leR,leA,leL]
    obtain⟨q1,q2,q3,q4⟩:=hid
    have w3:IntKind.i64.wrap (128*(id.length:Int)+128)=128*(id.length:Int)+128:=wrap64 (by omega) (by omega)
    have w4:IntKind.i64.wrap (min (128*(id.length:Int)+128) (size:Int)-1)=min (128*(id.length:Int)+128) (size:Int)-1:=wrap64 (by omega) (by omega)
    have w5:IntKind.i64.wrap (128*(id.length:Int)-128)=128*(id.length:Int)-128:=wrap64 (by omega) (by omega)
    simp (maxSteps:=1000000) (disch:=omega) [go_sem,w3,w4]
    refine qk (fun hc=>?_) (fun hc=>?_)
    ·have hc':128*(id.length:Int)<size∧min (128*(id.length:Int)+128) (size:Int)-1≤u':=by simpa using hc
     simp (maxSteps:=1000000) (disch:=omega) [go_sem,w3]
     refine⟨by omega,zf (id++[kk]) ⟨q1.add hk (by simp[qC,PV.cells]) (fun j hj1 hj2=>?_),by simp;omega,by simp;omega,.inr (by simp;omega)⟩ ?_ (by simp;omega)⟩
     ·rw[UK (w:=1) rfl hj1,j4 (((128*id.length+j:Nat):Int)) (by omega) (by omega)]
      rfl
     ·simp[go_sem,LeS,leV,leR,leA,leL,Int.mul_add]
    ·have hc':¬(128*(id.length:Int)<size∧min (128*(id.length:Int)+128) (size:Int)-1≤u'):=fun h=>by simp[h.1,h.2]at hc
     have hlt:idx.length<id.length:=by
      rcases q4 with q4|q4
      ·exact absurd ⟨by rw[q4];exact hat,by rw[q4];exact hu⟩ hc'
      ·exact q4
     have w6:IntKind.i64.wrap (128*(id.length:Int)-128+128)=128*(id.length:Int):=by rw[wrap64 (by omega) (by omega)];omega
     have w7:IntKind.i64.wrap (128*(id.length:Int))=128*(id.length:Int):=wrap64 (by omega) (by omega)
     simp (maxSteps:=1000000) (disch:=omega) [go_sem,w5,w7]
     exact zf ⟨id,bl,k2',x2',v',u'⟩ ⟨q1,i2',hE,by show bl.length≤id.length;omega,by show 128*id.length<size+128;omega,j1,j2,fun j h1 h2=>j4 j (by simp only at h1;omega) h2⟩ (by simp[go_sem,LeS,leV,leR,leA,leL]) (by show size+128-128*id.length<size+128-128*idx.length;omega)
   ·simp (maxSteps:=1000000) (disch:=omega) [go_sem]
    refine⟨?_,?_⟩
    ·intro x hx
     obtain⟨l,hl,hx⟩:=List.mem_flatten.1 hx
     rw[List.eq_of_mem_replicate hl]at hx
     simp only[List.mem_cons,List.not_mem_nil,or_false]at hx
     rcases hx with rfl<;>rfl
    refine zm (fun r:List (List PV)×Int×Int=>r.1.length≤128∧(∀x∈r.1,okC [.i .i64] x=true)∧(∀j:Nat,j<r.1.length→128*idx.length+j<size→r.1[j]?=some [.int .i64 (qS 0 ((128*idx.length+j:Nat):Int) l)])∧0≤r.2.2∧r.2.2<size∧∀j:Int,128*(idx.length:Int)+r.1.length≤j→j≤r.2.2→qS 0 j l=r.2.1)
     (fun r=>[(88,.p (.int .i64 (r.1.length:Nat))),(9,.p (.int .i64 r.2.1)),(10,.p (.int .i64 r.2.2))]) (fun r=>[([14],(yf r.1 [.int .i64 0]).map .p)]) (fun r=>128-r.1.length) ([],v',u')
     ⟨by simp,by simp,by simp,j1,j2,fun j h1 h2=>j4 j (by simpa using h1) h2⟩ ?_ (fun r hr=>?_)
    ·simp[go_sem,LeS,leV,leR,leA,leL,xY,zj]
    obtain⟨vs,v2,u2⟩:=r
    obtain⟨q1,q2,q3,q4,q5,q6⟩:=hr
    simp only at q1 q2 q3 q4 q5 q6
    simp (maxSteps:=1000000) (disch:=omega) [go_sem]
    refine zw (fun hc=>?_) (fun hc=>?_)
    ·have w3:IntKind.i64.wrap (128*(idx.length:Int)+vs.length)=128*(idx.length:Int)+vs.length:=wrap64 (by omega) (by omega)
     simp (maxSteps:=1000000) (disch:=omega) [go_sem,w3]
     refine Zt (fun r:Int×Int=>0≤r.2∧r.2<size∧(128*(idx.length:Int)+vs.length<size→128*(idx.length:Int)+vs.length≤r.2)∧∀j,128*(idx.length:Int)+vs.length≤j→j≤r.2→qS 0 j l=r.1) (fun r=>[(9,.p (.int .i64 r.1)),(10,.p (.int .i64 r.2))]) (fun _=>[]) (qk (fun hu=>?_) (fun hu=>?_)) ?_
     ·have hu':u2<128*(idx.length:Int)+vs.length∧128*(idx.length:Int)+vs.length<size:=by simpa using hu
      simp (maxSteps:=1000000) (disch:=omega) [go_sem,w3]
      refine⟨⟨rfl,by simp[Tryz.f141]⟩,?_⟩
      refine zc [] (YN l 0 (128*(idx.length:Int)+vs.length) ((size:Int)-1) hn hb) (by simp[go_sem]) ⟨by simp[go_sem],by simp[go_sem,w0]⟩ (by simp[go_sem]) ?_
      rintro y rs ⟨rfl,rfl⟩
      obtain⟨g1,g2,g3⟩:=ZU 0 (128*(idx.length:Int)+vs.length) l ((size:Int)-1) (by omega)
      generalize ZC 0 (128*(idx.length:Int)+vs.length) l ((size:Int)-1)=r at g1 g2 g3
      obtain⟨v3,u3⟩:=r
      simp only at g1 g2 g3
      simp (maxSteps:=1000000) (disch:=omega) [go_sem]
      exact zW (v3,u3) ⟨by show 0≤u3;omega,by show u3< (size:Int);omega,fun _=>g1,g3⟩ (by simp[go_sem])
     ·have hu':¬(u2<128*(idx.length:Int)+vs.length∧128*(idx.length:Int)+vs.length<size):=fun h=>by simp[h.1,h.2]at hu
      simp (maxSteps:=1000000) (disch:=omega) [go_sem]
      exact zW (v2,u2) ⟨q4,q5,fun h=>by show 128*(idx.length:Int)+vs.length≤u2;omega,q6⟩ (by simp[go_sem])
     ·rintro⟨v3,u3⟩ ts2 ⟨k1,k2',k3,k4⟩
      simp only at k1 k2' k3 k4
      have hw:∀x∈vs,x.length=1:=fun x hx=>by have:=ZF (q2 x hx);simpa using this
      have hlen:(yf vs [PV.int .i64 0]).length=128:=we (w:=1) hw rfl (by omega)
      have hput:=x5 (vs:=vs) (z:=[.int .i64 0]) (v:=[.int .i64 v3]) (w:=1) hw rfl rfl (by omega)
      simp only[Nat.mul_one,List.map_cons,List.map_nil,z7,List.length_cons,List.length_nil,Nat.zero_add,List.append_assoc,List.cons_append,List.nil_append]at hput
      have w4:IntKind.i64.wrap ((vs.length:Int)+1)=(vs.length:Int)+1:=wrap64 (by omega) (by omega)
      simp (maxSteps:=1000000) (disch:=omega) [go_sem,w4,hlen,hput,hc]
      refine⟨by omega,zf (vs++[[.int .i64 v3]],v3,u3) ⟨by simp;omega,fun x hx=>?_,fun j hj1 hj2=>?_,k1,k2',fun j h1 h2=>k4 j (by simp at h1;omega) h2⟩ (by simp[go_sem,LeS,leV,leR,leA,leL,zj]) (by simp;omega)⟩
      ·rcases List.mem_append.1 hx with hx|hx
       ·exact q2 x hx
       ·rw[List.mem_singleton.1 hx];rfl
      ·by_cases hj:j<vs.length
       ·rw[List.getElem?_append_left hj];exact q3 j hj hj2
       ·have hjl:j=vs.length:=by simp at hj1;omega
        subst hjl
        rw[List.getElem?_append_right (Nat.le_refl _),Nat.sub_self]
        have hv:qS 0 (128*(idx.length:Int)+vs.length) l=v3:=k4 _ (by omega) (by have:=k3 (by omega);omega)
        rw[hv];rfl
    ·have hvl:vs.length=128:=by omega
     have hw:∀x∈vs,x.length=1:=fun x hx=>by have:=ZF (q2 x hx);simpa using this
     have hrow:yf vs [PV.int .i64 0]=vs.flatten:=by simp[yf,hvl,qH]
     have hok:okC (qH 128 [.i .i64]) vs.flatten=true:=KN q2 hvl
     have hfl:vs.flatten.length=128:=by have:=ZF hok;simpa[qC]using this
     simp only[hrow]
     have hpart:∀j,j<128→128*idx.length+j<size→(vs.flatten.drop (j*1)).take 1=[.int .i64 (qS 0 ((128*idx.length+j:Nat):Int) l)]:=fun j h1 h2=>by
      have:=kh (w:=1) (t:=[]) hw (q3 j (by omega) h2)
      simpa using this
     generalize vs.flatten=cs at hok hfl hpart
     have ht:=QN hfl
     simp (maxSteps:=1000000) (disch:=omega) [go_sem]
     refine Zh VW (by kernel_rfl) ?_
     simp (maxSteps:=1000000) (disch:=omega) [go_sem,VW,ht,hfl]
     refine⟨?_,?_⟩
     ·refine⟨⟨rfl,by simp[Tryz.f143]⟩,zc [([0],[25]),([1],[20]),([902],[22]),([903],[23]),([905],[20,2])] (wZ (US false size idx blocks k2 x2 cs hok i2 (by omega))) (by simp[go_sem]) ⟨by simp[go_sem],by simp[go_sem]⟩ (by simp[go_sem,zV,Zo]) ?_⟩
      rintro _ _ ⟨kk,bl,rfl,hk,hbl,rfl⟩
      have hbn:bl.length≤blocks.length+1:=by rcases hbl with rfl|rfl<;>simp
      have i2':∀x∈bl,okC (qH 128 [.i .i64]) x=true:=fun x hx=>by
       rcases hbl with rfl|rfl
       ·exact i2 x hx
       ·rcases List.mem_append.1 hx with hx|hx
        ·exact i2 x hx
        ·rw[List.mem_singleton.1 hx];exact hok
      simp (maxSteps:=1000000) (disch:=omega) [go_sem,zV,Zo,w1]
      refine⟨by omega,zf ⟨idx++[kk],bl,k2,x2,v2,u2⟩ ⟨(i1.grow hbl).add hk (by simpa using hfl) hpart,i2',i3.grow hbl,by show bl.length≤(idx++[kk]).length;simp;omega,by show 128*(idx++[kk]).length<size+128;simp;omega,q4,q5,fun j h1 h2=>q6 j (by simp at h1;omega) h2⟩ (by simp[go_sem,LeS,leV,leR,leA,leL,Int.mul_add]) (by show size+128-128*(idx++[kk]).length<size+128-128*idx.length;simp;omega)⟩
     ·refine⟨⟨rfl,by simp[Tryz.f143]⟩,zc [([0],[25]),([1],[20]),([902],[22]),([903],[23]),([904],[20,1]),([905],[20,2])] (wZ (US true size idx blocks k2 x2 cs hok i2 (by omega))) (by simp[go_sem]) ⟨by simp[go_sem],by simp[go_sem]⟩ (by simp[go_sem,zV,Zo]) ?_⟩
      rintro _ _ ⟨kk,bl,rfl,hk,hbl,rfl⟩
      have hbn:bl.length≤blocks.length+1:=by rcases hbl with rfl|rfl<;>simp
      have i2':∀x∈bl,okC (qH 128 [.i .i64]) x=true:=fun x hx=>by
       rcases hbl with rfl|rfl
       ·exact i2 x hx
       ·rcases List.mem_append.1 hx with hx|hx
        ·exact i2 x hx
        ·rw[List.mem_singleton.1 hx];exact hok
      simp (maxSteps:=1000000) (disch:=omega) [go_sem,zV,Zo,w1]
      refine⟨by omega,zf ⟨idx++[kk],bl,k2,x2,v2,u2⟩ ⟨(i1.grow hbl).add hk (by simpa using hfl) hpart,i2',i3.grow hbl,by show bl.length≤(idx++[kk]).length;simp;omega,by show 128*(idx++[kk]).length<size+128;simp;omega,q4,q5,fun j h1 h2=>q6 j (by simp at h1;omega) h2⟩ (by simp[go_sem,LeS,leV,leR,leA,leL,Int.mul_add]) (by show size+128-128*(idx++[kk]).length<size+128-128*idx.length;simp;omega)⟩
 ·simp (maxSteps:=1000000) (disch:=omega) [go_sem]
  refine zi [[20]] (.lp [20] 0) ⟨rfl,by simp⟩ (by simp[go_sem,zd,leA,leT]) ⟨rfl,idx,blocks,i1,by omega,by simp[go_sem]⟩
end Go.Proofs.YthbmelihnabkaaaGreat
end
section
namespace Go.AM
theorem zeq [Gi] {rs:List (Tok×List AV)} {rt:Tok→Bool} {t:Tok} {cs:List AV} {ps:List PV}(hl:zI rs t=some cs)(ht:rt t=false)(hp:zcc cs=some ps):zl5 rt rs (.lp t 0) (.p (.pt cs.length (.agg ps))):=by
 intro g w v hG hv
 simp only[zb]at hv
 obtain⟨b,hk,rfl⟩:=hv
 obtain⟨cs',hl',hfr,arr,T,hb,hle,hc⟩:=hG.roots b t hk
 rw[hl]at hl';injection hl' with hl';subst hl'
 have hx:=xh hG rt
 have hfb:(frz g w rt).fr b=arr.size:=by rw[U7 hk ht];simp[frW,hb]
 have hRC:zp g w cs (arr.toList.take cs.length)∧∀u∈arr.toList.take cs.length,u.oneCell'=true:=by
  have key:∀(ys:List AV) (vs:List Value),ys.length=vs.length→(∀(j:Nat) (x:AV),ys[j]?=some x→∃v,vs[j]?=some v∧v.oneCell'=true∧zb g w x v)→zp g w ys vs∧∀u∈vs,u.oneCell'=true:=by
   intro ys
   induction ys with
   |nil=>intro vs hl _;cases vs with
    |nil=>exact⟨by simp[zp],by simp⟩
    |cons v vs=>simp at hl
   |cons y ys ih=>
    intro vs hl hh
    cases vs with
    |nil=>simp at hl
    |cons v vs=>
     obtain⟨u,hu,h1,hr⟩:=hh 0 y rfl
     simp at hu;subst hu
     obtain⟨i1,i2⟩:=ih vs (by simpa using hl) (fun j x hj=>by simpa using hh (j+1) x (by simpa using hj))
     refine⟨by simp only[zp];exact⟨v,vs,rfl,hr,i1⟩,fun u hu=>?_⟩
     rcases List.mem_cons.1 hu with rfl|hu
     ·exact h1
     ·exact i2 u hu
  refine key cs _ (by simp;omega) (fun j x hj=>?_)
  obtain⟨v,hv,h1,hr⟩:=hc j x hj
  exact⟨v,by rw[List.getElem?_take,if_pos (List.getElem?_eq_some_iff.1 hj).1];simpa using hv,h1,hr⟩
 have hP:=zH.ext hx _ _ (UR hp hRC.2 hRC.1)
 simp only[zb,zl]
 refine⟨b,0,rfl,by rw[hfb];omega,.agg (arr.toList.take cs.length).toArray,⟨_,rfl,by simpa using hP⟩,by simp[Value.cells];omega,fun j c hj=>?_⟩
 have hj':(arr.toList.take cs.length)[j]?=some c:=by simpa[Value.cells]using hj
 refine⟨hRC.2 c (List.mem_of_getElem? hj'),?_⟩
 rw[qq hb,Nat.zero_add]
 rw[List.getElem?_take]at hj'
 split at hj'
 ·simpa using hj'
 ·cases hj'
end Go.AM
end
section
namespace Go.Proofs.YthbmelihnabkaaaGreat
open Go.AM
set_option maxHeartbeats 1000000
def kY(w size:Nat)(val:Nat→List PV)(e:PV):Prop:=∃idx blocks,e=.pt 3 (QL w size idx blocks)∧∀i,i<size→XQ w idx blocks i (val i)
theorem zgR [Gi](l:List (QH Int))(size:Nat)(h0:0<size)(hs:size<2^28)(hn:l.length<2^31)(hb:∀p∈l, -1000000000≤p.f∧p.f≤1000000000):
  CR Tryz.prog 90 [] [.p (.int .i64 size),.p (.int .i64 0),.p (xi l)] [] (fun x rs=>rs=[]∧∃e,x=.p e∧kY 1 size (fun j=>[.int .i64 (qS 0 j l)]) e):=by
 refine CR.freeze (zdV l size h0 hs hn hb) (fun _=>false) rfl ?_
 rintro x rs ⟨idx,blocks,rfl,h1,h2,rfl⟩
 exact⟨_,zeq rfl rfl rfl,rfl,_,rfl,idx,blocks,rfl,fun i hi=>h1.qV h2 hi⟩
theorem XC [Gi] {size:Nat} {val:Nat→Int} {e:PV}(h:kY 1 size (fun j=>[.int .i64 (val j)]) e)(hs:size<2^31) {i:Nat}(hi:i<size):CR Tryz.prog 152 [] [.p e,.p (.int .i64 i)] [] (is (.p (.int .i64 (val i)))):=by
 obtain⟨idx,blocks,rfl,h⟩:=h
 exact zlb size idx blocks i _ hs hi (h i hi)
end Go.Proofs.YthbmelihnabkaaaGreat
end
section
namespace Go.Proofs.YthbmelihnabkaaaGreat
open Go.AM
set_option maxHeartbeats 4000000
set_option maxRecDepth 10000
def jH(r:Row):Span:=⟨max r.f 0,min r.t 1114111,r.a,r.b⟩
def zP(l:List Row)(k:Int):List Span:=(l.filter fun r=>r.k==k).map jH
theorem U0(a b:List Row)(k:Int):zP (a++b) k=zP a k++zP b k:=by simp[zP]
theorem zdA(r:Row)(k:Int):zP [r] k=if r.k=k then [jH r]else []:=by
 by_cases hk:r.k=k<;>simp[zP,hk]
def qZ:List Span→Prop
 | []=>True
 |s::l=>s.f≤s.t∧(∀x∈l,s.t<x.f)∧qZ l
theorem qZ.app {a:List Span} {s:Span} {b:List Span}(h:qZ (a++s::b)):s.f≤s.t∧∀x∈a,x.t<s.f:=by
 induction a with
 |nil=>exact⟨h.1,by simp⟩
 |cons x a ih=>
  obtain⟨h1,h2,h3⟩:=h
  obtain⟨i1,i2⟩:=ih h3
  refine⟨i1,fun y hy=>?_⟩
  rcases List.mem_cons.1 hy with rfl|hy
  ·exact h2 s (by simp)
  ·exact i2 y hy
theorem qZ.left:∀{a b:List Span},qZ (a++b)→qZ a
 | [],_,_=>trivial
 |s::a,b,h=>⟨h.1,fun x hx=>h.2.1 x (by simp[hx]),qZ.left h.2.2⟩
theorem qZ.up:∀{l:List Span},qZ l→Up l
 | [],_=>fun i j x y _ h=>by simp at h
 |s::l,h=>by
  have ih:=qZ.up h.2.2
  intro i j x y hij hi hj
  cases j with
  |zero=>
   obtain rfl:i=0:=by omega
   simp at hi hj
   subst hi;subst hj;exact Int.le_refl _
  |succ j=>
   cases i with
   |zero=>
    simp at hi hj
    subst hi
    have:=h.2.1 y (List.mem_of_getElem? hj)
    have:=h.1
    omega
   |succ i=>exact ih i j x y (by omega) (by simpa using hi) (by simpa using hj)
theorem zal [Gi](l:List Row)(k:Int)(hR:qZ (zP l k))(hb:∀s∈zP l k, -1000000000≤s.t∧s.t≤1000000000)(hn:l.length<2^31)(hS:(zP l k).length<256):
  CR Tryz.prog 48 [] [.p (zJ l),.p (.int .i64 k)] [] (is (.p (zM (Z7 (zP l k))))):=by
 refine zn mixed 13 [] Tryz.func48 rfl (by kernel_rfl) rfl (by simp) (by simp) ?_
 simp (maxSteps:=1000000) [go_sem,Tryz.f48,zJ]
 refine zm (fun i:Nat=>i≤l.length) (fun i=>[(5,.os [5] 4 ((zP (l.take i) k).map z8)),(12,.p (.int .i64 i))]) (fun _=>[]) (fun i=>l.length-i) 0 (by omega) (by simp[go_sem,LeS,leV,leR,leA,zP]) (fun i hi=>?_)
 simp (maxSteps:=1000000) [go_sem]
 refine zw (fun h=>?_) (fun h=>?_)
 ·have hil:i<l.length:=by omega
  have em:=zt rowP l i hil
  have w1:IntKind.i64.wrap ((i:Int)+1)=((i+1:Nat):Int):=by rw[wrap64 (by omega) (by omega)];rfl
  have htake:l.take (i+1)=l.take i++[l[i]]:=by rw[List.take_add_one,List.getElem?_eq_getElem hil];rfl
  have hsp:zP (l.take (i+1)) k=zP (l.take i) k++(if l[i].k=k then [jH l[i]]else []):=by rw[htake,U0,zdA]
  have hall:zP l k=zP (l.take (i+1)) k++zP (l.drop (i+1)) k:=by rw[←U0,List.take_append_drop]
  have hrise:l[i].k=k→qZ (zP (l.take i) k++[jH l[i]]):=fun hk=>by
   rw[hall,hsp,if_pos hk]at hR
   exact hR.left
  have hlen:(zP (l.take (i+1)) k).length<256:=by
   rw[hall,List.length_append]at hS;omega
  generalize l[i]=r at em hsp hrise
  simp (maxSteps:=1000000) [go_sem,em,h,rowP]
  refine xJ (fun hk=>?_) (fun hk=>?_)
  ·rw[if_neg hk,List.append_nil]at hsp
   simp (maxSteps:=1000000) [go_sem,w1]
   exact zf (i+1) (by omega) (by simp[go_sem,LeS,leV,leR,leA,hsp]) (by omega)
  ·rw[if_pos hk]at hsp
   obtain⟨r1,r2⟩:=(hrise hk).app
   have hl1:(zP (l.take i) k++[jH r]).length<256:=by rw[←hsp];exact hlen
   simp (maxSteps:=1000000) [go_sem]
   refine⟨⟨rfl,by simp[Tryz.f97]⟩,zc [] (zld (jH r) (zP (l.take i) k) r1 r2 (by simp at hl1;omega)) (by simp[go_sem]) ⟨by simp[go_sem],by simp[go_sem,jH,z8,zM]⟩ (by simp[go_sem]) ?_⟩
   rintro _ rs ⟨rfl,rfl⟩
   simp (maxSteps:=1000000) [go_sem,zM]
   refine⟨by simp at hl1;omega,⟨rfl,by simp[Tryz.f98]⟩,zc [] (zk9 (zP (l.take i) k++[jH r]) (hrise hk).up (by simp) hl1) (by simp[go_sem]) ⟨by simp[go_sem],by simp[go_sem,zM,byV]⟩ (by simp[go_sem]) ?_⟩
   rintro _ rs ⟨rfl,rfl⟩
   simp (maxSteps:=1000000) [go_sem,w1]
   exact zf (i+1) (by omega) (by simp[go_sem,LeS,leV,leR,leA,hsp]) (by omega)
 ·have hil:i=l.length:=by omega
  subst hil
  simp (maxSteps:=1000000) [go_sem]
  refine⟨⟨rfl,by simp[Tryz.f99]⟩,zc [] (zhy (zP l k) (by omega) hb) (by simp[go_sem]) ⟨by simp[go_sem],by simp[go_sem,zM]⟩ (by simp[go_sem]) ?_⟩
  rintro _ rs ⟨rfl,rfl⟩
  simp (maxSteps:=1000000) [go_sem,zM]
  exact zg (.p (zM (Z7 (zP l k)))) rfl (by simp[go_sem,zd,leA,leT,zM]) ⟨rfl,rfl⟩
def QW(s:Span):QH Int:=⟨s.f,s.t,s.a⟩
theorem zen [Gi](l:List Row)(k:Int)(hR:qZ (zP l k))(hb:∀s∈zP l k, -1000000000≤s.t∧s.t≤1000000000)(hn:l.length<2^31)(hS:(zP l k).length<256)
  (hJ:(Z7 (zP l k)).length<256) (hf:∀s∈Z7 (zP l k), -1000000000≤s.f∧s.f≤1000000000):
  CR Tryz.prog 46 [] [.p (zJ l),.p (.int .i64 k)] [] (fun x rs=>rs=[]∧∃e,x=.p e∧kY 1 1114112 (fun j=>[.int .i64 (qS 0 j ((Z7 (zP l k)).map QW))]) e):=by
 refine zn mixed 13 [] Tryz.func46 rfl (by kernel_rfl) rfl (by simp) (by simp) ?_
 simp (maxSteps:=1000000) [go_sem,Tryz.f46]
 refine⟨⟨rfl,by simp[Tryz.f48]⟩,zc [] (zal l k hR hb hn hS) (by simp[go_sem]) ⟨by simp[go_sem],by simp[go_sem]⟩ (by simp[go_sem]) ?_⟩
 rintro _ rs ⟨rfl,rfl⟩
 generalize Z7 (zP l k)=J at hJ hf
 obtain⟨M,hM⟩:∃M,M=J.map fun s=>Wy (QW s):=⟨_,rfl⟩
 have hMl:M.length=J.length:=by rw[hM];simp
 simp (maxSteps:=1000000) [go_sem,zM]
 refine zm (fun i:Nat=>i≤J.length) (fun i=>[(5,.os [5] 3 (M.take i)),(12,.p (.int .i64 i))]) (fun _=>[]) (fun i=>J.length-i) 0 (by omega) (by simp[go_sem,LeS,leV,leR,leA]) (fun i hi=>?_)
 simp (maxSteps:=1000000) [go_sem]
 refine zw (fun h=>?_) (fun h=>?_)
 ·have hil:i<J.length:=by omega
  have em:=zt z8 J i hil
  have w1:IntKind.i64.wrap ((i:Int)+1)=((i+1:Nat):Int):=by rw[wrap64 (by omega) (by omega)];rfl
  have htake:M.take (i+1)=M.take i++[Wy (QW J[i])]:=by
   rw[List.take_add_one,hM,List.getElem?_map,List.getElem?_eq_getElem hil];rfl
  have hle:(M.take i).length≤256:=by rw[List.length_take];omega
  generalize J[i]=r at em htake
  simp (maxSteps:=1000000) [go_sem,em,h,z8,w1]
  refine⟨by rw[List.length_take]at hle;omega,zf (i+1) (by omega) (by simp[go_sem,LeS,leV,leR,leA,htake,Wy,QW]) (by omega)⟩
 ·have hil:i=J.length:=by omega
  subst hil
  have hall:M.take J.length=(J.map QW).map Wy:=by rw[←hMl,List.take_length,hM,List.map_map];rfl
  rw[hall]
  simp (maxSteps:=1000000) [go_sem]
  refine⟨⟨rfl,by simp[Tryz.f90]⟩,zc [] (zgR (J.map QW) 1114112 (by omega) (by omega) (by simp;omega) (fun p hp=>?_)) (by simp[go_sem]) ⟨by simp[go_sem],by simp[go_sem,xi]⟩ (by simp[go_sem]) ?_⟩
  ·obtain⟨s,hs,rfl⟩:=List.mem_map.1 hp
   exact hf s hs
  rintro _ rs ⟨rfl,e,rfl,he⟩
  obtain⟨idx,blocks,rfl,he'⟩:=he
  simp (maxSteps:=1000000) [go_sem]
  exact zi [] (.p (.pt 3 (QL 1 1114112 idx blocks))) ⟨rfl,by simp⟩ (by simp[go_sem,zd,leA,leT]) ⟨by simp[go_sem],_,rfl,idx,blocks,rfl,he'⟩
end Go.Proofs.YthbmelihnabkaaaGreat
end
section
namespace Go.Proofs.YthbmelihnabkaaaGreat
open Go.AM
set_option maxHeartbeats 4000000
set_option maxRecDepth 10000
def kS(s:Span)(c:Int):Int:=if s.t<c then -1 else if c<s.f then 1 else 0
def KZ:PV:=.opq (.func (.func 145) #[] #[])
theorem XN [Gi](s:Span)(c:Int):CR Tryz.prog 145 [] [.p (z8 s),.p (.int .i64 c)] [] (is (.p (.int .i64 (kS s c)))):=by
 refine zn mixed 6 [] Tryz.func145 rfl (by kernel_rfl) rfl (by simp) (by simp) ?_
 simp[go_sem,Tryz.f145,z8]
 refine zw (fun h=>?_) (fun h=>?_)
 ·simp[go_sem]
  exact zg (.p (.int .i64 (-1))) rfl (by simp[go_sem,zd,leA,leT]) ⟨rfl,by simp[kS,h]⟩
 ·simp[go_sem]
  refine zw (fun h2=>?_) (fun h2=>?_)
  ·simp[go_sem]
   exact zg (.p (.int .i64 1)) rfl (by simp[go_sem,zd,leA,leT]) ⟨rfl,by simp[kS,h,h2]⟩
  ·simp[go_sem]
   exact zg (.p (.int .i64 0)) rfl (by simp[go_sem,zd,leA,leT]) ⟨rfl,by simp[kS,h,h2]⟩
theorem qZ.lt:∀{l:List Span},qZ l→∀i j (hi:i<l.length) (hj:j<l.length),i<j→l[i].t<l[j].f
 | [],_,i,j,hi,_,_=>by simp at hi
 |s::l,h,i,j,hi,hj,hij=>by
  cases j with
  |zero=>omega
  |succ j=>
   cases i with
   |zero=>exact h.2.1 _ (List.getElem_mem _)
   |succ i=>exact qZ.lt h.2.2 i j _ _ (by omega)
theorem qZ.le:∀{l:List Span},qZ l→∀s∈l,s.f≤s.t
 | [],_,s,hs=>by simp at hs
 |a::l,h,s,hs=>by
  rcases List.mem_cons.1 hs with rfl|hs
  ·exact h.1
  ·exact qZ.le h.2.2 s hs
theorem VJ {x:Int}(h1:0≤x)(h2:x≤9223372036854775807):IntKind.u64.wrap x=x:=by
 simp[IntKind.wrap,IntKind.signed,IntKind.bits];omega
def zmL(l:List Span)(c:Int)(x:AV):Prop:=(∃i:Nat,∃hi:i<l.length,x=.tup [.p (.int .i64 i),.p (.bool true)]∧l[i].f≤c∧c≤l[i].t)∨∃i:Nat,x=.tup [.p (.int .i64 i),.p (.bool false)]∧∀s∈l,¬(s.f≤c∧c≤s.t)
theorem zgI [Gi](l:List Span)(c:Int)(hR:qZ l)(hn:l.length<2^31):CR Tryz.prog 144 [] [.p (zM l),.p (.int .i64 c),.p KZ] [] (fun x rs=>rs=[]∧zmL l c x):=by
 refine zn mixed 12 [] Tryz.func144 rfl (by kernel_rfl) rfl (by simp) (by simp) ?_
 simp[go_sem,Tryz.f144,zM]
 refine zm (fun r:Nat×Nat=>r.1≤r.2∧r.2≤l.length∧(∀i (hi:i<l.length),i<r.1→l[i].t<c)∧∀i (hi:i<l.length),r.2≤i→c≤l[i].t) (fun r=>[(9,.p (.int .i64 (r.1:Nat))),(10,.p (.int .i64 (r.2:Nat)))]) (fun _=>[]) (fun r=>r.2-r.1) (0,l.length) ⟨by simp,by simp,by simp,fun i hi h=>absurd h (by simpa using hi)⟩ (by simp[go_sem,LeS,leV,leR,leA]) (fun r hr=>?_)
 obtain⟨i,j⟩:=r
 obtain⟨h1,h2,h3,h4⟩:=hr
 simp only at h1 h2 h3 h4
 simp (maxSteps:=1000000) [go_sem]
 refine zw (fun h=>?_) (fun h=>?_)
 ·obtain⟨s,hs⟩:∃s,s=i+j:=⟨_,rfl⟩
  obtain⟨m,hm⟩:∃m,m=s/2:=⟨_,rfl⟩
  have w1:IntKind.i64.wrap ((i:Int)+j)=(s:Int):=by rw[wrap64 (by omega) (by omega)];omega
  have w2:IntKind.u64.wrap (s:Int)=(s:Int):=VJ (by omega) (by omega)
  have w3:(s:Int).fdiv 2=(m:Int):=by rw[Int.fdiv_eq_ediv_of_nonneg _ (by omega)];omega
  have w4:IntKind.i64.wrap (m:Int)=(m:Int):=wrap64 (by omega) (by omega)
  have w5:IntKind.i64.wrap ((m:Int)+1)=((m+1:Nat):Int):=by rw[wrap64 (by omega) (by omega)];rfl
  have hml:m<l.length:=by omega
  have em:=zt z8 l m hml
  obtain⟨q,hq⟩:∃q,l[m]=q:=⟨_,rfl⟩
  rw[hq]at em
  simp (maxSteps:=1000000) [go_sem,w1,w2,w3,w4,em,z8,hml,KZ]
  refine⟨⟨rfl,by simp[Tryz.f145]⟩,zc [] (XN q c) (by simp[go_sem]) ⟨by simp[go_sem],by simp[go_sem,z8]⟩ (by simp[go_sem]) ?_⟩
  rintro _ rs ⟨rfl,rfl⟩
  simp (maxSteps:=1000000) [go_sem]
  refine zw (fun hb=>?_) (fun hb=>?_)
  ·have hb':q.t<c:=by
    unfold kS at hb
    split at hb
    ·assumption
    ·split at hb<;>omega
   simp (maxSteps:=1000000) [go_sem,w5]
   refine zf (m+1,j) ⟨by show m+1≤j;omega,h2,fun k hk hkm=>?_,h4⟩ (by simp[go_sem,LeS,leV,leR,leA]) (by show j- (m+1)<j-i;omega)
   by_cases e:k=m
   ·subst e;rw[hq];exact hb'
   ·have:=hR.lt k m hk hml (by simp at hkm;omega)
    have:=hR.le l[m] (List.getElem_mem _)
    rw[hq]at*
    omega
  ·have hb':c≤q.t:=by
    unfold kS at hb
    split at hb
    ·omega
    ·omega
   simp (maxSteps:=1000000) [go_sem]
   refine zf (i,m) ⟨by show i≤m;omega,by show m≤l.length;omega,h3,fun k hk hkm=>?_⟩ (by simp[go_sem,LeS,leV,leR,leA]) (by show m-i<j-i;omega)
   by_cases e:k=m
   ·subst e;rw[hq];exact hb'
   ·have:=hR.lt m k hml hk (by simp at hkm;omega)
    have:=hR.le l[k] (List.getElem_mem _)
    rw[hq]at*
    omega
 ·obtain rfl:i=j:=by omega
  by_cases hil:i<l.length
  ·have em:=zt z8 l i hil
   have hc:=h4 i hil (Nat.le_refl _)
   have hrest:∀k,(hk:k<l.length)→k≠i→¬(l[k].f≤c∧c≤l[k].t):=fun k hk hki h=>by
    by_cases hk2:k<i
    ·have:=h3 k hk hk2
     omega
    ·have:=hR.lt i k hil hk (by omega)
     omega
   obtain⟨q,hq⟩:∃q,l[i]=q:=⟨_,rfl⟩
   rw[hq]at em hc
   simp (maxSteps:=1000000) [go_sem,em,z8,hil,KZ]
   refine⟨⟨rfl,by simp[Tryz.f145]⟩,zc [] (XN q c) (by simp[go_sem]) ⟨by simp[go_sem],by simp[go_sem,z8]⟩ (by simp[go_sem]) ?_⟩
   rintro _ rs ⟨rfl,rfl⟩
   simp (maxSteps:=1000000) [go_sem]
   by_cases hf:q.f≤c
   ·have hb:kS q c=0:=by unfold kS;rw[if_neg (by omega),if_neg (by omega)]
    simp (maxSteps:=1000000) [go_sem,hb]
    exact zg (.tup [.p (.int .i64 i),.p (.bool true)]) rfl (by simp[go_sem,zd,leA,leT,leP]) ⟨rfl,.inl ⟨i,hil,rfl,by rw[hq];exact⟨hf,hc⟩⟩⟩
   ·have hb:kS q c≠0:=by unfold kS;rw[if_neg (by omega),if_pos (by omega)];decide
    simp (maxSteps:=1000000) [go_sem,hb]
    refine zg (.tup [.p (.int .i64 i),.p (.bool false)]) rfl (by simp[go_sem,zd,leA,leT,leP]) ⟨rfl,.inr ⟨i,rfl,fun s hs hh=>?_⟩⟩
    obtain⟨k,hk,rfl⟩:=List.mem_iff_getElem.1 hs
    by_cases hki:k=i
    ·subst hki;rw[hq]at hh;exact hf hh.1
    ·exact hrest k hk hki hh
  ·simp (maxSteps:=1000000) [go_sem,hil]
   refine zg (.tup [.p (.int .i64 i),.p (.bool false)]) rfl (by simp[go_sem,zd,leA,leT,leP]) ⟨rfl,.inr ⟨i,rfl,fun s hs hh=>?_⟩⟩
   obtain⟨k,hk,rfl⟩:=List.mem_iff_getElem.1 hs
   have:=h3 k hk (by omega)
   omega
def atL(l:List Span)(c:Int):Option Span:=l.find? fun s=>decide (s.f≤c∧c≤s.t)
def atA(x:Option Span):AV:=match x with|some s=>.tup [.p (z8 s),.p (.bool true)]|none=>.tup [.p (z8 ⟨0,0,0,0⟩),.p (.bool false)]
theorem zeD:∀{l:List Span},qZ l→∀c i (hi:i<l.length),l[i].f≤c→c≤l[i].t→atL l c=some l[i]
 | [],_,c,i,hi,_,_=>by simp at hi
 |s::l,h,c,i,hi,h1,h2=>by
  cases i with
  |zero=>simp only[List.getElem_cons_zero]at h1 h2;simp[atL,List.find?,h1,h2]
  |succ i=>
   have hi':i<l.length:=by simpa using hi
   simp only[List.getElem_cons_succ]at h1 h2⊢
   have h3:=h.2.1 l[i] (List.getElem_mem _)
   have:=zeD h.2.2 c i hi' h1 h2
   unfold atL at this⊢
   rw[List.find?_cons_of_neg (by simp;omega),this]
theorem zgC [Gi](l:List Span)(c:Int)(hc: -1000000000≤c∧c≤1000000000)(hR:qZ l)(hn:l.length<2^31):CR Tryz.prog 92 [] [.p (zM l),.p (.int .i32 c)] [] (is (atA (atL l c))):=by
 have w1:IntKind.i64.wrap c=c:=wrap64 (by omega) (by omega)
 refine zn mixed 9 [] Tryz.func92 rfl (by kernel_rfl) rfl (by simp) (by simp) ?_
 simp (maxSteps:=1000000) [go_sem,Tryz.f92,w1]
 refine⟨⟨rfl,by simp[Tryz.f144]⟩,zc [] (zgI l c hR hn) (by simp[go_sem]) ⟨by simp[go_sem],by simp[go_sem,zM,KZ]⟩ (by simp[go_sem]) ?_⟩
 rintro _ rs ⟨rfl,⟨i,hi,rfl,h1,h2⟩|⟨i,rfl,h1⟩⟩
 ·have em:=zt z8 l i hi
  rw[zeD hR c i hi h1 h2]
  generalize l[i]=q at em
  simp (maxSteps:=1000000) [go_sem,em,z8,hi,zM]
  exact zg (.tup [.p (z8 q),.p (.bool true)]) rfl (by simp[go_sem,zd,leA,leT,leP,z8]) ⟨rfl,rfl⟩
 ·have e:atL l c=none:=by
   unfold atL
   rw[List.find?_eq_none]
   intro s hs
   simpa using h1 s hs
  rw[e]
  simp (maxSteps:=1000000) [go_sem]
  exact zg (.tup [.p (z8 ⟨0,0,0,0⟩),.p (.bool false)]) rfl (by simp[go_sem,zd,leA,leT,leP,z8]) ⟨rfl,rfl⟩
end Go.Proofs.YthbmelihnabkaaaGreat
end
section
namespace Go.Proofs.YthbmelihnabkaaaGreat
open Go.AM
set_option maxHeartbeats 4000000
set_option maxRecDepth 10000
def Qr(a e:Int):List Span→Int
 | []=>e
 |s::l=>Qr a (if a<s.f∧s.f≤e then s.f-1 else e) l
theorem XS(a e:Int)(l m:List Span):Qr a e (l++m)=Qr a (Qr a e l) m:=by
 induction l generalizing e with
 |nil=>rfl
 |cons s l ih=>simp only[List.cons_append,Qr];exact ih _
theorem zcJ(a e:Int)(l:List Span):Qr a e l≤e:=by
 induction l generalizing e with
 |nil=>exact Int.le_refl _
 |cons s l ih=>simp only[Qr];refine Int.le_trans (ih _) ?_;split<;>omega
theorem zeg(a e:Int)(l:List Span):∀s∈l,¬(a<s.f∧s.f≤Qr a e l):=by
 induction l generalizing e with
 |nil=>simp
 |cons x l ih=>
  intro s hs h
  rcases List.mem_cons.1 hs with rfl|hs
  ·simp only[Qr]at h
   have:=zcJ a (if a<s.f∧s.f≤e then s.f-1 else e) l
   generalize Qr a (if a<s.f∧s.f≤e then s.f-1 else e) l=u at this h
   split at this<;>omega
  ·exact ih _ s hs h
def zeh(Ls:List (List Span)):PV:=.agg (Ls.map zM)
theorem zlu [Gi](Ls:List (List Span))(a e:Int)(hn:Ls.length=4)(hl:∀l∈Ls,l.length<256)(hb:∀l∈Ls,∀s∈l, -1000000000≤s.f∧s.f≤1000000000):
  CR Tryz.prog 93 [] [.p (.int .i64 a),.p (.int .i64 e),.p (zeh Ls)] [] (is (.p (.int .i64 (Qr a e Ls.flatten)))):=by
 refine zn mixed 11 [11,12,15,16,17] Tryz.func93 rfl (by kernel_rfl) rfl (by simp) (by simp) ?_
 obtain⟨M,hM⟩:∃M,M=Ls.map zM:=⟨_,rfl⟩
 have hMl:M.length=4:=by rw[hM];simp[hn]
 simp only[zeh,←hM]
 simp (maxSteps:=1000000) [go_sem,Tryz.f93,hMl,QN hMl,zhp]
 refine zm (fun r:Nat=>r≤4) (fun r=>[(12,.p (.int .i64 (r:Nat))),(1,.p (.int .i64 (Qr a e (Ls.take r).flatten)))]) (fun _=>[]) (fun r=>4-r) 0 (by omega) (by simp[go_sem,LeS,leV,leR,leA,Qr,zj]) (fun i hi=>?_)
 simp (maxSteps:=1000000) [go_sem]
 refine zw (fun h=>?_) (fun h=>?_)
 ·have hil:i<Ls.length:=by omega
  have w1:IntKind.i64.wrap ((i:Int)+1)=((i+1:Nat):Int):=by rw[wrap64 (by omega) (by omega)];rfl
  have htake:(Ls.take (i+1)).flatten=(Ls.take i).flatten++Ls[i]:=by
   rw[List.take_add_one,List.getElem?_eq_getElem hil,List.flatten_append];exact congrArg _ (by simp)
  have hm:Ls[i]∈Ls:=List.getElem_mem _
  have hl':=hl _ hm
  have hb':=hb _ hm
  have em:M[i]?=some (zM Ls[i]):=by rw[hM,List.getElem?_map,List.getElem?_eq_getElem hil];rfl
  generalize Ls[i]=l at htake hm em hl' hb'
  simp (maxSteps:=1000000) [go_sem,em,zM]
  obtain⟨E0,hE0⟩:∃E0,E0=Qr a e (Ls.take i).flatten:=⟨_,rfl⟩
  refine⟨by omega,zm (fun j:Nat=>j≤l.length) (fun j=>[(17,.p (.int .i64 (j:Nat))),(1,.p (.int .i64 (Qr a E0 (l.take j))))]) (fun _=>[]) (fun j=>l.length-j) 0 (by omega) (by simp[go_sem,LeS,leV,leR,leA,Qr,zj,hE0]) (fun j hj=>?_)⟩
  simp (maxSteps:=1000000) [go_sem]
  refine zw (fun h2=>?_) (fun h2=>?_)
  ·have hjl:j<l.length:=by omega
   have em2:=zt z8 l j hjl
   have w2:IntKind.i64.wrap ((j:Int)+1)=((j+1:Nat):Int):=by rw[wrap64 (by omega) (by omega)];rfl
   have hq:=hb' l[j] (List.getElem_mem _)
   have htk:Qr a E0 (l.take (j+1))=if a<l[j].f∧l[j].f≤Qr a E0 (l.take j)then l[j].f-1 else Qr a E0 (l.take j):=by
    rw[List.take_add_one,List.getElem?_eq_getElem hjl,XS];rfl
   generalize l[j]=q at em2 hq htk
   have w3:IntKind.i64.wrap (q.f-1)=q.f-1:=wrap64 (by omega) (by omega)
   generalize Qr a E0 (l.take j)=E1 at htk
   by_cases h3:a<q.f
   ·by_cases h4:q.f≤E1
    ·rw[if_pos ⟨h3,h4⟩]at htk
     simp (maxSteps:=1000000) [go_sem,em2,hjl,z8,h3,h4,w2,w3]
     exact zf (j+1) (by omega) (by simp[go_sem,LeS,leV,leR,leA,zj,htk]) (by omega)
    ·rw[if_neg (fun h=>h4 h.2)]at htk
     simp (maxSteps:=1000000) [go_sem,em2,hjl,z8,h3,h4,w2]
     exact zf (j+1) (by omega) (by simp[go_sem,LeS,leV,leR,leA,zj,htk]) (by omega)
   ·rw[if_neg (fun h=>h3 h.1)]at htk
    simp (maxSteps:=1000000) [go_sem,em2,hjl,z8,h3,w2]
    exact zf (j+1) (by omega) (by simp[go_sem,LeS,leV,leR,leA,zj,htk]) (by omega)
  ·obtain rfl:j=l.length:=by omega
   have hfin:Qr a E0 (l.take l.length)=Qr a e (Ls.take (i+1)).flatten:=by rw[List.take_length,htake,XS,hE0]
   simp (maxSteps:=1000000) [go_sem,w1]
   exact zf (i+1) (by omega) (by simp[go_sem,LeS,leV,leR,leA,zj,←hfin]) (by omega)
 ·obtain rfl:i=4:=by omega
  simp (maxSteps:=1000000) [go_sem]
  exact zg (.p (.int .i64 (Qr a e Ls.flatten))) rfl (by simp[go_sem,zd,leA,leT,←hn,List.take_length]) ⟨rfl,rfl⟩
end Go.Proofs.YthbmelihnabkaaaGreat
end
