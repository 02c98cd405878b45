/- A part of this seat's proofs, by an abstract machine. Conditions: each law's. -/
import Derived.Test.YtfjdbbpimklecaaGreatDoorT20
import Derived.Test.YtfjdbbpimklecaaGreatDoorT18
import Derived.Test.YtfjdbbpimklecaaGreatDoorT19
set_option maxHeartbeats 8000000
set_option maxRecDepth 10000
namespace Go.Proofs.YtfjdbbpimklecaaGreatDoor
section
open Go.AM
def Ue:OT:=.now 0 2 (.now 1 2 (.now 2 2 (.now 3 2 (.now 5 0 (.now 6 0 (.mk [(4,.mk [(7,.mk [(8,.mk [(9,.now 10 0 (.now 11 0 (.mk [(12,.mk [])])))])])]),(7,.now 4 1 (.mk [(8,.mk [(9,.now 10 0 (.now 11 0 (.mk [(12,.mk [])])))])]))]))))))
structure BS(α:Type)where
 idx:List Nat
 blocks:List (List PV)
 k2:List PV
 x2:List PV
 v:α
 u:Int
structure BI {α:Type}(ag:Bool)(kc:List Kc)(w size:Nat)(cells:α→List PV)(zero:α)(l:List (Piece α))(b:BS α):Prop where
 ok:kN w size (fun j=>cells (qY zero j l)) b.idx b.blocks
 bl:∀x∈b.blocks,okC (qD 128 kc) x=true
 ev:jR ag kc b.blocks b.k2 b.x2
 le:b.blocks.length≤b.idx.length
 lt:128*b.idx.length<size+128
 u0:0≤b.u
 u1:b.u<size
 vl:∀j:Int,(128*b.idx.length:Nat)≤j→j≤b.u→qY zero j l=b.v
def w8 {α:Type}(w size:Nat)(b:BS α):List (Tok×List AV):=
 [([20],[.p (.int .i64 size),.os [20,1] 1 (b.idx.map fun k:Nat=>.int .i64 k),.os [20,2] (128*w) (b.blocks.map .agg)]),([25],[.lp [20] 0,.om [22] (b.blocks.map .agg) (QD b.blocks.length),.om [23] b.k2 b.x2])]
theorem zcp [Gi](l:List (Piece Int))(size:Nat)(h0:0<size)(hs:size<2^28)(hn:l.length<2^31)(hb:∀p∈l, -1000000000≤p.f∧p.f≤1000000000):
  CR Tryz.prog 102 [] [.p (.int .i64 size),.p (.int .i64 0),.p (xp l)] []
   (fun x rs=>∃idx blocks,x=.lp [20] 0∧kN 1 size (fun j=>[.int .i64 (qY 0 j l)]) idx blocks∧size≤128*idx.length∧rs=[([20],[.p (.int .i64 size),.os [20,1] 1 (idx.map fun k:Nat=>.int .i64 k),.os [20,2] 128 (blocks.map .agg)])]):=by
 refine zK [200026] mixed 16 [88] Tryz.func102 rfl (by kernel_rfl) rfl (by simp) (by simp) ?_
 have e0:¬(size:Int)<1:=by omega
 have w0:IntKind.i64.wrap ((size:Int)-1)=(size:Int)-1:=wrap64 (by omega) (by omega)
 simp (maxSteps:=1000000) (disch:=omega) [go_sem,Tryz.f102,e0,w0]
 refine⟨rfl,⟨rfl,rfl⟩,⟨rfl,by simp[Tryz.f154]⟩,?_⟩
 refine zd [] (YR l 0 0 ((size:Int)-1) hn hb) (by simp[go_sem]) ⟨by simp[go_sem],by simp[go_sem]⟩ (by simp[go_sem]) ?_
 rintro y rs ⟨rfl,rfl⟩
 obtain⟨f1,f2,f3⟩:=Zy 0 0 l ((size:Int)-1) (by omega)
 generalize Zs 0 0 l ((size:Int)-1)=r at f1 f2 f3
 obtain⟨v0,u0⟩:=r
 simp only at f1 f2 f3
 simp (maxSteps:=1000000) (disch:=omega) [go_sem]
 refine zH (fun b:BS Int=>BI false [.i .i64] 1 size (fun v=>[.int .i64 v]) 0 l b) (fun b=>[(9,.p (.int .i64 b.v)),(10,.p (.int .i64 b.u)),(11,.p (.int .i64 (128*(b.idx.length:Int))))]) (fun b=>w8 1 size b) (fun b=>size+128-128*b.idx.length) ⟨[],[],[],[],v0,u0⟩
  ⟨.nil _ _ _,by simp,⟨rfl,by simp,by simp⟩,by simp,by simp,f1,by show u0< (size:Int);omega,fun j h1 h2=>f3 j (by simpa using h1) h2⟩ ?_ (fun b hI=>?_)
 ·simp[go_sem,LeS,leV,leR,leA,leL,w8,QD]
 obtain⟨idx,blocks,k2,x2,v,u⟩:=b
 obtain⟨i1,i2,i3,i4,i5,i6,i7,i8⟩:=hI
 simp only at i1 i2 i3 i4 i5 i6 i7 i8
 simp (maxSteps:=1000000) (disch:=omega) [go_sem,w8]
 refine zh (fun hat=>?_) (fun hat=>?_)
 ·simp (maxSteps:=1000000) (disch:=omega) [go_sem]
  refine Zp (fun r:Int×Int=>0≤r.2∧r.2<size∧128*(idx.length:Int)≤r.2∧∀j,128*(idx.length:Int)≤j→j≤r.2→qY 0 j l=r.1) (fun r=>[(9,.p (.int .i64 r.1)),(10,.p (.int .i64 r.2))]) (fun _=>[]) (zh (fun hu=>?_) (fun hu=>?_)) ?_
  ·simp (maxSteps:=1000000) (disch:=omega) [go_sem]
   refine⟨⟨rfl,by simp[Tryz.f154]⟩,?_⟩
   refine zd [] (YR l 0 (128*(idx.length:Int)) ((size:Int)-1) hn hb) (by simp[go_sem]) ⟨by simp[go_sem],by simp[go_sem,w0]⟩ (by simp[go_sem]) ?_
   rintro y rs ⟨rfl,rfl⟩
   obtain⟨g1,g2,g3⟩:=Zy 0 (128*(idx.length:Int)) l ((size:Int)-1) (by omega)
   generalize Zs 0 (128*(idx.length:Int)) l ((size:Int)-1)=r at g1 g2 g3
   obtain⟨v',u'⟩:=r
   simp only at g1 g2 g3
   simp (maxSteps:=1000000) (disch:=omega) [go_sem]
   exact zO (v',u') ⟨by show 0≤u';omega,by show u'< (size:Int);omega,g1,g3⟩ (by simp[go_sem])
  ·simp (maxSteps:=1000000) (disch:=omega) [go_sem]
   exact zO (v,u) ⟨i6,i7,by show 128*(idx.length:Int)≤u;omega,i8⟩ (by simp[go_sem])
  ·clear i6 i7 i8
   rintro⟨v',u'⟩ ts ⟨j1,j2,j3,j4⟩
   simp only at j1 j2 j3 j4
   have w1:IntKind.i64.wrap (128*(idx.length:Int)+128)=128*(idx.length:Int)+128:=wrap64 (by omega) (by omega)
   have w2:IntKind.i64.wrap (min (128*(idx.length:Int)+128) (size:Int)-1)=min (128*(idx.length:Int)+128) (size:Int)-1:=wrap64 (by omega) (by omega)
   simp (maxSteps:=1000000) (disch:=omega) [go_sem,w1,w2]
   refine zh (fun hu=>?_) (fun hu=>?_)
   ·simp (maxSteps:=1000000) (disch:=omega) [go_sem]
    refine⟨⟨rfl,by simp[Tryz.f155]⟩,?_⟩
    refine zd [([0],[25]),([1],[20]),([902],[22]),([903],[23]),([904],[20,1]),([905],[20,2])] (zh2 true size idx blocks k2 x2 v' i2 (by omega) i3) (by simp[go_sem]) ⟨by simp[go_sem],by simp[go_sem]⟩ (by simp[go_sem,zR,Zk]) ?_
    rintro _ _ ⟨kk,bl,k2',x2',rfl,hk,hbl,hE,rfl⟩
    simp (maxSteps:=1000000) (disch:=omega) [go_sem,zR,Zk]
    have hbn:bl.length≤blocks.length+1:=by rcases hbl with rfl|rfl<;>simp
    have i1':=i1.grow hbl
    have i2':∀x∈bl,okC (qD 128 [.i .i64]) x=true:=fun x hx=>by
     rcases hbl with rfl|rfl
     ·exact i2 x hx
     ·rcases List.mem_append.1 hx with hx|hx
      ·exact i2 x hx
      ·rw[List.mem_singleton.1 hx];exact x9 128 rfl
    refine zH (fun id:List Nat=>kN 1 size (fun j=>[.int .i64 (qY 0 j l)]) id bl∧idx.length≤id.length∧128*id.length<size+128∧(id.length=idx.length∨idx.length<id.length)) (fun id=>[(11,.p (.int .i64 (128*(id.length:Int))))]) (fun id=>[([20],[.p (.int .i64 size),.os [20,1] 1 (id.map fun k:Nat=>.int .i64 k),.os [20,2] 128 (bl.map .agg)])]) (fun id=>size+128-128*id.length) idx ⟨i1',Nat.le_refl _,i5,.inl rfl⟩ ?_ (fun id hid=>?_)
    ·simp[go_sem,LeS,leV,leR,leA,leL]
    obtain⟨q1,q2,q3,q4⟩:=hid
    have w3:IntKind.i64.wrap (128*(id.length:Int)+128)=128*(id.length:Int)+128:=wrap64 (by omega) (by omega)
    have w4:IntKind.i64.wrap (min (128*(id.length:Int)+128) (size:Int)-1)=min (128*(id.length:Int)+128) (size:Int)-1:=wrap64 (by omega) (by omega)
    have w5:IntKind.i64.wrap (128*(id.length:Int)-128)=128*(id.length:Int)-128:=wrap64 (by omega) (by omega)
    simp (maxSteps:=1000000) (disch:=omega) [go_sem,w3,w4]
    refine zN (fun hc=>?_) (fun hc=>?_)
    ·have hc':128*(id.length:Int)<size∧min (128*(id.length:Int)+128) (size:Int)-1≤u':=by simpa using hc
     simp (maxSteps:=1000000) (disch:=omega) [go_sem,w3]
     refine⟨by omega,zi (id++[kk]) ⟨q1.add hk (by simp[qA,PV.cells]) (fun j hj1 hj2=>?_),by simp;omega,by simp;omega,.inr (by simp;omega)⟩ ?_ (by simp;omega)⟩
     ·rw[V6 (w:=1) rfl hj1,j4 (((128*id.length+j:Nat):Int)) (by omega) (by omega)]
      rfl
     ·simp[go_sem,LeS,leV,leR,leA,leL,Int.mul_add]
    ·have hc':¬(128*(id.length:Int)<size∧min (128*(id.length:Int)+128) (size:Int)-1≤u'):=fun h=>by simp[h.1,h.2]at hc
     have hlt:idx.length<id.length:=by
      rcases q4 with q4|q4
      ·exact absurd ⟨by rw[q4];exact hat,by rw[q4];exact hu⟩ hc'
      ·exact q4
     have w6:IntKind.i64.wrap (128*(id.length:Int)-128+128)=128*(id.length:Int):=by rw[wrap64 (by omega) (by omega)];omega
     have w7:IntKind.i64.wrap (128*(id.length:Int))=128*(id.length:Int):=wrap64 (by omega) (by omega)
     simp (maxSteps:=1000000) (disch:=omega) [go_sem,w5,w7]
     exact zi ⟨id,bl,k2',x2',v',u'⟩ ⟨q1,i2',hE,by show bl.length≤id.length;omega,by show 128*id.length<size+128;omega,j1,j2,fun j h1 h2=>j4 j (by simp only at h1;omega) h2⟩ (by simp[go_sem,LeS,leV,leR,leA,leL]) (by show size+128-128*id.length<size+128-128*idx.length;omega)
   ·simp (maxSteps:=1000000) (disch:=omega) [go_sem]
    refine⟨?_,?_⟩
    ·intro x hx
     obtain⟨l,hl,hx⟩:=List.mem_flatten.1 hx
     rw[List.eq_of_mem_replicate hl]at hx
     simp only[List.mem_cons,List.not_mem_nil,or_false]at hx
     rcases hx with rfl<;>rfl
    refine zH (fun r:List (List PV)×Int×Int=>r.1.length≤128∧(∀x∈r.1,okC [.i .i64] x=true)∧(∀j:Nat,j<r.1.length→128*idx.length+j<size→r.1[j]?=some [.int .i64 (qY 0 ((128*idx.length+j:Nat):Int) l)])∧0≤r.2.2∧r.2.2<size∧∀j:Int,128*(idx.length:Int)+r.1.length≤j→j≤r.2.2→qY 0 j l=r.2.1)
     (fun r=>[(88,.p (.int .i64 (r.1.length:Nat))),(9,.p (.int .i64 r.2.1)),(10,.p (.int .i64 r.2.2))]) (fun r=>[([14],(kR r.1 [.int .i64 0]).map .p)]) (fun r=>128-r.1.length) ([],v',u')
     ⟨by simp,by simp,by simp,j1,j2,fun j h1 h2=>j4 j (by simpa using h1) h2⟩ ?_ (fun r hr=>?_)
    ·simp[go_sem,LeS,leV,leR,leA,leL,xU,zj]
    obtain⟨vs,v2,u2⟩:=r
    obtain⟨q1,q2,q3,q4,q5,q6⟩:=hr
    simp only at q1 q2 q3 q4 q5 q6
    simp (maxSteps:=1000000) (disch:=omega) [go_sem]
    refine zh (fun hc=>?_) (fun hc=>?_)
    ·have w3:IntKind.i64.wrap (128*(idx.length:Int)+vs.length)=128*(idx.length:Int)+vs.length:=wrap64 (by omega) (by omega)
     simp (maxSteps:=1000000) (disch:=omega) [go_sem,w3]
     refine Zp (fun r:Int×Int=>0≤r.2∧r.2<size∧(128*(idx.length:Int)+vs.length<size→128*(idx.length:Int)+vs.length≤r.2)∧∀j,128*(idx.length:Int)+vs.length≤j→j≤r.2→qY 0 j l=r.1) (fun r=>[(9,.p (.int .i64 r.1)),(10,.p (.int .i64 r.2))]) (fun _=>[]) (zN (fun hu=>?_) (fun hu=>?_)) ?_
     ·have hu':u2<128*(idx.length:Int)+vs.length∧128*(idx.length:Int)+vs.length<size:=by simpa using hu
      simp (maxSteps:=1000000) (disch:=omega) [go_sem,w3]
      refine⟨⟨rfl,by simp[Tryz.f154]⟩,?_⟩
      refine zd [] (YR l 0 (128*(idx.length:Int)+vs.length) ((size:Int)-1) hn hb) (by simp[go_sem]) ⟨by simp[go_sem],by simp[go_sem,w0]⟩ (by simp[go_sem]) ?_
      rintro y rs ⟨rfl,rfl⟩
      obtain⟨g1,g2,g3⟩:=Zy 0 (128*(idx.length:Int)+vs.length) l ((size:Int)-1) (by omega)
      generalize Zs 0 (128*(idx.length:Int)+vs.length) l ((size:Int)-1)=r at g1 g2 g3
      obtain⟨v3,u3⟩:=r
      simp only at g1 g2 g3
      simp (maxSteps:=1000000) (disch:=omega) [go_sem]
      exact zO (v3,u3) ⟨by show 0≤u3;omega,by show u3< (size:Int);omega,fun _=>g1,g3⟩ (by simp[go_sem])
     ·have hu':¬(u2<128*(idx.length:Int)+vs.length∧128*(idx.length:Int)+vs.length<size):=fun h=>by simp[h.1,h.2]at hu
      simp (maxSteps:=1000000) (disch:=omega) [go_sem]
      exact zO (v2,u2) ⟨q4,q5,fun h=>by show 128*(idx.length:Int)+vs.length≤u2;omega,q6⟩ (by simp[go_sem])
     ·rintro⟨v3,u3⟩ ts2 ⟨k1,k2',k3,k4⟩
      simp only at k1 k2' k3 k4
      have hw:∀x∈vs,x.length=1:=fun x hx=>by have:=Zr (q2 x hx);simpa using this
      have hlen:(kR vs [PV.int .i64 0]).length=128:=xS (w:=1) hw rfl (by omega)
      have hput:=wb (vs:=vs) (z:=[.int .i64 0]) (v:=[.int .i64 v3]) (w:=1) hw rfl rfl (by omega)
      simp only[Nat.mul_one,List.map_cons,List.map_nil,zW,List.length_cons,List.length_nil,Nat.zero_add,List.append_assoc,List.cons_append,List.nil_append]at hput
      have w4:IntKind.i64.wrap ((vs.length:Int)+1)=(vs.length:Int)+1:=wrap64 (by omega) (by omega)
      simp (maxSteps:=1000000) (disch:=omega) [go_sem,w4,hlen,hput,hc]
      refine⟨by omega,zi (vs++[[.int .i64 v3]],v3,u3) ⟨by simp;omega,fun x hx=>?_,fun j hj1 hj2=>?_,k1,k2',fun j h1 h2=>k4 j (by simp at h1;omega) h2⟩ (by simp[go_sem,LeS,leV,leR,leA,leL,zj]) (by simp;omega)⟩
      ·rcases List.mem_append.1 hx with hx|hx
       ·exact q2 x hx
       ·rw[List.mem_singleton.1 hx];rfl
      ·by_cases hj:j<vs.length
       ·rw[List.getElem?_append_left hj];exact q3 j hj hj2
       ·have hjl:j=vs.length:=by simp at hj1;omega
        subst hjl
        rw[List.getElem?_append_right (Nat.le_refl _),Nat.sub_self]
        have hv:qY 0 (128*(idx.length:Int)+vs.length) l=v3:=k4 _ (by omega) (by have:=k3 (by omega);omega)
        rw[hv];rfl
    ·have hvl:vs.length=128:=by omega
     have hw:∀x∈vs,x.length=1:=fun x hx=>by have:=Zr (q2 x hx);simpa using this
     have hrow:kR vs [PV.int .i64 0]=vs.flatten:=by simp[kR,hvl,qD]
     have hok:okC (qD 128 [.i .i64]) vs.flatten=true:=KP q2 hvl
     have hfl:vs.flatten.length=128:=by have:=Zr hok;simpa[qA]using this
     simp only[hrow]
     have hpart:∀j,j<128→128*idx.length+j<size→(vs.flatten.drop (j*1)).take 1=[.int .i64 (qY 0 ((128*idx.length+j:Nat):Int) l)]:=fun j h1 h2=>by
      have:=jO (w:=1) (t:=[]) hw (q3 j (by omega) h2)
      simpa using this
     generalize vs.flatten=cs at hok hfl hpart
     have ht:=Qk hfl
     simp (maxSteps:=1000000) (disch:=omega) [go_sem]
     refine QL Ue (by kernel_rfl) ?_
     simp (maxSteps:=1000000) (disch:=omega) [go_sem,Ue,ht,hfl]
     refine⟨?_,?_⟩
     ·refine⟨⟨rfl,by simp[Tryz.f156]⟩,zd [([0],[25]),([1],[20]),([902],[22]),([903],[23]),([905],[20,2])] (wK (Uh false size idx blocks k2 x2 cs hok i2 (by omega))) (by simp[go_sem]) ⟨by simp[go_sem],by simp[go_sem]⟩ (by simp[go_sem,zR,Zk]) ?_⟩
      rintro _ _ ⟨kk,bl,rfl,hk,hbl,rfl⟩
      have hbn:bl.length≤blocks.length+1:=by rcases hbl with rfl|rfl<;>simp
      have i2':∀x∈bl,okC (qD 128 [.i .i64]) x=true:=fun x hx=>by
       rcases hbl with rfl|rfl
       ·exact i2 x hx
       ·rcases List.mem_append.1 hx with hx|hx
        ·exact i2 x hx
        ·rw[List.mem_singleton.1 hx];exact hok
      simp (maxSteps:=1000000) (disch:=omega) [go_sem,zR,Zk,w1]
      refine⟨by omega,zi ⟨idx++[kk],bl,k2,x2,v2,u2⟩ ⟨(i1.grow hbl).add hk (by simpa using hfl) hpart,i2',i3.grow hbl,by show bl.length≤(idx++[kk]).length;simp;omega,by show 128*(idx++[kk]).length<size+128;simp;omega,q4,q5,fun j h1 h2=>q6 j (by simp at h1;omega) h2⟩ (by simp[go_sem,LeS,leV,leR,leA,leL,Int.mul_add]) (by show size+128-128*(idx++[kk]).length<size+128-128*idx.length;simp;omega)⟩
     ·refine⟨⟨rfl,by simp[Tryz.f156]⟩,zd [([0],[25]),([1],[20]),([902],[22]),([903],[23]),([904],[20,1]),([905],[20,2])] (wK (Uh true size idx blocks k2 x2 cs hok i2 (by omega))) (by simp[go_sem]) ⟨by simp[go_sem],by simp[go_sem]⟩ (by simp[go_sem,zR,Zk]) ?_⟩
      rintro _ _ ⟨kk,bl,rfl,hk,hbl,rfl⟩
      have hbn:bl.length≤blocks.length+1:=by rcases hbl with rfl|rfl<;>simp
      have i2':∀x∈bl,okC (qD 128 [.i .i64]) x=true:=fun x hx=>by
       rcases hbl with rfl|rfl
       ·exact i2 x hx
       ·rcases List.mem_append.1 hx with hx|hx
        ·exact i2 x hx
        ·rw[List.mem_singleton.1 hx];exact hok
      simp (maxSteps:=1000000) (disch:=omega) [go_sem,zR,Zk,w1]
      refine⟨by omega,zi ⟨idx++[kk],bl,k2,x2,v2,u2⟩ ⟨(i1.grow hbl).add hk (by simpa using hfl) hpart,i2',i3.grow hbl,by show bl.length≤(idx++[kk]).length;simp;omega,by show 128*(idx++[kk]).length<size+128;simp;omega,q4,q5,fun j h1 h2=>q6 j (by simp at h1;omega) h2⟩ (by simp[go_sem,LeS,leV,leR,leA,leL,Int.mul_add]) (by show size+128-128*(idx++[kk]).length<size+128-128*idx.length;simp;omega)⟩
 ·simp (maxSteps:=1000000) (disch:=omega) [go_sem]
  refine zA [[20]] (.lp [20] 0) ⟨rfl,by simp⟩ (by simp[go_sem,zf,leA,leT]) ⟨rfl,idx,blocks,i1,by omega,by simp[go_sem]⟩
end
end Go.Proofs.YtfjdbbpimklecaaGreatDoor
namespace Go.AM
section
theorem zfq [Gi] {rs:List (Tok×List AV)} {rt:Tok→Bool} {t:Tok} {cs:List AV} {ps:List PV}(hl:zn rs t=some cs)(ht:rt t=false)(hp:zfi cs=some ps):zb9 rt rs (.lp t 0) (.p (.pt cs.length (.agg ps))):=by
 intro g w v hG hv
 simp only[zb]at hv
 obtain⟨b,hk,rfl⟩:=hv
 obtain⟨cs',hl',hfr,arr,T,hb,hle,hc⟩:=hG.roots b t hk
 rw[hl]at hl';injection hl' with hl';subst hl'
 have hx:=uO hG rt
 have hfb:(frz g w rt).fr b=arr.size:=by rw[xm hk ht];simp[frW,hb]
 have hRC:zo g w cs (arr.toList.take cs.length)∧∀u∈arr.toList.take cs.length,u.oneCell'=true:=by
  have key:∀(ys:List AV) (vs:List Value),ys.length=vs.length→(∀(j:Nat) (x:AV),ys[j]?=some x→∃v,vs[j]?=some v∧v.oneCell'=true∧zb g w x v)→zo g w ys vs∧∀u∈vs,u.oneCell'=true:=by
   intro ys
   induction ys with
   |nil=>intro vs hl _;cases vs with
    |nil=>exact⟨by simp[zo],by simp⟩
    |cons v vs=>simp at hl
   |cons y ys ih=>
    intro vs hl hh
    cases vs with
    |nil=>simp at hl
    |cons v vs=>
     obtain⟨u,hu,h1,hr⟩:=hh 0 y rfl
     simp at hu;subst hu
     obtain⟨i1,i2⟩:=ih vs (by simpa using hl) (fun j x hj=>by simpa using hh (j+1) x (by simpa using hj))
     refine⟨by simp only[zo];exact⟨v,vs,rfl,hr,i1⟩,fun u hu=>?_⟩
     rcases List.mem_cons.1 hu with rfl|hu
     ·exact h1
     ·exact i2 u hu
  refine key cs _ (by simp;omega) (fun j x hj=>?_)
  obtain⟨v,hv,h1,hr⟩:=hc j x hj
  exact⟨v,by rw[List.getElem?_take,if_pos (List.getElem?_eq_some_iff.1 hj).1];simpa using hv,h1,hr⟩
 have hP:=zw.ext hx _ _ (VY hp hRC.2 hRC.1)
 simp only[zb,zl]
 refine⟨b,0,rfl,by rw[hfb];omega,.agg (arr.toList.take cs.length).toArray,⟨_,rfl,by simpa using hP⟩,by simp[Value.cells];omega,fun j c hj=>?_⟩
 have hj':(arr.toList.take cs.length)[j]?=some c:=by simpa[Value.cells]using hj
 refine⟨hRC.2 c (List.mem_of_getElem? hj'),?_⟩
 rw[z8 hb,Nat.zero_add]
 rw[List.getElem?_take]at hj'
 split at hj'
 ·simpa using hj'
 ·cases hj'
end
end Go.AM
namespace Go.Proofs.YtfjdbbpimklecaaGreatDoor
section
open Go.AM
def yb(w size:Nat)(val:Nat→List PV)(e:PV):Prop:=∃idx blocks,e=.pt 3 (Qy w size idx blocks)∧∀i,i<size→X9 w idx blocks i (val i)
theorem zhc [Gi](l:List (Piece Int))(size:Nat)(h0:0<size)(hs:size<2^28)(hn:l.length<2^31)(hb:∀p∈l, -1000000000≤p.f∧p.f≤1000000000):
  CR Tryz.prog 102 [] [.p (.int .i64 size),.p (.int .i64 0),.p (xp l)] [] (fun x rs=>rs=[]∧∃e,x=.p e∧yb 1 size (fun j=>[.int .i64 (qY 0 j l)]) e):=by
 refine CR.freeze (zcp l size h0 hs hn hb) (fun _=>false) rfl ?_
 rintro x rs ⟨idx,blocks,rfl,h1,h2,rfl⟩
 exact⟨_,zfq rfl rfl rfl,rfl,_,rfl,idx,blocks,rfl,fun i hi=>h1.qX h2 hi⟩
theorem XU [Gi] {size:Nat} {val:Nat→Int} {e:PV}(h:yb 1 size (fun j=>[.int .i64 (val j)]) e)(hs:size<2^31) {i:Nat}(hi:i<size):CR Tryz.prog 165 [] [.p e,.p (.int .i64 i)] [] (is (.p (.int .i64 (val i)))):=by
 obtain⟨idx,blocks,rfl,h⟩:=h
 exact zlS size idx blocks i _ hs hi (h i hi)
def jY(r:Row):Span:=⟨max r.f 0,min r.t 1114111,r.a,r.b⟩
def zL(l:List Row)(k:Int):List Span:=(l.filter fun r=>r.k==k).map jY
theorem U3(a b:List Row)(k:Int):zL (a++b) k=zL a k++zL b k:=by simp[zL]
theorem zcM(r:Row)(k:Int):zL [r] k=if r.k=k then [jY r]else []:=by
 by_cases hk:r.k=k<;>simp[zL,hk]
def qZ:List Span→Prop
 | []=>True
 |s::l=>s.f≤s.t∧(∀x∈l,s.t<x.f)∧qZ l
theorem qZ.app {a:List Span} {s:Span} {b:List Span}(h:qZ (a++s::b)):s.f≤s.t∧∀x∈a,x.t<s.f:=by
 induction a with
 |nil=>exact⟨h.1,by simp⟩
 |cons x a ih=>
  obtain⟨h1,h2,h3⟩:=h
  obtain⟨i1,i2⟩:=ih h3
  refine⟨i1,fun y hy=>?_⟩
  rcases List.mem_cons.1 hy with rfl|hy
  ·exact h2 s (by simp)
  ·exact i2 y hy
theorem qZ.left:∀{a b:List Span},qZ (a++b)→qZ a
 | [],_,_=>trivial
 |s::a,b,h=>⟨h.1,fun x hx=>h.2.1 x (by simp[hx]),qZ.left h.2.2⟩
theorem qZ.up:∀{l:List Span},qZ l→Up l
 | [],_=>fun i j x y _ h=>by simp at h
 |s::l,h=>by
  have ih:=qZ.up h.2.2
  intro i j x y hij hi hj
  cases j with
  |zero=>
   obtain rfl:i=0:=by omega
   simp at hi hj
   subst hi;subst hj;exact Int.le_refl _
  |succ j=>
   cases i with
   |zero=>
    simp at hi hj
    subst hi
    have:=h.2.1 y (List.mem_of_getElem? hj)
    have:=h.1
    omega
   |succ i=>exact ih i j x y (by omega) (by simpa using hi) (by simpa using hj)
theorem zau [Gi](l:List Row)(k:Int)(hR:qZ (zL l k))(hb:∀s∈zL l k, -1000000000≤s.t∧s.t≤1000000000)(hn:l.length<2^31)(hS:(zL l k).length<256):
  CR Tryz.prog 59 [] [.p (z6 l),.p (.int .i64 k)] [] (is (.p (zF (ZR (zL l k))))):=by
 refine zx mixed 13 [] Tryz.func59 rfl (by kernel_rfl) rfl (by simp) (by simp) ?_
 simp (maxSteps:=1000000) [go_sem,Tryz.f59,z6]
 refine zH (fun i:Nat=>i≤l.length) (fun i=>[(5,.os [5] 4 ((zL (l.take i) k).map zZ)),(12,.p (.int .i64 i))]) (fun _=>[]) (fun i=>l.length-i) 0 (by omega) (by simp[go_sem,LeS,leV,leR,leA,zL]) (fun i hi=>?_)
 simp (maxSteps:=1000000) [go_sem]
 refine zh (fun h=>?_) (fun h=>?_)
 ·have hil:i<l.length:=by omega
  have em:=zp rowP l i hil
  have w1:IntKind.i64.wrap ((i:Int)+1)=((i+1:Nat):Int):=by rw[wrap64 (by omega) (by omega)];rfl
  have htake:l.take (i+1)=l.take i++[l[i]]:=by rw[List.take_add_one,List.getElem?_eq_getElem hil];rfl
  have hsp:zL (l.take (i+1)) k=zL (l.take i) k++(if l[i].k=k then [jY l[i]]else []):=by rw[htake,U3,zcM]
  have hall:zL l k=zL (l.take (i+1)) k++zL (l.drop (i+1)) k:=by rw[←U3,List.take_append_drop]
  have hrise:l[i].k=k→qZ (zL (l.take i) k++[jY l[i]]):=fun hk=>by
   rw[hall,hsp,if_pos hk]at hR
   exact hR.left
  have hlen:(zL (l.take (i+1)) k).length<256:=by
   rw[hall,List.length_append]at hS;omega
  generalize l[i]=r at em hsp hrise
  simp (maxSteps:=1000000) [go_sem,em,h,rowP]
  refine jy (fun hk=>?_) (fun hk=>?_)
  ·rw[if_neg hk,List.append_nil]at hsp
   simp (maxSteps:=1000000) [go_sem,w1]
   exact zi (i+1) (by omega) (by simp[go_sem,LeS,leV,leR,leA,hsp]) (by omega)
  ·rw[if_pos hk]at hsp
   obtain⟨r1,r2⟩:=(hrise hk).app
   have hl1:(zL (l.take i) k++[jY r]).length<256:=by rw[←hsp];exact hlen
   simp (maxSteps:=1000000) [go_sem]
   refine⟨⟨rfl,by simp[Tryz.f109]⟩,zd [] (zmz (jY r) (zL (l.take i) k) r1 r2 (by simp at hl1;omega)) (by simp[go_sem]) ⟨by simp[go_sem],by simp[go_sem,jY,zZ,zF]⟩ (by simp[go_sem]) ?_⟩
   rintro _ rs ⟨rfl,rfl⟩
   simp (maxSteps:=1000000) [go_sem,zF]
   refine⟨by simp at hl1;omega,⟨rfl,by simp[Tryz.f110]⟩,zd [] (zlw (zL (l.take i) k++[jY r]) (hrise hk).up (by simp) hl1) (by simp[go_sem]) ⟨by simp[go_sem],by simp[go_sem,zF,byV]⟩ (by simp[go_sem]) ?_⟩
   rintro _ rs ⟨rfl,rfl⟩
   simp (maxSteps:=1000000) [go_sem,w1]
   exact zi (i+1) (by omega) (by simp[go_sem,LeS,leV,leR,leA,hsp]) (by omega)
 ·have hil:i=l.length:=by omega
  subst hil
  simp (maxSteps:=1000000) [go_sem]
  refine⟨⟨rfl,by simp[Tryz.f111]⟩,zd [] (zhV (zL l k) (by omega) hb) (by simp[go_sem]) ⟨by simp[go_sem],by simp[go_sem,zF]⟩ (by simp[go_sem]) ?_⟩
  rintro _ rs ⟨rfl,rfl⟩
  simp (maxSteps:=1000000) [go_sem,zF]
  exact zg (.p (zF (ZR (zL l k)))) rfl (by simp[go_sem,zf,leA,leT,zF]) ⟨rfl,rfl⟩
def QP(s:Span):Piece Int:=⟨s.f,s.t,s.a⟩
theorem zeM [Gi](l:List Row)(k:Int)(hR:qZ (zL l k))(hb:∀s∈zL l k, -1000000000≤s.t∧s.t≤1000000000)(hn:l.length<2^31)(hS:(zL l k).length<256)
  (hJ:(ZR (zL l k)).length<256) (hf:∀s∈ZR (zL l k), -1000000000≤s.f∧s.f≤1000000000):
  CR Tryz.prog 57 [] [.p (z6 l),.p (.int .i64 k)] [] (fun x rs=>rs=[]∧∃e,x=.p e∧yb 1 1114112 (fun j=>[.int .i64 (qY 0 j ((ZR (zL l k)).map QP))]) e):=by
 refine zx mixed 13 [] Tryz.func57 rfl (by kernel_rfl) rfl (by simp) (by simp) ?_
 simp (maxSteps:=1000000) [go_sem,Tryz.f57]
 refine⟨⟨rfl,by simp[Tryz.f59]⟩,zd [] (zau l k hR hb hn hS) (by simp[go_sem]) ⟨by simp[go_sem],by simp[go_sem]⟩ (by simp[go_sem]) ?_⟩
 rintro _ rs ⟨rfl,rfl⟩
 generalize ZR (zL l k)=J at hJ hf
 obtain⟨M,hM⟩:∃M,M=J.map fun s=>Wp (QP s):=⟨_,rfl⟩
 have hMl:M.length=J.length:=by rw[hM];simp
 simp (maxSteps:=1000000) [go_sem,zF]
 refine zH (fun i:Nat=>i≤J.length) (fun i=>[(5,.os [5] 3 (M.take i)),(12,.p (.int .i64 i))]) (fun _=>[]) (fun i=>J.length-i) 0 (by omega) (by simp[go_sem,LeS,leV,leR,leA]) (fun i hi=>?_)
 simp (maxSteps:=1000000) [go_sem]
 refine zh (fun h=>?_) (fun h=>?_)
 ·have hil:i<J.length:=by omega
  have em:=zp zZ J i hil
  have w1:IntKind.i64.wrap ((i:Int)+1)=((i+1:Nat):Int):=by rw[wrap64 (by omega) (by omega)];rfl
  have htake:M.take (i+1)=M.take i++[Wp (QP J[i])]:=by
   rw[List.take_add_one,hM,List.getElem?_map,List.getElem?_eq_getElem hil];rfl
  have hle:(M.take i).length≤256:=by rw[List.length_take];omega
  generalize J[i]=r at em htake
  simp (maxSteps:=1000000) [go_sem,em,h,zZ,w1]
  refine⟨by rw[List.length_take]at hle;omega,zi (i+1) (by omega) (by simp[go_sem,LeS,leV,leR,leA,htake,Wp,QP]) (by omega)⟩
 ·have hil:i=J.length:=by omega
  subst hil
  have hall:M.take J.length=(J.map QP).map Wp:=by rw[←hMl,List.take_length,hM,List.map_map];rfl
  rw[hall]
  simp (maxSteps:=1000000) [go_sem]
  refine⟨⟨rfl,by simp[Tryz.f102]⟩,zd [] (zhc (J.map QP) 1114112 (by omega) (by omega) (by simp;omega) (fun p hp=>?_)) (by simp[go_sem]) ⟨by simp[go_sem],by simp[go_sem,xp]⟩ (by simp[go_sem]) ?_⟩
  ·obtain⟨s,hs,rfl⟩:=List.mem_map.1 hp
   exact hf s hs
  rintro _ rs ⟨rfl,e,rfl,he⟩
  obtain⟨idx,blocks,rfl,he'⟩:=he
  simp (maxSteps:=1000000) [go_sem]
  exact zA [] (.p (.pt 3 (Qy 1 1114112 idx blocks))) ⟨rfl,by simp⟩ (by simp[go_sem,zf,leA,leT]) ⟨by simp[go_sem],_,rfl,idx,blocks,rfl,he'⟩
def kB(s:Span)(c:Int):Int:=if s.t<c then -1 else if c<s.f then 1 else 0
def KX:PV:=.opq (.func (.func 158) #[] #[])
theorem X2 [Gi](s:Span)(c:Int):CR Tryz.prog 158 [] [.p (zZ s),.p (.int .i64 c)] [] (is (.p (.int .i64 (kB s c)))):=by
 refine zx mixed 6 [] Tryz.func158 rfl (by kernel_rfl) rfl (by simp) (by simp) ?_
 simp[go_sem,Tryz.f158,zZ]
 refine zh (fun h=>?_) (fun h=>?_)
 ·simp[go_sem]
  exact zg (.p (.int .i64 (-1))) rfl (by simp[go_sem,zf,leA,leT]) ⟨rfl,by simp[kB,h]⟩
 ·simp[go_sem]
  refine zh (fun h2=>?_) (fun h2=>?_)
  ·simp[go_sem]
   exact zg (.p (.int .i64 1)) rfl (by simp[go_sem,zf,leA,leT]) ⟨rfl,by simp[kB,h,h2]⟩
  ·simp[go_sem]
   exact zg (.p (.int .i64 0)) rfl (by simp[go_sem,zf,leA,leT]) ⟨rfl,by simp[kB,h,h2]⟩
theorem qZ.lt:∀{l:List Span},qZ l→∀i j (hi:i<l.length) (hj:j<l.length),i<j→l[i].t<l[j].f
 | [],_,i,j,hi,_,_=>by simp at hi
 |s::l,h,i,j,hi,hj,hij=>by
  cases j with
  |zero=>omega
  |succ j=>
   cases i with
   |zero=>exact h.2.1 _ (List.getElem_mem _)
   |succ i=>exact qZ.lt h.2.2 i j _ _ (by omega)
theorem qZ.le:∀{l:List Span},qZ l→∀s∈l,s.f≤s.t
 | [],_,s,hs=>by simp at hs
 |a::l,h,s,hs=>by
  rcases List.mem_cons.1 hs with rfl|hs
  ·exact h.1
  ·exact qZ.le h.2.2 s hs
theorem zmi {x:Int}(h1:0≤x)(h2:x≤9223372036854775807):IntKind.u64.wrap x=x:=by
 simp[IntKind.wrap,IntKind.signed,IntKind.bits];omega
def zoV(l:List Span)(c:Int)(x:AV):Prop:=(∃i:Nat,∃hi:i<l.length,x=.tup [.p (.int .i64 i),.p (.bool true)]∧l[i].f≤c∧c≤l[i].t)∨∃i:Nat,x=.tup [.p (.int .i64 i),.p (.bool false)]∧∀s∈l,¬(s.f≤c∧c≤s.t)
theorem zg7 [Gi](l:List Span)(c:Int)(hR:qZ l)(hn:l.length<2^31):CR Tryz.prog 157 [] [.p (zF l),.p (.int .i64 c),.p KX] [] (fun x rs=>rs=[]∧zoV l c x):=by
 refine zx mixed 12 [] Tryz.func157 rfl (by kernel_rfl) rfl (by simp) (by simp) ?_
 simp[go_sem,Tryz.f157,zF]
 refine zH (fun r:Nat×Nat=>r.1≤r.2∧r.2≤l.length∧(∀i (hi:i<l.length),i<r.1→l[i].t<c)∧∀i (hi:i<l.length),r.2≤i→c≤l[i].t) (fun r=>[(9,.p (.int .i64 (r.1:Nat))),(10,.p (.int .i64 (r.2:Nat)))]) (fun _=>[]) (fun r=>r.2-r.1) (0,l.length) ⟨by simp,by simp,by simp,fun i hi h=>absurd h (by simpa using hi)⟩ (by simp[go_sem,LeS,leV,leR,leA]) (fun r hr=>?_)
 obtain⟨i,j⟩:=r
 obtain⟨h1,h2,h3,h4⟩:=hr
 simp only at h1 h2 h3 h4
 simp (maxSteps:=1000000) [go_sem]
 refine zh (fun h=>?_) (fun h=>?_)
 ·obtain⟨s,hs⟩:∃s,s=i+j:=⟨_,rfl⟩
  obtain⟨m,hm⟩:∃m,m=s/2:=⟨_,rfl⟩
  have w1:IntKind.i64.wrap ((i:Int)+j)=(s:Int):=by rw[wrap64 (by omega) (by omega)];omega
  have w2:IntKind.u64.wrap (s:Int)=(s:Int):=zmi (by omega) (by omega)
  have w3:(s:Int).fdiv 2=(m:Int):=by rw[Int.fdiv_eq_ediv_of_nonneg _ (by omega)];omega
  have w4:IntKind.i64.wrap (m:Int)=(m:Int):=wrap64 (by omega) (by omega)
  have w5:IntKind.i64.wrap ((m:Int)+1)=((m+1:Nat):Int):=by rw[wrap64 (by omega) (by omega)];rfl
  have hml:m<l.length:=by omega
  have em:=zp zZ l m hml
  obtain⟨q,hq⟩:∃q,l[m]=q:=⟨_,rfl⟩
  rw[hq]at em
  simp (maxSteps:=1000000) [go_sem,w1,w2,w3,w4,em,zZ,hml,KX]
  refine⟨⟨rfl,by simp[Tryz.f158]⟩,zd [] (X2 q c) (by simp[go_sem]) ⟨by simp[go_sem],by simp[go_sem,zZ]⟩ (by simp[go_sem]) ?_⟩
  rintro _ rs ⟨rfl,rfl⟩
  simp (maxSteps:=1000000) [go_sem]
  refine zh (fun hb=>?_) (fun hb=>?_)
  ·have hb':q.t<c:=by
    unfold kB at hb
    split at hb
    ·assumption
    ·split at hb<;>omega
   simp (maxSteps:=1000000) [go_sem,w5]
   refine zi (m+1,j) ⟨by show m+1≤j;omega,h2,fun k hk hkm=>?_,h4⟩ (by simp[go_sem,LeS,leV,leR,leA]) (by show j- (m+1)<j-i;omega)
   by_cases e:k=m
   ·subst e;rw[hq];exact hb'
   ·have:=hR.lt k m hk hml (by simp at hkm;omega)
    have:=hR.le l[m] (List.getElem_mem _)
    rw[hq]at*
    omega
  ·have hb':c≤q.t:=by
    unfold kB at hb
    split at hb
    ·omega
    ·omega
   simp (maxSteps:=1000000) [go_sem]
   refine zi (i,m) ⟨by show i≤m;omega,by show m≤l.length;omega,h3,fun k hk hkm=>?_⟩ (by simp[go_sem,LeS,leV,leR,leA]) (by show m-i<j-i;omega)
   by_cases e:k=m
   ·subst e;rw[hq];exact hb'
   ·have:=hR.lt m k hml hk (by simp at hkm;omega)
    have:=hR.le l[k] (List.getElem_mem _)
    rw[hq]at*
    omega
 ·obtain rfl:i=j:=by omega
  by_cases hil:i<l.length
  ·have em:=zp zZ l i hil
   have hc:=h4 i hil (Nat.le_refl _)
   have hrest:∀k,(hk:k<l.length)→k≠i→¬(l[k].f≤c∧c≤l[k].t):=fun k hk hki h=>by
    by_cases hk2:k<i
    ·have:=h3 k hk hk2
     omega
    ·have:=hR.lt i k hil hk (by omega)
     omega
   obtain⟨q,hq⟩:∃q,l[i]=q:=⟨_,rfl⟩
   rw[hq]at em hc
   simp (maxSteps:=1000000) [go_sem,em,zZ,hil,KX]
   refine⟨⟨rfl,by simp[Tryz.f158]⟩,zd [] (X2 q c) (by simp[go_sem]) ⟨by simp[go_sem],by simp[go_sem,zZ]⟩ (by simp[go_sem]) ?_⟩
   rintro _ rs ⟨rfl,rfl⟩
   simp (maxSteps:=1000000) [go_sem]
   by_cases hf:q.f≤c
   ·have hb:kB q c=0:=by unfold kB;rw[if_neg (by omega),if_neg (by omega)]
    simp (maxSteps:=1000000) [go_sem,hb]
    exact zg (.tup [.p (.int .i64 i),.p (.bool true)]) rfl (by simp[go_sem,zf,leA,leT,leP]) ⟨rfl,.inl ⟨i,hil,rfl,by rw[hq];exact⟨hf,hc⟩⟩⟩
   ·have hb:kB q c≠0:=by unfold kB;rw[if_neg (by omega),if_pos (by omega)];decide
    simp (maxSteps:=1000000) [go_sem,hb]
    refine zg (.tup [.p (.int .i64 i),.p (.bool false)]) rfl (by simp[go_sem,zf,leA,leT,leP]) ⟨rfl,.inr ⟨i,rfl,fun s hs hh=>?_⟩⟩
    obtain⟨k,hk,rfl⟩:=List.mem_iff_getElem.1 hs
    by_cases hki:k=i
    ·subst hki;rw[hq]at hh;exact hf hh.1
    ·exact hrest k hk hki hh
  ·simp (maxSteps:=1000000) [go_sem,hil]
   refine zg (.tup [.p (.int .i64 i),.p (.bool false)]) rfl (by simp[go_sem,zf,leA,leT,leP]) ⟨rfl,.inr ⟨i,rfl,fun s hs hh=>?_⟩⟩
   obtain⟨k,hk,rfl⟩:=List.mem_iff_getElem.1 hs
   have:=h3 k hk (by omega)
   omega
def atL(l:List Span)(c:Int):Option Span:=l.find? fun s=>decide (s.f≤c∧c≤s.t)
def atA(x:Option Span):AV:=match x with|some s=>.tup [.p (zZ s),.p (.bool true)]|none=>.tup [.p (zZ ⟨0,0,0,0⟩),.p (.bool false)]
theorem ze1:∀{l:List Span},qZ l→∀c i (hi:i<l.length),l[i].f≤c→c≤l[i].t→atL l c=some l[i]
 | [],_,c,i,hi,_,_=>by simp at hi
 |s::l,h,c,i,hi,h1,h2=>by
  cases i with
  |zero=>simp only[List.getElem_cons_zero]at h1 h2;simp[atL,List.find?,h1,h2]
  |succ i=>
   have hi':i<l.length:=by simpa using hi
   simp only[List.getElem_cons_succ]at h1 h2⊢
   have h3:=h.2.1 l[i] (List.getElem_mem _)
   have:=ze1 h.2.2 c i hi' h1 h2
   unfold atL at this⊢
   rw[List.find?_cons_of_neg (by simp;omega),this]
theorem zfW [Gi](l:List Span)(c:Int)(hc: -1000000000≤c∧c≤1000000000)(hR:qZ l)(hn:l.length<2^31):CR Tryz.prog 104 [] [.p (zF l),.p (.int .i32 c)] [] (is (atA (atL l c))):=by
 have w1:IntKind.i64.wrap c=c:=wrap64 (by omega) (by omega)
 refine zx mixed 9 [] Tryz.func104 rfl (by kernel_rfl) rfl (by simp) (by simp) ?_
 simp (maxSteps:=1000000) [go_sem,Tryz.f104,w1]
 refine⟨⟨rfl,by simp[Tryz.f157]⟩,zd [] (zg7 l c hR hn) (by simp[go_sem]) ⟨by simp[go_sem],by simp[go_sem,zF,KX]⟩ (by simp[go_sem]) ?_⟩
 rintro _ rs ⟨rfl,⟨i,hi,rfl,h1,h2⟩|⟨i,rfl,h1⟩⟩
 ·have em:=zp zZ l i hi
  rw[ze1 hR c i hi h1 h2]
  generalize l[i]=q at em
  simp (maxSteps:=1000000) [go_sem,em,zZ,hi,zF]
  exact zg (.tup [.p (zZ q),.p (.bool true)]) rfl (by simp[go_sem,zf,leA,leT,leP,zZ]) ⟨rfl,rfl⟩
 ·have e:atL l c=none:=by
   unfold atL
   rw[List.find?_eq_none]
   intro s hs
   simpa using h1 s hs
  rw[e]
  simp (maxSteps:=1000000) [go_sem]
  exact zg (.tup [.p (zZ ⟨0,0,0,0⟩),.p (.bool false)]) rfl (by simp[go_sem,zf,leA,leT,leP,zZ]) ⟨rfl,rfl⟩
def Z3(a e:Int):List Span→Int
 | []=>e
 |s::l=>Z3 a (if a<s.f∧s.f≤e then s.f-1 else e) l
theorem XP(a e:Int)(l m:List Span):Z3 a e (l++m)=Z3 a (Z3 a e l) m:=by
 induction l generalizing e with
 |nil=>rfl
 |cons s l ih=>simp only[List.cons_append,Z3];exact ih _
theorem zdj(a e:Int)(l:List Span):Z3 a e l≤e:=by
 induction l generalizing e with
 |nil=>exact Int.le_refl _
 |cons s l ih=>simp only[Z3];refine Int.le_trans (ih _) ?_;split<;>omega
theorem zfn(a e:Int)(l:List Span):∀s∈l,¬(a<s.f∧s.f≤Z3 a e l):=by
 induction l generalizing e with
 |nil=>simp
 |cons x l ih=>
  intro s hs h
  rcases List.mem_cons.1 hs with rfl|hs
  ·simp only[Z3]at h
   have:=zdj a (if a<s.f∧s.f≤e then s.f-1 else e) l
   generalize Z3 a (if a<s.f∧s.f≤e then s.f-1 else e) l=u at this h
   split at this<;>omega
  ·exact ih _ s hs h
def zeT(Ls:List (List Span)):PV:=.agg (Ls.map zF)
theorem zmC [Gi](Ls:List (List Span))(a e:Int)(hn:Ls.length=4)(hl:∀l∈Ls,l.length<256)(hb:∀l∈Ls,∀s∈l, -1000000000≤s.f∧s.f≤1000000000):
  CR Tryz.prog 105 [] [.p (.int .i64 a),.p (.int .i64 e),.p (zeT Ls)] [] (is (.p (.int .i64 (Z3 a e Ls.flatten)))):=by
 refine zx mixed 11 [11,12,15,16,17] Tryz.func105 rfl (by kernel_rfl) rfl (by simp) (by simp) ?_
 obtain⟨M,hM⟩:∃M,M=Ls.map zF:=⟨_,rfl⟩
 have hMl:M.length=4:=by rw[hM];simp[hn]
 simp only[zeT,←hM]
 simp (maxSteps:=1000000) [go_sem,Tryz.f105,hMl,Qk hMl,zhj]
 refine zH (fun r:Nat=>r≤4) (fun r=>[(12,.p (.int .i64 (r:Nat))),(1,.p (.int .i64 (Z3 a e (Ls.take r).flatten)))]) (fun _=>[]) (fun r=>4-r) 0 (by omega) (by simp[go_sem,LeS,leV,leR,leA,Z3,zj]) (fun i hi=>?_)
 simp (maxSteps:=1000000) [go_sem]
 refine zh (fun h=>?_) (fun h=>?_)
 ·have hil:i<Ls.length:=by omega
  have w1:IntKind.i64.wrap ((i:Int)+1)=((i+1:Nat):Int):=by rw[wrap64 (by omega) (by omega)];rfl
  have htake:(Ls.take (i+1)).flatten=(Ls.take i).flatten++Ls[i]:=by
   rw[List.take_add_one,List.getElem?_eq_getElem hil,List.flatten_append];exact congrArg _ (by simp)
  have hm:Ls[i]∈Ls:=List.getElem_mem _
  have hl':=hl _ hm
  have hb':=hb _ hm
  have em:M[i]?=some (zF Ls[i]):=by rw[hM,List.getElem?_map,List.getElem?_eq_getElem hil];rfl
  generalize Ls[i]=l at htake hm em hl' hb'
  simp (maxSteps:=1000000) [go_sem,em,zF]
  obtain⟨E0,hE0⟩:∃E0,E0=Z3 a e (Ls.take i).flatten:=⟨_,rfl⟩
  refine⟨by omega,zH (fun j:Nat=>j≤l.length) (fun j=>[(17,.p (.int .i64 (j:Nat))),(1,.p (.int .i64 (Z3 a E0 (l.take j))))]) (fun _=>[]) (fun j=>l.length-j) 0 (by omega) (by simp[go_sem,LeS,leV,leR,leA,Z3,zj,hE0]) (fun j hj=>?_)⟩
  simp (maxSteps:=1000000) [go_sem]
  refine zh (fun h2=>?_) (fun h2=>?_)
  ·have hjl:j<l.length:=by omega
   have em2:=zp zZ l j hjl
   have w2:IntKind.i64.wrap ((j:Int)+1)=((j+1:Nat):Int):=by rw[wrap64 (by omega) (by omega)];rfl
   have hq:=hb' l[j] (List.getElem_mem _)
   have htk:Z3 a E0 (l.take (j+1))=if a<l[j].f∧l[j].f≤Z3 a E0 (l.take j)then l[j].f-1 else Z3 a E0 (l.take j):=by
    rw[List.take_add_one,List.getElem?_eq_getElem hjl,XP];rfl
   generalize l[j]=q at em2 hq htk
   have w3:IntKind.i64.wrap (q.f-1)=q.f-1:=wrap64 (by omega) (by omega)
   generalize Z3 a E0 (l.take j)=E1 at htk
   by_cases h3:a<q.f
   ·by_cases h4:q.f≤E1
    ·rw[if_pos ⟨h3,h4⟩]at htk
     simp (maxSteps:=1000000) [go_sem,em2,hjl,zZ,h3,h4,w2,w3]
     exact zi (j+1) (by omega) (by simp[go_sem,LeS,leV,leR,leA,zj,htk]) (by omega)
    ·rw[if_neg (fun h=>h4 h.2)]at htk
     simp (maxSteps:=1000000) [go_sem,em2,hjl,zZ,h3,h4,w2]
     exact zi (j+1) (by omega) (by simp[go_sem,LeS,leV,leR,leA,zj,htk]) (by omega)
   ·rw[if_neg (fun h=>h3 h.1)]at htk
    simp (maxSteps:=1000000) [go_sem,em2,hjl,zZ,h3,w2]
    exact zi (j+1) (by omega) (by simp[go_sem,LeS,leV,leR,leA,zj,htk]) (by omega)
  ·obtain rfl:j=l.length:=by omega
   have hfin:Z3 a E0 (l.take l.length)=Z3 a e (Ls.take (i+1)).flatten:=by rw[List.take_length,htake,XP,hE0]
   simp (maxSteps:=1000000) [go_sem,w1]
   exact zi (i+1) (by omega) (by simp[go_sem,LeS,leV,leR,leA,zj,←hfin]) (by omega)
 ·obtain rfl:i=4:=by omega
  simp (maxSteps:=1000000) [go_sem]
  exact zg (.p (.int .i64 (Z3 a e Ls.flatten))) rfl (by simp[go_sem,zf,leA,leT,←hn,List.take_length]) ⟨rfl,rfl⟩
end
end Go.Proofs.YtfjdbbpimklecaaGreatDoor
