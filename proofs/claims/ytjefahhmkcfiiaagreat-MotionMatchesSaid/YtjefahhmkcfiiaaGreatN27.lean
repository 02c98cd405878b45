/- A part of the proof of this seat's statements, by an abstract machine: what each operation does to values, and what the law's functions compute. Conditions: as each law says. -/
import Derived.Test.YtjefahhmkcfiiaaGreatN24
import Derived.Test.YtjefahhmkcfiiaaGreatN25
import Derived.Test.YtjefahhmkcfiiaaGreatN26
import Derived.Test.YtjefahhmkcfiiaaGreatN23
section
namespace Go.Proofs.YtjefahhmkcfiiaaGreat
open Go.AM
set_option maxHeartbeats 4000000
set_option maxRecDepth 10000
def qj(l:List Row)(k:Int):List Span:=Z2 (zO l k)
structure ZN(l:List Row)(k:Int):Prop where
 rise:qY (zO l k)
 b:∀s∈zO l k, -1000000000≤s.t∧s.t≤1000000000
 n:(zO l k).length<256
 riseJ:qY (qj l k)
 bJ:∀s∈qj l k,0≤s.f∧s.t≤1114111
 nJ:(qj l k).length<256
theorem xe {l:List Span} {c:Int} {s:Span}(h:atL l c=some s):qZ l c=decide (s.a=1):=by
 simp only[qZ,h];by_cases e:s.a=1<;>simp[e]
theorem xa {l:List Span} {c:Int}(h:atL l c=none):qZ l c=false:=by simp only[qZ,h]
theorem JS(A B C D:List Span)(c:Int):(Ql A B C D c !=yS)=(qZ A c || (qZ B c || (qZ C c || qZ D c))):=by
 simp only[Ql,yS]
 cases qZ A c<;>cases qZ B c<;>cases qZ C c<;>cases qZ D c<;>rfl
def zaz:PV:=.opq (.slice none 0 0)
theorem zgu [Gi](l:List Row)(hn:l.length<2^31)(h5:ZN l 5)(h7:ZN l 7)(h8:ZN l 8)(h3:ZN l 3):
  CR Tryz.prog 66 [] [.p (zC l)] [] (fun x rs=>rs=[]∧∃e,x=.p e∧ye 4 1114112 (fun j=>qB (Ql (qj l 5) (qj l 7) (qj l 8) (qj l 3) j)) e):=by
 refine zM [23] mixed 16 [17,18,29,30,31,35,36] Tryz.func66 rfl (by kernel_rfl) rfl (by simp) (by simp) ?_
 simp (maxSteps:=1000000) [go_sem,Tryz.f66]
 have hw:∀x:Int,0≤x→x≤4→IntKind.i64.wrap x=x:=fun x h1 h2=>wrap64 (by omega) (by omega)
 have w1:=hw 1 (by omega) (by omega)
 have w2:=hw 2 (by omega) (by omega)
 have w3:=hw 3 (by omega) (by omega)
 have w4:=hw 4 (by omega) (by omega)
 obtain⟨A,eA⟩:∃A,A=qj l 5:=⟨_,rfl⟩
 obtain⟨B,eB⟩:∃A,A=qj l 7:=⟨_,rfl⟩
 obtain⟨C,eC⟩:∃A,A=qj l 8:=⟨_,rfl⟩
 obtain⟨D,eD⟩:∃A,A=qj l 3:=⟨_,rfl⟩
 refine⟨rfl,zi (fun i:Nat=>i≤4) (fun i=>[(18,.p (.int .i64 (i:Nat)))]) (fun i=>[([4],[.p (if 0<i then zK A else zaz),.p (if 1<i then zK B else zaz),.p (if 2<i then zK C else zaz),.p (if 3<i then zK D else zaz)])]) (fun i=>4-i) 0 (by omega) (by simp[go_sem,LeS,leV,leR,leA,leL,zaz]) (fun i hi=>?_)⟩
 have hi':i=0∨i=1∨i=2∨i=3∨i=4:=by omega
 rcases hi' with rfl|rfl|rfl|rfl|rfl
 ·simp (maxSteps:=1000000) [go_sem]
  refine⟨⟨rfl,by simp[Tryz.f67]⟩,zb [] (Xs l 5 h5.rise h5.b hn h5.n) (by simp[go_sem]) ⟨by simp[go_sem],by simp[go_sem]⟩ (by simp[go_sem]) ?_⟩
  rintro _ rs ⟨rfl,rfl⟩
  simp (maxSteps:=1000000) [go_sem,zK,zaz,w1]
  exact zc 1 (by omega) (by simp[go_sem,LeS,leV,leR,leA,leL,eA,qj]) (by omega)
 ·simp (maxSteps:=1000000) [go_sem]
  refine⟨⟨rfl,by simp[Tryz.f67]⟩,zb [] (Xs l 7 h7.rise h7.b hn h7.n) (by simp[go_sem]) ⟨by simp[go_sem],by simp[go_sem]⟩ (by simp[go_sem]) ?_⟩
  rintro _ rs ⟨rfl,rfl⟩
  simp (maxSteps:=1000000) [go_sem,zK,zaz,w2]
  exact zc 2 (by omega) (by simp[go_sem,LeS,leV,leR,leA,leL,eB,qj]) (by omega)
 ·simp (maxSteps:=1000000) [go_sem]
  refine⟨⟨rfl,by simp[Tryz.f67]⟩,zb [] (Xs l 8 h8.rise h8.b hn h8.n) (by simp[go_sem]) ⟨by simp[go_sem],by simp[go_sem]⟩ (by simp[go_sem]) ?_⟩
  rintro _ rs ⟨rfl,rfl⟩
  simp (maxSteps:=1000000) [go_sem,zK,zaz,w3]
  exact zc 3 (by omega) (by simp[go_sem,LeS,leV,leR,leA,leL,eC,qj]) (by omega)
 ·simp (maxSteps:=1000000) [go_sem]
  refine⟨⟨rfl,by simp[Tryz.f67]⟩,zb [] (Xs l 3 h3.rise h3.b hn h3.n) (by simp[go_sem]) ⟨by simp[go_sem],by simp[go_sem]⟩ (by simp[go_sem]) ?_⟩
  rintro _ rs ⟨rfl,rfl⟩
  simp (maxSteps:=1000000) [go_sem,zK,zaz,w4]
  exact zc 4 (by omega) (by simp[go_sem,LeS,leV,leR,leA,leL,eD,qj]) (by omega)
 ·simp (maxSteps:=1000000) [go_sem]
  have hl:∀m∈[A,B,C,D],m.length<256:=by
   intro m hm
   simp only[List.mem_cons,List.not_mem_nil,or_false]at hm
   rcases hm with rfl|rfl|rfl|rfl
   ·rw[eA];exact h5.nJ
   ·rw[eB];exact h7.nJ
   ·rw[eC];exact h8.nJ
   ·rw[eD];exact h3.nJ
  have hR:∀m∈[A,B,C,D],qY m:=by
   intro m hm
   simp only[List.mem_cons,List.not_mem_nil,or_false]at hm
   rcases hm with rfl|rfl|rfl|rfl
   ·rw[eA];exact h5.riseJ
   ·rw[eB];exact h7.riseJ
   ·rw[eC];exact h8.riseJ
   ·rw[eD];exact h3.riseJ
  have hB:∀m∈[A,B,C,D],∀s∈m,0≤s.f∧s.t≤1114111:=by
   intro m hm
   simp only[List.mem_cons,List.not_mem_nil,or_false]at hm
   rcases hm with rfl|rfl|rfl|rfl
   ·rw[eA];exact h5.bJ
   ·rw[eB];exact h7.bJ
   ·rw[eC];exact h8.bJ
   ·rw[eD];exact h3.bJ
  refine⟨⟨rfl,by simp[Tryz.f110]⟩,zb [([0],[4])] (zmo [A,B,C,D] (by simp) hl (fun m hm s hs=>?_)) (by simp[go_sem,zD]) ⟨by simp[go_sem],by simp[go_sem]⟩ (by simp[go_sem]) ?_⟩
  ·have:=hB m hm s hs
   have:=(hR m hm).le s hs
   omega
  rintro _ _ ⟨rfl,at_,rfl,c1,c2,c3,c4⟩
  simp (maxSteps:=1000000) [go_sem]
  have hat:∀c∈at_,0≤c∧c≤1114112:=fun c hc=>by
   rcases c3 c hc with rfl|⟨m,hm,q,hq,h⟩
   ·omega
   ·have:=hB m hm q hq
    have:=(hR m hm).le q hq
    omega
  refine zi (fun i:Nat=>i≤at_.length) (fun i=>[(31,.p (.int .i64 (i:Nat))),(7,.os [7] 6 ((kg A B C D (at_.take i)).map YI))]) (fun _=>[]) (fun i=>at_.length-i) 0 (by omega) (by simp[go_sem,LeS,leV,leR,leA,leL,kg]) (fun i hi=>?_)
  simp (maxSteps:=1000000) [go_sem]
  refine zx (fun h=>?_) (fun h=>?_)
  ·have hil:i<at_.length:=by omega
   have wi:IntKind.i64.wrap ((i:Int)+1)=((i+1:Nat):Int):=by rw[wrap64 (by omega) (by omega)];rfl
   have em:=zq (fun k=>PV.int .i64 k) at_ i hil
   have hc:=hat at_[i] (List.getElem_mem _)
   have htk:kg A B C D (at_.take (i+1))=kg A B C D (at_.take i)++(if Ql A B C D at_[i] !=yS then [wU A B C D at_[i]]else []):=by
    rw[List.take_add_one,List.getElem?_eq_getElem hil]
    simp only[kg,List.filter_append,List.map_append,Option.toList_some]
    by_cases hz:(Ql A B C D at_[i] !=yS)=true<;>simp[hz]
   have hlen:(kg A B C D (at_.take i)).length≤10000:=by
    have h1:=List.length_filter_le (fun a=>Ql A B C D a !=yS) (at_.take i)
    simp only[kg,List.length_map]
    rw[List.length_take]at h1
    omega
   generalize at_[i]=c at em hc htk
   have w5:IntKind.i32.wrap c=c:=by simp[IntKind.wrap,IntKind.signed,IntKind.bits];omega
   simp (maxSteps:=1000000) [go_sem,em,hil]
   refine zi (fun k:Nat=>k≤4) (fun k=>[(36,.p (.int .i64 (k:Nat))),(11,.p (.int .i64 (xt c 1114111 ([A,B,C,D].take k))))]) (fun k=>[([10],[.p (.bool (decide (0<k)&&qZ A c)),.p (.bool (decide (1<k)&&qZ B c)),.p (.bool (decide (2<k)&&qZ C c)),.p (.bool (decide (3<k)&&qZ D c))])]) (fun k=>4-k) 0 (by omega) (by simp[go_sem,LeS,leV,leR,leA,leL,xt,zK]) (fun k hk=>?_)
   have hk':k=0∨k=1∨k=2∨k=3∨k=4:=by omega
   rcases hk' with rfl|rfl|rfl|rfl|rfl
   ·simp (maxSteps:=1000000) [go_sem,w5,zK]
    refine⟨⟨rfl,by simp[Tryz.f111]⟩,zb [] (zfs A c (by omega) (hR A (by simp)) (by have:=hl A (by simp);omega)) (by simp[go_sem]) ⟨by simp[go_sem],by simp[go_sem,zK]⟩ (by simp[go_sem]) ?_⟩
    rintro _ rs ⟨rfl,rfl⟩
    cases ha:atL A c with
    |none=>
     have hf:=xa ha
     simp (maxSteps:=1000000) [go_sem,atA,z8,w1]
     exact zc 1 (by omega) (by simp[go_sem,LeS,leV,leR,leA,leL,xt,ha,hf]) (by omega)
    |some s=>
     have hf:=xe ha
     simp (maxSteps:=1000000) [go_sem,atA,z8,w1]
     exact zc 1 (by omega) (by simp[go_sem,LeS,leV,leR,leA,leL,xt,ha,hf]) (by omega)
   ·simp (maxSteps:=1000000) [go_sem,w5,zK]
    refine⟨⟨rfl,by simp[Tryz.f111]⟩,zb [] (zfs B c (by omega) (hR B (by simp)) (by have:=hl B (by simp);omega)) (by simp[go_sem]) ⟨by simp[go_sem],by simp[go_sem,zK]⟩ (by simp[go_sem]) ?_⟩
    rintro _ rs ⟨rfl,rfl⟩
    cases ha:atL B c with
    |none=>
     have hf:=xa ha
     simp (maxSteps:=1000000) [go_sem,atA,z8,w2]
     exact zc 2 (by omega) (by simp[go_sem,LeS,leV,leR,leA,leL,xt,ha,hf]) (by omega)
    |some s=>
     have hf:=xe ha
     simp (maxSteps:=1000000) [go_sem,atA,z8,w2]
     exact zc 2 (by omega) (by simp[go_sem,LeS,leV,leR,leA,leL,xt,ha,hf]) (by omega)
   ·simp (maxSteps:=1000000) [go_sem,w5,zK]
    refine⟨⟨rfl,by simp[Tryz.f111]⟩,zb [] (zfs C c (by omega) (hR C (by simp)) (by have:=hl C (by simp);omega)) (by simp[go_sem]) ⟨by simp[go_sem],by simp[go_sem,zK]⟩ (by simp[go_sem]) ?_⟩
    rintro _ rs ⟨rfl,rfl⟩
    cases ha:atL C c with
    |none=>
     have hf:=xa ha
     simp (maxSteps:=1000000) [go_sem,atA,z8,w3]
     exact zc 3 (by omega) (by simp[go_sem,LeS,leV,leR,leA,leL,xt,ha,hf]) (by omega)
    |some s=>
     have hf:=xe ha
     simp (maxSteps:=1000000) [go_sem,atA,z8,w3]
     exact zc 3 (by omega) (by simp[go_sem,LeS,leV,leR,leA,leL,xt,ha,hf]) (by omega)
   ·simp (maxSteps:=1000000) [go_sem,w5,zK]
    refine⟨⟨rfl,by simp[Tryz.f111]⟩,zb [] (zfs D c (by omega) (hR D (by simp)) (by have:=hl D (by simp);omega)) (by simp[go_sem]) ⟨by simp[go_sem],by simp[go_sem,zK]⟩ (by simp[go_sem]) ?_⟩
    rintro _ rs ⟨rfl,rfl⟩
    cases ha:atL D c with
    |none=>
     have hf:=xa ha
     simp (maxSteps:=1000000) [go_sem,atA,z8,w4]
     exact zc 4 (by omega) (by simp[go_sem,LeS,leV,leR,leA,leL,xt,ha,hf]) (by omega)
    |some s=>
     have hf:=xe ha
     simp (maxSteps:=1000000) [go_sem,atA,z8,w4]
     exact zc 4 (by omega) (by simp[go_sem,LeS,leV,leR,leA,leL,xt,ha,hf]) (by omega)
   ·simp (maxSteps:=1000000) [go_sem]
    refine qo (fun hz=>?_) (fun hz=>?_)
    ·simp (maxSteps:=1000000) [go_sem]
     refine z7 (.p (.int .i64 (Qh c (xt c 1114111 [A,B,C,D]) [A,B,C,D].flatten))) rfl rfl (fun _=>z6 112 (zks [A,B,C,D] c (xt c 1114111 [A,B,C,D]) rfl hl (fun m hm s hs=>?_)) rfl ⟨rfl,by simp[Tryz.f112]⟩ ⟨by simp[go_sem],by simp[go_sem,zeL]⟩) ?_
     ·have:=hB m hm s hs
      have:=(hR m hm).le s hs
      omega
     simp (maxSteps:=1000000) [go_sem,wi]
     rw[JS,if_pos hz]at htk
     exact⟨by omega,zc (i+1) (by omega) (by simp[go_sem,LeS,leV,leR,leA,leL,htk,YI,qB,Ql,wU]) (by omega)⟩
    ·simp (maxSteps:=1000000) [go_sem,wi]
     rw[JS,if_neg (by simp[hz]),List.append_nil]at htk
     exact zc (i+1) (by omega) (by simp[go_sem,LeS,leV,leR,leA,leL,htk]) (by omega)
  ·obtain rfl:i=at_.length:=by omega
   simp (maxSteps:=1000000) [go_sem]
   have hpl:(kg A B C D at_).length≤10000:=by
    have h1:=List.length_filter_le (fun a=>Ql A B C D a !=yS) at_
    simp only[kg,List.length_map]
    omega
   refine⟨⟨rfl,by simp[Tryz.f113]⟩,zb [] (zhV (kg A B C D at_) 1114112 (by omega) (by omega) (by omega) (fun p hp=>?_)) (by simp[go_sem]) ⟨by simp[go_sem],by simp[go_sem,xb]⟩ (by simp[go_sem]) ?_⟩
   ·obtain⟨a,ha,rfl⟩:=List.mem_map.1 hp
    have:=hat a (List.mem_filter.1 ha).1
    simp only[wU]
    omega
   rintro _ rs ⟨rfl,e,rfl,idx,blocks,rfl,he⟩
   simp (maxSteps:=1000000) [go_sem]
   refine zl [] (.p (.pt 3 (Qy 4 1114112 idx blocks))) ⟨rfl,by simp⟩ (by simp[go_sem,zf,leA,leT]) ⟨by simp[go_sem],_,rfl,idx,blocks,rfl,fun j hj=>?_⟩
   have hl4:=ze2 (hR A (by simp)) (hR B (by simp)) (hR C (by simp)) (hR D (by simp)) c1 c2 (j:=j) (by omega) (by omega)
   simp only[yS]at hl4
   show zai 4 idx blocks j (qB (Ql (qj l 5) (qj l 7) (qj l 8) (qj l 3) j))
   rw[←eA,←eB,←eC,←eD,←hl4]
   exact he j hj
end Go.Proofs.YtjefahhmkcfiiaaGreat
end
section
namespace Go.Proofs.YtjefahhmkcfiiaaGreat
open Go.AM
set_option maxHeartbeats 4000000
set_option maxRecDepth 10000
structure zR where
 cls:Nat→Int
 brk:Nat→Int
 cnj:Nat→Int
 flg:Nat→Flags
 par:Nat→Za
structure Qp(t:zR)(c b j f p:PV):Prop where
 c:ye 1 1114112 (fun i=>[.int .i64 (t.cls i)]) c
 b:ye 1 1114112 (fun i=>[.int .i64 (t.brk i)]) b
 j:ye 1 1114112 (fun i=>[.int .i64 (t.cnj i)]) j
 f:ye 4 1114112 (fun i=>qB (t.flg i)) f
 p:ye 2 1114112 (fun i=>qg (t.par i)) p
def xk(c b j f p:PV)(ck cx sk sx:List PV):List AV:=[.p c,.p b,.p j,.p f,.p p,.om [901] ck cx,.om [902] sk sx]
def zE(c b j f p:PV)(ck cx sk sx:List PV):PV:=.pt 7 (.agg [c,b,j,f,p,.mp ck cx,.mp sk sx])
def JW(q:Za):AV:=.tup [.p (.int .i32 q.a),.p (.int .i32 q.b),.p (.bool (!decide (q.a=0) ||!decide (q.b=0)))]
theorem JA [Gi] {t:zR} {c b j f p:PV}(h:Qp t c b j f p)(ck cx sk sx:List PV) {i:Nat}(hi:i<1114112):
  CR Tryz.prog 124 [[0]] [.lp [0] 0,.p (.int .i32 i)] [([0],xk c b j f p ck cx sk sx)] (fun x rs=>x=.p (.int .i64 (t.cls i))∧rs=[([0],xk c b j f p ck cx sk sx)]):=by
 have w1:IntKind.i64.wrap (i:Int)=i:=wrap64 (by omega) (by omega)
 refine zm mixed 5 [] Tryz.func124 rfl (by kernel_rfl) rfl (by simp) (by simp) ?_
 obtain⟨_,_,e,_⟩:=id h.c
 simp (maxSteps:=1000000) [go_sem,Tryz.f124,xk,w1]
 refine⟨⟨rfl,by simp[Tryz.f170]⟩,zb [] (Xn h.c (by omega) hi) (by simp[go_sem,zD]) ⟨by simp[go_sem],by simp[go_sem]⟩ (by simp[go_sem]) ?_⟩
 rintro _ rs ⟨rfl,rfl⟩
 simp (maxSteps:=1000000) [go_sem]
 exact zl [[0]] (.p (.int .i64 (t.cls i))) ⟨rfl,by simp⟩ (by simp[go_sem,zf,leA,leT]) ⟨rfl,by simp[go_sem]⟩
theorem zhi [Gi] {t:zR} {c b j f p:PV}(h:Qp t c b j f p)(ck cx sk sx:List PV) {i:Nat}(hi:i<1114112):
  CR Tryz.prog 122 [[0]] [.lp [0] 0,.p (.int .i32 i)] [([0],xk c b j f p ck cx sk sx)] (fun x rs=>x=JW (t.par i)∧rs=[([0],xk c b j f p ck cx sk sx)]):=by
 have w1:IntKind.i64.wrap (i:Int)=i:=wrap64 (by omega) (by omega)
 refine zM [4] mixed 8 [] Tryz.func122 rfl (by kernel_rfl) rfl (by simp) (by simp) ?_
 simp (maxSteps:=1000000) [go_sem,Tryz.f122,xk,w1]
 refine⟨⟨rfl,by simp[Tryz.f69]⟩,zb [] (Ux h.p (by omega) hi) (by simp[go_sem,zD]) ⟨by simp[go_sem],by simp[go_sem]⟩ (by simp[go_sem]) ?_⟩
 rintro _ rs ⟨rfl,rfl⟩
 generalize t.par i=q
 simp (maxSteps:=1000000) [go_sem,qg]
 exact zl [[0]] (.tup [.p (.int .i32 q.a),.p (.int .i32 q.b),.p (.bool (!decide (q.a=0) ||!decide (q.b=0)))]) ⟨rfl,by simp⟩ (by simp[go_sem,zf,leA,leT,leP]) ⟨rfl,by simp[go_sem]⟩
def Xi(t:zR)(i:Nat):Bool:=(!decide ((t.par i).a=0) ||!decide ((t.par i).b=0))&&(decide ((t.par i).b=0) || (t.flg i).o ||!decide (t.cls i=0) ||!decide (t.cls (t.par i).a.toNat=0))
theorem zjM [Gi] {t:zR} {c b j f p:PV}(h:Qp t c b j f p)(ck cx sk sx:List PV) {i:Nat}(hi:i<1114112)(hp:0≤(t.par i).a∧(t.par i).a<1114112):
  CR Tryz.prog 70 [[0]] [.lp [0] 0,.p (.int .i32 i)] [([0],xk c b j f p ck cx sk sx)] (fun x rs=>x=.p (.bool (Xi t i))∧rs=[([0],xk c b j f p ck cx sk sx)]):=by
 have w1:IntKind.i64.wrap (i:Int)=i:=wrap64 (by omega) (by omega)
 refine zm mixed 8 [] Tryz.func70 rfl (by kernel_rfl) rfl (by simp) (by simp) ?_
 obtain⟨q,hq⟩:∃q,t.par i=q:=⟨_,rfl⟩
 have hpa:=hp
 rw[hq]at hpa
 have hn:((q.a.toNat:Nat):Int)=q.a:=by omega
 simp (maxSteps:=1000000) [go_sem,Tryz.f70,xk]
 refine⟨⟨rfl,by simp[Tryz.f122]⟩,zb [([0],[0]),([901],[901]),([902],[902])] (zhi h ck cx sk sx hi) (by simp[go_sem,zD]) ⟨by simp[go_sem],by simp[go_sem]⟩ (by simp[go_sem,xk]) ?_⟩
 rintro _ rs ⟨rfl,rfl⟩
 obtain⟨z,hz⟩:∃z,(!decide (q.a=0) ||!decide (q.b=0))=z:=⟨_,rfl⟩
 simp only[hq,JW,hz]
 have ho:Xi t i=(z&&(decide (q.b=0) || (t.flg i).o ||!decide (t.cls i=0) ||!decide (t.cls q.a.toNat=0))):=by simp only[Xi,hq,hz]
 cases z with
 |false=>
  simp (maxSteps:=1000000) [go_sem]
  exact zl [[0]] (.p (.bool (Xi t i))) ⟨rfl,by simp⟩ (by simp[go_sem,zf,leA,leT, *]) ⟨rfl,by simp[go_sem,xk]⟩
 |true=>
  by_cases hb:q.b=0
  ·simp (maxSteps:=1000000) [go_sem,hb]
   exact zl [[0]] (.p (.bool (Xi t i))) ⟨rfl,by simp⟩ (by simp[go_sem,zf,leA,leT, *]) ⟨rfl,by simp[go_sem,xk]⟩
  ·simp (maxSteps:=1000000) [go_sem,hb,w1,xk]
   refine⟨⟨rfl,by simp[Tryz.f123]⟩,zb [] (zap h.f (by omega) hi) (by simp[go_sem,zD]) ⟨by simp[go_sem],by simp[go_sem]⟩ (by simp[go_sem]) ?_⟩
   rintro _ rs ⟨rfl,rfl⟩
   generalize t.flg i=fl at ho
   cases hfo:fl.o with
   |true=>
    simp (maxSteps:=1000000) [go_sem,qB,hfo]
    exact zl [[0]] (.p (.bool (Xi t i))) ⟨rfl,by simp⟩ (by simp[go_sem,zf,leA,leT, *]) ⟨rfl,by simp[go_sem]⟩
   |false=>
    simp (maxSteps:=1000000) [go_sem,qB,hfo]
    refine⟨⟨rfl,by simp[Tryz.f124]⟩,zb [([0],[0]),([901],[901]),([902],[902])] (JA h ck cx sk sx hi) (by simp[go_sem,zD]) ⟨by simp[go_sem],by simp[go_sem]⟩ (by simp[go_sem,xk]) ?_⟩
    rintro _ rs ⟨rfl,rfl⟩
    by_cases hc:t.cls i=0
    ·simp (maxSteps:=1000000) [go_sem,hc,xk]
     refine⟨⟨rfl,by simp[Tryz.f124]⟩,zb [([0],[0]),([901],[901]),([902],[902])] (JA h ck cx sk sx (i:=q.a.toNat) (by omega)) (by simp[go_sem,zD]) ⟨by simp[go_sem],by simp[go_sem,hn]⟩ (by simp[go_sem,xk]) ?_⟩
     rintro _ rs ⟨rfl,rfl⟩
     simp (maxSteps:=1000000) [go_sem,xk]
     exact zl [[0]] (.p (.bool (Xi t i))) ⟨rfl,by simp⟩ (by simp[go_sem,zf,leA,leT, *]) ⟨rfl,by simp[go_sem]⟩
    ·simp (maxSteps:=1000000) [go_sem,hc,xk]
     exact zl [[0]] (.p (.bool (Xi t i))) ⟨rfl,by simp⟩ (by simp[go_sem,zf,leA,leT, *]) ⟨rfl,by simp[go_sem]⟩
end Go.Proofs.YtjefahhmkcfiiaaGreat
end
section
namespace Go.AM
def Ve(g:Gh)(w:World):Gh:=
 ⟨fun b=>match g.K b with
  |.root _=>frW w b
  |.tail _=>max 1 (g.fr b)
  |.prot=>g.fr b,fun _=>.prot⟩
theorem V7 {g:Gh} {w:World} {b:Nat}(h:g.K b=.prot):(Ve g w).fr b=g.fr b:=by simp only[Ve,h]
theorem zhy {g:Gh} {w:World} {b:Nat} {t:Tok}(h:g.K b=.root t):(Ve g w).fr b=frW w b:=by simp only[Ve,h]
theorem XX {g:Gh} {w:World} {b:Nat} {t:Tok}(h:g.K b=.tail t):(Ve g w).fr b=max 1 (g.fr b):=by simp only[Ve,h]
theorem zcD [Gi] {g:Gh} {w:World} {rs:List (Tok×List AV)}(hG:GS g w rs):Ext g.fr w (Ve g w).fr w:=fun b o ho=>by
 refine⟨?_,rfl,rfl⟩
 rcases h:g.K b with _|t|t
 ·rw[V7 h];exact ho
 ·obtain⟨_,_,h0,_⟩:=hG.roots b t h
  omega
 ·rw[XX h];omega
theorem zkt [Gi] {g:Gh} {w:World} {rs:List (Tok×List AV)}(hG:GS g w rs):GS (Ve g w) w []:=by
 have hp:∀b,(Ve g w).K b=.prot:=fun _=>rfl
 refine⟨fun b t hk=>(by rw[hp b]at hk;cases hk),fun b b' t hk _=>(by rw[hp b]at hk;cases hk),fun b b' t hk _=>(by rw[hp b]at hk;cases hk),fun b hb=>absurd (hp b) hb,fun b hb=>?_,fun b arr e=>?_⟩
 ·have:g.K b=.prot:=by
   rcases h:g.K b with _|t|t
   ·rfl
   all_goals exact absurd (hG.own b (by rw[h];simp)) (by omega)
  rw[V7 this]
  exact hG.frb b hb
 ·obtain⟨_,h2⟩:=hG.gl b arr e
  exact⟨rfl,h2⟩
def zh0 [Gi](rs:List (Tok×List AV))(x x':AV):Prop:=∀g w v,GS g w rs→zd g w x v→zd (Ve g w) w x' v
theorem CR.zkx [Gi] {P:Program} {f:FuncId} {args:List AV} {rs:List (Tok×List AV)} {R R':AV→List (Tok×List AV)→Prop}(h:CR P f [] args rs R)
  (hr:∀x rs',R x rs'→∃x',zh0 rs' x x'∧R' x' []):CR P f [] args rs R':=by
 intro w g vs h1 h2
 refine(h w g vs h1 h2).mono ?_
 rintro e w' ⟨v,x,rs',g',rfl,hR,hx,hG,hA⟩
 obtain⟨x',hf,hR'⟩:=hr x rs' hR
 refine⟨v,x',_,Ve g' w',rfl,hR',hf g' w' v hG hx,zkt hG,⟨fun b hb hk=>?_,hA.ext.trans (zcD hG),hA.out,hA.mono,fun b t hk ht=>by cases ht⟩⟩
 obtain⟨a1,a2,a3⟩:=hA.frame b hb hk
 exact⟨a1,by rw[V7 a3];exact a2,rfl⟩
def zjx:AV→Option PV
 |.p x=>some x
 |.os _ z es=>some (.sl z es)
 |.om _ ks xs=>some (.mp ks xs)
 |_=>none
def ziQ:List AV→Option (List PV)
 | []=>some []
 |x::l=>match zjx x,ziQ l with
  |some y,some ys=>some (y::ys)
  |_,_=>none
theorem zgs [Gi] {g:Gh} {w:World} {rs:List (Tok×List AV)}(hG:GS g w rs) {x:AV} {y:PV} {v:Value}(h:zjx x=some y)(r:zd g w x v):zk (Ve g w).fr w y v:=by
 have hx:=zcD hG
 cases x with
 |p x=>simp only[zjx,Option.some.injEq]at h;subst h;simp only[zd]at r;exact r.ext hx
 |os t z es=>simp only[zjx,Option.some.injEq]at h;subst h;simp only[zd]at r;exact zk.ext hx _ _ r.1
 |om t ks xs=>
  simp only[zjx,Option.some.injEq]at h;subst h
  simp only[zd]at r
  obtain⟨b,arr,c,rfl,hk,h0,hm,r1,r2⟩:=r
  simp only[zk]
  exact⟨b,arr,c,rfl,by rw[XX hk];omega,hm,r1.ext hx,r2.ext hx⟩
 |_=>cases h
theorem XF [Gi] {g:Gh} {w:World} {rs:List (Tok×List AV)}(hG:GS g w rs):∀{xs:List AV} {ys:List PV} {vs:List Value},ziQ xs=some ys→(∀u∈vs,u.oneCell'=true)→zt g w xs vs→zG (Ve g w).fr w ys vs
 | [],ys,vs,h,_,r=>by simp only[ziQ,Option.some.injEq]at h;subst h;simp only[zt]at r;simp only[zG];exact r
 |x::xs,ys,vs,h,h1,r=>by
  simp only[ziQ]at h
  split at h
  ·rename_i y ys' e1 e2
   simp only[Option.some.injEq]at h;subst h
   simp only[zt]at r
   obtain⟨v,vs',rfl,r1,r2⟩:=r
   simp only[zG]
   exact⟨v,vs',rfl,h1 v (by simp),zgs hG e1 r1,XF hG e2 (fun u hu=>h1 u (by simp[hu])) r2⟩
  ·cases h
theorem zka [Gi] {rs:List (Tok×List AV)} {t:Tok} {cs:List AV} {ps:List PV}(hl:zH rs t=some cs)(hp:ziQ cs=some ps):zh0 rs (.lp t 0) (.p (.pt cs.length (.agg ps))):=by
 intro g w v hG hv
 simp only[zd]at hv
 obtain⟨b,hk,rfl⟩:=hv
 obtain⟨cs',hl',hfr,arr,T,hb,hle,hc⟩:=hG.roots b t hk
 rw[hl]at hl';injection hl' with hl';subst hl'
 have hfb:(Ve g w).fr b=arr.size:=by rw[zhy hk];simp[frW,hb]
 have hRC:zt g w cs (arr.toList.take cs.length)∧∀u∈arr.toList.take cs.length,u.oneCell'=true:=by
  have key:∀(ys:List AV) (vs:List Value),ys.length=vs.length→(∀(j:Nat) (x:AV),ys[j]?=some x→∃v,vs[j]?=some v∧v.oneCell'=true∧zd g w x v)→zt g w ys vs∧∀u∈vs,u.oneCell'=true:=by
   intro ys
   induction ys with
   |nil=>intro vs hl _;cases vs with
    |nil=>exact⟨by simp[zt],by simp⟩
    |cons v vs=>simp at hl
   |cons y ys ih=>
    intro vs hl hh
    cases vs with
    |nil=>simp at hl
    |cons v vs=>
     obtain⟨u,hu,h1,hr⟩:=hh 0 y rfl
     simp at hu;subst hu
     obtain⟨i1,i2⟩:=ih vs (by simpa using hl) (fun j x hj=>by simpa using hh (j+1) x (by simpa using hj))
     refine⟨by simp only[zt];exact⟨v,vs,rfl,hr,i1⟩,fun u hu=>?_⟩
     rcases List.mem_cons.1 hu with rfl|hu
     ·exact h1
     ·exact i2 u hu
  refine key cs _ (by simp;omega) (fun j x hj=>?_)
  obtain⟨v,hv,h1,hr⟩:=hc j x hj
  exact⟨v,by rw[List.getElem?_take,if_pos (List.getElem?_eq_some_iff.1 hj).1];simpa using hv,h1,hr⟩
 have hP:=XF hG hp hRC.2 hRC.1
 simp only[zd,zk]
 refine⟨b,0,rfl,by rw[hfb];omega,.agg (arr.toList.take cs.length).toArray,⟨_,rfl,by simpa using hP⟩,by simp[Value.cells];omega,fun j c hj=>?_⟩
 have hj':(arr.toList.take cs.length)[j]?=some c:=by simpa[Value.cells]using hj
 refine⟨hRC.2 c (List.mem_of_getElem? hj'),?_⟩
 rw[qt hb,Nat.zero_add]
 rw[List.getElem?_take]at hj'
 split at hj'
 ·simpa using hj'
 ·cases hj'
end Go.AM
end
