/- A part of the proof of this seat's statements, by an abstract machine: what each operation does to values, and what the law's functions compute. Conditions: as each law says. -/
import Derived.Test.YthbmelihnabkaaaGreatW21
import Derived.Test.YthbmelihnabkaaaGreatW24
import Derived.Test.YthbmelihnabkaaaGreatW25
import Derived.Test.YthbmelihnabkaaaGreatW22
section
namespace Go.Proofs.YthbmelihnabkaaaGreat
open Go.AM
set_option maxHeartbeats 1000000
theorem zh9 [Gi](l:List (QH Zd))(size:Nat)(h0:0<size)(hs:size<2^28)(hn:l.length<2^31)(hb:∀p∈l, -1000000000≤p.f∧p.f≤1000000000):
  CR Tryz.prog 49 [] [.p (.int .i64 size),.p (.agg [.int .i32 0,.int .i32 0]),.p (xp l)] [] (fun x rs=>rs=[]∧∃e,x=.p e∧kY 2 size (fun j=>qj (qS ⟨0,0⟩ j l)) e):=by
 refine CR.freeze (zds l size h0 hs hn hb) (fun _=>false) rfl ?_
 rintro x rs ⟨idx,blocks,rfl,h1,h2,rfl⟩
 exact⟨_,zeq rfl rfl rfl,rfl,_,rfl,idx,blocks,rfl,fun i hi=>h1.qV h2 hi⟩
theorem zhO [Gi](l:List (QH Flags))(size:Nat)(h0:0<size)(hs:size<2^28)(hn:l.length<2^31)(hb:∀p∈l, -1000000000≤p.f∧p.f≤1000000000):
  CR Tryz.prog 94 [] [.p (.int .i64 size),.p (.agg [.bool false,.bool false,.bool false,.bool false]),.p (xu l)] [] (fun x rs=>rs=[]∧∃e,x=.p e∧kY 4 size (fun j=>qv (qS ⟨false,false,false,false⟩ j l)) e):=by
 refine CR.freeze (zco l size h0 hs hn hb) (fun _=>false) rfl ?_
 rintro x rs ⟨idx,blocks,rfl,h1,h2,rfl⟩
 exact⟨_,zeq rfl rfl rfl,rfl,_,rfl,idx,blocks,rfl,fun i hi=>h1.qV h2 hi⟩
theorem UH [Gi] {size:Nat} {val:Nat→Zd} {e:PV}(h:kY 2 size (fun j=>qj (val j)) e)(hs:size<2^31) {i:Nat}(hi:i<size):CR Tryz.prog 50 [] [.p e,.p (.int .i64 i)] [] (is (.p (.agg (qj (val i))))):=by
 obtain⟨idx,blocks,rfl,h⟩:=h
 exact zk8 size idx blocks i _ hs hi (h i hi)
theorem X6 [Gi] {size:Nat} {val:Nat→Flags} {e:PV}(h:kY 4 size (fun j=>qv (val j)) e)(hs:size<2^31) {i:Nat}(hi:i<size):CR Tryz.prog 104 [] [.p e,.p (.int .i64 i)] [] (is (.p (.agg (qv (val i))))):=by
 obtain⟨idx,blocks,rfl,h⟩:=h
 exact zlH size idx blocks i _ hs hi (h i hi)
end Go.Proofs.YthbmelihnabkaaaGreat
end
section
namespace Go.Proofs.YthbmelihnabkaaaGreat
open Go.AM
set_option maxHeartbeats 4000000
set_option maxRecDepth 10000
def qg(l:List Row)(k:Int):List Span:=Z7 (zP l k)
structure ZQ(l:List Row)(k:Int):Prop where
 rise:qZ (zP l k)
 b:∀s∈zP l k, -1000000000≤s.t∧s.t≤1000000000
 n:(zP l k).length<256
 riseJ:qZ (qg l k)
 bJ:∀s∈qg l k,0≤s.f∧s.t≤1114111
 nJ:(qg l k).length<256
theorem xv {l:List Span} {c:Int} {s:Span}(h:atL l c=some s):qR l c=decide (s.a=1):=by
 simp only[qR,h];by_cases e:s.a=1<;>simp[e]
theorem xk {l:List Span} {c:Int}(h:atL l c=none):qR l c=false:=by simp only[qR,h]
theorem Ju(A B C D:List Span)(c:Int):(QC A B C D c !=y5)=(qR A c || (qR B c || (qR C c || qR D c))):=by
 simp only[QC,y5]
 cases qR A c<;>cases qR B c<;>cases qR C c<;>cases qR D c<;>rfl
def zaL:PV:=.opq (.slice none 0 0)
theorem zg4 [Gi](l:List Row)(hn:l.length<2^31)(h5:ZQ l 5)(h7:ZQ l 7)(h8:ZQ l 8)(h3:ZQ l 3):
  CR Tryz.prog 47 [] [.p (zJ l)] [] (fun x rs=>rs=[]∧∃e,x=.p e∧kY 4 1114112 (fun j=>qv (QC (qg l 5) (qg l 7) (qg l 8) (qg l 3) j)) e):=by
 refine zS [23] mixed 16 [17,18,29,30,31,35,36] Tryz.func47 rfl (by kernel_rfl) rfl (by simp) (by simp) ?_
 simp (maxSteps:=1000000) [go_sem,Tryz.f47]
 have hw:∀x:Int,0≤x→x≤4→IntKind.i64.wrap x=x:=fun x h1 h2=>wrap64 (by omega) (by omega)
 have w1:=hw 1 (by omega) (by omega)
 have w2:=hw 2 (by omega) (by omega)
 have w3:=hw 3 (by omega) (by omega)
 have w4:=hw 4 (by omega) (by omega)
 obtain⟨A,eA⟩:∃A,A=qg l 5:=⟨_,rfl⟩
 obtain⟨B,eB⟩:∃A,A=qg l 7:=⟨_,rfl⟩
 obtain⟨C,eC⟩:∃A,A=qg l 8:=⟨_,rfl⟩
 obtain⟨D,eD⟩:∃A,A=qg l 3:=⟨_,rfl⟩
 refine⟨rfl,zm (fun i:Nat=>i≤4) (fun i=>[(18,.p (.int .i64 (i:Nat)))]) (fun i=>[([4],[.p (if 0<i then zM A else zaL),.p (if 1<i then zM B else zaL),.p (if 2<i then zM C else zaL),.p (if 3<i then zM D else zaL)])]) (fun i=>4-i) 0 (by omega) (by simp[go_sem,LeS,leV,leR,leA,leL,zaL]) (fun i hi=>?_)⟩
 have hi':i=0∨i=1∨i=2∨i=3∨i=4:=by omega
 rcases hi' with rfl|rfl|rfl|rfl|rfl
 ·simp (maxSteps:=1000000) [go_sem]
  refine⟨⟨rfl,by simp[Tryz.f48]⟩,zc [] (zal l 5 h5.rise h5.b hn h5.n) (by simp[go_sem]) ⟨by simp[go_sem],by simp[go_sem]⟩ (by simp[go_sem]) ?_⟩
  rintro _ rs ⟨rfl,rfl⟩
  simp (maxSteps:=1000000) [go_sem,zM,zaL,w1]
  exact zf 1 (by omega) (by simp[go_sem,LeS,leV,leR,leA,leL,eA,qg]) (by omega)
 ·simp (maxSteps:=1000000) [go_sem]
  refine⟨⟨rfl,by simp[Tryz.f48]⟩,zc [] (zal l 7 h7.rise h7.b hn h7.n) (by simp[go_sem]) ⟨by simp[go_sem],by simp[go_sem]⟩ (by simp[go_sem]) ?_⟩
  rintro _ rs ⟨rfl,rfl⟩
  simp (maxSteps:=1000000) [go_sem,zM,zaL,w2]
  exact zf 2 (by omega) (by simp[go_sem,LeS,leV,leR,leA,leL,eB,qg]) (by omega)
 ·simp (maxSteps:=1000000) [go_sem]
  refine⟨⟨rfl,by simp[Tryz.f48]⟩,zc [] (zal l 8 h8.rise h8.b hn h8.n) (by simp[go_sem]) ⟨by simp[go_sem],by simp[go_sem]⟩ (by simp[go_sem]) ?_⟩
  rintro _ rs ⟨rfl,rfl⟩
  simp (maxSteps:=1000000) [go_sem,zM,zaL,w3]
  exact zf 3 (by omega) (by simp[go_sem,LeS,leV,leR,leA,leL,eC,qg]) (by omega)
 ·simp (maxSteps:=1000000) [go_sem]
  refine⟨⟨rfl,by simp[Tryz.f48]⟩,zc [] (zal l 3 h3.rise h3.b hn h3.n) (by simp[go_sem]) ⟨by simp[go_sem],by simp[go_sem]⟩ (by simp[go_sem]) ?_⟩
  rintro _ rs ⟨rfl,rfl⟩
  simp (maxSteps:=1000000) [go_sem,zM,zaL,w4]
  exact zf 4 (by omega) (by simp[go_sem,LeS,leV,leR,leA,leL,eD,qg]) (by omega)
 ·simp (maxSteps:=1000000) [go_sem]
  have hl:∀m∈[A,B,C,D],m.length<256:=by
   intro m hm
   simp only[List.mem_cons,List.not_mem_nil,or_false]at hm
   rcases hm with rfl|rfl|rfl|rfl
   ·rw[eA];exact h5.nJ
   ·rw[eB];exact h7.nJ
   ·rw[eC];exact h8.nJ
   ·rw[eD];exact h3.nJ
  have hR:∀m∈[A,B,C,D],qZ m:=by
   intro m hm
   simp only[List.mem_cons,List.not_mem_nil,or_false]at hm
   rcases hm with rfl|rfl|rfl|rfl
   ·rw[eA];exact h5.riseJ
   ·rw[eB];exact h7.riseJ
   ·rw[eC];exact h8.riseJ
   ·rw[eD];exact h3.riseJ
  have hB:∀m∈[A,B,C,D],∀s∈m,0≤s.f∧s.t≤1114111:=by
   intro m hm
   simp only[List.mem_cons,List.not_mem_nil,or_false]at hm
   rcases hm with rfl|rfl|rfl|rfl
   ·rw[eA];exact h5.bJ
   ·rw[eB];exact h7.bJ
   ·rw[eC];exact h8.bJ
   ·rw[eD];exact h3.bJ
  refine⟨⟨rfl,by simp[Tryz.f91]⟩,zc [([0],[4])] (zmI [A,B,C,D] (by simp) hl (fun m hm s hs=>?_)) (by simp[go_sem,zE]) ⟨by simp[go_sem],by simp[go_sem]⟩ (by simp[go_sem]) ?_⟩
  ·have:=hB m hm s hs
   have:=(hR m hm).le s hs
   omega
  rintro _ _ ⟨rfl,at_,rfl,c1,c2,c3,c4⟩
  simp (maxSteps:=1000000) [go_sem]
  have hat:∀c∈at_,0≤c∧c≤1114112:=fun c hc=>by
   rcases c3 c hc with rfl|⟨m,hm,q,hq,h⟩
   ·omega
   ·have:=hB m hm q hq
    have:=(hR m hm).le q hq
    omega
  refine zm (fun i:Nat=>i≤at_.length) (fun i=>[(31,.p (.int .i64 (i:Nat))),(7,.os [7] 6 ((ke A B C D (at_.take i)).map J6))]) (fun _=>[]) (fun i=>at_.length-i) 0 (by omega) (by simp[go_sem,LeS,leV,leR,leA,leL,ke]) (fun i hi=>?_)
  simp (maxSteps:=1000000) [go_sem]
  refine zw (fun h=>?_) (fun h=>?_)
  ·have hil:i<at_.length:=by omega
   have wi:IntKind.i64.wrap ((i:Int)+1)=((i+1:Nat):Int):=by rw[wrap64 (by omega) (by omega)];rfl
   have em:=zt (fun k=>PV.int .i64 k) at_ i hil
   have hc:=hat at_[i] (List.getElem_mem _)
   have htk:ke A B C D (at_.take (i+1))=ke A B C D (at_.take i)++(if QC A B C D at_[i] !=y5 then [wQ A B C D at_[i]]else []):=by
    rw[List.take_add_one,List.getElem?_eq_getElem hil]
    simp only[ke,List.filter_append,List.map_append,Option.toList_some]
    by_cases hz:(QC A B C D at_[i] !=y5)=true<;>simp[hz]
   have hlen:(ke A B C D (at_.take i)).length≤10000:=by
    have h1:=List.length_filter_le (fun a=>QC A B C D a !=y5) (at_.take i)
    simp only[ke,List.length_map]
    rw[List.length_take]at h1
    omega
   generalize at_[i]=c at em hc htk
   have w5:IntKind.i32.wrap c=c:=by simp[IntKind.wrap,IntKind.signed,IntKind.bits];omega
   simp (maxSteps:=1000000) [go_sem,em,hil]
   refine zm (fun k:Nat=>k≤4) (fun k=>[(36,.p (.int .i64 (k:Nat))),(11,.p (.int .i64 (xE c 1114111 ([A,B,C,D].take k))))]) (fun k=>[([10],[.p (.bool (decide (0<k)&&qR A c)),.p (.bool (decide (1<k)&&qR B c)),.p (.bool (decide (2<k)&&qR C c)),.p (.bool (decide (3<k)&&qR D c))])]) (fun k=>4-k) 0 (by omega) (by simp[go_sem,LeS,leV,leR,leA,leL,xE,zM]) (fun k hk=>?_)
   have hk':k=0∨k=1∨k=2∨k=3∨k=4:=by omega
   rcases hk' with rfl|rfl|rfl|rfl|rfl
   ·simp (maxSteps:=1000000) [go_sem,w5,zM]
    refine⟨⟨rfl,by simp[Tryz.f92]⟩,zc [] (zgC A c (by omega) (hR A (by simp)) (by have:=hl A (by simp);omega)) (by simp[go_sem]) ⟨by simp[go_sem],by simp[go_sem,zM]⟩ (by simp[go_sem]) ?_⟩
    rintro _ rs ⟨rfl,rfl⟩
    cases ha:atL A c with
    |none=>
     have hf:=xk ha
     simp (maxSteps:=1000000) [go_sem,atA,z8,w1]
     exact zf 1 (by omega) (by simp[go_sem,LeS,leV,leR,leA,leL,xE,ha,hf]) (by omega)
    |some s=>
     have hf:=xv ha
     simp (maxSteps:=1000000) [go_sem,atA,z8,w1]
     exact zf 1 (by omega) (by simp[go_sem,LeS,leV,leR,leA,leL,xE,ha,hf]) (by omega)
   ·simp (maxSteps:=1000000) [go_sem,w5,zM]
    refine⟨⟨rfl,by simp[Tryz.f92]⟩,zc [] (zgC B c (by omega) (hR B (by simp)) (by have:=hl B (by simp);omega)) (by simp[go_sem]) ⟨by simp[go_sem],by simp[go_sem,zM]⟩ (by simp[go_sem]) ?_⟩
    rintro _ rs ⟨rfl,rfl⟩
    cases ha:atL B c with
    |none=>
     have hf:=xk ha
     simp (maxSteps:=1000000) [go_sem,atA,z8,w2]
     exact zf 2 (by omega) (by simp[go_sem,LeS,leV,leR,leA,leL,xE,ha,hf]) (by omega)
    |some s=>
     have hf:=xv ha
     simp (maxSteps:=1000000) [go_sem,atA,z8,w2]
     exact zf 2 (by omega) (by simp[go_sem,LeS,leV,leR,leA,leL,xE,ha,hf]) (by omega)
   ·simp (maxSteps:=1000000) [go_sem,w5,zM]
    refine⟨⟨rfl,by simp[Tryz.f92]⟩,zc [] (zgC C c (by omega) (hR C (by simp)) (by have:=hl C (by simp);omega)) (by simp[go_sem]) ⟨by simp[go_sem],by simp[go_sem,zM]⟩ (by simp[go_sem]) ?_⟩
    rintro _ rs ⟨rfl,rfl⟩
    cases ha:atL C c with
    |none=>
     have hf:=xk ha
     simp (maxSteps:=1000000) [go_sem,atA,z8,w3]
     exact zf 3 (by omega) (by simp[go_sem,LeS,leV,leR,leA,leL,xE,ha,hf]) (by omega)
    |some s=>
     have hf:=xv ha
     simp (maxSteps:=1000000) [go_sem,atA,z8,w3]
     exact zf 3 (by omega) (by simp[go_sem,LeS,leV,leR,leA,leL,xE,ha,hf]) (by omega)
   ·simp (maxSteps:=1000000) [go_sem,w5,zM]
    refine⟨⟨rfl,by simp[Tryz.f92]⟩,zc [] (zgC D c (by omega) (hR D (by simp)) (by have:=hl D (by simp);omega)) (by simp[go_sem]) ⟨by simp[go_sem],by simp[go_sem,zM]⟩ (by simp[go_sem]) ?_⟩
    rintro _ rs ⟨rfl,rfl⟩
    cases ha:atL D c with
    |none=>
     have hf:=xk ha
     simp (maxSteps:=1000000) [go_sem,atA,z8,w4]
     exact zf 4 (by omega) (by simp[go_sem,LeS,leV,leR,leA,leL,xE,ha,hf]) (by omega)
    |some s=>
     have hf:=xv ha
     simp (maxSteps:=1000000) [go_sem,atA,z8,w4]
     exact zf 4 (by omega) (by simp[go_sem,LeS,leV,leR,leA,leL,xE,ha,hf]) (by omega)
   ·simp (maxSteps:=1000000) [go_sem]
    refine qk (fun hz=>?_) (fun hz=>?_)
    ·simp (maxSteps:=1000000) [go_sem]
     refine QO (.p (.int .i64 (Qr c (xE c 1114111 [A,B,C,D]) [A,B,C,D].flatten))) rfl rfl (fun _=>jP 93 (zlu [A,B,C,D] c (xE c 1114111 [A,B,C,D]) rfl hl (fun m hm s hs=>?_)) rfl ⟨rfl,by simp[Tryz.f93]⟩ ⟨by simp[go_sem],by simp[go_sem,zeh]⟩) ?_
     ·have:=hB m hm s hs
      have:=(hR m hm).le s hs
      omega
     simp (maxSteps:=1000000) [go_sem,wi]
     rw[Ju,if_pos hz]at htk
     exact⟨by omega,zf (i+1) (by omega) (by simp[go_sem,LeS,leV,leR,leA,leL,htk,J6,qv,QC,wQ]) (by omega)⟩
    ·simp (maxSteps:=1000000) [go_sem,wi]
     rw[Ju,if_neg (by simp[hz]),List.append_nil]at htk
     exact zf (i+1) (by omega) (by simp[go_sem,LeS,leV,leR,leA,leL,htk]) (by omega)
  ·obtain rfl:i=at_.length:=by omega
   simp (maxSteps:=1000000) [go_sem]
   have hpl:(ke A B C D at_).length≤10000:=by
    have h1:=List.length_filter_le (fun a=>QC A B C D a !=y5) at_
    simp only[ke,List.length_map]
    omega
   refine⟨⟨rfl,by simp[Tryz.f94]⟩,zc [] (zhO (ke A B C D at_) 1114112 (by omega) (by omega) (by omega) (fun p hp=>?_)) (by simp[go_sem]) ⟨by simp[go_sem],by simp[go_sem,xu]⟩ (by simp[go_sem]) ?_⟩
   ·obtain⟨a,ha,rfl⟩:=List.mem_map.1 hp
    have:=hat a (List.mem_filter.1 ha).1
    simp only[wQ]
    omega
   rintro _ rs ⟨rfl,e,rfl,idx,blocks,rfl,he⟩
   simp (maxSteps:=1000000) [go_sem]
   refine zi [] (.p (.pt 3 (QL 4 1114112 idx blocks))) ⟨rfl,by simp⟩ (by simp[go_sem,zd,leA,leT]) ⟨by simp[go_sem],_,rfl,idx,blocks,rfl,fun j hj=>?_⟩
   have hl4:=ze2 (hR A (by simp)) (hR B (by simp)) (hR C (by simp)) (hR D (by simp)) c1 c2 (j:=j) (by omega) (by omega)
   simp only[y5]at hl4
   show XQ 4 idx blocks j (qv (QC (qg l 5) (qg l 7) (qg l 8) (qg l 3) j))
   rw[←eA,←eB,←eC,←eD,←hl4]
   exact he j hj
end Go.Proofs.YthbmelihnabkaaaGreat
end
section
namespace Go.Proofs.YthbmelihnabkaaaGreat
open Go.AM
set_option maxHeartbeats 4000000
set_option maxRecDepth 10000
structure zR where
 cls:Nat→Int
 brk:Nat→Int
 cnj:Nat→Int
 flg:Nat→Flags
 par:Nat→Zd
structure jo(t:zR)(c b j f p:PV):Prop where
 c:kY 1 1114112 (fun i=>[.int .i64 (t.cls i)]) c
 b:kY 1 1114112 (fun i=>[.int .i64 (t.brk i)]) b
 j:kY 1 1114112 (fun i=>[.int .i64 (t.cnj i)]) j
 f:kY 4 1114112 (fun i=>qv (t.flg i)) f
 p:kY 2 1114112 (fun i=>qj (t.par i)) p
def xC(c b j f p:PV)(ck cx sk sx:List PV):List AV:=[.p c,.p b,.p j,.p f,.p p,.om [901] ck cx,.om [902] sk sx]
def zF(c b j f p:PV)(ck cx sk sx:List PV):PV:=.pt 7 (.agg [c,b,j,f,p,.mp ck cx,.mp sk sx])
def Va(q:Zd):AV:=.tup [.p (.int .i32 q.a),.p (.int .i32 q.b),.p (.bool (!decide (q.a=0) ||!decide (q.b=0)))]
theorem YX [Gi] {t:zR} {c b j f p:PV}(h:jo t c b j f p)(ck cx sk sx:List PV) {i:Nat}(hi:i<1114112):
  CR Tryz.prog 105 [[0]] [.lp [0] 0,.p (.int .i32 i)] [([0],xC c b j f p ck cx sk sx)] (fun x rs=>x=.p (.int .i64 (t.cls i))∧rs=[([0],xC c b j f p ck cx sk sx)]):=by
 have w1:IntKind.i64.wrap (i:Int)=i:=wrap64 (by omega) (by omega)
 refine zn mixed 5 [] Tryz.func105 rfl (by kernel_rfl) rfl (by simp) (by simp) ?_
 obtain⟨_,_,e,_⟩:=id h.c
 simp (maxSteps:=1000000) [go_sem,Tryz.f105,xC,w1]
 refine⟨⟨rfl,by simp[Tryz.f152]⟩,zc [] (XC h.c (by omega) hi) (by simp[go_sem,zE]) ⟨by simp[go_sem],by simp[go_sem]⟩ (by simp[go_sem]) ?_⟩
 rintro _ rs ⟨rfl,rfl⟩
 simp (maxSteps:=1000000) [go_sem]
 exact zi [[0]] (.p (.int .i64 (t.cls i))) ⟨rfl,by simp⟩ (by simp[go_sem,zd,leA,leT]) ⟨rfl,by simp[go_sem]⟩
theorem zgT [Gi] {t:zR} {c b j f p:PV}(h:jo t c b j f p)(ck cx sk sx:List PV) {i:Nat}(hi:i<1114112):
  CR Tryz.prog 103 [[0]] [.lp [0] 0,.p (.int .i32 i)] [([0],xC c b j f p ck cx sk sx)] (fun x rs=>x=Va (t.par i)∧rs=[([0],xC c b j f p ck cx sk sx)]):=by
 have w1:IntKind.i64.wrap (i:Int)=i:=wrap64 (by omega) (by omega)
 refine zS [4] mixed 8 [] Tryz.func103 rfl (by kernel_rfl) rfl (by simp) (by simp) ?_
 simp (maxSteps:=1000000) [go_sem,Tryz.f103,xC,w1]
 refine⟨⟨rfl,by simp[Tryz.f50]⟩,zc [] (UH h.p (by omega) hi) (by simp[go_sem,zE]) ⟨by simp[go_sem],by simp[go_sem]⟩ (by simp[go_sem]) ?_⟩
 rintro _ rs ⟨rfl,rfl⟩
 generalize t.par i=q
 simp (maxSteps:=1000000) [go_sem,qj]
 exact zi [[0]] (.tup [.p (.int .i32 q.a),.p (.int .i32 q.b),.p (.bool (!decide (q.a=0) ||!decide (q.b=0)))]) ⟨rfl,by simp⟩ (by simp[go_sem,zd,leA,leT,leP]) ⟨rfl,by simp[go_sem]⟩
def Y8(t:zR)(i:Nat):Bool:=(!decide ((t.par i).a=0) ||!decide ((t.par i).b=0))&&(decide ((t.par i).b=0) || (t.flg i).o ||!decide (t.cls i=0) ||!decide (t.cls (t.par i).a.toNat=0))
theorem zjz [Gi] {t:zR} {c b j f p:PV}(h:jo t c b j f p)(ck cx sk sx:List PV) {i:Nat}(hi:i<1114112)(hp:0≤(t.par i).a∧(t.par i).a<1114112):
  CR Tryz.prog 51 [[0]] [.lp [0] 0,.p (.int .i32 i)] [([0],xC c b j f p ck cx sk sx)] (fun x rs=>x=.p (.bool (Y8 t i))∧rs=[([0],xC c b j f p ck cx sk sx)]):=by
 have w1:IntKind.i64.wrap (i:Int)=i:=wrap64 (by omega) (by omega)
 refine zn mixed 8 [] Tryz.func51 rfl (by kernel_rfl) rfl (by simp) (by simp) ?_
 obtain⟨q,hq⟩:∃q,t.par i=q:=⟨_,rfl⟩
 have hpa:=hp
 rw[hq]at hpa
 have hn:((q.a.toNat:Nat):Int)=q.a:=by omega
 simp (maxSteps:=1000000) [go_sem,Tryz.f51,xC]
 refine⟨⟨rfl,by simp[Tryz.f103]⟩,zc [([0],[0]),([901],[901]),([902],[902])] (zgT h ck cx sk sx hi) (by simp[go_sem,zE]) ⟨by simp[go_sem],by simp[go_sem]⟩ (by simp[go_sem,xC]) ?_⟩
 rintro _ rs ⟨rfl,rfl⟩
 obtain⟨z,hz⟩:∃z,(!decide (q.a=0) ||!decide (q.b=0))=z:=⟨_,rfl⟩
 simp only[hq,Va,hz]
 have ho:Y8 t i=(z&&(decide (q.b=0) || (t.flg i).o ||!decide (t.cls i=0) ||!decide (t.cls q.a.toNat=0))):=by simp only[Y8,hq,hz]
 cases z with
 |false=>
  simp (maxSteps:=1000000) [go_sem]
  exact zi [[0]] (.p (.bool (Y8 t i))) ⟨rfl,by simp⟩ (by simp[go_sem,zd,leA,leT, *]) ⟨rfl,by simp[go_sem,xC]⟩
 |true=>
  by_cases hb:q.b=0
  ·simp (maxSteps:=1000000) [go_sem,hb]
   exact zi [[0]] (.p (.bool (Y8 t i))) ⟨rfl,by simp⟩ (by simp[go_sem,zd,leA,leT, *]) ⟨rfl,by simp[go_sem,xC]⟩
  ·simp (maxSteps:=1000000) [go_sem,hb,w1,xC]
   refine⟨⟨rfl,by simp[Tryz.f104]⟩,zc [] (X6 h.f (by omega) hi) (by simp[go_sem,zE]) ⟨by simp[go_sem],by simp[go_sem]⟩ (by simp[go_sem]) ?_⟩
   rintro _ rs ⟨rfl,rfl⟩
   generalize t.flg i=fl at ho
   cases hfo:fl.o with
   |true=>
    simp (maxSteps:=1000000) [go_sem,qv,hfo]
    exact zi [[0]] (.p (.bool (Y8 t i))) ⟨rfl,by simp⟩ (by simp[go_sem,zd,leA,leT, *]) ⟨rfl,by simp[go_sem]⟩
   |false=>
    simp (maxSteps:=1000000) [go_sem,qv,hfo]
    refine⟨⟨rfl,by simp[Tryz.f105]⟩,zc [([0],[0]),([901],[901]),([902],[902])] (YX h ck cx sk sx hi) (by simp[go_sem,zE]) ⟨by simp[go_sem],by simp[go_sem]⟩ (by simp[go_sem,xC]) ?_⟩
    rintro _ rs ⟨rfl,rfl⟩
    by_cases hc:t.cls i=0
    ·simp (maxSteps:=1000000) [go_sem,hc,xC]
     refine⟨⟨rfl,by simp[Tryz.f105]⟩,zc [([0],[0]),([901],[901]),([902],[902])] (YX h ck cx sk sx (i:=q.a.toNat) (by omega)) (by simp[go_sem,zE]) ⟨by simp[go_sem],by simp[go_sem,hn]⟩ (by simp[go_sem,xC]) ?_⟩
     rintro _ rs ⟨rfl,rfl⟩
     simp (maxSteps:=1000000) [go_sem,xC]
     exact zi [[0]] (.p (.bool (Y8 t i))) ⟨rfl,by simp⟩ (by simp[go_sem,zd,leA,leT, *]) ⟨rfl,by simp[go_sem]⟩
    ·simp (maxSteps:=1000000) [go_sem,hc,xC]
     exact zi [[0]] (.p (.bool (Y8 t i))) ⟨rfl,by simp⟩ (by simp[go_sem,zd,leA,leT, *]) ⟨rfl,by simp[go_sem]⟩
end Go.Proofs.YthbmelihnabkaaaGreat
end
section
namespace Go.AM
def Vi(g:Gh)(w:World):Gh:=
 ⟨fun b=>match g.K b with
  |.root _=>frW w b
  |.tail _=>max 1 (g.fr b)
  |.prot=>g.fr b,fun _=>.prot⟩
theorem Ud {g:Gh} {w:World} {b:Nat}(h:g.K b=.prot):(Vi g w).fr b=g.fr b:=by simp only[Vi,h]
theorem zh7 {g:Gh} {w:World} {b:Nat} {t:Tok}(h:g.K b=.root t):(Vi g w).fr b=frW w b:=by simp only[Vi,h]
theorem zaE {g:Gh} {w:World} {b:Nat} {t:Tok}(h:g.K b=.tail t):(Vi g w).fr b=max 1 (g.fr b):=by simp only[Vi,h]
theorem zc4 [Gi] {g:Gh} {w:World} {rs:List (Tok×List AV)}(hG:GS g w rs):Ext g.fr w (Vi g w).fr w:=fun b o ho=>by
 refine⟨?_,rfl,rfl⟩
 rcases h:g.K b with _|t|t
 ·rw[Ud h];exact ho
 ·obtain⟨_,_,h0,_⟩:=hG.roots b t h
  omega
 ·rw[zaE h];omega
theorem zkV [Gi] {g:Gh} {w:World} {rs:List (Tok×List AV)}(hG:GS g w rs):GS (Vi g w) w []:=by
 have hp:∀b,(Vi g w).K b=.prot:=fun _=>rfl
 refine⟨fun b t hk=>(by rw[hp b]at hk;cases hk),fun b b' t hk _=>(by rw[hp b]at hk;cases hk),fun b b' t hk _=>(by rw[hp b]at hk;cases hk),fun b hb=>absurd (hp b) hb,fun b hb=>?_,fun b arr e=>?_⟩
 ·have:g.K b=.prot:=by
   rcases h:g.K b with _|t|t
   ·rfl
   all_goals exact absurd (hG.own b (by rw[h];simp)) (by omega)
  rw[Ud this]
  exact hG.frb b hb
 ·obtain⟨_,h2⟩:=hG.gl b arr e
  exact⟨rfl,h2⟩
def zjZ [Gi](rs:List (Tok×List AV))(x x':AV):Prop:=∀g w v,GS g w rs→zb g w x v→zb (Vi g w) w x' v
theorem CR.zlf [Gi] {P:Program} {f:FuncId} {args:List AV} {rs:List (Tok×List AV)} {R R':AV→List (Tok×List AV)→Prop}(h:CR P f [] args rs R)
  (hr:∀x rs',R x rs'→∃x',zjZ rs' x x'∧R' x' []):CR P f [] args rs R':=by
 intro w g vs h1 h2
 refine(h w g vs h1 h2).mono ?_
 rintro e w' ⟨v,x,rs',g',rfl,hR,hx,hG,hA⟩
 obtain⟨x',hf,hR'⟩:=hr x rs' hR
 refine⟨v,x',_,Vi g' w',rfl,hR',hf g' w' v hG hx,zkV hG,⟨fun b hb hk=>?_,hA.ext.trans (zc4 hG),hA.out,hA.mono,fun b t hk ht=>by cases ht⟩⟩
 obtain⟨a1,a2,a3⟩:=hA.frame b hb hk
 exact⟨a1,by rw[Ud a3];exact a2,rfl⟩
def zjh:AV→Option PV
 |.p x=>some x
 |.os _ z es=>some (.sl z es)
 |.om _ ks xs=>some (.mp ks xs)
 |_=>none
def zky:List AV→Option (List PV)
 | []=>some []
 |x::l=>match zjh x,zky l with
  |some y,some ys=>some (y::ys)
  |_,_=>none
theorem zia [Gi] {g:Gh} {w:World} {rs:List (Tok×List AV)}(hG:GS g w rs) {x:AV} {y:PV} {v:Value}(h:zjh x=some y)(r:zb g w x v):zl (Vi g w).fr w y v:=by
 have hx:=zc4 hG
 cases x with
 |p x=>simp only[zjh,Option.some.injEq]at h;subst h;simp only[zb]at r;exact r.ext hx
 |os t z es=>simp only[zjh,Option.some.injEq]at h;subst h;simp only[zb]at r;exact zl.ext hx _ _ r.1
 |om t ks xs=>
  simp only[zjh,Option.some.injEq]at h;subst h
  simp only[zb]at r
  obtain⟨b,arr,c,rfl,hk,h0,hm,r1,r2⟩:=r
  simp only[zl]
  exact⟨b,arr,c,rfl,by rw[zaE hk];omega,hm,r1.ext hx,r2.ext hx⟩
 |_=>cases h
theorem Xy [Gi] {g:Gh} {w:World} {rs:List (Tok×List AV)}(hG:GS g w rs):∀{xs:List AV} {ys:List PV} {vs:List Value},zky xs=some ys→(∀u∈vs,u.oneCell'=true)→zp g w xs vs→zH (Vi g w).fr w ys vs
 | [],ys,vs,h,_,r=>by simp only[zky,Option.some.injEq]at h;subst h;simp only[zp]at r;simp only[zH];exact r
 |x::xs,ys,vs,h,h1,r=>by
  simp only[zky]at h
  split at h
  ·rename_i y ys' e1 e2
   simp only[Option.some.injEq]at h;subst h
   simp only[zp]at r
   obtain⟨v,vs',rfl,r1,r2⟩:=r
   simp only[zH]
   exact⟨v,vs',rfl,h1 v (by simp),zia hG e1 r1,Xy hG e2 (fun u hu=>h1 u (by simp[hu])) r2⟩
  ·cases h
theorem zlJ [Gi] {rs:List (Tok×List AV)} {t:Tok} {cs:List AV} {ps:List PV}(hl:zI rs t=some cs)(hp:zky cs=some ps):zjZ rs (.lp t 0) (.p (.pt cs.length (.agg ps))):=by
 intro g w v hG hv
 simp only[zb]at hv
 obtain⟨b,hk,rfl⟩:=hv
 obtain⟨cs',hl',hfr,arr,T,hb,hle,hc⟩:=hG.roots b t hk
 rw[hl]at hl';injection hl' with hl';subst hl'
 have hfb:(Vi g w).fr b=arr.size:=by rw[zh7 hk];simp[frW,hb]
 have hRC:zp g w cs (arr.toList.take cs.length)∧∀u∈arr.toList.take cs.length,u.oneCell'=true:=by
  have key:∀(ys:List AV) (vs:List Value),ys.length=vs.length→(∀(j:Nat) (x:AV),ys[j]?=some x→∃v,vs[j]?=some v∧v.oneCell'=true∧zb g w x v)→zp g w ys vs∧∀u∈vs,u.oneCell'=true:=by
   intro ys
   induction ys with
   |nil=>intro vs hl _;cases vs with
    |nil=>exact⟨by simp[zp],by simp⟩
    |cons v vs=>simp at hl
   |cons y ys ih=>
    intro vs hl hh
    cases vs with
    |nil=>simp at hl
    |cons v vs=>
     obtain⟨u,hu,h1,hr⟩:=hh 0 y rfl
     simp at hu;subst hu
     obtain⟨i1,i2⟩:=ih vs (by simpa using hl) (fun j x hj=>by simpa using hh (j+1) x (by simpa using hj))
     refine⟨by simp only[zp];exact⟨v,vs,rfl,hr,i1⟩,fun u hu=>?_⟩
     rcases List.mem_cons.1 hu with rfl|hu
     ·exact h1
     ·exact i2 u hu
  refine key cs _ (by simp;omega) (fun j x hj=>?_)
  obtain⟨v,hv,h1,hr⟩:=hc j x hj
  exact⟨v,by rw[List.getElem?_take,if_pos (List.getElem?_eq_some_iff.1 hj).1];simpa using hv,h1,hr⟩
 have hP:=Xy hG hp hRC.2 hRC.1
 simp only[zb,zl]
 refine⟨b,0,rfl,by rw[hfb];omega,.agg (arr.toList.take cs.length).toArray,⟨_,rfl,by simpa using hP⟩,by simp[Value.cells];omega,fun j c hj=>?_⟩
 have hj':(arr.toList.take cs.length)[j]?=some c:=by simpa[Value.cells]using hj
 refine⟨hRC.2 c (List.mem_of_getElem? hj'),?_⟩
 rw[qq hb,Nat.zero_add]
 rw[List.getElem?_take]at hj'
 split at hj'
 ·simpa using hj'
 ·cases hj'
end Go.AM
end
section
namespace Go.Proofs.YthbmelihnabkaaaGreat
open Go.AM
set_option maxHeartbeats 4000000
set_option maxRecDepth 10000
theorem ZQ.num [Gi] {l:List Row} {k:Int}(h:ZQ l k)(hn:l.length<2^31):CR Tryz.prog 46 [] [.p (zJ l),.p (.int .i64 k)] [] (fun x rs=>rs=[]∧∃e,x=.p e∧kY 1 1114112 (fun j=>[.int .i64 (qS 0 j ((qg l k).map QW))]) e):=
 zen l k h.rise h.b hn h.n h.nJ (fun s hs=>by
  have:=h.bJ s hs
  have:=h.riseJ.le s hs
  omega)
def zmK:OT:=.now 0 0 (.now 1 0 (.now 2 0 (.now 3 0 (.now 4 0 (.now 5 0 (.now 6 0 (.now 7 0 (.now 8 0 (.now 9 2 (.now 11 2 (.mk [(10,.mk [(12,.now 13 0 (.mk [(14,.mk [(15,.now 16 0 (.mk [(17,.mk [])]))])]))]),(12,.now 13 0 (.mk [(10,.mk [(14,.mk [(15,.now 16 0 (.mk [(17,.mk [])]))])]),(14,.now 10 0 (.mk [(15,.now 16 0 (.mk [(17,.mk [])]))]))]))])))))))))))
def zlj:OT:=.now 0 0 (.now 1 0 (.now 2 0 (.now 3 0 (.now 4 0 (.now 5 0 (.now 6 0 (.now 7 0 (.now 8 0 (.now 9 0 (.now 10 0 (.mk [])))))))))))
def jA(s:Span):QH Zd:=⟨s.f,s.t,⟨s.a,s.b⟩⟩
def qV(l:List Row):zR where
 cls i:=qS 0 i ((qg l 1).map QW)
 brk i:=qS 0 i ((qg l 4).map QW)
 cnj i:=qS 0 i ((qg l 6).map QW)
 flg i:=QC (qg l 5) (qg l 7) (qg l 8) (qg l 3) i
 par i:=qS ⟨0,0⟩ i ((qg l 2).map jA)
def ZD(K:List Int):List PV:=K.map fun k=>.int .i32 k
theorem zd9(K:List Int):(ZD K).all (fun k=>okC [.i .i32] k.cells)=true:=by
 simp[ZD,okC,PV.cells]
theorem VT(K:List Int):∀x:PV,x∈ZD K→(match x with|.agg _=>true|_=>false)=false∧okC [.i .i32] (match x with|.agg cs=>cs|x=>[x])=true:=fun x h=>by
 obtain⟨d,_,rfl⟩:=List.mem_map.1 h;exact⟨rfl,rfl⟩
theorem JZ(c:Int)(K:List Int):(qK [.int .i32 c] (ZD K) (qd K) 0=none∧kX c K=K++[c])∨∃j,qK [.int .i32 c] (ZD K) (qd K) 0=some (j,.bool true)∧kX c K=K∧(qd K).set j (.bool true)=qd K∧j< (qd K).length:=by
 have hn:=j9 (kc:=[.i .i32]) (key:=[.int .i32 c]) rfl (ks:=ZD K) (xs:=qd K) (i:=0) (zd9 K) (by simp[ZD,qd])
 by_cases h:c∈K
 ·have hs:qK [.int .i32 c] (ZD K) (qd K) 0≠none:=fun e=>by
   have:=hn.1 e (.int .i32 c) (by simp[ZD,h])
   exact this rfl
  obtain⟨⟨j,x⟩,hj⟩:=Option.ne_none_iff_exists'.1 hs
  obtain⟨_,k,h3,h4,h5⟩:=Qc (kc:=[.i .i32]) rfl (zd9 K) hj
  have hx:x=.bool true:=by
   simp only[qd,List.getElem?_map,Option.map_eq_some_iff]at h5
   obtain⟨_,_,rfl⟩:=h5;rfl
  subst hx
  have h5':(qd K)[j]?=some (.bool true):=by simpa using h5
  exact .inr ⟨j,hj,if_pos h,xa h5',(List.getElem?_eq_some_iff.1 h5').1⟩
 ·exact .inl ⟨hn.2 fun k hk e=>by
   obtain⟨d,hd,rfl⟩:=List.mem_map.1 hk
   simp only[PV.cells]at e
   injection e with e _;injection e with _ e;subst e
   exact h hd,if_neg h⟩
theorem zdC {ks xs:List PV}(h:ks.length=xs.length)(a b:PV):(xs++[a]).set ks.length b=xs++[b]:=by
 rw[h,List.set_append_right _ _ (Nat.le_refl _)];simp
def ckP(m:List (Zd×Int)):List PV:=m.map fun x=>.agg (qj x.1)
def cxP(m:List (Zd×Int)):List PV:=m.map fun x=>.int .i32 x.2
theorem ckP_ok(m:List (Zd×Int)):(ckP m).all (fun k=>okC [.i .i32,.i .i32] k.cells)=true:=by
 simp[ckP,okC,PV.cells,qj]
theorem ckP_key(m:List (Zd×Int)):∀x:PV,x∈ckP m→(match x with|.agg _=>true|_=>false)=true∧okC [.i .i32,.i .i32] (match x with|.agg cs=>cs|x=>[x])=true:=fun x h=>by
 obtain⟨d,_,rfl⟩:=List.mem_map.1 h;exact⟨rfl,rfl⟩
theorem XA {p q:Zd}(h:qj p=qj q):p=q:=by
 cases p;cases q;simp only[qj]at h
 injection h with h1 h2;injection h1 with _ h1;injection h2 with h2 _;injection h2 with _ h2
 subst h1;subst h2;rfl
theorem ckP_find(q:Zd)(m:List (Zd×Int)):(qK (qj q) (ckP m) (cxP m) 0=none∧∀x∈m,x.1≠q)∨∃j r,qK (qj q) (ckP m) (cxP m) 0=some (j,.int .i32 r)∧(q,r)∈m:=by
 have hn:=j9 (kc:=[.i .i32,.i .i32]) (key:=qj q) rfl (ks:=ckP m) (xs:=cxP m) (i:=0) (ckP_ok m) (by simp[ckP,cxP])
 by_cases h:qK (qj q) (ckP m) (cxP m) 0=none
 ·exact .inl ⟨h,fun x hx e=>hn.1 h (.agg (qj x.1)) (List.mem_map.2 ⟨x,hx,rfl⟩) (by rw[e];rfl)⟩
 ·obtain⟨⟨j,x⟩,hj⟩:=Option.ne_none_iff_exists'.1 h
  obtain⟨_,k,h3,h4,h5⟩:=Qc (kc:=[.i .i32,.i .i32]) rfl (ckP_ok m) hj
  simp only[Nat.sub_zero,ckP,cxP,List.getElem?_map,Option.map_eq_some_iff]at h3 h5
  obtain⟨y,hy,rfl⟩:=h3
  obtain⟨z,hz,rfl⟩:=h5
  rw[hy]at hz;injection hz with hz;subst hz
  have:=XA h4
  subst this
  exact .inr ⟨j,_,hj,List.mem_of_getElem? hy⟩
def yw(t:zR)(st:List (Zd×Int)×List Int)(r:Nat):List (Zd×Int)×List Int:=
 if(∀x∈st.1,x.1≠t.par r)∧Y8 t r=false then(st.1++[(t.par r,(r:Int))],kX (t.par r).b st.2)else st
def jh(f n:Nat):List Nat:=(List.range n).map (f+·)
theorem zbb(f n:Nat):jh f (n+1)=jh f n++[f+n]:=by simp[jh,List.range_succ]
def yU(t:zR)(st:List (Zd×Int)×List Int)(s:Span):List (Zd×Int)×List Int:=(jh s.f.toNat (s.t.toNat+1-s.f.toNat)).foldl (yw t) st
theorem zbe {α:Type}(zero:α)(j:Int):∀l:List (QH α),qS zero j l=zero∨∃p∈l,qS zero j l=p.v
 | []=>.inl rfl
 |p::l=>by
  simp only[qS]
  split
  ·exact .inr ⟨p,by simp,rfl⟩
  ·rcases zbe zero j l with h|⟨q,hq,h⟩
   ·exact .inl h
   ·exact .inr ⟨q,by simp[hq],h⟩
theorem zey [Gi](l:List Row)(hn:l.length<2^31)(h1:ZQ l 1)(h2:ZQ l 2)(h3:ZQ l 3)(h4:ZQ l 4)(h5:ZQ l 5)(h6:ZQ l 6)(h7:ZQ l 7)(h8:ZQ l 8)
  (hp:∀s∈qg l 2,0≤s.a∧s.a<1114112∧0≤s.b∧s.b<1114112):
  CR Tryz.prog 10 [] [.p (zJ l)] [] (fun x rs=>∃c b j f p,jo (qV l) c b j f p∧x=.lp [25] 0∧rs=[([25],[.p c,.p b,.p j,.p f,.p p,.om [22] (ckP ((qg l 2).foldl (yU (qV l)) ([],[])).1) (cxP ((qg l 2).foldl (yU (qV l)) ([],[])).1),.om [23] (ZD ((qg l 2).foldl (yU (qV l)) ([],[])).2) (qd ((qg l 2).foldl (yU (qV l)) ([],[])).2)])]):=by
 refine zS [200017,200019] mixed 14 [28,29,30,56,57,58] Tryz.func10 rfl (by kernel_rfl) rfl (by simp) (by simp) ?_
 simp (maxSteps:=1000000) [go_sem,Tryz.f10]
 refine⟨⟨rfl,by simp[Tryz.f46]⟩,zc [] (h1.num hn) (by simp[go_sem]) ⟨by simp[go_sem],by simp[go_sem]⟩ (by simp[go_sem]) ?_⟩
 rintro _ rs ⟨rfl,c,rfl,hc⟩
 simp (maxSteps:=1000000) [go_sem]
 refine⟨⟨rfl,by simp[Tryz.f46]⟩,zc [] (h4.num hn) (by simp[go_sem]) ⟨by simp[go_sem],by simp[go_sem]⟩ (by simp[go_sem]) ?_⟩
 rintro _ rs ⟨rfl,b,rfl,hb⟩
 simp (maxSteps:=1000000) [go_sem]
 refine⟨⟨rfl,by simp[Tryz.f46]⟩,zc [] (h6.num hn) (by simp[go_sem]) ⟨by simp[go_sem],by simp[go_sem]⟩ (by simp[go_sem]) ?_⟩
 rintro _ rs ⟨rfl,j,rfl,hj⟩
 simp (maxSteps:=1000000) [go_sem]
 refine⟨⟨rfl,by simp[Tryz.f47]⟩,zc [] (zg4 l hn h5 h7 h8 h3) (by simp[go_sem]) ⟨by simp[go_sem],by simp[go_sem]⟩ (by simp[go_sem]) ?_⟩
 rintro _ rs ⟨rfl,f,rfl,hf⟩
 obtain⟨ci,cb,rfl,hc⟩:=hc
 obtain⟨bi,bb,rfl,hb⟩:=hb
 obtain⟨ji,jb,rfl,hj⟩:=hj
 obtain⟨fi,fb,rfl,hf⟩:=hf
 simp (maxSteps:=1000000) [go_sem]
 refine⟨⟨rfl,rfl⟩,⟨rfl,by simp[Tryz.f48]⟩,zc [] (zal l 2 h2.rise h2.b hn h2.n) (by simp[go_sem]) ⟨by simp[go_sem],by simp[go_sem]⟩ (by simp[go_sem]) ?_⟩
 rintro _ rs ⟨rfl,rfl⟩
 have hn2:=h2.nJ
 have hr2:=h2.riseJ
 have hb2:=h2.bJ
 have hpl:∀i:Nat,(qV l).par i=qS ⟨0,0⟩ i ((qg l 2).map jA):=fun _=>rfl
 generalize hJ:Z7 (zP l 2)=J
 have hJ':qg l 2=J:=hJ
 rw[hJ']at hn2 hr2 hb2 hp
 simp only[hJ']at hpl⊢
 obtain⟨M,hM⟩:∃M,M=J.map fun s=>WM (jA s):=⟨_,rfl⟩
 have hMl:M.length=J.length:=by rw[hM];simp
 simp (maxSteps:=1000000) [go_sem,zM]
 refine zm (fun i:Nat=>i≤J.length) (fun i=>[(4,.os [4] 4 (M.take i)),(30,.p (.int .i64 i))]) (fun _=>[]) (fun i=>J.length-i) 0 (by omega) (by simp[go_sem,LeS,leV,leR,leA,leL]) (fun i hi=>?_)
 simp (maxSteps:=1000000) [go_sem]
 refine zw (fun h=>?_) (fun h=>?_)
 ·have hil:i<J.length:=by omega
  have em:=zt z8 J i hil
  have w1:IntKind.i64.wrap ((i:Int)+1)=((i+1:Nat):Int):=by rw[wrap64 (by omega) (by omega)];rfl
  have htake:M.take (i+1)=M.take i++[WM (jA J[i])]:=by
   rw[List.take_add_one,hM,List.getElem?_map,List.getElem?_eq_getElem hil];rfl
  have hle:(M.take i).length≤256:=by rw[List.length_take];omega
  have hab:=hp J[i] (List.getElem_mem _)
  generalize J[i]=r at em htake hab
  have w2:IntKind.i32.wrap r.a=r.a:=by simp[IntKind.wrap,IntKind.signed,IntKind.bits];omega
  have w3:IntKind.i32.wrap r.b=r.b:=by simp[IntKind.wrap,IntKind.signed,IntKind.bits];omega
  simp (maxSteps:=1000000) [go_sem,em,h,z8,w1,w2,w3]
  refine⟨by rw[List.length_take]at hle;omega,zf (i+1) (by omega) (by simp[go_sem,LeS,leV,leR,leA,leL,htake,WM,jA,qj]) (by omega)⟩
 have hil:i=J.length:=by omega
 subst hil
 have hall:M.take J.length=(J.map jA).map WM:=by rw[←hMl,List.take_length,hM,List.map_map];rfl
 rw[hall]
 simp (maxSteps:=1000000) [go_sem]
 refine⟨⟨rfl,by simp[Tryz.f49]⟩,zc [] (zh9 (J.map jA) 1114112 (by omega) (by omega) (by simp;omega) (fun p hp'=>?_)) (by simp[go_sem]) ⟨by simp[go_sem],by simp[go_sem,xp]⟩ (by simp[go_sem]) ?_⟩
 ·obtain⟨s,hs,rfl⟩:=List.mem_map.1 hp'
  have:=hb2 s hs
  have:=hr2.le s hs
  simp only[jA]
  omega
 rintro _ rs ⟨rfl,e,rfl,pi,pb,rfl,hpp⟩
 simp (maxSteps:=1000000) [go_sem]
 have hT:jo (qV l) (.pt 3 (QL 1 1114112 ci cb)) (.pt 3 (QL 1 1114112 bi bb)) (.pt 3 (QL 1 1114112 ji jb)) (.pt 3 (QL 4 1114112 fi fb)) (.pt 3 (QL 2 1114112 pi pb)):=
  ⟨⟨ci,cb,rfl,hc⟩,⟨bi,bb,rfl,hb⟩,⟨ji,jb,rfl,hj⟩,⟨fi,fb,rfl,hf⟩,⟨pi,pb,rfl,fun i hi=>by have e:=hpp i hi;rw[←hJ']at e;exact e⟩⟩
 generalize PV.pt 3 (QL 1 1114112 ci cb)=c at hT
 generalize PV.pt 3 (QL 1 1114112 bi bb)=b at hT
 generalize PV.pt 3 (QL 1 1114112 ji jb)=j at hT
 generalize PV.pt 3 (QL 4 1114112 fi fb)=f at hT
 generalize PV.pt 3 (QL 2 1114112 pi pb)=p at hT
 have hpr:∀i:Nat,0≤((qV l).par i).a∧((qV l).par i).a<1114112:=fun i=>by
  rw[hpl]
  rcases zbe (⟨0,0⟩:Zd) i (J.map jA)with h|⟨q,hq,h⟩
  ·rw[h];decide
  ·rw[h]
   obtain⟨x,hx,rfl⟩:=List.mem_map.1 hq
   have:=hp x hx
   exact⟨this.1,this.2.1⟩
 generalize qV l=t at hT hpr⊢
 clear hpp hpl hc hb hj hf hall
 have cells:∀a b c d:List PV,True:=fun _ _ _ _=>trivial
 refine zm (fun i:Nat=>i≤J.length) (fun i=>[(58,.p (.int .i64 i))]) (fun i=>[([25],[.p c,.p b,.p j,.p f,.p p,.om [22] (ckP ((J.take i).foldl (yU t) ([],[])).1) (cxP ((J.take i).foldl (yU t) ([],[])).1),.om [23] (ZD ((J.take i).foldl (yU t) ([],[])).2) (qd ((J.take i).foldl (yU t) ([],[])).2)])]) (fun i=>J.length-i) 0 (by omega) (by simp[go_sem,LeS,leV,leR,leA,leL,ckP,cxP,ZD,qd]) (fun i hi=>?_)
 simp (maxSteps:=1000000) [go_sem]
 refine zw (fun h=>?_) (fun h=>?_)
 ·have hil:i<J.length:=by omega
  have em:=zt z8 J i hil
  have w1:IntKind.i64.wrap ((i:Int)+1)=((i+1:Nat):Int):=by rw[wrap64 (by omega) (by omega)];rfl
  have htk:(J.take (i+1)).foldl (yU t) ([],[])=yU t ((J.take i).foldl (yU t) ([],[])) J[i]:=by
   rw[List.take_add_one,List.getElem?_eq_getElem hil,List.foldl_append];rfl
  have hs2:=hb2 J[i] (List.getElem_mem _)
  have hs3:=hr2.le J[i] (List.getElem_mem _)
  generalize J[i]=s at em htk hs2 hs3
  generalize (J.take i).foldl (yU t) ([],[])=st at htk
  obtain⟨sf,sz,sa,sb⟩:=s
  simp only at hs2 hs3
  obtain⟨f0,rfl⟩:=Int.eq_ofNat_of_zero_le hs2.1
  obtain⟨t0,rfl⟩:=Int.eq_ofNat_of_zero_le (Int.le_trans hs2.1 hs3)
  have w2:IntKind.i32.wrap (f0:Int)=f0:=by simp[IntKind.wrap,IntKind.signed,IntKind.bits];omega
  simp (maxSteps:=1000000) [go_sem,em,h,z8,w2]
  refine zm (fun k:Nat=>f0+k≤t0+1) (fun k=>[(10,.p (.int .i32 ((f0+k:Nat):Int)))]) (fun k=>[([25],[.p c,.p b,.p j,.p f,.p p,.om [22] (ckP ((jh f0 k).foldl (yw t) st).1) (cxP ((jh f0 k).foldl (yw t) st).1),.om [23] (ZD ((jh f0 k).foldl (yw t) st).2) (qd ((jh f0 k).foldl (yw t) st).2)])]) (fun k=>t0+1-f0-k) 0 (by omega) (by simp[go_sem,LeS,leV,leR,leA,leL,jh]) (fun k hk=>?_)
  obtain⟨r,hr⟩:∃r,r=f0+k:=⟨_,rfl⟩
  have hstep:=zbb f0 k
  have w3:IntKind.i64.wrap (r:Int)=r:=wrap64 (by omega) (by omega)
  have w4:IntKind.i32.wrap ((r:Int)+1)=((r+1:Nat):Int):=by simp[IntKind.wrap,IntKind.signed,IntKind.bits];omega
  have ek:(f0:Int)+((k:Int)+1)=(r:Int)+1:=by omega
  simp only[←hr]at hstep⊢
  simp (maxSteps:=1000000) [go_sem,w3]
  refine zw (fun h5=>?_) (fun h5=>?_)
  ·have hstep2:(jh f0 (k+1)).foldl (yw t) st=yw t ((jh f0 k).foldl (yw t) st) r:=by rw[hstep,List.foldl_append];rfl
   generalize (jh f0 k).foldl (yw t) st=sk at hstep2
   obtain⟨q,hq⟩:∃q,t.par r=q:=⟨_,rfl⟩
   simp (maxSteps:=1000000) [go_sem,w3]
   refine⟨⟨rfl,by simp[Tryz.f50]⟩,zc [] (UH hT.p (by omega) (i:=r) (by omega)) (by simp[go_sem]) ⟨by simp[go_sem],by simp[go_sem]⟩ (by simp[go_sem]) ?_⟩
   rintro _ rs ⟨rfl,rfl⟩
   rw[hq]
   rcases ckP_find q sk.1 with ⟨hf1,hf2⟩|⟨jj,x,hf1,hf2⟩
   ·simp (maxSteps:=1000000) [go_sem,qj]
    refine Zh zlj (by kernel_rfl) ?_
    simp only[qj]at hf1
    simp (maxSteps:=1000000) [go_sem,zlj,Zl,mapOf,Q8,hf1]
    refine⟨ckP_key _,⟨rfl,by simp[Tryz.f51]⟩,zc [([0],[25]),([901],[22]),([902],[23])] (zjz hT (ckP sk.1) (cxP sk.1) (ZD sk.2) (qd sk.2) (i:=r) (by omega) (hpr r)) (by simp[go_sem,zE]) ⟨by simp[go_sem],by simp[go_sem]⟩ (by simp[go_sem,xC]) ?_⟩
    rintro _ rs ⟨rfl,rfl⟩
    cases ho:Y8 t r with
    |true=>
     have hs1:yw t sk r=sk:=by unfold yw;rw[if_neg (fun h=>by rw[ho]at h;simp at h)]
     simp (maxSteps:=1000000) [go_sem,xC,w4]
     exact zf (k+1) (by omega) (by simp[go_sem,LeS,leV,leR,leA,leL,hstep2,hs1,ek]) (by omega)
    |false=>
     have hs1:yw t sk r=(sk.1++[(q,(r:Int))],kX q.b sk.2):=by unfold yw;rw[if_pos ⟨by rw[hq];exact hf2,ho⟩,hq]
     simp (maxSteps:=1000000) [go_sem,xC]
     refine Zh zmK (by kernel_rfl) ?_
     have l1:(ckP sk.1).length=(cxP sk.1).length:=by simp[ckP,cxP]
     have l2:(ZD sk.2).length=(qd sk.2).length:=by simp[ZD,qd]
     have e1:=zdC l1 (.int .i32 0) (.int .i32 r)
     have e2:=zdC l2 (.bool false) (.bool true)
     have e3:ckP sk.1++[.agg [.int .i32 q.a,.int .i32 q.b]]=ckP (sk.1++[(q,(r:Int))]):=by simp[ckP,qj]
     have e4:cxP sk.1++[.int .i32 (r:Int)]=cxP (sk.1++[(q,(r:Int))]):=by simp[cxP]
     have l3:(ckP sk.1).length< (cxP sk.1).length+1:=by omega
     have l4:(ZD sk.2).length< (qd sk.2).length+1:=by omega
     rcases JZ q.b sk.2 with ⟨g1,g2⟩|⟨j2,g1,g2,g3,g4⟩
     ·have e5:ZD sk.2++[.int .i32 q.b]=ZD (kX q.b sk.2):=by rw[g2];simp[ZD]
      have e6:qd sk.2++[.bool true]=qd (kX q.b sk.2):=by rw[g2];simp[qd]
      simp (maxSteps:=1000000) [go_sem,zmK,hf1,g1,e1,e2,l3,l4]
      exact⟨ckP_key _,VT _,zf (k+1) (by omega) (by simp[go_sem,LeS,leV,leR,leA,leL,hstep2,hs1,ek,w4,←e3,←e4,←e5,←e6]) (by omega)⟩
     ·simp (maxSteps:=1000000) [go_sem,zmK,hf1,g1,e1,g3,g4,l3]
      exact⟨ckP_key _,VT _,zf (k+1) (by omega) (by simp[go_sem,LeS,leV,leR,leA,leL,hstep2,hs1,ek,w4,←e3,←e4,g2]) (by omega)⟩
   ·have hs1:yw t sk r=sk:=by unfold yw;rw[if_neg (fun h=>h.1 _ hf2 hq.symm)]
    simp (maxSteps:=1000000) [go_sem,qj]
    refine Zh zlj (by kernel_rfl) ?_
    simp only[qj]at hf1
    simp (maxSteps:=1000000) [go_sem,zlj,Zl,mapOf,Q8,hf1,w4]
    exact⟨ckP_key _,zf (k+1) (by omega) (by simp[go_sem,LeS,leV,leR,leA,leL,hstep2,hs1,ek]) (by omega)⟩
  ·have hk2:k=t0+1-f0:=by omega
   simp (maxSteps:=1000000) [go_sem,w1]
   have hfin:yU t st ⟨f0,t0,sa,sb⟩=(jh f0 k).foldl (yw t) st:=by simp[yU,hk2]
   exact zf (i+1) (by omega) (by simp[go_sem,LeS,leV,leR,leA,leL,htk,hfin]) (by omega)
 ·obtain rfl:i=J.length:=by omega
  simp (maxSteps:=1000000) [go_sem]
  exact zi [[25]] (.lp [25] 0) ⟨rfl,by simp⟩ (by simp[go_sem,zd,leA,leT]) ⟨c,b,j,f,p,hT,rfl,by simp[go_sem]⟩
def made(l:List Row):List (Zd×Int)×List Int:=(qg l 2).foldl (yU (qV l)) ([],[])
theorem zkh [Gi](l:List Row)(hn:l.length<2^31)(h1:ZQ l 1)(h2:ZQ l 2)(h3:ZQ l 3)(h4:ZQ l 4)(h5:ZQ l 5)(h6:ZQ l 6)(h7:ZQ l 7)(h8:ZQ l 8)
  (hp:∀s∈qg l 2,0≤s.a∧s.a<1114112∧0≤s.b∧s.b<1114112):
  CR Tryz.prog 10 [] [.p (zJ l)] [] (fun x rs=>rs=[]∧∃c b j f p,jo (qV l) c b j f p∧x=.p (zF c b j f p (ckP (made l).1) (cxP (made l).1) (ZD (made l).2) (qd (made l).2))):=by
 refine CR.zlf (zey l hn h1 h2 h3 h4 h5 h6 h7 h8 hp) ?_
 rintro x rs ⟨c,b,j,f,p,hT,rfl,rfl⟩
 exact⟨_,zlJ rfl rfl,rfl,c,b,j,f,p,hT,rfl⟩
end Go.Proofs.YthbmelihnabkaaaGreat
end
section
namespace Go.Proofs.YthbmelihnabkaaaGreat
open Go.AM
set_option maxHeartbeats 4000000
set_option maxRecDepth 10000
end Go.Proofs.YthbmelihnabkaaaGreat
end
