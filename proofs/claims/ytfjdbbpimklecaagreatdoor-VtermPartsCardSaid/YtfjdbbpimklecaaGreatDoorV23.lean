/- A part of this seat's proofs, by an abstract machine. Conditions: each law's. -/
import Derived.Test.YtfjdbbpimklecaaGreatDoorV19
import Derived.Test.YtfjdbbpimklecaaGreatDoorV21
import Derived.Test.YtfjdbbpimklecaaGreatDoorV22
import Derived.Test.YtfjdbbpimklecaaGreatDoorV20
set_option maxHeartbeats 4000000
set_option maxRecDepth 10000
namespace Go.Proofs.YtfjdbbpimklecaaGreatDoor
section
open Go.AM
theorem zdK [Gi](l:List (Piece Qn))(size:Nat)(h0:0<size)(hs:size<2^28)(hn:l.length<2^31)(hb:∀p∈l, -1000000000≤p.f∧p.f≤1000000000):
  CR Tryz.prog 60 [] [.p (.int .i64 size),.p (.agg [.int .i32 0,.int .i32 0]),.p (kv l)] [] (fun x rs=>rs=[]∧∃e,x=.p e∧jy 2 size (fun j=>qj (qv ⟨0,0⟩ j l)) e):=by
 refine CR.freeze (XN l size h0 hs hn hb) (fun _=>false) rfl ?_
 rintro x rs ⟨idx,blocks,rfl,h1,h2,rfl⟩
 exact⟨_,zbp rfl rfl rfl,rfl,_,rfl,idx,blocks,rfl,fun i hi=>h1.qI h2 hi⟩
theorem zdy [Gi](l:List (Piece Flags))(size:Nat)(h0:0<size)(hs:size<2^28)(hn:l.length<2^31)(hb:∀p∈l, -1000000000≤p.f∧p.f≤1000000000):
  CR Tryz.prog 106 [] [.p (.int .i64 size),.p (.agg [.bool false,.bool false,.bool false,.bool false]),.p (kx l)] [] (fun x rs=>rs=[]∧∃e,x=.p e∧jy 4 size (fun j=>z8 (qv ⟨false,false,false,false⟩ j l)) e):=by
 refine CR.freeze (X1 l size h0 hs hn hb) (fun _=>false) rfl ?_
 rintro x rs ⟨idx,blocks,rfl,h1,h2,rfl⟩
 exact⟨_,zbp rfl rfl rfl,rfl,_,rfl,idx,blocks,rfl,fun i hi=>h1.qI h2 hi⟩
theorem K4 [Gi] {size:Nat} {val:Nat→Qn} {e:PV}(h:jy 2 size (fun j=>qj (val j)) e)(hs:size<2^31) {i:Nat}(hi:i<size):CR Tryz.prog 61 [] [.p e,.p (.int .i64 i)] [] (is (.p (.agg (qj (val i))))):=by
 obtain⟨idx,blocks,rfl,h⟩:=h
 exact zg7 size idx blocks i _ hs hi (h i hi)
theorem Jd [Gi] {size:Nat} {val:Nat→Flags} {e:PV}(h:jy 4 size (fun j=>z8 (val j)) e)(hs:size<2^31) {i:Nat}(hi:i<size):CR Tryz.prog 116 [] [.p e,.p (.int .i64 i)] [] (is (.p (.agg (z8 (val i))))):=by
 obtain⟨idx,blocks,rfl,h⟩:=h
 exact zhs size idx blocks i _ hs hi (h i hi)
def zZ(l:List Row)(k:Int):List Span:=Zq (zE l k)
structure Zf(l:List Row)(k:Int):Prop where
 rise:qw (zE l k)
 b:∀s∈zE l k, -1000000000≤s.t∧s.t≤1000000000
 n:(zE l k).length<256
 riseJ:qw (zZ l k)
 bJ:∀s∈zZ l k,0≤s.f∧s.t≤1114111
 nJ:(zZ l k).length<256
theorem kj {l:List Span} {c:Int} {s:Span}(h:atL l c=some s):qz l c=decide (s.a=1):=by
 simp only[qz,h];by_cases e:s.a=1<;>simp[e]
theorem ke {l:List Span} {c:Int}(h:atL l c=none):qz l c=false:=by simp only[qz,h]
theorem VT(A B C D:List Span)(c:Int):(ZG A B C D c !=j7)=(qz A c || (qz B c || (qz C c || qz D c))):=by
 simp only[ZG,j7]
 cases qz A c<;>cases qz B c<;>cases qz C c<;>cases qz D c<;>rfl
def JA:PV:=.opq (.slice none 0 0)
theorem zdl [Gi](l:List Row)(hn:l.length<2^31)(h5:Zf l 5)(h7:Zf l 7)(h8:Zf l 8)(h3:Zf l 3):
  CR Tryz.prog 58 [] [.p (qJ l)] [] (fun x rs=>rs=[]∧∃e,x=.p e∧jy 4 1114112 (fun j=>z8 (ZG (zZ l 5) (zZ l 7) (zZ l 8) (zZ l 3) j)) e):=by
 refine zN [23] mixed 16 [17,18,29,30,31,35,36] Tryz.func58 rfl (by kernel_rfl) rfl (by simp) (by simp) ?_
 simp (maxSteps:=1000000) [go_sem,Tryz.f58]
 have hw:∀x:Int,0≤x→x≤4→IntKind.i64.wrap x=x:=fun x h1 h2=>wrap64 (by omega) (by omega)
 have w1:=hw 1 (by omega) (by omega)
 have w2:=hw 2 (by omega) (by omega)
 have w3:=hw 3 (by omega) (by omega)
 have w4:=hw 4 (by omega) (by omega)
 obtain⟨A,eA⟩:∃A,A=zZ l 5:=⟨_,rfl⟩
 obtain⟨B,eB⟩:∃A,A=zZ l 7:=⟨_,rfl⟩
 obtain⟨C,eC⟩:∃A,A=zZ l 8:=⟨_,rfl⟩
 obtain⟨D,eD⟩:∃A,A=zZ l 3:=⟨_,rfl⟩
 refine⟨rfl,zF (fun i:Nat=>i≤4) (fun i=>[(18,.p (.int .i64 (i:Nat)))]) (fun i=>[([4],[.p (if 0<i then zA A else JA),.p (if 1<i then zA B else JA),.p (if 2<i then zA C else JA),.p (if 3<i then zA D else JA)])]) (fun i=>4-i) 0 (by omega) (by simp[go_sem,LeS,leV,leR,leA,leL,JA]) (fun i hi=>?_)⟩
 have hi':i=0∨i=1∨i=2∨i=3∨i=4:=by omega
 rcases hi' with rfl|rfl|rfl|rfl|rfl
 ·simp (maxSteps:=1000000) [go_sem]
  refine⟨⟨rfl,by simp[Tryz.f59]⟩,zh [] (KM l 5 h5.rise h5.b hn h5.n) (by simp[go_sem]) ⟨by simp[go_sem],by simp[go_sem]⟩ (by simp[go_sem]) ?_⟩
  rintro _ rs ⟨rfl,rfl⟩
  simp (maxSteps:=1000000) [go_sem,zA,JA,w1]
  exact zj 1 (by omega) (by simp[go_sem,LeS,leV,leR,leA,leL,eA,zZ]) (by omega)
 ·simp (maxSteps:=1000000) [go_sem]
  refine⟨⟨rfl,by simp[Tryz.f59]⟩,zh [] (KM l 7 h7.rise h7.b hn h7.n) (by simp[go_sem]) ⟨by simp[go_sem],by simp[go_sem]⟩ (by simp[go_sem]) ?_⟩
  rintro _ rs ⟨rfl,rfl⟩
  simp (maxSteps:=1000000) [go_sem,zA,JA,w2]
  exact zj 2 (by omega) (by simp[go_sem,LeS,leV,leR,leA,leL,eB,zZ]) (by omega)
 ·simp (maxSteps:=1000000) [go_sem]
  refine⟨⟨rfl,by simp[Tryz.f59]⟩,zh [] (KM l 8 h8.rise h8.b hn h8.n) (by simp[go_sem]) ⟨by simp[go_sem],by simp[go_sem]⟩ (by simp[go_sem]) ?_⟩
  rintro _ rs ⟨rfl,rfl⟩
  simp (maxSteps:=1000000) [go_sem,zA,JA,w3]
  exact zj 3 (by omega) (by simp[go_sem,LeS,leV,leR,leA,leL,eC,zZ]) (by omega)
 ·simp (maxSteps:=1000000) [go_sem]
  refine⟨⟨rfl,by simp[Tryz.f59]⟩,zh [] (KM l 3 h3.rise h3.b hn h3.n) (by simp[go_sem]) ⟨by simp[go_sem],by simp[go_sem]⟩ (by simp[go_sem]) ?_⟩
  rintro _ rs ⟨rfl,rfl⟩
  simp (maxSteps:=1000000) [go_sem,zA,JA,w4]
  exact zj 4 (by omega) (by simp[go_sem,LeS,leV,leR,leA,leL,eD,zZ]) (by omega)
 ·simp (maxSteps:=1000000) [go_sem]
  have hl:∀m∈[A,B,C,D],m.length<256:=by
   intro m hm
   simp only[List.mem_cons,List.not_mem_nil,or_false]at hm
   rcases hm with rfl|rfl|rfl|rfl
   ·rw[eA];exact h5.nJ
   ·rw[eB];exact h7.nJ
   ·rw[eC];exact h8.nJ
   ·rw[eD];exact h3.nJ
  have hR:∀m∈[A,B,C,D],qw m:=by
   intro m hm
   simp only[List.mem_cons,List.not_mem_nil,or_false]at hm
   rcases hm with rfl|rfl|rfl|rfl
   ·rw[eA];exact h5.riseJ
   ·rw[eB];exact h7.riseJ
   ·rw[eC];exact h8.riseJ
   ·rw[eD];exact h3.riseJ
  have hB:∀m∈[A,B,C,D],∀s∈m,0≤s.f∧s.t≤1114111:=by
   intro m hm
   simp only[List.mem_cons,List.not_mem_nil,or_false]at hm
   rcases hm with rfl|rfl|rfl|rfl
   ·rw[eA];exact h5.bJ
   ·rw[eB];exact h7.bJ
   ·rw[eC];exact h8.bJ
   ·rw[eD];exact h3.bJ
  refine⟨⟨rfl,by simp[Tryz.f103]⟩,zh [([0],[4])] (ziA [A,B,C,D] (by simp) hl (fun m hm s hs=>?_)) (by simp[go_sem,z6]) ⟨by simp[go_sem],by simp[go_sem]⟩ (by simp[go_sem]) ?_⟩
  ·have:=hB m hm s hs
   have:=(hR m hm).le s hs
   omega
  rintro _ _ ⟨rfl,at_,rfl,c1,c2,c3,c4⟩
  simp (maxSteps:=1000000) [go_sem]
  have hat:∀c∈at_,0≤c∧c≤1114112:=fun c hc=>by
   rcases c3 c hc with rfl|⟨m,hm,q,hq,h⟩
   ·omega
   ·have:=hB m hm q hq
    have:=(hR m hm).le q hq
    omega
  refine zF (fun i:Nat=>i≤at_.length) (fun i=>[(31,.p (.int .i64 (i:Nat))),(7,.os [7] 6 ((QJ A B C D (at_.take i)).map Ua))]) (fun _=>[]) (fun i=>at_.length-i) 0 (by omega) (by simp[go_sem,LeS,leV,leR,leA,leL,QJ]) (fun i hi=>?_)
  simp (maxSteps:=1000000) [go_sem]
  refine zq (fun h=>?_) (fun h=>?_)
  ·have hil:i<at_.length:=by omega
   have wi:IntKind.i64.wrap ((i:Int)+1)=((i+1:Nat):Int):=by rw[wrap64 (by omega) (by omega)];rfl
   have em:=zu (fun k=>PV.int .i64 k) at_ i hil
   have hc:=hat at_[i] (List.getElem_mem _)
   have htk:QJ A B C D (at_.take (i+1))=QJ A B C D (at_.take i)++(if ZG A B C D at_[i] !=j7 then [yW A B C D at_[i]]else []):=by
    rw[List.take_add_one,List.getElem?_eq_getElem hil]
    simp only[QJ,List.filter_append,List.map_append,Option.toList_some]
    by_cases hz:(ZG A B C D at_[i] !=j7)=true<;>simp[hz]
   have hlen:(QJ A B C D (at_.take i)).length≤10000:=by
    have h1:=List.length_filter_le (fun a=>ZG A B C D a !=j7) (at_.take i)
    simp only[QJ,List.length_map]
    rw[List.length_take]at h1
    omega
   generalize at_[i]=c at em hc htk
   have w5:IntKind.i32.wrap c=c:=by simp[IntKind.wrap,IntKind.signed,IntKind.bits];omega
   simp (maxSteps:=1000000) [go_sem,em,hil]
   refine zF (fun k:Nat=>k≤4) (fun k=>[(36,.p (.int .i64 (k:Nat))),(11,.p (.int .i64 (kA c 1114111 ([A,B,C,D].take k))))]) (fun k=>[([10],[.p (.bool (decide (0<k)&&qz A c)),.p (.bool (decide (1<k)&&qz B c)),.p (.bool (decide (2<k)&&qz C c)),.p (.bool (decide (3<k)&&qz D c))])]) (fun k=>4-k) 0 (by omega) (by simp[go_sem,LeS,leV,leR,leA,leL,kA,zA]) (fun k hk=>?_)
   have hk':k=0∨k=1∨k=2∨k=3∨k=4:=by omega
   rcases hk' with rfl|rfl|rfl|rfl|rfl
   ·simp (maxSteps:=1000000) [go_sem,w5,zA]
    refine⟨⟨rfl,by simp[Tryz.f104]⟩,zh [] (zbW A c (by omega) (hR A (by simp)) (by have:=hl A (by simp);omega)) (by simp[go_sem]) ⟨by simp[go_sem],by simp[go_sem,zA]⟩ (by simp[go_sem]) ?_⟩
    rintro _ rs ⟨rfl,rfl⟩
    cases ha:atL A c with
    |none=>
     have hf:=ke ha
     simp (maxSteps:=1000000) [go_sem,atA,zO,w1]
     exact zj 1 (by omega) (by simp[go_sem,LeS,leV,leR,leA,leL,kA,ha,hf]) (by omega)
    |some s=>
     have hf:=kj ha
     simp (maxSteps:=1000000) [go_sem,atA,zO,w1]
     exact zj 1 (by omega) (by simp[go_sem,LeS,leV,leR,leA,leL,kA,ha,hf]) (by omega)
   ·simp (maxSteps:=1000000) [go_sem,w5,zA]
    refine⟨⟨rfl,by simp[Tryz.f104]⟩,zh [] (zbW B c (by omega) (hR B (by simp)) (by have:=hl B (by simp);omega)) (by simp[go_sem]) ⟨by simp[go_sem],by simp[go_sem,zA]⟩ (by simp[go_sem]) ?_⟩
    rintro _ rs ⟨rfl,rfl⟩
    cases ha:atL B c with
    |none=>
     have hf:=ke ha
     simp (maxSteps:=1000000) [go_sem,atA,zO,w2]
     exact zj 2 (by omega) (by simp[go_sem,LeS,leV,leR,leA,leL,kA,ha,hf]) (by omega)
    |some s=>
     have hf:=kj ha
     simp (maxSteps:=1000000) [go_sem,atA,zO,w2]
     exact zj 2 (by omega) (by simp[go_sem,LeS,leV,leR,leA,leL,kA,ha,hf]) (by omega)
   ·simp (maxSteps:=1000000) [go_sem,w5,zA]
    refine⟨⟨rfl,by simp[Tryz.f104]⟩,zh [] (zbW C c (by omega) (hR C (by simp)) (by have:=hl C (by simp);omega)) (by simp[go_sem]) ⟨by simp[go_sem],by simp[go_sem,zA]⟩ (by simp[go_sem]) ?_⟩
    rintro _ rs ⟨rfl,rfl⟩
    cases ha:atL C c with
    |none=>
     have hf:=ke ha
     simp (maxSteps:=1000000) [go_sem,atA,zO,w3]
     exact zj 3 (by omega) (by simp[go_sem,LeS,leV,leR,leA,leL,kA,ha,hf]) (by omega)
    |some s=>
     have hf:=kj ha
     simp (maxSteps:=1000000) [go_sem,atA,zO,w3]
     exact zj 3 (by omega) (by simp[go_sem,LeS,leV,leR,leA,leL,kA,ha,hf]) (by omega)
   ·simp (maxSteps:=1000000) [go_sem,w5,zA]
    refine⟨⟨rfl,by simp[Tryz.f104]⟩,zh [] (zbW D c (by omega) (hR D (by simp)) (by have:=hl D (by simp);omega)) (by simp[go_sem]) ⟨by simp[go_sem],by simp[go_sem,zA]⟩ (by simp[go_sem]) ?_⟩
    rintro _ rs ⟨rfl,rfl⟩
    cases ha:atL D c with
    |none=>
     have hf:=ke ha
     simp (maxSteps:=1000000) [go_sem,atA,zO,w4]
     exact zj 4 (by omega) (by simp[go_sem,LeS,leV,leR,leA,leL,kA,ha,hf]) (by omega)
    |some s=>
     have hf:=kj ha
     simp (maxSteps:=1000000) [go_sem,atA,zO,w4]
     exact zj 4 (by omega) (by simp[go_sem,LeS,leV,leR,leA,leL,kA,ha,hf]) (by omega)
   ·simp (maxSteps:=1000000) [go_sem]
    refine qn (fun hz=>?_) (fun hz=>?_)
    ·simp (maxSteps:=1000000) [go_sem]
     refine Za (.p (.int .i64 (Zy c (kA c 1114111 [A,B,C,D]) [A,B,C,D].flatten))) rfl rfl (fun _=>Zb 105 (zhd [A,B,C,D] c (kA c 1114111 [A,B,C,D]) rfl hl (fun m hm s hs=>?_)) rfl ⟨rfl,by simp[Tryz.f105]⟩ ⟨by simp[go_sem],by simp[go_sem,zay]⟩) ?_
     ·have:=hB m hm s hs
      have:=(hR m hm).le s hs
      omega
     simp (maxSteps:=1000000) [go_sem,wi]
     rw[VT,if_pos hz]at htk
     exact⟨by omega,zj (i+1) (by omega) (by simp[go_sem,LeS,leV,leR,leA,leL,htk,Ua,z8,ZG,yW]) (by omega)⟩
    ·simp (maxSteps:=1000000) [go_sem,wi]
     rw[VT,if_neg (by simp[hz]),List.append_nil]at htk
     exact zj (i+1) (by omega) (by simp[go_sem,LeS,leV,leR,leA,leL,htk]) (by omega)
  ·obtain rfl:i=at_.length:=by omega
   simp (maxSteps:=1000000) [go_sem]
   have hpl:(QJ A B C D at_).length≤10000:=by
    have h1:=List.length_filter_le (fun a=>ZG A B C D a !=j7) at_
    simp only[QJ,List.length_map]
    omega
   refine⟨⟨rfl,by simp[Tryz.f106]⟩,zh [] (zdy (QJ A B C D at_) 1114112 (by omega) (by omega) (by omega) (fun p hp=>?_)) (by simp[go_sem]) ⟨by simp[go_sem],by simp[go_sem,kx]⟩ (by simp[go_sem]) ?_⟩
   ·obtain⟨a,ha,rfl⟩:=List.mem_map.1 hp
    have:=hat a (List.mem_filter.1 ha).1
    simp only[yW]
    omega
   rintro _ rs ⟨rfl,e,rfl,idx,blocks,rfl,he⟩
   simp (maxSteps:=1000000) [go_sem]
   refine zt [] (.p (.pt 3 (ZT 4 1114112 idx blocks))) ⟨rfl,by simp⟩ (by simp[go_sem,zg,leA,leT]) ⟨by simp[go_sem],_,rfl,idx,blocks,rfl,fun j hj=>?_⟩
   have hl4:=zaw (hR A (by simp)) (hR B (by simp)) (hR C (by simp)) (hR D (by simp)) c1 c2 (j:=j) (by omega) (by omega)
   simp only[j7]at hl4
   show K7 4 idx blocks j (z8 (ZG (zZ l 5) (zZ l 7) (zZ l 8) (zZ l 3) j))
   rw[←eA,←eB,←eC,←eD,←hl4]
   exact he j hj
structure qX where
 cls:Nat→Int
 brk:Nat→Int
 cnj:Nat→Int
 flg:Nat→Flags
 par:Nat→Qn
structure uv(t:qX)(c b j f p:PV):Prop where
 c:jy 1 1114112 (fun i=>[.int .i64 (t.cls i)]) c
 b:jy 1 1114112 (fun i=>[.int .i64 (t.brk i)]) b
 j:jy 1 1114112 (fun i=>[.int .i64 (t.cnj i)]) j
 f:jy 4 1114112 (fun i=>z8 (t.flg i)) f
 p:jy 2 1114112 (fun i=>qj (t.par i)) p
def kI(c b j f p:PV)(ck cx sk sx:List PV):List AV:=[.p c,.p b,.p j,.p f,.p p,.om [901] ck cx,.om [902] sk sx]
def Q0(c b j f p:PV)(ck cx sk sx:List PV):PV:=.pt 7 (.agg [c,b,j,f,p,.mp ck cx,.mp sk sx])
def zhT(q:Qn):AV:=.tup [.p (.int .i32 q.a),.p (.int .i32 q.b),.p (.bool (!decide (q.a=0) ||!decide (q.b=0)))]
theorem Uu [Gi] {t:qX} {c b j f p:PV}(h:uv t c b j f p)(ck cx sk sx:List PV) {i:Nat}(hi:i<1114112):
  CR Tryz.prog 117 [[0]] [.lp [0] 0,.p (.int .i32 i)] [([0],kI c b j f p ck cx sk sx)] (fun x rs=>x=.p (.int .i64 (t.cls i))∧rs=[([0],kI c b j f p ck cx sk sx)]):=by
 have w1:IntKind.i64.wrap (i:Int)=i:=wrap64 (by omega) (by omega)
 refine zH mixed 5 [] Tryz.func117 rfl (by kernel_rfl) rfl (by simp) (by simp) ?_
 obtain⟨_,_,e,_⟩:=id h.c
 simp (maxSteps:=1000000) [go_sem,Tryz.f117,kI,w1]
 refine⟨⟨rfl,by simp[Tryz.f165]⟩,zh [] (K8 h.c (by omega) hi) (by simp[go_sem,z6]) ⟨by simp[go_sem],by simp[go_sem]⟩ (by simp[go_sem]) ?_⟩
 rintro _ rs ⟨rfl,rfl⟩
 simp (maxSteps:=1000000) [go_sem]
 exact zt [[0]] (.p (.int .i64 (t.cls i))) ⟨rfl,by simp⟩ (by simp[go_sem,zg,leA,leT]) ⟨rfl,by simp[go_sem]⟩
theorem zdM [Gi] {t:qX} {c b j f p:PV}(h:uv t c b j f p)(ck cx sk sx:List PV) {i:Nat}(hi:i<1114112):
  CR Tryz.prog 115 [[0]] [.lp [0] 0,.p (.int .i32 i)] [([0],kI c b j f p ck cx sk sx)] (fun x rs=>x=zhT (t.par i)∧rs=[([0],kI c b j f p ck cx sk sx)]):=by
 have w1:IntKind.i64.wrap (i:Int)=i:=wrap64 (by omega) (by omega)
 refine zN [4] mixed 8 [] Tryz.func115 rfl (by kernel_rfl) rfl (by simp) (by simp) ?_
 simp (maxSteps:=1000000) [go_sem,Tryz.f115,kI,w1]
 refine⟨⟨rfl,by simp[Tryz.f61]⟩,zh [] (K4 h.p (by omega) hi) (by simp[go_sem,z6]) ⟨by simp[go_sem],by simp[go_sem]⟩ (by simp[go_sem]) ?_⟩
 rintro _ rs ⟨rfl,rfl⟩
 generalize t.par i=q
 simp (maxSteps:=1000000) [go_sem,qj]
 exact zt [[0]] (.tup [.p (.int .i32 q.a),.p (.int .i32 q.b),.p (.bool (!decide (q.a=0) ||!decide (q.b=0)))]) ⟨rfl,by simp⟩ (by simp[go_sem,zg,leA,leT,leP]) ⟨rfl,by simp[go_sem]⟩
def Ka(t:qX)(i:Nat):Bool:=(!decide ((t.par i).a=0) ||!decide ((t.par i).b=0))&&(decide ((t.par i).b=0) || (t.flg i).o ||!decide (t.cls i=0) ||!decide (t.cls (t.par i).a.toNat=0))
theorem zfy [Gi] {t:qX} {c b j f p:PV}(h:uv t c b j f p)(ck cx sk sx:List PV) {i:Nat}(hi:i<1114112)(hp:0≤(t.par i).a∧(t.par i).a<1114112):
  CR Tryz.prog 62 [[0]] [.lp [0] 0,.p (.int .i32 i)] [([0],kI c b j f p ck cx sk sx)] (fun x rs=>x=.p (.bool (Ka t i))∧rs=[([0],kI c b j f p ck cx sk sx)]):=by
 have w1:IntKind.i64.wrap (i:Int)=i:=wrap64 (by omega) (by omega)
 refine zH mixed 8 [] Tryz.func62 rfl (by kernel_rfl) rfl (by simp) (by simp) ?_
 obtain⟨q,hq⟩:∃q,t.par i=q:=⟨_,rfl⟩
 have hpa:=hp
 rw[hq]at hpa
 have hn:((q.a.toNat:Nat):Int)=q.a:=by omega
 simp (maxSteps:=1000000) [go_sem,Tryz.f62,kI]
 refine⟨⟨rfl,by simp[Tryz.f115]⟩,zh [([0],[0]),([901],[901]),([902],[902])] (zdM h ck cx sk sx hi) (by simp[go_sem,z6]) ⟨by simp[go_sem],by simp[go_sem]⟩ (by simp[go_sem,kI]) ?_⟩
 rintro _ rs ⟨rfl,rfl⟩
 obtain⟨z,hz⟩:∃z,(!decide (q.a=0) ||!decide (q.b=0))=z:=⟨_,rfl⟩
 simp only[hq,zhT,hz]
 have ho:Ka t i=(z&&(decide (q.b=0) || (t.flg i).o ||!decide (t.cls i=0) ||!decide (t.cls q.a.toNat=0))):=by simp only[Ka,hq,hz]
 cases z with
 |false=>
  simp (maxSteps:=1000000) [go_sem]
  exact zt [[0]] (.p (.bool (Ka t i))) ⟨rfl,by simp⟩ (by simp[go_sem,zg,leA,leT, *]) ⟨rfl,by simp[go_sem,kI]⟩
 |true=>
  by_cases hb:q.b=0
  ·simp (maxSteps:=1000000) [go_sem,hb]
   exact zt [[0]] (.p (.bool (Ka t i))) ⟨rfl,by simp⟩ (by simp[go_sem,zg,leA,leT, *]) ⟨rfl,by simp[go_sem,kI]⟩
  ·simp (maxSteps:=1000000) [go_sem,hb,w1,kI]
   refine⟨⟨rfl,by simp[Tryz.f116]⟩,zh [] (Jd h.f (by omega) hi) (by simp[go_sem,z6]) ⟨by simp[go_sem],by simp[go_sem]⟩ (by simp[go_sem]) ?_⟩
   rintro _ rs ⟨rfl,rfl⟩
   generalize t.flg i=fl at ho
   cases hfo:fl.o with
   |true=>
    simp (maxSteps:=1000000) [go_sem,z8,hfo]
    exact zt [[0]] (.p (.bool (Ka t i))) ⟨rfl,by simp⟩ (by simp[go_sem,zg,leA,leT, *]) ⟨rfl,by simp[go_sem]⟩
   |false=>
    simp (maxSteps:=1000000) [go_sem,z8,hfo]
    refine⟨⟨rfl,by simp[Tryz.f117]⟩,zh [([0],[0]),([901],[901]),([902],[902])] (Uu h ck cx sk sx hi) (by simp[go_sem,z6]) ⟨by simp[go_sem],by simp[go_sem]⟩ (by simp[go_sem,kI]) ?_⟩
    rintro _ rs ⟨rfl,rfl⟩
    by_cases hc:t.cls i=0
    ·simp (maxSteps:=1000000) [go_sem,hc,kI]
     refine⟨⟨rfl,by simp[Tryz.f117]⟩,zh [([0],[0]),([901],[901]),([902],[902])] (Uu h ck cx sk sx (i:=q.a.toNat) (by omega)) (by simp[go_sem,z6]) ⟨by simp[go_sem],by simp[go_sem,hn]⟩ (by simp[go_sem,kI]) ?_⟩
     rintro _ rs ⟨rfl,rfl⟩
     simp (maxSteps:=1000000) [go_sem,kI]
     exact zt [[0]] (.p (.bool (Ka t i))) ⟨rfl,by simp⟩ (by simp[go_sem,zg,leA,leT, *]) ⟨rfl,by simp[go_sem]⟩
    ·simp (maxSteps:=1000000) [go_sem,hc,kI]
     exact zt [[0]] (.p (.bool (Ka t i))) ⟨rfl,by simp⟩ (by simp[go_sem,zg,leA,leT, *]) ⟨rfl,by simp[go_sem]⟩
end
end Go.Proofs.YtfjdbbpimklecaaGreatDoor
namespace Go.AM
section
def vJ(g:Gh)(w:World):Gh:=
 ⟨fun b=>match g.K b with
  |.root _=>frW w b
  |.tail _=>max 1 (g.fr b)
  |.prot=>g.fr b,fun _=>.prot⟩
theorem Wi {g:Gh} {w:World} {b:Nat}(h:g.K b=.prot):(vJ g w).fr b=g.fr b:=by simp only[vJ,h]
theorem zdv {g:Gh} {w:World} {b:Nat} {t:Tok}(h:g.K b=.root t):(vJ g w).fr b=frW w b:=by simp only[vJ,h]
theorem K5 {g:Gh} {w:World} {b:Nat} {t:Tok}(h:g.K b=.tail t):(vJ g w).fr b=max 1 (g.fr b):=by simp only[vJ,h]
theorem YV [Gi] {g:Gh} {w:World} {rs:List (Tok×List AV)}(hG:GS g w rs):Ext g.fr w (vJ g w).fr w:=fun b o ho=>by
 refine⟨?_,rfl,rfl⟩
 rcases h:g.K b with _|t|t
 ·rw[Wi h];exact ho
 ·obtain⟨_,_,h0,_⟩:=hG.roots b t h
  omega
 ·rw[K5 h];omega
theorem zgN [Gi] {g:Gh} {w:World} {rs:List (Tok×List AV)}(hG:GS g w rs):GS (vJ g w) w []:=by
 have hp:∀b,(vJ g w).K b=.prot:=fun _=>rfl
 refine⟨fun b t hk=>(by rw[hp b]at hk;cases hk),fun b b' t hk _=>(by rw[hp b]at hk;cases hk),fun b b' t hk _=>(by rw[hp b]at hk;cases hk),fun b hb=>absurd (hp b) hb,fun b hb=>?_,fun b arr e=>?_⟩
 ·have:g.K b=.prot:=by
   rcases h:g.K b with _|t|t
   ·rfl
   all_goals exact absurd (hG.own b (by rw[h];simp)) (by omega)
  rw[Wi this]
  exact hG.frb b hb
 ·obtain⟨_,h2⟩:=hG.gl b arr e
  exact⟨rfl,h2⟩
def zfX [Gi](rs:List (Tok×List AV))(x x':AV):Prop:=∀g w v,GS g w rs→za g w x v→za (vJ g w) w x' v
theorem CR.zgS [Gi] {P:Program} {f:FuncId} {args:List AV} {rs:List (Tok×List AV)} {R R':AV→List (Tok×List AV)→Prop}(h:CR P f [] args rs R)
  (hr:∀x rs',R x rs'→∃x',zfX rs' x x'∧R' x' []):CR P f [] args rs R':=by
 intro w g vs h1 h2
 refine(h w g vs h1 h2).mono ?_
 rintro e w' ⟨v,x,rs',g',rfl,hR,hx,hG,hA⟩
 obtain⟨x',hf,hR'⟩:=hr x rs' hR
 refine⟨v,x',_,vJ g' w',rfl,hR',hf g' w' v hG hx,zgN hG,⟨fun b hb hk=>?_,hA.ext.trans (YV hG),hA.out,hA.mono,fun b t hk ht=>by cases ht⟩⟩
 obtain⟨a1,a2,a3⟩:=hA.frame b hb hk
 exact⟨a1,by rw[Wi a3];exact a2,rfl⟩
def ze0:AV→Option PV
 |.p x=>some x
 |.os _ z es=>some (.sl z es)
 |.om _ ks xs=>some (.mp ks xs)
 |_=>none
def zft:List AV→Option (List PV)
 | []=>some []
 |x::l=>match ze0 x,zft l with
  |some y,some ys=>some (y::ys)
  |_,_=>none
theorem zcJ [Gi] {g:Gh} {w:World} {rs:List (Tok×List AV)}(hG:GS g w rs) {x:AV} {y:PV} {v:Value}(h:ze0 x=some y)(r:za g w x v):zi (vJ g w).fr w y v:=by
 have hx:=YV hG
 cases x with
 |p x=>simp only[ze0,Option.some.injEq]at h;subst h;simp only[za]at r;exact r.ext hx
 |os t z es=>simp only[ze0,Option.some.injEq]at h;subst h;simp only[za]at r;exact zi.ext hx _ _ r.1
 |om t ks xs=>
  simp only[ze0,Option.some.injEq]at h;subst h
  simp only[za]at r
  obtain⟨b,arr,c,rfl,hk,h0,hm,r1,r2⟩:=r
  simp only[zi]
  exact⟨b,arr,c,rfl,by rw[K5 hk];omega,hm,r1.ext hx,r2.ext hx⟩
 |_=>cases h
theorem KF [Gi] {g:Gh} {w:World} {rs:List (Tok×List AV)}(hG:GS g w rs):∀{xs:List AV} {ys:List PV} {vs:List Value},zft xs=some ys→(∀u∈vs,u.oneCell'=true)→zm g w xs vs→zr (vJ g w).fr w ys vs
 | [],ys,vs,h,_,r=>by simp only[zft,Option.some.injEq]at h;subst h;simp only[zm]at r;simp only[zr];exact r
 |x::xs,ys,vs,h,h1,r=>by
  simp only[zft]at h
  split at h
  ·rename_i y ys' e1 e2
   simp only[Option.some.injEq]at h;subst h
   simp only[zm]at r
   obtain⟨v,vs',rfl,r1,r2⟩:=r
   simp only[zr]
   exact⟨v,vs',rfl,h1 v (by simp),zcJ hG e1 r1,KF hG e2 (fun u hu=>h1 u (by simp[hu])) r2⟩
  ·cases h
theorem zgA [Gi] {rs:List (Tok×List AV)} {t:Tok} {cs:List AV} {ps:List PV}(hl:zw rs t=some cs)(hp:zft cs=some ps):zfX rs (.lp t 0) (.p (.pt cs.length (.agg ps))):=by
 intro g w v hG hv
 simp only[za]at hv
 obtain⟨b,hk,rfl⟩:=hv
 obtain⟨cs',hl',hfr,arr,T,hb,hle,hc⟩:=hG.roots b t hk
 rw[hl]at hl';injection hl' with hl';subst hl'
 have hfb:(vJ g w).fr b=arr.size:=by rw[zdv hk];simp[frW,hb]
 have hRC:zm g w cs (arr.toList.take cs.length)∧∀u∈arr.toList.take cs.length,u.oneCell'=true:=by
  have key:∀(ys:List AV) (vs:List Value),ys.length=vs.length→(∀(j:Nat) (x:AV),ys[j]?=some x→∃v,vs[j]?=some v∧v.oneCell'=true∧za g w x v)→zm g w ys vs∧∀u∈vs,u.oneCell'=true:=by
   intro ys
   induction ys with
   |nil=>intro vs hl _;cases vs with
    |nil=>exact⟨by simp[zm],by simp⟩
    |cons v vs=>simp at hl
   |cons y ys ih=>
    intro vs hl hh
    cases vs with
    |nil=>simp at hl
    |cons v vs=>
     obtain⟨u,hu,h1,hr⟩:=hh 0 y rfl
     simp at hu;subst hu
     obtain⟨i1,i2⟩:=ih vs (by simpa using hl) (fun j x hj=>by simpa using hh (j+1) x (by simpa using hj))
     refine⟨by simp only[zm];exact⟨v,vs,rfl,hr,i1⟩,fun u hu=>?_⟩
     rcases List.mem_cons.1 hu with rfl|hu
     ·exact h1
     ·exact i2 u hu
  refine key cs _ (by simp;omega) (fun j x hj=>?_)
  obtain⟨v,hv,h1,hr⟩:=hc j x hj
  exact⟨v,by rw[List.getElem?_take,if_pos (List.getElem?_eq_some_iff.1 hj).1];simpa using hv,h1,hr⟩
 have hP:=KF hG hp hRC.2 hRC.1
 simp only[za,zi]
 refine⟨b,0,rfl,by rw[hfb];omega,.agg (arr.toList.take cs.length).toArray,⟨_,rfl,by simpa using hP⟩,by simp[Value.cells];omega,fun j c hj=>?_⟩
 have hj':(arr.toList.take cs.length)[j]?=some c:=by simpa[Value.cells]using hj
 refine⟨hRC.2 c (List.mem_of_getElem? hj'),?_⟩
 rw[zT hb,Nat.zero_add]
 rw[List.getElem?_take]at hj'
 split at hj'
 ·simpa using hj'
 ·cases hj'
end
end Go.AM
namespace Go.Proofs.YtfjdbbpimklecaaGreatDoor
section
open Go.AM
theorem Zf.num [Gi] {l:List Row} {k:Int}(h:Zf l k)(hn:l.length<2^31):CR Tryz.prog 57 [] [.p (qJ l),.p (.int .i64 k)] [] (fun x rs=>rs=[]∧∃e,x=.p e∧jy 1 1114112 (fun j=>[.int .i64 (qv 0 j ((zZ l k).map Z2))]) e):=
 zaV l k h.rise h.b hn h.n h.nJ (fun s hs=>by
  have:=h.bJ s hs
  have:=h.riseJ.le s hs
  omega)
def ziP:OT:=.now 0 0 (.now 1 0 (.now 2 0 (.now 3 0 (.now 4 0 (.now 5 0 (.now 6 0 (.now 7 0 (.now 8 0 (.now 9 2 (.now 11 2 (.mk [(10,.mk [(12,.now 13 0 (.mk [(14,.mk [(15,.now 16 0 (.mk [(17,.mk [])]))])]))]),(12,.now 13 0 (.mk [(10,.mk [(14,.mk [(15,.now 16 0 (.mk [(17,.mk [])]))])]),(14,.now 10 0 (.mk [(15,.now 16 0 (.mk [(17,.mk [])]))]))]))])))))))))))
def zgZ:OT:=.now 0 0 (.now 1 0 (.now 2 0 (.now 3 0 (.now 4 0 (.now 5 0 (.now 6 0 (.now 7 0 (.now 8 0 (.now 9 0 (.now 10 0 (.mk [])))))))))))
def jC(s:Span):Piece Qn:=⟨s.f,s.t,⟨s.a,s.b⟩⟩
def qI(l:List Row):qX where
 cls i:=qv 0 i ((zZ l 1).map Z2)
 brk i:=qv 0 i ((zZ l 4).map Z2)
 cnj i:=qv 0 i ((zZ l 6).map Z2)
 flg i:=ZG (zZ l 5) (zZ l 7) (zZ l 8) (zZ l 3) i
 par i:=qv ⟨0,0⟩ i ((zZ l 2).map jC)
def Z7(K:List Int):List PV:=K.map fun k=>.int .i32 k
theorem YN(K:List Int):(Z7 K).all (fun k=>okC [.i .i32] k.cells)=true:=by
 simp[Z7,okC,PV.cells]
theorem KB(K:List Int):∀x:PV,x∈Z7 K→(match x with|.agg _=>true|_=>false)=false∧okC [.i .i32] (match x with|.agg cs=>cs|x=>[x])=true:=fun x h=>by
 obtain⟨d,_,rfl⟩:=List.mem_map.1 h;exact⟨rfl,rfl⟩
theorem zbv(c:Int)(K:List Int):(qq [.int .i32 c] (Z7 K) (qe K) 0=none∧ju c K=K++[c])∨∃j,qq [.int .i32 c] (Z7 K) (qe K) 0=some (j,.bool true)∧ju c K=K∧(qe K).set j (.bool true)=qe K∧j< (qe K).length:=by
 have hn:=QP (kc:=[.i .i32]) (key:=[.int .i32 c]) rfl (ks:=Z7 K) (xs:=qe K) (i:=0) (YN K) (by simp[Z7,qe])
 by_cases h:c∈K
 ·have hs:qq [.int .i32 c] (Z7 K) (qe K) 0≠none:=fun e=>by
   have:=hn.1 e (.int .i32 c) (by simp[Z7,h])
   exact this rfl
  obtain⟨⟨j,x⟩,hj⟩:=Option.ne_none_iff_exists'.1 hs
  obtain⟨_,k,h3,h4,h5⟩:=Zs (kc:=[.i .i32]) rfl (YN K) hj
  have hx:x=.bool true:=by
   simp only[qe,List.getElem?_map,Option.map_eq_some_iff]at h5
   obtain⟨_,_,rfl⟩:=h5;rfl
  subst hx
  have h5':(qe K)[j]?=some (.bool true):=by simpa using h5
  exact .inr ⟨j,hj,if_pos h,jP h5',(List.getElem?_eq_some_iff.1 h5').1⟩
 ·exact .inl ⟨hn.2 fun k hk e=>by
   obtain⟨d,hd,rfl⟩:=List.mem_map.1 hk
   simp only[PV.cells]at e
   injection e with e _;injection e with _ e;subst e
   exact h hd,if_neg h⟩
theorem XH {ks xs:List PV}(h:ks.length=xs.length)(a b:PV):(xs++[a]).set ks.length b=xs++[b]:=by
 rw[h,List.set_append_right _ _ (Nat.le_refl _)];simp
def ckP(m:List (Qn×Int)):List PV:=m.map fun x=>.agg (qj x.1)
def cxP(m:List (Qn×Int)):List PV:=m.map fun x=>.int .i32 x.2
theorem ckP_ok(m:List (Qn×Int)):(ckP m).all (fun k=>okC [.i .i32,.i .i32] k.cells)=true:=by
 simp[ckP,okC,PV.cells,qj]
theorem ckP_key(m:List (Qn×Int)):∀x:PV,x∈ckP m→(match x with|.agg _=>true|_=>false)=true∧okC [.i .i32,.i .i32] (match x with|.agg cs=>cs|x=>[x])=true:=fun x h=>by
 obtain⟨d,_,rfl⟩:=List.mem_map.1 h;exact⟨rfl,rfl⟩
theorem zdJ {p q:Qn}(h:qj p=qj q):p=q:=by
 cases p;cases q;simp only[qj]at h
 injection h with h1 h2;injection h1 with _ h1;injection h2 with h2 _;injection h2 with _ h2
 subst h1;subst h2;rfl
theorem ckP_find(q:Qn)(m:List (Qn×Int)):(qq (qj q) (ckP m) (cxP m) 0=none∧∀x∈m,x.1≠q)∨∃j r,qq (qj q) (ckP m) (cxP m) 0=some (j,.int .i32 r)∧(q,r)∈m:=by
 have hn:=QP (kc:=[.i .i32,.i .i32]) (key:=qj q) rfl (ks:=ckP m) (xs:=cxP m) (i:=0) (ckP_ok m) (by simp[ckP,cxP])
 by_cases h:qq (qj q) (ckP m) (cxP m) 0=none
 ·exact .inl ⟨h,fun x hx e=>hn.1 h (.agg (qj x.1)) (List.mem_map.2 ⟨x,hx,rfl⟩) (by rw[e];rfl)⟩
 ·obtain⟨⟨j,x⟩,hj⟩:=Option.ne_none_iff_exists'.1 h
  obtain⟨_,k,h3,h4,h5⟩:=Zs (kc:=[.i .i32,.i .i32]) rfl (ckP_ok m) hj
  simp only[Nat.sub_zero,ckP,cxP,List.getElem?_map,Option.map_eq_some_iff]at h3 h5
  obtain⟨y,hy,rfl⟩:=h3
  obtain⟨z,hz,rfl⟩:=h5
  rw[hy]at hz;injection hz with hz;subst hz
  have:=zdJ h4
  subst this
  exact .inr ⟨j,_,hj,List.mem_of_getElem? hy⟩
def jA(t:qX)(st:List (Qn×Int)×List Int)(r:Nat):List (Qn×Int)×List Int:=
 if(∀x∈st.1,x.1≠t.par r)∧Ka t r=false then(st.1++[(t.par r,(r:Int))],ju (t.par r).b st.2)else st
def Z3(f n:Nat):List Nat:=(List.range n).map (f+·)
theorem Jo(f n:Nat):Z3 f (n+1)=Z3 f n++[f+n]:=by simp[Z3,List.range_succ]
def jS(t:qX)(st:List (Qn×Int)×List Int)(s:Span):List (Qn×Int)×List Int:=(Z3 s.f.toNat (s.t.toNat+1-s.f.toNat)).foldl (jA t) st
theorem zb6 {α:Type}(zero:α)(j:Int):∀l:List (Piece α),qv zero j l=zero∨∃p∈l,qv zero j l=p.v
 | []=>.inl rfl
 |p::l=>by
  simp only[qv]
  split
  ·exact .inr ⟨p,by simp,rfl⟩
  ·rcases zb6 zero j l with h|⟨q,hq,h⟩
   ·exact .inl h
   ·exact .inr ⟨q,by simp[hq],h⟩
theorem zaM [Gi](l:List Row)(hn:l.length<2^31)(h1:Zf l 1)(h2:Zf l 2)(h3:Zf l 3)(h4:Zf l 4)(h5:Zf l 5)(h6:Zf l 6)(h7:Zf l 7)(h8:Zf l 8)
  (hp:∀s∈zZ l 2,0≤s.a∧s.a<1114112∧0≤s.b∧s.b<1114112):
  CR Tryz.prog 13 [] [.p (qJ l)] [] (fun x rs=>∃c b j f p,uv (qI l) c b j f p∧x=.lp [25] 0∧rs=[([25],[.p c,.p b,.p j,.p f,.p p,.om [22] (ckP ((zZ l 2).foldl (jS (qI l)) ([],[])).1) (cxP ((zZ l 2).foldl (jS (qI l)) ([],[])).1),.om [23] (Z7 ((zZ l 2).foldl (jS (qI l)) ([],[])).2) (qe ((zZ l 2).foldl (jS (qI l)) ([],[])).2)])]):=by
 refine zN [200017,200019] mixed 14 [28,29,30,56,57,58] Tryz.func13 rfl (by kernel_rfl) rfl (by simp) (by simp) ?_
 simp (maxSteps:=1000000) [go_sem,Tryz.f13]
 refine⟨⟨rfl,by simp[Tryz.f57]⟩,zh [] (h1.num hn) (by simp[go_sem]) ⟨by simp[go_sem],by simp[go_sem]⟩ (by simp[go_sem]) ?_⟩
 rintro _ rs ⟨rfl,c,rfl,hc⟩
 simp (maxSteps:=1000000) [go_sem]
 refine⟨⟨rfl,by simp[Tryz.f57]⟩,zh [] (h4.num hn) (by simp[go_sem]) ⟨by simp[go_sem],by simp[go_sem]⟩ (by simp[go_sem]) ?_⟩
 rintro _ rs ⟨rfl,b,rfl,hb⟩
 simp (maxSteps:=1000000) [go_sem]
 refine⟨⟨rfl,by simp[Tryz.f57]⟩,zh [] (h6.num hn) (by simp[go_sem]) ⟨by simp[go_sem],by simp[go_sem]⟩ (by simp[go_sem]) ?_⟩
 rintro _ rs ⟨rfl,j,rfl,hj⟩
 simp (maxSteps:=1000000) [go_sem]
 refine⟨⟨rfl,by simp[Tryz.f58]⟩,zh [] (zdl l hn h5 h7 h8 h3) (by simp[go_sem]) ⟨by simp[go_sem],by simp[go_sem]⟩ (by simp[go_sem]) ?_⟩
 rintro _ rs ⟨rfl,f,rfl,hf⟩
 obtain⟨ci,cb,rfl,hc⟩:=hc
 obtain⟨bi,bb,rfl,hb⟩:=hb
 obtain⟨ji,jb,rfl,hj⟩:=hj
 obtain⟨fi,fb,rfl,hf⟩:=hf
 simp (maxSteps:=1000000) [go_sem]
 refine⟨⟨rfl,rfl⟩,⟨rfl,by simp[Tryz.f59]⟩,zh [] (KM l 2 h2.rise h2.b hn h2.n) (by simp[go_sem]) ⟨by simp[go_sem],by simp[go_sem]⟩ (by simp[go_sem]) ?_⟩
 rintro _ rs ⟨rfl,rfl⟩
 have hn2:=h2.nJ
 have hr2:=h2.riseJ
 have hb2:=h2.bJ
 have hpl:∀i:Nat,(qI l).par i=qv ⟨0,0⟩ i ((zZ l 2).map jC):=fun _=>rfl
 generalize hJ:Zq (zE l 2)=J
 have hJ':zZ l 2=J:=hJ
 rw[hJ']at hn2 hr2 hb2 hp
 simp only[hJ']at hpl⊢
 obtain⟨M,hM⟩:∃M,M=J.map fun s=>vj (jC s):=⟨_,rfl⟩
 have hMl:M.length=J.length:=by rw[hM];simp
 simp (maxSteps:=1000000) [go_sem,zA]
 refine zF (fun i:Nat=>i≤J.length) (fun i=>[(4,.os [4] 4 (M.take i)),(30,.p (.int .i64 i))]) (fun _=>[]) (fun i=>J.length-i) 0 (by omega) (by simp[go_sem,LeS,leV,leR,leA,leL]) (fun i hi=>?_)
 simp (maxSteps:=1000000) [go_sem]
 refine zq (fun h=>?_) (fun h=>?_)
 ·have hil:i<J.length:=by omega
  have em:=zu zO J i hil
  have w1:IntKind.i64.wrap ((i:Int)+1)=((i+1:Nat):Int):=by rw[wrap64 (by omega) (by omega)];rfl
  have htake:M.take (i+1)=M.take i++[vj (jC J[i])]:=by
   rw[List.take_add_one,hM,List.getElem?_map,List.getElem?_eq_getElem hil];rfl
  have hle:(M.take i).length≤256:=by rw[List.length_take];omega
  have hab:=hp J[i] (List.getElem_mem _)
  generalize J[i]=r at em htake hab
  have w2:IntKind.i32.wrap r.a=r.a:=by simp[IntKind.wrap,IntKind.signed,IntKind.bits];omega
  have w3:IntKind.i32.wrap r.b=r.b:=by simp[IntKind.wrap,IntKind.signed,IntKind.bits];omega
  simp (maxSteps:=1000000) [go_sem,em,h,zO,w1,w2,w3]
  refine⟨by rw[List.length_take]at hle;omega,zj (i+1) (by omega) (by simp[go_sem,LeS,leV,leR,leA,leL,htake,vj,jC,qj]) (by omega)⟩
 have hil:i=J.length:=by omega
 subst hil
 have hall:M.take J.length=(J.map jC).map vj:=by rw[←hMl,List.take_length,hM,List.map_map];rfl
 rw[hall]
 simp (maxSteps:=1000000) [go_sem]
 refine⟨⟨rfl,by simp[Tryz.f60]⟩,zh [] (zdK (J.map jC) 1114112 (by omega) (by omega) (by simp;omega) (fun p hp'=>?_)) (by simp[go_sem]) ⟨by simp[go_sem],by simp[go_sem,kv]⟩ (by simp[go_sem]) ?_⟩
 ·obtain⟨s,hs,rfl⟩:=List.mem_map.1 hp'
  have:=hb2 s hs
  have:=hr2.le s hs
  simp only[jC]
  omega
 rintro _ rs ⟨rfl,e,rfl,pi,pb,rfl,hpp⟩
 simp (maxSteps:=1000000) [go_sem]
 have hT:uv (qI l) (.pt 3 (ZT 1 1114112 ci cb)) (.pt 3 (ZT 1 1114112 bi bb)) (.pt 3 (ZT 1 1114112 ji jb)) (.pt 3 (ZT 4 1114112 fi fb)) (.pt 3 (ZT 2 1114112 pi pb)):=
  ⟨⟨ci,cb,rfl,hc⟩,⟨bi,bb,rfl,hb⟩,⟨ji,jb,rfl,hj⟩,⟨fi,fb,rfl,hf⟩,⟨pi,pb,rfl,fun i hi=>by have e:=hpp i hi;rw[←hJ']at e;exact e⟩⟩
 generalize PV.pt 3 (ZT 1 1114112 ci cb)=c at hT
 generalize PV.pt 3 (ZT 1 1114112 bi bb)=b at hT
 generalize PV.pt 3 (ZT 1 1114112 ji jb)=j at hT
 generalize PV.pt 3 (ZT 4 1114112 fi fb)=f at hT
 generalize PV.pt 3 (ZT 2 1114112 pi pb)=p at hT
 have hpr:∀i:Nat,0≤((qI l).par i).a∧((qI l).par i).a<1114112:=fun i=>by
  rw[hpl]
  rcases zb6 (⟨0,0⟩:Qn) i (J.map jC)with h|⟨q,hq,h⟩
  ·rw[h];decide
  ·rw[h]
   obtain⟨x,hx,rfl⟩:=List.mem_map.1 hq
   have:=hp x hx
   exact⟨this.1,this.2.1⟩
 generalize qI l=t at hT hpr⊢
 clear hpp hpl hc hb hj hf hall
 have cells:∀a b c d:List PV,True:=fun _ _ _ _=>trivial
 refine zF (fun i:Nat=>i≤J.length) (fun i=>[(58,.p (.int .i64 i))]) (fun i=>[([25],[.p c,.p b,.p j,.p f,.p p,.om [22] (ckP ((J.take i).foldl (jS t) ([],[])).1) (cxP ((J.take i).foldl (jS t) ([],[])).1),.om [23] (Z7 ((J.take i).foldl (jS t) ([],[])).2) (qe ((J.take i).foldl (jS t) ([],[])).2)])]) (fun i=>J.length-i) 0 (by omega) (by simp[go_sem,LeS,leV,leR,leA,leL,ckP,cxP,Z7,qe]) (fun i hi=>?_)
 simp (maxSteps:=1000000) [go_sem]
 refine zq (fun h=>?_) (fun h=>?_)
 ·have hil:i<J.length:=by omega
  have em:=zu zO J i hil
  have w1:IntKind.i64.wrap ((i:Int)+1)=((i+1:Nat):Int):=by rw[wrap64 (by omega) (by omega)];rfl
  have htk:(J.take (i+1)).foldl (jS t) ([],[])=jS t ((J.take i).foldl (jS t) ([],[])) J[i]:=by
   rw[List.take_add_one,List.getElem?_eq_getElem hil,List.foldl_append];rfl
  have hs2:=hb2 J[i] (List.getElem_mem _)
  have hs3:=hr2.le J[i] (List.getElem_mem _)
  generalize J[i]=s at em htk hs2 hs3
  generalize (J.take i).foldl (jS t) ([],[])=st at htk
  obtain⟨sf,sz,sa,sb⟩:=s
  simp only at hs2 hs3
  obtain⟨f0,rfl⟩:=Int.eq_ofNat_of_zero_le hs2.1
  obtain⟨t0,rfl⟩:=Int.eq_ofNat_of_zero_le (Int.le_trans hs2.1 hs3)
  have w2:IntKind.i32.wrap (f0:Int)=f0:=by simp[IntKind.wrap,IntKind.signed,IntKind.bits];omega
  simp (maxSteps:=1000000) [go_sem,em,h,zO,w2]
  refine zF (fun k:Nat=>f0+k≤t0+1) (fun k=>[(10,.p (.int .i32 ((f0+k:Nat):Int)))]) (fun k=>[([25],[.p c,.p b,.p j,.p f,.p p,.om [22] (ckP ((Z3 f0 k).foldl (jA t) st).1) (cxP ((Z3 f0 k).foldl (jA t) st).1),.om [23] (Z7 ((Z3 f0 k).foldl (jA t) st).2) (qe ((Z3 f0 k).foldl (jA t) st).2)])]) (fun k=>t0+1-f0-k) 0 (by omega) (by simp[go_sem,LeS,leV,leR,leA,leL,Z3]) (fun k hk=>?_)
  obtain⟨r,hr⟩:∃r,r=f0+k:=⟨_,rfl⟩
  have hstep:=Jo f0 k
  have w3:IntKind.i64.wrap (r:Int)=r:=wrap64 (by omega) (by omega)
  have w4:IntKind.i32.wrap ((r:Int)+1)=((r+1:Nat):Int):=by simp[IntKind.wrap,IntKind.signed,IntKind.bits];omega
  have ek:(f0:Int)+((k:Int)+1)=(r:Int)+1:=by omega
  simp only[←hr]at hstep⊢
  simp (maxSteps:=1000000) [go_sem,w3]
  refine zq (fun h5=>?_) (fun h5=>?_)
  ·have hstep2:(Z3 f0 (k+1)).foldl (jA t) st=jA t ((Z3 f0 k).foldl (jA t) st) r:=by rw[hstep,List.foldl_append];rfl
   generalize (Z3 f0 k).foldl (jA t) st=sk at hstep2
   obtain⟨q,hq⟩:∃q,t.par r=q:=⟨_,rfl⟩
   simp (maxSteps:=1000000) [go_sem,w3]
   refine⟨⟨rfl,by simp[Tryz.f61]⟩,zh [] (K4 hT.p (by omega) (i:=r) (by omega)) (by simp[go_sem]) ⟨by simp[go_sem],by simp[go_sem]⟩ (by simp[go_sem]) ?_⟩
   rintro _ rs ⟨rfl,rfl⟩
   rw[hq]
   rcases ckP_find q sk.1 with ⟨hf1,hf2⟩|⟨jj,x,hf1,hf2⟩
   ·simp (maxSteps:=1000000) [go_sem,qj]
    refine ZC zgZ (by kernel_rfl) ?_
    simp only[qj]at hf1
    simp (maxSteps:=1000000) [go_sem,zgZ,qU,mapOf,Z6,hf1]
    refine⟨ckP_key _,⟨rfl,by simp[Tryz.f62]⟩,zh [([0],[25]),([901],[22]),([902],[23])] (zfy hT (ckP sk.1) (cxP sk.1) (Z7 sk.2) (qe sk.2) (i:=r) (by omega) (hpr r)) (by simp[go_sem,z6]) ⟨by simp[go_sem],by simp[go_sem]⟩ (by simp[go_sem,kI]) ?_⟩
    rintro _ rs ⟨rfl,rfl⟩
    cases ho:Ka t r with
    |true=>
     have hs1:jA t sk r=sk:=by unfold jA;rw[if_neg (fun h=>by rw[ho]at h;simp at h)]
     simp (maxSteps:=1000000) [go_sem,kI,w4]
     exact zj (k+1) (by omega) (by simp[go_sem,LeS,leV,leR,leA,leL,hstep2,hs1,ek]) (by omega)
    |false=>
     have hs1:jA t sk r=(sk.1++[(q,(r:Int))],ju q.b sk.2):=by unfold jA;rw[if_pos ⟨by rw[hq];exact hf2,ho⟩,hq]
     simp (maxSteps:=1000000) [go_sem,kI]
     refine ZC ziP (by kernel_rfl) ?_
     have l1:(ckP sk.1).length=(cxP sk.1).length:=by simp[ckP,cxP]
     have l2:(Z7 sk.2).length=(qe sk.2).length:=by simp[Z7,qe]
     have e1:=XH l1 (.int .i32 0) (.int .i32 r)
     have e2:=XH l2 (.bool false) (.bool true)
     have e3:ckP sk.1++[.agg [.int .i32 q.a,.int .i32 q.b]]=ckP (sk.1++[(q,(r:Int))]):=by simp[ckP,qj]
     have e4:cxP sk.1++[.int .i32 (r:Int)]=cxP (sk.1++[(q,(r:Int))]):=by simp[cxP]
     have l3:(ckP sk.1).length< (cxP sk.1).length+1:=by omega
     have l4:(Z7 sk.2).length< (qe sk.2).length+1:=by omega
     rcases zbv q.b sk.2 with ⟨g1,g2⟩|⟨j2,g1,g2,g3,g4⟩
     ·have e5:Z7 sk.2++[.int .i32 q.b]=Z7 (ju q.b sk.2):=by rw[g2];simp[Z7]
      have e6:qe sk.2++[.bool true]=qe (ju q.b sk.2):=by rw[g2];simp[qe]
      simp (maxSteps:=1000000) [go_sem,ziP,hf1,g1,e1,e2,l3,l4]
      exact⟨ckP_key _,KB _,zj (k+1) (by omega) (by simp[go_sem,LeS,leV,leR,leA,leL,hstep2,hs1,ek,w4,←e3,←e4,←e5,←e6]) (by omega)⟩
     ·simp (maxSteps:=1000000) [go_sem,ziP,hf1,g1,e1,g3,g4,l3]
      exact⟨ckP_key _,KB _,zj (k+1) (by omega) (by simp[go_sem,LeS,leV,leR,leA,leL,hstep2,hs1,ek,w4,←e3,←e4,g2]) (by omega)⟩
   ·have hs1:jA t sk r=sk:=by unfold jA;rw[if_neg (fun h=>h.1 _ hf2 hq.symm)]
    simp (maxSteps:=1000000) [go_sem,qj]
    refine ZC zgZ (by kernel_rfl) ?_
    simp only[qj]at hf1
    simp (maxSteps:=1000000) [go_sem,zgZ,qU,mapOf,Z6,hf1,w4]
    exact⟨ckP_key _,zj (k+1) (by omega) (by simp[go_sem,LeS,leV,leR,leA,leL,hstep2,hs1,ek]) (by omega)⟩
  ·have hk2:k=t0+1-f0:=by omega
   simp (maxSteps:=1000000) [go_sem,w1]
   have hfin:jS t st ⟨f0,t0,sa,sb⟩=(Z3 f0 k).foldl (jA t) st:=by simp[jS,hk2]
   exact zj (i+1) (by omega) (by simp[go_sem,LeS,leV,leR,leA,leL,htk,hfin]) (by omega)
 ·obtain rfl:i=J.length:=by omega
  simp (maxSteps:=1000000) [go_sem]
  exact zt [[25]] (.lp [25] 0) ⟨rfl,by simp⟩ (by simp[go_sem,zg,leA,leT]) ⟨c,b,j,f,p,hT,rfl,by simp[go_sem]⟩
def made(l:List Row):List (Qn×Int)×List Int:=(zZ l 2).foldl (jS (qI l)) ([],[])
theorem zes [Gi](l:List Row)(hn:l.length<2^31)(h1:Zf l 1)(h2:Zf l 2)(h3:Zf l 3)(h4:Zf l 4)(h5:Zf l 5)(h6:Zf l 6)(h7:Zf l 7)(h8:Zf l 8)
  (hp:∀s∈zZ l 2,0≤s.a∧s.a<1114112∧0≤s.b∧s.b<1114112):
  CR Tryz.prog 13 [] [.p (qJ l)] [] (fun x rs=>rs=[]∧∃c b j f p,uv (qI l) c b j f p∧x=.p (Q0 c b j f p (ckP (made l).1) (cxP (made l).1) (Z7 (made l).2) (qe (made l).2))):=by
 refine CR.zgS (zaM l hn h1 h2 h3 h4 h5 h6 h7 h8 hp) ?_
 rintro x rs ⟨c,b,j,f,p,hT,rfl,rfl⟩
 exact⟨_,zgA rfl rfl,rfl,c,b,j,f,p,hT,rfl⟩
end
end Go.Proofs.YtfjdbbpimklecaaGreatDoor
