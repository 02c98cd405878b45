/- A part of the proof of this seat's statements, by an abstract machine: what each operation does to values, and what the law's functions compute. Conditions: as each law says. -/
import Derived.Test.YtcgfdhdcihmeeaaGreatT20
import Derived.Test.YtcgfdhdcihmeeaaGreatT22
import Derived.Test.YtcgfdhdcihmeeaaGreatT23
import Derived.Test.YtcgfdhdcihmeeaaGreatT21
section
namespace Go.Proofs.YtcgfdhdcihmeeaaGreat
open Go.AM
set_option maxHeartbeats 1000000
theorem zgP [Gi](l:List (Z3 Q6))(size:Nat)(h0:0<size)(hs:size<2^28)(hn:l.length<2^31)(hb:∀p∈l, -1000000000≤p.f∧p.f≤1000000000):
  CR Tryz.prog 30 [] [.p (.int .i64 size),.p (.agg [.int .i32 0,.int .i32 0]),.p (yM l)] [] (fun x rs=>rs=[]∧∃e,x=.p e∧ku 2 size (fun j=>qA (qG ⟨0,0⟩ j l)) e):=by
 refine CR.freeze (zbH l size h0 hs hn hb) (fun _=>false) rfl ?_
 rintro x rs ⟨idx,blocks,rfl,h1,h2,rfl⟩
 exact⟨_,zd0 rfl rfl rfl,rfl,_,rfl,idx,blocks,rfl,fun i hi=>h1.qL h2 hi⟩
theorem zfH [Gi](l:List (Z3 Flags))(size:Nat)(h0:0<size)(hs:size<2^28)(hn:l.length<2^31)(hb:∀p∈l, -1000000000≤p.f∧p.f≤1000000000):
  CR Tryz.prog 52 [] [.p (.int .i64 size),.p (.agg [.bool false,.bool false,.bool false,.bool false]),.p (yy l)] [] (fun x rs=>rs=[]∧∃e,x=.p e∧ku 4 size (fun j=>qm (qG ⟨false,false,false,false⟩ j l)) e):=by
 refine CR.freeze (zbM l size h0 hs hn hb) (fun _=>false) rfl ?_
 rintro x rs ⟨idx,blocks,rfl,h1,h2,rfl⟩
 exact⟨_,zd0 rfl rfl rfl,rfl,_,rfl,idx,blocks,rfl,fun i hi=>h1.qL h2 hi⟩
theorem YR [Gi] {size:Nat} {val:Nat→Q6} {e:PV}(h:ku 2 size (fun j=>qA (val j)) e)(hs:size<2^31) {i:Nat}(hi:i<size):CR Tryz.prog 31 [] [.p e,.p (.int .i64 i)] [] (is (.p (.agg (qA (val i))))):=by
 obtain⟨idx,blocks,rfl,h⟩:=h
 exact zj7 size idx blocks i _ hs hi (h i hi)
theorem Xe [Gi] {size:Nat} {val:Nat→Flags} {e:PV}(h:ku 4 size (fun j=>qm (val j)) e)(hs:size<2^31) {i:Nat}(hi:i<size):CR Tryz.prog 62 [] [.p e,.p (.int .i64 i)] [] (is (.p (.agg (qm (val i))))):=by
 obtain⟨idx,blocks,rfl,h⟩:=h
 exact zjw size idx blocks i _ hs hi (h i hi)
end Go.Proofs.YtcgfdhdcihmeeaaGreat
end
section
namespace Go.Proofs.YtcgfdhdcihmeeaaGreat
open Go.AM
set_option maxHeartbeats 4000000
set_option maxRecDepth 10000
def qd(l:List Row)(k:Int):List Span:=Zx (zH l k)
structure Zi(l:List Row)(k:Int):Prop where
 rise:qH (zH l k)
 b:∀s∈zH l k, -1000000000≤s.t∧s.t≤1000000000
 n:(zH l k).length<256
 riseJ:qH (qd l k)
 bJ:∀s∈qd l k,0≤s.f∧s.t≤1114111
 nJ:(qd l k).length<256
theorem yL {l:List Span} {c:Int} {s:Span}(h:atL l c=some s):qJ l c=decide (s.a=1):=by
 simp only[qJ,h];by_cases e:s.a=1<;>simp[e]
theorem yx {l:List Span} {c:Int}(h:atL l c=none):qJ l c=false:=by simp only[qJ,h]
theorem KM(A B C D:List Span)(c:Int):(Z0 A B C D c !=kS)=(qJ A c || (qJ B c || (qJ C c || qJ D c))):=by
 simp only[Z0,kS]
 cases qJ A c<;>cases qJ B c<;>cases qJ C c<;>cases qJ D c<;>rfl
def Xs:PV:=.opq (.slice none 0 0)
theorem zgM [Gi](l:List Row)(hn:l.length<2^31)(h5:Zi l 5)(h7:Zi l 7)(h8:Zi l 8)(h3:Zi l 3):
  CR Tryz.prog 28 [] [.p (zU l)] [] (fun x rs=>rs=[]∧∃e,x=.p e∧ku 4 1114112 (fun j=>qm (Z0 (qd l 5) (qd l 7) (qd l 8) (qd l 3) j)) e):=by
 refine zR [23] mixed 16 [17,18,29,30,31,35,36] Tryz.func28 rfl (by kernel_rfl) rfl (by simp) (by simp) ?_
 simp (maxSteps:=1000000) [go_sem,Tryz.f28]
 have hw:∀x:Int,0≤x→x≤4→IntKind.i64.wrap x=x:=fun x h1 h2=>wrap64 (by omega) (by omega)
 have w1:=hw 1 (by omega) (by omega)
 have w2:=hw 2 (by omega) (by omega)
 have w3:=hw 3 (by omega) (by omega)
 have w4:=hw 4 (by omega) (by omega)
 obtain⟨A,eA⟩:∃A,A=qd l 5:=⟨_,rfl⟩
 obtain⟨B,eB⟩:∃A,A=qd l 7:=⟨_,rfl⟩
 obtain⟨C,eC⟩:∃A,A=qd l 8:=⟨_,rfl⟩
 obtain⟨D,eD⟩:∃A,A=qd l 3:=⟨_,rfl⟩
 refine⟨rfl,zE (fun i:Nat=>i≤4) (fun i=>[(18,.p (.int .i64 (i:Nat)))]) (fun i=>[([4],[.p (if 0<i then zB A else Xs),.p (if 1<i then zB B else Xs),.p (if 2<i then zB C else Xs),.p (if 3<i then zB D else Xs)])]) (fun i=>4-i) 0 (by omega) (by simp[go_sem,LeS,leV,leR,leA,leL,Xs]) (fun i hi=>?_)⟩
 have hi':i=0∨i=1∨i=2∨i=3∨i=4:=by omega
 rcases hi' with rfl|rfl|rfl|rfl|rfl
 ·simp (maxSteps:=1000000) [go_sem]
  refine⟨⟨rfl,by simp[Tryz.f29]⟩,zd [] (Y3 l 5 h5.rise h5.b hn h5.n) (by simp[go_sem]) ⟨by simp[go_sem],by simp[go_sem]⟩ (by simp[go_sem]) ?_⟩
  rintro _ rs ⟨rfl,rfl⟩
  simp (maxSteps:=1000000) [go_sem,zB,Xs,w1]
  exact zg 1 (by omega) (by simp[go_sem,LeS,leV,leR,leA,leL,eA,qd]) (by omega)
 ·simp (maxSteps:=1000000) [go_sem]
  refine⟨⟨rfl,by simp[Tryz.f29]⟩,zd [] (Y3 l 7 h7.rise h7.b hn h7.n) (by simp[go_sem]) ⟨by simp[go_sem],by simp[go_sem]⟩ (by simp[go_sem]) ?_⟩
  rintro _ rs ⟨rfl,rfl⟩
  simp (maxSteps:=1000000) [go_sem,zB,Xs,w2]
  exact zg 2 (by omega) (by simp[go_sem,LeS,leV,leR,leA,leL,eB,qd]) (by omega)
 ·simp (maxSteps:=1000000) [go_sem]
  refine⟨⟨rfl,by simp[Tryz.f29]⟩,zd [] (Y3 l 8 h8.rise h8.b hn h8.n) (by simp[go_sem]) ⟨by simp[go_sem],by simp[go_sem]⟩ (by simp[go_sem]) ?_⟩
  rintro _ rs ⟨rfl,rfl⟩
  simp (maxSteps:=1000000) [go_sem,zB,Xs,w3]
  exact zg 3 (by omega) (by simp[go_sem,LeS,leV,leR,leA,leL,eC,qd]) (by omega)
 ·simp (maxSteps:=1000000) [go_sem]
  refine⟨⟨rfl,by simp[Tryz.f29]⟩,zd [] (Y3 l 3 h3.rise h3.b hn h3.n) (by simp[go_sem]) ⟨by simp[go_sem],by simp[go_sem]⟩ (by simp[go_sem]) ?_⟩
  rintro _ rs ⟨rfl,rfl⟩
  simp (maxSteps:=1000000) [go_sem,zB,Xs,w4]
  exact zg 4 (by omega) (by simp[go_sem,LeS,leV,leR,leA,leL,eD,qd]) (by omega)
 ·simp (maxSteps:=1000000) [go_sem]
  have hl:∀m∈[A,B,C,D],m.length<256:=by
   intro m hm
   simp only[List.mem_cons,List.not_mem_nil,or_false]at hm
   rcases hm with rfl|rfl|rfl|rfl
   ·rw[eA];exact h5.nJ
   ·rw[eB];exact h7.nJ
   ·rw[eC];exact h8.nJ
   ·rw[eD];exact h3.nJ
  have hR:∀m∈[A,B,C,D],qH m:=by
   intro m hm
   simp only[List.mem_cons,List.not_mem_nil,or_false]at hm
   rcases hm with rfl|rfl|rfl|rfl
   ·rw[eA];exact h5.riseJ
   ·rw[eB];exact h7.riseJ
   ·rw[eC];exact h8.riseJ
   ·rw[eD];exact h3.riseJ
  have hB:∀m∈[A,B,C,D],∀s∈m,0≤s.f∧s.t≤1114111:=by
   intro m hm
   simp only[List.mem_cons,List.not_mem_nil,or_false]at hm
   rcases hm with rfl|rfl|rfl|rfl
   ·rw[eA];exact h5.bJ
   ·rw[eB];exact h7.bJ
   ·rw[eC];exact h8.bJ
   ·rw[eD];exact h3.bJ
  refine⟨⟨rfl,by simp[Tryz.f49]⟩,zd [([0],[4])] (zmv [A,B,C,D] (by simp) hl (fun m hm s hs=>?_)) (by simp[go_sem,zM]) ⟨by simp[go_sem],by simp[go_sem]⟩ (by simp[go_sem]) ?_⟩
  ·have:=hB m hm s hs
   have:=(hR m hm).le s hs
   omega
  rintro _ _ ⟨rfl,at_,rfl,c1,c2,c3,c4⟩
  simp (maxSteps:=1000000) [go_sem]
  have hat:∀c∈at_,0≤c∧c≤1114112:=fun c hc=>by
   rcases c3 c hc with rfl|⟨m,hm,q,hq,h⟩
   ·omega
   ·have:=hB m hm q hq
    have:=(hR m hm).le q hq
    omega
  refine zE (fun i:Nat=>i≤at_.length) (fun i=>[(31,.p (.int .i64 (i:Nat))),(7,.os [7] 6 ((jA A B C D (at_.take i)).map KL))]) (fun _=>[]) (fun i=>at_.length-i) 0 (by omega) (by simp[go_sem,LeS,leV,leR,leA,leL,jA]) (fun i hi=>?_)
  simp (maxSteps:=1000000) [go_sem]
  refine zt (fun h=>?_) (fun h=>?_)
  ·have hil:i<at_.length:=by omega
   have wi:IntKind.i64.wrap ((i:Int)+1)=((i+1:Nat):Int):=by rw[wrap64 (by omega) (by omega)];rfl
   have em:=zp (fun k=>PV.int .i64 k) at_ i hil
   have hc:=hat at_[i] (List.getElem_mem _)
   have htk:jA A B C D (at_.take (i+1))=jA A B C D (at_.take i)++(if Z0 A B C D at_[i] !=kS then [x6 A B C D at_[i]]else []):=by
    rw[List.take_add_one,List.getElem?_eq_getElem hil]
    simp only[jA,List.filter_append,List.map_append,Option.toList_some]
    by_cases hz:(Z0 A B C D at_[i] !=kS)=true<;>simp[hz]
   have hlen:(jA A B C D (at_.take i)).length≤10000:=by
    have h1:=List.length_filter_le (fun a=>Z0 A B C D a !=kS) (at_.take i)
    simp only[jA,List.length_map]
    rw[List.length_take]at h1
    omega
   generalize at_[i]=c at em hc htk
   have w5:IntKind.i32.wrap c=c:=by simp[IntKind.wrap,IntKind.signed,IntKind.bits];omega
   simp (maxSteps:=1000000) [go_sem,em,hil]
   refine zE (fun k:Nat=>k≤4) (fun k=>[(36,.p (.int .i64 (k:Nat))),(11,.p (.int .i64 (yO c 1114111 ([A,B,C,D].take k))))]) (fun k=>[([10],[.p (.bool (decide (0<k)&&qJ A c)),.p (.bool (decide (1<k)&&qJ B c)),.p (.bool (decide (2<k)&&qJ C c)),.p (.bool (decide (3<k)&&qJ D c))])]) (fun k=>4-k) 0 (by omega) (by simp[go_sem,LeS,leV,leR,leA,leL,yO,zB]) (fun k hk=>?_)
   have hk':k=0∨k=1∨k=2∨k=3∨k=4:=by omega
   rcases hk' with rfl|rfl|rfl|rfl|rfl
   ·simp (maxSteps:=1000000) [go_sem,w5,zB]
    refine⟨⟨rfl,by simp[Tryz.f50]⟩,zd [] (zeo A c (by omega) (hR A (by simp)) (by have:=hl A (by simp);omega)) (by simp[go_sem]) ⟨by simp[go_sem],by simp[go_sem,zB]⟩ (by simp[go_sem]) ?_⟩
    rintro _ rs ⟨rfl,rfl⟩
    cases ha:atL A c with
    |none=>
     have hf:=yx ha
     simp (maxSteps:=1000000) [go_sem,atA,zT,w1]
     exact zg 1 (by omega) (by simp[go_sem,LeS,leV,leR,leA,leL,yO,ha,hf]) (by omega)
    |some s=>
     have hf:=yL ha
     simp (maxSteps:=1000000) [go_sem,atA,zT,w1]
     exact zg 1 (by omega) (by simp[go_sem,LeS,leV,leR,leA,leL,yO,ha,hf]) (by omega)
   ·simp (maxSteps:=1000000) [go_sem,w5,zB]
    refine⟨⟨rfl,by simp[Tryz.f50]⟩,zd [] (zeo B c (by omega) (hR B (by simp)) (by have:=hl B (by simp);omega)) (by simp[go_sem]) ⟨by simp[go_sem],by simp[go_sem,zB]⟩ (by simp[go_sem]) ?_⟩
    rintro _ rs ⟨rfl,rfl⟩
    cases ha:atL B c with
    |none=>
     have hf:=yx ha
     simp (maxSteps:=1000000) [go_sem,atA,zT,w2]
     exact zg 2 (by omega) (by simp[go_sem,LeS,leV,leR,leA,leL,yO,ha,hf]) (by omega)
    |some s=>
     have hf:=yL ha
     simp (maxSteps:=1000000) [go_sem,atA,zT,w2]
     exact zg 2 (by omega) (by simp[go_sem,LeS,leV,leR,leA,leL,yO,ha,hf]) (by omega)
   ·simp (maxSteps:=1000000) [go_sem,w5,zB]
    refine⟨⟨rfl,by simp[Tryz.f50]⟩,zd [] (zeo C c (by omega) (hR C (by simp)) (by have:=hl C (by simp);omega)) (by simp[go_sem]) ⟨by simp[go_sem],by simp[go_sem,zB]⟩ (by simp[go_sem]) ?_⟩
    rintro _ rs ⟨rfl,rfl⟩
    cases ha:atL C c with
    |none=>
     have hf:=yx ha
     simp (maxSteps:=1000000) [go_sem,atA,zT,w3]
     exact zg 3 (by omega) (by simp[go_sem,LeS,leV,leR,leA,leL,yO,ha,hf]) (by omega)
    |some s=>
     have hf:=yL ha
     simp (maxSteps:=1000000) [go_sem,atA,zT,w3]
     exact zg 3 (by omega) (by simp[go_sem,LeS,leV,leR,leA,leL,yO,ha,hf]) (by omega)
   ·simp (maxSteps:=1000000) [go_sem,w5,zB]
    refine⟨⟨rfl,by simp[Tryz.f50]⟩,zd [] (zeo D c (by omega) (hR D (by simp)) (by have:=hl D (by simp);omega)) (by simp[go_sem]) ⟨by simp[go_sem],by simp[go_sem,zB]⟩ (by simp[go_sem]) ?_⟩
    rintro _ rs ⟨rfl,rfl⟩
    cases ha:atL D c with
    |none=>
     have hf:=yx ha
     simp (maxSteps:=1000000) [go_sem,atA,zT,w4]
     exact zg 4 (by omega) (by simp[go_sem,LeS,leV,leR,leA,leL,yO,ha,hf]) (by omega)
    |some s=>
     have hf:=yL ha
     simp (maxSteps:=1000000) [go_sem,atA,zT,w4]
     exact zg 4 (by omega) (by simp[go_sem,LeS,leV,leR,leA,leL,yO,ha,hf]) (by omega)
   ·simp (maxSteps:=1000000) [go_sem]
    refine qc (fun hz=>?_) (fun hz=>?_)
    ·simp (maxSteps:=1000000) [go_sem]
     refine Zs (.p (.int .i64 (ZP c (yO c 1114111 [A,B,C,D]) [A,B,C,D].flatten))) rfl rfl (fun _=>Zt 51 (zkP [A,B,C,D] c (yO c 1114111 [A,B,C,D]) rfl hl (fun m hm s hs=>?_)) rfl ⟨rfl,by simp[Tryz.f51]⟩ ⟨by simp[go_sem],by simp[go_sem,zdt]⟩) ?_
     ·have:=hB m hm s hs
      have:=(hR m hm).le s hs
      omega
     simp (maxSteps:=1000000) [go_sem,wi]
     rw[KM,if_pos hz]at htk
     exact⟨by omega,zg (i+1) (by omega) (by simp[go_sem,LeS,leV,leR,leA,leL,htk,KL,qm,Z0,x6]) (by omega)⟩
    ·simp (maxSteps:=1000000) [go_sem,wi]
     rw[KM,if_neg (by simp[hz]),List.append_nil]at htk
     exact zg (i+1) (by omega) (by simp[go_sem,LeS,leV,leR,leA,leL,htk]) (by omega)
  ·obtain rfl:i=at_.length:=by omega
   simp (maxSteps:=1000000) [go_sem]
   have hpl:(jA A B C D at_).length≤10000:=by
    have h1:=List.length_filter_le (fun a=>Z0 A B C D a !=kS) at_
    simp only[jA,List.length_map]
    omega
   refine⟨⟨rfl,by simp[Tryz.f52]⟩,zd [] (zfH (jA A B C D at_) 1114112 (by omega) (by omega) (by omega) (fun p hp=>?_)) (by simp[go_sem]) ⟨by simp[go_sem],by simp[go_sem,yy]⟩ (by simp[go_sem]) ?_⟩
   ·obtain⟨a,ha,rfl⟩:=List.mem_map.1 hp
    have:=hat a (List.mem_filter.1 ha).1
    simp only[x6]
    omega
   rintro _ rs ⟨rfl,e,rfl,idx,blocks,rfl,he⟩
   simp (maxSteps:=1000000) [go_sem]
   refine zu [] (.p (.pt 3 (Qm 4 1114112 idx blocks))) ⟨rfl,by simp⟩ (by simp[go_sem,zf,leA,leT]) ⟨by simp[go_sem],_,rfl,idx,blocks,rfl,fun j hj=>?_⟩
   have hl4:=zef (hR A (by simp)) (hR B (by simp)) (hR C (by simp)) (hR D (by simp)) c1 c2 (j:=j) (by omega) (by omega)
   simp only[kS]at hl4
   show YQ 4 idx blocks j (qm (Z0 (qd l 5) (qd l 7) (qd l 8) (qd l 3) j))
   rw[←eA,←eB,←eC,←eD,←hl4]
   exact he j hj
end Go.Proofs.YtcgfdhdcihmeeaaGreat
end
section
namespace Go.Proofs.YtcgfdhdcihmeeaaGreat
open Go.AM
set_option maxHeartbeats 4000000
set_option maxRecDepth 10000
structure qV where
 cls:Nat→Int
 brk:Nat→Int
 cnj:Nat→Int
 flg:Nat→Flags
 par:Nat→Q6
structure WO(t:qV)(c b j f p:PV):Prop where
 c:ku 1 1114112 (fun i=>[.int .i64 (t.cls i)]) c
 b:ku 1 1114112 (fun i=>[.int .i64 (t.brk i)]) b
 j:ku 1 1114112 (fun i=>[.int .i64 (t.cnj i)]) j
 f:ku 4 1114112 (fun i=>qm (t.flg i)) f
 p:ku 2 1114112 (fun i=>qA (t.par i)) p
def yR(c b j f p:PV)(ck cx sk sx:List PV):List AV:=[.p c,.p b,.p j,.p f,.p p,.om [901] ck cx,.om [902] sk sx]
def jE(c b j f p:PV)(ck cx sk sx:List PV):PV:=.pt 7 (.agg [c,b,j,f,p,.mp ck cx,.mp sk sx])
def zkR(q:Q6):AV:=.tup [.p (.int .i32 q.a),.p (.int .i32 q.b),.p (.bool (!decide (q.a=0) ||!decide (q.b=0)))]
theorem Jg [Gi] {t:qV} {c b j f p:PV}(h:WO t c b j f p)(ck cx sk sx:List PV) {i:Nat}(hi:i<1114112):
  CR Tryz.prog 63 [[0]] [.lp [0] 0,.p (.int .i32 i)] [([0],yR c b j f p ck cx sk sx)] (fun x rs=>x=.p (.int .i64 (t.cls i))∧rs=[([0],yR c b j f p ck cx sk sx)]):=by
 have w1:IntKind.i64.wrap (i:Int)=i:=wrap64 (by omega) (by omega)
 refine zC mixed 5 [] Tryz.func63 rfl (by kernel_rfl) rfl (by simp) (by simp) ?_
 obtain⟨_,_,e,_⟩:=id h.c
 simp (maxSteps:=1000000) [go_sem,Tryz.f63,yR,w1]
 refine⟨⟨rfl,by simp[Tryz.f94]⟩,zd [] (YC h.c (by omega) hi) (by simp[go_sem,zM]) ⟨by simp[go_sem],by simp[go_sem]⟩ (by simp[go_sem]) ?_⟩
 rintro _ rs ⟨rfl,rfl⟩
 simp (maxSteps:=1000000) [go_sem]
 exact zu [[0]] (.p (.int .i64 (t.cls i))) ⟨rfl,by simp⟩ (by simp[go_sem,zf,leA,leT]) ⟨rfl,by simp[go_sem]⟩
theorem zfU [Gi] {t:qV} {c b j f p:PV}(h:WO t c b j f p)(ck cx sk sx:List PV) {i:Nat}(hi:i<1114112):
  CR Tryz.prog 61 [[0]] [.lp [0] 0,.p (.int .i32 i)] [([0],yR c b j f p ck cx sk sx)] (fun x rs=>x=zkR (t.par i)∧rs=[([0],yR c b j f p ck cx sk sx)]):=by
 have w1:IntKind.i64.wrap (i:Int)=i:=wrap64 (by omega) (by omega)
 refine zR [4] mixed 8 [] Tryz.func61 rfl (by kernel_rfl) rfl (by simp) (by simp) ?_
 simp (maxSteps:=1000000) [go_sem,Tryz.f61,yR,w1]
 refine⟨⟨rfl,by simp[Tryz.f31]⟩,zd [] (YR h.p (by omega) hi) (by simp[go_sem,zM]) ⟨by simp[go_sem],by simp[go_sem]⟩ (by simp[go_sem]) ?_⟩
 rintro _ rs ⟨rfl,rfl⟩
 generalize t.par i=q
 simp (maxSteps:=1000000) [go_sem,qA]
 exact zu [[0]] (.tup [.p (.int .i32 q.a),.p (.int .i32 q.b),.p (.bool (!decide (q.a=0) ||!decide (q.b=0)))]) ⟨rfl,by simp⟩ (by simp[go_sem,zf,leA,leT,leP]) ⟨rfl,by simp[go_sem]⟩
def J7(t:qV)(i:Nat):Bool:=(!decide ((t.par i).a=0) ||!decide ((t.par i).b=0))&&(decide ((t.par i).b=0) || (t.flg i).o ||!decide (t.cls i=0) ||!decide (t.cls (t.par i).a.toNat=0))
theorem zjq [Gi] {t:qV} {c b j f p:PV}(h:WO t c b j f p)(ck cx sk sx:List PV) {i:Nat}(hi:i<1114112)(hp:0≤(t.par i).a∧(t.par i).a<1114112):
  CR Tryz.prog 32 [[0]] [.lp [0] 0,.p (.int .i32 i)] [([0],yR c b j f p ck cx sk sx)] (fun x rs=>x=.p (.bool (J7 t i))∧rs=[([0],yR c b j f p ck cx sk sx)]):=by
 have w1:IntKind.i64.wrap (i:Int)=i:=wrap64 (by omega) (by omega)
 refine zC mixed 8 [] Tryz.func32 rfl (by kernel_rfl) rfl (by simp) (by simp) ?_
 obtain⟨q,hq⟩:∃q,t.par i=q:=⟨_,rfl⟩
 have hpa:=hp
 rw[hq]at hpa
 have hn:((q.a.toNat:Nat):Int)=q.a:=by omega
 simp (maxSteps:=1000000) [go_sem,Tryz.f32,yR]
 refine⟨⟨rfl,by simp[Tryz.f61]⟩,zd [([0],[0]),([901],[901]),([902],[902])] (zfU h ck cx sk sx hi) (by simp[go_sem,zM]) ⟨by simp[go_sem],by simp[go_sem]⟩ (by simp[go_sem,yR]) ?_⟩
 rintro _ rs ⟨rfl,rfl⟩
 obtain⟨z,hz⟩:∃z,(!decide (q.a=0) ||!decide (q.b=0))=z:=⟨_,rfl⟩
 simp only[hq,zkR,hz]
 have ho:J7 t i=(z&&(decide (q.b=0) || (t.flg i).o ||!decide (t.cls i=0) ||!decide (t.cls q.a.toNat=0))):=by simp only[J7,hq,hz]
 cases z with
 |false=>
  simp (maxSteps:=1000000) [go_sem]
  exact zu [[0]] (.p (.bool (J7 t i))) ⟨rfl,by simp⟩ (by simp[go_sem,zf,leA,leT, *]) ⟨rfl,by simp[go_sem,yR]⟩
 |true=>
  by_cases hb:q.b=0
  ·simp (maxSteps:=1000000) [go_sem,hb]
   exact zu [[0]] (.p (.bool (J7 t i))) ⟨rfl,by simp⟩ (by simp[go_sem,zf,leA,leT, *]) ⟨rfl,by simp[go_sem,yR]⟩
  ·simp (maxSteps:=1000000) [go_sem,hb,w1,yR]
   refine⟨⟨rfl,by simp[Tryz.f62]⟩,zd [] (Xe h.f (by omega) hi) (by simp[go_sem,zM]) ⟨by simp[go_sem],by simp[go_sem]⟩ (by simp[go_sem]) ?_⟩
   rintro _ rs ⟨rfl,rfl⟩
   generalize t.flg i=fl at ho
   cases hfo:fl.o with
   |true=>
    simp (maxSteps:=1000000) [go_sem,qm,hfo]
    exact zu [[0]] (.p (.bool (J7 t i))) ⟨rfl,by simp⟩ (by simp[go_sem,zf,leA,leT, *]) ⟨rfl,by simp[go_sem]⟩
   |false=>
    simp (maxSteps:=1000000) [go_sem,qm,hfo]
    refine⟨⟨rfl,by simp[Tryz.f63]⟩,zd [([0],[0]),([901],[901]),([902],[902])] (Jg h ck cx sk sx hi) (by simp[go_sem,zM]) ⟨by simp[go_sem],by simp[go_sem]⟩ (by simp[go_sem,yR]) ?_⟩
    rintro _ rs ⟨rfl,rfl⟩
    by_cases hc:t.cls i=0
    ·simp (maxSteps:=1000000) [go_sem,hc,yR]
     refine⟨⟨rfl,by simp[Tryz.f63]⟩,zd [([0],[0]),([901],[901]),([902],[902])] (Jg h ck cx sk sx (i:=q.a.toNat) (by omega)) (by simp[go_sem,zM]) ⟨by simp[go_sem],by simp[go_sem,hn]⟩ (by simp[go_sem,yR]) ?_⟩
     rintro _ rs ⟨rfl,rfl⟩
     simp (maxSteps:=1000000) [go_sem,yR]
     exact zu [[0]] (.p (.bool (J7 t i))) ⟨rfl,by simp⟩ (by simp[go_sem,zf,leA,leT, *]) ⟨rfl,by simp[go_sem]⟩
    ·simp (maxSteps:=1000000) [go_sem,hc,yR]
     exact zu [[0]] (.p (.bool (J7 t i))) ⟨rfl,by simp⟩ (by simp[go_sem,zf,leA,leT, *]) ⟨rfl,by simp[go_sem]⟩
end Go.Proofs.YtcgfdhdcihmeeaaGreat
end
section
namespace Go.AM
def Wf(g:Gh)(w:World):Gh:=
 ⟨fun b=>match g.K b with
  |.root _=>frW w b
  |.tail _=>max 1 (g.fr b)
  |.prot=>g.fr b,fun _=>.prot⟩
theorem Vh {g:Gh} {w:World} {b:Nat}(h:g.K b=.prot):(Wf g w).fr b=g.fr b:=by simp only[Wf,h]
theorem zgN {g:Gh} {w:World} {b:Nat} {t:Tok}(h:g.K b=.root t):(Wf g w).fr b=frW w b:=by simp only[Wf,h]
theorem YH {g:Gh} {w:World} {b:Nat} {t:Tok}(h:g.K b=.tail t):(Wf g w).fr b=max 1 (g.fr b):=by simp only[Wf,h]
theorem zbr [Gi] {g:Gh} {w:World} {rs:List (Tok×List AV)}(hG:GS g w rs):Ext g.fr w (Wf g w).fr w:=fun b o ho=>by
 refine⟨?_,rfl,rfl⟩
 rcases h:g.K b with _|t|t
 ·rw[Vh h];exact ho
 ·obtain⟨_,_,h0,_⟩:=hG.roots b t h
  omega
 ·rw[YH h];omega
theorem zkt [Gi] {g:Gh} {w:World} {rs:List (Tok×List AV)}(hG:GS g w rs):GS (Wf g w) w []:=by
 have hp:∀b,(Wf g w).K b=.prot:=fun _=>rfl
 refine⟨fun b t hk=>(by rw[hp b]at hk;cases hk),fun b b' t hk _=>(by rw[hp b]at hk;cases hk),fun b b' t hk _=>(by rw[hp b]at hk;cases hk),fun b hb=>absurd (hp b) hb,fun b hb=>?_,fun b arr e=>?_⟩
 ·have:g.K b=.prot:=by
   rcases h:g.K b with _|t|t
   ·rfl
   all_goals exact absurd (hG.own b (by rw[h];simp)) (by omega)
  rw[Vh this]
  exact hG.frb b hb
 ·obtain⟨_,h2⟩:=hG.gl b arr e
  exact⟨rfl,h2⟩
def zg7 [Gi](rs:List (Tok×List AV))(x x':AV):Prop:=∀g w v,GS g w rs→zb g w x v→zb (Wf g w) w x' v
theorem CR.zkb [Gi] {P:Program} {f:FuncId} {args:List AV} {rs:List (Tok×List AV)} {R R':AV→List (Tok×List AV)→Prop}(h:CR P f [] args rs R)
  (hr:∀x rs',R x rs'→∃x',zg7 rs' x x'∧R' x' []):CR P f [] args rs R':=by
 intro w g vs h1 h2
 refine(h w g vs h1 h2).mono ?_
 rintro e w' ⟨v,x,rs',g',rfl,hR,hx,hG,hA⟩
 obtain⟨x',hf,hR'⟩:=hr x rs' hR
 refine⟨v,x',_,Wf g' w',rfl,hR',hf g' w' v hG hx,zkt hG,⟨fun b hb hk=>?_,hA.ext.trans (zbr hG),hA.out,hA.mono,fun b t hk ht=>by cases ht⟩⟩
 obtain⟨a1,a2,a3⟩:=hA.frame b hb hk
 exact⟨a1,by rw[Vh a3];exact a2,rfl⟩
def zh8:AV→Option PV
 |.p x=>some x
 |.os _ z es=>some (.sl z es)
 |.om _ ks xs=>some (.mp ks xs)
 |_=>none
def zi7:List AV→Option (List PV)
 | []=>some []
 |x::l=>match zh8 x,zi7 l with
  |some y,some ys=>some (y::ys)
  |_,_=>none
theorem zgt [Gi] {g:Gh} {w:World} {rs:List (Tok×List AV)}(hG:GS g w rs) {x:AV} {y:PV} {v:Value}(h:zh8 x=some y)(r:zb g w x v):zj (Wf g w).fr w y v:=by
 have hx:=zbr hG
 cases x with
 |p x=>simp only[zh8,Option.some.injEq]at h;subst h;simp only[zb]at r;exact r.ext hx
 |os t z es=>simp only[zh8,Option.some.injEq]at h;subst h;simp only[zb]at r;exact zj.ext hx _ _ r.1
 |om t ks xs=>
  simp only[zh8,Option.some.injEq]at h;subst h
  simp only[zb]at r
  obtain⟨b,arr,c,rfl,hk,h0,hm,r1,r2⟩:=r
  simp only[zj]
  exact⟨b,arr,c,rfl,by rw[YH hk];omega,hm,r1.ext hx,r2.ext hx⟩
 |_=>cases h
theorem YM [Gi] {g:Gh} {w:World} {rs:List (Tok×List AV)}(hG:GS g w rs):∀{xs:List AV} {ys:List PV} {vs:List Value},zi7 xs=some ys→(∀u∈vs,u.oneCell'=true)→zm g w xs vs→zr (Wf g w).fr w ys vs
 | [],ys,vs,h,_,r=>by simp only[zi7,Option.some.injEq]at h;subst h;simp only[zm]at r;simp only[zr];exact r
 |x::xs,ys,vs,h,h1,r=>by
  simp only[zi7]at h
  split at h
  ·rename_i y ys' e1 e2
   simp only[Option.some.injEq]at h;subst h
   simp only[zm]at r
   obtain⟨v,vs',rfl,r1,r2⟩:=r
   simp only[zr]
   exact⟨v,vs',rfl,h1 v (by simp),zgt hG e1 r1,YM hG e2 (fun u hu=>h1 u (by simp[hu])) r2⟩
  ·cases h
theorem zj0 [Gi] {rs:List (Tok×List AV)} {t:Tok} {cs:List AV} {ps:List PV}(hl:zl rs t=some cs)(hp:zi7 cs=some ps):zg7 rs (.lp t 0) (.p (.pt cs.length (.agg ps))):=by
 intro g w v hG hv
 simp only[zb]at hv
 obtain⟨b,hk,rfl⟩:=hv
 obtain⟨cs',hl',hfr,arr,T,hb,hle,hc⟩:=hG.roots b t hk
 rw[hl]at hl';injection hl' with hl';subst hl'
 have hfb:(Wf g w).fr b=arr.size:=by rw[zgN hk];simp[frW,hb]
 have hRC:zm g w cs (arr.toList.take cs.length)∧∀u∈arr.toList.take cs.length,u.oneCell'=true:=by
  have key:∀(ys:List AV) (vs:List Value),ys.length=vs.length→(∀(j:Nat) (x:AV),ys[j]?=some x→∃v,vs[j]?=some v∧v.oneCell'=true∧zb g w x v)→zm g w ys vs∧∀u∈vs,u.oneCell'=true:=by
   intro ys
   induction ys with
   |nil=>intro vs hl _;cases vs with
    |nil=>exact⟨by simp[zm],by simp⟩
    |cons v vs=>simp at hl
   |cons y ys ih=>
    intro vs hl hh
    cases vs with
    |nil=>simp at hl
    |cons v vs=>
     obtain⟨u,hu,h1,hr⟩:=hh 0 y rfl
     simp at hu;subst hu
     obtain⟨i1,i2⟩:=ih vs (by simpa using hl) (fun j x hj=>by simpa using hh (j+1) x (by simpa using hj))
     refine⟨by simp only[zm];exact⟨v,vs,rfl,hr,i1⟩,fun u hu=>?_⟩
     rcases List.mem_cons.1 hu with rfl|hu
     ·exact h1
     ·exact i2 u hu
  refine key cs _ (by simp;omega) (fun j x hj=>?_)
  obtain⟨v,hv,h1,hr⟩:=hc j x hj
  exact⟨v,by rw[List.getElem?_take,if_pos (List.getElem?_eq_some_iff.1 hj).1];simpa using hv,h1,hr⟩
 have hP:=YM hG hp hRC.2 hRC.1
 simp only[zb,zj]
 refine⟨b,0,rfl,by rw[hfb];omega,.agg (arr.toList.take cs.length).toArray,⟨_,rfl,by simpa using hP⟩,by simp[Value.cells];omega,fun j c hj=>?_⟩
 have hj':(arr.toList.take cs.length)[j]?=some c:=by simpa[Value.cells]using hj
 refine⟨hRC.2 c (List.mem_of_getElem? hj'),?_⟩
 rw[zV hb,Nat.zero_add]
 rw[List.getElem?_take]at hj'
 split at hj'
 ·simpa using hj'
 ·cases hj'
end Go.AM
end
section
namespace Go.Proofs.YtcgfdhdcihmeeaaGreat
open Go.AM
set_option maxHeartbeats 4000000
set_option maxRecDepth 10000
theorem Zi.num [Gi] {l:List Row} {k:Int}(h:Zi l k)(hn:l.length<2^31):CR Tryz.prog 27 [] [.p (zU l),.p (.int .i64 k)] [] (fun x rs=>rs=[]∧∃e,x=.p e∧ku 1 1114112 (fun j=>[.int .i64 (qG 0 j ((qd l k).map Qy))]) e):=
 zdc l k h.rise h.b hn h.n h.nJ (fun s hs=>by
  have:=h.bJ s hs
  have:=h.riseJ.le s hs
  omega)
def zlT:OT:=.now 0 0 (.now 1 0 (.now 2 0 (.now 3 0 (.now 4 0 (.now 5 0 (.now 6 0 (.now 7 0 (.now 8 0 (.now 9 2 (.now 11 2 (.mk [(10,.mk [(12,.now 13 0 (.mk [(14,.mk [(15,.now 16 0 (.mk [(17,.mk [])]))])]))]),(12,.now 13 0 (.mk [(10,.mk [(14,.mk [(15,.now 16 0 (.mk [(17,.mk [])]))])]),(14,.now 10 0 (.mk [(15,.now 16 0 (.mk [(17,.mk [])]))]))]))])))))))))))
def zjO:OT:=.now 0 0 (.now 1 0 (.now 2 0 (.now 3 0 (.now 4 0 (.now 5 0 (.now 6 0 (.now 7 0 (.now 8 0 (.now 9 0 (.now 10 0 (.mk [])))))))))))
def kI(s:Span):Z3 Q6:=⟨s.f,s.t,⟨s.a,s.b⟩⟩
def qL(l:List Row):qV where
 cls i:=qG 0 i ((qd l 1).map Qy)
 brk i:=qG 0 i ((qd l 4).map Qy)
 cnj i:=qG 0 i ((qd l 6).map Qy)
 flg i:=Z0 (qd l 5) (qd l 7) (qd l 8) (qd l 3) i
 par i:=qG ⟨0,0⟩ i ((qd l 2).map kI)
def QD(K:List Int):List PV:=K.map fun k=>.int .i32 k
theorem zbk(K:List Int):(QD K).all (fun k=>okC [.i .i32] k.cells)=true:=by
 simp[QD,okC,PV.cells]
theorem YS(K:List Int):∀x:PV,x∈QD K→(match x with|.agg _=>true|_=>false)=false∧okC [.i .i32] (match x with|.agg cs=>cs|x=>[x])=true:=fun x h=>by
 obtain⟨d,_,rfl⟩:=List.mem_map.1 h;exact⟨rfl,rfl⟩
theorem zdR(c:Int)(K:List Int):(qQ [.int .i32 c] (QD K) (qq K) 0=none∧ki c K=K++[c])∨∃j,qQ [.int .i32 c] (QD K) (qq K) 0=some (j,.bool true)∧ki c K=K∧(qq K).set j (.bool true)=qq K∧j< (qq K).length:=by
 have hn:=jw (kc:=[.i .i32]) (key:=[.int .i32 c]) rfl (ks:=QD K) (xs:=qq K) (i:=0) (zbk K) (by simp[QD,qq])
 by_cases h:c∈K
 ·have hs:qQ [.int .i32 c] (QD K) (qq K) 0≠none:=fun e=>by
   have:=hn.1 e (.int .i32 c) (by simp[QD,h])
   exact this rfl
  obtain⟨⟨j,x⟩,hj⟩:=Option.ne_none_iff_exists'.1 hs
  obtain⟨_,k,h3,h4,h5⟩:=Zz (kc:=[.i .i32]) rfl (zbk K) hj
  have hx:x=.bool true:=by
   simp only[qq,List.getElem?_map,Option.map_eq_some_iff]at h5
   obtain⟨_,_,rfl⟩:=h5;rfl
  subst hx
  have h5':(qq K)[j]?=some (.bool true):=by simpa using h5
  exact .inr ⟨j,hj,if_pos h,k8 h5',(List.getElem?_eq_some_iff.1 h5').1⟩
 ·exact .inl ⟨hn.2 fun k hk e=>by
   obtain⟨d,hd,rfl⟩:=List.mem_map.1 hk
   simp only[PV.cells]at e
   injection e with e _;injection e with _ e;subst e
   exact h hd,if_neg h⟩
theorem zbK {ks xs:List PV}(h:ks.length=xs.length)(a b:PV):(xs++[a]).set ks.length b=xs++[b]:=by
 rw[h,List.set_append_right _ _ (Nat.le_refl _)];simp
def ckP(m:List (Q6×Int)):List PV:=m.map fun x=>.agg (qA x.1)
def cxP(m:List (Q6×Int)):List PV:=m.map fun x=>.int .i32 x.2
theorem ckP_ok(m:List (Q6×Int)):(ckP m).all (fun k=>okC [.i .i32,.i .i32] k.cells)=true:=by
 simp[ckP,okC,PV.cells,qA]
theorem ckP_key(m:List (Q6×Int)):∀x:PV,x∈ckP m→(match x with|.agg _=>true|_=>false)=true∧okC [.i .i32,.i .i32] (match x with|.agg cs=>cs|x=>[x])=true:=fun x h=>by
 obtain⟨d,_,rfl⟩:=List.mem_map.1 h;exact⟨rfl,rfl⟩
theorem zgO {p q:Q6}(h:qA p=qA q):p=q:=by
 cases p;cases q;simp only[qA]at h
 injection h with h1 h2;injection h1 with _ h1;injection h2 with h2 _;injection h2 with _ h2
 subst h1;subst h2;rfl
theorem ckP_find(q:Q6)(m:List (Q6×Int)):(qQ (qA q) (ckP m) (cxP m) 0=none∧∀x∈m,x.1≠q)∨∃j r,qQ (qA q) (ckP m) (cxP m) 0=some (j,.int .i32 r)∧(q,r)∈m:=by
 have hn:=jw (kc:=[.i .i32,.i .i32]) (key:=qA q) rfl (ks:=ckP m) (xs:=cxP m) (i:=0) (ckP_ok m) (by simp[ckP,cxP])
 by_cases h:qQ (qA q) (ckP m) (cxP m) 0=none
 ·exact .inl ⟨h,fun x hx e=>hn.1 h (.agg (qA x.1)) (List.mem_map.2 ⟨x,hx,rfl⟩) (by rw[e];rfl)⟩
 ·obtain⟨⟨j,x⟩,hj⟩:=Option.ne_none_iff_exists'.1 h
  obtain⟨_,k,h3,h4,h5⟩:=Zz (kc:=[.i .i32,.i .i32]) rfl (ckP_ok m) hj
  simp only[Nat.sub_zero,ckP,cxP,List.getElem?_map,Option.map_eq_some_iff]at h3 h5
  obtain⟨y,hy,rfl⟩:=h3
  obtain⟨z,hz,rfl⟩:=h5
  rw[hy]at hz;injection hz with hz;subst hz
  have:=zgO h4
  subst this
  exact .inr ⟨j,_,hj,List.mem_of_getElem? hy⟩
def kz(t:qV)(st:List (Q6×Int)×List Int)(r:Nat):List (Q6×Int)×List Int:=
 if(∀x∈st.1,x.1≠t.par r)∧J7 t r=false then(st.1++[(t.par r,(r:Int))],ki (t.par r).b st.2)else st
def QA(f n:Nat):List Nat:=(List.range n).map (f+·)
theorem zao(f n:Nat):QA f (n+1)=QA f n++[f+n]:=by simp[QA,List.range_succ]
def kX(t:qV)(st:List (Q6×Int)×List Int)(s:Span):List (Q6×Int)×List Int:=(QA s.f.toNat (s.t.toNat+1-s.f.toNat)).foldl (kz t) st
theorem zey {α:Type}(zero:α)(j:Int):∀l:List (Z3 α),qG zero j l=zero∨∃p∈l,qG zero j l=p.v
 | []=>.inl rfl
 |p::l=>by
  simp only[qG]
  split
  ·exact .inr ⟨p,by simp,rfl⟩
  ·rcases zey zero j l with h|⟨q,hq,h⟩
   ·exact .inl h
   ·exact .inr ⟨q,by simp[hq],h⟩
theorem zdh [Gi](l:List Row)(hn:l.length<2^31)(h1:Zi l 1)(h2:Zi l 2)(h3:Zi l 3)(h4:Zi l 4)(h5:Zi l 5)(h6:Zi l 6)(h7:Zi l 7)(h8:Zi l 8)
  (hp:∀s∈qd l 2,0≤s.a∧s.a<1114112∧0≤s.b∧s.b<1114112):
  CR Tryz.prog 7 [] [.p (zU l)] [] (fun x rs=>∃c b j f p,WO (qL l) c b j f p∧x=.lp [25] 0∧rs=[([25],[.p c,.p b,.p j,.p f,.p p,.om [22] (ckP ((qd l 2).foldl (kX (qL l)) ([],[])).1) (cxP ((qd l 2).foldl (kX (qL l)) ([],[])).1),.om [23] (QD ((qd l 2).foldl (kX (qL l)) ([],[])).2) (qq ((qd l 2).foldl (kX (qL l)) ([],[])).2)])]):=by
 refine zR [200017,200019] mixed 14 [28,29,30,56,57,58] Tryz.func7 rfl (by kernel_rfl) rfl (by simp) (by simp) ?_
 simp (maxSteps:=1000000) [go_sem,Tryz.f7]
 refine⟨⟨rfl,by simp[Tryz.f27]⟩,zd [] (h1.num hn) (by simp[go_sem]) ⟨by simp[go_sem],by simp[go_sem]⟩ (by simp[go_sem]) ?_⟩
 rintro _ rs ⟨rfl,c,rfl,hc⟩
 simp (maxSteps:=1000000) [go_sem]
 refine⟨⟨rfl,by simp[Tryz.f27]⟩,zd [] (h4.num hn) (by simp[go_sem]) ⟨by simp[go_sem],by simp[go_sem]⟩ (by simp[go_sem]) ?_⟩
 rintro _ rs ⟨rfl,b,rfl,hb⟩
 simp (maxSteps:=1000000) [go_sem]
 refine⟨⟨rfl,by simp[Tryz.f27]⟩,zd [] (h6.num hn) (by simp[go_sem]) ⟨by simp[go_sem],by simp[go_sem]⟩ (by simp[go_sem]) ?_⟩
 rintro _ rs ⟨rfl,j,rfl,hj⟩
 simp (maxSteps:=1000000) [go_sem]
 refine⟨⟨rfl,by simp[Tryz.f28]⟩,zd [] (zgM l hn h5 h7 h8 h3) (by simp[go_sem]) ⟨by simp[go_sem],by simp[go_sem]⟩ (by simp[go_sem]) ?_⟩
 rintro _ rs ⟨rfl,f,rfl,hf⟩
 obtain⟨ci,cb,rfl,hc⟩:=hc
 obtain⟨bi,bb,rfl,hb⟩:=hb
 obtain⟨ji,jb,rfl,hj⟩:=hj
 obtain⟨fi,fb,rfl,hf⟩:=hf
 simp (maxSteps:=1000000) [go_sem]
 refine⟨⟨rfl,rfl⟩,⟨rfl,by simp[Tryz.f29]⟩,zd [] (Y3 l 2 h2.rise h2.b hn h2.n) (by simp[go_sem]) ⟨by simp[go_sem],by simp[go_sem]⟩ (by simp[go_sem]) ?_⟩
 rintro _ rs ⟨rfl,rfl⟩
 have hn2:=h2.nJ
 have hr2:=h2.riseJ
 have hb2:=h2.bJ
 have hpl:∀i:Nat,(qL l).par i=qG ⟨0,0⟩ i ((qd l 2).map kI):=fun _=>rfl
 generalize hJ:Zx (zH l 2)=J
 have hJ':qd l 2=J:=hJ
 rw[hJ']at hn2 hr2 hb2 hp
 simp only[hJ']at hpl⊢
 obtain⟨M,hM⟩:∃M,M=J.map fun s=>uA (kI s):=⟨_,rfl⟩
 have hMl:M.length=J.length:=by rw[hM];simp
 simp (maxSteps:=1000000) [go_sem,zB]
 refine zE (fun i:Nat=>i≤J.length) (fun i=>[(4,.os [4] 4 (M.take i)),(30,.p (.int .i64 i))]) (fun _=>[]) (fun i=>J.length-i) 0 (by omega) (by simp[go_sem,LeS,leV,leR,leA,leL]) (fun i hi=>?_)
 simp (maxSteps:=1000000) [go_sem]
 refine zt (fun h=>?_) (fun h=>?_)
 ·have hil:i<J.length:=by omega
  have em:=zp zT J i hil
  have w1:IntKind.i64.wrap ((i:Int)+1)=((i+1:Nat):Int):=by rw[wrap64 (by omega) (by omega)];rfl
  have htake:M.take (i+1)=M.take i++[uA (kI J[i])]:=by
   rw[List.take_add_one,hM,List.getElem?_map,List.getElem?_eq_getElem hil];rfl
  have hle:(M.take i).length≤256:=by rw[List.length_take];omega
  have hab:=hp J[i] (List.getElem_mem _)
  generalize J[i]=r at em htake hab
  have w2:IntKind.i32.wrap r.a=r.a:=by simp[IntKind.wrap,IntKind.signed,IntKind.bits];omega
  have w3:IntKind.i32.wrap r.b=r.b:=by simp[IntKind.wrap,IntKind.signed,IntKind.bits];omega
  simp (maxSteps:=1000000) [go_sem,em,h,zT,w1,w2,w3]
  refine⟨by rw[List.length_take]at hle;omega,zg (i+1) (by omega) (by simp[go_sem,LeS,leV,leR,leA,leL,htake,uA,kI,qA]) (by omega)⟩
 have hil:i=J.length:=by omega
 subst hil
 have hall:M.take J.length=(J.map kI).map uA:=by rw[←hMl,List.take_length,hM,List.map_map];rfl
 rw[hall]
 simp (maxSteps:=1000000) [go_sem]
 refine⟨⟨rfl,by simp[Tryz.f30]⟩,zd [] (zgP (J.map kI) 1114112 (by omega) (by omega) (by simp;omega) (fun p hp'=>?_)) (by simp[go_sem]) ⟨by simp[go_sem],by simp[go_sem,yM]⟩ (by simp[go_sem]) ?_⟩
 ·obtain⟨s,hs,rfl⟩:=List.mem_map.1 hp'
  have:=hb2 s hs
  have:=hr2.le s hs
  simp only[kI]
  omega
 rintro _ rs ⟨rfl,e,rfl,pi,pb,rfl,hpp⟩
 simp (maxSteps:=1000000) [go_sem]
 have hT:WO (qL l) (.pt 3 (Qm 1 1114112 ci cb)) (.pt 3 (Qm 1 1114112 bi bb)) (.pt 3 (Qm 1 1114112 ji jb)) (.pt 3 (Qm 4 1114112 fi fb)) (.pt 3 (Qm 2 1114112 pi pb)):=
  ⟨⟨ci,cb,rfl,hc⟩,⟨bi,bb,rfl,hb⟩,⟨ji,jb,rfl,hj⟩,⟨fi,fb,rfl,hf⟩,⟨pi,pb,rfl,fun i hi=>by have e:=hpp i hi;rw[←hJ']at e;exact e⟩⟩
 generalize PV.pt 3 (Qm 1 1114112 ci cb)=c at hT
 generalize PV.pt 3 (Qm 1 1114112 bi bb)=b at hT
 generalize PV.pt 3 (Qm 1 1114112 ji jb)=j at hT
 generalize PV.pt 3 (Qm 4 1114112 fi fb)=f at hT
 generalize PV.pt 3 (Qm 2 1114112 pi pb)=p at hT
 have hpr:∀i:Nat,0≤((qL l).par i).a∧((qL l).par i).a<1114112:=fun i=>by
  rw[hpl]
  rcases zey (⟨0,0⟩:Q6) i (J.map kI)with h|⟨q,hq,h⟩
  ·rw[h];decide
  ·rw[h]
   obtain⟨x,hx,rfl⟩:=List.mem_map.1 hq
   have:=hp x hx
   exact⟨this.1,this.2.1⟩
 generalize qL l=t at hT hpr⊢
 clear hpp hpl hc hb hj hf hall
 have cells:∀a b c d:List PV,True:=fun _ _ _ _=>trivial
 refine zE (fun i:Nat=>i≤J.length) (fun i=>[(58,.p (.int .i64 i))]) (fun i=>[([25],[.p c,.p b,.p j,.p f,.p p,.om [22] (ckP ((J.take i).foldl (kX t) ([],[])).1) (cxP ((J.take i).foldl (kX t) ([],[])).1),.om [23] (QD ((J.take i).foldl (kX t) ([],[])).2) (qq ((J.take i).foldl (kX t) ([],[])).2)])]) (fun i=>J.length-i) 0 (by omega) (by simp[go_sem,LeS,leV,leR,leA,leL,ckP,cxP,QD,qq]) (fun i hi=>?_)
 simp (maxSteps:=1000000) [go_sem]
 refine zt (fun h=>?_) (fun h=>?_)
 ·have hil:i<J.length:=by omega
  have em:=zp zT J i hil
  have w1:IntKind.i64.wrap ((i:Int)+1)=((i+1:Nat):Int):=by rw[wrap64 (by omega) (by omega)];rfl
  have htk:(J.take (i+1)).foldl (kX t) ([],[])=kX t ((J.take i).foldl (kX t) ([],[])) J[i]:=by
   rw[List.take_add_one,List.getElem?_eq_getElem hil,List.foldl_append];rfl
  have hs2:=hb2 J[i] (List.getElem_mem _)
  have hs3:=hr2.le J[i] (List.getElem_mem _)
  generalize J[i]=s at em htk hs2 hs3
  generalize (J.take i).foldl (kX t) ([],[])=st at htk
  obtain⟨sf,sz,sa,sb⟩:=s
  simp only at hs2 hs3
  obtain⟨f0,rfl⟩:=Int.eq_ofNat_of_zero_le hs2.1
  obtain⟨t0,rfl⟩:=Int.eq_ofNat_of_zero_le (Int.le_trans hs2.1 hs3)
  have w2:IntKind.i32.wrap (f0:Int)=f0:=by simp[IntKind.wrap,IntKind.signed,IntKind.bits];omega
  simp (maxSteps:=1000000) [go_sem,em,h,zT,w2]
  refine zE (fun k:Nat=>f0+k≤t0+1) (fun k=>[(10,.p (.int .i32 ((f0+k:Nat):Int)))]) (fun k=>[([25],[.p c,.p b,.p j,.p f,.p p,.om [22] (ckP ((QA f0 k).foldl (kz t) st).1) (cxP ((QA f0 k).foldl (kz t) st).1),.om [23] (QD ((QA f0 k).foldl (kz t) st).2) (qq ((QA f0 k).foldl (kz t) st).2)])]) (fun k=>t0+1-f0-k) 0 (by omega) (by simp[go_sem,LeS,leV,leR,leA,leL,QA]) (fun k hk=>?_)
  obtain⟨r,hr⟩:∃r,r=f0+k:=⟨_,rfl⟩
  have hstep:=zao f0 k
  have w3:IntKind.i64.wrap (r:Int)=r:=wrap64 (by omega) (by omega)
  have w4:IntKind.i32.wrap ((r:Int)+1)=((r+1:Nat):Int):=by simp[IntKind.wrap,IntKind.signed,IntKind.bits];omega
  have ek:(f0:Int)+((k:Int)+1)=(r:Int)+1:=by omega
  simp only[←hr]at hstep⊢
  simp (maxSteps:=1000000) [go_sem,w3]
  refine zt (fun h5=>?_) (fun h5=>?_)
  ·have hstep2:(QA f0 (k+1)).foldl (kz t) st=kz t ((QA f0 k).foldl (kz t) st) r:=by rw[hstep,List.foldl_append];rfl
   generalize (QA f0 k).foldl (kz t) st=sk at hstep2
   obtain⟨q,hq⟩:∃q,t.par r=q:=⟨_,rfl⟩
   simp (maxSteps:=1000000) [go_sem,w3]
   refine⟨⟨rfl,by simp[Tryz.f31]⟩,zd [] (YR hT.p (by omega) (i:=r) (by omega)) (by simp[go_sem]) ⟨by simp[go_sem],by simp[go_sem]⟩ (by simp[go_sem]) ?_⟩
   rintro _ rs ⟨rfl,rfl⟩
   rw[hq]
   rcases ckP_find q sk.1 with ⟨hf1,hf2⟩|⟨jj,x,hf1,hf2⟩
   ·simp (maxSteps:=1000000) [go_sem,qA]
    refine Qr zjO (by kernel_rfl) ?_
    simp only[qA]at hf1
    simp (maxSteps:=1000000) [go_sem,zjO,Zk,mapOf,jo,hf1]
    refine⟨ckP_key _,⟨rfl,by simp[Tryz.f32]⟩,zd [([0],[25]),([901],[22]),([902],[23])] (zjq hT (ckP sk.1) (cxP sk.1) (QD sk.2) (qq sk.2) (i:=r) (by omega) (hpr r)) (by simp[go_sem,zM]) ⟨by simp[go_sem],by simp[go_sem]⟩ (by simp[go_sem,yR]) ?_⟩
    rintro _ rs ⟨rfl,rfl⟩
    cases ho:J7 t r with
    |true=>
     have hs1:kz t sk r=sk:=by unfold kz;rw[if_neg (fun h=>by rw[ho]at h;simp at h)]
     simp (maxSteps:=1000000) [go_sem,yR,w4]
     exact zg (k+1) (by omega) (by simp[go_sem,LeS,leV,leR,leA,leL,hstep2,hs1,ek]) (by omega)
    |false=>
     have hs1:kz t sk r=(sk.1++[(q,(r:Int))],ki q.b sk.2):=by unfold kz;rw[if_pos ⟨by rw[hq];exact hf2,ho⟩,hq]
     simp (maxSteps:=1000000) [go_sem,yR]
     refine Qr zlT (by kernel_rfl) ?_
     have l1:(ckP sk.1).length=(cxP sk.1).length:=by simp[ckP,cxP]
     have l2:(QD sk.2).length=(qq sk.2).length:=by simp[QD,qq]
     have e1:=zbK l1 (.int .i32 0) (.int .i32 r)
     have e2:=zbK l2 (.bool false) (.bool true)
     have e3:ckP sk.1++[.agg [.int .i32 q.a,.int .i32 q.b]]=ckP (sk.1++[(q,(r:Int))]):=by simp[ckP,qA]
     have e4:cxP sk.1++[.int .i32 (r:Int)]=cxP (sk.1++[(q,(r:Int))]):=by simp[cxP]
     have l3:(ckP sk.1).length< (cxP sk.1).length+1:=by omega
     have l4:(QD sk.2).length< (qq sk.2).length+1:=by omega
     rcases zdR q.b sk.2 with ⟨g1,g2⟩|⟨j2,g1,g2,g3,g4⟩
     ·have e5:QD sk.2++[.int .i32 q.b]=QD (ki q.b sk.2):=by rw[g2];simp[QD]
      have e6:qq sk.2++[.bool true]=qq (ki q.b sk.2):=by rw[g2];simp[qq]
      simp (maxSteps:=1000000) [go_sem,zlT,hf1,g1,e1,e2,l3,l4]
      exact⟨ckP_key _,YS _,zg (k+1) (by omega) (by simp[go_sem,LeS,leV,leR,leA,leL,hstep2,hs1,ek,w4,←e3,←e4,←e5,←e6]) (by omega)⟩
     ·simp (maxSteps:=1000000) [go_sem,zlT,hf1,g1,e1,g3,g4,l3]
      exact⟨ckP_key _,YS _,zg (k+1) (by omega) (by simp[go_sem,LeS,leV,leR,leA,leL,hstep2,hs1,ek,w4,←e3,←e4,g2]) (by omega)⟩
   ·have hs1:kz t sk r=sk:=by unfold kz;rw[if_neg (fun h=>h.1 _ hf2 hq.symm)]
    simp (maxSteps:=1000000) [go_sem,qA]
    refine Qr zjO (by kernel_rfl) ?_
    simp only[qA]at hf1
    simp (maxSteps:=1000000) [go_sem,zjO,Zk,mapOf,jo,hf1,w4]
    exact⟨ckP_key _,zg (k+1) (by omega) (by simp[go_sem,LeS,leV,leR,leA,leL,hstep2,hs1,ek]) (by omega)⟩
  ·have hk2:k=t0+1-f0:=by omega
   simp (maxSteps:=1000000) [go_sem,w1]
   have hfin:kX t st ⟨f0,t0,sa,sb⟩=(QA f0 k).foldl (kz t) st:=by simp[kX,hk2]
   exact zg (i+1) (by omega) (by simp[go_sem,LeS,leV,leR,leA,leL,htk,hfin]) (by omega)
 ·obtain rfl:i=J.length:=by omega
  simp (maxSteps:=1000000) [go_sem]
  exact zu [[25]] (.lp [25] 0) ⟨rfl,by simp⟩ (by simp[go_sem,zf,leA,leT]) ⟨c,b,j,f,p,hT,rfl,by simp[go_sem]⟩
def made(l:List Row):List (Q6×Int)×List Int:=(qd l 2).foldl (kX (qL l)) ([],[])
theorem zhJ [Gi](l:List Row)(hn:l.length<2^31)(h1:Zi l 1)(h2:Zi l 2)(h3:Zi l 3)(h4:Zi l 4)(h5:Zi l 5)(h6:Zi l 6)(h7:Zi l 7)(h8:Zi l 8)
  (hp:∀s∈qd l 2,0≤s.a∧s.a<1114112∧0≤s.b∧s.b<1114112):
  CR Tryz.prog 7 [] [.p (zU l)] [] (fun x rs=>rs=[]∧∃c b j f p,WO (qL l) c b j f p∧x=.p (jE c b j f p (ckP (made l).1) (cxP (made l).1) (QD (made l).2) (qq (made l).2))):=by
 refine CR.zkb (zdh l hn h1 h2 h3 h4 h5 h6 h7 h8 hp) ?_
 rintro x rs ⟨c,b,j,f,p,hT,rfl,rfl⟩
 exact⟨_,zj0 rfl rfl,rfl,c,b,j,f,p,hT,rfl⟩
end Go.Proofs.YtcgfdhdcihmeeaaGreat
end
section
namespace Go.Proofs.YtcgfdhdcihmeeaaGreat
open Go.AM
set_option maxHeartbeats 4000000
set_option maxRecDepth 10000
end Go.Proofs.YtcgfdhdcihmeeaaGreat
end
