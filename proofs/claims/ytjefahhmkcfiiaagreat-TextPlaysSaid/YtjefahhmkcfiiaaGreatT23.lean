/- A part of the proof of this seat's statements, by an abstract machine: what each operation does to values, and what the law's functions compute. Conditions: as each law says. -/
import Derived.Test.YtjefahhmkcfiiaaGreatT21
import Derived.Test.YtjefahhmkcfiiaaGreatT22
import Derived.Test.YtjefahhmkcfiiaaGreatT20
section
namespace Go.Proofs.YtjefahhmkcfiiaaGreat
open Go.AM
set_option maxHeartbeats 4000000
set_option maxRecDepth 10000
def qt(l:List Row)(k:Int):List Span:=Qk (zU l k)
structure Z1(l:List Row)(k:Int):Prop where
 rise:Ze (zU l k)
 b:∀s∈zU l k, -1000000000≤s.t∧s.t≤1000000000
 n:(zU l k).length<256
 riseJ:Ze (qt l k)
 bJ:∀s∈qt l k,0≤s.f∧s.t≤1114111
 nJ:(qt l k).length<256
theorem xU {l:List Span} {c:Int} {s:Span}(h:atL l c=some s):qV l c=decide (s.a=1):=by
 simp only[qV,h];by_cases e:s.a=1<;>simp[e]
theorem x8 {l:List Span} {c:Int}(h:atL l c=none):qV l c=false:=by simp only[qV,h]
theorem zac(A B C D:List Span)(c:Int):(QV A B C D c !=xG)=(qV A c || (qV B c || (qV C c || qV D c))):=by
 simp only[QV,xG]
 cases qV A c<;>cases qV B c<;>cases qV C c<;>cases qV D c<;>rfl
def zco:PV:=.opq (.slice none 0 0)
theorem ziq [Gi](l:List Row)(hn:l.length<2^31)(h5:Z1 l 5)(h7:Z1 l 7)(h8:Z1 l 8)(h3:Z1 l 3):
  CR Tryz.prog 66 [] [.p (zK l)] [] (fun x rs=>rs=[]∧∃e,x=.p e∧yG 4 1114112 (fun j=>qF (QV (qt l 5) (qt l 7) (qt l 8) (qt l 3) j)) e):=by
 refine zS [23] mixed 16 [17,18,29,30,31,35,36] Tryz.func66 rfl (by kernel_rfl) rfl (by simp) (by simp) ?_
 simp (maxSteps:=1000000) [go_sem,Tryz.f66]
 have hw:∀x:Int,0≤x→x≤4→IntKind.i64.wrap x=x:=fun x h1 h2=>wrap64 (by omega) (by omega)
 have w1:=hw 1 (by omega) (by omega)
 have w2:=hw 2 (by omega) (by omega)
 have w3:=hw 3 (by omega) (by omega)
 have w4:=hw 4 (by omega) (by omega)
 obtain⟨A,eA⟩:∃A,A=qt l 5:=⟨_,rfl⟩
 obtain⟨B,eB⟩:∃A,A=qt l 7:=⟨_,rfl⟩
 obtain⟨C,eC⟩:∃A,A=qt l 8:=⟨_,rfl⟩
 obtain⟨D,eD⟩:∃A,A=qt l 3:=⟨_,rfl⟩
 refine⟨rfl,zj (fun i:Nat=>i≤4) (fun i=>[(18,.p (.int .i64 (i:Nat)))]) (fun i=>[([4],[.p (if 0<i then zR A else zco),.p (if 1<i then zR B else zco),.p (if 2<i then zR C else zco),.p (if 3<i then zR D else zco)])]) (fun i=>4-i) 0 (by omega) (by simp[go_sem,LeS,leV,leR,leA,leL,zco]) (fun i hi=>?_)⟩
 have hi':i=0∨i=1∨i=2∨i=3∨i=4:=by omega
 rcases hi' with rfl|rfl|rfl|rfl|rfl
 ·simp (maxSteps:=1000000) [go_sem]
  refine⟨⟨rfl,by simp[Tryz.f67]⟩,zb [] (zbB l 5 h5.rise h5.b hn h5.n) (by simp[go_sem]) ⟨by simp[go_sem],by simp[go_sem]⟩ (by simp[go_sem]) ?_⟩
  rintro _ rs ⟨rfl,rfl⟩
  simp (maxSteps:=1000000) [go_sem,zR,zco,w1]
  exact zf 1 (by omega) (by simp[go_sem,LeS,leV,leR,leA,leL,eA,qt]) (by omega)
 ·simp (maxSteps:=1000000) [go_sem]
  refine⟨⟨rfl,by simp[Tryz.f67]⟩,zb [] (zbB l 7 h7.rise h7.b hn h7.n) (by simp[go_sem]) ⟨by simp[go_sem],by simp[go_sem]⟩ (by simp[go_sem]) ?_⟩
  rintro _ rs ⟨rfl,rfl⟩
  simp (maxSteps:=1000000) [go_sem,zR,zco,w2]
  exact zf 2 (by omega) (by simp[go_sem,LeS,leV,leR,leA,leL,eB,qt]) (by omega)
 ·simp (maxSteps:=1000000) [go_sem]
  refine⟨⟨rfl,by simp[Tryz.f67]⟩,zb [] (zbB l 8 h8.rise h8.b hn h8.n) (by simp[go_sem]) ⟨by simp[go_sem],by simp[go_sem]⟩ (by simp[go_sem]) ?_⟩
  rintro _ rs ⟨rfl,rfl⟩
  simp (maxSteps:=1000000) [go_sem,zR,zco,w3]
  exact zf 3 (by omega) (by simp[go_sem,LeS,leV,leR,leA,leL,eC,qt]) (by omega)
 ·simp (maxSteps:=1000000) [go_sem]
  refine⟨⟨rfl,by simp[Tryz.f67]⟩,zb [] (zbB l 3 h3.rise h3.b hn h3.n) (by simp[go_sem]) ⟨by simp[go_sem],by simp[go_sem]⟩ (by simp[go_sem]) ?_⟩
  rintro _ rs ⟨rfl,rfl⟩
  simp (maxSteps:=1000000) [go_sem,zR,zco,w4]
  exact zf 4 (by omega) (by simp[go_sem,LeS,leV,leR,leA,leL,eD,qt]) (by omega)
 ·simp (maxSteps:=1000000) [go_sem]
  have hl:∀m∈[A,B,C,D],m.length<256:=by
   intro m hm
   simp only[List.mem_cons,List.not_mem_nil,or_false]at hm
   rcases hm with rfl|rfl|rfl|rfl
   ·rw[eA];exact h5.nJ
   ·rw[eB];exact h7.nJ
   ·rw[eC];exact h8.nJ
   ·rw[eD];exact h3.nJ
  have hR:∀m∈[A,B,C,D],Ze m:=by
   intro m hm
   simp only[List.mem_cons,List.not_mem_nil,or_false]at hm
   rcases hm with rfl|rfl|rfl|rfl
   ·rw[eA];exact h5.riseJ
   ·rw[eB];exact h7.riseJ
   ·rw[eC];exact h8.riseJ
   ·rw[eD];exact h3.riseJ
  have hB:∀m∈[A,B,C,D],∀s∈m,0≤s.f∧s.t≤1114111:=by
   intro m hm
   simp only[List.mem_cons,List.not_mem_nil,or_false]at hm
   rcases hm with rfl|rfl|rfl|rfl
   ·rw[eA];exact h5.bJ
   ·rw[eB];exact h7.bJ
   ·rw[eC];exact h8.bJ
   ·rw[eD];exact h3.bJ
  refine⟨⟨rfl,by simp[Tryz.f110]⟩,zb [([0],[4])] (zok [A,B,C,D] (by simp) hl (fun m hm s hs=>?_)) (by simp[go_sem,zH]) ⟨by simp[go_sem],by simp[go_sem]⟩ (by simp[go_sem]) ?_⟩
  ·have:=hB m hm s hs
   have:=(hR m hm).le s hs
   omega
  rintro _ _ ⟨rfl,at_,rfl,c1,c2,c3,c4⟩
  simp (maxSteps:=1000000) [go_sem]
  have hat:∀c∈at_,0≤c∧c≤1114112:=fun c hc=>by
   rcases c3 c hc with rfl|⟨m,hm,q,hq,h⟩
   ·omega
   ·have:=hB m hm q hq
    have:=(hR m hm).le q hq
    omega
  refine zj (fun i:Nat=>i≤at_.length) (fun i=>[(31,.p (.int .i64 (i:Nat))),(7,.os [7] 6 ((kz A B C D (at_.take i)).map YS))]) (fun _=>[]) (fun i=>at_.length-i) 0 (by omega) (by simp[go_sem,LeS,leV,leR,leA,leL,kz]) (fun i hi=>?_)
  simp (maxSteps:=1000000) [go_sem]
  refine zA (fun h=>?_) (fun h=>?_)
  ·have hil:i<at_.length:=by omega
   have wi:IntKind.i64.wrap ((i:Int)+1)=((i+1:Nat):Int):=by rw[wrap64 (by omega) (by omega)];rfl
   have em:=zr (fun k=>PV.int .i64 k) at_ i hil
   have hc:=hat at_[i] (List.getElem_mem _)
   have htk:kz A B C D (at_.take (i+1))=kz A B C D (at_.take i)++(if QV A B C D at_[i] !=xG then [vB A B C D at_[i]]else []):=by
    rw[List.take_add_one,List.getElem?_eq_getElem hil]
    simp only[kz,List.filter_append,List.map_append,Option.toList_some]
    by_cases hz:(QV A B C D at_[i] !=xG)=true<;>simp[hz]
   have hlen:(kz A B C D (at_.take i)).length≤10000:=by
    have h1:=List.length_filter_le (fun a=>QV A B C D a !=xG) (at_.take i)
    simp only[kz,List.length_map]
    rw[List.length_take]at h1
    omega
   generalize at_[i]=c at em hc htk
   have w5:IntKind.i32.wrap c=c:=by simp[IntKind.wrap,IntKind.signed,IntKind.bits];omega
   simp (maxSteps:=1000000) [go_sem,em,hil]
   refine zj (fun k:Nat=>k≤4) (fun k=>[(36,.p (.int .i64 (k:Nat))),(11,.p (.int .i64 (wo c 1114111 ([A,B,C,D].take k))))]) (fun k=>[([10],[.p (.bool (decide (0<k)&&qV A c)),.p (.bool (decide (1<k)&&qV B c)),.p (.bool (decide (2<k)&&qV C c)),.p (.bool (decide (3<k)&&qV D c))])]) (fun k=>4-k) 0 (by omega) (by simp[go_sem,LeS,leV,leR,leA,leL,wo,zR]) (fun k hk=>?_)
   have hk':k=0∨k=1∨k=2∨k=3∨k=4:=by omega
   rcases hk' with rfl|rfl|rfl|rfl|rfl
   ·simp (maxSteps:=1000000) [go_sem,w5,zR]
    refine⟨⟨rfl,by simp[Tryz.f111]⟩,zb [] (zhv A c (by omega) (hR A (by simp)) (by have:=hl A (by simp);omega)) (by simp[go_sem]) ⟨by simp[go_sem],by simp[go_sem,zR]⟩ (by simp[go_sem]) ?_⟩
    rintro _ rs ⟨rfl,rfl⟩
    cases ha:atL A c with
    |none=>
     have hf:=x8 ha
     simp (maxSteps:=1000000) [go_sem,atA,qn,w1]
     exact zf 1 (by omega) (by simp[go_sem,LeS,leV,leR,leA,leL,wo,ha,hf]) (by omega)
    |some s=>
     have hf:=xU ha
     simp (maxSteps:=1000000) [go_sem,atA,qn,w1]
     exact zf 1 (by omega) (by simp[go_sem,LeS,leV,leR,leA,leL,wo,ha,hf]) (by omega)
   ·simp (maxSteps:=1000000) [go_sem,w5,zR]
    refine⟨⟨rfl,by simp[Tryz.f111]⟩,zb [] (zhv B c (by omega) (hR B (by simp)) (by have:=hl B (by simp);omega)) (by simp[go_sem]) ⟨by simp[go_sem],by simp[go_sem,zR]⟩ (by simp[go_sem]) ?_⟩
    rintro _ rs ⟨rfl,rfl⟩
    cases ha:atL B c with
    |none=>
     have hf:=x8 ha
     simp (maxSteps:=1000000) [go_sem,atA,qn,w2]
     exact zf 2 (by omega) (by simp[go_sem,LeS,leV,leR,leA,leL,wo,ha,hf]) (by omega)
    |some s=>
     have hf:=xU ha
     simp (maxSteps:=1000000) [go_sem,atA,qn,w2]
     exact zf 2 (by omega) (by simp[go_sem,LeS,leV,leR,leA,leL,wo,ha,hf]) (by omega)
   ·simp (maxSteps:=1000000) [go_sem,w5,zR]
    refine⟨⟨rfl,by simp[Tryz.f111]⟩,zb [] (zhv C c (by omega) (hR C (by simp)) (by have:=hl C (by simp);omega)) (by simp[go_sem]) ⟨by simp[go_sem],by simp[go_sem,zR]⟩ (by simp[go_sem]) ?_⟩
    rintro _ rs ⟨rfl,rfl⟩
    cases ha:atL C c with
    |none=>
     have hf:=x8 ha
     simp (maxSteps:=1000000) [go_sem,atA,qn,w3]
     exact zf 3 (by omega) (by simp[go_sem,LeS,leV,leR,leA,leL,wo,ha,hf]) (by omega)
    |some s=>
     have hf:=xU ha
     simp (maxSteps:=1000000) [go_sem,atA,qn,w3]
     exact zf 3 (by omega) (by simp[go_sem,LeS,leV,leR,leA,leL,wo,ha,hf]) (by omega)
   ·simp (maxSteps:=1000000) [go_sem,w5,zR]
    refine⟨⟨rfl,by simp[Tryz.f111]⟩,zb [] (zhv D c (by omega) (hR D (by simp)) (by have:=hl D (by simp);omega)) (by simp[go_sem]) ⟨by simp[go_sem],by simp[go_sem,zR]⟩ (by simp[go_sem]) ?_⟩
    rintro _ rs ⟨rfl,rfl⟩
    cases ha:atL D c with
    |none=>
     have hf:=x8 ha
     simp (maxSteps:=1000000) [go_sem,atA,qn,w4]
     exact zf 4 (by omega) (by simp[go_sem,LeS,leV,leR,leA,leL,wo,ha,hf]) (by omega)
    |some s=>
     have hf:=xU ha
     simp (maxSteps:=1000000) [go_sem,atA,qn,w4]
     exact zf 4 (by omega) (by simp[go_sem,LeS,leV,leR,leA,leL,wo,ha,hf]) (by omega)
   ·simp (maxSteps:=1000000) [go_sem]
    refine qv (fun hz=>?_) (fun hz=>?_)
    ·simp (maxSteps:=1000000) [go_sem]
     refine zN (.p (.int .i64 (QB c (wo c 1114111 [A,B,C,D]) [A,B,C,D].flatten))) rfl rfl (fun _=>zM 112 (zma [A,B,C,D] c (wo c 1114111 [A,B,C,D]) rfl hl (fun m hm s hs=>?_)) rfl ⟨rfl,by simp[Tryz.f112]⟩ ⟨by simp[go_sem],by simp[go_sem,zfJ]⟩) ?_
     ·have:=hB m hm s hs
      have:=(hR m hm).le s hs
      omega
     simp (maxSteps:=1000000) [go_sem,wi]
     rw[zac,if_pos hz]at htk
     exact⟨by omega,zf (i+1) (by omega) (by simp[go_sem,LeS,leV,leR,leA,leL,htk,YS,qF,QV,vB]) (by omega)⟩
    ·simp (maxSteps:=1000000) [go_sem,wi]
     rw[zac,if_neg (by simp[hz]),List.append_nil]at htk
     exact zf (i+1) (by omega) (by simp[go_sem,LeS,leV,leR,leA,leL,htk]) (by omega)
  ·obtain rfl:i=at_.length:=by omega
   simp (maxSteps:=1000000) [go_sem]
   have hpl:(kz A B C D at_).length≤10000:=by
    have h1:=List.length_filter_le (fun a=>QV A B C D a !=xG) at_
    simp only[kz,List.length_map]
    omega
   refine⟨⟨rfl,by simp[Tryz.f113]⟩,zb [] (zi2 (kz A B C D at_) 1114112 (by omega) (by omega) (by omega) (fun p hp=>?_)) (by simp[go_sem]) ⟨by simp[go_sem],by simp[go_sem,xZ]⟩ (by simp[go_sem]) ?_⟩
   ·obtain⟨a,ha,rfl⟩:=List.mem_map.1 hp
    have:=hat a (List.mem_filter.1 ha).1
    simp only[vB]
    omega
   rintro _ rs ⟨rfl,e,rfl,idx,blocks,rfl,he⟩
   simp (maxSteps:=1000000) [go_sem]
   refine zi [] (.p (.pt 3 (QY 4 1114112 idx blocks))) ⟨rfl,by simp⟩ (by simp[go_sem,zd,leA,leT]) ⟨by simp[go_sem],_,rfl,idx,blocks,rfl,fun j hj=>?_⟩
   have hl4:=zgq (hR A (by simp)) (hR B (by simp)) (hR C (by simp)) (hR D (by simp)) c1 c2 (j:=j) (by omega) (by omega)
   simp only[xG]at hl4
   show zbf 4 idx blocks j (qF (QV (qt l 5) (qt l 7) (qt l 8) (qt l 3) j))
   rw[←eA,←eB,←eC,←eD,←hl4]
   exact he j hj
end Go.Proofs.YtjefahhmkcfiiaaGreat
end
section
namespace Go.Proofs.YtjefahhmkcfiiaaGreat
open Go.AM
set_option maxHeartbeats 4000000
set_option maxRecDepth 10000
structure zV where
 cls:Nat→Int
 brk:Nat→Int
 cnj:Nat→Int
 flg:Nat→Flags
 par:Nat→Zh
structure QS(t:zV)(c b j f p:PV):Prop where
 c:yG 1 1114112 (fun i=>[.int .i64 (t.cls i)]) c
 b:yG 1 1114112 (fun i=>[.int .i64 (t.brk i)]) b
 j:yG 1 1114112 (fun i=>[.int .i64 (t.cnj i)]) j
 f:yG 4 1114112 (fun i=>qF (t.flg i)) f
 p:yG 2 1114112 (fun i=>qu (t.par i)) p
def wu(c b j f p:PV)(ck cx sk sx:List PV):List AV:=[.p c,.p b,.p j,.p f,.p p,.om [901] ck cx,.om [902] sk sx]
def zF(c b j f p:PV)(ck cx sk sx:List PV):PV:=.pt 7 (.agg [c,b,j,f,p,.mp ck cx,.mp sk sx])
def V8(q:Zh):AV:=.tup [.p (.int .i32 q.a),.p (.int .i32 q.b),.p (.bool (!decide (q.a=0) ||!decide (q.b=0)))]
theorem Y7 [Gi] {t:zV} {c b j f p:PV}(h:QS t c b j f p)(ck cx sk sx:List PV) {i:Nat}(hi:i<1114112):
  CR Tryz.prog 124 [[0]] [.lp [0] 0,.p (.int .i32 i)] [([0],wu c b j f p ck cx sk sx)] (fun x rs=>x=.p (.int .i64 (t.cls i))∧rs=[([0],wu c b j f p ck cx sk sx)]):=by
 have w1:IntKind.i64.wrap (i:Int)=i:=wrap64 (by omega) (by omega)
 refine zm mixed 5 [] Tryz.func124 rfl (by kernel_rfl) rfl (by simp) (by simp) ?_
 obtain⟨_,_,e,_⟩:=id h.c
 simp (maxSteps:=1000000) [go_sem,Tryz.f124,wu,w1]
 refine⟨⟨rfl,by simp[Tryz.f170]⟩,zb [] (zbW h.c (by omega) hi) (by simp[go_sem,zH]) ⟨by simp[go_sem],by simp[go_sem]⟩ (by simp[go_sem]) ?_⟩
 rintro _ rs ⟨rfl,rfl⟩
 simp (maxSteps:=1000000) [go_sem]
 exact zi [[0]] (.p (.int .i64 (t.cls i))) ⟨rfl,by simp⟩ (by simp[go_sem,zd,leA,leT]) ⟨rfl,by simp[go_sem]⟩
theorem zjE [Gi] {t:zV} {c b j f p:PV}(h:QS t c b j f p)(ck cx sk sx:List PV) {i:Nat}(hi:i<1114112):
  CR Tryz.prog 122 [[0]] [.lp [0] 0,.p (.int .i32 i)] [([0],wu c b j f p ck cx sk sx)] (fun x rs=>x=V8 (t.par i)∧rs=[([0],wu c b j f p ck cx sk sx)]):=by
 have w1:IntKind.i64.wrap (i:Int)=i:=wrap64 (by omega) (by omega)
 refine zS [4] mixed 8 [] Tryz.func122 rfl (by kernel_rfl) rfl (by simp) (by simp) ?_
 simp (maxSteps:=1000000) [go_sem,Tryz.f122,wu,w1]
 refine⟨⟨rfl,by simp[Tryz.f69]⟩,zb [] (K1 h.p (by omega) hi) (by simp[go_sem,zH]) ⟨by simp[go_sem],by simp[go_sem]⟩ (by simp[go_sem]) ?_⟩
 rintro _ rs ⟨rfl,rfl⟩
 generalize t.par i=q
 simp (maxSteps:=1000000) [go_sem,qu]
 exact zi [[0]] (.tup [.p (.int .i32 q.a),.p (.int .i32 q.b),.p (.bool (!decide (q.a=0) ||!decide (q.b=0)))]) ⟨rfl,by simp⟩ (by simp[go_sem,zd,leA,leT,leP]) ⟨rfl,by simp[go_sem]⟩
def zay(t:zV)(i:Nat):Bool:=(!decide ((t.par i).a=0) ||!decide ((t.par i).b=0))&&(decide ((t.par i).b=0) || (t.flg i).o ||!decide (t.cls i=0) ||!decide (t.cls (t.par i).a.toNat=0))
theorem zls [Gi] {t:zV} {c b j f p:PV}(h:QS t c b j f p)(ck cx sk sx:List PV) {i:Nat}(hi:i<1114112)(hp:0≤(t.par i).a∧(t.par i).a<1114112):
  CR Tryz.prog 70 [[0]] [.lp [0] 0,.p (.int .i32 i)] [([0],wu c b j f p ck cx sk sx)] (fun x rs=>x=.p (.bool (zay t i))∧rs=[([0],wu c b j f p ck cx sk sx)]):=by
 have w1:IntKind.i64.wrap (i:Int)=i:=wrap64 (by omega) (by omega)
 refine zm mixed 8 [] Tryz.func70 rfl (by kernel_rfl) rfl (by simp) (by simp) ?_
 obtain⟨q,hq⟩:∃q,t.par i=q:=⟨_,rfl⟩
 have hpa:=hp
 rw[hq]at hpa
 have hn:((q.a.toNat:Nat):Int)=q.a:=by omega
 simp (maxSteps:=1000000) [go_sem,Tryz.f70,wu]
 refine⟨⟨rfl,by simp[Tryz.f122]⟩,zb [([0],[0]),([901],[901]),([902],[902])] (zjE h ck cx sk sx hi) (by simp[go_sem,zH]) ⟨by simp[go_sem],by simp[go_sem]⟩ (by simp[go_sem,wu]) ?_⟩
 rintro _ rs ⟨rfl,rfl⟩
 obtain⟨z,hz⟩:∃z,(!decide (q.a=0) ||!decide (q.b=0))=z:=⟨_,rfl⟩
 simp only[hq,V8,hz]
 have ho:zay t i=(z&&(decide (q.b=0) || (t.flg i).o ||!decide (t.cls i=0) ||!decide (t.cls q.a.toNat=0))):=by simp only[zay,hq,hz]
 cases z with
 |false=>
  simp (maxSteps:=1000000) [go_sem]
  exact zi [[0]] (.p (.bool (zay t i))) ⟨rfl,by simp⟩ (by simp[go_sem,zd,leA,leT, *]) ⟨rfl,by simp[go_sem,wu]⟩
 |true=>
  by_cases hb:q.b=0
  ·simp (maxSteps:=1000000) [go_sem,hb]
   exact zi [[0]] (.p (.bool (zay t i))) ⟨rfl,by simp⟩ (by simp[go_sem,zd,leA,leT, *]) ⟨rfl,by simp[go_sem,wu]⟩
  ·simp (maxSteps:=1000000) [go_sem,hb,w1,wu]
   refine⟨⟨rfl,by simp[Tryz.f123]⟩,zb [] (za4 h.f (by omega) hi) (by simp[go_sem,zH]) ⟨by simp[go_sem],by simp[go_sem]⟩ (by simp[go_sem]) ?_⟩
   rintro _ rs ⟨rfl,rfl⟩
   generalize t.flg i=fl at ho
   cases hfo:fl.o with
   |true=>
    simp (maxSteps:=1000000) [go_sem,qF,hfo]
    exact zi [[0]] (.p (.bool (zay t i))) ⟨rfl,by simp⟩ (by simp[go_sem,zd,leA,leT, *]) ⟨rfl,by simp[go_sem]⟩
   |false=>
    simp (maxSteps:=1000000) [go_sem,qF,hfo]
    refine⟨⟨rfl,by simp[Tryz.f124]⟩,zb [([0],[0]),([901],[901]),([902],[902])] (Y7 h ck cx sk sx hi) (by simp[go_sem,zH]) ⟨by simp[go_sem],by simp[go_sem]⟩ (by simp[go_sem,wu]) ?_⟩
    rintro _ rs ⟨rfl,rfl⟩
    by_cases hc:t.cls i=0
    ·simp (maxSteps:=1000000) [go_sem,hc,wu]
     refine⟨⟨rfl,by simp[Tryz.f124]⟩,zb [([0],[0]),([901],[901]),([902],[902])] (Y7 h ck cx sk sx (i:=q.a.toNat) (by omega)) (by simp[go_sem,zH]) ⟨by simp[go_sem],by simp[go_sem,hn]⟩ (by simp[go_sem,wu]) ?_⟩
     rintro _ rs ⟨rfl,rfl⟩
     simp (maxSteps:=1000000) [go_sem,wu]
     exact zi [[0]] (.p (.bool (zay t i))) ⟨rfl,by simp⟩ (by simp[go_sem,zd,leA,leT, *]) ⟨rfl,by simp[go_sem]⟩
    ·simp (maxSteps:=1000000) [go_sem,hc,wu]
     exact zi [[0]] (.p (.bool (zay t i))) ⟨rfl,by simp⟩ (by simp[go_sem,zd,leA,leT, *]) ⟨rfl,by simp[go_sem]⟩
end Go.Proofs.YtjefahhmkcfiiaaGreat
end
section
namespace Go.AM
def VR(g:Gh)(w:World):Gh:=
 ⟨fun b=>match g.K b with
  |.root _=>frW w b
  |.tail _=>max 1 (g.fr b)
  |.prot=>g.fr b,fun _=>.prot⟩
theorem U0 {g:Gh} {w:World} {b:Nat}(h:g.K b=.prot):(VR g w).fr b=g.fr b:=by simp only[VR,h]
theorem ziU {g:Gh} {w:World} {b:Nat} {t:Tok}(h:g.K b=.root t):(VR g w).fr b=frW w b:=by simp only[VR,h]
theorem zbp {g:Gh} {w:World} {b:Nat} {t:Tok}(h:g.K b=.tail t):(VR g w).fr b=max 1 (g.fr b):=by simp only[VR,h]
theorem zeT [Gi] {g:Gh} {w:World} {rs:List (Tok×List AV)}(hG:GS g w rs):Ext g.fr w (VR g w).fr w:=fun b o ho=>by
 refine⟨?_,rfl,rfl⟩
 rcases h:g.K b with _|t|t
 ·rw[U0 h];exact ho
 ·obtain⟨_,_,h0,_⟩:=hG.roots b t h
  omega
 ·rw[zbp h];omega
theorem zmW [Gi] {g:Gh} {w:World} {rs:List (Tok×List AV)}(hG:GS g w rs):GS (VR g w) w []:=by
 have hp:∀b,(VR g w).K b=.prot:=fun _=>rfl
 refine⟨fun b t hk=>(by rw[hp b]at hk;cases hk),fun b b' t hk _=>(by rw[hp b]at hk;cases hk),fun b b' t hk _=>(by rw[hp b]at hk;cases hk),fun b hb=>absurd (hp b) hb,fun b hb=>?_,fun b arr e=>?_⟩
 ·have:g.K b=.prot:=by
   rcases h:g.K b with _|t|t
   ·rfl
   all_goals exact absurd (hG.own b (by rw[h];simp)) (by omega)
  rw[U0 this]
  exact hG.frb b hb
 ·obtain⟨_,h2⟩:=hG.gl b arr e
  exact⟨rfl,h2⟩
def zkK [Gi](rs:List (Tok×List AV))(x x':AV):Prop:=∀g w v,GS g w rs→zc g w x v→zc (VR g w) w x' v
theorem CR.zmy [Gi] {P:Program} {f:FuncId} {args:List AV} {rs:List (Tok×List AV)} {R R':AV→List (Tok×List AV)→Prop}(h:CR P f [] args rs R)
  (hr:∀x rs',R x rs'→∃x',zkK rs' x x'∧R' x' []):CR P f [] args rs R':=by
 intro w g vs h1 h2
 refine(h w g vs h1 h2).mono ?_
 rintro e w' ⟨v,x,rs',g',rfl,hR,hx,hG,hA⟩
 obtain⟨x',hf,hR'⟩:=hr x rs' hR
 refine⟨v,x',_,VR g' w',rfl,hR',hf g' w' v hG hx,zmW hG,⟨fun b hb hk=>?_,hA.ext.trans (zeT hG),hA.out,hA.mono,fun b t hk ht=>by cases ht⟩⟩
 obtain⟨a1,a2,a3⟩:=hA.frame b hb hk
 exact⟨a1,by rw[U0 a3];exact a2,rfl⟩
def zlO:AV→Option PV
 |.p x=>some x
 |.os _ z es=>some (.sl z es)
 |.om _ ks xs=>some (.mp ks xs)
 |_=>none
def zk9:List AV→Option (List PV)
 | []=>some []
 |x::l=>match zlO x,zk9 l with
  |some y,some ys=>some (y::ys)
  |_,_=>none
theorem ziS [Gi] {g:Gh} {w:World} {rs:List (Tok×List AV)}(hG:GS g w rs) {x:AV} {y:PV} {v:Value}(h:zlO x=some y)(r:zc g w x v):zl (VR g w).fr w y v:=by
 have hx:=zeT hG
 cases x with
 |p x=>simp only[zlO,Option.some.injEq]at h;subst h;simp only[zc]at r;exact r.ext hx
 |os t z es=>simp only[zlO,Option.some.injEq]at h;subst h;simp only[zc]at r;exact zl.ext hx _ _ r.1
 |om t ks xs=>
  simp only[zlO,Option.some.injEq]at h;subst h
  simp only[zc]at r
  obtain⟨b,arr,c,rfl,hk,h0,hm,r1,r2⟩:=r
  simp only[zl]
  exact⟨b,arr,c,rfl,by rw[zbp hk];omega,hm,r1.ext hx,r2.ext hx⟩
 |_=>cases h
theorem zbQ [Gi] {g:Gh} {w:World} {rs:List (Tok×List AV)}(hG:GS g w rs):∀{xs:List AV} {ys:List PV} {vs:List Value},zk9 xs=some ys→(∀u∈vs,u.oneCell'=true)→zt g w xs vs→zJ (VR g w).fr w ys vs
 | [],ys,vs,h,_,r=>by simp only[zk9,Option.some.injEq]at h;subst h;simp only[zt]at r;simp only[zJ];exact r
 |x::xs,ys,vs,h,h1,r=>by
  simp only[zk9]at h
  split at h
  ·rename_i y ys' e1 e2
   simp only[Option.some.injEq]at h;subst h
   simp only[zt]at r
   obtain⟨v,vs',rfl,r1,r2⟩:=r
   simp only[zJ]
   exact⟨v,vs',rfl,h1 v (by simp),ziS hG e1 r1,zbQ hG e2 (fun u hu=>h1 u (by simp[hu])) r2⟩
  ·cases h
theorem zng [Gi] {rs:List (Tok×List AV)} {t:Tok} {cs:List AV} {ps:List PV}(hl:zO rs t=some cs)(hp:zk9 cs=some ps):zkK rs (.lp t 0) (.p (.pt cs.length (.agg ps))):=by
 intro g w v hG hv
 simp only[zc]at hv
 obtain⟨b,hk,rfl⟩:=hv
 obtain⟨cs',hl',hfr,arr,T,hb,hle,hc⟩:=hG.roots b t hk
 rw[hl]at hl';injection hl' with hl';subst hl'
 have hfb:(VR g w).fr b=arr.size:=by rw[ziU hk];simp[frW,hb]
 have hRC:zt g w cs (arr.toList.take cs.length)∧∀u∈arr.toList.take cs.length,u.oneCell'=true:=by
  have key:∀(ys:List AV) (vs:List Value),ys.length=vs.length→(∀(j:Nat) (x:AV),ys[j]?=some x→∃v,vs[j]?=some v∧v.oneCell'=true∧zc g w x v)→zt g w ys vs∧∀u∈vs,u.oneCell'=true:=by
   intro ys
   induction ys with
   |nil=>intro vs hl _;cases vs with
    |nil=>exact⟨by simp[zt],by simp⟩
    |cons v vs=>simp at hl
   |cons y ys ih=>
    intro vs hl hh
    cases vs with
    |nil=>simp at hl
    |cons v vs=>
     obtain⟨u,hu,h1,hr⟩:=hh 0 y rfl
     simp at hu;subst hu
     obtain⟨i1,i2⟩:=ih vs (by simpa using hl) (fun j x hj=>by simpa using hh (j+1) x (by simpa using hj))
     refine⟨by simp only[zt];exact⟨v,vs,rfl,hr,i1⟩,fun u hu=>?_⟩
     rcases List.mem_cons.1 hu with rfl|hu
     ·exact h1
     ·exact i2 u hu
  refine key cs _ (by simp;omega) (fun j x hj=>?_)
  obtain⟨v,hv,h1,hr⟩:=hc j x hj
  exact⟨v,by rw[List.getElem?_take,if_pos (List.getElem?_eq_some_iff.1 hj).1];simpa using hv,h1,hr⟩
 have hP:=zbQ hG hp hRC.2 hRC.1
 simp only[zc,zl]
 refine⟨b,0,rfl,by rw[hfb];omega,.agg (arr.toList.take cs.length).toArray,⟨_,rfl,by simpa using hP⟩,by simp[Value.cells];omega,fun j c hj=>?_⟩
 have hj':(arr.toList.take cs.length)[j]?=some c:=by simpa[Value.cells]using hj
 refine⟨hRC.2 c (List.mem_of_getElem? hj'),?_⟩
 rw[qA hb,Nat.zero_add]
 rw[List.getElem?_take]at hj'
 split at hj'
 ·simpa using hj'
 ·cases hj'
end Go.AM
end
section
namespace Go.Proofs.YtjefahhmkcfiiaaGreat
open Go.AM
set_option maxHeartbeats 4000000
set_option maxRecDepth 10000
theorem Z1.num [Gi] {l:List Row} {k:Int}(h:Z1 l k)(hn:l.length<2^31):CR Tryz.prog 65 [] [.p (zK l),.p (.int .i64 k)] [] (fun x rs=>rs=[]∧∃e,x=.p e∧yG 1 1114112 (fun j=>[.int .i64 (qY 0 j ((qt l k).map jc))]) e):=
 zha l k h.rise h.b hn h.n h.nJ (fun s hs=>by
  have:=h.bJ s hs
  have:=h.riseJ.le s hs
  omega)
def zor:OT:=.now 0 0 (.now 1 0 (.now 2 0 (.now 3 0 (.now 4 0 (.now 5 0 (.now 6 0 (.now 7 0 (.now 8 0 (.now 9 2 (.now 11 2 (.mk [(10,.mk [(12,.now 13 0 (.mk [(14,.mk [(15,.now 16 0 (.mk [(17,.mk [])]))])]))]),(12,.now 13 0 (.mk [(10,.mk [(14,.mk [(15,.now 16 0 (.mk [(17,.mk [])]))])]),(14,.now 10 0 (.mk [(15,.now 16 0 (.mk [(17,.mk [])]))]))]))])))))))))))
def zmf:OT:=.now 0 0 (.now 1 0 (.now 2 0 (.now 3 0 (.now 4 0 (.now 5 0 (.now 6 0 (.now 7 0 (.now 8 0 (.now 9 0 (.now 10 0 (.mk [])))))))))))
def jV(s:Span):Q1 Zh:=⟨s.f,s.t,⟨s.a,s.b⟩⟩
def Za(l:List Row):zV where
 cls i:=qY 0 i ((qt l 1).map jc)
 brk i:=qY 0 i ((qt l 4).map jc)
 cnj i:=qY 0 i ((qt l 6).map jc)
 flg i:=QV (qt l 5) (qt l 7) (qt l 8) (qt l 3) i
 par i:=qY ⟨0,0⟩ i ((qt l 2).map jV)
def Zl(K:List Int):List PV:=K.map fun k=>.int .i32 k
theorem zft(K:List Int):(Zl K).all (fun k=>okC [.i .i32] k.cells)=true:=by
 simp[Zl,okC,PV.cells]
theorem KF(K:List Int):∀x:PV,x∈Zl K→(match x with|.agg _=>true|_=>false)=false∧okC [.i .i32] (match x with|.agg cs=>cs|x=>[x])=true:=fun x h=>by
 obtain⟨d,_,rfl⟩:=List.mem_map.1 h;exact⟨rfl,rfl⟩
theorem X4(c:Int)(K:List Int):(qR [.int .i32 c] (Zl K) (qi K) 0=none∧yy c K=K++[c])∨∃j,qR [.int .i32 c] (Zl K) (qi K) 0=some (j,.bool true)∧yy c K=K∧(qi K).set j (.bool true)=qi K∧j< (qi K).length:=by
 have hn:=kG (kc:=[.i .i32]) (key:=[.int .i32 c]) rfl (ks:=Zl K) (xs:=qi K) (i:=0) (zft K) (by simp[Zl,qi])
 by_cases h:c∈K
 ·have hs:qR [.int .i32 c] (Zl K) (qi K) 0≠none:=fun e=>by
   have:=hn.1 e (.int .i32 c) (by simp[Zl,h])
   exact this rfl
  obtain⟨⟨j,x⟩,hj⟩:=Option.ne_none_iff_exists'.1 hs
  obtain⟨_,k,h3,h4,h5⟩:=Qm (kc:=[.i .i32]) rfl (zft K) hj
  have hx:x=.bool true:=by
   simp only[qi,List.getElem?_map,Option.map_eq_some_iff]at h5
   obtain⟨_,_,rfl⟩:=h5;rfl
  subst hx
  have h5':(qi K)[j]?=some (.bool true):=by simpa using h5
  exact .inr ⟨j,hj,if_pos h,xI h5',(List.getElem?_eq_some_iff.1 h5').1⟩
 ·exact .inl ⟨hn.2 fun k hk e=>by
   obtain⟨d,hd,rfl⟩:=List.mem_map.1 hk
   simp only[PV.cells]at e
   injection e with e _;injection e with _ e;subst e
   exact h hd,if_neg h⟩
theorem zfa {ks xs:List PV}(h:ks.length=xs.length)(a b:PV):(xs++[a]).set ks.length b=xs++[b]:=by
 rw[h,List.set_append_right _ _ (Nat.le_refl _)];simp
def ckP(m:List (Zh×Int)):List PV:=m.map fun x=>.agg (qu x.1)
def cxP(m:List (Zh×Int)):List PV:=m.map fun x=>.int .i32 x.2
theorem ckP_ok(m:List (Zh×Int)):(ckP m).all (fun k=>okC [.i .i32,.i .i32] k.cells)=true:=by
 simp[ckP,okC,PV.cells,qu]
theorem ckP_key(m:List (Zh×Int)):∀x:PV,x∈ckP m→(match x with|.agg _=>true|_=>false)=true∧okC [.i .i32,.i .i32] (match x with|.agg cs=>cs|x=>[x])=true:=fun x h=>by
 obtain⟨d,_,rfl⟩:=List.mem_map.1 h;exact⟨rfl,rfl⟩
theorem zbi {p q:Zh}(h:qu p=qu q):p=q:=by
 cases p;cases q;simp only[qu]at h
 injection h with h1 h2;injection h1 with _ h1;injection h2 with h2 _;injection h2 with _ h2
 subst h1;subst h2;rfl
theorem ckP_find(q:Zh)(m:List (Zh×Int)):(qR (qu q) (ckP m) (cxP m) 0=none∧∀x∈m,x.1≠q)∨∃j r,qR (qu q) (ckP m) (cxP m) 0=some (j,.int .i32 r)∧(q,r)∈m:=by
 have hn:=kG (kc:=[.i .i32,.i .i32]) (key:=qu q) rfl (ks:=ckP m) (xs:=cxP m) (i:=0) (ckP_ok m) (by simp[ckP,cxP])
 by_cases h:qR (qu q) (ckP m) (cxP m) 0=none
 ·exact .inl ⟨h,fun x hx e=>hn.1 h (.agg (qu x.1)) (List.mem_map.2 ⟨x,hx,rfl⟩) (by rw[e];rfl)⟩
 ·obtain⟨⟨j,x⟩,hj⟩:=Option.ne_none_iff_exists'.1 h
  obtain⟨_,k,h3,h4,h5⟩:=Qm (kc:=[.i .i32,.i .i32]) rfl (ckP_ok m) hj
  simp only[Nat.sub_zero,ckP,cxP,List.getElem?_map,Option.map_eq_some_iff]at h3 h5
  obtain⟨y,hy,rfl⟩:=h3
  obtain⟨z,hz,rfl⟩:=h5
  rw[hy]at hz;injection hz with hz;subst hz
  have:=zbi h4
  subst this
  exact .inr ⟨j,_,hj,List.mem_of_getElem? hy⟩
def yY(t:zV)(st:List (Zh×Int)×List Int)(r:Nat):List (Zh×Int)×List Int:=
 if(∀x∈st.1,x.1≠t.par r)∧zay t r=false then(st.1++[(t.par r,(r:Int))],yy (t.par r).b st.2)else st
def jE(f n:Nat):List Nat:=(List.range n).map (f+·)
theorem zda(f n:Nat):jE f (n+1)=jE f n++[f+n]:=by simp[jE,List.range_succ]
def xl(t:zV)(st:List (Zh×Int)×List Int)(s:Span):List (Zh×Int)×List Int:=(jE s.f.toNat (s.t.toNat+1-s.f.toNat)).foldl (yY t) st
theorem zdb {α:Type}(zero:α)(j:Int):∀l:List (Q1 α),qY zero j l=zero∨∃p∈l,qY zero j l=p.v
 | []=>.inl rfl
 |p::l=>by
  simp only[qY]
  split
  ·exact .inr ⟨p,by simp,rfl⟩
  ·rcases zdb zero j l with h|⟨q,hq,h⟩
   ·exact .inl h
   ·exact .inr ⟨q,by simp[hq],h⟩
theorem zf5 [Gi](l:List Row)(hn:l.length<2^31)(h1:Z1 l 1)(h2:Z1 l 2)(h3:Z1 l 3)(h4:Z1 l 4)(h5:Z1 l 5)(h6:Z1 l 6)(h7:Z1 l 7)(h8:Z1 l 8)
  (hp:∀s∈qt l 2,0≤s.a∧s.a<1114112∧0≤s.b∧s.b<1114112):
  CR Tryz.prog 17 [] [.p (zK l)] [] (fun x rs=>∃c b j f p,QS (Za l) c b j f p∧x=.lp [25] 0∧rs=[([25],[.p c,.p b,.p j,.p f,.p p,.om [22] (ckP ((qt l 2).foldl (xl (Za l)) ([],[])).1) (cxP ((qt l 2).foldl (xl (Za l)) ([],[])).1),.om [23] (Zl ((qt l 2).foldl (xl (Za l)) ([],[])).2) (qi ((qt l 2).foldl (xl (Za l)) ([],[])).2)])]):=by
 refine zS [200017,200019] mixed 14 [28,29,30,56,57,58] Tryz.func17 rfl (by kernel_rfl) rfl (by simp) (by simp) ?_
 simp (maxSteps:=1000000) [go_sem,Tryz.f17]
 refine⟨⟨rfl,by simp[Tryz.f65]⟩,zb [] (h1.num hn) (by simp[go_sem]) ⟨by simp[go_sem],by simp[go_sem]⟩ (by simp[go_sem]) ?_⟩
 rintro _ rs ⟨rfl,c,rfl,hc⟩
 simp (maxSteps:=1000000) [go_sem]
 refine⟨⟨rfl,by simp[Tryz.f65]⟩,zb [] (h4.num hn) (by simp[go_sem]) ⟨by simp[go_sem],by simp[go_sem]⟩ (by simp[go_sem]) ?_⟩
 rintro _ rs ⟨rfl,b,rfl,hb⟩
 simp (maxSteps:=1000000) [go_sem]
 refine⟨⟨rfl,by simp[Tryz.f65]⟩,zb [] (h6.num hn) (by simp[go_sem]) ⟨by simp[go_sem],by simp[go_sem]⟩ (by simp[go_sem]) ?_⟩
 rintro _ rs ⟨rfl,j,rfl,hj⟩
 simp (maxSteps:=1000000) [go_sem]
 refine⟨⟨rfl,by simp[Tryz.f66]⟩,zb [] (ziq l hn h5 h7 h8 h3) (by simp[go_sem]) ⟨by simp[go_sem],by simp[go_sem]⟩ (by simp[go_sem]) ?_⟩
 rintro _ rs ⟨rfl,f,rfl,hf⟩
 obtain⟨ci,cb,rfl,hc⟩:=hc
 obtain⟨bi,bb,rfl,hb⟩:=hb
 obtain⟨ji,jb,rfl,hj⟩:=hj
 obtain⟨fi,fb,rfl,hf⟩:=hf
 simp (maxSteps:=1000000) [go_sem]
 refine⟨⟨rfl,rfl⟩,⟨rfl,by simp[Tryz.f67]⟩,zb [] (zbB l 2 h2.rise h2.b hn h2.n) (by simp[go_sem]) ⟨by simp[go_sem],by simp[go_sem]⟩ (by simp[go_sem]) ?_⟩
 rintro _ rs ⟨rfl,rfl⟩
 have hn2:=h2.nJ
 have hr2:=h2.riseJ
 have hb2:=h2.bJ
 have hpl:∀i:Nat,(Za l).par i=qY ⟨0,0⟩ i ((qt l 2).map jV):=fun _=>rfl
 generalize hJ:Qk (zU l 2)=J
 have hJ':qt l 2=J:=hJ
 rw[hJ']at hn2 hr2 hb2 hp
 simp only[hJ']at hpl⊢
 obtain⟨M,hM⟩:∃M,M=J.map fun s=>Vt (jV s):=⟨_,rfl⟩
 have hMl:M.length=J.length:=by rw[hM];simp
 simp (maxSteps:=1000000) [go_sem,zR]
 refine zj (fun i:Nat=>i≤J.length) (fun i=>[(4,.os [4] 4 (M.take i)),(30,.p (.int .i64 i))]) (fun _=>[]) (fun i=>J.length-i) 0 (by omega) (by simp[go_sem,LeS,leV,leR,leA,leL]) (fun i hi=>?_)
 simp (maxSteps:=1000000) [go_sem]
 refine zA (fun h=>?_) (fun h=>?_)
 ·have hil:i<J.length:=by omega
  have em:=zr qn J i hil
  have w1:IntKind.i64.wrap ((i:Int)+1)=((i+1:Nat):Int):=by rw[wrap64 (by omega) (by omega)];rfl
  have htake:M.take (i+1)=M.take i++[Vt (jV J[i])]:=by
   rw[List.take_add_one,hM,List.getElem?_map,List.getElem?_eq_getElem hil];rfl
  have hle:(M.take i).length≤256:=by rw[List.length_take];omega
  have hab:=hp J[i] (List.getElem_mem _)
  generalize J[i]=r at em htake hab
  have w2:IntKind.i32.wrap r.a=r.a:=by simp[IntKind.wrap,IntKind.signed,IntKind.bits];omega
  have w3:IntKind.i32.wrap r.b=r.b:=by simp[IntKind.wrap,IntKind.signed,IntKind.bits];omega
  simp (maxSteps:=1000000) [go_sem,em,h,qn,w1,w2,w3]
  refine⟨by rw[List.length_take]at hle;omega,zf (i+1) (by omega) (by simp[go_sem,LeS,leV,leR,leA,leL,htake,Vt,jV,qu]) (by omega)⟩
 have hil:i=J.length:=by omega
 subst hil
 have hall:M.take J.length=(J.map jV).map Vt:=by rw[←hMl,List.take_length,hM,List.map_map];rfl
 rw[hall]
 simp (maxSteps:=1000000) [go_sem]
 refine⟨⟨rfl,by simp[Tryz.f68]⟩,zb [] (ziy (J.map jV) 1114112 (by omega) (by omega) (by simp;omega) (fun p hp'=>?_)) (by simp[go_sem]) ⟨by simp[go_sem],by simp[go_sem,xR]⟩ (by simp[go_sem]) ?_⟩
 ·obtain⟨s,hs,rfl⟩:=List.mem_map.1 hp'
  have:=hb2 s hs
  have:=hr2.le s hs
  simp only[jV]
  omega
 rintro _ rs ⟨rfl,e,rfl,pi,pb,rfl,hpp⟩
 simp (maxSteps:=1000000) [go_sem]
 have hT:QS (Za l) (.pt 3 (QY 1 1114112 ci cb)) (.pt 3 (QY 1 1114112 bi bb)) (.pt 3 (QY 1 1114112 ji jb)) (.pt 3 (QY 4 1114112 fi fb)) (.pt 3 (QY 2 1114112 pi pb)):=
  ⟨⟨ci,cb,rfl,hc⟩,⟨bi,bb,rfl,hb⟩,⟨ji,jb,rfl,hj⟩,⟨fi,fb,rfl,hf⟩,⟨pi,pb,rfl,fun i hi=>by have e:=hpp i hi;rw[←hJ']at e;exact e⟩⟩
 generalize PV.pt 3 (QY 1 1114112 ci cb)=c at hT
 generalize PV.pt 3 (QY 1 1114112 bi bb)=b at hT
 generalize PV.pt 3 (QY 1 1114112 ji jb)=j at hT
 generalize PV.pt 3 (QY 4 1114112 fi fb)=f at hT
 generalize PV.pt 3 (QY 2 1114112 pi pb)=p at hT
 have hpr:∀i:Nat,0≤((Za l).par i).a∧((Za l).par i).a<1114112:=fun i=>by
  rw[hpl]
  rcases zdb (⟨0,0⟩:Zh) i (J.map jV)with h|⟨q,hq,h⟩
  ·rw[h];decide
  ·rw[h]
   obtain⟨x,hx,rfl⟩:=List.mem_map.1 hq
   have:=hp x hx
   exact⟨this.1,this.2.1⟩
 generalize Za l=t at hT hpr⊢
 clear hpp hpl hc hb hj hf hall
 have cells:∀a b c d:List PV,True:=fun _ _ _ _=>trivial
 refine zj (fun i:Nat=>i≤J.length) (fun i=>[(58,.p (.int .i64 i))]) (fun i=>[([25],[.p c,.p b,.p j,.p f,.p p,.om [22] (ckP ((J.take i).foldl (xl t) ([],[])).1) (cxP ((J.take i).foldl (xl t) ([],[])).1),.om [23] (Zl ((J.take i).foldl (xl t) ([],[])).2) (qi ((J.take i).foldl (xl t) ([],[])).2)])]) (fun i=>J.length-i) 0 (by omega) (by simp[go_sem,LeS,leV,leR,leA,leL,ckP,cxP,Zl,qi]) (fun i hi=>?_)
 simp (maxSteps:=1000000) [go_sem]
 refine zA (fun h=>?_) (fun h=>?_)
 ·have hil:i<J.length:=by omega
  have em:=zr qn J i hil
  have w1:IntKind.i64.wrap ((i:Int)+1)=((i+1:Nat):Int):=by rw[wrap64 (by omega) (by omega)];rfl
  have htk:(J.take (i+1)).foldl (xl t) ([],[])=xl t ((J.take i).foldl (xl t) ([],[])) J[i]:=by
   rw[List.take_add_one,List.getElem?_eq_getElem hil,List.foldl_append];rfl
  have hs2:=hb2 J[i] (List.getElem_mem _)
  have hs3:=hr2.le J[i] (List.getElem_mem _)
  generalize J[i]=s at em htk hs2 hs3
  generalize (J.take i).foldl (xl t) ([],[])=st at htk
  obtain⟨sf,sz,sa,sb⟩:=s
  simp only at hs2 hs3
  obtain⟨f0,rfl⟩:=Int.eq_ofNat_of_zero_le hs2.1
  obtain⟨t0,rfl⟩:=Int.eq_ofNat_of_zero_le (Int.le_trans hs2.1 hs3)
  have w2:IntKind.i32.wrap (f0:Int)=f0:=by simp[IntKind.wrap,IntKind.signed,IntKind.bits];omega
  simp (maxSteps:=1000000) [go_sem,em,h,qn,w2]
  refine zj (fun k:Nat=>f0+k≤t0+1) (fun k=>[(10,.p (.int .i32 ((f0+k:Nat):Int)))]) (fun k=>[([25],[.p c,.p b,.p j,.p f,.p p,.om [22] (ckP ((jE f0 k).foldl (yY t) st).1) (cxP ((jE f0 k).foldl (yY t) st).1),.om [23] (Zl ((jE f0 k).foldl (yY t) st).2) (qi ((jE f0 k).foldl (yY t) st).2)])]) (fun k=>t0+1-f0-k) 0 (by omega) (by simp[go_sem,LeS,leV,leR,leA,leL,jE]) (fun k hk=>?_)
  obtain⟨r,hr⟩:∃r,r=f0+k:=⟨_,rfl⟩
  have hstep:=zda f0 k
  have w3:IntKind.i64.wrap (r:Int)=r:=wrap64 (by omega) (by omega)
  have w4:IntKind.i32.wrap ((r:Int)+1)=((r+1:Nat):Int):=by simp[IntKind.wrap,IntKind.signed,IntKind.bits];omega
  have ek:(f0:Int)+((k:Int)+1)=(r:Int)+1:=by omega
  simp only[←hr]at hstep⊢
  simp (maxSteps:=1000000) [go_sem,w3]
  refine zA (fun h5=>?_) (fun h5=>?_)
  ·have hstep2:(jE f0 (k+1)).foldl (yY t) st=yY t ((jE f0 k).foldl (yY t) st) r:=by rw[hstep,List.foldl_append];rfl
   generalize (jE f0 k).foldl (yY t) st=sk at hstep2
   obtain⟨q,hq⟩:∃q,t.par r=q:=⟨_,rfl⟩
   simp (maxSteps:=1000000) [go_sem,w3]
   refine⟨⟨rfl,by simp[Tryz.f69]⟩,zb [] (K1 hT.p (by omega) (i:=r) (by omega)) (by simp[go_sem]) ⟨by simp[go_sem],by simp[go_sem]⟩ (by simp[go_sem]) ?_⟩
   rintro _ rs ⟨rfl,rfl⟩
   rw[hq]
   rcases ckP_find q sk.1 with ⟨hf1,hf2⟩|⟨jj,x,hf1,hf2⟩
   ·simp (maxSteps:=1000000) [go_sem,qu]
    refine Zq zmf (by kernel_rfl) ?_
    simp only[qu]at hf1
    simp (maxSteps:=1000000) [go_sem,zmf,Zw,mapOf,jf,hf1]
    refine⟨ckP_key _,⟨rfl,by simp[Tryz.f70]⟩,zb [([0],[25]),([901],[22]),([902],[23])] (zls hT (ckP sk.1) (cxP sk.1) (Zl sk.2) (qi sk.2) (i:=r) (by omega) (hpr r)) (by simp[go_sem,zH]) ⟨by simp[go_sem],by simp[go_sem]⟩ (by simp[go_sem,wu]) ?_⟩
    rintro _ rs ⟨rfl,rfl⟩
    cases ho:zay t r with
    |true=>
     have hs1:yY t sk r=sk:=by unfold yY;rw[if_neg (fun h=>by rw[ho]at h;simp at h)]
     simp (maxSteps:=1000000) [go_sem,wu,w4]
     exact zf (k+1) (by omega) (by simp[go_sem,LeS,leV,leR,leA,leL,hstep2,hs1,ek]) (by omega)
    |false=>
     have hs1:yY t sk r=(sk.1++[(q,(r:Int))],yy q.b sk.2):=by unfold yY;rw[if_pos ⟨by rw[hq];exact hf2,ho⟩,hq]
     simp (maxSteps:=1000000) [go_sem,wu]
     refine Zq zor (by kernel_rfl) ?_
     have l1:(ckP sk.1).length=(cxP sk.1).length:=by simp[ckP,cxP]
     have l2:(Zl sk.2).length=(qi sk.2).length:=by simp[Zl,qi]
     have e1:=zfa l1 (.int .i32 0) (.int .i32 r)
     have e2:=zfa l2 (.bool false) (.bool true)
     have e3:ckP sk.1++[.agg [.int .i32 q.a,.int .i32 q.b]]=ckP (sk.1++[(q,(r:Int))]):=by simp[ckP,qu]
     have e4:cxP sk.1++[.int .i32 (r:Int)]=cxP (sk.1++[(q,(r:Int))]):=by simp[cxP]
     have l3:(ckP sk.1).length< (cxP sk.1).length+1:=by omega
     have l4:(Zl sk.2).length< (qi sk.2).length+1:=by omega
     rcases X4 q.b sk.2 with ⟨g1,g2⟩|⟨j2,g1,g2,g3,g4⟩
     ·have e5:Zl sk.2++[.int .i32 q.b]=Zl (yy q.b sk.2):=by rw[g2];simp[Zl]
      have e6:qi sk.2++[.bool true]=qi (yy q.b sk.2):=by rw[g2];simp[qi]
      simp (maxSteps:=1000000) [go_sem,zor,hf1,g1,e1,e2,l3,l4]
      exact⟨ckP_key _,KF _,zf (k+1) (by omega) (by simp[go_sem,LeS,leV,leR,leA,leL,hstep2,hs1,ek,w4,←e3,←e4,←e5,←e6]) (by omega)⟩
     ·simp (maxSteps:=1000000) [go_sem,zor,hf1,g1,e1,g3,g4,l3]
      exact⟨ckP_key _,KF _,zf (k+1) (by omega) (by simp[go_sem,LeS,leV,leR,leA,leL,hstep2,hs1,ek,w4,←e3,←e4,g2]) (by omega)⟩
   ·have hs1:yY t sk r=sk:=by unfold yY;rw[if_neg (fun h=>h.1 _ hf2 hq.symm)]
    simp (maxSteps:=1000000) [go_sem,qu]
    refine Zq zmf (by kernel_rfl) ?_
    simp only[qu]at hf1
    simp (maxSteps:=1000000) [go_sem,zmf,Zw,mapOf,jf,hf1,w4]
    exact⟨ckP_key _,zf (k+1) (by omega) (by simp[go_sem,LeS,leV,leR,leA,leL,hstep2,hs1,ek]) (by omega)⟩
  ·have hk2:k=t0+1-f0:=by omega
   simp (maxSteps:=1000000) [go_sem,w1]
   have hfin:xl t st ⟨f0,t0,sa,sb⟩=(jE f0 k).foldl (yY t) st:=by simp[xl,hk2]
   exact zf (i+1) (by omega) (by simp[go_sem,LeS,leV,leR,leA,leL,htk,hfin]) (by omega)
 ·obtain rfl:i=J.length:=by omega
  simp (maxSteps:=1000000) [go_sem]
  exact zi [[25]] (.lp [25] 0) ⟨rfl,by simp⟩ (by simp[go_sem,zd,leA,leT]) ⟨c,b,j,f,p,hT,rfl,by simp[go_sem]⟩
def made(l:List Row):List (Zh×Int)×List Int:=(qt l 2).foldl (xl (Za l)) ([],[])
theorem zko [Gi](l:List Row)(hn:l.length<2^31)(h1:Z1 l 1)(h2:Z1 l 2)(h3:Z1 l 3)(h4:Z1 l 4)(h5:Z1 l 5)(h6:Z1 l 6)(h7:Z1 l 7)(h8:Z1 l 8)
  (hp:∀s∈qt l 2,0≤s.a∧s.a<1114112∧0≤s.b∧s.b<1114112):
  CR Tryz.prog 17 [] [.p (zK l)] [] (fun x rs=>rs=[]∧∃c b j f p,QS (Za l) c b j f p∧x=.p (zF c b j f p (ckP (made l).1) (cxP (made l).1) (Zl (made l).2) (qi (made l).2))):=by
 refine CR.zmy (zf5 l hn h1 h2 h3 h4 h5 h6 h7 h8 hp) ?_
 rintro x rs ⟨c,b,j,f,p,hT,rfl,rfl⟩
 exact⟨_,zng rfl rfl,rfl,c,b,j,f,p,hT,rfl⟩
end Go.Proofs.YtjefahhmkcfiiaaGreat
end
section
namespace Go.Proofs.YtjefahhmkcfiiaaGreat
open Go.AM
set_option maxHeartbeats 4000000
set_option maxRecDepth 10000
end Go.Proofs.YtjefahhmkcfiiaaGreat
end
