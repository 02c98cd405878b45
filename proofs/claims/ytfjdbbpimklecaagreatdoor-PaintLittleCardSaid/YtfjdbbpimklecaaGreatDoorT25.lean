/- A part of this seat's proofs, by an abstract machine. Conditions: each law's. -/
import Derived.Test.YtfjdbbpimklecaaGreatDoorT21
import Derived.Test.YtfjdbbpimklecaaGreatDoorT23
import Derived.Test.YtfjdbbpimklecaaGreatDoorT24
import Derived.Test.YtfjdbbpimklecaaGreatDoorT22
set_option maxHeartbeats 4000000
set_option maxRecDepth 10000
namespace Go.Proofs.YtfjdbbpimklecaaGreatDoor
section
open Go.AM
theorem zhJ [Gi](l:List (Piece jq))(size:Nat)(h0:0<size)(hs:size<2^28)(hn:l.length<2^31)(hb:∀p∈l, -1000000000≤p.f∧p.f≤1000000000):
  CR Tryz.prog 60 [] [.p (.int .i64 size),.p (.agg [.int .i32 0,.int .i32 0]),.p (xh l)] [] (fun x rs=>rs=[]∧∃e,x=.p e∧yb 2 size (fun j=>qP (qY ⟨0,0⟩ j l)) e):=by
 refine CR.freeze (zcx l size h0 hs hn hb) (fun _=>false) rfl ?_
 rintro x rs ⟨idx,blocks,rfl,h1,h2,rfl⟩
 exact⟨_,zfq rfl rfl rfl,rfl,_,rfl,idx,blocks,rfl,fun i hi=>h1.qX h2 hi⟩
theorem ziB [Gi](l:List (Piece Flags))(size:Nat)(h0:0<size)(hs:size<2^28)(hn:l.length<2^31)(hb:∀p∈l, -1000000000≤p.f∧p.f≤1000000000):
  CR Tryz.prog 106 [] [.p (.int .i64 size),.p (.agg [.bool false,.bool false,.bool false,.bool false]),.p (xk l)] [] (fun x rs=>rs=[]∧∃e,x=.p e∧yb 4 size (fun j=>qB (qY ⟨false,false,false,false⟩ j l)) e):=by
 refine CR.freeze (zc1 l size h0 hs hn hb) (fun _=>false) rfl ?_
 rintro x rs ⟨idx,blocks,rfl,h1,h2,rfl⟩
 exact⟨_,zfq rfl rfl rfl,rfl,_,rfl,idx,blocks,rfl,fun i hi=>h1.qX h2 hi⟩
theorem Xz [Gi] {size:Nat} {val:Nat→jq} {e:PV}(h:yb 2 size (fun j=>qP (val j)) e)(hs:size<2^31) {i:Nat}(hi:i<size):CR Tryz.prog 61 [] [.p e,.p (.int .i64 i)] [] (is (.p (.agg (qP (val i))))):=by
 obtain⟨idx,blocks,rfl,h⟩:=h
 exact zlR size idx blocks i _ hs hi (h i hi)
theorem XY [Gi] {size:Nat} {val:Nat→Flags} {e:PV}(h:yb 4 size (fun j=>qB (val j)) e)(hs:size<2^31) {i:Nat}(hi:i<size):CR Tryz.prog 116 [] [.p e,.p (.int .i64 i)] [] (is (.p (.agg (qB (val i))))):=by
 obtain⟨idx,blocks,rfl,h⟩:=h
 exact zmL size idx blocks i _ hs hi (h i hi)
def qv(l:List Row)(k:Int):List Span:=ZR (zL l k)
structure ZB(l:List Row)(k:Int):Prop where
 rise:qZ (zL l k)
 b:∀s∈zL l k, -1000000000≤s.t∧s.t≤1000000000
 n:(zL l k).length<256
 riseJ:qZ (qv l k)
 bJ:∀s∈qv l k,0≤s.f∧s.t≤1114111
 nJ:(qv l k).length<256
theorem xi {l:List Span} {c:Int} {s:Span}(h:atL l c=some s):Za l c=decide (s.a=1):=by
 simp only[Za,h];by_cases e:s.a=1<;>simp[e]
theorem xc {l:List Span} {c:Int}(h:atL l c=none):Za l c=false:=by simp only[Za,h]
theorem YK(A B C D:List Span)(c:Int):(Qc A B C D c !=yT)=(Za A c || (Za B c || (Za C c || Za D c))):=by
 simp only[Qc,yT]
 cases Za A c<;>cases Za B c<;>cases Za C c<;>cases Za D c<;>rfl
def zbw:PV:=.opq (.slice none 0 0)
theorem zil [Gi](l:List Row)(hn:l.length<2^31)(h5:ZB l 5)(h7:ZB l 7)(h8:ZB l 8)(h3:ZB l 3):
  CR Tryz.prog 58 [] [.p (z6 l)] [] (fun x rs=>rs=[]∧∃e,x=.p e∧yb 4 1114112 (fun j=>qB (Qc (qv l 5) (qv l 7) (qv l 8) (qv l 3) j)) e):=by
 refine zK [23] mixed 16 [17,18,29,30,31,35,36] Tryz.func58 rfl (by kernel_rfl) rfl (by simp) (by simp) ?_
 simp (maxSteps:=1000000) [go_sem,Tryz.f58]
 have hw:∀x:Int,0≤x→x≤4→IntKind.i64.wrap x=x:=fun x h1 h2=>wrap64 (by omega) (by omega)
 have w1:=hw 1 (by omega) (by omega)
 have w2:=hw 2 (by omega) (by omega)
 have w3:=hw 3 (by omega) (by omega)
 have w4:=hw 4 (by omega) (by omega)
 obtain⟨A,eA⟩:∃A,A=qv l 5:=⟨_,rfl⟩
 obtain⟨B,eB⟩:∃A,A=qv l 7:=⟨_,rfl⟩
 obtain⟨C,eC⟩:∃A,A=qv l 8:=⟨_,rfl⟩
 obtain⟨D,eD⟩:∃A,A=qv l 3:=⟨_,rfl⟩
 refine⟨rfl,zH (fun i:Nat=>i≤4) (fun i=>[(18,.p (.int .i64 (i:Nat)))]) (fun i=>[([4],[.p (if 0<i then zF A else zbw),.p (if 1<i then zF B else zbw),.p (if 2<i then zF C else zbw),.p (if 3<i then zF D else zbw)])]) (fun i=>4-i) 0 (by omega) (by simp[go_sem,LeS,leV,leR,leA,leL,zbw]) (fun i hi=>?_)⟩
 have hi':i=0∨i=1∨i=2∨i=3∨i=4:=by omega
 rcases hi' with rfl|rfl|rfl|rfl|rfl
 ·simp (maxSteps:=1000000) [go_sem]
  refine⟨⟨rfl,by simp[Tryz.f59]⟩,zd [] (zau l 5 h5.rise h5.b hn h5.n) (by simp[go_sem]) ⟨by simp[go_sem],by simp[go_sem]⟩ (by simp[go_sem]) ?_⟩
  rintro _ rs ⟨rfl,rfl⟩
  simp (maxSteps:=1000000) [go_sem,zF,zbw,w1]
  exact zi 1 (by omega) (by simp[go_sem,LeS,leV,leR,leA,leL,eA,qv]) (by omega)
 ·simp (maxSteps:=1000000) [go_sem]
  refine⟨⟨rfl,by simp[Tryz.f59]⟩,zd [] (zau l 7 h7.rise h7.b hn h7.n) (by simp[go_sem]) ⟨by simp[go_sem],by simp[go_sem]⟩ (by simp[go_sem]) ?_⟩
  rintro _ rs ⟨rfl,rfl⟩
  simp (maxSteps:=1000000) [go_sem,zF,zbw,w2]
  exact zi 2 (by omega) (by simp[go_sem,LeS,leV,leR,leA,leL,eB,qv]) (by omega)
 ·simp (maxSteps:=1000000) [go_sem]
  refine⟨⟨rfl,by simp[Tryz.f59]⟩,zd [] (zau l 8 h8.rise h8.b hn h8.n) (by simp[go_sem]) ⟨by simp[go_sem],by simp[go_sem]⟩ (by simp[go_sem]) ?_⟩
  rintro _ rs ⟨rfl,rfl⟩
  simp (maxSteps:=1000000) [go_sem,zF,zbw,w3]
  exact zi 3 (by omega) (by simp[go_sem,LeS,leV,leR,leA,leL,eC,qv]) (by omega)
 ·simp (maxSteps:=1000000) [go_sem]
  refine⟨⟨rfl,by simp[Tryz.f59]⟩,zd [] (zau l 3 h3.rise h3.b hn h3.n) (by simp[go_sem]) ⟨by simp[go_sem],by simp[go_sem]⟩ (by simp[go_sem]) ?_⟩
  rintro _ rs ⟨rfl,rfl⟩
  simp (maxSteps:=1000000) [go_sem,zF,zbw,w4]
  exact zi 4 (by omega) (by simp[go_sem,LeS,leV,leR,leA,leL,eD,qv]) (by omega)
 ·simp (maxSteps:=1000000) [go_sem]
  have hl:∀m∈[A,B,C,D],m.length<256:=by
   intro m hm
   simp only[List.mem_cons,List.not_mem_nil,or_false]at hm
   rcases hm with rfl|rfl|rfl|rfl
   ·rw[eA];exact h5.nJ
   ·rw[eB];exact h7.nJ
   ·rw[eC];exact h8.nJ
   ·rw[eD];exact h3.nJ
  have hR:∀m∈[A,B,C,D],qZ m:=by
   intro m hm
   simp only[List.mem_cons,List.not_mem_nil,or_false]at hm
   rcases hm with rfl|rfl|rfl|rfl
   ·rw[eA];exact h5.riseJ
   ·rw[eB];exact h7.riseJ
   ·rw[eC];exact h8.riseJ
   ·rw[eD];exact h3.riseJ
  have hB:∀m∈[A,B,C,D],∀s∈m,0≤s.f∧s.t≤1114111:=by
   intro m hm
   simp only[List.mem_cons,List.not_mem_nil,or_false]at hm
   rcases hm with rfl|rfl|rfl|rfl
   ·rw[eA];exact h5.bJ
   ·rw[eB];exact h7.bJ
   ·rw[eC];exact h8.bJ
   ·rw[eD];exact h3.bJ
  refine⟨⟨rfl,by simp[Tryz.f103]⟩,zd [([0],[4])] (zoq [A,B,C,D] (by simp) hl (fun m hm s hs=>?_)) (by simp[go_sem,zS]) ⟨by simp[go_sem],by simp[go_sem]⟩ (by simp[go_sem]) ?_⟩
  ·have:=hB m hm s hs
   have:=(hR m hm).le s hs
   omega
  rintro _ _ ⟨rfl,at_,rfl,c1,c2,c3,c4⟩
  simp (maxSteps:=1000000) [go_sem]
  have hat:∀c∈at_,0≤c∧c≤1114112:=fun c hc=>by
   rcases c3 c hc with rfl|⟨m,hm,q,hq,h⟩
   ·omega
   ·have:=hB m hm q hq
    have:=(hR m hm).le q hq
    omega
  refine zH (fun i:Nat=>i≤at_.length) (fun i=>[(31,.p (.int .i64 (i:Nat))),(7,.os [7] 6 ((jU A B C D (at_.take i)).map JE))]) (fun _=>[]) (fun i=>at_.length-i) 0 (by omega) (by simp[go_sem,LeS,leV,leR,leA,leL,jU]) (fun i hi=>?_)
  simp (maxSteps:=1000000) [go_sem]
  refine zh (fun h=>?_) (fun h=>?_)
  ·have hil:i<at_.length:=by omega
   have wi:IntKind.i64.wrap ((i:Int)+1)=((i+1:Nat):Int):=by rw[wrap64 (by omega) (by omega)];rfl
   have em:=zp (fun k=>PV.int .i64 k) at_ i hil
   have hc:=hat at_[i] (List.getElem_mem _)
   have htk:jU A B C D (at_.take (i+1))=jU A B C D (at_.take i)++(if Qc A B C D at_[i] !=yT then [wJ A B C D at_[i]]else []):=by
    rw[List.take_add_one,List.getElem?_eq_getElem hil]
    simp only[jU,List.filter_append,List.map_append,Option.toList_some]
    by_cases hz:(Qc A B C D at_[i] !=yT)=true<;>simp[hz]
   have hlen:(jU A B C D (at_.take i)).length≤10000:=by
    have h1:=List.length_filter_le (fun a=>Qc A B C D a !=yT) (at_.take i)
    simp only[jU,List.length_map]
    rw[List.length_take]at h1
    omega
   generalize at_[i]=c at em hc htk
   have w5:IntKind.i32.wrap c=c:=by simp[IntKind.wrap,IntKind.signed,IntKind.bits];omega
   simp (maxSteps:=1000000) [go_sem,em,hil]
   refine zH (fun k:Nat=>k≤4) (fun k=>[(36,.p (.int .i64 (k:Nat))),(11,.p (.int .i64 (xF c 1114111 ([A,B,C,D].take k))))]) (fun k=>[([10],[.p (.bool (decide (0<k)&&Za A c)),.p (.bool (decide (1<k)&&Za B c)),.p (.bool (decide (2<k)&&Za C c)),.p (.bool (decide (3<k)&&Za D c))])]) (fun k=>4-k) 0 (by omega) (by simp[go_sem,LeS,leV,leR,leA,leL,xF,zF]) (fun k hk=>?_)
   have hk':k=0∨k=1∨k=2∨k=3∨k=4:=by omega
   rcases hk' with rfl|rfl|rfl|rfl|rfl
   ·simp (maxSteps:=1000000) [go_sem,w5,zF]
    refine⟨⟨rfl,by simp[Tryz.f104]⟩,zd [] (zfW A c (by omega) (hR A (by simp)) (by have:=hl A (by simp);omega)) (by simp[go_sem]) ⟨by simp[go_sem],by simp[go_sem,zF]⟩ (by simp[go_sem]) ?_⟩
    rintro _ rs ⟨rfl,rfl⟩
    cases ha:atL A c with
    |none=>
     have hf:=xc ha
     simp (maxSteps:=1000000) [go_sem,atA,zZ,w1]
     exact zi 1 (by omega) (by simp[go_sem,LeS,leV,leR,leA,leL,xF,ha,hf]) (by omega)
    |some s=>
     have hf:=xi ha
     simp (maxSteps:=1000000) [go_sem,atA,zZ,w1]
     exact zi 1 (by omega) (by simp[go_sem,LeS,leV,leR,leA,leL,xF,ha,hf]) (by omega)
   ·simp (maxSteps:=1000000) [go_sem,w5,zF]
    refine⟨⟨rfl,by simp[Tryz.f104]⟩,zd [] (zfW B c (by omega) (hR B (by simp)) (by have:=hl B (by simp);omega)) (by simp[go_sem]) ⟨by simp[go_sem],by simp[go_sem,zF]⟩ (by simp[go_sem]) ?_⟩
    rintro _ rs ⟨rfl,rfl⟩
    cases ha:atL B c with
    |none=>
     have hf:=xc ha
     simp (maxSteps:=1000000) [go_sem,atA,zZ,w2]
     exact zi 2 (by omega) (by simp[go_sem,LeS,leV,leR,leA,leL,xF,ha,hf]) (by omega)
    |some s=>
     have hf:=xi ha
     simp (maxSteps:=1000000) [go_sem,atA,zZ,w2]
     exact zi 2 (by omega) (by simp[go_sem,LeS,leV,leR,leA,leL,xF,ha,hf]) (by omega)
   ·simp (maxSteps:=1000000) [go_sem,w5,zF]
    refine⟨⟨rfl,by simp[Tryz.f104]⟩,zd [] (zfW C c (by omega) (hR C (by simp)) (by have:=hl C (by simp);omega)) (by simp[go_sem]) ⟨by simp[go_sem],by simp[go_sem,zF]⟩ (by simp[go_sem]) ?_⟩
    rintro _ rs ⟨rfl,rfl⟩
    cases ha:atL C c with
    |none=>
     have hf:=xc ha
     simp (maxSteps:=1000000) [go_sem,atA,zZ,w3]
     exact zi 3 (by omega) (by simp[go_sem,LeS,leV,leR,leA,leL,xF,ha,hf]) (by omega)
    |some s=>
     have hf:=xi ha
     simp (maxSteps:=1000000) [go_sem,atA,zZ,w3]
     exact zi 3 (by omega) (by simp[go_sem,LeS,leV,leR,leA,leL,xF,ha,hf]) (by omega)
   ·simp (maxSteps:=1000000) [go_sem,w5,zF]
    refine⟨⟨rfl,by simp[Tryz.f104]⟩,zd [] (zfW D c (by omega) (hR D (by simp)) (by have:=hl D (by simp);omega)) (by simp[go_sem]) ⟨by simp[go_sem],by simp[go_sem,zF]⟩ (by simp[go_sem]) ?_⟩
    rintro _ rs ⟨rfl,rfl⟩
    cases ha:atL D c with
    |none=>
     have hf:=xc ha
     simp (maxSteps:=1000000) [go_sem,atA,zZ,w4]
     exact zi 4 (by omega) (by simp[go_sem,LeS,leV,leR,leA,leL,xF,ha,hf]) (by omega)
    |some s=>
     have hf:=xi ha
     simp (maxSteps:=1000000) [go_sem,atA,zZ,w4]
     exact zi 4 (by omega) (by simp[go_sem,LeS,leV,leR,leA,leL,xF,ha,hf]) (by omega)
   ·simp (maxSteps:=1000000) [go_sem]
    refine zN (fun hz=>?_) (fun hz=>?_)
    ·simp (maxSteps:=1000000) [go_sem]
     refine qm (.p (.int .i64 (Z3 c (xF c 1114111 [A,B,C,D]) [A,B,C,D].flatten))) rfl rfl (fun _=>qk 105 (zmC [A,B,C,D] c (xF c 1114111 [A,B,C,D]) rfl hl (fun m hm s hs=>?_)) rfl ⟨rfl,by simp[Tryz.f105]⟩ ⟨by simp[go_sem],by simp[go_sem,zeT]⟩) ?_
     ·have:=hB m hm s hs
      have:=(hR m hm).le s hs
      omega
     simp (maxSteps:=1000000) [go_sem,wi]
     rw[YK,if_pos hz]at htk
     exact⟨by omega,zi (i+1) (by omega) (by simp[go_sem,LeS,leV,leR,leA,leL,htk,JE,qB,Qc,wJ]) (by omega)⟩
    ·simp (maxSteps:=1000000) [go_sem,wi]
     rw[YK,if_neg (by simp[hz]),List.append_nil]at htk
     exact zi (i+1) (by omega) (by simp[go_sem,LeS,leV,leR,leA,leL,htk]) (by omega)
  ·obtain rfl:i=at_.length:=by omega
   simp (maxSteps:=1000000) [go_sem]
   have hpl:(jU A B C D at_).length≤10000:=by
    have h1:=List.length_filter_le (fun a=>Qc A B C D a !=yT) at_
    simp only[jU,List.length_map]
    omega
   refine⟨⟨rfl,by simp[Tryz.f106]⟩,zd [] (ziB (jU A B C D at_) 1114112 (by omega) (by omega) (by omega) (fun p hp=>?_)) (by simp[go_sem]) ⟨by simp[go_sem],by simp[go_sem,xk]⟩ (by simp[go_sem]) ?_⟩
   ·obtain⟨a,ha,rfl⟩:=List.mem_map.1 hp
    have:=hat a (List.mem_filter.1 ha).1
    simp only[wJ]
    omega
   rintro _ rs ⟨rfl,e,rfl,idx,blocks,rfl,he⟩
   simp (maxSteps:=1000000) [go_sem]
   refine zA [] (.p (.pt 3 (Qy 4 1114112 idx blocks))) ⟨rfl,by simp⟩ (by simp[go_sem,zf,leA,leT]) ⟨by simp[go_sem],_,rfl,idx,blocks,rfl,fun j hj=>?_⟩
   have hl4:=ze3 (hR A (by simp)) (hR B (by simp)) (hR C (by simp)) (hR D (by simp)) c1 c2 (j:=j) (by omega) (by omega)
   simp only[yT]at hl4
   show X9 4 idx blocks j (qB (Qc (qv l 5) (qv l 7) (qv l 8) (qv l 3) j))
   rw[←eA,←eB,←eC,←eD,←hl4]
   exact he j hj
structure Zm where
 cls:Nat→Int
 brk:Nat→Int
 cnj:Nat→Int
 flg:Nat→Flags
 par:Nat→jq
structure VL(t:Zm)(c b j f p:PV):Prop where
 c:yb 1 1114112 (fun i=>[.int .i64 (t.cls i)]) c
 b:yb 1 1114112 (fun i=>[.int .i64 (t.brk i)]) b
 j:yb 1 1114112 (fun i=>[.int .i64 (t.cnj i)]) j
 f:yb 4 1114112 (fun i=>qB (t.flg i)) f
 p:yb 2 1114112 (fun i=>qP (t.par i)) p
def xC(c b j f p:PV)(ck cx sk sx:List PV):List AV:=[.p c,.p b,.p j,.p f,.p p,.om [901] ck cx,.om [902] sk sx]
def kd(c b j f p:PV)(ck cx sk sx:List PV):PV:=.pt 7 (.agg [c,b,j,f,p,.mp ck cx,.mp sk sx])
def znd(q:jq):AV:=.tup [.p (.int .i32 q.a),.p (.int .i32 q.b),.p (.bool (!decide (q.a=0) ||!decide (q.b=0)))]
theorem YS [Gi] {t:Zm} {c b j f p:PV}(h:VL t c b j f p)(ck cx sk sx:List PV) {i:Nat}(hi:i<1114112):
  CR Tryz.prog 117 [[0]] [.lp [0] 0,.p (.int .i32 i)] [([0],xC c b j f p ck cx sk sx)] (fun x rs=>x=.p (.int .i64 (t.cls i))∧rs=[([0],xC c b j f p ck cx sk sx)]):=by
 have w1:IntKind.i64.wrap (i:Int)=i:=wrap64 (by omega) (by omega)
 refine zx mixed 5 [] Tryz.func117 rfl (by kernel_rfl) rfl (by simp) (by simp) ?_
 obtain⟨_,_,e,_⟩:=id h.c
 simp (maxSteps:=1000000) [go_sem,Tryz.f117,xC,w1]
 refine⟨⟨rfl,by simp[Tryz.f165]⟩,zd [] (XU h.c (by omega) hi) (by simp[go_sem,zS]) ⟨by simp[go_sem],by simp[go_sem]⟩ (by simp[go_sem]) ?_⟩
 rintro _ rs ⟨rfl,rfl⟩
 simp (maxSteps:=1000000) [go_sem]
 exact zA [[0]] (.p (.int .i64 (t.cls i))) ⟨rfl,by simp⟩ (by simp[go_sem,zf,leA,leT]) ⟨rfl,by simp[go_sem]⟩
theorem zia [Gi] {t:Zm} {c b j f p:PV}(h:VL t c b j f p)(ck cx sk sx:List PV) {i:Nat}(hi:i<1114112):
  CR Tryz.prog 115 [[0]] [.lp [0] 0,.p (.int .i32 i)] [([0],xC c b j f p ck cx sk sx)] (fun x rs=>x=znd (t.par i)∧rs=[([0],xC c b j f p ck cx sk sx)]):=by
 have w1:IntKind.i64.wrap (i:Int)=i:=wrap64 (by omega) (by omega)
 refine zK [4] mixed 8 [] Tryz.func115 rfl (by kernel_rfl) rfl (by simp) (by simp) ?_
 simp (maxSteps:=1000000) [go_sem,Tryz.f115,xC,w1]
 refine⟨⟨rfl,by simp[Tryz.f61]⟩,zd [] (Xz h.p (by omega) hi) (by simp[go_sem,zS]) ⟨by simp[go_sem],by simp[go_sem]⟩ (by simp[go_sem]) ?_⟩
 rintro _ rs ⟨rfl,rfl⟩
 generalize t.par i=q
 simp (maxSteps:=1000000) [go_sem,qP]
 exact zA [[0]] (.tup [.p (.int .i32 q.a),.p (.int .i32 q.b),.p (.bool (!decide (q.a=0) ||!decide (q.b=0)))]) ⟨rfl,by simp⟩ (by simp[go_sem,zf,leA,leT,leP]) ⟨rfl,by simp[go_sem]⟩
def Xg(t:Zm)(i:Nat):Bool:=(!decide ((t.par i).a=0) ||!decide ((t.par i).b=0))&&(decide ((t.par i).b=0) || (t.flg i).o ||!decide (t.cls i=0) ||!decide (t.cls (t.par i).a.toNat=0))
theorem zjJ [Gi] {t:Zm} {c b j f p:PV}(h:VL t c b j f p)(ck cx sk sx:List PV) {i:Nat}(hi:i<1114112)(hp:0≤(t.par i).a∧(t.par i).a<1114112):
  CR Tryz.prog 62 [[0]] [.lp [0] 0,.p (.int .i32 i)] [([0],xC c b j f p ck cx sk sx)] (fun x rs=>x=.p (.bool (Xg t i))∧rs=[([0],xC c b j f p ck cx sk sx)]):=by
 have w1:IntKind.i64.wrap (i:Int)=i:=wrap64 (by omega) (by omega)
 refine zx mixed 8 [] Tryz.func62 rfl (by kernel_rfl) rfl (by simp) (by simp) ?_
 obtain⟨q,hq⟩:∃q,t.par i=q:=⟨_,rfl⟩
 have hpa:=hp
 rw[hq]at hpa
 have hn:((q.a.toNat:Nat):Int)=q.a:=by omega
 simp (maxSteps:=1000000) [go_sem,Tryz.f62,xC]
 refine⟨⟨rfl,by simp[Tryz.f115]⟩,zd [([0],[0]),([901],[901]),([902],[902])] (zia h ck cx sk sx hi) (by simp[go_sem,zS]) ⟨by simp[go_sem],by simp[go_sem]⟩ (by simp[go_sem,xC]) ?_⟩
 rintro _ rs ⟨rfl,rfl⟩
 obtain⟨z,hz⟩:∃z,(!decide (q.a=0) ||!decide (q.b=0))=z:=⟨_,rfl⟩
 simp only[hq,znd,hz]
 have ho:Xg t i=(z&&(decide (q.b=0) || (t.flg i).o ||!decide (t.cls i=0) ||!decide (t.cls q.a.toNat=0))):=by simp only[Xg,hq,hz]
 cases z with
 |false=>
  simp (maxSteps:=1000000) [go_sem]
  exact zA [[0]] (.p (.bool (Xg t i))) ⟨rfl,by simp⟩ (by simp[go_sem,zf,leA,leT, *]) ⟨rfl,by simp[go_sem,xC]⟩
 |true=>
  by_cases hb:q.b=0
  ·simp (maxSteps:=1000000) [go_sem,hb]
   exact zA [[0]] (.p (.bool (Xg t i))) ⟨rfl,by simp⟩ (by simp[go_sem,zf,leA,leT, *]) ⟨rfl,by simp[go_sem,xC]⟩
  ·simp (maxSteps:=1000000) [go_sem,hb,w1,xC]
   refine⟨⟨rfl,by simp[Tryz.f116]⟩,zd [] (XY h.f (by omega) hi) (by simp[go_sem,zS]) ⟨by simp[go_sem],by simp[go_sem]⟩ (by simp[go_sem]) ?_⟩
   rintro _ rs ⟨rfl,rfl⟩
   generalize t.flg i=fl at ho
   cases hfo:fl.o with
   |true=>
    simp (maxSteps:=1000000) [go_sem,qB,hfo]
    exact zA [[0]] (.p (.bool (Xg t i))) ⟨rfl,by simp⟩ (by simp[go_sem,zf,leA,leT, *]) ⟨rfl,by simp[go_sem]⟩
   |false=>
    simp (maxSteps:=1000000) [go_sem,qB,hfo]
    refine⟨⟨rfl,by simp[Tryz.f117]⟩,zd [([0],[0]),([901],[901]),([902],[902])] (YS h ck cx sk sx hi) (by simp[go_sem,zS]) ⟨by simp[go_sem],by simp[go_sem]⟩ (by simp[go_sem,xC]) ?_⟩
    rintro _ rs ⟨rfl,rfl⟩
    by_cases hc:t.cls i=0
    ·simp (maxSteps:=1000000) [go_sem,hc,xC]
     refine⟨⟨rfl,by simp[Tryz.f117]⟩,zd [([0],[0]),([901],[901]),([902],[902])] (YS h ck cx sk sx (i:=q.a.toNat) (by omega)) (by simp[go_sem,zS]) ⟨by simp[go_sem],by simp[go_sem,hn]⟩ (by simp[go_sem,xC]) ?_⟩
     rintro _ rs ⟨rfl,rfl⟩
     simp (maxSteps:=1000000) [go_sem,xC]
     exact zA [[0]] (.p (.bool (Xg t i))) ⟨rfl,by simp⟩ (by simp[go_sem,zf,leA,leT, *]) ⟨rfl,by simp[go_sem]⟩
    ·simp (maxSteps:=1000000) [go_sem,hc,xC]
     exact zA [[0]] (.p (.bool (Xg t i))) ⟨rfl,by simp⟩ (by simp[go_sem,zf,leA,leT, *]) ⟨rfl,by simp[go_sem]⟩
end
end Go.Proofs.YtfjdbbpimklecaaGreatDoor
namespace Go.AM
section
def Vo(g:Gh)(w:World):Gh:=
 ⟨fun b=>match g.K b with
  |.root _=>frW w b
  |.tail _=>max 1 (g.fr b)
  |.prot=>g.fr b,fun _=>.prot⟩
theorem V8 {g:Gh} {w:World} {b:Nat}(h:g.K b=.prot):(Vo g w).fr b=g.fr b:=by simp only[Vo,h]
theorem zig {g:Gh} {w:World} {b:Nat} {t:Tok}(h:g.K b=.root t):(Vo g w).fr b=frW w b:=by simp only[Vo,h]
theorem XF {g:Gh} {w:World} {b:Nat} {t:Tok}(h:g.K b=.tail t):(Vo g w).fr b=max 1 (g.fr b):=by simp only[Vo,h]
theorem zdG [Gi] {g:Gh} {w:World} {rs:List (Tok×List AV)}(hG:GS g w rs):Ext g.fr w (Vo g w).fr w:=fun b o ho=>by
 refine⟨?_,rfl,rfl⟩
 rcases h:g.K b with _|t|t
 ·rw[V8 h];exact ho
 ·obtain⟨_,_,h0,_⟩:=hG.roots b t h
  omega
 ·rw[XF h];omega
theorem zmW [Gi] {g:Gh} {w:World} {rs:List (Tok×List AV)}(hG:GS g w rs):GS (Vo g w) w []:=by
 have hp:∀b,(Vo g w).K b=.prot:=fun _=>rfl
 refine⟨fun b t hk=>(by rw[hp b]at hk;cases hk),fun b b' t hk _=>(by rw[hp b]at hk;cases hk),fun b b' t hk _=>(by rw[hp b]at hk;cases hk),fun b hb=>absurd (hp b) hb,fun b hb=>?_,fun b arr e=>?_⟩
 ·have:g.K b=.prot:=by
   rcases h:g.K b with _|t|t
   ·rfl
   all_goals exact absurd (hG.own b (by rw[h];simp)) (by omega)
  rw[V8 this]
  exact hG.frb b hb
 ·obtain⟨_,h2⟩:=hG.gl b arr e
  exact⟨rfl,h2⟩
def zkU [Gi](rs:List (Tok×List AV))(x x':AV):Prop:=∀g w v,GS g w rs→zb g w x v→zb (Vo g w) w x' v
theorem CR.zl2 [Gi] {P:Program} {f:FuncId} {args:List AV} {rs:List (Tok×List AV)} {R R':AV→List (Tok×List AV)→Prop}(h:CR P f [] args rs R)
  (hr:∀x rs',R x rs'→∃x',zkU rs' x x'∧R' x' []):CR P f [] args rs R':=by
 intro w g vs h1 h2
 refine(h w g vs h1 h2).mono ?_
 rintro e w' ⟨v,x,rs',g',rfl,hR,hx,hG,hA⟩
 obtain⟨x',hf,hR'⟩:=hr x rs' hR
 refine⟨v,x',_,Vo g' w',rfl,hR',hf g' w' v hG hx,zmW hG,⟨fun b hb hk=>?_,hA.ext.trans (zdG hG),hA.out,hA.mono,fun b t hk ht=>by cases ht⟩⟩
 obtain⟨a1,a2,a3⟩:=hA.frame b hb hk
 exact⟨a1,by rw[V8 a3];exact a2,rfl⟩
def zj7:AV→Option PV
 |.p x=>some x
 |.os _ z es=>some (.sl z es)
 |.om _ ks xs=>some (.mp ks xs)
 |_=>none
def zlh:List AV→Option (List PV)
 | []=>some []
 |x::l=>match zj7 x,zlh l with
  |some y,some ys=>some (y::ys)
  |_,_=>none
theorem zhd [Gi] {g:Gh} {w:World} {rs:List (Tok×List AV)}(hG:GS g w rs) {x:AV} {y:PV} {v:Value}(h:zj7 x=some y)(r:zb g w x v):zl (Vo g w).fr w y v:=by
 have hx:=zdG hG
 cases x with
 |p x=>simp only[zj7,Option.some.injEq]at h;subst h;simp only[zb]at r;exact r.ext hx
 |os t z es=>simp only[zj7,Option.some.injEq]at h;subst h;simp only[zb]at r;exact zl.ext hx _ _ r.1
 |om t ks xs=>
  simp only[zj7,Option.some.injEq]at h;subst h
  simp only[zb]at r
  obtain⟨b,arr,c,rfl,hk,h0,hm,r1,r2⟩:=r
  simp only[zl]
  exact⟨b,arr,c,rfl,by rw[XF hk];omega,hm,r1.ext hx,r2.ext hx⟩
 |_=>cases h
theorem XZ [Gi] {g:Gh} {w:World} {rs:List (Tok×List AV)}(hG:GS g w rs):∀{xs:List AV} {ys:List PV} {vs:List Value},zlh xs=some ys→(∀u∈vs,u.oneCell'=true)→zo g w xs vs→zw (Vo g w).fr w ys vs
 | [],ys,vs,h,_,r=>by simp only[zlh,Option.some.injEq]at h;subst h;simp only[zo]at r;simp only[zw];exact r
 |x::xs,ys,vs,h,h1,r=>by
  simp only[zlh]at h
  split at h
  ·rename_i y ys' e1 e2
   simp only[Option.some.injEq]at h;subst h
   simp only[zo]at r
   obtain⟨v,vs',rfl,r1,r2⟩:=r
   simp only[zw]
   exact⟨v,vs',rfl,h1 v (by simp),zhd hG e1 r1,XZ hG e2 (fun u hu=>h1 u (by simp[hu])) r2⟩
  ·cases h
theorem zmT [Gi] {rs:List (Tok×List AV)} {t:Tok} {cs:List AV} {ps:List PV}(hl:zn rs t=some cs)(hp:zlh cs=some ps):zkU rs (.lp t 0) (.p (.pt cs.length (.agg ps))):=by
 intro g w v hG hv
 simp only[zb]at hv
 obtain⟨b,hk,rfl⟩:=hv
 obtain⟨cs',hl',hfr,arr,T,hb,hle,hc⟩:=hG.roots b t hk
 rw[hl]at hl';injection hl' with hl';subst hl'
 have hfb:(Vo g w).fr b=arr.size:=by rw[zig hk];simp[frW,hb]
 have hRC:zo g w cs (arr.toList.take cs.length)∧∀u∈arr.toList.take cs.length,u.oneCell'=true:=by
  have key:∀(ys:List AV) (vs:List Value),ys.length=vs.length→(∀(j:Nat) (x:AV),ys[j]?=some x→∃v,vs[j]?=some v∧v.oneCell'=true∧zb g w x v)→zo g w ys vs∧∀u∈vs,u.oneCell'=true:=by
   intro ys
   induction ys with
   |nil=>intro vs hl _;cases vs with
    |nil=>exact⟨by simp[zo],by simp⟩
    |cons v vs=>simp at hl
   |cons y ys ih=>
    intro vs hl hh
    cases vs with
    |nil=>simp at hl
    |cons v vs=>
     obtain⟨u,hu,h1,hr⟩:=hh 0 y rfl
     simp at hu;subst hu
     obtain⟨i1,i2⟩:=ih vs (by simpa using hl) (fun j x hj=>by simpa using hh (j+1) x (by simpa using hj))
     refine⟨by simp only[zo];exact⟨v,vs,rfl,hr,i1⟩,fun u hu=>?_⟩
     rcases List.mem_cons.1 hu with rfl|hu
     ·exact h1
     ·exact i2 u hu
  refine key cs _ (by simp;omega) (fun j x hj=>?_)
  obtain⟨v,hv,h1,hr⟩:=hc j x hj
  exact⟨v,by rw[List.getElem?_take,if_pos (List.getElem?_eq_some_iff.1 hj).1];simpa using hv,h1,hr⟩
 have hP:=XZ hG hp hRC.2 hRC.1
 simp only[zb,zl]
 refine⟨b,0,rfl,by rw[hfb];omega,.agg (arr.toList.take cs.length).toArray,⟨_,rfl,by simpa using hP⟩,by simp[Value.cells];omega,fun j c hj=>?_⟩
 have hj':(arr.toList.take cs.length)[j]?=some c:=by simpa[Value.cells]using hj
 refine⟨hRC.2 c (List.mem_of_getElem? hj'),?_⟩
 rw[z8 hb,Nat.zero_add]
 rw[List.getElem?_take]at hj'
 split at hj'
 ·simpa using hj'
 ·cases hj'
end
end Go.AM
namespace Go.Proofs.YtfjdbbpimklecaaGreatDoor
section
open Go.AM
theorem ZB.num [Gi] {l:List Row} {k:Int}(h:ZB l k)(hn:l.length<2^31):CR Tryz.prog 57 [] [.p (z6 l),.p (.int .i64 k)] [] (fun x rs=>rs=[]∧∃e,x=.p e∧yb 1 1114112 (fun j=>[.int .i64 (qY 0 j ((qv l k).map QP))]) e):=
 zeM l k h.rise h.b hn h.n h.nJ (fun s hs=>by
  have:=h.bJ s hs
  have:=h.riseJ.le s hs
  omega)
def zor:OT:=.now 0 0 (.now 1 0 (.now 2 0 (.now 3 0 (.now 4 0 (.now 5 0 (.now 6 0 (.now 7 0 (.now 8 0 (.now 9 2 (.now 11 2 (.mk [(10,.mk [(12,.now 13 0 (.mk [(14,.mk [(15,.now 16 0 (.mk [(17,.mk [])]))])]))]),(12,.now 13 0 (.mk [(10,.mk [(14,.mk [(15,.now 16 0 (.mk [(17,.mk [])]))])]),(14,.now 10 0 (.mk [(15,.now 16 0 (.mk [(17,.mk [])]))]))]))])))))))))))
def zmo:OT:=.now 0 0 (.now 1 0 (.now 2 0 (.now 3 0 (.now 4 0 (.now 5 0 (.now 6 0 (.now 7 0 (.now 8 0 (.now 9 0 (.now 10 0 (.mk [])))))))))))
def yn(s:Span):Piece jq:=⟨s.f,s.t,⟨s.a,s.b⟩⟩
def qX(l:List Row):Zm where
 cls i:=qY 0 i ((qv l 1).map QP)
 brk i:=qY 0 i ((qv l 4).map QP)
 cnj i:=qY 0 i ((qv l 6).map QP)
 flg i:=Qc (qv l 5) (qv l 7) (qv l 8) (qv l 3) i
 par i:=qY ⟨0,0⟩ i ((qv l 2).map yn)
def QX(K:List Int):List PV:=K.map fun k=>.int .i32 k
theorem zdw(K:List Int):(QX K).all (fun k=>okC [.i .i32] k.cells)=true:=by
 simp[QX,okC,PV.cells]
theorem zak(K:List Int):∀x:PV,x∈QX K→(match x with|.agg _=>true|_=>false)=false∧okC [.i .i32] (match x with|.agg cs=>cs|x=>[x])=true:=fun x h=>by
 obtain⟨d,_,rfl⟩:=List.mem_map.1 h;exact⟨rfl,rfl⟩
theorem zeu(c:Int)(K:List Int):(Zd [.int .i32 c] (QX K) (qC K) 0=none∧kX c K=K++[c])∨∃j,Zd [.int .i32 c] (QX K) (qC K) 0=some (j,.bool true)∧kX c K=K∧(qC K).set j (.bool true)=qC K∧j< (qC K).length:=by
 have hn:=jS (kc:=[.i .i32]) (key:=[.int .i32 c]) rfl (ks:=QX K) (xs:=qC K) (i:=0) (zdw K) (by simp[QX,qC])
 by_cases h:c∈K
 ·have hs:Zd [.int .i32 c] (QX K) (qC K) 0≠none:=fun e=>by
   have:=hn.1 e (.int .i32 c) (by simp[QX,h])
   exact this rfl
  obtain⟨⟨j,x⟩,hj⟩:=Option.ne_none_iff_exists'.1 hs
  obtain⟨_,k,h3,h4,h5⟩:=ZS (kc:=[.i .i32]) rfl (zdw K) hj
  have hx:x=.bool true:=by
   simp only[qC,List.getElem?_map,Option.map_eq_some_iff]at h5
   obtain⟨_,_,rfl⟩:=h5;rfl
  subst hx
  have h5':(qC K)[j]?=some (.bool true):=by simpa using h5
  exact .inr ⟨j,hj,if_pos h,yz h5',(List.getElem?_eq_some_iff.1 h5').1⟩
 ·exact .inl ⟨hn.2 fun k hk e=>by
   obtain⟨d,hd,rfl⟩:=List.mem_map.1 hk
   simp only[PV.cells]at e
   injection e with e _;injection e with _ e;subst e
   exact h hd,if_neg h⟩
theorem zdg {ks xs:List PV}(h:ks.length=xs.length)(a b:PV):(xs++[a]).set ks.length b=xs++[b]:=by
 rw[h,List.set_append_right _ _ (Nat.le_refl _)];simp
def ckP(m:List (jq×Int)):List PV:=m.map fun x=>.agg (qP x.1)
def cxP(m:List (jq×Int)):List PV:=m.map fun x=>.int .i32 x.2
theorem ckP_ok(m:List (jq×Int)):(ckP m).all (fun k=>okC [.i .i32,.i .i32] k.cells)=true:=by
 simp[ckP,okC,PV.cells,qP]
theorem ckP_key(m:List (jq×Int)):∀x:PV,x∈ckP m→(match x with|.agg _=>true|_=>false)=true∧okC [.i .i32,.i .i32] (match x with|.agg cs=>cs|x=>[x])=true:=fun x h=>by
 obtain⟨d,_,rfl⟩:=List.mem_map.1 h;exact⟨rfl,rfl⟩
theorem zin {p q:jq}(h:qP p=qP q):p=q:=by
 cases p;cases q;simp only[qP]at h
 injection h with h1 h2;injection h1 with _ h1;injection h2 with h2 _;injection h2 with _ h2
 subst h1;subst h2;rfl
theorem ckP_find(q:jq)(m:List (jq×Int)):(Zd (qP q) (ckP m) (cxP m) 0=none∧∀x∈m,x.1≠q)∨∃j r,Zd (qP q) (ckP m) (cxP m) 0=some (j,.int .i32 r)∧(q,r)∈m:=by
 have hn:=jS (kc:=[.i .i32,.i .i32]) (key:=qP q) rfl (ks:=ckP m) (xs:=cxP m) (i:=0) (ckP_ok m) (by simp[ckP,cxP])
 by_cases h:Zd (qP q) (ckP m) (cxP m) 0=none
 ·exact .inl ⟨h,fun x hx e=>hn.1 h (.agg (qP x.1)) (List.mem_map.2 ⟨x,hx,rfl⟩) (by rw[e];rfl)⟩
 ·obtain⟨⟨j,x⟩,hj⟩:=Option.ne_none_iff_exists'.1 h
  obtain⟨_,k,h3,h4,h5⟩:=ZS (kc:=[.i .i32,.i .i32]) rfl (ckP_ok m) hj
  simp only[Nat.sub_zero,ckP,cxP,List.getElem?_map,Option.map_eq_some_iff]at h3 h5
  obtain⟨y,hy,rfl⟩:=h3
  obtain⟨z,hz,rfl⟩:=h5
  rw[hy]at hz;injection hz with hz;subst hz
  have:=zin h4
  subst this
  exact .inr ⟨j,_,hj,List.mem_of_getElem? hy⟩
def k9(t:Zm)(st:List (jq×Int)×List Int)(r:Nat):List (jq×Int)×List Int:=
 if(∀x∈st.1,x.1≠t.par r)∧Xg t r=false then(st.1++[(t.par r,(r:Int))],kX (t.par r).b st.2)else st
def QO(f n:Nat):List Nat:=(List.range n).map (f+·)
theorem zbL(f n:Nat):QO f (n+1)=QO f n++[f+n]:=by simp[QO,List.range_succ]
def yI(t:Zm)(st:List (jq×Int)×List Int)(s:Span):List (jq×Int)×List Int:=(QO s.f.toNat (s.t.toNat+1-s.f.toNat)).foldl (k9 t) st
theorem zgW {α:Type}(zero:α)(j:Int):∀l:List (Piece α),qY zero j l=zero∨∃p∈l,qY zero j l=p.v
 | []=>.inl rfl
 |p::l=>by
  simp only[qY]
  split
  ·exact .inr ⟨p,by simp,rfl⟩
  ·rcases zgW zero j l with h|⟨q,hq,h⟩
   ·exact .inl h
   ·exact .inr ⟨q,by simp[hq],h⟩
theorem zft [Gi](l:List Row)(hn:l.length<2^31)(h1:ZB l 1)(h2:ZB l 2)(h3:ZB l 3)(h4:ZB l 4)(h5:ZB l 5)(h6:ZB l 6)(h7:ZB l 7)(h8:ZB l 8)
  (hp:∀s∈qv l 2,0≤s.a∧s.a<1114112∧0≤s.b∧s.b<1114112):
  CR Tryz.prog 13 [] [.p (z6 l)] [] (fun x rs=>∃c b j f p,VL (qX l) c b j f p∧x=.lp [25] 0∧rs=[([25],[.p c,.p b,.p j,.p f,.p p,.om [22] (ckP ((qv l 2).foldl (yI (qX l)) ([],[])).1) (cxP ((qv l 2).foldl (yI (qX l)) ([],[])).1),.om [23] (QX ((qv l 2).foldl (yI (qX l)) ([],[])).2) (qC ((qv l 2).foldl (yI (qX l)) ([],[])).2)])]):=by
 refine zK [200017,200019] mixed 14 [28,29,30,56,57,58] Tryz.func13 rfl (by kernel_rfl) rfl (by simp) (by simp) ?_
 simp (maxSteps:=1000000) [go_sem,Tryz.f13]
 refine⟨⟨rfl,by simp[Tryz.f57]⟩,zd [] (h1.num hn) (by simp[go_sem]) ⟨by simp[go_sem],by simp[go_sem]⟩ (by simp[go_sem]) ?_⟩
 rintro _ rs ⟨rfl,c,rfl,hc⟩
 simp (maxSteps:=1000000) [go_sem]
 refine⟨⟨rfl,by simp[Tryz.f57]⟩,zd [] (h4.num hn) (by simp[go_sem]) ⟨by simp[go_sem],by simp[go_sem]⟩ (by simp[go_sem]) ?_⟩
 rintro _ rs ⟨rfl,b,rfl,hb⟩
 simp (maxSteps:=1000000) [go_sem]
 refine⟨⟨rfl,by simp[Tryz.f57]⟩,zd [] (h6.num hn) (by simp[go_sem]) ⟨by simp[go_sem],by simp[go_sem]⟩ (by simp[go_sem]) ?_⟩
 rintro _ rs ⟨rfl,j,rfl,hj⟩
 simp (maxSteps:=1000000) [go_sem]
 refine⟨⟨rfl,by simp[Tryz.f58]⟩,zd [] (zil l hn h5 h7 h8 h3) (by simp[go_sem]) ⟨by simp[go_sem],by simp[go_sem]⟩ (by simp[go_sem]) ?_⟩
 rintro _ rs ⟨rfl,f,rfl,hf⟩
 obtain⟨ci,cb,rfl,hc⟩:=hc
 obtain⟨bi,bb,rfl,hb⟩:=hb
 obtain⟨ji,jb,rfl,hj⟩:=hj
 obtain⟨fi,fb,rfl,hf⟩:=hf
 simp (maxSteps:=1000000) [go_sem]
 refine⟨⟨rfl,rfl⟩,⟨rfl,by simp[Tryz.f59]⟩,zd [] (zau l 2 h2.rise h2.b hn h2.n) (by simp[go_sem]) ⟨by simp[go_sem],by simp[go_sem]⟩ (by simp[go_sem]) ?_⟩
 rintro _ rs ⟨rfl,rfl⟩
 have hn2:=h2.nJ
 have hr2:=h2.riseJ
 have hb2:=h2.bJ
 have hpl:∀i:Nat,(qX l).par i=qY ⟨0,0⟩ i ((qv l 2).map yn):=fun _=>rfl
 generalize hJ:ZR (zL l 2)=J
 have hJ':qv l 2=J:=hJ
 rw[hJ']at hn2 hr2 hb2 hp
 simp only[hJ']at hpl⊢
 obtain⟨M,hM⟩:∃M,M=J.map fun s=>Wt (yn s):=⟨_,rfl⟩
 have hMl:M.length=J.length:=by rw[hM];simp
 simp (maxSteps:=1000000) [go_sem,zF]
 refine zH (fun i:Nat=>i≤J.length) (fun i=>[(4,.os [4] 4 (M.take i)),(30,.p (.int .i64 i))]) (fun _=>[]) (fun i=>J.length-i) 0 (by omega) (by simp[go_sem,LeS,leV,leR,leA,leL]) (fun i hi=>?_)
 simp (maxSteps:=1000000) [go_sem]
 refine zh (fun h=>?_) (fun h=>?_)
 ·have hil:i<J.length:=by omega
  have em:=zp zZ J i hil
  have w1:IntKind.i64.wrap ((i:Int)+1)=((i+1:Nat):Int):=by rw[wrap64 (by omega) (by omega)];rfl
  have htake:M.take (i+1)=M.take i++[Wt (yn J[i])]:=by
   rw[List.take_add_one,hM,List.getElem?_map,List.getElem?_eq_getElem hil];rfl
  have hle:(M.take i).length≤256:=by rw[List.length_take];omega
  have hab:=hp J[i] (List.getElem_mem _)
  generalize J[i]=r at em htake hab
  have w2:IntKind.i32.wrap r.a=r.a:=by simp[IntKind.wrap,IntKind.signed,IntKind.bits];omega
  have w3:IntKind.i32.wrap r.b=r.b:=by simp[IntKind.wrap,IntKind.signed,IntKind.bits];omega
  simp (maxSteps:=1000000) [go_sem,em,h,zZ,w1,w2,w3]
  refine⟨by rw[List.length_take]at hle;omega,zi (i+1) (by omega) (by simp[go_sem,LeS,leV,leR,leA,leL,htake,Wt,yn,qP]) (by omega)⟩
 have hil:i=J.length:=by omega
 subst hil
 have hall:M.take J.length=(J.map yn).map Wt:=by rw[←hMl,List.take_length,hM,List.map_map];rfl
 rw[hall]
 simp (maxSteps:=1000000) [go_sem]
 refine⟨⟨rfl,by simp[Tryz.f60]⟩,zd [] (zhJ (J.map yn) 1114112 (by omega) (by omega) (by simp;omega) (fun p hp'=>?_)) (by simp[go_sem]) ⟨by simp[go_sem],by simp[go_sem,xh]⟩ (by simp[go_sem]) ?_⟩
 ·obtain⟨s,hs,rfl⟩:=List.mem_map.1 hp'
  have:=hb2 s hs
  have:=hr2.le s hs
  simp only[yn]
  omega
 rintro _ rs ⟨rfl,e,rfl,pi,pb,rfl,hpp⟩
 simp (maxSteps:=1000000) [go_sem]
 have hT:VL (qX l) (.pt 3 (Qy 1 1114112 ci cb)) (.pt 3 (Qy 1 1114112 bi bb)) (.pt 3 (Qy 1 1114112 ji jb)) (.pt 3 (Qy 4 1114112 fi fb)) (.pt 3 (Qy 2 1114112 pi pb)):=
  ⟨⟨ci,cb,rfl,hc⟩,⟨bi,bb,rfl,hb⟩,⟨ji,jb,rfl,hj⟩,⟨fi,fb,rfl,hf⟩,⟨pi,pb,rfl,fun i hi=>by have e:=hpp i hi;rw[←hJ']at e;exact e⟩⟩
 generalize PV.pt 3 (Qy 1 1114112 ci cb)=c at hT
 generalize PV.pt 3 (Qy 1 1114112 bi bb)=b at hT
 generalize PV.pt 3 (Qy 1 1114112 ji jb)=j at hT
 generalize PV.pt 3 (Qy 4 1114112 fi fb)=f at hT
 generalize PV.pt 3 (Qy 2 1114112 pi pb)=p at hT
 have hpr:∀i:Nat,0≤((qX l).par i).a∧((qX l).par i).a<1114112:=fun i=>by
  rw[hpl]
  rcases zgW (⟨0,0⟩:jq) i (J.map yn)with h|⟨q,hq,h⟩
  ·rw[h];decide
  ·rw[h]
   obtain⟨x,hx,rfl⟩:=List.mem_map.1 hq
   have:=hp x hx
   exact⟨this.1,this.2.1⟩
 generalize qX l=t at hT hpr⊢
 clear hpp hpl hc hb hj hf hall
 have cells:∀a b c d:List PV,True:=fun _ _ _ _=>trivial
 refine zH (fun i:Nat=>i≤J.length) (fun i=>[(58,.p (.int .i64 i))]) (fun i=>[([25],[.p c,.p b,.p j,.p f,.p p,.om [22] (ckP ((J.take i).foldl (yI t) ([],[])).1) (cxP ((J.take i).foldl (yI t) ([],[])).1),.om [23] (QX ((J.take i).foldl (yI t) ([],[])).2) (qC ((J.take i).foldl (yI t) ([],[])).2)])]) (fun i=>J.length-i) 0 (by omega) (by simp[go_sem,LeS,leV,leR,leA,leL,ckP,cxP,QX,qC]) (fun i hi=>?_)
 simp (maxSteps:=1000000) [go_sem]
 refine zh (fun h=>?_) (fun h=>?_)
 ·have hil:i<J.length:=by omega
  have em:=zp zZ J i hil
  have w1:IntKind.i64.wrap ((i:Int)+1)=((i+1:Nat):Int):=by rw[wrap64 (by omega) (by omega)];rfl
  have htk:(J.take (i+1)).foldl (yI t) ([],[])=yI t ((J.take i).foldl (yI t) ([],[])) J[i]:=by
   rw[List.take_add_one,List.getElem?_eq_getElem hil,List.foldl_append];rfl
  have hs2:=hb2 J[i] (List.getElem_mem _)
  have hs3:=hr2.le J[i] (List.getElem_mem _)
  generalize J[i]=s at em htk hs2 hs3
  generalize (J.take i).foldl (yI t) ([],[])=st at htk
  obtain⟨sf,sz,sa,sb⟩:=s
  simp only at hs2 hs3
  obtain⟨f0,rfl⟩:=Int.eq_ofNat_of_zero_le hs2.1
  obtain⟨t0,rfl⟩:=Int.eq_ofNat_of_zero_le (Int.le_trans hs2.1 hs3)
  have w2:IntKind.i32.wrap (f0:Int)=f0:=by simp[IntKind.wrap,IntKind.signed,IntKind.bits];omega
  simp (maxSteps:=1000000) [go_sem,em,h,zZ,w2]
  refine zH (fun k:Nat=>f0+k≤t0+1) (fun k=>[(10,.p (.int .i32 ((f0+k:Nat):Int)))]) (fun k=>[([25],[.p c,.p b,.p j,.p f,.p p,.om [22] (ckP ((QO f0 k).foldl (k9 t) st).1) (cxP ((QO f0 k).foldl (k9 t) st).1),.om [23] (QX ((QO f0 k).foldl (k9 t) st).2) (qC ((QO f0 k).foldl (k9 t) st).2)])]) (fun k=>t0+1-f0-k) 0 (by omega) (by simp[go_sem,LeS,leV,leR,leA,leL,QO]) (fun k hk=>?_)
  obtain⟨r,hr⟩:∃r,r=f0+k:=⟨_,rfl⟩
  have hstep:=zbL f0 k
  have w3:IntKind.i64.wrap (r:Int)=r:=wrap64 (by omega) (by omega)
  have w4:IntKind.i32.wrap ((r:Int)+1)=((r+1:Nat):Int):=by simp[IntKind.wrap,IntKind.signed,IntKind.bits];omega
  have ek:(f0:Int)+((k:Int)+1)=(r:Int)+1:=by omega
  simp only[←hr]at hstep⊢
  simp (maxSteps:=1000000) [go_sem,w3]
  refine zh (fun h5=>?_) (fun h5=>?_)
  ·have hstep2:(QO f0 (k+1)).foldl (k9 t) st=k9 t ((QO f0 k).foldl (k9 t) st) r:=by rw[hstep,List.foldl_append];rfl
   generalize (QO f0 k).foldl (k9 t) st=sk at hstep2
   obtain⟨q,hq⟩:∃q,t.par r=q:=⟨_,rfl⟩
   simp (maxSteps:=1000000) [go_sem,w3]
   refine⟨⟨rfl,by simp[Tryz.f61]⟩,zd [] (Xz hT.p (by omega) (i:=r) (by omega)) (by simp[go_sem]) ⟨by simp[go_sem],by simp[go_sem]⟩ (by simp[go_sem]) ?_⟩
   rintro _ rs ⟨rfl,rfl⟩
   rw[hq]
   rcases ckP_find q sk.1 with ⟨hf1,hf2⟩|⟨jj,x,hf1,hf2⟩
   ·simp (maxSteps:=1000000) [go_sem,qP]
    refine QL zmo (by kernel_rfl) ?_
    simp only[qP]at hf1
    simp (maxSteps:=1000000) [go_sem,zmo,ZF,mapOf,jX,hf1]
    refine⟨ckP_key _,⟨rfl,by simp[Tryz.f62]⟩,zd [([0],[25]),([901],[22]),([902],[23])] (zjJ hT (ckP sk.1) (cxP sk.1) (QX sk.2) (qC sk.2) (i:=r) (by omega) (hpr r)) (by simp[go_sem,zS]) ⟨by simp[go_sem],by simp[go_sem]⟩ (by simp[go_sem,xC]) ?_⟩
    rintro _ rs ⟨rfl,rfl⟩
    cases ho:Xg t r with
    |true=>
     have hs1:k9 t sk r=sk:=by unfold k9;rw[if_neg (fun h=>by rw[ho]at h;simp at h)]
     simp (maxSteps:=1000000) [go_sem,xC,w4]
     exact zi (k+1) (by omega) (by simp[go_sem,LeS,leV,leR,leA,leL,hstep2,hs1,ek]) (by omega)
    |false=>
     have hs1:k9 t sk r=(sk.1++[(q,(r:Int))],kX q.b sk.2):=by unfold k9;rw[if_pos ⟨by rw[hq];exact hf2,ho⟩,hq]
     simp (maxSteps:=1000000) [go_sem,xC]
     refine QL zor (by kernel_rfl) ?_
     have l1:(ckP sk.1).length=(cxP sk.1).length:=by simp[ckP,cxP]
     have l2:(QX sk.2).length=(qC sk.2).length:=by simp[QX,qC]
     have e1:=zdg l1 (.int .i32 0) (.int .i32 r)
     have e2:=zdg l2 (.bool false) (.bool true)
     have e3:ckP sk.1++[.agg [.int .i32 q.a,.int .i32 q.b]]=ckP (sk.1++[(q,(r:Int))]):=by simp[ckP,qP]
     have e4:cxP sk.1++[.int .i32 (r:Int)]=cxP (sk.1++[(q,(r:Int))]):=by simp[cxP]
     have l3:(ckP sk.1).length< (cxP sk.1).length+1:=by omega
     have l4:(QX sk.2).length< (qC sk.2).length+1:=by omega
     rcases zeu q.b sk.2 with ⟨g1,g2⟩|⟨j2,g1,g2,g3,g4⟩
     ·have e5:QX sk.2++[.int .i32 q.b]=QX (kX q.b sk.2):=by rw[g2];simp[QX]
      have e6:qC sk.2++[.bool true]=qC (kX q.b sk.2):=by rw[g2];simp[qC]
      simp (maxSteps:=1000000) [go_sem,zor,hf1,g1,e1,e2,l3,l4]
      exact⟨ckP_key _,zak _,zi (k+1) (by omega) (by simp[go_sem,LeS,leV,leR,leA,leL,hstep2,hs1,ek,w4,←e3,←e4,←e5,←e6]) (by omega)⟩
     ·simp (maxSteps:=1000000) [go_sem,zor,hf1,g1,e1,g3,g4,l3]
      exact⟨ckP_key _,zak _,zi (k+1) (by omega) (by simp[go_sem,LeS,leV,leR,leA,leL,hstep2,hs1,ek,w4,←e3,←e4,g2]) (by omega)⟩
   ·have hs1:k9 t sk r=sk:=by unfold k9;rw[if_neg (fun h=>h.1 _ hf2 hq.symm)]
    simp (maxSteps:=1000000) [go_sem,qP]
    refine QL zmo (by kernel_rfl) ?_
    simp only[qP]at hf1
    simp (maxSteps:=1000000) [go_sem,zmo,ZF,mapOf,jX,hf1,w4]
    exact⟨ckP_key _,zi (k+1) (by omega) (by simp[go_sem,LeS,leV,leR,leA,leL,hstep2,hs1,ek]) (by omega)⟩
  ·have hk2:k=t0+1-f0:=by omega
   simp (maxSteps:=1000000) [go_sem,w1]
   have hfin:yI t st ⟨f0,t0,sa,sb⟩=(QO f0 k).foldl (k9 t) st:=by simp[yI,hk2]
   exact zi (i+1) (by omega) (by simp[go_sem,LeS,leV,leR,leA,leL,htk,hfin]) (by omega)
 ·obtain rfl:i=J.length:=by omega
  simp (maxSteps:=1000000) [go_sem]
  exact zA [[25]] (.lp [25] 0) ⟨rfl,by simp⟩ (by simp[go_sem,zf,leA,leT]) ⟨c,b,j,f,p,hT,rfl,by simp[go_sem]⟩
def made(l:List Row):List (jq×Int)×List Int:=(qv l 2).foldl (yI (qX l)) ([],[])
theorem zjP [Gi](l:List Row)(hn:l.length<2^31)(h1:ZB l 1)(h2:ZB l 2)(h3:ZB l 3)(h4:ZB l 4)(h5:ZB l 5)(h6:ZB l 6)(h7:ZB l 7)(h8:ZB l 8)
  (hp:∀s∈qv l 2,0≤s.a∧s.a<1114112∧0≤s.b∧s.b<1114112):
  CR Tryz.prog 13 [] [.p (z6 l)] [] (fun x rs=>rs=[]∧∃c b j f p,VL (qX l) c b j f p∧x=.p (kd c b j f p (ckP (made l).1) (cxP (made l).1) (QX (made l).2) (qC (made l).2))):=by
 refine CR.zl2 (zft l hn h1 h2 h3 h4 h5 h6 h7 h8 hp) ?_
 rintro x rs ⟨c,b,j,f,p,hT,rfl,rfl⟩
 exact⟨_,zmT rfl rfl,rfl,c,b,j,f,p,hT,rfl⟩
end
end Go.Proofs.YtfjdbbpimklecaaGreatDoor
