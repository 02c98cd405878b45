/- A part of the proof of this seat's statements, by an abstract machine: what each operation does to values, and what the law's functions compute. Conditions: as each law says. -/
import Derived.Test.YtjefahhmkcfiiaaGreatM25
import Derived.Test.YtjefahhmkcfiiaaGreatM26
import Derived.Test.YtjefahhmkcfiiaaGreatM27
import Derived.Test.YtjefahhmkcfiiaaGreatM24
section
namespace Go.Proofs.YtjefahhmkcfiiaaGreat
open Go.AM
set_option maxHeartbeats 4000000
set_option maxRecDepth 10000
def kindL(l:List Row)(k:Int):List Span:=joinedL (spansOf l k)
structure KindOK(l:List Row)(k:Int):Prop where
 rise:Rises (spansOf l k)
 b:∀s∈spansOf l k, -1000000000≤s.t∧s.t≤1000000000
 n:(spansOf l k).length<256
 riseJ:Rises (kindL l k)
 bJ:∀s∈kindL l k,0≤s.f∧s.t≤1114111
 nJ:(kindL l k).length<256
theorem flagAt_some {l:List Span} {c:Int} {s:Span}(h:atL l c=some s):flagAt l c=decide (s.a=1):=by
 simp only[flagAt,h];by_cases e:s.a=1<;>simp[e]
theorem flagAt_none {l:List Span} {c:Int}(h:atL l c=none):flagAt l c=false:=by simp only[flagAt,h]
theorem flags4_any(A B C D:List Span)(c:Int):(flags4 A B C D c !=flags0)=(flagAt A c || (flagAt B c || (flagAt C c || flagAt D c))):=by
 simp only[flags4,flags0]
 cases flagAt A c<;>cases flagAt B c<;>cases flagAt C c<;>cases flagAt D c<;>rfl
def nilS:PV:=.opq (.slice none 0 0)
theorem truths_cr [Gi](l:List Row)(hn:l.length<2^31)(h5:KindOK l 5)(h7:KindOK l 7)(h8:KindOK l 8)(h3:KindOK l 3):
  CR Tryz.prog 66 [] [.p (rowsP l)] [] (fun x rs=>rs=[]∧∃e,x=.p e∧TrieV 4 1114112 (fun j=>flagsL (flags4 (kindL l 5) (kindL l 7) (kindL l 8) (kindL l 3) j)) e):=by
 refine CR_of_wpD [23] mixed 16 [17,18,29,30,31,35,36] Tryz.func66 rfl (by kernel_rfl) rfl (by simp) (by simp) ?_
 simp (maxSteps:=1000000) [go_sem,Tryz.f66]
 have hw:∀x:Int,0≤x→x≤4→IntKind.i64.wrap x=x:=fun x h1 h2=>wrap64 (by omega) (by omega)
 have w1:=hw 1 (by omega) (by omega)
 have w2:=hw 2 (by omega) (by omega)
 have w3:=hw 3 (by omega) (by omega)
 have w4:=hw 4 (by omega) (by omega)
 obtain⟨A,eA⟩:∃A,A=kindL l 5:=⟨_,rfl⟩
 obtain⟨B,eB⟩:∃A,A=kindL l 7:=⟨_,rfl⟩
 obtain⟨C,eC⟩:∃A,A=kindL l 8:=⟨_,rfl⟩
 obtain⟨D,eD⟩:∃A,A=kindL l 3:=⟨_,rfl⟩
 refine⟨rfl,wpA_loopU (fun i:Nat=>i≤4) (fun i=>[(18,.p (.int .i64 (i:Nat)))]) (fun i=>[([4],[.p (if 0<i then spansP A else nilS),.p (if 1<i then spansP B else nilS),.p (if 2<i then spansP C else nilS),.p (if 3<i then spansP D else nilS)])]) (fun i=>4-i) 0 (by omega) (by simp[go_sem,LeS,leV,leR,leA,leL,nilS]) (fun i hi=>?_)⟩
 have hi':i=0∨i=1∨i=2∨i=3∨i=4:=by omega
 rcases hi' with rfl|rfl|rfl|rfl|rfl
 ·simp (maxSteps:=1000000) [go_sem]
  refine⟨⟨rfl,by simp[Tryz.f67]⟩,CallK_of [] (of_cr l 5 h5.rise h5.b hn h5.n) (by simp[go_sem,notHead]) ⟨by simp[go_sem],by simp[go_sem]⟩ (by simp[go_sem]) ?_⟩
  rintro _ rs ⟨rfl,rfl⟩
  simp (maxSteps:=1000000) [go_sem,spansP,nilS,w1]
  exact LoopK_next 1 (by omega) (by simp[go_sem,LeS,leV,leR,leA,leL,nilS,spansP,eA,kindL]) (by omega)
 ·simp (maxSteps:=1000000) [go_sem]
  refine⟨⟨rfl,by simp[Tryz.f67]⟩,CallK_of [] (of_cr l 7 h7.rise h7.b hn h7.n) (by simp[go_sem,notHead]) ⟨by simp[go_sem],by simp[go_sem]⟩ (by simp[go_sem]) ?_⟩
  rintro _ rs ⟨rfl,rfl⟩
  simp (maxSteps:=1000000) [go_sem,spansP,nilS,w2]
  exact LoopK_next 2 (by omega) (by simp[go_sem,LeS,leV,leR,leA,leL,nilS,spansP,eB,kindL]) (by omega)
 ·simp (maxSteps:=1000000) [go_sem]
  refine⟨⟨rfl,by simp[Tryz.f67]⟩,CallK_of [] (of_cr l 8 h8.rise h8.b hn h8.n) (by simp[go_sem,notHead]) ⟨by simp[go_sem],by simp[go_sem]⟩ (by simp[go_sem]) ?_⟩
  rintro _ rs ⟨rfl,rfl⟩
  simp (maxSteps:=1000000) [go_sem,spansP,nilS,w3]
  exact LoopK_next 3 (by omega) (by simp[go_sem,LeS,leV,leR,leA,leL,nilS,spansP,eC,kindL]) (by omega)
 ·simp (maxSteps:=1000000) [go_sem]
  refine⟨⟨rfl,by simp[Tryz.f67]⟩,CallK_of [] (of_cr l 3 h3.rise h3.b hn h3.n) (by simp[go_sem,notHead]) ⟨by simp[go_sem],by simp[go_sem]⟩ (by simp[go_sem]) ?_⟩
  rintro _ rs ⟨rfl,rfl⟩
  simp (maxSteps:=1000000) [go_sem,spansP,nilS,w4]
  exact LoopK_next 4 (by omega) (by simp[go_sem,LeS,leV,leR,leA,leL,nilS,spansP,eD,kindL]) (by omega)
 ·simp (maxSteps:=1000000) [go_sem]
  have hl:∀m∈[A,B,C,D],m.length<256:=by
   intro m hm
   simp only[List.mem_cons,List.not_mem_nil,or_false]at hm
   rcases hm with rfl|rfl|rfl|rfl
   ·rw[eA];exact h5.nJ
   ·rw[eB];exact h7.nJ
   ·rw[eC];exact h8.nJ
   ·rw[eD];exact h3.nJ
  have hR:∀m∈[A,B,C,D],Rises m:=by
   intro m hm
   simp only[List.mem_cons,List.not_mem_nil,or_false]at hm
   rcases hm with rfl|rfl|rfl|rfl
   ·rw[eA];exact h5.riseJ
   ·rw[eB];exact h7.riseJ
   ·rw[eC];exact h8.riseJ
   ·rw[eD];exact h3.riseJ
  have hB:∀m∈[A,B,C,D],∀s∈m,0≤s.f∧s.t≤1114111:=by
   intro m hm
   simp only[List.mem_cons,List.not_mem_nil,or_false]at hm
   rcases hm with rfl|rfl|rfl|rfl
   ·rw[eA];exact h5.bJ
   ·rw[eB];exact h7.bJ
   ·rw[eC];exact h8.bJ
   ·rw[eD];exact h3.bJ
  refine⟨⟨rfl,by simp[Tryz.f110]⟩,CallK_of [([0],[4])] (cut_cr [A,B,C,D] (by simp) hl (fun m hm s hs=>?_)) (by simp[go_sem,notHead]) ⟨by simp[go_sem],by simp[go_sem]⟩ (by simp[go_sem]) ?_⟩
  ·have:=hB m hm s hs
   have:=(hR m hm).le s hs
   omega
  rintro _ _ ⟨rfl,at_,rfl,c1,c2,c3,c4⟩
  simp (maxSteps:=1000000) [go_sem]
  have hat:∀c∈at_,0≤c∧c≤1114112:=fun c hc=>by
   rcases c3 c hc with rfl|⟨m,hm,q,hq,h⟩
   ·omega
   ·have:=hB m hm q hq
    have:=(hR m hm).le q hq
    omega
  refine wpA_loopU (fun i:Nat=>i≤at_.length) (fun i=>[(31,.p (.int .i64 (i:Nat))),(7,.os [7] 6 ((pieces4 A B C D (at_.take i)).map pieceF))]) (fun _=>[]) (fun i=>at_.length-i) 0 (by omega) (by simp[go_sem,LeS,leV,leR,leA,leL,leL_refl,pieces4]) (fun i hi=>?_)
  simp (maxSteps:=1000000) [go_sem]
  refine condK_if (fun h=>?_) (fun h=>?_)
  ·have hil:i<at_.length:=by omega
   have wi:IntKind.i64.wrap ((i:Int)+1)=((i+1:Nat):Int):=by rw[wrap64 (by omega) (by omega)];rfl
   have em:=elemAt_map (fun k=>PV.int .i64 k) at_ i hil
   have hc:=hat at_[i] (List.getElem_mem _)
   have htk:pieces4 A B C D (at_.take (i+1))=pieces4 A B C D (at_.take i)++(if flags4 A B C D at_[i] !=flags0 then [pieceAt A B C D at_[i]]else []):=by
    rw[List.take_add_one,List.getElem?_eq_getElem hil]
    simp only[pieces4,List.filter_append,List.map_append,Option.toList_some]
    by_cases hz:(flags4 A B C D at_[i] !=flags0)=true<;>simp[hz]
   have hlen:(pieces4 A B C D (at_.take i)).length≤10000:=by
    have h1:=List.length_filter_le (fun a=>flags4 A B C D a !=flags0) (at_.take i)
    simp only[pieces4,List.length_map]
    rw[List.length_take]at h1
    omega
   generalize at_[i]=c at em hc htk
   have w5:IntKind.i32.wrap c=c:=by simp[IntKind.wrap,IntKind.signed,IntKind.bits];omega
   simp (maxSteps:=1000000) [go_sem,em,hil]
   refine wpA_loopU (fun k:Nat=>k≤4) (fun k=>[(36,.p (.int .i64 (k:Nat))),(11,.p (.int .i64 (endL c 1114111 ([A,B,C,D].take k))))]) (fun k=>[([10],[.p (.bool (decide (0<k)&&flagAt A c)),.p (.bool (decide (1<k)&&flagAt B c)),.p (.bool (decide (2<k)&&flagAt C c)),.p (.bool (decide (3<k)&&flagAt D c))])]) (fun k=>4-k) 0 (by omega) (by simp[go_sem,LeS,leV,leR,leA,leL,leL_refl,endL,spansP]) (fun k hk=>?_)
   have hk':k=0∨k=1∨k=2∨k=3∨k=4:=by omega
   rcases hk' with rfl|rfl|rfl|rfl|rfl
   ·simp (maxSteps:=1000000) [go_sem,w5,spansP]
    refine⟨⟨rfl,by simp[Tryz.f111]⟩,CallK_of [] (at_cr A c (by omega) (hR A (by simp)) (by have:=hl A (by simp);omega)) (by simp[go_sem,notHead]) ⟨by simp[go_sem],by simp[go_sem,spansP]⟩ (by simp[go_sem]) ?_⟩
    rintro _ rs ⟨rfl,rfl⟩
    cases ha:atL A c with
    |none=>
     have hf:=flagAt_none ha
     simp (maxSteps:=1000000) [go_sem,atA,spanP,w1]
     exact LoopK_next 1 (by omega) (by simp[go_sem,LeS,leV,leR,leA,leL,leL_refl,endL,ha,hf,spansP]) (by omega)
    |some s=>
     have hf:=flagAt_some ha
     simp (maxSteps:=1000000) [go_sem,atA,spanP,w1]
     exact LoopK_next 1 (by omega) (by simp[go_sem,LeS,leV,leR,leA,leL,leL_refl,endL,ha,hf,spansP]) (by omega)
   ·simp (maxSteps:=1000000) [go_sem,w5,spansP]
    refine⟨⟨rfl,by simp[Tryz.f111]⟩,CallK_of [] (at_cr B c (by omega) (hR B (by simp)) (by have:=hl B (by simp);omega)) (by simp[go_sem,notHead]) ⟨by simp[go_sem],by simp[go_sem,spansP]⟩ (by simp[go_sem]) ?_⟩
    rintro _ rs ⟨rfl,rfl⟩
    cases ha:atL B c with
    |none=>
     have hf:=flagAt_none ha
     simp (maxSteps:=1000000) [go_sem,atA,spanP,w2]
     exact LoopK_next 2 (by omega) (by simp[go_sem,LeS,leV,leR,leA,leL,leL_refl,endL,ha,hf,spansP]) (by omega)
    |some s=>
     have hf:=flagAt_some ha
     simp (maxSteps:=1000000) [go_sem,atA,spanP,w2]
     exact LoopK_next 2 (by omega) (by simp[go_sem,LeS,leV,leR,leA,leL,leL_refl,endL,ha,hf,spansP]) (by omega)
   ·simp (maxSteps:=1000000) [go_sem,w5,spansP]
    refine⟨⟨rfl,by simp[Tryz.f111]⟩,CallK_of [] (at_cr C c (by omega) (hR C (by simp)) (by have:=hl C (by simp);omega)) (by simp[go_sem,notHead]) ⟨by simp[go_sem],by simp[go_sem,spansP]⟩ (by simp[go_sem]) ?_⟩
    rintro _ rs ⟨rfl,rfl⟩
    cases ha:atL C c with
    |none=>
     have hf:=flagAt_none ha
     simp (maxSteps:=1000000) [go_sem,atA,spanP,w3]
     exact LoopK_next 3 (by omega) (by simp[go_sem,LeS,leV,leR,leA,leL,leL_refl,endL,ha,hf,spansP]) (by omega)
    |some s=>
     have hf:=flagAt_some ha
     simp (maxSteps:=1000000) [go_sem,atA,spanP,w3]
     exact LoopK_next 3 (by omega) (by simp[go_sem,LeS,leV,leR,leA,leL,leL_refl,endL,ha,hf,spansP]) (by omega)
   ·simp (maxSteps:=1000000) [go_sem,w5,spansP]
    refine⟨⟨rfl,by simp[Tryz.f111]⟩,CallK_of [] (at_cr D c (by omega) (hR D (by simp)) (by have:=hl D (by simp);omega)) (by simp[go_sem,notHead]) ⟨by simp[go_sem],by simp[go_sem,spansP]⟩ (by simp[go_sem]) ?_⟩
    rintro _ rs ⟨rfl,rfl⟩
    cases ha:atL D c with
    |none=>
     have hf:=flagAt_none ha
     simp (maxSteps:=1000000) [go_sem,atA,spanP,w4]
     exact LoopK_next 4 (by omega) (by simp[go_sem,LeS,leV,leR,leA,leL,leL_refl,endL,ha,hf,spansP]) (by omega)
    |some s=>
     have hf:=flagAt_some ha
     simp (maxSteps:=1000000) [go_sem,atA,spanP,w4]
     exact LoopK_next 4 (by omega) (by simp[go_sem,LeS,leV,leR,leA,leL,leL_refl,endL,ha,hf,spansP]) (by omega)
   ·simp (maxSteps:=1000000) [go_sem]
    refine condK_split (fun hz=>?_) (fun hz=>?_)
    ·simp (maxSteps:=1000000) [go_sem]
     refine HCallK_of (.p (.int .i64 (uptoL c (endL c 1114111 [A,B,C,D]) [A,B,C,D].flatten))) rfl rfl (fun _=>pcallA_of 112 (upto_cr [A,B,C,D] c (endL c 1114111 [A,B,C,D]) rfl hl (fun m hm s hs=>?_)) rfl ⟨rfl,by simp[Tryz.f112]⟩ ⟨by simp[go_sem],by simp[go_sem,spans4]⟩) ?_
     ·have:=hB m hm s hs
      have:=(hR m hm).le s hs
      omega
     simp (maxSteps:=1000000) [go_sem,wi]
     rw[flags4_any,if_pos hz]at htk
     exact⟨by omega,LoopK_next (i+1) (by omega) (by simp[go_sem,LeS,leV,leR,leA,leL,leL_refl,htk,pieceF,flagsL,flags4,pieceAt]) (by omega)⟩
    ·simp (maxSteps:=1000000) [go_sem,wi]
     rw[flags4_any,if_neg (by simp[hz]),List.append_nil]at htk
     exact LoopK_next (i+1) (by omega) (by simp[go_sem,LeS,leV,leR,leA,leL,leL_refl,htk]) (by omega)
  ·obtain rfl:i=at_.length:=by omega
   simp (maxSteps:=1000000) [go_sem]
   have hpl:(pieces4 A B C D at_).length≤10000:=by
    have h1:=List.length_filter_le (fun a=>flags4 A B C D a !=flags0) at_
    simp only[pieces4,List.length_map]
    omega
   refine⟨⟨rfl,by simp[Tryz.f113]⟩,CallK_of [] (buildF_cr (pieces4 A B C D at_) 1114112 (by omega) (by omega) (by omega) (fun p hp=>?_)) (by simp[go_sem,notHead]) ⟨by simp[go_sem],by simp[go_sem,piecesF]⟩ (by simp[go_sem]) ?_⟩
   ·obtain⟨a,ha,rfl⟩:=List.mem_map.1 hp
    have:=hat a (List.mem_filter.1 ha).1
    simp only[pieceAt]
    omega
   rintro _ rs ⟨rfl,e,rfl,idx,blocks,rfl,he⟩
   simp (maxSteps:=1000000) [go_sem]
   refine ret_keep [] (.p (.pt 3 (trieP 4 1114112 idx blocks))) ⟨rfl,by simp⟩ (by simp[go_sem,resOf,leA,leT,leP]) ⟨by simp[go_sem],_,rfl,idx,blocks,rfl,fun j hj=>?_⟩
   have hl4:=truths_law (hR A (by simp)) (hR B (by simp)) (hR C (by simp)) (hR D (by simp)) c1 c2 (j:=j) (by omega) (by omega)
   simp only[flags0]at hl4
   show Tells 4 idx blocks j (flagsL (flags4 (kindL l 5) (kindL l 7) (kindL l 8) (kindL l 3) j))
   rw[←eA,←eB,←eC,←eD,←hl4]
   exact he j hj
end Go.Proofs.YtjefahhmkcfiiaaGreat
end
section
namespace Go.Proofs.YtjefahhmkcfiiaaGreat
open Go.AM
set_option maxHeartbeats 4000000
set_option maxRecDepth 10000
structure Tells4 where
 cls:Nat→Int
 brk:Nat→Int
 cnj:Nat→Int
 flg:Nat→Flags
 par:Nat→Pair
structure TabV(t:Tells4)(c b j f p:PV):Prop where
 c:TrieV 1 1114112 (fun i=>[.int .i64 (t.cls i)]) c
 b:TrieV 1 1114112 (fun i=>[.int .i64 (t.brk i)]) b
 j:TrieV 1 1114112 (fun i=>[.int .i64 (t.cnj i)]) j
 f:TrieV 4 1114112 (fun i=>flagsL (t.flg i)) f
 p:TrieV 2 1114112 (fun i=>pairL (t.par i)) p
def tabR(c b j f p:PV)(ck cx sk sx:List PV):List AV:=[.p c,.p b,.p j,.p f,.p p,.om [901] ck cx,.om [902] sk sx]
def tabP(c b j f p:PV)(ck cx sk sx:List PV):PV:=.pt 7 (.agg [c,b,j,f,p,.mp ck cx,.mp sk sx])
def pairA(q:Pair):AV:=.tup [.p (.int .i32 q.a),.p (.int .i32 q.b),.p (.bool (!decide (q.a=0) ||!decide (q.b=0)))]
theorem class_root [Gi] {t:Tells4} {c b j f p:PV}(h:TabV t c b j f p)(ck cx sk sx:List PV) {i:Nat}(hi:i<1114112):
  CR Tryz.prog 124 [[0]] [.lp [0] 0,.p (.int .i32 i)] [([0],tabR c b j f p ck cx sk sx)] (fun x rs=>x=.p (.int .i64 (t.cls i))∧rs=[([0],tabR c b j f p ck cx sk sx)]):=by
 have w1:IntKind.i64.wrap (i:Int)=i:=wrap64 (by omega) (by omega)
 refine CR_of_wp mixed 5 [] Tryz.func124 rfl (by kernel_rfl) rfl (by simp) (by simp) ?_
 obtain⟨_,_,e,_⟩:=id h.c
 simp (maxSteps:=1000000) [go_sem,Tryz.f124,tabR,w1]
 refine⟨⟨rfl,by simp[Tryz.f170]⟩,CallK_of [] (trieI_get h.c (by omega) hi) (by simp[go_sem,notHead]) ⟨by simp[go_sem],by simp[go_sem]⟩ (by simp[go_sem]) ?_⟩
 rintro _ rs ⟨rfl,rfl⟩
 simp (maxSteps:=1000000) [go_sem]
 exact ret_keep [[0]] (.p (.int .i64 (t.cls i))) ⟨rfl,by simp⟩ (by simp[go_sem,resOf,leA,leT,leP]) ⟨rfl,by simp[go_sem,tabR]⟩
theorem pair_root [Gi] {t:Tells4} {c b j f p:PV}(h:TabV t c b j f p)(ck cx sk sx:List PV) {i:Nat}(hi:i<1114112):
  CR Tryz.prog 122 [[0]] [.lp [0] 0,.p (.int .i32 i)] [([0],tabR c b j f p ck cx sk sx)] (fun x rs=>x=pairA (t.par i)∧rs=[([0],tabR c b j f p ck cx sk sx)]):=by
 have w1:IntKind.i64.wrap (i:Int)=i:=wrap64 (by omega) (by omega)
 refine CR_of_wpD [4] mixed 8 [] Tryz.func122 rfl (by kernel_rfl) rfl (by simp) (by simp) ?_
 simp (maxSteps:=1000000) [go_sem,Tryz.f122,tabR,w1]
 refine⟨⟨rfl,by simp[Tryz.f69]⟩,CallK_of [] (trieP_get h.p (by omega) hi) (by simp[go_sem,notHead]) ⟨by simp[go_sem],by simp[go_sem]⟩ (by simp[go_sem]) ?_⟩
 rintro _ rs ⟨rfl,rfl⟩
 generalize t.par i=q
 simp (maxSteps:=1000000) [go_sem,pairL]
 exact ret_keep [[0]] (.tup [.p (.int .i32 q.a),.p (.int .i32 q.b),.p (.bool (!decide (q.a=0) ||!decide (q.b=0)))]) ⟨rfl,by simp⟩ (by simp[go_sem,resOf,leA,leT,leP]) ⟨rfl,by simp[go_sem,tabR]⟩
def outB(t:Tells4)(i:Nat):Bool:=(!decide ((t.par i).a=0) ||!decide ((t.par i).b=0))&&(decide ((t.par i).b=0) || (t.flg i).o ||!decide (t.cls i=0) ||!decide (t.cls (t.par i).a.toNat=0))
theorem out_root [Gi] {t:Tells4} {c b j f p:PV}(h:TabV t c b j f p)(ck cx sk sx:List PV) {i:Nat}(hi:i<1114112)(hp:0≤(t.par i).a∧(t.par i).a<1114112):
  CR Tryz.prog 70 [[0]] [.lp [0] 0,.p (.int .i32 i)] [([0],tabR c b j f p ck cx sk sx)] (fun x rs=>x=.p (.bool (outB t i))∧rs=[([0],tabR c b j f p ck cx sk sx)]):=by
 have w1:IntKind.i64.wrap (i:Int)=i:=wrap64 (by omega) (by omega)
 refine CR_of_wp mixed 8 [] Tryz.func70 rfl (by kernel_rfl) rfl (by simp) (by simp) ?_
 obtain⟨q,hq⟩:∃q,t.par i=q:=⟨_,rfl⟩
 have hpa:=hp
 rw[hq]at hpa
 have hn:((q.a.toNat:Nat):Int)=q.a:=by omega
 simp (maxSteps:=1000000) [go_sem,Tryz.f70,tabR,w1]
 refine⟨⟨rfl,by simp[Tryz.f122]⟩,CallK_of [([0],[0]),([901],[901]),([902],[902])] (pair_root h ck cx sk sx hi) (by simp[go_sem,notHead]) ⟨by simp[go_sem],by simp[go_sem,tabR]⟩ (by simp[go_sem,tabR]) ?_⟩
 rintro _ rs ⟨rfl,rfl⟩
 obtain⟨z,hz⟩:∃z,(!decide (q.a=0) ||!decide (q.b=0))=z:=⟨_,rfl⟩
 simp only[hq,pairA,hz]
 have ho:outB t i=(z&&(decide (q.b=0) || (t.flg i).o ||!decide (t.cls i=0) ||!decide (t.cls q.a.toNat=0))):=by simp only[outB,hq,hz]
 cases z with
 |false=>
  simp (maxSteps:=1000000) [go_sem]
  exact ret_keep [[0]] (.p (.bool (outB t i))) ⟨rfl,by simp⟩ (by simp[go_sem,resOf,leA,leT,leP,ho, *]) ⟨rfl,by simp[go_sem,tabR]⟩
 |true=>
  by_cases hb:q.b=0
  ·simp (maxSteps:=1000000) [go_sem,hb]
   exact ret_keep [[0]] (.p (.bool (outB t i))) ⟨rfl,by simp⟩ (by simp[go_sem,resOf,leA,leT,leP,ho, *]) ⟨rfl,by simp[go_sem,tabR]⟩
  ·simp (maxSteps:=1000000) [go_sem,hb,w1,tabR]
   refine⟨⟨rfl,by simp[Tryz.f123]⟩,CallK_of [] (trieF_get h.f (by omega) hi) (by simp[go_sem,notHead]) ⟨by simp[go_sem],by simp[go_sem]⟩ (by simp[go_sem]) ?_⟩
   rintro _ rs ⟨rfl,rfl⟩
   generalize t.flg i=fl at ho
   cases hfo:fl.o with
   |true=>
    simp (maxSteps:=1000000) [go_sem,flagsL,hfo]
    exact ret_keep [[0]] (.p (.bool (outB t i))) ⟨rfl,by simp⟩ (by simp[go_sem,resOf,leA,leT,leP,ho, *]) ⟨rfl,by simp[go_sem,tabR]⟩
   |false=>
    simp (maxSteps:=1000000) [go_sem,flagsL,hfo,tabR]
    refine⟨⟨rfl,by simp[Tryz.f124]⟩,CallK_of [([0],[0]),([901],[901]),([902],[902])] (class_root h ck cx sk sx hi) (by simp[go_sem,notHead]) ⟨by simp[go_sem],by simp[go_sem,tabR]⟩ (by simp[go_sem,tabR]) ?_⟩
    rintro _ rs ⟨rfl,rfl⟩
    by_cases hc:t.cls i=0
    ·simp (maxSteps:=1000000) [go_sem,hc,tabR]
     refine⟨⟨rfl,by simp[Tryz.f124]⟩,CallK_of [([0],[0]),([901],[901]),([902],[902])] (class_root h ck cx sk sx (i:=q.a.toNat) (by omega)) (by simp[go_sem,notHead]) ⟨by simp[go_sem],by simp[go_sem,hn,tabR]⟩ (by simp[go_sem,tabR]) ?_⟩
     rintro _ rs ⟨rfl,rfl⟩
     simp (maxSteps:=1000000) [go_sem,tabR]
     exact ret_keep [[0]] (.p (.bool (outB t i))) ⟨rfl,by simp⟩ (by simp[go_sem,resOf,leA,leT,leP,ho, *]) ⟨rfl,by simp[go_sem,tabR]⟩
    ·simp (maxSteps:=1000000) [go_sem,hc,tabR]
     exact ret_keep [[0]] (.p (.bool (outB t i))) ⟨rfl,by simp⟩ (by simp[go_sem,resOf,leA,leT,leP,ho, *]) ⟨rfl,by simp[go_sem,tabR]⟩
end Go.Proofs.YtjefahhmkcfiiaaGreat
end
section
namespace Go.AM
def frzA(g:Gh)(w:World):Gh:=
 ⟨fun b=>match g.K b with
  |.root _=>frW w b
  |.tail _=>max 1 (g.fr b)
  |.prot=>g.fr b,fun _=>.prot⟩
theorem frzA_prot {g:Gh} {w:World} {b:Nat}(h:g.K b=.prot):(frzA g w).fr b=g.fr b:=by simp only[frzA,h]
theorem frzA_root {g:Gh} {w:World} {b:Nat} {t:Tok}(h:g.K b=.root t):(frzA g w).fr b=frW w b:=by simp only[frzA,h]
theorem frzA_tail {g:Gh} {w:World} {b:Nat} {t:Tok}(h:g.K b=.tail t):(frzA g w).fr b=max 1 (g.fr b):=by simp only[frzA,h]
theorem frzA_ext [Gi] {g:Gh} {w:World} {rs:List (Tok×List AV)}(hG:GS g w rs):Ext g.fr w (frzA g w).fr w:=fun b o ho=>by
 refine⟨?_,rfl,rfl⟩
 rcases h:g.K b with _|t|t
 ·rw[frzA_prot h];exact ho
 ·obtain⟨_,_,h0,_⟩:=hG.roots b t h
  omega
 ·rw[frzA_tail h];omega
theorem frzA_GS [Gi] {g:Gh} {w:World} {rs:List (Tok×List AV)}(hG:GS g w rs):GS (frzA g w) w []:=by
 have hp:∀b,(frzA g w).K b=.prot:=fun _=>rfl
 refine⟨fun b t hk=>(by rw[hp b]at hk;cases hk),fun b b' t hk _=>(by rw[hp b]at hk;cases hk),fun b b' t hk _=>(by rw[hp b]at hk;cases hk),fun b hb=>absurd (hp b) hb,fun b hb=>?_,fun b arr e=>?_⟩
 ·have:g.K b=.prot:=by
   rcases h:g.K b with _|t|t
   ·rfl
   all_goals exact absurd (hG.own b (by rw[h];simp)) (by omega)
  rw[frzA_prot this]
  exact hG.frb b hb
 ·obtain⟨_,h2⟩:=hG.gl b arr e
  exact⟨rfl,h2⟩
def FrzAll [Gi](rs:List (Tok×List AV))(x x':AV):Prop:=∀g w v,GS g w rs→RepA g w x v→RepA (frzA g w) w x' v
theorem CR.freezeA [Gi] {P:Program} {f:FuncId} {args:List AV} {rs:List (Tok×List AV)} {R R':AV→List (Tok×List AV)→Prop}(h:CR P f [] args rs R)
  (hr:∀x rs',R x rs'→∃x',FrzAll rs' x x'∧R' x' []):CR P f [] args rs R':=by
 intro w g vs h1 h2
 refine(h w g vs h1 h2).mono ?_
 rintro e w' ⟨v,x,rs',g',rfl,hR,hx,hG,hA⟩
 obtain⟨x',hf,hR'⟩:=hr x rs' hR
 refine⟨v,x',_,frzA g' w',rfl,hR',hf g' w' v hG hx,frzA_GS hG,⟨fun b hb hk=>?_,hA.ext.trans (frzA_ext hG),hA.out,hA.mono,fun b t hk ht=>by cases ht⟩⟩
 obtain⟨a1,a2,a3⟩:=hA.frame b hb hk
 exact⟨a1,by rw[frzA_prot a3];exact a2,rfl⟩
def toM1:AV→Option PV
 |.p x=>some x
 |.os _ z es=>some (.sl z es)
 |.om _ ks xs=>some (.mp ks xs)
 |_=>none
def toMs:List AV→Option (List PV)
 | []=>some []
 |x::l=>match toM1 x,toMs l with
  |some y,some ys=>some (y::ys)
  |_,_=>none
theorem toM1_spec [Gi] {g:Gh} {w:World} {rs:List (Tok×List AV)}(hG:GS g w rs) {x:AV} {y:PV} {v:Value}(h:toM1 x=some y)(r:RepA g w x v):RepP (frzA g w).fr w y v:=by
 have hx:=frzA_ext hG
 cases x with
 |p x=>simp only[toM1,Option.some.injEq]at h;subst h;simp only[RepA]at r;exact r.ext hx
 |os t z es=>simp only[toM1,Option.some.injEq]at h;subst h;simp only[RepA]at r;exact RepP.ext hx _ _ r.1
 |om t ks xs=>
  simp only[toM1,Option.some.injEq]at h;subst h
  simp only[RepA]at r
  obtain⟨b,arr,c,rfl,hk,h0,hm,r1,r2⟩:=r
  simp only[RepP]
  exact⟨b,arr,c,rfl,by rw[frzA_tail hk];omega,hm,r1.ext hx,r2.ext hx⟩
 |_=>cases h
theorem toMs_spec [Gi] {g:Gh} {w:World} {rs:List (Tok×List AV)}(hG:GS g w rs):∀{xs:List AV} {ys:List PV} {vs:List Value},toMs xs=some ys→(∀u∈vs,u.oneCell'=true)→RepAL g w xs vs→RepL (frzA g w).fr w ys vs
 | [],ys,vs,h,_,r=>by simp only[toMs,Option.some.injEq]at h;subst h;simp only[RepAL]at r;simp only[RepL];exact r
 |x::xs,ys,vs,h,h1,r=>by
  simp only[toMs]at h
  split at h
  ·rename_i y ys' e1 e2
   simp only[Option.some.injEq]at h;subst h
   simp only[RepAL]at r
   obtain⟨v,vs',rfl,r1,r2⟩:=r
   simp only[RepL]
   exact⟨v,vs',rfl,h1 v (by simp),toM1_spec hG e1 r1,toMs_spec hG e2 (fun u hu=>h1 u (by simp[hu])) r2⟩
  ·cases h
theorem frzA_pt [Gi] {rs:List (Tok×List AV)} {t:Tok} {cs:List AV} {ps:List PV}(hl:lookT rs t=some cs)(hp:toMs cs=some ps):FrzAll rs (.lp t 0) (.p (.pt cs.length (.agg ps))):=by
 intro g w v hG hv
 simp only[RepA]at hv
 obtain⟨b,hk,rfl⟩:=hv
 obtain⟨cs',hl',hfr,arr,T,hb,hle,hc⟩:=hG.roots b t hk
 rw[hl]at hl';injection hl' with hl';subst hl'
 have hfb:(frzA g w).fr b=arr.size:=by rw[frzA_root hk];simp[frW,hb]
 have hRC:RepAL g w cs (arr.toList.take cs.length)∧∀u∈arr.toList.take cs.length,u.oneCell'=true:=by
  have key:∀(ys:List AV) (vs:List Value),ys.length=vs.length→(∀(j:Nat) (x:AV),ys[j]?=some x→∃v,vs[j]?=some v∧v.oneCell'=true∧RepA g w x v)→RepAL g w ys vs∧∀u∈vs,u.oneCell'=true:=by
   intro ys
   induction ys with
   |nil=>intro vs hl _;cases vs with
    |nil=>exact⟨by simp[RepAL],by simp⟩
    |cons v vs=>simp at hl
   |cons y ys ih=>
    intro vs hl hh
    cases vs with
    |nil=>simp at hl
    |cons v vs=>
     obtain⟨u,hu,h1,hr⟩:=hh 0 y rfl
     simp at hu;subst hu
     obtain⟨i1,i2⟩:=ih vs (by simpa using hl) (fun j x hj=>by simpa using hh (j+1) x (by simpa using hj))
     refine⟨by simp only[RepAL];exact⟨v,vs,rfl,hr,i1⟩,fun u hu=>?_⟩
     rcases List.mem_cons.1 hu with rfl|hu
     ·exact h1
     ·exact i2 u hu
  refine key cs _ (by simp;omega) (fun j x hj=>?_)
  obtain⟨v,hv,h1,hr⟩:=hc j x hj
  exact⟨v,by rw[List.getElem?_take,if_pos (List.getElem?_eq_some_iff.1 hj).1];simpa using hv,h1,hr⟩
 have hP:=toMs_spec hG hp hRC.2 hRC.1
 simp only[RepA,RepP]
 refine⟨b,0,rfl,by rw[hfb];omega,.agg (arr.toList.take cs.length).toArray,⟨_,rfl,by simpa using hP⟩,by simp[Value.cells];omega,fun j c hj=>?_⟩
 have hj':(arr.toList.take cs.length)[j]?=some c:=by simpa[Value.cells]using hj
 refine⟨hRC.2 c (List.mem_of_getElem? hj'),?_⟩
 rw[cell_of_cells hb,Nat.zero_add]
 rw[List.getElem?_take]at hj'
 split at hj'
 ·simpa using hj'
 ·cases hj'
end Go.AM
end
