/- A part of the proof of this seat's statements, by an abstract machine: what each operation does to values, and what the law's functions compute. Conditions: as each law says. -/
import Derived.Test.YtjefahhmkcfiiaaGreatM28
section
namespace Go.Proofs.YtjefahhmkcfiiaaGreat
open Go.AM
set_option maxHeartbeats 4000000
set_option maxRecDepth 10000
theorem KindOK.num [Gi] {l:List Row} {k:Int}(h:KindOK l k)(hn:l.length<2^31):CR Tryz.prog 65 [] [.p (rowsP l),.p (.int .i64 k)] [] (fun x rs=>rs=[]∧∃e,x=.p e∧TrieV 1 1114112 (fun j=>[.int .i64 (valL 0 j ((kindL l k).map pieceOf))]) e):=
 numbers_cr l k h.rise h.b hn h.n h.nJ (fun s hs=>by
  have:=h.bJ s hs
  have:=h.riseJ.le s hs
  omega)
def entT:OT:=.now 0 0 (.now 1 0 (.now 2 0 (.now 3 0 (.now 4 0 (.now 5 0 (.now 6 0 (.now 7 0 (.now 8 0 (.now 9 2 (.now 11 2 (.mk [(10,.mk [(12,.now 13 0 (.mk [(14,.mk [(15,.now 16 0 (.mk [(17,.mk [])]))])]))]),(12,.now 13 0 (.mk [(10,.mk [(14,.mk [(15,.now 16 0 (.mk [(17,.mk [])]))])]),(14,.now 10 0 (.mk [(15,.now 16 0 (.mk [(17,.mk [])]))]))]))])))))))))))
def hasT:OT:=.now 0 0 (.now 1 0 (.now 2 0 (.now 3 0 (.now 4 0 (.now 5 0 (.now 6 0 (.now 7 0 (.now 8 0 (.now 9 0 (.now 10 0 (.mk [])))))))))))
def pieceP2(s:Span):Piece Pair:=⟨s.f,s.t,⟨s.a,s.b⟩⟩
def tells(l:List Row):Tells4 where
 cls i:=valL 0 i ((kindL l 1).map pieceOf)
 brk i:=valL 0 i ((kindL l 4).map pieceOf)
 cnj i:=valL 0 i ((kindL l 6).map pieceOf)
 flg i:=flags4 (kindL l 5) (kindL l 7) (kindL l 8) (kindL l 3) i
 par i:=valL ⟨0,0⟩ i ((kindL l 2).map pieceP2)
def keysR(K:List Int):List PV:=K.map fun k=>.int .i32 k
theorem keysR_ok(K:List Int):(keysR K).all (fun k=>okC [.i .i32] k.cells)=true:=by
 simp[keysR,okC,PV.cells]
theorem keysR_key(K:List Int):∀x:PV,x∈keysR K→(match x with|.agg _=>true|_=>false)=false∧okC [.i .i32] (match x with|.agg cs=>cs|x=>[x])=true:=fun x h=>by
 obtain⟨d,_,rfl⟩:=List.mem_map.1 h;exact⟨rfl,rfl⟩
theorem keysR_find(c:Int)(K:List Int):(findP [.int .i32 c] (keysR K) (truesI K) 0=none∧addK c K=K++[c])∨∃j,findP [.int .i32 c] (keysR K) (truesI K) 0=some (j,.bool true)∧addK c K=K∧(truesI K).set j (.bool true)=truesI K∧j< (truesI K).length:=by
 have hn:=findP_none_iff (kc:=[.i .i32]) (key:=[.int .i32 c]) rfl (ks:=keysR K) (xs:=truesI K) (i:=0) (keysR_ok K) (by simp[keysR,truesI])
 by_cases h:c∈K
 ·have hs:findP [.int .i32 c] (keysR K) (truesI K) 0≠none:=fun e=>by
   have:=hn.1 e (.int .i32 c) (by simp[keysR,h])
   exact this rfl
  obtain⟨⟨j,x⟩,hj⟩:=Option.ne_none_iff_exists'.1 hs
  obtain⟨_,k,h3,h4,h5⟩:=findP_some (kc:=[.i .i32]) rfl (keysR_ok K) hj
  have hx:x=.bool true:=by
   simp only[truesI,List.getElem?_map,Option.map_eq_some_iff]at h5
   obtain⟨_,_,rfl⟩:=h5;rfl
  subst hx
  have h5':(truesI K)[j]?=some (.bool true):=by simpa using h5
  exact .inr ⟨j,hj,if_pos h,set_self h5',(List.getElem?_eq_some_iff.1 h5').1⟩
 ·exact .inl ⟨hn.2 fun k hk e=>by
   obtain⟨d,hd,rfl⟩:=List.mem_map.1 hk
   simp only[PV.cells]at e
   injection e with e _;injection e with _ e;subst e
   exact h hd,if_neg h⟩
theorem set_last {ks xs:List PV}(h:ks.length=xs.length)(a b:PV):(xs++[a]).set ks.length b=xs++[b]:=by
 rw[h,List.set_append_right _ _ (Nat.le_refl _)];simp
def ckP(m:List (Pair×Int)):List PV:=m.map fun x=>.agg (pairL x.1)
def cxP(m:List (Pair×Int)):List PV:=m.map fun x=>.int .i32 x.2
theorem ckP_ok(m:List (Pair×Int)):(ckP m).all (fun k=>okC [.i .i32,.i .i32] k.cells)=true:=by
 simp[ckP,okC,PV.cells,pairL]
theorem ckP_key(m:List (Pair×Int)):∀x:PV,x∈ckP m→(match x with|.agg _=>true|_=>false)=true∧okC [.i .i32,.i .i32] (match x with|.agg cs=>cs|x=>[x])=true:=fun x h=>by
 obtain⟨d,_,rfl⟩:=List.mem_map.1 h;exact⟨rfl,rfl⟩
theorem pairL_inj {p q:Pair}(h:pairL p=pairL q):p=q:=by
 cases p;cases q;simp only[pairL]at h
 injection h with h1 h2;injection h1 with _ h1;injection h2 with h2 _;injection h2 with _ h2
 subst h1;subst h2;rfl
theorem ckP_find(q:Pair)(m:List (Pair×Int)):(findP (pairL q) (ckP m) (cxP m) 0=none∧∀x∈m,x.1≠q)∨∃j r,findP (pairL q) (ckP m) (cxP m) 0=some (j,.int .i32 r)∧(q,r)∈m:=by
 have hn:=findP_none_iff (kc:=[.i .i32,.i .i32]) (key:=pairL q) rfl (ks:=ckP m) (xs:=cxP m) (i:=0) (ckP_ok m) (by simp[ckP,cxP])
 by_cases h:findP (pairL q) (ckP m) (cxP m) 0=none
 ·exact .inl ⟨h,fun x hx e=>hn.1 h (.agg (pairL x.1)) (List.mem_map.2 ⟨x,hx,rfl⟩) (by rw[e];rfl)⟩
 ·obtain⟨⟨j,x⟩,hj⟩:=Option.ne_none_iff_exists'.1 h
  obtain⟨_,k,h3,h4,h5⟩:=findP_some (kc:=[.i .i32,.i .i32]) rfl (ckP_ok m) hj
  simp only[Nat.sub_zero,ckP,cxP,List.getElem?_map,Option.map_eq_some_iff]at h3 h5
  obtain⟨y,hy,rfl⟩:=h3
  obtain⟨z,hz,rfl⟩:=h5
  rw[hy]at hz;injection hz with hz;subst hz
  have:=pairL_inj h4
  subst this
  exact .inr ⟨j,_,hj,List.mem_of_getElem? hy⟩
def bStep(t:Tells4)(st:List (Pair×Int)×List Int)(r:Nat):List (Pair×Int)×List Int:=
 if(∀x∈st.1,x.1≠t.par r)∧outB t r=false then(st.1++[(t.par r,(r:Int))],addK (t.par r).b st.2)else st
def runesOf(f n:Nat):List Nat:=(List.range n).map (f+·)
theorem runesOf_succ(f n:Nat):runesOf f (n+1)=runesOf f n++[f+n]:=by simp[runesOf,List.range_succ]
def bSpan(t:Tells4)(st:List (Pair×Int)×List Int)(s:Span):List (Pair×Int)×List Int:=(runesOf s.f.toNat (s.t.toNat+1-s.f.toNat)).foldl (bStep t) st
theorem valL_or {α:Type}(zero:α)(j:Int):∀l:List (Piece α),valL zero j l=zero∨∃p∈l,valL zero j l=p.v
 | []=>.inl rfl
 |p::l=>by
  simp only[valL]
  split
  ·exact .inr ⟨p,by simp,rfl⟩
  ·rcases valL_or zero j l with h|⟨q,hq,h⟩
   ·exact .inl h
   ·exact .inr ⟨q,by simp[hq],h⟩
theorem build_root [Gi](l:List Row)(hn:l.length<2^31)(h1:KindOK l 1)(h2:KindOK l 2)(h3:KindOK l 3)(h4:KindOK l 4)(h5:KindOK l 5)(h6:KindOK l 6)(h7:KindOK l 7)(h8:KindOK l 8)
  (hp:∀s∈kindL l 2,0≤s.a∧s.a<1114112∧0≤s.b∧s.b<1114112):
  CR Tryz.prog 17 [] [.p (rowsP l)] [] (fun x rs=>∃c b j f p,TabV (tells l) c b j f p∧x=.lp [25] 0∧rs=[([25],[.p c,.p b,.p j,.p f,.p p,.om [22] (ckP ((kindL l 2).foldl (bSpan (tells l)) ([],[])).1) (cxP ((kindL l 2).foldl (bSpan (tells l)) ([],[])).1),.om [23] (keysR ((kindL l 2).foldl (bSpan (tells l)) ([],[])).2) (truesI ((kindL l 2).foldl (bSpan (tells l)) ([],[])).2)])]):=by
 refine CR_of_wpD [200017,200019] mixed 14 [28,29,30,56,57,58] Tryz.func17 rfl (by kernel_rfl) rfl (by simp) (by simp) ?_
 simp (maxSteps:=1000000) [go_sem,Tryz.f17]
 refine⟨⟨rfl,by simp[Tryz.f65]⟩,CallK_of [] (h1.num hn) (by simp[go_sem,notHead]) ⟨by simp[go_sem],by simp[go_sem]⟩ (by simp[go_sem]) ?_⟩
 rintro _ rs ⟨rfl,c,rfl,hc⟩
 simp (maxSteps:=1000000) [go_sem]
 refine⟨⟨rfl,by simp[Tryz.f65]⟩,CallK_of [] (h4.num hn) (by simp[go_sem,notHead]) ⟨by simp[go_sem],by simp[go_sem]⟩ (by simp[go_sem]) ?_⟩
 rintro _ rs ⟨rfl,b,rfl,hb⟩
 simp (maxSteps:=1000000) [go_sem]
 refine⟨⟨rfl,by simp[Tryz.f65]⟩,CallK_of [] (h6.num hn) (by simp[go_sem,notHead]) ⟨by simp[go_sem],by simp[go_sem]⟩ (by simp[go_sem]) ?_⟩
 rintro _ rs ⟨rfl,j,rfl,hj⟩
 simp (maxSteps:=1000000) [go_sem]
 refine⟨⟨rfl,by simp[Tryz.f66]⟩,CallK_of [] (truths_cr l hn h5 h7 h8 h3) (by simp[go_sem,notHead]) ⟨by simp[go_sem],by simp[go_sem]⟩ (by simp[go_sem]) ?_⟩
 rintro _ rs ⟨rfl,f,rfl,hf⟩
 obtain⟨ci,cb,rfl,hc⟩:=hc
 obtain⟨bi,bb,rfl,hb⟩:=hb
 obtain⟨ji,jb,rfl,hj⟩:=hj
 obtain⟨fi,fb,rfl,hf⟩:=hf
 simp (maxSteps:=1000000) [go_sem]
 refine⟨⟨rfl,rfl⟩,⟨rfl,by simp[Tryz.f67]⟩,CallK_of [] (of_cr l 2 h2.rise h2.b hn h2.n) (by simp[go_sem,notHead]) ⟨by simp[go_sem],by simp[go_sem]⟩ (by simp[go_sem]) ?_⟩
 rintro _ rs ⟨rfl,rfl⟩
 have hn2:=h2.nJ
 have hr2:=h2.riseJ
 have hb2:=h2.bJ
 have hpl:∀i:Nat,(tells l).par i=valL ⟨0,0⟩ i ((kindL l 2).map pieceP2):=fun _=>rfl
 generalize hJ:joinedL (spansOf l 2)=J
 have hJ':kindL l 2=J:=hJ
 rw[hJ']at hn2 hr2 hb2 hp
 simp only[hJ']at hpl⊢
 obtain⟨M,hM⟩:∃M,M=J.map fun s=>pieceP (pieceP2 s):=⟨_,rfl⟩
 have hMl:M.length=J.length:=by rw[hM];simp
 simp (maxSteps:=1000000) [go_sem,spansP]
 refine wpA_loopU (fun i:Nat=>i≤J.length) (fun i=>[(4,.os [4] 4 (M.take i)),(30,.p (.int .i64 i))]) (fun _=>[]) (fun i=>J.length-i) 0 (by omega) (by simp[go_sem,LeS,leV,leR,leA,leL]) (fun i hi=>?_)
 simp (maxSteps:=1000000) [go_sem]
 refine condK_if (fun h=>?_) (fun h=>?_)
 ·have hil:i<J.length:=by omega
  have em:=elemAt_map spanP J i hil
  have w1:IntKind.i64.wrap ((i:Int)+1)=((i+1:Nat):Int):=by rw[wrap64 (by omega) (by omega)];rfl
  have htake:M.take (i+1)=M.take i++[pieceP (pieceP2 J[i])]:=by
   rw[List.take_add_one,hM,List.getElem?_map,List.getElem?_eq_getElem hil];rfl
  have hle:(M.take i).length≤256:=by rw[List.length_take];omega
  have hab:=hp J[i] (List.getElem_mem _)
  generalize J[i]=r at em htake hab
  have w2:IntKind.i32.wrap r.a=r.a:=by simp[IntKind.wrap,IntKind.signed,IntKind.bits];omega
  have w3:IntKind.i32.wrap r.b=r.b:=by simp[IntKind.wrap,IntKind.signed,IntKind.bits];omega
  simp (maxSteps:=1000000) [go_sem,em,h,hil,spanP,w1,w2,w3]
  refine⟨by rw[List.length_take]at hle;omega,LoopK_next (i+1) (by omega) (by simp[go_sem,LeS,leV,leR,leA,leL,htake,pieceP,pieceP2,pairL]) (by omega)⟩
 have hil:i=J.length:=by omega
 subst hil
 have hall:M.take J.length=(J.map pieceP2).map pieceP:=by rw[←hMl,List.take_length,hM,List.map_map];rfl
 rw[hall]
 simp (maxSteps:=1000000) [go_sem]
 refine⟨⟨rfl,by simp[Tryz.f68]⟩,CallK_of [] (buildP_cr (J.map pieceP2) 1114112 (by omega) (by omega) (by simp;omega) (fun p hp'=>?_)) (by simp[go_sem,notHead]) ⟨by simp[go_sem],by simp[go_sem,piecesP,pairL]⟩ (by simp[go_sem]) ?_⟩
 ·obtain⟨s,hs,rfl⟩:=List.mem_map.1 hp'
  have:=hb2 s hs
  have:=hr2.le s hs
  simp only[pieceP2]
  omega
 rintro _ rs ⟨rfl,e,rfl,pi,pb,rfl,hpp⟩
 simp (maxSteps:=1000000) [go_sem]
 have hT:TabV (tells l) (.pt 3 (trieP 1 1114112 ci cb)) (.pt 3 (trieP 1 1114112 bi bb)) (.pt 3 (trieP 1 1114112 ji jb)) (.pt 3 (trieP 4 1114112 fi fb)) (.pt 3 (trieP 2 1114112 pi pb)):=
  ⟨⟨ci,cb,rfl,hc⟩,⟨bi,bb,rfl,hb⟩,⟨ji,jb,rfl,hj⟩,⟨fi,fb,rfl,hf⟩,⟨pi,pb,rfl,fun i hi=>by have e:=hpp i hi;rw[←hJ']at e;exact e⟩⟩
 generalize PV.pt 3 (trieP 1 1114112 ci cb)=c at hT
 generalize PV.pt 3 (trieP 1 1114112 bi bb)=b at hT
 generalize PV.pt 3 (trieP 1 1114112 ji jb)=j at hT
 generalize PV.pt 3 (trieP 4 1114112 fi fb)=f at hT
 generalize PV.pt 3 (trieP 2 1114112 pi pb)=p at hT
 have hpr:∀i:Nat,0≤((tells l).par i).a∧((tells l).par i).a<1114112:=fun i=>by
  rw[hpl]
  rcases valL_or (⟨0,0⟩:Pair) i (J.map pieceP2)with h|⟨q,hq,h⟩
  ·rw[h];decide
  ·rw[h]
   obtain⟨x,hx,rfl⟩:=List.mem_map.1 hq
   have:=hp x hx
   exact⟨this.1,this.2.1⟩
 generalize tells l=t at hT hpr⊢
 clear hpp hpl hc hb hj hf hall
 have cells:∀a b c d:List PV,True:=fun _ _ _ _=>trivial
 refine wpA_loopU (fun i:Nat=>i≤J.length) (fun i=>[(58,.p (.int .i64 i))]) (fun i=>[([25],[.p c,.p b,.p j,.p f,.p p,.om [22] (ckP ((J.take i).foldl (bSpan t) ([],[])).1) (cxP ((J.take i).foldl (bSpan t) ([],[])).1),.om [23] (keysR ((J.take i).foldl (bSpan t) ([],[])).2) (truesI ((J.take i).foldl (bSpan t) ([],[])).2)])]) (fun i=>J.length-i) 0 (by omega) (by simp[go_sem,LeS,leV,leR,leA,leL,ckP,cxP,keysR,truesI]) (fun i hi=>?_)
 simp (maxSteps:=1000000) [go_sem]
 refine condK_if (fun h=>?_) (fun h=>?_)
 ·have hil:i<J.length:=by omega
  have em:=elemAt_map spanP J i hil
  have w1:IntKind.i64.wrap ((i:Int)+1)=((i+1:Nat):Int):=by rw[wrap64 (by omega) (by omega)];rfl
  have htk:(J.take (i+1)).foldl (bSpan t) ([],[])=bSpan t ((J.take i).foldl (bSpan t) ([],[])) J[i]:=by
   rw[List.take_add_one,List.getElem?_eq_getElem hil,List.foldl_append];rfl
  have hs2:=hb2 J[i] (List.getElem_mem _)
  have hs3:=hr2.le J[i] (List.getElem_mem _)
  generalize J[i]=s at em htk hs2 hs3
  generalize (J.take i).foldl (bSpan t) ([],[])=st at htk
  obtain⟨sf,sz,sa,sb⟩:=s
  simp only at hs2 hs3
  obtain⟨f0,rfl⟩:=Int.eq_ofNat_of_zero_le hs2.1
  obtain⟨t0,rfl⟩:=Int.eq_ofNat_of_zero_le (Int.le_trans hs2.1 hs3)
  have w2:IntKind.i32.wrap (f0:Int)=f0:=by simp[IntKind.wrap,IntKind.signed,IntKind.bits];omega
  simp (maxSteps:=1000000) [go_sem,em,h,hil,spanP,w1,w2]
  refine wpA_loopU (fun k:Nat=>f0+k≤t0+1) (fun k=>[(10,.p (.int .i32 ((f0+k:Nat):Int)))]) (fun k=>[([25],[.p c,.p b,.p j,.p f,.p p,.om [22] (ckP ((runesOf f0 k).foldl (bStep t) st).1) (cxP ((runesOf f0 k).foldl (bStep t) st).1),.om [23] (keysR ((runesOf f0 k).foldl (bStep t) st).2) (truesI ((runesOf f0 k).foldl (bStep t) st).2)])]) (fun k=>t0+1-f0-k) 0 (by omega) (by simp[go_sem,LeS,leV,leR,leA,leL,runesOf]) (fun k hk=>?_)
  obtain⟨r,hr⟩:∃r,r=f0+k:=⟨_,rfl⟩
  have hstep:=runesOf_succ f0 k
  have w3:IntKind.i64.wrap (r:Int)=r:=wrap64 (by omega) (by omega)
  have w4:IntKind.i32.wrap ((r:Int)+1)=((r+1:Nat):Int):=by simp[IntKind.wrap,IntKind.signed,IntKind.bits];omega
  have ek:(f0:Int)+((k:Int)+1)=(r:Int)+1:=by omega
  simp only[←hr]at hstep⊢
  simp (maxSteps:=1000000) [go_sem,w3]
  refine condK_if (fun h5=>?_) (fun h5=>?_)
  ·have hstep2:(runesOf f0 (k+1)).foldl (bStep t) st=bStep t ((runesOf f0 k).foldl (bStep t) st) r:=by rw[hstep,List.foldl_append];rfl
   generalize (runesOf f0 k).foldl (bStep t) st=sk at hstep2
   obtain⟨q,hq⟩:∃q,t.par r=q:=⟨_,rfl⟩
   simp (maxSteps:=1000000) [go_sem,w3]
   refine⟨⟨rfl,by simp[Tryz.f69]⟩,CallK_of [] (trieP_get hT.p (by omega) (i:=r) (by omega)) (by simp[go_sem,notHead]) ⟨by simp[go_sem],by simp[go_sem,w3]⟩ (by simp[go_sem]) ?_⟩
   rintro _ rs ⟨rfl,rfl⟩
   rw[hq]
   rcases ckP_find q sk.1 with ⟨hf1,hf2⟩|⟨jj,x,hf1,hf2⟩
   ·simp (maxSteps:=1000000) [go_sem,pairL,w3]
    refine TreeK_of hasT (by kernel_rfl) ?_
    simp only[pairL]at hf1
    simp (maxSteps:=1000000) [go_sem,hasT,lookupA,mapOf,lookV,hf1]
    refine⟨ckP_key _,⟨rfl,by simp[Tryz.f70]⟩,CallK_of [([0],[25]),([901],[22]),([902],[23])] (out_root hT (ckP sk.1) (cxP sk.1) (keysR sk.2) (truesI sk.2) (i:=r) (by omega) (hpr r)) (by simp[go_sem,notHead]) ⟨by simp[go_sem],by simp[go_sem]⟩ (by simp[go_sem,tabR]) ?_⟩
    rintro _ rs ⟨rfl,rfl⟩
    cases ho:outB t r with
    |true=>
     have hs1:bStep t sk r=sk:=by unfold bStep;rw[if_neg (fun h=>by rw[ho]at h;simp at h)]
     simp (maxSteps:=1000000) [go_sem,tabR,w4]
     exact LoopK_next (k+1) (by omega) (by simp[go_sem,LeS,leV,leR,leA,leL,hstep2,hs1,ek]) (by omega)
    |false=>
     have hs1:bStep t sk r=(sk.1++[(q,(r:Int))],addK q.b sk.2):=by unfold bStep;rw[if_pos ⟨by rw[hq];exact hf2,ho⟩,hq]
     simp (maxSteps:=1000000) [go_sem,tabR,w4]
     refine TreeK_of entT (by kernel_rfl) ?_
     have l1:(ckP sk.1).length=(cxP sk.1).length:=by simp[ckP,cxP]
     have l2:(keysR sk.2).length=(truesI sk.2).length:=by simp[keysR,truesI]
     have e1:=set_last l1 (.int .i32 0) (.int .i32 r)
     have e2:=set_last l2 (.bool false) (.bool true)
     have e3:ckP sk.1++[.agg [.int .i32 q.a,.int .i32 q.b]]=ckP (sk.1++[(q,(r:Int))]):=by simp[ckP,pairL]
     have e4:cxP sk.1++[.int .i32 (r:Int)]=cxP (sk.1++[(q,(r:Int))]):=by simp[cxP]
     have l3:(ckP sk.1).length< (cxP sk.1).length+1:=by omega
     have l4:(keysR sk.2).length< (truesI sk.2).length+1:=by omega
     rcases keysR_find q.b sk.2 with ⟨g1,g2⟩|⟨j2,g1,g2,g3,g4⟩
     ·have e5:keysR sk.2++[.int .i32 q.b]=keysR (addK q.b sk.2):=by rw[g2];simp[keysR]
      have e6:truesI sk.2++[.bool true]=truesI (addK q.b sk.2):=by rw[g2];simp[truesI]
      simp (maxSteps:=1000000) [go_sem,entT,hf1,g1,e1,e2,l3,l4]
      exact⟨ckP_key _,keysR_key _,LoopK_next (k+1) (by omega) (by simp[go_sem,LeS,leV,leR,leA,leL,hstep2,hs1,ek,w4,←e3,←e4,←e5,←e6]) (by omega)⟩
     ·simp (maxSteps:=1000000) [go_sem,entT,hf1,g1,e1,g3,g4,l3]
      exact⟨ckP_key _,keysR_key _,LoopK_next (k+1) (by omega) (by simp[go_sem,LeS,leV,leR,leA,leL,hstep2,hs1,ek,w4,←e3,←e4,g2]) (by omega)⟩
   ·have hs1:bStep t sk r=sk:=by unfold bStep;rw[if_neg (fun h=>h.1 _ hf2 hq.symm)]
    simp (maxSteps:=1000000) [go_sem,pairL,w3]
    refine TreeK_of hasT (by kernel_rfl) ?_
    simp only[pairL]at hf1
    simp (maxSteps:=1000000) [go_sem,hasT,lookupA,mapOf,lookV,hf1,w4]
    exact⟨ckP_key _,LoopK_next (k+1) (by omega) (by simp[go_sem,LeS,leV,leR,leA,leL,hstep2,hs1,ek]) (by omega)⟩
  ·have hk2:k=t0+1-f0:=by omega
   simp (maxSteps:=1000000) [go_sem,w1]
   have hfin:bSpan t st ⟨f0,t0,sa,sb⟩=(runesOf f0 k).foldl (bStep t) st:=by simp[bSpan,hk2]
   exact LoopK_next (i+1) (by omega) (by simp[go_sem,LeS,leV,leR,leA,leL,htk,hfin]) (by omega)
 ·obtain rfl:i=J.length:=by omega
  simp (maxSteps:=1000000) [go_sem]
  exact ret_keep [[25]] (.lp [25] 0) ⟨rfl,by simp⟩ (by simp[go_sem,resOf,leA,leT]) ⟨c,b,j,f,p,hT,rfl,by simp[go_sem]⟩
def made(l:List Row):List (Pair×Int)×List Int:=(kindL l 2).foldl (bSpan (tells l)) ([],[])
theorem build_cr [Gi](l:List Row)(hn:l.length<2^31)(h1:KindOK l 1)(h2:KindOK l 2)(h3:KindOK l 3)(h4:KindOK l 4)(h5:KindOK l 5)(h6:KindOK l 6)(h7:KindOK l 7)(h8:KindOK l 8)
  (hp:∀s∈kindL l 2,0≤s.a∧s.a<1114112∧0≤s.b∧s.b<1114112):
  CR Tryz.prog 17 [] [.p (rowsP l)] [] (fun x rs=>rs=[]∧∃c b j f p,TabV (tells l) c b j f p∧x=.p (tabP c b j f p (ckP (made l).1) (cxP (made l).1) (keysR (made l).2) (truesI (made l).2))):=by
 refine CR.freezeA (build_root l hn h1 h2 h3 h4 h5 h6 h7 h8 hp) ?_
 rintro x rs ⟨c,b,j,f,p,hT,rfl,rfl⟩
 exact⟨_,frzA_pt rfl rfl,rfl,c,b,j,f,p,hT,rfl⟩
end Go.Proofs.YtjefahhmkcfiiaaGreat
end
section
namespace Go.Proofs.YtjefahhmkcfiiaaGreat
open Go.AM
set_option maxHeartbeats 4000000
set_option maxRecDepth 10000
end Go.Proofs.YtjefahhmkcfiiaaGreat
end
section
namespace Go.Proofs.YtjefahhmkcfiiaaGreat
open Go.AM
set_option maxHeartbeats 4000000
set_option maxRecDepth 100000
def chainB:List Span→Bool
 | []=>true
 | [s]=>decide (s.f≤s.t)
 |s::x::l=>decide (s.f≤s.t)&&decide (s.t<x.f)&&chainB (x::l)
theorem chainB_rises:∀l:List Span,chainB l=true→Rises l
 | [],_=>trivial
 | [s],h=>⟨by simpa[chainB]using h,by simp,trivial⟩
 |s::x::l,h=>by
  simp only[chainB,Bool.and_eq_true,decide_eq_true_eq]at h
  obtain⟨⟨h1,h2⟩,h3⟩:=h
  have ih:=chainB_rises (x::l) h3
  refine⟨h1,fun y hy=>?_,ih⟩
  rcases List.mem_cons.1 hy with rfl|hy
  ·exact h2
  ·have:=ih.2.1 y hy
   have:=ih.1
   omega
def kindB(l:List Row)(k:Int):Bool:=
 chainB (spansOf l k)&&(spansOf l k).all (fun s=>decide (-1000000000≤s.t)&&decide (s.t≤1000000000))&&decide ((spansOf l k).length<256)&&
 chainB (kindL l k)&&(kindL l k).all (fun s=>decide (0≤s.f)&&decide (s.t≤1114111))&&decide ((kindL l k).length<256)
theorem kindB_ok {l:List Row} {k:Int}(h:kindB l k=true):KindOK l k:=by
 simp only[kindB,Bool.and_eq_true,decide_eq_true_eq,List.all_eq_true]at h
 obtain⟨⟨⟨⟨⟨h1,h2⟩,h3⟩,h4⟩,h5⟩,h6⟩:=h
 exact⟨chainB_rises _ h1,h2,h3,chainB_rises _ h4,h5,h6⟩
def pairsB(l:List Row):Bool:=(kindL l 2).all fun s=>decide (0≤s.a)&&decide (s.a<1114112)&&decide (0≤s.b)&&decide (s.b<1114112)
theorem api1:kindB apiRows 1=true:=by decide+kernel
theorem api2:kindB apiRows 2=true:=by decide+kernel
theorem api3:kindB apiRows 3=true:=by decide+kernel
theorem api4:kindB apiRows 4=true:=by decide+kernel
theorem api5:kindB apiRows 5=true:=by decide+kernel
theorem api6:kindB apiRows 6=true:=by decide+kernel
theorem api7:kindB apiRows 7=true:=by decide+kernel
theorem api8:kindB apiRows 8=true:=by decide+kernel
theorem apiP:pairsB apiRows=true:=by decide+kernel
theorem apiN:apiRows.length<2^31:=by decide+kernel
def T0:Tells4:=tells apiRows
def M0:List (Pair×Int)×List Int:=made apiRows
def IsTab(x:PV):Prop:=∃c b j f p,TabV T0 c b j f p∧x=tabP c b j f p (ckP M0.1) (cxP M0.1) (keysR M0.2) (truesI M0.2)
theorem tables_cr [Gi]:CR Tryz.prog 17 [] [.p (rowsP apiRows)] [] (fun x rs=>rs=[]∧∃e,x=.p e∧IsTab e):=by
 have hp:∀s∈kindL apiRows 2,0≤s.a∧s.a<1114112∧0≤s.b∧s.b<1114112:=by
  have:=apiP
  simp only[pairsB,Bool.and_eq_true,decide_eq_true_eq,List.all_eq_true]at this
  exact fun s hs=>⟨(this s hs).1.1.1,(this s hs).1.1.2,(this s hs).1.2,(this s hs).2⟩
 intro w g vs h1 h2
 refine(build_cr apiRows apiN (kindB_ok api1) (kindB_ok api2) (kindB_ok api3) (kindB_ok api4) (kindB_ok api5) (kindB_ok api6) (kindB_ok api7) (kindB_ok api8) hp w g vs h1 h2).mono ?_
 rintro e w' ⟨v,x,rs',g',h3,⟨rfl,c,b,j,f,p,hT,rfl⟩,h4⟩
 exact⟨v,_,_,g',h3,⟨rfl,_,rfl,c,b,j,f,p,hT,rfl⟩,h4⟩
end Go.Proofs.YtjefahhmkcfiiaaGreat
end
section
namespace Go.Proofs.YtjefahhmkcfiiaaGreat
open Go.AM
set_option maxHeartbeats 4000000
set_option maxRecDepth 10000
def rn(x:Int):Nat:=if 0≤x∧x<1114112 then x.toNat else 1114112
theorem rn_in {x:Int}(h:0≤x∧x<1114112):rn x=x.toNat:=if_pos h
theorem rn_out {x:Int}(h:¬(0≤x∧x<1114112)):rn x=1114112:=if_neg h
structure ZeroT(t:Tells4):Prop where
 c:t.cls 1114112=0
 b:t.brk 1114112=0
 j:t.cnj 1114112=0
 f:t.flg 1114112=⟨false,false,false,false⟩
 p:t.par 1114112=⟨0,0⟩
theorem zeroT0:ZeroT T0:=⟨by decide+kernel,by decide+kernel,by decide+kernel,by decide+kernel,by decide+kernel⟩
theorem trieI_any [Gi] {val:Nat→Int} {e:PV}(h:TrieV 1 1114112 (fun j=>[.int .i64 (val j)]) e)(hz:val 1114112=0)(i:Int):CR Tryz.prog 170 [] [.p e,.p (.int .i64 i)] [] (is (.p (.int .i64 (val (rn i))))):=by
 by_cases hi:0≤i∧i<1114112
 ·rw[rn_in hi]
  have e1:((i.toNat:Nat):Int)=i:=by omega
  have:=trieI_get h (by omega) (i:=i.toNat) (by omega)
  rw[e1]at this
  exact this
 ·rw[rn_out hi,hz]
  obtain⟨idx,blocks,rfl,_⟩:=h
  refine CR_of_wpD [] mixed 6 [] Tryz.func170 rfl (by kernel_rfl) rfl (by simp) (by simp) ?_
  by_cases h0:i<0
  ·simp[go_sem,Tryz.f170,trieP,h0]
   exact ret_is (.p (.int .i64 0)) rfl (by simp[go_sem,resOf,leA,leT,leP]) ⟨rfl,rfl⟩
  ·have h1:(1114112:Int)≤i:=by omega
   simp[go_sem,Tryz.f170,trieP,h0,h1]
   exact ret_is (.p (.int .i64 0)) rfl (by simp[go_sem,resOf,leA,leT,leP]) ⟨rfl,rfl⟩
theorem trieF_any [Gi] {val:Nat→Flags} {e:PV}(h:TrieV 4 1114112 (fun j=>flagsL (val j)) e)(hz:val 1114112=⟨false,false,false,false⟩)(i:Int):CR Tryz.prog 123 [] [.p e,.p (.int .i64 i)] [] (is (.p (.agg (flagsL (val (rn i)))))):=by
 by_cases hi:0≤i∧i<1114112
 ·rw[rn_in hi]
  have e1:((i.toNat:Nat):Int)=i:=by omega
  have:=trieF_get h (by omega) (i:=i.toNat) (by omega)
  rw[e1]at this
  exact this
 ·rw[rn_out hi,hz]
  obtain⟨idx,blocks,rfl,_⟩:=h
  refine CR_of_wpD [] mixed 6 [] Tryz.func123 rfl (by kernel_rfl) rfl (by simp) (by simp) ?_
  by_cases h0:i<0
  ·simp[go_sem,Tryz.f123,trieP,h0]
   exact ret_is (.p (.agg [.bool false,.bool false,.bool false,.bool false])) rfl (by simp[go_sem,resOf,leA,leT,leP]) ⟨rfl,rfl⟩
  ·have h1:(1114112:Int)≤i:=by omega
   simp[go_sem,Tryz.f123,trieP,h0,h1]
   exact ret_is (.p (.agg [.bool false,.bool false,.bool false,.bool false])) rfl (by simp[go_sem,resOf,leA,leT,leP]) ⟨rfl,rfl⟩
theorem trieP_any [Gi] {val:Nat→Pair} {e:PV}(h:TrieV 2 1114112 (fun j=>pairL (val j)) e)(hz:val 1114112=⟨0,0⟩)(i:Int):CR Tryz.prog 69 [] [.p e,.p (.int .i64 i)] [] (is (.p (.agg (pairL (val (rn i)))))):=by
 by_cases hi:0≤i∧i<1114112
 ·rw[rn_in hi]
  have e1:((i.toNat:Nat):Int)=i:=by omega
  have:=trieP_get h (by omega) (i:=i.toNat) (by omega)
  rw[e1]at this
  exact this
 ·rw[rn_out hi,hz]
  obtain⟨idx,blocks,rfl,_⟩:=h
  refine CR_of_wpD [] mixed 6 [] Tryz.func69 rfl (by kernel_rfl) rfl (by simp) (by simp) ?_
  by_cases h0:i<0
  ·simp[go_sem,Tryz.f69,trieP,h0]
   exact ret_is (.p (.agg [.int .i32 0,.int .i32 0])) rfl (by simp[go_sem,resOf,leA,leT,leP]) ⟨rfl,rfl⟩
  ·have h1:(1114112:Int)≤i:=by omega
   simp[go_sem,Tryz.f69,trieP,h0,h1]
   exact ret_is (.p (.agg [.int .i32 0,.int .i32 0])) rfl (by simp[go_sem,resOf,leA,leT,leP]) ⟨rfl,rfl⟩
def brkI(t:Tells4)(i:Int):Int:=if 44032≤i∧i≤55203 then(if(i-44032)%28=0 then 12 else 13)else t.brk (rn i)
def cnjI(t:Tells4)(i:Int):Int:=if t.cnj (rn i)≠0 then t.cnj (rn i)else if(brkI t i=4∨brkI t i=5)∧i≠8204 then 3 else 0
theorem classN_cr [Gi] {t:Tells4} {c b j f p:PV}(h:TabV t c b j f p)(ck cx sk sx:List PV)(hz:ZeroT t) {i:Int}(hi: -2147483648≤i∧i<2147483648):
  CR Tryz.prog 124 [] [.p (tabP c b j f p ck cx sk sx),.p (.int .i32 i)] [] (is (.p (.int .i64 (t.cls (rn i))))):=by
 have w1:IntKind.i64.wrap i=i:=wrap64 (by omega) (by omega)
 refine CR_of_wp mixed 5 [] Tryz.func124 rfl (by kernel_rfl) rfl (by simp) (by simp) ?_
 obtain⟨_,_,e,_⟩:=id h.c
 simp (maxSteps:=1000000) [go_sem,Tryz.f124,tabP,w1]
 refine⟨⟨rfl,by simp[Tryz.f170]⟩,CallK_of [] (trieI_any h.c hz.c i) (by simp[go_sem,notHead]) ⟨by simp[go_sem],by simp[go_sem]⟩ (by simp[go_sem]) ?_⟩
 rintro _ rs ⟨rfl,rfl⟩
 simp (maxSteps:=1000000) [go_sem]
 exact ret_is (.p (.int .i64 (t.cls (rn i)))) rfl (by simp[go_sem,resOf,leA,leT,leP]) ⟨rfl,rfl⟩
theorem pairN_cr [Gi] {t:Tells4} {c b j f p:PV}(h:TabV t c b j f p)(ck cx sk sx:List PV)(hz:ZeroT t) {i:Int}(hi: -2147483648≤i∧i<2147483648):
  CR Tryz.prog 122 [] [.p (tabP c b j f p ck cx sk sx),.p (.int .i32 i)] [] (is (pairA (t.par (rn i)))):=by
 have w1:IntKind.i64.wrap i=i:=wrap64 (by omega) (by omega)
 refine CR_of_wpD [4] mixed 8 [] Tryz.func122 rfl (by kernel_rfl) rfl (by simp) (by simp) ?_
 simp (maxSteps:=1000000) [go_sem,Tryz.f122,tabP,w1]
 refine⟨⟨rfl,by simp[Tryz.f69]⟩,CallK_of [] (trieP_any h.p hz.p i) (by simp[go_sem,notHead]) ⟨by simp[go_sem],by simp[go_sem]⟩ (by simp[go_sem]) ?_⟩
 rintro _ rs ⟨rfl,rfl⟩
 generalize t.par (rn i)=q
 simp (maxSteps:=1000000) [go_sem,pairL]
 exact ret_is (.tup [.p (.int .i32 q.a),.p (.int .i32 q.b),.p (.bool (!decide (q.a=0) ||!decide (q.b=0)))]) rfl (by simp[go_sem,resOf,leA,leT,leP]) ⟨rfl,rfl⟩
theorem pictN_cr [Gi] {t:Tells4} {c b j f p:PV}(h:TabV t c b j f p)(ck cx sk sx:List PV)(hz:ZeroT t) {i:Int}(hi: -2147483648≤i∧i<2147483648):
  CR Tryz.prog 203 [] [.p (tabP c b j f p ck cx sk sx),.p (.int .i32 i)] [] (is (.p (.bool (t.flg (rn i)).p))):=by
 have w1:IntKind.i64.wrap i=i:=wrap64 (by omega) (by omega)
 refine CR_of_wp mixed 5 [] Tryz.func203 rfl (by kernel_rfl) rfl (by simp) (by simp) ?_
 simp (maxSteps:=1000000) [go_sem,Tryz.f203,tabP,w1]
 refine⟨⟨rfl,by simp[Tryz.f123]⟩,CallK_of [] (trieF_any h.f hz.f i) (by simp[go_sem,notHead]) ⟨by simp[go_sem],by simp[go_sem]⟩ (by simp[go_sem]) ?_⟩
 rintro _ rs ⟨rfl,rfl⟩
 generalize t.flg (rn i)=q
 simp (maxSteps:=1000000) [go_sem,flagsL]
 exact ret_is (.p (.bool q.p)) rfl (by simp[go_sem,resOf,leA,leT,leP]) ⟨rfl,rfl⟩
theorem breakN_cr [Gi] {t:Tells4} {c b j f p:PV}(h:TabV t c b j f p)(ck cx sk sx:List PV)(hz:ZeroT t) {i:Int}(hi: -2147483648≤i∧i<2147483648):
  CR Tryz.prog 202 [] [.p (tabP c b j f p ck cx sk sx),.p (.int .i32 i)] [] (is (.p (.int .i64 (brkI t i)))):=by
 have w1:IntKind.i64.wrap i=i:=wrap64 (by omega) (by omega)
 refine CR_of_wp mixed 6 [] Tryz.func202 rfl (by kernel_rfl) rfl (by simp) (by simp) ?_
 have hB:44032≤i→i≤55203→(i-44032).tmod 28=(i-44032)%28:=fun h1 _=>Int.tmod_eq_emod_of_nonneg (by omega)
 have w2:44032≤i→IntKind.i32.wrap (i-44032)=i-44032:=fun _=>by simp[IntKind.wrap,IntKind.signed,IntKind.bits];omega
 by_cases h1:44032≤i∧i≤55203
 ·have a1:(44032:Int)≤i:=by omega
  have a2:i≤55203:=by omega
  have a3:=hB h1.1 h1.2
  have w3:=w2 h1.1
  generalize hm:(i-44032)%28=m at a3
  by_cases h2:m=0
  ·subst h2
   have e:brkI t i=12:=by unfold brkI;rw[if_pos h1,if_pos hm]
   rw[e]
   simp (maxSteps:=1000000) [go_sem,Tryz.f202,tabP,w1,w3,a1,a2,a3]
   exact ret_is (.p (.int .i64 12)) rfl (by simp[go_sem,resOf,leA,leT,leP]) ⟨rfl,rfl⟩
  ·have e:brkI t i=13:=by unfold brkI;rw[if_pos h1,if_neg (by omega)]
   rw[e]
   simp (maxSteps:=1000000) [go_sem,Tryz.f202,tabP,w1,w3,a1,a2,a3,h2]
   exact ret_is (.p (.int .i64 13)) rfl (by simp[go_sem,resOf,leA,leT,leP]) ⟨rfl,rfl⟩
 ·have e:brkI t i=t.brk (rn i):=by unfold brkI;rw[if_neg h1]
  rw[e]
  by_cases a1:(44032:Int)≤i
  ·have a2:¬(i≤55203):=by omega
   simp (maxSteps:=1000000) [go_sem,Tryz.f202,tabP,w1,a1,a2]
   refine⟨⟨rfl,by simp[Tryz.f170]⟩,CallK_of [] (trieI_any h.b hz.b i) (by simp[go_sem,notHead]) ⟨by simp[go_sem],by simp[go_sem]⟩ (by simp[go_sem]) ?_⟩
   rintro _ rs ⟨rfl,rfl⟩
   simp (maxSteps:=1000000) [go_sem]
   exact ret_is (.p (.int .i64 (t.brk (rn i)))) rfl (by simp[go_sem,resOf,leA,leT,leP]) ⟨rfl,rfl⟩
  ·simp (maxSteps:=1000000) [go_sem,Tryz.f202,tabP,w1,a1]
   refine⟨⟨rfl,by simp[Tryz.f170]⟩,CallK_of [] (trieI_any h.b hz.b i) (by simp[go_sem,notHead]) ⟨by simp[go_sem],by simp[go_sem]⟩ (by simp[go_sem]) ?_⟩
   rintro _ rs ⟨rfl,rfl⟩
   simp (maxSteps:=1000000) [go_sem]
   exact ret_is (.p (.int .i64 (t.brk (rn i)))) rfl (by simp[go_sem,resOf,leA,leT,leP]) ⟨rfl,rfl⟩
theorem conjN_cr [Gi] {t:Tells4} {c b j f p:PV}(h:TabV t c b j f p)(ck cx sk sx:List PV)(hz:ZeroT t) {i:Int}(hi: -2147483648≤i∧i<2147483648):
  CR Tryz.prog 204 [] [.p (tabP c b j f p ck cx sk sx),.p (.int .i32 i)] [] (is (.p (.int .i64 (cnjI t i)))):=by
 have w1:IntKind.i64.wrap i=i:=wrap64 (by omega) (by omega)
 refine CR_of_wp mixed 7 [] Tryz.func204 rfl (by kernel_rfl) rfl (by simp) (by simp) ?_
 simp (maxSteps:=1000000) [go_sem,Tryz.f204,tabP,w1]
 refine⟨⟨rfl,by simp[Tryz.f170]⟩,CallK_of [] (trieI_any h.j hz.j i) (by simp[go_sem,notHead]) ⟨by simp[go_sem],by simp[go_sem]⟩ (by simp[go_sem]) ?_⟩
 rintro _ rs ⟨rfl,rfl⟩
 simp (maxSteps:=1000000) [go_sem]
 by_cases h1:t.cnj (rn i)=0
 ·simp (maxSteps:=1000000) [go_sem,h1]
  refine⟨⟨rfl,by simp[Tryz.f202]⟩,CallK_of [] (breakN_cr h ck cx sk sx hz hi) (by simp[go_sem,notHead]) ⟨by simp[go_sem],by simp[go_sem,tabP]⟩ (by simp[go_sem]) ?_⟩
  rintro _ rs ⟨rfl,rfl⟩
  have e:cnjI t i=if(brkI t i=4∨brkI t i=5)∧i≠8204 then 3 else 0:=by unfold cnjI;rw[if_neg (fun h=>h h1)]
  rw[e]
  generalize brkI t i=v
  by_cases h2:(v=4∨v=5)∧i≠8204
  ·rw[if_pos h2]
   have h3:¬(i=8204):=by omega
   rcases h2.1 with rfl|rfl
   ·simp (maxSteps:=1000000) [go_sem,h3]
    exact ret_is (.p (.int .i64 3)) rfl (by simp[go_sem,resOf,leA,leT,leP]) ⟨rfl,rfl⟩
   ·simp (maxSteps:=1000000) [go_sem,h3]
    exact ret_is (.p (.int .i64 3)) rfl (by simp[go_sem,resOf,leA,leT,leP]) ⟨rfl,rfl⟩
  ·rw[if_neg h2]
   by_cases h4:v=4
   ·have h3:i=8204:=by omega
    simp (maxSteps:=1000000) [go_sem,h4,h3]
    exact ret_is (.p (.int .i64 0)) rfl (by simp[go_sem,resOf,leA,leT,leP]) ⟨rfl,rfl⟩
   ·by_cases h5:v=5
    ·have h3:i=8204:=by omega
     simp (maxSteps:=1000000) [go_sem,h4,h5,h3]
     exact ret_is (.p (.int .i64 0)) rfl (by simp[go_sem,resOf,leA,leT,leP]) ⟨rfl,rfl⟩
    ·simp (maxSteps:=1000000) [go_sem,h4,h5]
     exact ret_is (.p (.int .i64 0)) rfl (by simp[go_sem,resOf,leA,leT,leP]) ⟨rfl,rfl⟩
 ·have e:cnjI t i=t.cnj (rn i):=by unfold cnjI;rw[if_pos h1]
  rw[e]
  simp (maxSteps:=1000000) [go_sem,h1]
  exact ret_is (.p (.int .i64 (t.cnj (rn i)))) rfl (by simp[go_sem,resOf,leA,leT,leP]) ⟨rfl,rfl⟩
end Go.Proofs.YtjefahhmkcfiiaaGreat
end
