/- A part of the proof of this seat's statements, by an abstract machine: what each operation does to values, and what the law's functions compute. Conditions: as each law says. -/
import Derived.Test.YtjefahhmkcfiiaaGreatM36
import Derived.Test.YtjefahhmkcfiiaaGreatM30
import Derived.Test.YtjefahhmkcfiiaaGreatM22
section
namespace Go.Proofs.YtjefahhmkcfiiaaGreat
open Go.AM
set_option maxHeartbeats 4000000
set_option maxRecDepth 10000
theorem SemI.seqJ [Gi] {P:Program} {E:Ent} {D:List Nat} {x y:Code} {Q:Exit→St→Prop} {S:St} {ι:Type}(hm:P.follows .mixedOrders=true)(hc:codeOK D x=true)(inv:ι→Prop)(V:ι→List (Nat×AV))(R:ι→List (Tok×List AV))
  (h:wpA P D x (JoinU S inv V R (fun _ _=>False)) S) (hr:∀i ts,inv i→SemI P E y Q (S.upd3 (V i) (R i) ts)):SemI P E (.seq x y) Q S:=
 SemI.seqA hm hc (wpA_mono x (fun e S' k=>by
  cases e with
  |normal=>obtain⟨i,ts,hi,rfl⟩:=k;exact hr i ts hi
  |_=>exact k.elim) h)
def ordR(tab:PV)(n:Nat)(M:List Int):List (Tok×List AV):=[([2],[.p tab]),([9,7],cellsR M),([5],[.la [9,7] 1 0 n]),([12,2],[.p tab]),([12,3],[.la [9,7] 1 0 n])]
def ordPins:List Tok:=[[2],[9,7],[5],[12,2],[12,3]]
def runOk(n:Nat)(r:List Int×List Int×List Int):Prop:=r.1.length+r.2.1.length+r.2.2.length=n∧∀x∈r.2.1, -2147483648≤x∧x<2147483648
def restGo(k:Int→Int):List Int→List Int
 | []=>[]
 |s::Y=>s::ordGo k [] Y
def itSt(l n:Nat)(tab:PV)(i:Nat)(M:List Int):St:=
 {n:=39,nv:=6,vs:=[(0,.p (.opq (.func (.yield l) #[] #[]))),(1,.lp [12,3] 0),(2,.lp [12,2] 0),(4,.p (.int .i64 i))],ts:=[],rs:=ordR tab n M,pin:=ordPins,ex:=[32]}
theorem iter227 [Gi] {t:Tells4} {c b j f p:PV}(h:TabV t c b j f p)(hz:ZeroT t)(ck cx sk sx:List PV)(M0:List Int)(n:Nat)(hM:M0.length=n)(hn:n<2^31)(hr:∀x∈M0, -2147483648≤x∧x<2147483648)
  (E:Ent) (l:Nat) (hy:∀r S1,runOk n r→S1.rs=ordR (tabP c b j f p ck cx sk sx) n (r.1++(r.2.1++r.2.2))→S1.pin=ordPins→YieldC Tryz.prog E l ordPins [.int .i64 (r.1.length:Nat),.int .i64 ((r.1.length+r.2.1.length:Nat):Int)] S1 (fun rs=>rs=ordR (tabP c b j f p ck cx sk sx) n (r.1++(sortK (keyT t) r.2.1++r.2.2)))):
  ∀co,Tryz.f227.body=some co→SemI Tryz.prog E co (EndQ ordPins (fun rs=>rs=ordR (tabP c b j f p ck cx sk sx) n (ordL (keyT t) M0))) (itS Tryz.f227 6 [32] l [.lp [12,3] 0,.lp [12,2] 0] (ordR (tabP c b j f p ck cx sk sx) n M0) ordPins):=by
 intro co hco
 have hnt:Tryz.f227.ntmps=39:=rfl
 unfold Tryz.f227 at hco
 injection hco with hco
 subst hco
 refine SemI.seqA (D:=[]) mixed (by kernel_rfl) ?_
 simp (maxSteps:=1000000) [go_sem,itS,zipN,ordR,ordPins,tabP,hnt]
 refine SemI.block (SemI.loop (fun r:List Int×List Int×Nat=>r.1.length+r.2.1.length=n∧(r.2.2=r.1.length∨(r.2.2=r.1.length+1∧r.2.1=[]))∧r.1++ordGo (keyT t) [] r.2.1=ordL (keyT t) M0∧∀x∈r.2.1, -2147483648≤x∧x<2147483648)
  (fun r=>itSt l n (tabP c b j f p ck cx sk sx) r.2.2 (r.1++r.2.1)) (fun r=>n+1-r.2.2) ([],M0,0) ⟨by simp;omega,.inl rfl,rfl,hr⟩ (by simp[go_sem,LeS,leV,leR,leA,leL,leL_refl,itSt,ordR,ordPins,tabP]) (fun r hr'=>?_))
 obtain⟨D,R,i⟩:=r
 obtain⟨q1,q2,q3,q4⟩:=hr'
 simp only at q1 q2 q3 q4
 refine SemI.seqA (D:=[]) mixed (by kernel_rfl) ?_
 simp (maxSteps:=1000000) [go_sem,itSt,ordR,ordPins,tabP]
 refine condK_if (fun h1=>?_) (fun h1=>?_)
 ·obtain rfl:i=D.length:=by
   rcases q2 with q2|⟨q2,q5⟩
   ·exact q2
   ·rw[q5]at q1;simp at q1;omega
  simp (maxSteps:=1000000) [go_sem]
  refine SemI.seq (SemI.block ?_)
  refine SemI.seqA (D:=[]) mixed (by kernel_rfl) ?_
  simp (maxSteps:=1000000) [go_sem]
  have f4:∀X Y,R=X++Y→(∀x∈X, -2147483648≤x∧x<2147483648):=fun X Y e x hx=>q4 x (by rw[e];simp[hx])
  refine SemI.seqJ (D:=[]) mixed (by kernel_rfl) (fun r:List Int×List Int=>R=r.1++r.2∧ordGo (keyT t) [] R=ordGo (keyT t) r.1 r.2∧(r.2=[]∨∃s,(∃Y,r.2=s::Y)∧keyT t s=0)) (fun r=>[(4,.p (.int .i64 ((D.length+r.1.length:Nat):Int)))]) (fun _=>[]) ?_ ?_
  ·simp (maxSteps:=1000000) [go_sem]
   refine wpA_loopU (fun r:List Int×List Int=>R=r.1++r.2∧ordGo (keyT t) [] R=ordGo (keyT t) r.1 r.2) (fun r=>[(4,.p (.int .i64 ((D.length+r.1.length:Nat):Int)))]) (fun r=>[]) (fun r=>r.2.length) ([],R) ⟨rfl,rfl⟩ (by simp[go_sem,LeS,leV,leR,leA,leL,leL_refl]) (fun r hr2=>?_)
   obtain⟨X,Y⟩:=r
   obtain⟨p1,p2⟩:=hr2
   simp only at p1 p2
   have lR:R.length=X.length+Y.length:=by rw[p1];simp
   obtain⟨d,hd⟩:∃d,d=D.length:=⟨_,rfl⟩
   obtain⟨k,hk⟩:∃k,k=d+X.length:=⟨_,rfl⟩
   have hkc:(d:Int)+(X.length:Int)=(k:Int):=by omega
   simp only[←hd,←hk]
   cases Y with
   |nil=>
    have hkn:¬k<n:=by simp at lR;omega
    simp (maxSteps:=1000000) [go_sem,hkc,hkn]
    exact JoinU_in (X,[]) ⟨p1,p2,.inl rfl⟩ (by simp[go_sem,hk])
   |cons s Y=>
    have hkn:k<n:=by simp at lR;omega
    have hsr: -2147483648≤s∧s<2147483648:=q4 s (by rw[p1];simp)
    have gk:(cellsR (D++R))[k]?=some (.p (.int .i32 s)):=cells_at (by
     rw[p1,List.getElem?_append_right (by omega),List.getElem?_append_right (by omega)]
     have:k-D.length-X.length=0:=by omega
     rw[this];rfl)
    have w1:IntKind.i64.wrap ((k:Int)+1)=((k+1:Nat):Int):=wrapN_one (by omega)
    simp (maxSteps:=1000000) [go_sem,hkc,hkn,gk]
    refine⟨⟨rfl,by simp[Tryz.f124]⟩,CallK_of [] (classN_cr h ck cx sk sx hz hsr) (by simp[go_sem,notHead]) ⟨by simp[go_sem],by simp[go_sem,tabP]⟩ (by simp[go_sem]) ?_⟩
    rintro _ _ ⟨rfl,rfl⟩
    have hkey:keyT t s=t.cls (rn s):=rfl
    by_cases hs:t.cls (rn s)=0
    ·simp (maxSteps:=1000000) [go_sem,hs]
     exact JoinU_in (X,s::Y) ⟨p1,p2,.inr ⟨s,⟨Y,rfl⟩,hkey.trans hs⟩⟩ (by simp[go_sem,hk])
    ·simp (maxSteps:=1000000) [go_sem,hs,w1]
     refine LoopK_next (X++[s],Y) ⟨by rw[p1];simp,?_⟩ (by simp[go_sem,LeS,leV,leR,leA,leL,leL_refl];omega) (by simp)
     rw[p2,ordGo,if_neg (by rw[hkey];exact hs)]
  ·rintro⟨X,Y⟩ ts ⟨p1,p2,p3⟩
   simp only at p1 p2 p3
   have lR:R.length=X.length+Y.length:=by rw[p1];simp
   have eF:ordGo (keyT t) [] R=sortK (keyT t) X++restGo (keyT t) Y:=by
    rw[p2]
    rcases p3 with rfl|⟨s,⟨Y',rfl⟩,hs⟩
    ·simp[ordGo,restGo]
    ·simp[ordGo,restGo,hs]
   obtain⟨d,hd⟩:∃d,d=D.length:=⟨_,rfl⟩
   obtain⟨k,hk⟩:∃k,k=d+X.length:=⟨_,rfl⟩
   have hkc:(d:Int)+(X.length:Int)=(k:Int):=by omega
   have w1:IntKind.i64.wrap ((k:Int)+1)=((k+1:Nat):Int):=wrapN_one (by omega)
   have w2:IntKind.i64.wrap ((k:Int)-d)=(X.length:Int):=wrapN_sub (by omega) (by omega)
   -- behind the round
   have next:∀M,M=D++(sortK (keyT t) X++Y)→∃r:List Int×List Int×Nat,(r.1.length+r.2.1.length=n∧(r.2.2=r.1.length∨(r.2.2=r.1.length+1∧r.2.1=[]))∧r.1++ordGo (keyT t) [] r.2.1=ordL (keyT t) M0∧∀x∈r.2.1, -2147483648≤x∧x<2147483648)∧M=r.1++r.2.1∧r.2.2=k+1:=by
    intro M hM'
    rcases p3 with rfl|⟨s,⟨Y',rfl⟩,hs⟩
    ·refine⟨(D++sortK (keyT t) X,[],k+1),⟨by simp[sortK_len];simp at lR;omega,.inr ⟨by simp[sortK_len];omega,rfl⟩,?_,by simp⟩,by rw[hM'];simp,rfl⟩
     rw[←q3,eF];simp[ordGo,sortK,restGo]
    ·refine⟨(D++(sortK (keyT t) X++[s]),Y',k+1),⟨by simp[sortK_len];simp at lR;omega,.inl (by simp[sortK_len];omega),?_,fun x hx=>q4 x (by rw[p1];simp[hx])⟩,by rw[hM'];simp,rfl⟩
     rw[←q3,eF];simp[restGo]
   simp only[←hd]
   by_cases hX:1<X.length
   ·refine SemI.seq (SemI.yieldAt (l:=l) (d:=36) 8 rfl rfl rfl (pins:=ordPins) (by kernel_rfl) (by kernel_rfl) ?_)
    have hXi:(1:Int)<X.length:=by omega
    simp (maxSteps:=1000000) [go_sem,hkc,w2,hXi,ordPins]
    have hY:=hy (D,X,Y) {n:=39,nv:=6,vs:=[(0,.p (.opq (.func (.yield l) #[] #[]))),(1,.lp [12,3] 0),(2,.lp [12,2] 0),(4,.p (.int .i64 k)),(5,.p (.int .i64 d)),(32,.p (.bool true))],ts:=[(35,.gd true (.p (.int .i64 k))),(34,.gd true (.p (.int .i64 d))),(33,.gd true (.p (.opq (.func (.yield l) #[] #[])))),(31,.p (.bool true)),(30,.p (.int .i64 X.length)),(29,.p (.int .i64 d)),(28,.p (.int .i64 k))],rs:=ordR (tabP c b j f p ck cx sk sx) n (D++R),pin:=ordPins,ex:=[32]} ⟨by simp only;omega,f4 X Y p1⟩ (by rw[p1]) rfl
    simp only[←hd,←hk]at hY
    refine⟨_,hY,?_⟩
    rintro _ rfl
    simp (maxSteps:=1000000) [go_sem,backS,keepV,ordR,tabP]
    refine SemI.condF (by simp[go_sem]) ?_
    refine SemI.of_wpA (D:=[]) mixed (by kernel_rfl) ?_
    simp (maxSteps:=1000000) [go_sem]
    refine SemI.of_wpA (D:=[]) mixed (by kernel_rfl) ?_
    simp (maxSteps:=1000000) [go_sem,w1]
    obtain⟨r,h2,h3,h4⟩:=next (D++(sortK (keyT t) X++Y)) rfl
    refine LoopI_next r h2 (by simp[go_sem,LeS,leV,leR,leA,leL,leL_refl,←h3,h4]) (by show n+1-r.2.2<n+1-d;rw[h4];omega)
   ·have hXi:¬(1:Int)<X.length:=by omega
    refine SemI.seqA (D:=[]) mixed (by kernel_rfl) ?_
    simp (maxSteps:=1000000) [go_sem,hkc,w2,hXi]
    refine SemI.condF (by simp[go_sem]) ?_
    refine SemI.of_wpA (D:=[]) mixed (by kernel_rfl) ?_
    simp (maxSteps:=1000000) [go_sem]
    refine SemI.of_wpA (D:=[]) mixed (by kernel_rfl) ?_
    simp (maxSteps:=1000000) [go_sem,w1]
    obtain⟨r,h2,h3,h4⟩:=next (D++R) (by rw[p1,sortK_small (by omega)])
    refine LoopI_next r h2 (by simp[go_sem,LeS,leV,leR,leA,leL,leL_refl,h3,h4]) (by show n+1-r.2.2<n+1-d;rw[h4];omega)
 ·have hR:R=[]:=by
   rcases q2 with q2|⟨q2,q5⟩
   ·have:R.length=0:=by omega
    exact List.eq_nil_of_length_eq_zero this
   ·exact q5
  subst hR
  simp (maxSteps:=1000000) [go_sem]
  rw[←q3];simp[ordGo,sortK]
theorem orderT_root [Gi] {t:Tells4} {c b j f p:PV}(h:TabV t c b j f p)(hz:ZeroT t)(ck cx sk sx:List PV)(l:List Int)(h0:l≠ [])(hn:l.length<2^31)(hr:∀x∈l, -2147483648≤x∧x<2147483648):
  CR Tryz.prog 174 [] [.p (tabP c b j f p ck cx sk sx),.p (runesV l)] [] (fun x rs=>x=.la [9,7] 1 0 l.length∧rs=[([9,7],cellsR (ordL (keyT t) l))]):=by
 have hlp:0<l.length:=List.length_pos_iff.2 h0
 refine CR_of_sem 8 [12,13,14] Tryz.func174 rfl rfl (by simp) (by simp) ?_
 refine SemM.seq (D:=[]) mixed (by kernel_rfl) ?_
 simp (maxSteps:=1000000) [go_sem,tabP,runesV]
 refine SemM.seq (D:=[]) mixed (by kernel_rfl) ?_
 simp (maxSteps:=1000000) [go_sem]
 refine⟨⟨rfl,by simp[Tryz.f126]⟩,CallK_of [] (clone_root l h0 (by omega)) (by simp[go_sem,notHead]) ⟨by simp[go_sem],by simp[go_sem,runesV]⟩ (by simp[go_sem]) ?_⟩
 rintro _ _ ⟨rfl,rfl⟩
 simp (maxSteps:=1000000) [go_sem]
 refine⟨rfl,SemM.seq2 (D:=[]) mixed (by kernel_rfl) ?_⟩
 simp (maxSteps:=1000000) [go_sem]
 refine⟨⟨rfl,by simp[Tryz.f209]⟩,CallK_of [([0],[9,7])] (marks_cr c b j f p ck cx sk sx l l.length) (by simp[go_sem,notHead]) ⟨by simp[go_sem],by simp[go_sem,tabP]⟩ (by simp[go_sem]) ?_⟩
 rintro _ _ ⟨rfl,rfl⟩
 simp (maxSteps:=1000000) [go_sem,tabP]
 refine SemB.rangeI (D:=[]) mixed (gf:=227) (caps:=[.lp [12,3] 0,.lp [12,2] 0]) rfl (by simp[Tryz.f227]) (fn':=Tryz.f227) 6 [32] Tryz.func227 rfl rfl (by simp) (by simp[Tryz.f227])
  [(0,.p (tabP c b j f p ck cx sk sx)),(1,.p (runesV l)),(2,.lp [2] 0),(5,.lp [5] 0)] ordPins (ordR (tabP c b j f p ck cx sk sx) l.length l) (fun rs=>rs=ordR (tabP c b j f p ck cx sk sx) l.length (ordL (keyT t) l)) (by simp[keepV,ordPins]) (by simp) rfl rfl
  (by simp[go_sem,LeS,leV,leR,leA,leL,leL_refl,lst,ordR,tabP,runesV]) (by simp) (by simp) (by kernel_rfl) (by kernel_rfl)
  (fun r:List Int×List Int×List Int=>runOk l.length r) (fun r=>ordR (tabP c b j f p ck cx sk sx) l.length (r.1++(r.2.1++r.2.2))) (fun r=>ordR (tabP c b j f p ck cx sk sx) l.length (r.1++(sortK (keyT t) r.2.1++r.2.2))) (fun r=>((r.1.length:Nat),((r.1.length+r.2.1.length:Nat):Int))) ?_ ?_ ?_
 ·rintro⟨A,X,B⟩ ⟨k1,k2⟩
  simp only at k1 k2
  simp (maxSteps:=1000000) [go_sem,lst,ordR,ordPins,tabP]
  have e1:((A.length:Int)+X.length).toNat-A.length=X.length:=by omega
  have hlen:(A++(X++B)).length=l.length:=by simp;omega
  refine⟨⟨by omega,by omega⟩,⟨rfl,by simp[Tryz.f210]⟩,CallK_of [([0],[9,7]),([1],[2])] (pin:=[[0],[1]]) (sortStable_cr h hz ck cx sk sx A X B A.length X.length rfl rfl (by omega) k2) (by simp[go_sem,notHead]) ⟨by simp[go_sem],by simp[go_sem,cmpA,e1]⟩ (by simp[go_sem,tabP]) ?_⟩
  rintro _ _ ⟨X',hX',rfl,rfl⟩
  simp (maxSteps:=1000000) [go_sem,tabP]
  rw[sortK_eq hX']
  exact .inl (by simp[go_sem,LeS,leV,leR,leA,leL,leL_refl,lst])
 ·intro E y hy
  exact iter227 h hz ck cx sk sx l l.length rfl hn hr E y (fun r S1 h1 h2 h3=>hy r S1 h1 h2 h3) _ rfl
 ·rintro rs rfl
  refine SemT.of_wpA (D:=[]) (by kernel_rfl) ?_
  simp (maxSteps:=1000000) [go_sem,lst,PinQ,ordR,tabP]
  exact ret_keep [[9,7]] (.la [9,7] 1 0 l.length) ⟨rfl,by simp⟩ (by simp[go_sem,resOf,leA,leT]) ⟨rfl,by simp[go_sem]⟩
end Go.Proofs.YtjefahhmkcfiiaaGreat
end
section
namespace Go.Proofs.YtjefahhmkcfiiaaGreat
open Go.AM
set_option maxHeartbeats 4000000
set_option maxRecDepth 10000
theorem CR.row [Gi] {P:Program} {fn:FuncId} {args:List AV} {t:Tok} {M:List Int}(h0:0<M.length)(h:CR P fn [] args [] (fun x rs=>x=.la t 1 0 M.length∧rs=[(t,cellsR M)])):CR P fn [] args [] (is (.p (runesV M))):=by
 refine CR.freeze h (fun _=>false) rfl ?_
 rintro x rs ⟨rfl,rfl⟩
 refine⟨.p (runesV M),fun g w v hG hv=>?_,rfl,rfl⟩
 rw[RepA_p]
 refine frz_flatX (t:=t) (z:=1) (n:=M.length) (es:=i32s M) (rt:=fun _=>false) hG [] h0 ?_ rfl (by simp[i32s]) (fun e he=>?_) hv
 ·rw[i32s_flat];simp[lookT,cellsR_eq]
 ·obtain⟨s,_,rfl⟩:=List.mem_map.1 he
  exact⟨rfl,rfl⟩
theorem ordL_len(k:Int→Int)(l:List Int):(ordL k l).length=l.length:=by unfold ordL;rw[ordGo_len];simp
theorem orderT_cr [Gi] {t:Tells4} {c b j f p:PV}(h:TabV t c b j f p)(hz:ZeroT t)(ck cx sk sx:List PV)(l:List Int)(h0:l≠ [])(hn:l.length<2^31)(hr:∀x∈l, -2147483648≤x∧x<2147483648):
  CR Tryz.prog 174 [] [.p (tabP c b j f p ck cx sk sx),.p (runesV l)] [] (is (.p (runesV (ordL (keyT t) l)))):=by
 have hlp:0<l.length:=List.length_pos_iff.2 h0
 refine CR.row (t:=[9,7]) (by rw[ordL_len];exact hlp) ?_
 rw[ordL_len]
 exact orderT_root h hz ck cx sk sx l h0 hn hr
def ordR0(tab:PV):List (Tok×List AV):=[([2],[.p tab]),([5],[.p (.sl 1 [])]),([12,2],[.p tab]),([12,3],[.p (.sl 1 [])])]
def ordPins0:List Tok:=[[2],[5],[12,2],[12,3]]
theorem marks0_cr [Gi](c b j f p:PV)(ck cx sk sx:List PV):CR Tryz.prog 209 [] [.p (tabP c b j f p ck cx sk sx),.p (.sl 1 [])] []
  (fun x rs=>x=.fn 227 [.lp [3] 0,.lp [2] 0]∧rs=[([2],[.p (tabP c b j f p ck cx sk sx)]),([3],[.p (.sl 1 [])])]):=by
 refine CR_of_wp mixed 6 [] Tryz.func209 rfl (by kernel_rfl) rfl (by simp) (by simp) ?_
 simp (maxSteps:=1000000) [go_sem,Tryz.f209,tabP]
 exact ret_keep [[2],[3]] (.fn 227 [.lp [3] 0,.lp [2] 0]) ⟨rfl,by simp⟩ (by simp[go_sem,resOf,leA,leT]) ⟨rfl,by simp[go_sem,tabP]⟩
theorem order0_cr [Gi](c b j f p:PV)(ck cx sk sx:List PV):CR Tryz.prog 174 [] [.p (tabP c b j f p ck cx sk sx),.p (.opq (.slice none 0 0))] [] (is (.p (runesV []))):=by
 refine CR_of_sem 8 [12,13,14] Tryz.func174 rfl rfl (by simp) (by simp) ?_
 refine SemM.seq (D:=[]) mixed (by kernel_rfl) ?_
 simp (maxSteps:=1000000) [go_sem,tabP]
 refine SemM.seq (D:=[]) mixed (by kernel_rfl) ?_
 simp (maxSteps:=1000000) [go_sem]
 refine⟨⟨rfl,by simp[Tryz.f126]⟩,CallK_of [] clone_nil (by simp[go_sem,notHead]) ⟨by simp[go_sem],by simp[go_sem]⟩ (by simp[go_sem]) ?_⟩
 rintro _ _ ⟨rfl,rfl⟩
 simp (maxSteps:=1000000) [go_sem]
 refine⟨rfl,?_⟩
 refine SemM.seq2 (D:=[]) mixed (by kernel_rfl) ?_
 simp (maxSteps:=1000000) [go_sem]
 refine⟨⟨rfl,by simp[Tryz.f209]⟩,CallK_of [] (marks0_cr c b j f p ck cx sk sx) (by simp[go_sem,notHead]) ⟨by simp[go_sem],by simp[go_sem,tabP]⟩ (by simp[go_sem]) ?_⟩
 rintro _ _ ⟨rfl,rfl⟩
 simp (maxSteps:=1000000) [go_sem,tabP]
 refine SemB.rangeI (D:=[]) mixed (gf:=227) (caps:=[.lp [12,3] 0,.lp [12,2] 0]) rfl (by simp[Tryz.f227]) (fn':=Tryz.f227) 6 [32] Tryz.func227 rfl rfl (by simp) (by simp[Tryz.f227])
  [(0,.p (tabP c b j f p ck cx sk sx)),(2,.lp [2] 0),(5,.lp [5] 0)] ordPins0 (ordR0 (tabP c b j f p ck cx sk sx)) (fun rs=>rs=ordR0 (tabP c b j f p ck cx sk sx)) (by simp[keepV,ordPins0]) (by simp) rfl rfl
  (by simp[go_sem,LeS,leV,leR,leA,leL,leL_refl,lst,ordR0,tabP]) (by simp) (by simp) (by kernel_rfl) (by kernel_rfl)
  (fun _:Unit=>False) (fun _=>[]) (fun _=>[]) (fun _=>(0,0)) (fun _ h=>h.elim) ?_ ?_
 ·intro E y _
  have hnt:Tryz.f227.ntmps=39:=rfl
  refine SemI.of_wpA (D:=[]) mixed (by kernel_rfl) ?_
  simp (maxSteps:=1000000) [go_sem,itS,zipN,ordR0,ordPins0,tabP,hnt]
  refine wpA_loopU (fun _:Unit=>True) (fun _=>[]) (fun _=>[]) (fun _=>0) () trivial (by simp[go_sem,LeS,leV,leR,leA,leL,leL_refl]) (fun _ _=>?_)
  simp (maxSteps:=1000000) [go_sem]
 ·rintro rs rfl
  refine SemT.of_wpA (D:=[]) (by kernel_rfl) ?_
  simp (maxSteps:=1000000) [go_sem,lst,PinQ,ordR0,tabP]
  exact ret_is (.p (.sl 1 [])) rfl (by simp[go_sem,resOf,leA,leT,leP]) ⟨rfl,rfl⟩
end Go.Proofs.YtjefahhmkcfiiaaGreat
end
section
namespace Go.Proofs.YtjefahhmkcfiiaaGreat
open Go.AM
set_option maxHeartbeats 4000000
set_option maxRecDepth 10000
def segZ:SegS:=⟨false,0,0,0,false⟩
def runC(t:Tells4):SegS→List Int→Nat
 |_,[]=>0
 |s,r::l=>if(stepS t s r).2 then 0 else 1+runC t (stepS t s r).1 l
theorem runC_le(t:Tells4):∀(l:List Int) (s:SegS),runC t s l≤l.length
 | [],_=>by simp[runC]
 |r::l,s=>by
  unfold runC
  split
  ·omega
  ·have:=runC_le t l (stepS t s r).1
   simp only[List.length_cons];omega
def treeN:OT:=.now 0 1 (.now 1 1 (.now 2 1 (.now 3 1 (.now 4 1 (.now 5 1 (.mk [(6,.now 7 1 (.now 8 1 (.now 9 2 (.mk [(10,.mk [(11,.now 12 0 (.mk []))])])))),(10,.mk [(6,.now 7 0 (.now 8 0 (.now 9 2 (.mk [(11,.now 12 0 (.mk []))]))))])]))))))
def segR(s:SegS):List AV:=[.p (.bool s.some),.p (.int .i64 s.last),.p (.int .i64 s.pict),.p (.int .i64 s.conj),.p (.bool s.odd)]
theorem next_cr [Gi] {t:Tells4} {c b j f p:PV}(h:TabV t c b j f p)(hz:ZeroT t)(ck cx sk sx:List PV)(l:List Int)(hn:l.length<2^31)(hr:∀x∈l,Rune x)(a:Nat)(x:Int)(l':List Int)(ha:l.drop a=x::l'):
  CR Tryz.prog 125 [] [.p (tabP c b j f p ck cx sk sx),.p (runesV l),.p (.int .i64 a)] [] (is (.p (.int .i64 ((a+1+runC t (stepS t segZ x).1 l':Nat):Int)))):=by
 have hal:a<l.length:=by
  have:=congrArg List.length ha
  simp at this;omega
 have hx:l[a]=x:=by
  have:=List.drop_eq_getElem_cons hal
  rw[ha]at this
  injection this with h1 _;exact h1.symm
 have hl':l'=l.drop (a+1):=by
  have:=List.drop_eq_getElem_cons hal
  rw[ha]at this
  injection this
 have hxr:Rune x:=hr x (by rw[←hx];exact List.getElem_mem _)
 have em:elemAt (i32s l) a=.int .i32 x:=by rw[i32s,elemAt_map (fun r=>PV.int .i32 r) l a hal,hx]
 obtain⟨N,hN⟩:∃N,N=a+1+runC t (stepS t segZ x).1 l':=⟨_,rfl⟩
 rw[←hN]
 refine CR_of_wpD [200007] mixed 11 [] Tryz.func125 rfl (by kernel_rfl) rfl (by simp) (by simp) ?_
 have w1:IntKind.i64.wrap ((a:Int)+1)=((a+1:Nat):Int):=wrapN_one (by omega)
 have g1:¬(a:Int)<0:=by omega
 have g2:¬((l.length:Int)≤a):=by omega
 have g3:(a:Int)<l.length:=by omega
 simp (maxSteps:=1000000) [go_sem,Tryz.f125,runesV,i32s_len,tabP,g1,g2,g3,em,hal]
 refine⟨⟨rfl,by simp[Tryz.f171]⟩,CallK_of [] (step_cr h hz ck cx sk sx segZ x hxr) (by simp[go_sem,notHead]) ⟨by simp[go_sem],by simp[go_sem,segV,segZ,tabP]⟩ (by simp[go_sem]) ?_⟩
 rintro _ rs ⟨rfl,rfl⟩
 have hso:∀s r,(stepS t s r).1.some=true:=fun _ _=>rfl
 obtain⟨s0,hs0⟩:∃s0,(stepS t segZ x).1=s0:=⟨_,rfl⟩
 rw[hs0]at hN⊢
 generalize (stepS t segZ x).2=cut0
 simp (maxSteps:=1000000) [go_sem,segV,w1]
 refine wpA_loopU (fun r:Nat×SegS=>N=r.1+runC t r.2 (l.drop r.1)∧r.1≤l.length) (fun r=>[(2,.p (.int .i64 (r.1:Nat))),(9,.junk),(10,.junk)]) (fun r=>[([7],segR r.2)]) (fun r=>l.length-r.1) (a+1,s0) ⟨by rw[hN,hl'],by simp only;omega⟩ (by simp[go_sem,LeS,leV,leR,leA,leL,leL_refl,segR]) (fun r hr2=>?_)
 obtain⟨i,s⟩:=r
 obtain⟨p1,p2⟩:=hr2
 simp only at p1 p2
 by_cases hil:i<l.length
 ·obtain⟨y,hy⟩:∃y,l[i]=y:=⟨_,rfl⟩
  have hyr:Rune y:=hr y (by rw[←hy];exact List.getElem_mem _)
  have em2:elemAt (i32s l) i=.int .i32 y:=by rw[i32s,elemAt_map (fun r=>PV.int .i32 r) l i hil,hy]
  have hdr:l.drop i=y::l.drop (i+1):=by rw[←hy];exact List.drop_eq_getElem_cons hil
  have g4:(i:Int)<l.length:=by omega
  have w2:IntKind.i64.wrap ((i:Int)+1)=((i+1:Nat):Int):=wrapN_one (by omega)
  have hend:(stepS t s y).2=true→N=i:=fun e=>by rw[p1,hdr,runC,if_pos e];rfl
  have hgo:(stepS t s y).2=false→N=(i+1)+runC t (stepS t s y).1 (l.drop (i+1)):=fun e=>by rw[p1,hdr,runC,if_neg (by rw[e];simp)];omega
  simp (maxSteps:=1000000) [go_sem,i32s_len,g4,segR]
  refine TreeK_of treeN (by kernel_rfl) ?_
  simp (maxSteps:=1000000) [go_sem,treeN,i32s_len,g4,em2,hil]
  refine⟨⟨⟨rfl,by simp[Tryz.f171]⟩,CallK_of [] (step_cr h hz ck cx sk sx s y hyr) (by simp[go_sem,notHead]) ⟨by simp[go_sem],by simp[go_sem,segV,tabP]⟩ (by simp[go_sem]) ?_⟩,⟨⟨rfl,by simp[Tryz.f171]⟩,CallK_of [] (step_cr h hz ck cx sk sx s y hyr) (by simp[go_sem,notHead]) ⟨by simp[go_sem],by simp[go_sem,segV,tabP]⟩ (by simp[go_sem]) ?_⟩⟩
  ·rintro _ rs ⟨rfl,rfl⟩
   generalize stepS t s y=q at hend hgo
   obtain⟨s2,ct⟩:=q
   cases ct with
   |true=>
    have e:=hend rfl
    rw[e]
    simp (maxSteps:=1000000) [go_sem,segV]
    exact ret_is (.p (.int .i64 (i:Nat))) rfl (by simp[go_sem,resOf,leA,leT,leP]) ⟨rfl,rfl⟩
   |false=>
    have e:=hgo rfl
    simp (maxSteps:=1000000) [go_sem,segV,w2]
    exact LoopK_next (i+1,s2) ⟨e,by show i+1≤l.length;omega⟩ (by simp[go_sem,LeS,leV,leR,leA,leL,leL_refl,segR]) (by show l.length- (i+1)<l.length-i;omega)
  ·rintro _ rs ⟨rfl,rfl⟩
   generalize stepS t s y=q at hend hgo
   obtain⟨s2,ct⟩:=q
   cases ct with
   |true=>
    have e:=hend rfl
    rw[e]
    simp (maxSteps:=1000000) [go_sem,segV]
    exact ret_is (.p (.int .i64 (i:Nat))) rfl (by simp[go_sem,resOf,leA,leT,leP]) ⟨rfl,rfl⟩
   |false=>
    have e:=hgo rfl
    simp (maxSteps:=1000000) [go_sem,segV,w2]
    exact LoopK_next (i+1,s2) ⟨e,by show i+1≤l.length;omega⟩ (by simp[go_sem,LeS,leV,leR,leA,leL,leL_refl,segR]) (by show l.length- (i+1)<l.length-i;omega)
 ·have g4:¬(i:Int)<l.length:=by omega
  have e:N=i:=by rw[p1,List.drop_eq_nil_of_le (by omega)];rfl
  rw[e]
  simp (maxSteps:=1000000) [go_sem,i32s_len,g4]
  exact ret_is (.p (.int .i64 (i:Nat))) rfl (by simp[go_sem,resOf,leA,leT,leP]) ⟨rfl,rfl⟩
def clusGo(t:Tells4):Nat→List Int→List (List Int)
 |0,_=>[]
 |_,[]=>[]
 |n+1,r::l=>(r::l.take (runC t (stepS t segZ r).1 l))::clusGo t n (l.drop (runC t (stepS t segZ r).1 l))
def clusL(t:Tells4)(l:List Int):List (List Int):=clusGo t l.length l
theorem clusGo_fuel(t:Tells4):∀(n m:Nat) (l:List Int),l.length≤n→l.length≤m→clusGo t n l=clusGo t m l
 |0,m,l,h1,h2=>by
  obtain rfl:l=[]:=List.eq_nil_of_length_eq_zero (by omega)
  cases m<;>rfl
 |n+1,0,l,h1,h2=>by
  obtain rfl:l=[]:=List.eq_nil_of_length_eq_zero (by omega)
  rfl
 |n+1,m+1,[],h1,h2=>rfl
 |n+1,m+1,r::l,h1,h2=>by
  simp only[List.length_cons]at h1 h2
  simp only[clusGo]
  rw[clusGo_fuel t n m _ (by rw[List.length_drop];omega) (by rw[List.length_drop];omega)]
theorem clusL_cons(t:Tells4)(r:Int)(l:List Int):clusL t (r::l)=(r::l.take (runC t (stepS t segZ r).1 l))::clusL t (l.drop (runC t (stepS t segZ r).1 l)):=by
 unfold clusL
 simp only[List.length_cons,clusGo]
 rw[clusGo_fuel t l.length _ _ (by rw[List.length_drop];omega) (Nat.le_refl _)]
end Go.Proofs.YtjefahhmkcfiiaaGreat
end
section
namespace Go.Proofs.YtjefahhmkcfiiaaGreat
open Go.AM
set_option maxHeartbeats 4000000
set_option maxRecDepth 10000
def apartL(t:Tells4)(l:List Int):List Int:=l.flatMap (takeL t 8)
def nfdL(t:Tells4)(l:List Int):List Int:=ordL (keyT t) (apartL t l)
theorem apartL_len(t:Tells4)(l:List Int):(apartL t l).length≤768*l.length:=by
 induction l with
 |nil=>simp[apartL]
 |cons x l ih=>
  have:=takeL_len t 8 x
  simp only[apartL,List.flatMap_cons,List.length_append,List.length_cons]at*
  omega
theorem takeL_ne(t:Tells4):∀d r,takeL t d r≠ []
 |0,r=>by unfold takeL;split<;>simp[splitL];split<;>simp
 |d+1,r=>by
  unfold takeL
  split
  ·unfold splitL;split<;>simp
  ·split
   ·simp
   ·have:=takeL_ne t d (t.par (rn r)).a
    simp[this]
theorem takeL_rune {t:Tells4}(hP:ParOK t):∀d r,Rune r→∀x∈takeL t d r,Rune x
 |0,r,hr,x,hx=>by
  unfold takeL at hx
  split at hx
  ·rename_i hs
   have hs':44032≤r∧r<55204:=by simpa[sylB]using hs
   unfold splitL at hx
   unfold Rune
   split at hx<;>simp at hx<;>omega
  ·rw[List.mem_singleton.1 hx];exact hr
 |d+1,r,hr,x,hx=>by
  unfold takeL at hx
  split at hx
  ·rename_i hs
   have hs':44032≤r∧r<55204:=by simpa[sylB]using hs
   unfold splitL at hx
   unfold Rune
   split at hx<;>simp at hx<;>omega
  ·have hp:=hP (rn r)
   split at hx
   ·rw[List.mem_singleton.1 hx];exact hr
   ·rcases List.mem_append.1 hx with hx|hx
    ·exact takeL_rune hP d _ ⟨by omega,by omega⟩ x hx
    ·split at hx
     ·simp at hx
     ·exact takeL_rune hP d _ ⟨by omega,by omega⟩ x hx
theorem apartL_rune {t:Tells4}(hP:ParOK t) {l:List Int}(hl:∀x∈l,Rune x):∀x∈apartL t l,Rune x:=fun x hx=>by
 obtain⟨r,hr,hx⟩:=List.mem_flatMap.1 hx
 exact takeL_rune hP 8 r (hl r hr) x hx
def nfdR(tab:PV)(e:List Int×Bool×Bool):List (Tok×List AV):=match e with
 |(_,_,false)=>[([5],[.p tab,.p (.opq (.slice none 0 0))])]
 |(es,true,true)=>[([5],takeR tab [901] es)]
 |(es,false,true)=>[([5],takeR tab [902] es)]
theorem nfd_cr [Gi] {t:Tells4} {c b j f p:PV}(h:TabV t c b j f p)(hz:ZeroT t)(hP:ParOK t)(ck cx sk sx:List PV)(l:List Int)(hn:l.length<2^20)(hr:∀x∈l,Rune x):
  CR Tryz.prog 128 [] [.p (tabP c b j f p ck cx sk sx),.p (runesV l)] [] (is (.p (runesV (nfdL t l)))):=by
 refine CR_of_wpM [] mixed 8 [10,11,12] Tryz.func128 rfl (by kernel_rfl) [2] rfl (by simp) (by simp) ?_
 simp (maxSteps:=1000000) [go_sem,Tryz.f128,runesV,i32s_len,tabP]
 refine⟨⟨rfl,rfl⟩,?_⟩
 have hrn:∀x∈l,Rune x:=hr
 refine wpA_loopU (fun r:Nat×Bool=>r.1≤l.length) (fun r=>[(12,.p (.int .i64 (r.1:Nat))),(7,.junk)]) (fun r=>nfdR (tabP c b j f p ck cx sk sx) (apartL t (l.take r.1),r.2,decide (r.1≠0))) (fun r=>l.length-r.1) (0,true) (by simp) (by simp[go_sem,LeS,leV,leR,leA,leL,nfdR,tabP]) (fun r hi=>?_)
 obtain⟨i,bt⟩:=r
 simp only at hi
 have hal:=apartL_len t (l.take i)
 have hal2:(apartL t (l.take i)).length≤768*l.length:=by rw[List.length_take]at hal;omega
 by_cases hil:i<l.length
 ·obtain⟨x,hx⟩:∃x,l[i]=x:=⟨_,rfl⟩
  have hxr:Rune x:=hr x (by rw[←hx];exact List.getElem_mem _)
  have em:elemAt (i32s l) i=.int .i32 x:=by rw[i32s,elemAt_map (fun r=>PV.int .i32 r) l i hil,hx]
  have hnx:apartL t (l.take (i+1))=apartL t (l.take i)++takeL t 8 x:=by
   rw[List.take_add_one,List.getElem?_eq_getElem hil,hx];simp[apartL]
  have w1:IntKind.i64.wrap ((i:Int)+1)=((i+1:Nat):Int):=wrapN_one (by omega)
  have hil':(i:Int)<l.length:=by omega
  have w0:IntKind.i64.wrap 1=1:=wrap64 (by omega) (by omega)
  rcases Nat.eq_zero_or_pos i with rfl|hi0
  ·have e0:apartL t (l.take 0)=[]:=by simp[apartL]
   rw[e0,List.nil_append]at hnx
   simp (maxSteps:=1000000) [go_sem,nfdR,tabP,hil,em,i32s_len]
   refine⟨⟨rfl,by simp[Tryz.f173]⟩,CallK_of [([0],[5]),([901],[901]),([0,1],[902])] (take_nil h hz hP ck cx sk sx 8 (by omega) x hxr) (by simp[go_sem,notHead]) ⟨by simp[go_sem],by simp[go_sem]⟩ (by simp[go_sem,tabP]) ?_⟩
   rintro _ _ ⟨rfl,tk,htk,rfl⟩
   rcases htk with rfl|rfl
   ·simp (maxSteps:=1000000) [go_sem,takeR,tabP]
    exact LoopK_next (1,false) (by show 1≤l.length;omega) (by simp[go_sem,LeS,leV,leR,leA,leL,nfdR,tabP,takeR,←hnx,w0]) (by show l.length-1<l.length-0;omega)
   ·simp (maxSteps:=1000000) [go_sem,takeR,tabP]
    exact LoopK_next (1,true) (by show 1≤l.length;omega) (by simp[go_sem,LeS,leV,leR,leA,leL,nfdR,tabP,takeR,←hnx,w0]) (by show l.length-1<l.length-0;omega)
  ·have hi1:¬i=0:=by omega
   cases bt with
   |true=>
    simp (maxSteps:=1000000) [go_sem,nfdR,tabP,takeR,hil,hil',em,i32s_len,hi1]
    refine⟨⟨rfl,by simp[Tryz.f173]⟩,CallK_of [([0],[5]),([901],[901]),([0,1],[902])] (take_os h hz hP ck cx sk sx 8 (by omega) (apartL t (l.take i)) x hxr (by omega)) (by simp[go_sem,notHead]) ⟨by simp[go_sem],by simp[go_sem]⟩ (by simp[go_sem,tabP]) ?_⟩
    rintro _ _ ⟨rfl,tk,htk,rfl⟩
    rcases htk with rfl|rfl
    ·simp (maxSteps:=1000000) [go_sem,takeR,tabP,w1]
     exact LoopK_next (i+1,false) (by show i+1≤l.length;omega) (by simp[go_sem,LeS,leV,leR,leA,leL,nfdR,tabP,takeR,hnx]) (by show l.length- (i+1)<l.length-i;omega)
    ·simp (maxSteps:=1000000) [go_sem,takeR,tabP,w1]
     exact LoopK_next (i+1,true) (by show i+1≤l.length;omega) (by simp[go_sem,LeS,leV,leR,leA,leL,nfdR,tabP,takeR,hnx]) (by show l.length- (i+1)<l.length-i;omega)
   |false=>
    simp (maxSteps:=1000000) [go_sem,nfdR,tabP,takeR,hil,hil',em,i32s_len,hi1]
    refine⟨⟨rfl,by simp[Tryz.f173]⟩,CallK_of [([0],[5]),([901],[902]),([0,1],[901])] (take_os h hz hP ck cx sk sx 8 (by omega) (apartL t (l.take i)) x hxr (by omega)) (by simp[go_sem,notHead]) ⟨by simp[go_sem],by simp[go_sem]⟩ (by simp[go_sem,tabP]) ?_⟩
    rintro _ _ ⟨rfl,tk,htk,rfl⟩
    rcases htk with rfl|rfl
    ·simp (maxSteps:=1000000) [go_sem,takeR,tabP,w1]
     exact LoopK_next (i+1,true) (by show i+1≤l.length;omega) (by simp[go_sem,LeS,leV,leR,leA,leL,nfdR,tabP,takeR,hnx]) (by show l.length- (i+1)<l.length-i;omega)
    ·simp (maxSteps:=1000000) [go_sem,takeR,tabP,w1]
     exact LoopK_next (i+1,false) (by show i+1≤l.length;omega) (by simp[go_sem,LeS,leV,leR,leA,leL,nfdR,tabP,takeR,hnx]) (by show l.length- (i+1)<l.length-i;omega)
 ·have hil':¬(i:Int)<l.length:=by omega
  obtain rfl:i=l.length:=by omega
  rw[List.take_length]at hal2⊢
  by_cases hl0:l=[]
  ·subst hl0
   simp (maxSteps:=1000000) [go_sem,nfdR,tabP]
   refine⟨⟨rfl,by simp[Tryz.f174]⟩,CallK_of [] (order0_cr c b j f p ck cx sk sx) (by simp[go_sem,notHead]) ⟨by simp[go_sem],by simp[go_sem,tabP]⟩ (by simp[go_sem]) ?_⟩
   rintro _ _ ⟨rfl,rfl⟩
   simp (maxSteps:=1000000) [go_sem,runesV]
   exact ret_is (.p (.sl 1 [])) rfl (by simp[go_sem,resOf,leA,leT,leP,i32s]) ⟨rfl,rfl⟩
  ·have hi1:¬l.length=0:=by simpa using hl0
   have hne:apartL t l≠ []:=by
    cases l with
    |nil=>exact absurd rfl hl0
    |cons x l=>simp[apartL,takeL_ne]
   have hru:=apartL_rune hP hr
   cases bt with
   |true=>
    simp (maxSteps:=1000000) [go_sem,nfdR,tabP,takeR,hil',hi1]
    refine⟨⟨rfl,by simp[Tryz.f174]⟩,CallK_of [] (orderT_cr h hz ck cx sk sx (apartL t l) hne (by omega) hru) (by simp[go_sem,notHead]) ⟨by simp[go_sem],by simp[go_sem,tabP,runesV]⟩ (by simp[go_sem]) ?_⟩
    rintro _ _ ⟨rfl,rfl⟩
    simp (maxSteps:=1000000) [go_sem,runesV]
    exact ret_is (.p (runesV (nfdL t l))) rfl (by simp[go_sem,resOf,leA,leT,leP,runesV,nfdL]) ⟨rfl,rfl⟩
   |false=>
    simp (maxSteps:=1000000) [go_sem,nfdR,tabP,takeR,hil',hi1]
    refine⟨⟨rfl,by simp[Tryz.f174]⟩,CallK_of [] (orderT_cr h hz ck cx sk sx (apartL t l) hne (by omega) hru) (by simp[go_sem,notHead]) ⟨by simp[go_sem],by simp[go_sem,tabP,runesV]⟩ (by simp[go_sem]) ?_⟩
    rintro _ _ ⟨rfl,rfl⟩
    simp (maxSteps:=1000000) [go_sem,runesV]
    exact ret_is (.p (runesV (nfdL t l))) rfl (by simp[go_sem,resOf,leA,leT,leP,runesV,nfdL]) ⟨rfl,rfl⟩
end Go.Proofs.YtjefahhmkcfiiaaGreat
end
