/- A part of the proof of this seat's statements, by an abstract machine: what each operation does to values, and what the law's functions compute. Conditions: as each law says. -/
import Derived.Test.YtjefahhmkcfiiaaGreatN35
import Derived.Test.YtjefahhmkcfiiaaGreatN29
import Derived.Test.YtjefahhmkcfiiaaGreatN21
import Derived.Test.YtjefahhmkcfiiaaGreatN28
section
namespace Go.Proofs.YtjefahhmkcfiiaaGreat
open Go.AM
set_option maxHeartbeats 4000000
set_option maxRecDepth 10000
theorem ZJ.zoi [Gi] {P:Program} {E:Ent} {D:List Nat} {x y:Code} {Q:Exit→St→Prop} {S:St} {ι:Type}(hm:P.follows .mixedOrders=true)(hc:Zh D x=true)(inv:ι→Prop)(V:ι→List (Nat×AV))(R:ι→List (Tok×List AV))
  (h:wpA P D x (Yc S inv V R (fun _ _=>False)) S) (hr:∀i ts,inv i→ZJ P E y Q (S.zcW (V i) (R i) ts)):ZJ P E (.seq x y) Q S:=
 ZJ.WV hm hc (jt x (fun e S' k=>by
  cases e with
  |normal=>obtain⟨i,ts,hi,rfl⟩:=k;exact hr i ts hi
  |_=>exact k.elim) h)
def vA(tab:PV)(n:Nat)(M:List Int):List (Tok×List AV):=[([2],[.p tab]),([9,7],zu M),([5],[.la [9,7] 1 0 n]),([12,2],[.p tab]),([12,3],[.la [9,7] 1 0 n])]
def QS:List Tok:=[[2],[9,7],[5],[12,2],[12,3]]
def zlm(n:Nat)(r:List Int×List Int×List Int):Prop:=r.1.length+r.2.1.length+r.2.2.length=n∧∀x∈r.2.1, -2147483648≤x∧x<2147483648
def Ju(k:Int→Int):List Int→List Int
 | []=>[]
 |s::Y=>s::Q4 k [] Y
def zl0(l n:Nat)(tab:PV)(i:Nat)(M:List Int):St:=
 {n:=39,nv:=6,vs:=[(0,.p (.opq (.func (.yield l) #[] #[]))),(1,.lp [12,3] 0),(2,.lp [12,2] 0),(4,.p (.int .i64 i))],ts:=[],rs:=vA tab n M,pin:=QS,ex:=[32]}
theorem zkH [Gi] {t:zR} {c b j f p:PV}(h:Qp t c b j f p)(hz:Z3 t)(ck cx sk sx:List PV)(M0:List Int)(n:Nat)(hM:M0.length=n)(hn:n<2^31)(hr:∀x∈M0, -2147483648≤x∧x<2147483648)
  (E:Ent) (l:Nat) (hy:∀r S1,zlm n r→S1.rs=vA (zE c b j f p ck cx sk sx) n (r.1++(r.2.1++r.2.2))→S1.pin=QS→JT Tryz.prog E l QS [.int .i64 (r.1.length:Nat),.int .i64 ((r.1.length+r.2.1.length:Nat):Int)] S1 (fun rs=>rs=vA (zE c b j f p ck cx sk sx) n (r.1++(QP (zI t) r.2.1++r.2.2)))):
  ∀co,Tryz.f227.body=some co→ZJ Tryz.prog E co (zhO QS (fun rs=>rs=vA (zE c b j f p ck cx sk sx) n (Yo (zI t) M0))) (itS Tryz.f227 6 [32] l [.lp [12,3] 0,.lp [12,2] 0] (vA (zE c b j f p ck cx sk sx) n M0) QS):=by
 intro co hco
 have hnt:Tryz.f227.ntmps=39:=rfl
 unfold Tryz.f227 at hco
 injection hco with hco
 subst hco
 refine ZJ.WV (D:=[]) mixed (by kernel_rfl) ?_
 simp (maxSteps:=1000000) [go_sem,itS,xQ,vA,QS,zE]
 refine ZJ.block (ZJ.loop (fun r:List Int×List Int×Nat=>r.1.length+r.2.1.length=n∧(r.2.2=r.1.length∨(r.2.2=r.1.length+1∧r.2.1=[]))∧r.1++Q4 (zI t) [] r.2.1=Yo (zI t) M0∧∀x∈r.2.1, -2147483648≤x∧x<2147483648)
  (fun r=>zl0 l n (zE c b j f p ck cx sk sx) r.2.2 (r.1++r.2.1)) (fun r=>n+1-r.2.2) ([],M0,0) ⟨by simp;omega,.inl rfl,rfl,hr⟩ (by simp[go_sem,LeS,leV,leR,leA,leL,zj,zl0,vA,QS,zE]) (fun r hr'=>?_))
 obtain⟨D,R,i⟩:=r
 obtain⟨q1,q2,q3,q4⟩:=hr'
 simp only at q1 q2 q3 q4
 refine ZJ.WV (D:=[]) mixed (by kernel_rfl) ?_
 simp (maxSteps:=1000000) [go_sem,zl0,vA,QS,zE]
 refine zx (fun h1=>?_) (fun h1=>?_)
 ·obtain rfl:i=D.length:=by
   rcases q2 with q2|⟨q2,q5⟩
   ·exact q2
   ·rw[q5]at q1;simp at q1;omega
  simp (maxSteps:=1000000) [go_sem]
  refine ZJ.seq (ZJ.block ?_)
  refine ZJ.WV (D:=[]) mixed (by kernel_rfl) ?_
  simp (maxSteps:=1000000) [go_sem]
  have f4:∀X Y,R=X++Y→(∀x∈X, -2147483648≤x∧x<2147483648):=fun X Y e x hx=>q4 x (by rw[e];simp[hx])
  refine ZJ.zoi (D:=[]) mixed (by kernel_rfl) (fun r:List Int×List Int=>R=r.1++r.2∧Q4 (zI t) [] R=Q4 (zI t) r.1 r.2∧(r.2=[]∨∃s,(∃Y,r.2=s::Y)∧zI t s=0)) (fun r=>[(4,.p (.int .i64 ((D.length+r.1.length:Nat):Int)))]) (fun _=>[]) ?_ ?_
  ·simp (maxSteps:=1000000) [go_sem]
   refine zi (fun r:List Int×List Int=>R=r.1++r.2∧Q4 (zI t) [] R=Q4 (zI t) r.1 r.2) (fun r=>[(4,.p (.int .i64 ((D.length+r.1.length:Nat):Int)))]) (fun r=>[]) (fun r=>r.2.length) ([],R) ⟨rfl,rfl⟩ (by simp[go_sem,LeS,leV,leR,leA,leL,zj]) (fun r hr2=>?_)
   obtain⟨X,Y⟩:=r
   obtain⟨p1,p2⟩:=hr2
   simp only at p1 p2
   have lR:R.length=X.length+Y.length:=by rw[p1];simp
   obtain⟨d,hd⟩:∃d,d=D.length:=⟨_,rfl⟩
   obtain⟨k,hk⟩:∃k,k=d+X.length:=⟨_,rfl⟩
   have hkc:(d:Int)+(X.length:Int)=(k:Int):=by omega
   simp only[←hd,←hk]
   cases Y with
   |nil=>
    have hkn:¬k<n:=by simp at lR;omega
    simp (maxSteps:=1000000) [go_sem,hkn]
    exact zU (X,[]) ⟨p1,p2,.inl rfl⟩ (by simp[go_sem,hk])
   |cons s Y=>
    have hkn:k<n:=by simp at lR;omega
    have hsr: -2147483648≤s∧s<2147483648:=q4 s (by rw[p1];simp)
    have gk:(zu (D++R))[k]?=some (.p (.int .i32 s)):=Zr (by
     rw[p1,List.getElem?_append_right (by omega),List.getElem?_append_right (by omega)]
     have:k-D.length-X.length=0:=by omega
     rw[this];rfl)
    have w1:IntKind.i64.wrap ((k:Int)+1)=((k+1:Nat):Int):=zP (by omega)
    simp (maxSteps:=1000000) [go_sem,hkn,gk]
    refine⟨⟨rfl,by simp[Tryz.f124]⟩,zb [] (Q9 h ck cx sk sx hz hsr) (by simp[go_sem,zD]) ⟨by simp[go_sem],by simp[go_sem,zE]⟩ (by simp[go_sem]) ?_⟩
    rintro _ _ ⟨rfl,rfl⟩
    have hkey:zI t s=t.cls (rn s):=rfl
    by_cases hs:t.cls (rn s)=0
    ·simp (maxSteps:=1000000) [go_sem,hs]
     exact zU (X,s::Y) ⟨p1,p2,.inr ⟨s,⟨Y,rfl⟩,hkey.trans hs⟩⟩ (by simp[go_sem,hk])
    ·simp (maxSteps:=1000000) [go_sem,hs,w1]
     refine zc (X++[s],Y) ⟨by rw[p1];simp,?_⟩ (by simp[go_sem,LeS,leV,leR,leA,leL,zj];omega) (by simp)
     rw[p2,Q4,if_neg (by rw[hkey];exact hs)]
  ·rintro⟨X,Y⟩ ts ⟨p1,p2,p3⟩
   simp only at p1 p2 p3
   have lR:R.length=X.length+Y.length:=by rw[p1];simp
   have eF:Q4 (zI t) [] R=QP (zI t) X++Ju (zI t) Y:=by
    rw[p2]
    rcases p3 with rfl|⟨s,⟨Y',rfl⟩,hs⟩
    ·simp[Q4,Ju]
    ·simp[Q4,Ju,hs]
   obtain⟨d,hd⟩:∃d,d=D.length:=⟨_,rfl⟩
   obtain⟨k,hk⟩:∃k,k=d+X.length:=⟨_,rfl⟩
   have hkc:(d:Int)+(X.length:Int)=(k:Int):=by omega
   have w1:IntKind.i64.wrap ((k:Int)+1)=((k+1:Nat):Int):=zP (by omega)
   have w2:IntKind.i64.wrap ((k:Int)-d)=(X.length:Int):=Q6 (by omega) (by omega)
   -- behind the round
   have next:∀M,M=D++(QP (zI t) X++Y)→∃r:List Int×List Int×Nat,(r.1.length+r.2.1.length=n∧(r.2.2=r.1.length∨(r.2.2=r.1.length+1∧r.2.1=[]))∧r.1++Q4 (zI t) [] r.2.1=Yo (zI t) M0∧∀x∈r.2.1, -2147483648≤x∧x<2147483648)∧M=r.1++r.2.1∧r.2.2=k+1:=by
    intro M hM'
    rcases p3 with rfl|⟨s,⟨Y',rfl⟩,hs⟩
    ·refine⟨(D++QP (zI t) X,[],k+1),⟨by simp[yB];simp at lR;omega,.inr ⟨by simp[yB];omega,rfl⟩,?_,by simp⟩,by rw[hM'];simp,rfl⟩
     rw[←q3,eF];simp[Q4,QP,Ju]
    ·refine⟨(D++(QP (zI t) X++[s]),Y',k+1),⟨by simp[yB];simp at lR;omega,.inl (by simp[yB];omega),?_,fun x hx=>q4 x (by rw[p1];simp[hx])⟩,by rw[hM'];simp,rfl⟩
     rw[←q3,eF];simp[Ju]
   simp only[←hd]
   by_cases hX:1<X.length
   ·refine ZJ.seq (ZJ.zkM (l:=l) (d:=36) 8 rfl rfl rfl (pins:=QS) (by kernel_rfl) (by kernel_rfl) ?_)
    have hXi:(1:Int)<X.length:=by omega
    simp (maxSteps:=1000000) [go_sem,hkc,w2,hXi,QS]
    have hY:=hy (D,X,Y) {n:=39,nv:=6,vs:=[(0,.p (.opq (.func (.yield l) #[] #[]))),(1,.lp [12,3] 0),(2,.lp [12,2] 0),(4,.p (.int .i64 k)),(5,.p (.int .i64 d)),(32,.p (.bool true))],ts:=[(35,.gd true (.p (.int .i64 k))),(34,.gd true (.p (.int .i64 d))),(33,.gd true (.p (.opq (.func (.yield l) #[] #[])))),(31,.p (.bool true)),(30,.p (.int .i64 X.length)),(29,.p (.int .i64 d)),(28,.p (.int .i64 k))],rs:=vA (zE c b j f p ck cx sk sx) n (D++R),pin:=QS,ex:=[32]} ⟨by simp only;omega,f4 X Y p1⟩ (by rw[p1]) rfl
    simp only[←hd,←hk]at hY
    refine⟨_,hY,?_⟩
    rintro _ rfl
    simp (maxSteps:=1000000) [go_sem,vb,yH,vA,zE]
    refine ZJ.zlg (by simp[go_sem]) ?_
    refine ZJ.xl (D:=[]) mixed (by kernel_rfl) ?_
    simp (maxSteps:=1000000) [go_sem]
    refine ZJ.xl (D:=[]) mixed (by kernel_rfl) ?_
    simp (maxSteps:=1000000) [go_sem,w1]
    obtain⟨r,h2,h3,h4⟩:=next (D++(QP (zI t) X++Y)) rfl
    refine Yt r h2 (by simp[go_sem,LeS,leV,leR,leA,leL,zj,←h3,h4]) (by show n+1-r.2.2<n+1-d;rw[h4];omega)
   ·have hXi:¬(1:Int)<X.length:=by omega
    refine ZJ.WV (D:=[]) mixed (by kernel_rfl) ?_
    simp (maxSteps:=1000000) [go_sem,hkc,w2,hXi]
    refine ZJ.zlg (by simp[go_sem]) ?_
    refine ZJ.xl (D:=[]) mixed (by kernel_rfl) ?_
    simp (maxSteps:=1000000) [go_sem]
    refine ZJ.xl (D:=[]) mixed (by kernel_rfl) ?_
    simp (maxSteps:=1000000) [go_sem,w1]
    obtain⟨r,h2,h3,h4⟩:=next (D++R) (by rw[p1,zcn (by omega)])
    refine Yt r h2 (by simp[go_sem,LeS,leV,leR,leA,leL,zj,h3,h4]) (by show n+1-r.2.2<n+1-d;rw[h4];omega)
 ·have hR:R=[]:=by
   rcases q2 with q2|⟨q2,q5⟩
   ·have:R.length=0:=by omega
    exact List.eq_nil_of_length_eq_zero this
   ·exact q5
  subst hR
  simp (maxSteps:=1000000) [go_sem]
  rw[←q3];simp[Q4,QP]
theorem zda [Gi] {t:zR} {c b j f p:PV}(h:Qp t c b j f p)(hz:Z3 t)(ck cx sk sx:List PV)(l:List Int)(h0:l≠ [])(hn:l.length<2^31)(hr:∀x∈l, -2147483648≤x∧x<2147483648):
  CR Tryz.prog 174 [] [.p (zE c b j f p ck cx sk sx),.p (zh l)] [] (fun x rs=>x=.la [9,7] 1 0 l.length∧rs=[([9,7],zu (Yo (zI t) l))]):=by
 have hlp:0<l.length:=List.length_pos_iff.2 h0
 refine zal 8 [12,13,14] Tryz.func174 rfl rfl (by simp) (by simp) ?_
 refine Wz.seq (D:=[]) mixed (by kernel_rfl) ?_
 simp (maxSteps:=1000000) [go_sem,zE,zh]
 refine Wz.seq (D:=[]) mixed (by kernel_rfl) ?_
 simp (maxSteps:=1000000) [go_sem]
 refine⟨⟨rfl,by simp[Tryz.f126]⟩,zb [] (JN l h0 (by omega)) (by simp[go_sem]) ⟨by simp[go_sem],by simp[go_sem,zh]⟩ (by simp[go_sem]) ?_⟩
 rintro _ _ ⟨rfl,rfl⟩
 simp (maxSteps:=1000000) [go_sem]
 refine⟨rfl,Wz.znr (D:=[]) mixed (by kernel_rfl) ?_⟩
 simp (maxSteps:=1000000) [go_sem]
 refine⟨⟨rfl,by simp[Tryz.f209]⟩,zb [([0],[9,7])] (zjn c b j f p ck cx sk sx l l.length) (by simp[go_sem,zD]) ⟨by simp[go_sem],by simp[go_sem,zE]⟩ (by simp[go_sem]) ?_⟩
 rintro _ _ ⟨rfl,rfl⟩
 simp (maxSteps:=1000000) [go_sem,zE]
 refine zcV.zi0 (D:=[]) mixed (gf:=227) (caps:=[.lp [12,3] 0,.lp [12,2] 0]) rfl (by simp[Tryz.f227]) (fn':=Tryz.f227) 6 [32] Tryz.func227 rfl rfl (by simp) (by simp[Tryz.f227])
  [(0,.p (zE c b j f p ck cx sk sx)),(1,.p (zh l)),(2,.lp [2] 0),(5,.lp [5] 0)] QS (vA (zE c b j f p ck cx sk sx) l.length l) (fun rs=>rs=vA (zE c b j f p ck cx sk sx) l.length (Yo (zI t) l)) (by simp[yH,QS]) (by simp) rfl rfl
  (by simp[go_sem,LeS,leV,leR,leA,leL,zj,lst,vA,zE,zh]) (by simp) (by simp) (by kernel_rfl) (by kernel_rfl)
  (fun r:List Int×List Int×List Int=>zlm l.length r) (fun r=>vA (zE c b j f p ck cx sk sx) l.length (r.1++(r.2.1++r.2.2))) (fun r=>vA (zE c b j f p ck cx sk sx) l.length (r.1++(QP (zI t) r.2.1++r.2.2))) (fun r=>((r.1.length:Nat),((r.1.length+r.2.1.length:Nat):Int))) ?_ ?_ ?_
 ·rintro⟨A,X,B⟩ ⟨k1,k2⟩
  simp only at k1 k2
  simp (maxSteps:=1000000) [go_sem,lst,vA,QS,zE]
  have e1:((A.length:Int)+X.length).toNat-A.length=X.length:=by omega
  have hlen:(A++(X++B)).length=l.length:=by simp;omega
  refine⟨⟨by omega,by omega⟩,⟨rfl,by simp[Tryz.f210]⟩,zb [([0],[9,7]),([1],[2])] (pin:=[[0],[1]]) (Xd h hz ck cx sk sx A X B A.length X.length rfl rfl (by omega) k2) (by simp[go_sem,zD]) ⟨by simp[go_sem],by simp[go_sem,jy,e1]⟩ (by simp[go_sem,zE]) ?_⟩
  rintro _ _ ⟨X',hX',rfl,rfl⟩
  simp (maxSteps:=1000000) [go_sem,zE]
  rw[zjl hX']
  exact .inl (by simp[go_sem,LeS,leV,leR,leA,leL,zj,lst])
 ·intro E y hy
  exact zkH h hz ck cx sk sx l l.length rfl hn hr E y (fun r S1 h1 h2 h3=>hy r S1 h1 h2 h3) _ rfl
 ·rintro rs rfl
  refine zhJ.xl (D:=[]) (by kernel_rfl) ?_
  simp (maxSteps:=1000000) [go_sem,lst,zlB,vA,zE]
  exact zl [[9,7]] (.la [9,7] 1 0 l.length) ⟨rfl,by simp⟩ (by simp[go_sem,zf,leA,leT]) ⟨rfl,by simp[go_sem]⟩
end Go.Proofs.YtjefahhmkcfiiaaGreat
end
section
namespace Go.Proofs.YtjefahhmkcfiiaaGreat
open Go.AM
set_option maxHeartbeats 4000000
set_option maxRecDepth 10000
theorem CR.row [Gi] {P:Program} {fn:FuncId} {args:List AV} {t:Tok} {M:List Int}(h0:0<M.length)(h:CR P fn [] args [] (fun x rs=>x=.la t 1 0 M.length∧rs=[(t,zu M)])):CR P fn [] args [] (is (.p (zh M))):=by
 refine CR.freeze h (fun _=>false) rfl ?_
 rintro x rs ⟨rfl,rfl⟩
 refine⟨.p (zh M),fun g w v hG hv=>?_,rfl,rfl⟩
 rw[Ww]
 refine uI (t:=t) (z:=1) (n:=M.length) (es:=zB M) (rt:=fun _=>false) hG [] h0 ?_ rfl (by simp[zB]) (fun e he=>?_) hv
 ·rw[zat];simp[zH,zhT]
 ·obtain⟨s,_,rfl⟩:=List.mem_map.1 he
  exact⟨rfl,rfl⟩
theorem J3(k:Int→Int)(l:List Int):(Yo k l).length=l.length:=by unfold Yo;rw[US];simp
theorem XY [Gi] {t:zR} {c b j f p:PV}(h:Qp t c b j f p)(hz:Z3 t)(ck cx sk sx:List PV)(l:List Int)(h0:l≠ [])(hn:l.length<2^31)(hr:∀x∈l, -2147483648≤x∧x<2147483648):
  CR Tryz.prog 174 [] [.p (zE c b j f p ck cx sk sx),.p (zh l)] [] (is (.p (zh (Yo (zI t) l)))):=by
 have hlp:0<l.length:=List.length_pos_iff.2 h0
 refine CR.row (t:=[9,7]) (by rw[J3];exact hlp) ?_
 rw[J3]
 exact zda h hz ck cx sk sx l h0 hn hr
def zca(tab:PV):List (Tok×List AV):=[([2],[.p tab]),([5],[.p (.sl 1 [])]),([12,2],[.p tab]),([12,3],[.p (.sl 1 [])])]
def JY:List Tok:=[[2],[5],[12,2],[12,3]]
theorem zgk [Gi](c b j f p:PV)(ck cx sk sx:List PV):CR Tryz.prog 209 [] [.p (zE c b j f p ck cx sk sx),.p (.sl 1 [])] []
  (fun x rs=>x=.fn 227 [.lp [3] 0,.lp [2] 0]∧rs=[([2],[.p (zE c b j f p ck cx sk sx)]),([3],[.p (.sl 1 [])])]):=by
 refine zm mixed 6 [] Tryz.func209 rfl (by kernel_rfl) rfl (by simp) (by simp) ?_
 simp (maxSteps:=1000000) [go_sem,Tryz.f209,zE]
 exact zl [[2],[3]] (.fn 227 [.lp [3] 0,.lp [2] 0]) ⟨rfl,by simp⟩ (by simp[go_sem,zf,leA,leT]) ⟨rfl,by simp[go_sem]⟩
theorem zhz [Gi](c b j f p:PV)(ck cx sk sx:List PV):CR Tryz.prog 174 [] [.p (zE c b j f p ck cx sk sx),.p (.opq (.slice none 0 0))] [] (is (.p (zh []))):=by
 refine zal 8 [12,13,14] Tryz.func174 rfl rfl (by simp) (by simp) ?_
 refine Wz.seq (D:=[]) mixed (by kernel_rfl) ?_
 simp (maxSteps:=1000000) [go_sem,zE]
 refine Wz.seq (D:=[]) mixed (by kernel_rfl) ?_
 simp (maxSteps:=1000000) [go_sem]
 refine⟨⟨rfl,by simp[Tryz.f126]⟩,zb [] zg9 (by simp[go_sem]) ⟨by simp[go_sem],by simp[go_sem]⟩ (by simp[go_sem]) ?_⟩
 rintro _ _ ⟨rfl,rfl⟩
 simp (maxSteps:=1000000) [go_sem]
 refine⟨rfl,?_⟩
 refine Wz.znr (D:=[]) mixed (by kernel_rfl) ?_
 simp (maxSteps:=1000000) [go_sem]
 refine⟨⟨rfl,by simp[Tryz.f209]⟩,zb [] (zgk c b j f p ck cx sk sx) (by simp[go_sem]) ⟨by simp[go_sem],by simp[go_sem,zE]⟩ (by simp[go_sem]) ?_⟩
 rintro _ _ ⟨rfl,rfl⟩
 simp (maxSteps:=1000000) [go_sem,zE]
 refine zcV.zi0 (D:=[]) mixed (gf:=227) (caps:=[.lp [12,3] 0,.lp [12,2] 0]) rfl (by simp[Tryz.f227]) (fn':=Tryz.f227) 6 [32] Tryz.func227 rfl rfl (by simp) (by simp[Tryz.f227])
  [(0,.p (zE c b j f p ck cx sk sx)),(2,.lp [2] 0),(5,.lp [5] 0)] JY (zca (zE c b j f p ck cx sk sx)) (fun rs=>rs=zca (zE c b j f p ck cx sk sx)) (by simp[yH,JY]) (by simp) rfl rfl
  (by simp[go_sem,LeS,leV,leR,leA,leL,lst,zca,zE]) (by simp) (by simp) (by kernel_rfl) (by kernel_rfl)
  (fun _:Unit=>False) (fun _=>[]) (fun _=>[]) (fun _=>(0,0)) (fun _ h=>h.elim) ?_ ?_
 ·intro E y _
  have hnt:Tryz.f227.ntmps=39:=rfl
  refine ZJ.xl (D:=[]) mixed (by kernel_rfl) ?_
  simp (maxSteps:=1000000) [go_sem,itS,xQ,zca,JY,zE]
  refine zi (fun _:Unit=>True) (fun _=>[]) (fun _=>[]) (fun _=>0) () trivial (by simp[go_sem,LeS,leV,leR,leA,leL]) (fun _ _=>?_)
  simp (maxSteps:=1000000) [go_sem]
 ·rintro rs rfl
  refine zhJ.xl (D:=[]) (by kernel_rfl) ?_
  simp (maxSteps:=1000000) [go_sem,lst,zlB,zca,zE]
  exact zg (.p (.sl 1 [])) rfl (by simp[go_sem,zf,leA,leT]) ⟨rfl,rfl⟩
end Go.Proofs.YtjefahhmkcfiiaaGreat
end
section
namespace Go.Proofs.YtjefahhmkcfiiaaGreat
open Go.AM
set_option maxHeartbeats 4000000
set_option maxRecDepth 10000
def QV:xr:=⟨false,0,0,0,false⟩
def wJ(t:zR):xr→List Int→Nat
 |_,[]=>0
 |s,r::l=>if(Zo t s r).2 then 0 else 1+wJ t (Zo t s r).1 l
theorem zf9(t:zR):∀(l:List Int) (s:xr),wJ t s l≤l.length
 | [],_=>by simp[wJ]
 |r::l,s=>by
  unfold wJ
  split
  ·omega
  ·have:=zf9 t l (Zo t s r).1
   simp only[List.length_cons];omega
def zfD:OT:=.now 0 1 (.now 1 1 (.now 2 1 (.now 3 1 (.now 4 1 (.now 5 1 (.mk [(6,.now 7 1 (.now 8 1 (.now 9 2 (.mk [(10,.mk [(11,.now 12 0 (.mk []))])])))),(10,.mk [(6,.now 7 0 (.now 8 0 (.now 9 2 (.mk [(11,.now 12 0 (.mk []))]))))])]))))))
def zhv(s:xr):List AV:=[.p (.bool s.some),.p (.int .i64 s.last),.p (.int .i64 s.pict),.p (.int .i64 s.conj),.p (.bool s.odd)]
theorem zfC [Gi] {t:zR} {c b j f p:PV}(h:Qp t c b j f p)(hz:Z3 t)(ck cx sk sx:List PV)(l:List Int)(hn:l.length<2^31)(hr:∀x∈l,zL x)(a:Nat)(x:Int)(l':List Int)(ha:l.drop a=x::l'):
  CR Tryz.prog 125 [] [.p (zE c b j f p ck cx sk sx),.p (zh l),.p (.int .i64 a)] [] (is (.p (.int .i64 ((a+1+wJ t (Zo t QV x).1 l':Nat):Int)))):=by
 have hal:a<l.length:=by
  have:=congrArg List.length ha
  simp at this;omega
 have hx:l[a]=x:=by
  have:=List.drop_eq_getElem_cons hal
  rw[ha]at this
  injection this with h1 _;exact h1.symm
 have hl':l'=l.drop (a+1):=by
  have:=List.drop_eq_getElem_cons hal
  rw[ha]at this
  injection this
 have hxr:zL x:=hr x (by rw[←hx];exact List.getElem_mem _)
 have em:elemAt (zB l) a=.int .i32 x:=by rw[zB,zq (fun r=>PV.int .i32 r) l a hal,hx]
 obtain⟨N,hN⟩:∃N,N=a+1+wJ t (Zo t QV x).1 l':=⟨_,rfl⟩
 rw[←hN]
 refine zM [200007] mixed 11 [] Tryz.func125 rfl (by kernel_rfl) rfl (by simp) (by simp) ?_
 have w1:IntKind.i64.wrap ((a:Int)+1)=((a+1:Nat):Int):=zP (by omega)
 have g1:¬(a:Int)<0:=by omega
 have g2:¬((l.length:Int)≤a):=by omega
 have g3:(a:Int)<l.length:=by omega
 simp (maxSteps:=1000000) [go_sem,Tryz.f125,zh,zp,zE,g1,g2,g3,em]
 refine⟨⟨rfl,by simp[Tryz.f171]⟩,zb [] (KZ h hz ck cx sk sx QV x hxr) (by simp[go_sem]) ⟨by simp[go_sem],by simp[go_sem,jT,QV,zE]⟩ (by simp[go_sem]) ?_⟩
 rintro _ rs ⟨rfl,rfl⟩
 have hso:∀s r,(Zo t s r).1.some=true:=fun _ _=>rfl
 obtain⟨s0,hs0⟩:∃s0,(Zo t QV x).1=s0:=⟨_,rfl⟩
 rw[hs0]at hN⊢
 generalize (Zo t QV x).2=cut0
 simp (maxSteps:=1000000) [go_sem,jT,w1]
 refine zi (fun r:Nat×xr=>N=r.1+wJ t r.2 (l.drop r.1)∧r.1≤l.length) (fun r=>[(2,.p (.int .i64 (r.1:Nat))),(9,.zZ),(10,.zZ)]) (fun r=>[([7],zhv r.2)]) (fun r=>l.length-r.1) (a+1,s0) ⟨by rw[hN,hl'],by simp only;omega⟩ (by simp[go_sem,LeS,leV,leR,leA,leL,zhv]) (fun r hr2=>?_)
 obtain⟨i,s⟩:=r
 obtain⟨p1,p2⟩:=hr2
 simp only at p1 p2
 by_cases hil:i<l.length
 ·obtain⟨y,hy⟩:∃y,l[i]=y:=⟨_,rfl⟩
  have hyr:zL y:=hr y (by rw[←hy];exact List.getElem_mem _)
  have em2:elemAt (zB l) i=.int .i32 y:=by rw[zB,zq (fun r=>PV.int .i32 r) l i hil,hy]
  have hdr:l.drop i=y::l.drop (i+1):=by rw[←hy];exact List.drop_eq_getElem_cons hil
  have g4:(i:Int)<l.length:=by omega
  have w2:IntKind.i64.wrap ((i:Int)+1)=((i+1:Nat):Int):=zP (by omega)
  have hend:(Zo t s y).2=true→N=i:=fun e=>by rw[p1,hdr,wJ,if_pos e];rfl
  have hgo:(Zo t s y).2=false→N=(i+1)+wJ t (Zo t s y).1 (l.drop (i+1)):=fun e=>by rw[p1,hdr,wJ,if_neg (by rw[e];simp)];omega
  simp (maxSteps:=1000000) [go_sem,zp,g4,zhv]
  refine Zg zfD (by kernel_rfl) ?_
  simp (maxSteps:=1000000) [go_sem,zfD,zp,g4,em2]
  refine⟨⟨⟨rfl,by simp[Tryz.f171]⟩,zb [] (KZ h hz ck cx sk sx s y hyr) (by simp[go_sem]) ⟨by simp[go_sem],by simp[go_sem,jT,zE]⟩ (by simp[go_sem]) ?_⟩,⟨⟨rfl,by simp[Tryz.f171]⟩,zb [] (KZ h hz ck cx sk sx s y hyr) (by simp[go_sem]) ⟨by simp[go_sem],by simp[go_sem,jT,zE]⟩ (by simp[go_sem]) ?_⟩⟩
  ·rintro _ rs ⟨rfl,rfl⟩
   generalize Zo t s y=q at hend hgo
   obtain⟨s2,ct⟩:=q
   cases ct with
   |true=>
    have e:=hend rfl
    rw[e]
    simp (maxSteps:=1000000) [go_sem,jT]
    exact zg (.p (.int .i64 (i:Nat))) rfl (by simp[go_sem,zf,leA,leT]) ⟨rfl,rfl⟩
   |false=>
    have e:=hgo rfl
    simp (maxSteps:=1000000) [go_sem,jT,w2]
    exact zc (i+1,s2) ⟨e,by show i+1≤l.length;omega⟩ (by simp[go_sem,LeS,leV,leR,leA,leL]) (by show l.length- (i+1)<l.length-i;omega)
  ·rintro _ rs ⟨rfl,rfl⟩
   generalize Zo t s y=q at hend hgo
   obtain⟨s2,ct⟩:=q
   cases ct with
   |true=>
    have e:=hend rfl
    rw[e]
    simp (maxSteps:=1000000) [go_sem,jT]
    exact zg (.p (.int .i64 (i:Nat))) rfl (by simp[go_sem,zf,leA,leT]) ⟨rfl,rfl⟩
   |false=>
    have e:=hgo rfl
    simp (maxSteps:=1000000) [go_sem,jT,w2]
    exact zc (i+1,s2) ⟨e,by show i+1≤l.length;omega⟩ (by simp[go_sem,LeS,leV,leR,leA,leL]) (by show l.length- (i+1)<l.length-i;omega)
 ·have g4:¬(i:Int)<l.length:=by omega
  have e:N=i:=by rw[p1,List.drop_eq_nil_of_le (by omega)];rfl
  rw[e]
  simp (maxSteps:=1000000) [go_sem,zp,g4]
  exact zg (.p (.int .i64 (i:Nat))) rfl (by simp[go_sem,zf,leA,leT]) ⟨rfl,rfl⟩
def wc(t:zR):Nat→List Int→List (List Int)
 |0,_=>[]
 |_,[]=>[]
 |n+1,r::l=>(r::l.take (wJ t (Zo t QV r).1 l))::wc t n (l.drop (wJ t (Zo t QV r).1 l))
def QN(t:zR)(l:List Int):List (List Int):=wc t l.length l
theorem Kh(t:zR):∀(n m:Nat) (l:List Int),l.length≤n→l.length≤m→wc t n l=wc t m l
 |0,m,l,h1,h2=>by
  obtain rfl:l=[]:=List.eq_nil_of_length_eq_zero (by omega)
  cases m<;>rfl
 |n+1,0,l,h1,h2=>by
  obtain rfl:l=[]:=List.eq_nil_of_length_eq_zero (by omega)
  rfl
 |n+1,m+1,[],h1,h2=>rfl
 |n+1,m+1,r::l,h1,h2=>by
  simp only[List.length_cons]at h1 h2
  simp only[wc]
  rw[Kh t n m _ (by rw[List.length_drop];omega) (by rw[List.length_drop];omega)]
theorem zeG(t:zR)(r:Int)(l:List Int):QN t (r::l)=(r::l.take (wJ t (Zo t QV r).1 l))::QN t (l.drop (wJ t (Zo t QV r).1 l)):=by
 unfold QN
 simp only[List.length_cons,wc]
 rw[Kh t l.length _ _ (by rw[List.length_drop];omega) (Nat.le_refl _)]
end Go.Proofs.YtjefahhmkcfiiaaGreat
end
section
namespace Go.Proofs.YtjefahhmkcfiiaaGreat
open Go.AM
set_option maxHeartbeats 4000000
set_option maxRecDepth 10000
def Qe(t:zR)(l:List Int):List Int:=l.flatMap (qL t 8)
def KO(t:zR)(l:List Int):List Int:=Yo (zI t) (Qe t l)
theorem Jr(t:zR)(l:List Int):(Qe t l).length≤768*l.length:=by
 induction l with
 |nil=>simp[Qe]
 |cons x l ih=>
  have:=xS t 8 x
  simp only[Qe,List.flatMap_cons,List.length_append,List.length_cons]at*
  omega
theorem zbW(t:zR):∀d r,qL t d r≠ []
 |0,r=>by unfold qL;split<;>simp[zQ];split<;>simp
 |d+1,r=>by
  unfold qL
  split
  ·unfold zQ;split<;>simp
  ·split
   ·simp
   ·have:=zbW t d (t.par (rn r)).a
    simp[this]
theorem WT {t:zR}(hP:Wi t):∀d r,zL r→∀x∈qL t d r,zL x
 |0,r,hr,x,hx=>by
  unfold qL at hx
  split at hx
  ·rename_i hs
   have hs':44032≤r∧r<55204:=by simpa[Zc]using hs
   unfold zQ at hx
   unfold zL
   split at hx<;>simp at hx<;>omega
  ·rw[List.mem_singleton.1 hx];exact hr
 |d+1,r,hr,x,hx=>by
  unfold qL at hx
  split at hx
  ·rename_i hs
   have hs':44032≤r∧r<55204:=by simpa[Zc]using hs
   unfold zQ at hx
   unfold zL
   split at hx<;>simp at hx<;>omega
  ·have hp:=hP (rn r)
   split at hx
   ·rw[List.mem_singleton.1 hx];exact hr
   ·rcases List.mem_append.1 hx with hx|hx
    ·exact WT hP d _ ⟨by omega,by omega⟩ x hx
    ·split at hx
     ·simp at hx
     ·exact WT hP d _ ⟨by omega,by omega⟩ x hx
theorem Kn {t:zR}(hP:Wi t) {l:List Int}(hl:∀x∈l,zL x):∀x∈Qe t l,zL x:=fun x hx=>by
 obtain⟨r,hr,hx⟩:=List.mem_flatMap.1 hx
 exact WT hP 8 r (hl r hr) x hx
def zcB(tab:PV)(e:List Int×Bool×Bool):List (Tok×List AV):=match e with
 |(_,_,false)=>[([5],[.p tab,.p (.opq (.slice none 0 0))])]
 |(es,true,true)=>[([5],Zb tab [901] es)]
 |(es,false,true)=>[([5],Zb tab [902] es)]
theorem zml [Gi] {t:zR} {c b j f p:PV}(h:Qp t c b j f p)(hz:Z3 t)(hP:Wi t)(ck cx sk sx:List PV)(l:List Int)(hn:l.length<2^20)(hr:∀x∈l,zL x):
  CR Tryz.prog 128 [] [.p (zE c b j f p ck cx sk sx),.p (zh l)] [] (is (.p (zh (KO t l)))):=by
 refine qK [] mixed 8 [10,11,12] Tryz.func128 rfl (by kernel_rfl) [2] rfl (by simp) (by simp) ?_
 simp (maxSteps:=1000000) [go_sem,Tryz.f128,zh,zp,zE]
 refine⟨⟨rfl,rfl⟩,?_⟩
 have hrn:∀x∈l,zL x:=hr
 refine zi (fun r:Nat×Bool=>r.1≤l.length) (fun r=>[(12,.p (.int .i64 (r.1:Nat))),(7,.zZ)]) (fun r=>zcB (zE c b j f p ck cx sk sx) (Qe t (l.take r.1),r.2,decide (r.1≠0))) (fun r=>l.length-r.1) (0,true) (by simp) (by simp[go_sem,LeS,leV,leR,leA,leL,zcB,zE]) (fun r hi=>?_)
 obtain⟨i,bt⟩:=r
 simp only at hi
 have hal:=Jr t (l.take i)
 have hal2:(Qe t (l.take i)).length≤768*l.length:=by rw[List.length_take]at hal;omega
 by_cases hil:i<l.length
 ·obtain⟨x,hx⟩:∃x,l[i]=x:=⟨_,rfl⟩
  have hxr:zL x:=hr x (by rw[←hx];exact List.getElem_mem _)
  have em:elemAt (zB l) i=.int .i32 x:=by rw[zB,zq (fun r=>PV.int .i32 r) l i hil,hx]
  have hnx:Qe t (l.take (i+1))=Qe t (l.take i)++qL t 8 x:=by
   rw[List.take_add_one,List.getElem?_eq_getElem hil,hx];simp[Qe]
  have w1:IntKind.i64.wrap ((i:Int)+1)=((i+1:Nat):Int):=zP (by omega)
  have hil':(i:Int)<l.length:=by omega
  have w0:IntKind.i64.wrap 1=1:=wrap64 (by omega) (by omega)
  rcases Nat.eq_zero_or_pos i with rfl|hi0
  ·have e0:Qe t (l.take 0)=[]:=by simp[Qe]
   rw[e0,List.nil_append]at hnx
   simp (maxSteps:=1000000) [go_sem,zcB,zE,hil,em,zp]
   refine⟨⟨rfl,by simp[Tryz.f173]⟩,zb [([0],[5]),([901],[901]),([0,1],[902])] (take_nil h hz hP ck cx sk sx 8 (by omega) x hxr) (by simp[go_sem,zD]) ⟨by simp[go_sem],by simp[go_sem]⟩ (by simp[go_sem,zE]) ?_⟩
   rintro _ _ ⟨rfl,tk,htk,rfl⟩
   rcases htk with rfl|rfl
   ·simp (maxSteps:=1000000) [go_sem,Zb,zE]
    exact zc (1,false) (by show 1≤l.length;omega) (by simp[go_sem,LeS,leV,leR,leA,leL,←hnx,w0]) (by show l.length-1<l.length-0;omega)
   ·simp (maxSteps:=1000000) [go_sem,Zb,zE]
    exact zc (1,true) (by show 1≤l.length;omega) (by simp[go_sem,LeS,leV,leR,leA,leL,←hnx,w0]) (by show l.length-1<l.length-0;omega)
  ·have hi1:¬i=0:=by omega
   cases bt with
   |true=>
    simp (maxSteps:=1000000) [go_sem,zcB,zE,Zb,hil',em,zp,hi1]
    refine⟨⟨rfl,by simp[Tryz.f173]⟩,zb [([0],[5]),([901],[901]),([0,1],[902])] (KU h hz hP ck cx sk sx 8 (by omega) (Qe t (l.take i)) x hxr (by omega)) (by simp[go_sem,zD]) ⟨by simp[go_sem],by simp[go_sem]⟩ (by simp[go_sem,zE]) ?_⟩
    rintro _ _ ⟨rfl,tk,htk,rfl⟩
    rcases htk with rfl|rfl
    ·simp (maxSteps:=1000000) [go_sem,Zb,zE,w1]
     exact zc (i+1,false) (by show i+1≤l.length;omega) (by simp[go_sem,LeS,leV,leR,leA,leL,hnx]) (by show l.length- (i+1)<l.length-i;omega)
    ·simp (maxSteps:=1000000) [go_sem,Zb,zE,w1]
     exact zc (i+1,true) (by show i+1≤l.length;omega) (by simp[go_sem,LeS,leV,leR,leA,leL,hnx]) (by show l.length- (i+1)<l.length-i;omega)
   |false=>
    simp (maxSteps:=1000000) [go_sem,zcB,zE,Zb,hil',em,zp,hi1]
    refine⟨⟨rfl,by simp[Tryz.f173]⟩,zb [([0],[5]),([901],[902]),([0,1],[901])] (KU h hz hP ck cx sk sx 8 (by omega) (Qe t (l.take i)) x hxr (by omega)) (by simp[go_sem,zD]) ⟨by simp[go_sem],by simp[go_sem]⟩ (by simp[go_sem,zE]) ?_⟩
    rintro _ _ ⟨rfl,tk,htk,rfl⟩
    rcases htk with rfl|rfl
    ·simp (maxSteps:=1000000) [go_sem,Zb,zE,w1]
     exact zc (i+1,true) (by show i+1≤l.length;omega) (by simp[go_sem,LeS,leV,leR,leA,leL,hnx]) (by show l.length- (i+1)<l.length-i;omega)
    ·simp (maxSteps:=1000000) [go_sem,Zb,zE,w1]
     exact zc (i+1,false) (by show i+1≤l.length;omega) (by simp[go_sem,LeS,leV,leR,leA,leL,hnx]) (by show l.length- (i+1)<l.length-i;omega)
 ·have hil':¬(i:Int)<l.length:=by omega
  obtain rfl:i=l.length:=by omega
  rw[List.take_length]at hal2⊢
  by_cases hl0:l=[]
  ·subst hl0
   simp (maxSteps:=1000000) [go_sem,zcB,zE]
   refine⟨⟨rfl,by simp[Tryz.f174]⟩,zb [] (zhz c b j f p ck cx sk sx) (by simp[go_sem]) ⟨by simp[go_sem],by simp[go_sem,zE]⟩ (by simp[go_sem]) ?_⟩
   rintro _ _ ⟨rfl,rfl⟩
   simp (maxSteps:=1000000) [go_sem,zh]
   exact zg (.p (.sl 1 [])) rfl (by simp[go_sem,zf,leA,leT,zB]) ⟨rfl,rfl⟩
  ·have hi1:¬l.length=0:=by simpa using hl0
   have hne:Qe t l≠ []:=by
    cases l with
    |nil=>exact absurd rfl hl0
    |cons x l=>simp[Qe,zbW]
   have hru:=Kn hP hr
   cases bt with
   |true=>
    simp (maxSteps:=1000000) [go_sem,zcB,zE,Zb,hil',hi1]
    refine⟨⟨rfl,by simp[Tryz.f174]⟩,zb [] (XY h hz ck cx sk sx (Qe t l) hne (by omega) hru) (by simp[go_sem]) ⟨by simp[go_sem],by simp[go_sem,zE,zh]⟩ (by simp[go_sem]) ?_⟩
    rintro _ _ ⟨rfl,rfl⟩
    simp (maxSteps:=1000000) [go_sem,zh]
    exact zg (.p (zh (KO t l))) rfl (by simp[go_sem,zf,leA,leT,zh,KO]) ⟨rfl,rfl⟩
   |false=>
    simp (maxSteps:=1000000) [go_sem,zcB,zE,Zb,hil',hi1]
    refine⟨⟨rfl,by simp[Tryz.f174]⟩,zb [] (XY h hz ck cx sk sx (Qe t l) hne (by omega) hru) (by simp[go_sem]) ⟨by simp[go_sem],by simp[go_sem,zE,zh]⟩ (by simp[go_sem]) ?_⟩
    rintro _ _ ⟨rfl,rfl⟩
    simp (maxSteps:=1000000) [go_sem,zh]
    exact zg (.p (zh (KO t l))) rfl (by simp[go_sem,zf,leA,leT,zh,KO]) ⟨rfl,rfl⟩
end Go.Proofs.YtjefahhmkcfiiaaGreat
end
section
namespace Go.Proofs.YtjefahhmkcfiiaaGreat
open Go.AM
set_option maxHeartbeats 4000000
set_option maxRecDepth 10000
def mkB(m:List (Za×Int))(q:Za):Option Int:=(m.find? fun x=>x.1==q).map (·.2)
theorem ckP_mk(q:Za):∀(m:List (Za×Int)) (i:Nat),(qM (qg q) (ckP m) (cxP m) i=none∧mkB m q=none)∨∃j r,qM (qg q) (ckP m) (cxP m) i=some (j,.int .i32 r)∧mkB m q=some r
 | [],i=>.inl ⟨rfl,rfl⟩
 |x::m,i=>by
  have e:qM (qg q) (ckP (x::m)) (cxP (x::m)) i=if eqC (qg q) (qg x.1)=true then some (i,.int .i32 x.2)else qM (qg q) (ckP m) (cxP m) (i+1):=by
   rw[ckP,cxP,List.map_cons,List.map_cons,qM];rfl
  rw[e]
  by_cases h:x.1=q
  ·subst h
   rw[if_pos (Y0 _)]
   exact .inr ⟨i,x.2,rfl,by simp[mkB]⟩
  ·have hne:¬eqC (qg q) (qg x.1)=true:=fun hc=>h (XU (WM (kc:=[.i .i32,.i .i32]) rfl rfl hc)).symm
   rw[if_neg hne]
   have hm:mkB (x::m) q=mkB m q:=by simp[mkB,h]
   rw[hm]
   exact ckP_mk q m (i+1)
def Js(x:Option Int):AV:=match x with|some r=>.tup [.p (.int .i32 r),.p (.bool true)]|none=>.tup [.p (.int .i32 0),.p (.bool false)]
theorem zeZ [Gi](c b j f p:PV)(m:List (Za×Int))(sk sx:List PV)(x y:Int):
  CR Tryz.prog 207 [] [.p (zE c b j f p (ckP m) (cxP m) sk sx),.p (.int .i32 x),.p (.int .i32 y)] [] (is (Js (if y=0 then none else mkB m ⟨x,y⟩))):=by
 refine zm mixed 10 [] Tryz.func207 rfl (by kernel_rfl) rfl (by simp) (by simp) ?_
 by_cases hy:y=0
 ·subst hy
  simp (maxSteps:=1000000) [go_sem,Tryz.f207,zE]
  exact zg (.tup [.p (.int .i32 0),.p (.bool false)]) rfl (by simp[go_sem,zf,leA,leT,leP]) ⟨rfl,rfl⟩
 ·rw[if_neg hy]
  have hk:=ckP_key m
  rcases ckP_mk ⟨x,y⟩ m 0 with ⟨h1,h2⟩|⟨k,r,h1,h2⟩
  ·rw[h2]
   simp only[qg]at h1
   simp (maxSteps:=1000000) [go_sem,Tryz.f207,zE,hy,Zx,mapOf,jv,h1]
   exact⟨hk,zg (.tup [.p (.int .i32 0),.p (.bool false)]) rfl (by simp[go_sem,zf,leA,leT,leP]) ⟨rfl,rfl⟩⟩
  ·rw[h2]
   simp only[qg]at h1
   simp (maxSteps:=1000000) [go_sem,Tryz.f207,zE,hy,Zx,mapOf,jv,h1]
   exact⟨hk,zg (.tup [.p (.int .i32 r),.p (.bool true)]) rfl (by simp[go_sem,zf,leA,leT,leP]) ⟨rfl,rfl⟩⟩
end Go.Proofs.YtjefahhmkcfiiaaGreat
end
