/- A part of the proof of this seat's statements, by an abstract machine: what each operation does to values, and what the law's functions compute. Conditions: as each law says. -/
import Derived.Test.YthbmelihnabkaaaGreatT32
import Derived.Test.YthbmelihnabkaaaGreatT26
import Derived.Test.YthbmelihnabkaaaGreatT18
import Derived.Test.YthbmelihnabkaaaGreatT24
section
namespace Go.Proofs.YthbmelihnabkaaaGreat
open Go.AM
set_option maxHeartbeats 4000000
set_option maxRecDepth 10000
theorem ZE.zoN [Gi] {P:Program} {E:Ent} {D:List Nat} {x y:Code} {Q:Exit→St→Prop} {S:St} {ι:Type}(hm:P.follows .mixedOrders=true)(hc:Zk D x=true)(inv:ι→Prop)(V:ι→List (Nat×AV))(R:ι→List (Tok×List AV))
  (h:wpA P D x (Ju S inv V R (fun _ _=>False)) S) (hr:∀i ts,inv i→ZE P E y Q (S.zbX (V i) (R i) ts)):ZE P E (.seq x y) Q S:=
 ZE.kJ hm hc (Q7 x (fun e S' k=>by
  cases e with
  |normal=>obtain⟨i,ts,hi,rfl⟩:=k;exact hr i ts hi
  |_=>exact k.elim) h)
def vr(tab:PV)(n:Nat)(M:List Int):List (Tok×List AV):=[([2],[.p tab]),([9,7],zp M),([5],[.la [9,7] 1 0 n]),([12,2],[.p tab]),([12,3],[.la [9,7] 1 0 n])]
def QG:List Tok:=[[2],[9,7],[5],[12,2],[12,3]]
def zlt(n:Nat)(r:List Int×List Int×List Int):Prop:=r.1.length+r.2.1.length+r.2.2.length=n∧∀x∈r.2.1, -2147483648≤x∧x<2147483648
def KP(k:Int→Int):List Int→List Int
 | []=>[]
 |s::Y=>s::QP k [] Y
def zmZ(l n:Nat)(tab:PV)(i:Nat)(M:List Int):St:=
 {n:=39,nv:=6,vs:=[(0,.p (.opq (.func (.yield l) #[] #[]))),(1,.lp [12,3] 0),(2,.lp [12,2] 0),(4,.p (.int .i64 i))],ts:=[],rs:=vr tab n M,pin:=QG,ex:=[32]}
theorem zkF [Gi] {t:zQ} {c b j f p:PV}(h:Q8 t c b j f p)(hz:Qd t)(ck cx sk sx:List PV)(M0:List Int)(n:Nat)(hM:M0.length=n)(hn:n<2^31)(hr:∀x∈M0, -2147483648≤x∧x<2147483648)
  (E:Ent) (l:Nat) (hy:∀r S1,zlt n r→S1.rs=vr (zF c b j f p ck cx sk sx) n (r.1++(r.2.1++r.2.2))→S1.pin=QG→J5 Tryz.prog E l QG [.int .i64 (r.1.length:Nat),.int .i64 ((r.1.length+r.2.1.length:Nat):Int)] S1 (fun rs=>rs=vr (zF c b j f p ck cx sk sx) n (r.1++(QB (zG t) r.2.1++r.2.2)))):
  ∀co,Tryz.f208.body=some co→ZE Tryz.prog E co (zgx QG (fun rs=>rs=vr (zF c b j f p ck cx sk sx) n (Jc (zG t) M0))) (itS Tryz.f208 6 [32] l [.lp [12,3] 0,.lp [12,2] 0] (vr (zF c b j f p ck cx sk sx) n M0) QG):=by
 intro co hco
 have hnt:Tryz.f208.ntmps=39:=rfl
 unfold Tryz.f208 at hco
 injection hco with hco
 subst hco
 refine ZE.kJ (D:=[]) mixed (by kernel_rfl) ?_
 simp (maxSteps:=1000000) [go_sem,itS,x9,vr,QG,zF]
 refine ZE.block (ZE.loop (fun r:List Int×List Int×Nat=>r.1.length+r.2.1.length=n∧(r.2.2=r.1.length∨(r.2.2=r.1.length+1∧r.2.1=[]))∧r.1++QP (zG t) [] r.2.1=Jc (zG t) M0∧∀x∈r.2.1, -2147483648≤x∧x<2147483648)
  (fun r=>zmZ l n (zF c b j f p ck cx sk sx) r.2.2 (r.1++r.2.1)) (fun r=>n+1-r.2.2) ([],M0,0) ⟨by simp;omega,.inl rfl,rfl,hr⟩ (by simp[go_sem,LeS,leV,leR,leA,leL,zj,zmZ,vr,QG,zF]) (fun r hr'=>?_))
 obtain⟨D,R,i⟩:=r
 obtain⟨q1,q2,q3,q4⟩:=hr'
 simp only at q1 q2 q3 q4
 refine ZE.kJ (D:=[]) mixed (by kernel_rfl) ?_
 simp (maxSteps:=1000000) [go_sem,zmZ,vr,QG,zF]
 refine zr (fun h1=>?_) (fun h1=>?_)
 ·obtain rfl:i=D.length:=by
   rcases q2 with q2|⟨q2,q5⟩
   ·exact q2
   ·rw[q5]at q1;simp at q1;omega
  simp (maxSteps:=1000000) [go_sem]
  refine ZE.seq (ZE.block ?_)
  refine ZE.kJ (D:=[]) mixed (by kernel_rfl) ?_
  simp (maxSteps:=1000000) [go_sem]
  have f4:∀X Y,R=X++Y→(∀x∈X, -2147483648≤x∧x<2147483648):=fun X Y e x hx=>q4 x (by rw[e];simp[hx])
  refine ZE.zoN (D:=[]) mixed (by kernel_rfl) (fun r:List Int×List Int=>R=r.1++r.2∧QP (zG t) [] R=QP (zG t) r.1 r.2∧(r.2=[]∨∃s,(∃Y,r.2=s::Y)∧zG t s=0)) (fun r=>[(4,.p (.int .i64 ((D.length+r.1.length:Nat):Int)))]) (fun _=>[]) ?_ ?_
  ·simp (maxSteps:=1000000) [go_sem]
   refine zl (fun r:List Int×List Int=>R=r.1++r.2∧QP (zG t) [] R=QP (zG t) r.1 r.2) (fun r=>[(4,.p (.int .i64 ((D.length+r.1.length:Nat):Int)))]) (fun r=>[]) (fun r=>r.2.length) ([],R) ⟨rfl,rfl⟩ (by simp[go_sem,LeS,leV,leR,leA,leL,zj]) (fun r hr2=>?_)
   obtain⟨X,Y⟩:=r
   obtain⟨p1,p2⟩:=hr2
   simp only at p1 p2
   have lR:R.length=X.length+Y.length:=by rw[p1];simp
   obtain⟨d,hd⟩:∃d,d=D.length:=⟨_,rfl⟩
   obtain⟨k,hk⟩:∃k,k=d+X.length:=⟨_,rfl⟩
   have hkc:(d:Int)+(X.length:Int)=(k:Int):=by omega
   simp only[←hd,←hk]
   cases Y with
   |nil=>
    have hkn:¬k<n:=by simp at lR;omega
    simp (maxSteps:=1000000) [go_sem,hkn]
    exact zN (X,[]) ⟨p1,p2,.inl rfl⟩ (by simp[go_sem,hk])
   |cons s Y=>
    have hkn:k<n:=by simp at lR;omega
    have hsr: -2147483648≤s∧s<2147483648:=q4 s (by rw[p1];simp)
    have gk:(zp (D++R))[k]?=some (.p (.int .i32 s)):=Zt (by
     rw[p1,List.getElem?_append_right (by omega),List.getElem?_append_right (by omega)]
     have:k-D.length-X.length=0:=by omega
     rw[this];rfl)
    have w1:IntKind.i64.wrap ((k:Int)+1)=((k+1:Nat):Int):=zT (by omega)
    simp (maxSteps:=1000000) [go_sem,hkn,gk]
    refine⟨⟨rfl,by simp[Tryz.f105]⟩,zc [] (ZS h ck cx sk sx hz hsr) (by simp[go_sem,zw]) ⟨by simp[go_sem],by simp[go_sem,zF]⟩ (by simp[go_sem]) ?_⟩
    rintro _ _ ⟨rfl,rfl⟩
    have hkey:zG t s=t.cls (rn s):=rfl
    by_cases hs:t.cls (rn s)=0
    ·simp (maxSteps:=1000000) [go_sem,hs]
     exact zN (X,s::Y) ⟨p1,p2,.inr ⟨s,⟨Y,rfl⟩,hkey.trans hs⟩⟩ (by simp[go_sem,hk])
    ·simp (maxSteps:=1000000) [go_sem,hs,w1]
     refine zf (X++[s],Y) ⟨by rw[p1];simp,?_⟩ (by simp[go_sem,LeS,leV,leR,leA,leL,zj];omega) (by simp)
     rw[p2,QP,if_neg (by rw[hkey];exact hs)]
  ·rintro⟨X,Y⟩ ts ⟨p1,p2,p3⟩
   simp only at p1 p2 p3
   have lR:R.length=X.length+Y.length:=by rw[p1];simp
   have eF:QP (zG t) [] R=QB (zG t) X++KP (zG t) Y:=by
    rw[p2]
    rcases p3 with rfl|⟨s,⟨Y',rfl⟩,hs⟩
    ·simp[QP,KP]
    ·simp[QP,KP,hs]
   obtain⟨d,hd⟩:∃d,d=D.length:=⟨_,rfl⟩
   obtain⟨k,hk⟩:∃k,k=d+X.length:=⟨_,rfl⟩
   have hkc:(d:Int)+(X.length:Int)=(k:Int):=by omega
   have w1:IntKind.i64.wrap ((k:Int)+1)=((k+1:Nat):Int):=zT (by omega)
   have w2:IntKind.i64.wrap ((k:Int)-d)=(X.length:Int):=yi (by omega) (by omega)
   -- behind the round
   have next:∀M,M=D++(QB (zG t) X++Y)→∃r:List Int×List Int×Nat,(r.1.length+r.2.1.length=n∧(r.2.2=r.1.length∨(r.2.2=r.1.length+1∧r.2.1=[]))∧r.1++QP (zG t) [] r.2.1=Jc (zG t) M0∧∀x∈r.2.1, -2147483648≤x∧x<2147483648)∧M=r.1++r.2.1∧r.2.2=k+1:=by
    intro M hM'
    rcases p3 with rfl|⟨s,⟨Y',rfl⟩,hs⟩
    ·refine⟨(D++QB (zG t) X,[],k+1),⟨by simp[yh];simp at lR;omega,.inr ⟨by simp[yh];omega,rfl⟩,?_,by simp⟩,by rw[hM'];simp,rfl⟩
     rw[←q3,eF];simp[QP,QB,KP]
    ·refine⟨(D++(QB (zG t) X++[s]),Y',k+1),⟨by simp[yh];simp at lR;omega,.inl (by simp[yh];omega),?_,fun x hx=>q4 x (by rw[p1];simp[hx])⟩,by rw[hM'];simp,rfl⟩
     rw[←q3,eF];simp[KP]
   simp only[←hd]
   by_cases hX:1<X.length
   ·refine ZE.seq (ZE.zkD (l:=l) (d:=36) 8 rfl rfl rfl (pins:=QG) (by kernel_rfl) (by kernel_rfl) ?_)
    have hXi:(1:Int)<X.length:=by omega
    simp (maxSteps:=1000000) [go_sem,hkc,w2,hXi,QG]
    have hY:=hy (D,X,Y) {n:=39,nv:=6,vs:=[(0,.p (.opq (.func (.yield l) #[] #[]))),(1,.lp [12,3] 0),(2,.lp [12,2] 0),(4,.p (.int .i64 k)),(5,.p (.int .i64 d)),(32,.p (.bool true))],ts:=[(35,.gd true (.p (.int .i64 k))),(34,.gd true (.p (.int .i64 d))),(33,.gd true (.p (.opq (.func (.yield l) #[] #[])))),(31,.p (.bool true)),(30,.p (.int .i64 X.length)),(29,.p (.int .i64 d)),(28,.p (.int .i64 k))],rs:=vr (zF c b j f p ck cx sk sx) n (D++R),pin:=QG,ex:=[32]} ⟨by simp only;omega,f4 X Y p1⟩ (by rw[p1]) rfl
    simp only[←hd,←hk]at hY
    refine⟨_,hY,?_⟩
    rintro _ rfl
    simp (maxSteps:=1000000) [go_sem,wR,yN,vr,zF]
    refine ZE.zlz (by simp[go_sem]) ?_
    refine ZE.xj (D:=[]) mixed (by kernel_rfl) ?_
    simp (maxSteps:=1000000) [go_sem]
    refine ZE.xj (D:=[]) mixed (by kernel_rfl) ?_
    simp (maxSteps:=1000000) [go_sem,w1]
    obtain⟨r,h2,h3,h4⟩:=next (D++(QB (zG t) X++Y)) rfl
    refine Jr r h2 (by simp[go_sem,LeS,leV,leR,leA,leL,zj,←h3,h4]) (by show n+1-r.2.2<n+1-d;rw[h4];omega)
   ·have hXi:¬(1:Int)<X.length:=by omega
    refine ZE.kJ (D:=[]) mixed (by kernel_rfl) ?_
    simp (maxSteps:=1000000) [go_sem,hkc,w2,hXi]
    refine ZE.zlz (by simp[go_sem]) ?_
    refine ZE.xj (D:=[]) mixed (by kernel_rfl) ?_
    simp (maxSteps:=1000000) [go_sem]
    refine ZE.xj (D:=[]) mixed (by kernel_rfl) ?_
    simp (maxSteps:=1000000) [go_sem,w1]
    obtain⟨r,h2,h3,h4⟩:=next (D++R) (by rw[p1,zcT (by omega)])
    refine Jr r h2 (by simp[go_sem,LeS,leV,leR,leA,leL,zj,h3,h4]) (by show n+1-r.2.2<n+1-d;rw[h4];omega)
 ·have hR:R=[]:=by
   rcases q2 with q2|⟨q2,q5⟩
   ·have:R.length=0:=by omega
    exact List.eq_nil_of_length_eq_zero this
   ·exact q5
  subst hR
  simp (maxSteps:=1000000) [go_sem]
  rw[←q3];simp[QP,QB]
theorem zcW [Gi] {t:zQ} {c b j f p:PV}(h:Q8 t c b j f p)(hz:Qd t)(ck cx sk sx:List PV)(l:List Int)(h0:l≠ [])(hn:l.length<2^31)(hr:∀x∈l, -2147483648≤x∧x<2147483648):
  CR Tryz.prog 160 [] [.p (zF c b j f p ck cx sk sx),.p (zh l)] [] (fun x rs=>x=.la [9,7] 1 0 l.length∧rs=[([9,7],zp (Jc (zG t) l))]):=by
 have hlp:0<l.length:=List.length_pos_iff.2 h0
 refine XN 8 [12,13,14] Tryz.func160 rfl rfl (by simp) (by simp) ?_
 refine Wr.seq (D:=[]) mixed (by kernel_rfl) ?_
 simp (maxSteps:=1000000) [go_sem,zF,zh]
 refine Wr.seq (D:=[]) mixed (by kernel_rfl) ?_
 simp (maxSteps:=1000000) [go_sem]
 refine⟨⟨rfl,by simp[Tryz.f187]⟩,zc [] (zfh l h0 (by omega)) (by simp[go_sem]) ⟨by simp[go_sem],by simp[go_sem,zh]⟩ (by simp[go_sem]) ?_⟩
 rintro _ _ ⟨rfl,rfl⟩
 simp (maxSteps:=1000000) [go_sem]
 refine⟨rfl,Wr.znz (D:=[]) mixed (by kernel_rfl) ?_⟩
 simp (maxSteps:=1000000) [go_sem]
 refine⟨⟨rfl,by simp[Tryz.f188]⟩,zc [([0],[9,7])] (zh8 c b j f p ck cx sk sx l l.length) (by simp[go_sem,zw]) ⟨by simp[go_sem],by simp[go_sem,zF]⟩ (by simp[go_sem]) ?_⟩
 rintro _ _ ⟨rfl,rfl⟩
 simp (maxSteps:=1000000) [go_sem,zF]
 refine zdH.zik (D:=[]) mixed (gf:=208) (caps:=[.lp [12,3] 0,.lp [12,2] 0]) rfl (by simp[Tryz.f208]) (fn':=Tryz.f208) 6 [32] Tryz.func208 rfl rfl (by simp) (by simp[Tryz.f208])
  [(0,.p (zF c b j f p ck cx sk sx)),(1,.p (zh l)),(2,.lp [2] 0),(5,.lp [5] 0)] QG (vr (zF c b j f p ck cx sk sx) l.length l) (fun rs=>rs=vr (zF c b j f p ck cx sk sx) l.length (Jc (zG t) l)) (by simp[yN,QG]) (by simp) rfl rfl
  (by simp[go_sem,LeS,leV,leR,leA,leL,zj,lst,vr,zF,zh]) (by simp) (by simp) (by kernel_rfl) (by kernel_rfl)
  (fun r:List Int×List Int×List Int=>zlt l.length r) (fun r=>vr (zF c b j f p ck cx sk sx) l.length (r.1++(r.2.1++r.2.2))) (fun r=>vr (zF c b j f p ck cx sk sx) l.length (r.1++(QB (zG t) r.2.1++r.2.2))) (fun r=>((r.1.length:Nat),((r.1.length+r.2.1.length:Nat):Int))) ?_ ?_ ?_
 ·rintro⟨A,X,B⟩ ⟨k1,k2⟩
  simp only at k1 k2
  simp (maxSteps:=1000000) [go_sem,lst,vr,QG,zF]
  have e1:((A.length:Int)+X.length).toNat-A.length=X.length:=by omega
  have hlen:(A++(X++B)).length=l.length:=by simp;omega
  refine⟨⟨by omega,by omega⟩,⟨rfl,by simp[Tryz.f189]⟩,zc [([0],[9,7]),([1],[2])] (pin:=[[0],[1]]) (Y0 h hz ck cx sk sx A X B A.length X.length rfl rfl (by omega) k2) (by simp[go_sem,zw]) ⟨by simp[go_sem],by simp[go_sem,jr,e1]⟩ (by simp[go_sem,zF]) ?_⟩
  rintro _ _ ⟨X',hX',rfl,rfl⟩
  simp (maxSteps:=1000000) [go_sem,zF]
  rw[ziC hX']
  exact .inl (by simp[go_sem,LeS,leV,leR,leA,leL,zj,lst])
 ·intro E y hy
  exact zkF h hz ck cx sk sx l l.length rfl hn hr E y (fun r S1 h1 h2 h3=>hy r S1 h1 h2 h3) _ rfl
 ·rintro rs rfl
  refine zg7.xj (D:=[]) (by kernel_rfl) ?_
  simp (maxSteps:=1000000) [go_sem,lst,zlU,vr,zF]
  exact zi [[9,7]] (.la [9,7] 1 0 l.length) ⟨rfl,by simp⟩ (by simp[go_sem,zd,leA,leT]) ⟨rfl,by simp[go_sem]⟩
end Go.Proofs.YthbmelihnabkaaaGreat
end
section
namespace Go.Proofs.YthbmelihnabkaaaGreat
open Go.AM
set_option maxHeartbeats 4000000
set_option maxRecDepth 10000
theorem CR.row [Gi] {P:Program} {fn:FuncId} {args:List AV} {t:Tok} {M:List Int}(h0:0<M.length)(h:CR P fn [] args [] (fun x rs=>x=.la t 1 0 M.length∧rs=[(t,zp M)])):CR P fn [] args [] (is (.p (zh M))):=by
 refine CR.freeze h (fun _=>false) rfl ?_
 rintro x rs ⟨rfl,rfl⟩
 refine⟨.p (zh M),fun g w v hG hv=>?_,rfl,rfl⟩
 rw[Wo]
 refine ua (t:=t) (z:=1) (n:=M.length) (es:=zx M) (rt:=fun _=>false) hG [] h0 ?_ rfl (by simp[zx]) (fun e he=>?_) hv
 ·rw[Xt];simp[zC,zhz]
 ·obtain⟨s,_,rfl⟩:=List.mem_map.1 he
  exact⟨rfl,rfl⟩
theorem Ya(k:Int→Int)(l:List Int):(Jc k l).length=l.length:=by unfold Jc;rw[VM];simp
theorem Xv [Gi] {t:zQ} {c b j f p:PV}(h:Q8 t c b j f p)(hz:Qd t)(ck cx sk sx:List PV)(l:List Int)(h0:l≠ [])(hn:l.length<2^31)(hr:∀x∈l, -2147483648≤x∧x<2147483648):
  CR Tryz.prog 160 [] [.p (zF c b j f p ck cx sk sx),.p (zh l)] [] (is (.p (zh (Jc (zG t) l)))):=by
 have hlp:0<l.length:=List.length_pos_iff.2 h0
 refine CR.row (t:=[9,7]) (by rw[Ya];exact hlp) ?_
 rw[Ya]
 exact zcW h hz ck cx sk sx l h0 hn hr
def zcx(tab:PV):List (Tok×List AV):=[([2],[.p tab]),([5],[.p (.sl 1 [])]),([12,2],[.p tab]),([12,3],[.p (.sl 1 [])])]
def K9:List Tok:=[[2],[5],[12,2],[12,3]]
theorem zhr [Gi](c b j f p:PV)(ck cx sk sx:List PV):CR Tryz.prog 188 [] [.p (zF c b j f p ck cx sk sx),.p (.sl 1 [])] []
  (fun x rs=>x=.fn 208 [.lp [3] 0,.lp [2] 0]∧rs=[([2],[.p (zF c b j f p ck cx sk sx)]),([3],[.p (.sl 1 [])])]):=by
 refine zm mixed 6 [] Tryz.func188 rfl (by kernel_rfl) rfl (by simp) (by simp) ?_
 simp (maxSteps:=1000000) [go_sem,Tryz.f188,zF]
 exact zi [[2],[3]] (.fn 208 [.lp [3] 0,.lp [2] 0]) ⟨rfl,by simp⟩ (by simp[go_sem,zd,leA,leT]) ⟨rfl,by simp[go_sem]⟩
theorem zhC [Gi](c b j f p:PV)(ck cx sk sx:List PV):CR Tryz.prog 160 [] [.p (zF c b j f p ck cx sk sx),.p (.opq (.slice none 0 0))] [] (is (.p (zh []))):=by
 refine XN 8 [12,13,14] Tryz.func160 rfl rfl (by simp) (by simp) ?_
 refine Wr.seq (D:=[]) mixed (by kernel_rfl) ?_
 simp (maxSteps:=1000000) [go_sem,zF]
 refine Wr.seq (D:=[]) mixed (by kernel_rfl) ?_
 simp (maxSteps:=1000000) [go_sem]
 refine⟨⟨rfl,by simp[Tryz.f187]⟩,zc [] zhS (by simp[go_sem]) ⟨by simp[go_sem],by simp[go_sem]⟩ (by simp[go_sem]) ?_⟩
 rintro _ _ ⟨rfl,rfl⟩
 simp (maxSteps:=1000000) [go_sem]
 refine⟨rfl,?_⟩
 refine Wr.znz (D:=[]) mixed (by kernel_rfl) ?_
 simp (maxSteps:=1000000) [go_sem]
 refine⟨⟨rfl,by simp[Tryz.f188]⟩,zc [] (zhr c b j f p ck cx sk sx) (by simp[go_sem]) ⟨by simp[go_sem],by simp[go_sem,zF]⟩ (by simp[go_sem]) ?_⟩
 rintro _ _ ⟨rfl,rfl⟩
 simp (maxSteps:=1000000) [go_sem,zF]
 refine zdH.zik (D:=[]) mixed (gf:=208) (caps:=[.lp [12,3] 0,.lp [12,2] 0]) rfl (by simp[Tryz.f208]) (fn':=Tryz.f208) 6 [32] Tryz.func208 rfl rfl (by simp) (by simp[Tryz.f208])
  [(0,.p (zF c b j f p ck cx sk sx)),(2,.lp [2] 0),(5,.lp [5] 0)] K9 (zcx (zF c b j f p ck cx sk sx)) (fun rs=>rs=zcx (zF c b j f p ck cx sk sx)) (by simp[yN,K9]) (by simp) rfl rfl
  (by simp[go_sem,LeS,leV,leR,leA,leL,lst,zcx,zF]) (by simp) (by simp) (by kernel_rfl) (by kernel_rfl)
  (fun _:Unit=>False) (fun _=>[]) (fun _=>[]) (fun _=>(0,0)) (fun _ h=>h.elim) ?_ ?_
 ·intro E y _
  have hnt:Tryz.f208.ntmps=39:=rfl
  refine ZE.xj (D:=[]) mixed (by kernel_rfl) ?_
  simp (maxSteps:=1000000) [go_sem,itS,x9,zcx,K9,zF]
  refine zl (fun _:Unit=>True) (fun _=>[]) (fun _=>[]) (fun _=>0) () trivial (by simp[go_sem,LeS,leV,leR,leA,leL]) (fun _ _=>?_)
  simp (maxSteps:=1000000) [go_sem]
 ·rintro rs rfl
  refine zg7.xj (D:=[]) (by kernel_rfl) ?_
  simp (maxSteps:=1000000) [go_sem,lst,zlU,zcx,zF]
  exact zg (.p (.sl 1 [])) rfl (by simp[go_sem,zd,leA,leT]) ⟨rfl,rfl⟩
end Go.Proofs.YthbmelihnabkaaaGreat
end
section
namespace Go.Proofs.YthbmelihnabkaaaGreat
open Go.AM
set_option maxHeartbeats 4000000
set_option maxRecDepth 10000
def Qo:yQ:=⟨false,0,0,0,false⟩
def kK(t:zQ):yQ→List Int→Nat
 |_,[]=>0
 |s,r::l=>if(q9 t s r).2 then 0 else 1+kK t (q9 t s r).1 l
theorem za5(t:zQ):∀(l:List Int) (s:yQ),kK t s l≤l.length
 | [],_=>by simp[kK]
 |r::l,s=>by
  unfold kK
  split
  ·omega
  ·have:=za5 t l (q9 t s r).1
   simp only[List.length_cons];omega
def zfH:OT:=.now 0 1 (.now 1 1 (.now 2 1 (.now 3 1 (.now 4 1 (.now 5 1 (.mk [(6,.now 7 1 (.now 8 1 (.now 9 2 (.mk [(10,.mk [(11,.now 12 0 (.mk []))])])))),(10,.mk [(6,.now 7 0 (.now 8 0 (.now 9 2 (.mk [(11,.now 12 0 (.mk []))]))))])]))))))
def zhY(s:yQ):List AV:=[.p (.bool s.some),.p (.int .i64 s.last),.p (.int .i64 s.pict),.p (.int .i64 s.conj),.p (.bool s.odd)]
theorem zkk [Gi] {t:zQ} {c b j f p:PV}(h:Q8 t c b j f p)(hz:Qd t)(ck cx sk sx:List PV)(l:List Int)(hn:l.length<2^31)(hr:∀x∈l,zD x)(a:Nat)(x:Int)(l':List Int)(ha:l.drop a=x::l'):
  CR Tryz.prog 136 [] [.p (zF c b j f p ck cx sk sx),.p (zh l),.p (.int .i64 a)] [] (is (.p (.int .i64 ((a+1+kK t (q9 t Qo x).1 l':Nat):Int)))):=by
 have hal:a<l.length:=by
  have:=congrArg List.length ha
  simp at this;omega
 have hx:l[a]=x:=by
  have:=List.drop_eq_getElem_cons hal
  rw[ha]at this
  injection this with h1 _;exact h1.symm
 have hl':l'=l.drop (a+1):=by
  have:=List.drop_eq_getElem_cons hal
  rw[ha]at this
  injection this
 have hxr:zD x:=hr x (by rw[←hx];exact List.getElem_mem _)
 have em:elemAt (zx l) a=.int .i32 x:=by rw[zx,zq (fun r=>PV.int .i32 r) l a hal,hx]
 obtain⟨N,hN⟩:∃N,N=a+1+kK t (q9 t Qo x).1 l':=⟨_,rfl⟩
 rw[←hN]
 refine zP [200007] mixed 11 [] Tryz.func136 rfl (by kernel_rfl) rfl (by simp) (by simp) ?_
 have w1:IntKind.i64.wrap ((a:Int)+1)=((a+1:Nat):Int):=zT (by omega)
 have g1:¬(a:Int)<0:=by omega
 have g2:¬((l.length:Int)≤a):=by omega
 have g3:(a:Int)<l.length:=by omega
 simp (maxSteps:=1000000) [go_sem,Tryz.f136,zh,zB,zF,g1,g2,g3,em]
 refine⟨⟨rfl,by simp[Tryz.f162]⟩,zc [] (Kw h hz ck cx sk sx Qo x hxr) (by simp[go_sem]) ⟨by simp[go_sem],by simp[go_sem,jB,Qo,zF]⟩ (by simp[go_sem]) ?_⟩
 rintro _ rs ⟨rfl,rfl⟩
 have hso:∀s r,(q9 t s r).1.some=true:=fun _ _=>rfl
 obtain⟨s0,hs0⟩:∃s0,(q9 t Qo x).1=s0:=⟨_,rfl⟩
 rw[hs0]at hN⊢
 generalize (q9 t Qo x).2=cut0
 simp (maxSteps:=1000000) [go_sem,jB,w1]
 refine zl (fun r:Nat×yQ=>N=r.1+kK t r.2 (l.drop r.1)∧r.1≤l.length) (fun r=>[(2,.p (.int .i64 (r.1:Nat))),(9,.zX),(10,.zX)]) (fun r=>[([7],zhY r.2)]) (fun r=>l.length-r.1) (a+1,s0) ⟨by rw[hN,hl'],by simp only;omega⟩ (by simp[go_sem,LeS,leV,leR,leA,leL,zhY]) (fun r hr2=>?_)
 obtain⟨i,s⟩:=r
 obtain⟨p1,p2⟩:=hr2
 simp only at p1 p2
 by_cases hil:i<l.length
 ·obtain⟨y,hy⟩:∃y,l[i]=y:=⟨_,rfl⟩
  have hyr:zD y:=hr y (by rw[←hy];exact List.getElem_mem _)
  have em2:elemAt (zx l) i=.int .i32 y:=by rw[zx,zq (fun r=>PV.int .i32 r) l i hil,hy]
  have hdr:l.drop i=y::l.drop (i+1):=by rw[←hy];exact List.drop_eq_getElem_cons hil
  have g4:(i:Int)<l.length:=by omega
  have w2:IntKind.i64.wrap ((i:Int)+1)=((i+1:Nat):Int):=zT (by omega)
  have hend:(q9 t s y).2=true→N=i:=fun e=>by rw[p1,hdr,kK,if_pos e];rfl
  have hgo:(q9 t s y).2=false→N=(i+1)+kK t (q9 t s y).1 (l.drop (i+1)):=fun e=>by rw[p1,hdr,kK,if_neg (by rw[e];simp)];omega
  simp (maxSteps:=1000000) [go_sem,zB,g4,zhY]
  refine Zc zfH (by kernel_rfl) ?_
  simp (maxSteps:=1000000) [go_sem,zfH,zB,g4,em2]
  refine⟨⟨⟨rfl,by simp[Tryz.f162]⟩,zc [] (Kw h hz ck cx sk sx s y hyr) (by simp[go_sem]) ⟨by simp[go_sem],by simp[go_sem,jB,zF]⟩ (by simp[go_sem]) ?_⟩,⟨⟨rfl,by simp[Tryz.f162]⟩,zc [] (Kw h hz ck cx sk sx s y hyr) (by simp[go_sem]) ⟨by simp[go_sem],by simp[go_sem,jB,zF]⟩ (by simp[go_sem]) ?_⟩⟩
  ·rintro _ rs ⟨rfl,rfl⟩
   generalize q9 t s y=q at hend hgo
   obtain⟨s2,ct⟩:=q
   cases ct with
   |true=>
    have e:=hend rfl
    rw[e]
    simp (maxSteps:=1000000) [go_sem,jB]
    exact zg (.p (.int .i64 (i:Nat))) rfl (by simp[go_sem,zd,leA,leT]) ⟨rfl,rfl⟩
   |false=>
    have e:=hgo rfl
    simp (maxSteps:=1000000) [go_sem,jB,w2]
    exact zf (i+1,s2) ⟨e,by show i+1≤l.length;omega⟩ (by simp[go_sem,LeS,leV,leR,leA,leL]) (by show l.length- (i+1)<l.length-i;omega)
  ·rintro _ rs ⟨rfl,rfl⟩
   generalize q9 t s y=q at hend hgo
   obtain⟨s2,ct⟩:=q
   cases ct with
   |true=>
    have e:=hend rfl
    rw[e]
    simp (maxSteps:=1000000) [go_sem,jB]
    exact zg (.p (.int .i64 (i:Nat))) rfl (by simp[go_sem,zd,leA,leT]) ⟨rfl,rfl⟩
   |false=>
    have e:=hgo rfl
    simp (maxSteps:=1000000) [go_sem,jB,w2]
    exact zf (i+1,s2) ⟨e,by show i+1≤l.length;omega⟩ (by simp[go_sem,LeS,leV,leR,leA,leL]) (by show l.length- (i+1)<l.length-i;omega)
 ·have g4:¬(i:Int)<l.length:=by omega
  have e:N=i:=by rw[p1,List.drop_eq_nil_of_le (by omega)];rfl
  rw[e]
  simp (maxSteps:=1000000) [go_sem,zB,g4]
  exact zg (.p (.int .i64 (i:Nat))) rfl (by simp[go_sem,zd,leA,leT]) ⟨rfl,rfl⟩
def xi(t:zQ):Nat→List Int→List (List Int)
 |0,_=>[]
 |_,[]=>[]
 |n+1,r::l=>(r::l.take (kK t (q9 t Qo r).1 l))::xi t n (l.drop (kK t (q9 t Qo r).1 l))
def jO(t:zQ)(l:List Int):List (List Int):=xi t l.length l
theorem UW(t:zQ):∀(n m:Nat) (l:List Int),l.length≤n→l.length≤m→xi t n l=xi t m l
 |0,m,l,h1,h2=>by
  obtain rfl:l=[]:=List.eq_nil_of_length_eq_zero (by omega)
  cases m<;>rfl
 |n+1,0,l,h1,h2=>by
  obtain rfl:l=[]:=List.eq_nil_of_length_eq_zero (by omega)
  rfl
 |n+1,m+1,[],h1,h2=>rfl
 |n+1,m+1,r::l,h1,h2=>by
  simp only[List.length_cons]at h1 h2
  simp only[xi]
  rw[UW t n m _ (by rw[List.length_drop];omega) (by rw[List.length_drop];omega)]
theorem Wd(t:zQ)(r:Int)(l:List Int):jO t (r::l)=(r::l.take (kK t (q9 t Qo r).1 l))::jO t (l.drop (kK t (q9 t Qo r).1 l)):=by
 unfold jO
 simp only[List.length_cons,xi]
 rw[UW t l.length _ _ (by rw[List.length_drop];omega) (Nat.le_refl _)]
end Go.Proofs.YthbmelihnabkaaaGreat
end
section
namespace Go.Proofs.YthbmelihnabkaaaGreat
open Go.AM
set_option maxHeartbeats 4000000
set_option maxRecDepth 10000
def Z8(t:zQ)(l:List Int):List Int:=l.flatMap (qM t 8)
def Kt(t:zQ)(l:List Int):List Int:=Jc (zG t) (Z8 t l)
theorem KZ(t:zQ)(l:List Int):(Z8 t l).length≤768*l.length:=by
 induction l with
 |nil=>simp[Z8]
 |cons x l ih=>
  have:=xW t 8 x
  simp only[Z8,List.flatMap_cons,List.length_append,List.length_cons]at*
  omega
theorem Yw(t:zQ):∀d r,qM t d r≠ []
 |0,r=>by unfold qM;split<;>simp[zO];split<;>simp
 |d+1,r=>by
  unfold qM
  split
  ·unfold zO;split<;>simp
  ·split
   ·simp
   ·have:=Yw t d (t.par (rn r)).a
    simp[this]
theorem wM {t:zQ}(hP:UN t):∀d r,zD r→∀x∈qM t d r,zD x
 |0,r,hr,x,hx=>by
  unfold qM at hx
  split at hx
  ·rename_i hs
   have hs':44032≤r∧r<55204:=by simpa[q8]using hs
   unfold zO at hx
   unfold zD
   split at hx<;>simp at hx<;>omega
  ·rw[List.mem_singleton.1 hx];exact hr
 |d+1,r,hr,x,hx=>by
  unfold qM at hx
  split at hx
  ·rename_i hs
   have hs':44032≤r∧r<55204:=by simpa[q8]using hs
   unfold zO at hx
   unfold zD
   split at hx<;>simp at hx<;>omega
  ·have hp:=hP (rn r)
   split at hx
   ·rw[List.mem_singleton.1 hx];exact hr
   ·rcases List.mem_append.1 hx with hx|hx
    ·exact wM hP d _ ⟨by omega,by omega⟩ x hx
    ·split at hx
     ·simp at hx
     ·exact wM hP d _ ⟨by omega,by omega⟩ x hx
theorem UK {t:zQ}(hP:UN t) {l:List Int}(hl:∀x∈l,zD x):∀x∈Z8 t l,zD x:=fun x hx=>by
 obtain⟨r,hr,hx⟩:=List.mem_flatMap.1 hx
 exact wM hP 8 r (hl r hr) x hx
def zdi(tab:PV)(e:List Int×Bool×Bool):List (Tok×List AV):=match e with
 |(_,_,false)=>[([5],[.p tab,.p (.opq (.slice none 0 0))])]
 |(es,true,true)=>[([5],qT tab [901] es)]
 |(es,false,true)=>[([5],qT tab [902] es)]
theorem zmf [Gi] {t:zQ} {c b j f p:PV}(h:Q8 t c b j f p)(hz:Qd t)(hP:UN t)(ck cx sk sx:List PV)(l:List Int)(hn:l.length<2^20)(hr:∀x∈l,zD x):
  CR Tryz.prog 111 [] [.p (zF c b j f p ck cx sk sx),.p (zh l)] [] (is (.p (zh (Kt t l)))):=by
 refine qP [] mixed 8 [10,11,12] Tryz.func111 rfl (by kernel_rfl) [2] rfl (by simp) (by simp) ?_
 simp (maxSteps:=1000000) [go_sem,Tryz.f111,zh,zB,zF]
 refine⟨⟨rfl,rfl⟩,?_⟩
 have hrn:∀x∈l,zD x:=hr
 refine zl (fun r:Nat×Bool=>r.1≤l.length) (fun r=>[(12,.p (.int .i64 (r.1:Nat))),(7,.zX)]) (fun r=>zdi (zF c b j f p ck cx sk sx) (Z8 t (l.take r.1),r.2,decide (r.1≠0))) (fun r=>l.length-r.1) (0,true) (by simp) (by simp[go_sem,LeS,leV,leR,leA,leL,zdi,zF]) (fun r hi=>?_)
 obtain⟨i,bt⟩:=r
 simp only at hi
 have hal:=KZ t (l.take i)
 have hal2:(Z8 t (l.take i)).length≤768*l.length:=by rw[List.length_take]at hal;omega
 by_cases hil:i<l.length
 ·obtain⟨x,hx⟩:∃x,l[i]=x:=⟨_,rfl⟩
  have hxr:zD x:=hr x (by rw[←hx];exact List.getElem_mem _)
  have em:elemAt (zx l) i=.int .i32 x:=by rw[zx,zq (fun r=>PV.int .i32 r) l i hil,hx]
  have hnx:Z8 t (l.take (i+1))=Z8 t (l.take i)++qM t 8 x:=by
   rw[List.take_add_one,List.getElem?_eq_getElem hil,hx];simp[Z8]
  have w1:IntKind.i64.wrap ((i:Int)+1)=((i+1:Nat):Int):=zT (by omega)
  have hil':(i:Int)<l.length:=by omega
  have w0:IntKind.i64.wrap 1=1:=wrap64 (by omega) (by omega)
  rcases Nat.eq_zero_or_pos i with rfl|hi0
  ·have e0:Z8 t (l.take 0)=[]:=by simp[Z8]
   rw[e0,List.nil_append]at hnx
   simp (maxSteps:=1000000) [go_sem,zdi,zF,hil,em,zB]
   refine⟨⟨rfl,by simp[Tryz.f159]⟩,zc [([0],[5]),([901],[901]),([0,1],[902])] (take_nil h hz hP ck cx sk sx 8 (by omega) x hxr) (by simp[go_sem,zw]) ⟨by simp[go_sem],by simp[go_sem]⟩ (by simp[go_sem,zF]) ?_⟩
   rintro _ _ ⟨rfl,tk,htk,rfl⟩
   rcases htk with rfl|rfl
   ·simp (maxSteps:=1000000) [go_sem,qT,zF]
    exact zf (1,false) (by show 1≤l.length;omega) (by simp[go_sem,LeS,leV,leR,leA,leL,←hnx,w0]) (by show l.length-1<l.length-0;omega)
   ·simp (maxSteps:=1000000) [go_sem,qT,zF]
    exact zf (1,true) (by show 1≤l.length;omega) (by simp[go_sem,LeS,leV,leR,leA,leL,←hnx,w0]) (by show l.length-1<l.length-0;omega)
  ·have hi1:¬i=0:=by omega
   cases bt with
   |true=>
    simp (maxSteps:=1000000) [go_sem,zdi,zF,qT,hil',em,zB,hi1]
    refine⟨⟨rfl,by simp[Tryz.f159]⟩,zc [([0],[5]),([901],[901]),([0,1],[902])] (KA h hz hP ck cx sk sx 8 (by omega) (Z8 t (l.take i)) x hxr (by omega)) (by simp[go_sem,zw]) ⟨by simp[go_sem],by simp[go_sem]⟩ (by simp[go_sem,zF]) ?_⟩
    rintro _ _ ⟨rfl,tk,htk,rfl⟩
    rcases htk with rfl|rfl
    ·simp (maxSteps:=1000000) [go_sem,qT,zF,w1]
     exact zf (i+1,false) (by show i+1≤l.length;omega) (by simp[go_sem,LeS,leV,leR,leA,leL,hnx]) (by show l.length- (i+1)<l.length-i;omega)
    ·simp (maxSteps:=1000000) [go_sem,qT,zF,w1]
     exact zf (i+1,true) (by show i+1≤l.length;omega) (by simp[go_sem,LeS,leV,leR,leA,leL,hnx]) (by show l.length- (i+1)<l.length-i;omega)
   |false=>
    simp (maxSteps:=1000000) [go_sem,zdi,zF,qT,hil',em,zB,hi1]
    refine⟨⟨rfl,by simp[Tryz.f159]⟩,zc [([0],[5]),([901],[902]),([0,1],[901])] (KA h hz hP ck cx sk sx 8 (by omega) (Z8 t (l.take i)) x hxr (by omega)) (by simp[go_sem,zw]) ⟨by simp[go_sem],by simp[go_sem]⟩ (by simp[go_sem,zF]) ?_⟩
    rintro _ _ ⟨rfl,tk,htk,rfl⟩
    rcases htk with rfl|rfl
    ·simp (maxSteps:=1000000) [go_sem,qT,zF,w1]
     exact zf (i+1,true) (by show i+1≤l.length;omega) (by simp[go_sem,LeS,leV,leR,leA,leL,hnx]) (by show l.length- (i+1)<l.length-i;omega)
    ·simp (maxSteps:=1000000) [go_sem,qT,zF,w1]
     exact zf (i+1,false) (by show i+1≤l.length;omega) (by simp[go_sem,LeS,leV,leR,leA,leL,hnx]) (by show l.length- (i+1)<l.length-i;omega)
 ·have hil':¬(i:Int)<l.length:=by omega
  obtain rfl:i=l.length:=by omega
  rw[List.take_length]at hal2⊢
  by_cases hl0:l=[]
  ·subst hl0
   simp (maxSteps:=1000000) [go_sem,zdi,zF]
   refine⟨⟨rfl,by simp[Tryz.f160]⟩,zc [] (zhC c b j f p ck cx sk sx) (by simp[go_sem]) ⟨by simp[go_sem],by simp[go_sem,zF]⟩ (by simp[go_sem]) ?_⟩
   rintro _ _ ⟨rfl,rfl⟩
   simp (maxSteps:=1000000) [go_sem,zh]
   exact zg (.p (.sl 1 [])) rfl (by simp[go_sem,zd,leA,leT,zx]) ⟨rfl,rfl⟩
  ·have hi1:¬l.length=0:=by simpa using hl0
   have hne:Z8 t l≠ []:=by
    cases l with
    |nil=>exact absurd rfl hl0
    |cons x l=>simp[Z8,Yw]
   have hru:=UK hP hr
   cases bt with
   |true=>
    simp (maxSteps:=1000000) [go_sem,zdi,zF,qT,hil',hi1]
    refine⟨⟨rfl,by simp[Tryz.f160]⟩,zc [] (Xv h hz ck cx sk sx (Z8 t l) hne (by omega) hru) (by simp[go_sem]) ⟨by simp[go_sem],by simp[go_sem,zF,zh]⟩ (by simp[go_sem]) ?_⟩
    rintro _ _ ⟨rfl,rfl⟩
    simp (maxSteps:=1000000) [go_sem,zh]
    exact zg (.p (zh (Kt t l))) rfl (by simp[go_sem,zd,leA,leT,zh,Kt]) ⟨rfl,rfl⟩
   |false=>
    simp (maxSteps:=1000000) [go_sem,zdi,zF,qT,hil',hi1]
    refine⟨⟨rfl,by simp[Tryz.f160]⟩,zc [] (Xv h hz ck cx sk sx (Z8 t l) hne (by omega) hru) (by simp[go_sem]) ⟨by simp[go_sem],by simp[go_sem,zF,zh]⟩ (by simp[go_sem]) ?_⟩
    rintro _ _ ⟨rfl,rfl⟩
    simp (maxSteps:=1000000) [go_sem,zh]
    exact zg (.p (zh (Kt t l))) rfl (by simp[go_sem,zd,leA,leT,zh,Kt]) ⟨rfl,rfl⟩
end Go.Proofs.YthbmelihnabkaaaGreat
end
section
namespace Go.Proofs.YthbmelihnabkaaaGreat
open Go.AM
set_option maxHeartbeats 4000000
set_option maxRecDepth 10000
def mkB(m:List (qZ×Int))(q:qZ):Option Int:=(m.find? fun x=>x.1==q).map (·.2)
theorem ckP_mk(q:qZ):∀(m:List (qZ×Int)) (i:Nat),(qG (qi q) (ckP m) (cxP m) i=none∧mkB m q=none)∨∃j r,qG (qi q) (ckP m) (cxP m) i=some (j,.int .i32 r)∧mkB m q=some r
 | [],i=>.inl ⟨rfl,rfl⟩
 |x::m,i=>by
  have e:qG (qi q) (ckP (x::m)) (cxP (x::m)) i=if eqC (qi q) (qi x.1)=true then some (i,.int .i32 x.2)else qG (qi q) (ckP m) (cxP m) (i+1):=by
   rw[ckP,cxP,List.map_cons,List.map_cons,qG];rfl
  rw[e]
  by_cases h:x.1=q
  ·subst h
   rw[if_pos (Ym _)]
   exact .inr ⟨i,x.2,rfl,by simp[mkB]⟩
  ·have hne:¬eqC (qi q) (qi x.1)=true:=fun hc=>h (Xs (uV (kc:=[.i .i32,.i .i32]) rfl rfl hc)).symm
   rw[if_neg hne]
   have hm:mkB (x::m) q=mkB m q:=by simp[mkB,h]
   rw[hm]
   exact ckP_mk q m (i+1)
def Js(x:Option Int):AV:=match x with|some r=>.tup [.p (.int .i32 r),.p (.bool true)]|none=>.tup [.p (.int .i32 0),.p (.bool false)]
theorem zeh [Gi](c b j f p:PV)(m:List (qZ×Int))(sk sx:List PV)(x y:Int):
  CR Tryz.prog 192 [] [.p (zF c b j f p (ckP m) (cxP m) sk sx),.p (.int .i32 x),.p (.int .i32 y)] [] (is (Js (if y=0 then none else mkB m ⟨x,y⟩))):=by
 refine zm mixed 10 [] Tryz.func192 rfl (by kernel_rfl) rfl (by simp) (by simp) ?_
 by_cases hy:y=0
 ·subst hy
  simp (maxSteps:=1000000) [go_sem,Tryz.f192,zF]
  exact zg (.tup [.p (.int .i32 0),.p (.bool false)]) rfl (by simp[go_sem,zd,leA,leT,leP]) ⟨rfl,rfl⟩
 ·rw[if_neg hy]
  have hk:=ckP_key m
  rcases ckP_mk ⟨x,y⟩ m 0 with ⟨h1,h2⟩|⟨k,r,h1,h2⟩
  ·rw[h2]
   simp only[qi]at h1
   simp (maxSteps:=1000000) [go_sem,Tryz.f192,zF,hy,Zg,mapOf,QM,h1]
   exact⟨hk,zg (.tup [.p (.int .i32 0),.p (.bool false)]) rfl (by simp[go_sem,zd,leA,leT,leP]) ⟨rfl,rfl⟩⟩
  ·rw[h2]
   simp only[qi]at h1
   simp (maxSteps:=1000000) [go_sem,Tryz.f192,zF,hy,Zg,mapOf,QM,h1]
   exact⟨hk,zg (.tup [.p (.int .i32 r),.p (.bool true)]) rfl (by simp[go_sem,zd,leA,leT,leP]) ⟨rfl,rfl⟩⟩
theorem zhp(c:Int)(K:List Int):(qG [.int .i32 c] (ZD K) (qe K) 0=none∧c ∉ K)∨∃j,qG [.int .i32 c] (ZD K) (qe K) 0=some (j,.bool true)∧c∈K:=by
 rcases JE c K with ⟨h1,h2⟩|⟨j,h1,h2,_⟩
 ·refine .inl ⟨h1,fun h=>?_⟩
  unfold kx at h2
  rw[if_pos h]at h2
  have:=congrArg List.length h2
  simp at this
 ·refine .inr ⟨j,h1,?_⟩
  have:=(Vi c c K).2 (.inl rfl)
  rw[h2]at this
  exact this
theorem zho [Gi](c b j f p:PV)(ck cx:List PV)(K:List Int)(y:Int):
  CR Tryz.prog 210 [] [.p (zF c b j f p ck cx (ZD K) (qe K)),.p (.int .i32 y)] [] (is (.p (.bool (decide (y∈K))))):=by
 refine zm mixed 5 [] Tryz.func210 rfl (by kernel_rfl) rfl (by simp) (by simp) ?_
 have hk:=UB K
 rcases zhp y K with ⟨h1,h2⟩|⟨k,h1,h2⟩
 ·simp (maxSteps:=1000000) [go_sem,Tryz.f210,zF,Zg,mapOf,QM,h1,h2]
  exact⟨hk,zg (.p (.bool false)) rfl (by simp[go_sem,zd,leA,leT]) ⟨rfl,rfl⟩⟩
 ·simp (maxSteps:=1000000) [go_sem,Tryz.f210,zF,Zg,mapOf,QM,h1,h2]
  exact⟨hk,zg (.p (.bool true)) rfl (by simp[go_sem,zd,leA,leT]) ⟨rfl,rfl⟩⟩
end Go.Proofs.YthbmelihnabkaaaGreat
end
