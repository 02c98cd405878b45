/- A part of the proof of this seat's statements, by an abstract machine: what each operation does to values, and what the law's functions compute. Conditions: as each law says. -/
import Derived.Test.YthbmelihnabkaaaGreatW33
import Derived.Test.YthbmelihnabkaaaGreatW27
import Derived.Test.YthbmelihnabkaaaGreatW18
import Derived.Test.YthbmelihnabkaaaGreatW26
section
namespace Go.Proofs.YthbmelihnabkaaaGreat
open Go.AM
set_option maxHeartbeats 4000000
set_option maxRecDepth 10000
theorem ZP.zpc [Gi] {P:Program} {E:Ent} {D:List Nat} {x y:Code} {Q:Exit→St→Prop} {S:St} {ι:Type}(hm:P.follows .mixedOrders=true)(hc:Zp D x=true)(inv:ι→Prop)(V:ι→List (Nat×AV))(R:ι→List (Tok×List AV))
  (h:wpA P D x (JV S inv V R (fun _ _=>False)) S) (hr:∀i ts,inv i→ZP P E y Q (S.zdG (V i) (R i) ts)):ZP P E (.seq x y) Q S:=
 ZP.Zm hm hc (jx x (fun e S' k=>by
  cases e with
  |normal=>obtain⟨i,ts,hi,rfl⟩:=k;exact hr i ts hi
  |_=>exact k.elim) h)
def uh(tab:PV)(n:Nat)(M:List Int):List (Tok×List AV):=[([2],[.p tab]),([9,7],zo M),([5],[.la [9,7] 1 0 n]),([12,2],[.p tab]),([12,3],[.la [9,7] 1 0 n])]
def QV:List Tok:=[[2],[9,7],[5],[12,2],[12,3]]
def zme(n:Nat)(r:List Int×List Int×List Int):Prop:=r.1.length+r.2.1.length+r.2.2.length=n∧∀x∈r.2.1, -2147483648≤x∧x<2147483648
def J0(k:Int→Int):List Int→List Int
 | []=>[]
 |s::Y=>s::Q7 k [] Y
def zmN(l n:Nat)(tab:PV)(i:Nat)(M:List Int):St:=
 {n:=39,nv:=6,vs:=[(0,.p (.opq (.func (.yield l) #[] #[]))),(1,.lp [12,3] 0),(2,.lp [12,2] 0),(4,.p (.int .i64 i))],ts:=[],rs:=uh tab n M,pin:=QV,ex:=[32]}
theorem zkL [Gi] {t:zR} {c b j f p:PV}(h:jo t c b j f p)(hz:Qq t)(ck cx sk sx:List PV)(M0:List Int)(n:Nat)(hM:M0.length=n)(hn:n<2^31)(hr:∀x∈M0, -2147483648≤x∧x<2147483648)
  (E:Ent) (l:Nat) (hy:∀r S1,zme n r→S1.rs=uh (zF c b j f p ck cx sk sx) n (r.1++(r.2.1++r.2.2))→S1.pin=QV→YB Tryz.prog E l QV [.int .i64 (r.1.length:Nat),.int .i64 ((r.1.length+r.2.1.length:Nat):Int)] S1 (fun rs=>rs=uh (zF c b j f p ck cx sk sx) n (r.1++(QY (zK t) r.2.1++r.2.2)))):
  ∀co,Tryz.f208.body=some co→ZP Tryz.prog E co (zgQ QV (fun rs=>rs=uh (zF c b j f p ck cx sk sx) n (K6 (zK t) M0))) (itS Tryz.f208 6 [32] l [.lp [12,3] 0,.lp [12,2] 0] (uh (zF c b j f p ck cx sk sx) n M0) QV):=by
 intro co hco
 have hnt:Tryz.f208.ntmps=39:=rfl
 unfold Tryz.f208 at hco
 injection hco with hco
 subst hco
 refine ZP.Zm (D:=[]) mixed (by kernel_rfl) ?_
 simp (maxSteps:=1000000) [go_sem,itS,wE,uh,QV,zF]
 refine ZP.block (ZP.loop (fun r:List Int×List Int×Nat=>r.1.length+r.2.1.length=n∧(r.2.2=r.1.length∨(r.2.2=r.1.length+1∧r.2.1=[]))∧r.1++Q7 (zK t) [] r.2.1=K6 (zK t) M0∧∀x∈r.2.1, -2147483648≤x∧x<2147483648)
  (fun r=>zmN l n (zF c b j f p ck cx sk sx) r.2.2 (r.1++r.2.1)) (fun r=>n+1-r.2.2) ([],M0,0) ⟨by simp;omega,.inl rfl,rfl,hr⟩ (by simp[go_sem,LeS,leV,leR,leA,leL,zj,zmN,uh,QV,zF]) (fun r hr'=>?_))
 obtain⟨D,R,i⟩:=r
 obtain⟨q1,q2,q3,q4⟩:=hr'
 simp only at q1 q2 q3 q4
 refine ZP.Zm (D:=[]) mixed (by kernel_rfl) ?_
 simp (maxSteps:=1000000) [go_sem,zmN,uh,QV,zF]
 refine zw (fun h1=>?_) (fun h1=>?_)
 ·obtain rfl:i=D.length:=by
   rcases q2 with q2|⟨q2,q5⟩
   ·exact q2
   ·rw[q5]at q1;simp at q1;omega
  simp (maxSteps:=1000000) [go_sem]
  refine ZP.seq (ZP.block ?_)
  refine ZP.Zm (D:=[]) mixed (by kernel_rfl) ?_
  simp (maxSteps:=1000000) [go_sem]
  have f4:∀X Y,R=X++Y→(∀x∈X, -2147483648≤x∧x<2147483648):=fun X Y e x hx=>q4 x (by rw[e];simp[hx])
  refine ZP.zpc (D:=[]) mixed (by kernel_rfl) (fun r:List Int×List Int=>R=r.1++r.2∧Q7 (zK t) [] R=Q7 (zK t) r.1 r.2∧(r.2=[]∨∃s,(∃Y,r.2=s::Y)∧zK t s=0)) (fun r=>[(4,.p (.int .i64 ((D.length+r.1.length:Nat):Int)))]) (fun _=>[]) ?_ ?_
  ·simp (maxSteps:=1000000) [go_sem]
   refine zm (fun r:List Int×List Int=>R=r.1++r.2∧Q7 (zK t) [] R=Q7 (zK t) r.1 r.2) (fun r=>[(4,.p (.int .i64 ((D.length+r.1.length:Nat):Int)))]) (fun r=>[]) (fun r=>r.2.length) ([],R) ⟨rfl,rfl⟩ (by simp[go_sem,LeS,leV,leR,leA,leL,zj]) (fun r hr2=>?_)
   obtain⟨X,Y⟩:=r
   obtain⟨p1,p2⟩:=hr2
   simp only at p1 p2
   have lR:R.length=X.length+Y.length:=by rw[p1];simp
   obtain⟨d,hd⟩:∃d,d=D.length:=⟨_,rfl⟩
   obtain⟨k,hk⟩:∃k,k=d+X.length:=⟨_,rfl⟩
   have hkc:(d:Int)+(X.length:Int)=(k:Int):=by omega
   simp only[←hd,←hk]
   cases Y with
   |nil=>
    have hkn:¬k<n:=by simp at lR;omega
    simp (maxSteps:=1000000) [go_sem,hkn]
    exact zW (X,[]) ⟨p1,p2,.inl rfl⟩ (by simp[go_sem,hk])
   |cons s Y=>
    have hkn:k<n:=by simp at lR;omega
    have hsr: -2147483648≤s∧s<2147483648:=q4 s (by rw[p1];simp)
    have gk:(zo (D++R))[k]?=some (.p (.int .i32 s)):=Zw (by
     rw[p1,List.getElem?_append_right (by omega),List.getElem?_append_right (by omega)]
     have:k-D.length-X.length=0:=by omega
     rw[this];rfl)
    have w1:IntKind.i64.wrap ((k:Int)+1)=((k+1:Nat):Int):=zN (by omega)
    simp (maxSteps:=1000000) [go_sem,hkn,gk]
    refine⟨⟨rfl,by simp[Tryz.f105]⟩,zc [] (Z4 h ck cx sk sx hz hsr) (by simp[go_sem,zE]) ⟨by simp[go_sem],by simp[go_sem,zF]⟩ (by simp[go_sem]) ?_⟩
    rintro _ _ ⟨rfl,rfl⟩
    have hkey:zK t s=t.cls (rn s):=rfl
    by_cases hs:t.cls (rn s)=0
    ·simp (maxSteps:=1000000) [go_sem,hs]
     exact zW (X,s::Y) ⟨p1,p2,.inr ⟨s,⟨Y,rfl⟩,hkey.trans hs⟩⟩ (by simp[go_sem,hk])
    ·simp (maxSteps:=1000000) [go_sem,hs,w1]
     refine zf (X++[s],Y) ⟨by rw[p1];simp,?_⟩ (by simp[go_sem,LeS,leV,leR,leA,leL,zj];omega) (by simp)
     rw[p2,Q7,if_neg (by rw[hkey];exact hs)]
  ·rintro⟨X,Y⟩ ts ⟨p1,p2,p3⟩
   simp only at p1 p2 p3
   have lR:R.length=X.length+Y.length:=by rw[p1];simp
   have eF:Q7 (zK t) [] R=QY (zK t) X++J0 (zK t) Y:=by
    rw[p2]
    rcases p3 with rfl|⟨s,⟨Y',rfl⟩,hs⟩
    ·simp[Q7,J0]
    ·simp[Q7,J0,hs]
   obtain⟨d,hd⟩:∃d,d=D.length:=⟨_,rfl⟩
   obtain⟨k,hk⟩:∃k,k=d+X.length:=⟨_,rfl⟩
   have hkc:(d:Int)+(X.length:Int)=(k:Int):=by omega
   have w1:IntKind.i64.wrap ((k:Int)+1)=((k+1:Nat):Int):=zN (by omega)
   have w2:IntKind.i64.wrap ((k:Int)-d)=(X.length:Int):=yG (by omega) (by omega)
   -- behind the round
   have next:∀M,M=D++(QY (zK t) X++Y)→∃r:List Int×List Int×Nat,(r.1.length+r.2.1.length=n∧(r.2.2=r.1.length∨(r.2.2=r.1.length+1∧r.2.1=[]))∧r.1++Q7 (zK t) [] r.2.1=K6 (zK t) M0∧∀x∈r.2.1, -2147483648≤x∧x<2147483648)∧M=r.1++r.2.1∧r.2.2=k+1:=by
    intro M hM'
    rcases p3 with rfl|⟨s,⟨Y',rfl⟩,hs⟩
    ·refine⟨(D++QY (zK t) X,[],k+1),⟨by simp[yN];simp at lR;omega,.inr ⟨by simp[yN];omega,rfl⟩,?_,by simp⟩,by rw[hM'];simp,rfl⟩
     rw[←q3,eF];simp[Q7,QY,J0]
    ·refine⟨(D++(QY (zK t) X++[s]),Y',k+1),⟨by simp[yN];simp at lR;omega,.inl (by simp[yN];omega),?_,fun x hx=>q4 x (by rw[p1];simp[hx])⟩,by rw[hM'];simp,rfl⟩
     rw[←q3,eF];simp[J0]
   simp only[←hd]
   by_cases hX:1<X.length
   ·refine ZP.seq (ZP.zkC (l:=l) (d:=36) 8 rfl rfl rfl (pins:=QV) (by kernel_rfl) (by kernel_rfl) ?_)
    have hXi:(1:Int)<X.length:=by omega
    simp (maxSteps:=1000000) [go_sem,hkc,w2,hXi,QV]
    have hY:=hy (D,X,Y) {n:=39,nv:=6,vs:=[(0,.p (.opq (.func (.yield l) #[] #[]))),(1,.lp [12,3] 0),(2,.lp [12,2] 0),(4,.p (.int .i64 k)),(5,.p (.int .i64 d)),(32,.p (.bool true))],ts:=[(35,.gd true (.p (.int .i64 k))),(34,.gd true (.p (.int .i64 d))),(33,.gd true (.p (.opq (.func (.yield l) #[] #[])))),(31,.p (.bool true)),(30,.p (.int .i64 X.length)),(29,.p (.int .i64 d)),(28,.p (.int .i64 k))],rs:=uh (zF c b j f p ck cx sk sx) n (D++R),pin:=QV,ex:=[32]} ⟨by simp only;omega,f4 X Y p1⟩ (by rw[p1]) rfl
    simp only[←hd,←hk]at hY
    refine⟨_,hY,?_⟩
    rintro _ rfl
    simp (maxSteps:=1000000) [go_sem,vg,yZ,uh,zF]
    refine ZP.zlR (by simp[go_sem]) ?_
    refine ZP.xB (D:=[]) mixed (by kernel_rfl) ?_
    simp (maxSteps:=1000000) [go_sem]
    refine ZP.xB (D:=[]) mixed (by kernel_rfl) ?_
    simp (maxSteps:=1000000) [go_sem,w1]
    obtain⟨r,h2,h3,h4⟩:=next (D++(QY (zK t) X++Y)) rfl
    refine JC r h2 (by simp[go_sem,LeS,leV,leR,leA,leL,zj,←h3,h4]) (by show n+1-r.2.2<n+1-d;rw[h4];omega)
   ·have hXi:¬(1:Int)<X.length:=by omega
    refine ZP.Zm (D:=[]) mixed (by kernel_rfl) ?_
    simp (maxSteps:=1000000) [go_sem,hkc,w2,hXi]
    refine ZP.zlR (by simp[go_sem]) ?_
    refine ZP.xB (D:=[]) mixed (by kernel_rfl) ?_
    simp (maxSteps:=1000000) [go_sem]
    refine ZP.xB (D:=[]) mixed (by kernel_rfl) ?_
    simp (maxSteps:=1000000) [go_sem,w1]
    obtain⟨r,h2,h3,h4⟩:=next (D++R) (by rw[p1,zb5 (by omega)])
    refine JC r h2 (by simp[go_sem,LeS,leV,leR,leA,leL,zj,h3,h4]) (by show n+1-r.2.2<n+1-d;rw[h4];omega)
 ·have hR:R=[]:=by
   rcases q2 with q2|⟨q2,q5⟩
   ·have:R.length=0:=by omega
    exact List.eq_nil_of_length_eq_zero this
   ·exact q5
  subst hR
  simp (maxSteps:=1000000) [go_sem]
  rw[←q3];simp[Q7,QY]
theorem UY [Gi] {t:zR} {c b j f p:PV}(h:jo t c b j f p)(hz:Qq t)(ck cx sk sx:List PV)(l:List Int)(h0:l≠ [])(hn:l.length<2^31)(hr:∀x∈l, -2147483648≤x∧x<2147483648):
  CR Tryz.prog 160 [] [.p (zF c b j f p ck cx sk sx),.p (zh l)] [] (fun x rs=>x=.la [9,7] 1 0 l.length∧rs=[([9,7],zo (K6 (zK t) l))]):=by
 have hlp:0<l.length:=List.length_pos_iff.2 h0
 refine XU 8 [12,13,14] Tryz.func160 rfl rfl (by simp) (by simp) ?_
 refine Wo.seq (D:=[]) mixed (by kernel_rfl) ?_
 simp (maxSteps:=1000000) [go_sem,zF,zh]
 refine Wo.seq (D:=[]) mixed (by kernel_rfl) ?_
 simp (maxSteps:=1000000) [go_sem]
 refine⟨⟨rfl,by simp[Tryz.f187]⟩,zc [] (zeF l h0 (by omega)) (by simp[go_sem]) ⟨by simp[go_sem],by simp[go_sem,zh]⟩ (by simp[go_sem]) ?_⟩
 rintro _ _ ⟨rfl,rfl⟩
 simp (maxSteps:=1000000) [go_sem]
 refine⟨rfl,Wo.zoJ (D:=[]) mixed (by kernel_rfl) ?_⟩
 simp (maxSteps:=1000000) [go_sem]
 refine⟨⟨rfl,by simp[Tryz.f188]⟩,zc [([0],[9,7])] (ziM c b j f p ck cx sk sx l l.length) (by simp[go_sem,zE]) ⟨by simp[go_sem],by simp[go_sem,zF]⟩ (by simp[go_sem]) ?_⟩
 rintro _ _ ⟨rfl,rfl⟩
 simp (maxSteps:=1000000) [go_sem,zF]
 refine zcA.ziQ (D:=[]) mixed (gf:=208) (caps:=[.lp [12,3] 0,.lp [12,2] 0]) rfl (by simp[Tryz.f208]) (fn':=Tryz.f208) 6 [32] Tryz.func208 rfl rfl (by simp) (by simp[Tryz.f208])
  [(0,.p (zF c b j f p ck cx sk sx)),(1,.p (zh l)),(2,.lp [2] 0),(5,.lp [5] 0)] QV (uh (zF c b j f p ck cx sk sx) l.length l) (fun rs=>rs=uh (zF c b j f p ck cx sk sx) l.length (K6 (zK t) l)) (by simp[yZ,QV]) (by simp) rfl rfl
  (by simp[go_sem,LeS,leV,leR,leA,leL,zj,lst,uh,zF,zh]) (by simp) (by simp) (by kernel_rfl) (by kernel_rfl)
  (fun r:List Int×List Int×List Int=>zme l.length r) (fun r=>uh (zF c b j f p ck cx sk sx) l.length (r.1++(r.2.1++r.2.2))) (fun r=>uh (zF c b j f p ck cx sk sx) l.length (r.1++(QY (zK t) r.2.1++r.2.2))) (fun r=>((r.1.length:Nat),((r.1.length+r.2.1.length:Nat):Int))) ?_ ?_ ?_
 ·rintro⟨A,X,B⟩ ⟨k1,k2⟩
  simp only at k1 k2
  simp (maxSteps:=1000000) [go_sem,lst,uh,QV,zF]
  have e1:((A.length:Int)+X.length).toNat-A.length=X.length:=by omega
  have hlen:(A++(X++B)).length=l.length:=by simp;omega
  refine⟨⟨by omega,by omega⟩,⟨rfl,by simp[Tryz.f189]⟩,zc [([0],[9,7]),([1],[2])] (pin:=[[0],[1]]) (Xd h hz ck cx sk sx A X B A.length X.length rfl rfl (by omega) k2) (by simp[go_sem,zE]) ⟨by simp[go_sem],by simp[go_sem,jI,e1]⟩ (by simp[go_sem,zF]) ?_⟩
  rintro _ _ ⟨X',hX',rfl,rfl⟩
  simp (maxSteps:=1000000) [go_sem,zF]
  rw[zkf hX']
  exact .inl (by simp[go_sem,LeS,leV,leR,leA,leL,zj,lst])
 ·intro E y hy
  exact zkL h hz ck cx sk sx l l.length rfl hn hr E y (fun r S1 h1 h2 h3=>hy r S1 h1 h2 h3) _ rfl
 ·rintro rs rfl
  refine zgH.xB (D:=[]) (by kernel_rfl) ?_
  simp (maxSteps:=1000000) [go_sem,lst,zne,uh,zF]
  exact zi [[9,7]] (.la [9,7] 1 0 l.length) ⟨rfl,by simp⟩ (by simp[go_sem,zd,leA,leT]) ⟨rfl,by simp[go_sem]⟩
end Go.Proofs.YthbmelihnabkaaaGreat
end
section
namespace Go.Proofs.YthbmelihnabkaaaGreat
open Go.AM
set_option maxHeartbeats 4000000
set_option maxRecDepth 10000
theorem CR.row [Gi] {P:Program} {fn:FuncId} {args:List AV} {t:Tok} {M:List Int}(h0:0<M.length)(h:CR P fn [] args [] (fun x rs=>x=.la t 1 0 M.length∧rs=[(t,zo M)])):CR P fn [] args [] (is (.p (zh M))):=by
 refine CR.freeze h (fun _=>false) rfl ?_
 rintro x rs ⟨rfl,rfl⟩
 refine⟨.p (zh M),fun g w v hG hv=>?_,rfl,rfl⟩
 rw[wY]
 refine xU (t:=t) (z:=1) (n:=M.length) (es:=zr M) (rt:=fun _=>false) hG [] h0 ?_ rfl (by simp[zr]) (fun e he=>?_) hv
 ·rw[VR];simp[zI,zac]
 ·obtain⟨s,_,rfl⟩:=List.mem_map.1 he
  exact⟨rfl,rfl⟩
theorem Vk(k:Int→Int)(l:List Int):(K6 k l).length=l.length:=by unfold K6;rw[Uh];simp
theorem X7 [Gi] {t:zR} {c b j f p:PV}(h:jo t c b j f p)(hz:Qq t)(ck cx sk sx:List PV)(l:List Int)(h0:l≠ [])(hn:l.length<2^31)(hr:∀x∈l, -2147483648≤x∧x<2147483648):
  CR Tryz.prog 160 [] [.p (zF c b j f p ck cx sk sx),.p (zh l)] [] (is (.p (zh (K6 (zK t) l)))):=by
 have hlp:0<l.length:=List.length_pos_iff.2 h0
 refine CR.row (t:=[9,7]) (by rw[Vk];exact hlp) ?_
 rw[Vk]
 exact UY h hz ck cx sk sx l h0 hn hr
def zcm(tab:PV):List (Tok×List AV):=[([2],[.p tab]),([5],[.p (.sl 1 [])]),([12,2],[.p tab]),([12,3],[.p (.sl 1 [])])]
def JH:List Tok:=[[2],[5],[12,2],[12,3]]
theorem zit [Gi](c b j f p:PV)(ck cx sk sx:List PV):CR Tryz.prog 188 [] [.p (zF c b j f p ck cx sk sx),.p (.sl 1 [])] []
  (fun x rs=>x=.fn 208 [.lp [3] 0,.lp [2] 0]∧rs=[([2],[.p (zF c b j f p ck cx sk sx)]),([3],[.p (.sl 1 [])])]):=by
 refine zn mixed 6 [] Tryz.func188 rfl (by kernel_rfl) rfl (by simp) (by simp) ?_
 simp (maxSteps:=1000000) [go_sem,Tryz.f188,zF]
 exact zi [[2],[3]] (.fn 208 [.lp [3] 0,.lp [2] 0]) ⟨rfl,by simp⟩ (by simp[go_sem,zd,leA,leT]) ⟨rfl,by simp[go_sem]⟩
theorem ziv [Gi](c b j f p:PV)(ck cx sk sx:List PV):CR Tryz.prog 160 [] [.p (zF c b j f p ck cx sk sx),.p (.opq (.slice none 0 0))] [] (is (.p (zh []))):=by
 refine XU 8 [12,13,14] Tryz.func160 rfl rfl (by simp) (by simp) ?_
 refine Wo.seq (D:=[]) mixed (by kernel_rfl) ?_
 simp (maxSteps:=1000000) [go_sem,zF]
 refine Wo.seq (D:=[]) mixed (by kernel_rfl) ?_
 simp (maxSteps:=1000000) [go_sem]
 refine⟨⟨rfl,by simp[Tryz.f187]⟩,zc [] zii (by simp[go_sem]) ⟨by simp[go_sem],by simp[go_sem]⟩ (by simp[go_sem]) ?_⟩
 rintro _ _ ⟨rfl,rfl⟩
 simp (maxSteps:=1000000) [go_sem]
 refine⟨rfl,?_⟩
 refine Wo.zoJ (D:=[]) mixed (by kernel_rfl) ?_
 simp (maxSteps:=1000000) [go_sem]
 refine⟨⟨rfl,by simp[Tryz.f188]⟩,zc [] (zit c b j f p ck cx sk sx) (by simp[go_sem]) ⟨by simp[go_sem],by simp[go_sem,zF]⟩ (by simp[go_sem]) ?_⟩
 rintro _ _ ⟨rfl,rfl⟩
 simp (maxSteps:=1000000) [go_sem,zF]
 refine zcA.ziQ (D:=[]) mixed (gf:=208) (caps:=[.lp [12,3] 0,.lp [12,2] 0]) rfl (by simp[Tryz.f208]) (fn':=Tryz.f208) 6 [32] Tryz.func208 rfl rfl (by simp) (by simp[Tryz.f208])
  [(0,.p (zF c b j f p ck cx sk sx)),(2,.lp [2] 0),(5,.lp [5] 0)] JH (zcm (zF c b j f p ck cx sk sx)) (fun rs=>rs=zcm (zF c b j f p ck cx sk sx)) (by simp[yZ,JH]) (by simp) rfl rfl
  (by simp[go_sem,LeS,leV,leR,leA,leL,lst,zcm,zF]) (by simp) (by simp) (by kernel_rfl) (by kernel_rfl)
  (fun _:Unit=>False) (fun _=>[]) (fun _=>[]) (fun _=>(0,0)) (fun _ h=>h.elim) ?_ ?_
 ·intro E y _
  have hnt:Tryz.f208.ntmps=39:=rfl
  refine ZP.xB (D:=[]) mixed (by kernel_rfl) ?_
  simp (maxSteps:=1000000) [go_sem,itS,wE,zcm,JH,zF]
  refine zm (fun _:Unit=>True) (fun _=>[]) (fun _=>[]) (fun _=>0) () trivial (by simp[go_sem,LeS,leV,leR,leA,leL]) (fun _ _=>?_)
  simp (maxSteps:=1000000) [go_sem]
 ·rintro rs rfl
  refine zgH.xB (D:=[]) (by kernel_rfl) ?_
  simp (maxSteps:=1000000) [go_sem,lst,zne,zcm,zF]
  exact zg (.p (.sl 1 [])) rfl (by simp[go_sem,zd,leA,leT]) ⟨rfl,rfl⟩
end Go.Proofs.YthbmelihnabkaaaGreat
end
section
namespace Go.Proofs.YthbmelihnabkaaaGreat
open Go.AM
set_option maxHeartbeats 4000000
set_option maxRecDepth 10000
def Qy:xe:=⟨false,0,0,0,false⟩
def yp(t:zR):xe→List Int→Nat
 |_,[]=>0
 |s,r::l=>if(Zf t s r).2 then 0 else 1+yp t (Zf t s r).1 l
theorem zbi(t:zR):∀(l:List Int) (s:xe),yp t s l≤l.length
 | [],_=>by simp[yp]
 |r::l,s=>by
  unfold yp
  split
  ·omega
  ·have:=zbi t l (Zf t s r).1
   simp only[List.length_cons];omega
def zgx:OT:=.now 0 1 (.now 1 1 (.now 2 1 (.now 3 1 (.now 4 1 (.now 5 1 (.mk [(6,.now 7 1 (.now 8 1 (.now 9 2 (.mk [(10,.mk [(11,.now 12 0 (.mk []))])])))),(10,.mk [(6,.now 7 0 (.now 8 0 (.now 9 2 (.mk [(11,.now 12 0 (.mk []))]))))])]))))))
def zgU(s:xe):List AV:=[.p (.bool s.some),.p (.int .i64 s.last),.p (.int .i64 s.pict),.p (.int .i64 s.conj),.p (.bool s.odd)]
theorem zkS [Gi] {t:zR} {c b j f p:PV}(h:jo t c b j f p)(hz:Qq t)(ck cx sk sx:List PV)(l:List Int)(hn:l.length<2^31)(hr:∀x∈l,zu x)(a:Nat)(x:Int)(l':List Int)(ha:l.drop a=x::l'):
  CR Tryz.prog 136 [] [.p (zF c b j f p ck cx sk sx),.p (zh l),.p (.int .i64 a)] [] (is (.p (.int .i64 ((a+1+yp t (Zf t Qy x).1 l':Nat):Int)))):=by
 have hal:a<l.length:=by
  have:=congrArg List.length ha
  simp at this;omega
 have hx:l[a]=x:=by
  have:=List.drop_eq_getElem_cons hal
  rw[ha]at this
  injection this with h1 _;exact h1.symm
 have hl':l'=l.drop (a+1):=by
  have:=List.drop_eq_getElem_cons hal
  rw[ha]at this
  injection this
 have hxr:zu x:=hr x (by rw[←hx];exact List.getElem_mem _)
 have em:elemAt (zr l) a=.int .i32 x:=by rw[zr,zt (fun r=>PV.int .i32 r) l a hal,hx]
 obtain⟨N,hN⟩:∃N,N=a+1+yp t (Zf t Qy x).1 l':=⟨_,rfl⟩
 rw[←hN]
 refine zS [200007] mixed 11 [] Tryz.func136 rfl (by kernel_rfl) rfl (by simp) (by simp) ?_
 have w1:IntKind.i64.wrap ((a:Int)+1)=((a+1:Nat):Int):=zN (by omega)
 have g1:¬(a:Int)<0:=by omega
 have g2:¬((l.length:Int)≤a):=by omega
 have g3:(a:Int)<l.length:=by omega
 simp (maxSteps:=1000000) [go_sem,Tryz.f136,zh,zC,zF,g1,g2,g3,em]
 refine⟨⟨rfl,by simp[Tryz.f162]⟩,zc [] (K4 h hz ck cx sk sx Qy x hxr) (by simp[go_sem]) ⟨by simp[go_sem],by simp[go_sem,jT,Qy,zF]⟩ (by simp[go_sem]) ?_⟩
 rintro _ rs ⟨rfl,rfl⟩
 have hso:∀s r,(Zf t s r).1.some=true:=fun _ _=>rfl
 obtain⟨s0,hs0⟩:∃s0,(Zf t Qy x).1=s0:=⟨_,rfl⟩
 rw[hs0]at hN⊢
 generalize (Zf t Qy x).2=cut0
 simp (maxSteps:=1000000) [go_sem,jT,w1]
 refine zm (fun r:Nat×xe=>N=r.1+yp t r.2 (l.drop r.1)∧r.1≤l.length) (fun r=>[(2,.p (.int .i64 (r.1:Nat))),(9,.zU),(10,.zU)]) (fun r=>[([7],zgU r.2)]) (fun r=>l.length-r.1) (a+1,s0) ⟨by rw[hN,hl'],by simp only;omega⟩ (by simp[go_sem,LeS,leV,leR,leA,leL,zgU]) (fun r hr2=>?_)
 obtain⟨i,s⟩:=r
 obtain⟨p1,p2⟩:=hr2
 simp only at p1 p2
 by_cases hil:i<l.length
 ·obtain⟨y,hy⟩:∃y,l[i]=y:=⟨_,rfl⟩
  have hyr:zu y:=hr y (by rw[←hy];exact List.getElem_mem _)
  have em2:elemAt (zr l) i=.int .i32 y:=by rw[zr,zt (fun r=>PV.int .i32 r) l i hil,hy]
  have hdr:l.drop i=y::l.drop (i+1):=by rw[←hy];exact List.drop_eq_getElem_cons hil
  have g4:(i:Int)<l.length:=by omega
  have w2:IntKind.i64.wrap ((i:Int)+1)=((i+1:Nat):Int):=zN (by omega)
  have hend:(Zf t s y).2=true→N=i:=fun e=>by rw[p1,hdr,yp,if_pos e];rfl
  have hgo:(Zf t s y).2=false→N=(i+1)+yp t (Zf t s y).1 (l.drop (i+1)):=fun e=>by rw[p1,hdr,yp,if_neg (by rw[e];simp)];omega
  simp (maxSteps:=1000000) [go_sem,zC,g4,zgU]
  refine Zh zgx (by kernel_rfl) ?_
  simp (maxSteps:=1000000) [go_sem,zgx,zC,g4,em2]
  refine⟨⟨⟨rfl,by simp[Tryz.f162]⟩,zc [] (K4 h hz ck cx sk sx s y hyr) (by simp[go_sem]) ⟨by simp[go_sem],by simp[go_sem,jT,zF]⟩ (by simp[go_sem]) ?_⟩,⟨⟨rfl,by simp[Tryz.f162]⟩,zc [] (K4 h hz ck cx sk sx s y hyr) (by simp[go_sem]) ⟨by simp[go_sem],by simp[go_sem,jT,zF]⟩ (by simp[go_sem]) ?_⟩⟩
  ·rintro _ rs ⟨rfl,rfl⟩
   generalize Zf t s y=q at hend hgo
   obtain⟨s2,ct⟩:=q
   cases ct with
   |true=>
    have e:=hend rfl
    rw[e]
    simp (maxSteps:=1000000) [go_sem,jT]
    exact zg (.p (.int .i64 (i:Nat))) rfl (by simp[go_sem,zd,leA,leT]) ⟨rfl,rfl⟩
   |false=>
    have e:=hgo rfl
    simp (maxSteps:=1000000) [go_sem,jT,w2]
    exact zf (i+1,s2) ⟨e,by show i+1≤l.length;omega⟩ (by simp[go_sem,LeS,leV,leR,leA,leL]) (by show l.length- (i+1)<l.length-i;omega)
  ·rintro _ rs ⟨rfl,rfl⟩
   generalize Zf t s y=q at hend hgo
   obtain⟨s2,ct⟩:=q
   cases ct with
   |true=>
    have e:=hend rfl
    rw[e]
    simp (maxSteps:=1000000) [go_sem,jT]
    exact zg (.p (.int .i64 (i:Nat))) rfl (by simp[go_sem,zd,leA,leT]) ⟨rfl,rfl⟩
   |false=>
    have e:=hgo rfl
    simp (maxSteps:=1000000) [go_sem,jT,w2]
    exact zf (i+1,s2) ⟨e,by show i+1≤l.length;omega⟩ (by simp[go_sem,LeS,leV,leR,leA,leL]) (by show l.length- (i+1)<l.length-i;omega)
 ·have g4:¬(i:Int)<l.length:=by omega
  have e:N=i:=by rw[p1,List.drop_eq_nil_of_le (by omega)];rfl
  rw[e]
  simp (maxSteps:=1000000) [go_sem,zC,g4]
  exact zg (.p (.int .i64 (i:Nat))) rfl (by simp[go_sem,zd,leA,leT]) ⟨rfl,rfl⟩
def xx(t:zR):Nat→List Int→List (List Int)
 |0,_=>[]
 |_,[]=>[]
 |n+1,r::l=>(r::l.take (yp t (Zf t Qy r).1 l))::xx t n (l.drop (yp t (Zf t Qy r).1 l))
def ku(t:zR)(l:List Int):List (List Int):=xx t l.length l
theorem KA(t:zR):∀(n m:Nat) (l:List Int),l.length≤n→l.length≤m→xx t n l=xx t m l
 |0,m,l,h1,h2=>by
  obtain rfl:l=[]:=List.eq_nil_of_length_eq_zero (by omega)
  cases m<;>rfl
 |n+1,0,l,h1,h2=>by
  obtain rfl:l=[]:=List.eq_nil_of_length_eq_zero (by omega)
  rfl
 |n+1,m+1,[],h1,h2=>rfl
 |n+1,m+1,r::l,h1,h2=>by
  simp only[List.length_cons]at h1 h2
  simp only[xx]
  rw[KA t n m _ (by rw[List.length_drop];omega) (by rw[List.length_drop];omega)]
theorem Wk(t:zR)(r:Int)(l:List Int):ku t (r::l)=(r::l.take (yp t (Zf t Qy r).1 l))::ku t (l.drop (yp t (Zf t Qy r).1 l)):=by
 unfold ku
 simp only[List.length_cons,xx]
 rw[KA t l.length _ _ (by rw[List.length_drop];omega) (Nat.le_refl _)]
end Go.Proofs.YthbmelihnabkaaaGreat
end
section
namespace Go.Proofs.YthbmelihnabkaaaGreat
open Go.AM
set_option maxHeartbeats 4000000
set_option maxRecDepth 10000
def qL(t:zR)(l:List Int):List Int:=l.flatMap (qO t 8)
def vM(t:zR)(l:List Int):List Int:=K6 (zK t) (qL t l)
theorem WJ(t:zR)(l:List Int):(qL t l).length≤768*l.length:=by
 induction l with
 |nil=>simp[qL]
 |cons x l ih=>
  have:=wg t 8 x
  simp only[qL,List.flatMap_cons,List.length_append,List.length_cons]at*
  omega
theorem VB(t:zR):∀d r,qO t d r≠ []
 |0,r=>by unfold qO;split<;>simp[zQ];split<;>simp
 |d+1,r=>by
  unfold qO
  split
  ·unfold zQ;split<;>simp
  ·split
   ·simp
   ·have:=VB t d (t.par (rn r)).a
    simp[this]
theorem wF {t:zR}(hP:VH t):∀d r,zu r→∀x∈qO t d r,zu x
 |0,r,hr,x,hx=>by
  unfold qO at hx
  split at hx
  ·rename_i hs
   have hs':44032≤r∧r<55204:=by simpa[Zc]using hs
   unfold zQ at hx
   unfold zu
   split at hx<;>simp at hx<;>omega
  ·rw[List.mem_singleton.1 hx];exact hr
 |d+1,r,hr,x,hx=>by
  unfold qO at hx
  split at hx
  ·rename_i hs
   have hs':44032≤r∧r<55204:=by simpa[Zc]using hs
   unfold zQ at hx
   unfold zu
   split at hx<;>simp at hx<;>omega
  ·have hp:=hP (rn r)
   split at hx
   ·rw[List.mem_singleton.1 hx];exact hr
   ·rcases List.mem_append.1 hx with hx|hx
    ·exact wF hP d _ ⟨by omega,by omega⟩ x hx
    ·split at hx
     ·simp at hx
     ·exact wF hP d _ ⟨by omega,by omega⟩ x hx
theorem vX {t:zR}(hP:VH t) {l:List Int}(hl:∀x∈l,zu x):∀x∈qL t l,zu x:=fun x hx=>by
 obtain⟨r,hr,hx⟩:=List.mem_flatMap.1 hx
 exact wF hP 8 r (hl r hr) x hx
def WH(tab:PV)(e:List Int×Bool×Bool):List (Tok×List AV):=match e with
 |(_,_,false)=>[([5],[.p tab,.p (.opq (.slice none 0 0))])]
 |(es,true,true)=>[([5],qy tab [901] es)]
 |(es,false,true)=>[([5],qy tab [902] es)]
theorem zkn [Gi] {t:zR} {c b j f p:PV}(h:jo t c b j f p)(hz:Qq t)(hP:VH t)(ck cx sk sx:List PV)(l:List Int)(hn:l.length<2^20)(hr:∀x∈l,zu x):
  CR Tryz.prog 111 [] [.p (zF c b j f p ck cx sk sx),.p (zh l)] [] (is (.p (zh (vM t l)))):=by
 refine qQ [] mixed 8 [10,11,12] Tryz.func111 rfl (by kernel_rfl) [2] rfl (by simp) (by simp) ?_
 simp (maxSteps:=1000000) [go_sem,Tryz.f111,zh,zC,zF]
 refine⟨⟨rfl,rfl⟩,?_⟩
 have hrn:∀x∈l,zu x:=hr
 refine zm (fun r:Nat×Bool=>r.1≤l.length) (fun r=>[(12,.p (.int .i64 (r.1:Nat))),(7,.zU)]) (fun r=>WH (zF c b j f p ck cx sk sx) (qL t (l.take r.1),r.2,decide (r.1≠0))) (fun r=>l.length-r.1) (0,true) (by simp) (by simp[go_sem,LeS,leV,leR,leA,leL,WH,zF]) (fun r hi=>?_)
 obtain⟨i,bt⟩:=r
 simp only at hi
 have hal:=WJ t (l.take i)
 have hal2:(qL t (l.take i)).length≤768*l.length:=by rw[List.length_take]at hal;omega
 by_cases hil:i<l.length
 ·obtain⟨x,hx⟩:∃x,l[i]=x:=⟨_,rfl⟩
  have hxr:zu x:=hr x (by rw[←hx];exact List.getElem_mem _)
  have em:elemAt (zr l) i=.int .i32 x:=by rw[zr,zt (fun r=>PV.int .i32 r) l i hil,hx]
  have hnx:qL t (l.take (i+1))=qL t (l.take i)++qO t 8 x:=by
   rw[List.take_add_one,List.getElem?_eq_getElem hil,hx];simp[qL]
  have w1:IntKind.i64.wrap ((i:Int)+1)=((i+1:Nat):Int):=zN (by omega)
  have hil':(i:Int)<l.length:=by omega
  have w0:IntKind.i64.wrap 1=1:=wrap64 (by omega) (by omega)
  rcases Nat.eq_zero_or_pos i with rfl|hi0
  ·have e0:qL t (l.take 0)=[]:=by simp[qL]
   rw[e0,List.nil_append]at hnx
   simp (maxSteps:=1000000) [go_sem,WH,zF,hil,em,zC]
   refine⟨⟨rfl,by simp[Tryz.f159]⟩,zc [([0],[5]),([901],[901]),([0,1],[902])] (take_nil h hz hP ck cx sk sx 8 (by omega) x hxr) (by simp[go_sem,zE]) ⟨by simp[go_sem],by simp[go_sem]⟩ (by simp[go_sem,zF]) ?_⟩
   rintro _ _ ⟨rfl,tk,htk,rfl⟩
   rcases htk with rfl|rfl
   ·simp (maxSteps:=1000000) [go_sem,qy,zF]
    exact zf (1,false) (by show 1≤l.length;omega) (by simp[go_sem,LeS,leV,leR,leA,leL,←hnx,w0]) (by show l.length-1<l.length-0;omega)
   ·simp (maxSteps:=1000000) [go_sem,qy,zF]
    exact zf (1,true) (by show 1≤l.length;omega) (by simp[go_sem,LeS,leV,leR,leA,leL,←hnx,w0]) (by show l.length-1<l.length-0;omega)
  ·have hi1:¬i=0:=by omega
   cases bt with
   |true=>
    simp (maxSteps:=1000000) [go_sem,WH,zF,qy,hil',em,zC,hi1]
    refine⟨⟨rfl,by simp[Tryz.f159]⟩,zc [([0],[5]),([901],[901]),([0,1],[902])] (uO h hz hP ck cx sk sx 8 (by omega) (qL t (l.take i)) x hxr (by omega)) (by simp[go_sem,zE]) ⟨by simp[go_sem],by simp[go_sem]⟩ (by simp[go_sem,zF]) ?_⟩
    rintro _ _ ⟨rfl,tk,htk,rfl⟩
    rcases htk with rfl|rfl
    ·simp (maxSteps:=1000000) [go_sem,qy,zF,w1]
     exact zf (i+1,false) (by show i+1≤l.length;omega) (by simp[go_sem,LeS,leV,leR,leA,leL,hnx]) (by show l.length- (i+1)<l.length-i;omega)
    ·simp (maxSteps:=1000000) [go_sem,qy,zF,w1]
     exact zf (i+1,true) (by show i+1≤l.length;omega) (by simp[go_sem,LeS,leV,leR,leA,leL,hnx]) (by show l.length- (i+1)<l.length-i;omega)
   |false=>
    simp (maxSteps:=1000000) [go_sem,WH,zF,qy,hil',em,zC,hi1]
    refine⟨⟨rfl,by simp[Tryz.f159]⟩,zc [([0],[5]),([901],[902]),([0,1],[901])] (uO h hz hP ck cx sk sx 8 (by omega) (qL t (l.take i)) x hxr (by omega)) (by simp[go_sem,zE]) ⟨by simp[go_sem],by simp[go_sem]⟩ (by simp[go_sem,zF]) ?_⟩
    rintro _ _ ⟨rfl,tk,htk,rfl⟩
    rcases htk with rfl|rfl
    ·simp (maxSteps:=1000000) [go_sem,qy,zF,w1]
     exact zf (i+1,true) (by show i+1≤l.length;omega) (by simp[go_sem,LeS,leV,leR,leA,leL,hnx]) (by show l.length- (i+1)<l.length-i;omega)
    ·simp (maxSteps:=1000000) [go_sem,qy,zF,w1]
     exact zf (i+1,false) (by show i+1≤l.length;omega) (by simp[go_sem,LeS,leV,leR,leA,leL,hnx]) (by show l.length- (i+1)<l.length-i;omega)
 ·have hil':¬(i:Int)<l.length:=by omega
  obtain rfl:i=l.length:=by omega
  rw[List.take_length]at hal2⊢
  by_cases hl0:l=[]
  ·subst hl0
   simp (maxSteps:=1000000) [go_sem,WH,zF]
   refine⟨⟨rfl,by simp[Tryz.f160]⟩,zc [] (ziv c b j f p ck cx sk sx) (by simp[go_sem]) ⟨by simp[go_sem],by simp[go_sem,zF]⟩ (by simp[go_sem]) ?_⟩
   rintro _ _ ⟨rfl,rfl⟩
   simp (maxSteps:=1000000) [go_sem,zh]
   exact zg (.p (.sl 1 [])) rfl (by simp[go_sem,zd,leA,leT,zr]) ⟨rfl,rfl⟩
  ·have hi1:¬l.length=0:=by simpa using hl0
   have hne:qL t l≠ []:=by
    cases l with
    |nil=>exact absurd rfl hl0
    |cons x l=>simp[qL,VB]
   have hru:=vX hP hr
   cases bt with
   |true=>
    simp (maxSteps:=1000000) [go_sem,WH,zF,qy,hil',hi1]
    refine⟨⟨rfl,by simp[Tryz.f160]⟩,zc [] (X7 h hz ck cx sk sx (qL t l) hne (by omega) hru) (by simp[go_sem]) ⟨by simp[go_sem],by simp[go_sem,zF,zh]⟩ (by simp[go_sem]) ?_⟩
    rintro _ _ ⟨rfl,rfl⟩
    simp (maxSteps:=1000000) [go_sem,zh]
    exact zg (.p (zh (vM t l))) rfl (by simp[go_sem,zd,leA,leT,zh,vM]) ⟨rfl,rfl⟩
   |false=>
    simp (maxSteps:=1000000) [go_sem,WH,zF,qy,hil',hi1]
    refine⟨⟨rfl,by simp[Tryz.f160]⟩,zc [] (X7 h hz ck cx sk sx (qL t l) hne (by omega) hru) (by simp[go_sem]) ⟨by simp[go_sem],by simp[go_sem,zF,zh]⟩ (by simp[go_sem]) ?_⟩
    rintro _ _ ⟨rfl,rfl⟩
    simp (maxSteps:=1000000) [go_sem,zh]
    exact zg (.p (zh (vM t l))) rfl (by simp[go_sem,zd,leA,leT,zh,vM]) ⟨rfl,rfl⟩
end Go.Proofs.YthbmelihnabkaaaGreat
end
section
namespace Go.Proofs.YthbmelihnabkaaaGreat
open Go.AM
set_option maxHeartbeats 4000000
set_option maxRecDepth 10000
def mkB(m:List (Zd×Int))(q:Zd):Option Int:=(m.find? fun x=>x.1==q).map (·.2)
theorem ckP_mk(q:Zd):∀(m:List (Zd×Int)) (i:Nat),(qK (qj q) (ckP m) (cxP m) i=none∧mkB m q=none)∨∃j r,qK (qj q) (ckP m) (cxP m) i=some (j,.int .i32 r)∧mkB m q=some r
 | [],i=>.inl ⟨rfl,rfl⟩
 |x::m,i=>by
  have e:qK (qj q) (ckP (x::m)) (cxP (x::m)) i=if eqC (qj q) (qj x.1)=true then some (i,.int .i32 x.2)else qK (qj q) (ckP m) (cxP m) (i+1):=by
   rw[ckP,cxP,List.map_cons,List.map_cons,qK];rfl
  rw[e]
  by_cases h:x.1=q
  ·subst h
   rw[if_pos (JE _)]
   exact .inr ⟨i,x.2,rfl,by simp[mkB]⟩
  ·have hne:¬eqC (qj q) (qj x.1)=true:=fun hc=>h (XA (WC (kc:=[.i .i32,.i .i32]) rfl rfl hc)).symm
   rw[if_neg hne]
   have hm:mkB (x::m) q=mkB m q:=by simp[mkB,h]
   rw[hm]
   exact ckP_mk q m (i+1)
def YG(x:Option Int):AV:=match x with|some r=>.tup [.p (.int .i32 r),.p (.bool true)]|none=>.tup [.p (.int .i32 0),.p (.bool false)]
theorem ze3 [Gi](c b j f p:PV)(m:List (Zd×Int))(sk sx:List PV)(x y:Int):
  CR Tryz.prog 192 [] [.p (zF c b j f p (ckP m) (cxP m) sk sx),.p (.int .i32 x),.p (.int .i32 y)] [] (is (YG (if y=0 then none else mkB m ⟨x,y⟩))):=by
 refine zn mixed 10 [] Tryz.func192 rfl (by kernel_rfl) rfl (by simp) (by simp) ?_
 by_cases hy:y=0
 ·subst hy
  simp (maxSteps:=1000000) [go_sem,Tryz.f192,zF]
  exact zg (.tup [.p (.int .i32 0),.p (.bool false)]) rfl (by simp[go_sem,zd,leA,leT,leP]) ⟨rfl,rfl⟩
 ·rw[if_neg hy]
  have hk:=ckP_key m
  rcases ckP_mk ⟨x,y⟩ m 0 with ⟨h1,h2⟩|⟨k,r,h1,h2⟩
  ·rw[h2]
   simp only[qj]at h1
   simp (maxSteps:=1000000) [go_sem,Tryz.f192,zF,hy,Zl,mapOf,Q8,h1]
   exact⟨hk,zg (.tup [.p (.int .i32 0),.p (.bool false)]) rfl (by simp[go_sem,zd,leA,leT,leP]) ⟨rfl,rfl⟩⟩
  ·rw[h2]
   simp only[qj]at h1
   simp (maxSteps:=1000000) [go_sem,Tryz.f192,zF,hy,Zl,mapOf,Q8,h1]
   exact⟨hk,zg (.tup [.p (.int .i32 r),.p (.bool true)]) rfl (by simp[go_sem,zd,leA,leT,leP]) ⟨rfl,rfl⟩⟩
theorem zhk(c:Int)(K:List Int):(qK [.int .i32 c] (ZD K) (qd K) 0=none∧c ∉ K)∨∃j,qK [.int .i32 c] (ZD K) (qd K) 0=some (j,.bool true)∧c∈K:=by
 rcases JZ c K with ⟨h1,h2⟩|⟨j,h1,h2,_⟩
 ·refine .inl ⟨h1,fun h=>?_⟩
  unfold kX at h2
  rw[if_pos h]at h2
  have:=congrArg List.length h2
  simp at this
 ·refine .inr ⟨j,h1,?_⟩
  have:=(Vu c c K).2 (.inl rfl)
  rw[h2]at this
  exact this
theorem zhF [Gi](c b j f p:PV)(ck cx:List PV)(K:List Int)(y:Int):
  CR Tryz.prog 210 [] [.p (zF c b j f p ck cx (ZD K) (qd K)),.p (.int .i32 y)] [] (is (.p (.bool (decide (y∈K))))):=by
 refine zn mixed 5 [] Tryz.func210 rfl (by kernel_rfl) rfl (by simp) (by simp) ?_
 have hk:=VT K
 rcases zhk y K with ⟨h1,h2⟩|⟨k,h1,h2⟩
 ·simp (maxSteps:=1000000) [go_sem,Tryz.f210,zF,Zl,mapOf,Q8,h1,h2]
  exact⟨hk,zg (.p (.bool false)) rfl (by simp[go_sem,zd,leA,leT]) ⟨rfl,rfl⟩⟩
 ·simp (maxSteps:=1000000) [go_sem,Tryz.f210,zF,Zl,mapOf,Q8,h1,h2]
  exact⟨hk,zg (.p (.bool true)) rfl (by simp[go_sem,zd,leA,leT]) ⟨rfl,rfl⟩⟩
end Go.Proofs.YthbmelihnabkaaaGreat
end
