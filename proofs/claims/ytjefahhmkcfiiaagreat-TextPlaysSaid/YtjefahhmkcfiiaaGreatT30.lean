/- A part of the proof of this seat's statements, by an abstract machine: what each operation does to values, and what the law's functions compute. Conditions: as each law says. -/
import Derived.Test.YtjefahhmkcfiiaaGreatT29
import Derived.Test.YtjefahhmkcfiiaaGreatT24
import Derived.Test.YtjefahhmkcfiiaaGreatT18
import Derived.Test.YtjefahhmkcfiiaaGreatT23
section
namespace Go.Proofs.YtjefahhmkcfiiaaGreat
open Go.AM
set_option maxHeartbeats 4000000
set_option maxRecDepth 10000
theorem ZW.zqs [Gi] {P:Program} {E:Ent} {D:List Nat} {x y:Code} {Q:Exit→St→Prop} {S:St} {ι:Type}(hm:P.follows .mixedOrders=true)(hc:Zu D x=true)(inv:ι→Prop)(V:ι→List (Nat×AV))(R:ι→List (Tok×List AV))
  (h:wpA P D x (YC S inv V R (fun _ _=>False)) S) (hr:∀i ts,inv i→ZW P E y Q (S.zdR (V i) (R i) ts)):ZW P E (.seq x y) Q S:=
 ZW.Zx hm hc (jM x (fun e S' k=>by
  cases e with
  |normal=>obtain⟨i,ts,hi,rfl⟩:=k;exact hr i ts hi
  |_=>exact k.elim) h)
def Wd(tab:PV)(n:Nat)(M:List Int):List (Tok×List AV):=[([2],[.p tab]),([9,7],zx M),([5],[.la [9,7] 1 0 n]),([12,2],[.p tab]),([12,3],[.la [9,7] 1 0 n])]
def Q9:List Tok:=[[2],[9,7],[5],[12,2],[12,3]]
def znx(n:Nat)(r:List Int×List Int×List Int):Prop:=r.1.length+r.2.1.length+r.2.2.length=n∧∀x∈r.2.1, -2147483648≤x∧x<2147483648
def Xg(k:Int→Int):List Int→List Int
 | []=>[]
 |s::Y=>s::jq k [] Y
def znS(l n:Nat)(tab:PV)(i:Nat)(M:List Int):St:=
 {n:=39,nv:=6,vs:=[(0,.p (.opq (.func (.yield l) #[] #[]))),(1,.lp [12,3] 0),(2,.lp [12,2] 0),(4,.p (.int .i64 i))],ts:=[],rs:=Wd tab n M,pin:=Q9,ex:=[32]}
theorem zmx [Gi] {t:zV} {c b j f p:PV}(h:QS t c b j f p)(hz:Qg t)(ck cx sk sx:List PV)(M0:List Int)(n:Nat)(hM:M0.length=n)(hn:n<2^31)(hr:∀x∈M0, -2147483648≤x∧x<2147483648)
  (E:Ent) (l:Nat) (hy:∀r S1,znx n r→S1.rs=Wd (zF c b j f p ck cx sk sx) n (r.1++(r.2.1++r.2.2))→S1.pin=Q9→YR Tryz.prog E l Q9 [.int .i64 (r.1.length:Nat),.int .i64 ((r.1.length+r.2.1.length:Nat):Int)] S1 (fun rs=>rs=Wd (zF c b j f p ck cx sk sx) n (r.1++(Q6 (zQ t) r.2.1++r.2.2)))):
  ∀co,Tryz.f227.body=some co→ZW Tryz.prog E co (zjM Q9 (fun rs=>rs=Wd (zF c b j f p ck cx sk sx) n (Xa (zQ t) M0))) (itS Tryz.f227 6 [32] l [.lp [12,3] 0,.lp [12,2] 0] (Wd (zF c b j f p ck cx sk sx) n M0) Q9):=by
 intro co hco
 have hnt:Tryz.f227.ntmps=39:=rfl
 unfold Tryz.f227 at hco
 injection hco with hco
 subst hco
 refine ZW.Zx (D:=[]) mixed (by kernel_rfl) ?_
 simp (maxSteps:=1000000) [go_sem,itS,vg,Wd,Q9,zF]
 refine ZW.block (ZW.loop (fun r:List Int×List Int×Nat=>r.1.length+r.2.1.length=n∧(r.2.2=r.1.length∨(r.2.2=r.1.length+1∧r.2.1=[]))∧r.1++jq (zQ t) [] r.2.1=Xa (zQ t) M0∧∀x∈r.2.1, -2147483648≤x∧x<2147483648)
  (fun r=>znS l n (zF c b j f p ck cx sk sx) r.2.2 (r.1++r.2.1)) (fun r=>n+1-r.2.2) ([],M0,0) ⟨by simp;omega,.inl rfl,rfl,hr⟩ (by simp[go_sem,LeS,leV,leR,leA,leL,zn,znS,Wd,Q9,zF]) (fun r hr'=>?_))
 obtain⟨D,R,i⟩:=r
 obtain⟨q1,q2,q3,q4⟩:=hr'
 simp only at q1 q2 q3 q4
 refine ZW.Zx (D:=[]) mixed (by kernel_rfl) ?_
 simp (maxSteps:=1000000) [go_sem,znS,Wd,Q9,zF]
 refine zA (fun h1=>?_) (fun h1=>?_)
 ·obtain rfl:i=D.length:=by
   rcases q2 with q2|⟨q2,q5⟩
   ·exact q2
   ·rw[q5]at q1;simp at q1;omega
  simp (maxSteps:=1000000) [go_sem]
  refine ZW.seq (ZW.block ?_)
  refine ZW.Zx (D:=[]) mixed (by kernel_rfl) ?_
  simp (maxSteps:=1000000) [go_sem]
  have f4:∀X Y,R=X++Y→(∀x∈X, -2147483648≤x∧x<2147483648):=fun X Y e x hx=>q4 x (by rw[e];simp[hx])
  refine ZW.zqs (D:=[]) mixed (by kernel_rfl) (fun r:List Int×List Int=>R=r.1++r.2∧jq (zQ t) [] R=jq (zQ t) r.1 r.2∧(r.2=[]∨∃s,(∃Y,r.2=s::Y)∧zQ t s=0)) (fun r=>[(4,.p (.int .i64 ((D.length+r.1.length:Nat):Int)))]) (fun _=>[]) ?_ ?_
  ·simp (maxSteps:=1000000) [go_sem]
   refine zj (fun r:List Int×List Int=>R=r.1++r.2∧jq (zQ t) [] R=jq (zQ t) r.1 r.2) (fun r=>[(4,.p (.int .i64 ((D.length+r.1.length:Nat):Int)))]) (fun r=>[]) (fun r=>r.2.length) ([],R) ⟨rfl,rfl⟩ (by simp[go_sem,LeS,leV,leR,leA,leL,zn]) (fun r hr2=>?_)
   obtain⟨X,Y⟩:=r
   obtain⟨p1,p2⟩:=hr2
   simp only at p1 p2
   have lR:R.length=X.length+Y.length:=by rw[p1];simp
   obtain⟨d,hd⟩:∃d,d=D.length:=⟨_,rfl⟩
   obtain⟨k,hk⟩:∃k,k=d+X.length:=⟨_,rfl⟩
   have hkc:(d:Int)+(X.length:Int)=(k:Int):=by omega
   simp only[←hd,←hk]
   cases Y with
   |nil=>
    have hkn:¬k<n:=by simp at lR;omega
    simp (maxSteps:=1000000) [go_sem,hkn]
    exact z6 (X,[]) ⟨p1,p2,.inl rfl⟩ (by simp[go_sem,hk])
   |cons s Y=>
    have hkn:k<n:=by simp at lR;omega
    have hsr: -2147483648≤s∧s<2147483648:=q4 s (by rw[p1];simp)
    have gk:(zx (D++R))[k]?=some (.p (.int .i32 s)):=ZG (by
     rw[p1,List.getElem?_append_right (by omega),List.getElem?_append_right (by omega)]
     have:k-D.length-X.length=0:=by omega
     rw[this];rfl)
    have w1:IntKind.i64.wrap ((k:Int)+1)=((k+1:Nat):Int):=zI (by omega)
    simp (maxSteps:=1000000) [go_sem,hkn,gk]
    refine⟨⟨rfl,by simp[Tryz.f124]⟩,zb [] (Qb h ck cx sk sx hz hsr) (by simp[go_sem,zH]) ⟨by simp[go_sem],by simp[go_sem,zF]⟩ (by simp[go_sem]) ?_⟩
    rintro _ _ ⟨rfl,rfl⟩
    have hkey:zQ t s=t.cls (rn s):=rfl
    by_cases hs:t.cls (rn s)=0
    ·simp (maxSteps:=1000000) [go_sem,hs]
     exact z6 (X,s::Y) ⟨p1,p2,.inr ⟨s,⟨Y,rfl⟩,hkey.trans hs⟩⟩ (by simp[go_sem,hk])
    ·simp (maxSteps:=1000000) [go_sem,hs,w1]
     refine zf (X++[s],Y) ⟨by rw[p1];simp,?_⟩ (by simp[go_sem,LeS,leV,leR,leA,leL,zn];omega) (by simp)
     rw[p2,jq,if_neg (by rw[hkey];exact hs)]
  ·rintro⟨X,Y⟩ ts ⟨p1,p2,p3⟩
   simp only at p1 p2 p3
   have lR:R.length=X.length+Y.length:=by rw[p1];simp
   have eF:jq (zQ t) [] R=Q6 (zQ t) X++Xg (zQ t) Y:=by
    rw[p2]
    rcases p3 with rfl|⟨s,⟨Y',rfl⟩,hs⟩
    ·simp[jq,Xg]
    ·simp[jq,Xg,hs]
   obtain⟨d,hd⟩:∃d,d=D.length:=⟨_,rfl⟩
   obtain⟨k,hk⟩:∃k,k=d+X.length:=⟨_,rfl⟩
   have hkc:(d:Int)+(X.length:Int)=(k:Int):=by omega
   have w1:IntKind.i64.wrap ((k:Int)+1)=((k+1:Nat):Int):=zI (by omega)
   have w2:IntKind.i64.wrap ((k:Int)-d)=(X.length:Int):=QD (by omega) (by omega)
   -- behind the round
   have next:∀M,M=D++(Q6 (zQ t) X++Y)→∃r:List Int×List Int×Nat,(r.1.length+r.2.1.length=n∧(r.2.2=r.1.length∨(r.2.2=r.1.length+1∧r.2.1=[]))∧r.1++jq (zQ t) [] r.2.1=Xa (zQ t) M0∧∀x∈r.2.1, -2147483648≤x∧x<2147483648)∧M=r.1++r.2.1∧r.2.2=k+1:=by
    intro M hM'
    rcases p3 with rfl|⟨s,⟨Y',rfl⟩,hs⟩
    ·refine⟨(D++Q6 (zQ t) X,[],k+1),⟨by simp[xd];simp at lR;omega,.inr ⟨by simp[xd];omega,rfl⟩,?_,by simp⟩,by rw[hM'];simp,rfl⟩
     rw[←q3,eF];simp[jq,Q6,Xg]
    ·refine⟨(D++(Q6 (zQ t) X++[s]),Y',k+1),⟨by simp[xd];simp at lR;omega,.inl (by simp[xd];omega),?_,fun x hx=>q4 x (by rw[p1];simp[hx])⟩,by rw[hM'];simp,rfl⟩
     rw[←q3,eF];simp[Xg]
   simp only[←hd]
   by_cases hX:1<X.length
   ·refine ZW.seq (ZW.zmb (l:=l) (d:=36) 8 rfl rfl rfl (pins:=Q9) (by kernel_rfl) (by kernel_rfl) ?_)
    have hXi:(1:Int)<X.length:=by omega
    simp (maxSteps:=1000000) [go_sem,hkc,w2,hXi,Q9]
    have hY:=hy (D,X,Y) {n:=39,nv:=6,vs:=[(0,.p (.opq (.func (.yield l) #[] #[]))),(1,.lp [12,3] 0),(2,.lp [12,2] 0),(4,.p (.int .i64 k)),(5,.p (.int .i64 d)),(32,.p (.bool true))],ts:=[(35,.gd true (.p (.int .i64 k))),(34,.gd true (.p (.int .i64 d))),(33,.gd true (.p (.opq (.func (.yield l) #[] #[])))),(31,.p (.bool true)),(30,.p (.int .i64 X.length)),(29,.p (.int .i64 d)),(28,.p (.int .i64 k))],rs:=Wd (zF c b j f p ck cx sk sx) n (D++R),pin:=Q9,ex:=[32]} ⟨by simp only;omega,f4 X Y p1⟩ (by rw[p1]) rfl
    simp only[←hd,←hk]at hY
    refine⟨_,hY,?_⟩
    rintro _ rfl
    simp (maxSteps:=1000000) [go_sem,uk,xx,Wd,zF]
    refine ZW.znD (by simp[go_sem]) ?_
    refine ZW.we (D:=[]) mixed (by kernel_rfl) ?_
    simp (maxSteps:=1000000) [go_sem]
    refine ZW.we (D:=[]) mixed (by kernel_rfl) ?_
    simp (maxSteps:=1000000) [go_sem,w1]
    obtain⟨r,h2,h3,h4⟩:=next (D++(Q6 (zQ t) X++Y)) rfl
    refine XW r h2 (by simp[go_sem,LeS,leV,leR,leA,leL,zn,←h3,h4]) (by show n+1-r.2.2<n+1-d;rw[h4];omega)
   ·have hXi:¬(1:Int)<X.length:=by omega
    refine ZW.Zx (D:=[]) mixed (by kernel_rfl) ?_
    simp (maxSteps:=1000000) [go_sem,hkc,w2,hXi]
    refine ZW.znD (by simp[go_sem]) ?_
    refine ZW.we (D:=[]) mixed (by kernel_rfl) ?_
    simp (maxSteps:=1000000) [go_sem]
    refine ZW.we (D:=[]) mixed (by kernel_rfl) ?_
    simp (maxSteps:=1000000) [go_sem,w1]
    obtain⟨r,h2,h3,h4⟩:=next (D++R) (by rw[p1,zdD (by omega)])
    refine XW r h2 (by simp[go_sem,LeS,leV,leR,leA,leL,zn,h3,h4]) (by show n+1-r.2.2<n+1-d;rw[h4];omega)
 ·have hR:R=[]:=by
   rcases q2 with q2|⟨q2,q5⟩
   ·have:R.length=0:=by omega
    exact List.eq_nil_of_length_eq_zero this
   ·exact q5
  subst hR
  simp (maxSteps:=1000000) [go_sem]
  rw[←q3];simp[jq,Q6]
theorem zdz [Gi] {t:zV} {c b j f p:PV}(h:QS t c b j f p)(hz:Qg t)(ck cx sk sx:List PV)(l:List Int)(h0:l≠ [])(hn:l.length<2^31)(hr:∀x∈l, -2147483648≤x∧x<2147483648):
  CR Tryz.prog 174 [] [.p (zF c b j f p ck cx sk sx),.p (zg l)] [] (fun x rs=>x=.la [9,7] 1 0 l.length∧rs=[([9,7],zx (Xa (zQ t) l))]):=by
 have hlp:0<l.length:=List.length_pos_iff.2 h0
 refine zbG 8 [12,13,14] Tryz.func174 rfl rfl (by simp) (by simp) ?_
 refine VH.seq (D:=[]) mixed (by kernel_rfl) ?_
 simp (maxSteps:=1000000) [go_sem,zF,zg]
 refine VH.seq (D:=[]) mixed (by kernel_rfl) ?_
 simp (maxSteps:=1000000) [go_sem]
 refine⟨⟨rfl,by simp[Tryz.f126]⟩,zb [] (Y0 l h0 (by omega)) (by simp[go_sem]) ⟨by simp[go_sem],by simp[go_sem,zg]⟩ (by simp[go_sem]) ?_⟩
 rintro _ _ ⟨rfl,rfl⟩
 simp (maxSteps:=1000000) [go_sem]
 refine⟨rfl,VH.zpE (D:=[]) mixed (by kernel_rfl) ?_⟩
 simp (maxSteps:=1000000) [go_sem]
 refine⟨⟨rfl,by simp[Tryz.f209]⟩,zb [([0],[9,7])] (zk8 c b j f p ck cx sk sx l l.length) (by simp[go_sem,zH]) ⟨by simp[go_sem],by simp[go_sem,zF]⟩ (by simp[go_sem]) ?_⟩
 rintro _ _ ⟨rfl,rfl⟩
 simp (maxSteps:=1000000) [go_sem,zF]
 refine zee.zlV (D:=[]) mixed (gf:=227) (caps:=[.lp [12,3] 0,.lp [12,2] 0]) rfl (by simp[Tryz.f227]) (fn':=Tryz.f227) 6 [32] Tryz.func227 rfl rfl (by simp) (by simp[Tryz.f227])
  [(0,.p (zF c b j f p ck cx sk sx)),(1,.p (zg l)),(2,.lp [2] 0),(5,.lp [5] 0)] Q9 (Wd (zF c b j f p ck cx sk sx) l.length l) (fun rs=>rs=Wd (zF c b j f p ck cx sk sx) l.length (Xa (zQ t) l)) (by simp[xx,Q9]) (by simp) rfl rfl
  (by simp[go_sem,LeS,leV,leR,leA,leL,zn,lst,Wd,zF,zg]) (by simp) (by simp) (by kernel_rfl) (by kernel_rfl)
  (fun r:List Int×List Int×List Int=>znx l.length r) (fun r=>Wd (zF c b j f p ck cx sk sx) l.length (r.1++(r.2.1++r.2.2))) (fun r=>Wd (zF c b j f p ck cx sk sx) l.length (r.1++(Q6 (zQ t) r.2.1++r.2.2))) (fun r=>((r.1.length:Nat),((r.1.length+r.2.1.length:Nat):Int))) ?_ ?_ ?_
 ·rintro⟨A,X,B⟩ ⟨k1,k2⟩
  simp only at k1 k2
  simp (maxSteps:=1000000) [go_sem,lst,Wd,Q9,zF]
  have e1:((A.length:Int)+X.length).toNat-A.length=X.length:=by omega
  have hlen:(A++(X++B)).length=l.length:=by simp;omega
  refine⟨⟨by omega,by omega⟩,⟨rfl,by simp[Tryz.f210]⟩,zb [([0],[9,7]),([1],[2])] (pin:=[[0],[1]]) (zaK h hz ck cx sk sx A X B A.length X.length rfl rfl (by omega) k2) (by simp[go_sem,zH]) ⟨by simp[go_sem],by simp[go_sem,j8,e1]⟩ (by simp[go_sem,zF]) ?_⟩
  rintro _ _ ⟨X',hX',rfl,rfl⟩
  simp (maxSteps:=1000000) [go_sem,zF]
  rw[zkU hX']
  exact .inl (by simp[go_sem,LeS,leV,leR,leA,leL,zn,lst])
 ·intro E y hy
  exact zmx h hz ck cx sk sx l l.length rfl hn hr E y (fun r S1 h1 h2 h3=>hy r S1 h1 h2 h3) _ rfl
 ·rintro rs rfl
  refine zjz.we (D:=[]) (by kernel_rfl) ?_
  simp (maxSteps:=1000000) [go_sem,lst,zoh,Wd,zF]
  exact zi [[9,7]] (.la [9,7] 1 0 l.length) ⟨rfl,by simp⟩ (by simp[go_sem,zd,leA,leT]) ⟨rfl,by simp[go_sem]⟩
end Go.Proofs.YtjefahhmkcfiiaaGreat
end
section
namespace Go.Proofs.YtjefahhmkcfiiaaGreat
open Go.AM
set_option maxHeartbeats 4000000
set_option maxRecDepth 10000
theorem CR.row [Gi] {P:Program} {fn:FuncId} {args:List AV} {t:Tok} {M:List Int}(h0:0<M.length)(h:CR P fn [] args [] (fun x rs=>x=.la t 1 0 M.length∧rs=[(t,zx M)])):CR P fn [] args [] (is (.p (zg M))):=by
 refine CR.freeze h (fun _=>false) rfl ?_
 rintro x rs ⟨rfl,rfl⟩
 refine⟨.p (zg M),fun g w v hG hv=>?_,rfl,rfl⟩
 rw[YN]
 refine Ku (t:=t) (z:=1) (n:=M.length) (es:=zu M) (rt:=fun _=>false) hG [] h0 ?_ rfl (by simp[zu]) (fun e he=>?_) hv
 ·rw[zbD];simp[zO,zjo]
 ·obtain⟨s,_,rfl⟩:=List.mem_map.1 he
  exact⟨rfl,rfl⟩
theorem X0(k:Int→Int)(l:List Int):(Xa k l).length=l.length:=by unfold Xa;rw[KG];simp
theorem zbV [Gi] {t:zV} {c b j f p:PV}(h:QS t c b j f p)(hz:Qg t)(ck cx sk sx:List PV)(l:List Int)(h0:l≠ [])(hn:l.length<2^31)(hr:∀x∈l, -2147483648≤x∧x<2147483648):
  CR Tryz.prog 174 [] [.p (zF c b j f p ck cx sk sx),.p (zg l)] [] (is (.p (zg (Xa (zQ t) l)))):=by
 have hlp:0<l.length:=List.length_pos_iff.2 h0
 refine CR.row (t:=[9,7]) (by rw[X0];exact hlp) ?_
 rw[X0]
 exact zdz h hz ck cx sk sx l h0 hn hr
def zea(tab:PV):List (Tok×List AV):=[([2],[.p tab]),([5],[.p (.sl 1 [])]),([12,2],[.p tab]),([12,3],[.p (.sl 1 [])])]
def YB:List Tok:=[[2],[5],[12,2],[12,3]]
theorem ziL [Gi](c b j f p:PV)(ck cx sk sx:List PV):CR Tryz.prog 209 [] [.p (zF c b j f p ck cx sk sx),.p (.sl 1 [])] []
  (fun x rs=>x=.fn 227 [.lp [3] 0,.lp [2] 0]∧rs=[([2],[.p (zF c b j f p ck cx sk sx)]),([3],[.p (.sl 1 [])])]):=by
 refine zm mixed 6 [] Tryz.func209 rfl (by kernel_rfl) rfl (by simp) (by simp) ?_
 simp (maxSteps:=1000000) [go_sem,Tryz.f209,zF]
 exact zi [[2],[3]] (.fn 227 [.lp [3] 0,.lp [2] 0]) ⟨rfl,by simp⟩ (by simp[go_sem,zd,leA,leT]) ⟨rfl,by simp[go_sem]⟩
theorem zjD [Gi](c b j f p:PV)(ck cx sk sx:List PV):CR Tryz.prog 174 [] [.p (zF c b j f p ck cx sk sx),.p (.opq (.slice none 0 0))] [] (is (.p (zg []))):=by
 refine zbG 8 [12,13,14] Tryz.func174 rfl rfl (by simp) (by simp) ?_
 refine VH.seq (D:=[]) mixed (by kernel_rfl) ?_
 simp (maxSteps:=1000000) [go_sem,zF]
 refine VH.seq (D:=[]) mixed (by kernel_rfl) ?_
 simp (maxSteps:=1000000) [go_sem]
 refine⟨⟨rfl,by simp[Tryz.f126]⟩,zb [] zie (by simp[go_sem]) ⟨by simp[go_sem],by simp[go_sem]⟩ (by simp[go_sem]) ?_⟩
 rintro _ _ ⟨rfl,rfl⟩
 simp (maxSteps:=1000000) [go_sem]
 refine⟨rfl,?_⟩
 refine VH.zpE (D:=[]) mixed (by kernel_rfl) ?_
 simp (maxSteps:=1000000) [go_sem]
 refine⟨⟨rfl,by simp[Tryz.f209]⟩,zb [] (ziL c b j f p ck cx sk sx) (by simp[go_sem]) ⟨by simp[go_sem],by simp[go_sem,zF]⟩ (by simp[go_sem]) ?_⟩
 rintro _ _ ⟨rfl,rfl⟩
 simp (maxSteps:=1000000) [go_sem,zF]
 refine zee.zlV (D:=[]) mixed (gf:=227) (caps:=[.lp [12,3] 0,.lp [12,2] 0]) rfl (by simp[Tryz.f227]) (fn':=Tryz.f227) 6 [32] Tryz.func227 rfl rfl (by simp) (by simp[Tryz.f227])
  [(0,.p (zF c b j f p ck cx sk sx)),(2,.lp [2] 0),(5,.lp [5] 0)] YB (zea (zF c b j f p ck cx sk sx)) (fun rs=>rs=zea (zF c b j f p ck cx sk sx)) (by simp[xx,YB]) (by simp) rfl rfl
  (by simp[go_sem,LeS,leV,leR,leA,leL,lst,zea,zF]) (by simp) (by simp) (by kernel_rfl) (by kernel_rfl)
  (fun _:Unit=>False) (fun _=>[]) (fun _=>[]) (fun _=>(0,0)) (fun _ h=>h.elim) ?_ ?_
 ·intro E y _
  have hnt:Tryz.f227.ntmps=39:=rfl
  refine ZW.we (D:=[]) mixed (by kernel_rfl) ?_
  simp (maxSteps:=1000000) [go_sem,itS,vg,zea,YB,zF]
  refine zj (fun _:Unit=>True) (fun _=>[]) (fun _=>[]) (fun _=>0) () trivial (by simp[go_sem,LeS,leV,leR,leA,leL]) (fun _ _=>?_)
  simp (maxSteps:=1000000) [go_sem]
 ·rintro rs rfl
  refine zjz.we (D:=[]) (by kernel_rfl) ?_
  simp (maxSteps:=1000000) [go_sem,lst,zoh,zea,zF]
  exact zh (.p (.sl 1 [])) rfl (by simp[go_sem,zd,leA,leT]) ⟨rfl,rfl⟩
end Go.Proofs.YtjefahhmkcfiiaaGreat
end
section
namespace Go.Proofs.YtjefahhmkcfiiaaGreat
open Go.AM
set_option maxHeartbeats 4000000
set_option maxRecDepth 10000
def Z6:xP:=⟨false,0,0,0,false⟩
def ku(t:zV):xP→List Int→Nat
 |_,[]=>0
 |s,r::l=>if(qQ t s r).2 then 0 else 1+ku t (qQ t s r).1 l
theorem J5(t:zV):∀(l:List Int) (s:xP),ku t s l≤l.length
 | [],_=>by simp[ku]
 |r::l,s=>by
  unfold ku
  split
  ·omega
  ·have:=J5 t l (qQ t s r).1
   simp only[List.length_cons];omega
def zhm:OT:=.now 0 1 (.now 1 1 (.now 2 1 (.now 3 1 (.now 4 1 (.now 5 1 (.mk [(6,.now 7 1 (.now 8 1 (.now 9 2 (.mk [(10,.mk [(11,.now 12 0 (.mk []))])])))),(10,.mk [(6,.now 7 0 (.now 8 0 (.now 9 2 (.mk [(11,.now 12 0 (.mk []))]))))])]))))))
def zjn(s:xP):List AV:=[.p (.bool s.some),.p (.int .i64 s.last),.p (.int .i64 s.pict),.p (.int .i64 s.conj),.p (.bool s.odd)]
theorem zhA [Gi] {t:zV} {c b j f p:PV}(h:QS t c b j f p)(hz:Qg t)(ck cx sk sx:List PV)(l:List Int)(hn:l.length<2^31)(hr:∀x∈l,zB x)(a:Nat)(x:Int)(l':List Int)(ha:l.drop a=x::l'):
  CR Tryz.prog 125 [] [.p (zF c b j f p ck cx sk sx),.p (zg l),.p (.int .i64 a)] [] (is (.p (.int .i64 ((a+1+ku t (qQ t Z6 x).1 l':Nat):Int)))):=by
 have hal:a<l.length:=by
  have:=congrArg List.length ha
  simp at this;omega
 have hx:l[a]=x:=by
  have:=List.drop_eq_getElem_cons hal
  rw[ha]at this
  injection this with h1 _;exact h1.symm
 have hl':l'=l.drop (a+1):=by
  have:=List.drop_eq_getElem_cons hal
  rw[ha]at this
  injection this
 have hxr:zB x:=hr x (by rw[←hx];exact List.getElem_mem _)
 have em:elemAt (zu l) a=.int .i32 x:=by rw[zu,zr (fun r=>PV.int .i32 r) l a hal,hx]
 obtain⟨N,hN⟩:∃N,N=a+1+ku t (qQ t Z6 x).1 l':=⟨_,rfl⟩
 rw[←hN]
 refine zS [200007] mixed 11 [] Tryz.func125 rfl (by kernel_rfl) rfl (by simp) (by simp) ?_
 have w1:IntKind.i64.wrap ((a:Int)+1)=((a+1:Nat):Int):=zI (by omega)
 have g1:¬(a:Int)<0:=by omega
 have g2:¬((l.length:Int)≤a):=by omega
 have g3:(a:Int)<l.length:=by omega
 simp (maxSteps:=1000000) [go_sem,Tryz.f125,zg,zp,zF,g1,g2,g3,em]
 refine⟨⟨rfl,by simp[Tryz.f171]⟩,zb [] (Yb h hz ck cx sk sx Z6 x hxr) (by simp[go_sem]) ⟨by simp[go_sem],by simp[go_sem,kx,Z6,zF]⟩ (by simp[go_sem]) ?_⟩
 rintro _ rs ⟨rfl,rfl⟩
 have hso:∀s r,(qQ t s r).1.some=true:=fun _ _=>rfl
 obtain⟨s0,hs0⟩:∃s0,(qQ t Z6 x).1=s0:=⟨_,rfl⟩
 rw[hs0]at hN⊢
 generalize (qQ t Z6 x).2=cut0
 simp (maxSteps:=1000000) [go_sem,kx,w1]
 refine zj (fun r:Nat×xP=>N=r.1+ku t r.2 (l.drop r.1)∧r.1≤l.length) (fun r=>[(2,.p (.int .i64 (r.1:Nat))),(9,.zW),(10,.zW)]) (fun r=>[([7],zjn r.2)]) (fun r=>l.length-r.1) (a+1,s0) ⟨by rw[hN,hl'],by simp only;omega⟩ (by simp[go_sem,LeS,leV,leR,leA,leL,zjn]) (fun r hr2=>?_)
 obtain⟨i,s⟩:=r
 obtain⟨p1,p2⟩:=hr2
 simp only at p1 p2
 by_cases hil:i<l.length
 ·obtain⟨y,hy⟩:∃y,l[i]=y:=⟨_,rfl⟩
  have hyr:zB y:=hr y (by rw[←hy];exact List.getElem_mem _)
  have em2:elemAt (zu l) i=.int .i32 y:=by rw[zu,zr (fun r=>PV.int .i32 r) l i hil,hy]
  have hdr:l.drop i=y::l.drop (i+1):=by rw[←hy];exact List.drop_eq_getElem_cons hil
  have g4:(i:Int)<l.length:=by omega
  have w2:IntKind.i64.wrap ((i:Int)+1)=((i+1:Nat):Int):=zI (by omega)
  have hend:(qQ t s y).2=true→N=i:=fun e=>by rw[p1,hdr,ku,if_pos e];rfl
  have hgo:(qQ t s y).2=false→N=(i+1)+ku t (qQ t s y).1 (l.drop (i+1)):=fun e=>by rw[p1,hdr,ku,if_neg (by rw[e];simp)];omega
  simp (maxSteps:=1000000) [go_sem,zp,g4,zjn]
  refine Zq zhm (by kernel_rfl) ?_
  simp (maxSteps:=1000000) [go_sem,zhm,zp,g4,em2]
  refine⟨⟨⟨rfl,by simp[Tryz.f171]⟩,zb [] (Yb h hz ck cx sk sx s y hyr) (by simp[go_sem]) ⟨by simp[go_sem],by simp[go_sem,kx,zF]⟩ (by simp[go_sem]) ?_⟩,⟨⟨rfl,by simp[Tryz.f171]⟩,zb [] (Yb h hz ck cx sk sx s y hyr) (by simp[go_sem]) ⟨by simp[go_sem],by simp[go_sem,kx,zF]⟩ (by simp[go_sem]) ?_⟩⟩
  ·rintro _ rs ⟨rfl,rfl⟩
   generalize qQ t s y=q at hend hgo
   obtain⟨s2,ct⟩:=q
   cases ct with
   |true=>
    have e:=hend rfl
    rw[e]
    simp (maxSteps:=1000000) [go_sem,kx]
    exact zh (.p (.int .i64 (i:Nat))) rfl (by simp[go_sem,zd,leA,leT]) ⟨rfl,rfl⟩
   |false=>
    have e:=hgo rfl
    simp (maxSteps:=1000000) [go_sem,kx,w2]
    exact zf (i+1,s2) ⟨e,by show i+1≤l.length;omega⟩ (by simp[go_sem,LeS,leV,leR,leA,leL]) (by show l.length- (i+1)<l.length-i;omega)
  ·rintro _ rs ⟨rfl,rfl⟩
   generalize qQ t s y=q at hend hgo
   obtain⟨s2,ct⟩:=q
   cases ct with
   |true=>
    have e:=hend rfl
    rw[e]
    simp (maxSteps:=1000000) [go_sem,kx]
    exact zh (.p (.int .i64 (i:Nat))) rfl (by simp[go_sem,zd,leA,leT]) ⟨rfl,rfl⟩
   |false=>
    have e:=hgo rfl
    simp (maxSteps:=1000000) [go_sem,kx,w2]
    exact zf (i+1,s2) ⟨e,by show i+1≤l.length;omega⟩ (by simp[go_sem,LeS,leV,leR,leA,leL]) (by show l.length- (i+1)<l.length-i;omega)
 ·have g4:¬(i:Int)<l.length:=by omega
  have e:N=i:=by rw[p1,List.drop_eq_nil_of_le (by omega)];rfl
  rw[e]
  simp (maxSteps:=1000000) [go_sem,zp,g4]
  exact zh (.p (.int .i64 (i:Nat))) rfl (by simp[go_sem,zd,leA,leT]) ⟨rfl,rfl⟩
def xL(t:zV):Nat→List Int→List (List Int)
 |0,_=>[]
 |_,[]=>[]
 |n+1,r::l=>(r::l.take (ku t (qQ t Z6 r).1 l))::xL t n (l.drop (ku t (qQ t Z6 r).1 l))
def Zs(t:zV)(l:List Int):List (List Int):=xL t l.length l
theorem JM(t:zV):∀(n m:Nat) (l:List Int),l.length≤n→l.length≤m→xL t n l=xL t m l
 |0,m,l,h1,h2=>by
  obtain rfl:l=[]:=List.eq_nil_of_length_eq_zero (by omega)
  cases m<;>rfl
 |n+1,0,l,h1,h2=>by
  obtain rfl:l=[]:=List.eq_nil_of_length_eq_zero (by omega)
  rfl
 |n+1,m+1,[],h1,h2=>rfl
 |n+1,m+1,r::l,h1,h2=>by
  simp only[List.length_cons]at h1 h2
  simp only[xL]
  rw[JM t n m _ (by rw[List.length_drop];omega) (by rw[List.length_drop];omega)]
theorem ya(t:zV)(r:Int)(l:List Int):Zs t (r::l)=(r::l.take (ku t (qQ t Z6 r).1 l))::Zs t (l.drop (ku t (qQ t Z6 r).1 l)):=by
 unfold Zs
 simp only[List.length_cons,xL]
 rw[JM t l.length _ _ (by rw[List.length_drop];omega) (Nat.le_refl _)]
end Go.Proofs.YtjefahhmkcfiiaaGreat
end
section
namespace Go.Proofs.YtjefahhmkcfiiaaGreat
open Go.AM
set_option maxHeartbeats 4000000
set_option maxRecDepth 10000
def QC(t:zV)(l:List Int):List Int:=l.flatMap (qX t 8)
def J3(t:zV)(l:List Int):List Int:=Xa (zQ t) (QC t l)
theorem X5(t:zV)(l:List Int):(QC t l).length≤768*l.length:=by
 induction l with
 |nil=>simp[QC]
 |cons x l ih=>
  have:=wF t 8 x
  simp only[QC,List.flatMap_cons,List.length_append,List.length_cons]at*
  omega
theorem Xh(t:zV):∀d r,qX t d r≠ []
 |0,r=>by unfold qX;split<;>simp[z5];split<;>simp
 |d+1,r=>by
  unfold qX
  split
  ·unfold z5;split<;>simp
  ·split
   ·simp
   ·have:=Xh t d (t.par (rn r)).a
    simp[this]
theorem vQ {t:zV}(hP:Vb t):∀d r,zB r→∀x∈qX t d r,zB x
 |0,r,hr,x,hx=>by
  unfold qX at hx
  split at hx
  ·rename_i hs
   have hs':44032≤r∧r<55204:=by simpa[Zm]using hs
   unfold z5 at hx
   unfold zB
   split at hx<;>simp at hx<;>omega
  ·rw[List.mem_singleton.1 hx];exact hr
 |d+1,r,hr,x,hx=>by
  unfold qX at hx
  split at hx
  ·rename_i hs
   have hs':44032≤r∧r<55204:=by simpa[Zm]using hs
   unfold z5 at hx
   unfold zB
   split at hx<;>simp at hx<;>omega
  ·have hp:=hP (rn r)
   split at hx
   ·rw[List.mem_singleton.1 hx];exact hr
   ·rcases List.mem_append.1 hx with hx|hx
    ·exact vQ hP d _ ⟨by omega,by omega⟩ x hx
    ·split at hx
     ·simp at hx
     ·exact vQ hP d _ ⟨by omega,by omega⟩ x hx
theorem JO {t:zV}(hP:Vb t) {l:List Int}(hl:∀x∈l,zB x):∀x∈QC t l,zB x:=fun x hx=>by
 obtain⟨r,hr,hx⟩:=List.mem_flatMap.1 hx
 exact vQ hP 8 r (hl r hr) x hx
def zdt(tab:PV)(e:List Int×Bool×Bool):List (Tok×List AV):=match e with
 |(_,_,false)=>[([5],[.p tab,.p (.opq (.slice none 0 0))])]
 |(es,true,true)=>[([5],Zd tab [901] es)]
 |(es,false,true)=>[([5],Zd tab [902] es)]
theorem zn9 [Gi] {t:zV} {c b j f p:PV}(h:QS t c b j f p)(hz:Qg t)(hP:Vb t)(ck cx sk sx:List PV)(l:List Int)(hn:l.length<2^20)(hr:∀x∈l,zB x):
  CR Tryz.prog 128 [] [.p (zF c b j f p ck cx sk sx),.p (zg l)] [] (is (.p (zg (J3 t l)))):=by
 refine qW [] mixed 8 [10,11,12] Tryz.func128 rfl (by kernel_rfl) [2] rfl (by simp) (by simp) ?_
 simp (maxSteps:=1000000) [go_sem,Tryz.f128,zg,zp,zF]
 refine⟨⟨rfl,rfl⟩,?_⟩
 have hrn:∀x∈l,zB x:=hr
 refine zj (fun r:Nat×Bool=>r.1≤l.length) (fun r=>[(12,.p (.int .i64 (r.1:Nat))),(7,.zW)]) (fun r=>zdt (zF c b j f p ck cx sk sx) (QC t (l.take r.1),r.2,decide (r.1≠0))) (fun r=>l.length-r.1) (0,true) (by simp) (by simp[go_sem,LeS,leV,leR,leA,leL,zdt,zF]) (fun r hi=>?_)
 obtain⟨i,bt⟩:=r
 simp only at hi
 have hal:=X5 t (l.take i)
 have hal2:(QC t (l.take i)).length≤768*l.length:=by rw[List.length_take]at hal;omega
 by_cases hil:i<l.length
 ·obtain⟨x,hx⟩:∃x,l[i]=x:=⟨_,rfl⟩
  have hxr:zB x:=hr x (by rw[←hx];exact List.getElem_mem _)
  have em:elemAt (zu l) i=.int .i32 x:=by rw[zu,zr (fun r=>PV.int .i32 r) l i hil,hx]
  have hnx:QC t (l.take (i+1))=QC t (l.take i)++qX t 8 x:=by
   rw[List.take_add_one,List.getElem?_eq_getElem hil,hx];simp[QC]
  have w1:IntKind.i64.wrap ((i:Int)+1)=((i+1:Nat):Int):=zI (by omega)
  have hil':(i:Int)<l.length:=by omega
  have w0:IntKind.i64.wrap 1=1:=wrap64 (by omega) (by omega)
  rcases Nat.eq_zero_or_pos i with rfl|hi0
  ·have e0:QC t (l.take 0)=[]:=by simp[QC]
   rw[e0,List.nil_append]at hnx
   simp (maxSteps:=1000000) [go_sem,zdt,zF,hil,em,zp]
   refine⟨⟨rfl,by simp[Tryz.f173]⟩,zb [([0],[5]),([901],[901]),([0,1],[902])] (take_nil h hz hP ck cx sk sx 8 (by omega) x hxr) (by simp[go_sem,zH]) ⟨by simp[go_sem],by simp[go_sem]⟩ (by simp[go_sem,zF]) ?_⟩
   rintro _ _ ⟨rfl,tk,htk,rfl⟩
   rcases htk with rfl|rfl
   ·simp (maxSteps:=1000000) [go_sem,Zd,zF]
    exact zf (1,false) (by show 1≤l.length;omega) (by simp[go_sem,LeS,leV,leR,leA,leL,←hnx,w0]) (by show l.length-1<l.length-0;omega)
   ·simp (maxSteps:=1000000) [go_sem,Zd,zF]
    exact zf (1,true) (by show 1≤l.length;omega) (by simp[go_sem,LeS,leV,leR,leA,leL,←hnx,w0]) (by show l.length-1<l.length-0;omega)
  ·have hi1:¬i=0:=by omega
   cases bt with
   |true=>
    simp (maxSteps:=1000000) [go_sem,zdt,zF,Zd,hil',em,zp,hi1]
    refine⟨⟨rfl,by simp[Tryz.f173]⟩,zb [([0],[5]),([901],[901]),([0,1],[902])] (Yk h hz hP ck cx sk sx 8 (by omega) (QC t (l.take i)) x hxr (by omega)) (by simp[go_sem,zH]) ⟨by simp[go_sem],by simp[go_sem]⟩ (by simp[go_sem,zF]) ?_⟩
    rintro _ _ ⟨rfl,tk,htk,rfl⟩
    rcases htk with rfl|rfl
    ·simp (maxSteps:=1000000) [go_sem,Zd,zF,w1]
     exact zf (i+1,false) (by show i+1≤l.length;omega) (by simp[go_sem,LeS,leV,leR,leA,leL,hnx]) (by show l.length- (i+1)<l.length-i;omega)
    ·simp (maxSteps:=1000000) [go_sem,Zd,zF,w1]
     exact zf (i+1,true) (by show i+1≤l.length;omega) (by simp[go_sem,LeS,leV,leR,leA,leL,hnx]) (by show l.length- (i+1)<l.length-i;omega)
   |false=>
    simp (maxSteps:=1000000) [go_sem,zdt,zF,Zd,hil',em,zp,hi1]
    refine⟨⟨rfl,by simp[Tryz.f173]⟩,zb [([0],[5]),([901],[902]),([0,1],[901])] (Yk h hz hP ck cx sk sx 8 (by omega) (QC t (l.take i)) x hxr (by omega)) (by simp[go_sem,zH]) ⟨by simp[go_sem],by simp[go_sem]⟩ (by simp[go_sem,zF]) ?_⟩
    rintro _ _ ⟨rfl,tk,htk,rfl⟩
    rcases htk with rfl|rfl
    ·simp (maxSteps:=1000000) [go_sem,Zd,zF,w1]
     exact zf (i+1,true) (by show i+1≤l.length;omega) (by simp[go_sem,LeS,leV,leR,leA,leL,hnx]) (by show l.length- (i+1)<l.length-i;omega)
    ·simp (maxSteps:=1000000) [go_sem,Zd,zF,w1]
     exact zf (i+1,false) (by show i+1≤l.length;omega) (by simp[go_sem,LeS,leV,leR,leA,leL,hnx]) (by show l.length- (i+1)<l.length-i;omega)
 ·have hil':¬(i:Int)<l.length:=by omega
  obtain rfl:i=l.length:=by omega
  rw[List.take_length]at hal2⊢
  by_cases hl0:l=[]
  ·subst hl0
   simp (maxSteps:=1000000) [go_sem,zdt,zF]
   refine⟨⟨rfl,by simp[Tryz.f174]⟩,zb [] (zjD c b j f p ck cx sk sx) (by simp[go_sem]) ⟨by simp[go_sem],by simp[go_sem,zF]⟩ (by simp[go_sem]) ?_⟩
   rintro _ _ ⟨rfl,rfl⟩
   simp (maxSteps:=1000000) [go_sem,zg]
   exact zh (.p (.sl 1 [])) rfl (by simp[go_sem,zd,leA,leT,zu]) ⟨rfl,rfl⟩
  ·have hi1:¬l.length=0:=by simpa using hl0
   have hne:QC t l≠ []:=by
    cases l with
    |nil=>exact absurd rfl hl0
    |cons x l=>simp[QC,Xh]
   have hru:=JO hP hr
   cases bt with
   |true=>
    simp (maxSteps:=1000000) [go_sem,zdt,zF,Zd,hil',hi1]
    refine⟨⟨rfl,by simp[Tryz.f174]⟩,zb [] (zbV h hz ck cx sk sx (QC t l) hne (by omega) hru) (by simp[go_sem]) ⟨by simp[go_sem],by simp[go_sem,zF,zg]⟩ (by simp[go_sem]) ?_⟩
    rintro _ _ ⟨rfl,rfl⟩
    simp (maxSteps:=1000000) [go_sem,zg]
    exact zh (.p (zg (J3 t l))) rfl (by simp[go_sem,zd,leA,leT,zg,J3]) ⟨rfl,rfl⟩
   |false=>
    simp (maxSteps:=1000000) [go_sem,zdt,zF,Zd,hil',hi1]
    refine⟨⟨rfl,by simp[Tryz.f174]⟩,zb [] (zbV h hz ck cx sk sx (QC t l) hne (by omega) hru) (by simp[go_sem]) ⟨by simp[go_sem],by simp[go_sem,zF,zg]⟩ (by simp[go_sem]) ?_⟩
    rintro _ _ ⟨rfl,rfl⟩
    simp (maxSteps:=1000000) [go_sem,zg]
    exact zh (.p (zg (J3 t l))) rfl (by simp[go_sem,zd,leA,leT,zg,J3]) ⟨rfl,rfl⟩
end Go.Proofs.YtjefahhmkcfiiaaGreat
end
section
namespace Go.Proofs.YtjefahhmkcfiiaaGreat
open Go.AM
set_option maxHeartbeats 4000000
set_option maxRecDepth 10000
def mkB(m:List (Zh×Int))(q:Zh):Option Int:=(m.find? fun x=>x.1==q).map (·.2)
theorem ckP_mk(q:Zh):∀(m:List (Zh×Int)) (i:Nat),(qR (qu q) (ckP m) (cxP m) i=none∧mkB m q=none)∨∃j r,qR (qu q) (ckP m) (cxP m) i=some (j,.int .i32 r)∧mkB m q=some r
 | [],i=>.inl ⟨rfl,rfl⟩
 |x::m,i=>by
  have e:qR (qu q) (ckP (x::m)) (cxP (x::m)) i=if eqC (qu q) (qu x.1)=true then some (i,.int .i32 x.2)else qR (qu q) (ckP m) (cxP m) (i+1):=by
   rw[ckP,cxP,List.map_cons,List.map_cons,qR];rfl
  rw[e]
  by_cases h:x.1=q
  ·subst h
   rw[if_pos (YT _)]
   exact .inr ⟨i,x.2,rfl,by simp[mkB]⟩
  ·have hne:¬eqC (qu q) (qu x.1)=true:=fun hc=>h (zbi (VM (kc:=[.i .i32,.i .i32]) rfl rfl hc)).symm
   rw[if_neg hne]
   have hm:mkB (x::m) q=mkB m q:=by simp[mkB,h]
   rw[hm]
   exact ckP_mk q m (i+1)
def YE(x:Option Int):AV:=match x with|some r=>.tup [.p (.int .i32 r),.p (.bool true)]|none=>.tup [.p (.int .i32 0),.p (.bool false)]
theorem zgD [Gi](c b j f p:PV)(m:List (Zh×Int))(sk sx:List PV)(x y:Int):
  CR Tryz.prog 207 [] [.p (zF c b j f p (ckP m) (cxP m) sk sx),.p (.int .i32 x),.p (.int .i32 y)] [] (is (YE (if y=0 then none else mkB m ⟨x,y⟩))):=by
 refine zm mixed 10 [] Tryz.func207 rfl (by kernel_rfl) rfl (by simp) (by simp) ?_
 by_cases hy:y=0
 ·subst hy
  simp (maxSteps:=1000000) [go_sem,Tryz.f207,zF]
  exact zh (.tup [.p (.int .i32 0),.p (.bool false)]) rfl (by simp[go_sem,zd,leA,leT,leP]) ⟨rfl,rfl⟩
 ·rw[if_neg hy]
  have hk:=ckP_key m
  rcases ckP_mk ⟨x,y⟩ m 0 with ⟨h1,h2⟩|⟨k,r,h1,h2⟩
  ·rw[h2]
   simp only[qu]at h1
   simp (maxSteps:=1000000) [go_sem,Tryz.f207,zF,hy,Zw,mapOf,jf,h1]
   exact⟨hk,zh (.tup [.p (.int .i32 0),.p (.bool false)]) rfl (by simp[go_sem,zd,leA,leT,leP]) ⟨rfl,rfl⟩⟩
  ·rw[h2]
   simp only[qu]at h1
   simp (maxSteps:=1000000) [go_sem,Tryz.f207,zF,hy,Zw,mapOf,jf,h1]
   exact⟨hk,zh (.tup [.p (.int .i32 r),.p (.bool true)]) rfl (by simp[go_sem,zd,leA,leT,leP]) ⟨rfl,rfl⟩⟩
theorem zjA(c:Int)(K:List Int):(qR [.int .i32 c] (Zl K) (qi K) 0=none∧c ∉ K)∨∃j,qR [.int .i32 c] (Zl K) (qi K) 0=some (j,.bool true)∧c∈K:=by
 rcases X4 c K with ⟨h1,h2⟩|⟨j,h1,h2,_⟩
 ·refine .inl ⟨h1,fun h=>?_⟩
  unfold yy at h2
  rw[if_pos h]at h2
  have:=congrArg List.length h2
  simp at this
 ·refine .inr ⟨j,h1,?_⟩
  have:=(Uq c c K).2 (.inl rfl)
  rw[h2]at this
  exact this
theorem zjU [Gi](c b j f p:PV)(ck cx:List PV)(K:List Int)(y:Int):
  CR Tryz.prog 230 [] [.p (zF c b j f p ck cx (Zl K) (qi K)),.p (.int .i32 y)] [] (is (.p (.bool (decide (y∈K))))):=by
 refine zm mixed 5 [] Tryz.func230 rfl (by kernel_rfl) rfl (by simp) (by simp) ?_
 have hk:=KF K
 rcases zjA y K with ⟨h1,h2⟩|⟨k,h1,h2⟩
 ·simp (maxSteps:=1000000) [go_sem,Tryz.f230,zF,Zw,mapOf,jf,h1,h2]
  exact⟨hk,zh (.p (.bool false)) rfl (by simp[go_sem,zd,leA,leT]) ⟨rfl,rfl⟩⟩
 ·simp (maxSteps:=1000000) [go_sem,Tryz.f230,zF,Zw,mapOf,jf,h1,h2]
  exact⟨hk,zh (.p (.bool true)) rfl (by simp[go_sem,zd,leA,leT]) ⟨rfl,rfl⟩⟩
end Go.Proofs.YtjefahhmkcfiiaaGreat
end
