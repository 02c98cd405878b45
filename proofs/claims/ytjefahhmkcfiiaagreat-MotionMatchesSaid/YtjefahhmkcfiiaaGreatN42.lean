/- A part of the proof of this seat's statements, by an abstract machine: what each operation does to values, and what the law's functions compute. Conditions: as each law says. -/
import Derived.Test.YtjefahhmkcfiiaaGreatN41
import Derived.Test.YtjefahhmkcfiiaaGreatN19
import Derived.OpenVars
section
namespace Go.Proofs.YtjefahhmkcfiiaaGreat
open Go.AM
set_option maxHeartbeats 1000000
set_option maxRecDepth 10000
attribute [local irreducible] za
def pcD(x:Int):Bool:=decide (aL za 5 x=1)
structure Us(s:xr)(p:Int)(pre:List Int):Prop where
 so:s.some=true
 la:s.last=zJ za p
 p2:s.pict=2↔(zJ za p=5∧kA za pre=true)
 p1:s.pict=1↔kA za (p::pre)=true
 od:s.odd=decide (Qu za (p::pre)%2=1)
 c2:s.conj=2↔Qk za false (p::pre)=true
 c0:s.conj≠0↔Qk za true (p::pre)=true
theorem Us.next {s:xr} {p:Int} {pre:List Int}(h:Us s p pre)(x:Int):Us (Zk s (zJ za x) (pcD x) (ZC za x)) x (p::pre):=by
 obtain⟨h1,h2,h3,h4,h5,h6,h7⟩:=h
 have q1:= @f1 x
 have q4:=f4 x
 have b7:Qk za true (p::pre)=decide (s.conj≠0):=by rw[Bool.eq_iff_iff,decide_eq_true_eq,h7]
 have b6:Qk za false (p::pre)=decide (s.conj=2):=by rw[Bool.eq_iff_iff,decide_eq_true_eq,h6]
 refine⟨rfl,rfl,?_,?_,?_,?_,?_⟩
 ·simp only[Zk,pcD]
  by_cases a:aL za 5 x=1
  ·have:=q1 a
   simp[a,this.2.2.2]
  ·simp only[a,decide_false,Bool.false_eq_true,if_false]
   rw[←h4]
   by_cases b:s.pict=1
   ·by_cases e4:zJ za x=4
    ·simp[b,e4]
    ·by_cases e5:zJ za x=5<;>simp[b,e5,e4]
   ·simp[b]
 ·simp only[Zk,pcD]
  rw[kA]
  by_cases a:aL za 5 x=1
  ·simp[a]
  ·simp only[a,decide_false,Bool.false_eq_true,if_false]
   by_cases e4:zJ za x=4
   ·rw[if_pos e4,←h4]
    by_cases b:s.pict=1<;>simp[b,e4]
   ·rw[if_neg e4]
    by_cases b:s.pict=1∧zJ za x=5
    ·simp[b.1,b.2]
    ·simp[e4,b]
 ·simp only[Zk]
  rw[Qu,h5]
  by_cases e6:zJ za x=6
  ·rw[if_pos e6]
   simp only[e6,decide_true,Bool.true_and]
   rw[←decide_not,decide_eq_decide]
   omega
  ·rw[if_neg e6];simp[e6]
 ·simp only[Zk]
  rw[Qk]
  rcases q4 with c|c|c|c<;>by_cases z:s.conj=0<;>simp[c,b6,b7,z]
 ·simp only[Zk]
  rw[Qk]
  rcases q4 with c|c|c|c<;>by_cases z:s.conj=0<;>simp[c,b7,z]
theorem Us.cut {s:xr} {p:Int} {pre:List Int}(h:Us s p pre)(x:Int):yh s (zJ za x) (pcD x) (ZC za x)=yV za p pre x:=by
 obtain⟨h1,h2,h3,h4,h5,h6,h7⟩:=h
 obtain⟨P,hP⟩:∃P,P=(decide (s.pict=2)&&pcD x):=⟨_,rfl⟩
 obtain⟨C,hC⟩:∃C,C=(decide (s.conj=2)&&decide (ZC za x=2)):=⟨_,rfl⟩
 obtain⟨O,hO⟩:∃O,O=(s.odd&&decide (zJ za x=6)):=⟨_,rfl⟩
 have eP:Wh za p pre x=P:=by
  rw[hP];unfold Wh pcD
  by_cases a:aL za 5 x=1
  ·by_cases b:zJ za p=5
   ·rw[if_pos a,if_pos b]
    have:decide (s.pict=2)=kA za pre:=by
     rw[Bool.eq_iff_iff,decide_eq_true_eq,h3];simp[b]
    rw[this];simp[a]
   ·rw[if_pos a,if_neg b]
    have:¬s.pict=2:=fun q=>b (h3.1 q).1
    simp[this]
  ·rw[if_neg a];simp[a]
 have eC:u9 za (p::pre) x=C:=by
  rw[hC];unfold u9
  by_cases a:ZC za x=2
  ·rw[if_pos a]
   have:decide (s.conj=2)=Qk za false (p::pre):=by
    rw[Bool.eq_iff_iff,decide_eq_true_eq,h6]
   rw[this];simp[a]
  ·rw[if_neg a];simp[a]
 have eO:vt za (p::pre) x=O:=by
  rw[hO];unfold vt
  by_cases a:zJ za x=6
  ·rw[if_pos a,h5];simp[a]
  ·rw[if_neg a];simp[a]
 unfold yV yh
 rw[eP,eC,eO,←hP,←hC,←hO,h2]
 have kP:P=true→¬(zJ za p=1∨zJ za p=2∨zJ za p=3)∧¬(zJ za x=1∨zJ za x=2∨zJ za x=3):=by
  intro q
  rw[hP]at q
  simp only[pcD,Bool.and_eq_true,decide_eq_true_eq]at q
  have a:=f1 q.2
  have b:=(h3.1 q.1).1
  omega
 have kC:C=true→¬(zJ za p=1∨zJ za p=2∨zJ za p=3)∧¬(zJ za x=1∨zJ za x=2∨zJ za x=3):=by
  intro q
  rw[hC]at q
  simp only[Bool.and_eq_true,decide_eq_true_eq]at q
  have a:=f2 (x:=x) (by omega)
  have b:=h6.1 q.1
  have c:=f2 (x:=p) (fun z=>by
   rw[Qk,if_neg (by omega),if_pos z]at b
   exact absurd b (by decide))
  omega
 have kO:O=true→¬(zJ za p=1∨zJ za p=2∨zJ za p=3)∧¬(zJ za x=1∨zJ za x=2∨zJ za x=3):=by
  intro q
  rw[hO,h5]at q
  simp only[Bool.and_eq_true,decide_eq_true_eq]at q
  have b:zJ za p=6:=by
   by_cases z:zJ za p=6
   ·exact z
   ·have:=q.1
    rw[Qu,if_neg z]at this
    omega
  omega
 clear hP hC hO eP eC eO h1 h2 h3 h4 h5 h6 h7
 generalize zJ za p=a at*
 generalize zJ za x=b at*
 by_cases hh:(a=1∨a=2∨a=3)∨(b=1∨b=2∨b=3)
 ·have P0:P=false:=by cases P with|false=>rfl|true=>have:=kP rfl;exact absurd hh (by omega)
  have C0:C=false:=by cases C with|false=>rfl|true=>have:=kC rfl;exact absurd hh (by omega)
  have O0:O=false:=by cases O with|false=>rfl|true=>have:=kO rfl;exact absurd hh (by omega)
  subst P0;subst C0;subst O0
  simp only[Bool.not_false,Bool.and_true]
  have hard:(QQ a || QQ b)=true:=by
   simp only[QQ,Bool.or_eq_true,decide_eq_true_eq];omega
  rw[hard]
  unfold zN
  by_cases a1:a=1
  ·by_cases b2:b=2<;>simp[a1,b2]
  ·by_cases a2:a=2∨a=3
   ·rw[if_neg a1,if_pos a2,if_neg (fun q=>a1 q.1)];rfl
   ·have b3:b=1∨b=2∨b=3:=by omega
    rw[if_neg a1,if_neg a2,if_pos b3,if_neg (fun q=>a1 q.1)];rfl
 ·have hard:(QQ a || QQ b)=false:=by
   simp only[QQ,Bool.or_eq_false_iff,decide_eq_false_iff_not];omega
  have e1:zN a b=(if b=4∨b=5∨b=8 then true else if a=7 then true else Qr a b):=by
   unfold zN Qr
   rw[if_neg (show ¬a=1 by omega),if_neg (show ¬(a=2∨a=3) by omega),if_neg (show ¬(b=1∨b=2∨b=3) by omega)]
   simp only[Bool.or_assoc]
  rw[e1,hard,if_neg (show ¬(a=1∧b=2) by omega)]
  clear e1 kP kC kO
  generalize Qr a b=H
  by_cases b1:b=4∨b=5∨b=8
  ·rw[if_pos b1,if_pos (show b=4∨b=5∨b=8∨a=7 by omega)]
   cases H<;>rfl
  ·rw[if_neg b1]
   by_cases a7:a=7
   ·rw[if_pos a7,if_pos (show b=4∨b=5∨b=8∨a=7 by omega)]
    cases H<;>rfl
   ·rw[if_neg a7,if_neg (show ¬(b=4∨b=5∨b=8∨a=7) by omega)]
    cases H<;>cases C<;>cases P<;>cases O<;>rfl
def Beg(pre:List Int)(x:Int):Prop:=pre=[]∨∃p pre',pre=p::pre'∧yV za p pre' x=true
theorem Us.start {pre:List Int} {x:Int}(h:Beg pre x):Us (Zk QV (zJ za x) (pcD x) (ZC za x)) x pre:=by
 have q1:= @f1 x
 have q3:= @f3 x
 have q4:=f4 x
 have kp:zJ za x=4∨zJ za x=5→kA za pre=false∧∀sn,Qk za sn pre=false:=by
  intro hb
  rcases h with rfl|⟨p,pre',rfl,hg⟩
  ·exact⟨rfl,fun _=>rfl⟩
  ·have hp:zJ za p=1∨zJ za p=2∨zJ za p=3:=by
    unfold yV at hg
    rw[if_neg (by omega)]at hg
    by_cases z:(QQ (zJ za p) || QQ (zJ za x))=true
    ·simp only[QQ,Bool.or_eq_true,decide_eq_true_eq]at z;omega
    ·rw[if_neg z]at hg
     split at hg
     ·exact absurd hg (by decide)
     ·rw[if_pos (by omega)]at hg
      exact absurd hg (by decide)
   constructor
   ·have a:¬aL za 5 p=1:=fun q=>by have:=f1 q;omega
    rw[kA,if_neg a,if_neg (by omega)]
   ·intro sn
    have c:ZC za p=0:=by
     by_cases c:ZC za p=0
     ·exact c
     ·have:=f2 c;omega
    rw[Qk,if_neg (by omega),if_pos c]
 have kf:zJ za x=6→Qu za pre%2=0:=by
  intro hb
  rcases h with rfl|⟨p,pre',rfl,hg⟩
  ·rfl
  ·by_cases hp:zJ za p=6
   ·unfold yV at hg
    rw[if_neg (by omega),if_neg (by rw[hp,hb];decide),if_neg (by rw[hp,hb];decide),if_neg (by omega)]at hg
    split at hg
    ·exact absurd hg (by decide)
    ·split at hg
     ·exact absurd hg (by decide)
     ·unfold vt at hg
      rw[if_pos hb]at hg
      simp only[Bool.not_eq_true',decide_eq_false_iff_not]at hg
      omega
   ·rw[Qu,if_neg hp]
 refine⟨rfl,rfl,?_,?_,?_,?_,?_⟩
 ·have e:(Zk QV (zJ za x) (pcD x) (ZC za x)).pict=if pcD x then 1 else 0:=by simp[Zk,QV]
  rw[e]
  constructor
  ·intro z;split at z<;>omega
  ·rintro⟨z1,z2⟩
   rw[(kp (.inr z1)).1]at z2
   exact absurd z2 (by decide)
 ·have e:(Zk QV (zJ za x) (pcD x) (ZC za x)).pict=if pcD x then 1 else 0:=by simp[Zk,QV]
  rw[e,kA]
  by_cases a:aL za 5 x=1
  ·simp[pcD,a]
  ·rw[if_neg a]
   simp only[pcD,a,decide_false,Bool.false_eq_true,if_false]
   by_cases e4:zJ za x=4
   ·rw[if_pos e4,(kp (.inl e4)).1];simp
   ·rw[if_neg e4];simp
 ·simp only[Zk,QV,Bool.not_false,Bool.and_true]
  rw[Qu,decide_eq_decide]
  by_cases e6:zJ za x=6
  ·have:=kf e6
   rw[if_pos e6]
   constructor
   ·intro _;omega
   ·intro _;exact e6
  ·rw[if_neg e6];simp[e6]
 ·have e:(Zk QV (zJ za x) (pcD x) (ZC za x)).conj=if ZC za x=2 then 1 else 0:=by simp[Zk,QV]
  rw[e,Qk]
  rcases q4 with c|c|c|c
  ·simp[c]
  ·rw[(kp (q3 (.inl c))).2];simp[c]
  ·simp[c]
  ·rw[(kp (q3 (.inr c))).2];simp[c]
 ·have e:(Zk QV (zJ za x) (pcD x) (ZC za x)).conj=if ZC za x=2 then 1 else 0:=by simp[Zk,QV]
  rw[e,Qk]
  rcases q4 with c|c|c|c
  ·simp[c]
  ·rw[(kp (q3 (.inl c))).2];simp[c]
  ·simp[c]
  ·rw[(kp (q3 (.inr c))).2];simp[c]
theorem yF(s:xr)(x:Int):Zo T0 s x=(Zk s (zJ za x) (pcD x) (ZC za x),!s.some || yh s (zJ za x) (pcD x) (ZC za x)):=by
 unfold Zo pcD
 rw[Jm,zcy,zfE]
theorem zbb:∀(l:List Int) (s:xr) (p:Int) (pre:List Int),Us s p pre→wJ T0 s l=QJ za p pre l
 | [],_,_,_,_=>rfl
 |x::l,s,p,pre,h=>by
  have hc:=h.cut x
  have ih:=zbb l _ _ _ (h.next x)
  rw[wJ,QJ,yF]
  simp only
  rw[h.so,hc,ih]
  simp only[Bool.not_true,Bool.false_or]
  split
  ·rfl
  ·omega
theorem zdt:∀(l:List Int) (p:Int) (pre:List Int) (y:Int) (ys:List Int),l.drop (QJ za p pre l)=y::ys→Beg ((l.take (QJ za p pre l)).reverse++p::pre) y
 | [],_,_,_,_,h=>by simp at h
 |x::l,p,pre,y,ys,h=>by
  rw[QJ]at h⊢
  by_cases g:yV za p pre x=true
  ·rw[if_pos g]at h⊢
   simp only[List.drop_zero]at h
   injection h with h1 _
   subst h1
   exact .inr ⟨p,pre,by simp,g⟩
  ·rw[if_neg g]at h⊢
   rw[List.drop_succ_cons]at h
   have ih:=zdt l x (p::pre) y ys h
   rw[List.take_succ_cons,List.reverse_cons,List.append_assoc]
   exact ih
theorem zgb:∀(n:Nat) (l pre:List Int),(∀y ys,l=y::ys→Beg pre y)→wc T0 n l=qQ za n pre l
 |0,_,_,_=>rfl
 |_+1,[],_,_=>rfl
 |n+1,x::l,pre,h=>by
  have hb:=h x l rfl
  have e:wJ T0 (Zo T0 QV x).1 l=QJ za x pre l:=by
   rw[yF]
   exact zbb l _ _ _ (Us.start hb)
  rw[wc,qQ,e]
  congr 1
  exact zgb n _ _ (fun y ys hy=>zdt l x pre y ys hy)
theorem ziR(l:List Int):QN T0 l=qR za l:=zgb l.length l [] (fun _ _ _=>.inl rfl)
end Go.Proofs.YtjefahhmkcfiiaaGreat
end
section
namespace Go.Proofs.YtjefahhmkcfiiaaGreat
open Go.AM
set_option maxHeartbeats 1000000
set_option maxRecDepth 100000
def znG:Bool:=za.all fun x=>!decide (x.k=2) || (decide (0≤x.f)&&decide (x.f<1114112)&&decide (0≤x.a)&&decide (x.a<1114112)&&decide (0≤x.b)&&decide (x.b<1114112))
theorem ziW:znG=true:=by decide+kernel
theorem zlC:decide (za=[])=false:=by decide+kernel
theorem kh:qP za:=⟨of_decide_eq_false zlC,zaI,fun x hx hk=>by
 have:=List.all_eq_true.1 ziW x hx
 simp only[hk,decide_true,Bool.not_true,Bool.false_or,Bool.and_eq_true,decide_eq_true_eq]at this
 omega⟩
theorem zeX:Wi T0:=fun i=>by
 have hp:=znO
 simp only[zeM,Bool.and_eq_true,decide_eq_true_eq,List.all_eq_true]at hp
 rcases za9 (⟨0,0⟩:Za) i ((qj za 2).map jx)with h|⟨q,hq,h⟩
 ·have e:T0.par i=⟨0,0⟩:=h
  rw[e];decide
 ·have e:T0.par i=q.v:=h
  obtain⟨s,hs,rfl⟩:=List.mem_map.1 hq
  have:=hp s hs
  rw[e]
  exact⟨this.1.1.1,this.1.1.2,this.1.2,this.2⟩
attribute [local irreducible] za
theorem uH(k:Int→Int)(mk:Int→Int→Option Int):∀(l O:List Int),(l.foldl (kj k mk) O).length≤O.length+l.length
 | [],O=>by simp
 |x::l,O=>by
  have ih:=uH k mk l (kj k mk O x)
  have h:(kj k mk O x).length≤O.length+1:=by
   unfold kj
   split
   ·split
    ·rw[List.length_set];omega
    ·simp
   ·simp
  rw[List.foldl_cons,List.length_cons];omega
theorem WX(rows:List Row):∀(n:Nat) (pre l:List Int),l.length≤n→(qQ rows n pre l).flatten=l∧(qQ rows n pre l).length≤l.length
 |0,_,l,h=>by
  obtain rfl:=List.eq_nil_of_length_eq_zero (Nat.le_zero.1 h)
  exact⟨rfl,Nat.le_refl _⟩
 |_+1,_,[],_=>⟨rfl,Nat.le_refl _⟩
 |n+1,pre,x::l,h=>by
  simp only[List.length_cons]at h
  rw[qQ]
  generalize QJ rows x pre l=k
  obtain⟨h1,h2⟩:=WX rows n ((l.take k).reverse++x::pre) (l.drop k) (by rw[List.length_drop];omega)
  constructor
  ·rw[List.flatten_cons,h1];simp
  ·rw[List.length_cons,List.length_cons]
   rw[List.length_drop]at h2
   omega
theorem ju:Jl (Zu za) (qR za)where
 len l h:=by
  have h1:=zb1 za l
  have h2:=uH (kD za) (mkD za) (xv za l) []
  unfold Zu Vm ZG
  simp only[List.length_nil]at h2
  omega
 rune l _ hr:=(Un kh (xv za l) (XI kh hr)).r
 flat l:=(WX za l.length [] l (Nat.le_refl _)).1
 num l:=(WX za l.length [] l (Nat.le_refl _)).2
theorem zbt:xJ T0 M0.1=Zu za:=funext zfw
theorem Yk:QN T0=qR za:=funext ziR
theorem zjP:Jl (xJ T0 M0.1) (QN T0):=by rw[zbt,Yk];exact ju
theorem zlx:Zu za [101,120]=[101,120]:=by decide+kernel
theorem zmr:qR za [101,120]=[[101],[120]]:=by decide+kernel
theorem zmB:xL (Zu za) (qR za) [[101],[120]] 0 1 1 [769]=([[233],[120]],1,true):=by decide+kernel
end Go.Proofs.YtjefahhmkcfiiaaGreat
end
section
namespace Go.Proofs.YtjefahhmkcfiiaaGreat
open Go.AM
set_option maxHeartbeats 4000000
set_option maxRecDepth 10000
attribute [local irreducible] za
theorem zbi [Gi] {c b j f p:PV}(h:Qp T0 c b j f p)(sk sx:List PV)(l:List Int)(hn:l.length<2^20)(hr:∀x∈l,zL x):
  CR Tryz.prog 18 [] [.p (zE c b j f p (ckP M0.1) (cxP M0.1) sk sx),.p (zh l)] [] (is (.p (zF (qR za (Zu za l)) 0))):=by
 have:=zlW h je zeX M0.1 sk sx l hn hr (zjP.len l hn) (zjP.rune l hn hr)
 rw[zbt,Yk]at this
 exact this
theorem zi2 [Gi] {c b j f p:PV}(h:Qp T0 c b j f p)(sk sx:List PV)(L:List (List Int))(hL:zd9 L)(a f' e:Int)(s:List Int)(hs:s.length≤1000)(hr:∀x∈s,zL x):
  CR Tryz.prog 20 [] [.p (zF L a),.p (zE c b j f p (ckP M0.1) (cxP M0.1) sk sx),.p (.int .i64 f'),.p (.int .i64 e),.p (zh s)] [] (is (U8 (xL (Zu za) (qR za) L a f' e s))):=by
 have:=zkp h je zeX M0.1 sk sx zjP L hL a f' e s hs hr
 rw[zbt,Yk]at this
 exact this
theorem zkE [Gi](l:List Int)(hn:l.length<2^20)(hr:∀x∈l,zL x):CR Tryz.prog 19 [] [.p (zC za),.p (zh l)] [] (is (.p (zF (qR za (Zu za l)) 0))):=
 ziM kh l hn hr (ju.len l hn) (ju.rune l hn hr)
theorem zgO:zd9 [[101],[120]]:=⟨by decide,by decide,by simp[zL]⟩
theorem xH [Gi]:CR Tryz.prog 27 [] [] [] (is (.p (.bool true))):=by
 refine zm mixed 4 [] Tryz.func27 rfl (by kernel_rfl) rfl (by simp) (by simp) ?_
 simp (maxSteps:=1000000) [go_sem,Tryz.f27]
 refine⟨⟨rfl,by simp[Tryz.f16]⟩,zb [] yy (by simp[go_sem]) ⟨by simp[go_sem],by simp[go_sem]⟩ (by simp[go_sem]) ?_⟩
 rintro _ rs ⟨rfl,rfl⟩
 simp (maxSteps:=1000000) [go_sem,zC]
 refine⟨⟨rfl,by simp[Tryz.f17]⟩,zb [] UG (by simp[go_sem]) ⟨by simp[go_sem],by simp[go_sem,zC]⟩ (by simp[go_sem]) ?_⟩
 rintro _ rs ⟨rfl,e,rfl,c,b,j,f,p,hT,rfl⟩
 simp (maxSteps:=1000000) [go_sem,zE]
 have g1:=zbi hT (Z9 M0.2) (qm M0.2) [101,120] (by decide) (by simp[zL])
 rw[zlx,zmr]at g1
 have g2:=zi2 hT (Z9 M0.2) (qm M0.2) [[101],[120]] zgO 0 1 1 [769] (by decide) (by simp[zL])
 rw[zmB]at g2
 have g3:=Je [[233],[120]] 1 (by decide) (by decide)
 have e3:J0 [[233],[120]] 1=1:=by decide
 rw[e3]at g3
 have g4:=zaZ [[233],[120]] (by decide) (by decide)
 refine⟨by decide,⟨rfl,by simp[Tryz.f18]⟩,zb [] g1 (by simp[go_sem]) ⟨by simp[go_sem],by simp[go_sem,zE,zh,zB]⟩ (by simp[go_sem]) ?_⟩
 rintro _ rs ⟨rfl,rfl⟩
 simp (maxSteps:=1000000) [go_sem,zF,zr,zW]
 refine⟨⟨rfl,by simp[Tryz.f20]⟩,zb [] g2 (by simp[go_sem]) ⟨by simp[go_sem],by simp[go_sem,zE,zh,zB,zF,zr,zW]⟩ (by simp[go_sem]) ?_⟩
 rintro _ rs ⟨rfl,rfl⟩
 simp (maxSteps:=1000000) [go_sem,U8,zF,zr,zW,zh,zB]
 refine⟨rfl,⟨rfl,by simp[Tryz.f26]⟩,zb [] g3 (by simp[go_sem]) ⟨by simp[go_sem],by simp[go_sem,zF,zr,zW,zh,zB]⟩ (by simp[go_sem]) ?_⟩
 rintro _ rs ⟨rfl,rfl⟩
 simp (maxSteps:=1000000) [go_sem]
 refine⟨⟨by decide,rfl⟩,⟨rfl,by simp[Tryz.f22]⟩,zb [] g4 (by simp[go_sem]) ⟨by simp[go_sem],by simp[go_sem,zr,zW,zh,zB]⟩ (by simp[go_sem]) ?_⟩
 rintro _ rs ⟨rfl,rfl⟩
 simp (maxSteps:=1000000) [go_sem]
 exact zg (.p (.bool true)) rfl (by simp[go_sem,zf,leA,leT]) ⟨rfl,rfl⟩
end Go.Proofs.YtjefahhmkcfiiaaGreat
end
section
namespace Go.Proofs.YtjefahhmkcfiiaaGreat
open Go.AM
set_option maxHeartbeats 8000000
set_option maxRecDepth 10000
attribute [local irreducible] za
structure zoB where
 f:Int
 b:Int
 k:List Int
end Go.Proofs.YtjefahhmkcfiiaaGreat
end
section
namespace Go.AM
open Go.ChangeShapes Go.RowKit
def Yes:AV→List (Tok×List AV)→Prop:=fun x rs=>rs=[]∧x=.p (.bool true)
theorem Value.zhE {v:Value}(h:v.oneCell'=true):v.cells.toList=[v]:=by
 cases v<;>simp_all [Value.oneCell',Value.cells]
theorem zjv {P:Program} {w:World} {r:Reach} {base:Nat} {t:TypeId} {v:Value}(h:Cell.okWide P w r base t v):v.oneCell'=true:=by
 unfold Cell.okWide at h
 split at h<;>try rfl
 all_goals unfold Cell.ok at h;split at h<;>first|rfl|exact h.elim
theorem zdT {P:Program} {w:World} {r:Reach} {base:Nat} {t:TypeId} {v:Value}(h:Value.okWide P w r base t v)(hf:(match P.underlying t with|some (.struct _)=>false|some (.array _ _)=>false|_=>true)=true):v.oneCell'=true:=by
 unfold Value.okWide at h
 split at h
 ·rename_i e;rw[e]at hf;cases hf
 ·rename_i e;rw[e]at hf;cases hf
 ·exact zjv h
section
variable {H:Type} {enc:TypeId×Value→H} {P:Program}
def zlt(enc:TypeId×Value→H)(P:Program)(t:TypeId)(Q:PV→Prop):Prop:=
 ∀(W:World) (base:Nat) (v:Value) (d:DataW H) (p:List MemPlace),Value.okWide P W .any base t v→DataW.Trod enc P W 0 (fun _=>true) true t v d p→∃x,Q x∧zk (frW W) W x v
theorem q9 {t:TypeId} {Q:PV→Prop}(hf:(match P.underlying t with|some (.struct _)=>false|some (.array _ _)=>false|_=>true)=true)(h:∀W,uZ enc P W 0 (fun _=>true) true t fun xs=>∃x,xs=[x]∧Q x):zlt enc P t Q:=by
 intro W base v d p ho ht
 obtain⟨fuel,ht⟩:=ht
 obtain⟨xs,⟨x,rfl,q⟩,r⟩:=h W _ _ _ ht
 have h1:=zdT ho hf
 rw[Value.zhE h1]at r
 simp only[zG]at r
 obtain⟨v',vs',e,_,r,_⟩:=r
 injection e with e;subst e
 exact⟨x,q,r⟩
def zaK(enc:TypeId×Value→H)(P:Program):List TypeId→List (PV→Prop)→Prop
 | [],[]=>True
 |t::ts,Q::Qs=>zlt enc P t Q∧zaK enc P ts Qs
 |_,_=>False
def zl5:List (PV→Prop)→List PV→Prop
 | [],[]=>True
 |Q::Qs,x::xs=>Q x∧zl5 Qs xs
 |_,_=>False
theorem zaf {W:World} {base:Nat} {g:Gh}(hg:g.fr=frW W):∀{ts:List TypeId} {Qs:List (PV→Prop)} {vs:List Value} {ds:List (DataW H)} {p:List MemPlace},zaK enc P ts Qs→
  (∀(j:Nat) t v,ts[j]?=some t→vs[j]?=some v→Value.okWide P W .any base t v)→DataW.TrodAll enc P W 0 (fun _=>true) true ts vs ds p→∃xs,zl5 Qs xs∧zt g W (xs.map .p) vs
 | [],[],[],_,_,_,_,_=>⟨[],trivial,by simp[zt]⟩
 | [],[],_::_,_,_,_,_,h=>h.elim
 | [],_::_,_,_,_,h,_,_=>h.elim
 |_::_,[],_,_,_,h,_,_=>h.elim
 |_::_,_::_,[],_,_,_,_,h=>by simp[DataW.TrodAll]at h
 |_::_,_::_,_::_,[],_,_,_,h=>by simp[DataW.TrodAll]at h
 |t::ts,Q::Qs,v::vs,d::ds,p,ha,ho,h=>by
  obtain⟨p',q',h1,h2,rfl⟩:=h
  obtain⟨x,qx,rx⟩:=ha.1 W base v d p' (ho 0 t v rfl rfl) h1
  obtain⟨xs,qs,rs⟩:=zaf hg ha.2 (fun j t' v' e1 e2=>ho (j+1) t' v' e1 e2) h2
  refine⟨x::xs,⟨qx,qs⟩,?_⟩
  simp only[List.map_cons,zt]
  exact⟨v,vs,rfl,by simp only[zd];rw[hg];exact rx,rs⟩
theorem We(hl:laidOutB P=true) {W W':World} {sp:Nat→Bool}(hb:Below W.heap.size W W'):∀{ts:List TypeId} {vs:List Value} {ds:List (DataW H)} {p:List MemPlace},ts.all (fun t=>P.readableRec t&&decide (t<P.types.size))=true→
  DataW.TrodAll enc P W 0 (fun _=>true) true ts vs ds p→(∀x∈p,x.block<W.heap.size∧sp x.block=true)→DataW.TrodAll enc P W' 0 sp true ts vs ds p
 | [],[],[],_,_,h,_=>h
 | [],[],_::_,_,_,h,_=>h.elim
 | [],_::_,_,_,_,h,_=>h.elim
 |_::_,[],_,_,_,h,_=>h.elim
 |_::_,_::_,[],_,_,h,_=>h.elim
 |t::ts,v::vs,d::ds,p,hr,h,hlt=>by
  obtain⟨p',q',h1,h2,rfl⟩:=h
  simp only[List.all_cons,Bool.and_eq_true,decide_eq_true_eq]at hr
  refine⟨p',q',WideElems.Trod_stays hl hr.1.1 hr.1.2 h1 (fun x hx=>hb.same (hlt x (by simp[hx])).1) (fun x hx=>(hlt x (by simp[hx])).2),We hl hb hr.2 h2 (fun x hx=>hlt x (by simp[hx])),rfl⟩
theorem zjd {f:Func} {s:ChangeSpec} {apart fresh handsOn again:Bool} {W W':World} {args:Array Value} {ds gs:List (DataW H)} {before:List MemPlace} {tb:TypeId}
  (hl:laidOutB P=true) (hb:Below W.heap.size W W') (hW:DataW.Whole enc P f.params.toList s.vars apart W args.toList ds gs before) (hv:s.vars=[]) (hgs:gs=[])
  (hr:f.params.toList.all (fun t=>P.readableRec t&&decide (t<P.types.size))=true) (ht:f.resultTypes= #[tb]) (hbo:P.underlying tb=some .bool)
  (h1:(s.fn H (ds++gs)).results=[.lit (.bool true)]) (h2:(s.fn H (ds++gs)).args=ds) (h3:(s.fn H (ds++gs)).vars=[]):
  s.post enc P f apart fresh handsOn again W args (.bool true) W':=by
 have hlt:∀x∈before,x.block<W.heap.size:=fun p hp=>by simpa using hW.lt p hp
 have hW':=hW
 obtain⟨p,q,hA,hV,rfl,hz,hn⟩:=hW
 have hq:q=[]:=by
  rw[hv,hgs]at hV
  exact hV
 subst hq
 have hres:∀(b:Nat) (sp:Nat→Bool) (hd:Bool),DataW.TrodAll enc P W' b sp hd f.resultTypes.toList ((Value.bool true).resultList f.resultTypes.size) [.lit (.bool true)] []:=by
  intro b sp hd
  rw[ht]
  show DataW.TrodAll enc P W' b sp hd [tb] [.bool true] _ _
  exact⟨[],[],shut_bool hbo true,rfl,rfl⟩
 have hargs:∀sp:Nat→Bool,(∀x∈p++[],sp x.block=true)→DataW.TrodAll enc P W' 0 sp true f.params.toList args.toList ds p:=fun sp hsp=>
  We hl hb hr hA (fun x hx=>⟨hlt x (by simp[hx]),hsp x (by simp[hx])⟩)
 refine⟨ds,gs,p++[],[],p,[],hW',?_,?_,?_,hb.frame _,fun _=>⟨?_,?_⟩⟩
 ·rw[h1];exact hres _ _ _
 ·rw[h2];exact hargs _ fun x hx=>by simpa using hlt x hx
 ·rw[h3,hv];exact rfl
 ·intro j t' r hj hvj
  rw[ht]at hj hvj
  match j,hj,hvj with
  |0,hj,hvj=>
   simp[Value.resultList]at hj hvj
   subst hj;subst hvj
   simp[Value.okWide,hbo,Cell.okWide,Cell.ok]
  |j+1,hj,_=>simp at hj
 ·refine⟨_,_,([]++p)++[],⟨[]++p,[],trodAll_append (hargs _ (fun _ _=>rfl)) (hres _ _ _),(by rw[hv];exact rfl:DataW.TrodVars enc P W' (fun _=>true) s.vars [] []),rfl,?_,?_⟩,?_⟩
  ·intro b off hp
   rw[hb.frozen (hlt _ (by simpa using hp))]
   exact hz b off (by simpa using hp)
  ·intro ha
   simpa using hn ha
  ·intro x hx _
   simpa using hx
theorem Q3 [Gi] {C:Checked} {fn:Func} {n:FuncId} {s:ChangeSpec} {apart fresh handsOn again:Bool} {Qs:List (PV→Prop)} {tb:TypeId}(hl:laidOutB C.prog=true)(hv:s.vars=[])
  (hr:fn.params.toList.all (fun t=>C.prog.readableRec t&&decide (t<C.prog.types.size))=true) (ht:fn.resultTypes= #[tb]) (hbo:C.prog.underlying tb=some .bool)
  (hs:∀ds:List (DataW H),ds.length=fn.params.size→s.fn H ds={results:=[.lit (.bool true)],args:=ds})
  (hQ:zaK enc C.prog fn.params.toList Qs) (hC:∀xs,zl5 Qs xs→CR C.prog n [] (xs.map .p) [] Yes)
  (W:World) (base:Nat) (args:Array Value) (ds gs:List (DataW H)) (before:List MemPlace)
  (hval:∀(j:Nat) t v,fn.params[j]?=some t→args[j]?=some v→Value.okWide C.prog W .any base t v)
  (hW:DataW.Whole enc C.prog fn.params.toList s.vars apart W args.toList ds gs before) (hgl:zaB ⟨frW W,fun _=>.prot⟩ W):
  Calls C.prog n args W fun e W'=>∃v,e=.returned v∧s.post enc C.prog fn apart fresh handsOn again W args v W':=by
 have hW0:=hW
 obtain⟨p,q,hA,hV,_,_,_⟩:=hW
 have hgs:gs=[]:=by
  rw[hv]at hV
  cases gs with
  |nil=>rfl
  |cons _ _=>exact hV.elim
 obtain⟨xs,qx,rx⟩:=zaf (g:=⟨frW W,fun _=>.prot⟩) rfl hQ (fun j t v e1 e2=>hval j t v (by simpa using e1) (by simpa using e2)) hA
 have hG:GS ⟨frW W,fun _=>.prot⟩ W []:=by
  refine⟨fun b t h=>?_,fun b b' t h=>?_,fun b b' t h=>?_,fun b h=>absurd rfl h,fun b hb=>?_,hgl⟩
  ·cases h
  ·cases h
  ·cases h
  ·show frW W b=0
   have hb':W.heap[b]?=none:=by simpa using hb
   unfold frW
   rw[hb']
 have hc:=hC xs qx W _ _ rx hG
 rw[Array.toArray_toList]at hc
 refine hc.mono ?_
 rintro e W' ⟨v,x,rs',g',rfl,⟨rfl,rfl⟩,r,_,hAft⟩
 simp only[zd,zk]at r
 subst r
 have hB:Below W.heap.size W W':=⟨hAft.out.1,hAft.out.2.1,hAft.out.2.2,hAft.mono,fun k hk=>(hAft.frame k hk rfl).1⟩
 have hlen:ds.length=fn.params.size:=by
  have:∀{ts:List TypeId} {vs:List Value} {ds:List (DataW H)} {p:List MemPlace},DataW.TrodAll enc C.prog W 0 (fun _=>true) true ts vs ds p→ds.length=ts.length:=by
   intro ts
   induction ts with
   |nil=>intro vs ds p h;cases vs<;>cases ds<;>simp_all [DataW.TrodAll]
   |cons t ts ih=>
    intro vs ds p h
    cases vs<;>cases ds<;>simp_all [DataW.TrodAll]
    obtain⟨_,_,_,h2,_⟩:=h
    exact ih h2
  simpa using this hA
 exact⟨_,rfl,zjd hl hB hW0 hv hgs hr ht hbo (by rw[hgs,List.append_nil,hs ds hlen]) (by rw[hgs,List.append_nil,hs ds hlen]) (by rw[hgs,List.append_nil,hs ds hlen])⟩
end
end Go.AM
end
section
namespace Go.Proofs.YtjefahhmkcfiiaaGreat
open Go.ChangeShapes Go.WideShapes Go.ChangeAt Go.RowKit Go.AM
set_option maxRecDepth 100000
theorem Tryz.own:ownKnob Tryz.prog.godebug=none:=by kernel_rfl
theorem Tryz.laidOut:laidOutB Tryz.prog=true:=by kernel_rfl
theorem ziU {α:Type} {f:α→PV} {Q:α→Prop}:∀{es:List PV},(∀el∈es,∃a,Q a∧el=f a)→∃l:List α,(∀a∈l,Q a)∧es=l.map f
 | [],_=>⟨[],by simp,rfl⟩
 |x::xs,h=>by
  obtain⟨a,q,rfl⟩:=h x (by simp)
  obtain⟨l,ql,rfl⟩:=ziU (es:=xs) fun el hel=>h el (by simp[hel])
  exact⟨a::l,by simpa using ⟨q,ql⟩,rfl⟩
@[reducible] def zdX : Gi := ⟨fun _ => none⟩
section
variable {H:Type} {enc:TypeId×Value→H} {W:World}
abbrev QI:List PV→Prop:=fun xs=>∃x,xs=[x]∧∃n,x=.int .i64 n∧ -9223372036854775808≤n∧n≤9223372036854775807
abbrev QR:List PV→Prop:=fun xs=>∃x,xs=[x]∧∃n,x=.int .i32 n∧zL n
abbrev QT:List PV→Prop:=fun xs=>∃x,xs=[x]∧∃l:List Int,(∀r∈l,zL r)∧x=Z5 l
theorem Qt:uZ enc Tryz.prog W 0 (fun _=>true) true 3 QI:=by
 intro fuel cs x h
 obtain⟨xs,⟨n,rfl,hw⟩,r⟩:=X9 (k:=.i64) (by kernel_rfl) _ _ _ h
 simp[Lit.wf,IntKind.min,IntKind.max,IntKind.signed,IntKind.bits]at hw
 exact⟨_,⟨_,rfl,n,rfl,by omega⟩,r⟩
theorem zky:uZ enc Tryz.prog W 0 (fun _=>true) true 21 QR:=by
 intro fuel cs x h
 obtain⟨xs,⟨n,rfl,hw⟩,r⟩:=X9 (k:=.i32) (by kernel_rfl) _ _ _ h
 simp[Lit.wf,IntKind.min,IntKind.max,IntKind.signed,IntKind.bits]at hw
 exact⟨_,⟨_,rfl,n,rfl,⟨by omega,by omega⟩⟩,r⟩
theorem wK:uZ enc Tryz.prog W 0 (fun _=>true) true 22 QT:=by
 intro fuel cs x h
 obtain⟨xs,⟨es,rfl,he⟩,r⟩:=zdB (e:=21) (QE:=fun el=>∃n,zL n∧el=PV.int .i32 n) (by kernel_rfl) (of_decide_eq_true (by kernel_rfl)) (fun fuel cs x h=>by
  obtain⟨el,v,⟨n,rfl,q⟩,r⟩:=zlL zky _ _ _ h
  exact⟨_,v,⟨n,q,rfl⟩,r⟩) _ _ _ h
 obtain⟨l,ql,rfl⟩:=ziU he
 exact⟨_,⟨_,rfl,l,ql,rfl⟩,r⟩
end
end Go.Proofs.YtjefahhmkcfiiaaGreat
end
section
namespace Go.Proofs.YtjefahhmkcfiiaaGreat
open Go.AM
set_option maxHeartbeats 1000000
set_option maxRecDepth 100000
def zlX:Bool:=(yd 2).all fun w=>decide (w.f=w.t)&&decide ((qk za 8 w.f).length≤3)
theorem zgZ:zlX=true:=by decide+kernel
attribute [local irreducible] za
theorem zbf(r:Int):(zQ r).length≤3:=by unfold zQ;split<;>simp
theorem zd0(r:Int):(qk za 8 r).length≤3:=by
 by_cases hs:Zc r=true
 ·unfold qk;rw[if_pos hs];exact zbf r
 ·cases hp:ZE za r with
  |none=>unfold qk;rw[if_neg hs,hp];simp
  |some p=>
   unfold ZE at hp
   cases hr:rowAt za 2 r with
   |none=>rw[hr]at hp;simp at hp
   |some w=>
    unfold rowAt at hr
    split at hr
    ·simp at hr
    ·have h1:=List.mem_of_find?_eq_some hr
     have h2:=List.find?_some hr
     simp only[jG,Bool.and_eq_true,decide_eq_true_eq]at h2
     have f:=List.all_eq_true.1 zgZ w (List.mem_filter.2 ⟨h1,by simp[h2.1.1]⟩)
     simp only[Bool.and_eq_true,decide_eq_true_eq]at f
     have:r=w.f:=by omega
     rw[this];exact f.2
theorem KH(l:List Int):(QH za l).length≤3*l.length:=by
 unfold QH
 induction l with
 |nil=>simp
 |cons r l ih=>
  have:=zd0 r
  rw[List.flatMap_cons,List.length_append,List.length_cons]
  omega
theorem JK(l:List Int):(qR za (Zu za l)).length≤3*l.length:=by
 have h1:=ju.num (Zu za l)
 have h2:=uH (kD za) (mkD za) (xv za l) []
 have h3:(xv za l).length=(QH za l).length:=vF _ _
 have h4:=KH l
 have h5:(Zu za l).length=((xv za l).foldl (kj (kD za) (mkD za)) []).length:=rfl
 simp only[List.length_nil]at h2
 omega
end Go.Proofs.YtjefahhmkcfiiaaGreat
end
