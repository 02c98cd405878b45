/- A part of this seat's proofs, by an abstract machine. Conditions: each law's. -/
import Derived.Test.YtfjdbbpimklecaaGreatDoorT33
set_option maxHeartbeats 4000000
set_option maxRecDepth 100000
namespace Go.Proofs.YtfjdbbpimklecaaGreatDoor
section
open Go.AM
def Jm(k:Int):List Row:=za.filter fun w=>decide (w.k=k)
def zlM(w v:Row):Bool:=decide (w.t<v.f) || decide (v.t<w.f)
def zpP:Bool:=(Jm 5).all fun w=>(Jm 4).all fun v=>zlM w v || (!decide (v.a=1)&&!decide (v.a=2)&&!decide (v.a=3)&&!decide (v.a=5))
def zpR:Bool:=(Jm 6).all fun w=>(Jm 4).all fun v=>zlM w v || (!decide (v.a=1)&&!decide (v.a=2)&&!decide (v.a=3))
def zpY:Bool:=(Jm 6).all fun w=>decide (w.a=2) || (decide (w.a=1)&&decide (w.f=w.t)&&decide (zD za w.f=4))
theorem zky:zpP=true:=by decide+kernel
theorem ziV:zpR=true:=by decide+kernel
theorem zd5:zpY=true:=by decide+kernel
theorem JU(x:Int):wO T0 x=zD za x:=by unfold wO zD;rw[zlx]
theorem zkJ(x:Int):KG T0 x=Qa za x:=by unfold KG Qa;rw[JU,zmJ]
attribute [local irreducible] za
theorem row_in {k x:Int}(h:aL za k x≠0):∃w∈Jm k,w.f≤x∧x≤w.t∧aL za k x=w.a:=by
 obtain⟨w,h1,h2,h3,h4,h5⟩:=znY h
 exact⟨w,List.mem_filter.2 ⟨h1,by simp[h2]⟩,h3,h4,h5⟩
theorem zgd {w v:Row} {x:Int}(h1:w.f≤x)(h2:x≤w.t)(h3:v.f≤x)(h4:x≤v.t):zlM w v=false:=by
 unfold zlM
 simp only[Bool.or_eq_false_iff,decide_eq_false_iff_not]
 omega
theorem zhU(x:Int):zD za x=12∨zD za x=13∨zD za x=aL za 4 x:=by
 unfold zD
 split
 ·split
  ·exact .inl rfl
  ·exact .inr (.inl rfl)
 ·exact .inr (.inr rfl)
theorem zk4 {x b:Int}(hb:zD za x=b)(h0:b≠0)(h12:b≠12)(h13:b≠13):∃v∈Jm 4,v.f≤x∧x≤v.t∧v.a=b:=by
 rcases zhU x with e|e|e
 ·exact absurd (hb.symm.trans e) h12
 ·exact absurd (hb.symm.trans e) h13
 ·have e2:aL za 4 x=b:=e.symm.trans hb
  obtain⟨v,h1,h2,h3,h4⟩:=row_in (k:=4) (x:=x) (by rw[e2];exact h0)
  exact⟨v,h1,h2,h3,by rw[←h4,e2]⟩
theorem f1 {x:Int}(h:aL za 5 x=1):zD za x≠1∧zD za x≠2∧zD za x≠3∧zD za x≠5:=by
 obtain⟨w,h1,h2,h3,_⟩:=row_in (k:=5) (x:=x) (by rw[h];decide)
 have key:∀b:Int,b≠0→b≠12→b≠13→(b=1∨b=2∨b=3∨b=5)→zD za x≠b:=by
  intro b b0 b1 b2 hb e
  obtain⟨v,g1,g2,g3,g4⟩:=zk4 e b0 b1 b2
  have f:=List.all_eq_true.1 (List.all_eq_true.1 zky w h1) v g1
  rw[zgd h2 h3 g2 g3]at f
  simp only[Bool.false_or,Bool.and_eq_true,Bool.not_eq_true',decide_eq_false_iff_not]at f
  omega
 exact⟨key 1 (by decide) (by decide) (by decide) (by decide),key 2 (by decide) (by decide) (by decide) (by decide),key 3 (by decide) (by decide) (by decide) (by decide),key 5 (by decide) (by decide) (by decide) (by decide)⟩
theorem f4(x:Int):Qa za x=0∨Qa za x=1∨Qa za x=2∨Qa za x=3:=by
 unfold Qa
 split
 ·rename_i h
  obtain⟨w,h1,_,_,h4⟩:=row_in h
  have f:=List.all_eq_true.1 zd5 w h1
  simp only[Bool.or_eq_true,Bool.and_eq_true,decide_eq_true_eq]at f
  omega
 ·split<;>simp
theorem f3 {x:Int}(h:Qa za x=1∨Qa za x=3):zD za x=4∨zD za x=5:=by
 unfold Qa at h
 split at h
 ·rename_i h0
  obtain⟨w,h1,h2,h3,h4⟩:=row_in h0
  have f:=List.all_eq_true.1 zd5 w h1
  simp only[Bool.or_eq_true,Bool.and_eq_true,decide_eq_true_eq]at f
  have:x=w.f:=by omega
  rw[this]
  exact .inl (by omega)
 ·split at h
  ·rename_i g;exact g.1
  ·omega
theorem f2 {x:Int}(h:Qa za x≠0):zD za x≠1∧zD za x≠2∧zD za x≠3:=by
 by_cases h0:aL za 6 x=0
 ·have e:Qa za x=if(zD za x=4∨zD za x=5)∧x≠8204 then 3 else 0:=by unfold Qa;rw[if_neg (fun q=>q h0)]
  rw[e]at h
  split at h
  ·rename_i g;have:=g.1;omega
  ·exact absurd rfl h
 ·obtain⟨w,h1,h2,h3,_⟩:=row_in h0
  have key:∀b:Int,b≠0→b≠12→b≠13→(b=1∨b=2∨b=3)→zD za x≠b:=by
   intro b b0 b1 b2 hb e
   obtain⟨v,g1,g2,g3,g4⟩:=zk4 e b0 b1 b2
   have f:=List.all_eq_true.1 (List.all_eq_true.1 ziV w h1) v g1
   rw[zgd h2 h3 g2 g3]at f
   simp only[Bool.false_or,Bool.and_eq_true,Bool.not_eq_true',decide_eq_false_iff_not]at f
   omega
  exact⟨key 1 (by decide) (by decide) (by decide) (by decide),key 2 (by decide) (by decide) (by decide) (by decide),key 3 (by decide) (by decide) (by decide) (by decide)⟩
end
section
open Go.AM
attribute [local irreducible] za
def pcD(x:Int):Bool:=decide (aL za 5 x=1)
structure Yq(s:xD)(p:Int)(pre:List Int):Prop where
 so:s.some=true
 la:s.last=zD za p
 p2:s.pict=2↔(zD za p=5∧j7 za pre=true)
 p1:s.pict=1↔j7 za (p::pre)=true
 od:s.odd=decide (Qq za (p::pre)%2=1)
 c2:s.conj=2↔Qm za false (p::pre)=true
 c0:s.conj≠0↔Qm za true (p::pre)=true
theorem Yq.next {s:xD} {p:Int} {pre:List Int}(h:Yq s p pre)(x:Int):Yq (Zn s (zD za x) (pcD x) (Qa za x)) x (p::pre):=by
 obtain⟨h1,h2,h3,h4,h5,h6,h7⟩:=h
 have q1:= @f1 x
 have q4:=f4 x
 have b7:Qm za true (p::pre)=decide (s.conj≠0):=by rw[Bool.eq_iff_iff,decide_eq_true_eq,h7]
 have b6:Qm za false (p::pre)=decide (s.conj=2):=by rw[Bool.eq_iff_iff,decide_eq_true_eq,h6]
 refine⟨rfl,rfl,?_,?_,?_,?_,?_⟩
 ·simp only[Zn,pcD]
  by_cases a:aL za 5 x=1
  ·have:=q1 a
   simp[a,this.2.2.2]
  ·simp only[a,decide_false,Bool.false_eq_true,if_false]
   rw[←h4]
   by_cases b:s.pict=1
   ·by_cases e4:zD za x=4
    ·simp[b,e4]
    ·by_cases e5:zD za x=5<;>simp[b,e5,e4]
   ·simp[b]
 ·simp only[Zn,pcD]
  rw[j7]
  by_cases a:aL za 5 x=1
  ·simp[a]
  ·simp only[a,decide_false,Bool.false_eq_true,if_false]
   by_cases e4:zD za x=4
   ·rw[if_pos e4,←h4]
    by_cases b:s.pict=1<;>simp[b,e4]
   ·rw[if_neg e4]
    by_cases b:s.pict=1∧zD za x=5
    ·simp[b.1,b.2]
    ·simp[e4,b]
 ·simp only[Zn]
  rw[Qq,h5]
  by_cases e6:zD za x=6
  ·rw[if_pos e6]
   simp only[e6,decide_true,Bool.true_and]
   rw[←decide_not,decide_eq_decide]
   omega
  ·rw[if_neg e6];simp[e6]
 ·simp only[Zn]
  rw[Qm]
  rcases q4 with c|c|c|c<;>by_cases z:s.conj=0<;>simp[c,b6,b7,z]
 ·simp only[Zn]
  rw[Qm]
  rcases q4 with c|c|c|c<;>by_cases z:s.conj=0<;>simp[c,b7,z]
theorem Yq.cut {s:xD} {p:Int} {pre:List Int}(h:Yq s p pre)(x:Int):kY s (zD za x) (pcD x) (Qa za x)=uW za p pre x:=by
 obtain⟨h1,h2,h3,h4,h5,h6,h7⟩:=h
 obtain⟨P,hP⟩:∃P,P=(decide (s.pict=2)&&pcD x):=⟨_,rfl⟩
 obtain⟨C,hC⟩:∃C,C=(decide (s.conj=2)&&decide (Qa za x=2)):=⟨_,rfl⟩
 obtain⟨O,hO⟩:∃O,O=(s.odd&&decide (zD za x=6)):=⟨_,rfl⟩
 have eP:Ks za p pre x=P:=by
  rw[hP];unfold Ks pcD
  by_cases a:aL za 5 x=1
  ·by_cases b:zD za p=5
   ·rw[if_pos a,if_pos b]
    have:decide (s.pict=2)=j7 za pre:=by
     rw[Bool.eq_iff_iff,decide_eq_true_eq,h3];simp[b]
    rw[this];simp[a]
   ·rw[if_pos a,if_neg b]
    have:¬s.pict=2:=fun q=>b (h3.1 q).1
    simp[this]
  ·rw[if_neg a];simp[a]
 have eC:U6 za (p::pre) x=C:=by
  rw[hC];unfold U6
  by_cases a:Qa za x=2
  ·rw[if_pos a]
   have:decide (s.conj=2)=Qm za false (p::pre):=by
    rw[Bool.eq_iff_iff,decide_eq_true_eq,h6]
   rw[this];simp[a]
  ·rw[if_neg a];simp[a]
 have eO:Vp za (p::pre) x=O:=by
  rw[hO];unfold Vp
  by_cases a:zD za x=6
  ·rw[if_pos a,h5];simp[a]
  ·rw[if_neg a];simp[a]
 unfold uW kY
 rw[eP,eC,eO,←hP,←hC,←hO,h2]
 have kP:P=true→¬(zD za p=1∨zD za p=2∨zD za p=3)∧¬(zD za x=1∨zD za x=2∨zD za x=3):=by
  intro q
  rw[hP]at q
  simp only[pcD,Bool.and_eq_true,decide_eq_true_eq]at q
  have a:=f1 q.2
  have b:=(h3.1 q.1).1
  omega
 have kC:C=true→¬(zD za p=1∨zD za p=2∨zD za p=3)∧¬(zD za x=1∨zD za x=2∨zD za x=3):=by
  intro q
  rw[hC]at q
  simp only[Bool.and_eq_true,decide_eq_true_eq]at q
  have a:=f2 (x:=x) (by omega)
  have b:=h6.1 q.1
  have c:=f2 (x:=p) (fun z=>by
   rw[Qm,if_neg (by omega),if_pos z]at b
   exact absurd b (by decide))
  omega
 have kO:O=true→¬(zD za p=1∨zD za p=2∨zD za p=3)∧¬(zD za x=1∨zD za x=2∨zD za x=3):=by
  intro q
  rw[hO,h5]at q
  simp only[Bool.and_eq_true,decide_eq_true_eq]at q
  have b:zD za p=6:=by
   by_cases z:zD za p=6
   ·exact z
   ·have:=q.1
    rw[Qq,if_neg z]at this
    omega
  omega
 clear hP hC hO eP eC eO h1 h2 h3 h4 h5 h6 h7
 generalize zD za p=a at*
 generalize zD za x=b at*
 by_cases hh:(a=1∨a=2∨a=3)∨(b=1∨b=2∨b=3)
 ·have P0:P=false:=by cases P with|false=>rfl|true=>have:=kP rfl;exact absurd hh (by omega)
  have C0:C=false:=by cases C with|false=>rfl|true=>have:=kC rfl;exact absurd hh (by omega)
  have O0:O=false:=by cases O with|false=>rfl|true=>have:=kO rfl;exact absurd hh (by omega)
  subst P0;subst C0;subst O0
  simp only[Bool.not_false,Bool.and_true]
  have hard:(QZ a || QZ b)=true:=by
   simp only[QZ,Bool.or_eq_true,decide_eq_true_eq];omega
  rw[hard]
  unfold zI
  by_cases a1:a=1
  ·by_cases b2:b=2<;>simp[a1,b2]
  ·by_cases a2:a=2∨a=3
   ·rw[if_neg a1,if_pos a2,if_neg (fun q=>a1 q.1)];rfl
   ·have b3:b=1∨b=2∨b=3:=by omega
    rw[if_neg a1,if_neg a2,if_pos b3,if_neg (fun q=>a1 q.1)];rfl
 ·have hard:(QZ a || QZ b)=false:=by
   simp only[QZ,Bool.or_eq_false_iff,decide_eq_false_iff_not];omega
  have e1:zI a b=(if b=4∨b=5∨b=8 then true else if a=7 then true else Qi a b):=by
   unfold zI Qi
   rw[if_neg (show ¬a=1 by omega),if_neg (show ¬(a=2∨a=3) by omega),if_neg (show ¬(b=1∨b=2∨b=3) by omega)]
   simp only[Bool.or_assoc]
  rw[e1,hard,if_neg (show ¬(a=1∧b=2) by omega)]
  clear e1 kP kC kO
  generalize Qi a b=H
  by_cases b1:b=4∨b=5∨b=8
  ·rw[if_pos b1,if_pos (show b=4∨b=5∨b=8∨a=7 by omega)]
   cases H<;>rfl
  ·rw[if_neg b1]
   by_cases a7:a=7
   ·rw[if_pos a7,if_pos (show b=4∨b=5∨b=8∨a=7 by omega)]
    cases H<;>rfl
   ·rw[if_neg a7,if_neg (show ¬(b=4∨b=5∨b=8∨a=7) by omega)]
    cases H<;>cases C<;>cases P<;>cases O<;>rfl
def Beg(pre:List Int)(x:Int):Prop:=pre=[]∨∃p pre',pre=p::pre'∧uW za p pre' x=true
theorem Yq.start {pre:List Int} {x:Int}(h:Beg pre x):Yq (Zn jK (zD za x) (pcD x) (Qa za x)) x pre:=by
 have q1:= @f1 x
 have q3:= @f3 x
 have q4:=f4 x
 have kp:zD za x=4∨zD za x=5→j7 za pre=false∧∀sn,Qm za sn pre=false:=by
  intro hb
  rcases h with rfl|⟨p,pre',rfl,hg⟩
  ·exact⟨rfl,fun _=>rfl⟩
  ·have hp:zD za p=1∨zD za p=2∨zD za p=3:=by
    unfold uW at hg
    rw[if_neg (by omega)]at hg
    by_cases z:(QZ (zD za p) || QZ (zD za x))=true
    ·simp only[QZ,Bool.or_eq_true,decide_eq_true_eq]at z;omega
    ·rw[if_neg z]at hg
     split at hg
     ·exact absurd hg (by decide)
     ·rw[if_pos (by omega)]at hg
      exact absurd hg (by decide)
   constructor
   ·have a:¬aL za 5 p=1:=fun q=>by have:=f1 q;omega
    rw[j7,if_neg a,if_neg (by omega)]
   ·intro sn
    have c:Qa za p=0:=by
     by_cases c:Qa za p=0
     ·exact c
     ·have:=f2 c;omega
    rw[Qm,if_neg (by omega),if_pos c]
 have kf:zD za x=6→Qq za pre%2=0:=by
  intro hb
  rcases h with rfl|⟨p,pre',rfl,hg⟩
  ·rfl
  ·by_cases hp:zD za p=6
   ·unfold uW at hg
    rw[if_neg (by omega),if_neg (by rw[hp,hb];decide),if_neg (by rw[hp,hb];decide),if_neg (by omega)]at hg
    split at hg
    ·exact absurd hg (by decide)
    ·split at hg
     ·exact absurd hg (by decide)
     ·unfold Vp at hg
      rw[if_pos hb]at hg
      simp only[Bool.not_eq_true',decide_eq_false_iff_not]at hg
      omega
   ·rw[Qq,if_neg hp]
 refine⟨rfl,rfl,?_,?_,?_,?_,?_⟩
 ·have e:(Zn jK (zD za x) (pcD x) (Qa za x)).pict=if pcD x then 1 else 0:=by simp[Zn,jK]
  rw[e]
  constructor
  ·intro z;split at z<;>omega
  ·rintro⟨z1,z2⟩
   rw[(kp (.inr z1)).1]at z2
   exact absurd z2 (by decide)
 ·have e:(Zn jK (zD za x) (pcD x) (Qa za x)).pict=if pcD x then 1 else 0:=by simp[Zn,jK]
  rw[e,j7]
  by_cases a:aL za 5 x=1
  ·simp[pcD,a]
  ·rw[if_neg a]
   simp only[pcD,a,decide_false,Bool.false_eq_true,if_false]
   by_cases e4:zD za x=4
   ·rw[if_pos e4,(kp (.inl e4)).1];simp
   ·rw[if_neg e4];simp
 ·simp only[Zn,jK,Bool.not_false,Bool.and_true]
  rw[Qq,decide_eq_decide]
  by_cases e6:zD za x=6
  ·have:=kf e6
   rw[if_pos e6]
   constructor
   ·intro _;omega
   ·intro _;exact e6
  ·rw[if_neg e6];simp[e6]
 ·have e:(Zn jK (zD za x) (pcD x) (Qa za x)).conj=if Qa za x=2 then 1 else 0:=by simp[Zn,jK]
  rw[e,Qm]
  rcases q4 with c|c|c|c
  ·simp[c]
  ·rw[(kp (q3 (.inl c))).2];simp[c]
  ·simp[c]
  ·rw[(kp (q3 (.inr c))).2];simp[c]
 ·have e:(Zn jK (zD za x) (pcD x) (Qa za x)).conj=if Qa za x=2 then 1 else 0:=by simp[Zn,jK]
  rw[e,Qm]
  rcases q4 with c|c|c|c
  ·simp[c]
  ·rw[(kp (q3 (.inl c))).2];simp[c]
  ·simp[c]
  ·rw[(kp (q3 (.inr c))).2];simp[c]
theorem VD(s:xD)(x:Int):ZC T0 s x=(Zn s (zD za x) (pcD x) (Qa za x),!s.some || kY s (zD za x) (pcD x) (Qa za x)):=by
 unfold ZC pcD
 rw[JU,zkJ,zgu]
theorem zgM:∀(l:List Int) (s:xD) (p:Int) (pre:List Int),Yq s p pre→vA T0 s l=Qv za p pre l
 | [],_,_,_,_=>rfl
 |x::l,s,p,pre,h=>by
  have hc:=h.cut x
  have ih:=zgM l _ _ _ (h.next x)
  rw[vA,Qv,VD]
  simp only
  rw[h.so,hc,ih]
  simp only[Bool.not_true,Bool.false_or]
  split
  ·rfl
  ·omega
theorem zef:∀(l:List Int) (p:Int) (pre:List Int) (y:Int) (ys:List Int),l.drop (Qv za p pre l)=y::ys→Beg ((l.take (Qv za p pre l)).reverse++p::pre) y
 | [],_,_,_,_,h=>by simp at h
 |x::l,p,pre,y,ys,h=>by
  rw[Qv]at h⊢
  by_cases g:uW za p pre x=true
  ·rw[if_pos g]at h⊢
   simp only[List.drop_zero]at h
   injection h with h1 _
   subst h1
   exact .inr ⟨p,pre,by simp,g⟩
  ·rw[if_neg g]at h⊢
   rw[List.drop_succ_cons]at h
   have ih:=zef l x (p::pre) y ys h
   rw[List.take_succ_cons,List.reverse_cons,List.append_assoc]
   exact ih
theorem zgN:∀(n:Nat) (l pre:List Int),(∀y ys,l=y::ys→Beg pre y)→ve T0 n l=qQ za n pre l
 |0,_,_,_=>rfl
 |_+1,[],_,_=>rfl
 |n+1,x::l,pre,h=>by
  have hb:=h x l rfl
  have e:vA T0 (ZC T0 jK x).1 l=Qv za x pre l:=by
   rw[VD]
   exact zgM l _ _ _ (Yq.start hb)
  rw[ve,qQ,e]
  congr 1
  exact zgN n _ _ (fun y ys hy=>zef l x pre y ys hy)
theorem zkD(l:List Int):ue T0 l=zM za l:=zgN l.length l [] (fun _ _ _=>.inl rfl)
end
section
open Go.AM
def zqb:Bool:=za.all fun x=>!decide (x.k=2) || (decide (0≤x.f)&&decide (x.f<1114112)&&decide (0≤x.a)&&decide (x.a<1114112)&&decide (0≤x.b)&&decide (x.b<1114112))
theorem zkl:zqb=true:=by decide+kernel
theorem zoR:decide (za=[])=false:=by decide+kernel
theorem kz:QK za:=⟨of_decide_eq_false zoR,zqp,fun x hx hk=>by
 have:=List.all_eq_true.1 zkl x hx
 simp only[hk,decide_true,Bool.not_true,Bool.false_or,Bool.and_eq_true,decide_eq_true_eq]at this
 omega⟩
attribute [local irreducible] za
theorem X3(k:Int→Int)(mk:Int→Int→Option Int):∀(l O:List Int),(l.foldl (UW k mk) O).length≤O.length+l.length
 | [],O=>by simp
 |x::l,O=>by
  have ih:=X3 k mk l (UW k mk O x)
  have h:(UW k mk O x).length≤O.length+1:=by
   unfold UW
   split
   ·split
    ·rw[List.length_set];omega
    ·simp
   ·simp
  rw[List.foldl_cons,List.length_cons];omega
theorem WZ(rows:List Row):∀(n:Nat) (pre l:List Int),l.length≤n→(qQ rows n pre l).flatten=l∧(qQ rows n pre l).length≤l.length
 |0,_,l,h=>by
  obtain rfl:=List.eq_nil_of_length_eq_zero (Nat.le_zero.1 h)
  exact⟨rfl,Nat.le_refl _⟩
 |_+1,_,[],_=>⟨rfl,Nat.le_refl _⟩
 |n+1,pre,x::l,h=>by
  simp only[List.length_cons]at h
  rw[qQ]
  generalize Qv rows x pre l=k
  obtain⟨h1,h2⟩:=WZ rows n ((l.take k).reverse++x::pre) (l.drop k) (by rw[List.length_drop];omega)
  constructor
  ·rw[List.flatten_cons,h1];simp
  ·rw[List.length_cons,List.length_cons]
   rw[List.length_drop]at h2
   omega
theorem Xx:zeF (zp8 za) (zM za)where
 len l h:=by
  have h1:=zkb za l
  have h2:=X3 (kD za) (mkD za) (zhv za l) []
  unfold zp8 zgA zaF
  simp only[List.length_nil]at h2
  omega
 rune l _ hr:=(zhX kz (zhv za l) (zhw kz hr)).r
 flat l:=(WZ za l.length [] l (Nat.le_refl _)).1
 num l:=(WZ za l.length [] l (Nat.le_refl _)).2
end
section
open Go.AM
theorem atJ(i:Int):∀(l init:List Span) (o:Span),qZ (o::l)→(atL (vK init o l) i).map (·.a)=(atL (init++o::l) i).map (·.a)
 | [],_,_,_=>rfl
 |s::l,init,o,h=>by
  obtain⟨h1,h2,h3,h4,h5⟩:=h
  unfold vK
  by_cases c:o.t+1=s.f∧o.a=s.a∧o.b=s.b
  ·rw[if_pos c,atJ i l init {o with t:=s.t} ⟨show o.f≤s.t by omega,h4,h5⟩]
   unfold atL
   rw[List.find?_append,List.find?_append]
   cases init.find? (fun s=>decide (s.f≤i∧i≤s.t))with
   |some x=>rfl
   |none=>
    simp only[Option.none_or,List.find?_cons]
    by_cases q1:o.f≤i∧i≤o.t
    ·have e1:decide (o.f≤i∧i≤s.t)=true:=decide_eq_true ⟨q1.1,by omega⟩
     have e2:decide (o.f≤i∧i≤o.t)=true:=decide_eq_true q1
     rw[e1,e2];rfl
    ·have e2:decide (o.f≤i∧i≤o.t)=false:=decide_eq_false q1
     rw[e2]
     by_cases q2:s.f≤i∧i≤s.t
     ·have e1:decide (o.f≤i∧i≤s.t)=true:=decide_eq_true ⟨by omega,q2.2⟩
      have e3:decide (s.f≤i∧i≤s.t)=true:=decide_eq_true q2
      rw[e1,e3]
      exact congrArg some c.2.1
     ·have e1:decide (o.f≤i∧i≤s.t)=false:=decide_eq_false (by omega)
      have e3:decide (s.f≤i∧i≤s.t)=false:=decide_eq_false q2
      rw[e1,e3]
  ·rw[if_neg c,atJ i l (init++[o]) s ⟨h3,h4,h5⟩]
   simp
theorem zd9(l:List Span)(c:Int):Za l c=decide ((atL l c).map (·.a)=some 1):=by
 unfold Za
 cases atL l c with
 |none=>rfl
 |some s=>simp only[Option.map_some,Option.some.injEq];rfl
theorem zpO(c:Int)(l:List Span)(h:qZ l):Za (ZR l) c=Za l c:=by
 cases l with
 |nil=>rfl
 |cons s l=>
  rw[zd9,zd9]
  exact congrArg (fun x=>decide (x=some 1)) (atJ c l [] s h)
attribute [local irreducible] za
structure znc(L:List (List Int)):Prop where
 n:L.length<2^31
 r:∀c∈L,∃x c',c=x::c'∧qg x
end
section
open Go.AM
attribute [local irreducible] za
theorem zfV(rows:List Row):∀(n:Nat) (pre l:List Int),∀c∈qQ rows n pre l,∃x c',c=x::c'
 |0,_,_,c,h=>by simp[qQ]at h
 |_+1,_,[],c,h=>by simp[qQ]at h
 |n+1,pre,x::l,c,h=>by
  rw[qQ]at h
  rcases List.mem_cons.1 h with rfl|h
  ·exact⟨_,_,rfl⟩
  ·exact zfV rows n _ _ c h
theorem zeY(l:List Int)(hn:l.length<2^31)(hr:∀x∈l,qg x):znc (zM za l)where
 n:=by have:=Xx.num l;omega
 r c hc:=by
  obtain⟨x,c',rfl⟩:=zfV za _ _ _ c hc
  refine⟨x,c',rfl,hr x ?_⟩
  have:x∈(zM za l).flatten:=List.mem_flatten.2 ⟨_,hc,by simp⟩
  rw[Xx.flat]at this
  exact this
end
end Go.Proofs.YtfjdbbpimklecaaGreatDoor
