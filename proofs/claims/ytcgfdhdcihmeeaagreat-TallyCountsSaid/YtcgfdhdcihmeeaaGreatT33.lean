/- A part of the proof of this seat's statements, by an abstract machine: what each operation does to values, and what the law's functions compute. Conditions: as each law says. -/
import Derived.Test.YtcgfdhdcihmeeaaGreatT32
import Derived.Test.YtcgfdhdcihmeeaaGreatT16
import Derived.ScopeJumps
import Derived.Test.YtcgfdhdcihmeeaaGreatT17
section
namespace Go.Proofs.YtcgfdhdcihmeeaaGreat
open Go.AM
set_option maxHeartbeats 1000000
set_option maxRecDepth 10000
attribute [local irreducible] za
def pcD(x:Int):Bool:=decide (aL za 5 x=1)
structure Jl(s:yW)(p:Int)(pre:List Int):Prop where
 so:s.some=true
 la:s.last=zx za p
 p2:s.pict=2↔(zx za p=5∧jK za pre=true)
 p1:s.pict=1↔jK za (p::pre)=true
 od:s.odd=decide (Qa za (p::pre)%2=1)
 c2:s.conj=2↔Qc za false (p::pre)=true
 c0:s.conj≠0↔Qc za true (p::pre)=true
theorem Jl.next {s:yW} {p:Int} {pre:List Int}(h:Jl s p pre)(x:Int):Jl (qW s (zx za x) (pcD x) (ZR za x)) x (p::pre):=by
 obtain⟨h1,h2,h3,h4,h5,h6,h7⟩:=h
 have q1:= @f1 x
 have q4:=f4 x
 have b7:Qc za true (p::pre)=decide (s.conj≠0):=by rw[Bool.eq_iff_iff,decide_eq_true_eq,h7]
 have b6:Qc za false (p::pre)=decide (s.conj=2):=by rw[Bool.eq_iff_iff,decide_eq_true_eq,h6]
 refine⟨rfl,rfl,?_,?_,?_,?_,?_⟩
 ·simp only[qW,pcD]
  by_cases a:aL za 5 x=1
  ·have:=q1 a
   simp[a,this.2.2.2]
  ·simp only[a,decide_false,Bool.false_eq_true,if_false]
   rw[←h4]
   by_cases b:s.pict=1
   ·by_cases e4:zx za x=4
    ·simp[b,e4]
    ·by_cases e5:zx za x=5<;>simp[b,e5,e4]
   ·simp[b]
 ·simp only[qW,pcD]
  rw[jK]
  by_cases a:aL za 5 x=1
  ·simp[a]
  ·simp only[a,decide_false,Bool.false_eq_true,if_false]
   by_cases e4:zx za x=4
   ·rw[if_pos e4,←h4]
    by_cases b:s.pict=1<;>simp[b,e4]
   ·rw[if_neg e4]
    by_cases b:s.pict=1∧zx za x=5
    ·simp[b.1,b.2]
    ·simp[e4,b]
 ·simp only[qW]
  rw[Qa,h5]
  by_cases e6:zx za x=6
  ·rw[if_pos e6]
   simp only[e6,decide_true,Bool.true_and]
   rw[←decide_not,decide_eq_decide]
   omega
  ·rw[if_neg e6];simp[e6]
 ·simp only[qW]
  rw[Qc]
  rcases q4 with c|c|c|c<;>by_cases z:s.conj=0<;>simp[c,b6,b7,z]
 ·simp only[qW]
  rw[Qc]
  rcases q4 with c|c|c|c<;>by_cases z:s.conj=0<;>simp[c,b7,z]
theorem Jl.cut {s:yW} {p:Int} {pre:List Int}(h:Jl s p pre)(x:Int):kl s (zx za x) (pcD x) (ZR za x)=v7 za p pre x:=by
 obtain⟨h1,h2,h3,h4,h5,h6,h7⟩:=h
 obtain⟨P,hP⟩:∃P,P=(decide (s.pict=2)&&pcD x):=⟨_,rfl⟩
 obtain⟨C,hC⟩:∃C,C=(decide (s.conj=2)&&decide (ZR za x=2)):=⟨_,rfl⟩
 obtain⟨O,hO⟩:∃O,O=(s.odd&&decide (zx za x=6)):=⟨_,rfl⟩
 have eP:Uq za p pre x=P:=by
  rw[hP];unfold Uq pcD
  by_cases a:aL za 5 x=1
  ·by_cases b:zx za p=5
   ·rw[if_pos a,if_pos b]
    have:decide (s.pict=2)=jK za pre:=by
     rw[Bool.eq_iff_iff,decide_eq_true_eq,h3];simp[b]
    rw[this];simp[a]
   ·rw[if_pos a,if_neg b]
    have:¬s.pict=2:=fun q=>b (h3.1 q).1
    simp[this]
  ·rw[if_neg a];simp[a]
 have eC:Uy za (p::pre) x=C:=by
  rw[hC];unfold Uy
  by_cases a:ZR za x=2
  ·rw[if_pos a]
   have:decide (s.conj=2)=Qc za false (p::pre):=by
    rw[Bool.eq_iff_iff,decide_eq_true_eq,h6]
   rw[this];simp[a]
  ·rw[if_neg a];simp[a]
 have eO:WQ za (p::pre) x=O:=by
  rw[hO];unfold WQ
  by_cases a:zx za x=6
  ·rw[if_pos a,h5];simp[a]
  ·rw[if_neg a];simp[a]
 unfold v7 kl
 rw[eP,eC,eO,←hP,←hC,←hO,h2]
 have kP:P=true→¬(zx za p=1∨zx za p=2∨zx za p=3)∧¬(zx za x=1∨zx za x=2∨zx za x=3):=by
  intro q
  rw[hP]at q
  simp only[pcD,Bool.and_eq_true,decide_eq_true_eq]at q
  have a:=f1 q.2
  have b:=(h3.1 q.1).1
  omega
 have kC:C=true→¬(zx za p=1∨zx za p=2∨zx za p=3)∧¬(zx za x=1∨zx za x=2∨zx za x=3):=by
  intro q
  rw[hC]at q
  simp only[Bool.and_eq_true,decide_eq_true_eq]at q
  have a:=f2 (x:=x) (by omega)
  have b:=h6.1 q.1
  have c:=f2 (x:=p) (fun z=>by
   rw[Qc,if_neg (by omega),if_pos z]at b
   exact absurd b (by decide))
  omega
 have kO:O=true→¬(zx za p=1∨zx za p=2∨zx za p=3)∧¬(zx za x=1∨zx za x=2∨zx za x=3):=by
  intro q
  rw[hO,h5]at q
  simp only[Bool.and_eq_true,decide_eq_true_eq]at q
  have b:zx za p=6:=by
   by_cases z:zx za p=6
   ·exact z
   ·have:=q.1
    rw[Qa,if_neg z]at this
    omega
  omega
 clear hP hC hO eP eC eO h1 h2 h3 h4 h5 h6 h7
 generalize zx za p=a at*
 generalize zx za x=b at*
 by_cases hh:(a=1∨a=2∨a=3)∨(b=1∨b=2∨b=3)
 ·have P0:P=false:=by cases P with|false=>rfl|true=>have:=kP rfl;exact absurd hh (by omega)
  have C0:C=false:=by cases C with|false=>rfl|true=>have:=kC rfl;exact absurd hh (by omega)
  have O0:O=false:=by cases O with|false=>rfl|true=>have:=kO rfl;exact absurd hh (by omega)
  subst P0;subst C0;subst O0
  simp only[Bool.not_false,Bool.and_true]
  have hard:(QG a || QG b)=true:=by
   simp only[QG,Bool.or_eq_true,decide_eq_true_eq];omega
  rw[hard]
  unfold zF
  by_cases a1:a=1
  ·by_cases b2:b=2<;>simp[a1,b2]
  ·by_cases a2:a=2∨a=3
   ·rw[if_neg a1,if_pos a2,if_neg (fun q=>a1 q.1)];rfl
   ·have b3:b=1∨b=2∨b=3:=by omega
    rw[if_neg a1,if_neg a2,if_pos b3,if_neg (fun q=>a1 q.1)];rfl
 ·have hard:(QG a || QG b)=false:=by
   simp only[QG,Bool.or_eq_false_iff,decide_eq_false_iff_not];omega
  have e1:zF a b=(if b=4∨b=5∨b=8 then true else if a=7 then true else Z2 a b):=by
   unfold zF Z2
   rw[if_neg (show ¬a=1 by omega),if_neg (show ¬(a=2∨a=3) by omega),if_neg (show ¬(b=1∨b=2∨b=3) by omega)]
   simp only[Bool.or_assoc]
  rw[e1,hard,if_neg (show ¬(a=1∧b=2) by omega)]
  clear e1 kP kC kO
  generalize Z2 a b=H
  by_cases b1:b=4∨b=5∨b=8
  ·rw[if_pos b1,if_pos (show b=4∨b=5∨b=8∨a=7 by omega)]
   cases H<;>rfl
  ·rw[if_neg b1]
   by_cases a7:a=7
   ·rw[if_pos a7,if_pos (show b=4∨b=5∨b=8∨a=7 by omega)]
    cases H<;>rfl
   ·rw[if_neg a7,if_neg (show ¬(b=4∨b=5∨b=8∨a=7) by omega)]
    cases H<;>cases C<;>cases P<;>cases O<;>rfl
def Beg(pre:List Int)(x:Int):Prop:=pre=[]∨∃p pre',pre=p::pre'∧v7 za p pre' x=true
theorem Jl.start {pre:List Int} {x:Int}(h:Beg pre x):Jl (qW jr (zx za x) (pcD x) (ZR za x)) x pre:=by
 have q1:= @f1 x
 have q3:= @f3 x
 have q4:=f4 x
 have kp:zx za x=4∨zx za x=5→jK za pre=false∧∀sn,Qc za sn pre=false:=by
  intro hb
  rcases h with rfl|⟨p,pre',rfl,hg⟩
  ·exact⟨rfl,fun _=>rfl⟩
  ·have hp:zx za p=1∨zx za p=2∨zx za p=3:=by
    unfold v7 at hg
    rw[if_neg (by omega)]at hg
    by_cases z:(QG (zx za p) || QG (zx za x))=true
    ·simp only[QG,Bool.or_eq_true,decide_eq_true_eq]at z;omega
    ·rw[if_neg z]at hg
     split at hg
     ·exact absurd hg (by decide)
     ·rw[if_pos (by omega)]at hg
      exact absurd hg (by decide)
   constructor
   ·have a:¬aL za 5 p=1:=fun q=>by have:=f1 q;omega
    rw[jK,if_neg a,if_neg (by omega)]
   ·intro sn
    have c:ZR za p=0:=by
     by_cases c:ZR za p=0
     ·exact c
     ·have:=f2 c;omega
    rw[Qc,if_neg (by omega),if_pos c]
 have kf:zx za x=6→Qa za pre%2=0:=by
  intro hb
  rcases h with rfl|⟨p,pre',rfl,hg⟩
  ·rfl
  ·by_cases hp:zx za p=6
   ·unfold v7 at hg
    rw[if_neg (by omega),if_neg (by rw[hp,hb];decide),if_neg (by rw[hp,hb];decide),if_neg (by omega)]at hg
    split at hg
    ·exact absurd hg (by decide)
    ·split at hg
     ·exact absurd hg (by decide)
     ·unfold WQ at hg
      rw[if_pos hb]at hg
      simp only[Bool.not_eq_true',decide_eq_false_iff_not]at hg
      omega
   ·rw[Qa,if_neg hp]
 refine⟨rfl,rfl,?_,?_,?_,?_,?_⟩
 ·have e:(qW jr (zx za x) (pcD x) (ZR za x)).pict=if pcD x then 1 else 0:=by simp[qW,jr]
  rw[e]
  constructor
  ·intro z;split at z<;>omega
  ·rintro⟨z1,z2⟩
   rw[(kp (.inr z1)).1]at z2
   exact absurd z2 (by decide)
 ·have e:(qW jr (zx za x) (pcD x) (ZR za x)).pict=if pcD x then 1 else 0:=by simp[qW,jr]
  rw[e,jK]
  by_cases a:aL za 5 x=1
  ·simp[pcD,a]
  ·rw[if_neg a]
   simp only[pcD,a,decide_false,Bool.false_eq_true,if_false]
   by_cases e4:zx za x=4
   ·rw[if_pos e4,(kp (.inl e4)).1];simp
   ·rw[if_neg e4];simp
 ·simp only[qW,jr,Bool.not_false,Bool.and_true]
  rw[Qa,decide_eq_decide]
  by_cases e6:zx za x=6
  ·have:=kf e6
   rw[if_pos e6]
   constructor
   ·intro _;omega
   ·intro _;exact e6
  ·rw[if_neg e6];simp[e6]
 ·have e:(qW jr (zx za x) (pcD x) (ZR za x)).conj=if ZR za x=2 then 1 else 0:=by simp[qW,jr]
  rw[e,Qc]
  rcases q4 with c|c|c|c
  ·simp[c]
  ·rw[(kp (q3 (.inl c))).2];simp[c]
  ·simp[c]
  ·rw[(kp (q3 (.inr c))).2];simp[c]
 ·have e:(qW jr (zx za x) (pcD x) (ZR za x)).conj=if ZR za x=2 then 1 else 0:=by simp[qW,jr]
  rw[e,Qc]
  rcases q4 with c|c|c|c
  ·simp[c]
  ·rw[(kp (q3 (.inl c))).2];simp[c]
  ·simp[c]
  ·rw[(kp (q3 (.inr c))).2];simp[c]
theorem WK(s:yW)(x:Int):Zf T0 s x=(qW s (zx za x) (pcD x) (ZR za x),!s.some || kl s (zx za x) (pcD x) (ZR za x)):=by
 unfold Zf pcD
 rw[Jq,zi3,ze1]
theorem ze7:∀(l:List Int) (s:yW) (p:Int) (pre:List Int),Jl s p pre→wu T0 s l=Qh za p pre l
 | [],_,_,_,_=>rfl
 |x::l,s,p,pre,h=>by
  have hc:=h.cut x
  have ih:=ze7 l _ _ _ (h.next x)
  rw[wu,Qh,WK]
  simp only
  rw[h.so,hc,ih]
  simp only[Bool.not_true,Bool.false_or]
  split
  ·rfl
  ·omega
theorem zco:∀(l:List Int) (p:Int) (pre:List Int) (y:Int) (ys:List Int),l.drop (Qh za p pre l)=y::ys→Beg ((l.take (Qh za p pre l)).reverse++p::pre) y
 | [],_,_,_,_,h=>by simp at h
 |x::l,p,pre,y,ys,h=>by
  rw[Qh]at h⊢
  by_cases g:v7 za p pre x=true
  ·rw[if_pos g]at h⊢
   simp only[List.drop_zero]at h
   injection h with h1 _
   subst h1
   exact .inr ⟨p,pre,by simp,g⟩
  ·rw[if_neg g]at h⊢
   rw[List.drop_succ_cons]at h
   have ih:=zco l x (p::pre) y ys h
   rw[List.take_succ_cons,List.reverse_cons,List.append_assoc]
   exact ih
theorem zeT:∀(n:Nat) (l pre:List Int),(∀y ys,l=y::ys→Beg pre y)→xx T0 n l=qC za n pre l
 |0,_,_,_=>rfl
 |_+1,[],_,_=>rfl
 |n+1,x::l,pre,h=>by
  have hb:=h x l rfl
  have e:wu T0 (Zf T0 jr x).1 l=Qh za x pre l:=by
   rw[WK]
   exact ze7 l _ _ _ (Jl.start hb)
  rw[xx,qC,e]
  congr 1
  exact zeT n _ _ (fun y ys hy=>zco l x pre y ys hy)
theorem zi8(l:List Int):w8 T0 l=zI za l:=zeT l.length l [] (fun _ _ _=>.inl rfl)
end Go.Proofs.YtcgfdhdcihmeeaaGreat
end
section
namespace Go.Proofs.YtcgfdhdcihmeeaaGreat
open Go.AM
set_option maxHeartbeats 1000000
set_option maxRecDepth 100000
def znQ:Bool:=za.all fun x=>!decide (x.k=2) || (decide (0≤x.f)&&decide (x.f<1114112)&&decide (0≤x.a)&&decide (x.a<1114112)&&decide (0≤x.b)&&decide (x.b<1114112))
theorem zhS:znQ=true:=by decide+kernel
theorem zl1:decide (za=[])=false:=by decide+kernel
theorem jQ:ZX za:=⟨of_decide_eq_false zl1,znn,fun x hx hk=>by
 have:=List.all_eq_true.1 zhS x hx
 simp only[hk,decide_true,Bool.not_true,Bool.false_or,Bool.and_eq_true,decide_eq_true_eq]at this
 omega⟩
attribute [local irreducible] za
theorem Xi(k:Int→Int)(mk:Int→Int→Option Int):∀(l O:List Int),(l.foldl (um k mk) O).length≤O.length+l.length
 | [],O=>by simp
 |x::l,O=>by
  have ih:=Xi k mk l (um k mk O x)
  have h:(um k mk O x).length≤O.length+1:=by
   unfold um
   split
   ·split
    ·rw[List.length_set];omega
    ·simp
   ·simp
  rw[List.foldl_cons,List.length_cons];omega
theorem uO(rows:List Row):∀(n:Nat) (pre l:List Int),l.length≤n→(qC rows n pre l).flatten=l∧(qC rows n pre l).length≤l.length
 |0,_,l,h=>by
  obtain rfl:=List.eq_nil_of_length_eq_zero (Nat.le_zero.1 h)
  exact⟨rfl,Nat.le_refl _⟩
 |_+1,_,[],_=>⟨rfl,Nat.le_refl _⟩
 |n+1,pre,x::l,h=>by
  simp only[List.length_cons]at h
  rw[qC]
  generalize Qh rows x pre l=k
  obtain⟨h1,h2⟩:=uO rows n ((l.take k).reverse++x::pre) (l.drop k) (by rw[List.length_drop];omega)
  constructor
  ·rw[List.flatten_cons,h1];simp
  ·rw[List.length_cons,List.length_cons]
   rw[List.length_drop]at h2
   omega
theorem Y4:zda (zoj za) (zI za)where
 len l h:=by
  have h1:=zhA za l
  have h2:=Xi (kD za) (mkD za) (zfJ za l) []
  unfold zoj zfs zay
  simp only[List.length_nil]at h2
  omega
 rune l _ hr:=(zfM jQ (zfJ za l) (zgo jQ hr)).r
 flat l:=(uO za l.length [] l (Nat.le_refl _)).1
 num l:=(uO za l.length [] l (Nat.le_refl _)).2
end Go.Proofs.YtcgfdhdcihmeeaaGreat
end
section
namespace Go.Proofs.YtcgfdhdcihmeeaaGreat
open Go.AM
set_option maxHeartbeats 4000000
set_option maxRecDepth 10000
end Go.Proofs.YtcgfdhdcihmeeaaGreat
end
section
namespace Go.Proofs.YtcgfdhdcihmeeaaGreat
open Go.AM
set_option maxHeartbeats 4000000
set_option maxRecDepth 100000
theorem atJ(i:Int):∀(l init:List Span) (o:Span),qH (o::l)→(atL (vg init o l) i).map (·.a)=(atL (init++o::l) i).map (·.a)
 | [],_,_,_=>rfl
 |s::l,init,o,h=>by
  obtain⟨h1,h2,h3,h4,h5⟩:=h
  unfold vg
  by_cases c:o.t+1=s.f∧o.a=s.a∧o.b=s.b
  ·rw[if_pos c,atJ i l init {o with t:=s.t} ⟨show o.f≤s.t by omega,h4,h5⟩]
   unfold atL
   rw[List.find?_append,List.find?_append]
   cases init.find? (fun s=>decide (s.f≤i∧i≤s.t))with
   |some x=>rfl
   |none=>
    simp only[Option.none_or,List.find?_cons]
    by_cases q1:o.f≤i∧i≤o.t
    ·have e1:decide (o.f≤i∧i≤s.t)=true:=decide_eq_true ⟨q1.1,by omega⟩
     have e2:decide (o.f≤i∧i≤o.t)=true:=decide_eq_true q1
     rw[e1,e2];rfl
    ·have e2:decide (o.f≤i∧i≤o.t)=false:=decide_eq_false q1
     rw[e2]
     by_cases q2:s.f≤i∧i≤s.t
     ·have e1:decide (o.f≤i∧i≤s.t)=true:=decide_eq_true ⟨by omega,q2.2⟩
      have e3:decide (s.f≤i∧i≤s.t)=true:=decide_eq_true q2
      rw[e1,e3]
      exact congrArg some c.2.1
     ·have e1:decide (o.f≤i∧i≤s.t)=false:=decide_eq_false (by omega)
      have e3:decide (s.f≤i∧i≤s.t)=false:=decide_eq_false q2
      rw[e1,e3]
  ·rw[if_neg c,atJ i l (init++[o]) s ⟨h3,h4,h5⟩]
   simp
theorem zbo(l:List Span)(c:Int):qJ l c=decide ((atL l c).map (·.a)=some 1):=by
 unfold qJ
 cases atL l c with
 |none=>rfl
 |some s=>simp only[Option.map_some,Option.some.injEq];rfl
theorem zn8(c:Int)(l:List Span)(h:qH l):qJ (Zx l) c=qJ l c:=by
 cases l with
 |nil=>rfl
 |cons s l=>
  rw[zbo,zbo]
  exact congrArg (fun x=>decide (x=some 1)) (atJ c l [] s h)
attribute [local irreducible] za
structure zk7(L:List (List Int)):Prop where
 n:L.length<2^31
 r:∀c∈L,∃x c',c=x::c'∧zY x
end Go.Proofs.YtcgfdhdcihmeeaaGreat
end
section
namespace Go.Proofs.YtcgfdhdcihmeeaaGreat
open Go.AM
set_option maxHeartbeats 4000000
set_option maxRecDepth 10000
attribute [local irreducible] za
end Go.Proofs.YtcgfdhdcihmeeaaGreat
end
section
namespace Go.Proofs.YtcgfdhdcihmeeaaGreat
open Go.AM
set_option maxHeartbeats 4000000
set_option maxRecDepth 10000
attribute [local irreducible] za
theorem zeI(rows:List Row):∀(n:Nat) (pre l:List Int),∀c∈qC rows n pre l,∃x c',c=x::c'
 |0,_,_,c,h=>by simp[qC]at h
 |_+1,_,[],c,h=>by simp[qC]at h
 |n+1,pre,x::l,c,h=>by
  rw[qC]at h
  rcases List.mem_cons.1 h with rfl|h
  ·exact⟨_,_,rfl⟩
  ·exact zeI rows n _ _ c h
theorem zc9(l:List Int)(hn:l.length<2^31)(hr:∀x∈l,zY x):zk7 (zI za l)where
 n:=by have:=Y4.num l;omega
 r c hc:=by
  obtain⟨x,c',rfl⟩:=zeI za _ _ _ c hc
  refine⟨x,c',rfl,hr x ?_⟩
  have:x∈(zI za l).flatten:=List.mem_flatten.2 ⟨_,hc,by simp⟩
  rw[Y4.flat]at this
  exact this
end Go.Proofs.YtcgfdhdcihmeeaaGreat
end
section
namespace Go.AM
def Sem [Gi](P:Program)(c:Code)(Q:Exit→St→Prop)(S:St):Prop:=∀(E:Ent) (g:Gh) (a:Act) (w:World),SR E S g a w→c.wp P (post E Q) a w
theorem Sem.of [Gi] {P:Program}(D:List Nat) {c:Code} {Q:Exit→St→Prop} {S:St}(hm:P.follows .mixedOrders=true)(h:wpA P D c Q S)(hok:q9 D c=true:=by rfl):Sem P c Q S:=
 fun _ _ _ _ hS=>Zq hm c hok h hS
def znG [Gi](P:Program)(y:Code)(Q:Exit→St→Prop):Exit→St→Prop:=fun e S=>match e with|.normal=>Sem P y Q S|e=>Q e S
theorem Sem.seq [Gi] {P:Program} {x y:Code} {Q:Exit→St→Prop} {S:St}(h:Sem P x (znG P y Q) S):Sem P (.seq x y) Q S:=by
 intro E g a w hS
 refine wp_seq (wp_mono (h E g a w hS) ?_)
 rintro e a' w' ⟨S',g',hq,hs⟩
 cases e with
 |normal=>exact hq E g' a' w' hs
 |_=>exact⟨S',g',hq,hs⟩
theorem Sem.yf [Gi] {P:Program}(D:List Nat) {x y:Code} {Q:Exit→St→Prop} {S:St}(hm:P.follows .mixedOrders=true)(h:wpA P D x (znG P y Q) S)(hok:q9 D x=true:=by rfl):Sem P (.seq x y) Q S:=Sem.seq (Sem.of D hm h hok)
theorem Sem.mono [Gi] {P:Program} {c:Code} {Q Q':Exit→St→Prop} {S:St}(h:Sem P c Q S)(hq:∀e S',Q e S'→Q' e S'):Sem P c Q' S:=
 fun E g a w hS=>wp_mono (h E g a w hS) fun _ _ _ ⟨S',g',k,hs⟩=>⟨S',g',hq _ _ k,hs⟩
theorem Sem.label [Gi] {P:Program} {l:Nat} {y:Code} {Q:Exit→St→Prop} {S:St}(h:Sem P y Q S):Sem P (.seq (.label l) y) Q S:=by
 intro E g a w hS
 exact wp_seq (wp_label (h E g a w hS))
theorem Sem.goto [Gi] {P:Program} {l:Nat} {Q:Exit→St→Prop} {S:St}(h:Q (.goto l) S):Sem P (.goto l) Q S:=fun _ g _ _ hS=>wp_goto ⟨S,g,h,hS⟩
theorem Sem.skip [Gi] {P:Program} {Q:Exit→St→Prop} {S:St}(h:Q .normal S):Sem P .skip Q S:=fun _ g _ _ hS=>wp_skip ⟨S,g,h,hS⟩
theorem Sem.cond [Gi] {P:Program} {c:Operand} {x y:Code} {Q:Exit→St→Prop} {S:St}(b:Bool)(hc:S.ev c=.p (.bool b))(h:Sem P (if b then x else y) Q S):Sem P (.cond c x y) Q S:=by
 intro E g a w hS
 have hr:=hS.ev c
 rw[hc]at hr
 simp only[zb,zj]at hr
 cases b with
 |true=>exact wp_cond_true hr (h E g a w hS)
 |false=>exact wp_cond_false hr (h E g a w hS)
theorem Sem.clean [Gi] {P:Program} {c:Code} {Q:Exit→St→Prop} {S:St}(h:Sem P c Q {S with ts:=[]}):Sem P c Q S:=fun E g a w hS=>h E g a w hS.clean
theorem Sem.le [Gi] {P:Program} {c:Code} {Q:Exit→St→Prop} {S S1:St}(h:Sem P c Q S1)(hl:LeS S S1):Sem P c Q S:=fun E _ a w hS=>by
 obtain⟨g',h'⟩:=hS.le hl
 exact h E g' a w h'
def zox(Q:Exit→St→Prop):Exit→St→Prop:=fun e S=>match e with|.goto _=>False|e=>Q e S
theorem Sem.scope [Gi] {P:Program} {c:Code} {Q:Exit→St→Prop} {S:St}(h:Sem P c (zox Q) S):Sem P (.scope c) Q S:=by
 intro E g a w hS
 refine wp_scope_straight (wp_mono (h E g a w hS) ?_)
 rintro e a' w' ⟨S',g',hq,hs⟩
 cases e with
 |goto l=>exact hq.elim
 |_=>exact⟨S',g',hq,hs⟩
end Go.AM
namespace Go.AM
end Go.AM
end
section
namespace Go.Proofs.YtcgfdhdcihmeeaaGreat
open Go.AM
set_option maxRecDepth 10000
def cw:zw→List AV
 | []=>[]
 |c::l=>.p (.str c.t)::.p (.int .i64 c.w)::cw l
theorem QZ(l:zw):(cw l).length=2*l.length:=by
 induction l with
 |nil=>rfl
 |cons c l ih=>simp only[cw,List.length_cons,ih];omega
theorem ziN(l m:zw):cw (l++m)=cw l++cw m:=by
 induction l with
 |nil=>rfl
 |cons c l ih=>simp only[List.cons_append,cw,ih]
theorem qy(f:Tok→Option Tok)(l:zw):List.map (AV.ren f) (cw l)=cw l:=by
 induction l with
 |nil=>rfl
 |cons c l ih=>simp only[cw,List.map_cons,ih];rfl
theorem zG(rt tt:Tok→Bool)(l:zw):List.map (AV.upd (fil rt tt)) (cw l)=cw l:=by
 induction l with
 |nil=>rfl
 |cons c l ih=>simp only[cw,List.map_cons,ih];rfl
theorem xY(r1 t1 r2 t2:Tok→Bool)(l:zw):List.map (AV.upd (fil r1 t1)∘AV.upd (fil r2 t2)) (cw l)=cw l:=by rw[←List.map_map,zG,zG]
def bl(c:Nat):List AV:=cw (List.replicate c blk)
theorem Kb:bl 0=[]:=rfl
theorem UW(c:Nat):bl (c+1)=bl c++[.p (.str [32]),.p (.int .i64 1)]:=by
 rw[bl,List.replicate_succ',ziN];rfl
theorem zjn(c:Nat):(bl c).length=2*c:=by rw[bl,QZ,List.length_replicate]
theorem zaj(f:Tok→Option Tok)(c:Nat):List.map (AV.ren f) (bl c)=bl c:=qy _ _
theorem zek(r1 t1 r2 t2:Tok→Bool)(c:Nat):List.map (AV.upd (fil r1 t1)∘AV.upd (fil r2 t2)) (bl c)=bl c:=xY _ _ _ _ _
theorem QV(rt tt:Tok→Bool)(c:Nat):List.map (AV.upd (fil rt tt)) (bl c)=bl c:=zG _ _ _
theorem zkJ(l:zw)(c:Nat):List.take (c*2) (cw l)=cw (l.take c):=by
 induction l generalizing c with
 |nil=>simp[cw]
 |cons x l ih=>
  cases c with
  |zero=>rfl
  |succ c=>
   rw[show(c+1)*2=c*2+1+1 from by omega]
   simp only[cw,List.take_succ_cons,ih]
theorem zjP(l:zw)(c:Nat):List.drop (c*2) (cw l)=cw (l.drop c):=by
 induction l generalizing c with
 |nil=>simp[cw]
 |cons x l ih=>
  cases c with
  |zero=>rfl
  |succ c=>
   rw[show(c+1)*2=c*2+1+1 from by omega]
   simp only[cw,List.drop_succ_cons,ih]
theorem zc6 {l:zw} {c:Nat}(h:c<l.length):(cw l)[c*2+1]?=some (.p (.int .i64 l[c].w)):=by
 induction l generalizing c with
 |nil=>simp at h
 |cons x l ih=>
  cases c with
  |zero=>rfl
  |succ c=>
   rw[show(c+1)*2+1=c*2+1+1+1 from by omega]
   simp only[cw,List.getElem?_cons_succ,List.getElem_cons_succ]
   exact ih (by simpa using h)
theorem jG {l:zw} {c:Nat}(t:List UInt8)(w:Int)(h:c<l.length):List.take (c*2) (cw l)++.p (.str t)::.p (.int .i64 w)::List.drop (c*2+2) (cw l)=cw (l.set c ⟨t,w⟩):=by
 rw[show c*2+2=(c+1)*2 from by omega,zkJ,zjP,List.set_eq_take_append_cons_drop,if_pos h,ziN]
 rfl
def Qu(l:zw)(c:Nat):zw:=if(l.getD c blk).w=0 then l.set (c-1) blk else l
def QK(l:zw)(c:Nat):zw:=if(l.getD c blk).w=2 then l.set (c+1) blk else l
def qv(l:zw)(c:Nat):zw:=(QK (Qu l c) c).set c blk
theorem qM {l:zw} {c:Nat}(h:c<l.length):l.getD c blk=l[c]:=by rw[List.getD_eq_getElem?_getD,List.getElem?_eq_getElem h];rfl
theorem uX(l:zw)(c:Nat):(Qu l c).length=l.length:=by unfold Qu;split<;>simp
theorem uQ(l:zw)(c:Nat):(QK l c).length=l.length:=by unfold QK;split<;>simp
theorem Q7(l:zw)(c:Nat):(qv l c).length=l.length:=by rw[qv,List.length_set,uQ,uX]
def OkR(l:zw):Prop:=∀(c:Nat) (x:Cl),l[c]?=some x→(x.w=0→0<c)∧(x.w=2→c+1<l.length)
theorem OkR.set {l:zw}(h:OkR l)(c:Nat)(x:Cl)(h0:x.w=0→0<c)(h2:x.w=2→c+1<l.length):OkR (l.set c x):=fun k y hy=>by
 rw[List.length_set]
 rw[List.getElem?_set]at hy
 split at hy
 ·rename_i e
  split at hy
  ·injection hy with hy;subst hy;subst e;exact⟨h0,h2⟩
  ·cases hy
 ·exact h k y hy
theorem OkR.blank {l:zw}(h:OkR l)(c:Nat):OkR (l.set c blk):=h.set c blk (by simp[blk]) (by simp[blk])
theorem OkR.Qu {l:zw}(h:OkR l)(c:Nat):OkR (Qu l c):=by unfold Go.Proofs.YtcgfdhdcihmeeaaGreat.Qu;split<;>first|exact h.blank _|exact h
theorem OkR.QK {l:zw}(h:OkR l)(c:Nat):OkR (QK l c):=by unfold Go.Proofs.YtcgfdhdcihmeeaaGreat.QK;split<;>first|exact h.blank _|exact h
theorem OkR.qv {l:zw}(h:OkR l)(c:Nat):OkR (qv l c):=((h.Qu c).QK c).blank c
def y8(l:zw)(c:Nat)(x:Cl):zw:=(if x.w=2 then(qv (qv l c) (c+1)).set (c+1) ⟨[],0⟩else qv l c).set c x
def UT(C R:Nat)(r c:Int)(x:Cl):Bool:=decide (0≤r)&&decide (r<R)&&decide (0≤c)&&decide (c<C)&&(decide (x.w=1) || decide (x.w=2))&&(!decide (x.w=2) || decide (c+1<C))
def UM(C R:Nat)(r c:Int)(x:Cl)(i:Nat)(l:zw):zw:=if UT C R r c x then if r=(i:Int)then y8 l c.toNat x else l else l
theorem zg8(l:zw)(c:Nat)(x:Cl):(y8 l c x).length=l.length:=by
 unfold y8
 split<;>simp[Q7]
theorem zix(C R:Nat)(r c:Int)(x:Cl)(i:Nat)(l:zw):(UM C R r c x i l).length=l.length:=by
 unfold UM
 split
 ·split
  ·exact zg8 _ _ _
  ·rfl
 ·rfl
theorem zj4(C R:Nat)(r c:Int)(x:Cl)(i:Nat)(l:zw)(hl:l.length=C)(h:OkR l):OkR (UM C R r c x i l):=by
 unfold UM
 split
 ·rename_i hb
  split
  ·have hb':((((0≤r∧r<R)∧0≤c)∧c<C)∧(x.w=1∨x.w=2))∧(¬x.w=2∨c+1<C):=by simpa[UT]using hb
   obtain⟨⟨⟨⟨_,h0⟩,h1⟩,h2⟩,h3⟩:=hb'
   unfold y8
   by_cases hw:x.w=2
   ·rw[if_pos hw]
    refine(((h.qv _).qv _).set _ _ (fun _=>by omega) (fun e=>by simp at e)).set _ _ (fun e=>by omega) (fun _=>?_)
    rw[List.length_set,Q7,Q7,hl]
    have:=h3.resolve_left (by simpa using hw)
    omega
   ·rw[if_neg hw]
    exact(h.qv _).set _ _ (fun e=>by omega) (fun e=>absurd e hw)
  ·exact h
 ·exact h
def zc:Cl:=⟨[],0⟩
def nw(n i:Nat):zw:=List.replicate i blk++List.replicate (n-i) zc
theorem zmE {n i:Nat}(h:i≤n):(nw n i).length=n:=by simp[nw];omega
theorem zjT(n:Nat):(List.replicate n [AV.p (PV.str []),AV.p (PV.int .i64 0)]).flatten=cw (nw n 0):=by
 have:∀n,(List.replicate n [AV.p (PV.str []),AV.p (PV.int .i64 0)]).flatten=cw (List.replicate n zc):=by
  intro n
  induction n with
  |zero=>rfl
  |succ n ih=>
   simp only[List.replicate_succ,List.flatten_cons]at ih⊢
   rw[ih];rfl
 rw[this,nw];rfl
theorem zlD {n i:Nat}(h:i<n):(nw n i).set i blk=nw n (i+1):=by
 apply List.ext_getElem?
 intro j
 simp only[nw,List.getElem?_set,List.getElem?_append,List.length_append,List.length_replicate,List.getElem?_replicate]
 repeat' split
 all_goals first|rfl|(exfalso;omega)
theorem zmt(n:Nat):nw n n=List.replicate n blk:=by simp[nw]
def inB(R C:Nat)(r c:Int):Bool:=decide (0≤r)&&decide (r<R)&&decide (0≤c)&&decide (c<C)
def yD(l:zw)(i:Nat):zw:=if(l.getD i blk).w=0 then l.set (i-1) blk else if(l.getD i blk).w=2 then l.set (i+1) blk else l
def qE(l:zw)(i:Nat):zw:=(yD l i).set i blk
theorem YX(l:zw)(i:Nat):(yD l i).length=l.length:=by unfold yD;split<;>(try split)<;>simp
theorem Q4(l:zw)(i:Nat):(qE l i).length=l.length:=by rw[qE,List.length_set,YX]
theorem OkR.qE {l:zw}(h:OkR l)(i:Nat):OkR (qE l i):=by
 unfold Go.Proofs.YtcgfdhdcihmeeaaGreat.qE yD
 split
 ·exact(h.blank _).blank _
 ·split
  ·exact(h.blank _).blank _
  ·exact h.blank _
def kV(R C:Nat)(r c:Int)(x:Cl):Bool:=inB R C r c&&(decide (x.w=1) || decide (x.w=2))&&inB R C r (c+x.w-1)
def V4(l:zw)(i:Nat)(x:Cl):zw:=(if x.w=2 then(qE (qE l i) (i+1)).set (i+1) ⟨[],0⟩else qE l i).set i x
def QP(R C:Nat)(r c:Int)(x:Cl)(l:zw):zw:=if kV R C r c x then V4 l (r.toNat*C+c.toNat) x else l
theorem ziz(l:zw)(i:Nat)(x:Cl):(V4 l i x).length=l.length:=by
 unfold V4
 split<;>simp[Q4]
theorem zg0(R C:Nat)(r c:Int)(x:Cl)(l:zw):(QP R C r c x l).length=l.length:=by
 unfold QP
 split
 ·exact ziz _ _ _
 ·rfl
theorem ziW(R C:Nat)(r c:Int)(x:Cl)(l:zw)(hl:l.length=R*C)(h:OkR l):OkR (QP R C r c x l):=by
 unfold QP
 split
 ·rename_i hb
  have hb':((((0≤r∧r<R)∧0≤c)∧c<C)∧(x.w=1∨x.w=2))∧((0≤r∧r<R)∧0≤c+x.w-1)∧c+x.w-1<C:=by simpa[kV,inB]using hb
  obtain⟨⟨⟨⟨⟨h0,h0'⟩,h1⟩,h2⟩,h3⟩,_,h4⟩:=hb'
  have hk:r.toNat*C+C≤R*C:=by rw[←Nat.succ_mul];exact Nat.mul_le_mul_right _ (by omega)
  unfold V4
  by_cases hw:x.w=2
  ·rw[if_pos hw]
   refine(((h.qE _).qE _).set _ _ (fun _=>by omega) (fun e=>by simp at e)).set _ _ (fun e=>by omega) (fun _=>?_)
   rw[List.length_set,Q4,Q4,hl]
   omega
  ·rw[if_neg hw]
   exact(h.qE _).set _ _ (fun e=>by omega) (fun e=>absurd e hw)
 ·exact h
def Za(l:zw):PV:=.sl 2 (l.map clP)
attribute [go_sem] Za
theorem zfr(l:zw):cw l=((l.map clP).flatMap PV.cells).map .p:=by
 induction l with
 |nil=>rfl
 |cons c l ih=>
  simp only[List.map_cons,List.flatMap_cons,List.map_append,←ih]
  rfl
theorem Ku(l:zw):∀e∈l.map clP,e.cells.length=2∧e.fits=true:=by
 intro e he
 simp only[List.mem_map]at he
 obtain⟨c,_,rfl⟩:=he
 exact⟨rfl,rfl⟩
def zk(C:Nat)(l:zw)(k:Nat):zw:=(l.drop (k*C)).take C
theorem ZW {R C:Nat} {l:zw} {k:Nat}(hl:l.length=R*C)(hk:k<R):(zk C l k).length=C:=by
 have h5:k*C+C≤R*C:=by rw[←Nat.succ_mul];exact Nat.mul_le_mul_right _ hk
 simp only[zk,List.length_take,List.length_drop];omega
theorem zeD(x y:Cl):(x.t=y.t∧x.w=y.w)↔x=y:=by
 cases x;cases y;simp
theorem zfn {C i c j d:Nat}(hc:c<C)(hd:d<C):i*C+c=j*C+d↔i=j∧c=d:=by
 constructor
 ·intro h
  have h1:(i*C+c)/C=i:=by rw[Nat.add_comm,Nat.mul_comm,Nat.add_mul_div_left _ _ (by omega),Nat.div_eq_of_lt hc];omega
  have h2:(j*C+d)/C=j:=by rw[Nat.add_comm,Nat.mul_comm,Nat.add_mul_div_left _ _ (by omega),Nat.div_eq_of_lt hd];omega
  have:i=j:=by rw[←h1,←h2,h]
  subst this
  exact⟨rfl,by omega⟩
 ·rintro⟨rfl,rfl⟩;rfl
theorem va {C:Nat} {l:zw} {k c:Nat}(hc:c<C):(zk C l k)[c]?=l[k*C+c]?:=by
 rw[zk,List.getElem?_take,if_pos hc,List.getElem?_drop]
theorem zdM {C:Nat} {l:zw} {k c:Nat}(hc:c<C):(zk C l k).getD c blk=l.getD (k*C+c) blk:=by
 rw[List.getD_eq_getElem?_getD,List.getD_eq_getElem?_getD,va hc]
theorem zia {C:Nat} {a b:zw}(ha:a.length≤C)(hb:b.length≤C)(h:∀c,c<C→a[c]?=b[c]?):a=b:=by
 apply List.ext_getElem?
 intro c
 by_cases hc:c<C
 ·exact h c hc
 ·rw[List.getElem?_eq_none (by omega),List.getElem?_eq_none (by omega)]
theorem vq {C:Nat} {l:zw} {k:Nat}:(zk C l k).length≤C:=by rw[zk];simp;omega
theorem ZL {C:Nat} {l:zw} {i c k:Nat} {x:Cl}(hc:c<C):zk C (l.set (i*C+c) x) k=if k=i then(zk C l i).set c x else zk C l k:=by
 apply zia vq (by split<;>simp[vq])
 intro d hd
 rw[va hd,List.getElem?_set]
 by_cases hk:k=i
 ·subst hk
  rw[if_pos rfl,List.getElem?_set,va hd]
  by_cases hcd:c=d
  ·subst hcd
   rw[if_pos rfl,if_pos rfl]
   by_cases hl:k*C+c<l.length
   ·rw[if_pos hl,if_pos (by rw[zk];simp;omega)]
   ·rw[if_neg hl,if_neg (by rw[zk];simp;omega)]
  ·rw[if_neg (fun e=>hcd ((zfn hc hd).1 e).2),if_neg hcd]
 ·rw[if_neg hk,if_neg (fun e=>hk ((zfn hc hd).1 e).1.symm),va hd]
theorem Xj {C:Nat} {l:zw} {i c k:Nat}(hc:c<C)(_:i*C+c<l.length)(ho:OkR (zk C l i))(hlen:(zk C l i).length=C):zk C (qE l (i*C+c)) k=if k=i then qv (zk C l i) c else zk C l k:=by
 have hcl:c< (zk C l i).length:=by omega
 have hget:=zdM (C:=C) (l:=l) (k:=i) hc
 have hrow:=qM hcl
 obtain⟨o1,o2⟩:=ho c _ (List.getElem?_eq_getElem hcl)
 rw[←hrow,hget]at o1 o2
 rw[hlen]at o2
 unfold qE yD qv QK Qu
 rw[hget]
 by_cases h0:(l.getD (i*C+c) blk).w=0
 ·rw[if_pos h0,if_pos h0]
  have hp:=o1 h0
  have e1:i*C+c-1=i*C+(c-1):=by omega
  have e2:((zk C l i).set (c-1) blk).getD c blk=l.getD (i*C+c) blk:=by
   rw[←hget,List.getD_eq_getElem?_getD,List.getD_eq_getElem?_getD,List.getElem?_set,if_neg (by omega)]
  have h2n:¬(l.getD (i*C+c) blk).w=2:=by omega
  rw[e2,if_neg h2n,e1,ZL hc]
  by_cases hk:k=i
  ·rw[if_pos hk,if_pos hk,ZL (by omega),if_pos rfl]
  ·rw[if_neg hk,if_neg hk,ZL (by omega),if_neg hk]
 ·rw[if_neg h0,if_neg h0,hget]
  by_cases h2:(l.getD (i*C+c) blk).w=2
  ·have hp:=o2 h2
   rw[if_pos h2,if_pos h2,show i*C+c+1=i*C+(c+1)from by omega,ZL hc]
   by_cases hk:k=i
   ·rw[if_pos hk,if_pos hk,ZL hp,if_pos rfl]
   ·rw[if_neg hk,if_neg hk,ZL hp,if_neg hk]
  ·rw[if_neg h2,if_neg h2,ZL hc]
theorem zhL(R C:Nat)(r c:Int)(x:Cl):kV R C r c x=UT C R r c x:=by
 rw[Bool.eq_iff_iff]
 simp only[kV,UT,inB,Bool.and_eq_true,Bool.or_eq_true,decide_eq_true_eq,Bool.not_eq_true']
 by_cases h:x.w=2
 ·simp[h];omega
 ·simp[h];omega
theorem zla {R C i c:Nat} {l:zw}(hl:l.length=R*C)(hi:i<R)(hc:c<C):i*C+c<l.length:=by
 have:(i+1)*C≤R*C:=Nat.mul_le_mul (by omega) (Nat.le_refl _)
 rw[Nat.add_mul]at this
 omega
theorem zkm {R C:Nat} {l:zw} {i c k:Nat} {x:Cl}(hl:l.length=R*C)(hi:i<R)(hc:c<C)(hw:x.w=2→c+1<C)(ho:OkR (zk C l i)):
  zk C (V4 l (i*C+c) x) k=if k=i then y8 (zk C l i) c x else zk C l k:=by
 have hlen:=ZW hl hi
 have L1:∀k,zk C (qE l (i*C+c)) k=if k=i then qv (zk C l i) c else zk C l k:=fun k=>Xj hc (zla hl hi hc) ho hlen
 unfold V4 y8
 by_cases h2:x.w=2
 ·have hc1:=hw h2
  rw[if_pos h2,if_pos h2]
  have hl1:(qE l (i*C+c)).length=R*C:=by rw[Q4,hl]
  have r1:=L1 i
  rw[if_pos rfl]at r1
  have L2:∀k,zk C (qE (qE l (i*C+c)) (i*C+c+1)) k=if k=i then qv (qv (zk C l i) c) (c+1)else zk C l k:=fun k=>by
   rw[show i*C+c+1=i*C+(c+1)from by omega,Xj hc1 (zla hl1 hi hc1) (by rw[r1];exact ho.qv c) (by rw[r1,Q7,hlen]),r1]
   by_cases hk:k=i
   ·rw[if_pos hk,if_pos hk]
   ·rw[if_neg hk,if_neg hk,L1,if_neg hk]
  rw[ZL hc,show i*C+c+1=i*C+(c+1)from by omega]
  rw[show i*C+c+1=i*C+(c+1)from by omega]at L2
  by_cases hk:k=i
  ·rw[if_pos hk,if_pos hk,ZL hc1,if_pos rfl,L2,if_pos rfl]
  ·rw[if_neg hk,if_neg hk,ZL hc1,if_neg hk,L2,if_neg hk]
 ·rw[if_neg h2,if_neg h2,ZL hc]
  by_cases hk:k=i
  ·rw[if_pos hk,if_pos hk,L1,if_pos rfl]
  ·rw[if_neg hk,if_neg hk,L1,if_neg hk]
theorem zfx {R C:Nat} {l:zw} {i:Nat} {r c:Int} {x:Cl}(hl:l.length=R*C)(_:i<R)(ho:∀j,j<R→OkR (zk C l j)):zk C (QP R C r c x l) i=UM C R r c x i (zk C l i):=by
 unfold QP UM
 rw[zhL]
 by_cases hb:UT C R r c x=true
 ·rw[if_pos hb,if_pos hb]
  simp only[UT,Bool.and_eq_true,Bool.or_eq_true,decide_eq_true_eq,Bool.not_eq_true',decide_eq_false_iff_not]at hb
  obtain⟨⟨⟨⟨⟨h0,h1⟩,h2⟩,h3⟩,_⟩,h5⟩:=hb
  obtain⟨q,rfl⟩:∃q:Nat,r=q:=⟨r.toNat,by omega⟩
  obtain⟨p,rfl⟩:∃p:Nat,c=p:=⟨c.toNat,by omega⟩
  simp only[Int.toNat_natCast]
  rw[zkm hl (by omega) (by omega) (fun h=>by rcases h5 with h5|h5<;>omega) (ho q (by omega))]
  by_cases hk:i=q
  ·subst hk;rw[if_pos rfl,if_pos rfl]
  ·rw[if_neg hk,if_neg (by omega)]
 ·rw[if_neg hb,if_neg hb]
theorem kd {Q:Cl→Prop} {l:zw} {c:Nat} {x:Cl}(h:∀y∈l,Q y)(hx:Q x):∀y∈l.set c x,Q y:=fun y hy=>by
 rcases List.mem_or_eq_of_mem_set hy with h1|h1
 ·exact h y h1
 ·rw[h1];exact hx
theorem uT {Q:Cl→Prop} {l:zw} {i:Nat}(h:∀y∈l,Q y)(hb:Q blk):∀y∈qE l i,Q y:=by
 unfold qE yD
 split
 ·exact kd (kd h hb) hb
 ·split
  ·exact kd (kd h hb) hb
  ·exact kd h hb
end Go.Proofs.YtcgfdhdcihmeeaaGreat
end
