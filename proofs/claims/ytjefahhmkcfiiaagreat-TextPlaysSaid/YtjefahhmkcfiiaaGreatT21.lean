/- A part of the proof of this seat's statements, by an abstract machine: what each operation does to values, and what the law's functions compute. Conditions: as each law says. -/
import Derived.Test.YtjefahhmkcfiiaaGreatT20
import Derived.Test.YtjefahhmkcfiiaaGreatT18
import Derived.Test.YtjefahhmkcfiiaaGreatT17
import Derived.Test.YtjefahhmkcfiiaaGreatT19
section
namespace Go.Proofs.YtjefahhmkcfiiaaGreat
open Go.AM
set_option maxHeartbeats 4000000
set_option maxRecDepth 10000
def ym(s:Span)(c:Int):Int:=if s.t<c then -1 else if c<s.f then 1 else 0
def J7:PV:=.opq (.func (.func 163) #[] #[])
theorem zaN [Gi](s:Span)(c:Int):CR Tryz.prog 163 [] [.p (qn s),.p (.int .i64 c)] [] (is (.p (.int .i64 (ym s c)))):=by
 refine zm mixed 6 [] Tryz.func163 rfl (by kernel_rfl) rfl (by simp) (by simp) ?_
 simp[go_sem,Tryz.f163,qn]
 refine zA (fun h=>?_) (fun h=>?_)
 ·simp[go_sem]
  exact zh (.p (.int .i64 (-1))) rfl (by simp[go_sem,zd,leA,leT]) ⟨rfl,by simp[ym,h]⟩
 ·simp[go_sem]
  refine zA (fun h2=>?_) (fun h2=>?_)
  ·simp[go_sem]
   exact zh (.p (.int .i64 1)) rfl (by simp[go_sem,zd,leA,leT]) ⟨rfl,by simp[ym,h,h2]⟩
  ·simp[go_sem]
   exact zh (.p (.int .i64 0)) rfl (by simp[go_sem,zd,leA,leT]) ⟨rfl,by simp[ym,h,h2]⟩
theorem Ze.lt:∀{l:List Span},Ze l→∀i j (hi:i<l.length) (hj:j<l.length),i<j→l[i].t<l[j].f
 | [],_,i,j,hi,_,_=>by simp at hi
 |s::l,h,i,j,hi,hj,hij=>by
  cases j with
  |zero=>omega
  |succ j=>
   cases i with
   |zero=>exact h.2.1 _ (List.getElem_mem _)
   |succ i=>exact Ze.lt h.2.2 i j _ _ (by omega)
theorem Ze.le:∀{l:List Span},Ze l→∀s∈l,s.f≤s.t
 | [],_,s,hs=>by simp at hs
 |a::l,h,s,hs=>by
  rcases List.mem_cons.1 hs with rfl|hs
  ·exact h.1
  ·exact Ze.le h.2.2 s hs
theorem VV {x:Int}(h1:0≤x)(h2:x≤9223372036854775807):IntKind.u64.wrap x=x:=by
 simp[IntKind.wrap,IntKind.signed,IntKind.bits];omega
def zov(l:List Span)(c:Int)(x:AV):Prop:=(∃i:Nat,∃hi:i<l.length,x=.tup [.p (.int .i64 i),.p (.bool true)]∧l[i].f≤c∧c≤l[i].t)∨∃i:Nat,x=.tup [.p (.int .i64 i),.p (.bool false)]∧∀s∈l,¬(s.f≤c∧c≤s.t)
theorem zi6 [Gi](l:List Span)(c:Int)(hR:Ze l)(hn:l.length<2^31):CR Tryz.prog 162 [] [.p (zR l),.p (.int .i64 c),.p J7] [] (fun x rs=>rs=[]∧zov l c x):=by
 refine zm mixed 12 [] Tryz.func162 rfl (by kernel_rfl) rfl (by simp) (by simp) ?_
 simp[go_sem,Tryz.f162,zR]
 refine zj (fun r:Nat×Nat=>r.1≤r.2∧r.2≤l.length∧(∀i (hi:i<l.length),i<r.1→l[i].t<c)∧∀i (hi:i<l.length),r.2≤i→c≤l[i].t) (fun r=>[(9,.p (.int .i64 (r.1:Nat))),(10,.p (.int .i64 (r.2:Nat)))]) (fun _=>[]) (fun r=>r.2-r.1) (0,l.length) ⟨by simp,by simp,by simp,fun i hi h=>absurd h (by simpa using hi)⟩ (by simp[go_sem,LeS,leV,leR,leA]) (fun r hr=>?_)
 obtain⟨i,j⟩:=r
 obtain⟨h1,h2,h3,h4⟩:=hr
 simp only at h1 h2 h3 h4
 simp (maxSteps:=1000000) [go_sem]
 refine zA (fun h=>?_) (fun h=>?_)
 ·obtain⟨s,hs⟩:∃s,s=i+j:=⟨_,rfl⟩
  obtain⟨m,hm⟩:∃m,m=s/2:=⟨_,rfl⟩
  have w1:IntKind.i64.wrap ((i:Int)+j)=(s:Int):=by rw[wrap64 (by omega) (by omega)];omega
  have w2:IntKind.u64.wrap (s:Int)=(s:Int):=VV (by omega) (by omega)
  have w3:(s:Int).fdiv 2=(m:Int):=by rw[Int.fdiv_eq_ediv_of_nonneg _ (by omega)];omega
  have w4:IntKind.i64.wrap (m:Int)=(m:Int):=wrap64 (by omega) (by omega)
  have w5:IntKind.i64.wrap ((m:Int)+1)=((m+1:Nat):Int):=by rw[wrap64 (by omega) (by omega)];rfl
  have hml:m<l.length:=by omega
  have em:=zr qn l m hml
  obtain⟨q,hq⟩:∃q,l[m]=q:=⟨_,rfl⟩
  rw[hq]at em
  simp (maxSteps:=1000000) [go_sem,w1,w2,w3,w4,em,qn,hml,J7]
  refine⟨⟨rfl,by simp[Tryz.f163]⟩,zb [] (zaN q c) (by simp[go_sem]) ⟨by simp[go_sem],by simp[go_sem,qn]⟩ (by simp[go_sem]) ?_⟩
  rintro _ rs ⟨rfl,rfl⟩
  simp (maxSteps:=1000000) [go_sem]
  refine zA (fun hb=>?_) (fun hb=>?_)
  ·have hb':q.t<c:=by
    unfold ym at hb
    split at hb
    ·assumption
    ·split at hb<;>omega
   simp (maxSteps:=1000000) [go_sem,w5]
   refine zf (m+1,j) ⟨by show m+1≤j;omega,h2,fun k hk hkm=>?_,h4⟩ (by simp[go_sem,LeS,leV,leR,leA]) (by show j- (m+1)<j-i;omega)
   by_cases e:k=m
   ·subst e;rw[hq];exact hb'
   ·have:=hR.lt k m hk hml (by simp at hkm;omega)
    have:=hR.le l[m] (List.getElem_mem _)
    rw[hq]at*
    omega
  ·have hb':c≤q.t:=by
    unfold ym at hb
    split at hb
    ·omega
    ·omega
   simp (maxSteps:=1000000) [go_sem]
   refine zf (i,m) ⟨by show i≤m;omega,by show m≤l.length;omega,h3,fun k hk hkm=>?_⟩ (by simp[go_sem,LeS,leV,leR,leA]) (by show m-i<j-i;omega)
   by_cases e:k=m
   ·subst e;rw[hq];exact hb'
   ·have:=hR.lt m k hml hk (by simp at hkm;omega)
    have:=hR.le l[k] (List.getElem_mem _)
    rw[hq]at*
    omega
 ·obtain rfl:i=j:=by omega
  by_cases hil:i<l.length
  ·have em:=zr qn l i hil
   have hc:=h4 i hil (Nat.le_refl _)
   have hrest:∀k,(hk:k<l.length)→k≠i→¬(l[k].f≤c∧c≤l[k].t):=fun k hk hki h=>by
    by_cases hk2:k<i
    ·have:=h3 k hk hk2
     omega
    ·have:=hR.lt i k hil hk (by omega)
     omega
   obtain⟨q,hq⟩:∃q,l[i]=q:=⟨_,rfl⟩
   rw[hq]at em hc
   simp (maxSteps:=1000000) [go_sem,em,qn,hil,J7]
   refine⟨⟨rfl,by simp[Tryz.f163]⟩,zb [] (zaN q c) (by simp[go_sem]) ⟨by simp[go_sem],by simp[go_sem,qn]⟩ (by simp[go_sem]) ?_⟩
   rintro _ rs ⟨rfl,rfl⟩
   simp (maxSteps:=1000000) [go_sem]
   by_cases hf:q.f≤c
   ·have hb:ym q c=0:=by unfold ym;rw[if_neg (by omega),if_neg (by omega)]
    simp (maxSteps:=1000000) [go_sem,hb]
    exact zh (.tup [.p (.int .i64 i),.p (.bool true)]) rfl (by simp[go_sem,zd,leA,leT,leP]) ⟨rfl,.inl ⟨i,hil,rfl,by rw[hq];exact⟨hf,hc⟩⟩⟩
   ·have hb:ym q c≠0:=by unfold ym;rw[if_neg (by omega),if_pos (by omega)];decide
    simp (maxSteps:=1000000) [go_sem,hb]
    refine zh (.tup [.p (.int .i64 i),.p (.bool false)]) rfl (by simp[go_sem,zd,leA,leT,leP]) ⟨rfl,.inr ⟨i,rfl,fun s hs hh=>?_⟩⟩
    obtain⟨k,hk,rfl⟩:=List.mem_iff_getElem.1 hs
    by_cases hki:k=i
    ·subst hki;rw[hq]at hh;exact hf hh.1
    ·exact hrest k hk hki hh
  ·simp (maxSteps:=1000000) [go_sem,hil]
   refine zh (.tup [.p (.int .i64 i),.p (.bool false)]) rfl (by simp[go_sem,zd,leA,leT,leP]) ⟨rfl,.inr ⟨i,rfl,fun s hs hh=>?_⟩⟩
   obtain⟨k,hk,rfl⟩:=List.mem_iff_getElem.1 hs
   have:=h3 k hk (by omega)
   omega
def atL(l:List Span)(c:Int):Option Span:=l.find? fun s=>decide (s.f≤c∧c≤s.t)
def atA(x:Option Span):AV:=match x with|some s=>.tup [.p (qn s),.p (.bool true)]|none=>.tup [.p (qn ⟨0,0,0,0⟩),.p (.bool false)]
theorem zgM:∀{l:List Span},Ze l→∀c i (hi:i<l.length),l[i].f≤c→c≤l[i].t→atL l c=some l[i]
 | [],_,c,i,hi,_,_=>by simp at hi
 |s::l,h,c,i,hi,h1,h2=>by
  cases i with
  |zero=>simp only[List.getElem_cons_zero]at h1 h2;simp[atL,List.find?,h1,h2]
  |succ i=>
   have hi':i<l.length:=by simpa using hi
   simp only[List.getElem_cons_succ]at h1 h2⊢
   have h3:=h.2.1 l[i] (List.getElem_mem _)
   have:=zgM h.2.2 c i hi' h1 h2
   unfold atL at this⊢
   rw[List.find?_cons_of_neg (by simp;omega),this]
theorem zhv [Gi](l:List Span)(c:Int)(hc: -1000000000≤c∧c≤1000000000)(hR:Ze l)(hn:l.length<2^31):CR Tryz.prog 111 [] [.p (zR l),.p (.int .i32 c)] [] (is (atA (atL l c))):=by
 have w1:IntKind.i64.wrap c=c:=wrap64 (by omega) (by omega)
 refine zm mixed 9 [] Tryz.func111 rfl (by kernel_rfl) rfl (by simp) (by simp) ?_
 simp (maxSteps:=1000000) [go_sem,Tryz.f111,w1]
 refine⟨⟨rfl,by simp[Tryz.f162]⟩,zb [] (zi6 l c hR hn) (by simp[go_sem]) ⟨by simp[go_sem],by simp[go_sem,zR,J7]⟩ (by simp[go_sem]) ?_⟩
 rintro _ rs ⟨rfl,⟨i,hi,rfl,h1,h2⟩|⟨i,rfl,h1⟩⟩
 ·have em:=zr qn l i hi
  rw[zgM hR c i hi h1 h2]
  generalize l[i]=q at em
  simp (maxSteps:=1000000) [go_sem,em,qn,hi,zR]
  exact zh (.tup [.p (qn q),.p (.bool true)]) rfl (by simp[go_sem,zd,leA,leT,leP,qn]) ⟨rfl,rfl⟩
 ·have e:atL l c=none:=by
   unfold atL
   rw[List.find?_eq_none]
   intro s hs
   simpa using h1 s hs
  rw[e]
  simp (maxSteps:=1000000) [go_sem]
  exact zh (.tup [.p (qn ⟨0,0,0,0⟩),.p (.bool false)]) rfl (by simp[go_sem,zd,leA,leT,leP,qn]) ⟨rfl,rfl⟩
end Go.Proofs.YtjefahhmkcfiiaaGreat
end
section
namespace Go.Proofs.YtjefahhmkcfiiaaGreat
open Go.AM
set_option maxHeartbeats 4000000
set_option maxRecDepth 10000
def QB(a e:Int):List Span→Int
 | []=>e
 |s::l=>QB a (if a<s.f∧s.f≤e then s.f-1 else e) l
theorem zbt(a e:Int)(l m:List Span):QB a e (l++m)=QB a (QB a e l) m:=by
 induction l generalizing e with
 |nil=>rfl
 |cons s l ih=>simp only[List.cons_append,QB];exact ih _
theorem zdG(a e:Int)(l:List Span):QB a e l≤e:=by
 induction l generalizing e with
 |nil=>exact Int.le_refl _
 |cons s l ih=>simp only[QB];refine Int.le_trans (ih _) ?_;split<;>omega
theorem zfG(a e:Int)(l:List Span):∀s∈l,¬(a<s.f∧s.f≤QB a e l):=by
 induction l generalizing e with
 |nil=>simp
 |cons x l ih=>
  intro s hs h
  rcases List.mem_cons.1 hs with rfl|hs
  ·simp only[QB]at h
   have:=zdG a (if a<s.f∧s.f≤e then s.f-1 else e) l
   generalize QB a (if a<s.f∧s.f≤e then s.f-1 else e) l=u at this h
   split at this<;>omega
  ·exact ih _ s hs h
def zfJ(Ls:List (List Span)):PV:=.agg (Ls.map zR)
theorem zma [Gi](Ls:List (List Span))(a e:Int)(hn:Ls.length=4)(hl:∀l∈Ls,l.length<256)(hb:∀l∈Ls,∀s∈l, -1000000000≤s.f∧s.f≤1000000000):
  CR Tryz.prog 112 [] [.p (.int .i64 a),.p (.int .i64 e),.p (zfJ Ls)] [] (is (.p (.int .i64 (QB a e Ls.flatten)))):=by
 refine zm mixed 11 [11,12,15,16,17] Tryz.func112 rfl (by kernel_rfl) rfl (by simp) (by simp) ?_
 obtain⟨M,hM⟩:∃M,M=Ls.map zR:=⟨_,rfl⟩
 have hMl:M.length=4:=by rw[hM];simp[hn]
 simp only[zfJ,←hM]
 simp (maxSteps:=1000000) [go_sem,Tryz.f112,hMl,Q2 hMl,zje]
 refine zj (fun r:Nat=>r≤4) (fun r=>[(12,.p (.int .i64 (r:Nat))),(1,.p (.int .i64 (QB a e (Ls.take r).flatten)))]) (fun _=>[]) (fun r=>4-r) 0 (by omega) (by simp[go_sem,LeS,leV,leR,leA,QB,zn]) (fun i hi=>?_)
 simp (maxSteps:=1000000) [go_sem]
 refine zA (fun h=>?_) (fun h=>?_)
 ·have hil:i<Ls.length:=by omega
  have w1:IntKind.i64.wrap ((i:Int)+1)=((i+1:Nat):Int):=by rw[wrap64 (by omega) (by omega)];rfl
  have htake:(Ls.take (i+1)).flatten=(Ls.take i).flatten++Ls[i]:=by
   rw[List.take_add_one,List.getElem?_eq_getElem hil,List.flatten_append];exact congrArg _ (by simp)
  have hm:Ls[i]∈Ls:=List.getElem_mem _
  have hl':=hl _ hm
  have hb':=hb _ hm
  have em:M[i]?=some (zR Ls[i]):=by rw[hM,List.getElem?_map,List.getElem?_eq_getElem hil];rfl
  generalize Ls[i]=l at htake hm em hl' hb'
  simp (maxSteps:=1000000) [go_sem,em,zR]
  obtain⟨E0,hE0⟩:∃E0,E0=QB a e (Ls.take i).flatten:=⟨_,rfl⟩
  refine⟨by omega,zj (fun j:Nat=>j≤l.length) (fun j=>[(17,.p (.int .i64 (j:Nat))),(1,.p (.int .i64 (QB a E0 (l.take j))))]) (fun _=>[]) (fun j=>l.length-j) 0 (by omega) (by simp[go_sem,LeS,leV,leR,leA,QB,zn,hE0]) (fun j hj=>?_)⟩
  simp (maxSteps:=1000000) [go_sem]
  refine zA (fun h2=>?_) (fun h2=>?_)
  ·have hjl:j<l.length:=by omega
   have em2:=zr qn l j hjl
   have w2:IntKind.i64.wrap ((j:Int)+1)=((j+1:Nat):Int):=by rw[wrap64 (by omega) (by omega)];rfl
   have hq:=hb' l[j] (List.getElem_mem _)
   have htk:QB a E0 (l.take (j+1))=if a<l[j].f∧l[j].f≤QB a E0 (l.take j)then l[j].f-1 else QB a E0 (l.take j):=by
    rw[List.take_add_one,List.getElem?_eq_getElem hjl,zbt];rfl
   generalize l[j]=q at em2 hq htk
   have w3:IntKind.i64.wrap (q.f-1)=q.f-1:=wrap64 (by omega) (by omega)
   generalize QB a E0 (l.take j)=E1 at htk
   by_cases h3:a<q.f
   ·by_cases h4:q.f≤E1
    ·rw[if_pos ⟨h3,h4⟩]at htk
     simp (maxSteps:=1000000) [go_sem,em2,hjl,qn,h3,h4,w2,w3]
     exact zf (j+1) (by omega) (by simp[go_sem,LeS,leV,leR,leA,zn,htk]) (by omega)
    ·rw[if_neg (fun h=>h4 h.2)]at htk
     simp (maxSteps:=1000000) [go_sem,em2,hjl,qn,h3,h4,w2]
     exact zf (j+1) (by omega) (by simp[go_sem,LeS,leV,leR,leA,zn,htk]) (by omega)
   ·rw[if_neg (fun h=>h3 h.1)]at htk
    simp (maxSteps:=1000000) [go_sem,em2,hjl,qn,h3,w2]
    exact zf (j+1) (by omega) (by simp[go_sem,LeS,leV,leR,leA,zn,htk]) (by omega)
  ·obtain rfl:j=l.length:=by omega
   have hfin:QB a E0 (l.take l.length)=QB a e (Ls.take (i+1)).flatten:=by rw[List.take_length,htake,zbt,hE0]
   simp (maxSteps:=1000000) [go_sem,w1]
   exact zf (i+1) (by omega) (by simp[go_sem,LeS,leV,leR,leA,zn,←hfin]) (by omega)
 ·obtain rfl:i=4:=by omega
  simp (maxSteps:=1000000) [go_sem]
  exact zh (.p (.int .i64 (QB a e Ls.flatten))) rfl (by simp[go_sem,zd,leA,leT,←hn,List.take_length]) ⟨rfl,rfl⟩
end Go.Proofs.YtjefahhmkcfiiaaGreat
end
section
namespace Go.Proofs.YtjefahhmkcfiiaaGreat
open Go.AM
def qV(l:List Span)(c:Int):Bool:=match atL l c with|some s=>s.a==1|none=>false
def wo(a e:Int):List (List Span)→Int
 | []=>e
 |l::Ls=>wo a (match atL l a with|some s=>min e s.t|none=>e) Ls
def QV(A B C D:List Span)(c:Int):Flags:=⟨qV A c,qV B c,qV C c,qV D c⟩
def xG:Flags:=⟨false,false,false,false⟩
def vB(A B C D:List Span)(a:Int):Q1 Flags:=⟨a,QB a (wo a 1114111 [A,B,C,D]) [A,B,C,D].flatten,QV A B C D a⟩
def kz(A B C D:List Span)(at_:List Int):List (Q1 Flags):=(at_.filter fun a=>QV A B C D a !=xG).map (vB A B C D)
theorem zcg {l:List Span} {c:Int} {s:Span}(h:atL l c=some s):s∈l∧s.f≤c∧c≤s.t:=by
 unfold atL at h
 exact⟨List.mem_of_find?_eq_some h,by simpa using List.find?_some h⟩
theorem zlD {l:List Span}(hR:Ze l) {c:Int} {s:Span}(hs:s∈l)(h1:s.f≤c)(h2:c≤s.t):atL l c=some s:=by
 obtain⟨i,hi,rfl⟩:=List.mem_iff_getElem.1 hs
 exact zgM hR c i hi h1 h2
theorem zb0(a:Int):∀(Ls:List (List Span)) (e:Int),wo a e Ls≤e∧∀l∈Ls,∀s,atL l a=some s→wo a e Ls≤s.t
 | [],e=>⟨Int.le_refl _,by simp⟩
 |l::Ls,e=>by
  simp only[wo]
  cases h:atL l a with
  |none=>
   obtain⟨h1,h2⟩:=zb0 a Ls e
   refine⟨h1,fun m hm s hs=>?_⟩
   rcases List.mem_cons.1 hm with rfl|hm
   ·rw[h]at hs;simp at hs
   ·exact h2 m hm s hs
  |some x=>
   obtain⟨h1,h2⟩:=zb0 a Ls (min e x.t)
   refine⟨by simp only;omega,fun m hm s hs=>?_⟩
   rcases List.mem_cons.1 hm with rfl|hm
   ·rw[h]at hs;injection hs with hs;subst hs;simp only;omega
   ·exact h2 m hm s hs
theorem zhM(a j:Int):∀(Ls:List (List Span)) (e:Int),j≤e→(∀l∈Ls,∀s,atL l a=some s→j≤s.t)→j≤wo a e Ls
 | [],e,h,_=>h
 |l::Ls,e,h,hs=>by
  simp only[wo]
  apply zhM a j Ls
  ·cases h':atL l a with
   |none=>exact h
   |some x=>have:=hs l (by simp) x h';simp only;omega
  ·exact fun m hm s h=>hs m (by simp[hm]) s h
theorem zja(a j:Int)(l:List Span):∀e,j≤e→(∀s∈l,¬(a<s.f∧s.f≤j))→j≤QB a e l:=by
 induction l with
 |nil=>exact fun e h _=>h
 |cons s l ih=>
  intro e h hs
  simp only[QB]
  apply ih
  ·have:=hs s (by simp)
   split<;>omega
  ·exact fun x hx=>hs x (by simp[hx])
theorem UN {l:List Span}(hR:Ze l) {a j:Int}(h0:a≤j)(h1:∀s,atL l a=some s→j≤s.t)(h2:∀s∈l,¬(a<s.f∧s.f≤j)):atL l j=atL l a:=by
 cases h:atL l a with
 |some s=>
  obtain⟨h3,h4,h5⟩:=zcg h
  exact zlD hR h3 (by omega) (h1 s h)
 |none=>
  cases h':atL l j with
  |none=>rfl
  |some s=>
   obtain⟨h3,h4,h5⟩:=zcg h'
   by_cases hf:s.f≤a
   ·have:=zlD hR h3 hf (by omega)
    rw[h]at this;simp at this
   ·exact absurd ⟨by omega,h4⟩ (h2 s h3)
theorem Jy {A B C D:List Span}(hA:Ze A)(hB:Ze B)(hC:Ze C)(hD:Ze D) {a j:Int}(h0:a≤j)(h1:∀l∈[A,B,C,D],∀s,atL l a=some s→j≤s.t)(h2:∀l∈[A,B,C,D],∀s∈l,¬(a<s.f∧s.f≤j)):
  QV A B C D j=QV A B C D a:=by
 simp only[QV,qV]
 rw[UN hA h0 (h1 A (by simp)) (h2 A (by simp)),UN hB h0 (h1 B (by simp)) (h2 B (by simp)),UN hC h0 (h1 C (by simp)) (h2 C (by simp)),UN hD h0 (h1 D (by simp)) (h2 D (by simp))]
theorem zas {A B C D:List Span}(hA:Ze A)(hB:Ze B)(hC:Ze C)(hD:Ze D) {a j:Int}(h0:a≤j)(h1:j≤(vB A B C D a).t):QV A B C D j=QV A B C D a:=by
 simp only[vB]at h1
 have h2:=zdG a (wo a 1114111 [A,B,C,D]) [A,B,C,D].flatten
 have h3:=zfG a (wo a 1114111 [A,B,C,D]) [A,B,C,D].flatten
 obtain⟨_,h4⟩:=zb0 a [A,B,C,D] 1114111
 refine Jy hA hB hC hD h0 (fun l hl s hs=>?_) (fun l hl s hs h=>h3 s (List.mem_flatten.2 ⟨l,hl,hs⟩) ⟨h.1,by omega⟩)
 have:=h4 l hl s hs
 omega
theorem zfh {α:Type}(zero:α)(j:Int)(v:α):∀l:List (Q1 α),(∀p∈l,p.f≤j→j≤p.t→p.v=v)→((∃p∈l,p.f≤j∧j≤p.t)∨v=zero)→qY zero j l=v
 | [],_,h=>by rcases h with ⟨p,hp,_⟩|h;simp at hp;exact h.symm
 |p::l,h1,h2=>by
  simp only[qY]
  split
  ·rename_i h;exact h1 p (by simp) h.1 h.2
  ·rename_i h
   apply zfh zero j v l (fun q hq=>h1 q (by simp[hq]))
   rcases h2 with ⟨q,hq,h3⟩|h2
   ·rcases List.mem_cons.1 hq with rfl|hq
    ·exact absurd h3 h
    ·exact .inl ⟨q,hq,h3⟩
   ·exact .inr h2
theorem zlY(at_:List Int)(j:Int)(h0:∃a∈at_,a≤j):∃a∈at_,a≤j∧∀b∈at_,b≤j→b≤a:=by
 induction at_ with
 |nil=>obtain⟨a,ha,_⟩:=h0;simp at ha
 |cons x l ih=>
  by_cases hl:∃a∈l,a≤j
  ·obtain⟨a,ha,h1,h2⟩:=ih hl
   by_cases hx:x≤j∧a≤x
   ·refine⟨x,by simp,hx.1,fun b hb hbj=>?_⟩
    rcases List.mem_cons.1 hb with rfl|hb
    ·exact Int.le_refl _
    ·have:=h2 b hb hbj;omega
   ·refine⟨a,by simp[ha],h1,fun b hb hbj=>?_⟩
    rcases List.mem_cons.1 hb with rfl|hb
    ·omega
    ·exact h2 b hb hbj
  ·obtain⟨a,ha,h1⟩:=h0
   rcases List.mem_cons.1 ha with rfl|ha
   ·refine⟨a,by simp,h1,fun b hb hbj=>?_⟩
    rcases List.mem_cons.1 hb with rfl|hb
    ·exact Int.le_refl _
    ·exact absurd ⟨b,hb,hbj⟩ hl
   ·exact absurd ⟨a,ha,h1⟩ hl
theorem zgq {A B C D:List Span}(hA:Ze A)(hB:Ze B)(hC:Ze C)(hD:Ze D) {at_:List Int}(h0:0∈at_)(h1:∀l∈[A,B,C,D],∀s∈l,s.f∈at_∧s.t+1∈at_) {j:Int}(hj0:0≤j)(hj:j≤1114111):
  qY xG j (kz A B C D at_)=QV A B C D j:=by
 refine zfh xG j _ _ (fun p hp hf ht=>?_) ?_
 ·obtain⟨a,ha,rfl⟩:=List.mem_map.1 hp
  exact(zas hA hB hC hD hf ht).symm
 ·obtain⟨a,ha,h2,h3⟩:=zlY at_ j ⟨0,h0,hj0⟩
  have ht:∀l∈[A,B,C,D],∀s,atL l a=some s→j≤s.t:=fun l hl s hs=>by
   obtain⟨h4,h5,h6⟩:=zcg hs
   apply Classical.byContradiction
   intro hn
   have:=h3 _ (h1 l hl s h4).2 (by omega)
   omega
  have hf:∀l∈[A,B,C,D],∀s∈l,¬(a<s.f∧s.f≤j):=fun l hl s hs h=>by
   have:=h3 _ (h1 l hl s hs).1 h.2
   omega
  have e:=Jy hA hB hC hD h2 ht hf
  by_cases hz:QV A B C D a=xG
  ·exact .inr (e.trans hz)
  ·refine .inl ⟨vB A B C D a,List.mem_map.2 ⟨a,List.mem_filter.2 ⟨ha,by simpa using hz⟩,rfl⟩,h2,?_⟩
   exact zja a j _ _ (zhM a j _ _ hj ht) (fun s hs=>by
    obtain⟨l,hl,hs⟩:=List.mem_flatten.1 hs
    exact hf l hl s hs)
end Go.Proofs.YtjefahhmkcfiiaaGreat
end
section
namespace Go.Proofs.YtjefahhmkcfiiaaGreat
open Go.AM
set_option maxHeartbeats 4000000
set_option maxRecDepth 10000
def zpg:OT:=.now 0 0 (.now 1 0 (.now 2 0 (.now 3 2 (.now 4 2 (.mk [(5,.now 6 2 (.mk [(7,.mk [(8,.mk [])])])),(7,.now 5 0 (.now 6 0 (.mk [(8,.mk [])])))])))))
def kA(K:List Int):List PV:=K.map fun k=>.int .i64 k
def qi(K:List Int):List PV:=K.map fun _=>.bool true
def yy(c:Int)(K:List Int):List Int:=if c∈K then K else K++[c]
theorem Uq(c d:Int)(K:List Int):d∈yy c K↔d=c∨d∈K:=by
 unfold yy
 split
 ·rename_i h
  constructor
  ·exact .inr
  ·rintro(rfl|h')
   ·exact h
   ·exact h'
 ·simp[or_comm]
theorem zff(K:List Int):(kA K).all (fun k=>okC [.i .i64] k.cells)=true:=by
 simp[kA,okC,PV.cells]
theorem zam(c:Int)(K:List Int):yD (.int .i64 c) (kA K) (qi K)=kA (yy c K)∧yK (.int .i64 c) (.bool true) (kA K) (qi K)=qi (yy c K):=by
 have hn:=kG (kc:=[.i .i64]) (key:=[.int .i64 c]) rfl (ks:=kA K) (xs:=qi K) (i:=0) (zff K) (by simp[kA,qi])
 have hc:(PV.int .i64 c).cells=[.int .i64 c]:=rfl
 by_cases h:c∈K
 ·have hs:qR [.int .i64 c] (kA K) (qi K) 0≠none:=fun e=>by
   have:=hn.1 e (.int .i64 c) (by simp[kA,h])
   exact this rfl
  obtain⟨⟨j,x⟩,hj⟩:=Option.ne_none_iff_exists'.1 hs
  obtain⟨_,k,h3,h4,h5⟩:=Qm (kc:=[.i .i64]) rfl (zff K) hj
  have hx:x=.bool true:=by
   simp only[qi,List.getElem?_map,Option.map_eq_some_iff]at h5
   obtain⟨_,_,rfl⟩:=h5;rfl
  subst hx
  constructor
  ·simp only[yD,hc,hj,yy,if_pos h];rfl
  ·simp only[yK,hc,hj,yy,if_pos h]
   exact xI (by simpa using h5)
 ·have hs:qR [.int .i64 c] (kA K) (qi K) 0=none:=hn.2 fun k hk e=>by
   obtain⟨d,hd,rfl⟩:=List.mem_map.1 hk
   simp only[PV.cells]at e
   injection e with e _;injection e with _ e;subst e
   exact h hd
  constructor
  ·simp only[yD,hc,hs,yy,if_neg h];simp[kA]
  ·simp only[yK,hc,hs,yy,if_neg h];simp[qi]
theorem zis(K:List Int):(kA K).length=K.length:=by simp[kA]
theorem zbl(K:List Int):∀x:PV,x∈kA K→(match x with|.agg _=>true|_=>false)=false∧okC [.i .i64] (match x with|.agg cs=>cs|x=>[x])=true:=fun x h=>by
 obtain⟨d,_,rfl⟩:=List.mem_map.1 h;exact⟨rfl,rfl⟩
structure zd4(Ls:List (List Span))(i:Nat)(l:List Span)(j:Nat)(K:List Int):Prop where
 z:0∈K
 a:∀m∈Ls.take i,∀s∈m,s.f∈K∧s.t+1∈K
 b:∀s∈l.take j,s.f∈K∧s.t+1∈K
 o:∀c∈K,c=0∨∃m∈Ls,∃s∈m,c=s.f∨c=s.t+1
 n:K.length≤1+i*512+2*j
theorem zeD(c:Int)(K:List Int):(yy c K).length≤K.length+1:=by
 unfold yy;split<;>simp
theorem zd4.next {Ls:List (List Span)} {i:Nat} {l:List Span} {j:Nat} {K:List Int}(h:zd4 Ls i l j K)(hl:l∈Ls)(hj:j<l.length):zd4 Ls i l (j+1) (yy (l[j].t+1) (yy l[j].f K)):=by
 have hm:∀d,d∈K→d∈yy (l[j].t+1) (yy l[j].f K):=fun d hd=>by simp[Uq,hd]
 refine⟨hm _ h.z,fun m hm' s hs=>⟨hm _ (h.a m hm' s hs).1,hm _ (h.a m hm' s hs).2⟩,fun s hs=>?_,fun c hc=>?_,?_⟩
 ·rw[List.take_add_one,List.getElem?_eq_getElem hj]at hs
  rcases List.mem_append.1 hs with hs|hs
  ·exact⟨hm _ (h.b s hs).1,hm _ (h.b s hs).2⟩
  ·simp only[Option.toList_some,List.mem_singleton]at hs
   subst hs
   simp[Uq]
 ·simp only[Uq]at hc
  rcases hc with rfl|rfl|hc
  ·exact .inr ⟨l,hl,l[j],List.getElem_mem _,.inr rfl⟩
  ·exact .inr ⟨l,hl,l[j],List.getElem_mem _,.inl rfl⟩
  ·exact h.o c hc
 ·have:=zeD (l[j].t+1) (yy l[j].f K)
  have:=zeD l[j].f K
  have:=h.n
  omega
theorem zd4.out {Ls:List (List Span)} {i:Nat} {l:List Span} {K:List Int}(hi:i<Ls.length)(hl:Ls[i]=l)(hn:l.length<256)(h:zd4 Ls i l l.length K)(l':List Span):zd4 Ls (i+1) l' 0 K:=by
 refine⟨h.z,fun m hm s hs=>?_,by simp,h.o,by have:=h.n;omega⟩
 rw[List.take_add_one,List.getElem?_eq_getElem hi]at hm
 rcases List.mem_append.1 hm with hm|hm
 ·exact h.a m hm s hs
 ·simp only[Option.toList_some,List.mem_singleton]at hm
  subst hm
  rw[hl]at hs
  exact h.b s (by rw[List.take_length];exact hs)
@[go_sem] theorem zoT (t : Tok) (l : List Nat) (c : Option Nat) : (AV.upd (itz t l c) ∘ AV.p) = AV.p := rfl
theorem zok [Gi](Ls:List (List Span))(hn:Ls.length<16)(hl:∀l∈Ls,l.length<256)(hb:∀l∈Ls,∀s∈l, -1000000000≤s.t∧s.t≤1000000000):
  CR Tryz.prog 110 [[0]] [.la [0] 1 0 Ls.length] [([0],(Ls.map zR).map .p)] (fun x rs=>rs=[([0],(Ls.map zR).map .p)]∧∃at_:List Int,x=.p (.sl 1 (at_.map fun k=>.int .i64 k))∧0∈at_∧(∀l∈Ls,∀s∈l,s.f∈at_∧s.t+1∈at_)∧(∀c∈at_,c=0∨∃l∈Ls,∃s∈l,c=s.f∨c=s.t+1)∧at_.length≤10000):=by
 refine zS [200008] mixed 10 [12,13,14,18,19,20,34] Tryz.func110 rfl (by kernel_rfl) rfl (by simp) (by simp) ?_
 obtain⟨u1,u2⟩:=zam 0 []
 have u3:yy 0 []=[0]:=rfl
 rw[u3]at u1 u2
 have k1:kA []=[]:=rfl
 have k2:qi []=[]:=rfl
 rw[k1,k2]at u1 u2
 obtain⟨M,hM⟩:∃M,M=Ls.map zR:=⟨_,rfl⟩
 have hMl:M.length=Ls.length:=by rw[hM];simp
 simp only[←hM]
 simp (maxSteps:=1000000) [go_sem,Tryz.f110,u1,u2]
 refine zj (fun r:Nat×List Int=>r.1≤Ls.length∧zd4 Ls r.1 [] 0 r.2) (fun r=>[(14,.p (.int .i64 (r.1:Nat))),(3,.om [10] (kA r.2) (qi r.2))]) (fun _=>[]) (fun r=>Ls.length-r.1) (0,[0]) ⟨Nat.zero_le _,by simp,by simp,by simp,by simp,by simp⟩ (by simp[go_sem,LeS,leV,leR,leA,zn]) (fun r hr=>?_)
 obtain⟨i,K⟩:=r
 obtain⟨h1,h2⟩:=hr
 simp only at h1 h2
 simp (maxSteps:=1000000) [go_sem]
 refine zA (fun h=>?_) (fun h=>?_)
 ·have hil:i<Ls.length:=by omega
  have em:M[i]?=some (zR Ls[i]):=by rw[hM,List.getElem?_map,List.getElem?_eq_getElem hil];rfl
  have hm:Ls[i]∈Ls:=List.getElem_mem _
  obtain⟨l,el⟩:∃l,Ls[i]=l:=⟨_,rfl⟩
  rw[el]at em hm
  have w1:IntKind.i64.wrap ((i:Int)+1)=((i+1:Nat):Int):=by rw[wrap64 (by omega) (by omega)];rfl
  simp (maxSteps:=1000000) [go_sem,em,h,zR]
  refine zj (fun r:Nat×List Int=>r.1≤l.length∧zd4 Ls i l r.1 r.2) (fun r=>[(20,.p (.int .i64 (r.1:Nat))),(3,.om [10] (kA r.2) (qi r.2))]) (fun _=>[]) (fun r=>l.length-r.1) (0,K) ⟨Nat.zero_le _,h2.z,h2.a,by simp,h2.o,h2.n⟩ (by simp[go_sem,LeS,leV,leR,leA,zn]) (fun r hr=>?_)
  obtain⟨j,K'⟩:=r
  obtain⟨h3,h4⟩:=hr
  simp only at h3 h4
  simp (maxSteps:=1000000) [go_sem]
  have hl':=hl l hm
  refine zA (fun hj=>?_) (fun hj=>?_)
  ·have hjl:j<l.length:=by omega
   have em2:=zr qn l j hjl
   have hx:=hb l hm l[j] (List.getElem_mem _)
   have hnext:=h4.next hm hjl
   have w2:IntKind.i64.wrap ((j:Int)+1)=((j+1:Nat):Int):=by rw[wrap64 (by omega) (by omega)];rfl
   have w3:IntKind.i64.wrap (l[j].t+1)=l[j].t+1:=wrap64 (by omega) (by omega)
   obtain⟨v1,v2⟩:=zam l[j].f K'
   obtain⟨v3,v4⟩:=zam (l[j].t+1) (yy l[j].f K')
   generalize l[j]=q at em2 hx hnext w3 v1 v2 v3 v4
   simp (maxSteps:=1000000) [go_sem,em2,hj,qn]
   refine Zq zpg (by kernel_rfl) ?_
   simp (maxSteps:=1000000) [go_sem,zpg,w2,w3,v1,v2,v3,v4]
   exact⟨zbl K',zbl _,zf (j+1,yy (q.t+1) (yy q.f K')) ⟨hjl,hnext⟩ (by simp[go_sem,LeS,leV,leR,leA,zn]) (by show l.length- (j+1)<l.length-j;omega)⟩
  ·have hjl:j=l.length:=by omega
   subst hjl
   simp (maxSteps:=1000000) [go_sem,w1]
   exact zf (i+1,K') ⟨hil,h4.out hil el hl' []⟩ (by simp[go_sem,LeS,leV,leR,leA,zn]) (by show Ls.length- (i+1)<Ls.length-i;omega)
 ·have hil:i=Ls.length:=by omega
  subst hil
  have hk:=h2.n
  simp (maxSteps:=1000000) [go_sem,h]
  refine zj (fun r:List Int×List Nat×Option Nat=>(∀k,(hk:k<K.length)→k∈r.2.1∨K[k]∈r.1)∧(∀c∈r.1,c∈K)∧r.1.length+r.2.1.length≤K.length∧∀k∈r.2.1,k<K.length)
   (fun r=>[(8,.os [8] 1 (r.1.map fun k=>.int .i64 k)),(34,.it [34] (kA K) (qi K) r.2.1 r.2.2)]) (fun _=>[]) (fun r=>r.2.1.length) ([],List.range K.length,none) ⟨fun k hk=>.inl (List.mem_range.2 hk),by simp,by simp,fun k hk=>List.mem_range.1 hk⟩ (by simp[go_sem,LeS,leV,leR,leA,zis,zn]) (fun r hr=>?_)
  obtain⟨done,left,cur⟩:=r
  obtain⟨q1,q2,q3,q4⟩:=hr
  simp only at q1 q2 q3 q4
  simp (maxSteps:=1000000) [go_sem]
  refine⟨?_,?_⟩
  ·rintro rfl
   have ha:∀c,c∈K→c∈done:=fun c hc=>by
    obtain⟨k,hk',rfl⟩:=List.mem_iff_getElem.1 hc
    rcases q1 k hk' with h|h
    ·simp at h
    ·exact h
   exact zi [[0]] (.p (.sl 1 (done.map fun k=>.int .i64 k))) ⟨rfl,by simp⟩ (by simp[go_sem,zd,leA,leT]) ⟨by simp[go_sem,hM,Function.comp_def],done,rfl,ha _ h2.z,fun l hl s hs=>⟨ha _ (h2.a l (by simpa using hl) s hs).1,ha _ (h2.a l (by simpa using hl) s hs).2⟩,fun c hc=>h2.o c (q2 c hc),by simp at q3;omega⟩
  ·intro k hk
   have hkl:=q4 k hk
   have em:elemAt (kA K) k=.int .i64 K[k]:=zr (fun k=>PV.int .i64 k) K k hkl
   have hlt:(left.filter (· !=k)).length<left.length:=List.length_filter_lt_length_iff_exists.2 ⟨k,hk,by simp⟩
   have hdl:done.length≤10000:=by omega
   simp (maxSteps:=1000000) [go_sem,em]
   refine⟨by omega,zf (done++[K[k]],left.filter (· !=k),some k) ⟨fun m hm=>?_,fun c hc=>?_,by simp;omega,fun m hm=>q4 m (List.mem_filter.1 hm).1⟩ (by simp[go_sem,LeS,leV,leR,leA,zn]) hlt⟩
   ·by_cases hmk:m=k
    ·subst hmk;exact .inr (by simp)
    ·rcases q1 m hm with h|h
     ·exact .inl (List.mem_filter.2 ⟨h,by simpa using hmk⟩)
     ·exact .inr (by simp[h])
   ·rcases List.mem_append.1 hc with h|h
    ·exact q2 c h
    ·rw[List.mem_singleton.1 h];exact List.getElem_mem _
end Go.Proofs.YtjefahhmkcfiiaaGreat
end
section
namespace Go.Proofs.YtjefahhmkcfiiaaGreat
open Go.AM
set_option maxHeartbeats 4000000
set_option maxRecDepth 10000
theorem UZ [Gi](own:Bool)(size:Nat)(idx:List Nat)(blocks:List (List PV))(k2 x2:List PV)(cs:List PV)(hc:okC (qO 128 [.i .i32,.i .i32]) cs=true)(hb:∀b∈blocks,okC (qO 128 [.i .i32,.i .i32]) b=true)(hn:blocks.length<2^31):
  CR Tryz.prog 121 [[0],[1]] [.lp [0] 0,.p (.agg cs)] (qe 2 size (Zz own idx) [905] blocks k2 x2)
   (fun x rs=>(∃k:Nat,x=.p (.int .i64 k)∧blocks[k]?=some cs∧rs=qe 2 size (Zz own idx) [905] blocks k2 x2)∨
    (x=.p (.int .i64 blocks.length)∧rs=qe 2 size (Zz own idx) [1,2] (blocks++[cs]) k2 x2)):=by
 have hl:cs.length=256:=by simpa[qI]using ZM hc
 have ht:=Q2 hl
 have hall:(blocks.map PV.agg).all (fun k=>okC (qO 128 [.i .i32,.i .i32]) k.cells)=true:=by simpa[PV.cells]using hb
 cases own<;>
 ·refine zS [1,200005] mixed 8 [] Tryz.func121 rfl (by kernel_rfl) rfl (by simp) (by simp) ?_
  cases hf:qR cs (blocks.map PV.agg) (jm blocks.length) 0 with
  |none=>
   simp (disch:=omega) [go_sem,Tryz.f121,qe,Zz,Zw,mapOf,jf,ht,hl,hc,hf]
   refine⟨hb,Zq UX (by kernel_rfl) ?_⟩
   simp (disch:=omega) [go_sem,UX,ht,hl]
   have e0:(qO 128 [PV.int IntKind.i32 0,PV.int IntKind.i32 0]).length=256:=by simp[qI]
   have e1:∀x∈qO 128 [PV.int IntKind.i32 0,PV.int IntKind.i32 0],(match x with|PV.agg cs=>false|PV.opq u=>u.oneCell'|x=>true)=true:=fun x hx=>by
    obtain⟨l,hl,hx⟩:=List.mem_flatten.1 hx
    rw[List.eq_of_mem_replicate hl]at hx
    simp only[List.mem_cons,List.not_mem_nil,or_false]at hx
    rcases hx with rfl|rfl<;>rfl
   have u1:yD (PV.agg cs) (List.map PV.agg blocks) (jm blocks.length)=List.map PV.agg blocks++[PV.agg cs]:=by simp[yD,PV.cells,hf]
   have u2:yK (PV.agg cs) (PV.int IntKind.i64 ↑blocks.length) (List.map PV.agg blocks) (jm blocks.length)=jm (blocks.length+1):=by rw[VB];simp only[yK,PV.cells,hf]
   refine⟨⟨e0,e1⟩,⟨e0,by omega⟩,?_⟩
   exact zi [[0],[1]] (.p (.int .i64 blocks.length)) ⟨rfl,by simp⟩ (by simp[go_sem,zd,leA,leT]) (.inr ⟨rfl,by simp[go_sem,u1,u2]⟩)
  |some r=>
   obtain⟨j,x⟩:=r
   obtain⟨_,k,h3,h4,h5⟩:=Qm hc hall hf
   simp only[Nat.sub_zero]at h3 h5
   simp only[List.getElem?_map,Option.map_eq_some_iff]at h3
   obtain⟨b,h3,rfl⟩:=h3
   simp only[PV.cells]at h4
   subst h4
   have hx:x=.int .i64 (j:Nat):=by
    simp only[jm,List.getElem?_map,Option.map_eq_some_iff]at h5
    obtain⟨q,hq,rfl⟩:=h5
    rw[List.getElem?_range (List.getElem?_eq_some_iff.1 h3).1]at hq
    injection hq with hq;rw[hq]
   subst hx
   simp (disch:=omega) [go_sem,Tryz.f121,qe,Zz,Zw,mapOf,jf,ht,hl,hc,hf]
   refine⟨hb,?_⟩
   exact zi [[0],[1]] (.p (.int .i64 j)) ⟨rfl,by simp⟩ (by simp[go_sem,zd,leA,leT]) (.inl ⟨j,rfl,h3,by simp[go_sem]⟩)
end Go.Proofs.YtjefahhmkcfiiaaGreat
end
section
namespace Go.Proofs.YtjefahhmkcfiiaaGreat
open Go.AM
set_option maxHeartbeats 4000000
set_option maxRecDepth 10000
theorem zi3 [Gi](own:Bool)(size:Nat)(idx:List Nat)(blocks:List (List PV))(k2 x2:List PV)(a b:Int)(hb:∀b∈blocks,okC (qO 128 [.i .i32,.i .i32]) b=true)(hn:blocks.length<2^31)
  (hE:kM true [.i .i32,.i .i32] blocks k2 x2):
  CR Tryz.prog 120 [[0],[1]] [.lp [0] 0,.p (.agg [PV.int .i32 a,PV.int .i32 b])] (Xd 2 size (Zz own idx) blocks k2 x2) (zgf true [.i .i32,.i .i32] 2 size (Zz own idx) blocks (.agg [PV.int .i32 a,PV.int .i32 b])):=by
 obtain⟨hE1,hE2,hE3⟩:=hE
 have hall:k2.all (fun k=>okC [.i .i32,.i .i32] k.cells)=true:=List.all_eq_true.2 fun k hk=>(qk (hE2 k hk)).2
 have ho2:own=true∨own=false:=by cases own<;>simp
 rcases ho2 with ho|ho<;>
 ·refine zS [1] mixed 10 [20] Tryz.func120 rfl (by kernel_rfl) rfl (by simp) (by simp) ?_
  cases hf:qR [PV.int .i32 a,PV.int .i32 b] k2 x2 0 with
  |none=>
   simp (disch:=omega) [go_sem,Tryz.f120,qe,Zz,ho,Zw,mapOf,jf,hf]
   refine⟨fun x hx=>by have:=qk (hE2 x hx);exact this,?_,?_⟩
   ·intro x hx
    obtain⟨l,hl,hx⟩:=List.mem_flatten.1 hx
    rw[List.eq_of_mem_replicate hl]at hx
    simp only[List.mem_cons,List.not_mem_nil,or_false]at hx
    rcases hx with rfl|rfl<;>rfl
   refine zj (fun k:Nat=>k≤128) (fun k=>[(20,.p (.int .i64 k))]) (fun k=>[([7],(yI (List.replicate k [PV.int .i32 a,PV.int .i32 b]) [PV.int .i32 0,PV.int .i32 0]).map .p)]) (fun k=>128-k) 0 (by omega) (by simp[go_sem,LeS,leV,leR,leA,leL,vo,zn]) (fun k hk=>?_)
   simp (disch:=omega) [go_sem]
   refine zA (fun h=>?_) (fun h=>?_)
   ·have w1:IntKind.i64.wrap ((k:Int)+1)=((k+1:Nat):Int):=by rw[wrap64 (by omega) (by omega)];rfl
    have hlen:(yI (List.replicate k [PV.int .i32 a,PV.int .i32 b]) [PV.int .i32 0,PV.int .i32 0]).length=256:=wV (w:=2) (by simp) rfl (by simp;omega)
    have hput:=wz (vs:=List.replicate k [PV.int .i32 a,PV.int .i32 b]) (z:=[PV.int .i32 0,PV.int .i32 0]) (v:=[PV.int .i32 a,PV.int .i32 b]) (w:=2) (by simp) rfl rfl (by simp;omega)
    simp only[List.length_replicate,←List.replicate_succ',List.map_cons,List.map_nil,qm,List.length_cons,List.length_nil,Nat.zero_add,List.append_assoc,List.cons_append,List.nil_append]at hput
    simp (disch:=omega) [go_sem,w1,hlen,h,hput]
    exact⟨by omega,zf (k+1) (by omega) (by simp[go_sem,LeS,leV,leR,leA,leL,zn]) (by omega)⟩
   ·obtain rfl:k=128:=by omega
    have hr:(qO 128 [PV.int .i32 a,PV.int .i32 b]).length=256:=by simp[qI]
    have ht:=Q2 hr
    simp only[X3]
    simp (disch:=omega) [go_sem,ht,hr]
    refine⟨⟨rfl,by simp[Tryz.f121]⟩,zb [([0],[0]),([1],[1]),([902],[902]),([903],[903]),([904],[904]),([905],[905])] (uf (UZ own size idx blocks k2 x2 (qO 128 [PV.int .i32 a,PV.int .i32 b]) (wJ 128 rfl) hb hn)) (by simp[go_sem]) ⟨by simp[go_sem],by simp[go_sem]⟩ (by simp[go_sem,qe,Zz,ho]) ?_⟩
    rintro _ _ ⟨kk,bl,rfl,hk1,hbl,rfl⟩
    simp (maxSteps:=1000000) (disch:=omega) [go_sem,qe,Zz,ho]
    refine⟨fun x hx=>by have:=qk (hE2 x hx);exact this,?_⟩
    exact zi [[0],[1]] (.p (.int .i64 kk)) ⟨rfl,by simp⟩ (by simp[go_sem,zd,leA,leT]) ⟨kk,bl,_,_,rfl,hk1,hbl,(kM.grow ⟨hE1,hE2,hE3⟩ hbl).add (v:=.agg [PV.int .i32 a,PV.int .i32 b]) rfl hf hk1,by simp[go_sem,qe]⟩
  |some r=>
   obtain⟨j,x⟩:=r
   obtain⟨_,k,h3,h4,h5⟩:=Qm (kc:=[.i .i32,.i .i32]) rfl hall hf
   simp only[Nat.sub_zero]at h3 h5
   obtain⟨n,h6,h7⟩:=hE3 j k h3
   rw[h5]at h6
   injection h6 with h6
   subst h6
   rw[h4]at h7
   simp (disch:=omega) [go_sem,Tryz.f120,qe,Zz,ho,Zw,mapOf,jf,hf]
   refine⟨fun x hx=>by have:=qk (hE2 x hx);exact this,?_⟩
   exact zi [[0],[1]] (.p (.int .i64 n)) ⟨rfl,by simp⟩ (by simp[go_sem,zd,leA,leT]) ⟨n,blocks,k2,x2,rfl,h7,.inl rfl,⟨hE1,hE2,hE3⟩,by simp[go_sem,qe]⟩
end Go.Proofs.YtjefahhmkcfiiaaGreat
end
