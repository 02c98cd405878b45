/- A part of the proof of this seat's statements, by an abstract machine: what each operation does to values, and what the law's functions compute. Conditions: as each law says. -/
import Derived.Test.YtjefahhmkcfiiaaGreatN20
section
namespace Go.Proofs.YtjefahhmkcfiiaaGreat
open Go.AM
set_option maxHeartbeats 4000000
set_option maxRecDepth 10000
structure qP(l:List Row):Prop where
 ne:l≠ []
 n:l.length<2^31
 p:∀x∈l,x.k=2→(0≤x.f∧x.f<1114112)∧(0≤x.a∧x.a<1114112)∧0≤x.b∧x.b<1114112
theorem qP.first {l:List Row}(h:qP l):∃r,elemAt (l.map rowP) 0=rowP r:=by
 cases l with
 |nil=>exact absurd rfl h.ne
 |cons r l=>exact⟨r,rfl⟩
def zL(r:Int):Prop:= -2147483648≤r∧r<2147483648
def ZE(l:List Row)(r:Int):Option (Int×Int):=match rowAt l 2 r with
 |some x=>if x.a=0∧x.b=0 then none else some (x.a,x.b)
 |none=>none
def yg(x:Option (Int×Int)):AV:=match x with
 |none=>.tup [.p (.int .i32 0),.p (.int .i32 0),.p (.bool false)]
 |some p=>.tup [.p (.int .i32 p.1),.p (.int .i32 p.2),.p (.bool true)]
theorem XE {l:List Row} {k r:Int} {x:Row}(h:rowAt l k r=some x):x∈l∧x.k=k:=by
 unfold rowAt at h
 split at h
 ·cases h
 ·refine⟨List.mem_of_find?_eq_some h,?_⟩
  have:=List.find?_some h
  simp only[jG,Bool.and_eq_true,decide_eq_true_eq]at this
  exact this.1.1
theorem Jd {l:List Row}(hl:qP l) {r:Int} {p:Int×Int}(h:ZE l r=some p):(0≤p.1∧p.1<1114112)∧0≤p.2∧p.2<1114112:=by
 unfold ZE at h
 split at h
 ·rename_i x hx
  obtain⟨h1,h2⟩:=XE hx
  have:=hl.p x h1 h2
  split at h
  ·cases h
  ·injection h with h;subst h;exact this.2
 ·cases h
theorem Vo [Gi](l:List Row)(r:Int)(hl:qP l)(hr:zL r):CR Tryz.prog 181 [] [.p (zC l),.p (.int .i32 r)] [] (is (yg (ZE l r))):=by
 refine zM [4] mixed 8 [] Tryz.func181 rfl (by kernel_rfl) rfl (by simp) (by simp) ?_
 have w1:=VA hr
 simp (maxSteps:=1000000) [go_sem,Tryz.f181,w1]
 refine⟨⟨rfl,by simp[Tryz.f175]⟩,zb [] (zdf l 2 r hl.n) (by simp[go_sem]) ⟨by simp[go_sem],by simp[go_sem]⟩ (by simp[go_sem]) ?_⟩
 rintro _ rs ⟨rfl,j,rfl,hj⟩
 rcases hj with ⟨rfl,hj⟩|⟨i,hi,rfl,hj⟩
 ·have e:ZE l r=none:=by unfold ZE;rw[hj]
  rw[e]
  obtain⟨r0,em⟩:=hl.first
  simp (maxSteps:=1000000) [go_sem,zC,em,rowP]
  exact zg (.tup [.p (.int .i32 0),.p (.int .i32 0),.p (.bool false)]) rfl (by simp[go_sem,zf,leA,leT,leP]) ⟨rfl,rfl⟩
 ·obtain⟨h1,h2⟩:=XE hj
  have hb:=hl.p _ h1 h2
  have e:ZE l r=if l[i].a=0∧l[i].b=0 then none else some (l[i].a,l[i].b):=by unfold ZE;rw[hj]
  rw[e]
  have em:=zq rowP l i hi
  generalize l[i]=x at em hb
  have h0:¬((i:Int)<0):=by omega
  have v1:IntKind.i32.wrap x.a=x.a:=ki (by omega)
  have v2:IntKind.i32.wrap x.b=x.b:=ki (by omega)
  by_cases c1:x.a=0
  ·by_cases c2:x.b=0
   ·rw[if_pos ⟨c1,c2⟩]
    simp (maxSteps:=1000000) [go_sem,em,hi,zC,rowP,h0,c1,c2]
    exact zg (.tup [.p (.int .i32 0),.p (.int .i32 0),.p (.bool false)]) rfl (by simp[go_sem,zf,leA,leT,leP]) ⟨rfl,rfl⟩
   ·rw[if_neg (fun h=>c2 h.2)]
    simp (maxSteps:=1000000) [go_sem,em,hi,zC,rowP,h0,c1,c2,v2,ki (x:=0)]
    exact zg (.tup [.p (.int .i32 0),.p (.int .i32 x.b),.p (.bool true)]) rfl (by simp[go_sem,zf,leA,leT,leP]) ⟨rfl,rfl⟩
  ·rw[if_neg (fun h=>c1 h.1)]
   simp (maxSteps:=1000000) [go_sem,em,hi,zC,rowP,h0,c1,v1,v2]
   exact zg (.tup [.p (.int .i32 x.a),.p (.int .i32 x.b),.p (.bool true)]) rfl (by simp[go_sem,zf,leA,leT,leP]) ⟨rfl,rfl⟩
def uV(l:List Row)(r:Int):Bool:=match ZE l r with
 |none=>false
 |some p=>decide (p.2=0) || decide (aL l 3 r=1) ||!decide (aL l 1 r=0) ||!decide (aL l 1 p.1=0)
theorem zkT [Gi](l:List Row)(r:Int)(hl:qP l)(hr:zL r):CR Tryz.prog 212 [] [.p (zC l),.p (.int .i32 r)] [] (is (.p (.bool (uV l r)))):=by
 refine zm mixed 8 [] Tryz.func212 rfl (by kernel_rfl) rfl (by simp) (by simp) ?_
 simp (maxSteps:=1000000) [go_sem,Tryz.f212]
 refine⟨⟨rfl,by simp[Tryz.f181]⟩,zb [] (Vo l r hl hr) (by simp[go_sem]) ⟨by simp[go_sem],by simp[go_sem]⟩ (by simp[go_sem]) ?_⟩
 rintro _ rs ⟨rfl,rfl⟩
 cases hp:ZE l r with
 |none=>
  have e:uV l r=false:=by unfold uV;rw[hp]
  simp (maxSteps:=1000000) [go_sem,yg]
  exact zg (.p (.bool (uV l r))) rfl (by simp[go_sem,zf,leA,leT,e]) ⟨rfl,rfl⟩
 |some p=>
  have hb:=Jd hl hp
  have e:uV l r=(decide (p.2=0) || decide (aL l 3 r=1) ||!decide (aL l 1 r=0) ||!decide (aL l 1 p.1=0)):=by unfold uV;rw[hp]
  obtain⟨pa,pb⟩:=p
  simp only at e hb
  have hpa:zL pa:=⟨by omega,by omega⟩
  by_cases c1:pb=0
  ·simp (maxSteps:=1000000) [go_sem,yg,c1]
   exact zg (.p (.bool (uV l r))) rfl (by simp[go_sem,zf,leA,leT,e,c1]) ⟨rfl,rfl⟩
  ·simp (maxSteps:=1000000) [go_sem,yg,c1]
   refine⟨⟨rfl,by simp[Tryz.f80]⟩,zb [] (jf l 3 r hl.n hr) (by simp[go_sem]) ⟨by simp[go_sem],by simp[go_sem]⟩ (by simp[go_sem]) ?_⟩
   rintro _ rs ⟨rfl,rfl⟩
   by_cases c2:aL l 3 r=1
   ·simp (maxSteps:=1000000) [go_sem,c2]
    exact zg (.p (.bool (uV l r))) rfl (by simp[go_sem,zf,leA,leT,e,c2]) ⟨rfl,rfl⟩
   ·simp (maxSteps:=1000000) [go_sem,c2]
    refine⟨⟨rfl,by simp[Tryz.f80]⟩,zb [] (jf l 1 r hl.n hr) (by simp[go_sem]) ⟨by simp[go_sem],by simp[go_sem]⟩ (by simp[go_sem]) ?_⟩
    rintro _ rs ⟨rfl,rfl⟩
    by_cases c3:aL l 1 r=0
    ·simp (maxSteps:=1000000) [go_sem,c3]
     refine⟨⟨rfl,by simp[Tryz.f80]⟩,zb [] (jf l 1 pa hl.n hpa) (by simp[go_sem]) ⟨by simp[go_sem],by simp[go_sem]⟩ (by simp[go_sem]) ?_⟩
     rintro _ rs ⟨rfl,rfl⟩
     simp (maxSteps:=1000000) [go_sem]
     exact zg (.p (.bool (uV l r))) rfl (by simp[go_sem,zf,leA,leT,e,c1,c2,c3]) ⟨rfl,rfl⟩
    ·simp (maxSteps:=1000000) [go_sem,c3]
     exact zg (.p (.bool (uV l r))) rfl (by simp[go_sem,zf,leA,leT,e,c3]) ⟨rfl,rfl⟩
def ZM(l:List Row)(x y:Int)(acc:Option Int)(w:Row):Option Int:=
 if w.k=2∧w.a=x∧w.b=y∧y≠0∧ZE l w.f=some (x,y)∧uV l w.f=false∧(∀z,acc=some z→w.f<z)then some w.f else acc
def xI(l:List Row)(x y:Int):Option Int:=l.foldl (ZM l x y) none
def qW(a:Option Int):Int:=match a with|some z=>z|none=>0
theorem zjV [Gi](l:List Row)(x y:Int)(hl:qP l)(hx:zL x)(hy:zL y):CR Tryz.prog 178 [] [.p (zC l),.p (.int .i32 x),.p (.int .i32 y)] [] (is (.tup [.p (.int .i32 (qW (xI l x y))),.p (.bool (xI l x y).isSome)])):=by
 refine zm mixed 15 [] Tryz.func178 rfl (by kernel_rfl) rfl (by simp) (by simp) ?_
 have w1:=VA hx
 have w2:=VA hy
 have hn:=hl.n
 simp (maxSteps:=1000000) [go_sem,Tryz.f178,zC]
 refine zi (fun i:Nat=>i≤l.length) (fun i=>[(10,.p (.int .i64 (i:Nat))),(8,.p (.int .i32 (qW ((l.take i).foldl (ZM l x y) none)))),(9,.p (.bool ((l.take i).foldl (ZM l x y) none).isSome)),(11,.zZ),(12,.zZ),(13,.zZ),(14,.zZ)]) (fun _=>[]) (fun i=>l.length-i) 0 (by omega) (by simp[go_sem,LeS,leV,leR,leA,qW]) (fun i hi=>?_)
 simp (maxSteps:=1000000) [go_sem]
 refine zx (fun h=>?_) (fun h=>?_)
 ·have hil:i<l.length:=by omega
  have em:=zq rowP l i hil
  have w3:IntKind.i64.wrap ((i:Int)+1)=((i+1:Nat):Int):=zP (by omega)
  have htk:(l.take (i+1)).foldl (ZM l x y) none=ZM l x y ((l.take i).foldl (ZM l x y) none) l[i]:=by
   rw[List.take_add_one,List.getElem?_eq_getElem hil,List.foldl_append];rfl
  have hrow:=hl.p l[i] (List.getElem_mem _)
  generalize l[i]=q at em htk hrow
  generalize (l.take i).foldl (ZM l x y) none=acc at htk
  have hskip:¬(q.k=2∧q.a=x∧q.b=y∧y≠0∧ZE l q.f=some (x,y)∧uV l q.f=false∧∀z,acc=some z→q.f<z)→(l.take (i+1)).foldl (ZM l x y) none=acc:=fun h=>by rw[htk];exact if_neg h
  have hfr:q.k=2→IntKind.i32.wrap q.f=q.f:=fun h=>ki (by have:=hrow h;omega)
  by_cases c1:q.k=2
  ·have v1:=hfr c1
   have hqf:zL q.f:=⟨by have:=hrow c1;omega,by have:=hrow c1;omega⟩
   by_cases c2:q.a=x
   ·by_cases c3:q.b=y
    ·by_cases c4:y=0
     ·have hs:=hskip (fun h=>h.2.2.2.1 c4)
      simp (maxSteps:=1000000) [go_sem,em,hil,rowP,c1,c2,c3,c4,w1,w3,wrap64 (x:=0)]
      exact zc (i+1) (by omega) (by simp[go_sem,LeS,leV,leR,leA,hs,←c4]) (by omega)
     ·simp (maxSteps:=1000000) [go_sem,em,hil,rowP,c1,c2,c3,c4,w1,w2,v1]
      refine⟨⟨rfl,by simp[Tryz.f181]⟩,zb [] (Vo l q.f hl hqf) (by simp[go_sem]) ⟨by simp[go_sem],by simp[go_sem,zC]⟩ (by simp[go_sem]) ?_⟩
      rintro _ rs ⟨rfl,rfl⟩
      cases hp:ZE l q.f with
      |none=>
       have hs:=hskip (fun h=>by have:=h.2.2.2.2.1;rw[hp]at this;cases this)
       simp (maxSteps:=1000000) [go_sem,yg,w3]
       exact zc (i+1) (by omega) (by simp[go_sem,LeS,leV,leR,leA,hs]) (by omega)
      |some p=>
       obtain⟨pa,pb⟩:=p
       by_cases c5:pa=x
       ·by_cases c6:pb=y
        ·subst c5;subst c6
         simp (maxSteps:=1000000) [go_sem,yg,w3]
         refine⟨⟨rfl,by simp[Tryz.f212]⟩,zb [] (zkT l q.f hl hqf) (by simp[go_sem]) ⟨by simp[go_sem],by simp[go_sem,zC]⟩ (by simp[go_sem]) ?_⟩
         rintro _ rs ⟨rfl,rfl⟩
         cases ho:uV l q.f with
         |true=>
          have hs:=hskip (fun h=>by have:=h.2.2.2.2.2.1;rw[ho]at this;cases this)
          cases acc with
          |none=>
           simp (maxSteps:=1000000) [go_sem,w3]
           exact zc (i+1) (by omega) (by simp[go_sem,LeS,leV,leR,leA,hs]) (by omega)
          |some z=>
           simp (maxSteps:=1000000) [go_sem,w3]
           exact zc (i+1) (by omega) (by simp[go_sem,LeS,leV,leR,leA,hs]) (by omega)
         |false=>
          cases acc with
          |none=>
           have hs:(l.take (i+1)).foldl (ZM l pa pb) none=some q.f:=by rw[htk];exact if_pos ⟨c1,c2,c3,c4,hp,ho,fun z h=>by cases h⟩
           simp (maxSteps:=1000000) [go_sem,w3]
           exact zc (i+1) (by omega) (by simp[go_sem,LeS,leV,leR,leA,hs,qW]) (by omega)
          |some z=>
           by_cases c7:q.f<z
           ·have hs:(l.take (i+1)).foldl (ZM l pa pb) none=some q.f:=by rw[htk];exact if_pos ⟨c1,c2,c3,c4,hp,ho,fun z' h=>by injection h with h;subst h;exact c7⟩
            simp (maxSteps:=1000000) [go_sem,w3,qW,c7]
            exact zc (i+1) (by omega) (by simp[go_sem,LeS,leV,leR,leA,hs]) (by omega)
           ·have hs:=hskip (fun h=>c7 (h.2.2.2.2.2.2 z rfl))
            simp (maxSteps:=1000000) [go_sem,w3,qW,c7]
            exact zc (i+1) (by omega) (by simp[go_sem,LeS,leV,leR,leA,hs]) (by omega)
        ·have hs:=hskip (fun h=>by have:=h.2.2.2.2.1;rw[hp]at this;injection this with this;injection this with _ h2;exact c6 h2)
         simp (maxSteps:=1000000) [go_sem,yg,w3,c5,c6]
         exact zc (i+1) (by omega) (by simp[go_sem,LeS,leV,leR,leA,hs]) (by omega)
       ·have hs:=hskip (fun h=>by have:=h.2.2.2.2.1;rw[hp]at this;injection this with this;injection this with h2 _;exact c5 h2)
        simp (maxSteps:=1000000) [go_sem,yg,w3,c5]
        exact zc (i+1) (by omega) (by simp[go_sem,LeS,leV,leR,leA,hs]) (by omega)
    ·have hs:=hskip (fun h=>c3 h.2.2.1)
     simp (maxSteps:=1000000) [go_sem,em,hil,rowP,c1,c2,c3,w1,w2,w3]
     exact zc (i+1) (by omega) (by simp[go_sem,LeS,leV,leR,leA,hs]) (by omega)
   ·have hs:=hskip (fun h=>c2 h.2.1)
    simp (maxSteps:=1000000) [go_sem,em,hil,rowP,c1,c2,w1,w2,w3]
    exact zc (i+1) (by omega) (by simp[go_sem,LeS,leV,leR,leA,hs]) (by omega)
  ·have hs:=hskip (fun h=>c1 h.1)
   simp (maxSteps:=1000000) [go_sem,em,hil,rowP,c1,w1,w2,w3]
   exact zc (i+1) (by omega) (by simp[go_sem,LeS,leV,leR,leA,hs]) (by omega)
 ·have hil:i=l.length:=by omega
  subst hil
  rw[List.take_length]
  simp (maxSteps:=1000000) [go_sem]
  exact zg (.tup [.p (.int .i32 (qW (xI l x y))),.p (.bool (xI l x y).isSome)]) rfl (by simp[go_sem,zf,leA,leT,leP,xI]) ⟨rfl,rfl⟩
end Go.Proofs.YtjefahhmkcfiiaaGreat
end
section
namespace Go.Proofs.YtjefahhmkcfiiaaGreat
open Go.AM
set_option maxHeartbeats 4000000
set_option maxRecDepth 10000
def zJ(l:List Row)(i:Int):Int:=if 44032≤i∧i≤55203 then(if(i-44032)%28=0 then 12 else 13)else aL l 4 i
def ZC(l:List Row)(i:Int):Int:=if aL l 6 i≠0 then aL l 6 i else if(zJ l i=4∨zJ l i=5)∧i≠8204 then 3 else 0
theorem wQ [Gi] {l:List Row}(hw:qP l) {i:Int}(hi:zL i):CR Tryz.prog 143 [] [.p (zC l),.p (.int .i32 i)] [] (is (.p (.int .i64 (zJ l i)))):=by
 refine zm mixed 5 [] Tryz.func143 rfl (by kernel_rfl) rfl (by simp) (by simp) ?_
 have hB:44032≤i→i≤55203→(i-44032).tmod 28=(i-44032)%28:=fun h1 _=>Int.tmod_eq_emod_of_nonneg (by omega)
 have w2:44032≤i→i≤55203→IntKind.i32.wrap (i-44032)=i-44032:=fun _ _=>by simp[IntKind.wrap,IntKind.signed,IntKind.bits];omega
 by_cases h1:44032≤i∧i≤55203
 ·have a1:(44032:Int)≤i:=by omega
  have a2:i≤55203:=by omega
  have a3:=hB h1.1 h1.2
  have w3:=w2 h1.1 h1.2
  generalize hm:(i-44032)%28=m at a3
  by_cases h2:m=0
  ·subst h2
   have e:zJ l i=12:=by unfold zJ;rw[if_pos h1,if_pos hm]
   rw[e]
   simp (maxSteps:=1000000) [go_sem,Tryz.f143,w3,a1,a2,a3]
   exact zg (.p (.int .i64 12)) rfl (by simp[go_sem,zf,leA,leT]) ⟨rfl,rfl⟩
  ·have e:zJ l i=13:=by unfold zJ;rw[if_pos h1,if_neg (by omega)]
   rw[e]
   simp (maxSteps:=1000000) [go_sem,Tryz.f143,w3,a1,a2,a3,h2]
   exact zg (.p (.int .i64 13)) rfl (by simp[go_sem,zf,leA,leT]) ⟨rfl,rfl⟩
 ·have e:zJ l i=aL l 4 i:=by unfold zJ;rw[if_neg h1]
  rw[e]
  by_cases a1:(44032:Int)≤i
  ·have a2:¬(i≤55203):=by omega
   simp (maxSteps:=1000000) [go_sem,Tryz.f143,a1,a2]
   refine⟨⟨rfl,by simp[Tryz.f80]⟩,zb [] (jf l 4 i hw.n hi) (by simp[go_sem]) ⟨by simp[go_sem],by simp[go_sem]⟩ (by simp[go_sem]) ?_⟩
   rintro _ rs ⟨rfl,rfl⟩
   simp (maxSteps:=1000000) [go_sem]
   exact zg (.p (.int .i64 (aL l 4 i))) rfl (by simp[go_sem,zf,leA,leT]) ⟨rfl,rfl⟩
  ·simp (maxSteps:=1000000) [go_sem,Tryz.f143,a1]
   refine⟨⟨rfl,by simp[Tryz.f80]⟩,zb [] (jf l 4 i hw.n hi) (by simp[go_sem]) ⟨by simp[go_sem],by simp[go_sem]⟩ (by simp[go_sem]) ?_⟩
   rintro _ rs ⟨rfl,rfl⟩
   simp (maxSteps:=1000000) [go_sem]
   exact zg (.p (.int .i64 (aL l 4 i))) rfl (by simp[go_sem,zf,leA,leT]) ⟨rfl,rfl⟩
theorem zga [Gi] {l:List Row}(hw:qP l) {i:Int}(hi:zL i):CR Tryz.prog 185 [] [.p (zC l),.p (.int .i32 i)] [] (is (.p (.int .i64 (ZC l i)))):=by
 refine zm mixed 7 [] Tryz.func185 rfl (by kernel_rfl) rfl (by simp) (by simp) ?_
 simp (maxSteps:=1000000) [go_sem,Tryz.f185]
 refine⟨⟨rfl,by simp[Tryz.f80]⟩,zb [] (jf l 6 i hw.n hi) (by simp[go_sem]) ⟨by simp[go_sem],by simp[go_sem]⟩ (by simp[go_sem]) ?_⟩
 rintro _ rs ⟨rfl,rfl⟩
 simp (maxSteps:=1000000) [go_sem]
 by_cases h1:aL l 6 i=0
 ·simp (maxSteps:=1000000) [go_sem,h1]
  refine⟨⟨rfl,by simp[Tryz.f143]⟩,zb [] (wQ hw hi) (by simp[go_sem]) ⟨by simp[go_sem],by simp[go_sem]⟩ (by simp[go_sem]) ?_⟩
  rintro _ rs ⟨rfl,rfl⟩
  have e:ZC l i=if(zJ l i=4∨zJ l i=5)∧i≠8204 then 3 else 0:=by unfold ZC;rw[if_neg (fun h=>h h1)]
  rw[e]
  generalize zJ l i=v
  by_cases h2:(v=4∨v=5)∧i≠8204
  ·rw[if_pos h2]
   have h3:¬(i=8204):=by omega
   rcases h2.1 with rfl|rfl
   ·simp (maxSteps:=1000000) [go_sem,h3]
    exact zg (.p (.int .i64 3)) rfl (by simp[go_sem,zf,leA,leT]) ⟨rfl,rfl⟩
   ·simp (maxSteps:=1000000) [go_sem,h3]
    exact zg (.p (.int .i64 3)) rfl (by simp[go_sem,zf,leA,leT]) ⟨rfl,rfl⟩
  ·rw[if_neg h2]
   by_cases h4:v=4
   ·have h3:i=8204:=by omega
    simp (maxSteps:=1000000) [go_sem,h4,h3]
    exact zg (.p (.int .i64 0)) rfl (by simp[go_sem,zf,leA,leT]) ⟨rfl,rfl⟩
   ·by_cases h5:v=5
    ·have h3:i=8204:=by omega
     simp (maxSteps:=1000000) [go_sem,h5,h3]
     exact zg (.p (.int .i64 0)) rfl (by simp[go_sem,zf,leA,leT]) ⟨rfl,rfl⟩
    ·simp (maxSteps:=1000000) [go_sem,h4,h5]
     exact zg (.p (.int .i64 0)) rfl (by simp[go_sem,zf,leA,leT]) ⟨rfl,rfl⟩
 ·have e:ZC l i=aL l 6 i:=by unfold ZC;rw[if_pos h1]
  rw[e]
  simp (maxSteps:=1000000) [go_sem,h1]
  exact zg (.p (.int .i64 (aL l 6 i))) rfl (by simp[go_sem,zf,leA,leT]) ⟨rfl,rfl⟩
def QQ(a:Int):Bool:=decide (a=3) || (decide (a=1) || decide (a=2))
theorem zfr [Gi](a:Int):CR Tryz.prog 144 [] [.p (.int .i64 a)] [] (is (.p (.bool (QQ a)))):=by
 refine zm mixed 3 [] Tryz.func144 rfl (by kernel_rfl) rfl (by simp) (by simp) ?_
 by_cases a3:a=3
 ·simp (maxSteps:=1000000) [go_sem,Tryz.f144,a3]
  exact zg (.p (.bool (QQ a))) rfl (by simp[go_sem,zf,leA,leT,QQ,a3]) ⟨rfl,by first|rfl|simp[a3]⟩
 by_cases a1:a=1
 ·simp (maxSteps:=1000000) [go_sem,Tryz.f144,a1]
  exact zg (.p (.bool (QQ a))) rfl (by simp[go_sem,zf,leA,leT,QQ,a1]) ⟨rfl,by first|rfl|simp[a1]⟩
 by_cases a2:a=2
 ·simp (maxSteps:=1000000) [go_sem,Tryz.f144,a2]
  exact zg (.p (.bool (QQ a))) rfl (by simp[go_sem,zf,leA,leT,QQ,a2]) ⟨rfl,by first|rfl|simp[a2]⟩
 simp (maxSteps:=1000000) [go_sem,Tryz.f144,a3,a1,a2]
 exact zg (.p (.bool (QQ a))) rfl (by simp[go_sem,zf,leA,leT,QQ,a3,a1,a2]) ⟨rfl,by first|rfl|simp[a3,a1,a2]⟩
def Qr(a b:Int):Bool:=
 if a=9 then decide (b=9) || (decide (b=10) || (decide (b=12) || decide (b=13)))
 else if a=12∨a=10 then decide (b=10) || decide (b=11)
 else if a=13∨a=11 then decide (b=11)
 else false
theorem zg1 [Gi](a b:Int):CR Tryz.prog 145 [] [.p (.int .i64 a),.p (.int .i64 b)] [] (is (.p (.bool (Qr a b)))):=by
 refine zm mixed 5 [] Tryz.func145 rfl (by kernel_rfl) rfl (by simp) (by simp) ?_
 by_cases a9:a=9
 ·by_cases b9:b=9
  ·simp (maxSteps:=1000000) [go_sem,Tryz.f145,a9,b9]
   exact zg (.p (.bool (Qr a b))) rfl (by simp[go_sem,zf,leA,leT,Qr,a9,b9]) ⟨rfl,by first|rfl|simp[a9,b9]⟩
  by_cases b10:b=10
  ·simp (maxSteps:=1000000) [go_sem,Tryz.f145,a9,b10]
   exact zg (.p (.bool (Qr a b))) rfl (by simp[go_sem,zf,leA,leT,Qr,a9,b10]) ⟨rfl,by first|rfl|simp[a9,b10]⟩
  by_cases b12:b=12
  ·simp (maxSteps:=1000000) [go_sem,Tryz.f145,a9,b12]
   exact zg (.p (.bool (Qr a b))) rfl (by simp[go_sem,zf,leA,leT,Qr,a9,b12]) ⟨rfl,by first|rfl|simp[a9,b12]⟩
  by_cases b13:b=13
  ·simp (maxSteps:=1000000) [go_sem,Tryz.f145,a9,b13]
   exact zg (.p (.bool (Qr a b))) rfl (by simp[go_sem,zf,leA,leT,Qr,a9,b13]) ⟨rfl,by first|rfl|simp[a9,b13]⟩
  simp (maxSteps:=1000000) [go_sem,Tryz.f145,a9,b9,b10,b12,b13]
  exact zg (.p (.bool (Qr a b))) rfl (by simp[go_sem,zf,leA,leT,Qr,a9,b9,b10,b12,b13]) ⟨rfl,by first|rfl|simp[a9]⟩
 by_cases a12:a=12
 ·by_cases b10:b=10
  ·simp (maxSteps:=1000000) [go_sem,Tryz.f145,a12,b10]
   exact zg (.p (.bool (Qr a b))) rfl (by simp[go_sem,zf,leA,leT,Qr,a12,b10]) ⟨rfl,by first|rfl|simp[a12,b10]⟩
  by_cases b11:b=11
  ·simp (maxSteps:=1000000) [go_sem,Tryz.f145,a12,b11]
   exact zg (.p (.bool (Qr a b))) rfl (by simp[go_sem,zf,leA,leT,Qr,a12,b11]) ⟨rfl,by first|rfl|simp[a12,b11]⟩
  simp (maxSteps:=1000000) [go_sem,Tryz.f145,a12,b10,b11]
  exact zg (.p (.bool (Qr a b))) rfl (by simp[go_sem,zf,leA,leT,Qr,a12,b10,b11]) ⟨rfl,by first|rfl|simp[a12]⟩
 by_cases a10:a=10
 ·by_cases b10:b=10
  ·simp (maxSteps:=1000000) [go_sem,Tryz.f145,a10,b10]
   exact zg (.p (.bool (Qr a b))) rfl (by simp[go_sem,zf,leA,leT,Qr,a10,b10]) ⟨rfl,by first|rfl|simp[a10,b10]⟩
  by_cases b11:b=11
  ·simp (maxSteps:=1000000) [go_sem,Tryz.f145,a10,b11]
   exact zg (.p (.bool (Qr a b))) rfl (by simp[go_sem,zf,leA,leT,Qr,a10,b11]) ⟨rfl,by first|rfl|simp[a10,b11]⟩
  simp (maxSteps:=1000000) [go_sem,Tryz.f145,a10,b10,b11]
  exact zg (.p (.bool (Qr a b))) rfl (by simp[go_sem,zf,leA,leT,Qr,a10,b10,b11]) ⟨rfl,by first|rfl|simp[a10]⟩
 by_cases a13:a=13
 ·by_cases b11:b=11
  ·simp (maxSteps:=1000000) [go_sem,Tryz.f145,a13,b11]
   exact zg (.p (.bool (Qr a b))) rfl (by simp[go_sem,zf,leA,leT,Qr,a13,b11]) ⟨rfl,by first|rfl|simp[a13,b11]⟩
  simp (maxSteps:=1000000) [go_sem,Tryz.f145,a13,b11]
  exact zg (.p (.bool (Qr a b))) rfl (by simp[go_sem,zf,leA,leT,Qr,a13,b11]) ⟨rfl,by first|rfl|simp[a13]⟩
 by_cases a11:a=11
 ·by_cases b11:b=11
  ·simp (maxSteps:=1000000) [go_sem,Tryz.f145,a11,b11]
   exact zg (.p (.bool (Qr a b))) rfl (by simp[go_sem,zf,leA,leT,Qr,a11,b11]) ⟨rfl,by first|rfl|simp[a11,b11]⟩
  simp (maxSteps:=1000000) [go_sem,Tryz.f145,a11,b11]
  exact zg (.p (.bool (Qr a b))) rfl (by simp[go_sem,zf,leA,leT,Qr,a11,b11]) ⟨rfl,by first|rfl|simp[a11]⟩
 simp (maxSteps:=1000000) [go_sem,Tryz.f145,a9,a12,a10,a13,a11]
 exact zg (.p (.bool (Qr a b))) rfl (by simp[go_sem,zf,leA,leT,Qr,a9,a12,a10,a13,a11]) ⟨rfl,by first|rfl|simp[a9,a12,a10,a13,a11]⟩
end Go.Proofs.YtjefahhmkcfiiaaGreat
end
section
namespace Go.Proofs.YtjefahhmkcfiiaaGreat
open Go.AM
set_option maxHeartbeats 4000000
set_option maxRecDepth 10000
theorem zjI [Gi](l:List Span)(hU:Up l)(h12:12<l.length)(hn:l.length<2^31):CR Tryz.prog 195 [] [.p (zK l),.p (.int .i64 0),.p (.int .i64 l.length),.p byV] []
  (fun x rs=>(∃p:Int,x=.tup [.p (.int .i64 p),.p (.int .i64 1)])∧rs=[]):=by
 obtain⟨q,hq⟩:∃q,q=l.length/4:=⟨_,rfl⟩
 obtain⟨r2,hr2⟩:∃r,r=q*2:=⟨_,rfl⟩
 obtain⟨r3,hr3⟩:∃r,r=q*3:=⟨_,rfl⟩
 have hq3:3≤q:=by omega
 have d1:(l.length:Int).tdiv 4=(q:Int):=by rw[hq];rfl
 have w0:IntKind.i64.wrap (l.length:Int)=l.length:=wrap64 (by omega) (by omega)
 have w1:IntKind.i64.wrap (q:Int)=q:=wrap64 (by omega) (by omega)
 have w2:IntKind.i64.wrap ((q:Int)*2)=(r2:Int):=by rw[wrap64 (by omega) (by omega)];omega
 have w3:IntKind.i64.wrap ((q:Int)*3)=(r3:Int):=by rw[wrap64 (by omega) (by omega)];omega
 have w5:IntKind.i64.wrap (r2:Int)=(r2:Int):=wrap64 (by omega) (by omega)
 have w6:IntKind.i64.wrap (r3:Int)=(r3:Int):=wrap64 (by omega) (by omega)
 have e8:(8:Int)≤(l.length:Int):=by omega
 refine zm mixed 15 [55] Tryz.func195 rfl (by kernel_rfl) rfl (by simp) (by simp) ?_
 simp (maxSteps:=1000000) [go_sem,Tryz.f195,d1,w0,w1,w2,w3,w5,w6,e8]
 refine Zs (fun _:Unit=>True) (fun _=>[(12,.p (.int .i64 q)),(13,.p (.int .i64 r2)),(14,.p (.int .i64 r3))]) (fun _=>[]) (zx (fun h=>?_) (fun h=>?_)) ?_
 ·simp (maxSteps:=1000000) [go_sem]
  refine⟨⟨rfl,by simp[Tryz.f224]⟩,zb [([0],[11])] (wO l q 0 hU (by omega) (by omega) hn) (by simp[go_sem,zD]) ⟨by simp[go_sem],by simp[go_sem]⟩ (by simp[go_sem]) ?_⟩
  rintro _ rs ⟨rfl,rfl⟩
  simp (maxSteps:=1000000) [go_sem]
  refine⟨⟨rfl,by simp[Tryz.f224]⟩,zb [([0],[11])] (wO l r2 0 hU (by omega) (by omega) hn) (by simp[go_sem,zD]) ⟨by simp[go_sem],by simp[go_sem]⟩ (by simp[go_sem]) ?_⟩
  rintro _ rs ⟨rfl,rfl⟩
  simp (maxSteps:=1000000) [go_sem]
  refine⟨⟨rfl,by simp[Tryz.f224]⟩,zb [([0],[11])] (wO l r3 0 hU (by omega) (by omega) hn) (by simp[go_sem,zD]) ⟨by simp[go_sem],by simp[go_sem]⟩ (by simp[go_sem]) ?_⟩
  rintro _ rs ⟨rfl,rfl⟩
  simp (maxSteps:=1000000) [go_sem]
  exact zU () trivial (by simp[go_sem])
 ·simp (maxSteps:=1000000) [go_sem]
  exact zU () trivial (by simp[go_sem])
 ·rintro _ ts _
  simp (maxSteps:=1000000) [go_sem]
  refine⟨⟨rfl,by simp[Tryz.f225]⟩,zb [([0],[11])] (zaa l q r2 r3 0 hU (by omega) (by omega) (by omega)) (by simp[go_sem,zD]) ⟨by simp[go_sem],by simp[go_sem]⟩ (by simp[go_sem]) ?_⟩
  rintro _ rs ⟨rfl,rfl⟩
  simp (maxSteps:=1000000) [go_sem]
  exact zl [] (.tup [.p (.int .i64 r2),.p (.int .i64 1)]) ⟨rfl,by simp⟩ (by simp[go_sem,zf,leA,leT,leP]) ⟨⟨_,rfl⟩,by simp[go_sem]⟩
theorem zbQ [Gi](l:List Span)(hU:Up l)(hn:l.length<2^31):CR Tryz.prog 192 [] [.p (zK l),.p (.int .i64 0),.p (.int .i64 l.length),.p byV] [] (is (.tup [])):=by
 refine zM [200006] mixed 10 [] Tryz.func192 rfl (by kernel_rfl) rfl (by simp) (by simp) ?_
 simp (maxSteps:=1000000) [go_sem,Tryz.f192]
 refine zi (fun m:Nat=>m+1≤l.length∨m=0) (fun m=>[(8,.p (.int .i64 ((m:Int)+1)))]) (fun _=>[]) (fun m=>l.length-m) 0 (.inr rfl) (by simp[go_sem,LeS,leV,leR,leA,wrap64]) (fun m hm=>?_)
 simp (maxSteps:=1000000) [go_sem]
 refine zx (fun h=>?_) (fun h=>?_)
 ·simp (maxSteps:=1000000) [go_sem]
  have w1:IntKind.i64.wrap ((m:Int)+1+1)=(m:Int)+1+1:=wrap64 (by omega) (by omega)
  have w2:IntKind.i64.wrap (m:Int)=m:=wrap64 (by omega) (by omega)
  have hkl:m+1<l.length:=by omega
  have m1:=zq z8 l (m+1) hkl
  have m2:=zq z8 l m (by omega)
  have hc:=hU.cmp (i:=m) (j:=m+1) (by omega) (by omega) hkl
  have e0:(0:Int)< (m:Int)+1:=by omega
  have e1:(0:Int)≤(m:Int)+1:=by omega
  have e2:(m:Int)+1<l.length:=by omega
  have e3:m<l.length:=by omega
  have e4:((m:Int)+1).toNat=m+1:=by omega
  refine zi (fun _:Unit=>True) (fun _=>[(9,.p (.int .i64 ((m:Int)+1)))]) (fun _=>[]) (fun _=>0) () trivial (by simp[go_sem,LeS,leV,leR,leA]) (fun _ _=>?_)
  simp (maxSteps:=1000000) [go_sem,byV,zK,w2,m1,m2,e0,e1,e2,e3,e4,z8]
  refine⟨⟨rfl,by simp[Tryz.f114]⟩,zb [] (Ua l[m+1] (l[m]'e3)) (by simp[go_sem]) ⟨by simp[go_sem],by simp[go_sem,z8]⟩ (by simp[go_sem]) ?_⟩
  rintro _ rs ⟨rfl,rfl⟩
  simp (maxSteps:=1000000) [go_sem,hc,w1]
  exact zc (m+1) (.inl (by omega)) (by simp[go_sem,LeS,leV,leR,leA]) (by omega)
 ·simp (maxSteps:=1000000) [go_sem]
  exact zg (.tup []) rfl (by simp[go_sem,zf,leT,leP]) ⟨rfl,rfl⟩
theorem zeV [Gi](l:List Span)(hU:Up l)(h0:0<l.length)(hn:l.length<2^31):CR Tryz.prog 197 [] [.p (zK l),.p (.int .i64 0),.p (.int .i64 l.length),.p byV] [] (is (.p (.bool true))):=by
 refine zM [200011,200017,200023] mixed 13 [] Tryz.func197 rfl (by kernel_rfl) rfl (by simp) (by simp) ?_
 simp (maxSteps:=1000000) [go_sem,Tryz.f197]
 refine zi (fun _:Unit=>True) (fun _=>[]) (fun _=>[]) (fun _=>0) () trivial (by simp[go_sem,LeS,leV,leR,leA]) (fun _ _=>?_)
 simp (maxSteps:=1000000) [go_sem,wrap64]
 refine zi (fun m:Nat=>m+1≤l.length) (fun m=>[(9,.p (.int .i64 ((m:Int)+1)))]) (fun _=>[]) (fun m=>l.length-m) 0 (by omega) (by simp[go_sem,LeS,leV,leR,leA]) (fun m hm=>?_)
 have w1:IntKind.i64.wrap ((m:Int)+1+1)=(m:Int)+1+1:=wrap64 (by omega) (by omega)
 have w2:IntKind.i64.wrap (m:Int)=m:=wrap64 (by omega) (by omega)
 by_cases hkl:m+1<l.length
 ·have m1:=zq z8 l (m+1) hkl
  have m2:=zq z8 l m (by omega)
  have hc:=hU.cmp (i:=m) (j:=m+1) (by omega) (by omega) hkl
  have e1:(0:Int)≤(m:Int)+1:=by omega
  have e2:(m:Int)+1<l.length:=by omega
  have e3:m<l.length:=by omega
  have e4:((m:Int)+1).toNat=m+1:=by omega
  simp (maxSteps:=1000000) [go_sem,byV,zK,w2,m1,m2,e1,e2,e3,e4,z8]
  refine⟨⟨rfl,by simp[Tryz.f114]⟩,zb [] (Ua l[m+1] (l[m]'e3)) (by simp[go_sem]) ⟨by simp[go_sem],by simp[go_sem,z8]⟩ (by simp[go_sem]) ?_⟩
  rintro _ rs ⟨rfl,rfl⟩
  simp (maxSteps:=1000000) [go_sem,hc,w1]
  exact zc (m+1) (by omega) (by simp[go_sem,LeS,leV,leR,leA]) (by omega)
 ·have e2:¬(m:Int)+1<l.length:=by omega
  have e3:(m:Int)+1=l.length:=by omega
  simp (maxSteps:=1000000) [go_sem,e3]
  exact zg (.p (.bool true)) rfl (by simp[go_sem,zf,leA,leT]) ⟨rfl,rfl⟩
end Go.Proofs.YtjefahhmkcfiiaaGreat
end
section
namespace Go.Proofs.YtjefahhmkcfiiaaGreat
open Go.AM
set_option maxHeartbeats 4000000
set_option maxRecDepth 10000
def WS:List UInt8:=[0,1,2,2,3,3,3,3,4,4,4,4,4,4,4,4,5,5,5,5,5,5,5,5,5,5,5,5,5,5,5,5,6,6,6,6,6,6,6,6,6,6,6,6,6,6,6,6,6,6,6,6,6,6,6,6,6,6,6,6,6,6,6,6,7,7,7,7,7,7,7,7,7,7,7,7,7,7,7,7,7,7,7,7,7,7,7,7,7,7,7,7,7,7,7,7,7,7,7,7,7,7,7,7,7,7,7,7,7,7,7,7,7,7,7,7,7,7,7,7,7,7,7,7,7,7,7,7,8,8,8,8,8,8,8,8,8,8,8,8,8,8,8,8,8,8,8,8,8,8,8,8,8,8,8,8,8,8,8,8,8,8,8,8,8,8,8,8,8,8,8,8,8,8,8,8,8,8,8,8,8,8,8,8,8,8,8,8,8,8,8,8,8,8,8,8,8,8,8,8,8,8,8,8,8,8,8,8,8,8,8,8,8,8,8,8,8,8,8,8,8,8,8,8,8,8,8,8,8,8,8,8,8,8,8,8,8,8,8,8,8,8,8,8,8,8,8,8,8,8,8,8,8,8,8,8]
theorem zgK:((List.range 256).all fun n=>n==0 || (decide (1≤(WS.getD n 0).toNat)&&decide ((WS.getD n 0).toNat≤8)))=true:=by decide
theorem zhw {n:Nat}(h1:1≤n)(h2:n<256):1≤Qj WS n∧Qj WS n≤8:=by
 have:=List.all_eq_true.1 zgK n (List.mem_range.2 h2)
 have hn:(n==0)=false:=by simp;omega
 rw[hn]at this
 simp only[Bool.false_or,Bool.and_eq_true,decide_eq_true_eq]at this
 unfold Qj
 omega
theorem zje [Gi](n:Nat)(h1:1≤n)(h2:n<256):CR Tryz.prog 201 [] [.p (.int .u64 n)] [] (fun x rs=>(∃k:Int,k≠0∧x=.p (.int .i64 k))∧rs=[]):=by
 refine zm mixed 3 [] Tryz.func201 rfl (by kernel_rfl) rfl (by simp) (by simp) ?_
 have e1:¬(4294967296:Int)≤n:=by omega
 have e2:¬(65536:Int)≤n:=by omega
 have e3:¬(256:Int)≤n:=by omega
 have w:IntKind.u8.wrap (n:Int)=n:=by simp[IntKind.wrap,IntKind.signed,IntKind.bits];omega
 simp (maxSteps:=1000000) [go_sem,Tryz.f201,e1,e2,e3,w]
 have ht:=zhw h1 h2
 refine⟨by omega,zl [] (.p (.int .i64 (IntKind.i64.wrap (IntKind.i64.wrap (Qj WS n))))) ⟨rfl,by simp⟩ (by simp[go_sem,zf,leA,leT,WS]) ⟨⟨_,?_,rfl⟩,by simp[go_sem]⟩⟩
 rw[wrap64 (x:=Qj WS n) (by omega) (by omega),wrap64 (by omega) (by omega)]
 omega
theorem zlA [Gi](n:Nat)(h1:1≤n)(h2:n<256):CR Tryz.prog 169 [] [.p (.int .u64 n)] [] (fun x rs=>(∃k:Int,k≠0∧x=.p (.int .i64 k))∧rs=[]):=by
 refine zm mixed 3 [] Tryz.func169 rfl (by kernel_rfl) rfl (by simp) (by simp) ?_
 simp (maxSteps:=1000000) [go_sem,Tryz.f169]
 refine⟨⟨rfl,by simp[Tryz.f201]⟩,zb [] (zje n h1 h2) (by simp[go_sem]) ⟨by simp[go_sem],by simp[go_sem]⟩ (by simp[go_sem]) ?_⟩
 rintro _ rs ⟨⟨k,hk,rfl⟩,rfl⟩
 simp (maxSteps:=1000000) [go_sem]
 exact zl [] (.p (.int .i64 k)) ⟨rfl,by simp⟩ (by simp[go_sem,zf,leA,leT]) ⟨⟨_,hk,rfl⟩,by simp[go_sem]⟩
theorem zlE [Gi](l:List Span)(k:Int)(hk:k≠0)(hU:Up l)(hn:l.length<256):CR Tryz.prog 168 [] [.p (zK l),.p (.int .i64 0),.p (.int .i64 l.length),.p (.int .i64 k),.p byV] [] (is (.tup [])):=by
 have w0:IntKind.i64.wrap (l.length:Int)=l.length:=wrap64 (by omega) (by omega)
 refine zm mixed 21 [] Tryz.func168 rfl (by kernel_rfl) rfl (by simp) (by simp) ?_
 simp (maxSteps:=1000000) [go_sem,Tryz.f168]
 refine zi (fun _:Unit=>True) (fun _=>[]) (fun _=>[]) (fun _=>0) () trivial (by simp[go_sem,LeS,leV,leR,leA]) (fun _ _=>?_)
 simp (maxSteps:=1000000) [go_sem,w0]
 refine zx (fun h=>?_) (fun h=>?_)
 ·simp (maxSteps:=1000000) [go_sem]
  refine⟨⟨rfl,by simp[Tryz.f192]⟩,zb [] (zbQ l hU (by omega)) (by simp[go_sem]) ⟨by simp[go_sem],by simp[go_sem]⟩ (by simp[go_sem]) ?_⟩
  rintro _ rs ⟨rfl,rfl⟩
  simp (maxSteps:=1000000) [go_sem]
  exact zg (.tup []) rfl (by simp[go_sem,zf,leT,leP]) ⟨rfl,rfl⟩
 ·simp (maxSteps:=1000000) [go_sem,hk]
  refine⟨⟨rfl,by simp[Tryz.f195]⟩,zb [] (zjI l hU (by omega) (by omega)) (by simp[go_sem]) ⟨by simp[go_sem],by simp[go_sem]⟩ (by simp[go_sem]) ?_⟩
  rintro _ rs ⟨⟨p,rfl⟩,rfl⟩
  simp (maxSteps:=1000000) [go_sem]
  refine⟨⟨rfl,by simp[Tryz.f197]⟩,zb [] (zeV l hU (by omega) (by omega)) (by simp[go_sem]) ⟨by simp[go_sem],by simp[go_sem]⟩ (by simp[go_sem]) ?_⟩
  rintro _ rs ⟨rfl,rfl⟩
  simp (maxSteps:=1000000) [go_sem]
  exact zg (.tup []) rfl (by simp[go_sem,zf,leT,leP]) ⟨rfl,rfl⟩
theorem zkD [Gi](l:List Span)(hU:Up l)(h1:1≤l.length)(hn:l.length<256):CR Tryz.prog 117 [] [.p (zK l),.p byV] [] (is (.tup [])):=by
 have w0:IntKind.u64.wrap (l.length:Int)=l.length:=by simp[IntKind.wrap,IntKind.signed,IntKind.bits];omega
 refine zm mixed 5 [] Tryz.func117 rfl (by kernel_rfl) rfl (by simp) (by simp) ?_
 simp (maxSteps:=1000000) [go_sem,Tryz.f117,zK,w0]
 refine⟨⟨rfl,by simp[Tryz.f169]⟩,zb [] (zlA l.length h1 hn) (by simp[go_sem]) ⟨by simp[go_sem],by simp[go_sem]⟩ (by simp[go_sem]) ?_⟩
 rintro _ rs ⟨⟨k,hk,rfl⟩,rfl⟩
 simp (maxSteps:=1000000) [go_sem]
 refine⟨⟨rfl,by simp[Tryz.f168]⟩,zb [] (zlE l k hk hU hn) (by simp[go_sem]) ⟨by simp[go_sem],by simp[go_sem,zK]⟩ (by simp[go_sem]) ?_⟩
 rintro _ rs ⟨rfl,rfl⟩
 simp (maxSteps:=1000000) [go_sem]
 exact zg (.tup []) rfl (by simp[go_sem,zf,leT,leP]) ⟨rfl,rfl⟩
end Go.Proofs.YtjefahhmkcfiiaaGreat
end
