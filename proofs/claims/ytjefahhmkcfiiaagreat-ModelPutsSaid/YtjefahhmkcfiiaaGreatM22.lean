/- A part of the proof of this seat's statements, by an abstract machine: what each operation does to values, and what the law's functions compute. Conditions: as each law says. -/
import Derived.Test.YtjefahhmkcfiiaaGreatM21
section
namespace Go.Proofs.YtjefahhmkcfiiaaGreat
open Go.AM
set_option maxHeartbeats 4000000
set_option maxRecDepth 10000
structure RowsOK(l:List Row):Prop where
 ne:l≠ []
 n:l.length<2^31
 p:∀x∈l,x.k=2→(0≤x.f∧x.f<1114112)∧(0≤x.a∧x.a<1114112)∧0≤x.b∧x.b<1114112
theorem RowsOK.first {l:List Row}(h:RowsOK l):∃r,elemAt (l.map rowP) 0=rowP r:=by
 cases l with
 |nil=>exact absurd rfl h.ne
 |cons r l=>exact⟨r,rfl⟩
def Rune(r:Int):Prop:= -2147483648≤r∧r<2147483648
def pairD(l:List Row)(r:Int):Option (Int×Int):=match rowAt l 2 r with
 |some x=>if x.a=0∧x.b=0 then none else some (x.a,x.b)
 |none=>none
def pairDA(x:Option (Int×Int)):AV:=match x with
 |none=>.tup [.p (.int .i32 0),.p (.int .i32 0),.p (.bool false)]
 |some p=>.tup [.p (.int .i32 p.1),.p (.int .i32 p.2),.p (.bool true)]
theorem rowAt_mem {l:List Row} {k r:Int} {x:Row}(h:rowAt l k r=some x):x∈l∧x.k=k:=by
 unfold rowAt at h
 split at h
 ·cases h
 ·refine⟨List.mem_of_find?_eq_some h,?_⟩
  have:=List.find?_some h
  simp only[rowB,Bool.and_eq_true,decide_eq_true_eq]at this
  exact this.1.1
theorem pairD_ok {l:List Row}(hl:RowsOK l) {r:Int} {p:Int×Int}(h:pairD l r=some p):(0≤p.1∧p.1<1114112)∧0≤p.2∧p.2<1114112:=by
 unfold pairD at h
 split at h
 ·rename_i x hx
  obtain⟨h1,h2⟩:=rowAt_mem hx
  have:=hl.p x h1 h2
  split at h
  ·cases h
  ·injection h with h;subst h;exact this.2
 ·cases h
theorem pairD_cr [Gi](l:List Row)(r:Int)(hl:RowsOK l)(hr:Rune r):CR Tryz.prog 181 [] [.p (rowsP l),.p (.int .i32 r)] [] (is (pairDA (pairD l r))):=by
 refine CR_of_wpD [4] mixed 8 [] Tryz.func181 rfl (by kernel_rfl) rfl (by simp) (by simp) ?_
 have w1:=wrapR64 hr
 simp (maxSteps:=1000000) [go_sem,Tryz.f181,w1]
 refine⟨⟨rfl,by simp[Tryz.f175]⟩,CallK_of [] (findD_cr l 2 r hl.n) (by simp[go_sem,notHead]) ⟨by simp[go_sem],by simp[go_sem,w1]⟩ (by simp[go_sem]) ?_⟩
 rintro _ rs ⟨rfl,j,rfl,hj⟩
 rcases hj with ⟨rfl,hj⟩|⟨i,hi,rfl,hj⟩
 ·have e:pairD l r=none:=by unfold pairD;rw[hj]
  rw[e]
  obtain⟨r0,em⟩:=hl.first
  simp (maxSteps:=1000000) [go_sem,rowsP,em,rowP]
  exact ret_is (.tup [.p (.int .i32 0),.p (.int .i32 0),.p (.bool false)]) rfl (by simp[go_sem,resOf,leA,leT,leP]) ⟨rfl,rfl⟩
 ·obtain⟨h1,h2⟩:=rowAt_mem hj
  have hb:=hl.p _ h1 h2
  have e:pairD l r=if l[i].a=0∧l[i].b=0 then none else some (l[i].a,l[i].b):=by unfold pairD;rw[hj]
  rw[e]
  have em:=elemAt_map rowP l i hi
  generalize l[i]=x at em hb
  have h0:¬((i:Int)<0):=by omega
  have v1:IntKind.i32.wrap x.a=x.a:=wrapR (by omega)
  have v2:IntKind.i32.wrap x.b=x.b:=wrapR (by omega)
  by_cases c1:x.a=0
  ·by_cases c2:x.b=0
   ·rw[if_pos ⟨c1,c2⟩]
    simp (maxSteps:=1000000) [go_sem,em,hi,rowsP,rowP,h0,c1,c2]
    exact ret_is (.tup [.p (.int .i32 0),.p (.int .i32 0),.p (.bool false)]) rfl (by simp[go_sem,resOf,leA,leT,leP]) ⟨rfl,rfl⟩
   ·rw[if_neg (fun h=>c2 h.2)]
    simp (maxSteps:=1000000) [go_sem,em,hi,rowsP,rowP,h0,c1,c2,v2,wrapR (x:=0)]
    exact ret_is (.tup [.p (.int .i32 0),.p (.int .i32 x.b),.p (.bool true)]) rfl (by simp[go_sem,resOf,leA,leT,leP]) ⟨rfl,rfl⟩
  ·rw[if_neg (fun h=>c1 h.1)]
   simp (maxSteps:=1000000) [go_sem,em,hi,rowsP,rowP,h0,c1,v1,v2]
   exact ret_is (.tup [.p (.int .i32 x.a),.p (.int .i32 x.b),.p (.bool true)]) rfl (by simp[go_sem,resOf,leA,leT,leP]) ⟨rfl,rfl⟩
def outD(l:List Row)(r:Int):Bool:=match pairD l r with
 |none=>false
 |some p=>decide (p.2=0) || decide (aL l 3 r=1) ||!decide (aL l 1 r=0) ||!decide (aL l 1 p.1=0)
theorem outD_cr [Gi](l:List Row)(r:Int)(hl:RowsOK l)(hr:Rune r):CR Tryz.prog 212 [] [.p (rowsP l),.p (.int .i32 r)] [] (is (.p (.bool (outD l r)))):=by
 refine CR_of_wp mixed 8 [] Tryz.func212 rfl (by kernel_rfl) rfl (by simp) (by simp) ?_
 simp (maxSteps:=1000000) [go_sem,Tryz.f212]
 refine⟨⟨rfl,by simp[Tryz.f181]⟩,CallK_of [] (pairD_cr l r hl hr) (by simp[go_sem,notHead]) ⟨by simp[go_sem],by simp[go_sem]⟩ (by simp[go_sem]) ?_⟩
 rintro _ rs ⟨rfl,rfl⟩
 cases hp:pairD l r with
 |none=>
  have e:outD l r=false:=by unfold outD;rw[hp]
  simp (maxSteps:=1000000) [go_sem,pairDA]
  exact ret_is (.p (.bool (outD l r))) rfl (by simp[go_sem,resOf,leA,leT,leP,e]) ⟨rfl,rfl⟩
 |some p=>
  have hb:=pairD_ok hl hp
  have e:outD l r=(decide (p.2=0) || decide (aL l 3 r=1) ||!decide (aL l 1 r=0) ||!decide (aL l 1 p.1=0)):=by unfold outD;rw[hp]
  obtain⟨pa,pb⟩:=p
  simp only at e hb
  have hpa:Rune pa:=⟨by omega,by omega⟩
  by_cases c1:pb=0
  ·simp (maxSteps:=1000000) [go_sem,pairDA,c1]
   exact ret_is (.p (.bool (outD l r))) rfl (by simp[go_sem,resOf,leA,leT,leP,e,c1]) ⟨rfl,rfl⟩
  ·simp (maxSteps:=1000000) [go_sem,pairDA,c1]
   refine⟨⟨rfl,by simp[Tryz.f80]⟩,CallK_of [] (ofD_cr l 3 r hl.n hr) (by simp[go_sem,notHead]) ⟨by simp[go_sem],by simp[go_sem]⟩ (by simp[go_sem]) ?_⟩
   rintro _ rs ⟨rfl,rfl⟩
   by_cases c2:aL l 3 r=1
   ·simp (maxSteps:=1000000) [go_sem,c2]
    exact ret_is (.p (.bool (outD l r))) rfl (by simp[go_sem,resOf,leA,leT,leP,e,c2]) ⟨rfl,rfl⟩
   ·simp (maxSteps:=1000000) [go_sem,c2]
    refine⟨⟨rfl,by simp[Tryz.f80]⟩,CallK_of [] (ofD_cr l 1 r hl.n hr) (by simp[go_sem,notHead]) ⟨by simp[go_sem],by simp[go_sem]⟩ (by simp[go_sem]) ?_⟩
    rintro _ rs ⟨rfl,rfl⟩
    by_cases c3:aL l 1 r=0
    ·simp (maxSteps:=1000000) [go_sem,c3]
     refine⟨⟨rfl,by simp[Tryz.f80]⟩,CallK_of [] (ofD_cr l 1 pa hl.n hpa) (by simp[go_sem,notHead]) ⟨by simp[go_sem],by simp[go_sem]⟩ (by simp[go_sem]) ?_⟩
     rintro _ rs ⟨rfl,rfl⟩
     simp (maxSteps:=1000000) [go_sem]
     exact ret_is (.p (.bool (outD l r))) rfl (by simp[go_sem,resOf,leA,leT,leP,e,c1,c2,c3]) ⟨rfl,rfl⟩
    ·simp (maxSteps:=1000000) [go_sem,c3]
     exact ret_is (.p (.bool (outD l r))) rfl (by simp[go_sem,resOf,leA,leT,leP,e,c3]) ⟨rfl,rfl⟩
def compStep(l:List Row)(x y:Int)(acc:Option Int)(w:Row):Option Int:=
 if w.k=2∧w.a=x∧w.b=y∧y≠0∧pairD l w.f=some (x,y)∧outD l w.f=false∧(∀z,acc=some z→w.f<z)then some w.f else acc
def compD(l:List Row)(x y:Int):Option Int:=l.foldl (compStep l x y) none
def accV(a:Option Int):Int:=match a with|some z=>z|none=>0
theorem compD_cr [Gi](l:List Row)(x y:Int)(hl:RowsOK l)(hx:Rune x)(hy:Rune y):CR Tryz.prog 178 [] [.p (rowsP l),.p (.int .i32 x),.p (.int .i32 y)] [] (is (.tup [.p (.int .i32 (accV (compD l x y))),.p (.bool (compD l x y).isSome)])):=by
 refine CR_of_wp mixed 15 [] Tryz.func178 rfl (by kernel_rfl) rfl (by simp) (by simp) ?_
 have w1:=wrapR64 hx
 have w2:=wrapR64 hy
 have hn:=hl.n
 simp (maxSteps:=1000000) [go_sem,Tryz.f178,rowsP]
 refine wpA_loopU (fun i:Nat=>i≤l.length) (fun i=>[(10,.p (.int .i64 (i:Nat))),(8,.p (.int .i32 (accV ((l.take i).foldl (compStep l x y) none)))),(9,.p (.bool ((l.take i).foldl (compStep l x y) none).isSome)),(11,.junk),(12,.junk),(13,.junk),(14,.junk)]) (fun _=>[]) (fun i=>l.length-i) 0 (by omega) (by simp[go_sem,LeS,leV,leR,leA,leL,accV]) (fun i hi=>?_)
 simp (maxSteps:=1000000) [go_sem]
 refine condK_if (fun h=>?_) (fun h=>?_)
 ·have hil:i<l.length:=by omega
  have em:=elemAt_map rowP l i hil
  have w3:IntKind.i64.wrap ((i:Int)+1)=((i+1:Nat):Int):=wrapN_one (by omega)
  have htk:(l.take (i+1)).foldl (compStep l x y) none=compStep l x y ((l.take i).foldl (compStep l x y) none) l[i]:=by
   rw[List.take_add_one,List.getElem?_eq_getElem hil,List.foldl_append];rfl
  have hrow:=hl.p l[i] (List.getElem_mem _)
  generalize l[i]=q at em htk hrow
  generalize (l.take i).foldl (compStep l x y) none=acc at htk
  have hskip:¬(q.k=2∧q.a=x∧q.b=y∧y≠0∧pairD l q.f=some (x,y)∧outD l q.f=false∧∀z,acc=some z→q.f<z)→(l.take (i+1)).foldl (compStep l x y) none=acc:=fun h=>by rw[htk];exact if_neg h
  have hfr:q.k=2→IntKind.i32.wrap q.f=q.f:=fun h=>wrapR (by have:=hrow h;omega)
  by_cases c1:q.k=2
  ·have v1:=hfr c1
   have hqf:Rune q.f:=⟨by have:=hrow c1;omega,by have:=hrow c1;omega⟩
   by_cases c2:q.a=x
   ·by_cases c3:q.b=y
    ·by_cases c4:y=0
     ·have hs:=hskip (fun h=>h.2.2.2.1 c4)
      simp (maxSteps:=1000000) [go_sem,em,hil,rowP,c1,c2,c3,c4,w1,w2,w3,wrap64 (x:=0)]
      exact LoopK_next (i+1) (by omega) (by simp[go_sem,LeS,leV,leR,leA,leL,hs,←c4]) (by omega)
     ·simp (maxSteps:=1000000) [go_sem,em,hil,rowP,c1,c2,c3,c4,w1,w2,w3,v1]
      refine⟨⟨rfl,by simp[Tryz.f181]⟩,CallK_of [] (pairD_cr l q.f hl hqf) (by simp[go_sem,notHead]) ⟨by simp[go_sem],by simp[go_sem,rowsP]⟩ (by simp[go_sem]) ?_⟩
      rintro _ rs ⟨rfl,rfl⟩
      cases hp:pairD l q.f with
      |none=>
       have hs:=hskip (fun h=>by have:=h.2.2.2.2.1;rw[hp]at this;cases this)
       simp (maxSteps:=1000000) [go_sem,pairDA,w3]
       exact LoopK_next (i+1) (by omega) (by simp[go_sem,LeS,leV,leR,leA,leL,hs]) (by omega)
      |some p=>
       obtain⟨pa,pb⟩:=p
       by_cases c5:pa=x
       ·by_cases c6:pb=y
        ·subst c5;subst c6
         simp (maxSteps:=1000000) [go_sem,pairDA,w3]
         refine⟨⟨rfl,by simp[Tryz.f212]⟩,CallK_of [] (outD_cr l q.f hl hqf) (by simp[go_sem,notHead]) ⟨by simp[go_sem],by simp[go_sem,rowsP]⟩ (by simp[go_sem]) ?_⟩
         rintro _ rs ⟨rfl,rfl⟩
         cases ho:outD l q.f with
         |true=>
          have hs:=hskip (fun h=>by have:=h.2.2.2.2.2.1;rw[ho]at this;cases this)
          cases acc with
          |none=>
           simp (maxSteps:=1000000) [go_sem,w3]
           exact LoopK_next (i+1) (by omega) (by simp[go_sem,LeS,leV,leR,leA,leL,hs]) (by omega)
          |some z=>
           simp (maxSteps:=1000000) [go_sem,w3]
           exact LoopK_next (i+1) (by omega) (by simp[go_sem,LeS,leV,leR,leA,leL,hs]) (by omega)
         |false=>
          cases acc with
          |none=>
           have hs:(l.take (i+1)).foldl (compStep l pa pb) none=some q.f:=by rw[htk];exact if_pos ⟨c1,c2,c3,c4,hp,ho,fun z h=>by cases h⟩
           simp (maxSteps:=1000000) [go_sem,w3]
           exact LoopK_next (i+1) (by omega) (by simp[go_sem,LeS,leV,leR,leA,leL,hs,accV]) (by omega)
          |some z=>
           by_cases c7:q.f<z
           ·have hs:(l.take (i+1)).foldl (compStep l pa pb) none=some q.f:=by rw[htk];exact if_pos ⟨c1,c2,c3,c4,hp,ho,fun z' h=>by injection h with h;subst h;exact c7⟩
            simp (maxSteps:=1000000) [go_sem,w3,accV,c7]
            exact LoopK_next (i+1) (by omega) (by simp[go_sem,LeS,leV,leR,leA,leL,hs,accV]) (by omega)
           ·have hs:=hskip (fun h=>c7 (h.2.2.2.2.2.2 z rfl))
            simp (maxSteps:=1000000) [go_sem,w3,accV,c7]
            exact LoopK_next (i+1) (by omega) (by simp[go_sem,LeS,leV,leR,leA,leL,hs,accV]) (by omega)
        ·have hs:=hskip (fun h=>by have:=h.2.2.2.2.1;rw[hp]at this;injection this with this;injection this with _ h2;exact c6 h2)
         simp (maxSteps:=1000000) [go_sem,pairDA,w3,c5,c6]
         exact LoopK_next (i+1) (by omega) (by simp[go_sem,LeS,leV,leR,leA,leL,hs]) (by omega)
       ·have hs:=hskip (fun h=>by have:=h.2.2.2.2.1;rw[hp]at this;injection this with this;injection this with h2 _;exact c5 h2)
        simp (maxSteps:=1000000) [go_sem,pairDA,w3,c5]
        exact LoopK_next (i+1) (by omega) (by simp[go_sem,LeS,leV,leR,leA,leL,hs]) (by omega)
    ·have hs:=hskip (fun h=>c3 h.2.2.1)
     simp (maxSteps:=1000000) [go_sem,em,hil,rowP,c1,c2,c3,w1,w2,w3]
     exact LoopK_next (i+1) (by omega) (by simp[go_sem,LeS,leV,leR,leA,leL,hs]) (by omega)
   ·have hs:=hskip (fun h=>c2 h.2.1)
    simp (maxSteps:=1000000) [go_sem,em,hil,rowP,c1,c2,w1,w2,w3]
    exact LoopK_next (i+1) (by omega) (by simp[go_sem,LeS,leV,leR,leA,leL,hs]) (by omega)
  ·have hs:=hskip (fun h=>c1 h.1)
   simp (maxSteps:=1000000) [go_sem,em,hil,rowP,c1,w1,w2,w3]
   exact LoopK_next (i+1) (by omega) (by simp[go_sem,LeS,leV,leR,leA,leL,hs]) (by omega)
 ·have hil:i=l.length:=by omega
  subst hil
  rw[List.take_length]
  simp (maxSteps:=1000000) [go_sem]
  exact ret_is (.tup [.p (.int .i32 (accV (compD l x y))),.p (.bool (compD l x y).isSome)]) rfl (by simp[go_sem,resOf,leA,leT,leP,compD]) ⟨rfl,rfl⟩
end Go.Proofs.YtjefahhmkcfiiaaGreat
end
section
namespace Go.Proofs.YtjefahhmkcfiiaaGreat
open Go.AM
set_option maxHeartbeats 4000000
set_option maxRecDepth 10000
def brkD(l:List Row)(i:Int):Int:=if 44032≤i∧i≤55203 then(if(i-44032)%28=0 then 12 else 13)else aL l 4 i
def cnjD(l:List Row)(i:Int):Int:=if aL l 6 i≠0 then aL l 6 i else if(brkD l i=4∨brkD l i=5)∧i≠8204 then 3 else 0
theorem brkD_cr [Gi] {l:List Row}(hw:RowsOK l) {i:Int}(hi:Rune i):CR Tryz.prog 143 [] [.p (rowsP l),.p (.int .i32 i)] [] (is (.p (.int .i64 (brkD l i)))):=by
 refine CR_of_wp mixed 5 [] Tryz.func143 rfl (by kernel_rfl) rfl (by simp) (by simp) ?_
 have hB:44032≤i→i≤55203→(i-44032).tmod 28=(i-44032)%28:=fun h1 _=>Int.tmod_eq_emod_of_nonneg (by omega)
 have w2:44032≤i→i≤55203→IntKind.i32.wrap (i-44032)=i-44032:=fun _ _=>by simp[IntKind.wrap,IntKind.signed,IntKind.bits];omega
 by_cases h1:44032≤i∧i≤55203
 ·have a1:(44032:Int)≤i:=by omega
  have a2:i≤55203:=by omega
  have a3:=hB h1.1 h1.2
  have w3:=w2 h1.1 h1.2
  generalize hm:(i-44032)%28=m at a3
  by_cases h2:m=0
  ·subst h2
   have e:brkD l i=12:=by unfold brkD;rw[if_pos h1,if_pos hm]
   rw[e]
   simp (maxSteps:=1000000) [go_sem,Tryz.f143,w3,a1,a2,a3]
   exact ret_is (.p (.int .i64 12)) rfl (by simp[go_sem,resOf,leA,leT,leP]) ⟨rfl,rfl⟩
  ·have e:brkD l i=13:=by unfold brkD;rw[if_pos h1,if_neg (by omega)]
   rw[e]
   simp (maxSteps:=1000000) [go_sem,Tryz.f143,w3,a1,a2,a3,h2]
   exact ret_is (.p (.int .i64 13)) rfl (by simp[go_sem,resOf,leA,leT,leP]) ⟨rfl,rfl⟩
 ·have e:brkD l i=aL l 4 i:=by unfold brkD;rw[if_neg h1]
  rw[e]
  by_cases a1:(44032:Int)≤i
  ·have a2:¬(i≤55203):=by omega
   simp (maxSteps:=1000000) [go_sem,Tryz.f143,a1,a2]
   refine⟨⟨rfl,by simp[Tryz.f80]⟩,CallK_of [] (ofD_cr l 4 i hw.n hi) (by simp[go_sem,notHead]) ⟨by simp[go_sem],by simp[go_sem]⟩ (by simp[go_sem]) ?_⟩
   rintro _ rs ⟨rfl,rfl⟩
   simp (maxSteps:=1000000) [go_sem]
   exact ret_is (.p (.int .i64 (aL l 4 i))) rfl (by simp[go_sem,resOf,leA,leT,leP]) ⟨rfl,rfl⟩
  ·simp (maxSteps:=1000000) [go_sem,Tryz.f143,a1]
   refine⟨⟨rfl,by simp[Tryz.f80]⟩,CallK_of [] (ofD_cr l 4 i hw.n hi) (by simp[go_sem,notHead]) ⟨by simp[go_sem],by simp[go_sem]⟩ (by simp[go_sem]) ?_⟩
   rintro _ rs ⟨rfl,rfl⟩
   simp (maxSteps:=1000000) [go_sem]
   exact ret_is (.p (.int .i64 (aL l 4 i))) rfl (by simp[go_sem,resOf,leA,leT,leP]) ⟨rfl,rfl⟩
theorem cnjD_cr [Gi] {l:List Row}(hw:RowsOK l) {i:Int}(hi:Rune i):CR Tryz.prog 185 [] [.p (rowsP l),.p (.int .i32 i)] [] (is (.p (.int .i64 (cnjD l i)))):=by
 refine CR_of_wp mixed 7 [] Tryz.func185 rfl (by kernel_rfl) rfl (by simp) (by simp) ?_
 simp (maxSteps:=1000000) [go_sem,Tryz.f185]
 refine⟨⟨rfl,by simp[Tryz.f80]⟩,CallK_of [] (ofD_cr l 6 i hw.n hi) (by simp[go_sem,notHead]) ⟨by simp[go_sem],by simp[go_sem]⟩ (by simp[go_sem]) ?_⟩
 rintro _ rs ⟨rfl,rfl⟩
 simp (maxSteps:=1000000) [go_sem]
 by_cases h1:aL l 6 i=0
 ·simp (maxSteps:=1000000) [go_sem,h1]
  refine⟨⟨rfl,by simp[Tryz.f143]⟩,CallK_of [] (brkD_cr hw hi) (by simp[go_sem,notHead]) ⟨by simp[go_sem],by simp[go_sem]⟩ (by simp[go_sem]) ?_⟩
  rintro _ rs ⟨rfl,rfl⟩
  have e:cnjD l i=if(brkD l i=4∨brkD l i=5)∧i≠8204 then 3 else 0:=by unfold cnjD;rw[if_neg (fun h=>h h1)]
  rw[e]
  generalize brkD l i=v
  by_cases h2:(v=4∨v=5)∧i≠8204
  ·rw[if_pos h2]
   have h3:¬(i=8204):=by omega
   rcases h2.1 with rfl|rfl
   ·simp (maxSteps:=1000000) [go_sem,h3]
    exact ret_is (.p (.int .i64 3)) rfl (by simp[go_sem,resOf,leA,leT,leP]) ⟨rfl,rfl⟩
   ·simp (maxSteps:=1000000) [go_sem,h3]
    exact ret_is (.p (.int .i64 3)) rfl (by simp[go_sem,resOf,leA,leT,leP]) ⟨rfl,rfl⟩
  ·rw[if_neg h2]
   by_cases h4:v=4
   ·have h3:i=8204:=by omega
    simp (maxSteps:=1000000) [go_sem,h4,h3]
    exact ret_is (.p (.int .i64 0)) rfl (by simp[go_sem,resOf,leA,leT,leP]) ⟨rfl,rfl⟩
   ·by_cases h5:v=5
    ·have h3:i=8204:=by omega
     simp (maxSteps:=1000000) [go_sem,h4,h5,h3]
     exact ret_is (.p (.int .i64 0)) rfl (by simp[go_sem,resOf,leA,leT,leP]) ⟨rfl,rfl⟩
    ·simp (maxSteps:=1000000) [go_sem,h4,h5]
     exact ret_is (.p (.int .i64 0)) rfl (by simp[go_sem,resOf,leA,leT,leP]) ⟨rfl,rfl⟩
 ·have e:cnjD l i=aL l 6 i:=by unfold cnjD;rw[if_pos h1]
  rw[e]
  simp (maxSteps:=1000000) [go_sem,h1]
  exact ret_is (.p (.int .i64 (aL l 6 i))) rfl (by simp[go_sem,resOf,leA,leT,leP]) ⟨rfl,rfl⟩
def hardB(a:Int):Bool:=decide (a=3) || (decide (a=1) || decide (a=2))
theorem hard_cr [Gi](a:Int):CR Tryz.prog 144 [] [.p (.int .i64 a)] [] (is (.p (.bool (hardB a)))):=by
 refine CR_of_wp mixed 3 [] Tryz.func144 rfl (by kernel_rfl) rfl (by simp) (by simp) ?_
 by_cases a3:a=3
 ·simp (maxSteps:=1000000) [go_sem,Tryz.f144,a3]
  exact ret_is (.p (.bool (hardB a))) rfl (by simp[go_sem,resOf,leA,leT,leP,hardB,a3]) ⟨rfl,by first|rfl|simp[a3]⟩
 by_cases a1:a=1
 ·simp (maxSteps:=1000000) [go_sem,Tryz.f144,a3,a1]
  exact ret_is (.p (.bool (hardB a))) rfl (by simp[go_sem,resOf,leA,leT,leP,hardB,a3,a1]) ⟨rfl,by first|rfl|simp[a3,a1]⟩
 by_cases a2:a=2
 ·simp (maxSteps:=1000000) [go_sem,Tryz.f144,a3,a1,a2]
  exact ret_is (.p (.bool (hardB a))) rfl (by simp[go_sem,resOf,leA,leT,leP,hardB,a3,a1,a2]) ⟨rfl,by first|rfl|simp[a3,a1,a2]⟩
 simp (maxSteps:=1000000) [go_sem,Tryz.f144,a3,a1,a2]
 exact ret_is (.p (.bool (hardB a))) rfl (by simp[go_sem,resOf,leA,leT,leP,hardB,a3,a1,a2]) ⟨rfl,by first|rfl|simp[a3,a1,a2]⟩
def hanB(a b:Int):Bool:=
 if a=9 then decide (b=9) || (decide (b=10) || (decide (b=12) || decide (b=13)))
 else if a=12∨a=10 then decide (b=10) || decide (b=11)
 else if a=13∨a=11 then decide (b=11)
 else false
theorem hangul_cr [Gi](a b:Int):CR Tryz.prog 145 [] [.p (.int .i64 a),.p (.int .i64 b)] [] (is (.p (.bool (hanB a b)))):=by
 refine CR_of_wp mixed 5 [] Tryz.func145 rfl (by kernel_rfl) rfl (by simp) (by simp) ?_
 by_cases a9:a=9
 ·by_cases b9:b=9
  ·simp (maxSteps:=1000000) [go_sem,Tryz.f145,a9,b9]
   exact ret_is (.p (.bool (hanB a b))) rfl (by simp[go_sem,resOf,leA,leT,leP,hanB,a9,b9]) ⟨rfl,by first|rfl|simp[a9,b9]⟩
  by_cases b10:b=10
  ·simp (maxSteps:=1000000) [go_sem,Tryz.f145,a9,b9,b10]
   exact ret_is (.p (.bool (hanB a b))) rfl (by simp[go_sem,resOf,leA,leT,leP,hanB,a9,b9,b10]) ⟨rfl,by first|rfl|simp[a9,b9,b10]⟩
  by_cases b12:b=12
  ·simp (maxSteps:=1000000) [go_sem,Tryz.f145,a9,b9,b10,b12]
   exact ret_is (.p (.bool (hanB a b))) rfl (by simp[go_sem,resOf,leA,leT,leP,hanB,a9,b9,b10,b12]) ⟨rfl,by first|rfl|simp[a9,b9,b10,b12]⟩
  by_cases b13:b=13
  ·simp (maxSteps:=1000000) [go_sem,Tryz.f145,a9,b9,b10,b12,b13]
   exact ret_is (.p (.bool (hanB a b))) rfl (by simp[go_sem,resOf,leA,leT,leP,hanB,a9,b9,b10,b12,b13]) ⟨rfl,by first|rfl|simp[a9,b9,b10,b12,b13]⟩
  simp (maxSteps:=1000000) [go_sem,Tryz.f145,a9,b9,b10,b12,b13]
  exact ret_is (.p (.bool (hanB a b))) rfl (by simp[go_sem,resOf,leA,leT,leP,hanB,a9,b9,b10,b12,b13]) ⟨rfl,by first|rfl|simp[a9,b9,b10,b12,b13]⟩
 by_cases a12:a=12
 ·by_cases b10:b=10
  ·simp (maxSteps:=1000000) [go_sem,Tryz.f145,a9,a12,b10]
   exact ret_is (.p (.bool (hanB a b))) rfl (by simp[go_sem,resOf,leA,leT,leP,hanB,a9,a12,b10]) ⟨rfl,by first|rfl|simp[a9,a12,b10]⟩
  by_cases b11:b=11
  ·simp (maxSteps:=1000000) [go_sem,Tryz.f145,a9,a12,b10,b11]
   exact ret_is (.p (.bool (hanB a b))) rfl (by simp[go_sem,resOf,leA,leT,leP,hanB,a9,a12,b10,b11]) ⟨rfl,by first|rfl|simp[a9,a12,b10,b11]⟩
  simp (maxSteps:=1000000) [go_sem,Tryz.f145,a9,a12,b10,b11]
  exact ret_is (.p (.bool (hanB a b))) rfl (by simp[go_sem,resOf,leA,leT,leP,hanB,a9,a12,b10,b11]) ⟨rfl,by first|rfl|simp[a9,a12,b10,b11]⟩
 by_cases a10:a=10
 ·by_cases b10:b=10
  ·simp (maxSteps:=1000000) [go_sem,Tryz.f145,a9,a12,a10,b10]
   exact ret_is (.p (.bool (hanB a b))) rfl (by simp[go_sem,resOf,leA,leT,leP,hanB,a9,a12,a10,b10]) ⟨rfl,by first|rfl|simp[a9,a12,a10,b10]⟩
  by_cases b11:b=11
  ·simp (maxSteps:=1000000) [go_sem,Tryz.f145,a9,a12,a10,b10,b11]
   exact ret_is (.p (.bool (hanB a b))) rfl (by simp[go_sem,resOf,leA,leT,leP,hanB,a9,a12,a10,b10,b11]) ⟨rfl,by first|rfl|simp[a9,a12,a10,b10,b11]⟩
  simp (maxSteps:=1000000) [go_sem,Tryz.f145,a9,a12,a10,b10,b11]
  exact ret_is (.p (.bool (hanB a b))) rfl (by simp[go_sem,resOf,leA,leT,leP,hanB,a9,a12,a10,b10,b11]) ⟨rfl,by first|rfl|simp[a9,a12,a10,b10,b11]⟩
 by_cases a13:a=13
 ·by_cases b11:b=11
  ·simp (maxSteps:=1000000) [go_sem,Tryz.f145,a9,a12,a10,a13,b11]
   exact ret_is (.p (.bool (hanB a b))) rfl (by simp[go_sem,resOf,leA,leT,leP,hanB,a9,a12,a10,a13,b11]) ⟨rfl,by first|rfl|simp[a9,a12,a10,a13,b11]⟩
  simp (maxSteps:=1000000) [go_sem,Tryz.f145,a9,a12,a10,a13,b11]
  exact ret_is (.p (.bool (hanB a b))) rfl (by simp[go_sem,resOf,leA,leT,leP,hanB,a9,a12,a10,a13,b11]) ⟨rfl,by first|rfl|simp[a9,a12,a10,a13,b11]⟩
 by_cases a11:a=11
 ·by_cases b11:b=11
  ·simp (maxSteps:=1000000) [go_sem,Tryz.f145,a9,a12,a10,a13,a11,b11]
   exact ret_is (.p (.bool (hanB a b))) rfl (by simp[go_sem,resOf,leA,leT,leP,hanB,a9,a12,a10,a13,a11,b11]) ⟨rfl,by first|rfl|simp[a9,a12,a10,a13,a11,b11]⟩
  simp (maxSteps:=1000000) [go_sem,Tryz.f145,a9,a12,a10,a13,a11,b11]
  exact ret_is (.p (.bool (hanB a b))) rfl (by simp[go_sem,resOf,leA,leT,leP,hanB,a9,a12,a10,a13,a11,b11]) ⟨rfl,by first|rfl|simp[a9,a12,a10,a13,a11,b11]⟩
 simp (maxSteps:=1000000) [go_sem,Tryz.f145,a9,a12,a10,a13,a11]
 exact ret_is (.p (.bool (hanB a b))) rfl (by simp[go_sem,resOf,leA,leT,leP,hanB,a9,a12,a10,a13,a11]) ⟨rfl,by first|rfl|simp[a9,a12,a10,a13,a11]⟩
end Go.Proofs.YtjefahhmkcfiiaaGreat
end
section
namespace Go.Proofs.YtjefahhmkcfiiaaGreat
open Go.AM
set_option maxHeartbeats 4000000
set_option maxRecDepth 10000
theorem pivot_cr [Gi](l:List Span)(hU:Up l)(h12:12<l.length)(hn:l.length<2^31):CR Tryz.prog 195 [] [.p (spansP l),.p (.int .i64 0),.p (.int .i64 l.length),.p byV] []
  (fun x rs=>(∃p:Int,x=.tup [.p (.int .i64 p),.p (.int .i64 1)])∧rs=[]):=by
 obtain⟨q,hq⟩:∃q,q=l.length/4:=⟨_,rfl⟩
 obtain⟨r2,hr2⟩:∃r,r=q*2:=⟨_,rfl⟩
 obtain⟨r3,hr3⟩:∃r,r=q*3:=⟨_,rfl⟩
 have hq3:3≤q:=by omega
 have d1:(l.length:Int).tdiv 4=(q:Int):=by rw[hq];rfl
 have w0:IntKind.i64.wrap (l.length:Int)=l.length:=wrap64 (by omega) (by omega)
 have w1:IntKind.i64.wrap (q:Int)=q:=wrap64 (by omega) (by omega)
 have w2:IntKind.i64.wrap ((q:Int)*2)=(r2:Int):=by rw[wrap64 (by omega) (by omega)];omega
 have w3:IntKind.i64.wrap ((q:Int)*3)=(r3:Int):=by rw[wrap64 (by omega) (by omega)];omega
 have w5:IntKind.i64.wrap (r2:Int)=(r2:Int):=wrap64 (by omega) (by omega)
 have w6:IntKind.i64.wrap (r3:Int)=(r3:Int):=wrap64 (by omega) (by omega)
 have e8:(8:Int)≤(l.length:Int):=by omega
 refine CR_of_wp mixed 15 [55] Tryz.func195 rfl (by kernel_rfl) rfl (by simp) (by simp) ?_
 simp (maxSteps:=1000000) [go_sem,Tryz.f195,d1,w0,w1,w2,w3,w5,w6,e8]
 refine condK_joinU (fun _:Unit=>True) (fun _=>[(12,.p (.int .i64 q)),(13,.p (.int .i64 r2)),(14,.p (.int .i64 r3))]) (fun _=>[]) (condK_if (fun h=>?_) (fun h=>?_)) ?_
 ·simp (maxSteps:=1000000) [go_sem]
  refine⟨⟨rfl,by simp[Tryz.f224]⟩,CallK_of [([0],[11])] (medianAdj_cr l q 0 hU (by omega) (by omega) hn) (by simp[go_sem,notHead]) ⟨by simp[go_sem],by simp[go_sem]⟩ (by simp[go_sem]) ?_⟩
  rintro _ rs ⟨rfl,rfl⟩
  simp (maxSteps:=1000000) [go_sem]
  refine⟨⟨rfl,by simp[Tryz.f224]⟩,CallK_of [([0],[11])] (medianAdj_cr l r2 0 hU (by omega) (by omega) hn) (by simp[go_sem,notHead]) ⟨by simp[go_sem],by simp[go_sem]⟩ (by simp[go_sem]) ?_⟩
  rintro _ rs ⟨rfl,rfl⟩
  simp (maxSteps:=1000000) [go_sem]
  refine⟨⟨rfl,by simp[Tryz.f224]⟩,CallK_of [([0],[11])] (medianAdj_cr l r3 0 hU (by omega) (by omega) hn) (by simp[go_sem,notHead]) ⟨by simp[go_sem],by simp[go_sem]⟩ (by simp[go_sem]) ?_⟩
  rintro _ rs ⟨rfl,rfl⟩
  simp (maxSteps:=1000000) [go_sem]
  exact JoinU_in () trivial (by simp[go_sem])
 ·simp (maxSteps:=1000000) [go_sem]
  exact JoinU_in () trivial (by simp[go_sem])
 ·rintro _ ts _
  simp (maxSteps:=1000000) [go_sem]
  refine⟨⟨rfl,by simp[Tryz.f225]⟩,CallK_of [([0],[11])] (median_cr l q r2 r3 0 hU (by omega) (by omega) (by omega)) (by simp[go_sem,notHead]) ⟨by simp[go_sem],by simp[go_sem]⟩ (by simp[go_sem]) ?_⟩
  rintro _ rs ⟨rfl,rfl⟩
  simp (maxSteps:=1000000) [go_sem]
  exact ret_keep [] (.tup [.p (.int .i64 r2),.p (.int .i64 1)]) ⟨rfl,by simp⟩ (by simp[go_sem,resOf,leA,leT,leP]) ⟨⟨_,rfl⟩,by simp[go_sem]⟩
theorem insertion_cr [Gi](l:List Span)(hU:Up l)(hn:l.length<2^31):CR Tryz.prog 192 [] [.p (spansP l),.p (.int .i64 0),.p (.int .i64 l.length),.p byV] [] (is (.tup [])):=by
 refine CR_of_wpD [200006] mixed 10 [] Tryz.func192 rfl (by kernel_rfl) rfl (by simp) (by simp) ?_
 simp (maxSteps:=1000000) [go_sem,Tryz.f192]
 refine wpA_loopU (fun m:Nat=>m+1≤l.length∨m=0) (fun m=>[(8,.p (.int .i64 ((m:Int)+1)))]) (fun _=>[]) (fun m=>l.length-m) 0 (.inr rfl) (by simp[go_sem,LeS,leV,leR,leA,leL,wrap64]) (fun m hm=>?_)
 simp (maxSteps:=1000000) [go_sem]
 refine condK_if (fun h=>?_) (fun h=>?_)
 ·simp (maxSteps:=1000000) [go_sem]
  have w1:IntKind.i64.wrap ((m:Int)+1+1)=(m:Int)+1+1:=wrap64 (by omega) (by omega)
  have w2:IntKind.i64.wrap (m:Int)=m:=wrap64 (by omega) (by omega)
  have hkl:m+1<l.length:=by omega
  have m1:=elemAt_map spanP l (m+1) hkl
  have m2:=elemAt_map spanP l m (by omega)
  have hc:=hU.cmp (i:=m) (j:=m+1) (by omega) (by omega) hkl
  have e0:(0:Int)< (m:Int)+1:=by omega
  have e1:(0:Int)≤(m:Int)+1:=by omega
  have e2:(m:Int)+1<l.length:=by omega
  have e3:m<l.length:=by omega
  have e4:((m:Int)+1).toNat=m+1:=by omega
  refine wpA_loopU (fun _:Unit=>True) (fun _=>[(9,.p (.int .i64 ((m:Int)+1)))]) (fun _=>[]) (fun _=>0) () trivial (by simp[go_sem,LeS,leV,leR,leA,leL]) (fun _ _=>?_)
  simp (maxSteps:=1000000) [go_sem,byV,spansP,w2,m1,m2,hkl,e0,e1,e2,e3,e4,spanP]
  refine⟨⟨rfl,by simp[Tryz.f114]⟩,CallK_of [] (byFrom_cr l[m+1] (l[m]'e3)) (by simp[go_sem,notHead]) ⟨by simp[go_sem],by simp[go_sem,spanP]⟩ (by simp[go_sem]) ?_⟩
  rintro _ rs ⟨rfl,rfl⟩
  simp (maxSteps:=1000000) [go_sem,hc,w1]
  exact LoopK_next (m+1) (.inl (by omega)) (by simp[go_sem,LeS,leV,leR,leA,leL]) (by omega)
 ·simp (maxSteps:=1000000) [go_sem]
  exact ret_is (.tup []) rfl (by simp[go_sem,resOf,leA,leT,leP]) ⟨rfl,rfl⟩
theorem partial_cr [Gi](l:List Span)(hU:Up l)(h0:0<l.length)(hn:l.length<2^31):CR Tryz.prog 197 [] [.p (spansP l),.p (.int .i64 0),.p (.int .i64 l.length),.p byV] [] (is (.p (.bool true))):=by
 refine CR_of_wpD [200011,200017,200023] mixed 13 [] Tryz.func197 rfl (by kernel_rfl) rfl (by simp) (by simp) ?_
 simp (maxSteps:=1000000) [go_sem,Tryz.f197]
 refine wpA_loopU (fun _:Unit=>True) (fun _=>[]) (fun _=>[]) (fun _=>0) () trivial (by simp[go_sem,LeS,leV,leR,leA,leL]) (fun _ _=>?_)
 simp (maxSteps:=1000000) [go_sem,wrap64]
 refine wpA_loopU (fun m:Nat=>m+1≤l.length) (fun m=>[(9,.p (.int .i64 ((m:Int)+1)))]) (fun _=>[]) (fun m=>l.length-m) 0 (by omega) (by simp[go_sem,LeS,leV,leR,leA,leL,wrap64]) (fun m hm=>?_)
 have w1:IntKind.i64.wrap ((m:Int)+1+1)=(m:Int)+1+1:=wrap64 (by omega) (by omega)
 have w2:IntKind.i64.wrap (m:Int)=m:=wrap64 (by omega) (by omega)
 by_cases hkl:m+1<l.length
 ·have m1:=elemAt_map spanP l (m+1) hkl
  have m2:=elemAt_map spanP l m (by omega)
  have hc:=hU.cmp (i:=m) (j:=m+1) (by omega) (by omega) hkl
  have e1:(0:Int)≤(m:Int)+1:=by omega
  have e2:(m:Int)+1<l.length:=by omega
  have e3:m<l.length:=by omega
  have e4:((m:Int)+1).toNat=m+1:=by omega
  simp (maxSteps:=1000000) [go_sem,byV,spansP,w2,m1,m2,hkl,e1,e2,e3,e4,spanP]
  refine⟨⟨rfl,by simp[Tryz.f114]⟩,CallK_of [] (byFrom_cr l[m+1] (l[m]'e3)) (by simp[go_sem,notHead]) ⟨by simp[go_sem],by simp[go_sem,spanP]⟩ (by simp[go_sem]) ?_⟩
  rintro _ rs ⟨rfl,rfl⟩
  simp (maxSteps:=1000000) [go_sem,hc,w1]
  exact LoopK_next (m+1) (by omega) (by simp[go_sem,LeS,leV,leR,leA,leL]) (by omega)
 ·have e2:¬(m:Int)+1<l.length:=by omega
  have e3:(m:Int)+1=l.length:=by omega
  simp (maxSteps:=1000000) [go_sem,e2,e3]
  exact ret_is (.p (.bool true)) rfl (by simp[go_sem,resOf,leA,leT,leP]) ⟨rfl,rfl⟩
end Go.Proofs.YtjefahhmkcfiiaaGreat
end
