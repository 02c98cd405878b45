/- A part of this seat's proofs, by an abstract machine. Conditions: each law's. -/
import Derived.Test.YtfjdbbpimklecaaGreatDoorT35
set_option maxHeartbeats 1600000
set_option maxRecDepth 10000
namespace Go.Proofs.YtfjdbbpimklecaaGreatDoor
section
open Go.AM
def zk(l:List AOp):PV:=.sl 4 (l.map opP)
def qS(l:List AOp):List UInt8:=l.flatMap Zx
def AOp.ok(o:AOp):Prop:= -9223372036854775808≤o.a∧ -9223372036854775808≤o.b
theorem zc5(l:List AOp)(k:Nat)(h:k<l.length):qS (l.take (k+1))=qS (l.take k)++Zx l[k]:=by
 rw[List.take_succ_eq_append_getElem h,qS,List.flatMap_append]
 simp[qS]
theorem zgO(l:List AOp)(k:Nat):(qS (l.take k)).length≤(qS l).length:=by
 have e:qS l=qS (l.take k)++qS (l.drop k):=by
  rw[qS,qS,qS,←List.flatMap_append,List.take_append_drop]
 rw[e,List.length_append]
 exact Nat.le_add_right _ _
theorem zbf(l:List AOp)(ho:∀o∈l,o.ok)(hl:l.length≤1000000)(hs:(qS l).length≤140737488355328):CR Tryz.prog 47 [] [.p (zk l)] [] (is (.p (.str (qS l)))):=by
 refine zaw [] mixed 9 [] Tryz.func47 rfl (by kernel_rfl) [] [188] rfl (by simp) (by simp) ?_
 simp (maxSteps:=1000000) [go_sem,Tryz.f47,zk]
 refine⟨⟨rfl,rfl⟩,?_⟩
 refine qM (fun k:Nat=>k≤l.length) (fun k=>{n:=17,nv:=9,bt:=[188],vs:=[(0,.p (zk l)),(2,.p (.str [])),(3,.lp [3] 0),(6,.p (zk l)),(7,.p (.int .i64 l.length)),(8,.p (.int .i64 k))],ts:=[],rs:=[([3],[.bz [3] 188 2,.bb [3,1] 5 (qS (l.take k))])]}) (fun k=>l.length-k) 0 (by simp) (by simp[go_sem,LeS,leV,leR,leA,leL,zk,qS]) ?_
 rintro k hk
 simp (maxSteps:=1000000) [go_sem,zk]
 refine zh (fun h1=>?_) (fun h1=>?_)
 ·have h1':k<l.length:=by omega
  have hp:=zlF l[k] (ho _ (List.getElem_mem h1')).1 (ho _ (List.getElem_mem h1')).2
  have e:=zc5 l k h1'
  have hle:=zgO l (k+1)
  have em:=zp opP l k h1'
  rw[e,List.length_append]at hle
  have ws:=zmb [] (qS (l.take k)) (Zx l[k]) (by omega)
  have w1:IntKind.i64.wrap ((k:Int)+1)=(k:Int)+1:=wrap64 (by omega) (by omega)
  simp (maxSteps:=1000000) [go_sem,em,h1',opP]
  refine⟨⟨rfl,by simp[Tryz.f99]⟩,zd [] hp (by simp[go_sem]) ⟨by simp[go_sem],by simp[go_sem,opP]⟩ (by simp[go_sem]) ?_⟩
  rintro y rs ⟨rfl,rfl⟩
  simp (maxSteps:=1000000) [go_sem]
  refine⟨⟨rfl,by simp[Tryz.f98]⟩,zd [([0],[3]),([1],[3,1])] ws (by simp[go_sem]) ⟨by simp[go_sem],by simp[go_sem]⟩ (by simp[go_sem]) ?_⟩
  rintro y rs ⟨rfl,rfl⟩
  simp (maxSteps:=1000000) [go_sem,w1]
  exact zi (k+1) (by omega) (by simp[go_sem,LeS,leV,leR,leA,leL,←e]) (by omega)
 ·have hk':k=l.length:=by omega
  subst hk'
  rw[List.take_length]
  simp (maxSteps:=1000000) [go_sem]
  refine⟨⟨rfl,by simp[Tryz.f100]⟩,zd [([0],[3]),([1],[3,1])] (zon (.bz [0] 188 2) [] (qS l)) (by simp[go_sem]) ⟨by simp[go_sem],by simp[go_sem]⟩ (by simp[go_sem]) ?_⟩
  rintro y rs ⟨rfl,rfl⟩
  simp (maxSteps:=1000000) [go_sem]
  exact zg (.p (.str (qS l))) rfl (by simp[go_sem,zf,leA]) ⟨rfl,rfl⟩
theorem z7(l:List AOp)(ho:∀o∈l,o.ok)(hl:l.length≤1000000)(hs:(qS l).length≤140737488355328):CR Tryz.prog 73 [] [.p (zk l)] [] (is (.p (.str (qS l)))):=by
 refine zx mixed 5 [8] Tryz.func73 rfl (by kernel_rfl) rfl (by simp) (by simp) ?_
 simp (maxSteps:=1000000) (disch:=omega) [go_sem,Tryz.f73,zk]
 refine qM (fun k:Nat=>k≤l.length) (fun k=>{n:=19,nv:=5,ex:=[8],vs:=[(0,.p (zk l)),(2,.p (.str [])),(3,.p (.str (qS (l.take k)))),(4,.p (.int .i64 k))],ts:=[],rs:=[]}) (fun k=>l.length-k) 0 (by simp) (by simp[go_sem,LeS,leV,leR,leA,qS,zk]) ?_
 rintro k hk
 simp (maxSteps:=1000000) (disch:=omega) [go_sem,zk]
 refine zh (fun h1=>?_) (fun h1=>?_)
 ·have hp:=zlI l[k] (ho _ (List.getElem_mem h1)).1 (ho _ (List.getElem_mem h1)).2
  have e:=zc5 l k h1
  have hle:=zgO l (k+1)
  rw[e,List.length_append]at hle
  simp (maxSteps:=1000000) (disch:=omega) [go_sem,zp,h1,opP]
  refine⟨⟨rfl,by simp[Tryz.f40]⟩,zd [] hp (by simp[go_sem]) ⟨by simp[go_sem],by simp[go_sem,opP]⟩ (by simp[go_sem]) ?_⟩
  rintro y rs ⟨rfl,rfl⟩
  simp (maxSteps:=1000000) (disch:=omega) [go_sem,wrap64]
  refine⟨by omega,zi (k+1) (by omega) (by simp[go_sem,LeS,leV,leR,leA,e]) (by omega)⟩
 ·have hk':k=l.length:=by omega
  subst hk'
  simp (maxSteps:=1000000) (disch:=omega) [go_sem]
  exact zg (.p (.str (qS l))) rfl (by simp[go_sem,zf,leA]) ⟨rfl,rfl⟩
def shorter(l b:List AOp):List AOp:=if(qS l).length< (qS b).length then l else b
def qd(l:List AOp):Prop:=(∀o∈l,o.ok)∧l.length≤1000000∧(qS l).length≤140737488355328
theorem Qn(l b:List AOp)(hl:qd l)(hb:qd b):CR Tryz.prog 166 [[0]] [.p (zk l),.lp [0] 0] [([0],[.p (zk b)])] (fun x rs'=>x=.tup []∧rs'=[([0],[.p (zk (shorter l b))])]):=by
 have c1:=zbf l hl.1 hl.2.1 hl.2.2
 have c2:=zbf b hb.1 hb.2.1 hb.2.2
 have l1:=hl.2.2
 have l2:=hb.2.2
 refine zK [0] mixed 3 [9] Tryz.func166 rfl (by kernel_rfl) rfl (by simp) (by simp) ?_
 simp (maxSteps:=1000000) (disch:=omega) [go_sem,Tryz.f166,zk]
 refine qm (.p (.str (qS l))) rfl rfl (fun _=>qk 47 c1 rfl ⟨rfl,by simp[Tryz.f47]⟩ ⟨by simp[go_sem],by simp[go_sem,zk]⟩) ?_
 simp (maxSteps:=1000000) (disch:=omega) [go_sem]
 refine qm (.p (.str (qS b))) rfl rfl (fun _=>qk 47 c2 rfl ⟨rfl,by simp[Tryz.f47]⟩ ⟨by simp[go_sem],by simp[go_sem,zk]⟩) ?_
 simp (maxSteps:=1000000) (disch:=omega) [go_sem]
 refine zh (fun h=>?_) (fun h=>?_)
 ·simp (maxSteps:=1000000) (disch:=omega) [go_sem]
  exact zA [[0]] _ (by simp) (by simp[go_sem,zf]) ⟨rfl,by simp[go_sem,shorter,h]⟩
 ·simp (maxSteps:=1000000) (disch:=omega) [go_sem]
  exact zA [[0]] _ (by simp) (by simp[go_sem,zf]) ⟨rfl,by simp[go_sem,shorter,h]⟩
def qF(r r':Int):List AOp:=if 0<r'-r then [⟨11,r'-r,0,[]⟩]else if r'-r<0 then [⟨10, -(r'-r),0,[]⟩]else []
def qN(c c':Int):List AOp:=if c'-c=0 then []else if 0<c'-c then [⟨8,c'-c,0,[]⟩]else [⟨9, -(c'-c),0,[]⟩]
def ZG(r c r' c':Int):List AOp:=
 let b:=shorter (qF r r'++qN c c') [⟨2,r',c',[]⟩]
 if c'=0 then shorter (qF r r'++[⟨6,0,0,[]⟩]) b else b
def Zg(r c:Int):PV:=.agg [.int .i64 r,.int .i64 c]
theorem zjZ(o:AOp)(h:o.k≠1):(Zx o).length≤13:=by
 have a:=Z4 (min o.a 9999+1)
 have b:=Z4 (min o.b 9999+1)
 have c:=K7 o.a [67]
 have d:=K7 o.a [68]
 have e:=K7 o.a [65]
 have f:=K7 o.a [66]
 rw[Zx,if_neg h]
 split
 ·simp;omega
 ·repeat' split
  all_goals simp_all
  all_goals omega
theorem zdn:∀l:List AOp,(∀o∈l,o.k≠1)→(qS l).length≤13*l.length
 | [],_=>by simp[qS]
 |o::l,h=>by
  have h1:=zjZ o (h o (by simp))
  have h2:=zdn l (fun x hx=>h x (by simp[hx]))
  have e:qS (o::l)=Zx o++qS l:=by simp[qS]
  rw[e,List.length_append,List.length_cons]
  omega
theorem zB(l:List AOp)(h:∀o∈l,o.ok∧o.k≠1)(hl:l.length≤10):qd l:=
 ⟨fun o ho=>(h o ho).1,by omega,by have:=zdn l (fun o ho=>(h o ho).2);omega⟩
theorem zT {l b:List AOp}(hl:qd l)(hb:qd b):qd (shorter l b):=by
 rw[shorter];split<;>assumption
theorem zoG(r c r' c':Int)(hr:0≤r∧r≤1000)(hc:0≤c∧c≤1000)(hr':0≤r'∧r'≤1000)(hc':0≤c'∧c'≤1000):CR Tryz.prog 118 [] [.p (Zg r c),.p (Zg r' c')] [] (is (.p (zk (ZG r c r' c')))):=by
 refine zx mixed 10 [22,28,53,59,71] Tryz.func118 rfl (by kernel_rfl) rfl (by simp) (by simp) ?_
 have w1:IntKind.i64.wrap (r'-r)=r'-r:=wrap64 (by omega) (by omega)
 have w2:IntKind.i64.wrap (c'-c)=c'-c:=wrap64 (by omega) (by omega)
 have w3:IntKind.i64.wrap (-(r'-r))= -(r'-r):=wrap64 (by omega) (by omega)
 have w4:IntKind.i64.wrap (-(c'-c))= -(c'-c):=wrap64 (by omega) (by omega)
 have w5:IntKind.i64.wrap (r-r')=r-r':=wrap64 (by omega) (by omega)
 have w6:IntKind.i64.wrap (c-c')=c-c':=wrap64 (by omega) (by omega)
 simp (maxSteps:=1000000) [go_sem,Tryz.f118,Zg,w1]
 refine⟨rfl,zh (fun h1=>?_) (fun h1=>?_)⟩
 ·simp (maxSteps:=1000000) [go_sem,zk,w2]
  refine zh (fun h3=>?_) (fun h3=>?_)
  ·have hw:ZG r c r' c'=if c'=0 then shorter [⟨11,r'-r,0,[]⟩,⟨6,0,0,[]⟩] (shorter [⟨11,r'-r,0,[]⟩] [⟨2,r',c',[]⟩])else shorter [⟨11,r'-r,0,[]⟩] [⟨2,r',c',[]⟩]:=by
    have e1:qF r r'=[⟨11,r'-r,0,[]⟩]:=by rw[qF];exact if_pos (by omega)
    have e2:qN c c'=[]:=by rw[qN];exact if_pos (by omega)
    rw[ZG,e1,e2];rfl
   have o1:qd [⟨11,r'-r,0,[]⟩]:=zB _ (by simp[AOp.ok];try omega) (by simp)
   have o0:qd [⟨2,r',c',[]⟩]:=zB _ (by simp[AOp.ok];try omega) (by simp)
   have o2:qd [⟨11,r'-r,0,[]⟩,⟨6,0,0,[]⟩]:=zB _ (by simp[AOp.ok];try omega) (by simp)
   rw[hw]
   clear hw
   simp (maxSteps:=1000000) [go_sem]
   refine⟨⟨rfl,by simp[Tryz.f166]⟩,qO [([0],[5])] (Qn [⟨11,r'-r,0,[]⟩] [⟨2,r',c',[]⟩] o1 o0) (by simp[go_sem]) ⟨by simp[go_sem],by simp[go_sem,zk,opP]⟩ (by simp[go_sem,zk,opP]) ?_⟩
   rintro y rs ⟨rfl,rfl⟩
   have ob:=zT o1 o0
   generalize shorter [⟨11,r'-r,0,[]⟩] [⟨2,r',c',[]⟩]=bb at ob⊢
   simp (maxSteps:=1000000) [go_sem,zk]
   refine zh (fun h5=>?_) (fun h5=>?_)
   ·simp (maxSteps:=1000000) [go_sem,cut]
    refine⟨⟨rfl,by simp[Tryz.f166]⟩,qO [([0],[5])] (Qn [⟨11,r'-r,0,[]⟩,⟨6,0,0,[]⟩] bb o2 ob) (by simp[go_sem]) ⟨by simp[go_sem],by simp[go_sem,zk,opP]⟩ (by simp[go_sem,zk]) ?_⟩
    rintro y rs ⟨rfl,rfl⟩
    simp (maxSteps:=1000000) [go_sem,zk]
    exact zg (.p (zk (shorter [⟨11,r'-r,0,[]⟩,⟨6,0,0,[]⟩] bb))) rfl (by simp[go_sem,zf,leA,zk]) ⟨rfl,by rw[if_pos h5];rfl⟩
   ·simp (maxSteps:=1000000) [go_sem]
    exact zg (.p (zk bb)) rfl (by simp[go_sem,zf,leA,zk]) ⟨rfl,by rw[if_neg h5];rfl⟩
  ·simp (maxSteps:=1000000) [go_sem]
   refine zh (fun h4=>?_) (fun h4=>?_)
   ·have hw:ZG r c r' c'=if c'=0 then shorter [⟨11,r'-r,0,[]⟩,⟨6,0,0,[]⟩] (shorter [⟨11,r'-r,0,[]⟩,⟨8,c'-c,0,[]⟩] [⟨2,r',c',[]⟩])else shorter [⟨11,r'-r,0,[]⟩,⟨8,c'-c,0,[]⟩] [⟨2,r',c',[]⟩]:=by
     have e1:qF r r'=[⟨11,r'-r,0,[]⟩]:=by rw[qF];exact if_pos (by omega)
     have e2:qN c c'=[⟨8,c'-c,0,[]⟩]:=by rw[qN];exact(if_neg (by omega)).trans (if_pos (by omega))
     rw[ZG,e1,e2];rfl
    have o1:qd [⟨11,r'-r,0,[]⟩,⟨8,c'-c,0,[]⟩]:=zB _ (by simp[AOp.ok];try omega) (by simp)
    have o0:qd [⟨2,r',c',[]⟩]:=zB _ (by simp[AOp.ok];try omega) (by simp)
    have o2:qd [⟨11,r'-r,0,[]⟩,⟨6,0,0,[]⟩]:=zB _ (by simp[AOp.ok];try omega) (by simp)
    rw[hw]
    clear hw
    simp (maxSteps:=1000000) [go_sem]
    refine⟨⟨rfl,by simp[Tryz.f166]⟩,qO [([0],[5])] (Qn [⟨11,r'-r,0,[]⟩,⟨8,c'-c,0,[]⟩] [⟨2,r',c',[]⟩] o1 o0) (by simp[go_sem]) ⟨by simp[go_sem],by simp[go_sem,zk,opP]⟩ (by simp[go_sem,zk,opP]) ?_⟩
    rintro y rs ⟨rfl,rfl⟩
    have ob:=zT o1 o0
    generalize shorter [⟨11,r'-r,0,[]⟩,⟨8,c'-c,0,[]⟩] [⟨2,r',c',[]⟩]=bb at ob⊢
    simp (maxSteps:=1000000) [go_sem,zk]
    refine zh (fun h5=>?_) (fun h5=>?_)
    ·simp (maxSteps:=1000000) [go_sem,cut]
     refine⟨⟨rfl,by simp[Tryz.f166]⟩,qO [([0],[5])] (Qn [⟨11,r'-r,0,[]⟩,⟨6,0,0,[]⟩] bb o2 ob) (by simp[go_sem]) ⟨by simp[go_sem],by simp[go_sem,zk,opP]⟩ (by simp[go_sem,zk]) ?_⟩
     rintro y rs ⟨rfl,rfl⟩
     simp (maxSteps:=1000000) [go_sem,zk]
     exact zg (.p (zk (shorter [⟨11,r'-r,0,[]⟩,⟨6,0,0,[]⟩] bb))) rfl (by simp[go_sem,zf,leA,zk]) ⟨rfl,by rw[if_pos h5];rfl⟩
    ·simp (maxSteps:=1000000) [go_sem]
     exact zg (.p (zk bb)) rfl (by simp[go_sem,zf,leA,zk]) ⟨rfl,by rw[if_neg h5];rfl⟩
   ·have hw:ZG r c r' c'=if c'=0 then shorter [⟨11,r'-r,0,[]⟩,⟨6,0,0,[]⟩] (shorter [⟨11,r'-r,0,[]⟩,⟨9, -(c'-c),0,[]⟩] [⟨2,r',c',[]⟩])else shorter [⟨11,r'-r,0,[]⟩,⟨9, -(c'-c),0,[]⟩] [⟨2,r',c',[]⟩]:=by
     have e1:qF r r'=[⟨11,r'-r,0,[]⟩]:=by rw[qF];exact if_pos (by omega)
     have e2:qN c c'=[⟨9, -(c'-c),0,[]⟩]:=by rw[qN];exact(if_neg (by omega)).trans (if_neg (by omega))
     rw[ZG,e1,e2];rfl
    have o1:qd [⟨11,r'-r,0,[]⟩,⟨9, -(c'-c),0,[]⟩]:=zB _ (by simp[AOp.ok];try omega) (by simp)
    have o0:qd [⟨2,r',c',[]⟩]:=zB _ (by simp[AOp.ok];try omega) (by simp)
    have o2:qd [⟨11,r'-r,0,[]⟩,⟨6,0,0,[]⟩]:=zB _ (by simp[AOp.ok];try omega) (by simp)
    rw[hw]
    clear hw
    simp (maxSteps:=1000000) [go_sem,cut,w4]
    refine⟨⟨rfl,by simp[Tryz.f166]⟩,qO [([0],[5])] (Qn [⟨11,r'-r,0,[]⟩,⟨9, -(c'-c),0,[]⟩] [⟨2,r',c',[]⟩] o1 o0) (by simp[go_sem]) ⟨by simp[go_sem],by simp[go_sem,zk,opP]⟩ (by simp[go_sem,zk,opP]) ?_⟩
    rintro y rs ⟨rfl,rfl⟩
    have ob:=zT o1 o0
    generalize shorter [⟨11,r'-r,0,[]⟩,⟨9, -(c'-c),0,[]⟩] [⟨2,r',c',[]⟩]=bb at ob⊢
    simp (maxSteps:=1000000) [go_sem,zk]
    refine zh (fun h5=>?_) (fun h5=>?_)
    ·simp (maxSteps:=1000000) [go_sem,cut]
     refine⟨⟨rfl,by simp[Tryz.f166]⟩,qO [([0],[5])] (Qn [⟨11,r'-r,0,[]⟩,⟨6,0,0,[]⟩] bb o2 ob) (by simp[go_sem]) ⟨by simp[go_sem],by simp[go_sem,zk,opP]⟩ (by simp[go_sem,zk]) ?_⟩
     rintro y rs ⟨rfl,rfl⟩
     simp (maxSteps:=1000000) [go_sem,zk]
     exact zg (.p (zk (shorter [⟨11,r'-r,0,[]⟩,⟨6,0,0,[]⟩] bb))) rfl (by simp[go_sem,zf,leA,zk]) ⟨rfl,by rw[if_pos h5];rfl⟩
    ·simp (maxSteps:=1000000) [go_sem]
     exact zg (.p (zk bb)) rfl (by simp[go_sem,zf,leA,zk]) ⟨rfl,by rw[if_neg h5];rfl⟩
 ·simp (maxSteps:=1000000) [go_sem,zk]
  refine zh (fun h2=>?_) (fun h2=>?_)
  ·simp (maxSteps:=1000000) [go_sem,w2,w3]
   refine zh (fun h3=>?_) (fun h3=>?_)
   ·have hw:ZG r c r' c'=if c'=0 then shorter [⟨10, -(r'-r),0,[]⟩,⟨6,0,0,[]⟩] (shorter [⟨10, -(r'-r),0,[]⟩] [⟨2,r',c',[]⟩])else shorter [⟨10, -(r'-r),0,[]⟩] [⟨2,r',c',[]⟩]:=by
     have e1:qF r r'=[⟨10, -(r'-r),0,[]⟩]:=by rw[qF];exact(if_neg (by omega)).trans (if_pos (by omega))
     have e2:qN c c'=[]:=by rw[qN];exact if_pos (by omega)
     rw[ZG,e1,e2];rfl
    have o1:qd [⟨10, -(r'-r),0,[]⟩]:=zB _ (by simp[AOp.ok];try omega) (by simp)
    have o0:qd [⟨2,r',c',[]⟩]:=zB _ (by simp[AOp.ok];try omega) (by simp)
    have o2:qd [⟨10, -(r'-r),0,[]⟩,⟨6,0,0,[]⟩]:=zB _ (by simp[AOp.ok];try omega) (by simp)
    rw[hw]
    clear hw
    simp (maxSteps:=1000000) [go_sem]
    refine⟨⟨rfl,by simp[Tryz.f166]⟩,qO [([0],[5])] (Qn [⟨10, -(r'-r),0,[]⟩] [⟨2,r',c',[]⟩] o1 o0) (by simp[go_sem]) ⟨by simp[go_sem],by simp[go_sem,zk,opP]⟩ (by simp[go_sem,zk,opP]) ?_⟩
    rintro y rs ⟨rfl,rfl⟩
    have ob:=zT o1 o0
    generalize shorter [⟨10, -(r'-r),0,[]⟩] [⟨2,r',c',[]⟩]=bb at ob⊢
    simp (maxSteps:=1000000) [go_sem,zk]
    refine zh (fun h5=>?_) (fun h5=>?_)
    ·simp (maxSteps:=1000000) [go_sem,cut]
     refine⟨⟨rfl,by simp[Tryz.f166]⟩,qO [([0],[5])] (Qn [⟨10, -(r'-r),0,[]⟩,⟨6,0,0,[]⟩] bb o2 ob) (by simp[go_sem]) ⟨by simp[go_sem],by simp[go_sem,zk,opP]⟩ (by simp[go_sem,zk]) ?_⟩
     rintro y rs ⟨rfl,rfl⟩
     simp (maxSteps:=1000000) [go_sem,zk]
     exact zg (.p (zk (shorter [⟨10, -(r'-r),0,[]⟩,⟨6,0,0,[]⟩] bb))) rfl (by simp[go_sem,zf,leA,zk]) ⟨rfl,by rw[if_pos h5];rfl⟩
    ·simp (maxSteps:=1000000) [go_sem]
     exact zg (.p (zk bb)) rfl (by simp[go_sem,zf,leA,zk]) ⟨rfl,by rw[if_neg h5];rfl⟩
   ·simp (maxSteps:=1000000) [go_sem]
    refine zh (fun h4=>?_) (fun h4=>?_)
    ·have hw:ZG r c r' c'=if c'=0 then shorter [⟨10, -(r'-r),0,[]⟩,⟨6,0,0,[]⟩] (shorter [⟨10, -(r'-r),0,[]⟩,⟨8,c'-c,0,[]⟩] [⟨2,r',c',[]⟩])else shorter [⟨10, -(r'-r),0,[]⟩,⟨8,c'-c,0,[]⟩] [⟨2,r',c',[]⟩]:=by
      have e1:qF r r'=[⟨10, -(r'-r),0,[]⟩]:=by rw[qF];exact(if_neg (by omega)).trans (if_pos (by omega))
      have e2:qN c c'=[⟨8,c'-c,0,[]⟩]:=by rw[qN];exact(if_neg (by omega)).trans (if_pos (by omega))
      rw[ZG,e1,e2];rfl
     have o1:qd [⟨10, -(r'-r),0,[]⟩,⟨8,c'-c,0,[]⟩]:=zB _ (by simp[AOp.ok];try omega) (by simp)
     have o0:qd [⟨2,r',c',[]⟩]:=zB _ (by simp[AOp.ok];try omega) (by simp)
     have o2:qd [⟨10, -(r'-r),0,[]⟩,⟨6,0,0,[]⟩]:=zB _ (by simp[AOp.ok];try omega) (by simp)
     rw[hw]
     clear hw
     simp (maxSteps:=1000000) [go_sem]
     refine⟨⟨rfl,by simp[Tryz.f166]⟩,qO [([0],[5])] (Qn [⟨10, -(r'-r),0,[]⟩,⟨8,c'-c,0,[]⟩] [⟨2,r',c',[]⟩] o1 o0) (by simp[go_sem]) ⟨by simp[go_sem],by simp[go_sem,zk,opP]⟩ (by simp[go_sem,zk,opP]) ?_⟩
     rintro y rs ⟨rfl,rfl⟩
     have ob:=zT o1 o0
     generalize shorter [⟨10, -(r'-r),0,[]⟩,⟨8,c'-c,0,[]⟩] [⟨2,r',c',[]⟩]=bb at ob⊢
     simp (maxSteps:=1000000) [go_sem,zk]
     refine zh (fun h5=>?_) (fun h5=>?_)
     ·simp (maxSteps:=1000000) [go_sem,cut]
      refine⟨⟨rfl,by simp[Tryz.f166]⟩,qO [([0],[5])] (Qn [⟨10, -(r'-r),0,[]⟩,⟨6,0,0,[]⟩] bb o2 ob) (by simp[go_sem]) ⟨by simp[go_sem],by simp[go_sem,zk,opP]⟩ (by simp[go_sem,zk]) ?_⟩
      rintro y rs ⟨rfl,rfl⟩
      simp (maxSteps:=1000000) [go_sem,zk]
      exact zg (.p (zk (shorter [⟨10, -(r'-r),0,[]⟩,⟨6,0,0,[]⟩] bb))) rfl (by simp[go_sem,zf,leA,zk]) ⟨rfl,by rw[if_pos h5];rfl⟩
     ·simp (maxSteps:=1000000) [go_sem]
      exact zg (.p (zk bb)) rfl (by simp[go_sem,zf,leA,zk]) ⟨rfl,by rw[if_neg h5];rfl⟩
    ·have hw:ZG r c r' c'=if c'=0 then shorter [⟨10, -(r'-r),0,[]⟩,⟨6,0,0,[]⟩] (shorter [⟨10, -(r'-r),0,[]⟩,⟨9, -(c'-c),0,[]⟩] [⟨2,r',c',[]⟩])else shorter [⟨10, -(r'-r),0,[]⟩,⟨9, -(c'-c),0,[]⟩] [⟨2,r',c',[]⟩]:=by
      have e1:qF r r'=[⟨10, -(r'-r),0,[]⟩]:=by rw[qF];exact(if_neg (by omega)).trans (if_pos (by omega))
      have e2:qN c c'=[⟨9, -(c'-c),0,[]⟩]:=by rw[qN];exact(if_neg (by omega)).trans (if_neg (by omega))
      rw[ZG,e1,e2];rfl
     have o1:qd [⟨10, -(r'-r),0,[]⟩,⟨9, -(c'-c),0,[]⟩]:=zB _ (by simp[AOp.ok];try omega) (by simp)
     have o0:qd [⟨2,r',c',[]⟩]:=zB _ (by simp[AOp.ok];try omega) (by simp)
     have o2:qd [⟨10, -(r'-r),0,[]⟩,⟨6,0,0,[]⟩]:=zB _ (by simp[AOp.ok];try omega) (by simp)
     rw[hw]
     clear hw
     simp (maxSteps:=1000000) [go_sem,cut,w4]
     refine⟨⟨rfl,by simp[Tryz.f166]⟩,qO [([0],[5])] (Qn [⟨10, -(r'-r),0,[]⟩,⟨9, -(c'-c),0,[]⟩] [⟨2,r',c',[]⟩] o1 o0) (by simp[go_sem]) ⟨by simp[go_sem],by simp[go_sem,zk,opP]⟩ (by simp[go_sem,zk,opP]) ?_⟩
     rintro y rs ⟨rfl,rfl⟩
     have ob:=zT o1 o0
     generalize shorter [⟨10, -(r'-r),0,[]⟩,⟨9, -(c'-c),0,[]⟩] [⟨2,r',c',[]⟩]=bb at ob⊢
     simp (maxSteps:=1000000) [go_sem,zk]
     refine zh (fun h5=>?_) (fun h5=>?_)
     ·simp (maxSteps:=1000000) [go_sem,cut]
      refine⟨⟨rfl,by simp[Tryz.f166]⟩,qO [([0],[5])] (Qn [⟨10, -(r'-r),0,[]⟩,⟨6,0,0,[]⟩] bb o2 ob) (by simp[go_sem]) ⟨by simp[go_sem],by simp[go_sem,zk,opP]⟩ (by simp[go_sem,zk]) ?_⟩
      rintro y rs ⟨rfl,rfl⟩
      simp (maxSteps:=1000000) [go_sem,zk]
      exact zg (.p (zk (shorter [⟨10, -(r'-r),0,[]⟩,⟨6,0,0,[]⟩] bb))) rfl (by simp[go_sem,zf,leA,zk]) ⟨rfl,by rw[if_pos h5];rfl⟩
     ·simp (maxSteps:=1000000) [go_sem]
      exact zg (.p (zk bb)) rfl (by simp[go_sem,zf,leA,zk]) ⟨rfl,by rw[if_neg h5];rfl⟩
  ·simp (maxSteps:=1000000) [go_sem,w2]
   refine zh (fun h3=>?_) (fun h3=>?_)
   ·have hw:ZG r c r' c'=if c'=0 then shorter [⟨6,0,0,[]⟩] (shorter [] [⟨2,r',c',[]⟩])else shorter [] [⟨2,r',c',[]⟩]:=by
     have e1:qF r r'=[]:=by rw[qF];exact(if_neg (by omega)).trans (if_neg (by omega))
     have e2:qN c c'=[]:=by rw[qN];exact if_pos (by omega)
     rw[ZG,e1,e2];rfl
    have o1:qd []:=zB _ (by simp[AOp.ok];try omega) (by simp)
    have o0:qd [⟨2,r',c',[]⟩]:=zB _ (by simp[AOp.ok];try omega) (by simp)
    have o2:qd [⟨6,0,0,[]⟩]:=zB _ (by simp[AOp.ok];try omega) (by simp)
    rw[hw]
    clear hw
    simp (maxSteps:=1000000) [go_sem]
    refine⟨⟨rfl,by simp[Tryz.f166]⟩,qO [([0],[5])] (Qn [] [⟨2,r',c',[]⟩] o1 o0) (by simp[go_sem]) ⟨by simp[go_sem],by simp[go_sem,zk]⟩ (by simp[go_sem,zk,opP]) ?_⟩
    rintro y rs ⟨rfl,rfl⟩
    have ob:=zT o1 o0
    generalize shorter [] [⟨2,r',c',[]⟩]=bb at ob⊢
    simp (maxSteps:=1000000) [go_sem,zk]
    refine zh (fun h5=>?_) (fun h5=>?_)
    ·simp (maxSteps:=1000000) [go_sem,cut]
     refine⟨⟨rfl,by simp[Tryz.f166]⟩,qO [([0],[5])] (Qn [⟨6,0,0,[]⟩] bb o2 ob) (by simp[go_sem]) ⟨by simp[go_sem],by simp[go_sem,zk,opP]⟩ (by simp[go_sem,zk]) ?_⟩
     rintro y rs ⟨rfl,rfl⟩
     simp (maxSteps:=1000000) [go_sem,zk]
     exact zg (.p (zk (shorter [⟨6,0,0,[]⟩] bb))) rfl (by simp[go_sem,zf,leA,zk]) ⟨rfl,by rw[if_pos h5];rfl⟩
    ·simp (maxSteps:=1000000) [go_sem]
     exact zg (.p (zk bb)) rfl (by simp[go_sem,zf,leA,zk]) ⟨rfl,by rw[if_neg h5];rfl⟩
   ·simp (maxSteps:=1000000) [go_sem]
    refine zh (fun h4=>?_) (fun h4=>?_)
    ·have hw:ZG r c r' c'=if c'=0 then shorter [⟨6,0,0,[]⟩] (shorter [⟨8,c'-c,0,[]⟩] [⟨2,r',c',[]⟩])else shorter [⟨8,c'-c,0,[]⟩] [⟨2,r',c',[]⟩]:=by
      have e1:qF r r'=[]:=by rw[qF];exact(if_neg (by omega)).trans (if_neg (by omega))
      have e2:qN c c'=[⟨8,c'-c,0,[]⟩]:=by rw[qN];exact(if_neg (by omega)).trans (if_pos (by omega))
      rw[ZG,e1,e2];rfl
     have o1:qd [⟨8,c'-c,0,[]⟩]:=zB _ (by simp[AOp.ok];try omega) (by simp)
     have o0:qd [⟨2,r',c',[]⟩]:=zB _ (by simp[AOp.ok];try omega) (by simp)
     have o2:qd [⟨6,0,0,[]⟩]:=zB _ (by simp[AOp.ok];try omega) (by simp)
     rw[hw]
     clear hw
     simp (maxSteps:=1000000) [go_sem]
     refine⟨⟨rfl,by simp[Tryz.f166]⟩,qO [([0],[5])] (Qn [⟨8,c'-c,0,[]⟩] [⟨2,r',c',[]⟩] o1 o0) (by simp[go_sem]) ⟨by simp[go_sem],by simp[go_sem,zk,opP]⟩ (by simp[go_sem,zk,opP]) ?_⟩
     rintro y rs ⟨rfl,rfl⟩
     have ob:=zT o1 o0
     generalize shorter [⟨8,c'-c,0,[]⟩] [⟨2,r',c',[]⟩]=bb at ob⊢
     simp (maxSteps:=1000000) [go_sem,zk]
     refine zh (fun h5=>?_) (fun h5=>?_)
     ·simp (maxSteps:=1000000) [go_sem,cut]
      refine⟨⟨rfl,by simp[Tryz.f166]⟩,qO [([0],[5])] (Qn [⟨6,0,0,[]⟩] bb o2 ob) (by simp[go_sem]) ⟨by simp[go_sem],by simp[go_sem,zk,opP]⟩ (by simp[go_sem,zk]) ?_⟩
      rintro y rs ⟨rfl,rfl⟩
      simp (maxSteps:=1000000) [go_sem,zk]
      exact zg (.p (zk (shorter [⟨6,0,0,[]⟩] bb))) rfl (by simp[go_sem,zf,leA,zk]) ⟨rfl,by rw[if_pos h5];rfl⟩
     ·simp (maxSteps:=1000000) [go_sem]
      exact zg (.p (zk bb)) rfl (by simp[go_sem,zf,leA,zk]) ⟨rfl,by rw[if_neg h5];rfl⟩
    ·have hw:ZG r c r' c'=if c'=0 then shorter [⟨6,0,0,[]⟩] (shorter [⟨9, -(c'-c),0,[]⟩] [⟨2,r',c',[]⟩])else shorter [⟨9, -(c'-c),0,[]⟩] [⟨2,r',c',[]⟩]:=by
      have e1:qF r r'=[]:=by rw[qF];exact(if_neg (by omega)).trans (if_neg (by omega))
      have e2:qN c c'=[⟨9, -(c'-c),0,[]⟩]:=by rw[qN];exact(if_neg (by omega)).trans (if_neg (by omega))
      rw[ZG,e1,e2];rfl
     have o1:qd [⟨9, -(c'-c),0,[]⟩]:=zB _ (by simp[AOp.ok];try omega) (by simp)
     have o0:qd [⟨2,r',c',[]⟩]:=zB _ (by simp[AOp.ok];try omega) (by simp)
     have o2:qd [⟨6,0,0,[]⟩]:=zB _ (by simp[AOp.ok];try omega) (by simp)
     rw[hw]
     clear hw
     simp (maxSteps:=1000000) [go_sem,cut,w4]
     refine⟨⟨rfl,by simp[Tryz.f166]⟩,qO [([0],[5])] (Qn [⟨9, -(c'-c),0,[]⟩] [⟨2,r',c',[]⟩] o1 o0) (by simp[go_sem]) ⟨by simp[go_sem],by simp[go_sem,zk,opP]⟩ (by simp[go_sem,zk,opP]) ?_⟩
     rintro y rs ⟨rfl,rfl⟩
     have ob:=zT o1 o0
     generalize shorter [⟨9, -(c'-c),0,[]⟩] [⟨2,r',c',[]⟩]=bb at ob⊢
     simp (maxSteps:=1000000) [go_sem,zk]
     refine zh (fun h5=>?_) (fun h5=>?_)
     ·simp (maxSteps:=1000000) [go_sem,cut]
      refine⟨⟨rfl,by simp[Tryz.f166]⟩,qO [([0],[5])] (Qn [⟨6,0,0,[]⟩] bb o2 ob) (by simp[go_sem]) ⟨by simp[go_sem],by simp[go_sem,zk,opP]⟩ (by simp[go_sem,zk]) ?_⟩
      rintro y rs ⟨rfl,rfl⟩
      simp (maxSteps:=1000000) [go_sem,zk]
      exact zg (.p (zk (shorter [⟨6,0,0,[]⟩] bb))) rfl (by simp[go_sem,zf,leA,zk]) ⟨rfl,by rw[if_pos h5];rfl⟩
     ·simp (maxSteps:=1000000) [go_sem]
      exact zg (.p (zk bb)) rfl (by simp[go_sem,zf,leA,zk]) ⟨rfl,by rw[if_neg h5];rfl⟩
end
end Go.Proofs.YtfjdbbpimklecaaGreatDoor
