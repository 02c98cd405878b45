/- A part of the proof of this seat's statements, by an abstract machine: what each operation does to values, and what the law's functions compute. Conditions: as each law says. -/
import Derived.Test.YtjefahhmkcfiiaaGreatN20
section
namespace Go.Proofs.YtjefahhmkcfiiaaGreat
open Go.AM
set_option maxHeartbeats 2000000
set_option maxRecDepth 10000
def ud(init:List Span)(o:Span):List Span→List Span
 | []=>init++[o]
 |s::l=>if o.t+1=s.f∧o.a=s.a∧o.b=s.b then ud init {o with t:=s.t} l else ud (init++[o]) s l
def Z2:List Span→List Span
 | []=>[]
 |s::l=>ud [] s l
def ue(s:Span):List AV:=[.p (.int .i64 s.f),.p (.int .i64 s.t),.p (.int .i64 s.a),.p (.int .i64 s.b)]
def Qv(l:List Span):List AV:=((l.map z8).flatMap PV.cells).map .p
theorem wu(l:List Span):(Qv l).length=l.length*4:=by
 induction l with
 |nil=>rfl
 |cons s l ih=>
  simp[Qv,z8,PV.cells]at ih⊢
  omega
theorem JF(l:List Span)(o:Span):Qv (l++[o])=Qv l++ue o:=by
 simp[Qv,ue,z8,PV.cells]
theorem y3(l:List Span)(a b:Tok→Bool):(Qv l).map (AV.upd (AM.fil a b))=Qv l:=by
 unfold Qv
 rw[List.map_map]
 rfl
theorem zgU(o:Span)(a b:Tok→Bool):(ue o).map (AV.upd (AM.fil a b))=ue o:=rfl
theorem UN(l:List Span)(o:Span)(j:Nat):(Qv l++ue o)[l.length*4+j]?=(ue o)[j]?:=by
 rw[←wu,List.getElem?_append_right (by omega)]
 congr 1
 omega
theorem zbJ(l:List Span)(a b c d y:AV):z5 (Qv l++[a,b,c,d]) (l.length*4+1) [y]=Qv l++[a,y,c,d]:=by
 have e:(Qv l).length=l.length*4:=wu l
 unfold z5
 rw[←e,List.take_length_add_append,List.length_singleton,Nat.add_assoc,List.drop_length_add_append]
 simp
theorem Xc(l:List Span)(a b c d y:AV):(Qv l++[a,b,c,d]).take (l.length*4+1)++y::(Qv l++[a,b,c,d]).drop (l.length*4+1+1)=Qv l++[a,y,c,d]:=by
 have:=zbJ l a b c d y
 simpa[z5]using this
def zfV(l:List Span)(k:Nat):Option (List Span×Span)→St
 |none=>{n:=61,nv:=10,vs:=[(3,.p (.opq (.slice none 0 0))),(7,.p (zK l)),(8,.p (.int .i64 l.length)),(9,.p (.int .i64 k))],ts:=[],rs:=[],rm:=[3,57,58]}
 |some (init,o)=>{n:=61,nv:=10,vs:=[(3,.la [58] 4 0 (init.length+1)),(7,.p (zK l)),(8,.p (.int .i64 l.length)),(9,.p (.int .i64 k))],ts:=[],rs:=[([58],Qv init++ue o)],rm:=[3,57,58]}
def znt(l:List Span)(k:Nat):Option (List Span×Span)→Prop
 |none=>k=0
 |some (init,o)=>k≤l.length∧Z2 l=ud init o (l.drop k)∧init.length<k∧ -1000000000≤o.t∧o.t≤1000000000
theorem zdP [Gi](l:List Span)(hn:l.length<2^31)(hb:∀s∈l, -1000000000≤s.t∧s.t≤1000000000):CR Tryz.prog 118 [] [.p (zK l)] [] (fun x rs=>(l=[]∧x=.p (.sl 4 [])∧rs=[])∨(0< (Z2 l).length∧x=.la [58] 4 0 (Z2 l).length∧rs=[([58],Qv (Z2 l))])):=by
 refine qK [] mixed 10 [] Tryz.func118 rfl (by kernel_rfl) [3,57,58] rfl (by simp) (by simp) ?_
 simp (disch:=omega) [go_sem,Tryz.f118,zK]
 refine xZ (fun i:Nat×Option (List Span×Span)=>znt l i.1 i.2) (fun i=>zfV l i.1 i.2) (fun i=>l.length-i.1) (0,none) rfl (by simp[go_sem,LeS,leV,leR,leA,zK,zfV]) ?_
 rintro⟨k,_|⟨init,o⟩⟩ hI
 ·have hk:k=0:=hI
  subst hk
  simp (disch:=omega) [go_sem,zfV,zK]
  refine zx (fun h=>?_) (fun h=>?_)
  ·have em:=zq z8 l 0 h
   have hx:=hb l[0] (List.getElem_mem h)
   have hl:l=l[0]::l.drop 1:=by
    have:=List.drop_eq_getElem_cons h
    simpa using this
   have hj:Z2 l=ud [] l[0] (l.drop 1):=by
    conv=>lhs;rw[hl]
    rfl
   generalize l[0]=x at em hx hj
   simp (disch:=omega) [go_sem,em,h,z8]
   refine⟨by decide,zc (1,some ([],x)) ⟨by show 1≤l.length;omega,hj,by simp,hx.1,hx.2⟩ ?_ ?_⟩
   ·simp[go_sem,LeS,leV,leR,leA,leL,Qv,ue]
    decide
   ·show l.length-1<l.length-0
    omega
  ·have hl:l=[]:=List.length_eq_zero_iff.1 (by omega)
   simp (disch:=omega) [go_sem]
   exact zl [] (.p (.sl 4 [])) ⟨rfl,by simp⟩ (by simp[go_sem,zf,leA,leT]) (.inl ⟨hl,rfl,rfl⟩)
 ·obtain⟨h1,h2,h3,h5,h6⟩:=hI
  simp only at h1 h2 h3
  simp (disch:=omega) [go_sem,zfV,zK]
  refine zx (fun h=>?_) (fun h=>?_)
  ·have em:=zq z8 l k h
   have w0:IntKind.i64.wrap (init.length:Int)=(init.length:Int):=wrap64 (by omega) (by omega)
   have w1:IntKind.i64.wrap (o.t+1)=o.t+1:=wrap64 (by omega) (by omega)
   have w2:IntKind.i64.wrap ((k:Int)+1)=(k:Int)+1:=wrap64 (by omega) (by omega)
   have g1:=UN init o 1
   have g2:=UN init o 2
   have g3:=UN init o 3
   simp only[ue,List.getElem?_cons_succ,List.getElem?_cons_zero]at g1 g2 g3
   have hi:(init.length:Int)< (init.length:Int)+1:=by omega
   have hx:=hb l[k] (List.getElem_mem h)
   have hd:l.drop k=l[k]::l.drop (k+1):=List.drop_eq_getElem_cons h
   rw[hd,ud]at h2
   generalize l[k]=x at em hx h2
   simp (disch:=omega) [go_sem,em,h,z8,w0,w1,y3,ue,g1,g2,g3,hi]
   refine qo (fun hc=>?_) (fun hc=>?_)
   ·have hc':o.t+1=x.f∧o.a=x.a∧o.b=x.b:=by
     simp at hc
     exact⟨hc.1.1,hc.1.2,hc.2⟩
    rw[if_pos hc']at h2
    simp (disch:=omega) [go_sem,w2,wu,hi]
    exact zc (k+1,some (init,{o with t:=x.t})) ⟨by show k+1≤l.length;omega,h2,by show init.length<k+1;omega,hx.1,hx.2⟩ (by simp[go_sem,LeS,leV,leR,leA,Xc,y3,zj]) (by show l.length- (k+1)<l.length-k;omega)
   ·have hc':¬(o.t+1=x.f∧o.a=x.a∧o.b=x.b):=by
     intro e
     simp[e]at hc
    rw[if_neg hc']at h2
    simp (disch:=omega) [go_sem,w2,y3,wu]
    refine⟨⟨by omega,by omega⟩,?_⟩
    exact zc (k+1,some (init++[o],x)) ⟨by show k+1≤l.length;omega,h2,by show(init++[o]).length<k+1;simp;omega,hx.1,hx.2⟩ (by simp[go_sem,LeS,leV,leR,leA,ue,JF,y3,zj]) (by show l.length- (k+1)<l.length-k;omega)
  ·have hk:k=l.length:=by omega
   subst hk
   simp (disch:=omega) [go_sem]
   rw[List.drop_length]at h2
   refine zl [[58]] (.la [58] 4 0 (Z2 l).length) ⟨rfl,by simp⟩ (by simp[go_sem,zf,leA,leT,h2,ud]) ?_
   refine .inr ⟨by rw[h2];simp[ud],rfl,?_⟩
   simp[go_sem,y3,zgU,h2,ud,JF]
theorem zhL [Gi](l:List Span)(hn:l.length<2^31)(hb:∀s∈l, -1000000000≤s.t∧s.t≤1000000000):CR Tryz.prog 118 [] [.p (zK l)] [] (is (.p (zK (Z2 l)))):=by
 refine CR.freeze (zdP l hn hb) (fun _=>false) rfl ?_
 rintro x rs (⟨rfl,rfl,rfl⟩|⟨h0,rfl,rfl⟩)
 ·refine⟨.p (.sl 4 []),fun g w v hG hv=>?_,rfl,rfl⟩
  rw[Ww]at hv⊢
  exact zk.ext (wG hG _) _ _ hv
 ·refine⟨.p (zK (Z2 l)),fun g w v hG hv=>?_,rfl,rfl⟩
  rw[Ww]
  exact zju hG h0 (by simp[zH,Qv]) rfl (by simp) (fun e he=>by
   obtain⟨s,_,rfl⟩:=List.mem_map.1 he
   exact⟨rfl,rfl⟩) hv
end Go.Proofs.YtjefahhmkcfiiaaGreat
end
section
namespace Go.Proofs.YtjefahhmkcfiiaaGreat
open Go.AM
set_option maxHeartbeats 2000000
set_option maxRecDepth 10000
structure QC(α:Type)where
 f:Int
 t:Int
 v:α
def Zz {α:Type}(zero:α)(i:Int):List (QC α)→Int→α×Int
 | [],last=>(zero,last)
 |p::l,last=>if p.f≤i∧i≤p.t then(p.v,min p.t last)else if i<p.f∧p.f≤last then Zz zero i l (p.f-1)else Zz zero i l last
def Wu(p:QC Int):PV:=.agg [.int .i64 p.f,.int .i64 p.t,.int .i64 p.v]
def y9(l:List (QC Int)):PV:=.sl 3 (l.map Wu)
theorem Jp [Gi](l:List (QC Int))(zero i last:Int)(hn:l.length<2^31)(hb:∀p∈l, -1000000000≤p.f∧p.f≤1000000000):
  CR Tryz.prog 159 [] [.p (y9 l),.p (.int .i64 zero),.p (.int .i64 i),.p (.int .i64 last)] [] (is (.tup [.p (.int .i64 (Zz zero i l last).1),.p (.int .i64 (Zz zero i l last).2)])):=by
 refine zM [5] mixed 15 [] Tryz.func159 rfl (by kernel_rfl) rfl (by simp) (by simp) ?_
 simp (disch:=omega) [go_sem,Tryz.f159,y9]
 refine xZ (fun k:Nat×Int=>k.1≤l.length∧Zz zero i l last=Zz zero i (l.drop k.1) k.2) (fun k=>{n:=52,nv:=15,vs:=[(1,.p (.int .i64 zero)),(2,.p (.int .i64 i)),(3,.p (.int .i64 k.2)),(8,.p (.int .i64 0)),(9,.p (.int .i64 0)),(12,.p (y9 l)),(13,.p (.int .i64 l.length)),(14,.p (.int .i64 k.1))],ts:=[],rs:=[]}) (fun k=>l.length-k.1) (0,last) (by simp) (by simp[go_sem,LeS,leV,leR,leA,y9]) ?_
 rintro⟨k,la⟩ ⟨hk,hf⟩
 simp only at hk hf
 simp (disch:=omega) [go_sem,y9]
 refine zx (fun h=>?_) (fun h=>?_)
 ·have em:=zq Wu l k h
  have hd:l.drop k=l[k]::l.drop (k+1):=List.drop_eq_getElem_cons h
  have hx:=hb l[k] (List.getElem_mem h)
  have w2:IntKind.i64.wrap ((k:Int)+1)=(k:Int)+1:=wrap64 (by omega) (by omega)
  rw[hd,Zz]at hf
  generalize l[k]=x at em hx hf
  have w1:IntKind.i64.wrap (x.f-1)=x.f-1:=wrap64 (by omega) (by omega)
  simp (disch:=omega) [go_sem,em,h,Wu]
  refine qo (fun hc=>?_) (fun hc=>?_)
  ·have hc':x.f≤i∧i≤x.t:=by simpa using hc
   rw[if_pos hc']at hf
   simp (disch:=omega) [go_sem]
   exact zg (.tup [.p (.int .i64 x.v),.p (.int .i64 (min x.t la))]) rfl (by simp[go_sem,zf,leA]) ⟨rfl,by rw[hf]⟩
  ·have hc':¬(x.f≤i∧i≤x.t):=by intro e;simp[e]at hc
   rw[if_neg hc']at hf
   simp (disch:=omega) [go_sem]
   refine qo (fun hc2=>?_) (fun hc2=>?_)
   ·have hc3:i<x.f∧x.f≤la:=by simpa using hc2
    rw[if_pos hc3]at hf
    simp (disch:=omega) [go_sem,w1,w2]
    exact zc (k+1,x.f-1) ⟨by show k+1≤l.length;omega,hf⟩ (by simp[go_sem,LeS,leV,leR,leA]) (by show l.length- (k+1)<l.length-k;omega)
   ·have hc3:¬(i<x.f∧x.f≤la):=by intro e;simp[e]at hc2
    rw[if_neg hc3]at hf
    simp (disch:=omega) [go_sem,w2]
    exact zc (k+1,la) ⟨by show k+1≤l.length;omega,hf⟩ (by simp[go_sem,LeS,leV,leR,leA]) (by show l.length- (k+1)<l.length-k;omega)
 ·have hk':k=l.length:=by omega
  subst hk'
  rw[List.drop_length,Zz]at hf
  simp (disch:=omega) [go_sem]
  exact zg (.tup [.p (.int .i64 zero),.p (.int .i64 la)]) rfl (by simp[go_sem,zf,leA]) ⟨rfl,by rw[hf]⟩
end Go.Proofs.YtjefahhmkcfiiaaGreat
end
section
namespace Go.Proofs.YtjefahhmkcfiiaaGreat
open Go.AM
set_option maxHeartbeats 2000000
set_option maxRecDepth 10000
structure Za where
 a:Int
 b:Int
 deriving DecidableEq
def qg(p:Za):List PV:=[.int .i32 p.a,.int .i32 p.b]
structure Flags where
 p:Bool
 w:Bool
 l:Bool
 o:Bool
 deriving DecidableEq
def qB(p:Flags):List PV:=[.bool p.p,.bool p.w,.bool p.l,.bool p.o]
def Wy(p:QC Za):PV:=.agg (.int .i64 p.f::.int .i64 p.t::qg p.v)
def xi(l:List (QC Za)):PV:=.sl 4 (l.map Wy)
theorem YF [Gi](l:List (QC Za))(zero:Za)(i last:Int)(hn:l.length<2^31)(hb:∀p∈l, -1000000000≤p.f∧p.f≤1000000000):
  CR Tryz.prog 119 [] [.p (xi l),.p (.agg (qg zero)),.p (.int .i64 i),.p (.int .i64 last)] [] (is (.tup [.p (.agg (qg (Zz zero i l last).1)),.p (.int .i64 (Zz zero i l last).2)])):=by
 refine zM [100005] mixed 15 [] Tryz.func119 rfl (by kernel_rfl) rfl (by simp) (by simp) ?_
 simp (disch:=omega) [go_sem,Tryz.f119,xi,qg]
 refine xZ (fun k:Nat×Int=>k.1≤l.length∧Zz zero i l last=Zz zero i (l.drop k.1) k.2) (fun k=>{n:=52,nv:=15,vs:=[(2,.p (.int .i64 i)),(3,.p (.int .i64 k.2)),(5,.lp [5] 0),(8,.lp [8] 0),(9,.p (.int .i64 0)),(12,.p (xi l)),(13,.p (.int .i64 l.length)),(14,.p (.int .i64 k.1))],ts:=[],rs:=[([5],(qg zero).map .p),([8],[.p (.int .i32 0),.p (.int .i32 0)])]}) (fun k=>l.length-k.1) (0,last) (by simp) (by simp[go_sem,LeS,leV,leR,leA,leL,xi,qg]) ?_
 rintro⟨k,la⟩ ⟨hk,hf⟩
 simp only at hk hf
 simp (disch:=omega) [go_sem,xi,qg]
 refine zx (fun h=>?_) (fun h=>?_)
 ·have em:=zq Wy l k h
  have hd:l.drop k=l[k]::l.drop (k+1):=List.drop_eq_getElem_cons h
  have hx:=hb l[k] (List.getElem_mem h)
  have w2:IntKind.i64.wrap ((k:Int)+1)=(k:Int)+1:=wrap64 (by omega) (by omega)
  rw[hd,Zz]at hf
  generalize l[k]=x at em hx hf
  have w1:IntKind.i64.wrap (x.f-1)=x.f-1:=wrap64 (by omega) (by omega)
  simp (disch:=omega) [go_sem,em,h,Wy,qg]
  refine qo (fun hc=>?_) (fun hc=>?_)
  ·have hc':x.f≤i∧i≤x.t:=by simpa using hc
   rw[if_pos hc']at hf
   simp (disch:=omega) [go_sem,List.findSome?]
   exact zg (.tup [.p (.agg (qg x.v)),.p (.int .i64 (min x.t la))]) rfl (by simp[go_sem,zf,leA,qg]) ⟨rfl,by rw[hf];rfl⟩
  ·have hc':¬(x.f≤i∧i≤x.t):=by intro e;simp[e]at hc
   rw[if_neg hc']at hf
   simp (disch:=omega) [go_sem]
   refine qo (fun hc2=>?_) (fun hc2=>?_)
   ·have hc3:i<x.f∧x.f≤la:=by simpa using hc2
    rw[if_pos hc3]at hf
    simp (disch:=omega) [go_sem,w1,w2]
    exact zc (k+1,x.f-1) ⟨by show k+1≤l.length;omega,hf⟩ (by simp[go_sem,LeS,leV,leR,leA,leL]) (by show l.length- (k+1)<l.length-k;omega)
   ·have hc3:¬(i<x.f∧x.f≤la):=by intro e;simp[e]at hc2
    rw[if_neg hc3]at hf
    simp (disch:=omega) [go_sem,w2]
    exact zc (k+1,la) ⟨by show k+1≤l.length;omega,hf⟩ (by simp[go_sem,LeS,leV,leR,leA,leL]) (by show l.length- (k+1)<l.length-k;omega)
 ·have hk':k=l.length:=by omega
  subst hk'
  rw[List.drop_length,Zz]at hf
  simp (disch:=omega) [go_sem]
  exact zg (.tup [.p (.agg (qg zero)),.p (.int .i64 la)]) rfl (by simp[go_sem,zf,leA,qg]) ⟨rfl,by rw[hf];rfl⟩
def YI(p:QC Flags):PV:=.agg (.int .i64 p.f::.int .i64 p.t::qB p.v)
def xb(l:List (QC Flags)):PV:=.sl 6 (l.map YI)
theorem Yd [Gi](l:List (QC Flags))(zero:Flags)(i last:Int)(hn:l.length<2^31)(hb:∀p∈l, -1000000000≤p.f∧p.f≤1000000000):
  CR Tryz.prog 164 [] [.p (xb l),.p (.agg (qB zero)),.p (.int .i64 i),.p (.int .i64 last)] [] (is (.tup [.p (.agg (qB (Zz zero i l last).1)),.p (.int .i64 (Zz zero i l last).2)])):=by
 refine zM [100005] mixed 15 [] Tryz.func164 rfl (by kernel_rfl) rfl (by simp) (by simp) ?_
 simp (disch:=omega) [go_sem,Tryz.f164,xb,qB]
 refine xZ (fun k:Nat×Int=>k.1≤l.length∧Zz zero i l last=Zz zero i (l.drop k.1) k.2) (fun k=>{n:=52,nv:=15,vs:=[(2,.p (.int .i64 i)),(3,.p (.int .i64 k.2)),(5,.lp [5] 0),(8,.lp [8] 0),(9,.p (.int .i64 0)),(12,.p (xb l)),(13,.p (.int .i64 l.length)),(14,.p (.int .i64 k.1))],ts:=[],rs:=[([5],(qB zero).map .p),([8],[.p (.bool false),.p (.bool false),.p (.bool false),.p (.bool false)])]}) (fun k=>l.length-k.1) (0,last) (by simp) (by simp[go_sem,LeS,leV,leR,leA,leL,xb,qB]) ?_
 rintro⟨k,la⟩ ⟨hk,hf⟩
 simp only at hk hf
 simp (disch:=omega) [go_sem,xb,qB]
 refine zx (fun h=>?_) (fun h=>?_)
 ·have em:=zq YI l k h
  have hd:l.drop k=l[k]::l.drop (k+1):=List.drop_eq_getElem_cons h
  have hx:=hb l[k] (List.getElem_mem h)
  have w2:IntKind.i64.wrap ((k:Int)+1)=(k:Int)+1:=wrap64 (by omega) (by omega)
  rw[hd,Zz]at hf
  generalize l[k]=x at em hx hf
  have w1:IntKind.i64.wrap (x.f-1)=x.f-1:=wrap64 (by omega) (by omega)
  simp (disch:=omega) [go_sem,em,h,YI,qB]
  refine qo (fun hc=>?_) (fun hc=>?_)
  ·have hc':x.f≤i∧i≤x.t:=by simpa using hc
   rw[if_pos hc']at hf
   simp (disch:=omega) [go_sem,List.findSome?]
   exact zg (.tup [.p (.agg (qB x.v)),.p (.int .i64 (min x.t la))]) rfl (by simp[go_sem,zf,leA,qB]) ⟨rfl,by rw[hf];rfl⟩
  ·have hc':¬(x.f≤i∧i≤x.t):=by intro e;simp[e]at hc
   rw[if_neg hc']at hf
   simp (disch:=omega) [go_sem]
   refine qo (fun hc2=>?_) (fun hc2=>?_)
   ·have hc3:i<x.f∧x.f≤la:=by simpa using hc2
    rw[if_pos hc3]at hf
    simp (disch:=omega) [go_sem,w1,w2]
    exact zc (k+1,x.f-1) ⟨by show k+1≤l.length;omega,hf⟩ (by simp[go_sem,LeS,leV,leR,leA,leL]) (by show l.length- (k+1)<l.length-k;omega)
   ·have hc3:¬(i<x.f∧x.f≤la):=by intro e;simp[e]at hc2
    rw[if_neg hc3]at hf
    simp (disch:=omega) [go_sem,w2]
    exact zc (k+1,la) ⟨by show k+1≤l.length;omega,hf⟩ (by simp[go_sem,LeS,leV,leR,leA,leL]) (by show l.length- (k+1)<l.length-k;omega)
 ·have hk':k=l.length:=by omega
  subst hk'
  rw[List.drop_length,Zz]at hf
  simp (disch:=omega) [go_sem]
  exact zg (.tup [.p (.agg (qB zero)),.p (.int .i64 la)]) rfl (by simp[go_sem,zf,leA,qB]) ⟨rfl,by rw[hf];rfl⟩
end Go.Proofs.YtjefahhmkcfiiaaGreat
end
section
namespace Go.Proofs.YtjefahhmkcfiiaaGreat
open Go.AM
set_option maxHeartbeats 2000000
set_option maxRecDepth 10000
def Qy(w size:Nat)(idx:List Nat)(blocks:List (List PV)):PV:=.agg [.int .i64 size,.sl 1 (idx.map fun k:Nat=>.int .i64 k),.sl (128*w) (blocks.map .agg)]
def zai(w:Nat)(idx:List Nat)(blocks:List (List PV))(i:Nat)(v:List PV):Prop:=
 ∃k cs,idx[i/128]?=some k∧blocks[k]?=some cs∧cs.length=128*w∧(cs.drop (i%128*w)).take w=v
theorem zkL [Gi](size:Nat)(idx:List Nat)(blocks:List (List PV))(i:Nat)(v:Int)(hs:size<2^31)(hi:i<size)(h:zai 1 idx blocks i [.int .i64 v]):
  CR Tryz.prog 170 [] [.p (.pt 3 (Qy 1 size idx blocks)),.p (.int .i64 i)] [] (is (.p (.int .i64 v))):=by
 obtain⟨k,cs,h1,h2,h3,h4⟩:=h
 refine zM [] mixed 6 [] Tryz.func170 rfl (by kernel_rfl) rfl (by simp) (by simp) ?_
 have e1:¬(size:Int)≤i:=by omega
 have e2:¬(i:Int)<0:=by omega
 obtain⟨n1,h1⟩:=List.getElem?_eq_some_iff.1 h1
 obtain⟨n2,h2⟩:=List.getElem?_eq_some_iff.1 h2
 have m1:=zq (fun k:Nat=>PV.int .i64 k) idx (i/128) n1
 have m2:=zq PV.agg blocks k n2
 rw[h1]at m1
 rw[h2]at m2
 have q1:(i:Int).tdiv 128=((i/128:Nat):Int):=rfl
 have q2:(i:Int).tmod 128=((i%128:Nat):Int):=rfl
 have w1:IntKind.i64.wrap ((i:Int)/128)=((i/128:Nat):Int):=by rw[wrap64 (by omega) (by omega)];omega
 have w2:IntKind.i64.wrap ((i:Int)%128)=((i%128:Nat):Int):=by rw[wrap64 (by omega) (by omega)];omega
 have t1:((i:Int)/128).toNat=i/128:=by omega
 have t2:((i:Int)%128).toNat=i%128:=by omega
 have b0:0≤(i:Int)/128:=by omega
 have b1:(i:Int)/128<idx.length:=by omega
 have b2:0≤(i:Int)%128:=by omega
 have b3:(i:Int)%128<128:=by omega
 have hv:cs[i%128]?=some (.int .i64 v):=by
  simp only[Nat.mul_one]at h4
  rw[←List.head?_drop]
  cases hd:cs.drop (i%128)with
  |nil=>rw[hd]at h4;simp at h4
  |cons a l=>rw[hd]at h4;simp at h4;simp[h4]
 simp only[Nat.mul_one]at h3
 obtain⟨n3,hv'⟩:=List.getElem?_eq_some_iff.1 hv
 simp (disch:=omega) [go_sem,Tryz.f170,Qy,e1,e2,q1,q2,w1,m1,m2,n2,t1,t2,b0,b1,b2,b3,hv',h3]
 exact zg (.p (.int .i64 v)) rfl (by simp[go_sem,zf,leA]) ⟨rfl,rfl⟩
end Go.Proofs.YtjefahhmkcfiiaaGreat
end
section
namespace Go.Proofs.YtjefahhmkcfiiaaGreat
open Go.AM
set_option maxHeartbeats 2000000
set_option maxRecDepth 10000
theorem zkS [Gi](size:Nat)(idx:List Nat)(blocks:List (List PV))(i:Nat)(v:Za)(hs:size<2^31)(hi:i<size)(h:zai 2 idx blocks i (qg v)):
  CR Tryz.prog 69 [] [.p (.pt 3 (Qy 2 size idx blocks)),.p (.int .i64 i)] [] (is (.p (.agg (qg v)))):=by
 obtain⟨k,cs,h1,h2,h3,h4⟩:=h
 refine zM [] mixed 6 [] Tryz.func69 rfl (by kernel_rfl) rfl (by simp) (by simp) ?_
 have e1:¬(size:Int)≤i:=by omega
 have e2:¬(i:Int)<0:=by omega
 obtain⟨n1,h1⟩:=List.getElem?_eq_some_iff.1 h1
 obtain⟨n2,h2⟩:=List.getElem?_eq_some_iff.1 h2
 have m1:=zq (fun k:Nat=>PV.int .i64 k) idx (i/128) n1
 have m2:=zq PV.agg blocks k n2
 rw[h1]at m1
 rw[h2]at m2
 have q1:(i:Int).tdiv 128=((i/128:Nat):Int):=rfl
 have q2:(i:Int).tmod 128=((i%128:Nat):Int):=rfl
 have w1:IntKind.i64.wrap ((i:Int)/128)=((i/128:Nat):Int):=by rw[wrap64 (by omega) (by omega)];omega
 have w2:IntKind.i64.wrap ((i:Int)%128)=((i%128:Nat):Int):=by rw[wrap64 (by omega) (by omega)];omega
 have t1:((i:Int)/128).toNat=i/128:=by omega
 have t2:((i:Int)%128).toNat=i%128:=by omega
 have b0:0≤(i:Int)/128:=by omega
 have b1:(i:Int)/128<idx.length:=by omega
 have b2:0≤(i:Int)%128:=by omega
 have b3:(i:Int)%128<128:=by omega
 have hl:i%128*2+2≤cs.length:=by omega
 simp only[qg]at h4
 simp (disch:=omega) [go_sem,Tryz.f69,Qy,e1,e2,q1,q2,w1,m1,m2,n2,t1,t2,b0,b1,b2,b3,h4,h3,qg]
 exact⟨by omega,zg (.p (.agg (qg v))) rfl (by simp[go_sem,zf,leA,qg]) ⟨rfl,rfl⟩⟩
theorem zkZ [Gi](size:Nat)(idx:List Nat)(blocks:List (List PV))(i:Nat)(v:Flags)(hs:size<2^31)(hi:i<size)(h:zai 4 idx blocks i (qB v)):
  CR Tryz.prog 123 [] [.p (.pt 3 (Qy 4 size idx blocks)),.p (.int .i64 i)] [] (is (.p (.agg (qB v)))):=by
 obtain⟨k,cs,h1,h2,h3,h4⟩:=h
 refine zM [] mixed 6 [] Tryz.func123 rfl (by kernel_rfl) rfl (by simp) (by simp) ?_
 have e1:¬(size:Int)≤i:=by omega
 have e2:¬(i:Int)<0:=by omega
 obtain⟨n1,h1⟩:=List.getElem?_eq_some_iff.1 h1
 obtain⟨n2,h2⟩:=List.getElem?_eq_some_iff.1 h2
 have m1:=zq (fun k:Nat=>PV.int .i64 k) idx (i/128) n1
 have m2:=zq PV.agg blocks k n2
 rw[h1]at m1
 rw[h2]at m2
 have q1:(i:Int).tdiv 128=((i/128:Nat):Int):=rfl
 have q2:(i:Int).tmod 128=((i%128:Nat):Int):=rfl
 have w1:IntKind.i64.wrap ((i:Int)/128)=((i/128:Nat):Int):=by rw[wrap64 (by omega) (by omega)];omega
 have w2:IntKind.i64.wrap ((i:Int)%128)=((i%128:Nat):Int):=by rw[wrap64 (by omega) (by omega)];omega
 have t1:((i:Int)/128).toNat=i/128:=by omega
 have t2:((i:Int)%128).toNat=i%128:=by omega
 have b0:0≤(i:Int)/128:=by omega
 have b1:(i:Int)/128<idx.length:=by omega
 have b2:0≤(i:Int)%128:=by omega
 have b3:(i:Int)%128<128:=by omega
 have hl:i%128*4+4≤cs.length:=by omega
 simp only[qB]at h4
 simp (disch:=omega) [go_sem,Tryz.f123,Qy,e1,e2,q1,q2,w1,m1,m2,n2,t1,t2,b0,b1,b2,b3,h4,h3,qB]
 exact⟨by omega,zg (.p (.agg (qB v))) rfl (by simp[go_sem,zf,leA,qB]) ⟨rfl,rfl⟩⟩
end Go.Proofs.YtjefahhmkcfiiaaGreat
end
section
namespace Go.Proofs.YtjefahhmkcfiiaaGreat
open Go.AM
set_option maxHeartbeats 4000000
set_option maxRecDepth 10000
def U6:OT:=.now 0 2 (.now 1 2 (.now 2 2 (.now 4 1 (.now 5 1 (.now 6 1 (.now 7 1 (.now 8 1 (.now 9 1 (.now 10 1 (.now 11 0 (.mk [(3,.mk [(12,.mk [(13,.now 14 0 (.now 15 0 (.mk [(16,.mk [])])))])]),(12,.mk [(3,.mk [(13,.now 14 0 (.now 15 0 (.mk [(16,.mk [])])))]),(13,.now 3 0 (.now 14 0 (.now 15 0 (.mk [(16,.mk [])]))))])])))))))))))
def QZ(n:Nat):List PV:=(List.range n).map fun k:Nat=>.int .i64 k
theorem WG(n:Nat):QZ (n+1)=QZ n++[.int .i64 (n:Nat)]:=by simp[QZ,List.range_succ]
def zT(w size:Nat)(X:AV)(tk:Tok)(blocks:List (List PV))(k2 x2:List PV):List (Tok×List AV):=
 [([0],[.lp [1] 0,.om [902] (blocks.map .agg) (QZ blocks.length),.om [903] k2 x2]),([1],[.p (.int .i64 size),X,.os tk (128*w) (blocks.map .agg)])]
def Zl(own:Bool)(idx:List Nat):AV:=if own then .os [904] 1 (idx.map fun k:Nat=>.int .i64 k)else .p (.sl 1 (idx.map fun k:Nat=>.int .i64 k))
theorem Ug [Gi](own:Bool)(size:Nat)(idx:List Nat)(blocks:List (List PV))(k2 x2:List PV)(cs:List PV)(hc:okC (qG 128 [.i .i64]) cs=true)(hb:∀b∈blocks,okC (qG 128 [.i .i64]) b=true)(hn:blocks.length<2^31):
  CR Tryz.prog 161 [[0],[1]] [.lp [0] 0,.p (.agg cs)] (zT 1 size (Zl own idx) [905] blocks k2 x2)
   (fun x rs=>(∃k:Nat,x=.p (.int .i64 k)∧blocks[k]?=some cs∧rs=zT 1 size (Zl own idx) [905] blocks k2 x2)∨
    (x=.p (.int .i64 blocks.length)∧rs=zT 1 size (Zl own idx) [1,2] (blocks++[cs]) k2 x2)):=by
 have hl:cs.length=128:=by simpa[qz]using Zy hc
 have ht:=QD hl
 have hall:(blocks.map PV.agg).all (fun k=>okC (qG 128 [.i .i64]) k.cells)=true:=by simpa[PV.cells]using hb
 cases own<;>
 ·refine zM [1,200005] mixed 8 [] Tryz.func161 rfl (by kernel_rfl) rfl (by simp) (by simp) ?_
  cases hf:qM cs (blocks.map PV.agg) (QZ blocks.length) 0 with
  |none=>
   simp (disch:=omega) [go_sem,Tryz.f161,zT,Zl,Zx,mapOf,jv,ht,hl,hc,hf]
   refine⟨hb,Zg U6 (by kernel_rfl) ?_⟩
   simp (disch:=omega) [go_sem,U6,ht,hl]
   have e0:(qG 128 [PV.int IntKind.i64 0]).length=128:=by simp[qz]
   have e1:∀x∈qG 128 [PV.int IntKind.i64 0],(match x with|PV.agg cs=>false|PV.opq u=>u.oneCell'|x=>true)=true:=fun x hx=>by
    obtain⟨l,hl,hx⟩:=List.mem_flatten.1 hx
    rw[List.eq_of_mem_replicate hl]at hx
    rw[List.mem_singleton.1 hx]
   have u1:yf (PV.agg cs) (List.map PV.agg blocks) (QZ blocks.length)=List.map PV.agg blocks++[PV.agg cs]:=by simp[yf,PV.cells,hf]
   have u2:kX (PV.agg cs) (PV.int IntKind.i64 ↑blocks.length) (List.map PV.agg blocks) (QZ blocks.length)=QZ (blocks.length+1):=by rw[WG];simp only[kX,PV.cells,hf]
   refine⟨⟨e0,e1⟩,⟨e0,by omega⟩,?_⟩
   exact zl [[0],[1]] (.p (.int .i64 blocks.length)) ⟨rfl,by simp⟩ (by simp[go_sem,zf,leA,leT]) (.inr ⟨rfl,by simp[go_sem,u1,u2]⟩)
  |some r=>
   obtain⟨j,x⟩:=r
   obtain⟨_,k,h3,h4,h5⟩:=Z7 hc hall hf
   simp only[Nat.sub_zero]at h3 h5
   simp only[List.getElem?_map,Option.map_eq_some_iff]at h3
   obtain⟨b,h3,rfl⟩:=h3
   simp only[PV.cells]at h4
   subst h4
   have hx:x=.int .i64 (j:Nat):=by
    simp only[QZ,List.getElem?_map,Option.map_eq_some_iff]at h5
    obtain⟨q,hq,rfl⟩:=h5
    rw[List.getElem?_range (List.getElem?_eq_some_iff.1 h3).1]at hq
    injection hq with hq;rw[hq]
   subst hx
   simp (disch:=omega) [go_sem,Tryz.f161,zT,Zl,Zx,mapOf,jv,ht,hl,hc,hf]
   refine⟨hb,?_⟩
   exact zl [[0],[1]] (.p (.int .i64 j)) ⟨rfl,by simp⟩ (by simp[go_sem,zf,leA,leT]) (.inl ⟨j,rfl,h3,by simp[go_sem]⟩)
end Go.Proofs.YtjefahhmkcfiiaaGreat
end
