/- A part of this seat's proofs, by an abstract machine. Conditions: each law's. -/
import Derived.Test.YtfjdbbpimklecaaGreatDoorT19
import Derived.Test.YtfjdbbpimklecaaGreatDoorT18
set_option maxHeartbeats 4000000
set_option maxRecDepth 10000
namespace Go.Proofs.YtfjdbbpimklecaaGreatDoor
section
open Go.AM
structure jq where
 a:Int
 b:Int
 deriving DecidableEq
def qP(p:jq):List PV:=[.int .i32 p.a,.int .i32 p.b]
structure Flags where
 p:Bool
 w:Bool
 l:Bool
 o:Bool
 deriving DecidableEq
def qB(p:Flags):List PV:=[.bool p.p,.bool p.w,.bool p.l,.bool p.o]
def Wt(p:Piece jq):PV:=.agg (.int .i64 p.f::.int .i64 p.t::qP p.v)
def xh(l:List (Piece jq)):PV:=.sl 4 (l.map Wt)
theorem Yr [Gi](l:List (Piece jq))(zero:jq)(i last:Int)(hn:l.length<2^31)(hb:∀p∈l, -1000000000≤p.f∧p.f≤1000000000):
  CR Tryz.prog 112 [] [.p (xh l),.p (.agg (qP zero)),.p (.int .i64 i),.p (.int .i64 last)] [] (is (.tup [.p (.agg (qP (Zs zero i l last).1)),.p (.int .i64 (Zs zero i l last).2)])):=by
 refine zK [100005] mixed 15 [] Tryz.func112 rfl (by kernel_rfl) rfl (by simp) (by simp) ?_
 simp (disch:=omega) [go_sem,Tryz.f112,xh,qP]
 refine qM (fun k:Nat×Int=>k.1≤l.length∧Zs zero i l last=Zs zero i (l.drop k.1) k.2) (fun k=>{n:=52,nv:=15,vs:=[(2,.p (.int .i64 i)),(3,.p (.int .i64 k.2)),(5,.lp [5] 0),(8,.lp [8] 0),(9,.p (.int .i64 0)),(12,.p (xh l)),(13,.p (.int .i64 l.length)),(14,.p (.int .i64 k.1))],ts:=[],rs:=[([5],(qP zero).map .p),([8],[.p (.int .i32 0),.p (.int .i32 0)])]}) (fun k=>l.length-k.1) (0,last) (by simp) (by simp[go_sem,LeS,leV,leR,leA,leL,xh,qP]) ?_
 rintro⟨k,la⟩ ⟨hk,hf⟩
 simp only at hk hf
 simp (disch:=omega) [go_sem,xh,qP]
 refine zh (fun h=>?_) (fun h=>?_)
 ·have em:=zp Wt l k h
  have hd:l.drop k=l[k]::l.drop (k+1):=List.drop_eq_getElem_cons h
  have hx:=hb l[k] (List.getElem_mem h)
  have w2:IntKind.i64.wrap ((k:Int)+1)=(k:Int)+1:=wrap64 (by omega) (by omega)
  rw[hd,Zs]at hf
  generalize l[k]=x at em hx hf
  have w1:IntKind.i64.wrap (x.f-1)=x.f-1:=wrap64 (by omega) (by omega)
  simp (disch:=omega) [go_sem,em,h,Wt,qP]
  refine zN (fun hc=>?_) (fun hc=>?_)
  ·have hc':x.f≤i∧i≤x.t:=by simpa using hc
   rw[if_pos hc']at hf
   simp (disch:=omega) [go_sem,List.findSome?]
   exact zg (.tup [.p (.agg (qP x.v)),.p (.int .i64 (min x.t la))]) rfl (by simp[go_sem,zf,leA,qP]) ⟨rfl,by rw[hf];rfl⟩
  ·have hc':¬(x.f≤i∧i≤x.t):=by intro e;simp[e]at hc
   rw[if_neg hc']at hf
   simp (disch:=omega) [go_sem]
   refine zN (fun hc2=>?_) (fun hc2=>?_)
   ·have hc3:i<x.f∧x.f≤la:=by simpa using hc2
    rw[if_pos hc3]at hf
    simp (disch:=omega) [go_sem,w1,w2]
    exact zi (k+1,x.f-1) ⟨by show k+1≤l.length;omega,hf⟩ (by simp[go_sem,LeS,leV,leR,leA,leL]) (by show l.length- (k+1)<l.length-k;omega)
   ·have hc3:¬(i<x.f∧x.f≤la):=by intro e;simp[e]at hc2
    rw[if_neg hc3]at hf
    simp (disch:=omega) [go_sem,w2]
    exact zi (k+1,la) ⟨by show k+1≤l.length;omega,hf⟩ (by simp[go_sem,LeS,leV,leR,leA,leL]) (by show l.length- (k+1)<l.length-k;omega)
 ·have hk':k=l.length:=by omega
  subst hk'
  rw[List.drop_length,Zs]at hf
  simp (disch:=omega) [go_sem]
  exact zg (.tup [.p (.agg (qP zero)),.p (.int .i64 la)]) rfl (by simp[go_sem,zf,leA,qP]) ⟨rfl,by rw[hf];rfl⟩
def JE(p:Piece Flags):PV:=.agg (.int .i64 p.f::.int .i64 p.t::qB p.v)
def xk(l:List (Piece Flags)):PV:=.sl 6 (l.map JE)
theorem YG [Gi](l:List (Piece Flags))(zero:Flags)(i last:Int)(hn:l.length<2^31)(hb:∀p∈l, -1000000000≤p.f∧p.f≤1000000000):
  CR Tryz.prog 159 [] [.p (xk l),.p (.agg (qB zero)),.p (.int .i64 i),.p (.int .i64 last)] [] (is (.tup [.p (.agg (qB (Zs zero i l last).1)),.p (.int .i64 (Zs zero i l last).2)])):=by
 refine zK [100005] mixed 15 [] Tryz.func159 rfl (by kernel_rfl) rfl (by simp) (by simp) ?_
 simp (disch:=omega) [go_sem,Tryz.f159,xk,qB]
 refine qM (fun k:Nat×Int=>k.1≤l.length∧Zs zero i l last=Zs zero i (l.drop k.1) k.2) (fun k=>{n:=52,nv:=15,vs:=[(2,.p (.int .i64 i)),(3,.p (.int .i64 k.2)),(5,.lp [5] 0),(8,.lp [8] 0),(9,.p (.int .i64 0)),(12,.p (xk l)),(13,.p (.int .i64 l.length)),(14,.p (.int .i64 k.1))],ts:=[],rs:=[([5],(qB zero).map .p),([8],[.p (.bool false),.p (.bool false),.p (.bool false),.p (.bool false)])]}) (fun k=>l.length-k.1) (0,last) (by simp) (by simp[go_sem,LeS,leV,leR,leA,leL,xk,qB]) ?_
 rintro⟨k,la⟩ ⟨hk,hf⟩
 simp only at hk hf
 simp (disch:=omega) [go_sem,xk,qB]
 refine zh (fun h=>?_) (fun h=>?_)
 ·have em:=zp JE l k h
  have hd:l.drop k=l[k]::l.drop (k+1):=List.drop_eq_getElem_cons h
  have hx:=hb l[k] (List.getElem_mem h)
  have w2:IntKind.i64.wrap ((k:Int)+1)=(k:Int)+1:=wrap64 (by omega) (by omega)
  rw[hd,Zs]at hf
  generalize l[k]=x at em hx hf
  have w1:IntKind.i64.wrap (x.f-1)=x.f-1:=wrap64 (by omega) (by omega)
  simp (disch:=omega) [go_sem,em,h,JE,qB]
  refine zN (fun hc=>?_) (fun hc=>?_)
  ·have hc':x.f≤i∧i≤x.t:=by simpa using hc
   rw[if_pos hc']at hf
   simp (disch:=omega) [go_sem,List.findSome?]
   exact zg (.tup [.p (.agg (qB x.v)),.p (.int .i64 (min x.t la))]) rfl (by simp[go_sem,zf,leA,qB]) ⟨rfl,by rw[hf];rfl⟩
  ·have hc':¬(x.f≤i∧i≤x.t):=by intro e;simp[e]at hc
   rw[if_neg hc']at hf
   simp (disch:=omega) [go_sem]
   refine zN (fun hc2=>?_) (fun hc2=>?_)
   ·have hc3:i<x.f∧x.f≤la:=by simpa using hc2
    rw[if_pos hc3]at hf
    simp (disch:=omega) [go_sem,w1,w2]
    exact zi (k+1,x.f-1) ⟨by show k+1≤l.length;omega,hf⟩ (by simp[go_sem,LeS,leV,leR,leA,leL]) (by show l.length- (k+1)<l.length-k;omega)
   ·have hc3:¬(i<x.f∧x.f≤la):=by intro e;simp[e]at hc2
    rw[if_neg hc3]at hf
    simp (disch:=omega) [go_sem,w2]
    exact zi (k+1,la) ⟨by show k+1≤l.length;omega,hf⟩ (by simp[go_sem,LeS,leV,leR,leA,leL]) (by show l.length- (k+1)<l.length-k;omega)
 ·have hk':k=l.length:=by omega
  subst hk'
  rw[List.drop_length,Zs]at hf
  simp (disch:=omega) [go_sem]
  exact zg (.tup [.p (.agg (qB zero)),.p (.int .i64 la)]) rfl (by simp[go_sem,zf,leA,qB]) ⟨rfl,by rw[hf];rfl⟩
def Qy(w size:Nat)(idx:List Nat)(blocks:List (List PV)):PV:=.agg [.int .i64 size,.sl 1 (idx.map fun k:Nat=>.int .i64 k),.sl (128*w) (blocks.map .agg)]
def X9(w:Nat)(idx:List Nat)(blocks:List (List PV))(i:Nat)(v:List PV):Prop:=
 ∃k cs,idx[i/128]?=some k∧blocks[k]?=some cs∧cs.length=128*w∧(cs.drop (i%128*w)).take w=v
theorem zlS [Gi](size:Nat)(idx:List Nat)(blocks:List (List PV))(i:Nat)(v:Int)(hs:size<2^31)(hi:i<size)(h:X9 1 idx blocks i [.int .i64 v]):
  CR Tryz.prog 165 [] [.p (.pt 3 (Qy 1 size idx blocks)),.p (.int .i64 i)] [] (is (.p (.int .i64 v))):=by
 obtain⟨k,cs,h1,h2,h3,h4⟩:=h
 refine zK [] mixed 6 [] Tryz.func165 rfl (by kernel_rfl) rfl (by simp) (by simp) ?_
 have e1:¬(size:Int)≤i:=by omega
 have e2:¬(i:Int)<0:=by omega
 obtain⟨n1,h1⟩:=List.getElem?_eq_some_iff.1 h1
 obtain⟨n2,h2⟩:=List.getElem?_eq_some_iff.1 h2
 have m1:=zp (fun k:Nat=>PV.int .i64 k) idx (i/128) n1
 have m2:=zp PV.agg blocks k n2
 rw[h1]at m1
 rw[h2]at m2
 have q1:(i:Int).tdiv 128=((i/128:Nat):Int):=rfl
 have q2:(i:Int).tmod 128=((i%128:Nat):Int):=rfl
 have w1:IntKind.i64.wrap ((i:Int)/128)=((i/128:Nat):Int):=by rw[wrap64 (by omega) (by omega)];omega
 have w2:IntKind.i64.wrap ((i:Int)%128)=((i%128:Nat):Int):=by rw[wrap64 (by omega) (by omega)];omega
 have t1:((i:Int)/128).toNat=i/128:=by omega
 have t2:((i:Int)%128).toNat=i%128:=by omega
 have b0:0≤(i:Int)/128:=by omega
 have b1:(i:Int)/128<idx.length:=by omega
 have b2:0≤(i:Int)%128:=by omega
 have b3:(i:Int)%128<128:=by omega
 have hv:cs[i%128]?=some (.int .i64 v):=by
  simp only[Nat.mul_one]at h4
  rw[←List.head?_drop]
  cases hd:cs.drop (i%128)with
  |nil=>rw[hd]at h4;simp at h4
  |cons a l=>rw[hd]at h4;simp at h4;simp[h4]
 simp only[Nat.mul_one]at h3
 obtain⟨n3,hv'⟩:=List.getElem?_eq_some_iff.1 hv
 simp (disch:=omega) [go_sem,Tryz.f165,Qy,e1,e2,q1,q2,w1,m1,m2,n2,t1,t2,b0,b1,b2,b3,hv',h3]
 exact zg (.p (.int .i64 v)) rfl (by simp[go_sem,zf,leA]) ⟨rfl,rfl⟩
theorem zlR [Gi](size:Nat)(idx:List Nat)(blocks:List (List PV))(i:Nat)(v:jq)(hs:size<2^31)(hi:i<size)(h:X9 2 idx blocks i (qP v)):
  CR Tryz.prog 61 [] [.p (.pt 3 (Qy 2 size idx blocks)),.p (.int .i64 i)] [] (is (.p (.agg (qP v)))):=by
 obtain⟨k,cs,h1,h2,h3,h4⟩:=h
 refine zK [] mixed 6 [] Tryz.func61 rfl (by kernel_rfl) rfl (by simp) (by simp) ?_
 have e1:¬(size:Int)≤i:=by omega
 have e2:¬(i:Int)<0:=by omega
 obtain⟨n1,h1⟩:=List.getElem?_eq_some_iff.1 h1
 obtain⟨n2,h2⟩:=List.getElem?_eq_some_iff.1 h2
 have m1:=zp (fun k:Nat=>PV.int .i64 k) idx (i/128) n1
 have m2:=zp PV.agg blocks k n2
 rw[h1]at m1
 rw[h2]at m2
 have q1:(i:Int).tdiv 128=((i/128:Nat):Int):=rfl
 have q2:(i:Int).tmod 128=((i%128:Nat):Int):=rfl
 have w1:IntKind.i64.wrap ((i:Int)/128)=((i/128:Nat):Int):=by rw[wrap64 (by omega) (by omega)];omega
 have w2:IntKind.i64.wrap ((i:Int)%128)=((i%128:Nat):Int):=by rw[wrap64 (by omega) (by omega)];omega
 have t1:((i:Int)/128).toNat=i/128:=by omega
 have t2:((i:Int)%128).toNat=i%128:=by omega
 have b0:0≤(i:Int)/128:=by omega
 have b1:(i:Int)/128<idx.length:=by omega
 have b2:0≤(i:Int)%128:=by omega
 have b3:(i:Int)%128<128:=by omega
 have hl:i%128*2+2≤cs.length:=by omega
 simp only[qP]at h4
 simp (disch:=omega) [go_sem,Tryz.f61,Qy,e1,e2,q1,q2,w1,m1,m2,n2,t1,t2,b0,b1,b2,b3,h4,h3,qP]
 exact⟨by omega,zg (.p (.agg (qP v))) rfl (by simp[go_sem,zf,leA,qP]) ⟨rfl,rfl⟩⟩
theorem zmL [Gi](size:Nat)(idx:List Nat)(blocks:List (List PV))(i:Nat)(v:Flags)(hs:size<2^31)(hi:i<size)(h:X9 4 idx blocks i (qB v)):
  CR Tryz.prog 116 [] [.p (.pt 3 (Qy 4 size idx blocks)),.p (.int .i64 i)] [] (is (.p (.agg (qB v)))):=by
 obtain⟨k,cs,h1,h2,h3,h4⟩:=h
 refine zK [] mixed 6 [] Tryz.func116 rfl (by kernel_rfl) rfl (by simp) (by simp) ?_
 have e1:¬(size:Int)≤i:=by omega
 have e2:¬(i:Int)<0:=by omega
 obtain⟨n1,h1⟩:=List.getElem?_eq_some_iff.1 h1
 obtain⟨n2,h2⟩:=List.getElem?_eq_some_iff.1 h2
 have m1:=zp (fun k:Nat=>PV.int .i64 k) idx (i/128) n1
 have m2:=zp PV.agg blocks k n2
 rw[h1]at m1
 rw[h2]at m2
 have q1:(i:Int).tdiv 128=((i/128:Nat):Int):=rfl
 have q2:(i:Int).tmod 128=((i%128:Nat):Int):=rfl
 have w1:IntKind.i64.wrap ((i:Int)/128)=((i/128:Nat):Int):=by rw[wrap64 (by omega) (by omega)];omega
 have w2:IntKind.i64.wrap ((i:Int)%128)=((i%128:Nat):Int):=by rw[wrap64 (by omega) (by omega)];omega
 have t1:((i:Int)/128).toNat=i/128:=by omega
 have t2:((i:Int)%128).toNat=i%128:=by omega
 have b0:0≤(i:Int)/128:=by omega
 have b1:(i:Int)/128<idx.length:=by omega
 have b2:0≤(i:Int)%128:=by omega
 have b3:(i:Int)%128<128:=by omega
 have hl:i%128*4+4≤cs.length:=by omega
 simp only[qB]at h4
 simp (disch:=omega) [go_sem,Tryz.f116,Qy,e1,e2,q1,q2,w1,m1,m2,n2,t1,t2,b0,b1,b2,b3,h4,h3,qB]
 exact⟨by omega,zg (.p (.agg (qB v))) rfl (by simp[go_sem,zf,leA,qB]) ⟨rfl,rfl⟩⟩
def UF:OT:=.now 0 2 (.now 1 2 (.now 2 2 (.now 4 1 (.now 5 1 (.now 6 1 (.now 7 1 (.now 8 1 (.now 9 1 (.now 10 1 (.now 11 0 (.mk [(3,.mk [(12,.mk [(13,.now 14 0 (.now 15 0 (.mk [(16,.mk [])])))])]),(12,.mk [(3,.mk [(13,.now 14 0 (.now 15 0 (.mk [(16,.mk [])])))]),(13,.now 3 0 (.now 14 0 (.now 15 0 (.mk [(16,.mk [])]))))])])))))))))))
def QD(n:Nat):List PV:=(List.range n).map fun k:Nat=>.int .i64 k
theorem WG(n:Nat):QD (n+1)=QD n++[.int .i64 (n:Nat)]:=by simp[QD,List.range_succ]
def zR(w size:Nat)(X:AV)(tk:Tok)(blocks:List (List PV))(k2 x2:List PV):List (Tok×List AV):=
 [([0],[.lp [1] 0,.om [902] (blocks.map .agg) (QD blocks.length),.om [903] k2 x2]),([1],[.p (.int .i64 size),X,.os tk (128*w) (blocks.map .agg)])]
def Zk(own:Bool)(idx:List Nat):AV:=if own then .os [904] 1 (idx.map fun k:Nat=>.int .i64 k)else .p (.sl 1 (idx.map fun k:Nat=>.int .i64 k))
theorem Uh [Gi](own:Bool)(size:Nat)(idx:List Nat)(blocks:List (List PV))(k2 x2:List PV)(cs:List PV)(hc:okC (qD 128 [.i .i64]) cs=true)(hb:∀b∈blocks,okC (qD 128 [.i .i64]) b=true)(hn:blocks.length<2^31):
  CR Tryz.prog 156 [[0],[1]] [.lp [0] 0,.p (.agg cs)] (zR 1 size (Zk own idx) [905] blocks k2 x2)
   (fun x rs=>(∃k:Nat,x=.p (.int .i64 k)∧blocks[k]?=some cs∧rs=zR 1 size (Zk own idx) [905] blocks k2 x2)∨
    (x=.p (.int .i64 blocks.length)∧rs=zR 1 size (Zk own idx) [1,2] (blocks++[cs]) k2 x2)):=by
 have hl:cs.length=128:=by simpa[qA]using Zr hc
 have ht:=Qk hl
 have hall:(blocks.map PV.agg).all (fun k=>okC (qD 128 [.i .i64]) k.cells)=true:=by simpa[PV.cells]using hb
 cases own<;>
 ·refine zK [1,200005] mixed 8 [] Tryz.func156 rfl (by kernel_rfl) rfl (by simp) (by simp) ?_
  cases hf:Zd cs (blocks.map PV.agg) (QD blocks.length) 0 with
  |none=>
   simp (disch:=omega) [go_sem,Tryz.f156,zR,Zk,ZF,mapOf,jX,ht,hl,hc,hf]
   refine⟨hb,QL UF (by kernel_rfl) ?_⟩
   simp (disch:=omega) [go_sem,UF,ht,hl]
   have e0:(qD 128 [PV.int IntKind.i64 0]).length=128:=by simp[qA]
   have e1:∀x∈qD 128 [PV.int IntKind.i64 0],(match x with|PV.agg cs=>false|PV.opq u=>u.oneCell'|x=>true)=true:=fun x hx=>by
    obtain⟨l,hl,hx⟩:=List.mem_flatten.1 hx
    rw[List.eq_of_mem_replicate hl]at hx
    rw[List.mem_singleton.1 hx]
   have u1:kU (PV.agg cs) (List.map PV.agg blocks) (QD blocks.length)=List.map PV.agg blocks++[PV.agg cs]:=by simp[kU,PV.cells,hf]
   have u2:kQ (PV.agg cs) (PV.int IntKind.i64 ↑blocks.length) (List.map PV.agg blocks) (QD blocks.length)=QD (blocks.length+1):=by rw[WG];simp only[kQ,PV.cells,hf]
   refine⟨⟨e0,e1⟩,⟨e0,by omega⟩,?_⟩
   exact zA [[0],[1]] (.p (.int .i64 blocks.length)) ⟨rfl,by simp⟩ (by simp[go_sem,zf,leA,leT]) (.inr ⟨rfl,by simp[go_sem,u1,u2]⟩)
  |some r=>
   obtain⟨j,x⟩:=r
   obtain⟨_,k,h3,h4,h5⟩:=ZS hc hall hf
   simp only[Nat.sub_zero]at h3 h5
   simp only[List.getElem?_map,Option.map_eq_some_iff]at h3
   obtain⟨b,h3,rfl⟩:=h3
   simp only[PV.cells]at h4
   subst h4
   have hx:x=.int .i64 (j:Nat):=by
    simp only[QD,List.getElem?_map,Option.map_eq_some_iff]at h5
    obtain⟨q,hq,rfl⟩:=h5
    rw[List.getElem?_range (List.getElem?_eq_some_iff.1 h3).1]at hq
    injection hq with hq;rw[hq]
   subst hx
   simp (disch:=omega) [go_sem,Tryz.f156,zR,Zk,ZF,mapOf,jX,ht,hl,hc,hf]
   refine⟨hb,?_⟩
   exact zA [[0],[1]] (.p (.int .i64 j)) ⟨rfl,by simp⟩ (by simp[go_sem,zf,leA,leT]) (.inl ⟨j,rfl,h3,by simp[go_sem]⟩)
abbrev Yk(w size:Nat)(X:AV)(blocks:List (List PV))(k2 x2:List PV):List (Tok×List AV):=zR w size X [905] blocks k2 x2
def zo3(w size:Nat)(X:AV)(blocks:List (List PV))(k2 x2 cs:List PV)(x:AV)(rs:List (Tok×List AV)):Prop:=
 ∃(k:Nat) (bl:List (List PV)),x=.p (.int .i64 k)∧bl[k]?=some cs∧(bl=blocks∨bl=blocks++[cs])∧rs=Yk w size X bl k2 x2
theorem wK {P:Program} {f:FuncId}[Gi] {args:List AV} {rs:List (Tok×List AV)} {w size:Nat} {own:Bool} {idx:List Nat} {blocks:List (List PV)} {k2 x2 cs:List PV}
  (h:CR P f [[0],[1]] args rs fun x rs=>(∃k:Nat,x=.p (.int .i64 k)∧blocks[k]?=some cs∧rs=zR w size (Zk own idx) [905] blocks k2 x2)∨
    (x=.p (.int .i64 blocks.length)∧rs=zR w size (Zk own idx) [1,2] (blocks++[cs]) k2 x2)):
  CR P f [[0],[1]] args rs (zo3 w size (Zk own idx) blocks k2 x2 cs):=by
 refine CR.ren h 1000 ?_
 rintro x rs (⟨k,rfl,h1,rfl⟩|⟨rfl,rfl⟩)
 ·refine⟨[([0],[0]),([1],[1]),([902],[902]),([903],[903]),([904],[904]),([905],[905])],rfl,rfl,k,blocks,rfl,h1,.inl rfl,?_⟩
  cases own<;>simp[go_sem,zR,Zk]
 ·refine⟨[([0],[0]),([1],[1]),([902],[902]),([903],[903]),([904],[904]),([905],[1,2])],rfl,rfl,blocks.length,blocks++[cs],rfl,by simp,.inr rfl,?_⟩
  cases own<;>simp[go_sem,zR,Zk]
def kR(vs:List (List PV))(z:List PV):List PV:=vs.flatten++qD (128-vs.length) z
theorem xU(z:List PV):kR [] z=qD 128 z:=rfl
theorem YN(v z:List PV):kR (List.replicate 128 v) z=qD 128 v:=by simp[kR,qD]
theorem xS {vs:List (List PV)} {z:List PV} {w:Nat}(hv:∀v∈vs,v.length=w)(hz:z.length=w)(hn:vs.length≤128):(kR vs z).length=128*w:=by
 have:vs.flatten.length=vs.length*w:=by
  clear hn
  induction vs with
  |nil=>simp
  |cons v vs ih=>simp[ih (fun x hx=>hv x (by simp[hx])),hv v (by simp),Nat.add_mul];omega
 rw[kR,List.length_append,this,qA,hz,←Nat.add_mul]
 congr 1;omega
theorem zfv {α:Type}(a b b' c:List α) {o:Nat}(ho:a.length=o)(h:b'.length=b.length):zW (a++b++c) o b'=a++b'++c:=by
 subst ho
 unfold zW
 have e1:(a++b++c).take a.length=a:=by rw[List.append_assoc,List.take_left]
 have e2:(a++b++c).drop (a.length+b.length)=c:=by rw[←List.length_append,List.drop_left]
 rw[h,e1,e2]
theorem wb {vs:List (List PV)} {z v:List PV} {w:Nat}(hv:∀v∈vs,v.length=w)(hw:v.length=w)(hz:z.length=w)(hn:vs.length<128):
  zW ((kR vs z).map AV.p) (vs.length*w) (v.map .p)=(kR (vs++[v]) z).map .p:=by
 have hf:vs.flatten.length=vs.length*w:=by
  clear hn
  induction vs with
  |nil=>simp
  |cons v vs ih=>simp[ih (fun x hx=>hv x (by simp[hx])),hv v (by simp),Nat.add_mul];omega
 obtain⟨m,hm⟩:∃m,128-vs.length=m+1:=⟨128-vs.length-1,by omega⟩
 have hm':128- (vs++[v]).length=m:=by simp;omega
 simp only[kR,hm,hm']
 have e:qD (m+1) z=z++qD m z:=by simp[qD,List.replicate_succ]
 rw[e]
 have e2:(vs++[v]).flatten=vs.flatten++v:=by simp
 rw[e2]
 generalize vs.flatten=L at hf⊢
 rw[←List.append_assoc,List.map_append,List.map_append,zfv _ _ _ _ (by simpa using hf) (by simp[hw,hz]),List.map_append,List.map_append]
def jR(ag:Bool)(kc:List Kc)(blocks:List (List PV))(k2 x2:List PV):Prop:=
 k2.length=x2.length∧(∀k∈k2,Z5 ag kc k=true)∧∀(j:Nat) (k:PV),k2[j]?=some k→∃n:Nat,x2[j]?=some (.int .i64 n)∧blocks[n]?=some (qD 128 k.cells)
def ze6(ag:Bool)(kc:List Kc)(w size:Nat)(X:AV)(blocks:List (List PV))(v:PV)(x:AV)(rs:List (Tok×List AV)):Prop:=
 ∃(k:Nat) (bl:List (List PV)) (k2 x2:List PV),x=.p (.int .i64 k)∧bl[k]?=some (qD 128 v.cells)∧(bl=blocks∨bl=blocks++[qD 128 v.cells])∧jR ag kc bl k2 x2∧rs=Yk w size X bl k2 x2
theorem uf:∀{k1 k2:List Kc} {x1 x2:List PV},okC k1 x1=true→okC k2 x2=true→okC (k1++k2) (x1++x2)=true
 | [],k2,[],x2,_,h=>h
 | [],_,_::_,_,h,_=>by simp[okC]at h
 |.b::k1,_,[],_,h,_=>by simp[okC]at h
 |.i _::k1,_,[],_,h,_=>by simp[okC]at h
 |.s::k1,_,[],_,h,_=>by simp[okC]at h
 |.b::k1,k2,x::x1,x2,h,h2=>by
  cases x<;>simp[okC]at h
  simp only[List.cons_append,okC];exact uf h h2
 |.i _::k1,k2,x::x1,x2,h,h2=>by
  cases x<;>simp[okC]at h
  simp only[List.cons_append,okC,Bool.and_eq_true];exact⟨by simpa using h.1,uf h.2 h2⟩
 |.s::k1,k2,x::x1,x2,h,h2=>by
  cases x<;>simp[okC]at h
  simp only[List.cons_append,okC];exact uf h h2
theorem x9 {kc:List Kc} {v:List PV}(n:Nat)(h:okC kc v=true):okC (qD n kc) (qD n v)=true:=by
 induction n with
 |zero=>rfl
 |succ n ih=>
  have e1:qD (n+1) kc=kc++qD n kc:=by simp[qD,List.replicate_succ]
  have e2:qD (n+1) v=v++qD n v:=by simp[qD,List.replicate_succ]
  rw[e1,e2];exact uf h ih
theorem jR.grow {ag:Bool} {kc:List Kc} {blocks bl:List (List PV)} {k2 x2:List PV} {c:List PV}(h:jR ag kc blocks k2 x2)(hbl:bl=blocks∨bl=blocks++[c]):jR ag kc bl k2 x2:=by
 refine⟨h.1,h.2.1,fun j k hj=>?_⟩
 obtain⟨n,h1,h2⟩:=h.2.2 j k hj
 refine⟨n,h1,?_⟩
 rcases hbl with rfl|rfl
 ·exact h2
 ·rw[List.getElem?_append_left (List.getElem?_eq_some_iff.1 h2).1];exact h2
theorem jR.add {ag:Bool} {kc:List Kc} {bl:List (List PV)} {k2 x2:List PV} {v:PV} {n:Nat}(h:jR ag kc bl k2 x2)(hv:Z5 ag kc v=true)(hf:Zd v.cells k2 x2 0=none)(hn:bl[n]?=some (qD 128 v.cells)):
  jR ag kc bl (kU v k2 x2) (kQ v (.int .i64 n) k2 x2):=by
 have e1:kU v k2 x2=k2++[v]:=by simp only[kU,hf];rfl
 have e2:kQ v (.int .i64 n) k2 x2=x2++[.int .i64 n]:=by simp only[kQ,hf]
 rw[e1,e2]
 refine⟨by simp[h.1],fun k hk=>?_,fun j k hj=>?_⟩
 ·rcases List.mem_append.1 hk with hk|hk
  ·exact h.2.1 k hk
  ·rw[List.mem_singleton.1 hk];exact hv
 ·by_cases hlt:j<k2.length
  ·rw[List.getElem?_append_left hlt]at hj
   obtain⟨q,h1,h2⟩:=h.2.2 j k hj
   exact⟨q,by rw[List.getElem?_append_left (by rw[←h.1];exact hlt)];exact h1,h2⟩
  ·rw[List.getElem?_append_right (by omega)]at hj
   have hj0:j-k2.length=0:=by
    have:=(List.getElem?_eq_some_iff.1 hj).1
    simp at this;omega
   rw[hj0]at hj
   simp at hj
   subst hj
   refine⟨n,?_,hn⟩
   rw[List.getElem?_append_right (by rw[←h.1];omega),←h.1,hj0]
   rfl
theorem zh2 [Gi](own:Bool)(size:Nat)(idx:List Nat)(blocks:List (List PV))(k2 x2:List PV)(v:Int)(hb:∀b∈blocks,okC (qD 128 [.i .i64]) b=true)(hn:blocks.length<2^31)
  (hE:jR false [.i .i64] blocks k2 x2):
  CR Tryz.prog 155 [[0],[1]] [.lp [0] 0,.p (.int .i64 v)] (Yk 1 size (Zk own idx) blocks k2 x2) (ze6 false [.i .i64] 1 size (Zk own idx) blocks (.int .i64 v)):=by
 obtain⟨hE1,hE2,hE3⟩:=hE
 have hall:k2.all (fun k=>okC [.i .i64] k.cells)=true:=List.all_eq_true.2 fun k hk=>(zU (hE2 k hk)).2
 have ho2:own=true∨own=false:=by cases own<;>simp
 rcases ho2 with ho|ho<;>
 ·refine zK [1] mixed 10 [20] Tryz.func155 rfl (by kernel_rfl) rfl (by simp) (by simp) ?_
  cases hf:Zd [.int .i64 v] k2 x2 0 with
  |none=>
   simp (disch:=omega) [go_sem,Tryz.f155,zR,Zk,ho,ZF,mapOf,jX,hf]
   refine⟨fun x hx=>by have:=zU (hE2 x hx);exact this,?_,?_⟩
   ·intro x hx
    obtain⟨l,hl,hx⟩:=List.mem_flatten.1 hx
    rw[List.eq_of_mem_replicate hl]at hx
    simp only[List.mem_cons,List.not_mem_nil,or_false]at hx
    rcases hx with rfl<;>rfl
   refine zH (fun k:Nat=>k≤128) (fun k=>[(20,.p (.int .i64 k))]) (fun k=>[([7],(kR (List.replicate k [.int .i64 v]) [.int .i64 0]).map .p)]) (fun k=>128-k) 0 (by omega) (by simp[go_sem,LeS,leV,leR,leA,leL,xU,zj]) (fun k hk=>?_)
   simp (disch:=omega) [go_sem]
   refine zh (fun h=>?_) (fun h=>?_)
   ·have w1:IntKind.i64.wrap ((k:Int)+1)=((k+1:Nat):Int):=by rw[wrap64 (by omega) (by omega)];rfl
    have hlen:(kR (List.replicate k [PV.int .i64 v]) [PV.int .i64 0]).length=128:=xS (w:=1) (by simp) rfl (by simp;omega)
    have hput:=wb (vs:=List.replicate k [PV.int .i64 v]) (z:=[.int .i64 0]) (v:=[.int .i64 v]) (w:=1) (by simp) rfl rfl (by simp;omega)
    simp only[List.length_replicate,Nat.mul_one,←List.replicate_succ',List.map_cons,List.map_nil,zW,List.length_cons,List.length_nil,Nat.zero_add,List.append_assoc,List.cons_append,List.nil_append]at hput
    simp (disch:=omega) [go_sem,w1,hlen,h,hput]
    exact⟨by omega,zi (k+1) (by omega) (by simp[go_sem,LeS,leV,leR,leA,leL,zj]) (by omega)⟩
   ·obtain rfl:k=128:=by omega
    have hr:(qD 128 [PV.int .i64 v]).length=128:=by simp[qA]
    have ht:=Qk hr
    simp only[YN]
    simp (disch:=omega) [go_sem,ht,hr]
    refine⟨⟨rfl,by simp[Tryz.f156]⟩,zd [([0],[0]),([1],[1]),([902],[902]),([903],[903]),([904],[904]),([905],[905])] (wK (Uh own size idx blocks k2 x2 (qD 128 [.int .i64 v]) (x9 128 rfl) hb hn)) (by simp[go_sem]) ⟨by simp[go_sem],by simp[go_sem]⟩ (by simp[go_sem,zR,Zk,ho]) ?_⟩
    rintro _ _ ⟨kk,bl,rfl,hk1,hbl,rfl⟩
    simp (maxSteps:=1000000) (disch:=omega) [go_sem,zR,Zk,ho]
    refine⟨fun x hx=>by have:=zU (hE2 x hx);exact this,?_⟩
    exact zA [[0],[1]] (.p (.int .i64 kk)) ⟨rfl,by simp⟩ (by simp[go_sem,zf,leA,leT]) ⟨kk,bl,_,_,rfl,hk1,hbl,(jR.grow ⟨hE1,hE2,hE3⟩ hbl).add (v:=.int .i64 v) rfl hf hk1,by simp[go_sem,zR]⟩
  |some r=>
   obtain⟨j,x⟩:=r
   obtain⟨_,k,h3,h4,h5⟩:=ZS (kc:=[.i .i64]) rfl hall hf
   simp only[Nat.sub_zero]at h3 h5
   obtain⟨n,h6,h7⟩:=hE3 j k h3
   rw[h5]at h6
   injection h6 with h6
   subst h6
   rw[h4]at h7
   simp (disch:=omega) [go_sem,Tryz.f155,zR,Zk,ho,ZF,mapOf,jX,hf]
   refine⟨fun x hx=>by have:=zU (hE2 x hx);exact this,?_⟩
   exact zA [[0],[1]] (.p (.int .i64 n)) ⟨rfl,by simp⟩ (by simp[go_sem,zf,leA,leT]) ⟨n,blocks,k2,x2,rfl,h7,.inl rfl,⟨hE1,hE2,hE3⟩,by simp[go_sem,zR]⟩
def qY {α:Type}(zero:α)(j:Int):List (Piece α)→α
 | []=>zero
 |p::l=>if p.f≤j∧j≤p.t then p.v else qY zero j l
theorem Zy {α:Type}(zero:α)(i:Int):∀(l:List (Piece α)) (last:Int),i≤last→i≤(Zs zero i l last).2∧(Zs zero i l last).2≤last∧∀j,i≤j→j≤(Zs zero i l last).2→qY zero j l=(Zs zero i l last).1
 | [],last,h=>⟨h,Int.le_refl _,fun j _ _=>rfl⟩
 |p::l,last,h=>by
  unfold Zs
  by_cases h1:p.f≤i∧i≤p.t
  ·rw[if_pos h1]
   refine⟨by simp only;omega,by simp only;omega,fun j h2 h3=>?_⟩
   simp only at h3⊢
   exact if_pos ⟨by omega,by omega⟩
  ·rw[if_neg h1]
   by_cases h2:i<p.f∧p.f≤last
   ·rw[if_pos h2]
    obtain⟨a,b,c⟩:=Zy zero i l (p.f-1) (by omega)
    refine⟨a,by omega,fun j h3 h4=>?_⟩
    rw[←c j h3 h4]
    exact if_neg (by omega)
   ·rw[if_neg h2]
    obtain⟨a,b,c⟩:=Zy zero i l last h
    refine⟨a,b,fun j h3 h4=>?_⟩
    rw[←c j h3 h4]
    exact if_neg (by omega)
structure kN(w size:Nat)(val:Nat→List PV)(idx:List Nat)(blocks:List (List PV)):Prop where
 each:∀n k,idx[n]?=some k→∃cs,blocks[k]?=some cs∧cs.length=128*w∧∀j,j<128→128*n+j<size→(cs.drop (j*w)).take w=val (128*n+j)
theorem kN.nil(w size:Nat)(val:Nat→List PV):kN w size val [] []:=⟨fun n k h=>by simp at h⟩
theorem kN.grow {w size:Nat} {val:Nat→List PV} {idx:List Nat} {blocks bl:List (List PV)} {c:List PV}(h:kN w size val idx blocks)(hb:bl=blocks∨bl=blocks++[c]):kN w size val idx bl:=by
 refine⟨fun n k hk=>?_⟩
 obtain⟨cs,h1,h2⟩:=h.each n k hk
 refine⟨cs,?_,h2⟩
 rcases hb with rfl|rfl
 ·exact h1
 ·rw[List.getElem?_append_left (List.getElem?_eq_some_iff.1 h1).1];exact h1
theorem kN.add {w size:Nat} {val:Nat→List PV} {idx:List Nat} {blocks:List (List PV)} {k:Nat} {cs:List PV}(h:kN w size val idx blocks)(h1:blocks[k]?=some cs)(h2:cs.length=128*w)
  (h3:∀j,j<128→128*idx.length+j<size→(cs.drop (j*w)).take w=val (128*idx.length+j)):kN w size val (idx++[k]) blocks:=by
 refine⟨fun n q hq=>?_⟩
 by_cases hn:n<idx.length
 ·rw[List.getElem?_append_left hn]at hq
  exact h.each n q hq
 ·rw[List.getElem?_append_right (by omega)]at hq
  have hn0:n-idx.length=0:=by
   have:=(List.getElem?_eq_some_iff.1 hq).1
   simp at this;omega
  have hn1:n=idx.length:=by omega
  subst hn1
  simp at hq
  subst hq
  exact⟨cs,h1,h2,h3⟩
theorem kN.qX {w size:Nat} {val:Nat→List PV} {idx:List Nat} {blocks:List (List PV)}(h:kN w size val idx blocks)(hn:size≤128*idx.length) {i:Nat}(hi:i<size):X9 w idx blocks i (val i):=by
 have hlt:i/128<idx.length:=by omega
 obtain⟨cs,h1,h2,h3⟩:=h.each (i/128) _ (List.getElem?_eq_getElem hlt)
 refine⟨_,cs,List.getElem?_eq_getElem hlt,h1,h2,?_⟩
 have:=h3 (i%128) (Nat.mod_lt _ (by omega)) (by omega)
 rw[this]
 congr 1;omega
theorem jO {w:Nat}:∀{vs:List (List PV)} {j:Nat} {v t:List PV},(∀x∈vs,x.length=w)→vs[j]?=some v→((vs.flatten++t).drop (j*w)).take w=v
 | [],j,v,t,_,h=>by simp at h
 |x::vs,0,v,t,hw,h=>by
  simp at h;subst h
  simp only[Nat.zero_mul,List.drop_zero,List.flatten_cons,List.append_assoc]
  rw[←hw x (by simp),List.take_left]
 |x::vs,j+1,v,t,hw,h=>by
  have hx:=hw x (by simp)
  rw[List.flatten_cons,List.append_assoc,Nat.add_mul,Nat.one_mul,Nat.add_comm,←List.drop_drop,←hx,List.drop_left,hx]
  exact jO (fun y hy=>hw y (by simp[hy])) (by simpa using h)
theorem V6 {w n j:Nat} {v:List PV}(hv:v.length=w)(hj:j<n):((qD n v).drop (j*w)).take w=v:=by
 have:=jO (w:=w) (vs:=List.replicate n v) (j:=j) (v:=v) (t:=[]) (by simp[hv]) (by simp[hj])
 simpa[qD]using this
theorem KP {kc:List Kc}:∀{n:Nat} {vs:List (List PV)},(∀x∈vs,okC kc x=true)→vs.length=n→okC (qD n kc) vs.flatten=true
 |0,[],_,_=>rfl
 |0,_::_,_,h=>by simp at h
 |n+1,[],_,h=>by simp at h
 |n+1,x::vs,hx,h=>by
  have e1:qD (n+1) kc=kc++qD n kc:=by simp[qD,List.replicate_succ]
  rw[e1,List.flatten_cons]
  exact uf (hx x (by simp)) (KP (fun y hy=>hx y (by simp[hy])) (by simpa using h))
end
end Go.Proofs.YtfjdbbpimklecaaGreatDoor
