/- A part of the proof of this seat's statements, by an abstract machine: what each operation does to values, and what the law's functions compute. Conditions: as each law says. -/
import Derived.Test.YthbmelihnabkaaaGreatW18
import Derived.Test.YthbmelihnabkaaaGreatW17
section
namespace Go.Proofs.YthbmelihnabkaaaGreat
open Go.AM
set_option maxHeartbeats 4000000
set_option maxRecDepth 10000
theorem ziA [Gi](l:List Span)(hU:Up l)(h12:12<l.length)(hn:l.length<2^31):CR Tryz.prog 177 [] [.p (zM l),.p (.int .i64 0),.p (.int .i64 l.length),.p byV] []
  (fun x rs=>(∃p:Int,x=.tup [.p (.int .i64 p),.p (.int .i64 1)])∧rs=[]):=by
 obtain⟨q,hq⟩:∃q,q=l.length/4:=⟨_,rfl⟩
 obtain⟨r2,hr2⟩:∃r,r=q*2:=⟨_,rfl⟩
 obtain⟨r3,hr3⟩:∃r,r=q*3:=⟨_,rfl⟩
 have hq3:3≤q:=by omega
 have d1:(l.length:Int).tdiv 4=(q:Int):=by rw[hq];rfl
 have w0:IntKind.i64.wrap (l.length:Int)=l.length:=wrap64 (by omega) (by omega)
 have w1:IntKind.i64.wrap (q:Int)=q:=wrap64 (by omega) (by omega)
 have w2:IntKind.i64.wrap ((q:Int)*2)=(r2:Int):=by rw[wrap64 (by omega) (by omega)];omega
 have w3:IntKind.i64.wrap ((q:Int)*3)=(r3:Int):=by rw[wrap64 (by omega) (by omega)];omega
 have w5:IntKind.i64.wrap (r2:Int)=(r2:Int):=wrap64 (by omega) (by omega)
 have w6:IntKind.i64.wrap (r3:Int)=(r3:Int):=wrap64 (by omega) (by omega)
 have e8:(8:Int)≤(l.length:Int):=by omega
 refine zn mixed 15 [55] Tryz.func177 rfl (by kernel_rfl) rfl (by simp) (by simp) ?_
 simp (maxSteps:=1000000) [go_sem,Tryz.f177,d1,w0,w1,w2,w3,w5,w6,e8]
 refine Zt (fun _:Unit=>True) (fun _=>[(12,.p (.int .i64 q)),(13,.p (.int .i64 r2)),(14,.p (.int .i64 r3))]) (fun _=>[]) (zw (fun h=>?_) (fun h=>?_)) ?_
 ·simp (maxSteps:=1000000) [go_sem]
  refine⟨⟨rfl,by simp[Tryz.f205]⟩,zc [([0],[11])] (wy l q 0 hU (by omega) (by omega) hn) (by simp[go_sem,zE]) ⟨by simp[go_sem],by simp[go_sem]⟩ (by simp[go_sem]) ?_⟩
  rintro _ rs ⟨rfl,rfl⟩
  simp (maxSteps:=1000000) [go_sem]
  refine⟨⟨rfl,by simp[Tryz.f205]⟩,zc [([0],[11])] (wy l r2 0 hU (by omega) (by omega) hn) (by simp[go_sem,zE]) ⟨by simp[go_sem],by simp[go_sem]⟩ (by simp[go_sem]) ?_⟩
  rintro _ rs ⟨rfl,rfl⟩
  simp (maxSteps:=1000000) [go_sem]
  refine⟨⟨rfl,by simp[Tryz.f205]⟩,zc [([0],[11])] (wy l r3 0 hU (by omega) (by omega) hn) (by simp[go_sem,zE]) ⟨by simp[go_sem],by simp[go_sem]⟩ (by simp[go_sem]) ?_⟩
  rintro _ rs ⟨rfl,rfl⟩
  simp (maxSteps:=1000000) [go_sem]
  exact zW () trivial (by simp[go_sem])
 ·simp (maxSteps:=1000000) [go_sem]
  exact zW () trivial (by simp[go_sem])
 ·rintro _ ts _
  simp (maxSteps:=1000000) [go_sem]
  refine⟨⟨rfl,by simp[Tryz.f206]⟩,zc [([0],[11])] (zar l q r2 r3 0 hU (by omega) (by omega) (by omega)) (by simp[go_sem,zE]) ⟨by simp[go_sem],by simp[go_sem]⟩ (by simp[go_sem]) ?_⟩
  rintro _ rs ⟨rfl,rfl⟩
  simp (maxSteps:=1000000) [go_sem]
  exact zi [] (.tup [.p (.int .i64 r2),.p (.int .i64 1)]) ⟨rfl,by simp⟩ (by simp[go_sem,zd,leA,leT,leP]) ⟨⟨_,rfl⟩,by simp[go_sem]⟩
theorem zbX [Gi](l:List Span)(hU:Up l)(hn:l.length<2^31):CR Tryz.prog 174 [] [.p (zM l),.p (.int .i64 0),.p (.int .i64 l.length),.p byV] [] (is (.tup [])):=by
 refine zS [200006] mixed 10 [] Tryz.func174 rfl (by kernel_rfl) rfl (by simp) (by simp) ?_
 simp (maxSteps:=1000000) [go_sem,Tryz.f174]
 refine zm (fun m:Nat=>m+1≤l.length∨m=0) (fun m=>[(8,.p (.int .i64 ((m:Int)+1)))]) (fun _=>[]) (fun m=>l.length-m) 0 (.inr rfl) (by simp[go_sem,LeS,leV,leR,leA,wrap64]) (fun m hm=>?_)
 simp (maxSteps:=1000000) [go_sem]
 refine zw (fun h=>?_) (fun h=>?_)
 ·simp (maxSteps:=1000000) [go_sem]
  have w1:IntKind.i64.wrap ((m:Int)+1+1)=(m:Int)+1+1:=wrap64 (by omega) (by omega)
  have w2:IntKind.i64.wrap (m:Int)=m:=wrap64 (by omega) (by omega)
  have hkl:m+1<l.length:=by omega
  have m1:=zt z8 l (m+1) hkl
  have m2:=zt z8 l m (by omega)
  have hc:=hU.cmp (i:=m) (j:=m+1) (by omega) (by omega) hkl
  have e0:(0:Int)< (m:Int)+1:=by omega
  have e1:(0:Int)≤(m:Int)+1:=by omega
  have e2:(m:Int)+1<l.length:=by omega
  have e3:m<l.length:=by omega
  have e4:((m:Int)+1).toNat=m+1:=by omega
  refine zm (fun _:Unit=>True) (fun _=>[(9,.p (.int .i64 ((m:Int)+1)))]) (fun _=>[]) (fun _=>0) () trivial (by simp[go_sem,LeS,leV,leR,leA]) (fun _ _=>?_)
  simp (maxSteps:=1000000) [go_sem,byV,zM,w2,m1,m2,e0,e1,e2,e3,e4,z8]
  refine⟨⟨rfl,by simp[Tryz.f95]⟩,zc [] (VQ l[m+1] (l[m]'e3)) (by simp[go_sem]) ⟨by simp[go_sem],by simp[go_sem,z8]⟩ (by simp[go_sem]) ?_⟩
  rintro _ rs ⟨rfl,rfl⟩
  simp (maxSteps:=1000000) [go_sem,hc,w1]
  exact zf (m+1) (.inl (by omega)) (by simp[go_sem,LeS,leV,leR,leA]) (by omega)
 ·simp (maxSteps:=1000000) [go_sem]
  exact zg (.tup []) rfl (by simp[go_sem,zd,leT,leP]) ⟨rfl,rfl⟩
theorem zff [Gi](l:List Span)(hU:Up l)(h0:0<l.length)(hn:l.length<2^31):CR Tryz.prog 179 [] [.p (zM l),.p (.int .i64 0),.p (.int .i64 l.length),.p byV] [] (is (.p (.bool true))):=by
 refine zS [200011,200017,200023] mixed 13 [] Tryz.func179 rfl (by kernel_rfl) rfl (by simp) (by simp) ?_
 simp (maxSteps:=1000000) [go_sem,Tryz.f179]
 refine zm (fun _:Unit=>True) (fun _=>[]) (fun _=>[]) (fun _=>0) () trivial (by simp[go_sem,LeS,leV,leR,leA]) (fun _ _=>?_)
 simp (maxSteps:=1000000) [go_sem,wrap64]
 refine zm (fun m:Nat=>m+1≤l.length) (fun m=>[(9,.p (.int .i64 ((m:Int)+1)))]) (fun _=>[]) (fun m=>l.length-m) 0 (by omega) (by simp[go_sem,LeS,leV,leR,leA]) (fun m hm=>?_)
 have w1:IntKind.i64.wrap ((m:Int)+1+1)=(m:Int)+1+1:=wrap64 (by omega) (by omega)
 have w2:IntKind.i64.wrap (m:Int)=m:=wrap64 (by omega) (by omega)
 by_cases hkl:m+1<l.length
 ·have m1:=zt z8 l (m+1) hkl
  have m2:=zt z8 l m (by omega)
  have hc:=hU.cmp (i:=m) (j:=m+1) (by omega) (by omega) hkl
  have e1:(0:Int)≤(m:Int)+1:=by omega
  have e2:(m:Int)+1<l.length:=by omega
  have e3:m<l.length:=by omega
  have e4:((m:Int)+1).toNat=m+1:=by omega
  simp (maxSteps:=1000000) [go_sem,byV,zM,w2,m1,m2,e1,e2,e3,e4,z8]
  refine⟨⟨rfl,by simp[Tryz.f95]⟩,zc [] (VQ l[m+1] (l[m]'e3)) (by simp[go_sem]) ⟨by simp[go_sem],by simp[go_sem,z8]⟩ (by simp[go_sem]) ?_⟩
  rintro _ rs ⟨rfl,rfl⟩
  simp (maxSteps:=1000000) [go_sem,hc,w1]
  exact zf (m+1) (by omega) (by simp[go_sem,LeS,leV,leR,leA]) (by omega)
 ·have e2:¬(m:Int)+1<l.length:=by omega
  have e3:(m:Int)+1=l.length:=by omega
  simp (maxSteps:=1000000) [go_sem,e3]
  exact zg (.p (.bool true)) rfl (by simp[go_sem,zd,leA,leT]) ⟨rfl,rfl⟩
end Go.Proofs.YthbmelihnabkaaaGreat
end
section
namespace Go.Proofs.YthbmelihnabkaaaGreat
open Go.AM
set_option maxHeartbeats 4000000
set_option maxRecDepth 10000
def WK:List UInt8:=[0,1,2,2,3,3,3,3,4,4,4,4,4,4,4,4,5,5,5,5,5,5,5,5,5,5,5,5,5,5,5,5,6,6,6,6,6,6,6,6,6,6,6,6,6,6,6,6,6,6,6,6,6,6,6,6,6,6,6,6,6,6,6,6,7,7,7,7,7,7,7,7,7,7,7,7,7,7,7,7,7,7,7,7,7,7,7,7,7,7,7,7,7,7,7,7,7,7,7,7,7,7,7,7,7,7,7,7,7,7,7,7,7,7,7,7,7,7,7,7,7,7,7,7,7,7,7,7,8,8,8,8,8,8,8,8,8,8,8,8,8,8,8,8,8,8,8,8,8,8,8,8,8,8,8,8,8,8,8,8,8,8,8,8,8,8,8,8,8,8,8,8,8,8,8,8,8,8,8,8,8,8,8,8,8,8,8,8,8,8,8,8,8,8,8,8,8,8,8,8,8,8,8,8,8,8,8,8,8,8,8,8,8,8,8,8,8,8,8,8,8,8,8,8,8,8,8,8,8,8,8,8,8,8,8,8,8,8,8,8,8,8,8,8,8,8,8,8,8,8,8,8,8,8,8,8]
theorem zif:((List.range 256).all fun n=>n==0 || (decide (1≤(WK.getD n 0).toNat)&&decide ((WK.getD n 0).toNat≤8)))=true:=by decide
theorem zhA {n:Nat}(h1:1≤n)(h2:n<256):1≤U6 WK n∧U6 WK n≤8:=by
 have:=List.all_eq_true.1 zif n (List.mem_range.2 h2)
 have hn:(n==0)=false:=by simp;omega
 rw[hn]at this
 simp only[Bool.false_or,Bool.and_eq_true,decide_eq_true_eq]at this
 unfold U6
 omega
theorem zjE [Gi](n:Nat)(h1:1≤n)(h2:n<256):CR Tryz.prog 183 [] [.p (.int .u64 n)] [] (fun x rs=>(∃k:Int,k≠0∧x=.p (.int .i64 k))∧rs=[]):=by
 refine zn mixed 3 [] Tryz.func183 rfl (by kernel_rfl) rfl (by simp) (by simp) ?_
 have e1:¬(4294967296:Int)≤n:=by omega
 have e2:¬(65536:Int)≤n:=by omega
 have e3:¬(256:Int)≤n:=by omega
 have w:IntKind.u8.wrap (n:Int)=n:=by simp[IntKind.wrap,IntKind.signed,IntKind.bits];omega
 simp (maxSteps:=1000000) [go_sem,Tryz.f183,e1,e2,e3,w]
 have ht:=zhA h1 h2
 refine⟨by omega,zi [] (.p (.int .i64 (IntKind.i64.wrap (IntKind.i64.wrap (U6 WK n))))) ⟨rfl,by simp⟩ (by simp[go_sem,zd,leA,leT,WK]) ⟨⟨_,?_,rfl⟩,by simp[go_sem]⟩⟩
 rw[wrap64 (x:=U6 WK n) (by omega) (by omega),wrap64 (by omega) (by omega)]
 omega
theorem znl [Gi](n:Nat)(h1:1≤n)(h2:n<256):CR Tryz.prog 151 [] [.p (.int .u64 n)] [] (fun x rs=>(∃k:Int,k≠0∧x=.p (.int .i64 k))∧rs=[]):=by
 refine zn mixed 3 [] Tryz.func151 rfl (by kernel_rfl) rfl (by simp) (by simp) ?_
 simp (maxSteps:=1000000) [go_sem,Tryz.f151]
 refine⟨⟨rfl,by simp[Tryz.f183]⟩,zc [] (zjE n h1 h2) (by simp[go_sem]) ⟨by simp[go_sem],by simp[go_sem]⟩ (by simp[go_sem]) ?_⟩
 rintro _ rs ⟨⟨k,hk,rfl⟩,rfl⟩
 simp (maxSteps:=1000000) [go_sem]
 exact zi [] (.p (.int .i64 k)) ⟨rfl,by simp⟩ (by simp[go_sem,zd,leA,leT]) ⟨⟨_,hk,rfl⟩,by simp[go_sem]⟩
theorem zmi [Gi](l:List Span)(k:Int)(hk:k≠0)(hU:Up l)(hn:l.length<256):CR Tryz.prog 150 [] [.p (zM l),.p (.int .i64 0),.p (.int .i64 l.length),.p (.int .i64 k),.p byV] [] (is (.tup [])):=by
 have w0:IntKind.i64.wrap (l.length:Int)=l.length:=wrap64 (by omega) (by omega)
 refine zn mixed 21 [] Tryz.func150 rfl (by kernel_rfl) rfl (by simp) (by simp) ?_
 simp (maxSteps:=1000000) [go_sem,Tryz.f150]
 refine zm (fun _:Unit=>True) (fun _=>[]) (fun _=>[]) (fun _=>0) () trivial (by simp[go_sem,LeS,leV,leR,leA]) (fun _ _=>?_)
 simp (maxSteps:=1000000) [go_sem,w0]
 refine zw (fun h=>?_) (fun h=>?_)
 ·simp (maxSteps:=1000000) [go_sem]
  refine⟨⟨rfl,by simp[Tryz.f174]⟩,zc [] (zbX l hU (by omega)) (by simp[go_sem]) ⟨by simp[go_sem],by simp[go_sem]⟩ (by simp[go_sem]) ?_⟩
  rintro _ rs ⟨rfl,rfl⟩
  simp (maxSteps:=1000000) [go_sem]
  exact zg (.tup []) rfl (by simp[go_sem,zd,leT,leP]) ⟨rfl,rfl⟩
 ·simp (maxSteps:=1000000) [go_sem,hk]
  refine⟨⟨rfl,by simp[Tryz.f177]⟩,zc [] (ziA l hU (by omega) (by omega)) (by simp[go_sem]) ⟨by simp[go_sem],by simp[go_sem]⟩ (by simp[go_sem]) ?_⟩
  rintro _ rs ⟨⟨p,rfl⟩,rfl⟩
  simp (maxSteps:=1000000) [go_sem]
  refine⟨⟨rfl,by simp[Tryz.f179]⟩,zc [] (zff l hU (by omega) (by omega)) (by simp[go_sem]) ⟨by simp[go_sem],by simp[go_sem]⟩ (by simp[go_sem]) ?_⟩
  rintro _ rs ⟨rfl,rfl⟩
  simp (maxSteps:=1000000) [go_sem]
  exact zg (.tup []) rfl (by simp[go_sem,zd,leT,leP]) ⟨rfl,rfl⟩
theorem zk9 [Gi](l:List Span)(hU:Up l)(h1:1≤l.length)(hn:l.length<256):CR Tryz.prog 98 [] [.p (zM l),.p byV] [] (is (.tup [])):=by
 have w0:IntKind.u64.wrap (l.length:Int)=l.length:=by simp[IntKind.wrap,IntKind.signed,IntKind.bits];omega
 refine zn mixed 5 [] Tryz.func98 rfl (by kernel_rfl) rfl (by simp) (by simp) ?_
 simp (maxSteps:=1000000) [go_sem,Tryz.f98,zM,w0]
 refine⟨⟨rfl,by simp[Tryz.f151]⟩,zc [] (znl l.length h1 hn) (by simp[go_sem]) ⟨by simp[go_sem],by simp[go_sem]⟩ (by simp[go_sem]) ?_⟩
 rintro _ rs ⟨⟨k,hk,rfl⟩,rfl⟩
 simp (maxSteps:=1000000) [go_sem]
 refine⟨⟨rfl,by simp[Tryz.f150]⟩,zc [] (zmi l k hk hU hn) (by simp[go_sem]) ⟨by simp[go_sem],by simp[go_sem,zM]⟩ (by simp[go_sem]) ?_⟩
 rintro _ rs ⟨rfl,rfl⟩
 simp (maxSteps:=1000000) [go_sem]
 exact zg (.tup []) rfl (by simp[go_sem,zd,leT,leP]) ⟨rfl,rfl⟩
end Go.Proofs.YthbmelihnabkaaaGreat
end
section
namespace Go.Proofs.YthbmelihnabkaaaGreat
open Go.AM
set_option maxHeartbeats 2000000
set_option maxRecDepth 10000
def vO(init:List Span)(o:Span):List Span→List Span
 | []=>init++[o]
 |s::l=>if o.t+1=s.f∧o.a=s.a∧o.b=s.b then vO init {o with t:=s.t} l else vO (init++[o]) s l
def Z7:List Span→List Span
 | []=>[]
 |s::l=>vO [] s l
def vz(s:Span):List AV:=[.p (.int .i64 s.f),.p (.int .i64 s.t),.p (.int .i64 s.a),.p (.int .i64 s.b)]
def Qx(l:List Span):List AV:=((l.map z8).flatMap PV.cells).map .p
theorem wM(l:List Span):(Qx l).length=l.length*4:=by
 induction l with
 |nil=>rfl
 |cons s l ih=>
  simp[Qx,z8,PV.cells]at ih⊢
  omega
theorem J5(l:List Span)(o:Span):Qx (l++[o])=Qx l++vz o:=by
 simp[Qx,vz,z8,PV.cells]
theorem yX(l:List Span)(a b:Tok→Bool):(Qx l).map (AV.upd (AM.fil a b))=Qx l:=by
 unfold Qx
 rw[List.map_map]
 rfl
theorem zhv(o:Span)(a b:Tok→Bool):(vz o).map (AV.upd (AM.fil a b))=vz o:=rfl
theorem Uk(l:List Span)(o:Span)(j:Nat):(Qx l++vz o)[l.length*4+j]?=(vz o)[j]?:=by
 rw[←wM,List.getElem?_append_right (by omega)]
 congr 1
 omega
theorem zb1(l:List Span)(a b c d y:AV):z7 (Qx l++[a,b,c,d]) (l.length*4+1) [y]=Qx l++[a,y,c,d]:=by
 have e:(Qx l).length=l.length*4:=wM l
 unfold z7
 rw[←e,List.take_length_add_append,List.length_singleton,Nat.add_assoc,List.drop_length_add_append]
 simp
theorem Y5(l:List Span)(a b c d y:AV):(Qx l++[a,b,c,d]).take (l.length*4+1)++y::(Qx l++[a,b,c,d]).drop (l.length*4+1+1)=Qx l++[a,y,c,d]:=by
 have:=zb1 l a b c d y
 simpa[z7]using this
def zgo(l:List Span)(k:Nat):Option (List Span×Span)→St
 |none=>{n:=61,nv:=10,vs:=[(3,.p (.opq (.slice none 0 0))),(7,.p (zM l)),(8,.p (.int .i64 l.length)),(9,.p (.int .i64 k))],ts:=[],rs:=[],rm:=[3,57,58]}
 |some (init,o)=>{n:=61,nv:=10,vs:=[(3,.la [58] 4 0 (init.length+1)),(7,.p (zM l)),(8,.p (.int .i64 l.length)),(9,.p (.int .i64 k))],ts:=[],rs:=[([58],Qx init++vz o)],rm:=[3,57,58]}
def znZ(l:List Span)(k:Nat):Option (List Span×Span)→Prop
 |none=>k=0
 |some (init,o)=>k≤l.length∧Z7 l=vO init o (l.drop k)∧init.length<k∧ -1000000000≤o.t∧o.t≤1000000000
theorem zcQ [Gi](l:List Span)(hn:l.length<2^31)(hb:∀s∈l, -1000000000≤s.t∧s.t≤1000000000):CR Tryz.prog 99 [] [.p (zM l)] [] (fun x rs=>(l=[]∧x=.p (.sl 4 [])∧rs=[])∨(0< (Z7 l).length∧x=.la [58] 4 0 (Z7 l).length∧rs=[([58],Qx (Z7 l))])):=by
 refine qQ [] mixed 10 [] Tryz.func99 rfl (by kernel_rfl) [3,57,58] rfl (by simp) (by simp) ?_
 simp (disch:=omega) [go_sem,Tryz.f99,zM]
 refine xZ (fun i:Nat×Option (List Span×Span)=>znZ l i.1 i.2) (fun i=>zgo l i.1 i.2) (fun i=>l.length-i.1) (0,none) rfl (by simp[go_sem,LeS,leV,leR,leA,zM,zgo]) ?_
 rintro⟨k,_|⟨init,o⟩⟩ hI
 ·have hk:k=0:=hI
  subst hk
  simp (disch:=omega) [go_sem,zgo,zM]
  refine zw (fun h=>?_) (fun h=>?_)
  ·have em:=zt z8 l 0 h
   have hx:=hb l[0] (List.getElem_mem h)
   have hl:l=l[0]::l.drop 1:=by
    have:=List.drop_eq_getElem_cons h
    simpa using this
   have hj:Z7 l=vO [] l[0] (l.drop 1):=by
    conv=>lhs;rw[hl]
    rfl
   generalize l[0]=x at em hx hj
   simp (disch:=omega) [go_sem,em,h,z8]
   refine⟨by decide,zf (1,some ([],x)) ⟨by show 1≤l.length;omega,hj,by simp,hx.1,hx.2⟩ ?_ ?_⟩
   ·simp[go_sem,LeS,leV,leR,leA,leL,Qx,vz]
    decide
   ·show l.length-1<l.length-0
    omega
  ·have hl:l=[]:=List.length_eq_zero_iff.1 (by omega)
   simp (disch:=omega) [go_sem]
   exact zi [] (.p (.sl 4 [])) ⟨rfl,by simp⟩ (by simp[go_sem,zd,leA,leT]) (.inl ⟨hl,rfl,rfl⟩)
 ·obtain⟨h1,h2,h3,h5,h6⟩:=hI
  simp only at h1 h2 h3
  simp (disch:=omega) [go_sem,zgo,zM]
  refine zw (fun h=>?_) (fun h=>?_)
  ·have em:=zt z8 l k h
   have w0:IntKind.i64.wrap (init.length:Int)=(init.length:Int):=wrap64 (by omega) (by omega)
   have w1:IntKind.i64.wrap (o.t+1)=o.t+1:=wrap64 (by omega) (by omega)
   have w2:IntKind.i64.wrap ((k:Int)+1)=(k:Int)+1:=wrap64 (by omega) (by omega)
   have g1:=Uk init o 1
   have g2:=Uk init o 2
   have g3:=Uk init o 3
   simp only[vz,List.getElem?_cons_succ,List.getElem?_cons_zero]at g1 g2 g3
   have hi:(init.length:Int)< (init.length:Int)+1:=by omega
   have hx:=hb l[k] (List.getElem_mem h)
   have hd:l.drop k=l[k]::l.drop (k+1):=List.drop_eq_getElem_cons h
   rw[hd,vO]at h2
   generalize l[k]=x at em hx h2
   simp (disch:=omega) [go_sem,em,h,z8,w0,w1,yX,vz,g1,g2,g3,hi]
   refine qk (fun hc=>?_) (fun hc=>?_)
   ·have hc':o.t+1=x.f∧o.a=x.a∧o.b=x.b:=by
     simp at hc
     exact⟨hc.1.1,hc.1.2,hc.2⟩
    rw[if_pos hc']at h2
    simp (disch:=omega) [go_sem,w2,wM,hi]
    exact zf (k+1,some (init,{o with t:=x.t})) ⟨by show k+1≤l.length;omega,h2,by show init.length<k+1;omega,hx.1,hx.2⟩ (by simp[go_sem,LeS,leV,leR,leA,Y5,yX,zj]) (by show l.length- (k+1)<l.length-k;omega)
   ·have hc':¬(o.t+1=x.f∧o.a=x.a∧o.b=x.b):=by
     intro e
     simp[e]at hc
    rw[if_neg hc']at h2
    simp (disch:=omega) [go_sem,w2,yX,wM]
    refine⟨⟨by omega,by omega⟩,?_⟩
    exact zf (k+1,some (init++[o],x)) ⟨by show k+1≤l.length;omega,h2,by show(init++[o]).length<k+1;simp;omega,hx.1,hx.2⟩ (by simp[go_sem,LeS,leV,leR,leA,vz,J5,yX,zj]) (by show l.length- (k+1)<l.length-k;omega)
  ·have hk:k=l.length:=by omega
   subst hk
   simp (disch:=omega) [go_sem]
   rw[List.drop_length]at h2
   refine zi [[58]] (.la [58] 4 0 (Z7 l).length) ⟨rfl,by simp⟩ (by simp[go_sem,zd,leA,leT,h2,vO]) ?_
   refine .inr ⟨by rw[h2];simp[vO],rfl,?_⟩
   simp[go_sem,yX,zhv,h2,vO,J5]
theorem zhy [Gi](l:List Span)(hn:l.length<2^31)(hb:∀s∈l, -1000000000≤s.t∧s.t≤1000000000):CR Tryz.prog 99 [] [.p (zM l)] [] (is (.p (zM (Z7 l)))):=by
 refine CR.freeze (zcQ l hn hb) (fun _=>false) rfl ?_
 rintro x rs (⟨rfl,rfl,rfl⟩|⟨h0,rfl,rfl⟩)
 ·refine⟨.p (.sl 4 []),fun g w v hG hv=>?_,rfl,rfl⟩
  rw[wY]at hv⊢
  exact zl.ext (xh hG _) _ _ hv
 ·refine⟨.p (zM (Z7 l)),fun g w v hG hv=>?_,rfl,rfl⟩
  rw[wY]
  exact zjB hG h0 (by simp[zI,Qx]) rfl (by simp) (fun e he=>by
   obtain⟨s,_,rfl⟩:=List.mem_map.1 he
   exact⟨rfl,rfl⟩) hv
end Go.Proofs.YthbmelihnabkaaaGreat
end
section
namespace Go.Proofs.YthbmelihnabkaaaGreat
open Go.AM
set_option maxHeartbeats 2000000
set_option maxRecDepth 10000
structure QH(α:Type)where
 f:Int
 t:Int
 v:α
def ZC {α:Type}(zero:α)(i:Int):List (QH α)→Int→α×Int
 | [],last=>(zero,last)
 |p::l,last=>if p.f≤i∧i≤p.t then(p.v,min p.t last)else if i<p.f∧p.f≤last then ZC zero i l (p.f-1)else ZC zero i l last
def Wy(p:QH Int):PV:=.agg [.int .i64 p.f,.int .i64 p.t,.int .i64 p.v]
def xi(l:List (QH Int)):PV:=.sl 3 (l.map Wy)
theorem YN [Gi](l:List (QH Int))(zero i last:Int)(hn:l.length<2^31)(hb:∀p∈l, -1000000000≤p.f∧p.f≤1000000000):
  CR Tryz.prog 141 [] [.p (xi l),.p (.int .i64 zero),.p (.int .i64 i),.p (.int .i64 last)] [] (is (.tup [.p (.int .i64 (ZC zero i l last).1),.p (.int .i64 (ZC zero i l last).2)])):=by
 refine zS [5] mixed 15 [] Tryz.func141 rfl (by kernel_rfl) rfl (by simp) (by simp) ?_
 simp (disch:=omega) [go_sem,Tryz.f141,xi]
 refine xZ (fun k:Nat×Int=>k.1≤l.length∧ZC zero i l last=ZC zero i (l.drop k.1) k.2) (fun k=>{n:=52,nv:=15,vs:=[(1,.p (.int .i64 zero)),(2,.p (.int .i64 i)),(3,.p (.int .i64 k.2)),(8,.p (.int .i64 0)),(9,.p (.int .i64 0)),(12,.p (xi l)),(13,.p (.int .i64 l.length)),(14,.p (.int .i64 k.1))],ts:=[],rs:=[]}) (fun k=>l.length-k.1) (0,last) (by simp) (by simp[go_sem,LeS,leV,leR,leA,xi]) ?_
 rintro⟨k,la⟩ ⟨hk,hf⟩
 simp only at hk hf
 simp (disch:=omega) [go_sem,xi]
 refine zw (fun h=>?_) (fun h=>?_)
 ·have em:=zt Wy l k h
  have hd:l.drop k=l[k]::l.drop (k+1):=List.drop_eq_getElem_cons h
  have hx:=hb l[k] (List.getElem_mem h)
  have w2:IntKind.i64.wrap ((k:Int)+1)=(k:Int)+1:=wrap64 (by omega) (by omega)
  rw[hd,ZC]at hf
  generalize l[k]=x at em hx hf
  have w1:IntKind.i64.wrap (x.f-1)=x.f-1:=wrap64 (by omega) (by omega)
  simp (disch:=omega) [go_sem,em,h,Wy]
  refine qk (fun hc=>?_) (fun hc=>?_)
  ·have hc':x.f≤i∧i≤x.t:=by simpa using hc
   rw[if_pos hc']at hf
   simp (disch:=omega) [go_sem]
   exact zg (.tup [.p (.int .i64 x.v),.p (.int .i64 (min x.t la))]) rfl (by simp[go_sem,zd,leA]) ⟨rfl,by rw[hf]⟩
  ·have hc':¬(x.f≤i∧i≤x.t):=by intro e;simp[e]at hc
   rw[if_neg hc']at hf
   simp (disch:=omega) [go_sem]
   refine qk (fun hc2=>?_) (fun hc2=>?_)
   ·have hc3:i<x.f∧x.f≤la:=by simpa using hc2
    rw[if_pos hc3]at hf
    simp (disch:=omega) [go_sem,w1,w2]
    exact zf (k+1,x.f-1) ⟨by show k+1≤l.length;omega,hf⟩ (by simp[go_sem,LeS,leV,leR,leA]) (by show l.length- (k+1)<l.length-k;omega)
   ·have hc3:¬(i<x.f∧x.f≤la):=by intro e;simp[e]at hc2
    rw[if_neg hc3]at hf
    simp (disch:=omega) [go_sem,w2]
    exact zf (k+1,la) ⟨by show k+1≤l.length;omega,hf⟩ (by simp[go_sem,LeS,leV,leR,leA]) (by show l.length- (k+1)<l.length-k;omega)
 ·have hk':k=l.length:=by omega
  subst hk'
  rw[List.drop_length,ZC]at hf
  simp (disch:=omega) [go_sem]
  exact zg (.tup [.p (.int .i64 zero),.p (.int .i64 la)]) rfl (by simp[go_sem,zd,leA]) ⟨rfl,by rw[hf]⟩
end Go.Proofs.YthbmelihnabkaaaGreat
end
section
namespace Go.Proofs.YthbmelihnabkaaaGreat
open Go.AM
set_option maxHeartbeats 2000000
set_option maxRecDepth 10000
structure Zd where
 a:Int
 b:Int
 deriving DecidableEq
def qj(p:Zd):List PV:=[.int .i32 p.a,.int .i32 p.b]
structure Flags where
 p:Bool
 w:Bool
 l:Bool
 o:Bool
 deriving DecidableEq
def qv(p:Flags):List PV:=[.bool p.p,.bool p.w,.bool p.l,.bool p.o]
def WM(p:QH Zd):PV:=.agg (.int .i64 p.f::.int .i64 p.t::qj p.v)
def xp(l:List (QH Zd)):PV:=.sl 4 (l.map WM)
theorem Jg [Gi](l:List (QH Zd))(zero:Zd)(i last:Int)(hn:l.length<2^31)(hb:∀p∈l, -1000000000≤p.f∧p.f≤1000000000):
  CR Tryz.prog 100 [] [.p (xp l),.p (.agg (qj zero)),.p (.int .i64 i),.p (.int .i64 last)] [] (is (.tup [.p (.agg (qj (ZC zero i l last).1)),.p (.int .i64 (ZC zero i l last).2)])):=by
 refine zS [100005] mixed 15 [] Tryz.func100 rfl (by kernel_rfl) rfl (by simp) (by simp) ?_
 simp (disch:=omega) [go_sem,Tryz.f100,xp,qj]
 refine xZ (fun k:Nat×Int=>k.1≤l.length∧ZC zero i l last=ZC zero i (l.drop k.1) k.2) (fun k=>{n:=52,nv:=15,vs:=[(2,.p (.int .i64 i)),(3,.p (.int .i64 k.2)),(5,.lp [5] 0),(8,.lp [8] 0),(9,.p (.int .i64 0)),(12,.p (xp l)),(13,.p (.int .i64 l.length)),(14,.p (.int .i64 k.1))],ts:=[],rs:=[([5],(qj zero).map .p),([8],[.p (.int .i32 0),.p (.int .i32 0)])]}) (fun k=>l.length-k.1) (0,last) (by simp) (by simp[go_sem,LeS,leV,leR,leA,leL,xp,qj]) ?_
 rintro⟨k,la⟩ ⟨hk,hf⟩
 simp only at hk hf
 simp (disch:=omega) [go_sem,xp,qj]
 refine zw (fun h=>?_) (fun h=>?_)
 ·have em:=zt WM l k h
  have hd:l.drop k=l[k]::l.drop (k+1):=List.drop_eq_getElem_cons h
  have hx:=hb l[k] (List.getElem_mem h)
  have w2:IntKind.i64.wrap ((k:Int)+1)=(k:Int)+1:=wrap64 (by omega) (by omega)
  rw[hd,ZC]at hf
  generalize l[k]=x at em hx hf
  have w1:IntKind.i64.wrap (x.f-1)=x.f-1:=wrap64 (by omega) (by omega)
  simp (disch:=omega) [go_sem,em,h,WM,qj]
  refine qk (fun hc=>?_) (fun hc=>?_)
  ·have hc':x.f≤i∧i≤x.t:=by simpa using hc
   rw[if_pos hc']at hf
   simp (disch:=omega) [go_sem,List.findSome?]
   exact zg (.tup [.p (.agg (qj x.v)),.p (.int .i64 (min x.t la))]) rfl (by simp[go_sem,zd,leA,qj]) ⟨rfl,by rw[hf];rfl⟩
  ·have hc':¬(x.f≤i∧i≤x.t):=by intro e;simp[e]at hc
   rw[if_neg hc']at hf
   simp (disch:=omega) [go_sem]
   refine qk (fun hc2=>?_) (fun hc2=>?_)
   ·have hc3:i<x.f∧x.f≤la:=by simpa using hc2
    rw[if_pos hc3]at hf
    simp (disch:=omega) [go_sem,w1,w2]
    exact zf (k+1,x.f-1) ⟨by show k+1≤l.length;omega,hf⟩ (by simp[go_sem,LeS,leV,leR,leA,leL]) (by show l.length- (k+1)<l.length-k;omega)
   ·have hc3:¬(i<x.f∧x.f≤la):=by intro e;simp[e]at hc2
    rw[if_neg hc3]at hf
    simp (disch:=omega) [go_sem,w2]
    exact zf (k+1,la) ⟨by show k+1≤l.length;omega,hf⟩ (by simp[go_sem,LeS,leV,leR,leA,leL]) (by show l.length- (k+1)<l.length-k;omega)
 ·have hk':k=l.length:=by omega
  subst hk'
  rw[List.drop_length,ZC]at hf
  simp (disch:=omega) [go_sem]
  exact zg (.tup [.p (.agg (qj zero)),.p (.int .i64 la)]) rfl (by simp[go_sem,zd,leA,qj]) ⟨rfl,by rw[hf];rfl⟩
def J6(p:QH Flags):PV:=.agg (.int .i64 p.f::.int .i64 p.t::qv p.v)
def xu(l:List (QH Flags)):PV:=.sl 6 (l.map J6)
theorem Jo [Gi](l:List (QH Flags))(zero:Flags)(i last:Int)(hn:l.length<2^31)(hb:∀p∈l, -1000000000≤p.f∧p.f≤1000000000):
  CR Tryz.prog 146 [] [.p (xu l),.p (.agg (qv zero)),.p (.int .i64 i),.p (.int .i64 last)] [] (is (.tup [.p (.agg (qv (ZC zero i l last).1)),.p (.int .i64 (ZC zero i l last).2)])):=by
 refine zS [100005] mixed 15 [] Tryz.func146 rfl (by kernel_rfl) rfl (by simp) (by simp) ?_
 simp (disch:=omega) [go_sem,Tryz.f146,xu,qv]
 refine xZ (fun k:Nat×Int=>k.1≤l.length∧ZC zero i l last=ZC zero i (l.drop k.1) k.2) (fun k=>{n:=52,nv:=15,vs:=[(2,.p (.int .i64 i)),(3,.p (.int .i64 k.2)),(5,.lp [5] 0),(8,.lp [8] 0),(9,.p (.int .i64 0)),(12,.p (xu l)),(13,.p (.int .i64 l.length)),(14,.p (.int .i64 k.1))],ts:=[],rs:=[([5],(qv zero).map .p),([8],[.p (.bool false),.p (.bool false),.p (.bool false),.p (.bool false)])]}) (fun k=>l.length-k.1) (0,last) (by simp) (by simp[go_sem,LeS,leV,leR,leA,leL,xu,qv]) ?_
 rintro⟨k,la⟩ ⟨hk,hf⟩
 simp only at hk hf
 simp (disch:=omega) [go_sem,xu,qv]
 refine zw (fun h=>?_) (fun h=>?_)
 ·have em:=zt J6 l k h
  have hd:l.drop k=l[k]::l.drop (k+1):=List.drop_eq_getElem_cons h
  have hx:=hb l[k] (List.getElem_mem h)
  have w2:IntKind.i64.wrap ((k:Int)+1)=(k:Int)+1:=wrap64 (by omega) (by omega)
  rw[hd,ZC]at hf
  generalize l[k]=x at em hx hf
  have w1:IntKind.i64.wrap (x.f-1)=x.f-1:=wrap64 (by omega) (by omega)
  simp (disch:=omega) [go_sem,em,h,J6,qv]
  refine qk (fun hc=>?_) (fun hc=>?_)
  ·have hc':x.f≤i∧i≤x.t:=by simpa using hc
   rw[if_pos hc']at hf
   simp (disch:=omega) [go_sem,List.findSome?]
   exact zg (.tup [.p (.agg (qv x.v)),.p (.int .i64 (min x.t la))]) rfl (by simp[go_sem,zd,leA,qv]) ⟨rfl,by rw[hf];rfl⟩
  ·have hc':¬(x.f≤i∧i≤x.t):=by intro e;simp[e]at hc
   rw[if_neg hc']at hf
   simp (disch:=omega) [go_sem]
   refine qk (fun hc2=>?_) (fun hc2=>?_)
   ·have hc3:i<x.f∧x.f≤la:=by simpa using hc2
    rw[if_pos hc3]at hf
    simp (disch:=omega) [go_sem,w1,w2]
    exact zf (k+1,x.f-1) ⟨by show k+1≤l.length;omega,hf⟩ (by simp[go_sem,LeS,leV,leR,leA,leL]) (by show l.length- (k+1)<l.length-k;omega)
   ·have hc3:¬(i<x.f∧x.f≤la):=by intro e;simp[e]at hc2
    rw[if_neg hc3]at hf
    simp (disch:=omega) [go_sem,w2]
    exact zf (k+1,la) ⟨by show k+1≤l.length;omega,hf⟩ (by simp[go_sem,LeS,leV,leR,leA,leL]) (by show l.length- (k+1)<l.length-k;omega)
 ·have hk':k=l.length:=by omega
  subst hk'
  rw[List.drop_length,ZC]at hf
  simp (disch:=omega) [go_sem]
  exact zg (.tup [.p (.agg (qv zero)),.p (.int .i64 la)]) rfl (by simp[go_sem,zd,leA,qv]) ⟨rfl,by rw[hf];rfl⟩
end Go.Proofs.YthbmelihnabkaaaGreat
end
section
namespace Go.Proofs.YthbmelihnabkaaaGreat
open Go.AM
set_option maxHeartbeats 2000000
set_option maxRecDepth 10000
def QL(w size:Nat)(idx:List Nat)(blocks:List (List PV)):PV:=.agg [.int .i64 size,.sl 1 (idx.map fun k:Nat=>.int .i64 k),.sl (128*w) (blocks.map .agg)]
def XQ(w:Nat)(idx:List Nat)(blocks:List (List PV))(i:Nat)(v:List PV):Prop:=
 ∃k cs,idx[i/128]?=some k∧blocks[k]?=some cs∧cs.length=128*w∧(cs.drop (i%128*w)).take w=v
theorem zlb [Gi](size:Nat)(idx:List Nat)(blocks:List (List PV))(i:Nat)(v:Int)(hs:size<2^31)(hi:i<size)(h:XQ 1 idx blocks i [.int .i64 v]):
  CR Tryz.prog 152 [] [.p (.pt 3 (QL 1 size idx blocks)),.p (.int .i64 i)] [] (is (.p (.int .i64 v))):=by
 obtain⟨k,cs,h1,h2,h3,h4⟩:=h
 refine zS [] mixed 6 [] Tryz.func152 rfl (by kernel_rfl) rfl (by simp) (by simp) ?_
 have e1:¬(size:Int)≤i:=by omega
 have e2:¬(i:Int)<0:=by omega
 obtain⟨n1,h1⟩:=List.getElem?_eq_some_iff.1 h1
 obtain⟨n2,h2⟩:=List.getElem?_eq_some_iff.1 h2
 have m1:=zt (fun k:Nat=>PV.int .i64 k) idx (i/128) n1
 have m2:=zt PV.agg blocks k n2
 rw[h1]at m1
 rw[h2]at m2
 have q1:(i:Int).tdiv 128=((i/128:Nat):Int):=rfl
 have q2:(i:Int).tmod 128=((i%128:Nat):Int):=rfl
 have w1:IntKind.i64.wrap ((i:Int)/128)=((i/128:Nat):Int):=by rw[wrap64 (by omega) (by omega)];omega
 have w2:IntKind.i64.wrap ((i:Int)%128)=((i%128:Nat):Int):=by rw[wrap64 (by omega) (by omega)];omega
 have t1:((i:Int)/128).toNat=i/128:=by omega
 have t2:((i:Int)%128).toNat=i%128:=by omega
 have b0:0≤(i:Int)/128:=by omega
 have b1:(i:Int)/128<idx.length:=by omega
 have b2:0≤(i:Int)%128:=by omega
 have b3:(i:Int)%128<128:=by omega
 have hv:cs[i%128]?=some (.int .i64 v):=by
  simp only[Nat.mul_one]at h4
  rw[←List.head?_drop]
  cases hd:cs.drop (i%128)with
  |nil=>rw[hd]at h4;simp at h4
  |cons a l=>rw[hd]at h4;simp at h4;simp[h4]
 simp only[Nat.mul_one]at h3
 obtain⟨n3,hv'⟩:=List.getElem?_eq_some_iff.1 hv
 simp (disch:=omega) [go_sem,Tryz.f152,QL,e1,e2,q1,q2,w1,m1,m2,n2,t1,t2,b0,b1,b2,b3,hv',h3]
 exact zg (.p (.int .i64 v)) rfl (by simp[go_sem,zd,leA]) ⟨rfl,rfl⟩
end Go.Proofs.YthbmelihnabkaaaGreat
end
section
namespace Go.Proofs.YthbmelihnabkaaaGreat
open Go.AM
set_option maxHeartbeats 2000000
set_option maxRecDepth 10000
theorem zk8 [Gi](size:Nat)(idx:List Nat)(blocks:List (List PV))(i:Nat)(v:Zd)(hs:size<2^31)(hi:i<size)(h:XQ 2 idx blocks i (qj v)):
  CR Tryz.prog 50 [] [.p (.pt 3 (QL 2 size idx blocks)),.p (.int .i64 i)] [] (is (.p (.agg (qj v)))):=by
 obtain⟨k,cs,h1,h2,h3,h4⟩:=h
 refine zS [] mixed 6 [] Tryz.func50 rfl (by kernel_rfl) rfl (by simp) (by simp) ?_
 have e1:¬(size:Int)≤i:=by omega
 have e2:¬(i:Int)<0:=by omega
 obtain⟨n1,h1⟩:=List.getElem?_eq_some_iff.1 h1
 obtain⟨n2,h2⟩:=List.getElem?_eq_some_iff.1 h2
 have m1:=zt (fun k:Nat=>PV.int .i64 k) idx (i/128) n1
 have m2:=zt PV.agg blocks k n2
 rw[h1]at m1
 rw[h2]at m2
 have q1:(i:Int).tdiv 128=((i/128:Nat):Int):=rfl
 have q2:(i:Int).tmod 128=((i%128:Nat):Int):=rfl
 have w1:IntKind.i64.wrap ((i:Int)/128)=((i/128:Nat):Int):=by rw[wrap64 (by omega) (by omega)];omega
 have w2:IntKind.i64.wrap ((i:Int)%128)=((i%128:Nat):Int):=by rw[wrap64 (by omega) (by omega)];omega
 have t1:((i:Int)/128).toNat=i/128:=by omega
 have t2:((i:Int)%128).toNat=i%128:=by omega
 have b0:0≤(i:Int)/128:=by omega
 have b1:(i:Int)/128<idx.length:=by omega
 have b2:0≤(i:Int)%128:=by omega
 have b3:(i:Int)%128<128:=by omega
 have hl:i%128*2+2≤cs.length:=by omega
 simp only[qj]at h4
 simp (disch:=omega) [go_sem,Tryz.f50,QL,e1,e2,q1,q2,w1,m1,m2,n2,t1,t2,b0,b1,b2,b3,h4,h3,qj]
 exact⟨by omega,zg (.p (.agg (qj v))) rfl (by simp[go_sem,zd,leA,qj]) ⟨rfl,rfl⟩⟩
theorem zlH [Gi](size:Nat)(idx:List Nat)(blocks:List (List PV))(i:Nat)(v:Flags)(hs:size<2^31)(hi:i<size)(h:XQ 4 idx blocks i (qv v)):
  CR Tryz.prog 104 [] [.p (.pt 3 (QL 4 size idx blocks)),.p (.int .i64 i)] [] (is (.p (.agg (qv v)))):=by
 obtain⟨k,cs,h1,h2,h3,h4⟩:=h
 refine zS [] mixed 6 [] Tryz.func104 rfl (by kernel_rfl) rfl (by simp) (by simp) ?_
 have e1:¬(size:Int)≤i:=by omega
 have e2:¬(i:Int)<0:=by omega
 obtain⟨n1,h1⟩:=List.getElem?_eq_some_iff.1 h1
 obtain⟨n2,h2⟩:=List.getElem?_eq_some_iff.1 h2
 have m1:=zt (fun k:Nat=>PV.int .i64 k) idx (i/128) n1
 have m2:=zt PV.agg blocks k n2
 rw[h1]at m1
 rw[h2]at m2
 have q1:(i:Int).tdiv 128=((i/128:Nat):Int):=rfl
 have q2:(i:Int).tmod 128=((i%128:Nat):Int):=rfl
 have w1:IntKind.i64.wrap ((i:Int)/128)=((i/128:Nat):Int):=by rw[wrap64 (by omega) (by omega)];omega
 have w2:IntKind.i64.wrap ((i:Int)%128)=((i%128:Nat):Int):=by rw[wrap64 (by omega) (by omega)];omega
 have t1:((i:Int)/128).toNat=i/128:=by omega
 have t2:((i:Int)%128).toNat=i%128:=by omega
 have b0:0≤(i:Int)/128:=by omega
 have b1:(i:Int)/128<idx.length:=by omega
 have b2:0≤(i:Int)%128:=by omega
 have b3:(i:Int)%128<128:=by omega
 have hl:i%128*4+4≤cs.length:=by omega
 simp only[qv]at h4
 simp (disch:=omega) [go_sem,Tryz.f104,QL,e1,e2,q1,q2,w1,m1,m2,n2,t1,t2,b0,b1,b2,b3,h4,h3,qv]
 exact⟨by omega,zg (.p (.agg (qv v))) rfl (by simp[go_sem,zd,leA,qv]) ⟨rfl,rfl⟩⟩
end Go.Proofs.YthbmelihnabkaaaGreat
end
section
namespace Go.Proofs.YthbmelihnabkaaaGreat
open Go.AM
set_option maxHeartbeats 4000000
set_option maxRecDepth 10000
def VL:OT:=.now 0 2 (.now 1 2 (.now 2 2 (.now 4 1 (.now 5 1 (.now 6 1 (.now 7 1 (.now 8 1 (.now 9 1 (.now 10 1 (.now 11 0 (.mk [(3,.mk [(12,.mk [(13,.now 14 0 (.now 15 0 (.mk [(16,.mk [])])))])]),(12,.mk [(3,.mk [(13,.now 14 0 (.now 15 0 (.mk [(16,.mk [])])))]),(13,.now 3 0 (.now 14 0 (.now 15 0 (.mk [(16,.mk [])]))))])])))))))))))
def ja(n:Nat):List PV:=(List.range n).map fun k:Nat=>.int .i64 k
theorem WA(n:Nat):ja (n+1)=ja n++[.int .i64 (n:Nat)]:=by simp[ja,List.range_succ]
def zV(w size:Nat)(X:AV)(tk:Tok)(blocks:List (List PV))(k2 x2:List PV):List (Tok×List AV):=
 [([0],[.lp [1] 0,.om [902] (blocks.map .agg) (ja blocks.length),.om [903] k2 x2]),([1],[.p (.int .i64 size),X,.os tk (128*w) (blocks.map .agg)])]
def Zo(own:Bool)(idx:List Nat):AV:=if own then .os [904] 1 (idx.map fun k:Nat=>.int .i64 k)else .p (.sl 1 (idx.map fun k:Nat=>.int .i64 k))
theorem US [Gi](own:Bool)(size:Nat)(idx:List Nat)(blocks:List (List PV))(k2 x2:List PV)(cs:List PV)(hc:okC (qH 128 [.i .i64]) cs=true)(hb:∀b∈blocks,okC (qH 128 [.i .i64]) b=true)(hn:blocks.length<2^31):
  CR Tryz.prog 143 [[0],[1]] [.lp [0] 0,.p (.agg cs)] (zV 1 size (Zo own idx) [905] blocks k2 x2)
   (fun x rs=>(∃k:Nat,x=.p (.int .i64 k)∧blocks[k]?=some cs∧rs=zV 1 size (Zo own idx) [905] blocks k2 x2)∨
    (x=.p (.int .i64 blocks.length)∧rs=zV 1 size (Zo own idx) [1,2] (blocks++[cs]) k2 x2)):=by
 have hl:cs.length=128:=by simpa[qC]using ZF hc
 have ht:=QN hl
 have hall:(blocks.map PV.agg).all (fun k=>okC (qH 128 [.i .i64]) k.cells)=true:=by simpa[PV.cells]using hb
 cases own<;>
 ·refine zS [1,200005] mixed 8 [] Tryz.func143 rfl (by kernel_rfl) rfl (by simp) (by simp) ?_
  cases hf:qK cs (blocks.map PV.agg) (ja blocks.length) 0 with
  |none=>
   simp (disch:=omega) [go_sem,Tryz.f143,zV,Zo,Zl,mapOf,Q8,ht,hl,hc,hf]
   refine⟨hb,Zh VL (by kernel_rfl) ?_⟩
   simp (disch:=omega) [go_sem,VL,ht,hl]
   have e0:(qH 128 [PV.int IntKind.i64 0]).length=128:=by simp[qC]
   have e1:∀x∈qH 128 [PV.int IntKind.i64 0],(match x with|PV.agg cs=>false|PV.opq u=>u.oneCell'|x=>true)=true:=fun x hx=>by
    obtain⟨l,hl,hx⟩:=List.mem_flatten.1 hx
    rw[List.eq_of_mem_replicate hl]at hx
    rw[List.mem_singleton.1 hx]
   have u1:kW (PV.agg cs) (List.map PV.agg blocks) (ja blocks.length)=List.map PV.agg blocks++[PV.agg cs]:=by simp[kW,PV.cells,hf]
   have u2:yb (PV.agg cs) (PV.int IntKind.i64 ↑blocks.length) (List.map PV.agg blocks) (ja blocks.length)=ja (blocks.length+1):=by rw[WA];simp only[yb,PV.cells,hf]
   refine⟨⟨e0,e1⟩,⟨e0,by omega⟩,?_⟩
   exact zi [[0],[1]] (.p (.int .i64 blocks.length)) ⟨rfl,by simp⟩ (by simp[go_sem,zd,leA,leT]) (.inr ⟨rfl,by simp[go_sem,u1,u2]⟩)
  |some r=>
   obtain⟨j,x⟩:=r
   obtain⟨_,k,h3,h4,h5⟩:=Qc hc hall hf
   simp only[Nat.sub_zero]at h3 h5
   simp only[List.getElem?_map,Option.map_eq_some_iff]at h3
   obtain⟨b,h3,rfl⟩:=h3
   simp only[PV.cells]at h4
   subst h4
   have hx:x=.int .i64 (j:Nat):=by
    simp only[ja,List.getElem?_map,Option.map_eq_some_iff]at h5
    obtain⟨q,hq,rfl⟩:=h5
    rw[List.getElem?_range (List.getElem?_eq_some_iff.1 h3).1]at hq
    injection hq with hq;rw[hq]
   subst hx
   simp (disch:=omega) [go_sem,Tryz.f143,zV,Zo,Zl,mapOf,Q8,ht,hl,hc,hf]
   refine⟨hb,?_⟩
   exact zi [[0],[1]] (.p (.int .i64 j)) ⟨rfl,by simp⟩ (by simp[go_sem,zd,leA,leT]) (.inl ⟨j,rfl,h3,by simp[go_sem]⟩)
end Go.Proofs.YthbmelihnabkaaaGreat
end
