/- A part of this seat's proofs, by an abstract machine. Conditions: each law's. -/
import Derived.Test.YtfjdbbpimklecaaGreatDoorV17
import Derived.Test.YtfjdbbpimklecaaGreatDoorV16
set_option maxHeartbeats 4000000
set_option maxRecDepth 10000
namespace Go.Proofs.YtfjdbbpimklecaaGreatDoor
section
open Go.AM
def u8(n:Nat):UInt8:=UInt8.ofNat n
def yE(n:Nat):List UInt8:=
 if n<128 then [u8 n]else if n<2048 then [u8 (192+n/64),u8 (128+n%64)]
 else if n<65536 then [u8 (224+n/4096),u8 (128+n/64%64),u8 (128+n%64)]
 else [u8 (240+n/262144),u8 (128+n/4096%64),u8 (128+n/64%64),u8 (128+n%64)]
def Qc(r:Int):Bool:=(decide (0≤r)&&decide (r<55296)) || (decide (57343<r)&&decide (r≤1114111))
def zf3(r:Int):Nat:=if Qc r=true then r.toNat else 65533
def wG(r:Int):List UInt8:=yE (zf3 r)
def je(l:List Int):List UInt8:=l.flatMap wG
theorem Xv(n:Nat):1≤(yE n).length∧(yE n).length≤4:=by
 unfold yE
 split
 ·simp
 ·split
  ·simp
  ·split<;>simp
theorem zdX(l:List Int):(je l).length≤4*l.length:=by
 induction l with
 |nil=>simp[je]
 |cons x l ih=>
  have h:=(Xv (zf3 x)).2
  have e:je (x::l)=wG x++je l:=rfl
  rw[e,List.length_append,List.length_cons]
  unfold wG
  omega
structure Cl where
 t:List UInt8
 w:Int
 deriving DecidableEq,Inhabited
def blk:Cl:=⟨[32],1⟩
def clP(c:Cl):PV:=.agg [.str c.t,.int .i64 c.w]
abbrev zQ:=List Cl
def zfl(C:Int)(s:Int×Int)(g:Cl):Int×Int:=if C<s.2+g.w then(s.1+1,0)else s
def zll(C:Int)(s:Int×Int)(g:Cl):Int×Int:=((zfl C s g).1,(zfl C s g).2+g.w)
def stG(C:Int)(l:List Cl):Nat→Int×Int
 |0=>(0,0)
 |i+1=>zll C (stG C l i) (l.getD i blk)
def zlf(C:Int)(s:Int×Int):Int×Int:=if C≤s.2 then(s.1+1,0)else s
def zea(C:Int)(l:List Cl)(i:Nat):Int×Int:=if i<l.length then zfl C (stG C l i) (l.getD i blk)else zlf C (stG C l l.length)
def zk7(all rows row:Int):Int:=max (min (row-rows.tdiv 2) (all-rows)) 0
theorem qD [Gi] {x:Nat}(h:x<2^50):IntKind.i64.wrap ((x:Int)+1)=((x+1:Nat):Int):=by rw[wrap64 (by omega) (by omega)];rfl
def qO(l:List Int):List PV:=l.map fun r=>.int .i32 r
def VK(k r:Int)(x:Row):Bool:=decide (x.k=k)&&decide (x.f≤r)&&decide (r≤x.t)
def rowAt(l:List Row)(k r:Int):Option Row:=if r<0∨1114111<r then none else l.find? (VK k r)
def aL(l:List Row)(k r:Int):Int:=match rowAt l k r with
 |some x=>x.a
 |none=>0
def zb:List Row:=V7++zas++zfZ++JB++zbA++zaW++zaX++Ub
theorem zgv [Gi](a b c d e f g h:List Row)(c0:CR Tryz.prog 49 [] [] [] (is (.p (qJ a))))(c1:CR Tryz.prog 50 [] [] [] (is (.p (qJ b))))(c2:CR Tryz.prog 51 [] [] [] (is (.p (qJ c))))(c3:CR Tryz.prog 52 [] [] [] (is (.p (qJ d))))(c4:CR Tryz.prog 53 [] [] [] (is (.p (qJ e))))(c5:CR Tryz.prog 54 [] [] [] (is (.p (qJ f))))(c6:CR Tryz.prog 55 [] [] [] (is (.p (qJ g))))(c7:CR Tryz.prog 56 [] [] [] (is (.p (qJ h))))(l0:a.length≤200)(l1:b.length≤200)(l2:c.length≤200)(l3:d.length≤200)(l4:e.length≤200)(l5:f.length≤200)(l6:g.length≤200)(l7:h.length≤200):
  CR Tryz.prog 12 [] [] [] (is (.p (qJ (a++b++c++d++e++f++g++h)))):=by
 refine zH mixed 2 [] Tryz.func12 rfl (by kernel_rfl) rfl (by simp) (by simp) ?_
 simp (disch:=omega) [go_sem,Tryz.f12]
 refine⟨⟨rfl,by simp[Tryz.f49]⟩,zh [] c0 (by simp[go_sem]) ⟨by simp[go_sem],by simp[go_sem]⟩ (by simp[go_sem]) ?_⟩
 rintro y rs ⟨rfl,rfl⟩
 simp (disch:=omega) [go_sem,qJ]
 refine⟨by omega,⟨rfl,by simp[Tryz.f50]⟩,zh [] c1 (by simp[go_sem]) ⟨by simp[go_sem],by simp[go_sem]⟩ (by simp[go_sem]) ?_⟩
 rintro y rs ⟨rfl,rfl⟩
 simp (disch:=omega) [go_sem,qJ]
 refine⟨by omega,⟨rfl,by simp[Tryz.f51]⟩,zh [] c2 (by simp[go_sem]) ⟨by simp[go_sem],by simp[go_sem]⟩ (by simp[go_sem]) ?_⟩
 rintro y rs ⟨rfl,rfl⟩
 simp (disch:=omega) [go_sem,qJ]
 refine⟨by omega,⟨rfl,by simp[Tryz.f52]⟩,zh [] c3 (by simp[go_sem]) ⟨by simp[go_sem],by simp[go_sem]⟩ (by simp[go_sem]) ?_⟩
 rintro y rs ⟨rfl,rfl⟩
 simp (disch:=omega) [go_sem,qJ]
 refine⟨by omega,⟨rfl,by simp[Tryz.f53]⟩,zh [] c4 (by simp[go_sem]) ⟨by simp[go_sem],by simp[go_sem]⟩ (by simp[go_sem]) ?_⟩
 rintro y rs ⟨rfl,rfl⟩
 simp (disch:=omega) [go_sem,qJ]
 refine⟨by omega,⟨rfl,by simp[Tryz.f54]⟩,zh [] c5 (by simp[go_sem]) ⟨by simp[go_sem],by simp[go_sem]⟩ (by simp[go_sem]) ?_⟩
 rintro y rs ⟨rfl,rfl⟩
 simp (disch:=omega) [go_sem,qJ]
 refine⟨by omega,⟨rfl,by simp[Tryz.f55]⟩,zh [] c6 (by simp[go_sem]) ⟨by simp[go_sem],by simp[go_sem]⟩ (by simp[go_sem]) ?_⟩
 rintro y rs ⟨rfl,rfl⟩
 simp (disch:=omega) [go_sem,qJ]
 refine⟨by omega,⟨rfl,by simp[Tryz.f56]⟩,zh [] c7 (by simp[go_sem]) ⟨by simp[go_sem],by simp[go_sem]⟩ (by simp[go_sem]) ?_⟩
 rintro y rs ⟨rfl,rfl⟩
 simp (disch:=omega) [go_sem,qJ]
 exact⟨by omega,zn (.p (qJ (a++b++c++d++e++f++g++h))) rfl (by simp[go_sem,zg,leA,qJ]) ⟨rfl,by simp[qJ]⟩⟩
theorem yM [Gi]:CR Tryz.prog 12 [] [] [] (is (.p (qJ zb))):=
 zgv _ _ _ _ _ _ _ _ zbm zd5 zg4 zcR zdY zeB zfn za6 (by decide) (by decide) (by decide) (by decide) (by decide) (by decide) (by decide) (by decide)
structure Span where
 f:Int
 t:Int
 a:Int
 b:Int
 deriving DecidableEq
def zO(s:Span):PV:=.agg [.int .i64 s.f,.int .i64 s.t,.int .i64 s.a,.int .i64 s.b]
def zA(l:List Span):PV:=.sl 4 (l.map zO)
theorem zgR [Gi](s:Span)(l:List Span)(h0:s.f≤s.t)(hl:∀x∈l,x.t<s.f)(hn:l.length<2^31):CR Tryz.prog 109 [] [.p (zO s),.p (zA l)] [] (is (.p (zA [s]))):=by
 refine zH mixed 11 [] Tryz.func109 rfl (by kernel_rfl) rfl (by simp) (by simp) ?_
 simp (disch:=omega) [go_sem,Tryz.f109,zO,zA]
 refine QT (fun i:Nat=>i≤l.length) (fun i=>{n:=59,nv:=11,vs:=[(2,.lp [2] 0),(5,.os [5] 4 []),(8,.p (zA l)),(9,.p (.int .i64 l.length)),(10,.p (.int .i64 i))],ts:=[],rs:=[([2],[.p (.int .i64 s.f),.p (.int .i64 s.t),.p (.int .i64 s.a),.p (.int .i64 s.b)])]}) (fun i=>l.length-i) 0 (by simp) (by simp[go_sem,LeS,leV,leR,leA,leL,zA]) ?_
 intro i hi
 simp (disch:=omega) [go_sem,zA]
 refine zq (fun h=>?_) (fun h=>?_)
 ·have em:=zu zO l i h
  have hx:=hl l[i] (List.getElem_mem h)
  have w1:IntKind.i64.wrap ((i:Int)+1)=(i:Int)+1:=wrap64 (by omega) (by omega)
  generalize l[i]=x at em hx
  simp[go_sem,em,h,zO,hx,w1]
  exact zj (i+1) (by omega) (by simp[go_sem,LeS,leV,leR,leA,leL]) (by omega)
 ·simp[go_sem,h0]
  exact zn (.p (zA [s])) rfl (by simp[go_sem,zg,leA,zA,zO]) ⟨rfl,rfl⟩
theorem zef [Gi](x:Int):CR Tryz.prog 162 [] [.p (.int .i64 x)] [] (is (.p (.bool false))):=by
 refine zH mixed 3 [] Tryz.func162 rfl (by kernel_rfl) rfl (by simp) (by simp) ?_
 simp[go_sem,Tryz.f162]
 exact zn (.p (.bool false)) rfl (by simp[go_sem,zg,leA]) ⟨rfl,rfl⟩
def X4(x y:Int):Int:=if x<y then -1 else if y<x then 1 else 0
theorem za1 [Gi](x y:Int):CR Tryz.prog 108 [] [.p (.int .i64 x),.p (.int .i64 y)] [] (is (.p (.int .i64 (X4 x y)))):=by
 refine zH mixed 7 [] Tryz.func108 rfl (by kernel_rfl) rfl (by simp) (by simp) ?_
 simp[go_sem,Tryz.f108]
 refine⟨⟨rfl,by simp[Tryz.f162]⟩,zh [] (zef x) (by simp[go_sem]) ⟨by simp[go_sem],by simp[go_sem]⟩ (by simp[go_sem]) ?_⟩
 rintro _ rs ⟨rfl,rfl⟩
 simp[go_sem]
 refine⟨⟨rfl,by simp[Tryz.f162]⟩,zh [] (zef y) (by simp[go_sem]) ⟨by simp[go_sem],by simp[go_sem]⟩ (by simp[go_sem]) ?_⟩
 rintro _ rs ⟨rfl,rfl⟩
 simp[go_sem]
 refine zq (fun h=>?_) (fun h=>?_)
 ·simp[go_sem]
  exact zn (.p (.int .i64 (-1))) rfl (by simp[go_sem,zg,leA]) ⟨rfl,by rw[X4,if_pos h]⟩
 ·simp[go_sem]
  refine zq (fun h2=>?_) (fun h2=>?_)
  ·simp[go_sem]
   exact zn (.p (.int .i64 1)) rfl (by simp[go_sem,zg,leA]) ⟨rfl,by rw[X4,if_neg h,if_pos h2]⟩
  ·simp[go_sem]
   exact zn (.p (.int .i64 0)) rfl (by simp[go_sem,zg,leA]) ⟨rfl,by rw[X4,if_neg h,if_neg h2]⟩
theorem Wz [Gi](s t:Span):CR Tryz.prog 107 [] [.p (zO s),.p (zO t)] [] (is (.p (.int .i64 (X4 s.f t.f)))):=by
 refine zH mixed 5 [] Tryz.func107 rfl (by kernel_rfl) rfl (by simp) (by simp) ?_
 simp[go_sem,Tryz.f107,zO]
 refine⟨⟨rfl,by simp[Tryz.f108]⟩,zh [] (za1 s.f t.f) (by simp[go_sem]) ⟨by simp[go_sem],by simp[go_sem]⟩ (by simp[go_sem]) ?_⟩
 rintro _ rs ⟨rfl,rfl⟩
 simp[go_sem]
 exact zn (.p (.int .i64 (X4 s.f t.f))) rfl (by simp[go_sem,zg,leA]) ⟨rfl,rfl⟩
def byV:PV:=.opq (.func (.func 107) #[] #[])
def Up(l:List Span):Prop:=∀(i j:Nat) (x y:Span),i≤j→l[i]?=some x→l[j]?=some y→x.f≤y.f
theorem Up.cmp {l:List Span}(h:Up l) {i j:Nat}(hij:i≤j)(hi:i<l.length)(hj:j<l.length):¬X4 l[j].f l[i].f<0:=by
 have:=h i j l[i] l[j] hij (List.getElem?_eq_getElem hi) (List.getElem?_eq_getElem hj)
 unfold X4
 rw[if_neg (by omega)]
 split<;>omega
theorem u5 [Gi](l:List Span)(i j:Nat)(n:Int)(hU:Up l)(hij:i≤j)(hj:j<l.length):CR Tryz.prog 241 [[0]] [.p (zA l),.p (.int .i64 i),.p (.int .i64 j),.lp [0] 0,.p byV] [([0],[.p (.int .i64 n)])]
  (fun x rs=>x=.tup [.p (.int .i64 i),.p (.int .i64 j)]∧rs=[([0],[.p (.int .i64 n)])]):=by
 have hi:i<l.length:=by omega
 have m1:=zu zO l i hi
 have m2:=zu zO l j hj
 have hc:=hU.cmp hij hi hj
 refine zH mixed 12 [] Tryz.func241 rfl (by kernel_rfl) rfl (by simp) (by simp) ?_
 simp[go_sem,Tryz.f241,zA,byV,m1,m2,hi,hj,zO]
 refine⟨⟨rfl,by simp[Tryz.f107]⟩,zh [] (Wz l[j] l[i]) (by simp[go_sem,z6]) ⟨by simp[go_sem],by simp[go_sem,zO]⟩ (by simp[go_sem]) ?_⟩
 rintro _ rs ⟨rfl,rfl⟩
 simp[go_sem,hc]
 exact zt [[0]] (.tup [.p (.int .i64 i),.p (.int .i64 j)]) ⟨rfl,by simp⟩ (by simp[go_sem,zg,leA,leT,leP]) ⟨rfl,by simp[go_sem]⟩
theorem Jg [Gi](l:List Span)(i j k:Nat)(n:Int)(hU:Up l)(hij:i≤j)(hjk:j≤k)(hk:k<l.length):CR Tryz.prog 229 [[0]] [.p (zA l),.p (.int .i64 i),.p (.int .i64 j),.p (.int .i64 k),.lp [0] 0,.p byV] [([0],[.p (.int .i64 n)])]
  (fun x rs=>x=.p (.int .i64 j)∧rs=[([0],[.p (.int .i64 n)])]):=by
 refine zH mixed 14 [] Tryz.func229 rfl (by kernel_rfl) rfl (by simp) (by simp) ?_
 simp[go_sem,Tryz.f229]
 refine⟨⟨rfl,by simp[Tryz.f241]⟩,zh [([0],[0])] (u5 l i j n hU hij (by omega)) (by simp[go_sem,z6]) ⟨by simp[go_sem],by simp[go_sem]⟩ (by simp[go_sem]) ?_⟩
 rintro _ rs ⟨rfl,rfl⟩
 simp[go_sem]
 refine⟨⟨rfl,by simp[Tryz.f241]⟩,zh [([0],[0])] (u5 l j k n hU hjk hk) (by simp[go_sem,z6]) ⟨by simp[go_sem],by simp[go_sem]⟩ (by simp[go_sem]) ?_⟩
 rintro _ rs ⟨rfl,rfl⟩
 simp[go_sem]
 refine⟨⟨rfl,by simp[Tryz.f241]⟩,zh [([0],[0])] (u5 l i j n hU hij (by omega)) (by simp[go_sem,z6]) ⟨by simp[go_sem],by simp[go_sem]⟩ (by simp[go_sem]) ?_⟩
 rintro _ rs ⟨rfl,rfl⟩
 simp[go_sem]
 exact zt [[0]] (.p (.int .i64 j)) ⟨rfl,by simp⟩ (by simp[go_sem,zg,leA,leT]) ⟨rfl,by simp[go_sem]⟩
theorem yw [Gi](l:List Span)(i:Nat)(n:Int)(hU:Up l)(hi:1≤i)(hk:i+1<l.length)(hn:l.length<2^31):CR Tryz.prog 228 [[0]] [.p (zA l),.p (.int .i64 i),.lp [0] 0,.p byV] [([0],[.p (.int .i64 n)])]
  (fun x rs=>x=.p (.int .i64 i)∧rs=[([0],[.p (.int .i64 n)])]):=by
 have w1:IntKind.i64.wrap ((i:Int)-1)=((i-1:Nat):Int):=by rw[wrap64 (by omega) (by omega)];omega
 have w2:IntKind.i64.wrap ((i:Int)+1)=((i+1:Nat):Int):=by rw[wrap64 (by omega) (by omega)];omega
 refine zH mixed 9 [] Tryz.func228 rfl (by kernel_rfl) rfl (by simp) (by simp) ?_
 simp[go_sem,Tryz.f228,w1,w2]
 refine⟨⟨rfl,by simp[Tryz.f229]⟩,zh [([0],[0])] (Jg l (i-1) i (i+1) n hU (by omega) (by omega) hk) (by simp[go_sem,z6]) ⟨by simp[go_sem],by simp[go_sem]⟩ (by simp[go_sem]) ?_⟩
 rintro _ rs ⟨rfl,rfl⟩
 simp[go_sem]
 exact zt [[0]] (.p (.int .i64 i)) ⟨rfl,by simp⟩ (by simp[go_sem,zg,leA,leT]) ⟨rfl,by simp[go_sem]⟩
structure j8(l:List Row):Prop where
 ne:l≠ []
 n:l.length<2^31
 p:∀x∈l,x.k=2→(0≤x.f∧x.f<1114112)∧(0≤x.a∧x.a<1114112)∧0≤x.b∧x.b<1114112
theorem j8.first {l:List Row}(h:j8 l):∃r,elemAt (l.map rowP) 0=rowP r:=by
 cases l with
 |nil=>exact absurd rfl h.ne
 |cons r l=>exact⟨r,rfl⟩
def Zd(r:Int):Prop:= -2147483648≤r∧r<2147483648
def Xz(l:List Row)(r:Int):Option (Int×Int):=match rowAt l 2 r with
 |some x=>if x.a=0∧x.b=0 then none else some (x.a,x.b)
 |none=>none
theorem zdn {l:List Row} {k r:Int} {x:Row}(h:rowAt l k r=some x):x∈l∧x.k=k:=by
 unfold rowAt at h
 split at h
 ·cases h
 ·refine⟨List.mem_of_find?_eq_some h,?_⟩
  have:=List.find?_some h
  simp only[VK,Bool.and_eq_true,decide_eq_true_eq]at this
  exact this.1.1
theorem zeY {l:List Row}(hl:j8 l) {r:Int} {p:Int×Int}(h:Xz l r=some p):(0≤p.1∧p.1<1114112)∧0≤p.2∧p.2<1114112:=by
 unfold Xz at h
 split at h
 ·rename_i x hx
  obtain⟨h1,h2⟩:=zdn hx
  have:=hl.p x h1 h2
  split at h
  ·cases h
  ·injection h with h;subst h;exact this.2
 ·cases h
def zlr(l:List Row)(r:Int):Bool:=match Xz l r with
 |none=>false
 |some p=>decide (p.2=0) || decide (aL l 3 r=1) ||!decide (aL l 1 r=0) ||!decide (aL l 1 p.1=0)
def VE(l:List Row)(x y:Int)(acc:Option Int)(w:Row):Option Int:=
 if w.k=2∧w.a=x∧w.b=y∧y≠0∧Xz l w.f=some (x,y)∧zlr l w.f=false∧(∀z,acc=some z→w.f<z)then some w.f else acc
def zhR(l:List Row)(x y:Int):Option Int:=l.foldl (VE l x y) none
def zI(l:List Row)(i:Int):Int:=if 44032≤i∧i≤55203 then(if(i-44032)%28=0 then 12 else 13)else aL l 4 i
def Qh(l:List Row)(i:Int):Int:=if aL l 6 i≠0 then aL l 6 i else if(zI l i=4∨zI l i=5)∧i≠8204 then 3 else 0
def xn(a:Int):Bool:=decide (a=3) || (decide (a=1) || decide (a=2))
def zg9(a b:Int):Bool:=
 if a=9 then decide (b=9) || (decide (b=10) || (decide (b=12) || decide (b=13)))
 else if a=12∨a=10 then decide (b=10) || decide (b=11)
 else if a=13∨a=11 then decide (b=11)
 else false
theorem zfx [Gi](l:List Span)(hU:Up l)(h12:12<l.length)(hn:l.length<2^31):CR Tryz.prog 200 [] [.p (zA l),.p (.int .i64 0),.p (.int .i64 l.length),.p byV] []
  (fun x rs=>(∃p:Int,x=.tup [.p (.int .i64 p),.p (.int .i64 1)])∧rs=[]):=by
 obtain⟨q,hq⟩:∃q,q=l.length/4:=⟨_,rfl⟩
 obtain⟨r2,hr2⟩:∃r,r=q*2:=⟨_,rfl⟩
 obtain⟨r3,hr3⟩:∃r,r=q*3:=⟨_,rfl⟩
 have hq3:3≤q:=by omega
 have d1:(l.length:Int).tdiv 4=(q:Int):=by rw[hq];rfl
 have w0:IntKind.i64.wrap (l.length:Int)=l.length:=wrap64 (by omega) (by omega)
 have w1:IntKind.i64.wrap (q:Int)=q:=wrap64 (by omega) (by omega)
 have w2:IntKind.i64.wrap ((q:Int)*2)=(r2:Int):=by rw[wrap64 (by omega) (by omega)];omega
 have w3:IntKind.i64.wrap ((q:Int)*3)=(r3:Int):=by rw[wrap64 (by omega) (by omega)];omega
 have w5:IntKind.i64.wrap (r2:Int)=(r2:Int):=wrap64 (by omega) (by omega)
 have w6:IntKind.i64.wrap (r3:Int)=(r3:Int):=wrap64 (by omega) (by omega)
 have e8:(8:Int)≤(l.length:Int):=by omega
 refine zH mixed 15 [55] Tryz.func200 rfl (by kernel_rfl) rfl (by simp) (by simp) ?_
 simp (maxSteps:=1000000) [go_sem,Tryz.f200,d1,w0,w1,w2,w3,w5,w6,e8]
 refine Zn (fun _:Unit=>True) (fun _=>[(12,.p (.int .i64 q)),(13,.p (.int .i64 r2)),(14,.p (.int .i64 r3))]) (fun _=>[]) (zq (fun h=>?_) (fun h=>?_)) ?_
 ·simp (maxSteps:=1000000) [go_sem]
  refine⟨⟨rfl,by simp[Tryz.f228]⟩,zh [([0],[11])] (yw l q 0 hU (by omega) (by omega) hn) (by simp[go_sem,z6]) ⟨by simp[go_sem],by simp[go_sem]⟩ (by simp[go_sem]) ?_⟩
  rintro _ rs ⟨rfl,rfl⟩
  simp (maxSteps:=1000000) [go_sem]
  refine⟨⟨rfl,by simp[Tryz.f228]⟩,zh [([0],[11])] (yw l r2 0 hU (by omega) (by omega) hn) (by simp[go_sem,z6]) ⟨by simp[go_sem],by simp[go_sem]⟩ (by simp[go_sem]) ?_⟩
  rintro _ rs ⟨rfl,rfl⟩
  simp (maxSteps:=1000000) [go_sem]
  refine⟨⟨rfl,by simp[Tryz.f228]⟩,zh [([0],[11])] (yw l r3 0 hU (by omega) (by omega) hn) (by simp[go_sem,z6]) ⟨by simp[go_sem],by simp[go_sem]⟩ (by simp[go_sem]) ?_⟩
  rintro _ rs ⟨rfl,rfl⟩
  simp (maxSteps:=1000000) [go_sem]
  exact zR () trivial (by simp[go_sem])
 ·simp (maxSteps:=1000000) [go_sem]
  exact zR () trivial (by simp[go_sem])
 ·rintro _ ts _
  simp (maxSteps:=1000000) [go_sem]
  refine⟨⟨rfl,by simp[Tryz.f229]⟩,zh [([0],[11])] (Jg l q r2 r3 0 hU (by omega) (by omega) (by omega)) (by simp[go_sem,z6]) ⟨by simp[go_sem],by simp[go_sem]⟩ (by simp[go_sem]) ?_⟩
  rintro _ rs ⟨rfl,rfl⟩
  simp (maxSteps:=1000000) [go_sem]
  exact zt [] (.tup [.p (.int .i64 r2),.p (.int .i64 1)]) ⟨rfl,by simp⟩ (by simp[go_sem,zg,leA,leT,leP]) ⟨⟨_,rfl⟩,by simp[go_sem]⟩
theorem JU [Gi](l:List Span)(hU:Up l)(hn:l.length<2^31):CR Tryz.prog 197 [] [.p (zA l),.p (.int .i64 0),.p (.int .i64 l.length),.p byV] [] (is (.tup [])):=by
 refine zN [200006] mixed 10 [] Tryz.func197 rfl (by kernel_rfl) rfl (by simp) (by simp) ?_
 simp (maxSteps:=1000000) [go_sem,Tryz.f197]
 refine zF (fun m:Nat=>m+1≤l.length∨m=0) (fun m=>[(8,.p (.int .i64 ((m:Int)+1)))]) (fun _=>[]) (fun m=>l.length-m) 0 (.inr rfl) (by simp[go_sem,LeS,leV,leR,leA,wrap64]) (fun m hm=>?_)
 simp (maxSteps:=1000000) [go_sem]
 refine zq (fun h=>?_) (fun h=>?_)
 ·simp (maxSteps:=1000000) [go_sem]
  have w1:IntKind.i64.wrap ((m:Int)+1+1)=(m:Int)+1+1:=wrap64 (by omega) (by omega)
  have w2:IntKind.i64.wrap (m:Int)=m:=wrap64 (by omega) (by omega)
  have hkl:m+1<l.length:=by omega
  have m1:=zu zO l (m+1) hkl
  have m2:=zu zO l m (by omega)
  have hc:=hU.cmp (i:=m) (j:=m+1) (by omega) (by omega) hkl
  have e0:(0:Int)< (m:Int)+1:=by omega
  have e1:(0:Int)≤(m:Int)+1:=by omega
  have e2:(m:Int)+1<l.length:=by omega
  have e3:m<l.length:=by omega
  have e4:((m:Int)+1).toNat=m+1:=by omega
  refine zF (fun _:Unit=>True) (fun _=>[(9,.p (.int .i64 ((m:Int)+1)))]) (fun _=>[]) (fun _=>0) () trivial (by simp[go_sem,LeS,leV,leR,leA]) (fun _ _=>?_)
  simp (maxSteps:=1000000) [go_sem,byV,zA,w2,m1,m2,e0,e1,e2,e3,e4,zO]
  refine⟨⟨rfl,by simp[Tryz.f107]⟩,zh [] (Wz l[m+1] (l[m]'e3)) (by simp[go_sem]) ⟨by simp[go_sem],by simp[go_sem,zO]⟩ (by simp[go_sem]) ?_⟩
  rintro _ rs ⟨rfl,rfl⟩
  simp (maxSteps:=1000000) [go_sem,hc,w1]
  exact zj (m+1) (.inl (by omega)) (by simp[go_sem,LeS,leV,leR,leA]) (by omega)
 ·simp (maxSteps:=1000000) [go_sem]
  exact zn (.tup []) rfl (by simp[go_sem,zg,leT,leP]) ⟨rfl,rfl⟩
theorem zaF [Gi](l:List Span)(hU:Up l)(h0:0<l.length)(hn:l.length<2^31):CR Tryz.prog 202 [] [.p (zA l),.p (.int .i64 0),.p (.int .i64 l.length),.p byV] [] (is (.p (.bool true))):=by
 refine zN [200011,200017,200023] mixed 13 [] Tryz.func202 rfl (by kernel_rfl) rfl (by simp) (by simp) ?_
 simp (maxSteps:=1000000) [go_sem,Tryz.f202]
 refine zF (fun _:Unit=>True) (fun _=>[]) (fun _=>[]) (fun _=>0) () trivial (by simp[go_sem,LeS,leV,leR,leA]) (fun _ _=>?_)
 simp (maxSteps:=1000000) [go_sem,wrap64]
 refine zF (fun m:Nat=>m+1≤l.length) (fun m=>[(9,.p (.int .i64 ((m:Int)+1)))]) (fun _=>[]) (fun m=>l.length-m) 0 (by omega) (by simp[go_sem,LeS,leV,leR,leA]) (fun m hm=>?_)
 have w1:IntKind.i64.wrap ((m:Int)+1+1)=(m:Int)+1+1:=wrap64 (by omega) (by omega)
 have w2:IntKind.i64.wrap (m:Int)=m:=wrap64 (by omega) (by omega)
 by_cases hkl:m+1<l.length
 ·have m1:=zu zO l (m+1) hkl
  have m2:=zu zO l m (by omega)
  have hc:=hU.cmp (i:=m) (j:=m+1) (by omega) (by omega) hkl
  have e1:(0:Int)≤(m:Int)+1:=by omega
  have e2:(m:Int)+1<l.length:=by omega
  have e3:m<l.length:=by omega
  have e4:((m:Int)+1).toNat=m+1:=by omega
  simp (maxSteps:=1000000) [go_sem,byV,zA,w2,m1,m2,e1,e2,e3,e4,zO]
  refine⟨⟨rfl,by simp[Tryz.f107]⟩,zh [] (Wz l[m+1] (l[m]'e3)) (by simp[go_sem]) ⟨by simp[go_sem],by simp[go_sem,zO]⟩ (by simp[go_sem]) ?_⟩
  rintro _ rs ⟨rfl,rfl⟩
  simp (maxSteps:=1000000) [go_sem,hc,w1]
  exact zj (m+1) (by omega) (by simp[go_sem,LeS,leV,leR,leA]) (by omega)
 ·have e2:¬(m:Int)+1<l.length:=by omega
  have e3:(m:Int)+1=l.length:=by omega
  simp (maxSteps:=1000000) [go_sem,e3]
  exact zn (.p (.bool true)) rfl (by simp[go_sem,zg,leA,leT]) ⟨rfl,rfl⟩
def vq:List UInt8:=[0,1,2,2,3,3,3,3,4,4,4,4,4,4,4,4,5,5,5,5,5,5,5,5,5,5,5,5,5,5,5,5,6,6,6,6,6,6,6,6,6,6,6,6,6,6,6,6,6,6,6,6,6,6,6,6,6,6,6,6,6,6,6,6,7,7,7,7,7,7,7,7,7,7,7,7,7,7,7,7,7,7,7,7,7,7,7,7,7,7,7,7,7,7,7,7,7,7,7,7,7,7,7,7,7,7,7,7,7,7,7,7,7,7,7,7,7,7,7,7,7,7,7,7,7,7,7,7,8,8,8,8,8,8,8,8,8,8,8,8,8,8,8,8,8,8,8,8,8,8,8,8,8,8,8,8,8,8,8,8,8,8,8,8,8,8,8,8,8,8,8,8,8,8,8,8,8,8,8,8,8,8,8,8,8,8,8,8,8,8,8,8,8,8,8,8,8,8,8,8,8,8,8,8,8,8,8,8,8,8,8,8,8,8,8,8,8,8,8,8,8,8,8,8,8,8,8,8,8,8,8,8,8,8,8,8,8,8,8,8,8,8,8,8,8,8,8,8,8,8,8,8,8,8,8,8]
theorem zcT:((List.range 256).all fun n=>n==0 || (decide (1≤(vq.getD n 0).toNat)&&decide ((vq.getD n 0).toNat≤8)))=true:=by decide
theorem zcW {n:Nat}(h1:1≤n)(h2:n<256):1≤zB vq n∧zB vq n≤8:=by
 have:=List.all_eq_true.1 zcT n (List.mem_range.2 h2)
 have hn:(n==0)=false:=by simp;omega
 rw[hn]at this
 simp only[Bool.false_or,Bool.and_eq_true,decide_eq_true_eq]at this
 unfold zB
 omega
theorem zei [Gi](n:Nat)(h1:1≤n)(h2:n<256):CR Tryz.prog 206 [] [.p (.int .u64 n)] [] (fun x rs=>(∃k:Int,k≠0∧x=.p (.int .i64 k))∧rs=[]):=by
 refine zH mixed 3 [] Tryz.func206 rfl (by kernel_rfl) rfl (by simp) (by simp) ?_
 have e1:¬(4294967296:Int)≤n:=by omega
 have e2:¬(65536:Int)≤n:=by omega
 have e3:¬(256:Int)≤n:=by omega
 have w:IntKind.u8.wrap (n:Int)=n:=by simp[IntKind.wrap,IntKind.signed,IntKind.bits];omega
 simp (maxSteps:=1000000) [go_sem,Tryz.f206,e1,e2,e3,w]
 have ht:=zcW h1 h2
 refine⟨by omega,zt [] (.p (.int .i64 (IntKind.i64.wrap (IntKind.i64.wrap (zB vq n))))) ⟨rfl,by simp⟩ (by simp[go_sem,zg,leA,leT,vq]) ⟨⟨_,?_,rfl⟩,by simp[go_sem]⟩⟩
 rw[wrap64 (x:=zB vq n) (by omega) (by omega),wrap64 (by omega) (by omega)]
 omega
theorem ziW [Gi](n:Nat)(h1:1≤n)(h2:n<256):CR Tryz.prog 164 [] [.p (.int .u64 n)] [] (fun x rs=>(∃k:Int,k≠0∧x=.p (.int .i64 k))∧rs=[]):=by
 refine zH mixed 3 [] Tryz.func164 rfl (by kernel_rfl) rfl (by simp) (by simp) ?_
 simp (maxSteps:=1000000) [go_sem,Tryz.f164]
 refine⟨⟨rfl,by simp[Tryz.f206]⟩,zh [] (zei n h1 h2) (by simp[go_sem]) ⟨by simp[go_sem],by simp[go_sem]⟩ (by simp[go_sem]) ?_⟩
 rintro _ rs ⟨⟨k,hk,rfl⟩,rfl⟩
 simp (maxSteps:=1000000) [go_sem]
 exact zt [] (.p (.int .i64 k)) ⟨rfl,by simp⟩ (by simp[go_sem,zg,leA,leT]) ⟨⟨_,hk,rfl⟩,by simp[go_sem]⟩
theorem ziU [Gi](l:List Span)(k:Int)(hk:k≠0)(hU:Up l)(hn:l.length<256):CR Tryz.prog 163 [] [.p (zA l),.p (.int .i64 0),.p (.int .i64 l.length),.p (.int .i64 k),.p byV] [] (is (.tup [])):=by
 have w0:IntKind.i64.wrap (l.length:Int)=l.length:=wrap64 (by omega) (by omega)
 refine zH mixed 21 [] Tryz.func163 rfl (by kernel_rfl) rfl (by simp) (by simp) ?_
 simp (maxSteps:=1000000) [go_sem,Tryz.f163]
 refine zF (fun _:Unit=>True) (fun _=>[]) (fun _=>[]) (fun _=>0) () trivial (by simp[go_sem,LeS,leV,leR,leA]) (fun _ _=>?_)
 simp (maxSteps:=1000000) [go_sem,w0]
 refine zq (fun h=>?_) (fun h=>?_)
 ·simp (maxSteps:=1000000) [go_sem]
  refine⟨⟨rfl,by simp[Tryz.f197]⟩,zh [] (JU l hU (by omega)) (by simp[go_sem]) ⟨by simp[go_sem],by simp[go_sem]⟩ (by simp[go_sem]) ?_⟩
  rintro _ rs ⟨rfl,rfl⟩
  simp (maxSteps:=1000000) [go_sem]
  exact zn (.tup []) rfl (by simp[go_sem,zg,leT,leP]) ⟨rfl,rfl⟩
 ·simp (maxSteps:=1000000) [go_sem,hk]
  refine⟨⟨rfl,by simp[Tryz.f200]⟩,zh [] (zfx l hU (by omega) (by omega)) (by simp[go_sem]) ⟨by simp[go_sem],by simp[go_sem]⟩ (by simp[go_sem]) ?_⟩
  rintro _ rs ⟨⟨p,rfl⟩,rfl⟩
  simp (maxSteps:=1000000) [go_sem]
  refine⟨⟨rfl,by simp[Tryz.f202]⟩,zh [] (zaF l hU (by omega) (by omega)) (by simp[go_sem]) ⟨by simp[go_sem],by simp[go_sem]⟩ (by simp[go_sem]) ?_⟩
  rintro _ rs ⟨rfl,rfl⟩
  simp (maxSteps:=1000000) [go_sem]
  exact zn (.tup []) rfl (by simp[go_sem,zg,leT,leP]) ⟨rfl,rfl⟩
theorem zg1 [Gi](l:List Span)(hU:Up l)(h1:1≤l.length)(hn:l.length<256):CR Tryz.prog 110 [] [.p (zA l),.p byV] [] (is (.tup [])):=by
 have w0:IntKind.u64.wrap (l.length:Int)=l.length:=by simp[IntKind.wrap,IntKind.signed,IntKind.bits];omega
 refine zH mixed 5 [] Tryz.func110 rfl (by kernel_rfl) rfl (by simp) (by simp) ?_
 simp (maxSteps:=1000000) [go_sem,Tryz.f110,zA,w0]
 refine⟨⟨rfl,by simp[Tryz.f164]⟩,zh [] (ziW l.length h1 hn) (by simp[go_sem]) ⟨by simp[go_sem],by simp[go_sem]⟩ (by simp[go_sem]) ?_⟩
 rintro _ rs ⟨⟨k,hk,rfl⟩,rfl⟩
 simp (maxSteps:=1000000) [go_sem]
 refine⟨⟨rfl,by simp[Tryz.f163]⟩,zh [] (ziU l k hk hU hn) (by simp[go_sem]) ⟨by simp[go_sem],by simp[go_sem,zA]⟩ (by simp[go_sem]) ?_⟩
 rintro _ rs ⟨rfl,rfl⟩
 simp (maxSteps:=1000000) [go_sem]
 exact zn (.tup []) rfl (by simp[go_sem,zg,leT,leP]) ⟨rfl,rfl⟩
def xv(init:List Span)(o:Span):List Span→List Span
 | []=>init++[o]
 |s::l=>if o.t+1=s.f∧o.a=s.a∧o.b=s.b then xv init {o with t:=s.t} l else xv (init++[o]) s l
def Zq:List Span→List Span
 | []=>[]
 |s::l=>xv [] s l
def xO(s:Span):List AV:=[.p (.int .i64 s.f),.p (.int .i64 s.t),.p (.int .i64 s.a),.p (.int .i64 s.b)]
def ZI(l:List Span):List AV:=((l.map zO).flatMap PV.cells).map .p
theorem yO(l:List Span):(ZI l).length=l.length*4:=by
 induction l with
 |nil=>rfl
 |cons s l ih=>
  simp[ZI,zO,PV.cells]at ih⊢
  omega
theorem Uj(l:List Span)(o:Span):ZI (l++[o])=ZI l++xO o:=by
 simp[ZI,xO,zO,PV.cells]
theorem j6(l:List Span)(a b:Tok→Bool):(ZI l).map (AV.upd (AM.fil a b))=ZI l:=by
 unfold ZI
 rw[List.map_map]
 rfl
theorem zcE(o:Span)(a b:Tok→Bool):(xO o).map (AV.upd (AM.fil a b))=xO o:=rfl
theorem u7(l:List Span)(o:Span)(j:Nat):(ZI l++xO o)[l.length*4+j]?=(xO o)[j]?:=by
 rw[←yO,List.getElem?_append_right (by omega)]
 congr 1
 omega
theorem Yl(l:List Span)(a b c d y:AV):zL (ZI l++[a,b,c,d]) (l.length*4+1) [y]=ZI l++[a,y,c,d]:=by
 have e:(ZI l).length=l.length*4:=yO l
 unfold zL
 rw[←e,List.take_length_add_append,List.length_singleton,Nat.add_assoc,List.drop_length_add_append]
 simp
theorem Ki(l:List Span)(a b c d y:AV):(ZI l++[a,b,c,d]).take (l.length*4+1)++y::(ZI l++[a,b,c,d]).drop (l.length*4+1+1)=ZI l++[a,y,c,d]:=by
 have:=Yl l a b c d y
 simpa[zL]using this
def zbH(l:List Span)(k:Nat):Option (List Span×Span)→St
 |none=>{n:=61,nv:=10,vs:=[(3,.p (.opq (.slice none 0 0))),(7,.p (zA l)),(8,.p (.int .i64 l.length)),(9,.p (.int .i64 k))],ts:=[],rs:=[],rm:=[3,57,58]}
 |some (init,o)=>{n:=61,nv:=10,vs:=[(3,.la [58] 4 0 (init.length+1)),(7,.p (zA l)),(8,.p (.int .i64 l.length)),(9,.p (.int .i64 k))],ts:=[],rs:=[([58],ZI init++xO o)],rm:=[3,57,58]}
def zj5(l:List Span)(k:Nat):Option (List Span×Span)→Prop
 |none=>k=0
 |some (init,o)=>k≤l.length∧Zq l=xv init o (l.drop k)∧init.length<k∧ -1000000000≤o.t∧o.t≤1000000000
theorem zam [Gi](l:List Span)(hn:l.length<2^31)(hb:∀s∈l, -1000000000≤s.t∧s.t≤1000000000):CR Tryz.prog 111 [] [.p (zA l)] [] (fun x rs=>(l=[]∧x=.p (.sl 4 [])∧rs=[])∨(0< (Zq l).length∧x=.la [58] 4 0 (Zq l).length∧rs=[([58],ZI (Zq l))])):=by
 refine QX [] mixed 10 [] Tryz.func111 rfl (by kernel_rfl) [3,57,58] rfl (by simp) (by simp) ?_
 simp (disch:=omega) [go_sem,Tryz.f111,zA]
 refine QT (fun i:Nat×Option (List Span×Span)=>zj5 l i.1 i.2) (fun i=>zbH l i.1 i.2) (fun i=>l.length-i.1) (0,none) rfl (by simp[go_sem,LeS,leV,leR,leA,zA,zbH]) ?_
 rintro⟨k,_|⟨init,o⟩⟩ hI
 ·have hk:k=0:=hI
  subst hk
  simp (disch:=omega) [go_sem,zbH,zA]
  refine zq (fun h=>?_) (fun h=>?_)
  ·have em:=zu zO l 0 h
   have hx:=hb l[0] (List.getElem_mem h)
   have hl:l=l[0]::l.drop 1:=by
    have:=List.drop_eq_getElem_cons h
    simpa using this
   have hj:Zq l=xv [] l[0] (l.drop 1):=by
    conv=>lhs;rw[hl]
    rfl
   generalize l[0]=x at em hx hj
   simp (disch:=omega) [go_sem,em,h,zO]
   refine⟨by decide,zj (1,some ([],x)) ⟨by show 1≤l.length;omega,hj,by simp,hx.1,hx.2⟩ ?_ ?_⟩
   ·simp[go_sem,LeS,leV,leR,leA,leL,ZI,xO]
    decide
   ·show l.length-1<l.length-0
    omega
  ·have hl:l=[]:=List.length_eq_zero_iff.1 (by omega)
   simp (disch:=omega) [go_sem]
   exact zt [] (.p (.sl 4 [])) ⟨rfl,by simp⟩ (by simp[go_sem,zg,leA,leT]) (.inl ⟨hl,rfl,rfl⟩)
 ·obtain⟨h1,h2,h3,h5,h6⟩:=hI
  simp only at h1 h2 h3
  simp (disch:=omega) [go_sem,zbH,zA]
  refine zq (fun h=>?_) (fun h=>?_)
  ·have em:=zu zO l k h
   have w0:IntKind.i64.wrap (init.length:Int)=(init.length:Int):=wrap64 (by omega) (by omega)
   have w1:IntKind.i64.wrap (o.t+1)=o.t+1:=wrap64 (by omega) (by omega)
   have w2:IntKind.i64.wrap ((k:Int)+1)=(k:Int)+1:=wrap64 (by omega) (by omega)
   have g1:=u7 init o 1
   have g2:=u7 init o 2
   have g3:=u7 init o 3
   simp only[xO,List.getElem?_cons_succ,List.getElem?_cons_zero]at g1 g2 g3
   have hi:(init.length:Int)< (init.length:Int)+1:=by omega
   have hx:=hb l[k] (List.getElem_mem h)
   have hd:l.drop k=l[k]::l.drop (k+1):=List.drop_eq_getElem_cons h
   rw[hd,xv]at h2
   generalize l[k]=x at em hx h2
   simp (disch:=omega) [go_sem,em,h,zO,w0,w1,j6,xO,g1,g2,g3,hi]
   refine qn (fun hc=>?_) (fun hc=>?_)
   ·have hc':o.t+1=x.f∧o.a=x.a∧o.b=x.b:=by
     simp at hc
     exact⟨hc.1.1,hc.1.2,hc.2⟩
    rw[if_pos hc']at h2
    simp (disch:=omega) [go_sem,w2,yO,hi]
    exact zj (k+1,some (init,{o with t:=x.t})) ⟨by show k+1≤l.length;omega,h2,by show init.length<k+1;omega,hx.1,hx.2⟩ (by simp[go_sem,LeS,leV,leR,leA,Ki,j6,zl]) (by show l.length- (k+1)<l.length-k;omega)
   ·have hc':¬(o.t+1=x.f∧o.a=x.a∧o.b=x.b):=by
     intro e
     simp[e]at hc
    rw[if_neg hc']at h2
    simp (disch:=omega) [go_sem,w2,j6,yO]
    refine⟨⟨by omega,by omega⟩,?_⟩
    exact zj (k+1,some (init++[o],x)) ⟨by show k+1≤l.length;omega,h2,by show(init++[o]).length<k+1;simp;omega,hx.1,hx.2⟩ (by simp[go_sem,LeS,leV,leR,leA,xO,Uj,j6,zl]) (by show l.length- (k+1)<l.length-k;omega)
  ·have hk:k=l.length:=by omega
   subst hk
   simp (disch:=omega) [go_sem]
   rw[List.drop_length]at h2
   refine zt [[58]] (.la [58] 4 0 (Zq l).length) ⟨rfl,by simp⟩ (by simp[go_sem,zg,leA,leT,h2,xv]) ?_
   refine .inr ⟨by rw[h2];simp[xv],rfl,?_⟩
   simp[go_sem,j6,zcE,h2,xv,Uj]
theorem zcQ [Gi](l:List Span)(hn:l.length<2^31)(hb:∀s∈l, -1000000000≤s.t∧s.t≤1000000000):CR Tryz.prog 111 [] [.p (zA l)] [] (is (.p (zA (Zq l)))):=by
 refine CR.freeze (zam l hn hb) (fun _=>false) rfl ?_
 rintro x rs (⟨rfl,rfl,rfl⟩|⟨h0,rfl,rfl⟩)
 ·refine⟨.p (.sl 4 []),fun g w v hG hv=>?_,rfl,rfl⟩
  rw[Yg]at hv⊢
  exact zi.ext (xX hG _) _ _ hv
 ·refine⟨.p (zA (Zq l)),fun g w v hG hv=>?_,rfl,rfl⟩
  rw[Yg]
  exact ze8 hG h0 (by simp[zw,ZI]) rfl (by simp) (fun e he=>by
   obtain⟨s,_,rfl⟩:=List.mem_map.1 he
   exact⟨rfl,rfl⟩) hv
structure Piece(α:Type)where
 f:Int
 t:Int
 v:α
def qZ {α:Type}(zero:α)(i:Int):List (Piece α)→Int→α×Int
 | [],last=>(zero,last)
 |p::l,last=>if p.f≤i∧i≤p.t then(p.v,min p.t last)else if i<p.f∧p.f≤last then qZ zero i l (p.f-1)else qZ zero i l last
def vn(p:Piece Int):PV:=.agg [.int .i64 p.f,.int .i64 p.t,.int .i64 p.v]
def ko(l:List (Piece Int)):PV:=.sl 3 (l.map vn)
theorem Uo [Gi](l:List (Piece Int))(zero i last:Int)(hn:l.length<2^31)(hb:∀p∈l, -1000000000≤p.f∧p.f≤1000000000):
  CR Tryz.prog 154 [] [.p (ko l),.p (.int .i64 zero),.p (.int .i64 i),.p (.int .i64 last)] [] (is (.tup [.p (.int .i64 (qZ zero i l last).1),.p (.int .i64 (qZ zero i l last).2)])):=by
 refine zN [5] mixed 15 [] Tryz.func154 rfl (by kernel_rfl) rfl (by simp) (by simp) ?_
 simp (disch:=omega) [go_sem,Tryz.f154,ko]
 refine QT (fun k:Nat×Int=>k.1≤l.length∧qZ zero i l last=qZ zero i (l.drop k.1) k.2) (fun k=>{n:=52,nv:=15,vs:=[(1,.p (.int .i64 zero)),(2,.p (.int .i64 i)),(3,.p (.int .i64 k.2)),(8,.p (.int .i64 0)),(9,.p (.int .i64 0)),(12,.p (ko l)),(13,.p (.int .i64 l.length)),(14,.p (.int .i64 k.1))],ts:=[],rs:=[]}) (fun k=>l.length-k.1) (0,last) (by simp) (by simp[go_sem,LeS,leV,leR,leA,ko]) ?_
 rintro⟨k,la⟩ ⟨hk,hf⟩
 simp only at hk hf
 simp (disch:=omega) [go_sem,ko]
 refine zq (fun h=>?_) (fun h=>?_)
 ·have em:=zu vn l k h
  have hd:l.drop k=l[k]::l.drop (k+1):=List.drop_eq_getElem_cons h
  have hx:=hb l[k] (List.getElem_mem h)
  have w2:IntKind.i64.wrap ((k:Int)+1)=(k:Int)+1:=wrap64 (by omega) (by omega)
  rw[hd,qZ]at hf
  generalize l[k]=x at em hx hf
  have w1:IntKind.i64.wrap (x.f-1)=x.f-1:=wrap64 (by omega) (by omega)
  simp (disch:=omega) [go_sem,em,h,vn]
  refine qn (fun hc=>?_) (fun hc=>?_)
  ·have hc':x.f≤i∧i≤x.t:=by simpa using hc
   rw[if_pos hc']at hf
   simp (disch:=omega) [go_sem]
   exact zn (.tup [.p (.int .i64 x.v),.p (.int .i64 (min x.t la))]) rfl (by simp[go_sem,zg,leA]) ⟨rfl,by rw[hf]⟩
  ·have hc':¬(x.f≤i∧i≤x.t):=by intro e;simp[e]at hc
   rw[if_neg hc']at hf
   simp (disch:=omega) [go_sem]
   refine qn (fun hc2=>?_) (fun hc2=>?_)
   ·have hc3:i<x.f∧x.f≤la:=by simpa using hc2
    rw[if_pos hc3]at hf
    simp (disch:=omega) [go_sem,w1,w2]
    exact zj (k+1,x.f-1) ⟨by show k+1≤l.length;omega,hf⟩ (by simp[go_sem,LeS,leV,leR,leA]) (by show l.length- (k+1)<l.length-k;omega)
   ·have hc3:¬(i<x.f∧x.f≤la):=by intro e;simp[e]at hc2
    rw[if_neg hc3]at hf
    simp (disch:=omega) [go_sem,w2]
    exact zj (k+1,la) ⟨by show k+1≤l.length;omega,hf⟩ (by simp[go_sem,LeS,leV,leR,leA]) (by show l.length- (k+1)<l.length-k;omega)
 ·have hk':k=l.length:=by omega
  subst hk'
  rw[List.drop_length,qZ]at hf
  simp (disch:=omega) [go_sem]
  exact zn (.tup [.p (.int .i64 zero),.p (.int .i64 la)]) rfl (by simp[go_sem,zg,leA]) ⟨rfl,by rw[hf]⟩
structure Qn where
 a:Int
 b:Int
 deriving DecidableEq
def qj(p:Qn):List PV:=[.int .i32 p.a,.int .i32 p.b]
structure Flags where
 p:Bool
 w:Bool
 l:Bool
 o:Bool
 deriving DecidableEq
def z8(p:Flags):List PV:=[.bool p.p,.bool p.w,.bool p.l,.bool p.o]
def vj(p:Piece Qn):PV:=.agg (.int .i64 p.f::.int .i64 p.t::qj p.v)
def kv(l:List (Piece Qn)):PV:=.sl 4 (l.map vj)
theorem VS [Gi](l:List (Piece Qn))(zero:Qn)(i last:Int)(hn:l.length<2^31)(hb:∀p∈l, -1000000000≤p.f∧p.f≤1000000000):
  CR Tryz.prog 112 [] [.p (kv l),.p (.agg (qj zero)),.p (.int .i64 i),.p (.int .i64 last)] [] (is (.tup [.p (.agg (qj (qZ zero i l last).1)),.p (.int .i64 (qZ zero i l last).2)])):=by
 refine zN [100005] mixed 15 [] Tryz.func112 rfl (by kernel_rfl) rfl (by simp) (by simp) ?_
 simp (disch:=omega) [go_sem,Tryz.f112,kv,qj]
 refine QT (fun k:Nat×Int=>k.1≤l.length∧qZ zero i l last=qZ zero i (l.drop k.1) k.2) (fun k=>{n:=52,nv:=15,vs:=[(2,.p (.int .i64 i)),(3,.p (.int .i64 k.2)),(5,.lp [5] 0),(8,.lp [8] 0),(9,.p (.int .i64 0)),(12,.p (kv l)),(13,.p (.int .i64 l.length)),(14,.p (.int .i64 k.1))],ts:=[],rs:=[([5],(qj zero).map .p),([8],[.p (.int .i32 0),.p (.int .i32 0)])]}) (fun k=>l.length-k.1) (0,last) (by simp) (by simp[go_sem,LeS,leV,leR,leA,leL,kv,qj]) ?_
 rintro⟨k,la⟩ ⟨hk,hf⟩
 simp only at hk hf
 simp (disch:=omega) [go_sem,kv,qj]
 refine zq (fun h=>?_) (fun h=>?_)
 ·have em:=zu vj l k h
  have hd:l.drop k=l[k]::l.drop (k+1):=List.drop_eq_getElem_cons h
  have hx:=hb l[k] (List.getElem_mem h)
  have w2:IntKind.i64.wrap ((k:Int)+1)=(k:Int)+1:=wrap64 (by omega) (by omega)
  rw[hd,qZ]at hf
  generalize l[k]=x at em hx hf
  have w1:IntKind.i64.wrap (x.f-1)=x.f-1:=wrap64 (by omega) (by omega)
  simp (disch:=omega) [go_sem,em,h,vj,qj]
  refine qn (fun hc=>?_) (fun hc=>?_)
  ·have hc':x.f≤i∧i≤x.t:=by simpa using hc
   rw[if_pos hc']at hf
   simp (disch:=omega) [go_sem,List.findSome?]
   exact zn (.tup [.p (.agg (qj x.v)),.p (.int .i64 (min x.t la))]) rfl (by simp[go_sem,zg,leA,qj]) ⟨rfl,by rw[hf];rfl⟩
  ·have hc':¬(x.f≤i∧i≤x.t):=by intro e;simp[e]at hc
   rw[if_neg hc']at hf
   simp (disch:=omega) [go_sem]
   refine qn (fun hc2=>?_) (fun hc2=>?_)
   ·have hc3:i<x.f∧x.f≤la:=by simpa using hc2
    rw[if_pos hc3]at hf
    simp (disch:=omega) [go_sem,w1,w2]
    exact zj (k+1,x.f-1) ⟨by show k+1≤l.length;omega,hf⟩ (by simp[go_sem,LeS,leV,leR,leA,leL]) (by show l.length- (k+1)<l.length-k;omega)
   ·have hc3:¬(i<x.f∧x.f≤la):=by intro e;simp[e]at hc2
    rw[if_neg hc3]at hf
    simp (disch:=omega) [go_sem,w2]
    exact zj (k+1,la) ⟨by show k+1≤l.length;omega,hf⟩ (by simp[go_sem,LeS,leV,leR,leA,leL]) (by show l.length- (k+1)<l.length-k;omega)
 ·have hk':k=l.length:=by omega
  subst hk'
  rw[List.drop_length,qZ]at hf
  simp (disch:=omega) [go_sem]
  exact zn (.tup [.p (.agg (qj zero)),.p (.int .i64 la)]) rfl (by simp[go_sem,zg,leA,qj]) ⟨rfl,by rw[hf];rfl⟩
def Ua(p:Piece Flags):PV:=.agg (.int .i64 p.f::.int .i64 p.t::z8 p.v)
def kx(l:List (Piece Flags)):PV:=.sl 6 (l.map Ua)
theorem V1 [Gi](l:List (Piece Flags))(zero:Flags)(i last:Int)(hn:l.length<2^31)(hb:∀p∈l, -1000000000≤p.f∧p.f≤1000000000):
  CR Tryz.prog 159 [] [.p (kx l),.p (.agg (z8 zero)),.p (.int .i64 i),.p (.int .i64 last)] [] (is (.tup [.p (.agg (z8 (qZ zero i l last).1)),.p (.int .i64 (qZ zero i l last).2)])):=by
 refine zN [100005] mixed 15 [] Tryz.func159 rfl (by kernel_rfl) rfl (by simp) (by simp) ?_
 simp (disch:=omega) [go_sem,Tryz.f159,kx,z8]
 refine QT (fun k:Nat×Int=>k.1≤l.length∧qZ zero i l last=qZ zero i (l.drop k.1) k.2) (fun k=>{n:=52,nv:=15,vs:=[(2,.p (.int .i64 i)),(3,.p (.int .i64 k.2)),(5,.lp [5] 0),(8,.lp [8] 0),(9,.p (.int .i64 0)),(12,.p (kx l)),(13,.p (.int .i64 l.length)),(14,.p (.int .i64 k.1))],ts:=[],rs:=[([5],(z8 zero).map .p),([8],[.p (.bool false),.p (.bool false),.p (.bool false),.p (.bool false)])]}) (fun k=>l.length-k.1) (0,last) (by simp) (by simp[go_sem,LeS,leV,leR,leA,leL,kx,z8]) ?_
 rintro⟨k,la⟩ ⟨hk,hf⟩
 simp only at hk hf
 simp (disch:=omega) [go_sem,kx,z8]
 refine zq (fun h=>?_) (fun h=>?_)
 ·have em:=zu Ua l k h
  have hd:l.drop k=l[k]::l.drop (k+1):=List.drop_eq_getElem_cons h
  have hx:=hb l[k] (List.getElem_mem h)
  have w2:IntKind.i64.wrap ((k:Int)+1)=(k:Int)+1:=wrap64 (by omega) (by omega)
  rw[hd,qZ]at hf
  generalize l[k]=x at em hx hf
  have w1:IntKind.i64.wrap (x.f-1)=x.f-1:=wrap64 (by omega) (by omega)
  simp (disch:=omega) [go_sem,em,h,Ua,z8]
  refine qn (fun hc=>?_) (fun hc=>?_)
  ·have hc':x.f≤i∧i≤x.t:=by simpa using hc
   rw[if_pos hc']at hf
   simp (disch:=omega) [go_sem,List.findSome?]
   exact zn (.tup [.p (.agg (z8 x.v)),.p (.int .i64 (min x.t la))]) rfl (by simp[go_sem,zg,leA,z8]) ⟨rfl,by rw[hf];rfl⟩
  ·have hc':¬(x.f≤i∧i≤x.t):=by intro e;simp[e]at hc
   rw[if_neg hc']at hf
   simp (disch:=omega) [go_sem]
   refine qn (fun hc2=>?_) (fun hc2=>?_)
   ·have hc3:i<x.f∧x.f≤la:=by simpa using hc2
    rw[if_pos hc3]at hf
    simp (disch:=omega) [go_sem,w1,w2]
    exact zj (k+1,x.f-1) ⟨by show k+1≤l.length;omega,hf⟩ (by simp[go_sem,LeS,leV,leR,leA,leL]) (by show l.length- (k+1)<l.length-k;omega)
   ·have hc3:¬(i<x.f∧x.f≤la):=by intro e;simp[e]at hc2
    rw[if_neg hc3]at hf
    simp (disch:=omega) [go_sem,w2]
    exact zj (k+1,la) ⟨by show k+1≤l.length;omega,hf⟩ (by simp[go_sem,LeS,leV,leR,leA,leL]) (by show l.length- (k+1)<l.length-k;omega)
 ·have hk':k=l.length:=by omega
  subst hk'
  rw[List.drop_length,qZ]at hf
  simp (disch:=omega) [go_sem]
  exact zn (.tup [.p (.agg (z8 zero)),.p (.int .i64 la)]) rfl (by simp[go_sem,zg,leA,z8]) ⟨rfl,by rw[hf];rfl⟩
end
end Go.Proofs.YtfjdbbpimklecaaGreatDoor
