/- A part of this seat's proofs, by an abstract machine. Conditions: each law's. -/
import Derived.Test.YtfjdbbpimklecaaGreatDoorT33
import Derived.Test.YtfjdbbpimklecaaGreatDoorT18
import Derived.Test.YtfjdbbpimklecaaGreatDoorT34
import Derived.Test.YtfjdbbpimklecaaGreatDoorT19
import Derived.Test.YtfjdbbpimklecaaGreatDoorT30
set_option maxHeartbeats 4000000
set_option maxRecDepth 100000
namespace Go.Proofs.YtfjdbbpimklecaaGreatDoor
section
open Go.AM
attribute [go_sem] zE xE zpB qf zeQ
@[go_sem] theorem zqw : (Value.slice none 0 0).oneCell' = true := rfl
@[go_sem] theorem zp1 : (Value.pointer none).oneCell' = true := rfl
theorem call [Gi] {A:Prop} {S:St} {f:FuncId} {args:List Operand} {dst:Option Nat} {K:St→Prop}(m:List (Tok×Tok)) {pin:List Tok} {as1:List AV} {rs:List (Tok×List AV)} {R:AV→List (Tok×List AV)→Prop}(hC:CR Tryz.prog f pin as1 rs R)
  (hk:∀x rs',R x rs'→K ((v7 S (dst.getD S.n) m pin rs').qE dst (x.ren fun u=>some (Q8 (dst.getD S.n) m u))))
  (hb:A:=by exact⟨rfl,by decide+kernel⟩)
  (hm:okM (dst.getD S.n) m=true∧S.pin.all (Zq (dst.getD S.n) m pin)=true∧dOK S dst:=by simp[go_sem,zS])
  (ha:(ZM S m args).1:=by simp[go_sem]) (ha':(ZM S m args).2=as1:=by simp[go_sem]) (hr:qW S m m=rs:=by simp[go_sem]):
  A∧Yj Tryz.prog S f args dst K:=
 ⟨hb,zd m hC hm ⟨ha,ha'⟩ hr hk⟩
theorem zq [Gi] {A:Prop} {S:St} {f:FuncId} {args:List Operand} {dst:Option Nat} {K:St→Prop} {as1:List AV} {v:AV}(hC:CR Tryz.prog f [] as1 [] (is v))
  (hk:K ((v7 S (dst.getD S.n) [] [] []).qE dst (v.ren fun u=>some (Q8 (dst.getD S.n) [] u))))
  (hb:A:=by exact⟨rfl,by decide+kernel⟩)
  (hm:okM (dst.getD S.n) []=true∧S.pin.all (Zq (dst.getD S.n) [] [])=true∧dOK S dst:=by simp[go_sem,zS])
  (ha:(ZM S [] args).1:=by simp[go_sem]) (ha':(ZM S [] args).2=as1:=by simp[go_sem]):
  A∧Yj Tryz.prog S f args dst K:=
 ⟨hb,zd [] hC hm ⟨ha,ha'⟩ (by simp[go_sem]) (fun x rs' h=>by obtain⟨rfl,rfl⟩:=h;exact hk)⟩
theorem ret [Gi] {ts:List (Nat×Option TypeId)} {S:St} {x:AV}(hp:S.pin=[]:=by rfl)
  (hx:(zf Tryz.prog S ts).1∧leT ((zf Tryz.prog S ts).2.upd (AM.fil (fun _=>false) ftt)) x:=by simp[go_sem,zf,leA,leT,leP]):uT Tryz.prog [] ts (is x) S:=zg x hp hx ⟨rfl,rfl⟩
def idm(l:List Tok):List (Tok×Tok):=l.map fun t=>(t,t)
attribute [go_sem] idm St.ofR
theorem next {ι:Type} {inv:ι→Prop} {st:ι→St} {m:ι→Nat} {i:ι} {Q:Exit→St→Prop} {S:St}(j:ι)(h1:inv j)(h3:m j<m i:=by simp;omega)(h2:LeS S (st j):=by simp[go_sem,LeS,leV,leR,leA,leL,zj,leT,leP]):Kf inv st m i Q .normal S:=zi j h1 h2 h3
theorem loop [Gi] {D:List Nat} {c:Code} {Q:Exit→St→Prop} {S:St} {ι:Type}(inv:ι→Prop)(V:ι→List (Nat×AV))(R:ι→List (Tok×List AV))(m:ι→Nat)(i:ι)(hi:inv i)
  (h:∀i,inv i→wpA Tryz.prog D c (Kf inv (fun i=>S.zcH (V i) (R i)) m i Q) (S.zcH (V i) (R i))) (h0:LeS S (S.zcH (V i) (R i)):=by simp[go_sem,LeS,leV,leR,leA,leL,zj,leT,leP]):wpA Tryz.prog D (.loop c) Q S:=
 zH inv V R m i hi h0 h
theorem walk [Gi] {f:FuncId} {fn:Func} {c:Code} {ts:List (Nat×Option TypeId)}(hf:Tryz.prog.funcs[f]?=some fn)(nv:Nat) {pin:List Tok} {args:List AV} {rs:List (Tok×List AV)} {R:AV→List (Tok×List AV)→Prop}(ex:List Nat)(D:List Nat)(rm:List Nat)
  (h:wpA Tryz.prog D c (Wk Tryz.prog pin ts R) {n:=fn.ntmps,nv:=nv,vs:=ud 0 args,ts:=[],rs:=rs,pin:=pin,ex:=ex,rm:=rm}) (hb:fn.body=some c:=by exact rfl) (hok:Zt D c=true:=by kernel_rfl)
  (hres:uV fn.results.toList=some ts:=by exact rfl) (hnv:args.length≤nv:=by simp) (hn:args.length≤fn.ntmps:=by simp):CR Tryz.prog f pin args rs R:=
 uI D mixed nv ex hf hb hok rm hres hnv hn h
end
section
open Go.AM
attribute [local irreducible] za
theorem xZ [Gi](r:Int):CR Tryz.prog 234 [] [.p (.int .i32 r)] [] (is (.p (.bool (Zl r)))):=by
 refine walk Tryz.func234 3 [] [] [] ?_
 have e:Zl r=((decide (0≤r)&&decide (r≤1114111))&&(decide (r<55296) || decide (57343<r))):=by
  unfold Zl
  by_cases h1:0≤r<;>by_cases h2:r<55296<;>by_cases h3:57343<r<;>by_cases h4:r≤1114111<;>simp[h1,h2,h3,h4]<;>omega
 rw[e]
 by_cases h1:0≤r<;>by_cases h2:r≤1114111<;>by_cases h3:r<55296<;>simp (maxSteps:=1000000) [go_sem,Tryz.f234,h1,h2,h3]<;>exact ret
theorem wh [Gi](r:Int):CR Tryz.prog 214 [] [.p (.int .i32 r)] [] (is (.p (.bool (Zl r)))):=by
 refine walk Tryz.func214 3 [] [] [] ?_
 unfold Zl
 by_cases h1:0≤r<;>by_cases h2:r<55296<;>by_cases h3:57343<r<;>simp (maxSteps:=1000000) [go_sem,Tryz.f214,h1,h2,h3]<;>exact ret
def yy(r:Int):Int:=if Zl r=false then 3 else if r<128 then 1 else if r<2048 then 2 else if r<65536 then 3 else 4
theorem vM [Gi](r:Int):CR Tryz.prog 235 [] [.p (.int .i32 r)] [] (is (.p (.int .i64 (yy r)))):=by
 refine walk Tryz.func235 3 [] [] [] ?_
 simp (maxSteps:=1000000) [go_sem,Tryz.f235]
 refine zq (xZ r) ?_
 cases hv:Zl r with
 |false=>
  simp (maxSteps:=1000000) [go_sem]
  exact ret (hx:=by simp[go_sem,zf,leA,leT,yy,hv])
 |true=>
  by_cases h1:r<128
  ·simp (maxSteps:=1000000) [go_sem,h1]
   exact ret (hx:=by simp[go_sem,zf,leA,leT,yy,hv,h1])
  ·by_cases h2:r<2048
   ·simp (maxSteps:=1000000) [go_sem,h1,h2]
    exact ret (hx:=by simp[go_sem,zf,leA,leT,yy,hv,h1,h2])
   ·by_cases h3:r<65536
    ·simp (maxSteps:=1000000) [go_sem,h1,h2,h3]
     exact ret (hx:=by simp[go_sem,zf,leA,leT,yy,hv,h1,h2,h3])
    ·simp (maxSteps:=1000000) [go_sem,h1,h2,h3]
     exact ret (hx:=by simp[go_sem,zf,leA,leT,yy,hv,h1,h2,h3])
theorem wk0:IntKind.i64.wrap 0=0:=by decide
theorem wk1:IntKind.i64.wrap 1=1:=by decide
theorem wk2:IntKind.i64.wrap 2=2:=by decide
theorem wk3:IntKind.i64.wrap 3=3:=by decide
theorem zmq:∀y:Fin 64,IntKind.u8.wrap (IntKind.i32.wrap ((128#32 |||BitVec.ofInt 32 (IntKind.i32.wrap (y.1:Int))).toNat:Int))=128+(y.1:Int):=by decide+kernel
theorem cby {x y:Nat}(h:y=x%64):IntKind.u8.wrap (IntKind.i32.wrap ((128#32 |||BitVec.ofInt 32 (IntKind.i32.wrap ((BitVec.ofNat 32 x&&& 63#32).toNat:Int))).toNat:Int))=128+(y:Int):=by
 have e:(BitVec.ofNat 32 x&&& 63#32).toNat=y:=by
  rw[BitVec.toNat_and,BitVec.toNat_ofNat,show(63#32:BitVec 32).toNat=2^6-1 from rfl,Nat.and_two_pow_sub_one_eq_mod,h]
  omega
 rw[e]
 exact zmq ⟨y,by omega⟩
theorem zlZ:∀x:Fin 32,IntKind.u8.wrap ((BitVec.ofInt 8 (IntKind.u8.wrap 960) |||BitVec.ofInt 8 (IntKind.u8.wrap (x.1:Int))).toNat:Int)=192+(x.1:Int):=by decide+kernel
theorem zgC:∀x:Fin 16,IntKind.u8.wrap ((BitVec.ofInt 8 (IntKind.u8.wrap 480) |||BitVec.ofInt 8 (IntKind.u8.wrap (x.1:Int))).toNat:Int)=224+(x.1:Int):=by decide+kernel
theorem zmH:∀x:Fin 8,IntKind.u8.wrap ((BitVec.ofInt 8 (IntKind.u8.wrap 240) |||BitVec.ofInt 8 (IntKind.u8.wrap (x.1:Int))).toNat:Int)=240+(x.1:Int):=by decide+kernel
theorem zeq {x y:Nat}(h:y=x/64):(x:Int).fdiv 64=(y:Int):=by
 rw[h,Int.fdiv_eq_ediv_of_nonneg _ (by decide)];rfl
theorem Qr(a x:Nat):UInt8.ofNat ((a:Int)+(x:Int)).toNat=u8 (a+x):=by
 unfold u8;congr 1
theorem zoo [Gi](q:Nat)(h1:128≤q)(h2:q<2048):CR Tryz.prog 221 [] [.p (.int .i32 q)] [] (is (.p (.str (QH q)))):=by
 refine walk Tryz.func221 7 [] [] [] ?_
 have hv:Zl (q:Int)=true:=by unfold Zl;simp;omega
 have hs:yy (q:Int)=2:=by unfold yy;rw[hv];simp;omega
 have g1:=xZ (q:Int)
 have g2:=vM (q:Int)
 rw[hv]at g1
 rw[hs]at g2
 obtain⟨q1,hq1⟩:∃q1,q1=q/64:=⟨_,rfl⟩
 obtain⟨m0,hm0⟩:∃m,m=q%64:=⟨_,rfl⟩
 have c0:=cby hm0
 have f0:=zeq hq1
 have l0:=zlZ ⟨q1,by omega⟩
 simp only at l0
 have e:QH q=[u8 (192+q1),u8 (128+m0)]:=by unfold QH;rw[if_neg (by omega),if_pos h2,hq1,hm0]
 rw[e]
 simp (maxSteps:=1000000) [go_sem,Tryz.f221]
 refine zq g1 ?_
 simp (maxSteps:=1000000) [go_sem]
 refine zq g2 ?_
 simp (maxSteps:=1000000) [go_sem,wk1]
 refine loop (fun j:Nat=>j≤1) (fun j=>match j with
   |0=>[(5,.p (.int .i64 1))]
   |_=>[(5,.p (.int .i64 0)),(0,.p (.int .i32 q1))]) (fun j=>match j with
   |0=>[([19],[.p (.int .u8 0),.p (.int .u8 0)])]
   |_=>[([19],[.p (.int .u8 0),.p (.int .u8 (128+(m0:Int)))])]) (fun j=>1-j) 0 (by omega) (fun j hj=>?_)
 rcases j with _|_|j
 ·simp (maxSteps:=1000000) [go_sem,wk0,f0]
  exact next 1 (by omega) (h3:=by decide) (h2:=by simp[go_sem,LeS,leV,leR,leA,leL];exact c0)
 ·simp (maxSteps:=1000000) [go_sem]
  exact ret (hx:=by simp[go_sem,zf,leA,leT];exact⟨(congrArg (fun z:Int=>UInt8.ofNat z.toNat) l0).trans (Qr 192 q1),Qr 128 m0⟩)
 ·omega
theorem znK [Gi](q:Nat)(h1:2048≤q)(h2:q<65536)(hv:Zl (q:Int)=true):CR Tryz.prog 221 [] [.p (.int .i32 q)] [] (is (.p (.str (QH q)))):=by
 refine walk Tryz.func221 7 [] [] [] ?_
 have hs:yy (q:Int)=3:=by unfold yy;rw[hv];simp;omega
 have g1:=xZ (q:Int)
 have g2:=vM (q:Int)
 rw[hv]at g1
 rw[hs]at g2
 obtain⟨q1,hq1⟩:∃x,x=q/64:=⟨_,rfl⟩
 have f1:=zeq hq1
 obtain⟨q2,hq2⟩:∃x,x=q1/64:=⟨_,rfl⟩
 have f2:=zeq hq2
 obtain⟨m0,hm0⟩:∃m,m=q%64:=⟨_,rfl⟩
 have c0:=cby hm0
 obtain⟨m1,hm1⟩:∃m,m=q1%64:=⟨_,rfl⟩
 have c1:=cby hm1
 have l0:=zgC ⟨q2,by omega⟩
 simp only at l0
 have e:QH q=[u8 (224+q2),u8 (128+m1),u8 (128+m0)]:=by
  have e1:q/4096=q2:=by omega
  have e2:q/64%64=m1:=by omega
  have e3:q%64=m0:=by omega
  unfold QH
  rw[if_neg (by omega),if_neg (by omega),if_pos (by omega),e1,e2,e3]
 rw[e]
 simp (maxSteps:=1000000) [go_sem,Tryz.f221]
 refine zq g1 ?_
 simp (maxSteps:=1000000) [go_sem]
 refine zq g2 ?_
 simp (maxSteps:=1000000) [go_sem,wk2]
 refine loop (fun j:Nat=>j≤2) (fun j=>match j with
   |0=>[(5,.p (.int .i64 2))]
   |1=>[(5,.p (.int .i64 1)),(0,.p (.int .i32 q1))]
   |_=>[(5,.p (.int .i64 0)),(0,.p (.int .i32 q2))]) (fun j=>match j with
   |0=>[([19],[.p (.int .u8 0),.p (.int .u8 0),.p (.int .u8 0)])]
   |1=>[([19],[.p (.int .u8 0),.p (.int .u8 0),.p (.int .u8 (128+(m0:Int)))])]
   |_=>[([19],[.p (.int .u8 0),.p (.int .u8 (128+(m1:Int))),.p (.int .u8 (128+(m0:Int)))])]) (fun j=>2-j) 0 (by omega) (fun j hj=>?_)
 rcases j with _|_|_|j
 ·simp (maxSteps:=1000000) [go_sem,wk1,f1]
  exact next 1 (by omega) (h3:=by decide) (h2:=by simp[go_sem,LeS,leV,leR,leA,leL];exact c0)
 ·simp (maxSteps:=1000000) [go_sem,wk0,f2]
  exact next 2 (by omega) (h3:=by decide) (h2:=by simp[go_sem,LeS,leV,leR,leA,leL];exact c1)
 ·simp (maxSteps:=1000000) [go_sem]
  exact ret (hx:=by simp[go_sem,zf,leA,leT];exact⟨(congrArg (fun z:Int=>UInt8.ofNat z.toNat) l0).trans (Qr 224 q2),Qr 128 m1,Qr 128 m0⟩)
 ·omega
theorem zoK [Gi](q:Nat)(h1:65536≤q)(h2:q≤1114111)(hv:Zl (q:Int)=true):CR Tryz.prog 221 [] [.p (.int .i32 q)] [] (is (.p (.str (QH q)))):=by
 refine walk Tryz.func221 7 [] [] [] ?_
 have hs:yy (q:Int)=4:=by unfold yy;rw[hv];simp;omega
 have g1:=xZ (q:Int)
 have g2:=vM (q:Int)
 rw[hv]at g1
 rw[hs]at g2
 obtain⟨q1,hq1⟩:∃x,x=q/64:=⟨_,rfl⟩
 have f1:=zeq hq1
 obtain⟨q2,hq2⟩:∃x,x=q1/64:=⟨_,rfl⟩
 have f2:=zeq hq2
 obtain⟨q3,hq3⟩:∃x,x=q2/64:=⟨_,rfl⟩
 have f3:=zeq hq3
 obtain⟨m0,hm0⟩:∃m,m=q%64:=⟨_,rfl⟩
 have c0:=cby hm0
 obtain⟨m1,hm1⟩:∃m,m=q1%64:=⟨_,rfl⟩
 have c1:=cby hm1
 obtain⟨m2,hm2⟩:∃m,m=q2%64:=⟨_,rfl⟩
 have c2:=cby hm2
 have l0:=zmH ⟨q3,by omega⟩
 simp only at l0
 have e:QH q=[u8 (240+q3),u8 (128+m2),u8 (128+m1),u8 (128+m0)]:=by
  have e0:q/262144=q3:=by omega
  have e1:q/4096%64=m2:=by omega
  have e2:q/64%64=m1:=by omega
  have e3:q%64=m0:=by omega
  unfold QH
  rw[if_neg (by omega),if_neg (by omega),if_neg (by omega),e0,e1,e2,e3]
 rw[e]
 simp (maxSteps:=1000000) [go_sem,Tryz.f221]
 refine zq g1 ?_
 simp (maxSteps:=1000000) [go_sem]
 refine zq g2 ?_
 simp (maxSteps:=1000000) [go_sem,wk3]
 refine loop (fun j:Nat=>j≤3) (fun j=>match j with
   |0=>[(5,.p (.int .i64 3))]
   |1=>[(5,.p (.int .i64 2)),(0,.p (.int .i32 q1))]
   |2=>[(5,.p (.int .i64 1)),(0,.p (.int .i32 q2))]
   |_=>[(5,.p (.int .i64 0)),(0,.p (.int .i32 q3))]) (fun j=>match j with
   |0=>[([19],[.p (.int .u8 0),.p (.int .u8 0),.p (.int .u8 0),.p (.int .u8 0)])]
   |1=>[([19],[.p (.int .u8 0),.p (.int .u8 0),.p (.int .u8 0),.p (.int .u8 (128+(m0:Int)))])]
   |2=>[([19],[.p (.int .u8 0),.p (.int .u8 0),.p (.int .u8 (128+(m1:Int))),.p (.int .u8 (128+(m0:Int)))])]
   |_=>[([19],[.p (.int .u8 0),.p (.int .u8 (128+(m2:Int))),.p (.int .u8 (128+(m1:Int))),.p (.int .u8 (128+(m0:Int)))])]) (fun j=>3-j) 0 (by omega) (fun j hj=>?_)
 rcases j with _|_|_|_|j
 ·simp (maxSteps:=1000000) [go_sem,wk2,f1]
  exact next 1 (by omega) (h3:=by decide) (h2:=by simp[go_sem,LeS,leV,leR,leA,leL];exact c0)
 ·simp (maxSteps:=1000000) [go_sem,wk1,f2]
  exact next 2 (by omega) (h3:=by decide) (h2:=by simp[go_sem,LeS,leV,leR,leA,leL];exact c1)
 ·simp (maxSteps:=1000000) [go_sem,wk0,f3]
  exact next 3 (by omega) (h3:=by decide) (h2:=by simp[go_sem,LeS,leV,leR,leA,leL];exact c2)
 ·simp (maxSteps:=1000000) [go_sem]
  exact ret (hx:=by simp[go_sem,zf,leA,leT];exact⟨(congrArg (fun z:Int=>UInt8.ofNat z.toNat) l0).trans (Qr 240 q3),Qr 128 m2,Qr 128 m1,Qr 128 m0⟩)
 ·omega
theorem zof [Gi](r:Int)(hv:Zl r=false):CR Tryz.prog 221 [] [.p (.int .i32 r)] [] (is (.p (.str (QH 65533)))):=by
 refine walk Tryz.func221 7 [] [] [] ?_
 obtain⟨q,hq⟩:∃q:Nat,q=65533:=⟨_,rfl⟩
 have hqI:(65533:Int)=(q:Int):=by omega
 have hv2:Zl (q:Int)=true:=by rw[←hqI];decide
 have hs:yy (q:Int)=3:=by rw[←hqI];decide
 have g1:=xZ r
 have g2:=vM (q:Int)
 rw[hv]at g1
 rw[hs]at g2
 obtain⟨q1,hq1⟩:∃x,x=q/64:=⟨_,rfl⟩
 have f1:=zeq hq1
 obtain⟨q2,hq2⟩:∃x,x=q1/64:=⟨_,rfl⟩
 have f2:=zeq hq2
 obtain⟨m0,hm0⟩:∃m,m=q%64:=⟨_,rfl⟩
 have c0:=cby hm0
 obtain⟨m1,hm1⟩:∃m,m=q1%64:=⟨_,rfl⟩
 have c1:=cby hm1
 have l0:=zgC ⟨q2,by omega⟩
 simp only at l0
 have e:QH 65533=[u8 (224+q2),u8 (128+m1),u8 (128+m0)]:=by
  have e1:65533/4096=q2:=by omega
  have e2:65533/64%64=m1:=by omega
  have e3:65533%64=m0:=by omega
  unfold QH
  rw[if_neg (by omega),if_neg (by omega),if_pos (by omega),e1,e2,e3]
 rw[e]
 simp (maxSteps:=1000000) [go_sem,Tryz.f221]
 refine zq g1 ?_
 simp (maxSteps:=1000000) [go_sem,hqI]
 refine zq g2 ?_
 simp (maxSteps:=1000000) [go_sem,wk2]
 refine loop (fun j:Nat=>j≤2) (fun j=>match j with
   |0=>[(5,.p (.int .i64 2))]
   |1=>[(5,.p (.int .i64 1)),(0,.p (.int .i32 q1))]
   |_=>[(5,.p (.int .i64 0)),(0,.p (.int .i32 q2))]) (fun j=>match j with
   |0=>[([19],[.p (.int .u8 0),.p (.int .u8 0),.p (.int .u8 0)])]
   |1=>[([19],[.p (.int .u8 0),.p (.int .u8 0),.p (.int .u8 (128+(m0:Int)))])]
   |_=>[([19],[.p (.int .u8 0),.p (.int .u8 (128+(m1:Int))),.p (.int .u8 (128+(m0:Int)))])]) (fun j=>2-j) 0 (by omega) (fun j hj=>?_)
 rcases j with _|_|_|j
 ·simp (maxSteps:=1000000) [go_sem,wk1,f1]
  exact next 1 (by omega) (h3:=by decide) (h2:=by simp[go_sem,LeS,leV,leR,leA,leL];exact c0)
 ·simp (maxSteps:=1000000) [go_sem,wk0,f2]
  exact next 2 (by omega) (h3:=by decide) (h2:=by simp[go_sem,LeS,leV,leR,leA,leL];exact c1)
 ·simp (maxSteps:=1000000) [go_sem]
  exact ret (hx:=by simp[go_sem,zf,leA,leT];exact⟨(congrArg (fun z:Int=>UInt8.ofNat z.toNat) l0).trans (Qr 224 q2),Qr 128 m1,Qr 128 m0⟩)
 ·omega
theorem zn1 [Gi](q:Nat)(h1:q<128):CR Tryz.prog 221 [] [.p (.int .i32 q)] [] (is (.p (.str (QH q)))):=by
 refine walk Tryz.func221 7 [] [] [] ?_
 have hv:Zl (q:Int)=true:=by unfold Zl;simp;omega
 have hs:yy (q:Int)=1:=by unfold yy;rw[hv];simp;omega
 have g1:=xZ (q:Int)
 have g2:=vM (q:Int)
 rw[hv]at g1
 rw[hs]at g2
 have e:QH q=[u8 q]:=by unfold QH;rw[if_pos h1]
 have w:∀x:Fin 128,IntKind.u8.wrap (x.1:Int)=x.1:=by decide
 have w':IntKind.u8.wrap (q:Int)=q:=w ⟨q,h1⟩
 rw[e]
 simp (maxSteps:=1000000) [go_sem,Tryz.f221]
 refine zq g1 ?_
 simp (maxSteps:=1000000) [go_sem]
 refine zq g2 ?_
 simp (maxSteps:=1000000) [go_sem,w']
 exact ret (hx:=by simp[go_sem,zf,leA,leT,u8])
theorem znt [Gi](r:Int):CR Tryz.prog 221 [] [.p (.int .i32 r)] [] (is (.p (.str (jc r)))):=by
 unfold jc zcG
 cases hv:Zl r with
 |false=>exact zof r hv
 |true=>
  have h:(0≤r∧r<55296)∨(57343<r∧r≤1114111):=by unfold Zl at hv;simpa using hv
  obtain⟨q,rfl⟩:∃q:Nat,r=q:=⟨r.toNat,by omega⟩
  rw[if_pos rfl,Int.toNat_natCast]
  by_cases c1:q<128
  ·exact zn1 q c1
  ·by_cases c2:q<2048
   ·exact zoo q (by omega) c2
   ·by_cases c3:q<65536
    ·exact znK q (by omega) c3 hv
    ·exact zoK q (by omega) (by omega) hv
end
section
open Go.AM
def Z9(l:List Nat):List PV:=l.map fun n=>.int .i64 (n:Nat)
def Je(l:List Nat):PV:=.sl 1 (Z9 l)
attribute [go_sem] Je
@[go_sem] theorem zlc (l : List Nat) : (Z9 l).length = l.length := by simp [Z9]
theorem KY {l:List Nat} {j:Nat}(h:j<l.length):elemAt (Z9 l) j=.int .i64 (l[j]:Nat):=by rw[Z9,zp (fun r:Nat=>PV.int .i64 r) l j h]
theorem zjL {l:List Nat} {j:Nat}(h:l.length≤j):elemAt (Z9 l) j=.int .i8 0:=by
 unfold elemAt
 rw[List.getD_eq_getElem?_getD,List.getElem?_eq_none (by rw[zlc];exact h)];rfl
theorem zi0(a b:List Nat):Z9 (a++b)=Z9 a++Z9 b:=by simp[Z9]
def cnt(S:List Nat)(a:Int):Nat:=S.countP fun(s:Nat)=>decide ((s:Int)<a)
def zg9(S:List Nat)(a:Int):Bool:=S.any fun(s:Nat)=>decide ((s:Int)=a)
theorem UP {S:List Nat} {a:Int} {k:Nat}(hk:k≤S.length)(h1:∀i (h:i<S.length),i<k→(S[i]:Int)<a)(h2:∀i (h:i<S.length),k≤i→a≤(S[i]:Int)):cnt S a=k:=by
 unfold cnt
 rw[←List.take_append_drop k S,List.countP_append]
 have e1:(S.take k).countP (fun(s:Nat)=>decide ((s:Int)<a))=(S.take k).length:=by
  rw[List.countP_eq_length]
  intro s hs
  obtain⟨i,hi,rfl⟩:=List.mem_iff_getElem.1 hs
  rw[List.length_take]at hi
  rw[List.getElem_take]
  exact decide_eq_true (h1 i (by omega) (by omega))
 have e2:(S.drop k).countP (fun(s:Nat)=>decide ((s:Int)<a))=0:=by
  rw[List.countP_eq_zero]
  intro s hs
  obtain⟨i,hi,rfl⟩:=List.mem_iff_getElem.1 hs
  rw[List.length_drop]at hi
  rw[List.getElem_drop]
  have:=h2 (k+i) (by omega) (by omega)
  simp only[decide_eq_true_eq];omega
 rw[e1,e2,List.length_take];omega
theorem zlJ [Gi](a b:Int):CR Tryz.prog 169 [] [.p (.int .i64 a),.p (.int .i64 b)] [] (is (.p (.bool (decide (a<b))))):=by
 refine walk Tryz.func169 5 [] [] [] ?_
 simp (maxSteps:=1000000) [go_sem,Tryz.f169]
 refine zq (zeZ a) ?_
 simp (maxSteps:=1000000) [go_sem]
 exact ret
theorem zmN [Gi](a:Int):CR Tryz.prog 170 [] [.p (.int .i64 a)] [] (is (.p (.bool false))):=by
 refine walk Tryz.func170 3 [] [] [] ?_
 simp (maxSteps:=1000000) [go_sem,Tryz.f170]
 exact ret
theorem zeL [Gi](S:List Nat)(a:Int)(hS:S.Pairwise (· < ·))(hn:S.length<2^31):CR Tryz.prog 121 [] [.p (Je S),.p (.int .i64 a)] [] (is (.tup [.p (.int .i64 (cnt S a:Nat)),.p (.bool (zg9 S a))])):=by
 refine walk Tryz.func121 10 [] [] [] ?_
 have hinc:∀i j (hi:i<S.length) (hj:j<S.length),i<j→S[i]<S[j]:=fun i j hi hj h=>List.pairwise_iff_getElem.1 hS i j hi hj h
 simp (maxSteps:=1000000) [go_sem,Tryz.f121]
 refine loop (fun r:Nat×Nat=>r.1≤r.2∧r.2≤S.length∧(∀i (hi:i<S.length),i<r.1→(S[i]:Int)<a)∧∀i (hi:i<S.length),r.2≤i→a≤(S[i]:Int)) (fun r=>[(7,.p (.int .i64 (r.1:Nat))),(8,.p (.int .i64 (r.2:Nat)))]) (fun _=>[]) (fun r=>r.2-r.1) (0,S.length) ⟨by simp,by simp,by simp,fun i hi h=>absurd h (by simpa using hi)⟩ (fun r hr=>?_)
 obtain⟨i,j⟩:=r
 obtain⟨h1,h2,h3,h4⟩:=hr
 simp only at h1 h2 h3 h4
 by_cases h:i<j
 ·obtain⟨s,hs⟩:∃s,s=i+j:=⟨_,rfl⟩
  obtain⟨m,hm⟩:∃m,m=s/2:=⟨_,rfl⟩
  have g:(i:Int)<j:=by omega
  have w1:IntKind.i64.wrap ((i:Int)+j)=(s:Int):=zhA (by omega) hs
  have w2:IntKind.u64.wrap (s:Int)=(s:Int):=zox (by omega)
  have w3:(s:Int).fdiv 2=(m:Int):=zh8 hm
  have w4:IntKind.i64.wrap (m:Int)=(m:Int):=zqB (by omega)
  have w5:IntKind.i64.wrap ((m:Int)+1)=((m+1:Nat):Int):=zG (by omega)
  have hml:m<S.length:=by omega
  have em:=KY hml
  obtain⟨q,hq⟩:∃q,S[m]=q:=⟨_,rfl⟩
  rw[hq]at em
  simp (maxSteps:=1000000) [go_sem,g,w1,w2,w3,w4,em,hml]
  refine zq (zlJ q a) ?_
  by_cases hb:(q:Int)<a
  ·simp (maxSteps:=1000000) [go_sem,hb,w5]
   refine next (m+1,j) ⟨by show m+1≤j;omega,h2,fun k hk hkm=>?_,h4⟩ (by show j- (m+1)<j-i;omega)
   by_cases e:k=m
   ·subst e;rw[hq];exact hb
   ·have:=hinc k m hk hml (by simp at hkm;omega)
    omega
  ·simp (maxSteps:=1000000) [go_sem,hb]
   refine next (i,m) ⟨by show i≤m;omega,by show m≤S.length;omega,h3,fun k hk hkm=>?_⟩ (by show m-i<j-i;omega)
   by_cases e:k=m
   ·subst e;rw[hq];omega
   ·have:=hinc m k hml hk (by simp at hkm;omega)
    omega
 ·obtain rfl:i=j:=by omega
  have e:=UP h2 h3 h4
  rw[e]
  have g:¬(i:Int)<i:=by omega
  by_cases hil:i<S.length
  ·have em:=KY hil
   have hc:=h4 i hil (Nat.le_refl _)
   have g2:(i:Int)<S.length:=by omega
   obtain⟨q,hq⟩:∃q,S[i]=q:=⟨_,rfl⟩
   rw[hq]at em hc
   by_cases hf:(q:Int)=a
   ·have hh:zg9 S a=true:=List.any_eq_true.2 ⟨q,by rw[←hq];exact List.getElem_mem _,decide_eq_true hf⟩
    rw[hh]
    simp (maxSteps:=1000000) [go_sem,g,g2,em,hf]
    exact ret
   ·have hh:zg9 S a=false:=by
     rw[zg9,List.any_eq_false]
     intro s hs
     obtain⟨k,hk,rfl⟩:=List.mem_iff_getElem.1 hs
     simp only[decide_eq_true_eq]
     intro hk2
     by_cases c1:k<i
     ·have:=h3 k hk c1;omega
     ·by_cases c2:k=i
      ·subst c2;omega
      ·have:=hinc i k hil hk (by omega)
       omega
    rw[hh]
    simp (maxSteps:=1000000) [go_sem,g,g2,em,hf]
    refine zq (zmN q) ?_
    simp (maxSteps:=1000000) [go_sem]
    exact ret
  ·have hh:zg9 S a=false:=by
    rw[zg9,List.any_eq_false]
    intro s hs
    obtain⟨k,hk,rfl⟩:=List.mem_iff_getElem.1 hs
    have:=h3 k hk (by omega)
    simp only[decide_eq_true_eq]
    omega
   have g2:¬(i:Int)<S.length:=by omega
   have em:=zjL (l:=S) (j:=i) (by omega)
   rw[hh]
   simp (maxSteps:=1000000) [go_sem,g,g2,em]
   exact ret
def plc(L:List (List Int))(k:Nat):Nat:=jm (L.take k)
def pl(L:List (List Int)):List Nat:=(List.range L.length).map (plc L)
structure ClL(L:List (List Int)):Prop where
 full:znc L
 sum:jm L<2^31
theorem zlg {L:List (List Int)} {k:Nat}(h:k<L.length):plc L (k+1)=plc L k+L[k].length:=zhs h
theorem ClL.pos {L:List (List Int)}(h:ClL L) {k:Nat}(hk:k<L.length):0<L[k].length:=by
 obtain⟨x,c',e,_⟩:=h.full.r L[k] (List.getElem_mem hk)
 rw[e];simp
theorem zfM {L:List (List Int)}(h:ClL L) {k:Nat}(hk:k<L.length):plc L k<plc L (k+1):=by
 have:=h.pos hk
 rw[zlg hk];omega
theorem VT {L:List (List Int)}(h:ClL L):∀{i j:Nat},i<j→j≤L.length→plc L i<plc L j
 |i,0,h1,_=>by omega
 |i,j+1,h1,h2=>by
  have a:=zfM h (k:=j) (by omega)
  by_cases e:i=j
  ·subst e;exact a
  ·have:=VT h (i:=i) (j:=j) (by omega) (by omega)
   omega
theorem wv {L:List (List Int)}(h:ClL L) {i j:Nat}(h1:i≤j)(h2:j≤L.length):plc L i≤plc L j:=by
 by_cases e:i=j
 ·subst e;exact Nat.le_refl _
 ·exact Nat.le_of_lt (VT h (by omega) h2)
theorem Vj(L:List (List Int)):plc L 0=0:=by simp[plc,jm]
theorem zbg(L:List (List Int)):plc L L.length=jm L:=by simp[plc]
theorem Q4(L:List (List Int)):(pl L).length=L.length:=by simp[pl]
theorem j8(L:List (List Int)) {k:Nat}(h:k< (pl L).length):(pl L)[k]=plc L k:=by simp[pl]
theorem zla {L:List (List Int)}(h:ClL L):(pl L).Pairwise (· < ·):=by
 rw[List.pairwise_iff_getElem]
 intro i j hi hj hij
 rw[j8,j8]
 rw[Q4]at hj
 exact VT h hij (by omega)
theorem ClL.num {L:List (List Int)}(h:ClL L):∀{k:Nat},k≤L.length→k≤plc L k
 |0,_=>Nat.zero_le _
 |k+1,hk=>by
  have:=h.num (k:=k) (by omega)
  have:=zfM h (k:=k) (by omega)
  omega
theorem ClL.len {L:List (List Int)}(h:ClL L):L.length≤jm L:=by rw[←zbg];exact h.num (Nat.le_refl _)
def kf:List (List Int)→Int→Nat
 | [],_=>0
 |c::L,a=>if a<c.length then 0 else kf L (a-c.length)+1
theorem xY(c:List Int)(L:List (List Int))(k:Nat):plc (c::L) (k+1)=c.length+plc L k:=by simp[plc,jm]
theorem zda:∀(L:List (List Int)) (a:Int),kf L a≤L.length
 | [],_=>Nat.le_refl _
 |c::L,a=>by
  unfold kf
  split
  ·omega
  ·have:=zda L (a-c.length)
   simp only[List.length_cons];omega
theorem Jl:∀(L:List (List Int)) (a:Int),0≤a→(plc L (kf L a):Int)≤a
 | [],a,h=>by simp[kf,plc,jm,h]
 |c::L,a,h=>by
  unfold kf
  split
  ·rw[Vj];omega
  ·have:=Jl L (a-c.length) (by omega)
   rw[xY];omega
theorem zeo:∀(L:List (List Int)) (a:Int),kf L a<L.length→a< (plc L (kf L a+1):Int)
 | [],a,h=>by simp at h
 |c::L,a,h=>by
  unfold kf at h⊢
  split
  ·rename_i q
   rw[xY,Vj];omega
  ·rename_i q
   rw[if_neg q]at h
   have:=zeo L (a-c.length) (by simpa using h)
   rw[xY];omega
theorem zow(L:List (List Int)) {a:Int}(h:a<0):kf L a=0:=by
 cases L with
 |nil=>rfl
 |cons c L=>unfold kf;rw[if_pos (by omega)]
theorem znf {L:List (List Int)}(h:ClL L) {a:Int} {k:Nat}(hk:k≤L.length)(h1:(plc L k:Int)≤a)(h2:k<L.length→a< (plc L (k+1):Int)):kf L a=k:=by
 have q1:=Jl L a (by omega)
 have q2:=zeo L a
 have q3:=zda L a
 by_cases c:kf L a<k
 ·have a1:=q2 (by omega)
  have a2:=wv h (i:=kf L a+1) (j:=k) (by omega) hk
  omega
 ·by_cases c2:k<kf L a
  ·have a1:=h2 (by omega)
   have a2:=wv h (i:=k+1) (j:=kf L a) (by omega) q3
   omega
  ·omega
theorem zcj {L:List (List Int)}(_:ClL L) {a:Int}(ha:a< (jm L:Int))(h0:0≤a):kf L a<L.length:=by
 have q1:=Jl L a h0
 have q3:=zda L a
 refine Nat.lt_of_le_of_ne q3 (fun e=>?_)
 rw[e,zbg]at q1;omega
theorem zbR {L:List (List Int)}(h:ClL L) {k:Nat}(hk:k≤L.length):cnt (pl L) (plc L k)=k:=by
 refine UP (by rw[Q4];exact hk) (fun i hi hik=>?_) (fun i hi hik=>?_)
 ·rw[j8];have:=VT h hik hk;omega
 ·rw[j8];rw[Q4]at hi;have:=wv h hik (by omega);omega
theorem zjN(S:List Nat)(a:Int):cnt S a≤S.length:=List.countP_le_length
def vJ(t:Zm):xD→Nat→List Int→List Nat
 |_,_,[]=>[]
 |s,i,r::l=>if(ZC t s r).2 then i::vJ t (ZC t s r).1 (i+1) l else vJ t (ZC t s r).1 (i+1) l
def zdh:Nat→List (List Int)→List Nat
 |_,[]=>[]
 |a,c::L=>a::zdh (a+c.length) L
theorem zgq:∀(L:List (List Int)) (a:Nat),zdh a L=(pl L).map (a+·)
 | [],a=>rfl
 |c::L,a=>by
  have e:pl (c::L)=0::(pl L).map (c.length+·):=by
   unfold pl
   rw[List.length_cons,List.range_succ_eq_map,List.map_cons,List.map_map,List.map_map,Vj]
   exact congrArg _ (List.map_congr_left (fun k _=>xY c L k))
  rw[zdh,zgq L,e,List.map_cons,List.map_map]
  simp[Function.comp_def,Nat.add_assoc]
theorem zbd:∀(n:Nat) (l:List Int) (s:xD) (p:Int) (pre:List Int) (i:Nat),l.length≤n→Yq s p pre→
  vJ T0 s i l=zdh (i+Qv za p pre l) (qQ za n ((l.take (Qv za p pre l)).reverse++p::pre) (l.drop (Qv za p pre l)))
 |n,[],s,p,pre,i,_,_=>by cases n<;>simp[vJ,qQ,zdh]
 |0,x::l,_,_,_,_,h,_=>by simp at h
 |n+1,x::l,s,p,pre,i,h,hi=>by
  have hc:=hi.cut x
  have hn:=hi.next x
  have hl:l.length≤n:=by simpa using h
  rw[vJ,VD]
  simp only
  rw[hi.so,hc]
  simp only[Bool.not_true,Bool.false_or]
  by_cases g:uW za p pre x=true
  ·have ih:=zbd n l _ _ _ (i+1) hl hn
   have hr:=ux za l (p::pre) x
   rw[if_pos g,Qv,if_pos g,ih]
   simp only[List.take_zero,List.reverse_nil,List.nil_append,List.drop_zero,Nat.add_zero,qQ,zdh]
   congr 2
   rw[List.length_cons,List.length_take];omega
  ·have g':uW za p pre x=false:=by simpa using g
   have ih:=zbd (n+1) l _ _ _ (i+1) (by omega) hn
   rw[if_neg g,Qv,if_neg g,ih]
   simp only[List.take_succ_cons,List.reverse_cons,List.append_assoc,List.singleton_append,List.drop_succ_cons]
   congr 1;omega
theorem zlq(l:List Int):vJ T0 jK 0 l=pl (zM za l):=by
 have e0:∀L,zdh 0 L=pl L:=fun L=>by rw[zgq];simp
 rw[←e0]
 cases l with
 |nil=>rfl
 |cons x l=>
  have hs:=Yq.start (pre:=[]) (x:=x) (.inl rfl)
  have hr:=ux za l [] x
  rw[vJ,VD]
  have e1:(!jK.some || kY jK (zD za x) (pcD x) (Qa za x))=true:=rfl
  simp only[e1,if_true,Nat.zero_add]
  rw[zbd l.length l _ _ _ 1 (Nat.le_refl _) hs]
  unfold zM
  simp only[List.length_cons,qQ,zdh]
  congr 2
  rw[List.length_take];omega
theorem zcS:∀(a:Nat) (x:Int) (pre xs:List Int) (_:a≤Qv za x pre xs) (h:a< (x::xs).length),Qv za x pre xs=a+Qv za (x::xs)[a] (((x::xs).take a).reverse++pre) ((x::xs).drop (a+1))
 |0,x,pre,xs,_,_=>by simp
 |a+1,x,pre,[],h1,_=>by simp[Qv]at h1
 |a+1,x,pre,y::ys,h1,h2=>by
  rw[Qv]at h1⊢
  by_cases g:uW za x pre y=true
  ·rw[if_pos g]at h1;omega
  ·rw[if_neg g]at h1⊢
   rw[zcS a y (x::pre) ys (by omega) (by simpa using h2)]
   simp only[List.getElem_cons_succ,List.take_succ_cons,List.reverse_cons,List.append_assoc,List.singleton_append,List.drop_succ_cons]
   omega
theorem zgh:∀(n:Nat) (l pre:List Int) (a:Nat) (_:l.length≤n) (h:a<l.length),
  a+1+Qv za l[a] ((l.take a).reverse++pre) (l.drop (a+1))=plc (qQ za n pre l) (kf (qQ za n pre l) a+1)
 |_,[],_,_,_,h=>by simp at h
 |0,x::l,_,_,h1,_=>by simp at h1
 |n+1,x::xs,pre,a,h1,h2=>by
  have hr:=ux za xs pre x
  obtain⟨r,hR⟩:∃r,r=Qv za x pre xs:=⟨_,rfl⟩
  rw[←hR]at hr
  rw[qQ,←hR]
  have hc:(x::xs.take r).length=r+1:=by rw[List.length_cons,List.length_take];omega
  unfold kf
  rw[hc]
  by_cases c:a≤r
  ·rw[if_pos (by omega),xY,Vj,hc]
   have:=zcS a x pre xs (by omega) h2
   omega
  ·rw[if_neg (by omega),xY,hc]
   obtain⟨d,rfl⟩:∃d,a=d+(r+1):=⟨a- (r+1),by omega⟩
   simp only[List.length_cons]at h1 h2
   have ih:=zgh n (xs.drop r) ((xs.take r).reverse++x::pre) d (by rw[List.length_drop];omega) (by rw[List.length_drop];omega)
   have e1:((d+(r+1):Nat):Int)- ((r+1:Nat):Int)=(d:Int):=by omega
   rw[e1]
   have e2:(x::xs)[d+(r+1)]=(xs.drop r)[d]'(by rw[List.length_drop];omega):=by
    rw[List.getElem_drop]
    have:d+(r+1)=(r+d)+1:=by omega
    simp only[this,List.getElem_cons_succ]
   have e3:((x::xs).take (d+(r+1))).reverse++pre=((xs.drop r).take d).reverse++((xs.take r).reverse++x::pre):=by
    have:d+(r+1)=(r+d)+1:=by omega
    rw[this,List.take_succ_cons,List.take_add,List.reverse_cons,List.reverse_append]
    simp
   have e4:(x::xs).drop (d+(r+1)+1)=(xs.drop r).drop (d+1):=by
    rw[List.drop_drop]
    have:d+(r+1)+1=(r+(d+1))+1:=by omega
    rw[this,List.drop_succ_cons]
   rw[e2,e3,e4]
   omega
theorem zkO(l:List Int)(a:Nat)(h:a<l.length):a+1+Qv za l[a] (l.take a).reverse (l.drop (a+1))=plc (zM za l) (kf (zM za l) a+1):=by
 have:=zgh l.length l [] a (Nat.le_refl _) h
 rw[List.append_nil]at this
 exact this
def isB(L:List (List Int))(i:Int):Bool:=decide ((plc L (kf L i):Int)=i)
theorem zl4(l:List Int)(L:List (List Int))(hL:L=zM za l)(h:ClL L)(i:Nat)(hi:i+1<l.length):uW za l[i] (l.take i).reverse l[i+1]=isB L ((i+1:Nat):Int):=by
 have hs:jm L=l.length:=by rw[hL];exact Xx.sum l
 have e:=zkO l i (by omega)
 rw[←hL,List.drop_eq_getElem_cons hi,Qv]at e
 have k1:=zcj h (a:=(i:Int)) (by omega) (by omega)
 have q1:=Jl L i (by omega)
 have q2:=zeo L i k1
 by_cases g:uW za l[i] (l.take i).reverse l[i+1]=true
 ·rw[if_pos g]at e
  rw[g]
  have:kf L ((i+1:Nat):Int)=kf L i+1:=znf h (by omega) (by omega) (fun c=>by have:=zfM h c;omega)
  unfold isB
  rw[this]
  exact(decide_eq_true (by omega)).symm
 ·rw[if_neg g]at e
  have g':uW za l[i] (l.take i).reverse l[i+1]=false:=by simpa using g
  rw[g']
  have:kf L ((i+1:Nat):Int)=kf L i:=znf h (by omega) (by omega) (fun c=>by omega)
  unfold isB
  rw[this]
  exact(decide_eq_false (by omega)).symm
def zqU(L:List (List Int)):PV:=.agg [Je (pl L),.int .i64 (jm L:Nat)]
attribute [go_sem] zqU
attribute [local irreducible] za
attribute [go_sem] Q4
theorem zp6 {L:List (List Int)} {k:Nat}(h:k<L.length):elemAt (Z9 (pl L)) k=.int .i64 (plc L k:Nat):=by
 rw[KY (by rw[Q4];exact h),j8]
theorem ziP [Gi] {e:PV}(hT:xn e)(s:xD)(r:Int)(hr:qg r):CR Tryz.prog 171 [] [.p (yZ s),.p e,.p (.int .i32 r)] [] (is (.tup [.p (yZ (ZC T0 s r).1),.p (.bool (ZC T0 s r).2)])):=by
 obtain⟨c,b,j,f,p,h,rfl⟩:=hT
 exact K4 h wM _ _ _ _ s r hr
theorem zhg [Gi] {e:PV}(hT:xn e)(l:List Int)(hn:l.length<2^31)(hr:∀x∈l,qg x):CR Tryz.prog 122 [] [.p e,.p (zE l)] [] (is (.p (Je (pl (zM za l))))):=by
 rw[←zlq l]
 refine walk Tryz.func122 11 [11,12,13] [] [] ?_
 simp (maxSteps:=1000000) [go_sem,Tryz.f122]
 refine loop (fun r:Nat×xD×List Nat=>r.1≤l.length∧r.2.2.length≤r.1∧vJ T0 jK 0 l=r.2.2++vJ T0 r.2.1 r.1 (l.drop r.1)) (fun r=>[(6,.os [6] 1 (Z9 r.2.2)),(13,.p (.int .i64 (r.1:Nat))),(7,.zY),(8,.zY),(9,.zY),(10,.zY)]) (fun r=>[([5],zg0 r.2.1)]) (fun r=>l.length-r.1) (0,jK,[]) ⟨by simp,by simp,by simp⟩ (fun r hr2=>?_) (by simp[go_sem,LeS,leV,leR,leA,leL,zg0,jK,Z9])
 obtain⟨i,s,o⟩:=r
 obtain⟨h1,h0,h2⟩:=hr2
 simp only at h1 h0 h2
 by_cases hil:i<l.length
 ·obtain⟨y,hy⟩:∃y,l[i]=y:=⟨_,rfl⟩
  have hyr:qg y:=hr y (by rw[←hy];exact List.getElem_mem _)
  have em:elemAt (zP l) i=.int .i32 y:=by rw[ZY hil,hy]
  have g:(i:Int)<l.length:=by omega
  have w:IntKind.i64.wrap ((i:Int)+1)=((i+1:Nat):Int):=zG (by omega)
  rw[List.drop_eq_getElem_cons hil,hy,vJ]at h2
  simp (maxSteps:=1000000) [go_sem,g,em,zg0]
  refine zq (ziP hT s y hyr) ?_ (ha':=by simp[go_sem,yZ])
  generalize ZC T0 s y=q at h2
  obtain⟨s',ct⟩:=q
  cases ct with
  |true=>
   simp (maxSteps:=1000000) [go_sem,yZ,w]
   exact⟨by omega,next (i+1,s',o++[i]) ⟨by show i+1≤l.length;omega,by simp;omega,by simpa using h2⟩ (by show l.length- (i+1)<l.length-i;omega) (by simp[go_sem,LeS,leV,leR,leA,leL,Z9])⟩
  |false=>
   simp (maxSteps:=1000000) [go_sem,yZ,w]
   exact next (i+1,s',o) ⟨by show i+1≤l.length;omega,by show o.length≤i+1;omega,by simpa using h2⟩ (by show l.length- (i+1)<l.length-i;omega) (by simp[go_sem,LeS,leV,leR,leA,leL])
 ·have g:¬(i:Int)<l.length:=by omega
  rw[List.drop_eq_nil_of_le (by omega),vJ,List.append_nil]at h2
  rw[h2]
  simp (maxSteps:=1000000) [go_sem,g]
  exact ret
end
section
open Go.AM
attribute [local irreducible] za
structure Ln(l:List Int)(L:List (List Int)):Prop where
 eq:L=zM za l
 n:l.length<2^31
 r:∀x∈l,qg x
theorem Ln.cl {l:List Int} {L:List (List Int)}(h:Ln l L):ClL L where
 full:=by rw[h.eq];exact zeY l h.n h.r
 sum:=by rw[h.eq,Xx.sum];exact h.n
theorem Ln.sum {l:List Int} {L:List (List Int)}(h:Ln l L):jm L=l.length:=by rw[h.eq];exact Xx.sum l
theorem Ln.flat {l:List Int} {L:List (List Int)}(h:Ln l L):L.flatten=l:=by rw[h.eq];exact Xx.flat l
theorem ziK(L:List (List Int)):isB L 0=true:=by
 have:=Jl L 0 (by omega)
 exact decide_eq_true (by omega)
theorem zeO [Gi](l:List Int):CR Tryz.prog 128 [] [.p (z6 za),.p (zE l),.p (.int .i64 0)] [] (is (.p (.bool true))):=by
 refine walk Tryz.func128 9 [] [3] [] ?_
 simp (maxSteps:=1000000) [go_sem,Tryz.f128]
 exact ret
theorem uG [Gi] {e:PV}(hT:xn e) {r:Int}(hr:qg r):CR Tryz.prog 209 [] [.p e,.p (.int .i32 r)] [] (is (.p (.int .i64 (zD za r)))):=by
 obtain⟨c,b,j,f,p,h,rfl⟩:=hT
 rw[←JU]
 exact VZ h _ _ _ _ wM hr
theorem zj4 [Gi] {e:PV}(hT:xn e) {r:Int}(hr:qg r):CR Tryz.prog 211 [] [.p e,.p (.int .i32 r)] [] (is (.p (.bool (pcD r)))):=by
 obtain⟨c,b,j,f,p,h,rfl⟩:=hT
 rw[pcD,←zgu]
 exact zd0 h _ _ _ _ wM hr
theorem yU [Gi]:CR Tryz.prog 13 [] [.p (z6 za)] [] (fun x rs=>rs=[]∧∃e,x=.p e∧xn e):=zhl
theorem qI [Gi] {S:St} {dst:Option Nat} {x:Operand} {args:Array Operand} {argTypes:Array TypeId} {tt:TypeId} {pos:String} {after:Array Edge} {guard:Option (Nat×Bool)} {r:AV} {c:Option Bool} {K:St→Prop}(f:FuncId) {as1:List AV}
  (hC:CR Tryz.prog f [] as1 [] (is r)) (hk:dOK S dst∧K (S.qE dst (gv c r))) (hr:WI r=true:=by rfl) (hf:ze7 (S.ev x)=some f:=by rfl) (hb:((Tryz.prog.funcs[f]?).map (·.body.isSome))=some true∧((Tryz.prog.funcs[f]?).map (·.name))≠some "runtime.NumGoroutine" :=by exact⟨by kernel_rfl,by decide+kernel⟩)
  (ha:(ZM S [] args.toList).1:=by simp[go_sem]) (ha':(ZM S [] args.toList).2=as1:=by simp[go_sem]):Ys Tryz.prog S ⟨dst,.call ⟨.value x,args,argTypes⟩,tt,pos,after,guard⟩ c K:=
 qm r hr rfl (fun _=>qk f hC hf hb ⟨ha,ha'⟩) hk
theorem ziy {L:List (List Int)}(h:ClL L) {a:Int}(ha:a≤(plc L (kf L a):Int)):cnt (pl L) a=kf L a:=by
 have q3:=zda L a
 by_cases c0:a<0
 ·rw[zow L c0]
  exact UP (Nat.zero_le _) (fun i _ hi=>absurd hi (by omega)) (fun i _ _=>by omega)
 ·have q1:=Jl L a (by omega)
  have e:a=(plc L (kf L a):Int):=by omega
  have:=zbR h q3
  rw[←e]at this
  exact this
theorem zkT {L:List (List Int)}(h:ClL L) {a:Int}(ha:(plc L (kf L a):Int)<a)(hk:kf L a<L.length):cnt (pl L) a=kf L a+1:=by
 have q2:=zeo L a hk
 refine UP (by rw[Q4];omega) (fun i hi hik=>?_) (fun i hi hik=>?_)
 ·rw[j8];have:=wv h (i:=i) (j:=kf L a) (by omega) (by omega);omega
 ·rw[j8];rw[Q4]at hi;have:=wv h (i:=kf L a+1) (j:=i) hik (by omega);omega
theorem znO {L:List (List Int)}(h:ClL L) {i:Nat}(hi:(i:Int)<jm L):cnt (pl L) ((i:Int)+1)=cnt (pl L) i+(if isB L i=true then 1 else 0):=by
 have q0:=zcj h hi (by omega)
 have q1:=Jl L i (by omega)
 have q2:=zeo L i q0
 by_cases c:isB L i=true
 ·have e:(plc L (kf L i):Int)=i:=of_decide_eq_true c
  rw[if_pos c,ziy h (a:=(i:Int)) (by omega)]
  refine UP (by rw[Q4];omega) (fun j hj hjk=>?_) (fun j hj hjk=>?_)
  ·rw[j8];have:=wv h (i:=j) (j:=kf L i) (by omega) (by omega);omega
  ·rw[j8];rw[Q4]at hj;have:=wv h (i:=kf L i+1) (j:=j) hjk (by omega);omega
 ·have e:¬(plc L (kf L i):Int)=i:=fun e=>c (decide_eq_true e)
  rw[if_neg c,zkT h (a:=(i:Int)) (by omega) q0]
  refine UP (by rw[Q4];omega) (fun j hj hjk=>?_) (fun j hj hjk=>?_)
  ·rw[j8];have:=wv h (i:=j) (j:=kf L i) (by omega) (by omega);omega
  ·rw[j8];rw[Q4]at hj;have:=wv h (i:=kf L i+1) (j:=j) hjk (by omega);omega
theorem zkg {S:List Nat} {a:Int}(h:a≤0):cnt S a=0:=by
 unfold cnt
 exact List.countP_eq_zero.2 fun x _=>by simp only[decide_eq_true_eq];omega
theorem zg4 {L:List (List Int)}(h:ClL L) {i:Nat}(hb:isB L i=true):plc L (cnt (pl L) i)=i:=by
 have hk:=zda L i
 have e:(plc L (kf L i):Int)=i:=of_decide_eq_true hb
 have e2:=zbR h hk
 rw[e]at e2
 rw[e2];omega
end
end Go.Proofs.YtfjdbbpimklecaaGreatDoor
