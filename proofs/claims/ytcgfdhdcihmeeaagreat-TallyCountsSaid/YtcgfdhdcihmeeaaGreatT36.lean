/- A part of the proof of this seat's statements, by an abstract machine: what each operation does to values, and what the law's functions compute. Conditions: as each law says. -/
import Derived.Test.YtcgfdhdcihmeeaaGreatT32
import Derived.Test.YtcgfdhdcihmeeaaGreatT17
import Derived.Test.YtcgfdhdcihmeeaaGreatT33
import Derived.Test.YtcgfdhdcihmeeaaGreatT18
section
namespace Go.Proofs.YtcgfdhdcihmeeaaGreat
open Go.AM
set_option maxHeartbeats 4000000
set_option maxRecDepth 10000
attribute [go_sem] zA yS znp zX zdH
@[go_sem] theorem znl : (Value.slice none 0 0).oneCell' = true := rfl
@[go_sem] theorem znU : (Value.pointer none).oneCell' = true := rfl
theorem call [Gi] {A:Prop} {S:St} {f:FuncId} {args:List Operand} {dst:Option Nat} {K:St→Prop}(m:List (Tok×Tok)) {pin:List Tok} {as1:List AV} {rs:List (Tok×List AV)} {R:AV→List (Tok×List AV)→Prop}(hC:CR Tryz.prog f pin as1 rs R)
  (hk:∀x rs',R x rs'→K ((uv S (dst.getD S.n) m pin rs').qu dst (x.ren fun u=>some (Q2 (dst.getD S.n) m u))))
  (hb:A:=by exact⟨rfl,by decide+kernel⟩)
  (hm:okM (dst.getD S.n) m=true∧S.pin.all (q8 (dst.getD S.n) m pin)=true∧dOK S dst:=by simp[go_sem,zM])
  (ha:(ZN S m args).1:=by simp[go_sem]) (ha':(ZN S m args).2=as1:=by simp[go_sem]) (hr:qB S m m=rs:=by simp[go_sem]):
  A∧Jp Tryz.prog S f args dst K:=
 ⟨hb,zd m hC hm ⟨ha,ha'⟩ hr hk⟩
theorem zq [Gi] {A:Prop} {S:St} {f:FuncId} {args:List Operand} {dst:Option Nat} {K:St→Prop} {as1:List AV} {v:AV}(hC:CR Tryz.prog f [] as1 [] (is v))
  (hk:K ((uv S (dst.getD S.n) [] [] []).qu dst (v.ren fun u=>some (Q2 (dst.getD S.n) [] u))))
  (hb:A:=by exact⟨rfl,by decide+kernel⟩)
  (hm:okM (dst.getD S.n) []=true∧S.pin.all (q8 (dst.getD S.n) [] [])=true∧dOK S dst:=by simp[go_sem,zM])
  (ha:(ZN S [] args).1:=by simp[go_sem]) (ha':(ZN S [] args).2=as1:=by simp[go_sem]):
  A∧Jp Tryz.prog S f args dst K:=
 ⟨hb,zd [] hC hm ⟨ha,ha'⟩ (by simp[go_sem]) (fun x rs' h=>by obtain⟨rfl,rfl⟩:=h;exact hk)⟩
theorem ret [Gi] {ts:List (Nat×Option TypeId)} {S:St} {x:AV}(hp:S.pin=[]:=by rfl)
  (hx:(zf Tryz.prog S ts).1∧leT ((zf Tryz.prog S ts).2.upd (AM.fil (fun _=>false) ftt)) x:=by simp[go_sem,zf,leA,leT,leP]):uz Tryz.prog [] ts (is x) S:=zh x hp hx ⟨rfl,rfl⟩
def keeps(R:List (Tok×List AV))(v:PV):AV→List (Tok×List AV)→Prop:=fun x rs=>rs=R∧x=.p v
def idm(l:List Tok):List (Tok×Tok):=l.map fun t=>(t,t)
attribute [go_sem] idm St.ofR
def zlK(pin:List Tok)(R:List (Tok×List AV))(v:PV):AV→List (Tok×List AV)→Prop:=fun x rs=>x=.p v∧qB (St.ofR rs) (idm pin) (idm pin)=R
theorem CR.keeps [Gi] {f:FuncId} {pin:List Tok} {args:List AV} {rs R:List (Tok×List AV)} {v:PV}(h:CR Tryz.prog f pin args rs (zlK pin R v))(hok:(okM 1000000 (idm pin)&&pin.all fun t=>inM (idm pin) t==some t)=true):CR Tryz.prog f pin args rs (keeps R v):=by
 simp only[Bool.and_eq_true]at hok
 refine CR.ren h 1000000 ?_
 rintro x rs' ⟨rfl,h2⟩
 exact⟨idm pin,hok.1,hok.2,h2,rfl⟩
def zhQ(R:List (Tok×List AV))(v:AV):AV→List (Tok×List AV)→Prop:=fun x rs=>rs=R∧x=v
def zjZ(pin:List Tok)(R:List (Tok×List AV))(v:AV):AV→List (Tok×List AV)→Prop:=fun x rs=>x=v∧qB (St.ofR rs) (idm pin) (idm pin)=R
theorem CR.zhQ [Gi] {f:FuncId} {pin:List Tok} {args:List AV} {rs R:List (Tok×List AV)} {v:AV}(h:CR Tryz.prog f pin args rs (zjZ pin R v))(hok:(okM 1000000 (idm pin)&&pin.all fun t=>inM (idm pin) t==some t)=true)(hv:v.ren (inM (idm pin))=v):CR Tryz.prog f pin args rs (zhQ R v):=by
 simp only[Bool.and_eq_true]at hok
 refine CR.ren h 1000000 ?_
 rintro x rs' ⟨rfl,h2⟩
 exact⟨idm pin,hok.1,hok.2,h2,hv⟩
theorem next {ι:Type} {inv:ι→Prop} {st:ι→St} {m:ι→Nat} {i:ι} {Q:Exit→St→Prop} {S:St}(j:ι)(h1:inv j)(h3:m j<m i:=by simp;omega)(h2:LeS S (st j):=by simp[go_sem,LeS,leV,leR,leA,leL,zi,leT,leP]):Uu inv st m i Q .normal S:=zg j h1 h2 h3
theorem loop [Gi] {D:List Nat} {c:Code} {Q:Exit→St→Prop} {S:St} {ι:Type}(inv:ι→Prop)(V:ι→List (Nat×AV))(R:ι→List (Tok×List AV))(m:ι→Nat)(i:ι)(hi:inv i)
  (h:∀i,inv i→wpA Tryz.prog D c (Uu inv (fun i=>S.za0 (V i) (R i)) m i Q) (S.za0 (V i) (R i))) (h0:LeS S (S.za0 (V i) (R i)):=by simp[go_sem,LeS,leV,leR,leA,leL,zi,leT,leP]):wpA Tryz.prog D (.loop c) Q S:=
 zE inv V R m i hi h0 h
theorem walk [Gi] {f:FuncId} {fn:Func} {c:Code} {ts:List (Nat×Option TypeId)}(hf:Tryz.prog.funcs[f]?=some fn)(nv:Nat) {pin:List Tok} {args:List AV} {rs:List (Tok×List AV)} {R:AV→List (Tok×List AV)→Prop}(ex:List Nat)(D:List Nat)(rm:List Nat)
  (h:wpA Tryz.prog D c (WG Tryz.prog pin ts R) {n:=fn.ntmps,nv:=nv,vs:=uV 0 args,ts:=[],rs:=rs,pin:=pin,ex:=ex,rm:=rm}) (hb:fn.body=some c:=by exact rfl) (hok:q9 D c=true:=by kernel_rfl)
  (hres:uN fn.results.toList=some ts:=by exact rfl) (hnv:args.length≤nv:=by simp) (hn:args.length≤fn.ntmps:=by simp):CR Tryz.prog f pin args rs R:=
 vX D mixed nv ex hf hb hok rm hres hnv hn h
end Go.Proofs.YtcgfdhdcihmeeaaGreat
end
section
namespace Go.Proofs.YtcgfdhdcihmeeaaGreat
open Go.AM
set_option maxHeartbeats 4000000
set_option maxRecDepth 10000
attribute [local irreducible] za
theorem y7 [Gi](r:Int):CR Tryz.prog 147 [] [.p (.int .i32 r)] [] (is (.p (.bool (qU r)))):=by
 refine walk Tryz.func147 3 [] [] [] ?_
 have e:qU r=((decide (0≤r)&&decide (r≤1114111))&&(decide (r<55296) || decide (57343<r))):=by
  unfold qU
  by_cases h1:0≤r<;>by_cases h2:r<55296<;>by_cases h3:57343<r<;>by_cases h4:r≤1114111<;>simp[h1,h2,h3,h4]<;>omega
 rw[e]
 by_cases h1:0≤r<;>by_cases h2:r≤1114111<;>by_cases h3:r<55296<;>simp (maxSteps:=1000000) [go_sem,Tryz.f147,h1,h2,h3]<;>exact ret
theorem xt [Gi](r:Int):CR Tryz.prog 136 [] [.p (.int .i32 r)] [] (is (.p (.bool (qU r)))):=by
 refine walk Tryz.func136 3 [] [] [] ?_
 unfold qU
 by_cases h1:0≤r<;>by_cases h2:r<55296<;>by_cases h3:57343<r<;>simp (maxSteps:=1000000) [go_sem,Tryz.f136,h1,h2,h3]<;>exact ret
def yi(r:Int):Int:=if qU r=false then 3 else if r<128 then 1 else if r<2048 then 2 else if r<65536 then 3 else 4
theorem vj [Gi](r:Int):CR Tryz.prog 148 [] [.p (.int .i32 r)] [] (is (.p (.int .i64 (yi r)))):=by
 refine walk Tryz.func148 3 [] [] [] ?_
 simp (maxSteps:=1000000) [go_sem,Tryz.f148]
 refine zq (y7 r) ?_
 cases hv:qU r with
 |false=>
  simp (maxSteps:=1000000) [go_sem]
  exact ret (hx:=by simp[go_sem,zf,leA,leT,leP,yi,hv])
 |true=>
  by_cases h1:r<128
  ·simp (maxSteps:=1000000) [go_sem,h1]
   exact ret (hx:=by simp[go_sem,zf,leA,leT,leP,yi,hv,h1])
  ·by_cases h2:r<2048
   ·simp (maxSteps:=1000000) [go_sem,h1,h2]
    exact ret (hx:=by simp[go_sem,zf,leA,leT,leP,yi,hv,h1,h2])
   ·by_cases h3:r<65536
    ·simp (maxSteps:=1000000) [go_sem,h1,h2,h3]
     exact ret (hx:=by simp[go_sem,zf,leA,leT,leP,yi,hv,h1,h2,h3])
    ·simp (maxSteps:=1000000) [go_sem,h1,h2,h3]
     exact ret (hx:=by simp[go_sem,zf,leA,leT,leP,yi,hv,h1,h2,h3])
theorem wk0:IntKind.i64.wrap 0=0:=by decide
theorem wk1:IntKind.i64.wrap 1=1:=by decide
theorem wk2:IntKind.i64.wrap 2=2:=by decide
theorem wk3:IntKind.i64.wrap 3=3:=by decide
theorem zjN:∀y:Fin 64,IntKind.u8.wrap (IntKind.i32.wrap ((128#32 |||BitVec.ofInt 32 (IntKind.i32.wrap (y.1:Int))).toNat:Int))=128+(y.1:Int):=by decide+kernel
theorem cby {x y:Nat}(h:y=x%64):IntKind.u8.wrap (IntKind.i32.wrap ((128#32 |||BitVec.ofInt 32 (IntKind.i32.wrap ((BitVec.ofNat 32 x&&& 63#32).toNat:Int))).toNat:Int))=128+(y:Int):=by
 have e:(BitVec.ofNat 32 x&&& 63#32).toNat=y:=by
  rw[BitVec.toNat_and,BitVec.toNat_ofNat,show(63#32:BitVec 32).toNat=2^6-1 from rfl,Nat.and_two_pow_sub_one_eq_mod,h]
  omega
 rw[e]
 exact zjN ⟨y,by omega⟩
theorem zjy:∀x:Fin 32,IntKind.u8.wrap ((BitVec.ofInt 8 (IntKind.u8.wrap 960) |||BitVec.ofInt 8 (IntKind.u8.wrap (x.1:Int))).toNat:Int)=192+(x.1:Int):=by decide+kernel
theorem ze5:∀x:Fin 16,IntKind.u8.wrap ((BitVec.ofInt 8 (IntKind.u8.wrap 480) |||BitVec.ofInt 8 (IntKind.u8.wrap (x.1:Int))).toNat:Int)=224+(x.1:Int):=by decide+kernel
theorem zkG:∀x:Fin 8,IntKind.u8.wrap ((BitVec.ofInt 8 (IntKind.u8.wrap 240) |||BitVec.ofInt 8 (IntKind.u8.wrap (x.1:Int))).toNat:Int)=240+(x.1:Int):=by decide+kernel
theorem zbb {x y:Nat}(h:y=x/64):(x:Int).fdiv 64=(y:Int):=by
 rw[h,Int.fdiv_eq_ediv_of_nonneg _ (by decide)];rfl
theorem Qd(a x:Nat):UInt8.ofNat ((a:Int)+(x:Int)).toNat=u8 (a+x):=by
 unfold u8;congr 1
theorem zlH [Gi](q:Nat)(h1:128≤q)(h2:q<2048):CR Tryz.prog 143 [] [.p (.int .i32 q)] [] (is (.p (.str (Qp q)))):=by
 refine walk Tryz.func143 7 [] [] [] ?_
 have hv:qU (q:Int)=true:=by unfold qU;simp;omega
 have hs:yi (q:Int)=2:=by unfold yi;rw[hv];simp;omega
 have g1:=y7 (q:Int)
 have g2:=vj (q:Int)
 rw[hv]at g1
 rw[hs]at g2
 obtain⟨q1,hq1⟩:∃q1,q1=q/64:=⟨_,rfl⟩
 obtain⟨m0,hm0⟩:∃m,m=q%64:=⟨_,rfl⟩
 have c0:=cby hm0
 have f0:=zbb hq1
 have l0:=zjy ⟨q1,by omega⟩
 simp only at l0
 have e:Qp q=[u8 (192+q1),u8 (128+m0)]:=by unfold Qp;rw[if_neg (by omega),if_pos h2,hq1,hm0]
 rw[e]
 simp (maxSteps:=1000000) [go_sem,Tryz.f143]
 refine zq g1 ?_
 simp (maxSteps:=1000000) [go_sem]
 refine zq g2 ?_
 simp (maxSteps:=1000000) [go_sem,wk1]
 refine loop (fun j:Nat=>j≤1) (fun j=>match j with
   |0=>[(5,.p (.int .i64 1))]
   |_=>[(5,.p (.int .i64 0)),(0,.p (.int .i32 q1))]) (fun j=>match j with
   |0=>[([19],[.p (.int .u8 0),.p (.int .u8 0)])]
   |_=>[([19],[.p (.int .u8 0),.p (.int .u8 (128+(m0:Int)))])]) (fun j=>1-j) 0 (by omega) (fun j hj=>?_)
 rcases j with _|_|j
 ·simp (maxSteps:=1000000) [go_sem,wk0,c0,f0]
  exact next 1 (by omega) (h3:=by decide) (h2:=by simp[go_sem,LeS,leV,leR,leA,leL,leT,leP];exact c0)
 ·simp (maxSteps:=1000000) [go_sem,l0]
  exact ret (hx:=by simp[go_sem,zf,leA,leT,leP];exact⟨(congrArg (fun z:Int=>UInt8.ofNat z.toNat) l0).trans (Qd 192 q1),Qd 128 m0⟩)
 ·omega
theorem zmo [Gi](q:Nat)(h1:2048≤q)(h2:q<65536)(hv:qU (q:Int)=true):CR Tryz.prog 143 [] [.p (.int .i32 q)] [] (is (.p (.str (Qp q)))):=by
 refine walk Tryz.func143 7 [] [] [] ?_
 have hs:yi (q:Int)=3:=by unfold yi;rw[hv];simp;omega
 have g1:=y7 (q:Int)
 have g2:=vj (q:Int)
 rw[hv]at g1
 rw[hs]at g2
 obtain⟨q1,hq1⟩:∃x,x=q/64:=⟨_,rfl⟩
 have f1:=zbb hq1
 obtain⟨q2,hq2⟩:∃x,x=q1/64:=⟨_,rfl⟩
 have f2:=zbb hq2
 obtain⟨m0,hm0⟩:∃m,m=q%64:=⟨_,rfl⟩
 have c0:=cby hm0
 obtain⟨m1,hm1⟩:∃m,m=q1%64:=⟨_,rfl⟩
 have c1:=cby hm1
 have l0:=ze5 ⟨q2,by omega⟩
 simp only at l0
 have e:Qp q=[u8 (224+q2),u8 (128+m1),u8 (128+m0)]:=by
  have e1:q/4096=q2:=by omega
  have e2:q/64%64=m1:=by omega
  have e3:q%64=m0:=by omega
  unfold Qp
  rw[if_neg (by omega),if_neg (by omega),if_pos (by omega),e1,e2,e3]
 rw[e]
 simp (maxSteps:=1000000) [go_sem,Tryz.f143]
 refine zq g1 ?_
 simp (maxSteps:=1000000) [go_sem]
 refine zq g2 ?_
 simp (maxSteps:=1000000) [go_sem,wk2]
 refine loop (fun j:Nat=>j≤2) (fun j=>match j with
   |0=>[(5,.p (.int .i64 2))]
   |1=>[(5,.p (.int .i64 1)),(0,.p (.int .i32 q1))]
   |_=>[(5,.p (.int .i64 0)),(0,.p (.int .i32 q2))]) (fun j=>match j with
   |0=>[([19],[.p (.int .u8 0),.p (.int .u8 0),.p (.int .u8 0)])]
   |1=>[([19],[.p (.int .u8 0),.p (.int .u8 0),.p (.int .u8 (128+(m0:Int)))])]
   |_=>[([19],[.p (.int .u8 0),.p (.int .u8 (128+(m1:Int))),.p (.int .u8 (128+(m0:Int)))])]) (fun j=>2-j) 0 (by omega) (fun j hj=>?_)
 rcases j with _|_|_|j
 ·simp (maxSteps:=1000000) [go_sem,wk0,wk1,wk2,c0,f1]
  exact next 1 (by omega) (h3:=by decide) (h2:=by simp[go_sem,LeS,leV,leR,leA,leL,leT,leP];exact c0)
 ·simp (maxSteps:=1000000) [go_sem,wk0,wk1,wk2,c1,f2]
  exact next 2 (by omega) (h3:=by decide) (h2:=by simp[go_sem,LeS,leV,leR,leA,leL,leT,leP];exact c1)
 ·simp (maxSteps:=1000000) [go_sem,l0]
  exact ret (hx:=by simp[go_sem,zf,leA,leT,leP];exact⟨(congrArg (fun z:Int=>UInt8.ofNat z.toNat) l0).trans (Qd 224 q2),Qd 128 m1,Qd 128 m0⟩)
 ·omega
theorem zmy [Gi](q:Nat)(h1:65536≤q)(h2:q≤1114111)(hv:qU (q:Int)=true):CR Tryz.prog 143 [] [.p (.int .i32 q)] [] (is (.p (.str (Qp q)))):=by
 refine walk Tryz.func143 7 [] [] [] ?_
 have hs:yi (q:Int)=4:=by unfold yi;rw[hv];simp;omega
 have g1:=y7 (q:Int)
 have g2:=vj (q:Int)
 rw[hv]at g1
 rw[hs]at g2
 obtain⟨q1,hq1⟩:∃x,x=q/64:=⟨_,rfl⟩
 have f1:=zbb hq1
 obtain⟨q2,hq2⟩:∃x,x=q1/64:=⟨_,rfl⟩
 have f2:=zbb hq2
 obtain⟨q3,hq3⟩:∃x,x=q2/64:=⟨_,rfl⟩
 have f3:=zbb hq3
 obtain⟨m0,hm0⟩:∃m,m=q%64:=⟨_,rfl⟩
 have c0:=cby hm0
 obtain⟨m1,hm1⟩:∃m,m=q1%64:=⟨_,rfl⟩
 have c1:=cby hm1
 obtain⟨m2,hm2⟩:∃m,m=q2%64:=⟨_,rfl⟩
 have c2:=cby hm2
 have l0:=zkG ⟨q3,by omega⟩
 simp only at l0
 have e:Qp q=[u8 (240+q3),u8 (128+m2),u8 (128+m1),u8 (128+m0)]:=by
  have e0:q/262144=q3:=by omega
  have e1:q/4096%64=m2:=by omega
  have e2:q/64%64=m1:=by omega
  have e3:q%64=m0:=by omega
  unfold Qp
  rw[if_neg (by omega),if_neg (by omega),if_neg (by omega),e0,e1,e2,e3]
 rw[e]
 simp (maxSteps:=1000000) [go_sem,Tryz.f143]
 refine zq g1 ?_
 simp (maxSteps:=1000000) [go_sem]
 refine zq g2 ?_
 simp (maxSteps:=1000000) [go_sem,wk3]
 refine loop (fun j:Nat=>j≤3) (fun j=>match j with
   |0=>[(5,.p (.int .i64 3))]
   |1=>[(5,.p (.int .i64 2)),(0,.p (.int .i32 q1))]
   |2=>[(5,.p (.int .i64 1)),(0,.p (.int .i32 q2))]
   |_=>[(5,.p (.int .i64 0)),(0,.p (.int .i32 q3))]) (fun j=>match j with
   |0=>[([19],[.p (.int .u8 0),.p (.int .u8 0),.p (.int .u8 0),.p (.int .u8 0)])]
   |1=>[([19],[.p (.int .u8 0),.p (.int .u8 0),.p (.int .u8 0),.p (.int .u8 (128+(m0:Int)))])]
   |2=>[([19],[.p (.int .u8 0),.p (.int .u8 0),.p (.int .u8 (128+(m1:Int))),.p (.int .u8 (128+(m0:Int)))])]
   |_=>[([19],[.p (.int .u8 0),.p (.int .u8 (128+(m2:Int))),.p (.int .u8 (128+(m1:Int))),.p (.int .u8 (128+(m0:Int)))])]) (fun j=>3-j) 0 (by omega) (fun j hj=>?_)
 rcases j with _|_|_|_|j
 ·simp (maxSteps:=1000000) [go_sem,wk0,wk1,wk2,c0,f1]
  exact next 1 (by omega) (h3:=by decide) (h2:=by simp[go_sem,LeS,leV,leR,leA,leL,leT,leP];exact c0)
 ·simp (maxSteps:=1000000) [go_sem,wk0,wk1,wk2,c1,f2]
  exact next 2 (by omega) (h3:=by decide) (h2:=by simp[go_sem,LeS,leV,leR,leA,leL,leT,leP];exact c1)
 ·simp (maxSteps:=1000000) [go_sem,wk0,wk1,wk2,c2,f3]
  exact next 3 (by omega) (h3:=by decide) (h2:=by simp[go_sem,LeS,leV,leR,leA,leL,leT,leP];exact c2)
 ·simp (maxSteps:=1000000) [go_sem,l0]
  exact ret (hx:=by simp[go_sem,zf,leA,leT,leP];exact⟨(congrArg (fun z:Int=>UInt8.ofNat z.toNat) l0).trans (Qd 240 q3),Qd 128 m2,Qd 128 m1,Qd 128 m0⟩)
 ·omega
theorem zlg [Gi](r:Int)(hv:qU r=false):CR Tryz.prog 143 [] [.p (.int .i32 r)] [] (is (.p (.str (Qp 65533)))):=by
 refine walk Tryz.func143 7 [] [] [] ?_
 obtain⟨q,hq⟩:∃q:Nat,q=65533:=⟨_,rfl⟩
 have hqI:(65533:Int)=(q:Int):=by omega
 have hv2:qU (q:Int)=true:=by rw[←hqI];decide
 have hs:yi (q:Int)=3:=by rw[←hqI];decide
 have g1:=y7 r
 have g2:=vj (q:Int)
 rw[hv]at g1
 rw[hs]at g2
 obtain⟨q1,hq1⟩:∃x,x=q/64:=⟨_,rfl⟩
 have f1:=zbb hq1
 obtain⟨q2,hq2⟩:∃x,x=q1/64:=⟨_,rfl⟩
 have f2:=zbb hq2
 obtain⟨m0,hm0⟩:∃m,m=q%64:=⟨_,rfl⟩
 have c0:=cby hm0
 obtain⟨m1,hm1⟩:∃m,m=q1%64:=⟨_,rfl⟩
 have c1:=cby hm1
 have l0:=ze5 ⟨q2,by omega⟩
 simp only at l0
 have e:Qp 65533=[u8 (224+q2),u8 (128+m1),u8 (128+m0)]:=by
  have e1:65533/4096=q2:=by omega
  have e2:65533/64%64=m1:=by omega
  have e3:65533%64=m0:=by omega
  unfold Qp
  rw[if_neg (by omega),if_neg (by omega),if_pos (by omega),e1,e2,e3]
 rw[e]
 simp (maxSteps:=1000000) [go_sem,Tryz.f143]
 refine zq g1 ?_
 simp (maxSteps:=1000000) [go_sem,hqI]
 refine zq g2 ?_
 simp (maxSteps:=1000000) [go_sem,wk2]
 refine loop (fun j:Nat=>j≤2) (fun j=>match j with
   |0=>[(5,.p (.int .i64 2))]
   |1=>[(5,.p (.int .i64 1)),(0,.p (.int .i32 q1))]
   |_=>[(5,.p (.int .i64 0)),(0,.p (.int .i32 q2))]) (fun j=>match j with
   |0=>[([19],[.p (.int .u8 0),.p (.int .u8 0),.p (.int .u8 0)])]
   |1=>[([19],[.p (.int .u8 0),.p (.int .u8 0),.p (.int .u8 (128+(m0:Int)))])]
   |_=>[([19],[.p (.int .u8 0),.p (.int .u8 (128+(m1:Int))),.p (.int .u8 (128+(m0:Int)))])]) (fun j=>2-j) 0 (by omega) (fun j hj=>?_)
 rcases j with _|_|_|j
 ·simp (maxSteps:=1000000) [go_sem,wk0,wk1,wk2,c0,f1]
  exact next 1 (by omega) (h3:=by decide) (h2:=by simp[go_sem,LeS,leV,leR,leA,leL,leT,leP];exact c0)
 ·simp (maxSteps:=1000000) [go_sem,wk0,wk1,wk2,c1,f2]
  exact next 2 (by omega) (h3:=by decide) (h2:=by simp[go_sem,LeS,leV,leR,leA,leL,leT,leP];exact c1)
 ·simp (maxSteps:=1000000) [go_sem,l0]
  exact ret (hx:=by simp[go_sem,zf,leA,leT,leP];exact⟨(congrArg (fun z:Int=>UInt8.ofNat z.toNat) l0).trans (Qd 224 q2),Qd 128 m1,Qd 128 m0⟩)
 ·omega
theorem zlq [Gi](q:Nat)(h1:q<128):CR Tryz.prog 143 [] [.p (.int .i32 q)] [] (is (.p (.str (Qp q)))):=by
 refine walk Tryz.func143 7 [] [] [] ?_
 have hv:qU (q:Int)=true:=by unfold qU;simp;omega
 have hs:yi (q:Int)=1:=by unfold yi;rw[hv];simp;omega
 have g1:=y7 (q:Int)
 have g2:=vj (q:Int)
 rw[hv]at g1
 rw[hs]at g2
 have e:Qp q=[u8 q]:=by unfold Qp;rw[if_pos h1]
 have w:∀x:Fin 128,IntKind.u8.wrap (x.1:Int)=x.1:=by decide
 have w':IntKind.u8.wrap (q:Int)=q:=w ⟨q,h1⟩
 rw[e]
 simp (maxSteps:=1000000) [go_sem,Tryz.f143]
 refine zq g1 ?_
 simp (maxSteps:=1000000) [go_sem]
 refine zq g2 ?_
 simp (maxSteps:=1000000) [go_sem,w']
 exact ret (hx:=by simp[go_sem,zf,leA,leT,leP,u8])
theorem zk2 [Gi](r:Int):CR Tryz.prog 143 [] [.p (.int .i32 r)] [] (is (.p (.str (QN r)))):=by
 unfold QN zbs
 cases hv:qU r with
 |false=>exact zlg r hv
 |true=>
  have h:(0≤r∧r<55296)∨(57343<r∧r≤1114111):=by unfold qU at hv;simpa using hv
  obtain⟨q,rfl⟩:∃q:Nat,r=q:=⟨r.toNat,by omega⟩
  rw[if_pos rfl,Int.toNat_natCast]
  by_cases c1:q<128
  ·exact zlq q c1
  ·by_cases c2:q<2048
   ·exact zlH q (by omega) c2
   ·by_cases c3:q<65536
    ·exact zmo q (by omega) c3 hv
    ·exact zmy q (by omega) (by omega) hv
end Go.Proofs.YtcgfdhdcihmeeaaGreat
end
section
namespace Go.Proofs.YtcgfdhdcihmeeaaGreat
open Go.AM
set_option maxHeartbeats 4000000
set_option maxRecDepth 10000
def ZQ(l:List Nat):List PV:=l.map fun n=>.int .i64 (n:Nat)
def JP(l:List Nat):PV:=.sl 1 (ZQ l)
attribute [go_sem] JP
@[go_sem] theorem zjl (l : List Nat) : (ZQ l).length = l.length := by simp [ZQ]
theorem UZ {l:List Nat} {j:Nat}(h:j<l.length):elemAt (ZQ l) j=.int .i64 (l[j]:Nat):=by rw[ZQ,zp (fun r:Nat=>PV.int .i64 r) l j h]
theorem zh9 {l:List Nat} {j:Nat}(h:l.length≤j):elemAt (ZQ l) j=.int .i8 0:=by
 unfold elemAt
 rw[List.getD_eq_getElem?_getD,List.getElem?_eq_none (by rw[zjl];exact h)];rfl
theorem zjm(a b:List Nat):ZQ (a++b)=ZQ a++ZQ b:=by simp[ZQ]
def cnt(S:List Nat)(a:Int):Nat:=S.countP fun(s:Nat)=>decide ((s:Int)<a)
def zfL(S:List Nat)(a:Int):Bool:=S.any fun(s:Nat)=>decide ((s:Int)=a)
theorem Vo {S:List Nat} {a:Int} {k:Nat}(hk:k≤S.length)(h1:∀i (h:i<S.length),i<k→(S[i]:Int)<a)(h2:∀i (h:i<S.length),k≤i→a≤(S[i]:Int)):cnt S a=k:=by
 unfold cnt
 rw[←List.take_append_drop k S,List.countP_append]
 have e1:(S.take k).countP (fun(s:Nat)=>decide ((s:Int)<a))=(S.take k).length:=by
  rw[List.countP_eq_length]
  intro s hs
  obtain⟨i,hi,rfl⟩:=List.mem_iff_getElem.1 hs
  rw[List.length_take]at hi
  rw[List.getElem_take]
  exact decide_eq_true (h1 i (by omega) (by omega))
 have e2:(S.drop k).countP (fun(s:Nat)=>decide ((s:Int)<a))=0:=by
  rw[List.countP_eq_zero]
  intro s hs
  obtain⟨i,hi,rfl⟩:=List.mem_iff_getElem.1 hs
  rw[List.length_drop]at hi
  rw[List.getElem_drop]
  have:=h2 (k+i) (by omega) (by omega)
  simp only[decide_eq_true_eq];omega
 rw[e1,e2,List.length_take];omega
theorem zjL [Gi](a b:Int):CR Tryz.prog 98 [] [.p (.int .i64 a),.p (.int .i64 b)] [] (is (.p (.bool (decide (a<b))))):=by
 refine walk Tryz.func98 5 [] [] [] ?_
 simp (maxSteps:=1000000) [go_sem,Tryz.f98]
 refine zq (zdB a) ?_
 simp (maxSteps:=1000000) [go_sem]
 exact ret
theorem zjQ [Gi](a:Int):CR Tryz.prog 99 [] [.p (.int .i64 a)] [] (is (.p (.bool false))):=by
 refine walk Tryz.func99 3 [] [] [] ?_
 simp (maxSteps:=1000000) [go_sem,Tryz.f99]
 exact ret
theorem zdP [Gi](S:List Nat)(a:Int)(hS:S.Pairwise (· < ·))(hn:S.length<2^31):CR Tryz.prog 71 [] [.p (JP S),.p (.int .i64 a)] [] (is (.tup [.p (.int .i64 (cnt S a:Nat)),.p (.bool (zfL S a))])):=by
 refine walk Tryz.func71 10 [] [] [] ?_
 have hinc:∀i j (hi:i<S.length) (hj:j<S.length),i<j→S[i]<S[j]:=fun i j hi hj h=>List.pairwise_iff_getElem.1 hS i j hi hj h
 simp (maxSteps:=1000000) [go_sem,Tryz.f71]
 refine loop (fun r:Nat×Nat=>r.1≤r.2∧r.2≤S.length∧(∀i (hi:i<S.length),i<r.1→(S[i]:Int)<a)∧∀i (hi:i<S.length),r.2≤i→a≤(S[i]:Int)) (fun r=>[(7,.p (.int .i64 (r.1:Nat))),(8,.p (.int .i64 (r.2:Nat)))]) (fun _=>[]) (fun r=>r.2-r.1) (0,S.length) ⟨by simp,by simp,by simp,fun i hi h=>absurd h (by simpa using hi)⟩ (fun r hr=>?_)
 obtain⟨i,j⟩:=r
 obtain⟨h1,h2,h3,h4⟩:=hr
 simp only at h1 h2 h3 h4
 by_cases h:i<j
 ·obtain⟨s,hs⟩:∃s,s=i+j:=⟨_,rfl⟩
  obtain⟨m,hm⟩:∃m,m=s/2:=⟨_,rfl⟩
  have g:(i:Int)<j:=by omega
  have w1:IntKind.i64.wrap ((i:Int)+j)=(s:Int):=zge (by omega) hs
  have w2:IntKind.u64.wrap (s:Int)=(s:Int):=zmp (by omega)
  have w3:(s:Int).fdiv 2=(m:Int):=zgr hm
  have w4:IntKind.i64.wrap (m:Int)=(m:Int):=znW (by omega)
  have w5:IntKind.i64.wrap ((m:Int)+1)=((m+1:Nat):Int):=zD (by omega)
  have hml:m<S.length:=by omega
  have em:=UZ hml
  obtain⟨q,hq⟩:∃q,S[m]=q:=⟨_,rfl⟩
  rw[hq]at em
  simp (maxSteps:=1000000) [go_sem,g,w1,w2,w3,w4,em,hml]
  refine zq (zjL q a) ?_
  by_cases hb:(q:Int)<a
  ·simp (maxSteps:=1000000) [go_sem,hb,w5]
   refine next (m+1,j) ⟨by show m+1≤j;omega,h2,fun k hk hkm=>?_,h4⟩ (by show j- (m+1)<j-i;omega)
   by_cases e:k=m
   ·subst e;rw[hq];exact hb
   ·have:=hinc k m hk hml (by simp at hkm;omega)
    omega
  ·simp (maxSteps:=1000000) [go_sem,hb]
   refine next (i,m) ⟨by show i≤m;omega,by show m≤S.length;omega,h3,fun k hk hkm=>?_⟩ (by show m-i<j-i;omega)
   by_cases e:k=m
   ·subst e;rw[hq];omega
   ·have:=hinc m k hml hk (by simp at hkm;omega)
    omega
 ·obtain rfl:i=j:=by omega
  have e:=Vo h2 h3 h4
  rw[e]
  have g:¬(i:Int)<i:=by omega
  by_cases hil:i<S.length
  ·have em:=UZ hil
   have hc:=h4 i hil (Nat.le_refl _)
   have g2:(i:Int)<S.length:=by omega
   obtain⟨q,hq⟩:∃q,S[i]=q:=⟨_,rfl⟩
   rw[hq]at em hc
   by_cases hf:(q:Int)=a
   ·have hh:zfL S a=true:=List.any_eq_true.2 ⟨q,by rw[←hq];exact List.getElem_mem _,decide_eq_true hf⟩
    rw[hh]
    simp (maxSteps:=1000000) [go_sem,g,g2,em,hf]
    exact ret
   ·have hh:zfL S a=false:=by
     rw[zfL,List.any_eq_false]
     intro s hs
     obtain⟨k,hk,rfl⟩:=List.mem_iff_getElem.1 hs
     simp only[decide_eq_true_eq]
     intro hk2
     by_cases c1:k<i
     ·have:=h3 k hk c1;omega
     ·by_cases c2:k=i
      ·subst c2;omega
      ·have:=hinc i k hil hk (by omega)
       omega
    rw[hh]
    simp (maxSteps:=1000000) [go_sem,g,g2,em,hf]
    refine zq (zjQ q) ?_
    simp (maxSteps:=1000000) [go_sem]
    exact ret
  ·have hh:zfL S a=false:=by
    rw[zfL,List.any_eq_false]
    intro s hs
    obtain⟨k,hk,rfl⟩:=List.mem_iff_getElem.1 hs
    have:=h3 k hk (by omega)
    simp only[decide_eq_true_eq]
    omega
   have g2:¬(i:Int)<S.length:=by omega
   have em:=zh9 (l:=S) (j:=i) (by omega)
   rw[hh]
   simp (maxSteps:=1000000) [go_sem,g,g2,em]
   exact ret
end Go.Proofs.YtcgfdhdcihmeeaaGreat
end
section
namespace Go.Proofs.YtcgfdhdcihmeeaaGreat
open Go.AM
set_option maxHeartbeats 4000000
set_option maxRecDepth 10000
def plc(L:List (List Int))(k:Nat):Nat:=QX (L.take k)
def pl(L:List (List Int)):List Nat:=(List.range L.length).map (plc L)
structure ClL(L:List (List Int)):Prop where
 full:zk7 L
 sum:QX L<2^31
theorem zhn {L:List (List Int)} {k:Nat}(h:k<L.length):plc L (k+1)=plc L k+L[k].length:=zf3 h
theorem ClL.pos {L:List (List Int)}(h:ClL L) {k:Nat}(hk:k<L.length):0<L[k].length:=by
 obtain⟨x,c',e,_⟩:=h.full.r L[k] (List.getElem_mem hk)
 rw[e];simp
theorem zcY {L:List (List Int)}(h:ClL L) {k:Nat}(hk:k<L.length):plc L k<plc L (k+1):=by
 have:=h.pos hk
 rw[zhn hk];omega
theorem Ws {L:List (List Int)}(h:ClL L):∀{i j:Nat},i<j→j≤L.length→plc L i<plc L j
 |i,0,h1,_=>by omega
 |i,j+1,h1,h2=>by
  have a:=zcY h (k:=j) (by omega)
  by_cases e:i=j
  ·subst e;exact a
  ·have:=Ws h (i:=i) (j:=j) (by omega) (by omega)
   omega
theorem xV {L:List (List Int)}(h:ClL L) {i j:Nat}(h1:i≤j)(h2:j≤L.length):plc L i≤plc L j:=by
 by_cases e:i=j
 ·subst e;exact Nat.le_refl _
 ·exact Nat.le_of_lt (Ws h (by omega) h2)
theorem Wp(L:List (List Int)):plc L 0=0:=by simp[plc,QX]
theorem X9(L:List (List Int)):plc L L.length=QX L:=by simp[plc]
theorem QL(L:List (List Int)):(pl L).length=L.length:=by simp[pl]
theorem jD(L:List (List Int)) {k:Nat}(h:k< (pl L).length):(pl L)[k]=plc L k:=by simp[pl]
theorem zh7 {L:List (List Int)}(h:ClL L):(pl L).Pairwise (· < ·):=by
 rw[List.pairwise_iff_getElem]
 intro i j hi hj hij
 rw[jD,jD]
 rw[QL]at hj
 exact Ws h hij (by omega)
theorem ClL.num {L:List (List Int)}(h:ClL L):∀{k:Nat},k≤L.length→k≤plc L k
 |0,_=>Nat.zero_le _
 |k+1,hk=>by
  have:=h.num (k:=k) (by omega)
  have:=zcY h (k:=k) (by omega)
  omega
theorem ClL.len {L:List (List Int)}(h:ClL L):L.length≤QX L:=by rw[←X9];exact h.num (Nat.le_refl _)
def kf:List (List Int)→Int→Nat
 | [],_=>0
 |c::L,a=>if a<c.length then 0 else kf L (a-c.length)+1
theorem xi(c:List Int)(L:List (List Int))(k:Nat):plc (c::L) (k+1)=c.length+plc L k:=by simp[plc,QX]
theorem zcw:∀(L:List (List Int)) (a:Int),kf L a≤L.length
 | [],_=>Nat.le_refl _
 |c::L,a=>by
  unfold kf
  split
  ·omega
  ·have:=zcw L (a-c.length)
   simp only[List.length_cons];omega
theorem K8:∀(L:List (List Int)) (a:Int),0≤a→(plc L (kf L a):Int)≤a
 | [],a,h=>by simp[kf,plc,QX,h]
 |c::L,a,h=>by
  unfold kf
  split
  ·rw[Wp];omega
  ·have:=K8 L (a-c.length) (by omega)
   rw[xi];omega
theorem zck:∀(L:List (List Int)) (a:Int),kf L a<L.length→a< (plc L (kf L a+1):Int)
 | [],a,h=>by simp at h
 |c::L,a,h=>by
  unfold kf at h⊢
  split
  ·rename_i q
   rw[xi,Wp];omega
  ·rename_i q
   rw[if_neg q]at h
   have:=zck L (a-c.length) (by simpa using h)
   rw[xi];omega
theorem zmD(L:List (List Int)) {a:Int}(h:a<0):kf L a=0:=by
 cases L with
 |nil=>rfl
 |cons c L=>unfold kf;rw[if_pos (by omega)]
theorem zk3 {L:List (List Int)}(h:ClL L) {a:Int} {k:Nat}(hk:k≤L.length)(h1:(plc L k:Int)≤a)(h2:k<L.length→a< (plc L (k+1):Int)):kf L a=k:=by
 have q1:=K8 L a (by omega)
 have q2:=zck L a
 have q3:=zcw L a
 by_cases c:kf L a<k
 ·have a1:=q2 (by omega)
  have a2:=xV h (i:=kf L a+1) (j:=k) (by omega) hk
  omega
 ·by_cases c2:k<kf L a
  ·have a1:=h2 (by omega)
   have a2:=xV h (i:=k+1) (j:=kf L a) (by omega) q3
   omega
  ·omega
theorem zbN {L:List (List Int)}(_:ClL L) {a:Int}(ha:a< (QX L:Int))(h0:0≤a):kf L a<L.length:=by
 have q1:=K8 L a h0
 have q3:=zcw L a
 refine Nat.lt_of_le_of_ne q3 (fun e=>?_)
 rw[e,X9]at q1;omega
theorem zaf {L:List (List Int)}(h:ClL L) {k:Nat}(hk:k≤L.length):cnt (pl L) (plc L k)=k:=by
 refine Vo (by rw[QL];exact hk) (fun i hi hik=>?_) (fun i hi hik=>?_)
 ·rw[jD];have:=Ws h hik hk;omega
 ·rw[jD];rw[QL]at hi;have:=xV h hik (by omega);omega
theorem zhb(S:List Nat)(a:Int):cnt S a≤S.length:=List.countP_le_length
def wX(t:qV):yW→Nat→List Int→List Nat
 |_,_,[]=>[]
 |s,i,r::l=>if(Zf t s r).2 then i::wX t (Zf t s r).1 (i+1) l else wX t (Zf t s r).1 (i+1) l
def zcb:Nat→List (List Int)→List Nat
 |_,[]=>[]
 |a,c::L=>a::zcb (a+c.length) L
theorem zeW:∀(L:List (List Int)) (a:Nat),zcb a L=(pl L).map (a+·)
 | [],a=>rfl
 |c::L,a=>by
  have e:pl (c::L)=0::(pl L).map (c.length+·):=by
   unfold pl
   rw[List.length_cons,List.range_succ_eq_map,List.map_cons,List.map_map,List.map_map,Wp]
   exact congrArg _ (List.map_congr_left (fun k _=>xi c L k))
  rw[zcb,zeW L,e,List.map_cons,List.map_map]
  simp[Function.comp_def,Nat.add_assoc]
theorem zap:∀(n:Nat) (l:List Int) (s:yW) (p:Int) (pre:List Int) (i:Nat),l.length≤n→Jl s p pre→
  wX T0 s i l=zcb (i+Qh za p pre l) (qC za n ((l.take (Qh za p pre l)).reverse++p::pre) (l.drop (Qh za p pre l)))
 |n,[],s,p,pre,i,_,_=>by cases n<;>simp[wX,qC,zcb]
 |0,x::l,_,_,_,_,h,_=>by simp at h
 |n+1,x::l,s,p,pre,i,h,hi=>by
  have hc:=hi.cut x
  have hn:=hi.next x
  have hl:l.length≤n:=by simpa using h
  rw[wX,WK]
  simp only
  rw[hi.so,hc]
  simp only[Bool.not_true,Bool.false_or]
  by_cases g:v7 za p pre x=true
  ·have ih:=zap n l _ _ _ (i+1) hl hn
   have hr:=vN za l (p::pre) x
   rw[if_pos g,Qh,if_pos g,ih]
   simp only[List.take_zero,List.reverse_nil,List.nil_append,List.drop_zero,Nat.add_zero,qC,zcb]
   congr 2
   rw[List.length_cons,List.length_take];omega
  ·have g':v7 za p pre x=false:=by simpa using g
   have ih:=zap (n+1) l _ _ _ (i+1) (by omega) hn
   rw[if_neg g,Qh,if_neg g,ih]
   simp only[List.take_succ_cons,List.reverse_cons,List.append_assoc,List.singleton_append,List.drop_succ_cons]
   congr 1;omega
theorem zkp(l:List Int):wX T0 jr 0 l=pl (zI za l):=by
 have e0:∀L,zcb 0 L=pl L:=fun L=>by rw[zeW];simp
 rw[←e0]
 cases l with
 |nil=>rfl
 |cons x l=>
  have hs:=Jl.start (pre:=[]) (x:=x) (.inl rfl)
  have hr:=vN za l [] x
  rw[wX,WK]
  have e1:(!jr.some || kl jr (zx za x) (pcD x) (ZR za x))=true:=rfl
  simp only[e1,if_true,Nat.zero_add]
  rw[zap l.length l _ _ _ 1 (Nat.le_refl _) hs]
  unfold zI
  simp only[List.length_cons,qC,zcb]
  congr 2
  rw[List.length_take];omega
theorem zbJ:∀(a:Nat) (x:Int) (pre xs:List Int) (_:a≤Qh za x pre xs) (h:a< (x::xs).length),Qh za x pre xs=a+Qh za (x::xs)[a] (((x::xs).take a).reverse++pre) ((x::xs).drop (a+1))
 |0,x,pre,xs,_,_=>by simp
 |a+1,x,pre,[],h1,_=>by simp[Qh]at h1
 |a+1,x,pre,y::ys,h1,h2=>by
  rw[Qh]at h1⊢
  by_cases g:v7 za x pre y=true
  ·rw[if_pos g]at h1;omega
  ·rw[if_neg g]at h1⊢
   rw[zbJ a y (x::pre) ys (by omega) (by simpa using h2)]
   simp only[List.getElem_cons_succ,List.take_succ_cons,List.reverse_cons,List.append_assoc,List.singleton_append,List.drop_succ_cons]
   omega
theorem zet:∀(n:Nat) (l pre:List Int) (a:Nat) (_:l.length≤n) (h:a<l.length),
  a+1+Qh za l[a] ((l.take a).reverse++pre) (l.drop (a+1))=plc (qC za n pre l) (kf (qC za n pre l) a+1)
 |_,[],_,_,_,h=>by simp at h
 |0,x::l,_,_,h1,_=>by simp at h1
 |n+1,x::xs,pre,a,h1,h2=>by
  have hr:=vN za xs pre x
  obtain⟨r,hR⟩:∃r,r=Qh za x pre xs:=⟨_,rfl⟩
  rw[←hR]at hr
  rw[qC,←hR]
  have hc:(x::xs.take r).length=r+1:=by rw[List.length_cons,List.length_take];omega
  unfold kf
  rw[hc]
  by_cases c:a≤r
  ·rw[if_pos (by omega),xi,Wp,hc]
   have:=zbJ a x pre xs (by omega) h2
   omega
  ·rw[if_neg (by omega),xi,hc]
   obtain⟨d,rfl⟩:∃d,a=d+(r+1):=⟨a- (r+1),by omega⟩
   simp only[List.length_cons]at h1 h2
   have ih:=zet n (xs.drop r) ((xs.take r).reverse++x::pre) d (by rw[List.length_drop];omega) (by rw[List.length_drop];omega)
   have e1:((d+(r+1):Nat):Int)- ((r+1:Nat):Int)=(d:Int):=by omega
   rw[e1]
   have e2:(x::xs)[d+(r+1)]=(xs.drop r)[d]'(by rw[List.length_drop];omega):=by
    rw[List.getElem_drop]
    have:d+(r+1)=(r+d)+1:=by omega
    simp only[this,List.getElem_cons_succ]
   have e3:((x::xs).take (d+(r+1))).reverse++pre=((xs.drop r).take d).reverse++((xs.take r).reverse++x::pre):=by
    have:d+(r+1)=(r+d)+1:=by omega
    rw[this,List.take_succ_cons,List.take_add,List.reverse_cons,List.reverse_append]
    simp
   have e4:(x::xs).drop (d+(r+1)+1)=(xs.drop r).drop (d+1):=by
    rw[List.drop_drop]
    have:d+(r+1)+1=(r+(d+1))+1:=by omega
    rw[this,List.drop_succ_cons]
   rw[e2,e3,e4]
   omega
theorem zh3(l:List Int)(a:Nat)(h:a<l.length):a+1+Qh za l[a] (l.take a).reverse (l.drop (a+1))=plc (zI za l) (kf (zI za l) a+1):=by
 have:=zet l.length l [] a (Nat.le_refl _) h
 rw[List.append_nil]at this
 exact this
def isB(L:List (List Int))(i:Int):Bool:=decide ((plc L (kf L i):Int)=i)
theorem zjW(l:List Int)(L:List (List Int))(hL:L=zI za l)(h:ClL L)(i:Nat)(hi:i+1<l.length):v7 za l[i] (l.take i).reverse l[i+1]=isB L ((i+1:Nat):Int):=by
 have hs:QX L=l.length:=by rw[hL];exact Y4.sum l
 have e:=zh3 l i (by omega)
 rw[←hL,List.drop_eq_getElem_cons hi,Qh]at e
 have k1:=zbN h (a:=(i:Int)) (by omega) (by omega)
 have q1:=K8 L i (by omega)
 have q2:=zck L i k1
 by_cases g:v7 za l[i] (l.take i).reverse l[i+1]=true
 ·rw[if_pos g]at e
  rw[g]
  have:kf L ((i+1:Nat):Int)=kf L i+1:=zk3 h (by omega) (by omega) (fun c=>by have:=zcY h c;omega)
  unfold isB
  rw[this]
  exact(decide_eq_true (by omega)).symm
 ·rw[if_neg g]at e
  have g':v7 za l[i] (l.take i).reverse l[i+1]=false:=by simpa using g
  rw[g']
  have:kf L ((i+1:Nat):Int)=kf L i:=zk3 h (by omega) (by omega) (fun c=>by omega)
  unfold isB
  rw[this]
  exact(decide_eq_false (by omega)).symm
end Go.Proofs.YtcgfdhdcihmeeaaGreat
end
section
namespace Go.Proofs.YtcgfdhdcihmeeaaGreat
open Go.AM
set_option maxHeartbeats 4000000
set_option maxRecDepth 10000
def zoJ(L:List (List Int)):PV:=.agg [JP (pl L),.int .i64 (QX L:Nat)]
attribute [go_sem] zoJ
attribute [local irreducible] za
attribute [go_sem] QL
theorem znx {L:List (List Int)} {k:Nat}(h:k<L.length):elemAt (ZQ (pl L)) k=.int .i64 (plc L k:Nat):=by
 rw[UZ (by rw[QL];exact h),jD]
theorem ziq [Gi] {e:PV}(hT:yA e)(s:yW)(r:Int)(hr:zY r):CR Tryz.prog 100 [] [.p (yu s),.p e,.p (.int .i32 r)] [] (is (.tup [.p (yu (Zf T0 s r).1),.p (.bool (Zf T0 s r).2)])):=by
 obtain⟨c,b,j,f,p,h,rfl⟩:=hT
 exact Ke h xS _ _ _ _ s r hr
theorem zgH [Gi] {e:PV}(hT:yA e)(l:List Int)(hn:l.length<2^31)(hr:∀x∈l,zY x):CR Tryz.prog 72 [] [.p e,.p (zA l)] [] (is (.p (JP (pl (zI za l))))):=by
 rw[←zkp l]
 refine walk Tryz.func72 11 [11,12,13] [] [] ?_
 simp (maxSteps:=1000000) [go_sem,Tryz.f72]
 refine loop (fun r:Nat×yW×List Nat=>r.1≤l.length∧r.2.2.length≤r.1∧wX T0 jr 0 l=r.2.2++wX T0 r.2.1 r.1 (l.drop r.1)) (fun r=>[(6,.os [6] 1 (ZQ r.2.2)),(13,.p (.int .i64 (r.1:Nat))),(7,.z8),(8,.z8),(9,.z8),(10,.z8)]) (fun r=>[([5],zgX r.2.1)]) (fun r=>l.length-r.1) (0,jr,[]) ⟨by simp,by simp,by simp⟩ (fun r hr2=>?_) (by simp[go_sem,LeS,leV,leR,leA,leL,zgX,jr,ZQ])
 obtain⟨i,s,o⟩:=r
 obtain⟨h1,h0,h2⟩:=hr2
 simp only at h1 h0 h2
 by_cases hil:i<l.length
 ·obtain⟨y,hy⟩:∃y,l[i]=y:=⟨_,rfl⟩
  have hyr:zY y:=hr y (by rw[←hy];exact List.getElem_mem _)
  have em:elemAt (zK l) i=.int .i32 y:=by rw[ZC hil,hy]
  have g:(i:Int)<l.length:=by omega
  have w:IntKind.i64.wrap ((i:Int)+1)=((i+1:Nat):Int):=zD (by omega)
  rw[List.drop_eq_getElem_cons hil,hy,wX]at h2
  simp (maxSteps:=1000000) [go_sem,g,em,zgX]
  refine zq (ziq hT s y hyr) ?_ (ha':=by simp[go_sem,yu])
  generalize Zf T0 s y=q at h2
  obtain⟨s',ct⟩:=q
  cases ct with
  |true=>
   simp (maxSteps:=1000000) [go_sem,yu,w]
   exact⟨by omega,next (i+1,s',o++[i]) ⟨by show i+1≤l.length;omega,by simp;omega,by simpa using h2⟩ (by show l.length- (i+1)<l.length-i;omega) (by simp[go_sem,LeS,leV,leR,leA,leL,ZQ])⟩
  |false=>
   simp (maxSteps:=1000000) [go_sem,yu,w]
   exact next (i+1,s',o) ⟨by show i+1≤l.length;omega,by show o.length≤i+1;omega,by simpa using h2⟩ (by show l.length- (i+1)<l.length-i;omega) (by simp[go_sem,LeS,leV,leR,leA,leL])
 ·have g:¬(i:Int)<l.length:=by omega
  rw[List.drop_eq_nil_of_le (by omega),wX,List.append_nil]at h2
  rw[h2]
  simp (maxSteps:=1000000) [go_sem,g]
  exact ret
end Go.Proofs.YtcgfdhdcihmeeaaGreat
end
section
namespace Go.Proofs.YtcgfdhdcihmeeaaGreat
open Go.AM
set_option maxHeartbeats 4000000
set_option maxRecDepth 10000
attribute [local irreducible] za
structure Ln(l:List Int)(L:List (List Int)):Prop where
 eq:L=zI za l
 n:l.length<2^31
 r:∀x∈l,zY x
theorem Ln.cl {l:List Int} {L:List (List Int)}(h:Ln l L):ClL L where
 full:=by rw[h.eq];exact zc9 l h.n h.r
 sum:=by rw[h.eq,Y4.sum];exact h.n
theorem Ln.sum {l:List Int} {L:List (List Int)}(h:Ln l L):QX L=l.length:=by rw[h.eq];exact Y4.sum l
theorem Ln.flat {l:List Int} {L:List (List Int)}(h:Ln l L):L.flatten=l:=by rw[h.eq];exact Y4.flat l
theorem zhY(L:List (List Int)):isB L 0=true:=by
 have:=K8 L 0 (by omega)
 exact decide_eq_true (by omega)
theorem zdy [Gi](l:List Int):CR Tryz.prog 77 [] [.p (zU za),.p (zA l),.p (.int .i64 0)] [] (is (.p (.bool true))):=by
 refine walk Tryz.func77 9 [] [3] [] ?_
 simp (maxSteps:=1000000) [go_sem,Tryz.f77]
 exact ret
end Go.Proofs.YtcgfdhdcihmeeaaGreat
end
section
namespace Go.Proofs.YtcgfdhdcihmeeaaGreat
open Go.AM
set_option maxHeartbeats 4000000
set_option maxRecDepth 100000
attribute [local irreducible] za
theorem vJ [Gi] {e:PV}(hT:yA e) {r:Int}(hr:zY r):CR Tryz.prog 128 [] [.p e,.p (.int .i32 r)] [] (is (.p (.int .i64 (zx za r)))):=by
 obtain⟨c,b,j,f,p,h,rfl⟩:=hT
 rw[←Jq]
 exact Vy h _ _ _ _ xS hr
theorem zha [Gi] {e:PV}(hT:yA e) {r:Int}(hr:zY r):CR Tryz.prog 132 [] [.p e,.p (.int .i32 r)] [] (is (.p (.bool (pcD r)))):=by
 obtain⟨c,b,j,f,p,h,rfl⟩:=hT
 rw[pcD,←ze1]
 exact zcm h _ _ _ _ xS hr
end Go.Proofs.YtcgfdhdcihmeeaaGreat
end
section
namespace Go.Proofs.YtcgfdhdcihmeeaaGreat
open Go.AM
set_option maxHeartbeats 4000000
set_option maxRecDepth 10000
attribute [local irreducible] za
theorem KH [Gi]:CR Tryz.prog 7 [] [.p (zU za)] [] (fun x rs=>rs=[]∧∃e,x=.p e∧yA e):=zgI
theorem ZB [Gi] {S:St} {dst:Option Nat} {x:Operand} {args:Array Operand} {argTypes:Array TypeId} {tt:TypeId} {pos:String} {after:Array Edge} {guard:Option (Nat×Bool)} {r:AV} {c:Option Bool} {K:St→Prop}(f:FuncId) {as1:List AV}
  (hC:CR Tryz.prog f [] as1 [] (is r)) (hk:dOK S dst∧K (S.qu dst (gv c r))) (hr:uP r=true:=by rfl) (hf:zeb (S.ev x)=some f:=by rfl) (hb:((Tryz.prog.funcs[f]?).map (·.body.isSome))=some true∧((Tryz.prog.funcs[f]?).map (·.name))≠some "runtime.NumGoroutine" :=by exact⟨by kernel_rfl,by decide+kernel⟩)
  (ha:(ZN S [] args.toList).1:=by simp[go_sem]) (ha':(ZN S [] args.toList).2=as1:=by simp[go_sem]):Kl Tryz.prog S ⟨dst,.call ⟨.value x,args,argTypes⟩,tt,pos,after,guard⟩ c K:=
 Zs r hr rfl (fun _=>Zt f hC hf hb ⟨ha,ha'⟩) hk
theorem zg2 {L:List (List Int)}(h:ClL L) {a:Int}(ha:a≤(plc L (kf L a):Int)):cnt (pl L) a=kf L a:=by
 have q3:=zcw L a
 by_cases c0:a<0
 ·rw[zmD L c0]
  exact Vo (Nat.zero_le _) (fun i _ hi=>absurd hi (by omega)) (fun i _ _=>by omega)
 ·have q1:=K8 L a (by omega)
  have e:a=(plc L (kf L a):Int):=by omega
  have:=zaf h q3
  rw[←e]at this
  exact this
theorem ziP {L:List (List Int)}(h:ClL L) {a:Int}(ha:(plc L (kf L a):Int)<a)(hk:kf L a<L.length):cnt (pl L) a=kf L a+1:=by
 have q2:=zck L a hk
 refine Vo (by rw[QL];omega) (fun i hi hik=>?_) (fun i hi hik=>?_)
 ·rw[jD];have:=xV h (i:=i) (j:=kf L a) (by omega) (by omega);omega
 ·rw[jD];rw[QL]at hi;have:=xV h (i:=kf L a+1) (j:=i) hik (by omega);omega
theorem zlG {L:List (List Int)}(h:ClL L) {i:Nat}(hi:(i:Int)<QX L):cnt (pl L) ((i:Int)+1)=cnt (pl L) i+(if isB L i=true then 1 else 0):=by
 have q0:=zbN h hi (by omega)
 have q1:=K8 L i (by omega)
 have q2:=zck L i q0
 by_cases c:isB L i=true
 ·have e:(plc L (kf L i):Int)=i:=of_decide_eq_true c
  rw[if_pos c,zg2 h (a:=(i:Int)) (by omega)]
  refine Vo (by rw[QL];omega) (fun j hj hjk=>?_) (fun j hj hjk=>?_)
  ·rw[jD];have:=xV h (i:=j) (j:=kf L i) (by omega) (by omega);omega
  ·rw[jD];rw[QL]at hj;have:=xV h (i:=kf L i+1) (j:=j) hjk (by omega);omega
 ·have e:¬(plc L (kf L i):Int)=i:=fun e=>c (decide_eq_true e)
  rw[if_neg c,ziP h (a:=(i:Int)) (by omega) q0]
  refine Vo (by rw[QL];omega) (fun j hj hjk=>?_) (fun j hj hjk=>?_)
  ·rw[jD];have:=xV h (i:=j) (j:=kf L i) (by omega) (by omega);omega
  ·rw[jD];rw[QL]at hj;have:=xV h (i:=kf L i+1) (j:=j) hjk (by omega);omega
theorem zhT {S:List Nat} {a:Int}(h:a≤0):cnt S a=0:=by
 unfold cnt
 exact List.countP_eq_zero.2 fun x _=>by simp only[decide_eq_true_eq];omega
theorem zgG {L:List (List Int)}(h:ClL L) {i:Nat}(hb:isB L i=true):plc L (cnt (pl L) i)=i:=by
 have hk:=zcw L i
 have e:(plc L (kf L i):Int)=i:=of_decide_eq_true hb
 have e2:=zaf h hk
 rw[e]at e2
 rw[e2];omega
end Go.Proofs.YtcgfdhdcihmeeaaGreat
end
