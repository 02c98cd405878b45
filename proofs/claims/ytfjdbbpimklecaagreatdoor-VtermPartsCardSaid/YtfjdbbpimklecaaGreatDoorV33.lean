/- A part of this seat's proofs, by an abstract machine. Conditions: each law's. -/
import Derived.Test.YtfjdbbpimklecaaGreatDoorV30
import Derived.Test.YtfjdbbpimklecaaGreatDoorV17
import Derived.Test.YtfjdbbpimklecaaGreatDoorV18
import Derived.Test.YtfjdbbpimklecaaGreatDoorV27
set_option maxHeartbeats 8000000
set_option maxRecDepth 100000
namespace Go.Proofs.YtfjdbbpimklecaaGreatDoor
section
open Go.AM
attribute [go_sem] q9 Wm zkE Q5 zaE
@[go_sem] theorem zkK : (Value.slice none 0 0).oneCell' = true := rfl
@[go_sem] theorem zko : (Value.pointer none).oneCell' = true := rfl
theorem call [Gi] {A:Prop} {S:St} {f:FuncId} {args:List Operand} {dst:Option Nat} {K:St→Prop}(m:List (Tok×Tok)) {pin:List Tok} {as1:List AV} {rs:List (Tok×List AV)} {R:AV→List (Tok×List AV)→Prop}(hC:CR Tryz.prog f pin as1 rs R)
  (hk:∀x rs',R x rs'→K ((wQ S (dst.getD S.n) m pin rs').qg dst (x.ren fun u=>some (jK (dst.getD S.n) m u))))
  (hb:A:=by exact⟨rfl,by decide+kernel⟩)
  (hm:okM (dst.getD S.n) m=true∧S.pin.all (ZZ (dst.getD S.n) m pin)=true∧dOK S dst:=by simp[go_sem,z6])
  (ha:(Zz S m args).1:=by simp[go_sem]) (ha':(Zz S m args).2=as1:=by simp[go_sem]) (hr:Zk S m m=rs:=by simp[go_sem]):
  A∧UO Tryz.prog S f args dst K:=
 ⟨hb,zh m hC hm ⟨ha,ha'⟩ hr hk⟩
theorem zD [Gi] {A:Prop} {S:St} {f:FuncId} {args:List Operand} {dst:Option Nat} {K:St→Prop} {as1:List AV} {v:AV}(hC:CR Tryz.prog f [] as1 [] (is v))
  (hk:K ((wQ S (dst.getD S.n) [] [] []).qg dst (v.ren fun u=>some (jK (dst.getD S.n) [] u))))
  (hb:A:=by exact⟨rfl,by decide+kernel⟩)
  (hm:okM (dst.getD S.n) []=true∧S.pin.all (ZZ (dst.getD S.n) [] [])=true∧dOK S dst:=by simp[go_sem,z6])
  (ha:(Zz S [] args).1:=by simp[go_sem]) (ha':(Zz S [] args).2=as1:=by simp[go_sem]):
  A∧UO Tryz.prog S f args dst K:=
 ⟨hb,zh [] hC hm ⟨ha,ha'⟩ (by simp[go_sem]) (fun x rs' h=>by obtain⟨rfl,rfl⟩:=h;exact hk)⟩
theorem ret [Gi] {ts:List (Nat×Option TypeId)} {S:St} {x:AV}(hp:S.pin=[]:=by rfl)
  (hx:(zg Tryz.prog S ts).1∧leT ((zg Tryz.prog S ts).2.upd (AM.fil (fun _=>false) ftt)) x:=by simp[go_sem,zg,leA,leT,leP]):wo Tryz.prog [] ts (is x) S:=zn x hp hx ⟨rfl,rfl⟩
def keeps(R:List (Tok×List AV))(v:PV):AV→List (Tok×List AV)→Prop:=fun x rs=>rs=R∧x=.p v
def idm(l:List Tok):List (Tok×Tok):=l.map fun t=>(t,t)
attribute [go_sem] idm St.ofR
def zax(pin:List Tok)(R:List (Tok×List AV))(v:PV):AV→List (Tok×List AV)→Prop:=fun x rs=>x=.p v∧Zk (St.ofR rs) (idm pin) (idm pin)=R
theorem CR.keeps [Gi] {f:FuncId} {pin:List Tok} {args:List AV} {rs R:List (Tok×List AV)} {v:PV}(h:CR Tryz.prog f pin args rs (zax pin R v))(hok:(okM 1000000 (idm pin)&&pin.all fun t=>inM (idm pin) t==some t)=true):CR Tryz.prog f pin args rs (keeps R v):=by
 simp only[Bool.and_eq_true]at hok
 refine CR.ren h 1000000 ?_
 rintro x rs' ⟨rfl,h2⟩
 exact⟨idm pin,hok.1,hok.2,h2,rfl⟩
theorem zkO [Gi] {ts:List (Nat×Option TypeId)} {S:St} {pin:List Tok} {R:List (Tok×List AV)} {v:PV}(hp:S.pin=pin∧pin.all (fun t=>pin.contains t)=true:=by simp)
  (hx:(zg Tryz.prog S ts).1∧leT ((zg Tryz.prog S ts).2.upd (AM.fil (fun t=>pin.contains t) ftt)) (.p v):=by simp[go_sem,zg,leA,leT,leP])
  (hr:Zk (St.ofR (wD pin (S.fil (fun t=>pin.contains t) ftt).rs)) (idm pin) (idm pin)=R:=by simp[go_sem]):wo Tryz.prog pin ts (zax pin R v) S:=zt pin (.p v) hp hx ⟨rfl,hr⟩
def ZP(R:List (Tok×List AV))(v:AV):AV→List (Tok×List AV)→Prop:=fun x rs=>rs=R∧x=v
def JI(pin:List Tok)(R:List (Tok×List AV))(v:AV):AV→List (Tok×List AV)→Prop:=fun x rs=>x=v∧Zk (St.ofR rs) (idm pin) (idm pin)=R
theorem CR.ZP [Gi] {f:FuncId} {pin:List Tok} {args:List AV} {rs R:List (Tok×List AV)} {v:AV}(h:CR Tryz.prog f pin args rs (JI pin R v))(hok:(okM 1000000 (idm pin)&&pin.all fun t=>inM (idm pin) t==some t)=true)(hv:v.ren (inM (idm pin))=v):CR Tryz.prog f pin args rs (ZP R v):=by
 simp only[Bool.and_eq_true]at hok
 refine CR.ren h 1000000 ?_
 rintro x rs' ⟨rfl,h2⟩
 exact⟨idm pin,hok.1,hok.2,h2,hv⟩
theorem Xt [Gi] {ts:List (Nat×Option TypeId)} {S:St} {pin:List Tok} {R:List (Tok×List AV)} {v:AV}(hp:S.pin=pin∧pin.all (fun t=>pin.contains t)=true:=by simp)
  (hx:(zg Tryz.prog S ts).1∧leT ((zg Tryz.prog S ts).2.upd (AM.fil (fun t=>pin.contains t) ftt)) v:=by simp[go_sem,zg,leA,leT,leP])
  (hr:Zk (St.ofR (wD pin (S.fil (fun t=>pin.contains t) ftt).rs)) (idm pin) (idm pin)=R:=by simp[go_sem]):wo Tryz.prog pin ts (JI pin R v) S:=zt pin v hp hx ⟨rfl,hr⟩
theorem next {ι:Type} {inv:ι→Prop} {st:ι→St} {m:ι→Nat} {i:ι} {Q:Exit→St→Prop} {S:St}(j:ι)(h1:inv j)(h3:m j<m i:=by simp;omega)(h2:LeS S (st j):=by simp[go_sem,LeS,leV,leR,leA,leL,zl,leT,leP]):Ui inv st m i Q .normal S:=zj j h1 h2 h3
theorem loop [Gi] {D:List Nat} {c:Code} {Q:Exit→St→Prop} {S:St} {ι:Type}(inv:ι→Prop)(V:ι→List (Nat×AV))(R:ι→List (Tok×List AV))(m:ι→Nat)(i:ι)(hi:inv i)
  (h:∀i,inv i→wpA Tryz.prog D c (Ui inv (fun i=>S.zac (V i) (R i)) m i Q) (S.zac (V i) (R i))) (h0:LeS S (S.zac (V i) (R i)):=by simp[go_sem,LeS,leV,leR,leA,leL,zl,leT,leP]):wpA Tryz.prog D (.loop c) Q S:=
 zF inv V R m i hi h0 h
theorem walk [Gi] {f:FuncId} {fn:Func} {c:Code} {ts:List (Nat×Option TypeId)}(hf:Tryz.prog.funcs[f]?=some fn)(nv:Nat) {pin:List Tok} {args:List AV} {rs:List (Tok×List AV)} {R:AV→List (Tok×List AV)→Prop}(ex:List Nat)(D:List Nat)(rm:List Nat)
  (h:wpA Tryz.prog D c (y9 Tryz.prog pin ts R) {n:=fn.ntmps,nv:=nv,vs:=wm 0 args,ts:=[],rs:=rs,pin:=pin,ex:=ex,rm:=rm}) (hb:fn.body=some c:=by exact rfl) (hok:q7 D c=true:=by kernel_rfl)
  (hres:xQ fn.results.toList=some ts:=by exact rfl) (hnv:args.length≤nv:=by simp) (hn:args.length≤fn.ntmps:=by simp):CR Tryz.prog f pin args rs R:=
 QX D mixed nv ex hf hb hok rm hres hnv hn h
theorem zhx [Gi] {f:FuncId} {fn:Func} {c:Code} {ts:List (Nat×Option TypeId)}(hf:Tryz.prog.funcs[f]?=some fn)(nv:Nat) {pin:List Tok} {args:List AV} {rs R:List (Tok×List AV)} {v:PV}(ex:List Nat)(D:List Nat)(rm:List Nat)
  (h:wpA Tryz.prog D c (y9 Tryz.prog pin ts (zax pin R v)) {n:=fn.ntmps,nv:=nv,vs:=wm 0 args,ts:=[],rs:=rs,pin:=pin,ex:=ex,rm:=rm}) (hok1:(okM 1000000 (idm pin)&&pin.all fun t=>inM (idm pin) t==some t)=true:=by decide) (hb:fn.body=some c:=by exact rfl) (hok:q7 D c=true:=by kernel_rfl)
  (hres:xQ fn.results.toList=some ts:=by exact rfl) (hnv:args.length≤nv:=by simp) (hn:args.length≤fn.ntmps:=by simp):CR Tryz.prog f pin args rs (keeps R v):=
 CR.keeps (QX D mixed nv ex hf hb hok rm hres hnv hn h) hok1
theorem X2 [Gi] {f:FuncId} {fn:Func} {c:Code} {ts:List (Nat×Option TypeId)}(hf:Tryz.prog.funcs[f]?=some fn)(nv:Nat) {pin:List Tok} {args:List AV} {rs R:List (Tok×List AV)} {v:AV}(ex:List Nat)(D:List Nat)(rm:List Nat)
  (h:wpA Tryz.prog D c (y9 Tryz.prog pin ts (JI pin R v)) {n:=fn.ntmps,nv:=nv,vs:=wm 0 args,ts:=[],rs:=rs,pin:=pin,ex:=ex,rm:=rm}) (hok1:(okM 1000000 (idm pin)&&pin.all fun t=>inM (idm pin) t==some t)=true:=by decide) (hv:v.ren (inM (idm pin))=v:=by rfl) (hb:fn.body=some c:=by exact rfl) (hok:q7 D c=true:=by kernel_rfl)
  (hres:xQ fn.results.toList=some ts:=by exact rfl) (hnv:args.length≤nv:=by simp) (hn:args.length≤fn.ntmps:=by simp):CR Tryz.prog f pin args rs (ZP R v):=
 CR.ZP (QX D mixed nv ex hf hb hok rm hres hnv hn h) hok1 hv
end
section
open Go.AM
attribute [local irreducible] zb
theorem kZ [Gi](r:Int):CR Tryz.prog 234 [] [.p (.int .i32 r)] [] (is (.p (.bool (Qc r)))):=by
 refine walk Tryz.func234 3 [] [] [] ?_
 have e:Qc r=((decide (0≤r)&&decide (r≤1114111))&&(decide (r<55296) || decide (57343<r))):=by
  unfold Qc
  by_cases h1:0≤r<;>by_cases h2:r<55296<;>by_cases h3:57343<r<;>by_cases h4:r≤1114111<;>simp[h1,h2,h3,h4]<;>omega
 rw[e]
 by_cases h1:0≤r<;>by_cases h2:r≤1114111<;>by_cases h3:r<55296<;>simp (maxSteps:=1000000) [go_sem,Tryz.f234,h1,h2,h3]<;>exact ret
def jN(r:Int):Int:=if Qc r=false then 3 else if r<128 then 1 else if r<2048 then 2 else if r<65536 then 3 else 4
theorem xK [Gi](r:Int):CR Tryz.prog 235 [] [.p (.int .i32 r)] [] (is (.p (.int .i64 (jN r)))):=by
 refine walk Tryz.func235 3 [] [] [] ?_
 simp (maxSteps:=1000000) [go_sem,Tryz.f235]
 refine zD (kZ r) ?_
 cases hv:Qc r with
 |false=>
  simp (maxSteps:=1000000) [go_sem]
  exact ret (hx:=by simp[go_sem,zg,leA,leT,jN,hv])
 |true=>
  by_cases h1:r<128
  ·simp (maxSteps:=1000000) [go_sem,h1]
   exact ret (hx:=by simp[go_sem,zg,leA,leT,jN,hv,h1])
  ·by_cases h2:r<2048
   ·simp (maxSteps:=1000000) [go_sem,h1,h2]
    exact ret (hx:=by simp[go_sem,zg,leA,leT,jN,hv,h1,h2])
   ·by_cases h3:r<65536
    ·simp (maxSteps:=1000000) [go_sem,h1,h2,h3]
     exact ret (hx:=by simp[go_sem,zg,leA,leT,jN,hv,h1,h2,h3])
    ·simp (maxSteps:=1000000) [go_sem,h1,h2,h3]
     exact ret (hx:=by simp[go_sem,zg,leA,leT,jN,hv,h1,h2,h3])
theorem wk0:IntKind.i64.wrap 0=0:=by decide
theorem wk1:IntKind.i64.wrap 1=1:=by decide
theorem wk2:IntKind.i64.wrap 2=2:=by decide
theorem wk3:IntKind.i64.wrap 3=3:=by decide
theorem zgi:∀y:Fin 64,IntKind.u8.wrap (IntKind.i32.wrap ((128#32 |||BitVec.ofInt 32 (IntKind.i32.wrap (y.1:Int))).toNat:Int))=128+(y.1:Int):=by decide+kernel
theorem cby {x y:Nat}(h:y=x%64):IntKind.u8.wrap (IntKind.i32.wrap ((128#32 |||BitVec.ofInt 32 (IntKind.i32.wrap ((BitVec.ofNat 32 x&&& 63#32).toNat:Int))).toNat:Int))=128+(y:Int):=by
 have e:(BitVec.ofNat 32 x&&& 63#32).toNat=y:=by
  rw[BitVec.toNat_and,BitVec.toNat_ofNat,show(63#32:BitVec 32).toNat=2^6-1 from rfl,Nat.and_two_pow_sub_one_eq_mod,h]
  omega
 rw[e]
 exact zgi ⟨y,by omega⟩
theorem zha:∀x:Fin 32,IntKind.u8.wrap ((BitVec.ofInt 8 (IntKind.u8.wrap 960) |||BitVec.ofInt 8 (IntKind.u8.wrap (x.1:Int))).toNat:Int)=192+(x.1:Int):=by decide+kernel
theorem zbX:∀x:Fin 16,IntKind.u8.wrap ((BitVec.ofInt 8 (IntKind.u8.wrap 480) |||BitVec.ofInt 8 (IntKind.u8.wrap (x.1:Int))).toNat:Int)=224+(x.1:Int):=by decide+kernel
theorem zgz:∀x:Fin 8,IntKind.u8.wrap ((BitVec.ofInt 8 (IntKind.u8.wrap 240) |||BitVec.ofInt 8 (IntKind.u8.wrap (x.1:Int))).toNat:Int)=240+(x.1:Int):=by decide+kernel
theorem zae {x y:Nat}(h:y=x/64):(x:Int).fdiv 64=(y:Int):=by
 rw[h,Int.fdiv_eq_ediv_of_nonneg _ (by decide)];rfl
theorem y8(a x:Nat):UInt8.ofNat ((a:Int)+(x:Int)).toNat=u8 (a+x):=by
 unfold u8;congr 1
theorem ziw [Gi](q:Nat)(h1:128≤q)(h2:q<2048):CR Tryz.prog 221 [] [.p (.int .i32 q)] [] (is (.p (.str (yE q)))):=by
 refine walk Tryz.func221 7 [] [] [] ?_
 have hv:Qc (q:Int)=true:=by unfold Qc;simp;omega
 have hs:jN (q:Int)=2:=by unfold jN;rw[hv];simp;omega
 have g1:=kZ (q:Int)
 have g2:=xK (q:Int)
 rw[hv]at g1
 rw[hs]at g2
 obtain⟨q1,hq1⟩:∃q1,q1=q/64:=⟨_,rfl⟩
 obtain⟨m0,hm0⟩:∃m,m=q%64:=⟨_,rfl⟩
 have c0:=cby hm0
 have f0:=zae hq1
 have l0:=zha ⟨q1,by omega⟩
 simp only at l0
 have e:yE q=[u8 (192+q1),u8 (128+m0)]:=by unfold yE;rw[if_neg (by omega),if_pos h2,hq1,hm0]
 rw[e]
 simp (maxSteps:=1000000) [go_sem,Tryz.f221]
 refine zD g1 ?_
 simp (maxSteps:=1000000) [go_sem]
 refine zD g2 ?_
 simp (maxSteps:=1000000) [go_sem,wk1]
 refine loop (fun j:Nat=>j≤1) (fun j=>match j with
   |0=>[(5,.p (.int .i64 1))]
   |_=>[(5,.p (.int .i64 0)),(0,.p (.int .i32 q1))]) (fun j=>match j with
   |0=>[([19],[.p (.int .u8 0),.p (.int .u8 0)])]
   |_=>[([19],[.p (.int .u8 0),.p (.int .u8 (128+(m0:Int)))])]) (fun j=>1-j) 0 (by omega) (fun j hj=>?_)
 rcases j with _|_|j
 ·simp (maxSteps:=1000000) [go_sem,wk0,f0]
  exact next 1 (by omega) (h3:=by decide) (h2:=by simp[go_sem,LeS,leV,leR,leA,leL];exact c0)
 ·simp (maxSteps:=1000000) [go_sem]
  exact ret (hx:=by simp[go_sem,zg,leA,leT];exact⟨(congrArg (fun z:Int=>UInt8.ofNat z.toNat) l0).trans (y8 192 q1),y8 128 m0⟩)
 ·omega
theorem zjg [Gi](q:Nat)(h1:2048≤q)(h2:q<65536)(hv:Qc (q:Int)=true):CR Tryz.prog 221 [] [.p (.int .i32 q)] [] (is (.p (.str (yE q)))):=by
 refine walk Tryz.func221 7 [] [] [] ?_
 have hs:jN (q:Int)=3:=by unfold jN;rw[hv];simp;omega
 have g1:=kZ (q:Int)
 have g2:=xK (q:Int)
 rw[hv]at g1
 rw[hs]at g2
 obtain⟨q1,hq1⟩:∃x,x=q/64:=⟨_,rfl⟩
 have f1:=zae hq1
 obtain⟨q2,hq2⟩:∃x,x=q1/64:=⟨_,rfl⟩
 have f2:=zae hq2
 obtain⟨m0,hm0⟩:∃m,m=q%64:=⟨_,rfl⟩
 have c0:=cby hm0
 obtain⟨m1,hm1⟩:∃m,m=q1%64:=⟨_,rfl⟩
 have c1:=cby hm1
 have l0:=zbX ⟨q2,by omega⟩
 simp only at l0
 have e:yE q=[u8 (224+q2),u8 (128+m1),u8 (128+m0)]:=by
  have e1:q/4096=q2:=by omega
  have e2:q/64%64=m1:=by omega
  have e3:q%64=m0:=by omega
  unfold yE
  rw[if_neg (by omega),if_neg (by omega),if_pos (by omega),e1,e2,e3]
 rw[e]
 simp (maxSteps:=1000000) [go_sem,Tryz.f221]
 refine zD g1 ?_
 simp (maxSteps:=1000000) [go_sem]
 refine zD g2 ?_
 simp (maxSteps:=1000000) [go_sem,wk2]
 refine loop (fun j:Nat=>j≤2) (fun j=>match j with
   |0=>[(5,.p (.int .i64 2))]
   |1=>[(5,.p (.int .i64 1)),(0,.p (.int .i32 q1))]
   |_=>[(5,.p (.int .i64 0)),(0,.p (.int .i32 q2))]) (fun j=>match j with
   |0=>[([19],[.p (.int .u8 0),.p (.int .u8 0),.p (.int .u8 0)])]
   |1=>[([19],[.p (.int .u8 0),.p (.int .u8 0),.p (.int .u8 (128+(m0:Int)))])]
   |_=>[([19],[.p (.int .u8 0),.p (.int .u8 (128+(m1:Int))),.p (.int .u8 (128+(m0:Int)))])]) (fun j=>2-j) 0 (by omega) (fun j hj=>?_)
 rcases j with _|_|_|j
 ·simp (maxSteps:=1000000) [go_sem,wk1,f1]
  exact next 1 (by omega) (h3:=by decide) (h2:=by simp[go_sem,LeS,leV,leR,leA,leL];exact c0)
 ·simp (maxSteps:=1000000) [go_sem,wk0,f2]
  exact next 2 (by omega) (h3:=by decide) (h2:=by simp[go_sem,LeS,leV,leR,leA,leL];exact c1)
 ·simp (maxSteps:=1000000) [go_sem]
  exact ret (hx:=by simp[go_sem,zg,leA,leT];exact⟨(congrArg (fun z:Int=>UInt8.ofNat z.toNat) l0).trans (y8 224 q2),y8 128 m1,y8 128 m0⟩)
 ·omega
theorem zji [Gi](q:Nat)(h1:65536≤q)(h2:q≤1114111)(hv:Qc (q:Int)=true):CR Tryz.prog 221 [] [.p (.int .i32 q)] [] (is (.p (.str (yE q)))):=by
 refine walk Tryz.func221 7 [] [] [] ?_
 have hs:jN (q:Int)=4:=by unfold jN;rw[hv];simp;omega
 have g1:=kZ (q:Int)
 have g2:=xK (q:Int)
 rw[hv]at g1
 rw[hs]at g2
 obtain⟨q1,hq1⟩:∃x,x=q/64:=⟨_,rfl⟩
 have f1:=zae hq1
 obtain⟨q2,hq2⟩:∃x,x=q1/64:=⟨_,rfl⟩
 have f2:=zae hq2
 obtain⟨q3,hq3⟩:∃x,x=q2/64:=⟨_,rfl⟩
 have f3:=zae hq3
 obtain⟨m0,hm0⟩:∃m,m=q%64:=⟨_,rfl⟩
 have c0:=cby hm0
 obtain⟨m1,hm1⟩:∃m,m=q1%64:=⟨_,rfl⟩
 have c1:=cby hm1
 obtain⟨m2,hm2⟩:∃m,m=q2%64:=⟨_,rfl⟩
 have c2:=cby hm2
 have l0:=zgz ⟨q3,by omega⟩
 simp only at l0
 have e:yE q=[u8 (240+q3),u8 (128+m2),u8 (128+m1),u8 (128+m0)]:=by
  have e0:q/262144=q3:=by omega
  have e1:q/4096%64=m2:=by omega
  have e2:q/64%64=m1:=by omega
  have e3:q%64=m0:=by omega
  unfold yE
  rw[if_neg (by omega),if_neg (by omega),if_neg (by omega),e0,e1,e2,e3]
 rw[e]
 simp (maxSteps:=1000000) [go_sem,Tryz.f221]
 refine zD g1 ?_
 simp (maxSteps:=1000000) [go_sem]
 refine zD g2 ?_
 simp (maxSteps:=1000000) [go_sem,wk3]
 refine loop (fun j:Nat=>j≤3) (fun j=>match j with
   |0=>[(5,.p (.int .i64 3))]
   |1=>[(5,.p (.int .i64 2)),(0,.p (.int .i32 q1))]
   |2=>[(5,.p (.int .i64 1)),(0,.p (.int .i32 q2))]
   |_=>[(5,.p (.int .i64 0)),(0,.p (.int .i32 q3))]) (fun j=>match j with
   |0=>[([19],[.p (.int .u8 0),.p (.int .u8 0),.p (.int .u8 0),.p (.int .u8 0)])]
   |1=>[([19],[.p (.int .u8 0),.p (.int .u8 0),.p (.int .u8 0),.p (.int .u8 (128+(m0:Int)))])]
   |2=>[([19],[.p (.int .u8 0),.p (.int .u8 0),.p (.int .u8 (128+(m1:Int))),.p (.int .u8 (128+(m0:Int)))])]
   |_=>[([19],[.p (.int .u8 0),.p (.int .u8 (128+(m2:Int))),.p (.int .u8 (128+(m1:Int))),.p (.int .u8 (128+(m0:Int)))])]) (fun j=>3-j) 0 (by omega) (fun j hj=>?_)
 rcases j with _|_|_|_|j
 ·simp (maxSteps:=1000000) [go_sem,wk2,f1]
  exact next 1 (by omega) (h3:=by decide) (h2:=by simp[go_sem,LeS,leV,leR,leA,leL];exact c0)
 ·simp (maxSteps:=1000000) [go_sem,wk1,f2]
  exact next 2 (by omega) (h3:=by decide) (h2:=by simp[go_sem,LeS,leV,leR,leA,leL];exact c1)
 ·simp (maxSteps:=1000000) [go_sem,wk0,f3]
  exact next 3 (by omega) (h3:=by decide) (h2:=by simp[go_sem,LeS,leV,leR,leA,leL];exact c2)
 ·simp (maxSteps:=1000000) [go_sem]
  exact ret (hx:=by simp[go_sem,zg,leA,leT];exact⟨(congrArg (fun z:Int=>UInt8.ofNat z.toNat) l0).trans (y8 240 q3),y8 128 m2,y8 128 m1,y8 128 m0⟩)
 ·omega
theorem ziO [Gi](r:Int)(hv:Qc r=false):CR Tryz.prog 221 [] [.p (.int .i32 r)] [] (is (.p (.str (yE 65533)))):=by
 refine walk Tryz.func221 7 [] [] [] ?_
 obtain⟨q,hq⟩:∃q:Nat,q=65533:=⟨_,rfl⟩
 have hqI:(65533:Int)=(q:Int):=by omega
 have hv2:Qc (q:Int)=true:=by rw[←hqI];decide
 have hs:jN (q:Int)=3:=by rw[←hqI];decide
 have g1:=kZ r
 have g2:=xK (q:Int)
 rw[hv]at g1
 rw[hs]at g2
 obtain⟨q1,hq1⟩:∃x,x=q/64:=⟨_,rfl⟩
 have f1:=zae hq1
 obtain⟨q2,hq2⟩:∃x,x=q1/64:=⟨_,rfl⟩
 have f2:=zae hq2
 obtain⟨m0,hm0⟩:∃m,m=q%64:=⟨_,rfl⟩
 have c0:=cby hm0
 obtain⟨m1,hm1⟩:∃m,m=q1%64:=⟨_,rfl⟩
 have c1:=cby hm1
 have l0:=zbX ⟨q2,by omega⟩
 simp only at l0
 have e:yE 65533=[u8 (224+q2),u8 (128+m1),u8 (128+m0)]:=by
  have e1:65533/4096=q2:=by omega
  have e2:65533/64%64=m1:=by omega
  have e3:65533%64=m0:=by omega
  unfold yE
  rw[if_neg (by omega),if_neg (by omega),if_pos (by omega),e1,e2,e3]
 rw[e]
 simp (maxSteps:=1000000) [go_sem,Tryz.f221]
 refine zD g1 ?_
 simp (maxSteps:=1000000) [go_sem,hqI]
 refine zD g2 ?_
 simp (maxSteps:=1000000) [go_sem,wk2]
 refine loop (fun j:Nat=>j≤2) (fun j=>match j with
   |0=>[(5,.p (.int .i64 2))]
   |1=>[(5,.p (.int .i64 1)),(0,.p (.int .i32 q1))]
   |_=>[(5,.p (.int .i64 0)),(0,.p (.int .i32 q2))]) (fun j=>match j with
   |0=>[([19],[.p (.int .u8 0),.p (.int .u8 0),.p (.int .u8 0)])]
   |1=>[([19],[.p (.int .u8 0),.p (.int .u8 0),.p (.int .u8 (128+(m0:Int)))])]
   |_=>[([19],[.p (.int .u8 0),.p (.int .u8 (128+(m1:Int))),.p (.int .u8 (128+(m0:Int)))])]) (fun j=>2-j) 0 (by omega) (fun j hj=>?_)
 rcases j with _|_|_|j
 ·simp (maxSteps:=1000000) [go_sem,wk1,f1]
  exact next 1 (by omega) (h3:=by decide) (h2:=by simp[go_sem,LeS,leV,leR,leA,leL];exact c0)
 ·simp (maxSteps:=1000000) [go_sem,wk0,f2]
  exact next 2 (by omega) (h3:=by decide) (h2:=by simp[go_sem,LeS,leV,leR,leA,leL];exact c1)
 ·simp (maxSteps:=1000000) [go_sem]
  exact ret (hx:=by simp[go_sem,zg,leA,leT];exact⟨(congrArg (fun z:Int=>UInt8.ofNat z.toNat) l0).trans (y8 224 q2),y8 128 m1,y8 128 m0⟩)
 ·omega
theorem ziy [Gi](q:Nat)(h1:q<128):CR Tryz.prog 221 [] [.p (.int .i32 q)] [] (is (.p (.str (yE q)))):=by
 refine walk Tryz.func221 7 [] [] [] ?_
 have hv:Qc (q:Int)=true:=by unfold Qc;simp;omega
 have hs:jN (q:Int)=1:=by unfold jN;rw[hv];simp;omega
 have g1:=kZ (q:Int)
 have g2:=xK (q:Int)
 rw[hv]at g1
 rw[hs]at g2
 have e:yE q=[u8 q]:=by unfold yE;rw[if_pos h1]
 have w:∀x:Fin 128,IntKind.u8.wrap (x.1:Int)=x.1:=by decide
 have w':IntKind.u8.wrap (q:Int)=q:=w ⟨q,h1⟩
 rw[e]
 simp (maxSteps:=1000000) [go_sem,Tryz.f221]
 refine zD g1 ?_
 simp (maxSteps:=1000000) [go_sem]
 refine zD g2 ?_
 simp (maxSteps:=1000000) [go_sem,w']
 exact ret (hx:=by simp[go_sem,zg,leA,leT,u8])
theorem zks [Gi](r:Int):CR Tryz.prog 221 [] [.p (.int .i32 r)] [] (is (.p (.str (wG r)))):=by
 unfold wG zf3
 cases hv:Qc r with
 |false=>exact ziO r hv
 |true=>
  have h:(0≤r∧r<55296)∨(57343<r∧r≤1114111):=by unfold Qc at hv;simpa using hv
  obtain⟨q,rfl⟩:∃q:Nat,r=q:=⟨r.toNat,by omega⟩
  rw[if_pos rfl,Int.toNat_natCast]
  by_cases c1:q<128
  ·exact ziy q c1
  ·by_cases c2:q<2048
   ·exact ziw q (by omega) c2
   ·by_cases c3:q<65536
    ·exact zjg q (by omega) c3 hv
    ·exact zji q (by omega) (by omega) hv
end
section
open Go.AM
def zlc(l:List Nat):List PV:=l.map fun n=>.int .i64 (n:Nat)
def zhG(l:List Nat):PV:=.sl 1 (zlc l)
attribute [go_sem] zhG
def cnt(S:List Nat)(a:Int):Nat:=S.countP fun(s:Nat)=>decide ((s:Int)<a)
def plc(L:List (List Int))(k:Nat):Nat:=xg (L.take k)
def pl(L:List (List Int)):List Nat:=(List.range L.length).map (plc L)
structure ClL(L:List (List Int)):Prop where
 full:zhB L
 sum:xg L<2^31
theorem zek {L:List (List Int)} {k:Nat}(h:k<L.length):plc L (k+1)=plc L k+L[k].length:=zdx h
theorem ClL.pos {L:List (List Int)}(h:ClL L) {k:Nat}(hk:k<L.length):0<L[k].length:=by
 obtain⟨x,c',e,_⟩:=h.full.r L[k] (List.getElem_mem hk)
 rw[e];simp
theorem zik {L:List (List Int)}(h:ClL L) {k:Nat}(hk:k<L.length):plc L k<plc L (k+1):=by
 have:=h.pos hk
 rw[zek hk];omega
theorem zgH(L:List (List Int)):plc L L.length=xg L:=by simp[plc]
theorem zih(L:List (List Int)):(pl L).length=L.length:=by simp[pl]
theorem ClL.num {L:List (List Int)}(h:ClL L):∀{k:Nat},k≤L.length→k≤plc L k
 |0,_=>Nat.zero_le _
 |k+1,hk=>by
  have:=h.num (k:=k) (by omega)
  have:=zik h (k:=k) (by omega)
  omega
theorem ClL.len {L:List (List Int)}(h:ClL L):L.length≤xg L:=by rw[←zgH];exact h.num (Nat.le_refl _)
def kf:List (List Int)→Int→Nat
 | [],_=>0
 |c::L,a=>if a<c.length then 0 else kf L (a-c.length)+1
def zls(L:List (List Int)):PV:=.agg [zhG (pl L),.int .i64 (xg L:Nat)]
attribute [go_sem] zls
attribute [local irreducible] zb
attribute [go_sem] zih
end
section
open Go.AM
attribute [local irreducible] zb
structure Ln(l:List Int)(L:List (List Int)):Prop where
 eq:L=kU zb l
 n:l.length<2^31
 r:∀x∈l,Zd x
theorem Ln.cl {l:List Int} {L:List (List Int)}(h:Ln l L):ClL L where
 full:=by rw[h.eq];exact zaD l h.n h.r
 sum:=by rw[h.eq,YY.sum];exact h.n
theorem Ln.sum {l:List Int} {L:List (List Int)}(h:Ln l L):xg L=l.length:=by rw[h.eq];exact YY.sum l
theorem Ln.flat {l:List Int} {L:List (List Int)}(h:Ln l L):L.flatten=l:=by rw[h.eq];exact YY.flat l
theorem K3 [Gi] {e:PV}(hT:wA e) {r:Int}(hr:Zd r):CR Tryz.prog 209 [] [.p e,.p (.int .i32 r)] [] (is (.p (.int .i64 (zI zb r)))):=by
 obtain⟨c,b,j,f,p,h,rfl⟩:=hT
 rw[←VJ]
 exact Wg h _ _ _ _ xJ hr
theorem zfL [Gi] {e:PV}(hT:wA e) {r:Int}(hr:Zd r):CR Tryz.prog 211 [] [.p e,.p (.int .i32 r)] [] (is (.p (.bool (pcD r)))):=by
 obtain⟨c,b,j,f,p,h,rfl⟩:=hT
 rw[pcD,←zb5]
 exact Xk h _ _ _ _ xJ hr
theorem Ql [Gi]:CR Tryz.prog 13 [] [.p (qJ zb)] [] (fun x rs=>rs=[]∧∃e,x=.p e∧wA e):=zdt
theorem ym [Gi] {S:St} {dst:Option Nat} {x:Operand} {args:Array Operand} {argTypes:Array TypeId} {tt:TypeId} {pos:String} {after:Array Edge} {guard:Option (Nat×Bool)} {r:AV} {c:Option Bool} {K:St→Prop}(f:FuncId) {as1:List AV}
  (hC:CR Tryz.prog f [] as1 [] (is r)) (hk:dOK S dst∧K (S.qg dst (gv c r))) (hr:vr r=true:=by rfl) (hf:zbb (S.ev x)=some f:=by rfl) (hb:((Tryz.prog.funcs[f]?).map (·.body.isSome))=some true∧((Tryz.prog.funcs[f]?).map (·.name))≠some "runtime.NumGoroutine" :=by exact⟨by kernel_rfl,by decide+kernel⟩)
  (ha:(Zz S [] args.toList).1:=by simp[go_sem]) (ha':(Zz S [] args.toList).2=as1:=by simp[go_sem]):Us Tryz.prog S ⟨dst,.call ⟨.value x,args,argTypes⟩,tt,pos,after,guard⟩ c K:=
 Za r hr rfl (fun _=>Zb f hC hf hb ⟨ha,ha'⟩) hk
end
section
open Go.AM
theorem XK [Gi] {t:qX} {c b j f p:PV}(h:uv t c b j f p)(hz:W0 t)(ck cx sk sx:List PV)(l:List Int)(hn:l.length<2^31)(hr:∀x∈l,Zd x):
  CR Tryz.prog 167 [] [.p (Q0 c b j f p ck cx sk sx),.p (q9 l)] [] (is (.p (Wm (xr t l)))):=by
 refine zH mixed 8 [] Tryz.func167 rfl (by kernel_rfl) rfl (by simp) (by simp) ?_
 simp (maxSteps:=1000000) [go_sem,Tryz.f167,q9,Q0]
 refine zF (fun r:List (List Int)×Nat=>r.2≤l.length∧r.1.length≤r.2∧xr t l=r.1++xr t (l.drop r.2)) (fun r=>[(6,.p (.int .i64 (r.2:Nat))),(5,.os [5] 1 (xy r.1)),(7,.zK)]) (fun _=>[]) (fun r=>l.length-r.2) ([],0) ⟨by simp,by simp,rfl⟩ (by simp[go_sem,LeS,leV,leR,leA,xy]) (fun r hr2=>?_)
 obtain⟨D,a⟩:=r
 obtain⟨p1,p3,p2⟩:=hr2
 simp only at p1 p2 p3
 by_cases hal:a<l.length
 ·obtain⟨x,hx⟩:∃x,l[a]=x:=⟨_,rfl⟩
  have hdr:l.drop a=x::l.drop (a+1):=by rw[←hx];exact List.drop_eq_getElem_cons hal
  have hrun:=zck t (l.drop (a+1)) (ZK t j5 x).1
  obtain⟨k,hk⟩:∃k,k=xb t (ZK t j5 x).1 (l.drop (a+1)):=⟨_,rfl⟩
  have hnx:=zhc h hz ck cx sk sx l hn hr a x (l.drop (a+1)) hdr
  rw[←hk]at hrun hnx
  rw[List.length_drop]at hrun
  obtain⟨e,he⟩:∃e,e=a+1+k:=⟨_,rfl⟩
  rw[←he]at hnx
  have hcl:xr t (l.drop a)=(l.drop a).take (k+1)::xr t (l.drop e):=by
   rw[hdr,zbu,←hk,List.drop_drop,List.take_succ_cons,he]
  have g1:(a:Int)<l.length:=by omega
  have hcut:(qO l).drop a=qO (l.drop a):=by simp[qO]
  have hcut2:(qO (l.drop a)).take (e-a)=qO ((l.drop a).take (k+1)):=by
   have:e-a=k+1:=by omega
   rw[this];simp[qO]
  have hcl0:(l.drop a).take (k+1)≠ []:=by rw[hdr];simp
  have hclen:((l.drop a).take (k+1)).length<2^40:=by rw[List.length_take,List.length_drop];omega
  obtain⟨C,hC⟩:∃C,C=(l.drop a).take (k+1):=⟨_,rfl⟩
  rw[←hC]at hcl hcut2 hcl0 hclen
  simp (maxSteps:=1000000) [go_sem,Q5,g1]
  refine⟨⟨rfl,by simp[Tryz.f207]⟩,zh [] hnx (by simp[go_sem]) ⟨by simp[go_sem],by simp[go_sem,Q0,q9]⟩ (by simp[go_sem]) ?_⟩
  rintro _ rs ⟨rfl,rfl⟩
  have g2:(e:Int).toNat-a=e-a:=by omega
  have hcc:cut (qO l) a e=qO C:=by rw[←hcut2,←hcut];simp[cut]
  simp (maxSteps:=1000000) [go_sem,Q5,hcc]
  refine⟨⟨by omega,by omega⟩,⟨rfl,by simp[Tryz.f208]⟩,zh [] (zfv C hcl0 hclen) (by simp[go_sem]) ⟨by simp[go_sem],by simp[go_sem,q9]⟩ (by simp[go_sem]) ?_⟩
  rintro _ rs ⟨rfl,rfl⟩
  simp (maxSteps:=1000000) [go_sem,q9]
  refine⟨by omega,zj (D++[C],e) ⟨by show e≤l.length;omega,by simp;omega,by rw[p2,hcl];simp⟩ (by simp[go_sem,LeS,leV,leR,leA,xy,q9]) (by show l.length-e<l.length-a;omega)⟩
 ·have g1:¬(a:Int)<l.length:=by omega
  have e:xr t l=D:=by rw[p2,List.drop_eq_nil_of_le (by omega)];simp[xr,yU]
  rw[e]
  simp (maxSteps:=1000000) [go_sem,Q5,g1]
  exact zn (.p (Wm D)) rfl (by simp[go_sem,zg,leA,leT,Wm]) ⟨rfl,rfl⟩
attribute [local irreducible] zb
theorem zfA [Gi] {e:PV}(hT:wA e)(l:List Int)(hn:l.length<2^31)(hr:∀x∈l,Zd x):CR Tryz.prog 167 [] [.p e,.p (q9 l)] [] (is (.p (Wm (kU zb l)))):=by
 obtain⟨c,b,j,f,p,h,rfl⟩:=hT
 rw[←zd8]
 exact XK h xJ _ _ _ _ l hn hr
end
section
open Go.AM
theorem zfV [Gi] {t:qX} {c b j f p:PV}(h:uv t c b j f p)(ck cx sk sx:List PV)(hz:W0 t) {i:Int}(hi: -2147483648≤i∧i<2147483648):
  CR Tryz.prog 222 [] [.p (Q0 c b j f p ck cx sk sx),.p (.int .i32 i)] [] (is (.p (.bool (t.flg (rn i)).w))):=by
 have w1:IntKind.i64.wrap i=i:=wrap64 (by omega) (by omega)
 refine zH mixed 5 [] Tryz.func222 rfl (by kernel_rfl) rfl (by simp) (by simp) ?_
 simp (maxSteps:=1000000) [go_sem,Tryz.f222,Q0,w1]
 refine call [] (Kw h.f hz.f i) ?_
 rintro _ rs ⟨rfl,rfl⟩
 generalize t.flg (rn i)=q
 simp (maxSteps:=1000000) [go_sem,z8]
 exact ret
theorem zfB(r:Int):(T0.flg (rn r)).w=decide (aL zb 7 r=1):=by
 by_cases h:0≤r∧r≤1114111
 ·have e:(T0.flg (rn r)).w=qz (zZ zb 7) r:=by
   rw[KR (by omega)];exact congrArg (qz (zZ zb 7)) (Int.toNat_of_nonneg h.1)
  rw[e,Vt _ _ _ h]
  unfold zZ
  rw[zjU _ _ (QO zkg).rise]
  unfold qz spA
  cases atL (zE zb 7) r with
  |none=>rfl
  |some s=>simp only;rfl
 ·rw[uT (by omega),Yh _ _ _ h,xJ.f];rfl
attribute [local irreducible] zb
theorem zeF [Gi] {e:PV}(hT:wA e) {r:Int}(hr:Zd r):CR Tryz.prog 222 [] [.p e,.p (.int .i32 r)] [] (is (.p (.bool (zbF r)))):=by
 obtain⟨c,b,j,f,p,h,rfl⟩:=hT
 rw[zbF,←zfB]
 exact zfV h _ _ _ _ xJ hr
theorem zd1(r:Int):pcD r=zec r:=rfl
def kE(c0:Int):Nat→List Int→Bool
 |_,[]=>false
 |i,x::l=>(ze4 c0 i x || (decide (i=1)&&(decide (zI zb x=6)&&decide (zI zb c0=6)))) || kE c0 (i+1) l
theorem V6(c0:Int):∀(l:List Int) (i:Nat),2≤i→kE c0 i l=VY c0 i l
 | [],i,_=>rfl
 |x::l,i,h=>by
  unfold kE VY
  rw[V6 c0 l (i+1) (by omega),decide_eq_false (show ¬i=1 by omega)]
  simp
theorem zhn(c:List Int):vf c=if kE (c.headD 0) 0 c=true then 2 else 1:=by
 unfold vf
 congr 1
 rw[←Bool.or_eq_true]
 match c with
 | []=>rfl
 | [a]=>simp[kE,VY,zbl]
 |a::b::l=>
  simp only[kE,VY,zbl,List.headD_cons,V6 a l 2 (Nat.le_refl _)]
  simp only[Nat.zero_add,decide_true,Bool.true_and]
  rw[decide_eq_false (show ¬(0:Nat)=1 by decide)]
  generalize VY a 2 l=w
  by_cases hu:zI zb a=6<;>by_cases hv:zI zb b=6<;>cases ze4 a 0 a<;>cases ze4 a 1 b<;>cases w<;>simp[hu,hv]
theorem zdu [Gi] {e:PV}(hT:wA e)(c:List Int)(hn:c.length<2^31)(hr:∀x∈c,Zd x):CR Tryz.prog 192 [] [.p e,.p (q9 c)] [] (is (.p (.int .i64 (vf c)))):=by
 refine walk Tryz.func192 10 [] [] [] ?_
 rw[zhn]
 obtain⟨c0,hc0⟩:∃c0,c0=c.headD 0:=⟨_,rfl⟩
 rw[←hc0]
 obtain⟨W,hW⟩:∃W,W=kE c0 0 c:=⟨_,rfl⟩
 rw[←hW]
 simp (maxSteps:=1000000) [go_sem,Tryz.f192]
 refine loop (fun i:Nat=>i≤c.length∧W=kE c0 i (c.drop i)) (fun i=>[(5,.zK),(6,.zK),(9,.p (.int .i64 i))]) (fun _=>[]) (fun i=>c.length-i) 0 ⟨Nat.zero_le _,hW⟩ (fun i hi=>?_)
 obtain⟨hi,h2⟩:=hi
 by_cases hil:i<c.length
 ·have e0:elemAt (qO c) 0=.int .i32 c0:=by
   rw[hc0]
   cases c with
   |nil=>simp at hil
   |cons a c=>rfl
  have r0:Zd c0:=by
   rw[hc0]
   cases c with
   |nil=>simp at hil
   |cons a c=>exact hr a (by simp)
  have hp:0<c.length:=by omega
  obtain⟨y,hy⟩:∃y,c[i]=y:=⟨_,rfl⟩
  have ry:Zd y:=hr y (by rw[←hy];exact List.getElem_mem _)
  have em:elemAt (qO c) i=.int .i32 y:=by rw[zgq hil,hy]
  have w1:IntKind.i64.wrap ((i:Int)+1)=((i+1:Nat):Int):=qD (by omega)
  rw[List.drop_eq_getElem_cons hil,hy,kE]at h2
  have g1:=zeF hT ry
  have g2:=zfL hT r0
  have g3:=K3 hT ry
  have g4:=K3 hT r0
  rw[zd1]at g2
  unfold ze4 at h2
  simp (maxSteps:=1000000) [go_sem,hil,em]
  refine zD g1 ?_
  cases hw:zbF y with
  |true=>
   rw[hw]at h2
   simp only[Bool.true_or]at h2
   rw[h2]
   simp (maxSteps:=1000000) [go_sem]
   exact ret
  |false=>
   rw[hw]at h2
   simp only[Bool.false_or]at h2
   obtain⟨wr,hwr⟩:∃wr,wr=kE c0 (i+1) (c.drop (i+1)):=⟨_,rfl⟩
   rw[←hwr]at h2
   by_cases qa:y=65039
   ·subst qa
    by_cases qi:0<i
    ·simp (maxSteps:=1000000) [go_sem,qi,hp,e0]
     refine zD g2 ?_
     cases hp2:zec c0 with
     |true=>
      have hWt:W=true:=by rw[h2];simp[qi,hp2]
      rw[hWt]
      simp (maxSteps:=1000000) [go_sem]
      exact ret
     |false=>
      by_cases i1:i=1
      ·subst i1
       simp (maxSteps:=1000000) [go_sem,hp,e0]
       refine zD g3 ?_
       by_cases b6:zI zb 65039=6
       ·simp (maxSteps:=1000000) [go_sem,hp,e0,b6]
        refine zD g4 ?_
        by_cases b7:zI zb c0=6
        ·have hWt:W=true:=by rw[h2];simp[b6,b7]
         rw[hWt]
         simp (maxSteps:=1000000) [go_sem,b7]
         exact ret
        ·simp (maxSteps:=1000000) [go_sem,b7,wk2]
         exact next (1+1) ⟨hil,by rw[h2,hwr];simp[b7,hp2]⟩ (h3:=by show c.length- (1+1)<c.length-1;omega)
       ·simp (maxSteps:=1000000) [go_sem,b6,wk2]
        exact next (1+1) ⟨hil,by rw[h2,hwr];simp[b6,hp2]⟩ (h3:=by show c.length- (1+1)<c.length-1;omega)
      ·have i1':¬(i:Int)=1:=by omega
       simp (maxSteps:=1000000) [go_sem,hp,e0,i1',w1]
       exact next (i+1) ⟨hil,by rw[h2,hwr];simp[i1,hp2]⟩ (h3:=by show c.length- (i+1)<c.length-i;omega)
    ·have qi':¬(0:Int)<i:=by omega
     have i1:¬i=1:=by omega
     have i1':¬(i:Int)=1:=by omega
     simp (maxSteps:=1000000) [go_sem,hp,e0,i1',w1,qi]
     exact next (i+1) ⟨hil,by rw[h2,hwr];simp[i1,qi]⟩ (h3:=by show c.length- (i+1)<c.length-i;omega)
   ·by_cases i1:i=1
    ·subst i1
     simp (maxSteps:=1000000) [go_sem,hp,e0,qa]
     refine zD g3 ?_
     by_cases b6:zI zb y=6
     ·simp (maxSteps:=1000000) [go_sem,hp,e0,b6]
      refine zD g4 ?_
      by_cases b7:zI zb c0=6
      ·have hWt:W=true:=by rw[h2];simp[b6,b7]
       rw[hWt]
       simp (maxSteps:=1000000) [go_sem,b7]
       exact ret
      ·simp (maxSteps:=1000000) [go_sem,b7,wk2]
       exact next (1+1) ⟨hil,by rw[h2,hwr];simp[b7,qa]⟩ (h3:=by show c.length- (1+1)<c.length-1;omega)
     ·simp (maxSteps:=1000000) [go_sem,b6,wk2]
      exact next (1+1) ⟨hil,by rw[h2,hwr];simp[b6,qa]⟩ (h3:=by show c.length- (1+1)<c.length-1;omega)
    ·have i1':¬(i:Int)=1:=by omega
     simp (maxSteps:=1000000) [go_sem,hp,e0,i1',w1,qa]
     exact next (i+1) ⟨hil,by rw[h2,hwr];simp[i1,qa]⟩ (h3:=by show c.length- (i+1)<c.length-i;omega)
 ·have e:W=false:=by rw[h2,List.drop_eq_nil_of_le (by omega)];rfl
  rw[e]
  have g:¬(i:Int)<c.length:=by omega
  simp (maxSteps:=1000000) [go_sem,g]
  exact ret
end
section
open Go.AM
attribute [local irreducible] zb
def u8s(s:List UInt8):List PV:=s.map fun c=>.int .u8 (c.toNat:Int)
theorem zcH(s:List UInt8):Qm (u8s s)=some s:=by
 induction s with
 |nil=>rfl
 |cons c s ih=>
  have e:u8s (c::s)=.int .u8 (c.toNat:Int)::u8s s:=rfl
  rw[e,Qm,ih]
  simp
theorem zgG(a b:List UInt8):u8s a++u8s b=u8s (a++b):=by simp[u8s]
theorem zcy(s:List UInt8):(u8s s).length=s.length:=by simp[u8s]
theorem zcM {l:List Int} {i:Nat}(h:i<l.length):je (l.take (i+1))=je (l.take i)++wG l[i]:=by
 unfold je
 rw[List.take_add_one,List.getElem?_eq_getElem h,List.flatMap_append]
 simp
theorem Kr(r:Int):1≤(wG r).length∧(wG r).length≤4:=Xv _
theorem ziF [Gi](l:List Int)(h0:l≠ [])(hn:l.length≤100000):CR Tryz.prog 191 [] [.p (q9 l)] [] (is (.p (.str (je l)))):=by
 refine walk Tryz.func191 9 [] [] [] ?_
 have hp:0<l.length:=List.length_pos_iff.2 h0
 simp (maxSteps:=1000000) [go_sem,Tryz.f191]
 refine loop (fun i:Nat=>i≤l.length) (fun i=>[(3,.os [3] 1 (u8s (je (l.take i)))),(5,.zK),(8,.p (.int .i64 i))]) (fun _=>[]) (fun i=>l.length-i) 0 (Nat.zero_le _) (fun i hi=>?_) (h0:=by simp[go_sem,LeS,leV,leR,leA,je,u8s])
 by_cases c:i<l.length
 ·have em:elemAt (qO l) i=.int .i32 l[i]:=by rw[qO,zu (fun r=>PV.int .i32 r) l i c]
  have hs:=zcM c
  have hl:=zdX (l.take i)
  have hl2:=(Kr l[i]).2
  have w1:IntKind.i64.wrap ((i:Int)+1)=((i+1:Nat):Int):=qD (by omega)
  have hP:=zks l[i]
  rw[List.length_take]at hl
  generalize wG l[i]=q at hP hs hl2
  have e2:u8s (je (l.take i))++q.map (fun c=>PV.int .u8 (c.toNat:Int))=u8s (je (l.take (i+1))):=by rw[hs];exact zgG _ _
  have l3:(u8s (je (l.take i))).length≤400000:=by rw[zcy];omega
  simp (maxSteps:=1000000) [go_sem,c,em]
  refine zD hP ?_
  simp (maxSteps:=1000000) [go_sem,w1,e2]
  refine⟨by omega,?_⟩
  exact next (i+1) c (h3:=by show l.length- (i+1)<l.length-i;omega)
 ·obtain rfl:i=l.length:=by omega
  rw[List.take_length]
  have hne:u8s (je l)≠ []:=by
   intro e
   have:=congrArg List.length e
   rw[zcy]at this
   obtain⟨x,l',rfl⟩:∃x l',l=x::l':=by
    cases l with
    |nil=>exact absurd rfl h0
    |cons x l'=>exact⟨x,l',rfl⟩
   have e2:je (x::l')=wG x++je l':=rfl
   have h1:=(Kr x).1
   rw[e2,List.length_append]at this
   simp only[List.length_nil]at this
   omega
  have hb:=zcH (je l)
  simp (maxSteps:=1000000) [go_sem,hb,hne]
  exact ret
theorem YL {c:List Int}:∀{L:List (List Int)},c∈L→c.length≤xg L
 | [],h=>by simp at h
 |d::L,h=>by
  have e:xg (d::L)=d.length+xg L:=by simp[xg]
  rcases List.mem_cons.1 h with rfl|h
  ·omega
  ·have:=YL h;omega
theorem Ln.ne {l:List Int} {L:List (List Int)}(h:Ln l L):∀c∈L,c≠ []:=fun c hc=>by
 obtain⟨x,c',e,_⟩:=h.cl.full.r c hc
 rw[e];simp
theorem Ln.mem {l:List Int} {L:List (List Int)}(h:Ln l L) {c:List Int}(hc:c∈L):c.length≤l.length∧∀x∈c,Zd x:=by
 have hf:=h.flat
 have hs:∀x∈c,x∈l:=fun x hx=>by rw[←hf];exact List.mem_flatten.2 ⟨c,hc,hx⟩
 refine⟨?_,fun x hx=>h.r x (hs x hx)⟩
 rw[←h.sum]
 exact YL hc
theorem zdS {L:List (List Int)} {i:Nat}(h:i<L.length):elemAt (xy L) i=.sl 1 (qO L[i]):=by
 unfold xy
 rw[zu q9 L i h];rfl
theorem Ln.mk'(l:List Int)(hn:l.length<2^31)(hr:∀x∈l,Zd x):Ln l (kU zb l):=⟨rfl,hn,hr⟩
theorem Yz {l:List Cl} {i:Nat}(h:i<l.length):elemAt (l.map clP) i=.agg [.str l[i].t,.int .i64 l[i].w]:=by
 rw[zu clP l i h];rfl
end
end Go.Proofs.YtfjdbbpimklecaaGreatDoor
