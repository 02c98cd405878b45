/- A part of the proof of this seat's statements, by an abstract machine: what each operation does to values, and what the law's functions compute. Conditions: as each law says. -/
import Derived.Test.YthbmelihnabkaaaGreatT36
import Derived.Test.YthbmelihnabkaaaGreatT17
import Derived.Test.YthbmelihnabkaaaGreatT37
import Derived.Test.YthbmelihnabkaaaGreatT18
import Derived.Test.YthbmelihnabkaaaGreatT38
section
namespace Go.Proofs.YthbmelihnabkaaaGreat
open Go.AM
set_option maxHeartbeats 4000000
set_option maxRecDepth 10000
attribute [go_sem] zh zax znF zB zep
@[go_sem] theorem znK : (Value.slice none 0 0).oneCell' = true := rfl
@[go_sem] theorem znI : (Value.pointer none).oneCell' = true := rfl
theorem call [Gi] {A:Prop} {S:St} {f:FuncId} {args:List Operand} {dst:Option Nat} {K:St→Prop}(m:List (Tok×Tok)) {pin:List Tok} {as1:List AV} {rs:List (Tok×List AV)} {R:AV→List (Tok×List AV)→Prop}(hC:CR Tryz.prog f pin as1 rs R)
  (hk:∀x rs',R x rs'→K ((ve S (dst.getD S.n) m pin rs').qH dst (x.ren fun u=>some (kQ (dst.getD S.n) m u))))
  (hb:A:=by exact⟨rfl,by decide+kernel⟩)
  (hm:okM (dst.getD S.n) m=true∧S.pin.all (je (dst.getD S.n) m pin)=true∧dOK S dst:=by simp[go_sem,zw])
  (ha:(ZX S m args).1:=by simp[go_sem]) (ha':(ZX S m args).2=as1:=by simp[go_sem]) (hr:Qm S m m=rs:=by simp[go_sem]):
  A∧JN Tryz.prog S f args dst K:=
 ⟨hb,zc m hC hm ⟨ha,ha'⟩ hr hk⟩
theorem zn [Gi] {A:Prop} {S:St} {f:FuncId} {args:List Operand} {dst:Option Nat} {K:St→Prop} {as1:List AV} {v:AV}(hC:CR Tryz.prog f [] as1 [] (is v))
  (hk:K ((ve S (dst.getD S.n) [] [] []).qH dst (v.ren fun u=>some (kQ (dst.getD S.n) [] u))))
  (hb:A:=by exact⟨rfl,by decide+kernel⟩)
  (hm:okM (dst.getD S.n) []=true∧S.pin.all (je (dst.getD S.n) [] [])=true∧dOK S dst:=by simp[go_sem,zw])
  (ha:(ZX S [] args).1:=by simp[go_sem]) (ha':(ZX S [] args).2=as1:=by simp[go_sem]):
  A∧JN Tryz.prog S f args dst K:=
 ⟨hb,zc [] hC hm ⟨ha,ha'⟩ (by simp[go_sem]) (fun x rs' h=>by obtain⟨rfl,rfl⟩:=h;exact hk)⟩
theorem ret [Gi] {ts:List (Nat×Option TypeId)} {S:St} {x:AV}(hp:S.pin=[]:=by rfl)
  (hx:(zd Tryz.prog S ts).1∧leT ((zd Tryz.prog S ts).2.upd (AM.fil (fun _=>false) ftt)) x:=by simp[go_sem,zd,leA,leT,leP]):uP Tryz.prog [] ts (is x) S:=zg x hp hx ⟨rfl,rfl⟩
def keeps(R:List (Tok×List AV))(v:PV):AV→List (Tok×List AV)→Prop:=fun x rs=>rs=R∧x=.p v
def idm(l:List Tok):List (Tok×Tok):=l.map fun t=>(t,t)
attribute [go_sem] idm St.ofR
def zeA(pin:List Tok)(R:List (Tok×List AV))(v:PV):AV→List (Tok×List AV)→Prop:=fun x rs=>x=.p v∧Qm (St.ofR rs) (idm pin) (idm pin)=R
theorem CR.keeps [Gi] {f:FuncId} {pin:List Tok} {args:List AV} {rs R:List (Tok×List AV)} {v:PV}(h:CR Tryz.prog f pin args rs (zeA pin R v))(hok:(okM 1000000 (idm pin)&&pin.all fun t=>inM (idm pin) t==some t)=true):CR Tryz.prog f pin args rs (keeps R v):=by
 simp only[Bool.and_eq_true]at hok
 refine CR.ren h 1000000 ?_
 rintro x rs' ⟨rfl,h2⟩
 exact⟨idm pin,hok.1,hok.2,h2,rfl⟩
theorem KT [Gi] {ts:List (Nat×Option TypeId)} {S:St} {pin:List Tok} {R:List (Tok×List AV)} {v:PV}(hp:S.pin=pin∧pin.all (fun t=>pin.contains t)=true:=by simp)
  (hx:(zd Tryz.prog S ts).1∧leT ((zd Tryz.prog S ts).2.upd (AM.fil (fun t=>pin.contains t) ftt)) (.p v):=by simp[go_sem,zd,leA,leT,leP])
  (hr:Qm (St.ofR (Ka pin (S.fil (fun t=>pin.contains t) ftt).rs)) (idm pin) (idm pin)=R:=by simp[go_sem]):uP Tryz.prog pin ts (zeA pin R v) S:=zi pin (.p v) hp hx ⟨rfl,hr⟩
def Yv(R:List (Tok×List AV))(v:AV):AV→List (Tok×List AV)→Prop:=fun x rs=>rs=R∧x=v
def zkh(pin:List Tok)(R:List (Tok×List AV))(v:AV):AV→List (Tok×List AV)→Prop:=fun x rs=>x=v∧Qm (St.ofR rs) (idm pin) (idm pin)=R
theorem CR.Yv [Gi] {f:FuncId} {pin:List Tok} {args:List AV} {rs R:List (Tok×List AV)} {v:AV}(h:CR Tryz.prog f pin args rs (zkh pin R v))(hok:(okM 1000000 (idm pin)&&pin.all fun t=>inM (idm pin) t==some t)=true)(hv:v.ren (inM (idm pin))=v):CR Tryz.prog f pin args rs (Yv R v):=by
 simp only[Bool.and_eq_true]at hok
 refine CR.ren h 1000000 ?_
 rintro x rs' ⟨rfl,h2⟩
 exact⟨idm pin,hok.1,hok.2,h2,hv⟩
theorem next {ι:Type} {inv:ι→Prop} {st:ι→St} {m:ι→Nat} {i:ι} {Q:Exit→St→Prop} {S:St}(j:ι)(h1:inv j)(h3:m j<m i:=by simp;omega)(h2:LeS S (st j):=by simp[go_sem,LeS,leV,leR,leA,leL,zj,leT,leP]):UP inv st m i Q .normal S:=zf j h1 h2 h3
theorem loop [Gi] {D:List Nat} {c:Code} {Q:Exit→St→Prop} {S:St} {ι:Type}(inv:ι→Prop)(V:ι→List (Nat×AV))(R:ι→List (Tok×List AV))(m:ι→Nat)(i:ι)(hi:inv i)
  (h:∀i,inv i→wpA Tryz.prog D c (UP inv (fun i=>S.YD (V i) (R i)) m i Q) (S.YD (V i) (R i))) (h0:LeS S (S.YD (V i) (R i)):=by simp[go_sem,LeS,leV,leR,leA,leL,zj,leT,leP]):wpA Tryz.prog D (.loop c) Q S:=
 zl inv V R m i hi h0 h
theorem walk [Gi] {f:FuncId} {fn:Func} {c:Code} {ts:List (Nat×Option TypeId)}(hf:Tryz.prog.funcs[f]?=some fn)(nv:Nat) {pin:List Tok} {args:List AV} {rs:List (Tok×List AV)} {R:AV→List (Tok×List AV)→Prop}(ex:List Nat)(D:List Nat)(rm:List Nat)
  (h:wpA Tryz.prog D c (vB Tryz.prog pin ts R) {n:=fn.ntmps,nv:=nv,vs:=x9 0 args,ts:=[],rs:=rs,pin:=pin,ex:=ex,rm:=rm}) (hb:fn.body=some c:=by exact rfl) (hok:Zk D c=true:=by kernel_rfl)
  (hres:vC fn.results.toList=some ts:=by exact rfl) (hnv:args.length≤nv:=by simp) (hn:args.length≤fn.ntmps:=by simp):CR Tryz.prog f pin args rs R:=
 qP D mixed nv ex hf hb hok rm hres hnv hn h
theorem Yr [Gi] {f:FuncId} {fn:Func} {c:Code} {ts:List (Nat×Option TypeId)}(hf:Tryz.prog.funcs[f]?=some fn)(nv:Nat) {pin:List Tok} {args:List AV} {rs R:List (Tok×List AV)} {v:PV}(ex:List Nat)(D:List Nat)(rm:List Nat)
  (h:wpA Tryz.prog D c (vB Tryz.prog pin ts (zeA pin R v)) {n:=fn.ntmps,nv:=nv,vs:=x9 0 args,ts:=[],rs:=rs,pin:=pin,ex:=ex,rm:=rm}) (hok1:(okM 1000000 (idm pin)&&pin.all fun t=>inM (idm pin) t==some t)=true:=by decide) (hb:fn.body=some c:=by exact rfl) (hok:Zk D c=true:=by kernel_rfl)
  (hres:vC fn.results.toList=some ts:=by exact rfl) (hnv:args.length≤nv:=by simp) (hn:args.length≤fn.ntmps:=by simp):CR Tryz.prog f pin args rs (keeps R v):=
 CR.keeps (qP D mixed nv ex hf hb hok rm hres hnv hn h) hok1
end Go.Proofs.YthbmelihnabkaaaGreat
end
section
namespace Go.Proofs.YthbmelihnabkaaaGreat
open Go.AM
set_option maxHeartbeats 4000000
set_option maxRecDepth 10000
def rcs(l:List Int):List AV:=l.map fun i=>.p (.int .i32 i)
@[go_sem] theorem zlW (l : List Int) : (rcs l).length = l.length := by simp [rcs]
@[go_sem] theorem zoD (rt tt : Tok → Bool) (l : List Int) : (rcs l).map (AV.upd (fil rt tt)) = rcs l := by
 simp[rcs,AV.upd,fil,Qv,Function.comp_def]
@[go_sem] theorem zoA (f : Tok → Option Tok) (l : List Int) : (rcs l).map (AV.ren f) = rcs l := by
 simp[rcs,AV.ren,AV.upd,K7,yF,Function.comp_def]
@[go_sem] theorem zn8 (l : List Int) (n : Nat) : (rcs l).take n = rcs (l.take n) := by simp [rcs]
@[go_sem] theorem zoy (l : List Int) (n : Nat) : (rcs l).drop n = rcs (l.drop n) := by simp [rcs]
@[go_sem] theorem zoB (l l' : List Int) : rcs l ++ rcs l' = rcs (l ++ l') := by simp [rcs]
@[go_sem] theorem zoj (l : List Int) : Vr (rcs l) = some (zx l) := by
 unfold rcs zx
 induction l with
 |nil=>rfl
 |cons x l ih=>simp[Vr,ih]
attribute [go_sem] zB zhh Xt
@[go_sem] theorem znQ (l : List Int) : (zx l).map AV.p = rcs l := by simp [rcs, zx]
@[go_sem] theorem znv (l : List Int) (n : Nat) : (zx l).take n = zx (l.take n) := by simp [zx]
@[go_sem] theorem znh (l l' : List Int) : zx l ++ zx l' = zx (l ++ l') := by simp [zx]
@[go_sem] theorem znR (l : List Int) : (zx l).all PV.one = true := by simp [zx, PV.one]
@[go_sem] theorem znP : zx [] = [] := rfl
@[go_sem] theorem zob (l : List Int) (a b : Int) : cut (zx l) a b = zx (cut l a b) := by simp [cut, zx]
@[go_sem] theorem zng (n : Nat) : List.replicate n (AV.p (PV.int .i32 0)) = rcs (List.replicate n 0) := by simp [rcs]
def ZF(l:List Int)(f t:Nat):List (Tok×List AV):=[([0],[.la [0,0] 1 0 l.length,.p (.int .i64 (f:Int)),.p (.int .i64 (t:Int))]),([0,0],rcs l)]
def Zn:List Tok:=[[0],[0,0]]
theorem jV [Gi](l:List Int)(f t:Nat)(h1:f≤t)(h2:t≤l.length)(h3:(l.length:Int)≤140737488355328):CR Tryz.prog 63 Zn [.lp [0] 0] (ZF l f t) fun x rs=>rs=ZF l f t∧x=.p (.int .i64 (l.length- (t-f))):=by
 refine zm mixed 3 [] Tryz.func63 rfl (by kernel_rfl) rfl (by simp) (by simp) ?_
 simp (maxSteps:=1000000) [go_sem,Tryz.f63,ZF,Zn]
 refine zi Zn (.p (.int .i64 (l.length- (t-f)))) (by simp[Zn]) (by simp (maxSteps:=1000000) (disch:=omega) [go_sem,zd,leA,wrap64]) ?_
 simp (maxSteps:=1000000) [go_sem,Zn]
def held(l:List Int)(f t:Nat):List Int:=l.take f++l.drop t
def zoG(l:List Int):AV→List (Tok×List AV)→Prop:=fun x rs=>∃l':List Int,rs=ZF l' l.length (l.length+8)∧l'.length=l.length+8∧x=.lp [0] 0∧held l' l.length (l.length+8)=l
def zoH(l:List Int):AV→List (Tok×List AV)→Prop:=fun x rs=>x=.lp [9] 0∧rs=[([7],rcs (l++List.replicate 8 0)),([9],[.la [7] 1 0 (l.length+8),.p (.int .i64 (l.length:Int)),.p (.int .i64 ((l.length+8:Nat):Int))])]
theorem zg2 [Gi](l:List Int)(h:(l.length:Int)≤4398046511104):CR Tryz.prog 59 [] [.p (zh l)] [] (zoG l):=by
 refine CR.ren (R:=zoH l) ?_ 100 ?_
 ·refine zm mixed 4 [] Tryz.func59 rfl (by kernel_rfl) rfl (by simp) (by simp) ?_
  obtain⟨N,hN⟩:∃N:Nat,N=l.length+8:=⟨_,rfl⟩
  have e1:((l.length:Int)+8)=N:=by omega
  simp (maxSteps:=1000000) (disch:=omega) [go_sem,Tryz.f59,zh,wrap64,e1]
  refine⟨by omega,by omega,?_⟩
  refine zi [[7],[9]] (.lp [9] 0) (by simp) (by simp (maxSteps:=1000000) [go_sem,zd,leA]) ⟨rfl,?_⟩
  have e2:N-l.length=8:=by omega
  simp (maxSteps:=1000000) [go_sem,e2,←hN]
 ·rintro x rs ⟨rfl,rfl⟩
  exact⟨[([0],[9]),([0,0],[7])],by simp (maxSteps:=1000000) [go_sem],by simp,l++List.replicate 8 0,by simp (maxSteps:=1000000) [go_sem,ZF],by simp,by simp (maxSteps:=1000000) [go_sem],by simp[held]⟩
def sliced(l:List Int)(a b:Int):List Int:=(l.take b.toNat).drop a.toNat
theorem yT(l:List Int)(f t:Nat)(h1:f≤t)(h2:t≤l.length):(held l f t).length=l.length- (t-f):=by
 simp[held];omega
theorem zdX(H:List Int)(a b:Int)(h:min b H.length≤max a 0):sliced H a b=[]:=by
 unfold sliced
 apply List.drop_eq_nil_of_le
 simp
 omega
theorem zgM(H:List Int)(a b:Int)(A B:Nat)(hA:(A:Int)=max a 0)(hB:(B:Int)=min b H.length):sliced H a b=(H.take B).drop A:=by
 unfold sliced
 have e1:a.toNat=A:=by omega
 rw[e1]
 congr 1
 by_cases h:b≤H.length
 ·have e2:b.toNat=B:=by omega
  rw[e2]
 ·rw[List.take_of_length_le (by omega),List.take_of_length_le (by omega)]
def zoK(l:List Int)(f t:Nat)(a b:Int):AV→List (Tok×List AV)→Prop:=fun x rs=>rs=ZF l f t∧x=.os [6] 1 (zx (sliced (held l f t) a b))
def fin(l:List Int)(f t:Nat)(a b:Int):AV→List (Tok×List AV)→Prop:=fun x rs=>rs=ZF l f t∧x=.p (zh (sliced (held l f t) a b))
theorem zbr [Gi](l:List Int)(f t:Nat)(a b:Int)(h1:f≤t)(h2:t≤l.length)(h3:(l.length:Int)≤4398046511104):
  CR Tryz.prog 82 Zn [.lp [0] 0,.p (.int .i64 a),.p (.int .i64 b)] (ZF l f t) (zoK l f t a b):=by
 refine zm mixed 9 [] Tryz.func82 rfl (by kernel_rfl) rfl (by simp) (by simp) ?_
 simp (maxSteps:=1000000) (disch:=omega) [go_sem,Tryz.f82,ZF,Zn]
 refine⟨⟨rfl,by simp[Tryz.f63]⟩,?_⟩
 refine zc [([0],[0]),([0,0],[0,0])] (jV l f t h1 h2 (by omega)) (by simp (maxSteps:=1000000) [go_sem,Zn]) ⟨by simp (maxSteps:=1000000) [go_sem],by simp (maxSteps:=1000000) [go_sem]⟩ (by simp (maxSteps:=1000000) [go_sem,ZF]) ?_
 rintro x rs ⟨rfl,rfl⟩
 obtain⟨A,hA⟩:∃A:Nat,(A:Int)=max a 0:=⟨(max a 0).toNat,by omega⟩
 obtain⟨M,hM⟩:∃M:Int,M=min b (l.length- (t-f)):=⟨_,rfl⟩
 simp (maxSteps:=1000000) (disch:=omega) [go_sem,ZF,Zn,←hA,←hM]
 have hl:=yT l f t h1 h2
 refine zr (fun h=>?_) (fun h=>?_)
 ·simp (maxSteps:=1000000) (disch:=omega) [go_sem]
  refine zi Zn (.os [6] 1 (zx [])) (by simp[Zn]) (by simp (maxSteps:=1000000) [go_sem,zd,leA]) ⟨by simp (maxSteps:=1000000) [go_sem,Zn,ZF],?_⟩
  rw[zdX _ _ _ (by rw[hl];omega)]
 ·obtain⟨B,rfl⟩:=Int.eq_ofNat_of_zero_le (show 0≤M by omega)
  have hs:=zgM (held l f t) a b A B hA (by rw[hl];omega)
  simp (maxSteps:=1000000) (disch:=omega) [go_sem]
  refine zr (fun h'=>?_) (fun h'=>?_)
  ·obtain⟨C,hC⟩:∃C:Nat,(C:Int)=min (B:Int) (f:Int):=⟨min B f,by omega⟩
   simp (maxSteps:=1000000) (disch:=omega) [go_sem,←hC]
   refine⟨by omega,by omega,?_⟩
   refine zr (fun h2=>?_) (fun h2=>?_)
   ·have e1:max (A:Int) (f:Int)+((t:Int)-f)=t:=by omega
    obtain⟨D,hD⟩:∃D:Nat,(D:Int)=(B:Int)+((t:Int)-f):=⟨B+t-f,by omega⟩
    simp (maxSteps:=1000000) (disch:=omega) [go_sem,wrap64,e1,←hD]
    refine⟨by omega,by omega,?_⟩
    refine zi Zn (.os [6] 1 (zx ((l.drop A).take (C-A)++(l.drop t).take (D-t)))) (by simp[Zn]) (by simp (maxSteps:=1000000) [go_sem,zd,leA]) ⟨by simp (maxSteps:=1000000) [go_sem,Zn,ZF],?_⟩
    rw[hs]
    congr 2
    unfold held
    (apply List.ext_getElem?;intro j;simp only[List.getElem?_append,List.getElem?_take,List.getElem?_drop,List.length_take,List.length_drop];(repeat' split);all_goals first|rfl|omega|(congr 1;omega)|(symm;apply List.getElem?_eq_none;omega)|(apply List.getElem?_eq_none;omega))
   ·simp (maxSteps:=1000000) (disch:=omega) [go_sem]
    have hCB:C=B:=by omega
    refine zi Zn (.os [6] 1 (zx ((l.drop A).take (C-A)))) (by simp[Zn]) (by simp (maxSteps:=1000000) [go_sem,zd,leA]) ⟨by simp (maxSteps:=1000000) [go_sem,Zn,ZF],?_⟩
    rw[hs]
    congr 2
    unfold held
    (apply List.ext_getElem?;intro j;simp only[List.getElem?_append,List.getElem?_take,List.getElem?_drop,List.length_take];(repeat' split);all_goals first|rfl|omega|(congr 1;omega)|(symm;apply List.getElem?_eq_none;omega)|(apply List.getElem?_eq_none;omega))
  ·simp (maxSteps:=1000000) (disch:=omega) [go_sem]
   refine zr (fun h4=>?_) (fun h4=>?_)
   ·have e1:max (A:Int) (f:Int)+((t:Int)-f)=(A+t-f:Nat):=by omega
    obtain⟨D,hD⟩:∃D:Nat,(D:Int)=(B:Int)+((t:Int)-f):=⟨B+t-f,by omega⟩
    simp (maxSteps:=1000000) (disch:=omega) [go_sem,wrap64,e1,←hD]
    refine⟨by omega,by omega,?_⟩
    refine zi Zn (.os [6] 1 (zx ((l.drop (A+t-f)).take (D- (A+t-f))))) (by simp[Zn]) (by simp (maxSteps:=1000000) [go_sem,zd,leA]) ⟨by simp (maxSteps:=1000000) [go_sem,Zn,ZF],?_⟩
    rw[hs]
    congr 2
    unfold held
    (apply List.ext_getElem?;intro j;simp only[List.getElem?_append,List.getElem?_take,List.getElem?_drop,List.length_take];(repeat' split);all_goals first|rfl|omega|(congr 1;omega)|(symm;apply List.getElem?_eq_none;omega)|(apply List.getElem?_eq_none;omega))
   ·omega
theorem zcE [Gi](l:List Int)(f t:Nat)(a b:Int)(h1:f≤t)(h2:t≤l.length)(h3:(l.length:Int)≤4398046511104):
  CR Tryz.prog 82 Zn [.lp [0] 0,.p (.int .i64 a),.p (.int .i64 b)] (ZF l f t) (fin l f t a b):=by
 refine CR.ren (zbr l f t a b h1 h2 h3) 100 ?_
 rintro x rs ⟨rfl,rfl⟩
 exact⟨[([0],[0]),([0,0],[0,0])],by simp[go_sem],by simp[go_sem,Zn],by simp[go_sem,ZF],by simp[go_sem]⟩
def zoL(l:List Int)(f t:Nat):AV→List (Tok×List AV)→Prop:=fun x rs=>rs=ZF l f t∧x=.p (zh (held l f t))
theorem xI [Gi](l:List Int)(f t:Nat)(h1:f≤t)(h2:t≤l.length)(h3:(l.length:Int)≤4398046511104):CR Tryz.prog 62 Zn [.lp [0] 0] (ZF l f t) (zoL l f t):=by
 refine zm mixed 3 [] Tryz.func62 rfl (by kernel_rfl) rfl (by simp) (by simp) ?_
 simp (maxSteps:=1000000) (disch:=omega) [go_sem,Tryz.f62,ZF,Zn]
 refine⟨⟨rfl,by simp[Tryz.f63]⟩,?_⟩
 refine zc [([0],[0]),([0,0],[0,0])] (jV l f t h1 h2 (by omega)) (by simp (maxSteps:=1000000) [go_sem,Zn]) ⟨by simp (maxSteps:=1000000) [go_sem],by simp (maxSteps:=1000000) [go_sem]⟩ (by simp (maxSteps:=1000000) [go_sem,ZF]) ?_
 rintro x rs ⟨rfl,rfl⟩
 have hl:=yT l f t h1 h2
 simp (maxSteps:=1000000) (disch:=omega) [go_sem,ZF,Zn]
 refine⟨⟨rfl,by simp[Tryz.f82]⟩,?_⟩
 refine zc [([0],[0]),([0,0],[0,0])] (zcE l f t 0 (l.length- (t-f)) h1 h2 h3) (by simp (maxSteps:=1000000) [go_sem,Zn]) ⟨by simp (maxSteps:=1000000) [go_sem],by simp (maxSteps:=1000000) [go_sem]⟩ (by simp (maxSteps:=1000000) [go_sem,ZF]) ?_
 rintro x rs ⟨rfl,rfl⟩
 simp (maxSteps:=1000000) (disch:=omega) [go_sem,ZF,Zn,zh]
 refine zi Zn (.p (zh (sliced (held l f t) 0 (l.length- (t-f))))) (by simp[Zn]) (by simp (maxSteps:=1000000) [go_sem,zd,leA,zh]) ⟨by simp (maxSteps:=1000000) [go_sem,Zn,ZF],?_⟩
 have e:sliced (held l f t) 0 ((l.length:Int)- (t-f))=held l f t:=by
  unfold sliced
  have:((l.length:Int)- (t-f)).toNat=(held l f t).length:=by omega
  rw[this];simp
 rw[e]
end Go.Proofs.YthbmelihnabkaaaGreat
end
section
namespace Go.Proofs.YthbmelihnabkaaaGreat
open Go.AM
set_option maxHeartbeats 4000000
set_option maxRecDepth 10000
def Z2(l:List Nat):List PV:=l.map fun n=>.int .i64 (n:Nat)
def Q2(l:List Nat):PV:=.sl 1 (Z2 l)
attribute [go_sem] Q2
@[go_sem] theorem zdE (l : List Nat) : (Z2 l).length = l.length := by simp [Z2]
theorem Vo {l:List Nat} {j:Nat}(h:j<l.length):elemAt (Z2 l) j=.int .i64 (l[j]:Nat):=by rw[Z2,zq (fun r:Nat=>PV.int .i64 r) l j h]
theorem zj2 {l:List Nat} {j:Nat}(h:l.length≤j):elemAt (Z2 l) j=.int .i8 0:=by
 unfold elemAt
 rw[List.getD_eq_getElem?_getD,List.getElem?_eq_none (by rw[zdE];exact h)];rfl
theorem KN(a b:List Nat):Z2 (a++b)=Z2 a++Z2 b:=by simp[Z2]
def cnt(S:List Nat)(a:Int):Nat:=S.countP fun(s:Nat)=>decide ((s:Int)<a)
def zev(S:List Nat)(a:Int):Bool:=S.any fun(s:Nat)=>decide ((s:Int)=a)
theorem wz {S:List Nat} {a:Int} {k:Nat}(hk:k≤S.length)(h1:∀i (h:i<S.length),i<k→(S[i]:Int)<a)(h2:∀i (h:i<S.length),k≤i→a≤(S[i]:Int)):cnt S a=k:=by
 unfold cnt
 rw[←List.take_append_drop k S,List.countP_append]
 have e1:(S.take k).countP (fun(s:Nat)=>decide ((s:Int)<a))=(S.take k).length:=by
  rw[List.countP_eq_length]
  intro s hs
  obtain⟨i,hi,rfl⟩:=List.mem_iff_getElem.1 hs
  rw[List.length_take]at hi
  rw[List.getElem_take]
  exact decide_eq_true (h1 i (by omega) (by omega))
 have e2:(S.drop k).countP (fun(s:Nat)=>decide ((s:Int)<a))=0:=by
  rw[List.countP_eq_zero]
  intro s hs
  obtain⟨i,hi,rfl⟩:=List.mem_iff_getElem.1 hs
  rw[List.length_drop]at hi
  rw[List.getElem_drop]
  have:=h2 (k+i) (by omega) (by omega)
  simp only[decide_eq_true_eq];omega
 rw[e1,e2,List.length_take];omega
theorem zli [Gi](a b:Int):CR Tryz.prog 163 [] [.p (.int .i64 a),.p (.int .i64 b)] [] (is (.p (.bool (decide (a<b))))):=by
 refine walk Tryz.func163 5 [] [] [] ?_
 simp (maxSteps:=1000000) [go_sem,Tryz.f163]
 refine zn (zes a) ?_
 simp (maxSteps:=1000000) [go_sem]
 exact ret
theorem zkU [Gi](a:Int):CR Tryz.prog 164 [] [.p (.int .i64 a)] [] (is (.p (.bool false))):=by
 refine walk Tryz.func164 3 [] [] [] ?_
 simp (maxSteps:=1000000) [go_sem,Tryz.f164]
 exact ret
theorem JP [Gi](S:List Nat)(a:Int)(hS:S.Pairwise (· < ·))(hn:S.length<2^31):CR Tryz.prog 117 [] [.p (Q2 S),.p (.int .i64 a)] [] (is (.tup [.p (.int .i64 (cnt S a:Nat)),.p (.bool (zev S a))])):=by
 refine walk Tryz.func117 10 [] [] [] ?_
 have hinc:∀i j (hi:i<S.length) (hj:j<S.length),i<j→S[i]<S[j]:=fun i j hi hj h=>List.pairwise_iff_getElem.1 hS i j hi hj h
 simp (maxSteps:=1000000) [go_sem,Tryz.f117]
 refine loop (fun r:Nat×Nat=>r.1≤r.2∧r.2≤S.length∧(∀i (hi:i<S.length),i<r.1→(S[i]:Int)<a)∧∀i (hi:i<S.length),r.2≤i→a≤(S[i]:Int)) (fun r=>[(7,.p (.int .i64 (r.1:Nat))),(8,.p (.int .i64 (r.2:Nat)))]) (fun _=>[]) (fun r=>r.2-r.1) (0,S.length) ⟨by simp,by simp,by simp,fun i hi h=>absurd h (by simpa using hi)⟩ (fun r hr=>?_)
 obtain⟨i,j⟩:=r
 obtain⟨h1,h2,h3,h4⟩:=hr
 simp only at h1 h2 h3 h4
 by_cases h:i<j
 ·obtain⟨s,hs⟩:∃s,s=i+j:=⟨_,rfl⟩
  obtain⟨m,hm⟩:∃m,m=s/2:=⟨_,rfl⟩
  have g:(i:Int)<j:=by omega
  have w1:IntKind.i64.wrap ((i:Int)+j)=(s:Int):=yk (by omega) hs
  have w2:IntKind.u64.wrap (s:Int)=(s:Int):=KY (by omega)
  have w3:(s:Int).fdiv 2=(m:Int):=UD hm
  have w4:IntKind.i64.wrap (m:Int)=(m:Int):=Jq (by omega)
  have w5:IntKind.i64.wrap ((m:Int)+1)=((m+1:Nat):Int):=zT (by omega)
  have hml:m<S.length:=by omega
  have em:=Vo hml
  obtain⟨q,hq⟩:∃q,S[m]=q:=⟨_,rfl⟩
  rw[hq]at em
  simp (maxSteps:=1000000) [go_sem,g,w1,w2,w3,w4,em,hml]
  refine zn (zli q a) ?_
  by_cases hb:(q:Int)<a
  ·simp (maxSteps:=1000000) [go_sem,hb,w5]
   refine next (m+1,j) ⟨by show m+1≤j;omega,h2,fun k hk hkm=>?_,h4⟩ (by show j- (m+1)<j-i;omega)
   by_cases e:k=m
   ·subst e;rw[hq];exact hb
   ·have:=hinc k m hk hml (by simp at hkm;omega)
    omega
  ·simp (maxSteps:=1000000) [go_sem,hb]
   refine next (i,m) ⟨by show i≤m;omega,by show m≤S.length;omega,h3,fun k hk hkm=>?_⟩ (by show m-i<j-i;omega)
   by_cases e:k=m
   ·subst e;rw[hq];omega
   ·have:=hinc m k hml hk (by simp at hkm;omega)
    omega
 ·obtain rfl:i=j:=by omega
  have e:=wz h2 h3 h4
  rw[e]
  have g:¬(i:Int)<i:=by omega
  by_cases hil:i<S.length
  ·have em:=Vo hil
   have hc:=h4 i hil (Nat.le_refl _)
   have g2:(i:Int)<S.length:=by omega
   obtain⟨q,hq⟩:∃q,S[i]=q:=⟨_,rfl⟩
   rw[hq]at em hc
   by_cases hf:(q:Int)=a
   ·have hh:zev S a=true:=List.any_eq_true.2 ⟨q,by rw[←hq];exact List.getElem_mem _,decide_eq_true hf⟩
    rw[hh]
    simp (maxSteps:=1000000) [go_sem,g,g2,em,hf]
    exact ret
   ·have hh:zev S a=false:=by
     rw[zev,List.any_eq_false]
     intro s hs
     obtain⟨k,hk,rfl⟩:=List.mem_iff_getElem.1 hs
     simp only[decide_eq_true_eq]
     intro hk2
     by_cases c1:k<i
     ·have:=h3 k hk c1;omega
     ·by_cases c2:k=i
      ·subst c2;omega
      ·have:=hinc i k hil hk (by omega)
       omega
    rw[hh]
    simp (maxSteps:=1000000) [go_sem,g,g2,em,hf]
    refine zn (zkU q) ?_
    simp (maxSteps:=1000000) [go_sem]
    exact ret
  ·have hh:zev S a=false:=by
    rw[zev,List.any_eq_false]
    intro s hs
    obtain⟨k,hk,rfl⟩:=List.mem_iff_getElem.1 hs
    have:=h3 k hk (by omega)
    simp only[decide_eq_true_eq]
    omega
   have g2:¬(i:Int)<S.length:=by omega
   have em:=zj2 (l:=S) (j:=i) (by omega)
   rw[hh]
   simp (maxSteps:=1000000) [go_sem,g,g2,em]
   exact ret
end Go.Proofs.YthbmelihnabkaaaGreat
end
section
namespace Go.Proofs.YthbmelihnabkaaaGreat
open Go.AM
set_option maxHeartbeats 4000000
set_option maxRecDepth 10000
def plc(L:List (List Int))(k:Nat):Nat:=Zd (L.take k)
def pl(L:List (List Int)):List Nat:=(List.range L.length).map (plc L)
structure ClL(L:List (List Int)):Prop where
 full:zlx L
 sum:Zd L<2^31
theorem zjS {L:List (List Int)} {k:Nat}(h:k<L.length):plc L (k+1)=plc L k+L[k].length:=Uo h
theorem ClL.pos {L:List (List Int)}(h:ClL L) {k:Nat}(hk:k<L.length):0<L[k].length:=by
 obtain⟨x,c',e,_⟩:=h.full.r L[k] (List.getElem_mem hk)
 rw[e];simp
theorem xh {L:List (List Int)}(h:ClL L) {k:Nat}(hk:k<L.length):plc L k<plc L (k+1):=by
 have:=h.pos hk
 rw[zjS hk];omega
theorem ZG {L:List (List Int)}(h:ClL L):∀{i j:Nat},i<j→j≤L.length→plc L i<plc L j
 |i,0,h1,_=>by omega
 |i,j+1,h1,h2=>by
  have a:=xh h (k:=j) (by omega)
  by_cases e:i=j
  ·subst e;exact a
  ·have:=ZG h (i:=i) (j:=j) (by omega) (by omega)
   omega
theorem ju {L:List (List Int)}(h:ClL L) {i j:Nat}(h1:i≤j)(h2:j≤L.length):plc L i≤plc L j:=by
 by_cases e:i=j
 ·subst e;exact Nat.le_refl _
 ·exact Nat.le_of_lt (ZG h (by omega) h2)
theorem Zr(L:List (List Int)):plc L 0=0:=by simp[plc,Zd]
theorem qF(L:List (List Int)):plc L L.length=Zd L:=by simp[plc]
theorem zkq {L:List (List Int)}(h:ClL L) {i j:Nat}(h1:i≤L.length)(h2:j≤L.length)(e:plc L i=plc L j):i=j:=by
 by_cases c:i<j
 ·have:=ZG h c h2;omega
 ·by_cases c2:j<i
  ·have:=ZG h c2 h1;omega
  ·omega
theorem yY {L:List (List Int)}(h:ClL L) {k:Nat}(hk:k≤L.length):plc L k≤Zd L:=by
 rw[←qF];exact ju h hk (Nat.le_refl _)
theorem qq(L:List (List Int)):(pl L).length=L.length:=by simp[pl]
theorem ZM(L:List (List Int)) {k:Nat}(h:k< (pl L).length):(pl L)[k]=plc L k:=by simp[pl]
theorem zeH {L:List (List Int)}(h:ClL L):(pl L).Pairwise (· < ·):=by
 rw[List.pairwise_iff_getElem]
 intro i j hi hj hij
 rw[ZM,ZM]
 rw[qq]at hj
 exact ZG h hij (by omega)
theorem ClL.num {L:List (List Int)}(h:ClL L):∀{k:Nat},k≤L.length→k≤plc L k
 |0,_=>Nat.zero_le _
 |k+1,hk=>by
  have:=h.num (k:=k) (by omega)
  have:=xh h (k:=k) (by omega)
  omega
theorem ClL.len {L:List (List Int)}(h:ClL L):L.length≤Zd L:=by rw[←qF];exact h.num (Nat.le_refl _)
def kf:List (List Int)→Int→Nat
 | [],_=>0
 |c::L,a=>if a<c.length then 0 else kf L (a-c.length)+1
theorem kh(c:List Int)(L:List (List Int))(k:Nat):plc (c::L) (k+1)=c.length+plc L k:=by simp[plc,Zd]
theorem yp:∀(L:List (List Int)) (a:Int),kf L a≤L.length
 | [],_=>Nat.le_refl _
 |c::L,a=>by
  unfold kf
  split
  ·omega
  ·have:=yp L (a-c.length)
   simp only[List.length_cons];omega
theorem vK:∀(L:List (List Int)) (a:Int),0≤a→(plc L (kf L a):Int)≤a
 | [],a,h=>by simp[kf,plc,Zd,h]
 |c::L,a,h=>by
  unfold kf
  split
  ·rw[Zr];omega
  ·have:=vK L (a-c.length) (by omega)
   rw[kh];omega
theorem K0:∀(L:List (List Int)) (a:Int),kf L a<L.length→a< (plc L (kf L a+1):Int)
 | [],a,h=>by simp at h
 |c::L,a,h=>by
  unfold kf at h⊢
  split
  ·rename_i q
   rw[kh,Zr];omega
  ·rename_i q
   rw[if_neg q]at h
   have:=K0 L (a-c.length) (by simpa using h)
   rw[kh];omega
theorem zar(L:List (List Int)) {a:Int}(h:a<0):kf L a=0:=by
 cases L with
 |nil=>rfl
 |cons c L=>unfold kf;rw[if_pos (by omega)]
theorem Vd {L:List (List Int)}(h:ClL L) {a:Int} {k:Nat}(hk:k≤L.length)(h1:(plc L k:Int)≤a)(h2:k<L.length→a< (plc L (k+1):Int)):kf L a=k:=by
 have q1:=vK L a (by omega)
 have q2:=K0 L a
 have q3:=yp L a
 by_cases c:kf L a<k
 ·have a1:=q2 (by omega)
  have a2:=ju h (i:=kf L a+1) (j:=k) (by omega) hk
  omega
 ·by_cases c2:k<kf L a
  ·have a1:=h2 (by omega)
   have a2:=ju h (i:=k+1) (j:=kf L a) (by omega) q3
   omega
  ·omega
theorem VO {L:List (List Int)}(h:ClL L) {k:Nat}(hk:k≤L.length):kf L (plc L k)=k:=
 Vd h hk (Int.le_refl _) (fun c=>by have:=xh h c;omega)
theorem zbm {L:List (List Int)}(h:ClL L) {a:Int}(ha:(Zd L:Int)≤a):kf L a=L.length:=
 Vd h (Nat.le_refl _) (by rw[qF];exact ha) (fun c=>absurd c (Nat.lt_irrefl _))
theorem WA {L:List (List Int)}(_:ClL L) {a:Int}(ha:a< (Zd L:Int))(h0:0≤a):kf L a<L.length:=by
 have q1:=vK L a h0
 have q3:=yp L a
 refine Nat.lt_of_le_of_ne q3 (fun e=>?_)
 rw[e,qF]at q1;omega
theorem KC {L:List (List Int)}(h:ClL L) {k:Nat}(hk:k≤L.length):cnt (pl L) (plc L k)=k:=by
 refine wz (by rw[qq];exact hk) (fun i hi hik=>?_) (fun i hi hik=>?_)
 ·rw[ZM];have:=ZG h hik hk;omega
 ·rw[ZM];rw[qq]at hi;have:=ju h hik (by omega);omega
theorem Ur(S:List Nat)(a:Int):cnt S a≤S.length:=List.countP_le_length
def vH(t:zQ):yQ→Nat→List Int→List Nat
 |_,_,[]=>[]
 |s,i,r::l=>if(q9 t s r).2 then i::vH t (q9 t s r).1 (i+1) l else vH t (q9 t s r).1 (i+1) l
def zbz:Nat→List (List Int)→List Nat
 |_,[]=>[]
 |a,c::L=>a::zbz (a+c.length) L
theorem zge:∀(L:List (List Int)) (a:Nat),zbz a L=(pl L).map (a+·)
 | [],a=>rfl
 |c::L,a=>by
  have e:pl (c::L)=0::(pl L).map (c.length+·):=by
   unfold pl
   rw[List.length_cons,List.range_succ_eq_map,List.map_cons,List.map_map,List.map_map,Zr]
   exact congrArg _ (List.map_congr_left (fun k _=>kh c L k))
  rw[zbz,zge L,e,List.map_cons,List.map_map]
  simp[Function.comp_def,Nat.add_assoc]
theorem zaA:∀(n:Nat) (l:List Int) (s:yQ) (p:Int) (pre:List Int) (i:Nat),l.length≤n→VF s p pre→
  vH T0 s i l=zbz (i+QW za p pre l) (ZP za n ((l.take (QW za p pre l)).reverse++p::pre) (l.drop (QW za p pre l)))
 |n,[],s,p,pre,i,_,_=>by cases n<;>simp[vH,ZP,zbz]
 |0,x::l,_,_,_,_,h,_=>by simp at h
 |n+1,x::l,s,p,pre,i,h,hi=>by
  have hc:=hi.cut x
  have hn:=hi.next x
  have hl:l.length≤n:=by simpa using h
  rw[vH,yz]
  simp only
  rw[hi.so,hc]
  simp only[Bool.not_true,Bool.false_or]
  by_cases g:yA za p pre x=true
  ·have ih:=zaA n l _ _ _ (i+1) hl hn
   have hr:=KH za l (p::pre) x
   rw[if_pos g,QW,if_pos g,ih]
   simp only[List.take_zero,List.reverse_nil,List.nil_append,List.drop_zero,Nat.add_zero,ZP,zbz]
   congr 2
   rw[List.length_cons,List.length_take];omega
  ·have g':yA za p pre x=false:=by simpa using g
   have ih:=zaA (n+1) l _ _ _ (i+1) (by omega) hn
   rw[if_neg g,QW,if_neg g,ih]
   simp only[List.take_succ_cons,List.reverse_cons,List.append_assoc,List.singleton_append,List.drop_succ_cons]
   congr 1;omega
theorem zkm(l:List Int):vH T0 Qo 0 l=pl (z8 za l):=by
 have e0:∀L,zbz 0 L=pl L:=fun L=>by rw[zge];simp
 rw[←e0]
 cases l with
 |nil=>rfl
 |cons x l=>
  have hs:=VF.start (pre:=[]) (x:=x) (.inl rfl)
  have hr:=KH za l [] x
  rw[vH,yz]
  have e1:(!Qo.some || kM Qo (zE za x) (pcD x) (ZB za x))=true:=rfl
  simp only[e1,if_true,Nat.zero_add]
  rw[zaA l.length l _ _ _ 1 (Nat.le_refl _) hs]
  unfold z8
  simp only[List.length_cons,ZP,zbz]
  congr 2
  rw[List.length_take];omega
theorem zbI:∀(a:Nat) (x:Int) (pre xs:List Int) (_:a≤QW za x pre xs) (h:a< (x::xs).length),QW za x pre xs=a+QW za (x::xs)[a] (((x::xs).take a).reverse++pre) ((x::xs).drop (a+1))
 |0,x,pre,xs,_,_=>by simp
 |a+1,x,pre,[],h1,_=>by simp[QW]at h1
 |a+1,x,pre,y::ys,h1,h2=>by
  rw[QW]at h1⊢
  by_cases g:yA za x pre y=true
  ·rw[if_pos g]at h1;omega
  ·rw[if_neg g]at h1⊢
   rw[zbI a y (x::pre) ys (by omega) (by simpa using h2)]
   simp only[List.getElem_cons_succ,List.take_succ_cons,List.reverse_cons,List.append_assoc,List.singleton_append,List.drop_succ_cons]
   omega
theorem zfL:∀(n:Nat) (l pre:List Int) (a:Nat) (_:l.length≤n) (h:a<l.length),
  a+1+QW za l[a] ((l.take a).reverse++pre) (l.drop (a+1))=plc (ZP za n pre l) (kf (ZP za n pre l) a+1)
 |_,[],_,_,_,h=>by simp at h
 |0,x::l,_,_,h1,_=>by simp at h1
 |n+1,x::xs,pre,a,h1,h2=>by
  have hr:=KH za xs pre x
  obtain⟨r,hR⟩:∃r,r=QW za x pre xs:=⟨_,rfl⟩
  rw[←hR]at hr
  rw[ZP,←hR]
  have hc:(x::xs.take r).length=r+1:=by rw[List.length_cons,List.length_take];omega
  unfold kf
  rw[hc]
  by_cases c:a≤r
  ·rw[if_pos (by omega),kh,Zr,hc]
   have:=zbI a x pre xs (by omega) h2
   omega
  ·rw[if_neg (by omega),kh,hc]
   obtain⟨d,rfl⟩:∃d,a=d+(r+1):=⟨a- (r+1),by omega⟩
   simp only[List.length_cons]at h1 h2
   have ih:=zfL n (xs.drop r) ((xs.take r).reverse++x::pre) d (by rw[List.length_drop];omega) (by rw[List.length_drop];omega)
   have e1:((d+(r+1):Nat):Int)- ((r+1:Nat):Int)=(d:Int):=by omega
   rw[e1]
   have e2:(x::xs)[d+(r+1)]=(xs.drop r)[d]'(by rw[List.length_drop];omega):=by
    rw[List.getElem_drop]
    have:d+(r+1)=(r+d)+1:=by omega
    simp only[this,List.getElem_cons_succ]
   have e3:((x::xs).take (d+(r+1))).reverse++pre=((xs.drop r).take d).reverse++((xs.take r).reverse++x::pre):=by
    have:d+(r+1)=(r+d)+1:=by omega
    rw[this,List.take_succ_cons,List.take_add,List.reverse_cons,List.reverse_append]
    simp
   have e4:(x::xs).drop (d+(r+1)+1)=(xs.drop r).drop (d+1):=by
    rw[List.drop_drop]
    have:d+(r+1)+1=(r+(d+1))+1:=by omega
    rw[this,List.drop_succ_cons]
   rw[e2,e3,e4]
   omega
theorem JI(l:List Int)(a:Nat)(h:a<l.length):a+1+QW za l[a] (l.take a).reverse (l.drop (a+1))=plc (z8 za l) (kf (z8 za l) a+1):=by
 have:=zfL l.length l [] a (Nat.le_refl _) h
 rw[List.append_nil]at this
 exact this
def isB(L:List (List Int))(i:Int):Bool:=decide ((plc L (kf L i):Int)=i)
theorem Vh(l:List Int)(L:List (List Int))(hL:L=z8 za l)(h:ClL L)(i:Nat)(hi:i+1<l.length):yA za l[i] (l.take i).reverse l[i+1]=isB L ((i+1:Nat):Int):=by
 have hs:Zd L=l.length:=by rw[hL];exact kj.sum l
 have e:=JI l i (by omega)
 rw[←hL,List.drop_eq_getElem_cons hi,QW]at e
 have k1:=WA h (a:=(i:Int)) (by omega) (by omega)
 have q1:=vK L i (by omega)
 have q2:=K0 L i k1
 by_cases g:yA za l[i] (l.take i).reverse l[i+1]=true
 ·rw[if_pos g]at e
  rw[g]
  have:kf L ((i+1:Nat):Int)=kf L i+1:=Vd h (by omega) (by omega) (fun c=>by have:=xh h c;omega)
  unfold isB
  rw[this]
  exact(decide_eq_true (by omega)).symm
 ·rw[if_neg g]at e
  have g':yA za l[i] (l.take i).reverse l[i+1]=false:=by simpa using g
  rw[g']
  have:kf L ((i+1:Nat):Int)=kf L i:=Vd h (by omega) (by omega) (fun c=>by omega)
  unfold isB
  rw[this]
  exact(decide_eq_false (by omega)).symm
end Go.Proofs.YthbmelihnabkaaaGreat
end
section
namespace Go.Proofs.YthbmelihnabkaaaGreat
open Go.AM
set_option maxHeartbeats 4000000
set_option maxRecDepth 10000
def YQ(L:List (List Int)):PV:=.agg [Q2 (pl L),.int .i64 (Zd L:Nat)]
attribute [go_sem] YQ
attribute [local irreducible] za
attribute [go_sem] qq
theorem zfB {L:List (List Int)} {k:Nat}(h:k<L.length):elemAt (Z2 (pl L)) k=.int .i64 (plc L k:Nat):=by
 rw[Vo (by rw[qq];exact h),ZM]
theorem vT [Gi] {L:List (List Int)}(h:ClL L)(a:Int):CR Tryz.prog 124 [] [.p (YQ L),.p (.int .i64 a)] [] (is (.p (.int .i64 (cnt (pl L) a:Nat)))):=by
 refine walk Tryz.func124 8 [] [] [] ?_
 simp (maxSteps:=1000000) [go_sem,Tryz.f124]
 refine zn (JP (pl L) a (zeH h) (by have:=h.full.n;rw[qq];omega)) ?_
 simp (maxSteps:=1000000) [go_sem]
 exact ret
def stX(L:List (List Int))(k:Int):Nat:=if 0≤k∧k<L.length then plc L k.toNat else Zd L
theorem zdN {L:List (List Int)} {k:Nat}(h:k≤L.length):stX L k=plc L k:=by
 unfold stX
 by_cases c:k<L.length
 ·rw[if_pos (by omega),Int.toNat_natCast]
 ·have:k=L.length:=by omega
  rw[if_neg (by omega),this,qF]
theorem Xn [Gi](L:List (List Int))(k:Int):CR Tryz.prog 123 [] [.p (YQ L),.p (.int .i64 k)] [] (is (.p (.int .i64 (stX L k:Nat)))):=by
 refine walk Tryz.func123 5 [] [] [] ?_
 by_cases c1:k<0
 ·have e:stX L k=Zd L:=if_neg (by omega)
  rw[e]
  simp (maxSteps:=1000000) [go_sem,Tryz.f123,c1]
  exact ret
 ·by_cases c2:(L.length:Int)≤k
  ·have e:stX L k=Zd L:=if_neg (by omega)
   rw[e]
   simp (maxSteps:=1000000) [go_sem,Tryz.f123,c1,c2]
   exact ret
  ·obtain⟨n,rfl⟩:∃n:Nat,k=n:=⟨k.toNat,by omega⟩
   have hn:n<L.length:=by omega
   rw[zdN (by omega)]
   have em:=zfB hn
   simp (maxSteps:=1000000) [go_sem,Tryz.f123,c1,c2,em,hn]
   exact ret
theorem QV [Gi] {L:List (List Int)}(h:ClL L)(a:Int):CR Tryz.prog 61 [] [.p (YQ L),.p (.int .i64 a)] [] (is (.p (.int .i64 (plc L (kf L a):Nat)))):=by
 refine walk Tryz.func61 8 [20,27,30] [] [] ?_
 simp (maxSteps:=1000000) [go_sem,Tryz.f61]
 refine zn (JP (pl L) a (zeH h) (by have:=h.full.n;rw[qq];omega)) ?_
 have hcl:=Ur (pl L) a
 rw[qq]at hcl
 by_cases c1:(Zd L:Int)≤a
 ·have e:plc L (kf L a)=Zd L:=by rw[zbm h c1,qF]
  rw[e]
  simp (maxSteps:=1000000) [go_sem,c1]
  exact ret
 ·have hk:=yp L a
  cases hh:zev (pl L) a with
  |true=>
   obtain⟨s,hs,es⟩:=List.any_eq_true.1 hh
   obtain⟨k,hkl,rfl⟩:=List.mem_iff_getElem.1 hs
   rw[ZM]at es
   rw[qq]at hkl
   simp only[decide_eq_true_eq]at es
   have e:(plc L (kf L a):Int)=a:=by rw[←es,VO h (by omega)]
   simp (maxSteps:=1000000) [go_sem,c1,e]
   exact ret
  |false=>
   have hno:∀k,k<L.length→(plc L k:Int)≠a:=fun k hk e=>by
    have:=List.any_eq_false.1 hh (plc L k) (by rw[←ZM L (by rw[qq];exact hk)];exact List.getElem_mem _)
    exact this (decide_eq_true e)
   have hcnt:kf L a+1=cnt (pl L) a∨(a<0∧cnt (pl L) a=0):=by
    by_cases c3:a<0
    ·exact .inr ⟨c3,wz (Nat.zero_le _) (fun i _ hi=>absurd hi (by omega)) (fun i _ _=>by omega)⟩
    ·have q0:=WA h (a:=a) (by omega) (by omega)
     have q1:=vK L a (by omega)
     have q2:=K0 L a q0
     refine .inl (wz (by rw[qq];omega) (fun i hi hik=>?_) (fun i hi hik=>?_)).symm
     ·rw[ZM]
      have a1:=ju h (i:=i) (j:=kf L a) (by omega) (by omega)
      have a2:=hno _ q0
      omega
     ·rw[ZM]
      rw[qq]at hi
      have a1:=ju h (i:=kf L a+1) (j:=i) hik (by omega)
      omega
   rcases hcnt with e|⟨e1,e2⟩
   ·have c4:¬(cnt (pl L) a:Int)=0:=by omega
    have c4':¬cnt (pl L) a=0:=by omega
    have w1:IntKind.i64.wrap ((cnt (pl L) a:Int)-1)=(kf L a:Int):=zL (by have:=h.full.n;omega) e.symm
    have hkl:kf L a<L.length:=by omega
    have em:=zfB hkl
    simp (maxSteps:=1000000) [go_sem,c1,c4',w1,em,hkl]
    exact ret
   ·rw[zar L e1,Zr]
    simp (maxSteps:=1000000) [go_sem,c1,e2]
    exact ret
def goK(L:List (List Int))(a n:Int):Nat:=(max (min ((kf L a:Int)+n) L.length) 0).toNat
theorem zi3(L:List (List Int))(a n:Int):goK L a n≤L.length:=by unfold goK;omega
theorem zl2 [Gi] {L:List (List Int)}(h:ClL L)(a n:Int):CR Tryz.prog 70 [] [.p (YQ L),.p (.int .i64 a),.p (.int .i64 n)] [] (is (.p (.int .i64 (plc L (goK L a n):Nat)))):=by
 refine walk Tryz.func70 8 [] [1] [] ?_
 have hk:=yp L a
 have hn:=h.full.n
 have hst:=Xn L (goK L a n)
 have hgo:=zi3 L a n
 rw[zdN hgo]at hst
 have hah:=vT h (plc L (kf L a):Nat)
 rw[KC h hk]at hah
 have w1:IntKind.i64.wrap (-(kf L a:Int))= -(kf L a:Int):=wrap64 (by omega) (by omega)
 have w2:IntKind.i64.wrap ((L.length:Int)-kf L a)=(L.length:Int)-kf L a:=wrap64 (by omega) (by omega)
 have w3:IntKind.i64.wrap ((kf L a:Int)+min (max n (-(kf L a:Int))) ((L.length:Int)-kf L a))=(goK L a n:Int):=by
  rw[wrap64 (by omega) (by omega)];unfold goK;omega
 simp (maxSteps:=1000000) [go_sem,Tryz.f70]
 refine Qx (.p (.int .i64 (plc L (kf L a):Nat))) rfl rfl (fun _=>Qy 61 (QV h a) rfl ⟨rfl,by simp[Tryz.f61]⟩ ⟨by simp[go_sem],by simp[go_sem]⟩) ?_
 simp (maxSteps:=1000000) [go_sem]
 refine Qx (.p (.int .i64 (kf L a:Nat))) rfl rfl (fun _=>Qy 124 hah rfl ⟨rfl,by simp[Tryz.f124]⟩ ⟨by simp[go_sem],by simp[go_sem]⟩) ?_
 simp (maxSteps:=1000000) [go_sem,w1,w2,w3]
 refine zn hst ?_
 simp (maxSteps:=1000000) [go_sem]
 exact ret
theorem JM [Gi] {e:PV}(hT:Zl e)(s:yQ)(r:Int)(hr:zD r):CR Tryz.prog 162 [] [.p (jB s),.p e,.p (.int .i32 r)] [] (is (.tup [.p (jB (q9 T0 s r).1),.p (.bool (q9 T0 s r).2)])):=by
 obtain⟨c,b,j,f,p,h,rfl⟩:=hT
 exact Kw h Z7 _ _ _ _ s r hr
theorem zgl [Gi] {e:PV}(hT:Zl e)(l:List Int)(hn:l.length<2^31)(hr:∀x∈l,zD x):CR Tryz.prog 116 [] [.p e,.p (zh l)] [] (is (.p (Q2 (pl (z8 za l))))):=by
 rw[←zkm l]
 refine walk Tryz.func116 11 [11,12,13] [] [] ?_
 simp (maxSteps:=1000000) [go_sem,Tryz.f116]
 refine loop (fun r:Nat×yQ×List Nat=>r.1≤l.length∧r.2.2.length≤r.1∧vH T0 Qo 0 l=r.2.2++vH T0 r.2.1 r.1 (l.drop r.1)) (fun r=>[(6,.os [6] 1 (Z2 r.2.2)),(13,.p (.int .i64 (r.1:Nat))),(7,.zX),(8,.zX),(9,.zX),(10,.zX)]) (fun r=>[([5],zhY r.2.1)]) (fun r=>l.length-r.1) (0,Qo,[]) ⟨by simp,by simp,by simp⟩ (fun r hr2=>?_) (by simp[go_sem,LeS,leV,leR,leA,leL,zhY,Qo,Z2])
 obtain⟨i,s,o⟩:=r
 obtain⟨h1,h0,h2⟩:=hr2
 simp only at h1 h0 h2
 by_cases hil:i<l.length
 ·obtain⟨y,hy⟩:∃y,l[i]=y:=⟨_,rfl⟩
  have hyr:zD y:=hr y (by rw[←hy];exact List.getElem_mem _)
  have em:elemAt (zx l) i=.int .i32 y:=by rw[Qn hil,hy]
  have g:(i:Int)<l.length:=by omega
  have w:IntKind.i64.wrap ((i:Int)+1)=((i+1:Nat):Int):=zT (by omega)
  rw[List.drop_eq_getElem_cons hil,hy,vH]at h2
  simp (maxSteps:=1000000) [go_sem,g,em,zhY]
  refine zn (JM hT s y hyr) ?_ (ha':=by simp[go_sem,jB])
  generalize q9 T0 s y=q at h2
  obtain⟨s',ct⟩:=q
  cases ct with
  |true=>
   simp (maxSteps:=1000000) [go_sem,jB,w]
   exact⟨by omega,next (i+1,s',o++[i]) ⟨by show i+1≤l.length;omega,by simp;omega,by simpa using h2⟩ (by show l.length- (i+1)<l.length-i;omega) (by simp[go_sem,LeS,leV,leR,leA,leL,Z2])⟩
  |false=>
   simp (maxSteps:=1000000) [go_sem,jB,w]
   exact next (i+1,s',o) ⟨by show i+1≤l.length;omega,by show o.length≤i+1;omega,by simpa using h2⟩ (by show l.length- (i+1)<l.length-i;omega) (by simp[go_sem,LeS,leV,leR,leA,leL])
 ·have g:¬(i:Int)<l.length:=by omega
  rw[List.drop_eq_nil_of_le (by omega),vH,List.append_nil]at h2
  rw[h2]
  simp (maxSteps:=1000000) [go_sem,g]
  exact ret
theorem zea [Gi] {e:PV}(hT:Zl e)(l:List Int)(hn:l.length<2^31)(hr:∀x∈l,zD x):CR Tryz.prog 60 [] [.p e,.p (zh l)] [] (is (.p (YQ (z8 za l)))):=by
 refine walk Tryz.func60 5 [] [] [] ?_
 have hs:Zd (z8 za l)=l.length:=kj.sum l
 simp (maxSteps:=1000000) [go_sem,Tryz.f60]
 refine zn (zgl hT l hn hr) ?_
 simp (maxSteps:=1000000) [go_sem,←hs]
 exact ret
end Go.Proofs.YthbmelihnabkaaaGreat
end
