/- A part of the proof of this seat's statements, by an abstract machine: what each operation does to values, and what the law's functions compute. Conditions: as each law says. -/
import Derived.Test.YthbmelihnabkaaaGreatW37
import Derived.Test.YthbmelihnabkaaaGreatW17
import Derived.Test.YthbmelihnabkaaaGreatW38
import Derived.Test.YthbmelihnabkaaaGreatW18
import Derived.Test.YthbmelihnabkaaaGreatW40
section
namespace Go.Proofs.YthbmelihnabkaaaGreat
open Go.AM
set_option maxHeartbeats 4000000
set_option maxRecDepth 10000
attribute [go_sem] zh zbQ zoQ zC ze4
@[go_sem] theorem znV : (Value.slice none 0 0).oneCell' = true := rfl
@[go_sem] theorem znW : (Value.pointer none).oneCell' = true := rfl
theorem call [Gi] {A:Prop} {S:St} {f:FuncId} {args:List Operand} {dst:Option Nat} {K:St→Prop}(m:List (Tok×Tok)) {pin:List Tok} {as1:List AV} {rs:List (Tok×List AV)} {R:AV→List (Tok×List AV)→Prop}(hC:CR Tryz.prog f pin as1 rs R)
  (hk:∀x rs',R x rs'→K ((vZ S (dst.getD S.n) m pin rs').qJ dst (x.ren fun u=>some (yq (dst.getD S.n) m u))))
  (hb:A:=by exact⟨rfl,by decide+kernel⟩)
  (hm:okM (dst.getD S.n) m=true∧S.pin.all (jv (dst.getD S.n) m pin)=true∧dOK S dst:=by simp[go_sem,zE])
  (ha:(Z9 S m args).1:=by simp[go_sem]) (ha':(Z9 S m args).2=as1:=by simp[go_sem]) (hr:Qf S m m=rs:=by simp[go_sem]):
  A∧JP Tryz.prog S f args dst K:=
 ⟨hb,zc m hC hm ⟨ha,ha'⟩ hr hk⟩
theorem zk [Gi] {A:Prop} {S:St} {f:FuncId} {args:List Operand} {dst:Option Nat} {K:St→Prop} {as1:List AV} {v:AV}(hC:CR Tryz.prog f [] as1 [] (is v))
  (hk:K ((vZ S (dst.getD S.n) [] [] []).qJ dst (v.ren fun u=>some (yq (dst.getD S.n) [] u))))
  (hb:A:=by exact⟨rfl,by decide+kernel⟩)
  (hm:okM (dst.getD S.n) []=true∧S.pin.all (jv (dst.getD S.n) [] [])=true∧dOK S dst:=by simp[go_sem,zE])
  (ha:(Z9 S [] args).1:=by simp[go_sem]) (ha':(Z9 S [] args).2=as1:=by simp[go_sem]):
  A∧JP Tryz.prog S f args dst K:=
 ⟨hb,zc [] hC hm ⟨ha,ha'⟩ (by simp[go_sem]) (fun x rs' h=>by obtain⟨rfl,rfl⟩:=h;exact hk)⟩
theorem ret [Gi] {ts:List (Nat×Option TypeId)} {S:St} {x:AV}(hp:S.pin=[]:=by rfl)
  (hx:(zd Tryz.prog S ts).1∧leT ((zd Tryz.prog S ts).2.upd (AM.fil (fun _=>false) ftt)) x:=by simp[go_sem,zd,leA,leT,leP]):WG Tryz.prog [] ts (is x) S:=zg x hp hx ⟨rfl,rfl⟩
def keeps(R:List (Tok×List AV))(v:PV):AV→List (Tok×List AV)→Prop:=fun x rs=>rs=R∧x=.p v
def idm(l:List Tok):List (Tok×Tok):=l.map fun t=>(t,t)
attribute [go_sem] idm St.ofR
def zft(pin:List Tok)(R:List (Tok×List AV))(v:PV):AV→List (Tok×List AV)→Prop:=fun x rs=>x=.p v∧Qf (St.ofR rs) (idm pin) (idm pin)=R
theorem CR.keeps [Gi] {f:FuncId} {pin:List Tok} {args:List AV} {rs R:List (Tok×List AV)} {v:PV}(h:CR Tryz.prog f pin args rs (zft pin R v))(hok:(okM 1000000 (idm pin)&&pin.all fun t=>inM (idm pin) t==some t)=true):CR Tryz.prog f pin args rs (keeps R v):=by
 simp only[Bool.and_eq_true]at hok
 refine CR.ren h 1000000 ?_
 rintro x rs' ⟨rfl,h2⟩
 exact⟨idm pin,hok.1,hok.2,h2,rfl⟩
theorem Xm [Gi] {ts:List (Nat×Option TypeId)} {S:St} {pin:List Tok} {R:List (Tok×List AV)} {v:PV}(hp:S.pin=pin∧pin.all (fun t=>pin.contains t)=true:=by simp)
  (hx:(zd Tryz.prog S ts).1∧leT ((zd Tryz.prog S ts).2.upd (AM.fil (fun t=>pin.contains t) ftt)) (.p v):=by simp[go_sem,zd,leA,leT,leP])
  (hr:Qf (St.ofR (Ko pin (S.fil (fun t=>pin.contains t) ftt).rs)) (idm pin) (idm pin)=R:=by simp[go_sem]):WG Tryz.prog pin ts (zft pin R v) S:=zi pin (.p v) hp hx ⟨rfl,hr⟩
def Uo(R:List (Tok×List AV))(v:AV):AV→List (Tok×List AV)→Prop:=fun x rs=>rs=R∧x=v
def zkX(pin:List Tok)(R:List (Tok×List AV))(v:AV):AV→List (Tok×List AV)→Prop:=fun x rs=>x=v∧Qf (St.ofR rs) (idm pin) (idm pin)=R
theorem CR.Uo [Gi] {f:FuncId} {pin:List Tok} {args:List AV} {rs R:List (Tok×List AV)} {v:AV}(h:CR Tryz.prog f pin args rs (zkX pin R v))(hok:(okM 1000000 (idm pin)&&pin.all fun t=>inM (idm pin) t==some t)=true)(hv:v.ren (inM (idm pin))=v):CR Tryz.prog f pin args rs (Uo R v):=by
 simp only[Bool.and_eq_true]at hok
 refine CR.ren h 1000000 ?_
 rintro x rs' ⟨rfl,h2⟩
 exact⟨idm pin,hok.1,hok.2,h2,hv⟩
theorem next {ι:Type} {inv:ι→Prop} {st:ι→St} {m:ι→Nat} {i:ι} {Q:Exit→St→Prop} {S:St}(j:ι)(h1:inv j)(h3:m j<m i:=by simp;omega)(h2:LeS S (st j):=by simp[go_sem,LeS,leV,leR,leA,leL,zj,leT,leP]):Kw inv st m i Q .normal S:=zf j h1 h2 h3
theorem loop [Gi] {D:List Nat} {c:Code} {Q:Exit→St→Prop} {S:St} {ι:Type}(inv:ι→Prop)(V:ι→List (Nat×AV))(R:ι→List (Tok×List AV))(m:ι→Nat)(i:ι)(hi:inv i)
  (h:∀i,inv i→wpA Tryz.prog D c (Kw inv (fun i=>S.Y9 (V i) (R i)) m i Q) (S.Y9 (V i) (R i))) (h0:LeS S (S.Y9 (V i) (R i)):=by simp[go_sem,LeS,leV,leR,leA,leL,zj,leT,leP]):wpA Tryz.prog D (.loop c) Q S:=
 zm inv V R m i hi h0 h
theorem walk [Gi] {f:FuncId} {fn:Func} {c:Code} {ts:List (Nat×Option TypeId)}(hf:Tryz.prog.funcs[f]?=some fn)(nv:Nat) {pin:List Tok} {args:List AV} {rs:List (Tok×List AV)} {R:AV→List (Tok×List AV)→Prop}(ex:List Nat)(D:List Nat)(rm:List Nat)
  (h:wpA Tryz.prog D c (vw Tryz.prog pin ts R) {n:=fn.ntmps,nv:=nv,vs:=wE 0 args,ts:=[],rs:=rs,pin:=pin,ex:=ex,rm:=rm}) (hb:fn.body=some c:=by exact rfl) (hok:Zp D c=true:=by kernel_rfl)
  (hres:uf fn.results.toList=some ts:=by exact rfl) (hnv:args.length≤nv:=by simp) (hn:args.length≤fn.ntmps:=by simp):CR Tryz.prog f pin args rs R:=
 qQ D mixed nv ex hf hb hok rm hres hnv hn h
theorem zcG [Gi] {f:FuncId} {fn:Func} {c:Code} {ts:List (Nat×Option TypeId)}(hf:Tryz.prog.funcs[f]?=some fn)(nv:Nat) {pin:List Tok} {args:List AV} {rs R:List (Tok×List AV)} {v:PV}(ex:List Nat)(D:List Nat)(rm:List Nat)
  (h:wpA Tryz.prog D c (vw Tryz.prog pin ts (zft pin R v)) {n:=fn.ntmps,nv:=nv,vs:=wE 0 args,ts:=[],rs:=rs,pin:=pin,ex:=ex,rm:=rm}) (hok1:(okM 1000000 (idm pin)&&pin.all fun t=>inM (idm pin) t==some t)=true:=by decide) (hb:fn.body=some c:=by exact rfl) (hok:Zp D c=true:=by kernel_rfl)
  (hres:uf fn.results.toList=some ts:=by exact rfl) (hnv:args.length≤nv:=by simp) (hn:args.length≤fn.ntmps:=by simp):CR Tryz.prog f pin args rs (keeps R v):=
 CR.keeps (qQ D mixed nv ex hf hb hok rm hres hnv hn h) hok1
end Go.Proofs.YthbmelihnabkaaaGreat
end
section
namespace Go.Proofs.YthbmelihnabkaaaGreat
open Go.AM
set_option maxHeartbeats 4000000
set_option maxRecDepth 10000
def rcs(l:List Int):List AV:=l.map fun i=>.p (.int .i32 i)
@[go_sem] theorem zmM (l : List Int) : (rcs l).length = l.length := by simp [rcs]
@[go_sem] theorem zoY (rt tt : Tok → Bool) (l : List Int) : (rcs l).map (AV.upd (fil rt tt)) = rcs l := by
 simp[rcs,AV.upd,fil,QK,Function.comp_def]
@[go_sem] theorem zoX (f : Tok → Option Tok) (l : List Int) : (rcs l).map (AV.ren f) = rcs l := by
 simp[rcs,AV.ren,AV.upd,Yg,xc,Function.comp_def]
@[go_sem] theorem zoU (l : List Int) (n : Nat) : (rcs l).take n = rcs (l.take n) := by simp [rcs]
@[go_sem] theorem zoN (l : List Int) (n : Nat) : (rcs l).drop n = rcs (l.drop n) := by simp [rcs]
@[go_sem] theorem zoZ (l l' : List Int) : rcs l ++ rcs l' = rcs (l ++ l') := by simp [rcs]
@[go_sem] theorem zot (l : List Int) : Vf (rcs l) = some (zr l) := by
 unfold rcs zr
 induction l with
 |nil=>rfl
 |cons x l ih=>simp[Vf,ih]
attribute [go_sem] zC zhX VR
@[go_sem] theorem zoT (l : List Int) : (zr l).map AV.p = rcs l := by simp [rcs, zr]
@[go_sem] theorem znH (l : List Int) (n : Nat) : (zr l).take n = zr (l.take n) := by simp [zr]
@[go_sem] theorem znG (l l' : List Int) : zr l ++ zr l' = zr (l ++ l') := by simp [zr]
@[go_sem] theorem zoC (l : List Int) : (zr l).all PV.one = true := by simp [zr, PV.one]
@[go_sem] theorem zoj : zr [] = [] := rfl
@[go_sem] theorem zoI (l : List Int) (a b : Int) : cut (zr l) a b = zr (cut l a b) := by simp [cut, zr]
@[go_sem] theorem znN (n : Nat) : List.replicate n (AV.p (PV.int .i32 0)) = rcs (List.replicate n 0) := by simp [rcs]
def ZN(l:List Int)(f t:Nat):List (Tok×List AV):=[([0],[.la [0,0] 1 0 l.length,.p (.int .i64 (f:Int)),.p (.int .i64 (t:Int))]),([0,0],rcs l)]
def Zq:List Tok:=[[0],[0,0]]
theorem yK [Gi](l:List Int)(f t:Nat)(h1:f≤t)(h2:t≤l.length)(h3:(l.length:Int)≤140737488355328):CR Tryz.prog 63 Zq [.lp [0] 0] (ZN l f t) fun x rs=>rs=ZN l f t∧x=.p (.int .i64 (l.length- (t-f))):=by
 refine zn mixed 3 [] Tryz.func63 rfl (by kernel_rfl) rfl (by simp) (by simp) ?_
 simp (maxSteps:=1000000) [go_sem,Tryz.f63,ZN,Zq]
 refine zi Zq (.p (.int .i64 (l.length- (t-f)))) (by simp[Zq]) (by simp (maxSteps:=1000000) (disch:=omega) [go_sem,zd,leA,wrap64]) ?_
 simp (maxSteps:=1000000) [go_sem,Zq]
def held(l:List Int)(f t:Nat):List Int:=l.take f++l.drop t
def zo4(l:List Int):AV→List (Tok×List AV)→Prop:=fun x rs=>∃l':List Int,rs=ZN l' l.length (l.length+8)∧l'.length=l.length+8∧x=.lp [0] 0∧held l' l.length (l.length+8)=l
def zo3(l:List Int):AV→List (Tok×List AV)→Prop:=fun x rs=>x=.lp [9] 0∧rs=[([7],rcs (l++List.replicate 8 0)),([9],[.la [7] 1 0 (l.length+8),.p (.int .i64 (l.length:Int)),.p (.int .i64 ((l.length+8:Nat):Int))])]
theorem zhG [Gi](l:List Int)(h:(l.length:Int)≤4398046511104):CR Tryz.prog 59 [] [.p (zh l)] [] (zo4 l):=by
 refine CR.ren (R:=zo3 l) ?_ 100 ?_
 ·refine zn mixed 4 [] Tryz.func59 rfl (by kernel_rfl) rfl (by simp) (by simp) ?_
  obtain⟨N,hN⟩:∃N:Nat,N=l.length+8:=⟨_,rfl⟩
  have e1:((l.length:Int)+8)=N:=by omega
  simp (maxSteps:=1000000) (disch:=omega) [go_sem,Tryz.f59,zh,wrap64,e1]
  refine⟨by omega,by omega,?_⟩
  refine zi [[7],[9]] (.lp [9] 0) (by simp) (by simp (maxSteps:=1000000) [go_sem,zd,leA]) ⟨rfl,?_⟩
  have e2:N-l.length=8:=by omega
  simp (maxSteps:=1000000) [go_sem,e2,←hN]
 ·rintro x rs ⟨rfl,rfl⟩
  exact⟨[([0],[9]),([0,0],[7])],by simp (maxSteps:=1000000) [go_sem],by simp,l++List.replicate 8 0,by simp (maxSteps:=1000000) [go_sem,ZN],by simp,by simp (maxSteps:=1000000) [go_sem],by simp[held]⟩
def sliced(l:List Int)(a b:Int):List Int:=(l.take b.toNat).drop a.toNat
theorem xw(l:List Int)(f t:Nat)(h1:f≤t)(h2:t≤l.length):(held l f t).length=l.length- (t-f):=by
 simp[held];omega
theorem zfj(H:List Int)(a b:Int)(h:min b H.length≤max a 0):sliced H a b=[]:=by
 unfold sliced
 apply List.drop_eq_nil_of_le
 simp
 omega
theorem zgZ(H:List Int)(a b:Int)(A B:Nat)(hA:(A:Int)=max a 0)(hB:(B:Int)=min b H.length):sliced H a b=(H.take B).drop A:=by
 unfold sliced
 have e1:a.toNat=A:=by omega
 rw[e1]
 congr 1
 by_cases h:b≤H.length
 ·have e2:b.toNat=B:=by omega
  rw[e2]
 ·rw[List.take_of_length_le (by omega),List.take_of_length_le (by omega)]
def zpb(l:List Int)(f t:Nat)(a b:Int):AV→List (Tok×List AV)→Prop:=fun x rs=>rs=ZN l f t∧x=.os [6] 1 (zr (sliced (held l f t) a b))
def fin(l:List Int)(f t:Nat)(a b:Int):AV→List (Tok×List AV)→Prop:=fun x rs=>rs=ZN l f t∧x=.p (zh (sliced (held l f t) a b))
theorem zaH [Gi](l:List Int)(f t:Nat)(a b:Int)(h1:f≤t)(h2:t≤l.length)(h3:(l.length:Int)≤4398046511104):
  CR Tryz.prog 82 Zq [.lp [0] 0,.p (.int .i64 a),.p (.int .i64 b)] (ZN l f t) (zpb l f t a b):=by
 refine zn mixed 9 [] Tryz.func82 rfl (by kernel_rfl) rfl (by simp) (by simp) ?_
 simp (maxSteps:=1000000) (disch:=omega) [go_sem,Tryz.f82,ZN,Zq]
 refine⟨⟨rfl,by simp[Tryz.f63]⟩,?_⟩
 refine zc [([0],[0]),([0,0],[0,0])] (yK l f t h1 h2 (by omega)) (by simp (maxSteps:=1000000) [go_sem,Zq]) ⟨by simp (maxSteps:=1000000) [go_sem],by simp (maxSteps:=1000000) [go_sem]⟩ (by simp (maxSteps:=1000000) [go_sem,ZN]) ?_
 rintro x rs ⟨rfl,rfl⟩
 obtain⟨A,hA⟩:∃A:Nat,(A:Int)=max a 0:=⟨(max a 0).toNat,by omega⟩
 obtain⟨M,hM⟩:∃M:Int,M=min b (l.length- (t-f)):=⟨_,rfl⟩
 simp (maxSteps:=1000000) (disch:=omega) [go_sem,ZN,Zq,←hA,←hM]
 have hl:=xw l f t h1 h2
 refine zw (fun h=>?_) (fun h=>?_)
 ·simp (maxSteps:=1000000) (disch:=omega) [go_sem]
  refine zi Zq (.os [6] 1 (zr [])) (by simp[Zq]) (by simp (maxSteps:=1000000) [go_sem,zd,leA]) ⟨by simp (maxSteps:=1000000) [go_sem,Zq,ZN],?_⟩
  rw[zfj _ _ _ (by rw[hl];omega)]
 ·obtain⟨B,rfl⟩:=Int.eq_ofNat_of_zero_le (show 0≤M by omega)
  have hs:=zgZ (held l f t) a b A B hA (by rw[hl];omega)
  simp (maxSteps:=1000000) (disch:=omega) [go_sem]
  refine zw (fun h'=>?_) (fun h'=>?_)
  ·obtain⟨C,hC⟩:∃C:Nat,(C:Int)=min (B:Int) (f:Int):=⟨min B f,by omega⟩
   simp (maxSteps:=1000000) (disch:=omega) [go_sem,←hC]
   refine⟨by omega,by omega,?_⟩
   refine zw (fun h2=>?_) (fun h2=>?_)
   ·have e1:max (A:Int) (f:Int)+((t:Int)-f)=t:=by omega
    obtain⟨D,hD⟩:∃D:Nat,(D:Int)=(B:Int)+((t:Int)-f):=⟨B+t-f,by omega⟩
    simp (maxSteps:=1000000) (disch:=omega) [go_sem,wrap64,e1,←hD]
    refine⟨by omega,by omega,?_⟩
    refine zi Zq (.os [6] 1 (zr ((l.drop A).take (C-A)++(l.drop t).take (D-t)))) (by simp[Zq]) (by simp (maxSteps:=1000000) [go_sem,zd,leA]) ⟨by simp (maxSteps:=1000000) [go_sem,Zq,ZN],?_⟩
    rw[hs]
    congr 2
    unfold held
    (apply List.ext_getElem?;intro j;simp only[List.getElem?_append,List.getElem?_take,List.getElem?_drop,List.length_take,List.length_drop];(repeat' split);all_goals first|rfl|omega|(congr 1;omega)|(symm;apply List.getElem?_eq_none;omega)|(apply List.getElem?_eq_none;omega))
   ·simp (maxSteps:=1000000) (disch:=omega) [go_sem]
    have hCB:C=B:=by omega
    refine zi Zq (.os [6] 1 (zr ((l.drop A).take (C-A)))) (by simp[Zq]) (by simp (maxSteps:=1000000) [go_sem,zd,leA]) ⟨by simp (maxSteps:=1000000) [go_sem,Zq,ZN],?_⟩
    rw[hs]
    congr 2
    unfold held
    (apply List.ext_getElem?;intro j;simp only[List.getElem?_append,List.getElem?_take,List.getElem?_drop,List.length_take];(repeat' split);all_goals first|rfl|omega|(congr 1;omega)|(symm;apply List.getElem?_eq_none;omega)|(apply List.getElem?_eq_none;omega))
  ·simp (maxSteps:=1000000) (disch:=omega) [go_sem]
   refine zw (fun h4=>?_) (fun h4=>?_)
   ·have e1:max (A:Int) (f:Int)+((t:Int)-f)=(A+t-f:Nat):=by omega
    obtain⟨D,hD⟩:∃D:Nat,(D:Int)=(B:Int)+((t:Int)-f):=⟨B+t-f,by omega⟩
    simp (maxSteps:=1000000) (disch:=omega) [go_sem,wrap64,e1,←hD]
    refine⟨by omega,by omega,?_⟩
    refine zi Zq (.os [6] 1 (zr ((l.drop (A+t-f)).take (D- (A+t-f))))) (by simp[Zq]) (by simp (maxSteps:=1000000) [go_sem,zd,leA]) ⟨by simp (maxSteps:=1000000) [go_sem,Zq,ZN],?_⟩
    rw[hs]
    congr 2
    unfold held
    (apply List.ext_getElem?;intro j;simp only[List.getElem?_append,List.getElem?_take,List.getElem?_drop,List.length_take];(repeat' split);all_goals first|rfl|omega|(congr 1;omega)|(symm;apply List.getElem?_eq_none;omega)|(apply List.getElem?_eq_none;omega))
   ·omega
theorem Kl [Gi](l:List Int)(f t:Nat)(a b:Int)(h1:f≤t)(h2:t≤l.length)(h3:(l.length:Int)≤4398046511104):
  CR Tryz.prog 82 Zq [.lp [0] 0,.p (.int .i64 a),.p (.int .i64 b)] (ZN l f t) (fin l f t a b):=by
 refine CR.ren (zaH l f t a b h1 h2 h3) 100 ?_
 rintro x rs ⟨rfl,rfl⟩
 exact⟨[([0],[0]),([0,0],[0,0])],by simp[go_sem],by simp[go_sem,Zq],by simp[go_sem,ZN],by simp[go_sem]⟩
def zo5(l:List Int)(f t:Nat):AV→List (Tok×List AV)→Prop:=fun x rs=>rs=ZN l f t∧x=.p (zh (held l f t))
theorem uy [Gi](l:List Int)(f t:Nat)(h1:f≤t)(h2:t≤l.length)(h3:(l.length:Int)≤4398046511104):CR Tryz.prog 62 Zq [.lp [0] 0] (ZN l f t) (zo5 l f t):=by
 refine zn mixed 3 [] Tryz.func62 rfl (by kernel_rfl) rfl (by simp) (by simp) ?_
 simp (maxSteps:=1000000) (disch:=omega) [go_sem,Tryz.f62,ZN,Zq]
 refine⟨⟨rfl,by simp[Tryz.f63]⟩,?_⟩
 refine zc [([0],[0]),([0,0],[0,0])] (yK l f t h1 h2 (by omega)) (by simp (maxSteps:=1000000) [go_sem,Zq]) ⟨by simp (maxSteps:=1000000) [go_sem],by simp (maxSteps:=1000000) [go_sem]⟩ (by simp (maxSteps:=1000000) [go_sem,ZN]) ?_
 rintro x rs ⟨rfl,rfl⟩
 have hl:=xw l f t h1 h2
 simp (maxSteps:=1000000) (disch:=omega) [go_sem,ZN,Zq]
 refine⟨⟨rfl,by simp[Tryz.f82]⟩,?_⟩
 refine zc [([0],[0]),([0,0],[0,0])] (Kl l f t 0 (l.length- (t-f)) h1 h2 h3) (by simp (maxSteps:=1000000) [go_sem,Zq]) ⟨by simp (maxSteps:=1000000) [go_sem],by simp (maxSteps:=1000000) [go_sem]⟩ (by simp (maxSteps:=1000000) [go_sem,ZN]) ?_
 rintro x rs ⟨rfl,rfl⟩
 simp (maxSteps:=1000000) (disch:=omega) [go_sem,ZN,Zq,zh]
 refine zi Zq (.p (zh (sliced (held l f t) 0 (l.length- (t-f))))) (by simp[Zq]) (by simp (maxSteps:=1000000) [go_sem,zd,leA,zh]) ⟨by simp (maxSteps:=1000000) [go_sem,Zq,ZN],?_⟩
 have e:sliced (held l f t) 0 ((l.length:Int)- (t-f))=held l f t:=by
  unfold sliced
  have:((l.length:Int)- (t-f)).toNat=(held l f t).length:=by omega
  rw[this];simp
 rw[e]
end Go.Proofs.YthbmelihnabkaaaGreat
end
section
namespace Go.Proofs.YthbmelihnabkaaaGreat
open Go.AM
set_option maxHeartbeats 4000000
set_option maxRecDepth 10000
def jS(l:List Nat):List PV:=l.map fun n=>.int .i64 (n:Nat)
def zaz(l:List Nat):PV:=.sl 1 (jS l)
attribute [go_sem] zaz
@[go_sem] theorem zeb (l : List Nat) : (jS l).length = l.length := by simp [jS]
theorem K1 {l:List Nat} {j:Nat}(h:j<l.length):elemAt (jS l) j=.int .i64 (l[j]:Nat):=by rw[jS,zt (fun r:Nat=>PV.int .i64 r) l j h]
theorem zjx {l:List Nat} {j:Nat}(h:l.length≤j):elemAt (jS l) j=.int .i8 0:=by
 unfold elemAt
 rw[List.getD_eq_getElem?_getD,List.getElem?_eq_none (by rw[zeb];exact h)];rfl
theorem zc5(a b:List Nat):jS (a++b)=jS a++jS b:=by simp[jS]
def cnt(S:List Nat)(a:Int):Nat:=S.countP fun(s:Nat)=>decide ((s:Int)<a)
def zfD(S:List Nat)(a:Int):Bool:=S.any fun(s:Nat)=>decide ((s:Int)=a)
theorem wV {S:List Nat} {a:Int} {k:Nat}(hk:k≤S.length)(h1:∀i (h:i<S.length),i<k→(S[i]:Int)<a)(h2:∀i (h:i<S.length),k≤i→a≤(S[i]:Int)):cnt S a=k:=by
 unfold cnt
 rw[←List.take_append_drop k S,List.countP_append]
 have e1:(S.take k).countP (fun(s:Nat)=>decide ((s:Int)<a))=(S.take k).length:=by
  rw[List.countP_eq_length]
  intro s hs
  obtain⟨i,hi,rfl⟩:=List.mem_iff_getElem.1 hs
  rw[List.length_take]at hi
  rw[List.getElem_take]
  exact decide_eq_true (h1 i (by omega) (by omega))
 have e2:(S.drop k).countP (fun(s:Nat)=>decide ((s:Int)<a))=0:=by
  rw[List.countP_eq_zero]
  intro s hs
  obtain⟨i,hi,rfl⟩:=List.mem_iff_getElem.1 hs
  rw[List.length_drop]at hi
  rw[List.getElem_drop]
  have:=h2 (k+i) (by omega) (by omega)
  simp only[decide_eq_true_eq];omega
 rw[e1,e2,List.length_take];omega
theorem zkH [Gi](a b:Int):CR Tryz.prog 163 [] [.p (.int .i64 a),.p (.int .i64 b)] [] (is (.p (.bool (decide (a<b))))):=by
 refine walk Tryz.func163 5 [] [] [] ?_
 simp (maxSteps:=1000000) [go_sem,Tryz.f163]
 refine zk (zfP a) ?_
 simp (maxSteps:=1000000) [go_sem]
 exact ret
theorem zkY [Gi](a:Int):CR Tryz.prog 164 [] [.p (.int .i64 a)] [] (is (.p (.bool false))):=by
 refine walk Tryz.func164 3 [] [] [] ?_
 simp (maxSteps:=1000000) [go_sem,Tryz.f164]
 exact ret
theorem J3 [Gi](S:List Nat)(a:Int)(hS:S.Pairwise (· < ·))(hn:S.length<2^31):CR Tryz.prog 117 [] [.p (zaz S),.p (.int .i64 a)] [] (is (.tup [.p (.int .i64 (cnt S a:Nat)),.p (.bool (zfD S a))])):=by
 refine walk Tryz.func117 10 [] [] [] ?_
 have hinc:∀i j (hi:i<S.length) (hj:j<S.length),i<j→S[i]<S[j]:=fun i j hi hj h=>List.pairwise_iff_getElem.1 hS i j hi hj h
 simp (maxSteps:=1000000) [go_sem,Tryz.f117]
 refine loop (fun r:Nat×Nat=>r.1≤r.2∧r.2≤S.length∧(∀i (hi:i<S.length),i<r.1→(S[i]:Int)<a)∧∀i (hi:i<S.length),r.2≤i→a≤(S[i]:Int)) (fun r=>[(7,.p (.int .i64 (r.1:Nat))),(8,.p (.int .i64 (r.2:Nat)))]) (fun _=>[]) (fun r=>r.2-r.1) (0,S.length) ⟨by simp,by simp,by simp,fun i hi h=>absurd h (by simpa using hi)⟩ (fun r hr=>?_)
 obtain⟨i,j⟩:=r
 obtain⟨h1,h2,h3,h4⟩:=hr
 simp only at h1 h2 h3 h4
 by_cases h:i<j
 ·obtain⟨s,hs⟩:∃s,s=i+j:=⟨_,rfl⟩
  obtain⟨m,hm⟩:∃m,m=s/2:=⟨_,rfl⟩
  have g:(i:Int)<j:=by omega
  have w1:IntKind.i64.wrap ((i:Int)+j)=(s:Int):=yJ (by omega) hs
  have w2:IntKind.u64.wrap (s:Int)=(s:Int):=J4 (by omega)
  have w3:(s:Int).fdiv 2=(m:Int):=Uq hm
  have w4:IntKind.i64.wrap (m:Int)=(m:Int):=XV (by omega)
  have w5:IntKind.i64.wrap ((m:Int)+1)=((m+1:Nat):Int):=zN (by omega)
  have hml:m<S.length:=by omega
  have em:=K1 hml
  obtain⟨q,hq⟩:∃q,S[m]=q:=⟨_,rfl⟩
  rw[hq]at em
  simp (maxSteps:=1000000) [go_sem,g,w1,w2,w3,w4,em,hml]
  refine zk (zkH q a) ?_
  by_cases hb:(q:Int)<a
  ·simp (maxSteps:=1000000) [go_sem,hb,w5]
   refine next (m+1,j) ⟨by show m+1≤j;omega,h2,fun k hk hkm=>?_,h4⟩ (by show j- (m+1)<j-i;omega)
   by_cases e:k=m
   ·subst e;rw[hq];exact hb
   ·have:=hinc k m hk hml (by simp at hkm;omega)
    omega
  ·simp (maxSteps:=1000000) [go_sem,hb]
   refine next (i,m) ⟨by show i≤m;omega,by show m≤S.length;omega,h3,fun k hk hkm=>?_⟩ (by show m-i<j-i;omega)
   by_cases e:k=m
   ·subst e;rw[hq];omega
   ·have:=hinc m k hml hk (by simp at hkm;omega)
    omega
 ·obtain rfl:i=j:=by omega
  have e:=wV h2 h3 h4
  rw[e]
  have g:¬(i:Int)<i:=by omega
  by_cases hil:i<S.length
  ·have em:=K1 hil
   have hc:=h4 i hil (Nat.le_refl _)
   have g2:(i:Int)<S.length:=by omega
   obtain⟨q,hq⟩:∃q,S[i]=q:=⟨_,rfl⟩
   rw[hq]at em hc
   by_cases hf:(q:Int)=a
   ·have hh:zfD S a=true:=List.any_eq_true.2 ⟨q,by rw[←hq];exact List.getElem_mem _,decide_eq_true hf⟩
    rw[hh]
    simp (maxSteps:=1000000) [go_sem,g,g2,em,hf]
    exact ret
   ·have hh:zfD S a=false:=by
     rw[zfD,List.any_eq_false]
     intro s hs
     obtain⟨k,hk,rfl⟩:=List.mem_iff_getElem.1 hs
     simp only[decide_eq_true_eq]
     intro hk2
     by_cases c1:k<i
     ·have:=h3 k hk c1;omega
     ·by_cases c2:k=i
      ·subst c2;omega
      ·have:=hinc i k hil hk (by omega)
       omega
    rw[hh]
    simp (maxSteps:=1000000) [go_sem,g,g2,em,hf]
    refine zk (zkY q) ?_
    simp (maxSteps:=1000000) [go_sem]
    exact ret
  ·have hh:zfD S a=false:=by
    rw[zfD,List.any_eq_false]
    intro s hs
    obtain⟨k,hk,rfl⟩:=List.mem_iff_getElem.1 hs
    have:=h3 k hk (by omega)
    simp only[decide_eq_true_eq]
    omega
   have g2:¬(i:Int)<S.length:=by omega
   have em:=zjx (l:=S) (j:=i) (by omega)
   rw[hh]
   simp (maxSteps:=1000000) [go_sem,g,g2,em]
   exact ret
end Go.Proofs.YthbmelihnabkaaaGreat
end
section
namespace Go.Proofs.YthbmelihnabkaaaGreat
open Go.AM
set_option maxHeartbeats 4000000
set_option maxRecDepth 10000
def plc(L:List (List Int))(k:Nat):Nat:=Zz (L.take k)
def pl(L:List (List Int)):List Nat:=(List.range L.length).map (plc L)
structure ClL(L:List (List Int)):Prop where
 full:zma L
 sum:Zz L<2^31
theorem zj6 {L:List (List Int)} {k:Nat}(h:k<L.length):plc L (k+1)=plc L k+L[k].length:=VV h
theorem ClL.pos {L:List (List Int)}(h:ClL L) {k:Nat}(hk:k<L.length):0<L[k].length:=by
 obtain⟨x,c',e,_⟩:=h.full.r L[k] (List.getElem_mem hk)
 rw[e];simp
theorem Wx {L:List (List Int)}(h:ClL L) {k:Nat}(hk:k<L.length):plc L k<plc L (k+1):=by
 have:=h.pos hk
 rw[zj6 hk];omega
theorem Zx {L:List (List Int)}(h:ClL L):∀{i j:Nat},i<j→j≤L.length→plc L i<plc L j
 |i,0,h1,_=>by omega
 |i,j+1,h1,h2=>by
  have a:=Wx h (k:=j) (by omega)
  by_cases e:i=j
  ·subst e;exact a
  ·have:=Zx h (i:=i) (j:=j) (by omega) (by omega)
   omega
theorem QU {L:List (List Int)}(h:ClL L) {i j:Nat}(h1:i≤j)(h2:j≤L.length):plc L i≤plc L j:=by
 by_cases e:i=j
 ·subst e;exact Nat.le_refl _
 ·exact Nat.le_of_lt (Zx h (by omega) h2)
theorem Zy(L:List (List Int)):plc L 0=0:=by simp[plc,Zz]
theorem qP(L:List (List Int)):plc L L.length=Zz L:=by simp[plc]
theorem zlP {L:List (List Int)}(h:ClL L) {i j:Nat}(h1:i≤L.length)(h2:j≤L.length)(e:plc L i=plc L j):i=j:=by
 by_cases c:i<j
 ·have:=Zx h c h2;omega
 ·by_cases c2:j<i
  ·have:=Zx h c2 h1;omega
  ·omega
theorem jW {L:List (List Int)}(h:ClL L) {k:Nat}(hk:k≤L.length):plc L k≤Zz L:=by
 rw[←qP];exact QU h hk (Nat.le_refl _)
theorem qI(L:List (List Int)):(pl L).length=L.length:=by simp[pl]
theorem Z1(L:List (List Int)) {k:Nat}(h:k< (pl L).length):(pl L)[k]=plc L k:=by simp[pl]
theorem zfA {L:List (List Int)}(h:ClL L):(pl L).Pairwise (· < ·):=by
 rw[List.pairwise_iff_getElem]
 intro i j hi hj hij
 rw[Z1,Z1]
 rw[qI]at hj
 exact Zx h hij (by omega)
theorem ClL.num {L:List (List Int)}(h:ClL L):∀{k:Nat},k≤L.length→k≤plc L k
 |0,_=>Nat.zero_le _
 |k+1,hk=>by
  have:=h.num (k:=k) (by omega)
  have:=Wx h (k:=k) (by omega)
  omega
theorem ClL.len {L:List (List Int)}(h:ClL L):L.length≤Zz L:=by rw[←qP];exact h.num (Nat.le_refl _)
def kf:List (List Int)→Int→Nat
 | [],_=>0
 |c::L,a=>if a<c.length then 0 else kf L (a-c.length)+1
theorem k8(c:List Int)(L:List (List Int))(k:Nat):plc (c::L) (k+1)=c.length+plc L k:=by simp[plc,Zz]
theorem vf:∀(L:List (List Int)) (a:Int),kf L a≤L.length
 | [],_=>Nat.le_refl _
 |c::L,a=>by
  unfold kf
  split
  ·omega
  ·have:=vf L (a-c.length)
   simp only[List.length_cons];omega
theorem uX:∀(L:List (List Int)) (a:Int),0≤a→(plc L (kf L a):Int)≤a
 | [],a,h=>by simp[kf,plc,Zz,h]
 |c::L,a,h=>by
  unfold kf
  split
  ·rw[Zy];omega
  ·have:=uX L (a-c.length) (by omega)
   rw[k8];omega
theorem YC:∀(L:List (List Int)) (a:Int),kf L a<L.length→a< (plc L (kf L a+1):Int)
 | [],a,h=>by simp at h
 |c::L,a,h=>by
  unfold kf at h⊢
  split
  ·rename_i q
   rw[k8,Zy];omega
  ·rename_i q
   rw[if_neg q]at h
   have:=YC L (a-c.length) (by simpa using h)
   rw[k8];omega
theorem zbl(L:List (List Int)) {a:Int}(h:a<0):kf L a=0:=by
 cases L with
 |nil=>rfl
 |cons c L=>unfold kf;rw[if_pos (by omega)]
theorem Kv {L:List (List Int)}(h:ClL L) {a:Int} {k:Nat}(hk:k≤L.length)(h1:(plc L k:Int)≤a)(h2:k<L.length→a< (plc L (k+1):Int)):kf L a=k:=by
 have q1:=uX L a (by omega)
 have q2:=YC L a
 have q3:=vf L a
 by_cases c:kf L a<k
 ·have a1:=q2 (by omega)
  have a2:=QU h (i:=kf L a+1) (j:=k) (by omega) hk
  omega
 ·by_cases c2:k<kf L a
  ·have a1:=h2 (by omega)
   have a2:=QU h (i:=k+1) (j:=kf L a) (by omega) q3
   omega
  ·omega
theorem zbV {L:List (List Int)}(h:ClL L) {k:Nat}(hk:k≤L.length):kf L (plc L k)=k:=
 Kv h hk (Int.le_refl _) (fun c=>by have:=Wx h c;omega)
theorem zaX {L:List (List Int)}(h:ClL L) {a:Int}(ha:(Zz L:Int)≤a):kf L a=L.length:=
 Kv h (Nat.le_refl _) (by rw[qP];exact ha) (fun c=>absurd c (Nat.lt_irrefl _))
theorem Vw {L:List (List Int)}(_:ClL L) {a:Int}(ha:a< (Zz L:Int))(h0:0≤a):kf L a<L.length:=by
 have q1:=uX L a h0
 have q3:=vf L a
 refine Nat.lt_of_le_of_ne q3 (fun e=>?_)
 rw[e,qP]at q1;omega
theorem Vc {L:List (List Int)}(h:ClL L) {k:Nat}(hk:k≤L.length):cnt (pl L) (plc L k)=k:=by
 refine wV (by rw[qI];exact hk) (fun i hi hik=>?_) (fun i hi hik=>?_)
 ·rw[Z1];have:=Zx h hik hk;omega
 ·rw[Z1];rw[qI]at hi;have:=QU h hik (by omega);omega
theorem YW(S:List Nat)(a:Int):cnt S a≤S.length:=List.countP_le_length
def vQ(t:zR):xe→Nat→List Int→List Nat
 |_,_,[]=>[]
 |s,i,r::l=>if(Zf t s r).2 then i::vQ t (Zf t s r).1 (i+1) l else vQ t (Zf t s r).1 (i+1) l
def zdj:Nat→List (List Int)→List Nat
 |_,[]=>[]
 |a,c::L=>a::zdj (a+c.length) L
theorem zf7:∀(L:List (List Int)) (a:Nat),zdj a L=(pl L).map (a+·)
 | [],a=>rfl
 |c::L,a=>by
  have e:pl (c::L)=0::(pl L).map (c.length+·):=by
   unfold pl
   rw[List.length_cons,List.range_succ_eq_map,List.map_cons,List.map_map,List.map_map,Zy]
   exact congrArg _ (List.map_congr_left (fun k _=>k8 c L k))
  rw[zdj,zf7 L,e,List.map_cons,List.map_map]
  simp[Function.comp_def,Nat.add_assoc]
theorem zbS:∀(n:Nat) (l:List Int) (s:xe) (p:Int) (pre:List Int) (i:Nat),l.length≤n→VY s p pre→
  vQ T0 s i l=zdj (i+jd za p pre l) (ZY za n ((l.take (jd za p pre l)).reverse++p::pre) (l.drop (jd za p pre l)))
 |n,[],s,p,pre,i,_,_=>by cases n<;>simp[vQ,ZY,zdj]
 |0,x::l,_,_,_,_,h,_=>by simp at h
 |n+1,x::l,s,p,pre,i,h,hi=>by
  have hc:=hi.cut x
  have hn:=hi.next x
  have hl:l.length≤n:=by simpa using h
  rw[vQ,yP]
  simp only
  rw[hi.so,hc]
  simp only[Bool.not_true,Bool.false_or]
  by_cases g:y9 za p pre x=true
  ·have ih:=zbS n l _ _ _ (i+1) hl hn
   have hr:=KS za l (p::pre) x
   rw[if_pos g,jd,if_pos g,ih]
   simp only[List.take_zero,List.reverse_nil,List.nil_append,List.drop_zero,Nat.add_zero,ZY,zdj]
   congr 2
   rw[List.length_cons,List.length_take];omega
  ·have g':y9 za p pre x=false:=by simpa using g
   have ih:=zbS (n+1) l _ _ _ (i+1) (by omega) hn
   rw[if_neg g,jd,if_neg g,ih]
   simp only[List.take_succ_cons,List.reverse_cons,List.append_assoc,List.singleton_append,List.drop_succ_cons]
   congr 1;omega
theorem zkO(l:List Int):vQ T0 Qy 0 l=pl (qn za l):=by
 have e0:∀L,zdj 0 L=pl L:=fun L=>by rw[zf7];simp
 rw[←e0]
 cases l with
 |nil=>rfl
 |cons x l=>
  have hs:=VY.start (pre:=[]) (x:=x) (.inl rfl)
  have hr:=KS za l [] x
  rw[vQ,yP]
  have e1:(!Qy.some || yr Qy (zL za x) (pcD x) (ZI za x))=true:=rfl
  simp only[e1,if_true,Nat.zero_add]
  rw[zbS l.length l _ _ _ 1 (Nat.le_refl _) hs]
  unfold qn
  simp only[List.length_cons,ZY,zdj]
  congr 2
  rw[List.length_take];omega
theorem zcB:∀(a:Nat) (x:Int) (pre xs:List Int) (_:a≤jd za x pre xs) (h:a< (x::xs).length),jd za x pre xs=a+jd za (x::xs)[a] (((x::xs).take a).reverse++pre) ((x::xs).drop (a+1))
 |0,x,pre,xs,_,_=>by simp
 |a+1,x,pre,[],h1,_=>by simp[jd]at h1
 |a+1,x,pre,y::ys,h1,h2=>by
  rw[jd]at h1⊢
  by_cases g:y9 za x pre y=true
  ·rw[if_pos g]at h1;omega
  ·rw[if_neg g]at h1⊢
   rw[zcB a y (x::pre) ys (by omega) (by simpa using h2)]
   simp only[List.getElem_cons_succ,List.take_succ_cons,List.reverse_cons,List.append_assoc,List.singleton_append,List.drop_succ_cons]
   omega
theorem zfX:∀(n:Nat) (l pre:List Int) (a:Nat) (_:l.length≤n) (h:a<l.length),
  a+1+jd za l[a] ((l.take a).reverse++pre) (l.drop (a+1))=plc (ZY za n pre l) (kf (ZY za n pre l) a+1)
 |_,[],_,_,_,h=>by simp at h
 |0,x::l,_,_,h1,_=>by simp at h1
 |n+1,x::xs,pre,a,h1,h2=>by
  have hr:=KS za xs pre x
  obtain⟨r,hR⟩:∃r,r=jd za x pre xs:=⟨_,rfl⟩
  rw[←hR]at hr
  rw[ZY,←hR]
  have hc:(x::xs.take r).length=r+1:=by rw[List.length_cons,List.length_take];omega
  unfold kf
  rw[hc]
  by_cases c:a≤r
  ·rw[if_pos (by omega),k8,Zy,hc]
   have:=zcB a x pre xs (by omega) h2
   omega
  ·rw[if_neg (by omega),k8,hc]
   obtain⟨d,rfl⟩:∃d,a=d+(r+1):=⟨a- (r+1),by omega⟩
   simp only[List.length_cons]at h1 h2
   have ih:=zfX n (xs.drop r) ((xs.take r).reverse++x::pre) d (by rw[List.length_drop];omega) (by rw[List.length_drop];omega)
   have e1:((d+(r+1):Nat):Int)- ((r+1:Nat):Int)=(d:Int):=by omega
   rw[e1]
   have e2:(x::xs)[d+(r+1)]=(xs.drop r)[d]'(by rw[List.length_drop];omega):=by
    rw[List.getElem_drop]
    have:d+(r+1)=(r+d)+1:=by omega
    simp only[this,List.getElem_cons_succ]
   have e3:((x::xs).take (d+(r+1))).reverse++pre=((xs.drop r).take d).reverse++((xs.take r).reverse++x::pre):=by
    have:d+(r+1)=(r+d)+1:=by omega
    rw[this,List.take_succ_cons,List.take_add,List.reverse_cons,List.reverse_append]
    simp
   have e4:(x::xs).drop (d+(r+1)+1)=(xs.drop r).drop (d+1):=by
    rw[List.drop_drop]
    have:d+(r+1)+1=(r+(d+1))+1:=by omega
    rw[this,List.drop_succ_cons]
   rw[e2,e3,e4]
   omega
theorem Yv(l:List Int)(a:Nat)(h:a<l.length):a+1+jd za l[a] (l.take a).reverse (l.drop (a+1))=plc (qn za l) (kf (qn za l) a+1):=by
 have:=zfX l.length l [] a (Nat.le_refl _) h
 rw[List.append_nil]at this
 exact this
def isB(L:List (List Int))(i:Int):Bool:=decide ((plc L (kf L i):Int)=i)
theorem KM(l:List Int)(L:List (List Int))(hL:L=qn za l)(h:ClL L)(i:Nat)(hi:i+1<l.length):y9 za l[i] (l.take i).reverse l[i+1]=isB L ((i+1:Nat):Int):=by
 have hs:Zz L=l.length:=by rw[hL];exact kd.sum l
 have e:=Yv l i (by omega)
 rw[←hL,List.drop_eq_getElem_cons hi,jd]at e
 have k1:=Vw h (a:=(i:Int)) (by omega) (by omega)
 have q1:=uX L i (by omega)
 have q2:=YC L i k1
 by_cases g:y9 za l[i] (l.take i).reverse l[i+1]=true
 ·rw[if_pos g]at e
  rw[g]
  have:kf L ((i+1:Nat):Int)=kf L i+1:=Kv h (by omega) (by omega) (fun c=>by have:=Wx h c;omega)
  unfold isB
  rw[this]
  exact(decide_eq_true (by omega)).symm
 ·rw[if_neg g]at e
  have g':y9 za l[i] (l.take i).reverse l[i+1]=false:=by simpa using g
  rw[g']
  have:kf L ((i+1:Nat):Int)=kf L i:=Kv h (by omega) (by omega) (fun c=>by omega)
  unfold isB
  rw[this]
  exact(decide_eq_false (by omega)).symm
end Go.Proofs.YthbmelihnabkaaaGreat
end
section
namespace Go.Proofs.YthbmelihnabkaaaGreat
open Go.AM
set_option maxHeartbeats 4000000
set_option maxRecDepth 10000
def zd2(L:List (List Int)):PV:=.agg [zaz (pl L),.int .i64 (Zz L:Nat)]
attribute [go_sem] zd2
attribute [local irreducible] za
attribute [go_sem] qI
theorem zf3 {L:List (List Int)} {k:Nat}(h:k<L.length):elemAt (jS (pl L)) k=.int .i64 (plc L k:Nat):=by
 rw[K1 (by rw[qI];exact h),Z1]
theorem V6 [Gi] {L:List (List Int)}(h:ClL L)(a:Int):CR Tryz.prog 124 [] [.p (zd2 L),.p (.int .i64 a)] [] (is (.p (.int .i64 (cnt (pl L) a:Nat)))):=by
 refine walk Tryz.func124 8 [] [] [] ?_
 simp (maxSteps:=1000000) [go_sem,Tryz.f124]
 refine zk (J3 (pl L) a (zfA h) (by have:=h.full.n;rw[qI];omega)) ?_
 simp (maxSteps:=1000000) [go_sem]
 exact ret
def stX(L:List (List Int))(k:Int):Nat:=if 0≤k∧k<L.length then plc L k.toNat else Zz L
theorem zkc {L:List (List Int)} {k:Nat}(h:k≤L.length):stX L k=plc L k:=by
 unfold stX
 by_cases c:k<L.length
 ·rw[if_pos (by omega),Int.toNat_natCast]
 ·have:k=L.length:=by omega
  rw[if_neg (by omega),this,qP]
theorem zhm [Gi](L:List (List Int))(k:Int):CR Tryz.prog 123 [] [.p (zd2 L),.p (.int .i64 k)] [] (is (.p (.int .i64 (stX L k:Nat)))):=by
 refine walk Tryz.func123 5 [] [] [] ?_
 by_cases c1:k<0
 ·have e:stX L k=Zz L:=if_neg (by omega)
  rw[e]
  simp (maxSteps:=1000000) [go_sem,Tryz.f123,c1]
  exact ret
 ·by_cases c2:(L.length:Int)≤k
  ·have e:stX L k=Zz L:=if_neg (by omega)
   rw[e]
   simp (maxSteps:=1000000) [go_sem,Tryz.f123,c1,c2]
   exact ret
  ·obtain⟨n,rfl⟩:∃n:Nat,k=n:=⟨k.toNat,by omega⟩
   have hn:n<L.length:=by omega
   rw[zkc (by omega)]
   have em:=zf3 hn
   simp (maxSteps:=1000000) [go_sem,Tryz.f123,c1,c2,em,hn]
   exact ret
theorem jQ [Gi] {L:List (List Int)}(h:ClL L)(a:Int):CR Tryz.prog 61 [] [.p (zd2 L),.p (.int .i64 a)] [] (is (.p (.int .i64 (plc L (kf L a):Nat)))):=by
 refine walk Tryz.func61 8 [20,27,30] [] [] ?_
 simp (maxSteps:=1000000) [go_sem,Tryz.f61]
 refine zk (J3 (pl L) a (zfA h) (by have:=h.full.n;rw[qI];omega)) ?_
 have hcl:=YW (pl L) a
 rw[qI]at hcl
 by_cases c1:(Zz L:Int)≤a
 ·have e:plc L (kf L a)=Zz L:=by rw[zaX h c1,qP]
  rw[e]
  simp (maxSteps:=1000000) [go_sem,c1]
  exact ret
 ·have hk:=vf L a
  cases hh:zfD (pl L) a with
  |true=>
   obtain⟨s,hs,es⟩:=List.any_eq_true.1 hh
   obtain⟨k,hkl,rfl⟩:=List.mem_iff_getElem.1 hs
   rw[Z1]at es
   rw[qI]at hkl
   simp only[decide_eq_true_eq]at es
   have e:(plc L (kf L a):Int)=a:=by rw[←es,zbV h (by omega)]
   simp (maxSteps:=1000000) [go_sem,c1,e]
   exact ret
  |false=>
   have hno:∀k,k<L.length→(plc L k:Int)≠a:=fun k hk e=>by
    have:=List.any_eq_false.1 hh (plc L k) (by rw[←Z1 L (by rw[qI];exact hk)];exact List.getElem_mem _)
    exact this (decide_eq_true e)
   have hcnt:kf L a+1=cnt (pl L) a∨(a<0∧cnt (pl L) a=0):=by
    by_cases c3:a<0
    ·exact .inr ⟨c3,wV (Nat.zero_le _) (fun i _ hi=>absurd hi (by omega)) (fun i _ _=>by omega)⟩
    ·have q0:=Vw h (a:=a) (by omega) (by omega)
     have q1:=uX L a (by omega)
     have q2:=YC L a q0
     refine .inl (wV (by rw[qI];omega) (fun i hi hik=>?_) (fun i hi hik=>?_)).symm
     ·rw[Z1]
      have a1:=QU h (i:=i) (j:=kf L a) (by omega) (by omega)
      have a2:=hno _ q0
      omega
     ·rw[Z1]
      rw[qI]at hi
      have a1:=QU h (i:=kf L a+1) (j:=i) hik (by omega)
      omega
   rcases hcnt with e|⟨e1,e2⟩
   ·have c4:¬(cnt (pl L) a:Int)=0:=by omega
    have c4':¬cnt (pl L) a=0:=by omega
    have w1:IntKind.i64.wrap ((cnt (pl L) a:Int)-1)=(kf L a:Int):=zq (by have:=h.full.n;omega) e.symm
    have hkl:kf L a<L.length:=by omega
    have em:=zf3 hkl
    simp (maxSteps:=1000000) [go_sem,c1,c4',w1,em,hkl]
    exact ret
   ·rw[zbl L e1,Zy]
    simp (maxSteps:=1000000) [go_sem,c1,e2]
    exact ret
theorem JA [Gi] {e:PV}(hT:qB e)(s:xe)(r:Int)(hr:zu r):CR Tryz.prog 162 [] [.p (jT s),.p e,.p (.int .i32 r)] [] (is (.tup [.p (jT (Zf T0 s r).1),.p (.bool (Zf T0 s r).2)])):=by
 obtain⟨c,b,j,f,p,h,rfl⟩:=hT
 exact K4 h Z0 _ _ _ _ s r hr
theorem zie [Gi] {e:PV}(hT:qB e)(l:List Int)(hn:l.length<2^31)(hr:∀x∈l,zu x):CR Tryz.prog 116 [] [.p e,.p (zh l)] [] (is (.p (zaz (pl (qn za l))))):=by
 rw[←zkO l]
 refine walk Tryz.func116 11 [11,12,13] [] [] ?_
 simp (maxSteps:=1000000) [go_sem,Tryz.f116]
 refine loop (fun r:Nat×xe×List Nat=>r.1≤l.length∧r.2.2.length≤r.1∧vQ T0 Qy 0 l=r.2.2++vQ T0 r.2.1 r.1 (l.drop r.1)) (fun r=>[(6,.os [6] 1 (jS r.2.2)),(13,.p (.int .i64 (r.1:Nat))),(7,.zU),(8,.zU),(9,.zU),(10,.zU)]) (fun r=>[([5],zgU r.2.1)]) (fun r=>l.length-r.1) (0,Qy,[]) ⟨by simp,by simp,by simp⟩ (fun r hr2=>?_) (by simp[go_sem,LeS,leV,leR,leA,leL,zgU,Qy,jS])
 obtain⟨i,s,o⟩:=r
 obtain⟨h1,h0,h2⟩:=hr2
 simp only at h1 h0 h2
 by_cases hil:i<l.length
 ·obtain⟨y,hy⟩:∃y,l[i]=y:=⟨_,rfl⟩
  have hyr:zu y:=hr y (by rw[←hy];exact List.getElem_mem _)
  have em:elemAt (zr l) i=.int .i32 y:=by rw[Qv hil,hy]
  have g:(i:Int)<l.length:=by omega
  have w:IntKind.i64.wrap ((i:Int)+1)=((i+1:Nat):Int):=zN (by omega)
  rw[List.drop_eq_getElem_cons hil,hy,vQ]at h2
  simp (maxSteps:=1000000) [go_sem,g,em,zgU]
  refine zk (JA hT s y hyr) ?_ (ha':=by simp[go_sem,jT])
  generalize Zf T0 s y=q at h2
  obtain⟨s',ct⟩:=q
  cases ct with
  |true=>
   simp (maxSteps:=1000000) [go_sem,jT,w]
   exact⟨by omega,next (i+1,s',o++[i]) ⟨by show i+1≤l.length;omega,by simp;omega,by simpa using h2⟩ (by show l.length- (i+1)<l.length-i;omega) (by simp[go_sem,LeS,leV,leR,leA,leL,jS])⟩
  |false=>
   simp (maxSteps:=1000000) [go_sem,jT,w]
   exact next (i+1,s',o) ⟨by show i+1≤l.length;omega,by show o.length≤i+1;omega,by simpa using h2⟩ (by show l.length- (i+1)<l.length-i;omega) (by simp[go_sem,LeS,leV,leR,leA,leL])
 ·have g:¬(i:Int)<l.length:=by omega
  rw[List.drop_eq_nil_of_le (by omega),vQ,List.append_nil]at h2
  rw[h2]
  simp (maxSteps:=1000000) [go_sem,g]
  exact ret
theorem zeG [Gi] {e:PV}(hT:qB e)(l:List Int)(hn:l.length<2^31)(hr:∀x∈l,zu x):CR Tryz.prog 60 [] [.p e,.p (zh l)] [] (is (.p (zd2 (qn za l)))):=by
 refine walk Tryz.func60 5 [] [] [] ?_
 have hs:Zz (qn za l)=l.length:=kd.sum l
 simp (maxSteps:=1000000) [go_sem,Tryz.f60]
 refine zk (zie hT l hn hr) ?_
 simp (maxSteps:=1000000) [go_sem,←hs]
 exact ret
end Go.Proofs.YthbmelihnabkaaaGreat
end
