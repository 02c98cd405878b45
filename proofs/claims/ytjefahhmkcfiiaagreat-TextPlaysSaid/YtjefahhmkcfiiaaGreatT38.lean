/- A part of the proof of this seat's statements, by an abstract machine: what each operation does to values, and what the law's functions compute. Conditions: as each law says. -/
import Derived.Test.YtjefahhmkcfiiaaGreatT34
import Derived.Test.YtjefahhmkcfiiaaGreatT17
import Derived.Test.YtjefahhmkcfiiaaGreatT35
import Derived.Test.YtjefahhmkcfiiaaGreatT18
import Derived.Test.YtjefahhmkcfiiaaGreatT37
section
namespace Go.Proofs.YtjefahhmkcfiiaaGreat
open Go.AM
set_option maxHeartbeats 4000000
set_option maxRecDepth 10000
attribute [go_sem] zg zk zG zp zX
@[go_sem] theorem zpx : (Value.slice none 0 0).oneCell' = true := rfl
@[go_sem] theorem zpl : (Value.pointer none).oneCell' = true := rfl
theorem call [Gi] {A:Prop} {S:St} {f:FuncId} {args:List Operand} {dst:Option Nat} {K:St→Prop}(m:List (Tok×Tok)) {pin:List Tok} {as1:List AV} {rs:List (Tok×List AV)} {R:AV→List (Tok×List AV)→Prop}(hC:CR Tryz.prog f pin as1 rs R)
  (hk:∀x rs',R x rs'→K ((uF S (dst.getD S.n) m pin rs').qP dst (x.ren fun u=>some (yN (dst.getD S.n) m u))))
  (hb:A:=by exact⟨rfl,by decide+kernel⟩)
  (hm:okM (dst.getD S.n) m=true∧S.pin.all (jU (dst.getD S.n) m pin)=true∧dOK S dst:=by simp[go_sem,zH])
  (ha:(Qf S m args).1:=by simp[go_sem]) (ha':(Qf S m args).2=as1:=by simp[go_sem]) (hr:Qo S m m=rs:=by simp[go_sem]):
  A∧XX Tryz.prog S f args dst K:=
 ⟨hb,zb m hC hm ⟨ha,ha'⟩ hr hk⟩
theorem zo [Gi] {A:Prop} {S:St} {f:FuncId} {args:List Operand} {dst:Option Nat} {K:St→Prop} {as1:List AV} {v:AV}(hC:CR Tryz.prog f [] as1 [] (is v))
  (hk:K ((uF S (dst.getD S.n) [] [] []).qP dst (v.ren fun u=>some (yN (dst.getD S.n) [] u))))
  (hb:A:=by exact⟨rfl,by decide+kernel⟩)
  (hm:okM (dst.getD S.n) []=true∧S.pin.all (jU (dst.getD S.n) [] [])=true∧dOK S dst:=by simp[go_sem,zH])
  (ha:(Qf S [] args).1:=by simp[go_sem]) (ha':(Qf S [] args).2=as1:=by simp[go_sem]):
  A∧XX Tryz.prog S f args dst K:=
 ⟨hb,zb [] hC hm ⟨ha,ha'⟩ (by simp[go_sem]) (fun x rs' h=>by obtain⟨rfl,rfl⟩:=h;exact hk)⟩
theorem ret [Gi] {ts:List (Nat×Option TypeId)} {S:St} {x:AV}(hp:S.pin=[]:=by rfl)
  (hx:(zd Tryz.prog S ts).1∧leT ((zd Tryz.prog S ts).2.upd (AM.fil (fun _=>false) ftt)) x:=by simp[go_sem,zd,leA,leT,leP]):WV Tryz.prog [] ts (is x) S:=zh x hp hx ⟨rfl,rfl⟩
def keeps(R:List (Tok×List AV))(v:PV):AV→List (Tok×List AV)→Prop:=fun x rs=>rs=R∧x=.p v
def idm(l:List Tok):List (Tok×Tok):=l.map fun t=>(t,t)
attribute [go_sem] idm St.ofR
def zfP(pin:List Tok)(R:List (Tok×List AV))(v:PV):AV→List (Tok×List AV)→Prop:=fun x rs=>x=.p v∧Qo (St.ofR rs) (idm pin) (idm pin)=R
theorem CR.keeps [Gi] {f:FuncId} {pin:List Tok} {args:List AV} {rs R:List (Tok×List AV)} {v:PV}(h:CR Tryz.prog f pin args rs (zfP pin R v))(hok:(okM 1000000 (idm pin)&&pin.all fun t=>inM (idm pin) t==some t)=true):CR Tryz.prog f pin args rs (keeps R v):=by
 simp only[Bool.and_eq_true]at hok
 refine CR.ren h 1000000 ?_
 rintro x rs' ⟨rfl,h2⟩
 exact⟨idm pin,hok.1,hok.2,h2,rfl⟩
theorem U4 [Gi] {ts:List (Nat×Option TypeId)} {S:St} {pin:List Tok} {R:List (Tok×List AV)} {v:PV}(hp:S.pin=pin∧pin.all (fun t=>pin.contains t)=true:=by simp)
  (hx:(zd Tryz.prog S ts).1∧leT ((zd Tryz.prog S ts).2.upd (AM.fil (fun t=>pin.contains t) ftt)) (.p v):=by simp[go_sem,zd,leA,leT,leP])
  (hr:Qo (St.ofR (Ux pin (S.fil (fun t=>pin.contains t) ftt).rs)) (idm pin) (idm pin)=R:=by simp[go_sem]):WV Tryz.prog pin ts (zfP pin R v) S:=zi pin (.p v) hp hx ⟨rfl,hr⟩
def uO(R:List (Tok×List AV))(v:AV):AV→List (Tok×List AV)→Prop:=fun x rs=>rs=R∧x=v
def zc4(pin:List Tok)(R:List (Tok×List AV))(v:AV):AV→List (Tok×List AV)→Prop:=fun x rs=>x=v∧Qo (St.ofR rs) (idm pin) (idm pin)=R
theorem CR.uO [Gi] {f:FuncId} {pin:List Tok} {args:List AV} {rs R:List (Tok×List AV)} {v:AV}(h:CR Tryz.prog f pin args rs (zc4 pin R v))(hok:(okM 1000000 (idm pin)&&pin.all fun t=>inM (idm pin) t==some t)=true)(hv:v.ren (inM (idm pin))=v):CR Tryz.prog f pin args rs (uO R v):=by
 simp only[Bool.and_eq_true]at hok
 refine CR.ren h 1000000 ?_
 rintro x rs' ⟨rfl,h2⟩
 exact⟨idm pin,hok.1,hok.2,h2,hv⟩
theorem Xs [Gi] {ts:List (Nat×Option TypeId)} {S:St} {pin:List Tok} {R:List (Tok×List AV)} {v:AV}(hp:S.pin=pin∧pin.all (fun t=>pin.contains t)=true:=by simp)
  (hx:(zd Tryz.prog S ts).1∧leT ((zd Tryz.prog S ts).2.upd (AM.fil (fun t=>pin.contains t) ftt)) v:=by simp[go_sem,zd,leA,leT,leP])
  (hr:Qo (St.ofR (Ux pin (S.fil (fun t=>pin.contains t) ftt).rs)) (idm pin) (idm pin)=R:=by simp[go_sem]):WV Tryz.prog pin ts (zc4 pin R v) S:=zi pin v hp hx ⟨rfl,hr⟩
theorem next {ι:Type} {inv:ι→Prop} {st:ι→St} {m:ι→Nat} {i:ι} {Q:Exit→St→Prop} {S:St}(j:ι)(h1:inv j)(h3:m j<m i:=by simp;omega)(h2:LeS S (st j):=by simp[go_sem,LeS,leV,leR,leA,leL,zn,leT,leP]):Jz inv st m i Q .normal S:=zf j h1 h2 h3
theorem loop [Gi] {D:List Nat} {c:Code} {Q:Exit→St→Prop} {S:St} {ι:Type}(inv:ι→Prop)(V:ι→List (Nat×AV))(R:ι→List (Tok×List AV))(m:ι→Nat)(i:ι)(hi:inv i)
  (h:∀i,inv i→wpA Tryz.prog D c (Jz inv (fun i=>S.zaF (V i) (R i)) m i Q) (S.zaF (V i) (R i))) (h0:LeS S (S.zaF (V i) (R i)):=by simp[go_sem,LeS,leV,leR,leA,leL,zn,leT,leP]):wpA Tryz.prog D (.loop c) Q S:=
 zj inv V R m i hi h0 h
theorem walk [Gi] {f:FuncId} {fn:Func} {c:Code} {ts:List (Nat×Option TypeId)}(hf:Tryz.prog.funcs[f]?=some fn)(nv:Nat) {pin:List Tok} {args:List AV} {rs:List (Tok×List AV)} {R:AV→List (Tok×List AV)→Prop}(ex:List Nat)(D:List Nat)(rm:List Nat)
  (h:wpA Tryz.prog D c (uj Tryz.prog pin ts R) {n:=fn.ntmps,nv:=nv,vs:=vg 0 args,ts:=[],rs:=rs,pin:=pin,ex:=ex,rm:=rm}) (hb:fn.body=some c:=by exact rfl) (hok:Zu D c=true:=by kernel_rfl)
  (hres:uu fn.results.toList=some ts:=by exact rfl) (hnv:args.length≤nv:=by simp) (hn:args.length≤fn.ntmps:=by simp):CR Tryz.prog f pin args rs R:=
 qW D mixed nv ex hf hb hok rm hres hnv hn h
theorem JE [Gi] {f:FuncId} {fn:Func} {c:Code} {ts:List (Nat×Option TypeId)}(hf:Tryz.prog.funcs[f]?=some fn)(nv:Nat) {pin:List Tok} {args:List AV} {rs R:List (Tok×List AV)} {v:PV}(ex:List Nat)(D:List Nat)(rm:List Nat)
  (h:wpA Tryz.prog D c (uj Tryz.prog pin ts (zfP pin R v)) {n:=fn.ntmps,nv:=nv,vs:=vg 0 args,ts:=[],rs:=rs,pin:=pin,ex:=ex,rm:=rm}) (hok1:(okM 1000000 (idm pin)&&pin.all fun t=>inM (idm pin) t==some t)=true:=by decide) (hb:fn.body=some c:=by exact rfl) (hok:Zu D c=true:=by kernel_rfl)
  (hres:uu fn.results.toList=some ts:=by exact rfl) (hnv:args.length≤nv:=by simp) (hn:args.length≤fn.ntmps:=by simp):CR Tryz.prog f pin args rs (keeps R v):=
 CR.keeps (qW D mixed nv ex hf hb hok rm hres hnv hn h) hok1
theorem zpu [Gi] {f:FuncId} {fn:Func} {c:Code} {ts:List (Nat×Option TypeId)}(hf:Tryz.prog.funcs[f]?=some fn)(nv:Nat) {pin:List Tok} {args:List AV} {rs R:List (Tok×List AV)} {v:AV}(ex:List Nat)(D:List Nat)(rm:List Nat)
  (h:wpA Tryz.prog D c (uj Tryz.prog pin ts (zc4 pin R v)) {n:=fn.ntmps,nv:=nv,vs:=vg 0 args,ts:=[],rs:=rs,pin:=pin,ex:=ex,rm:=rm}) (hok1:(okM 1000000 (idm pin)&&pin.all fun t=>inM (idm pin) t==some t)=true:=by decide) (hv:v.ren (inM (idm pin))=v:=by rfl) (hb:fn.body=some c:=by exact rfl) (hok:Zu D c=true:=by kernel_rfl)
  (hres:uu fn.results.toList=some ts:=by exact rfl) (hnv:args.length≤nv:=by simp) (hn:args.length≤fn.ntmps:=by simp):CR Tryz.prog f pin args rs (uO R v):=
 CR.uO (qW D mixed nv ex hf hb hok rm hres hnv hn h) hok1 hv
end Go.Proofs.YtjefahhmkcfiiaaGreat
end
section
namespace Go.Proofs.YtjefahhmkcfiiaaGreat
open Go.AM
set_option maxHeartbeats 4000000
set_option maxRecDepth 10000
def rcs(l:List Int):List AV:=l.map fun i=>.p (.int .i32 i)
@[go_sem] theorem znJ (l : List Int) : (rcs l).length = l.length := by simp [rcs]
@[go_sem] theorem zqn (rt tt : Tok → Bool) (l : List Int) : (rcs l).map (AV.upd (fil rt tt)) = rcs l := by
 simp[rcs,AV.upd,fil,Q3,Function.comp_def]
@[go_sem] theorem zqm (f : Tok → Option Tok) (l : List Int) : (rcs l).map (AV.ren f) = rcs l := by
 simp[rcs,AV.ren,AV.upd,Xb,xu,Function.comp_def]
@[go_sem] theorem zp8 (l : List Int) (n : Nat) : (rcs l).take n = rcs (l.take n) := by simp [rcs]
@[go_sem] theorem zpw (l : List Int) (n : Nat) : (rcs l).drop n = rcs (l.drop n) := by simp [rcs]
@[go_sem] theorem zql (l l' : List Int) : rcs l ++ rcs l' = rcs (l ++ l') := by simp [rcs]
@[go_sem] theorem zpv (l : List Int) : UL (rcs l) = some (zu l) := by
 unfold rcs zu
 induction l with
 |nil=>rfl
 |cons x l ih=>simp[UL,ih]
attribute [go_sem] zp ziR zbD
@[go_sem] theorem zp9 (l : List Int) : (zu l).map AV.p = rcs l := by simp [rcs, zu]
@[go_sem] theorem zo8 (l : List Int) (n : Nat) : (zu l).take n = zu (l.take n) := by simp [zu]
@[go_sem] theorem zo0 (l l' : List Int) : zu l ++ zu l' = zu (l ++ l') := by simp [zu]
@[go_sem] theorem zqb (l : List Int) : (zu l).all PV.one = true := by simp [zu, PV.one]
@[go_sem] theorem zpY : zu [] = [] := rfl
@[go_sem] theorem zpA (l : List Int) (a b : Int) : cut (zu l) a b = zu (cut l a b) := by simp [cut, zu]
@[go_sem] theorem zpa (n : Nat) : List.replicate n (AV.p (PV.int .i32 0)) = rcs (List.replicate n 0) := by simp [rcs]
def ZV(l:List Int)(f t:Nat):List (Tok×List AV):=[([0],[.la [0,0] 1 0 l.length,.p (.int .i64 (f:Int)),.p (.int .i64 (t:Int))]),([0,0],rcs l)]
def ZD:List Tok:=[[0],[0,0]]
theorem kW [Gi](l:List Int)(f t:Nat)(h1:f≤t)(h2:t≤l.length)(h3:(l.length:Int)≤140737488355328):CR Tryz.prog 93 ZD [.lp [0] 0] (ZV l f t) fun x rs=>rs=ZV l f t∧x=.p (.int .i64 (l.length- (t-f))):=by
 refine zm mixed 3 [] Tryz.func93 rfl (by kernel_rfl) rfl (by simp) (by simp) ?_
 simp (maxSteps:=1000000) [go_sem,Tryz.f93,ZV,ZD]
 refine zi ZD (.p (.int .i64 (l.length- (t-f)))) (by simp[ZD]) (by simp (maxSteps:=1000000) (disch:=omega) [go_sem,zd,leA,wrap64]) ?_
 simp (maxSteps:=1000000) [go_sem,ZD]
def held(l:List Int)(f t:Nat):List Int:=l.take f++l.drop t
def zqp(l:List Int):AV→List (Tok×List AV)→Prop:=fun x rs=>∃l':List Int,rs=ZV l' l.length (l.length+8)∧l'.length=l.length+8∧x=.lp [0] 0∧held l' l.length (l.length+8)=l
def zqt(l:List Int):AV→List (Tok×List AV)→Prop:=fun x rs=>x=.lp [9] 0∧rs=[([7],rcs (l++List.replicate 8 0)),([9],[.la [7] 1 0 (l.length+8),.p (.int .i64 (l.length:Int)),.p (.int .i64 ((l.length+8:Nat):Int))])]
theorem ziQ [Gi](l:List Int)(h:(l.length:Int)≤4398046511104):CR Tryz.prog 83 [] [.p (zg l)] [] (zqp l):=by
 refine CR.ren (R:=zqt l) ?_ 100 ?_
 ·refine zm mixed 4 [] Tryz.func83 rfl (by kernel_rfl) rfl (by simp) (by simp) ?_
  obtain⟨N,hN⟩:∃N:Nat,N=l.length+8:=⟨_,rfl⟩
  have e1:((l.length:Int)+8)=N:=by omega
  simp (maxSteps:=1000000) (disch:=omega) [go_sem,Tryz.f83,zg,wrap64,e1]
  refine⟨by omega,by omega,?_⟩
  refine zi [[7],[9]] (.lp [9] 0) (by simp) (by simp (maxSteps:=1000000) [go_sem,zd,leA]) ⟨rfl,?_⟩
  have e2:N-l.length=8:=by omega
  simp (maxSteps:=1000000) [go_sem,e2,←hN]
 ·rintro x rs ⟨rfl,rfl⟩
  exact⟨[([0],[9]),([0,0],[7])],by simp (maxSteps:=1000000) [go_sem],by simp,l++List.replicate 8 0,by simp (maxSteps:=1000000) [go_sem,ZV],by simp,by simp (maxSteps:=1000000) [go_sem],by simp[held]⟩
def sliced(l:List Int)(a b:Int):List Int:=(l.take b.toNat).drop a.toNat
theorem xQ(l:List Int)(f t:Nat)(h1:f≤t)(h2:t≤l.length):(held l f t).length=l.length- (t-f):=by
 simp[held];omega
theorem zgL(H:List Int)(a b:Int)(h:min b H.length≤max a 0):sliced H a b=[]:=by
 unfold sliced
 apply List.drop_eq_nil_of_le
 simp
 omega
theorem zjh(H:List Int)(a b:Int)(A B:Nat)(hA:(A:Int)=max a 0)(hB:(B:Int)=min b H.length):sliced H a b=(H.take B).drop A:=by
 unfold sliced
 have e1:a.toNat=A:=by omega
 rw[e1]
 congr 1
 by_cases h:b≤H.length
 ·have e2:b.toNat=B:=by omega
  rw[e2]
 ·rw[List.take_of_length_le (by omega),List.take_of_length_le (by omega)]
def zqv(l:List Int)(f t:Nat)(a b:Int):AV→List (Tok×List AV)→Prop:=fun x rs=>rs=ZV l f t∧x=.os [6] 1 (zu (sliced (held l f t) a b))
def fin(l:List Int)(f t:Nat)(a b:Int):AV→List (Tok×List AV)→Prop:=fun x rs=>rs=ZV l f t∧x=.p (zg (sliced (held l f t) a b))
theorem zdg [Gi](l:List Int)(f t:Nat)(a b:Int)(h1:f≤t)(h2:t≤l.length)(h3:(l.length:Int)≤4398046511104):
  CR Tryz.prog 149 ZD [.lp [0] 0,.p (.int .i64 a),.p (.int .i64 b)] (ZV l f t) (zqv l f t a b):=by
 refine zm mixed 9 [] Tryz.func149 rfl (by kernel_rfl) rfl (by simp) (by simp) ?_
 simp (maxSteps:=1000000) (disch:=omega) [go_sem,Tryz.f149,ZV,ZD]
 refine⟨⟨rfl,by simp[Tryz.f93]⟩,?_⟩
 refine zb [([0],[0]),([0,0],[0,0])] (kW l f t h1 h2 (by omega)) (by simp (maxSteps:=1000000) [go_sem,ZD]) ⟨by simp (maxSteps:=1000000) [go_sem],by simp (maxSteps:=1000000) [go_sem]⟩ (by simp (maxSteps:=1000000) [go_sem,ZV]) ?_
 rintro x rs ⟨rfl,rfl⟩
 obtain⟨A,hA⟩:∃A:Nat,(A:Int)=max a 0:=⟨(max a 0).toNat,by omega⟩
 obtain⟨M,hM⟩:∃M:Int,M=min b (l.length- (t-f)):=⟨_,rfl⟩
 simp (maxSteps:=1000000) (disch:=omega) [go_sem,ZV,ZD,←hA,←hM]
 have hl:=xQ l f t h1 h2
 refine zA (fun h=>?_) (fun h=>?_)
 ·simp (maxSteps:=1000000) (disch:=omega) [go_sem]
  refine zi ZD (.os [6] 1 (zu [])) (by simp[ZD]) (by simp (maxSteps:=1000000) [go_sem,zd,leA]) ⟨by simp (maxSteps:=1000000) [go_sem,ZD,ZV],?_⟩
  rw[zgL _ _ _ (by rw[hl];omega)]
 ·obtain⟨B,rfl⟩:=Int.eq_ofNat_of_zero_le (show 0≤M by omega)
  have hs:=zjh (held l f t) a b A B hA (by rw[hl];omega)
  simp (maxSteps:=1000000) (disch:=omega) [go_sem]
  refine zA (fun h'=>?_) (fun h'=>?_)
  ·obtain⟨C,hC⟩:∃C:Nat,(C:Int)=min (B:Int) (f:Int):=⟨min B f,by omega⟩
   simp (maxSteps:=1000000) (disch:=omega) [go_sem,←hC]
   refine⟨by omega,by omega,?_⟩
   refine zA (fun h2=>?_) (fun h2=>?_)
   ·have e1:max (A:Int) (f:Int)+((t:Int)-f)=t:=by omega
    obtain⟨D,hD⟩:∃D:Nat,(D:Int)=(B:Int)+((t:Int)-f):=⟨B+t-f,by omega⟩
    simp (maxSteps:=1000000) (disch:=omega) [go_sem,wrap64,e1,←hD]
    refine⟨by omega,by omega,?_⟩
    refine zi ZD (.os [6] 1 (zu ((l.drop A).take (C-A)++(l.drop t).take (D-t)))) (by simp[ZD]) (by simp (maxSteps:=1000000) [go_sem,zd,leA]) ⟨by simp (maxSteps:=1000000) [go_sem,ZD,ZV],?_⟩
    rw[hs]
    congr 2
    unfold held
    (apply List.ext_getElem?;intro j;simp only[List.getElem?_append,List.getElem?_take,List.getElem?_drop,List.length_take,List.length_drop];(repeat' split);all_goals first|rfl|omega|(congr 1;omega)|(symm;apply List.getElem?_eq_none;omega)|(apply List.getElem?_eq_none;omega))
   ·simp (maxSteps:=1000000) (disch:=omega) [go_sem]
    have hCB:C=B:=by omega
    refine zi ZD (.os [6] 1 (zu ((l.drop A).take (C-A)))) (by simp[ZD]) (by simp (maxSteps:=1000000) [go_sem,zd,leA]) ⟨by simp (maxSteps:=1000000) [go_sem,ZD,ZV],?_⟩
    rw[hs]
    congr 2
    unfold held
    (apply List.ext_getElem?;intro j;simp only[List.getElem?_append,List.getElem?_take,List.getElem?_drop,List.length_take];(repeat' split);all_goals first|rfl|omega|(congr 1;omega)|(symm;apply List.getElem?_eq_none;omega)|(apply List.getElem?_eq_none;omega))
  ·simp (maxSteps:=1000000) (disch:=omega) [go_sem]
   refine zA (fun h4=>?_) (fun h4=>?_)
   ·have e1:max (A:Int) (f:Int)+((t:Int)-f)=(A+t-f:Nat):=by omega
    obtain⟨D,hD⟩:∃D:Nat,(D:Int)=(B:Int)+((t:Int)-f):=⟨B+t-f,by omega⟩
    simp (maxSteps:=1000000) (disch:=omega) [go_sem,wrap64,e1,←hD]
    refine⟨by omega,by omega,?_⟩
    refine zi ZD (.os [6] 1 (zu ((l.drop (A+t-f)).take (D- (A+t-f))))) (by simp[ZD]) (by simp (maxSteps:=1000000) [go_sem,zd,leA]) ⟨by simp (maxSteps:=1000000) [go_sem,ZD,ZV],?_⟩
    rw[hs]
    congr 2
    unfold held
    (apply List.ext_getElem?;intro j;simp only[List.getElem?_append,List.getElem?_take,List.getElem?_drop,List.length_take];(repeat' split);all_goals first|rfl|omega|(congr 1;omega)|(symm;apply List.getElem?_eq_none;omega)|(apply List.getElem?_eq_none;omega))
   ·omega
theorem zd5 [Gi](l:List Int)(f t:Nat)(a b:Int)(h1:f≤t)(h2:t≤l.length)(h3:(l.length:Int)≤4398046511104):
  CR Tryz.prog 149 ZD [.lp [0] 0,.p (.int .i64 a),.p (.int .i64 b)] (ZV l f t) (fin l f t a b):=by
 refine CR.ren (zdg l f t a b h1 h2 h3) 100 ?_
 rintro x rs ⟨rfl,rfl⟩
 exact⟨[([0],[0]),([0,0],[0,0])],by simp[go_sem],by simp[go_sem,ZD],by simp[go_sem,ZV],by simp[go_sem]⟩
def zqz(l:List Int)(f t:Nat):AV→List (Tok×List AV)→Prop:=fun x rs=>rs=ZV l f t∧x=.p (zg (held l f t))
theorem WC [Gi](l:List Int)(f t:Nat)(h1:f≤t)(h2:t≤l.length)(h3:(l.length:Int)≤4398046511104):CR Tryz.prog 94 ZD [.lp [0] 0] (ZV l f t) (zqz l f t):=by
 refine zm mixed 3 [] Tryz.func94 rfl (by kernel_rfl) rfl (by simp) (by simp) ?_
 simp (maxSteps:=1000000) (disch:=omega) [go_sem,Tryz.f94,ZV,ZD]
 refine⟨⟨rfl,by simp[Tryz.f93]⟩,?_⟩
 refine zb [([0],[0]),([0,0],[0,0])] (kW l f t h1 h2 (by omega)) (by simp (maxSteps:=1000000) [go_sem,ZD]) ⟨by simp (maxSteps:=1000000) [go_sem],by simp (maxSteps:=1000000) [go_sem]⟩ (by simp (maxSteps:=1000000) [go_sem,ZV]) ?_
 rintro x rs ⟨rfl,rfl⟩
 have hl:=xQ l f t h1 h2
 simp (maxSteps:=1000000) (disch:=omega) [go_sem,ZV,ZD]
 refine⟨⟨rfl,by simp[Tryz.f149]⟩,?_⟩
 refine zb [([0],[0]),([0,0],[0,0])] (zd5 l f t 0 (l.length- (t-f)) h1 h2 h3) (by simp (maxSteps:=1000000) [go_sem,ZD]) ⟨by simp (maxSteps:=1000000) [go_sem],by simp (maxSteps:=1000000) [go_sem]⟩ (by simp (maxSteps:=1000000) [go_sem,ZV]) ?_
 rintro x rs ⟨rfl,rfl⟩
 simp (maxSteps:=1000000) (disch:=omega) [go_sem,ZV,ZD,zg]
 refine zi ZD (.p (zg (sliced (held l f t) 0 (l.length- (t-f))))) (by simp[ZD]) (by simp (maxSteps:=1000000) [go_sem,zd,leA,zg]) ⟨by simp (maxSteps:=1000000) [go_sem,ZD,ZV],?_⟩
 have e:sliced (held l f t) 0 ((l.length:Int)- (t-f))=held l f t:=by
  unfold sliced
  have:((l.length:Int)- (t-f)).toNat=(held l f t).length:=by omega
  rw[this];simp
 rw[e]
end Go.Proofs.YtjefahhmkcfiiaaGreat
end
section
namespace Go.Proofs.YtjefahhmkcfiiaaGreat
open Go.AM
set_option maxHeartbeats 4000000
set_option maxRecDepth 10000
def Zt(l:List Nat):List PV:=l.map fun n=>.int .i64 (n:Nat)
def QL(l:List Nat):PV:=.sl 1 (Zt l)
attribute [go_sem] QL
@[go_sem] theorem zd0 (l : List Nat) : (Zt l).length = l.length := by simp [Zt]
theorem WD {l:List Nat} {j:Nat}(h:j<l.length):elemAt (Zt l) j=.int .i64 (l[j]:Nat):=by rw[Zt,zr (fun r:Nat=>PV.int .i64 r) l j h]
theorem zlJ {l:List Nat} {j:Nat}(h:l.length≤j):elemAt (Zt l) j=.int .i8 0:=by
 unfold elemAt
 rw[List.getD_eq_getElem?_getD,List.getElem?_eq_none (by rw[zd0];exact h)];rfl
theorem V5(a b:List Nat):Zt (a++b)=Zt a++Zt b:=by simp[Zt]
def cnt(S:List Nat)(a:Int):Nat:=S.countP fun(s:Nat)=>decide ((s:Int)<a)
def zgF(S:List Nat)(a:Int):Bool:=S.any fun(s:Nat)=>decide ((s:Int)=a)
theorem vI {S:List Nat} {a:Int} {k:Nat}(hk:k≤S.length)(h1:∀i (h:i<S.length),i<k→(S[i]:Int)<a)(h2:∀i (h:i<S.length),k≤i→a≤(S[i]:Int)):cnt S a=k:=by
 unfold cnt
 rw[←List.take_append_drop k S,List.countP_append]
 have e1:(S.take k).countP (fun(s:Nat)=>decide ((s:Int)<a))=(S.take k).length:=by
  rw[List.countP_eq_length]
  intro s hs
  obtain⟨i,hi,rfl⟩:=List.mem_iff_getElem.1 hs
  rw[List.length_take]at hi
  rw[List.getElem_take]
  exact decide_eq_true (h1 i (by omega) (by omega))
 have e2:(S.drop k).countP (fun(s:Nat)=>decide ((s:Int)<a))=0:=by
  rw[List.countP_eq_zero]
  intro s hs
  obtain⟨i,hi,rfl⟩:=List.mem_iff_getElem.1 hs
  rw[List.length_drop]at hi
  rw[List.getElem_drop]
  have:=h2 (k+i) (by omega) (by omega)
  simp only[decide_eq_true_eq];omega
 rw[e1,e2,List.length_take];omega
theorem zmA [Gi](a b:Int):CR Tryz.prog 186 [] [.p (.int .i64 a),.p (.int .i64 b)] [] (is (.p (.bool (decide (a<b))))):=by
 refine walk Tryz.func186 5 [] [] [] ?_
 simp (maxSteps:=1000000) [go_sem,Tryz.f186]
 refine zo (zgx a) ?_
 simp (maxSteps:=1000000) [go_sem]
 exact ret
theorem zl7 [Gi](a:Int):CR Tryz.prog 187 [] [.p (.int .i64 a)] [] (is (.p (.bool false))):=by
 refine walk Tryz.func187 3 [] [] [] ?_
 simp (maxSteps:=1000000) [go_sem,Tryz.f187]
 exact ret
theorem XG [Gi](S:List Nat)(a:Int)(hS:S.Pairwise (· < ·))(hn:S.length<2^31):CR Tryz.prog 150 [] [.p (QL S),.p (.int .i64 a)] [] (is (.tup [.p (.int .i64 (cnt S a:Nat)),.p (.bool (zgF S a))])):=by
 refine walk Tryz.func150 10 [] [] [] ?_
 have hinc:∀i j (hi:i<S.length) (hj:j<S.length),i<j→S[i]<S[j]:=fun i j hi hj h=>List.pairwise_iff_getElem.1 hS i j hi hj h
 simp (maxSteps:=1000000) [go_sem,Tryz.f150]
 refine loop (fun r:Nat×Nat=>r.1≤r.2∧r.2≤S.length∧(∀i (hi:i<S.length),i<r.1→(S[i]:Int)<a)∧∀i (hi:i<S.length),r.2≤i→a≤(S[i]:Int)) (fun r=>[(7,.p (.int .i64 (r.1:Nat))),(8,.p (.int .i64 (r.2:Nat)))]) (fun _=>[]) (fun r=>r.2-r.1) (0,S.length) ⟨by simp,by simp,by simp,fun i hi h=>absurd h (by simpa using hi)⟩ (fun r hr=>?_)
 obtain⟨i,j⟩:=r
 obtain⟨h1,h2,h3,h4⟩:=hr
 simp only at h1 h2 h3 h4
 by_cases h:i<j
 ·obtain⟨s,hs⟩:∃s,s=i+j:=⟨_,rfl⟩
  obtain⟨m,hm⟩:∃m,m=s/2:=⟨_,rfl⟩
  have g:(i:Int)<j:=by omega
  have w1:IntKind.i64.wrap ((i:Int)+j)=(s:Int):=xe (by omega) hs
  have w2:IntKind.u64.wrap (s:Int)=(s:Int):=YA (by omega)
  have w3:(s:Int).fdiv 2=(m:Int):=K9 hm
  have w4:IntKind.i64.wrap (m:Int)=(m:Int):=zdk (by omega)
  have w5:IntKind.i64.wrap ((m:Int)+1)=((m+1:Nat):Int):=zI (by omega)
  have hml:m<S.length:=by omega
  have em:=WD hml
  obtain⟨q,hq⟩:∃q,S[m]=q:=⟨_,rfl⟩
  rw[hq]at em
  simp (maxSteps:=1000000) [go_sem,g,w1,w2,w3,w4,em,hml]
  refine zo (zmA q a) ?_
  by_cases hb:(q:Int)<a
  ·simp (maxSteps:=1000000) [go_sem,hb,w5]
   refine next (m+1,j) ⟨by show m+1≤j;omega,h2,fun k hk hkm=>?_,h4⟩ (by show j- (m+1)<j-i;omega)
   by_cases e:k=m
   ·subst e;rw[hq];exact hb
   ·have:=hinc k m hk hml (by simp at hkm;omega)
    omega
  ·simp (maxSteps:=1000000) [go_sem,hb]
   refine next (i,m) ⟨by show i≤m;omega,by show m≤S.length;omega,h3,fun k hk hkm=>?_⟩ (by show m-i<j-i;omega)
   by_cases e:k=m
   ·subst e;rw[hq];omega
   ·have:=hinc m k hml hk (by simp at hkm;omega)
    omega
 ·obtain rfl:i=j:=by omega
  have e:=vI h2 h3 h4
  rw[e]
  have g:¬(i:Int)<i:=by omega
  by_cases hil:i<S.length
  ·have em:=WD hil
   have hc:=h4 i hil (Nat.le_refl _)
   have g2:(i:Int)<S.length:=by omega
   obtain⟨q,hq⟩:∃q,S[i]=q:=⟨_,rfl⟩
   rw[hq]at em hc
   by_cases hf:(q:Int)=a
   ·have hh:zgF S a=true:=List.any_eq_true.2 ⟨q,by rw[←hq];exact List.getElem_mem _,decide_eq_true hf⟩
    rw[hh]
    simp (maxSteps:=1000000) [go_sem,g,g2,em,hf]
    exact ret
   ·have hh:zgF S a=false:=by
     rw[zgF,List.any_eq_false]
     intro s hs
     obtain⟨k,hk,rfl⟩:=List.mem_iff_getElem.1 hs
     simp only[decide_eq_true_eq]
     intro hk2
     by_cases c1:k<i
     ·have:=h3 k hk c1;omega
     ·by_cases c2:k=i
      ·subst c2;omega
      ·have:=hinc i k hil hk (by omega)
       omega
    rw[hh]
    simp (maxSteps:=1000000) [go_sem,g,g2,em,hf]
    refine zo (zl7 q) ?_
    simp (maxSteps:=1000000) [go_sem]
    exact ret
  ·have hh:zgF S a=false:=by
    rw[zgF,List.any_eq_false]
    intro s hs
    obtain⟨k,hk,rfl⟩:=List.mem_iff_getElem.1 hs
    have:=h3 k hk (by omega)
    simp only[decide_eq_true_eq]
    omega
   have g2:¬(i:Int)<S.length:=by omega
   have em:=zlJ (l:=S) (j:=i) (by omega)
   rw[hh]
   simp (maxSteps:=1000000) [go_sem,g,g2,em]
   exact ret
end Go.Proofs.YtjefahhmkcfiiaaGreat
end
section
namespace Go.Proofs.YtjefahhmkcfiiaaGreat
open Go.AM
set_option maxHeartbeats 4000000
set_option maxRecDepth 10000
def plc(L:List (List Int))(k:Nat):Nat:=qd (L.take k)
def pl(L:List (List Int)):List Nat:=(List.range L.length).map (plc L)
structure ClL(L:List (List Int)):Prop where
 full:zec L
 sum:qd L<2^31
theorem zj7 {L:List (List Int)} {k:Nat}(h:k<L.length):plc L (k+1)=plc L k+L[k].length:=xh h
theorem ClL.pos {L:List (List Int)}(h:ClL L) {k:Nat}(hk:k<L.length):0<L[k].length:=by
 obtain⟨x,c',e,_⟩:=h.full.r L[k] (List.getElem_mem hk)
 rw[e];simp
theorem Vk {L:List (List Int)}(h:ClL L) {k:Nat}(hk:k<L.length):plc L k<plc L (k+1):=by
 have:=h.pos hk
 rw[zj7 hk];omega
theorem yE {L:List (List Int)}(h:ClL L):∀{i j:Nat},i<j→j≤L.length→plc L i<plc L j
 |i,0,h1,_=>by omega
 |i,j+1,h1,h2=>by
  have a:=Vk h (k:=j) (by omega)
  by_cases e:i=j
  ·subst e;exact a
  ·have:=yE h (i:=i) (j:=j) (by omega) (by omega)
   omega
theorem jZ {L:List (List Int)}(h:ClL L) {i j:Nat}(h1:i≤j)(h2:j≤L.length):plc L i≤plc L j:=by
 by_cases e:i=j
 ·subst e;exact Nat.le_refl _
 ·exact Nat.le_of_lt (yE h (by omega) h2)
theorem Qh(L:List (List Int)):plc L 0=0:=by simp[plc,qd]
theorem Zj(L:List (List Int)):plc L L.length=qd L:=by simp[plc]
theorem vV {L:List (List Int)}(h:ClL L) {k:Nat}(hk:k≤L.length):plc L k≤qd L:=by
 rw[←Zj];exact jZ h hk (Nat.le_refl _)
theorem qo(L:List (List Int)):(pl L).length=L.length:=by simp[pl]
theorem ZU(L:List (List Int)) {k:Nat}(h:k< (pl L).length):(pl L)[k]=plc L k:=by simp[pl]
theorem zg2 {L:List (List Int)}(h:ClL L):(pl L).Pairwise (· < ·):=by
 rw[List.pairwise_iff_getElem]
 intro i j hi hj hij
 rw[ZU,ZU]
 rw[qo]at hj
 exact yE h hij (by omega)
theorem ClL.num {L:List (List Int)}(h:ClL L):∀{k:Nat},k≤L.length→k≤plc L k
 |0,_=>Nat.zero_le _
 |k+1,hk=>by
  have:=h.num (k:=k) (by omega)
  have:=Vk h (k:=k) (by omega)
  omega
theorem ClL.len {L:List (List Int)}(h:ClL L):L.length≤qd L:=by rw[←Zj];exact h.num (Nat.le_refl _)
def kf:List (List Int)→Int→Nat
 | [],_=>0
 |c::L,a=>if a<c.length then 0 else kf L (a-c.length)+1
theorem yL(c:List Int)(L:List (List Int))(k:Nat):plc (c::L) (k+1)=c.length+plc L k:=by simp[plc,qd]
theorem uq:∀(L:List (List Int)) (a:Int),kf L a≤L.length
 | [],_=>Nat.le_refl _
 |c::L,a=>by
  unfold kf
  split
  ·omega
  ·have:=uq L (a-c.length)
   simp only[List.length_cons];omega
theorem VW:∀(L:List (List Int)) (a:Int),0≤a→(plc L (kf L a):Int)≤a
 | [],a,h=>by simp[kf,plc,qd,h]
 |c::L,a,h=>by
  unfold kf
  split
  ·rw[Qh];omega
  ·have:=VW L (a-c.length) (by omega)
   rw[yL];omega
theorem zbv:∀(L:List (List Int)) (a:Int),kf L a<L.length→a< (plc L (kf L a+1):Int)
 | [],a,h=>by simp at h
 |c::L,a,h=>by
  unfold kf at h⊢
  split
  ·rename_i q
   rw[yL,Qh];omega
  ·rename_i q
   rw[if_neg q]at h
   have:=zbv L (a-c.length) (by simpa using h)
   rw[yL];omega
theorem zfB(L:List (List Int)) {a:Int}(h:a<0):kf L a=0:=by
 cases L with
 |nil=>rfl
 |cons c L=>unfold kf;rw[if_pos (by omega)]
theorem Yw {L:List (List Int)}(h:ClL L) {a:Int} {k:Nat}(hk:k≤L.length)(h1:(plc L k:Int)≤a)(h2:k<L.length→a< (plc L (k+1):Int)):kf L a=k:=by
 have q1:=VW L a (by omega)
 have q2:=zbv L a
 have q3:=uq L a
 by_cases c:kf L a<k
 ·have a1:=q2 (by omega)
  have a2:=jZ h (i:=kf L a+1) (j:=k) (by omega) hk
  omega
 ·by_cases c2:k<kf L a
  ·have a1:=h2 (by omega)
   have a2:=jZ h (i:=k+1) (j:=kf L a) (by omega) q3
   omega
  ·omega
theorem yT {L:List (List Int)}(h:ClL L) {k:Nat}(hk:k≤L.length):kf L (plc L k)=k:=
 Yw h hk (Int.le_refl _) (fun c=>by have:=Vk h c;omega)
theorem zkn {L:List (List Int)}(h:ClL L) {a:Int}(ha:(qd L:Int)≤a):kf L a=L.length:=
 Yw h (Nat.le_refl _) (by rw[Zj];exact ha) (fun c=>absurd c (Nat.lt_irrefl _))
theorem Uj {L:List (List Int)}(_:ClL L) {a:Int}(ha:a< (qd L:Int))(h0:0≤a):kf L a<L.length:=by
 have q1:=VW L a h0
 have q3:=uq L a
 refine Nat.lt_of_le_of_ne q3 (fun e=>?_)
 rw[e,Zj]at q1;omega
theorem vE {L:List (List Int)}(h:ClL L) {k:Nat}(hk:k≤L.length):cnt (pl L) (plc L k)=k:=by
 refine vI (by rw[qo];exact hk) (fun i hi hik=>?_) (fun i hi hik=>?_)
 ·rw[ZU];have:=yE h hik hk;omega
 ·rw[ZU];rw[qo]at hi;have:=jZ h hik (by omega);omega
theorem uK(S:List Nat)(a:Int):cnt S a≤S.length:=List.countP_le_length
def uN(t:zV):xP→Nat→List Int→List Nat
 |_,_,[]=>[]
 |s,i,r::l=>if(qQ t s r).2 then i::uN t (qQ t s r).1 (i+1) l else uN t (qQ t s r).1 (i+1) l
def zfm:Nat→List (List Int)→List Nat
 |_,[]=>[]
 |a,c::L=>a::zfm (a+c.length) L
theorem zh7:∀(L:List (List Int)) (a:Nat),zfm a L=(pl L).map (a+·)
 | [],a=>rfl
 |c::L,a=>by
  have e:pl (c::L)=0::(pl L).map (c.length+·):=by
   unfold pl
   rw[List.length_cons,List.range_succ_eq_map,List.map_cons,List.map_map,List.map_map,Qh]
   exact congrArg _ (List.map_congr_left (fun k _=>yL c L k))
  rw[zfm,zh7 L,e,List.map_cons,List.map_map]
  simp[Function.comp_def,Nat.add_assoc]
theorem zb2:∀(n:Nat) (l:List Int) (s:xP) (p:Int) (pre:List Int) (i:Nat),l.length≤n→KE s p pre→
  uN T0 s i l=zfm (i+Q5 za p pre l) (q8 za n ((l.take (Q5 za p pre l)).reverse++p::pre) (l.drop (Q5 za p pre l)))
 |n,[],s,p,pre,i,_,_=>by cases n<;>simp[uN,q8,zfm]
 |0,x::l,_,_,_,_,h,_=>by simp at h
 |n+1,x::l,s,p,pre,i,h,hi=>by
  have hc:=hi.cut x
  have hn:=hi.next x
  have hl:l.length≤n:=by simpa using h
  rw[uN,xF]
  simp only
  rw[hi.so,hc]
  simp only[Bool.not_true,Bool.false_or]
  by_cases g:xJ za p pre x=true
  ·have ih:=zb2 n l _ _ _ (i+1) hl hn
   have hr:=WE za l (p::pre) x
   rw[if_pos g,Q5,if_pos g,ih]
   simp only[List.take_zero,List.reverse_nil,List.nil_append,List.drop_zero,Nat.add_zero,q8,zfm]
   congr 2
   rw[List.length_cons,List.length_take];omega
  ·have g':xJ za p pre x=false:=by simpa using g
   have ih:=zb2 (n+1) l _ _ _ (i+1) (by omega) hn
   rw[if_neg g,Q5,if_neg g,ih]
   simp only[List.take_succ_cons,List.reverse_cons,List.append_assoc,List.singleton_append,List.drop_succ_cons]
   congr 1;omega
theorem zmZ(l:List Int):uN T0 Z6 0 l=pl (zL za l):=by
 have e0:∀L,zfm 0 L=pl L:=fun L=>by rw[zh7];simp
 rw[←e0]
 cases l with
 |nil=>rfl
 |cons x l=>
  have hs:=KE.start (pre:=[]) (x:=x) (.inl rfl)
  have hr:=WE za l [] x
  rw[uN,xF]
  have e1:(!Z6.some || yR Z6 (zP za x) (pcD x) (ZT za x))=true:=rfl
  simp only[e1,if_true,Nat.zero_add]
  rw[zb2 l.length l _ _ _ 1 (Nat.le_refl _) hs]
  unfold zL
  simp only[List.length_cons,q8,zfm]
  congr 2
  rw[List.length_take];omega
theorem zdX:∀(a:Nat) (x:Int) (pre xs:List Int) (_:a≤Q5 za x pre xs) (h:a< (x::xs).length),Q5 za x pre xs=a+Q5 za (x::xs)[a] (((x::xs).take a).reverse++pre) ((x::xs).drop (a+1))
 |0,x,pre,xs,_,_=>by simp
 |a+1,x,pre,[],h1,_=>by simp[Q5]at h1
 |a+1,x,pre,y::ys,h1,h2=>by
  rw[Q5]at h1⊢
  by_cases g:xJ za x pre y=true
  ·rw[if_pos g]at h1;omega
  ·rw[if_neg g]at h1⊢
   rw[zdX a y (x::pre) ys (by omega) (by simpa using h2)]
   simp only[List.getElem_cons_succ,List.take_succ_cons,List.reverse_cons,List.append_assoc,List.singleton_append,List.drop_succ_cons]
   omega
theorem zhn:∀(n:Nat) (l pre:List Int) (a:Nat) (_:l.length≤n) (h:a<l.length),
  a+1+Q5 za l[a] ((l.take a).reverse++pre) (l.drop (a+1))=plc (q8 za n pre l) (kf (q8 za n pre l) a+1)
 |_,[],_,_,_,h=>by simp at h
 |0,x::l,_,_,h1,_=>by simp at h1
 |n+1,x::xs,pre,a,h1,h2=>by
  have hr:=WE za xs pre x
  obtain⟨r,hR⟩:∃r,r=Q5 za x pre xs:=⟨_,rfl⟩
  rw[←hR]at hr
  rw[q8,←hR]
  have hc:(x::xs.take r).length=r+1:=by rw[List.length_cons,List.length_take];omega
  unfold kf
  rw[hc]
  by_cases c:a≤r
  ·rw[if_pos (by omega),yL,Qh,hc]
   have:=zdX a x pre xs (by omega) h2
   omega
  ·rw[if_neg (by omega),yL,hc]
   obtain⟨d,rfl⟩:∃d,a=d+(r+1):=⟨a- (r+1),by omega⟩
   simp only[List.length_cons]at h1 h2
   have ih:=zhn n (xs.drop r) ((xs.take r).reverse++x::pre) d (by rw[List.length_drop];omega) (by rw[List.length_drop];omega)
   have e1:((d+(r+1):Nat):Int)- ((r+1:Nat):Int)=(d:Int):=by omega
   rw[e1]
   have e2:(x::xs)[d+(r+1)]=(xs.drop r)[d]'(by rw[List.length_drop];omega):=by
    rw[List.getElem_drop]
    have:d+(r+1)=(r+d)+1:=by omega
    simp only[this,List.getElem_cons_succ]
   have e3:((x::xs).take (d+(r+1))).reverse++pre=((xs.drop r).take d).reverse++((xs.take r).reverse++x::pre):=by
    have:d+(r+1)=(r+d)+1:=by omega
    rw[this,List.take_succ_cons,List.take_add,List.reverse_cons,List.reverse_append]
    simp
   have e4:(x::xs).drop (d+(r+1)+1)=(xs.drop r).drop (d+1):=by
    rw[List.drop_drop]
    have:d+(r+1)+1=(r+(d+1))+1:=by omega
    rw[this,List.drop_succ_cons]
   rw[e2,e3,e4]
   omega
theorem zd8(l:List Int)(a:Nat)(h:a<l.length):a+1+Q5 za l[a] (l.take a).reverse (l.drop (a+1))=plc (zL za l) (kf (zL za l) a+1):=by
 have:=zhn l.length l [] a (Nat.le_refl _) h
 rw[List.append_nil]at this
 exact this
def isB(L:List (List Int))(i:Int):Bool:=decide ((plc L (kf L i):Int)=i)
theorem Ye(l:List Int)(L:List (List Int))(hL:L=zL za l)(h:ClL L)(i:Nat)(hi:i+1<l.length):xJ za l[i] (l.take i).reverse l[i+1]=isB L ((i+1:Nat):Int):=by
 have hs:qd L=l.length:=by rw[hL];exact Zr.sum l
 have e:=zd8 l i (by omega)
 rw[←hL,List.drop_eq_getElem_cons hi,Q5]at e
 have k1:=Uj h (a:=(i:Int)) (by omega) (by omega)
 have q1:=VW L i (by omega)
 have q2:=zbv L i k1
 by_cases g:xJ za l[i] (l.take i).reverse l[i+1]=true
 ·rw[if_pos g]at e
  rw[g]
  have:kf L ((i+1:Nat):Int)=kf L i+1:=Yw h (by omega) (by omega) (fun c=>by have:=Vk h c;omega)
  unfold isB
  rw[this]
  exact(decide_eq_true (by omega)).symm
 ·rw[if_neg g]at e
  have g':xJ za l[i] (l.take i).reverse l[i+1]=false:=by simpa using g
  rw[g']
  have:kf L ((i+1:Nat):Int)=kf L i:=Yw h (by omega) (by omega) (fun c=>by omega)
  unfold isB
  rw[this]
  exact(decide_eq_false (by omega)).symm
end Go.Proofs.YtjefahhmkcfiiaaGreat
end
section
namespace Go.Proofs.YtjefahhmkcfiiaaGreat
open Go.AM
set_option maxHeartbeats 4000000
set_option maxRecDepth 10000
def X1(L:List (List Int)):PV:=.agg [QL (pl L),.int .i64 (qd L:Nat)]
attribute [go_sem] X1
attribute [local irreducible] za
attribute [go_sem] qo
theorem zhF {L:List (List Int)} {k:Nat}(h:k<L.length):elemAt (Zt (pl L)) k=.int .i64 (plc L k:Nat):=by
 rw[WD (by rw[qo];exact h),ZU]
theorem WQ [Gi] {L:List (List Int)}(h:ClL L)(a:Int):CR Tryz.prog 156 [] [.p (X1 L),.p (.int .i64 a)] [] (is (.p (.int .i64 (cnt (pl L) a:Nat)))):=by
 refine walk Tryz.func156 8 [] [] [] ?_
 simp (maxSteps:=1000000) [go_sem,Tryz.f156]
 refine zo (XG (pl L) a (zg2 h) (by have:=h.full.n;rw[qo];omega)) ?_
 simp (maxSteps:=1000000) [go_sem]
 exact ret
def stX(L:List (List Int))(k:Int):Nat:=if 0≤k∧k<L.length then plc L k.toNat else qd L
theorem zfL {L:List (List Int)} {k:Nat}(h:k≤L.length):stX L k=plc L k:=by
 unfold stX
 by_cases c:k<L.length
 ·rw[if_pos (by omega),Int.toNat_natCast]
 ·have:k=L.length:=by omega
  rw[if_neg (by omega),this,Zj]
theorem zbg [Gi](L:List (List Int))(k:Int):CR Tryz.prog 155 [] [.p (X1 L),.p (.int .i64 k)] [] (is (.p (.int .i64 (stX L k:Nat)))):=by
 refine walk Tryz.func155 5 [] [] [] ?_
 by_cases c1:k<0
 ·have e:stX L k=qd L:=if_neg (by omega)
  rw[e]
  simp (maxSteps:=1000000) [go_sem,Tryz.f155,c1]
  exact ret
 ·by_cases c2:(L.length:Int)≤k
  ·have e:stX L k=qd L:=if_neg (by omega)
   rw[e]
   simp (maxSteps:=1000000) [go_sem,Tryz.f155,c1,c2]
   exact ret
  ·obtain⟨n,rfl⟩:∃n:Nat,k=n:=⟨k.toNat,by omega⟩
   have hn:n<L.length:=by omega
   rw[zfL (by omega)]
   have em:=zhF hn
   simp (maxSteps:=1000000) [go_sem,Tryz.f155,c1,c2,em,hn]
   exact ret
theorem jy [Gi] {L:List (List Int)}(h:ClL L)(a:Int):CR Tryz.prog 92 [] [.p (X1 L),.p (.int .i64 a)] [] (is (.p (.int .i64 (plc L (kf L a):Nat)))):=by
 refine walk Tryz.func92 8 [20,27,30] [] [] ?_
 simp (maxSteps:=1000000) [go_sem,Tryz.f92]
 refine zo (XG (pl L) a (zg2 h) (by have:=h.full.n;rw[qo];omega)) ?_
 have hcl:=uK (pl L) a
 rw[qo]at hcl
 by_cases c1:(qd L:Int)≤a
 ·have e:plc L (kf L a)=qd L:=by rw[zkn h c1,Zj]
  rw[e]
  simp (maxSteps:=1000000) [go_sem,c1]
  exact ret
 ·have hk:=uq L a
  cases hh:zgF (pl L) a with
  |true=>
   obtain⟨s,hs,es⟩:=List.any_eq_true.1 hh
   obtain⟨k,hkl,rfl⟩:=List.mem_iff_getElem.1 hs
   rw[ZU]at es
   rw[qo]at hkl
   simp only[decide_eq_true_eq]at es
   have e:(plc L (kf L a):Int)=a:=by rw[←es,yT h (by omega)]
   simp (maxSteps:=1000000) [go_sem,c1,e]
   exact ret
  |false=>
   have hno:∀k,k<L.length→(plc L k:Int)≠a:=fun k hk e=>by
    have:=List.any_eq_false.1 hh (plc L k) (by rw[←ZU L (by rw[qo];exact hk)];exact List.getElem_mem _)
    exact this (decide_eq_true e)
   have hcnt:kf L a+1=cnt (pl L) a∨(a<0∧cnt (pl L) a=0):=by
    by_cases c3:a<0
    ·exact .inr ⟨c3,vI (Nat.zero_le _) (fun i _ hi=>absurd hi (by omega)) (fun i _ _=>by omega)⟩
    ·have q0:=Uj h (a:=a) (by omega) (by omega)
     have q1:=VW L a (by omega)
     have q2:=zbv L a q0
     refine .inl (vI (by rw[qo];omega) (fun i hi hik=>?_) (fun i hi hik=>?_)).symm
     ·rw[ZU]
      have a1:=jZ h (i:=i) (j:=kf L a) (by omega) (by omega)
      have a2:=hno _ q0
      omega
     ·rw[ZU]
      rw[qo]at hi
      have a1:=jZ h (i:=kf L a+1) (j:=i) hik (by omega)
      omega
   rcases hcnt with e|⟨e1,e2⟩
   ·have c4:¬(cnt (pl L) a:Int)=0:=by omega
    have c4':¬cnt (pl L) a=0:=by omega
    have w1:IntKind.i64.wrap ((cnt (pl L) a:Int)-1)=(kf L a:Int):=zq (by have:=h.full.n;omega) e.symm
    have hkl:kf L a<L.length:=by omega
    have em:=zhF hkl
    simp (maxSteps:=1000000) [go_sem,c1,c4',w1,em,hkl]
    exact ret
   ·rw[zfB L e1,Qh]
    simp (maxSteps:=1000000) [go_sem,c1,e2]
    exact ret
def goK(L:List (List Int))(a n:Int):Nat:=(max (min ((kf L a:Int)+n) L.length) 0).toNat
theorem zjZ(L:List (List Int))(a n:Int):goK L a n≤L.length:=by unfold goK;omega
theorem zn3 [Gi] {L:List (List Int)}(h:ClL L)(a n:Int):CR Tryz.prog 106 [] [.p (X1 L),.p (.int .i64 a),.p (.int .i64 n)] [] (is (.p (.int .i64 (plc L (goK L a n):Nat)))):=by
 refine walk Tryz.func106 8 [] [1] [] ?_
 have hk:=uq L a
 have hn:=h.full.n
 have hst:=zbg L (goK L a n)
 have hgo:=zjZ L a n
 rw[zfL hgo]at hst
 have hah:=WQ h (plc L (kf L a):Nat)
 rw[vE h hk]at hah
 have w1:IntKind.i64.wrap (-(kf L a:Int))= -(kf L a:Int):=wrap64 (by omega) (by omega)
 have w2:IntKind.i64.wrap ((L.length:Int)-kf L a)=(L.length:Int)-kf L a:=wrap64 (by omega) (by omega)
 have w3:IntKind.i64.wrap ((kf L a:Int)+min (max n (-(kf L a:Int))) ((L.length:Int)-kf L a))=(goK L a n:Int):=by
  rw[wrap64 (by omega) (by omega)];unfold goK;omega
 simp (maxSteps:=1000000) [go_sem,Tryz.f106]
 refine zN (.p (.int .i64 (plc L (kf L a):Nat))) rfl rfl (fun _=>zM 92 (jy h a) rfl ⟨rfl,by simp[Tryz.f92]⟩ ⟨by simp[go_sem],by simp[go_sem]⟩) ?_
 simp (maxSteps:=1000000) [go_sem]
 refine zN (.p (.int .i64 (kf L a:Nat))) rfl rfl (fun _=>zM 156 hah rfl ⟨rfl,by simp[Tryz.f156]⟩ ⟨by simp[go_sem],by simp[go_sem]⟩) ?_
 simp (maxSteps:=1000000) [go_sem,w1,w2,w3]
 refine zo hst ?_
 simp (maxSteps:=1000000) [go_sem]
 exact ret
theorem YJ [Gi] {e:PV}(hT:Zc e)(s:xP)(r:Int)(hr:zB r):CR Tryz.prog 171 [] [.p (kx s),.p e,.p (.int .i32 r)] [] (is (.tup [.p (kx (qQ T0 s r).1),.p (.bool (qQ T0 s r).2)])):=by
 obtain⟨c,b,j,f,p,h,rfl⟩:=hT
 exact Yb h Z3 _ _ _ _ s r hr
theorem zjx [Gi] {e:PV}(hT:Zc e)(l:List Int)(hn:l.length<2^31)(hr:∀x∈l,zB x):CR Tryz.prog 138 [] [.p e,.p (zg l)] [] (is (.p (QL (pl (zL za l))))):=by
 rw[←zmZ l]
 refine walk Tryz.func138 11 [11,12,13] [] [] ?_
 simp (maxSteps:=1000000) [go_sem,Tryz.f138]
 refine loop (fun r:Nat×xP×List Nat=>r.1≤l.length∧r.2.2.length≤r.1∧uN T0 Z6 0 l=r.2.2++uN T0 r.2.1 r.1 (l.drop r.1)) (fun r=>[(6,.os [6] 1 (Zt r.2.2)),(13,.p (.int .i64 (r.1:Nat))),(7,.zW),(8,.zW),(9,.zW),(10,.zW)]) (fun r=>[([5],zjn r.2.1)]) (fun r=>l.length-r.1) (0,Z6,[]) ⟨by simp,by simp,by simp⟩ (fun r hr2=>?_) (by simp[go_sem,LeS,leV,leR,leA,leL,zjn,Z6,Zt])
 obtain⟨i,s,o⟩:=r
 obtain⟨h1,h0,h2⟩:=hr2
 simp only at h1 h0 h2
 by_cases hil:i<l.length
 ·obtain⟨y,hy⟩:∃y,l[i]=y:=⟨_,rfl⟩
  have hyr:zB y:=hr y (by rw[←hy];exact List.getElem_mem _)
  have em:elemAt (zu l) i=.int .i32 y:=by rw[Qx hil,hy]
  have g:(i:Int)<l.length:=by omega
  have w:IntKind.i64.wrap ((i:Int)+1)=((i+1:Nat):Int):=zI (by omega)
  rw[List.drop_eq_getElem_cons hil,hy,uN]at h2
  simp (maxSteps:=1000000) [go_sem,g,em,zjn]
  refine zo (YJ hT s y hyr) ?_ (ha':=by simp[go_sem,kx])
  generalize qQ T0 s y=q at h2
  obtain⟨s',ct⟩:=q
  cases ct with
  |true=>
   simp (maxSteps:=1000000) [go_sem,kx,w]
   exact⟨by omega,next (i+1,s',o++[i]) ⟨by show i+1≤l.length;omega,by simp;omega,by simpa using h2⟩ (by show l.length- (i+1)<l.length-i;omega) (by simp[go_sem,LeS,leV,leR,leA,leL,Zt])⟩
  |false=>
   simp (maxSteps:=1000000) [go_sem,kx,w]
   exact next (i+1,s',o) ⟨by show i+1≤l.length;omega,by show o.length≤i+1;omega,by simpa using h2⟩ (by show l.length- (i+1)<l.length-i;omega) (by simp[go_sem,LeS,leV,leR,leA,leL])
 ·have g:¬(i:Int)<l.length:=by omega
  rw[List.drop_eq_nil_of_le (by omega),uN,List.append_nil]at h2
  rw[h2]
  simp (maxSteps:=1000000) [go_sem,g]
  exact ret
theorem zgJ [Gi] {e:PV}(hT:Zc e)(l:List Int)(hn:l.length<2^31)(hr:∀x∈l,zB x):CR Tryz.prog 84 [] [.p e,.p (zg l)] [] (is (.p (X1 (zL za l)))):=by
 refine walk Tryz.func84 5 [] [] [] ?_
 have hs:qd (zL za l)=l.length:=Zr.sum l
 simp (maxSteps:=1000000) [go_sem,Tryz.f84]
 refine zo (zjx hT l hn hr) ?_
 simp (maxSteps:=1000000) [go_sem,←hs]
 exact ret
end Go.Proofs.YtjefahhmkcfiiaaGreat
end
