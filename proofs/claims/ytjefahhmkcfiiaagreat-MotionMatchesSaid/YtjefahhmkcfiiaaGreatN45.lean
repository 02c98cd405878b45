/- A part of the proof of this seat's statements, by an abstract machine: what each operation does to values, and what the law's functions compute. Conditions: as each law says. -/
import Derived.Test.YtjefahhmkcfiiaaGreatN41
import Derived.Test.YtjefahhmkcfiiaaGreatN20
import Derived.Test.YtjefahhmkcfiiaaGreatN42
import Derived.Test.YtjefahhmkcfiiaaGreatN43
section
namespace Go.Proofs.YtjefahhmkcfiiaaGreat
open Go.AM
set_option maxHeartbeats 4000000
set_option maxRecDepth 10000
attribute [go_sem] zh zr zF zp zo
@[go_sem] theorem znR : (Value.slice none 0 0).oneCell' = true := rfl
@[go_sem] theorem znV : (Value.pointer none).oneCell' = true := rfl
theorem call [Gi] {A:Prop} {S:St} {f:FuncId} {args:List Operand} {dst:Option Nat} {K:St→Prop}(m:List (Tok×Tok)) {pin:List Tok} {as1:List AV} {rs:List (Tok×List AV)} {R:AV→List (Tok×List AV)→Prop}(hC:CR Tryz.prog f pin as1 rs R)
  (hk:∀x rs',R x rs'→K ((uf S (dst.getD S.n) m pin rs').qH dst (x.ren fun u=>some (yk (dst.getD S.n) m u))))
  (hb:A:=by exact⟨rfl,by decide+kernel⟩)
  (hm:okM (dst.getD S.n) m=true∧S.pin.all (jr (dst.getD S.n) m pin)=true∧dOK S dst:=by simp[go_sem,zD])
  (ha:(ZZ S m args).1:=by simp[go_sem]) (ha':(ZZ S m args).2=as1:=by simp[go_sem]) (hr:Qq S m m=rs:=by simp[go_sem]):
  A∧JM Tryz.prog S f args dst K:=
 ⟨hb,zb m hC hm ⟨ha,ha'⟩ hr hk⟩
theorem zn [Gi] {A:Prop} {S:St} {f:FuncId} {args:List Operand} {dst:Option Nat} {K:St→Prop} {as1:List AV} {v:AV}(hC:CR Tryz.prog f [] as1 [] (is v))
  (hk:K ((uf S (dst.getD S.n) [] [] []).qH dst (v.ren fun u=>some (yk (dst.getD S.n) [] u))))
  (hb:A:=by exact⟨rfl,by decide+kernel⟩)
  (hm:okM (dst.getD S.n) []=true∧S.pin.all (jr (dst.getD S.n) [] [])=true∧dOK S dst:=by simp[go_sem,zD])
  (ha:(ZZ S [] args).1:=by simp[go_sem]) (ha':(ZZ S [] args).2=as1:=by simp[go_sem]):
  A∧JM Tryz.prog S f args dst K:=
 ⟨hb,zb [] hC hm ⟨ha,ha'⟩ (by simp[go_sem]) (fun x rs' h=>by obtain⟨rfl,rfl⟩:=h;exact hk)⟩
theorem ret [Gi] {ts:List (Nat×Option TypeId)} {S:St} {x:AV}(hp:S.pin=[]:=by rfl)
  (hx:(zf Tryz.prog S ts).1∧leT ((zf Tryz.prog S ts).2.upd (AM.fil (fun _=>false) ftt)) x:=by simp[go_sem,zf,leA,leT,leP]):uT Tryz.prog [] ts (is x) S:=zg x hp hx ⟨rfl,rfl⟩
def keeps(R:List (Tok×List AV))(v:PV):AV→List (Tok×List AV)→Prop:=fun x rs=>rs=R∧x=.p v
def idm(l:List Tok):List (Tok×Tok):=l.map fun t=>(t,t)
attribute [go_sem] idm St.ofR
def zd5(pin:List Tok)(R:List (Tok×List AV))(v:PV):AV→List (Tok×List AV)→Prop:=fun x rs=>x=.p v∧Qq (St.ofR rs) (idm pin) (idm pin)=R
theorem CR.keeps [Gi] {f:FuncId} {pin:List Tok} {args:List AV} {rs R:List (Tok×List AV)} {v:PV}(h:CR Tryz.prog f pin args rs (zd5 pin R v))(hok:(okM 1000000 (idm pin)&&pin.all fun t=>inM (idm pin) t==some t)=true):CR Tryz.prog f pin args rs (keeps R v):=by
 simp only[Bool.and_eq_true]at hok
 refine CR.ren h 1000000 ?_
 rintro x rs' ⟨rfl,h2⟩
 exact⟨idm pin,hok.1,hok.2,h2,rfl⟩
theorem YK [Gi] {ts:List (Nat×Option TypeId)} {S:St} {pin:List Tok} {R:List (Tok×List AV)} {v:PV}(hp:S.pin=pin∧pin.all (fun t=>pin.contains t)=true:=by simp)
  (hx:(zf Tryz.prog S ts).1∧leT ((zf Tryz.prog S ts).2.upd (AM.fil (fun t=>pin.contains t) ftt)) (.p v):=by simp[go_sem,zf,leA,leT,leP])
  (hr:Qq (St.ofR (VY pin (S.fil (fun t=>pin.contains t) ftt).rs)) (idm pin) (idm pin)=R:=by simp[go_sem]):uT Tryz.prog pin ts (zd5 pin R v) S:=zl pin (.p v) hp hx ⟨rfl,hr⟩
def yU(R:List (Tok×List AV))(v:AV):AV→List (Tok×List AV)→Prop:=fun x rs=>rs=R∧x=v
def zaD(pin:List Tok)(R:List (Tok×List AV))(v:AV):AV→List (Tok×List AV)→Prop:=fun x rs=>x=v∧Qq (St.ofR rs) (idm pin) (idm pin)=R
theorem CR.yU [Gi] {f:FuncId} {pin:List Tok} {args:List AV} {rs R:List (Tok×List AV)} {v:AV}(h:CR Tryz.prog f pin args rs (zaD pin R v))(hok:(okM 1000000 (idm pin)&&pin.all fun t=>inM (idm pin) t==some t)=true)(hv:v.ren (inM (idm pin))=v):CR Tryz.prog f pin args rs (yU R v):=by
 simp only[Bool.and_eq_true]at hok
 refine CR.ren h 1000000 ?_
 rintro x rs' ⟨rfl,h2⟩
 exact⟨idm pin,hok.1,hok.2,h2,hv⟩
theorem Qi [Gi] {ts:List (Nat×Option TypeId)} {S:St} {pin:List Tok} {R:List (Tok×List AV)} {v:AV}(hp:S.pin=pin∧pin.all (fun t=>pin.contains t)=true:=by simp)
  (hx:(zf Tryz.prog S ts).1∧leT ((zf Tryz.prog S ts).2.upd (AM.fil (fun t=>pin.contains t) ftt)) v:=by simp[go_sem,zf,leA,leT,leP])
  (hr:Qq (St.ofR (VY pin (S.fil (fun t=>pin.contains t) ftt).rs)) (idm pin) (idm pin)=R:=by simp[go_sem]):uT Tryz.prog pin ts (zaD pin R v) S:=zl pin v hp hx ⟨rfl,hr⟩
theorem next {ι:Type} {inv:ι→Prop} {st:ι→St} {m:ι→Nat} {i:ι} {Q:Exit→St→Prop} {S:St}(j:ι)(h1:inv j)(h3:m j<m i:=by simp;omega)(h2:LeS S (st j):=by simp[go_sem,LeS,leV,leR,leA,leL,zj,leT,leP]):Yz inv st m i Q .normal S:=zc j h1 h2 h3
theorem loop [Gi] {D:List Nat} {c:Code} {Q:Exit→St→Prop} {S:St} {ι:Type}(inv:ι→Prop)(V:ι→List (Nat×AV))(R:ι→List (Tok×List AV))(m:ι→Nat)(i:ι)(hi:inv i)
  (h:∀i,inv i→wpA Tryz.prog D c (Yz inv (fun i=>S.zdz (V i) (R i)) m i Q) (S.zdz (V i) (R i))) (h0:LeS S (S.zdz (V i) (R i)):=by simp[go_sem,LeS,leV,leR,leA,leL,zj,leT,leP]):wpA Tryz.prog D (.loop c) Q S:=
 zi inv V R m i hi h0 h
theorem walk [Gi] {f:FuncId} {fn:Func} {c:Code} {ts:List (Nat×Option TypeId)}(hf:Tryz.prog.funcs[f]?=some fn)(nv:Nat) {pin:List Tok} {args:List AV} {rs:List (Tok×List AV)} {R:AV→List (Tok×List AV)→Prop}(ex:List Nat)(D:List Nat)(rm:List Nat)
  (h:wpA Tryz.prog D c (ve Tryz.prog pin ts R) {n:=fn.ntmps,nv:=nv,vs:=xQ 0 args,ts:=[],rs:=rs,pin:=pin,ex:=ex,rm:=rm}) (hb:fn.body=some c:=by exact rfl) (hok:Zh D c=true:=by kernel_rfl)
  (hres:vo fn.results.toList=some ts:=by exact rfl) (hnv:args.length≤nv:=by simp) (hn:args.length≤fn.ntmps:=by simp):CR Tryz.prog f pin args rs R:=
 qK D mixed nv ex hf hb hok rm hres hnv hn h
theorem X0 [Gi] {f:FuncId} {fn:Func} {c:Code} {ts:List (Nat×Option TypeId)}(hf:Tryz.prog.funcs[f]?=some fn)(nv:Nat) {pin:List Tok} {args:List AV} {rs R:List (Tok×List AV)} {v:PV}(ex:List Nat)(D:List Nat)(rm:List Nat)
  (h:wpA Tryz.prog D c (ve Tryz.prog pin ts (zd5 pin R v)) {n:=fn.ntmps,nv:=nv,vs:=xQ 0 args,ts:=[],rs:=rs,pin:=pin,ex:=ex,rm:=rm}) (hok1:(okM 1000000 (idm pin)&&pin.all fun t=>inM (idm pin) t==some t)=true:=by decide) (hb:fn.body=some c:=by exact rfl) (hok:Zh D c=true:=by kernel_rfl)
  (hres:vo fn.results.toList=some ts:=by exact rfl) (hnv:args.length≤nv:=by simp) (hn:args.length≤fn.ntmps:=by simp):CR Tryz.prog f pin args rs (keeps R v):=
 CR.keeps (qK D mixed nv ex hf hb hok rm hres hnv hn h) hok1
theorem znh [Gi] {f:FuncId} {fn:Func} {c:Code} {ts:List (Nat×Option TypeId)}(hf:Tryz.prog.funcs[f]?=some fn)(nv:Nat) {pin:List Tok} {args:List AV} {rs R:List (Tok×List AV)} {v:AV}(ex:List Nat)(D:List Nat)(rm:List Nat)
  (h:wpA Tryz.prog D c (ve Tryz.prog pin ts (zaD pin R v)) {n:=fn.ntmps,nv:=nv,vs:=xQ 0 args,ts:=[],rs:=rs,pin:=pin,ex:=ex,rm:=rm}) (hok1:(okM 1000000 (idm pin)&&pin.all fun t=>inM (idm pin) t==some t)=true:=by decide) (hv:v.ren (inM (idm pin))=v:=by rfl) (hb:fn.body=some c:=by exact rfl) (hok:Zh D c=true:=by kernel_rfl)
  (hres:vo fn.results.toList=some ts:=by exact rfl) (hnv:args.length≤nv:=by simp) (hn:args.length≤fn.ntmps:=by simp):CR Tryz.prog f pin args rs (yU R v):=
 CR.yU (qK D mixed nv ex hf hb hok rm hres hnv hn h) hok1 hv
end Go.Proofs.YtjefahhmkcfiiaaGreat
end
section
namespace Go.Proofs.YtjefahhmkcfiiaaGreat
open Go.AM
set_option maxHeartbeats 4000000
set_option maxRecDepth 10000
def Xa(l:List Nat):List PV:=l.map fun n=>.int .i64 (n:Nat)
def X3(l:List Nat):PV:=.sl 1 (Xa l)
attribute [go_sem] X3
@[go_sem] theorem zjr (l : List Nat) : (Xa l).length = l.length := by simp [Xa]
theorem zaS {l:List Nat} {j:Nat}(h:j<l.length):elemAt (Xa l) j=.int .i64 (l[j]:Nat):=by rw[Xa,zq (fun r:Nat=>PV.int .i64 r) l j h]
theorem zi3 {l:List Nat} {j:Nat}(h:l.length≤j):elemAt (Xa l) j=.int .i8 0:=by
 unfold elemAt
 rw[List.getD_eq_getElem?_getD,List.getElem?_eq_none (by rw[zjr];exact h)];rfl
def cnt(S:List Nat)(a:Int):Nat:=S.countP fun(s:Nat)=>decide ((s:Int)<a)
def ze6(S:List Nat)(a:Int):Bool:=S.any fun(s:Nat)=>decide ((s:Int)=a)
theorem wB {S:List Nat} {a:Int} {k:Nat}(hk:k≤S.length)(h1:∀i (h:i<S.length),i<k→(S[i]:Int)<a)(h2:∀i (h:i<S.length),k≤i→a≤(S[i]:Int)):cnt S a=k:=by
 unfold cnt
 rw[←List.take_append_drop k S,List.countP_append]
 have e1:(S.take k).countP (fun(s:Nat)=>decide ((s:Int)<a))=(S.take k).length:=by
  rw[List.countP_eq_length]
  intro s hs
  obtain⟨i,hi,rfl⟩:=List.mem_iff_getElem.1 hs
  rw[List.length_take]at hi
  rw[List.getElem_take]
  exact decide_eq_true (h1 i (by omega) (by omega))
 have e2:(S.drop k).countP (fun(s:Nat)=>decide ((s:Int)<a))=0:=by
  rw[List.countP_eq_zero]
  intro s hs
  obtain⟨i,hi,rfl⟩:=List.mem_iff_getElem.1 hs
  rw[List.length_drop]at hi
  rw[List.getElem_drop]
  have:=h2 (k+i) (by omega) (by omega)
  simp only[decide_eq_true_eq];omega
 rw[e1,e2,List.length_take];omega
theorem zkl [Gi](a b:Int):CR Tryz.prog 186 [] [.p (.int .i64 a),.p (.int .i64 b)] [] (is (.p (.bool (decide (a<b))))):=by
 refine walk Tryz.func186 5 [] [] [] ?_
 simp (maxSteps:=1000000) [go_sem,Tryz.f186]
 refine zn (zej a) ?_
 simp (maxSteps:=1000000) [go_sem]
 exact ret
theorem zke [Gi](a:Int):CR Tryz.prog 187 [] [.p (.int .i64 a)] [] (is (.p (.bool false))):=by
 refine walk Tryz.func187 3 [] [] [] ?_
 simp (maxSteps:=1000000) [go_sem,Tryz.f187]
 exact ret
theorem YJ [Gi](S:List Nat)(a:Int)(hS:S.Pairwise (· < ·))(hn:S.length<2^31):CR Tryz.prog 150 [] [.p (X3 S),.p (.int .i64 a)] [] (is (.tup [.p (.int .i64 (cnt S a:Nat)),.p (.bool (ze6 S a))])):=by
 refine walk Tryz.func150 10 [] [] [] ?_
 have hinc:∀i j (hi:i<S.length) (hj:j<S.length),i<j→S[i]<S[j]:=fun i j hi hj h=>List.pairwise_iff_getElem.1 hS i j hi hj h
 simp (maxSteps:=1000000) [go_sem,Tryz.f150]
 refine loop (fun r:Nat×Nat=>r.1≤r.2∧r.2≤S.length∧(∀i (hi:i<S.length),i<r.1→(S[i]:Int)<a)∧∀i (hi:i<S.length),r.2≤i→a≤(S[i]:Int)) (fun r=>[(7,.p (.int .i64 (r.1:Nat))),(8,.p (.int .i64 (r.2:Nat)))]) (fun _=>[]) (fun r=>r.2-r.1) (0,S.length) ⟨by simp,by simp,by simp,fun i hi h=>absurd h (by simpa using hi)⟩ (fun r hr=>?_)
 obtain⟨i,j⟩:=r
 obtain⟨h1,h2,h3,h4⟩:=hr
 simp only at h1 h2 h3 h4
 by_cases h:i<j
 ·obtain⟨s,hs⟩:∃s,s=i+j:=⟨_,rfl⟩
  obtain⟨m,hm⟩:∃m,m=s/2:=⟨_,rfl⟩
  have g:(i:Int)<j:=by omega
  have w1:IntKind.i64.wrap ((i:Int)+j)=(s:Int):=yE (by omega) hs
  have w2:IntKind.u64.wrap (s:Int)=(s:Int):=JI (by omega)
  have w3:(s:Int).fdiv 2=(m:Int):=Ud hm
  have w4:IntKind.i64.wrap (m:Int)=(m:Int):=Ym (by omega)
  have w5:IntKind.i64.wrap ((m:Int)+1)=((m+1:Nat):Int):=zP (by omega)
  have hml:m<S.length:=by omega
  have em:=zaS hml
  obtain⟨q,hq⟩:∃q,S[m]=q:=⟨_,rfl⟩
  rw[hq]at em
  simp (maxSteps:=1000000) [go_sem,g,w1,w2,w3,w4,em,hml]
  refine zn (zkl q a) ?_
  by_cases hb:(q:Int)<a
  ·simp (maxSteps:=1000000) [go_sem,hb,w5]
   refine next (m+1,j) ⟨by show m+1≤j;omega,h2,fun k hk hkm=>?_,h4⟩ (by show j- (m+1)<j-i;omega)
   by_cases e:k=m
   ·subst e;rw[hq];exact hb
   ·have:=hinc k m hk hml (by simp at hkm;omega)
    omega
  ·simp (maxSteps:=1000000) [go_sem,hb]
   refine next (i,m) ⟨by show i≤m;omega,by show m≤S.length;omega,h3,fun k hk hkm=>?_⟩ (by show m-i<j-i;omega)
   by_cases e:k=m
   ·subst e;rw[hq];omega
   ·have:=hinc m k hml hk (by simp at hkm;omega)
    omega
 ·obtain rfl:i=j:=by omega
  have e:=wB h2 h3 h4
  rw[e]
  have g:¬(i:Int)<i:=by omega
  by_cases hil:i<S.length
  ·have em:=zaS hil
   have hc:=h4 i hil (Nat.le_refl _)
   have g2:(i:Int)<S.length:=by omega
   obtain⟨q,hq⟩:∃q,S[i]=q:=⟨_,rfl⟩
   rw[hq]at em hc
   by_cases hf:(q:Int)=a
   ·have hh:ze6 S a=true:=List.any_eq_true.2 ⟨q,by rw[←hq];exact List.getElem_mem _,decide_eq_true hf⟩
    rw[hh]
    simp (maxSteps:=1000000) [go_sem,g,g2,em,hf]
    exact ret
   ·have hh:ze6 S a=false:=by
     rw[ze6,List.any_eq_false]
     intro s hs
     obtain⟨k,hk,rfl⟩:=List.mem_iff_getElem.1 hs
     simp only[decide_eq_true_eq]
     intro hk2
     by_cases c1:k<i
     ·have:=h3 k hk c1;omega
     ·by_cases c2:k=i
      ·subst c2;omega
      ·have:=hinc i k hil hk (by omega)
       omega
    rw[hh]
    simp (maxSteps:=1000000) [go_sem,g,g2,em,hf]
    refine zn (zke q) ?_
    simp (maxSteps:=1000000) [go_sem]
    exact ret
  ·have hh:ze6 S a=false:=by
    rw[ze6,List.any_eq_false]
    intro s hs
    obtain⟨k,hk,rfl⟩:=List.mem_iff_getElem.1 hs
    have:=h3 k hk (by omega)
    simp only[decide_eq_true_eq]
    omega
   have g2:¬(i:Int)<S.length:=by omega
   have em:=zi3 (l:=S) (j:=i) (by omega)
   rw[hh]
   simp (maxSteps:=1000000) [go_sem,g,g2,em]
   exact ret
end Go.Proofs.YtjefahhmkcfiiaaGreat
end
section
namespace Go.Proofs.YtjefahhmkcfiiaaGreat
open Go.AM
set_option maxHeartbeats 4000000
set_option maxRecDepth 10000
def plc(L:List (List Int))(k:Nat):Nat:=qi (L.take k)
def pl(L:List (List Int)):List Nat:=(List.range L.length).map (plc L)
structure ClL(L:List (List Int)):Prop where
 full:Ye L
 sum:qi L<2^31
theorem vR {L:List (List Int)} {k:Nat}(h:k<L.length):plc L (k+1)=plc L k+L[k].length:=jM h
theorem ClL.pos {L:List (List Int)}(h:ClL L) {k:Nat}(hk:k<L.length):0<L[k].length:=by
 obtain⟨x,c',e,_⟩:=h.full.r L[k] (List.getElem_mem hk)
 rw[e];simp
theorem j8 {L:List (List Int)}(h:ClL L) {k:Nat}(hk:k<L.length):plc L k<plc L (k+1):=by
 have:=h.pos hk
 rw[vR hk];omega
theorem qS {L:List (List Int)}(h:ClL L):∀{i j:Nat},i<j→j≤L.length→plc L i<plc L j
 |i,0,h1,_=>by omega
 |i,j+1,h1,h2=>by
  have a:=j8 h (k:=j) (by omega)
  by_cases e:i=j
  ·subst e;exact a
  ·have:=qS h (i:=i) (j:=j) (by omega) (by omega)
   omega
theorem jI {L:List (List Int)}(h:ClL L) {i j:Nat}(h1:i≤j)(h2:j≤L.length):plc L i≤plc L j:=by
 by_cases e:i=j
 ·subst e;exact Nat.le_refl _
 ·exact Nat.le_of_lt (qS h (by omega) h2)
theorem qV(L:List (List Int)):plc L 0=0:=by simp[plc,qi]
theorem qc(L:List (List Int)):plc L L.length=qi L:=by simp[plc]
theorem zkA {L:List (List Int)}(h:ClL L) {i j:Nat}(h1:i≤L.length)(h2:j≤L.length)(e:plc L i=plc L j):i=j:=by
 by_cases c:i<j
 ·have:=qS h c h2;omega
 ·by_cases c2:j<i
  ·have:=qS h c2 h1;omega
  ·omega
theorem va {L:List (List Int)}(h:ClL L) {k:Nat}(hk:k≤L.length):plc L k≤qi L:=by
 rw[←qc];exact jI h hk (Nat.le_refl _)
theorem ZU(L:List (List Int)):(pl L).length=L.length:=by simp[pl]
theorem jh(L:List (List Int)) {k:Nat}(h:k< (pl L).length):(pl L)[k]=plc L k:=by simp[pl]
theorem zi7 {L:List (List Int)}(h:ClL L):(pl L).Pairwise (· < ·):=by
 rw[List.pairwise_iff_getElem]
 intro i j hi hj hij
 rw[jh,jh]
 rw[ZU]at hj
 exact qS h hij (by omega)
theorem ClL.num {L:List (List Int)}(h:ClL L):∀{k:Nat},k≤L.length→k≤plc L k
 |0,_=>Nat.zero_le _
 |k+1,hk=>by
  have:=h.num (k:=k) (by omega)
  have:=j8 h (k:=k) (by omega)
  omega
theorem ClL.len {L:List (List Int)}(h:ClL L):L.length≤qi L:=by rw[←qc];exact h.num (Nat.le_refl _)
def kf:List (List Int)→Int→Nat
 | [],_=>0
 |c::L,a=>if a<c.length then 0 else kf L (a-c.length)+1
theorem xV(c:List Int)(L:List (List Int))(k:Nat):plc (c::L) (k+1)=c.length+plc L k:=by simp[plc,qi]
theorem Qx:∀(L:List (List Int)) (a:Int),kf L a≤L.length
 | [],_=>Nat.le_refl _
 |c::L,a=>by
  unfold kf
  split
  ·omega
  ·have:=Qx L (a-c.length)
   simp only[List.length_cons];omega
theorem vT:∀(L:List (List Int)) (a:Int),0≤a→(plc L (kf L a):Int)≤a
 | [],a,h=>by simp[kf,plc,qi,h]
 |c::L,a,h=>by
  unfold kf
  split
  ·rw[qV];omega
  ·have:=vT L (a-c.length) (by omega)
   rw[xV];omega
theorem Jn:∀(L:List (List Int)) (a:Int),kf L a<L.length→a< (plc L (kf L a+1):Int)
 | [],a,h=>by simp at h
 |c::L,a,h=>by
  unfold kf at h⊢
  split
  ·rename_i q
   rw[xV,qV];omega
  ·rename_i q
   rw[if_neg q]at h
   have:=Jn L (a-c.length) (by simpa using h)
   rw[xV];omega
theorem za8(L:List (List Int)) {a:Int}(h:a<0):kf L a=0:=by
 cases L with
 |nil=>rfl
 |cons c L=>unfold kf;rw[if_pos (by omega)]
theorem Vn {L:List (List Int)}(h:ClL L) {a:Int} {k:Nat}(hk:k≤L.length)(h1:(plc L k:Int)≤a)(h2:k<L.length→a< (plc L (k+1):Int)):kf L a=k:=by
 have q1:=vT L a (by omega)
 have q2:=Jn L a
 have q3:=Qx L a
 by_cases c:kf L a<k
 ·have a1:=q2 (by omega)
  have a2:=jI h (i:=kf L a+1) (j:=k) (by omega) hk
  omega
 ·by_cases c2:k<kf L a
  ·have a1:=h2 (by omega)
   have a2:=jI h (i:=k+1) (j:=kf L a) (by omega) q3
   omega
  ·omega
theorem yW {L:List (List Int)}(h:ClL L) {k:Nat}(hk:k≤L.length):kf L (plc L k)=k:=
 Vn h hk (Int.le_refl _) (fun c=>by have:=j8 h c;omega)
theorem zby {L:List (List Int)}(h:ClL L) {a:Int}(ha:(qi L:Int)≤a):kf L a=L.length:=
 Vn h (Nat.le_refl _) (by rw[qc];exact ha) (fun c=>absurd c (Nat.lt_irrefl _))
theorem V0 {L:List (List Int)}(_:ClL L) {a:Int}(ha:a< (qi L:Int))(h0:0≤a):kf L a<L.length:=by
 have q1:=vT L a h0
 have q3:=Qx L a
 refine Nat.lt_of_le_of_ne q3 (fun e=>?_)
 rw[e,qc]at q1;omega
theorem Vy {L:List (List Int)}(h:ClL L) {k:Nat}(hk:k≤L.length):cnt (pl L) (plc L k)=k:=by
 refine wB (by rw[ZU];exact hk) (fun i hi hik=>?_) (fun i hi hik=>?_)
 ·rw[jh];have:=qS h hik hk;omega
 ·rw[jh];rw[ZU]at hi;have:=jI h hik (by omega);omega
theorem zjK(S:List Nat)(a:Int):cnt S a≤S.length:=List.countP_le_length
def vJ(t:zR):xr→Nat→List Int→List Nat
 |_,_,[]=>[]
 |s,i,r::l=>if(Zo t s r).2 then i::vJ t (Zo t s r).1 (i+1) l else vJ t (Zo t s r).1 (i+1) l
def zce:Nat→List (List Int)→List Nat
 |_,[]=>[]
 |a,c::L=>a::zce (a+c.length) L
theorem zfK:∀(L:List (List Int)) (a:Nat),zce a L=(pl L).map (a+·)
 | [],a=>rfl
 |c::L,a=>by
  have e:pl (c::L)=0::(pl L).map (c.length+·):=by
   unfold pl
   rw[List.length_cons,List.range_succ_eq_map,List.map_cons,List.map_map,List.map_map,qV]
   exact congrArg _ (List.map_congr_left (fun k _=>xV c L k))
  rw[zce,zfK L,e,List.map_cons,List.map_map]
  simp[Function.comp_def,Nat.add_assoc]
theorem zbr:∀(n:Nat) (l:List Int) (s:xr) (p:Int) (pre:List Int) (i:Nat),l.length≤n→Us s p pre→
  vJ T0 s i l=zce (i+QJ za p pre l) (qQ za n ((l.take (QJ za p pre l)).reverse++p::pre) (l.drop (QJ za p pre l)))
 |n,[],s,p,pre,i,_,_=>by cases n<;>simp[vJ,qQ,zce]
 |0,x::l,_,_,_,_,h,_=>by simp at h
 |n+1,x::l,s,p,pre,i,h,hi=>by
  have hc:=hi.cut x
  have hn:=hi.next x
  have hl:l.length≤n:=by simpa using h
  rw[vJ,yF]
  simp only
  rw[hi.so,hc]
  simp only[Bool.not_true,Bool.false_or]
  by_cases g:yV za p pre x=true
  ·have ih:=zbr n l _ _ _ (i+1) hl hn
   have hr:=uo za l (p::pre) x
   rw[if_pos g,QJ,if_pos g,ih]
   simp only[List.take_zero,List.reverse_nil,List.nil_append,List.drop_zero,Nat.add_zero,qQ,zce]
   congr 2
   rw[List.length_cons,List.length_take];omega
  ·have g':yV za p pre x=false:=by simpa using g
   have ih:=zbr (n+1) l _ _ _ (i+1) (by omega) hn
   rw[if_neg g,QJ,if_neg g,ih]
   simp only[List.take_succ_cons,List.reverse_cons,List.append_assoc,List.singleton_append,List.drop_succ_cons]
   congr 1;omega
theorem zkW(l:List Int):vJ T0 QV 0 l=pl (qR za l):=by
 have e0:∀L,zce 0 L=pl L:=fun L=>by rw[zfK];simp
 rw[←e0]
 cases l with
 |nil=>rfl
 |cons x l=>
  have hs:=Us.start (pre:=[]) (x:=x) (.inl rfl)
  have hr:=uo za l [] x
  rw[vJ,yF]
  have e1:(!QV.some || yh QV (zJ za x) (pcD x) (ZC za x))=true:=rfl
  simp only[e1,if_true,Nat.zero_add]
  rw[zbr l.length l _ _ _ 1 (Nat.le_refl _) hs]
  unfold qR
  simp only[List.length_cons,qQ,zce]
  congr 2
  rw[List.length_take];omega
theorem zc1:∀(a:Nat) (x:Int) (pre xs:List Int) (_:a≤QJ za x pre xs) (h:a< (x::xs).length),QJ za x pre xs=a+QJ za (x::xs)[a] (((x::xs).take a).reverse++pre) ((x::xs).drop (a+1))
 |0,x,pre,xs,_,_=>by simp
 |a+1,x,pre,[],h1,_=>by simp[QJ]at h1
 |a+1,x,pre,y::ys,h1,h2=>by
  rw[QJ]at h1⊢
  by_cases g:yV za x pre y=true
  ·rw[if_pos g]at h1;omega
  ·rw[if_neg g]at h1⊢
   rw[zc1 a y (x::pre) ys (by omega) (by simpa using h2)]
   simp only[List.getElem_cons_succ,List.take_succ_cons,List.reverse_cons,List.append_assoc,List.singleton_append,List.drop_succ_cons]
   omega
theorem zfu:∀(n:Nat) (l pre:List Int) (a:Nat) (_:l.length≤n) (h:a<l.length),
  a+1+QJ za l[a] ((l.take a).reverse++pre) (l.drop (a+1))=plc (qQ za n pre l) (kf (qQ za n pre l) a+1)
 |_,[],_,_,_,h=>by simp at h
 |0,x::l,_,_,h1,_=>by simp at h1
 |n+1,x::xs,pre,a,h1,h2=>by
  have hr:=uo za xs pre x
  obtain⟨r,hR⟩:∃r,r=QJ za x pre xs:=⟨_,rfl⟩
  rw[←hR]at hr
  rw[qQ,←hR]
  have hc:(x::xs.take r).length=r+1:=by rw[List.length_cons,List.length_take];omega
  unfold kf
  rw[hc]
  by_cases c:a≤r
  ·rw[if_pos (by omega),xV,qV,hc]
   have:=zc1 a x pre xs (by omega) h2
   omega
  ·rw[if_neg (by omega),xV,hc]
   obtain⟨d,rfl⟩:∃d,a=d+(r+1):=⟨a- (r+1),by omega⟩
   simp only[List.length_cons]at h1 h2
   have ih:=zfu n (xs.drop r) ((xs.take r).reverse++x::pre) d (by rw[List.length_drop];omega) (by rw[List.length_drop];omega)
   have e1:((d+(r+1):Nat):Int)- ((r+1:Nat):Int)=(d:Int):=by omega
   rw[e1]
   have e2:(x::xs)[d+(r+1)]=(xs.drop r)[d]'(by rw[List.length_drop];omega):=by
    rw[List.getElem_drop]
    have:d+(r+1)=(r+d)+1:=by omega
    simp only[this,List.getElem_cons_succ]
   have e3:((x::xs).take (d+(r+1))).reverse++pre=((xs.drop r).take d).reverse++((xs.take r).reverse++x::pre):=by
    have:d+(r+1)=(r+d)+1:=by omega
    rw[this,List.take_succ_cons,List.take_add,List.reverse_cons,List.reverse_append]
    simp
   have e4:(x::xs).drop (d+(r+1)+1)=(xs.drop r).drop (d+1):=by
    rw[List.drop_drop]
    have:d+(r+1)+1=(r+(d+1))+1:=by omega
    rw[this,List.drop_succ_cons]
   rw[e2,e3,e4]
   omega
theorem Ys(l:List Int)(a:Nat)(h:a<l.length):a+1+QJ za l[a] (l.take a).reverse (l.drop (a+1))=plc (qR za l) (kf (qR za l) a+1):=by
 have:=zfu l.length l [] a (Nat.le_refl _) h
 rw[List.append_nil]at this
 exact this
def isB(L:List (List Int))(i:Int):Bool:=decide ((plc L (kf L i):Int)=i)
theorem KT(l:List Int)(L:List (List Int))(hL:L=qR za l)(h:ClL L)(i:Nat)(hi:i+1<l.length):yV za l[i] (l.take i).reverse l[i+1]=isB L ((i+1:Nat):Int):=by
 have hs:qi L=l.length:=by rw[hL];exact ju.sum l
 have e:=Ys l i (by omega)
 rw[←hL,List.drop_eq_getElem_cons hi,QJ]at e
 have k1:=V0 h (a:=(i:Int)) (by omega) (by omega)
 have q1:=vT L i (by omega)
 have q2:=Jn L i k1
 by_cases g:yV za l[i] (l.take i).reverse l[i+1]=true
 ·rw[if_pos g]at e
  rw[g]
  have:kf L ((i+1:Nat):Int)=kf L i+1:=Vn h (by omega) (by omega) (fun c=>by have:=j8 h c;omega)
  unfold isB
  rw[this]
  exact(decide_eq_true (by omega)).symm
 ·rw[if_neg g]at e
  have g':yV za l[i] (l.take i).reverse l[i+1]=false:=by simpa using g
  rw[g']
  have:kf L ((i+1:Nat):Int)=kf L i:=Vn h (by omega) (by omega) (fun c=>by omega)
  unfold isB
  rw[this]
  exact(decide_eq_false (by omega)).symm
end Go.Proofs.YtjefahhmkcfiiaaGreat
end
section
namespace Go.Proofs.YtjefahhmkcfiiaaGreat
open Go.AM
set_option maxHeartbeats 4000000
set_option maxRecDepth 10000
def zhd(L:List (List Int)):PV:=.agg [X3 (pl L),.int .i64 (qi L:Nat)]
attribute [go_sem] zhd
attribute [local irreducible] za
attribute [go_sem] ZU
theorem zle {L:List (List Int)} {k:Nat}(h:k<L.length):elemAt (Xa (pl L)) k=.int .i64 (plc L k:Nat):=by
 rw[zaS (by rw[ZU];exact h),jh]
theorem zgS [Gi] {L:List (List Int)}(h:ClL L)(a:Int):CR Tryz.prog 156 [] [.p (zhd L),.p (.int .i64 a)] [] (is (.p (.int .i64 (cnt (pl L) a:Nat)))):=by
 refine walk Tryz.func156 8 [] [] [] ?_
 simp (maxSteps:=1000000) [go_sem,Tryz.f156]
 refine zn (YJ (pl L) a (zi7 h) (by have:=h.full.n;rw[ZU];omega)) ?_
 simp (maxSteps:=1000000) [go_sem]
 exact ret
def stX(L:List (List Int))(k:Int):Nat:=if 0≤k∧k<L.length then plc L k.toNat else qi L
theorem zit {L:List (List Int)} {k:Nat}(h:k≤L.length):stX L k=plc L k:=by
 unfold stX
 by_cases c:k<L.length
 ·rw[if_pos (by omega),Int.toNat_natCast]
 ·have:k=L.length:=by omega
  rw[if_neg (by omega),this,qc]
theorem zg4 [Gi](L:List (List Int))(k:Int):CR Tryz.prog 155 [] [.p (zhd L),.p (.int .i64 k)] [] (is (.p (.int .i64 (stX L k:Nat)))):=by
 refine walk Tryz.func155 5 [] [] [] ?_
 by_cases c1:k<0
 ·have e:stX L k=qi L:=if_neg (by omega)
  rw[e]
  simp (maxSteps:=1000000) [go_sem,Tryz.f155,c1]
  exact ret
 ·by_cases c2:(L.length:Int)≤k
  ·have e:stX L k=qi L:=if_neg (by omega)
   rw[e]
   simp (maxSteps:=1000000) [go_sem,Tryz.f155,c1,c2]
   exact ret
  ·obtain⟨n,rfl⟩:∃n:Nat,k=n:=⟨k.toNat,by omega⟩
   have hn:n<L.length:=by omega
   rw[zit (by omega)]
   have em:=zle hn
   simp (maxSteps:=1000000) [go_sem,Tryz.f155,c1,c2,em,hn]
   exact ret
theorem UK [Gi] {L:List (List Int)}(h:ClL L)(a:Int):CR Tryz.prog 92 [] [.p (zhd L),.p (.int .i64 a)] [] (is (.p (.int .i64 (plc L (kf L a):Nat)))):=by
 refine walk Tryz.func92 8 [20,27,30] [] [] ?_
 simp (maxSteps:=1000000) [go_sem,Tryz.f92]
 refine zn (YJ (pl L) a (zi7 h) (by have:=h.full.n;rw[ZU];omega)) ?_
 have hcl:=zjK (pl L) a
 rw[ZU]at hcl
 by_cases c1:(qi L:Int)≤a
 ·have e:plc L (kf L a)=qi L:=by rw[zby h c1,qc]
  rw[e]
  simp (maxSteps:=1000000) [go_sem,c1]
  exact ret
 ·have hk:=Qx L a
  cases hh:ze6 (pl L) a with
  |true=>
   obtain⟨s,hs,es⟩:=List.any_eq_true.1 hh
   obtain⟨k,hkl,rfl⟩:=List.mem_iff_getElem.1 hs
   rw[jh]at es
   rw[ZU]at hkl
   simp only[decide_eq_true_eq]at es
   have e:(plc L (kf L a):Int)=a:=by rw[←es,yW h (by omega)]
   simp (maxSteps:=1000000) [go_sem,c1,e]
   exact ret
  |false=>
   have hno:∀k,k<L.length→(plc L k:Int)≠a:=fun k hk e=>by
    have:=List.any_eq_false.1 hh (plc L k) (by rw[←jh L (by rw[ZU];exact hk)];exact List.getElem_mem _)
    exact this (decide_eq_true e)
   have hcnt:kf L a+1=cnt (pl L) a∨(a<0∧cnt (pl L) a=0):=by
    by_cases c3:a<0
    ·exact .inr ⟨c3,wB (Nat.zero_le _) (fun i _ hi=>absurd hi (by omega)) (fun i _ _=>by omega)⟩
    ·have q0:=V0 h (a:=a) (by omega) (by omega)
     have q1:=vT L a (by omega)
     have q2:=Jn L a q0
     refine .inl (wB (by rw[ZU];omega) (fun i hi hik=>?_) (fun i hi hik=>?_)).symm
     ·rw[jh]
      have a1:=jI h (i:=i) (j:=kf L a) (by omega) (by omega)
      have a2:=hno _ q0
      omega
     ·rw[jh]
      rw[ZU]at hi
      have a1:=jI h (i:=kf L a+1) (j:=i) hik (by omega)
      omega
   rcases hcnt with e|⟨e1,e2⟩
   ·have c4:¬(cnt (pl L) a:Int)=0:=by omega
    have c4':¬cnt (pl L) a=0:=by omega
    have w1:IntKind.i64.wrap ((cnt (pl L) a:Int)-1)=(kf L a:Int):=qC (by have:=h.full.n;omega) e.symm
    have hkl:kf L a<L.length:=by omega
    have em:=zle hkl
    simp (maxSteps:=1000000) [go_sem,c1,c4',w1,em,hkl]
    exact ret
   ·rw[za8 L e1,qV]
    simp (maxSteps:=1000000) [go_sem,c1,e2]
    exact ret
def goK(L:List (List Int))(a n:Int):Nat:=(max (min ((kf L a:Int)+n) L.length) 0).toNat
theorem zmq(L:List (List Int))(a n:Int):goK L a n≤L.length:=by unfold goK;omega
theorem zmK [Gi] {L:List (List Int)}(h:ClL L)(a n:Int):CR Tryz.prog 106 [] [.p (zhd L),.p (.int .i64 a),.p (.int .i64 n)] [] (is (.p (.int .i64 (plc L (goK L a n):Nat)))):=by
 refine walk Tryz.func106 8 [] [1] [] ?_
 have hk:=Qx L a
 have hn:=h.full.n
 have hst:=zg4 L (goK L a n)
 have hgo:=zmq L a n
 rw[zit hgo]at hst
 have hah:=zgS h (plc L (kf L a):Nat)
 rw[Vy h hk]at hah
 have w1:IntKind.i64.wrap (-(kf L a:Int))= -(kf L a:Int):=wrap64 (by omega) (by omega)
 have w2:IntKind.i64.wrap ((L.length:Int)-kf L a)=(L.length:Int)-kf L a:=wrap64 (by omega) (by omega)
 have w3:IntKind.i64.wrap ((kf L a:Int)+min (max n (-(kf L a:Int))) ((L.length:Int)-kf L a))=(goK L a n:Int):=by
  rw[wrap64 (by omega) (by omega)];unfold goK;omega
 simp (maxSteps:=1000000) [go_sem,Tryz.f106]
 refine z7 (.p (.int .i64 (plc L (kf L a):Nat))) rfl rfl (fun _=>z6 92 (UK h a) rfl ⟨rfl,by simp[Tryz.f92]⟩ ⟨by simp[go_sem],by simp[go_sem]⟩) ?_
 simp (maxSteps:=1000000) [go_sem]
 refine z7 (.p (.int .i64 (kf L a:Nat))) rfl rfl (fun _=>z6 156 hah rfl ⟨rfl,by simp[Tryz.f156]⟩ ⟨by simp[go_sem],by simp[go_sem]⟩) ?_
 simp (maxSteps:=1000000) [go_sem,w1,w2,w3]
 refine zn hst ?_
 simp (maxSteps:=1000000) [go_sem]
 exact ret
theorem YB [Gi] {e:PV}(hT:ZR e)(s:xr)(r:Int)(hr:zL r):CR Tryz.prog 171 [] [.p (jT s),.p e,.p (.int .i32 r)] [] (is (.tup [.p (jT (Zo T0 s r).1),.p (.bool (Zo T0 s r).2)])):=by
 obtain⟨c,b,j,f,p,h,rfl⟩:=hT
 exact KZ h je _ _ _ _ s r hr
theorem zg3 [Gi] {e:PV}(hT:ZR e)(l:List Int)(hn:l.length<2^31)(hr:∀x∈l,zL x):CR Tryz.prog 138 [] [.p e,.p (zh l)] [] (is (.p (X3 (pl (qR za l))))):=by
 rw[←zkW l]
 refine walk Tryz.func138 11 [11,12,13] [] [] ?_
 simp (maxSteps:=1000000) [go_sem,Tryz.f138]
 refine loop (fun r:Nat×xr×List Nat=>r.1≤l.length∧r.2.2.length≤r.1∧vJ T0 QV 0 l=r.2.2++vJ T0 r.2.1 r.1 (l.drop r.1)) (fun r=>[(6,.os [6] 1 (Xa r.2.2)),(13,.p (.int .i64 (r.1:Nat))),(7,.zZ),(8,.zZ),(9,.zZ),(10,.zZ)]) (fun r=>[([5],zhv r.2.1)]) (fun r=>l.length-r.1) (0,QV,[]) ⟨by simp,by simp,by simp⟩ (fun r hr2=>?_) (by simp[go_sem,LeS,leV,leR,leA,leL,zhv,QV,Xa])
 obtain⟨i,s,o⟩:=r
 obtain⟨h1,h0,h2⟩:=hr2
 simp only at h1 h0 h2
 by_cases hil:i<l.length
 ·obtain⟨y,hy⟩:∃y,l[i]=y:=⟨_,rfl⟩
  have hyr:zL y:=hr y (by rw[←hy];exact List.getElem_mem _)
  have em:elemAt (zB l) i=.int .i32 y:=by rw[ZF hil,hy]
  have g:(i:Int)<l.length:=by omega
  have w:IntKind.i64.wrap ((i:Int)+1)=((i+1:Nat):Int):=zP (by omega)
  rw[List.drop_eq_getElem_cons hil,hy,vJ]at h2
  simp (maxSteps:=1000000) [go_sem,g,em,zhv]
  refine zn (YB hT s y hyr) ?_ (ha':=by simp[go_sem,jT])
  generalize Zo T0 s y=q at h2
  obtain⟨s',ct⟩:=q
  cases ct with
  |true=>
   simp (maxSteps:=1000000) [go_sem,jT,w]
   exact⟨by omega,next (i+1,s',o++[i]) ⟨by show i+1≤l.length;omega,by simp;omega,by simpa using h2⟩ (by show l.length- (i+1)<l.length-i;omega) (by simp[go_sem,LeS,leV,leR,leA,leL,Xa])⟩
  |false=>
   simp (maxSteps:=1000000) [go_sem,jT,w]
   exact next (i+1,s',o) ⟨by show i+1≤l.length;omega,by show o.length≤i+1;omega,by simpa using h2⟩ (by show l.length- (i+1)<l.length-i;omega) (by simp[go_sem,LeS,leV,leR,leA,leL])
 ·have g:¬(i:Int)<l.length:=by omega
  rw[List.drop_eq_nil_of_le (by omega),vJ,List.append_nil]at h2
  rw[h2]
  simp (maxSteps:=1000000) [go_sem,g]
  exact ret
theorem zeJ [Gi] {e:PV}(hT:ZR e)(l:List Int)(hn:l.length<2^31)(hr:∀x∈l,zL x):CR Tryz.prog 84 [] [.p e,.p (zh l)] [] (is (.p (zhd (qR za l)))):=by
 refine walk Tryz.func84 5 [] [] [] ?_
 have hs:qi (qR za l)=l.length:=ju.sum l
 simp (maxSteps:=1000000) [go_sem,Tryz.f84]
 refine zn (zg3 hT l hn hr) ?_
 simp (maxSteps:=1000000) [go_sem,←hs]
 exact ret
end Go.Proofs.YtjefahhmkcfiiaaGreat
end
