/- A part of the proof of this seat's statements, by an abstract machine: what each operation does to values, and what the law's functions compute. Conditions: as each law says. -/
import Derived.Test.YtjefahhmkcfiiaaGreatT39
import Derived.Test.YtjefahhmkcfiiaaGreatT37
section
namespace Go.Proofs.YtjefahhmkcfiiaaGreat
open Go.AM
set_option maxHeartbeats 4000000
set_option maxRecDepth 10000
attribute [local irreducible] za
def xm(d:Nat):List (Tok×Tok):=[([0],[d,0]),([0,1],[d,0,1]),([0,2],[d,0,2])]
attribute [go_sem] xm zK
theorem yd(l:List Int):(zZ za l).length≤3*l.length:=by
 have h2:=wL (kD za) (mkD za) (ky za l) []
 have h3:(ky za l).length=(ZF za l).length:=xC _ _
 have h4:=yC l
 have h5:(zZ za l).length=((ky za l).foldl (QG (kD za) (mkD za)) []).length:=rfl
 simp only[List.length_nil]at h2
 omega
theorem vu [Gi](l:List Int)(n:Nat)(hn:n<2^31):CR Tryz.prog 15 [] [.p (zg l),.p (.int .i64 n)] [] (is (.p (zg (l.take n)))):=zgo l n hn
theorem kS [Gi]:CR Tryz.prog 17 [] [.p (zK za)] [] (fun x rs=>rs=[]∧∃e,x=.p e∧Zc e):=K4
theorem lnC(l:List Int)(hn:l.length≤1000)(hr:∀x∈l,zB x):Ln (zZ za l) (zL za (zZ za l)):=
 ⟨rfl,by have:=yd l;omega,Zr.rune l (by omega) hr⟩
theorem zpk(s:List Int)(hn:s.length≤60):(zL za (zZ za s)).length≤180:=by
 have:=zhh s
 omega
theorem kE [Gi] {S:St} {dst:Option Nat} {x:Operand} {args:Array Operand} {argTypes:Array TypeId} {tt:TypeId} {pos:String} {after:Array Edge} {guard:Option (Nat×Bool)} {r:AV} {c:Option Bool} {K:St→Prop}(f:FuncId) {as1:List AV}
  (hC:CR Tryz.prog f [] as1 [] (is r)) (hk:dOK S dst∧K (S.qP dst (gv c r))) (hr:VP r=true:=by rfl) (hf:zfT (S.ev x)=some f:=by rfl) (hb:((Tryz.prog.funcs[f]?).map (·.body.isSome))=some true∧((Tryz.prog.funcs[f]?).map (·.name))≠some "runtime.NumGoroutine" :=by exact⟨by kernel_rfl,by decide+kernel⟩)
  (ha:(Qf S [] args.toList).1:=by simp[go_sem]) (ha':(Qf S [] args.toList).2=as1:=by simp[go_sem]):zag Tryz.prog S ⟨dst,.call ⟨.value x,args,argTypes⟩,tt,pos,after,guard⟩ c K:=
 zN r hr rfl (fun _=>zM f hC hf hb ⟨ha,ha'⟩) hk
theorem za0 {L:List (List Int)}(h:ClL L) {a:Int}(ha:a≤(plc L (kf L a):Int)):cnt (pl L) a=kf L a:=by
 have q3:=uq L a
 by_cases c0:a<0
 ·rw[zfB L c0]
  exact vI (Nat.zero_le _) (fun i _ hi=>absurd hi (by omega)) (fun i _ _=>by omega)
 ·have q1:=VW L a (by omega)
  have e:a=(plc L (kf L a):Int):=by omega
  have:=vE h q3
  rw[←e]at this
  exact this
theorem zeC {L:List (List Int)}(h:ClL L) {a:Int}(ha:(plc L (kf L a):Int)<a)(hk:kf L a<L.length):cnt (pl L) a=kf L a+1:=by
 have q2:=zbv L a hk
 refine vI (by rw[qo];omega) (fun i hi hik=>?_) (fun i hi hik=>?_)
 ·rw[ZU];have:=jZ h (i:=i) (j:=kf L a) (by omega) (by omega);omega
 ·rw[ZU];rw[qo]at hi;have:=jZ h (i:=kf L a+1) (j:=i) hik (by omega);omega
theorem zmM {L:List (List Int)}(h:ClL L) {a:Int}(ha:(qd L:Int)≤a):cnt (pl L) a=L.length:=by
 refine vI (by rw[qo];omega) (fun i hi _=>?_) (fun i hi hik=>?_)
 ·rw[ZU];rw[qo]at hi;have:=yE h hi (Nat.le_refl _);rw[Zj]at this;omega
 ·rw[qo]at hi;omega
theorem zlm {L:List (List Int)}(h:ClL L) {i:Nat}(hi:(i:Int)<qd L):cnt (pl L) ((i:Int)+1)=cnt (pl L) i+(if isB L i=true then 1 else 0):=by
 have q0:=Uj h hi (by omega)
 have q1:=VW L i (by omega)
 have q2:=zbv L i q0
 by_cases c:isB L i=true
 ·have e:(plc L (kf L i):Int)=i:=of_decide_eq_true c
  rw[if_pos c,za0 h (a:=(i:Int)) (by omega)]
  refine vI (by rw[qo];omega) (fun j hj hjk=>?_) (fun j hj hjk=>?_)
  ·rw[ZU];have:=jZ h (i:=j) (j:=kf L i) (by omega) (by omega);omega
  ·rw[ZU];rw[qo]at hj;have:=jZ h (i:=kf L i+1) (j:=j) hjk (by omega);omega
 ·have e:¬(plc L (kf L i):Int)=i:=fun e=>c (decide_eq_true e)
  rw[if_neg c,zeC h (a:=(i:Int)) (by omega) q0]
  refine vI (by rw[qo];omega) (fun j hj hjk=>?_) (fun j hj hjk=>?_)
  ·rw[ZU];have:=jZ h (i:=j) (j:=kf L i) (by omega) (by omega);omega
  ·rw[ZU];rw[qo]at hj;have:=jZ h (i:=kf L i+1) (j:=j) hjk (by omega);omega
theorem zqy [Gi](n:Int):∃m:Nat,m≤7∧IntKind.i64.wrap (BitVec.ofInt IntKind.i64.bits n&&& BitVec.ofInt IntKind.i64.bits 7).toNat=(m:Int):=by
 have h:(BitVec.ofInt IntKind.i64.bits n&&& BitVec.ofInt IntKind.i64.bits 7).toNat≤7:=by
  have e:(BitVec.ofInt IntKind.i64.bits 7).toNat=7:=rfl
  rw[BitVec.toNat_and,e]
  exact Nat.and_le_right
 exact⟨_,h,wrap64 (by omega) (by omega)⟩
end Go.Proofs.YtjefahhmkcfiiaaGreat
end
