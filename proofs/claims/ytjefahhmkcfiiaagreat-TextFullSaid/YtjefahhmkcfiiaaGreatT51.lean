/- A part of the proof of this seat's statements, by an abstract machine: what each operation does to values, and what the law's functions compute. Conditions: as each law says. -/
import Derived.Test.YtjefahhmkcfiiaaGreatT43
import Derived.Test.YtjefahhmkcfiiaaGreatT44
section
namespace Go.Proofs.YtjefahhmkcfiiaaGreat
open Go.AM
set_option maxHeartbeats 1000000
set_option maxRecDepth 100000
def zcd:List Int:=(List.range 26).map fun(n:Nat)=>(97+n:Int)
theorem zhd:(zcd.all fun x=>Qr x&&decide (zZ za [x]=[x])&&decide (zL za [x,x]=[[x],[x]])&&decide (zP za x=0))=true:=by decide+kernel
attribute [local irreducible] za
theorem zjc {x:Int}(h1:97≤x)(h2:x≤122):x∈zcd:=by
 unfold zcd
 rw[List.mem_map]
 exact⟨(x-97).toNat,List.mem_range.2 (by omega),by omega⟩
theorem zc8 {x:Int}(h1:97≤x)(h2:x≤122):Qr x=true∧zZ za [x]=[x]∧zL za [x,x]=[[x],[x]]∧zP za x=0:=by
 have:=List.all_eq_true.1 zhd x (zjc h1 h2)
 simp only[Bool.and_eq_true,decide_eq_true_eq]at this
 exact⟨this.1.1.1,this.1.1.2,this.1.2,this.2⟩
theorem VT {x:Int}(h1:Qr x=true)(h2:zZ za [x]=[x]):∀n,zZ za (List.replicate n x)=List.replicate n x
 |0=>rfl
 |1=>h2
 |n+2=>by
  have e:List.replicate (n+2) x=[x]++x::List.replicate n x:=rfl
  have ih:=VT h1 h2 (n+1)
  rw[e,Wn h1,h2]
  exact congrArg ([x]++·) ih
theorem wM {x:Int}(h:zL za [x,x]=[[x],[x]]):∀n,zL za (List.replicate n x)=List.replicate n [x]
 |0=>rfl
 |n+1=>by
  rw[←yF]at h⊢
  have ih:=wM (x:=x) (by rw[←yF];exact h) n
  rw[←yF]at ih
  rw[ya]at h
  have h0:(qQ T0 (qQ T0 Z6 x).1 x).2=true:=by
   cases hc:(qQ T0 (qQ T0 Z6 x).1 x).2 with
   |true=>rfl
   |false=>
    have e:ku T0 (qQ T0 Z6 x).1 [x]=1:=by unfold ku;rw[if_neg (by rw[hc];decide)];rfl
    rw[e]at h
    simp at h
  have hr:ku T0 (qQ T0 Z6 x).1 (List.replicate n x)=0:=by
   cases n with
   |zero=>rfl
   |succ n=>rw[List.replicate_succ,ku,if_pos h0]
  rw[List.replicate_succ,ya,hr,List.replicate_succ]
  simp only[List.take_zero,List.drop_zero]
  rw[ih]
theorem Yz {x:Int}(h:Qr x=true) {N k:Nat}(hk:k<N):qU (List.replicate N x) (k+1)=k:=by
 unfold qU
 rw[if_neg (by omega),Nat.add_sub_cancel]
 cases k with
 |zero=>rfl
 |succ k=>
  rw[jI,List.getD_eq_getElem?_getD,List.getElem?_replicate,if_pos hk]
  simp[h]
theorem zgl {x:Int}(h:Qr x=true) {N k:Nat}(hk:k<N):onL (List.replicate N x) k=k:=by
 rw[XF (by rw[List.length_replicate];exact hk),List.getD_eq_getElem?_getD,List.getElem?_replicate,if_pos hk]
 simp[h]
theorem zhC {x:Int}(h1:Qr x=true)(h2:zZ za [x]=[x]) {N k n:Nat}(hk:k+1<N):yM (List.replicate N x) (k+1) (k+1) (List.replicate n x)=List.replicate (1+n) x:=by
 unfold yM
 rw[Yz h1 (by omega),zgl h1 hk]
 have e1:cut (List.replicate N x) (k:Nat) (k+1:Nat)=[x]:=by
  unfold cut
  have:((k+1:Nat):Int).toNat- ((k:Nat):Int).toNat=1:=by omega
  rw[this,List.drop_replicate,Int.toNat_natCast]
  have:N-k=(N-k-1)+1:=by omega
  rw[this];rfl
 have e2:cut (List.replicate N x) ((k+1:Nat):Int) ((k+1:Nat):Int)=[]:=by simp[cut]
 rw[e1,e2,List.append_nil]
 have e3:[x]++List.replicate n x=List.replicate (1+n) x:=by rw[Nat.add_comm,List.replicate_succ];rfl
 rw[e3,VT h1 h2]
theorem Vy {x:Int}(h1:Qr x=true)(h2:zZ za [x]=[x]) {N k n:Nat}(hk:k+1<N):zD (List.replicate N x) (k+1) (k+1) (List.replicate n x)=List.replicate (N+n) x:=by
 unfold zD
 rw[zhC h1 h2 hk,Yz h1 (by omega),zgl h1 hk,List.take_replicate,List.drop_replicate,List.replicate_append_replicate,List.replicate_append_replicate]
 congr 1;omega
theorem Yd(x:Int)(N:Nat) {k:Nat}(hk:k≤N):plc (List.replicate N [x]) k=k:=by
 unfold plc qd
 rw[List.take_replicate,Nat.min_eq_left hk]
 simp
theorem zhu(x:Int)(N:Nat):qd (List.replicate N [x])=N:=by unfold qd;simp
theorem zkD {x:Int}(h:zL za [x,x]=[[x],[x]])(hr:zB x) {N:Nat}(hN:N<2^31):Ln (List.flatten (List.replicate N [x])) (List.replicate N [x]):=by
 have e:List.flatten (List.replicate N [x])=List.replicate N x:=by
  rw[←wM h];exact Zr.flat _
 rw[e]
 exact⟨(wM h N).symm,by rw[List.length_replicate];exact hN,fun y hy=>by rw[List.eq_of_mem_replicate hy];exact hr⟩
end Go.Proofs.YtjefahhmkcfiiaaGreat
end
section
namespace Go.Proofs.YtjefahhmkcfiiaaGreat
open Go.AM
set_option maxHeartbeats 4000000
set_option maxRecDepth 10000
attribute [local irreducible] za
theorem zjm [Gi] {e:PV}(hT:Zc e)(l:List Int)(hn:l.length<2^20)(hr:∀x∈l,zB x)(hs:65536< (zZ za l).length):CR Tryz.prog 33 [] [.p e,.p (zg l)] [] (is (.p (.opq (.pointer none)))):=by
 refine walk Tryz.func33 5 [] [] [] ?_
 have hnf:=zck hT l hn hr
 generalize zZ za l=s at hs hnf
 obtain⟨z,y,rfl⟩:=jB hT
 have g:(65536:Int)<s.length:=by omega
 simp (maxSteps:=1000000) [go_sem,Tryz.f33]
 refine zo hnf ?_
 simp (maxSteps:=1000000) [go_sem,g]
 exact ret
theorem eight(x:Int) {n:Nat}(h:n≤7):cut [PV.int .i32 x,.int .i32 x,.int .i32 x,.int .i32 x,.int .i32 x,.int .i32 x,.int .i32 x,.int .i32 x] 0 n=zu (List.replicate n x):=by
 have:n=0∨n=1∨n=2∨n=3∨n=4∨n=5∨n=6∨n=7:=by omega
 rcases this with rfl|rfl|rfl|rfl|rfl|rfl|rfl|rfl<;>rfl
theorem zfk [Gi](n0 x0:Int):CR Tryz.prog 9 [] [.p (.int .i64 n0),.p (.int .i32 x0)] [] (is (.p (.bool true))):=by
 refine walk Tryz.func9 12 [] [] [] ?_
 obtain⟨n,hn,hw⟩:=zqy n0
 simp (maxSteps:=1000000) [go_sem]at hw
 simp (maxSteps:=1000000) [go_sem,Tryz.f9,hw]
 refine Zf (fun x:Int=>97≤x∧x≤122) (fun x=>[(1,.p (.int .i32 x))]) (fun _=>[]) ?_ ?_
 ·by_cases c:97≤x0∧x0≤122
  ·rw[decide_eq_false (by omega:¬x0<97),decide_eq_false (by omega:¬122<x0)]
   simp (maxSteps:=1000000) [go_sem]
   exact z6 x0 c (by simp[go_sem])
  ·have hb:(decide (x0<97) || decide (122<x0))=true:=by simp only[Bool.or_eq_true,decide_eq_true_eq];omega
   rw[hb]
   simp (maxSteps:=1000000) [go_sem]
   exact z6 97 (by decide) (by simp[go_sem])
 ·rintro x ts ⟨x1,x2⟩
  obtain⟨f1,f2,f3,_⟩:=zc8 x1 x2
  have hrx:zB x:=⟨by omega,by omega⟩
  have hrr:∀m,∀y∈List.replicate m x,zB y:=fun m y hy=>by rw[List.eq_of_mem_replicate hy];exact hrx
  have hlr:∀m,(List.replicate m x).length=m:=fun m=>List.length_replicate
  simp (maxSteps:=1000000) [go_sem]
  refine loop (fun i:Nat=>i≤65532) (fun i=>[(5,.os [5] 1 (zu (List.replicate i x))),(6,.p (.int .i64 i))]) (fun _=>[]) (fun i=>65532-i) 0 (Nat.zero_le _) (fun i hi=>?_)
  by_cases c1:i<65532
  ·have g1:(i:Int)<65532:=by omega
   have w1:IntKind.i64.wrap ((i:Int)+1)=((i+1:Nat):Int):=zI (by omega)
   have e1:zu (List.replicate i x)++[.int .i32 x]=zu (List.replicate (i+1) x):=by
    rw[List.replicate_succ',uS];rfl
   simp (maxSteps:=1000000) [go_sem,g1,w1,hlr,e1]
   exact⟨by omega,next (i+1) (show i+1≤65532 by omega) (h3:=by show 65532- (i+1)<65532-i;omega)⟩
  ·have g1:¬(i:Int)<65532:=by omega
   obtain⟨N,hN⟩:∃N:Nat,N=i:=⟨_,rfl⟩
   have hN2:N=65532:=by omega
   rw[←hN]
   rw[←hN]at g1
   clear hN hi c1
   simp (maxSteps:=1000000) [go_sem,g1]
   refine zo xV ?_
   simp (maxSteps:=1000000) [go_sem]
   refine call [] kS ?_
   rintro _ _ ⟨rfl,e,rfl,hT⟩
   have hnew:=WB hT (List.replicate N x) (by rw[hlr];omega) (hrr N) (by rw[VT f1 f2,hlr];omega)
   rw[VT f1 f2,wM f3]at hnew
   have hbig:=zjm hT (List.replicate (N+5) x) (by rw[hlr];omega) (hrr _) (by rw[VT f1 f2,hlr];omega)
   have hL:=zkD f3 hrx (N:=N) (by omega)
   have hfl:List.flatten (List.replicate N [x])=List.replicate N x:=by rw[←wM f3];exact Zr.flat _
   have h8:=eight x hn
   obtain⟨z0,e0,rfl⟩:=jB hT
   simp (maxSteps:=1000000) [go_sem]
   refine call [] hnew ?_
   rintro _ _ ⟨X,hX,_,rfl,rfl⟩
   have q4:4≤N:=by omega
   have e5:zu (List.replicate N x)++[.int .i32 x,.int .i32 x,.int .i32 x,.int .i32 x,.int .i32 x]=zu (List.replicate (N+5) x):=by
    rw[←List.replicate_append_replicate,uS];rfl
   have p4:plc (List.replicate N [x]) (kf (List.replicate N [x]) (4:Nat))=4:=by
    have:=yT hX.cl (k:=4) (by rw[List.length_replicate];exact q4)
    rw[Yd x N q4]at this
    rw[this,Yd x N q4]
   simp (maxSteps:=1000000) [go_sem,h8]
   by_cases c2:n≤4
   ·have g:=y7 hT hX hL (by rw[hfl,hlr];omega) 4 4 (by omega) (by rw[hfl,hlr];omega) p4 p4 (List.replicate n x) (by rw[hlr];omega) (hrr n) (by rw[hfl,Vy f1 f2 (by omega),hlr];omega)
    rw[hfl,Vy f1 f2 (k:=3) (by omega),Yz f1 (k:=3) (by omega),zgl f1 (by omega),zhC f1 f2 (k:=3) (by omega),hlr,wM f3]at g
    have hLn:=zkD f3 hrx (N:=N+n) (by omega)
    have hcar:plc (List.replicate (N+n) [x]) (cnt (pl (List.replicate (N+n) [x])) (qE (List.replicate N x) (List.replicate (N+n) x) 3 4 4 (3+(1+n)):Nat))=4+n:=by
     have e1:qE (List.replicate N x) (List.replicate (N+n) x) 3 4 4 (3+(1+n))=4+n:=by rw[qE,if_neg (by omega)];omega
     have e2:=vE hLn.cl (k:=4+n) (by rw[List.length_replicate];omega)
     rw[Yd x _ (by omega)]at e2
     rw[e1,e2,Yd x _ (by omega)]
    obtain⟨u,v,w,hv⟩:∃u v w,V3 (List.replicate N x) (List.replicate (N+n) x) (List.replicate (N+n) [x]) 3 4 (3+(1+n)) 4=kI u v w (4+n):=⟨_,_,_,by unfold V3;rw[hcar]⟩
    rw[hv]at g
    refine⟨rfl,by omega,call (xm 32) g ?_⟩
    rintro _ _ ⟨⟨Y,hY,rfl⟩,rfl⟩
    have gs:=yA (.pt z0 e0) hY
    rw[zhu]at gs
    have c2':¬(4:Int)<n:=by omega
    have w4:IntKind.i64.wrap (4+(n:Int))=((4+n:Nat):Int):=by rw[wrap64 (by omega) (by omega)];omega
    have w5:IntKind.i64.wrap ((N:Int)+n)=((N+n:Nat):Int):=by rw[wrap64 (by omega) (by omega)];omega
    have c2'':¬4<n:=by omega
    simp (maxSteps:=1000000) [go_sem,kI,c2',w4,w5,hlr]
    refine call (xm 32) gs ?_
    rintro _ _ ⟨rfl,rfl⟩
    simp (maxSteps:=1000000) [go_sem,w5,hlr,e5]
    refine⟨rfl,by omega,zo hbig ?_⟩
    simp (maxSteps:=1000000) [go_sem]
    refine zo xg ?_
    simp (maxSteps:=1000000) [go_sem]
    exact ret
   ·have g:=Vd hT hX hL (by rw[hfl,hlr];omega) 4 4 (by omega) (by rw[hfl,hlr];omega) p4 p4 (List.replicate n x) (by rw[hlr];omega) (hrr n) (by rw[hfl,Vy f1 f2 (by omega),hlr];omega)
    refine⟨rfl,by omega,call (xm 32) g ?_⟩
    rintro _ _ ⟨rfl,rfl⟩
    have gs:=yA (.pt z0 e0) hX
    rw[zhu]at gs
    have c2':(4:Int)<n:=by omega
    have c2'':4<n:=by omega
    simp (maxSteps:=1000000) [go_sem,xq,c2',hlr]
    refine call (xm 32) gs ?_
    rintro _ _ ⟨rfl,rfl⟩
    simp (maxSteps:=1000000) [go_sem,hlr,e5]
    refine⟨rfl,by omega,zo hbig ?_⟩
    simp (maxSteps:=1000000) [go_sem]
    refine zo xg ?_
    simp (maxSteps:=1000000) [go_sem]
    exact ret
end Go.Proofs.YtjefahhmkcfiiaaGreat
end
