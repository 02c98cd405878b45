/- A part of the proof of this seat's statements, by an abstract machine: what each operation does to values, and what the law's functions compute. Conditions: as each law says. -/
import Derived.Test.YthbmelihnabkaaaGreatT39
section
namespace Go.Proofs.YthbmelihnabkaaaGreat
open Go.AM
set_option maxHeartbeats 4000000
set_option maxRecDepth 10000
theorem zhq(l:List Int)(f t k:Nat)(h1:f≤t)(h2:t≤l.length)(h:k≤f):
  held (l.take (k+t-f)++((l.drop k).take (f-k)++l.drop t)) k (k+t-f)=held l f t:=by
 unfold held
 (apply List.ext_getElem?;intro j;simp only[List.getElem?_append,List.getElem?_take,List.getElem?_drop,List.length_append,List.length_take,List.length_drop];(repeat' split);all_goals first|rfl|omega|(congr 1;omega)|(symm;apply List.getElem?_eq_none;omega)|(apply List.getElem?_eq_none;omega))
theorem zkV(l:List Int)(f t k:Nat)(h1:f≤t)(h2:t≤l.length)(h:f≤k)(h4:k+t≤l.length+f):
  held (l.take f++((l.drop t).take (k-f)++l.drop k)) k (k+t-f)=held l f t:=by
 unfold held
 (apply List.ext_getElem?;intro j;simp only[List.getElem?_append,List.getElem?_take,List.getElem?_drop,List.length_append,List.length_take,List.length_drop];(repeat' split);all_goals first|rfl|omega|(congr 1;omega)|(symm;apply List.getElem?_eq_none;omega)|(apply List.getElem?_eq_none;omega))
def zn0(l:List Int)(f t at_:Nat):AV→List (Tok×List AV)→Prop:=fun _ rs=>∃l',rs=ZF l' at_ (at_+t-f)∧l'.length=l.length∧held l' at_ (at_+t-f)=held l f t
theorem zfq [Gi](l:List Int)(f t at_:Nat)(h1:f≤t)(h2:t≤l.length)(h3:(l.length:Int)≤140737488355328)(h4:at_+t≤l.length+f):
  CR Tryz.prog 167 Zn [.lp [0] 0,.p (.int .i64 at_)] (ZF l f t) (zn0 l f t at_):=by
 refine zm mixed 6 [] Tryz.func167 rfl (by kernel_rfl) rfl (by simp) (by simp) ?_
 simp (maxSteps:=1000000) [go_sem,Tryz.f167,ZF,Zn]
 refine zr (fun h=>?_) (fun h=>?_)
 ·simp (maxSteps:=1000000) (disch:=omega) [go_sem,wrap64]
  have e1:((t:Int)- ((f:Int)- (at_:Int))).toNat=at_+t-f:=by omega
  have e2:at_+t-f+(f-at_)=t:=by omega
  have e3:((t:Int)- ((f:Int)- (at_:Int)))=((at_+t-f:Nat):Int):=by omega
  refine⟨by omega,by omega,by omega,?_⟩
  rw[e1,e2,e3,List.take_take,Nat.min_self]
  refine zi Zn (.tup []) (by simp[Zn]) (by simp (maxSteps:=1000000) [go_sem,zd]) ?_
  refine⟨_,?_,?_,zhq l f t at_ h1 h2 (by omega)⟩
  ·simp (maxSteps:=1000000) [go_sem,Zn,ZF];omega
  ·simp;omega
 ·simp (maxSteps:=1000000) (disch:=omega) [go_sem]
  refine zr (fun h'=>?_) (fun h'=>?_)
  ·simp (maxSteps:=1000000) (disch:=omega) [go_sem,wrap64]
   have e1:((t:Int)+((at_:Int)- (f:Int))).toNat-t=at_-f:=by omega
   have e2:f+(at_-f)=at_:=by omega
   have e3:((t:Int)+((at_:Int)- (f:Int)))=((at_+t-f:Nat):Int):=by omega
   refine⟨by omega,by omega,by omega,?_⟩
   rw[e1,e2,e3,List.take_take,Nat.min_self]
   refine zi Zn (.tup []) (by simp[Zn]) (by simp (maxSteps:=1000000) [go_sem,zd]) ?_
   refine⟨_,?_,?_,zkV l f t at_ h1 h2 (by omega) h4⟩
   ·simp (maxSteps:=1000000) [go_sem,Zn,ZF];omega
   ·simp;omega
  ·simp (maxSteps:=1000000) (disch:=omega) [go_sem]
   have e:f=at_:=by omega
   subst e
   have e2:f+t-f=t:=by omega
   refine zi Zn (.tup []) (by simp[Zn]) (by simp (maxSteps:=1000000) [go_sem,zd]) ?_
   refine⟨l,?_,rfl,by rw[e2]⟩
   rw[e2]
   simp (maxSteps:=1000000) [go_sem,Zn,ZF]
def znH(l:List Int)(f t n:Nat):AV→List (Tok×List AV)→Prop:=fun _ rs=>∃l' t',rs=ZF l' f t'∧f+n≤t'∧t'≤l'.length∧(l'.length=l.length∨t<f+n∧l'.length=2*l.length+n)∧held l' f t'=held l f t
def zod(l:List Int)(f t n:Nat):AV→List (Tok×List AV)→Prop:=fun _ rs=>∃(l':List Int) (t':Nat) (u:Tok),(u=[0,0]∨u=[25])∧rs=[([0],[.la u 1 0 l'.length,.p (.int .i64 (f:Int)),.p (.int .i64 (t':Int))]),(u,rcs l')]∧f+n≤t'∧t'≤l'.length∧(l'.length=l.length∨t<f+n∧l'.length=2*l.length+n)∧held l' f t'=held l f t
theorem zhT(l:List Int)(f t n T N:Nat)(h1:f≤t)(h2:t≤l.length)(hN:N=2*l.length+n)(hT:T+l.length=N+t):
  held ((l.take f++List.replicate (N-f) 0).take T++((l.drop t).take (l.length-t)++(l.take f++List.replicate (N-f) 0).drop (T+(l.length-t)))) f T=held l f t:=by
 unfold held
 (apply List.ext_getElem?;intro j;simp only[List.getElem?_append,List.getElem?_take,List.getElem?_drop,List.length_append,List.length_take,List.length_drop,List.getElem?_replicate,List.length_replicate];(repeat' split);all_goals first|rfl|omega|(congr 1;omega)|(symm;apply List.getElem?_eq_none;omega)|(apply List.getElem?_eq_none;omega))
theorem ze6 [Gi](l:List Int)(f t n:Nat)(h1:f≤t)(h2:t≤l.length)(h3:(2*l.length+n:Int)≤17592186044416):
  CR Tryz.prog 168 [[0]] [.lp [0] 0,.p (.int .i64 n)] (ZF l f t) (znH l f t n):=by
 refine CR.ren (R:=zod l f t n) ?_ 100 ?_
 ·refine zm mixed 6 [] Tryz.func168 rfl (by kernel_rfl) rfl (by simp) (by simp) ?_
  simp (maxSteps:=1000000) (disch:=omega) [go_sem,Tryz.f168,ZF,wrap64]
  refine zr (fun h=>?_) (fun h=>?_)
  ·simp (maxSteps:=1000000) (disch:=omega) [go_sem]
   refine zi [[0],[0,0]] (.tup []) (by simp) (by simp (maxSteps:=1000000) [go_sem,zd]) ?_
   refine⟨l,t,[0,0],.inl rfl,?_,by omega,h2,.inl rfl,rfl⟩
   simp (maxSteps:=1000000) [go_sem]
  ·obtain⟨N,hN⟩:∃N:Nat,N=2*l.length+n:=⟨_,rfl⟩
   obtain⟨T,hT⟩:∃T:Nat,T+l.length=N+t:=⟨N+t-l.length,by omega⟩
   have hN':(2*(l.length:Int)+n)=N:=by omega
   have hT':((N:Int)- (l.length-t))=T:=by omega
   simp (maxSteps:=1000000) (disch:=omega) [go_sem,wrap64,hN',hT']
   refine⟨by omega,by omega,by omega,by omega,by omega,by omega,?_⟩
   refine zi [[0],[25]] (.tup []) (by simp) (by simp (maxSteps:=1000000) [go_sem,zd]) ?_
   rw[List.take_take,List.take_take,Nat.min_self,Nat.min_self]
   refine⟨_,T,[25],.inr rfl,?_,by omega,?_,?_,zhT l f t n T N h1 h2 hN hT⟩
   ·simp (maxSteps:=1000000) [go_sem];omega
   ·simp;omega
   ·right;constructor
    ·omega
    ·simp;omega
 ·rintro x rs ⟨l',t',u,hu,rfl,r1,r2,r3,r4⟩
  refine⟨[([0],[0]),([0,0],u)],?_,by simp (maxSteps:=1000000) [go_sem],l',t',?_,r1,r2,r3,r4⟩
  ·rcases hu with rfl|rfl<;>rfl
  ·rcases hu with rfl|rfl<;>simp (maxSteps:=1000000) [go_sem,ZF]
def spliced(l:List Int)(a b:Nat)(ins:List Int):List Int:=l.take a++ins++l.drop b
theorem zbO(l1 l2 l3 H ins:List Int)(A B t1 t2 t3:Nat)(hH:held l1 A t1=H)(hA:A≤t1)(hB:A≤B)(h2:t2=t1+B-A)(h1:t2≤l1.length)(hl2:l2=l1.take t1++(List.replicate (t2-t1) 0++l1.drop t2))
  (r1:A+ins.length≤t3) (r2:t3≤l3.length) (r4:held l3 A t3=held l2 A t2):held (l3.take A++(ins++l3.drop (A+ins.length))) (A+ins.length) t3=spliced H A B ins:=by
 have q1:l2.take A=l1.take A:=by rw[hl2];(apply List.ext_getElem?;intro j;simp only[List.getElem?_append,List.getElem?_take,List.getElem?_drop,List.length_take,List.getElem?_replicate,List.length_replicate];(repeat' split);all_goals first|rfl|omega|(congr 1;omega)|(symm;apply List.getElem?_eq_none;omega)|(apply List.getElem?_eq_none;omega))
 have q2:l2.drop t2=l1.drop t2:=by rw[hl2];(apply List.ext_getElem?;intro j;simp only[List.getElem?_append,List.getElem?_take,List.getElem?_drop,List.length_take,List.getElem?_replicate,List.length_replicate];(repeat' split);all_goals first|rfl|omega|(congr 1;omega)|(symm;apply List.getElem?_eq_none;omega)|(apply List.getElem?_eq_none;omega))
 unfold held at r4
 obtain⟨p1,p2⟩:=List.append_inj r4 (by rw[hl2];simp;omega)
 have e1:held (l3.take A++(ins++l3.drop (A+ins.length))) (A+ins.length) t3=l3.take A++ins++l3.drop t3:=by
  unfold held
  (apply List.ext_getElem?;intro j;simp only[List.getElem?_append,List.getElem?_take,List.getElem?_drop,List.length_append,List.length_take,List.length_drop];(repeat' split);all_goals first|rfl|omega|(congr 1;omega)|(symm;apply List.getElem?_eq_none;omega)|(apply List.getElem?_eq_none;omega))
 have e2:H.take A=l1.take A:=by rw[←hH];unfold held;(apply List.ext_getElem?;intro j;simp only[List.getElem?_append,List.getElem?_take,List.getElem?_drop,List.length_take];(repeat' split);all_goals first|rfl|omega|(congr 1;omega)|(symm;apply List.getElem?_eq_none;omega)|(apply List.getElem?_eq_none;omega))
 have e3:H.drop B=l1.drop t2:=by rw[←hH];unfold held;(apply List.ext_getElem?;intro j;simp only[List.getElem?_append,List.getElem?_take,List.getElem?_drop,List.length_take];(repeat' split);all_goals first|rfl|omega|(congr 1;omega)|(symm;apply List.getElem?_eq_none;omega)|(apply List.getElem?_eq_none;omega))
 rw[e1,p1,p2,q1,q2]
 unfold spliced
 rw[e2,e3]
def okS(l:List Int)(f t:Nat)(a b:Int):Bool:=decide (0≤a∧a≤b∧b+t≤l.length+f)
def zk4(l:List Int)(f t:Nat)(a b:Int)(ins:List Int):AV→List (Tok×List AV)→Prop:=fun x rs=>∃(l':List Int) (f' t':Nat),rs=ZF l' f' t'∧f'≤t'∧t'≤l'.length∧(l'.length=l.length∨t<f+ins.length∧l'.length=2*l.length+ins.length)∧x=.p (.bool (okS l f t a b))∧
 held l' f' t'=if okS l f t a b=true then spliced (held l f t) a.toNat b.toNat ins else held l f t
theorem zaO [Gi](l:List Int)(f t:Nat)(a b:Int)(ins:List Int)(h1:f≤t)(h2:t≤l.length)(h3:(2*l.length+ins.length:Int)≤17592186044416):
  CR Tryz.prog 121 [[0]] [.lp [0] 0,.p (.int .i64 a),.p (.int .i64 b),.p (zh ins)] (ZF l f t) (zk4 l f t a b ins):=by
 refine zm mixed 9 [] Tryz.func121 rfl (by kernel_rfl) rfl (by simp) (by simp) ?_
 simp (maxSteps:=1000000) (disch:=omega) [go_sem,Tryz.f121,ZF,zh]
 refine⟨fun ha hab=>⟨⟨rfl,by simp[Tryz.f63]⟩,?_⟩,?_⟩
 ·refine zc [([0],[0]),([0,0],[0,0])] (jV l f t h1 h2 (by omega)) (by simp (maxSteps:=1000000) [go_sem,Zn]) ⟨by simp (maxSteps:=1000000) [go_sem];omega,by simp (maxSteps:=1000000) [go_sem,ha,hab]⟩ (by simp (maxSteps:=1000000) [go_sem,ZF]) ?_
  rintro x rs ⟨rfl,rfl⟩
  obtain⟨A,rfl⟩:=Int.eq_ofNat_of_zero_le ha
  obtain⟨B,rfl⟩:=Int.eq_ofNat_of_zero_le (show 0≤b by omega)
  have hab':¬(B:Int)<A:=by omega
  have hA':¬(A:Int)<0:=by omega
  simp (maxSteps:=1000000) (disch:=omega) [go_sem,ZF,Zn,hA',hab']
  refine zr (fun h=>?_) (fun h=>?_)
  ·simp (maxSteps:=1000000) (disch:=omega) [go_sem]
   have hno:okS l f t A B=false:=by simp[okS];omega
   refine zi Zn (.p (.bool false)) (by simp[Zn]) (by simp (maxSteps:=1000000) [go_sem,zd,leA]) ?_
   refine⟨l,f,t,?_,h1,h2,.inl rfl,by rw[hno],by rw[hno];simp⟩
   simp (maxSteps:=1000000) [go_sem,ZF,Zn]
  ·simp (maxSteps:=1000000) (disch:=omega) [go_sem]
   refine⟨⟨rfl,by simp[Tryz.f167]⟩,zc [([0],[0]),([0,0],[0,0])] (zfq l f t A h1 h2 (by omega) (by omega)) (by simp (maxSteps:=1000000) [go_sem,Zn]) ⟨by simp (maxSteps:=1000000) [go_sem],by simp (maxSteps:=1000000) [go_sem]⟩ (by simp (maxSteps:=1000000) [go_sem,ZF]) ?_⟩
   rintro x rs ⟨l1,rfl,hl1,hh1⟩
   obtain⟨t1,ht1⟩:∃t1:Nat,t1=A+t-f:=⟨_,rfl⟩
   rw[←ht1]at hh1⊢
   obtain⟨t2,ht2⟩:∃t2:Nat,t2=t1+B-A:=⟨_,rfl⟩
   have e1:((t1:Int)+(B:Int)- (A:Int))=t2:=by omega
   have e2:((t1:Int)+((B:Int)- (A:Int)))=t2:=by omega
   simp (maxSteps:=1000000) (disch:=omega) [go_sem,ZF,Zn,wrap64,e1,e2]
   refine⟨by omega,by omega,⟨rfl,by simp[Tryz.f168]⟩,?_⟩
   obtain⟨l2,hl2⟩:∃l2,l2=l1.take t1++(List.replicate (t2-t1) 0++l1.drop t2):=⟨_,rfl⟩
   have hl2n:l2.length=l1.length:=by rw[hl2];simp;omega
   rw[←hl2]
   refine zc [([0],[0]),([0,0],[0,0])] (ze6 l2 A t2 ins.length (by omega) (by omega) (by omega)) (by simp (maxSteps:=1000000) [go_sem]) ⟨by simp (maxSteps:=1000000) [go_sem],by simp (maxSteps:=1000000) [go_sem]⟩ (by simp (maxSteps:=1000000) [go_sem,ZF,hl2n]) ?_
   rintro x rs ⟨l3,t3,rfl,r1,r2,r3,r4⟩
   simp (maxSteps:=1000000) (disch:=omega) [go_sem,ZF,wrap64]
   refine⟨by omega,by omega,?_⟩
   have hyes:okS l f t A B=true:=by simp[okS];omega
   refine zi [[0],[0,0]] (.p (.bool true)) (by simp) (by simp (maxSteps:=1000000) [go_sem,zd,leA]) ?_
   refine⟨l3.take A++(ins++l3.drop (A+ins.length)),A+ins.length,t3,?_,r1,?_,?_,by rw[hyes],?_⟩
   ·simp (maxSteps:=1000000) [go_sem,ZF];omega
   ·simp;omega
   ·simp;omega
   ·rw[hyes]
    simpa using zbO l1 l2 l3 (held l f t) ins A B t1 t2 t3 hh1 (by omega) (by omega) ht2 (by omega) hl2 r1 r2 r4
 ·intro hno
  refine⟨hno,by omega,?_⟩
  have hno':okS l f t a b=false:=by simp[okS];omega
  refine zi Zn (.p (.bool false)) (by simp[Zn]) (by simp (maxSteps:=1000000) [go_sem,zd,leA]) ?_
  refine⟨l,f,t,?_,h1,h2,.inl rfl,by rw[hno'],by rw[hno'];simp⟩
  simp (maxSteps:=1000000) [go_sem,ZF,Zn]
end Go.Proofs.YthbmelihnabkaaaGreat
end
