/- A part of the proof of this seat's statements, by an abstract machine: what each operation does to values, and what the law's functions compute. Conditions: as each law says. -/
import Derived.Test.YtjefahhmkcfiiaaGreatT39
import Derived.Test.YtjefahhmkcfiiaaGreatT38
section
namespace Go.Proofs.YtjefahhmkcfiiaaGreat
open Go.AM
set_option maxHeartbeats 1000000
set_option maxRecDepth 10000
attribute [local irreducible] za
theorem zbh(t:zV):∀(xs ys:List Int) (s:xP) (m:Nat),ku t s xs<m→m≤xs.length→xs.take m=ys.take m→ku t s ys=ku t s xs
 |xs,ys,_,0,h,_,_=>absurd h (Nat.not_lt_zero _)
 | [],_,_,m+1,_,h,_=>by simp at h
 |x::xs,[],_,m+1,_,_,h=>by simp at h
 |x::xs,y::ys,s,m+1,h1,h2,h3=>by
  simp only[List.take_succ_cons,List.cons.injEq]at h3
  obtain⟨rfl,h3⟩:=h3
  unfold ku at h1⊢
  split
  ·rfl
  ·rename_i hc
   rw[if_neg hc]at h1
   rw[zbh t xs ys _ m (by omega) (by simpa using h2) h3]
theorem zbP(t:zV):∀(k:Nat) (l l':List Int) (n:Nat),plc (Zs t l) k<n→k≤(Zs t l).length→n≤l.length→l.take n=l'.take n→(Zs t l').take k=(Zs t l).take k
 |0,_,_,_,_,_,_,_=>by simp
 |k+1,[],_,_,_,h,_,_=>by simp[Zs,xL]at h
 |k+1,x::xs,l',n,h1,h2,h3,h4=>by
  rw[ya]at h1 h2⊢
  obtain⟨r,hr⟩:∃r,r=ku t (qQ t Z6 x).1 xs:=⟨_,rfl⟩
  have hrl:=J5 t xs (qQ t Z6 x).1
  rw[←hr]at h1 h2 hrl⊢
  rw[yL]at h1
  simp only[List.length_cons,List.length_take]at h1 h2 h3
  obtain⟨n,rfl⟩:∃n',n=n'+1:=⟨n-1,by omega⟩
  cases l' with
  |nil=>simp at h4
  |cons y ys=>
   simp only[List.take_succ_cons,List.cons.injEq]at h4
   obtain⟨rfl,h4⟩:=h4
   have er:ku t (qQ t Z6 x).1 ys=r:=by rw[hr];exact zbh t xs ys _ n (by rw[←hr];omega) (by omega) h4
   have e1:ys.take r=xs.take r:=by
    have:=congrArg (List.take r) h4
    rw[List.take_take,List.take_take,Nat.min_eq_left (by omega)]at this
    exact this.symm
   have e2:(xs.drop r).take (n-r)=(ys.drop r).take (n-r):=by
    have:=congrArg (List.drop r) h4
    rw[List.drop_take,List.drop_take]at this
    exact this
   rw[ya,er,e1,List.take_succ_cons,List.take_succ_cons]
   congr 1
   exact zbP t k _ _ (n-r) (by omega) (by omega) (by rw[List.length_drop];omega) e2
theorem U5(t:zV):∀(k:Nat) (l:List Int),k≤(Zs t l).length→Zs t (l.drop (plc (Zs t l) k))=(Zs t l).drop k
 |0,l,_=>by rw[Qh];simp
 |k+1,[],h=>by simp[Zs,xL]at h
 |k+1,x::xs,h=>by
  rw[ya]at h⊢
  obtain⟨r,hr⟩:∃r,r=ku t (qQ t Z6 x).1 xs:=⟨_,rfl⟩
  have hrl:=J5 t xs (qQ t Z6 x).1
  rw[←hr]at h hrl⊢
  have e:(x::xs.take r).length=r+1:=by rw[List.length_cons,List.length_take];omega
  rw[yL,e,List.drop_succ_cons]
  have e2:(x::xs).drop (r+1+plc (Zs t (xs.drop r)) k)=(xs.drop r).drop (plc (Zs t (xs.drop r)) k):=by
   have:r+1+plc (Zs t (xs.drop r)) k=(r+plc (Zs t (xs.drop r)) k)+1:=by omega
   rw[this,List.drop_succ_cons,List.drop_drop]
  rw[e2]
  exact U5 t k (xs.drop r) (by simpa using h)
theorem zdT(L:List (List Int))(i d:Nat):plc L (i+d)=plc L i+plc (L.drop i) d:=by
 unfold plc qd
 rw[List.take_add,List.map_append,List.sum_append]
theorem zfA {l l':List Int} {L L':List (List Int)}(hL:L=zL za l)(hL':L'=zL za l') {b k:Nat}(hb:b≤l.length)(hs:l.take b=l'.take b)(hk:k≤L.length)(hp:k=0∨plc L k<b):L'.take k=L.take k:=by
 rcases hp with rfl|hp
 ·simp
 ·subst hL;subst hL'
  rw[←yF,←yF]at*
  exact zbP T0 k l l' b hp hk hb hs
theorem ziA {l l':List Int} {L L':List (List Int)}(hL:L=zL za l)(hL':L'=zL za l') {i j:Nat}(hi:i≤L'.length)(hj:j≤L.length)(hs:l.drop (plc L j)=l'.drop (plc L' i)):L'.drop i=L.drop j:=by
 subst hL;subst hL'
 rw[←yF]at*
 rw[←yF]at*
 rw[←U5 T0 i l' hi,←U5 T0 j l hj,hs]
end Go.Proofs.YtjefahhmkcfiiaaGreat
end
section
namespace Go.Proofs.YtjefahhmkcfiiaaGreat
open Go.AM
set_option maxHeartbeats 4000000
set_option maxRecDepth 10000
theorem zh8(l:List Int)(f t k:Nat)(h1:f≤t)(h2:t≤l.length)(h:k≤f):
  held (l.take (k+t-f)++((l.drop k).take (f-k)++l.drop t)) k (k+t-f)=held l f t:=by
 unfold held
 (apply List.ext_getElem?;intro j;simp only[List.getElem?_append,List.getElem?_take,List.getElem?_drop,List.length_append,List.length_take,List.length_drop];(repeat' split);all_goals first|rfl|omega|(congr 1;omega)|(symm;apply List.getElem?_eq_none;omega)|(apply List.getElem?_eq_none;omega))
theorem zmB(l:List Int)(f t k:Nat)(h1:f≤t)(h2:t≤l.length)(h:f≤k)(h4:k+t≤l.length+f):
  held (l.take f++((l.drop t).take (k-f)++l.drop k)) k (k+t-f)=held l f t:=by
 unfold held
 (apply List.ext_getElem?;intro j;simp only[List.getElem?_append,List.getElem?_take,List.getElem?_drop,List.length_append,List.length_take,List.length_drop];(repeat' split);all_goals first|rfl|omega|(congr 1;omega)|(symm;apply List.getElem?_eq_none;omega)|(apply List.getElem?_eq_none;omega))
def zpQ(l:List Int)(f t at_:Nat):AV→List (Tok×List AV)→Prop:=fun _ rs=>∃l',rs=ZV l' at_ (at_+t-f)∧l'.length=l.length∧held l' at_ (at_+t-f)=held l f t
theorem zfF [Gi](l:List Int)(f t at_:Nat)(h1:f≤t)(h2:t≤l.length)(h3:(l.length:Int)≤140737488355328)(h4:at_+t≤l.length+f):
  CR Tryz.prog 189 ZD [.lp [0] 0,.p (.int .i64 at_)] (ZV l f t) (zpQ l f t at_):=by
 refine zm mixed 6 [] Tryz.func189 rfl (by kernel_rfl) rfl (by simp) (by simp) ?_
 simp (maxSteps:=1000000) [go_sem,Tryz.f189,ZV,ZD]
 refine zA (fun h=>?_) (fun h=>?_)
 ·simp (maxSteps:=1000000) (disch:=omega) [go_sem,wrap64]
  have e1:((t:Int)- ((f:Int)- (at_:Int))).toNat=at_+t-f:=by omega
  have e2:at_+t-f+(f-at_)=t:=by omega
  have e3:((t:Int)- ((f:Int)- (at_:Int)))=((at_+t-f:Nat):Int):=by omega
  refine⟨by omega,by omega,by omega,?_⟩
  rw[e1,e2,e3,List.take_take,Nat.min_self]
  refine zi ZD (.tup []) (by simp[ZD]) (by simp (maxSteps:=1000000) [go_sem,zd]) ?_
  refine⟨_,?_,?_,zh8 l f t at_ h1 h2 (by omega)⟩
  ·simp (maxSteps:=1000000) [go_sem,ZD,ZV];omega
  ·simp;omega
 ·simp (maxSteps:=1000000) (disch:=omega) [go_sem]
  refine zA (fun h'=>?_) (fun h'=>?_)
  ·simp (maxSteps:=1000000) (disch:=omega) [go_sem,wrap64]
   have e1:((t:Int)+((at_:Int)- (f:Int))).toNat-t=at_-f:=by omega
   have e2:f+(at_-f)=at_:=by omega
   have e3:((t:Int)+((at_:Int)- (f:Int)))=((at_+t-f:Nat):Int):=by omega
   refine⟨by omega,by omega,by omega,?_⟩
   rw[e1,e2,e3,List.take_take,Nat.min_self]
   refine zi ZD (.tup []) (by simp[ZD]) (by simp (maxSteps:=1000000) [go_sem,zd]) ?_
   refine⟨_,?_,?_,zmB l f t at_ h1 h2 (by omega) h4⟩
   ·simp (maxSteps:=1000000) [go_sem,ZD,ZV];omega
   ·simp;omega
  ·simp (maxSteps:=1000000) (disch:=omega) [go_sem]
   have e:f=at_:=by omega
   subst e
   have e2:f+t-f=t:=by omega
   refine zi ZD (.tup []) (by simp[ZD]) (by simp (maxSteps:=1000000) [go_sem,zd]) ?_
   refine⟨l,?_,rfl,by rw[e2]⟩
   rw[e2]
   simp (maxSteps:=1000000) [go_sem,ZD,ZV]
def zpj(l:List Int)(f t n:Nat):AV→List (Tok×List AV)→Prop:=fun _ rs=>∃l' t',rs=ZV l' f t'∧f+n≤t'∧t'≤l'.length∧(l'.length=l.length∨t<f+n∧l'.length=2*l.length+n)∧held l' f t'=held l f t
def zpe(l:List Int)(f t n:Nat):AV→List (Tok×List AV)→Prop:=fun _ rs=>∃(l':List Int) (t':Nat) (u:Tok),(u=[0,0]∨u=[25])∧rs=[([0],[.la u 1 0 l'.length,.p (.int .i64 (f:Int)),.p (.int .i64 (t':Int))]),(u,rcs l')]∧f+n≤t'∧t'≤l'.length∧(l'.length=l.length∨t<f+n∧l'.length=2*l.length+n)∧held l' f t'=held l f t
theorem ziN(l:List Int)(f t n T N:Nat)(h1:f≤t)(h2:t≤l.length)(hN:N=2*l.length+n)(hT:T+l.length=N+t):
  held ((l.take f++List.replicate (N-f) 0).take T++((l.drop t).take (l.length-t)++(l.take f++List.replicate (N-f) 0).drop (T+(l.length-t)))) f T=held l f t:=by
 unfold held
 (apply List.ext_getElem?;intro j;simp only[List.getElem?_append,List.getElem?_take,List.getElem?_drop,List.length_append,List.length_take,List.length_drop,List.getElem?_replicate,List.length_replicate];(repeat' split);all_goals first|rfl|omega|(congr 1;omega)|(symm;apply List.getElem?_eq_none;omega)|(apply List.getElem?_eq_none;omega))
theorem zg6 [Gi](l:List Int)(f t n:Nat)(h1:f≤t)(h2:t≤l.length)(h3:(2*l.length+n:Int)≤17592186044416):
  CR Tryz.prog 190 [[0]] [.lp [0] 0,.p (.int .i64 n)] (ZV l f t) (zpj l f t n):=by
 refine CR.ren (R:=zpe l f t n) ?_ 100 ?_
 ·refine zm mixed 6 [] Tryz.func190 rfl (by kernel_rfl) rfl (by simp) (by simp) ?_
  simp (maxSteps:=1000000) (disch:=omega) [go_sem,Tryz.f190,ZV,wrap64]
  refine zA (fun h=>?_) (fun h=>?_)
  ·simp (maxSteps:=1000000) (disch:=omega) [go_sem]
   refine zi [[0],[0,0]] (.tup []) (by simp) (by simp (maxSteps:=1000000) [go_sem,zd]) ?_
   refine⟨l,t,[0,0],.inl rfl,?_,by omega,h2,.inl rfl,rfl⟩
   simp (maxSteps:=1000000) [go_sem]
  ·obtain⟨N,hN⟩:∃N:Nat,N=2*l.length+n:=⟨_,rfl⟩
   obtain⟨T,hT⟩:∃T:Nat,T+l.length=N+t:=⟨N+t-l.length,by omega⟩
   have hN':(2*(l.length:Int)+n)=N:=by omega
   have hT':((N:Int)- (l.length-t))=T:=by omega
   simp (maxSteps:=1000000) (disch:=omega) [go_sem,wrap64,hN',hT']
   refine⟨by omega,by omega,by omega,by omega,by omega,by omega,?_⟩
   refine zi [[0],[25]] (.tup []) (by simp) (by simp (maxSteps:=1000000) [go_sem,zd]) ?_
   rw[List.take_take,List.take_take,Nat.min_self,Nat.min_self]
   refine⟨_,T,[25],.inr rfl,?_,by omega,?_,?_,ziN l f t n T N h1 h2 hN hT⟩
   ·simp (maxSteps:=1000000) [go_sem];omega
   ·simp;omega
   ·right;constructor
    ·omega
    ·simp;omega
 ·rintro x rs ⟨l',t',u,hu,rfl,r1,r2,r3,r4⟩
  refine⟨[([0],[0]),([0,0],u)],?_,by simp (maxSteps:=1000000) [go_sem],l',t',?_,r1,r2,r3,r4⟩
  ·rcases hu with rfl|rfl<;>rfl
  ·rcases hu with rfl|rfl<;>simp (maxSteps:=1000000) [go_sem,ZV]
def spliced(l:List Int)(a b:Nat)(ins:List Int):List Int:=l.take a++ins++l.drop b
theorem zeK(l1 l2 l3 H ins:List Int)(A B t1 t2 t3:Nat)(hH:held l1 A t1=H)(hA:A≤t1)(hB:A≤B)(h2:t2=t1+B-A)(h1:t2≤l1.length)(hl2:l2=l1.take t1++(List.replicate (t2-t1) 0++l1.drop t2))
  (r1:A+ins.length≤t3) (r2:t3≤l3.length) (r4:held l3 A t3=held l2 A t2):held (l3.take A++(ins++l3.drop (A+ins.length))) (A+ins.length) t3=spliced H A B ins:=by
 have q1:l2.take A=l1.take A:=by rw[hl2];(apply List.ext_getElem?;intro j;simp only[List.getElem?_append,List.getElem?_take,List.getElem?_drop,List.length_take,List.getElem?_replicate,List.length_replicate];(repeat' split);all_goals first|rfl|omega|(congr 1;omega)|(symm;apply List.getElem?_eq_none;omega)|(apply List.getElem?_eq_none;omega))
 have q2:l2.drop t2=l1.drop t2:=by rw[hl2];(apply List.ext_getElem?;intro j;simp only[List.getElem?_append,List.getElem?_take,List.getElem?_drop,List.length_take,List.getElem?_replicate,List.length_replicate];(repeat' split);all_goals first|rfl|omega|(congr 1;omega)|(symm;apply List.getElem?_eq_none;omega)|(apply List.getElem?_eq_none;omega))
 unfold held at r4
 obtain⟨p1,p2⟩:=List.append_inj r4 (by rw[hl2];simp;omega)
 have e1:held (l3.take A++(ins++l3.drop (A+ins.length))) (A+ins.length) t3=l3.take A++ins++l3.drop t3:=by
  unfold held
  (apply List.ext_getElem?;intro j;simp only[List.getElem?_append,List.getElem?_take,List.getElem?_drop,List.length_append,List.length_take,List.length_drop];(repeat' split);all_goals first|rfl|omega|(congr 1;omega)|(symm;apply List.getElem?_eq_none;omega)|(apply List.getElem?_eq_none;omega))
 have e2:H.take A=l1.take A:=by rw[←hH];unfold held;(apply List.ext_getElem?;intro j;simp only[List.getElem?_append,List.getElem?_take,List.getElem?_drop,List.length_take];(repeat' split);all_goals first|rfl|omega|(congr 1;omega)|(symm;apply List.getElem?_eq_none;omega)|(apply List.getElem?_eq_none;omega))
 have e3:H.drop B=l1.drop t2:=by rw[←hH];unfold held;(apply List.ext_getElem?;intro j;simp only[List.getElem?_append,List.getElem?_take,List.getElem?_drop,List.length_take];(repeat' split);all_goals first|rfl|omega|(congr 1;omega)|(symm;apply List.getElem?_eq_none;omega)|(apply List.getElem?_eq_none;omega))
 rw[e1,p1,p2,q1,q2]
 unfold spliced
 rw[e2,e3]
def okS(l:List Int)(f t:Nat)(a b:Int):Bool:=decide (0≤a∧a≤b∧b+t≤l.length+f)
def zmc(l:List Int)(f t:Nat)(a b:Int)(ins:List Int):AV→List (Tok×List AV)→Prop:=fun x rs=>∃(l':List Int) (f' t':Nat),rs=ZV l' f' t'∧f'≤t'∧t'≤l'.length∧(l'.length=l.length∨t<f+ins.length∧l'.length=2*l.length+ins.length)∧x=.p (.bool (okS l f t a b))∧
 held l' f' t'=if okS l f t a b=true then spliced (held l f t) a.toNat b.toNat ins else held l f t
theorem zc6 [Gi](l:List Int)(f t:Nat)(a b:Int)(ins:List Int)(h1:f≤t)(h2:t≤l.length)(h3:(2*l.length+ins.length:Int)≤17592186044416):
  CR Tryz.prog 153 [[0]] [.lp [0] 0,.p (.int .i64 a),.p (.int .i64 b),.p (zg ins)] (ZV l f t) (zmc l f t a b ins):=by
 refine zm mixed 9 [] Tryz.func153 rfl (by kernel_rfl) rfl (by simp) (by simp) ?_
 simp (maxSteps:=1000000) (disch:=omega) [go_sem,Tryz.f153,ZV,zg]
 refine⟨fun ha hab=>⟨⟨rfl,by simp[Tryz.f93]⟩,?_⟩,?_⟩
 ·refine zb [([0],[0]),([0,0],[0,0])] (kW l f t h1 h2 (by omega)) (by simp (maxSteps:=1000000) [go_sem,ZD]) ⟨by simp (maxSteps:=1000000) [go_sem];omega,by simp (maxSteps:=1000000) [go_sem,ha,hab]⟩ (by simp (maxSteps:=1000000) [go_sem,ZV]) ?_
  rintro x rs ⟨rfl,rfl⟩
  obtain⟨A,rfl⟩:=Int.eq_ofNat_of_zero_le ha
  obtain⟨B,rfl⟩:=Int.eq_ofNat_of_zero_le (show 0≤b by omega)
  have hab':¬(B:Int)<A:=by omega
  have hA':¬(A:Int)<0:=by omega
  simp (maxSteps:=1000000) (disch:=omega) [go_sem,ZV,ZD,hA',hab']
  refine zA (fun h=>?_) (fun h=>?_)
  ·simp (maxSteps:=1000000) (disch:=omega) [go_sem]
   have hno:okS l f t A B=false:=by simp[okS];omega
   refine zi ZD (.p (.bool false)) (by simp[ZD]) (by simp (maxSteps:=1000000) [go_sem,zd,leA]) ?_
   refine⟨l,f,t,?_,h1,h2,.inl rfl,by rw[hno],by rw[hno];simp⟩
   simp (maxSteps:=1000000) [go_sem,ZV,ZD]
  ·simp (maxSteps:=1000000) (disch:=omega) [go_sem]
   refine⟨⟨rfl,by simp[Tryz.f189]⟩,zb [([0],[0]),([0,0],[0,0])] (zfF l f t A h1 h2 (by omega) (by omega)) (by simp (maxSteps:=1000000) [go_sem,ZD]) ⟨by simp (maxSteps:=1000000) [go_sem],by simp (maxSteps:=1000000) [go_sem]⟩ (by simp (maxSteps:=1000000) [go_sem,ZV]) ?_⟩
   rintro x rs ⟨l1,rfl,hl1,hh1⟩
   obtain⟨t1,ht1⟩:∃t1:Nat,t1=A+t-f:=⟨_,rfl⟩
   rw[←ht1]at hh1⊢
   obtain⟨t2,ht2⟩:∃t2:Nat,t2=t1+B-A:=⟨_,rfl⟩
   have e1:((t1:Int)+(B:Int)- (A:Int))=t2:=by omega
   have e2:((t1:Int)+((B:Int)- (A:Int)))=t2:=by omega
   simp (maxSteps:=1000000) (disch:=omega) [go_sem,ZV,ZD,wrap64,e1,e2]
   refine⟨by omega,by omega,⟨rfl,by simp[Tryz.f190]⟩,?_⟩
   obtain⟨l2,hl2⟩:∃l2,l2=l1.take t1++(List.replicate (t2-t1) 0++l1.drop t2):=⟨_,rfl⟩
   have hl2n:l2.length=l1.length:=by rw[hl2];simp;omega
   rw[←hl2]
   refine zb [([0],[0]),([0,0],[0,0])] (zg6 l2 A t2 ins.length (by omega) (by omega) (by omega)) (by simp (maxSteps:=1000000) [go_sem]) ⟨by simp (maxSteps:=1000000) [go_sem],by simp (maxSteps:=1000000) [go_sem]⟩ (by simp (maxSteps:=1000000) [go_sem,ZV,hl2n]) ?_
   rintro x rs ⟨l3,t3,rfl,r1,r2,r3,r4⟩
   simp (maxSteps:=1000000) (disch:=omega) [go_sem,ZV,wrap64]
   refine⟨by omega,by omega,?_⟩
   have hyes:okS l f t A B=true:=by simp[okS];omega
   refine zi [[0],[0,0]] (.p (.bool true)) (by simp) (by simp (maxSteps:=1000000) [go_sem,zd,leA]) ?_
   refine⟨l3.take A++(ins++l3.drop (A+ins.length)),A+ins.length,t3,?_,r1,?_,?_,by rw[hyes],?_⟩
   ·simp (maxSteps:=1000000) [go_sem,ZV];omega
   ·simp;omega
   ·simp;omega
   ·rw[hyes]
    simpa using zeK l1 l2 l3 (held l f t) ins A B t1 t2 t3 hh1 (by omega) (by omega) ht2 (by omega) hl2 r1 r2 r4
 ·intro hno
  refine⟨hno,by omega,?_⟩
  have hno':okS l f t a b=false:=by simp[okS];omega
  refine zi ZD (.p (.bool false)) (by simp[ZD]) (by simp (maxSteps:=1000000) [go_sem,zd,leA]) ?_
  refine⟨l,f,t,?_,h1,h2,.inl rfl,by rw[hno'],by rw[hno'];simp⟩
  simp (maxSteps:=1000000) [go_sem,ZV,ZD]
end Go.Proofs.YtjefahhmkcfiiaaGreat
end
