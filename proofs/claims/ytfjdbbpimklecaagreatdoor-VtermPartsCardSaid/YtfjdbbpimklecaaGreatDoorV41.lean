/- A part of this seat's proofs, by an abstract machine. Conditions: each law's. -/
import Derived.Test.YtfjdbbpimklecaaGreatDoorV31
import Derived.Test.YtfjdbbpimklecaaGreatDoorV40
import Derived.Test.YtfjdbbpimklecaaGreatDoorV38
import Derived.Test.YtfjdbbpimklecaaGreatDoorV39
set_option maxHeartbeats 4000000
set_option maxRecDepth 10000
namespace Go.Proofs.YtfjdbbpimklecaaGreatDoor
section
open Go.AM
attribute [local irreducible] zb
end
section
open Go.AM
attribute [local irreducible] zb vwL
def wO(R C:Nat)(l:zQ)(r c:Int):PV:=.agg [ZJ R C l,.int .i64 r,.int .i64 c]
end
section
open Go.AM
attribute [local irreducible] zb
theorem qM [Gi](hE:xm) {e:PV}(hT:wA e)(R C:Nat)(t:Trm) {B:Int}(s:List UInt8)(hR:1≤R∧R≤500)(hC:2≤C∧C≤1000)(h:qH R C B t)(hB:B≤100000000)(hs:s.length≤40000):
  CR Tryz.prog 33 [[0]] [.lp [0] 0,.p (.str s)] (vt e R C t) (ZP (vt e R C (zU R C t s)) (.p (.int .i64 (tkL s).2.2))):=by
 have tk:=ze9 hE s (by omega)
 have tB:=zkC s
 have tl:=Vp s
 rw[show zU R C t s=(tkL s).1.foldl (Zt R C) t from rfl]
 generalize (tkL s).1=L at*
 generalize (tkL s).2.1=P at*
 generalize (tkL s).2.2=E at*
 refine zcg [[0],[1],[2]] Tryz.func33 10 [18,19,20] [] [] ?_
 simp (maxSteps:=1000000) [go_sem,Tryz.f33,vt]
 refine zD tk ?_
 simp (maxSteps:=1000000) [go_sem,vD]
 refine loop (fun i:Nat=>i≤L.length) (fun i=>[(9,.zK),(20,.p (.int .i64 i))]) (fun i=>[([0],[.p e,.lp [1] 0,.p (.int .i64 ((L.take i).foldl (Zt R C) t).r),.p (.int .i64 ((L.take i).foldl (Zt R C) t).c),.p (.bool ((L.take i).foldl (Zt R C) t).f),.p (.int .i64 ((L.take i).foldl (Zt R C) t).b)]),([2],cw ((L.take i).foldl (Zt R C) t).l)]) (fun i=>L.length-i) 0 (Nat.zero_le _) (fun i hi=>?_) (h0:=by simp[go_sem,LeS,leV,leR,leA,leL,zl,zd])
 have hT':=qH.all hC.1 (L.take i) h
 rw[List.length_take,Nat.min_eq_left hi]at hT'
 by_cases d:i<L.length
 ·have em:elemAt (L.map opP) i=opP L[i]:=zu opP L i d
  have st:(L.take (i+1)).foldl (Zt R C) t=Zt R C ((L.take i).foldl (Zt R C) t) L[i]:=by
   rw[List.take_add_one,List.getElem?_eq_getElem d,List.foldl_append];rfl
  have gi:=tB L[i] (List.getElem_mem d)
  have wj:IntKind.i64.wrap ((i:Int)+1)=((i+1:Nat):Int):=qD (by omega)
  generalize L[i]=o at em st gi
  generalize (L.take i).foldl (Zt R C) t=T at hT' st⊢
  have hs:=ze7 hT R C T o hR hC hT' (by omega) ⟨gi.1,gi.2.1,by have:=gi.2.2;omega⟩
  obtain⟨k,a,b,x⟩:=o
  simp only[opP]at hs em
  simp (maxSteps:=1000000) [go_sem,d,em]
  refine call [([0],[0]),([1],[1]),([2],[2])] hs ?_ (hr:=by simp[go_sem,vt,zf,zd])
  rintro _ _ ⟨rfl,rfl⟩
  simp (maxSteps:=1000000) [go_sem,vt,zf,zd,wj]
  exact next (i+1) d (h3:=by show L.length- (i+1)<L.length-i;omega) (h2:=by simp[go_sem,LeS,leV,leR,leA,leL,zl,zd,st])
 ·obtain rfl:i=L.length:=by omega
  rw[List.take_length]
  simp (maxSteps:=1000000) [go_sem]
  exact xd (hr:=by simp[go_sem,zd,zf])
theorem Qj [Gi](e:PV)(he:∃z p,e=.pt z p)(R C:Nat)(hR:1≤R∧R≤500)(hC:2≤C∧C≤1000):CR Tryz.prog 29 [] [.p e,.p (.int .i64 R),.p (.int .i64 C)] [] (fun x rs=>x=.lp [0] 0∧rs=vt e R C (Zj R C)):=by
 obtain⟨z,p,rfl⟩:=he
 have lk:CR Tryz.prog 29 [] [.p (.pt z p),.p (.int .i64 R),.p (.int .i64 C)] [] (fun x rs=>x=.lp [16] 0∧zw rs [16]=some [.p (.pt z p),.lp [7] 0,.p (.int .i64 0),.p (.int .i64 0),.p (.bool false),.p (.int .i64 0)]∧zw rs [7]=some [.p (.int .i64 R),.p (.int .i64 C),.la [7,1] 2 0 (R*C)]∧zw rs [7,1]=some (cw (List.replicate (R*C) blk))):=by
  refine walk Tryz.func29 8 [] [] [] ?_
  simp (maxSteps:=1000000) [go_sem,Tryz.f29]
  refine call [([0],[7]),([1],[7,1])] (zcc R C hR hC) ?_
  rintro _ _ ⟨rfl,rfl⟩
  simp (maxSteps:=1000000) [go_sem,gp,zf,zd]
  exact zt [[16],[7],[7,1]] (.lp [16] 0) ⟨rfl,by simp⟩ (by simp[go_sem,zg,leA,leT]) ⟨rfl,by simp[go_sem,zd]⟩
 refine lk.ren 1000 ?_
 rintro x rs ⟨rfl,h0,h1,h2⟩
 exact⟨[([0],[16]),([1],[7]),([2],[7,1])],rfl,rfl,rfl,by simp[Zk,St.ofR,h0,h1,h2,vt,Zj,zf,AV.ren,AV.upd,u9,jt,inM]⟩
theorem xp [Gi](e:PV)(R C:Nat)(t:Trm):CR Tryz.prog 42 [[0],[1],[2]] [.lp [0] 0] (vt e R C t) (ZP (vt e R C t) (.p (.int .i64 t.b))):=by
 refine X2 Tryz.func42 3 [] [] [] ?_
 simp (maxSteps:=1000000) [go_sem,Tryz.f42,vt]
 exact Xt (hr:=by simp[go_sem,zd,zf])
def zcf:OT:=.now 0 2 (.now 1 2 (.now 2 2 (.now 4 2 (.now 5 2 (.now 6 2 (.now 8 0 (.now 9 0 (.now 10 0 (.now 11 0 (.mk [(3,.mk [(7,.mk [(12,.now 13 0 (.mk [(14,.now 15 0 (.mk []))]))]),(12,.now 7 0 (.now 13 0 (.mk [(14,.now 15 0 (.mk []))])))]),(7,.mk [(3,.mk [(12,.now 13 0 (.mk [(14,.now 15 0 (.mk []))]))]),(12,.now 3 0 (.now 13 0 (.mk [(14,.now 15 0 (.mk []))])))]),(12,.now 3 0 (.now 7 0 (.now 13 0 (.mk [(14,.now 15 0 (.mk []))]))))]))))))))))
def zb1:OT:=.now 0 0 (.now 1 0 (.now 2 0 (.now 3 0 (.now 5 2 (.now 6 2 (.now 7 2 (.mk [(4,.now 8 0 (.now 9 0 (.mk [(10,.mk [])]))),(8,.mk [(4,.now 9 0 (.mk [(10,.mk [])]))])])))))))
theorem zgF [Gi](R C N:Nat)(l:zQ)(hl:l.length=N)(h0:0<N)(hN:N≤1000000):CR Tryz.prog 65 [[0],[1]] [.lp [0] 0] (gp R C N l) (ZP (gp R C N l) (.p (ZJ R C l))):=by
 have cl:=YJ l 0 N h0 (by omega) (by omega)
 rw[List.drop_zero,List.take_of_length_le (by omega),Nat.zero_mul]at cl
 have lk:CR Tryz.prog 65 [[0],[1]] [.lp [0] 0] (gp R C N l) (ZP (gp R C N l++[([19],[.p (.int .i64 R),.p (.int .i64 C),.p (qQ l)])]) (.lp [19] 0)):=by
  refine zcg [[0],[1],[19]] Tryz.func65 3 [] [200003] [] ?_
  simp (maxSteps:=1000000) [go_sem,Tryz.f65,gp]
  refine ZC zcf (by kernel_rfl) ?_
  simp (maxSteps:=1000000) [go_sem,zcf]
  repeat'(first|refine call [([0],[1])] cl ?_ (hr:=by simp[go_sem,zf])|apply And.intro)
  all_goals
   rintro _ _ ⟨rfl,rfl⟩
   simp (maxSteps:=1000000) [go_sem,zf,zd,qQ]
   exact xd (hr:=by simp[go_sem,zd,zf])
 refine lk.freeze (fun t=>t== [0] || t== [1]) rfl ?_
 rintro x rs ⟨rfl,rfl⟩
 refine⟨.p (ZJ R C l),zgO (cs:=[.p (.int .i64 R),.p (.int .i64 C),.p (qQ l)]) (ps:=[.int .i64 R,.int .i64 C,qQ l]) rfl rfl rfl ?_,by simp[K6,gp,zd,AV.upd,fil,ZS],rfl⟩
 intro g w hG j x p v hx hp hv
 rcases j with _|_|_|j
 ·simp at hx hp;subst hx;subst hp;simpa only[za,zi]using hv
 ·simp at hx hp;subst hx;subst hp;simpa only[za,zi]using hv
 ·simp only[List.getElem?_cons_succ,List.getElem?_cons_zero,Option.some.injEq]at hx hp
  subst hx;subst hp
  rw[Yg]at hv
  exact hv.ext (xX hG _)
 ·simp at hx
def vtS(e:PV)(R C:Nat)(t:Trm):List (Tok×List AV):=[([0],[.p e,.lp [1] 0,.p (.int .i64 t.r),.p (.int .i64 t.c),.p (.bool t.f),.p (.int .i64 t.b)]),([1],[.p (.int .i64 R),.p (.int .i64 C),.la [1,1] 2 0 (R*C)]),([1,1],cw t.l)]
theorem ZF [Gi](e:PV)(R C:Nat)(t:Trm)(hR:1≤R∧R≤500)(hC:2≤C∧C≤1000)(hl:t.l.length=R*C):CR Tryz.prog 37 [[0],[1],[1,1]] [.lp [0] 0] (vtS e R C t) (ZP (vtS e R C t) (.p (wO R C t.l t.r t.c))):=by
 have hRC:R*C≤500000:=Nat.mul_le_mul hR.2 hC.2
 have hRC0:0<R*C:=Nat.mul_pos (by omega) (by omega)
 have cr:=zgF R C (R*C) t.l hl hRC0 (by omega)
 refine X2 Tryz.func37 3 [] [200003] [] ?_
 unfold wO
 simp (maxSteps:=1000000) [go_sem,Tryz.f37,vtS]
 refine ZC zb1 (by kernel_rfl) ?_
 simp (maxSteps:=1000000) [go_sem,zb1]
 repeat'(first|refine call [([0],[1]),([1],[1,1])] cr ?_ (hr:=by simp[go_sem,gp,zf,zd])|apply And.intro)
 all_goals
  rintro _ _ ⟨rfl,rfl⟩
  simp (maxSteps:=1000000) [go_sem,gp,zf,zd,ZJ,qQ]
  exact Xt (hr:=by simp[go_sem,zd,zf])
theorem zaL [Gi](l:zQ)(hn:l.length≤1000000):CR Tryz.prog 101 [] [.p (qQ l),.p (qQ l)] [] (is (.p (.bool true))):=by
 refine walk Tryz.func101 6 [11,12,13] [6] [] ?_
 simp (maxSteps:=1000000) [go_sem,Tryz.f101,qQ]
 refine loop (fun i:Nat=>i≤l.length) (fun i=>[(5,.zK),(13,.p (.int .i64 i))]) (fun i=>[]) (fun i=>l.length-i) 0 (Nat.zero_le _) (fun i hi=>?_) (h0:=by simp[go_sem,LeS,leV,leR,leA])
 by_cases d:i<l.length
 ·have em:=Yz d
  have wj:IntKind.i64.wrap ((i:Int)+1)=((i+1:Nat):Int):=qD (by omega)
  generalize l[i]=x at em
  simp (maxSteps:=1000000) [go_sem,d,em,wj]
  exact next (i+1) d (h3:=by show l.length- (i+1)<l.length-i;omega) (h2:=by simp[go_sem,LeS,leV,leR,leA])
 ·obtain rfl:i=l.length:=by omega
  simp (maxSteps:=1000000) [go_sem]
  exact ret
theorem zf8 [Gi](R C:Nat)(l:zQ)(hn:l.length≤1000000):CR Tryz.prog 48 [] [.p (ZJ R C l),.p (ZJ R C l)] [] (is (.p (.bool true))):=by
 have eq:=zaL l hn
 refine walk Tryz.func48 5 [] [3] [] ?_
 unfold qQ at eq
 simp (maxSteps:=1000000) [go_sem,Tryz.f48,ZJ]
 refine ym 101 eq ?_
 simp (maxSteps:=1000000) [go_sem]
 exact ret
theorem kM [Gi](R C:Nat)(l:zQ)(r c:Int)(hn:l.length≤1000000):CR Tryz.prog 39 [] [.p (wO R C l r c),.p (wO R C l r c)] [] (is (.p (.bool true))):=by
 have eq:=zf8 R C l hn
 refine walk Tryz.func39 5 [] [] [] ?_
 unfold ZJ qQ at eq
 simp (maxSteps:=1000000) [go_sem,Tryz.f39,wO,ZJ]
 refine zD eq ?_
 simp (maxSteps:=1000000) [go_sem]
 exact ret
end
section
open Go.AM
theorem zlh:(tkL [97,98,99]).2.2=0:=by decide+kernel
theorem zlg:(tkL [100]).2.2=0:=by decide+kernel
theorem zlk:(zU 1 3 (Zj 1 3) [97,98,99]).l=[⟨[97],1⟩,⟨[98],1⟩,⟨[99],1⟩]:=by decide+kernel
theorem zk6:(zU 1 3 (Zj 1 3) [97,98,99]).r=0:=by decide+kernel
theorem zle:(zU 1 3 (Zj 1 3) [97,98,99]).c=2:=by decide+kernel
theorem zlt:(zU 1 3 (Zj 1 3) [97,98,99]).f=true:=by decide+kernel
theorem zk9:(zU 1 3 (Zj 1 3) [97,98,99]).b=0:=by decide+kernel
theorem zkQ:zU 1 3 (Zj 1 3) [97,98,99]=⟨[⟨[97],1⟩,⟨[98],1⟩,⟨[99],1⟩],0,2,true,0⟩:=by
 have h1:=zlk
 have h2:=zk6
 have h3:=zle
 have h4:=zlt
 have h5:=zk9
 generalize zU 1 3 (Zj 1 3) [97,98,99]=t at*
 obtain⟨l,r,c,f,b⟩:=t
 simp only at h1 h2 h3 h4 h5
 rw[h1,h2,h3,h4,h5]
theorem zla:(zU 1 3 ⟨[⟨[97],1⟩,⟨[98],1⟩,⟨[99],1⟩],0,2,true,0⟩ [100]).l=[⟨[100],1⟩,blk,blk]:=by decide+kernel
theorem zlj:(zU 1 3 ⟨[⟨[97],1⟩,⟨[98],1⟩,⟨[99],1⟩],0,2,true,0⟩ [100]).r=0:=by decide+kernel
theorem zlv:(zU 1 3 ⟨[⟨[97],1⟩,⟨[98],1⟩,⟨[99],1⟩],0,2,true,0⟩ [100]).c=1:=by decide+kernel
theorem zlx:(zU 1 3 ⟨[⟨[97],1⟩,⟨[98],1⟩,⟨[99],1⟩],0,2,true,0⟩ [100]).f=false:=by decide+kernel
theorem zlm:(zU 1 3 ⟨[⟨[97],1⟩,⟨[98],1⟩,⟨[99],1⟩],0,2,true,0⟩ [100]).b=0:=by decide+kernel
theorem zln:zU 1 3 ⟨[⟨[97],1⟩,⟨[98],1⟩,⟨[99],1⟩],0,2,true,0⟩ [100]=⟨[⟨[100],1⟩,blk,blk],0,1,false,0⟩:=by
 have h1:=zla
 have h2:=zlj
 have h3:=zlv
 have h4:=zlx
 have h5:=zlm
 generalize zU 1 3 ⟨[⟨[97],1⟩,⟨[98],1⟩,⟨[99],1⟩],0,2,true,0⟩ [100]=t at*
 obtain⟨l,r,c,f,b⟩:=t
 simp only at h1 h2 h3 h4 h5
 rw[h1,h2,h3,h4,h5]
attribute [local irreducible] zb
def txS(cs:zQ):Nat→List UInt8×Nat
 |0=>([],0)
 |i+1=>((txS cs i).1++(cs.getD i blk).t,if cs.getD i blk≠blk∧(cs.getD i blk).t≠ []then((txS cs i).1++(cs.getD i blk).t).length else(txS cs i).2)
def txR(cs:zQ):List UInt8:=(txS cs cs.length).1.take (txS cs cs.length).2
theorem zfh(cs:zQ)(h:∀x∈cs,x.t.length≤1000):∀i,(txS cs i).2≤(txS cs i).1.length∧(txS cs i).1.length≤1000*i
 |0=>by simp[txS]
 |i+1=>by
  have ih:=zfh cs h i
  have hx:(cs.getD i blk).t.length≤1000:=by
   by_cases c:i<cs.length
   ·rw[jd c];exact h _ (List.getElem_mem c)
   ·rw[List.getD_eq_getElem?_getD,List.getElem?_eq_none (by omega)];simp[blk]
  unfold txS
  simp only[List.length_append]
  split
  ·omega
  ·omega
theorem zkB(t:List UInt8)(w:Int):((!decide (t=[32]) ||!decide (w=1))&&!decide (t=[]))=decide ((⟨t,w⟩:Cl)≠blk∧t≠ []):=by
 by_cases a:t=[32]<;>by_cases b:w=1<;>by_cases c:t=[]<;>simp[a,b,c,blk]
def UD(C:Nat)(l:zQ)(i:Nat):List PV:=((List.range i).map fun k=>txR (Qp C l k)).map PV.str
theorem zej(C:Nat)(l:zQ)(i:Nat):(UD C l i).length=i:=by simp[UD]
theorem zdU(C:Nat)(l:zQ)(i:Nat):UD C l (i+1)=UD C l i++[.str (txR (Qp C l i))]:=by unfold UD;rw[List.range_succ];simp
theorem zb8 [Gi](R C:Nat)(l:zQ)(r c:Int)(hR:R≤500)(hC:1≤C∧C≤1000)(hl:l.length=R*C)(ht:∀x∈l,x.t.length≤1000):CR Tryz.prog 90 [] [.p (wO R C l r c)] [] (is (.p (.sl 1 (UD C l R)))):=by
 have sz:=Xl R C l
 refine walk Tryz.func90 11 [17,18,24,25,26] [11] [] ?_
 unfold wO
 unfold ZJ qQ at sz⊢
 simp (maxSteps:=1000000) [go_sem,Tryz.f90]
 refine zD sz ?_
 simp (maxSteps:=1000000) [go_sem]
 refine loop (fun i:Nat=>i≤R) (fun i=>[(5,.os [5] 1 (UD C l i)),(6,.zK),(7,.zK),(8,.zK),(10,.zK),(18,.p (.int .i64 i)),(24,.zK),(25,.zK),(26,.zK)]) (fun i=>[]) (fun i=>R-i) 0 (Nat.zero_le _) (fun i hi=>?_) (h0:=by simp[go_sem,LeS,leV,leR,leA,leL,UD])
 by_cases d:i<R
 ·have rv:=zhu R C l i hR hC hl d
  have hlen:=wV hl d
  have hx:∀x∈Qp C l i,x.t.length≤1000:=fun x hx=>ht x (List.mem_of_mem_drop (List.mem_of_mem_take hx))
  have wi:IntKind.i64.wrap ((i:Int)+1)=((i+1:Nat):Int):=qD (by omega)
  have eo:=zdU C l i
  have nl:=zej C l i
  generalize UD C l i=O at*
  generalize Qp C l i=cs at*
  unfold ZJ qQ at rv
  simp (maxSteps:=1000000) [go_sem,d]
  refine zD rv ?_
  simp (maxSteps:=1000000) [go_sem]
  refine loop (fun j:Nat=>j≤cs.length) (fun j=>[(7,.p (.str (txS cs j).1)),(8,.p (.int .i64 (txS cs j).2)),(10,.zK),(26,.p (.int .i64 j))]) (fun j=>[]) (fun j=>cs.length-j) 0 (Nat.zero_le _) (fun j hj=>?_) (h0:=by simp[go_sem,LeS,leV,leR,leA,leL,txS])
  have tb:=zfh cs hx j
  by_cases d2:j<cs.length
  ·have em:=Yz d2
   have gd:=jd d2
   have st:txS cs (j+1)=((txS cs j).1++(cs.getD j blk).t,if cs.getD j blk≠blk∧(cs.getD j blk).t≠ []then((txS cs j).1++(cs.getD j blk).t).length else(txS cs j).2):=rfl
   have hxj:=hx _ (List.getElem_mem d2)
   rw[gd]at st
   have wj:IntKind.i64.wrap ((j:Int)+1)=((j+1:Nat):Int):=qD (by omega)
   generalize cs[j]=x at em st hxj
   obtain⟨tx,w⟩:=x
   generalize txS cs j=T at*
   obtain⟨T1,T2⟩:=T
   simp only at em st tb hxj
   simp (maxSteps:=1000000) [go_sem,d2,em]
   refine⟨by omega,ym 82 Z4 ?_⟩
   simp (maxSteps:=1000000) [go_sem,clP,blk]
   rw[zkB tx w]
   by_cases q:(⟨tx,w⟩:Cl)≠blk∧tx≠ []
   ·rw[if_pos q]at st
    rw[decide_eq_true q]
    simp (maxSteps:=1000000) [go_sem,wj]
    exact next (j+1) d2 (h3:=by show cs.length- (j+1)<cs.length-j;omega) (h2:=by simp[go_sem,LeS,leV,leR,leA,leL,st])
   ·rw[if_neg q]at st
    rw[decide_eq_false q]
    simp (maxSteps:=1000000) [go_sem,wj]
    exact next (j+1) d2 (h3:=by show cs.length- (j+1)<cs.length-j;omega) (h2:=by simp[go_sem,LeS,leV,leR,leA,leL,st])
  ·obtain rfl:j=cs.length:=by omega
   have hc:AM.cut (txS cs cs.length).1 0 ((txS cs cs.length).2:Int)=txR cs:=by unfold txR AM.cut;simp
   simp (maxSteps:=1000000) [go_sem,wi,hc]
   exact⟨tb.1,by omega,next (i+1) d (h3:=by show R- (i+1)<R-i;omega) (h2:=by simp[go_sem,LeS,leV,leR,leA,leL,eo])⟩
 ·obtain rfl:i=R:=by omega
  simp (maxSteps:=1000000) [go_sem]
  exact ret
theorem wY [Gi](hE:xm):CR Tryz.prog 36 [] [] [] (is (.p (.bool true))):=by
 refine walk Tryz.func36 8 [] [6] [] ?_
 simp (maxSteps:=1000000) [go_sem,Tryz.f36]
 refine zD yM ?_
 simp (maxSteps:=1000000) [go_sem]
 refine call [] Ql ?_
 rintro _ _ ⟨rfl,e,rfl,hT⟩
 obtain⟨z0,y0,rfl⟩:∃z y,e=.pt z y:=by
  obtain⟨c,b,j,f,p,_,rfl⟩:=hT
  exact⟨_,_,rfl⟩
 simp (maxSteps:=1000000) [go_sem]
 refine call [([0],[1]),([1],[1,1]),([2],[1,2])] (Qj (.pt z0 y0) ⟨_,_,rfl⟩ 1 3 (by omega) (by omega)) ?_
 rintro _ _ ⟨rfl,rfl⟩
 have ok0:=Ys 1 3 (by omega) (by omega)
 have ok1:=Qz (by omega) ok0 [97,98,99]
 rw[zkQ]at ok1
 have w1:=qM hE hT 1 3 (Zj 1 3) [97,98,99] (by omega) (by omega) ok0 (by omega) (by simp)
 have w2:=qM hE hT 1 3 _ [100] (by omega) (by omega) ok1 (by simp) (by simp)
 rw[zkQ,zlh]at w1
 rw[zln,zlg]at w2
 have s1:=ZF (.pt z0 y0) 1 3 ⟨[⟨[97],1⟩,⟨[98],1⟩,⟨[99],1⟩],0,2,true,0⟩ (by omega) (by omega) rfl
 have s2:=ZF (.pt z0 y0) 1 3 ⟨[⟨[100],1⟩,blk,blk],0,1,false,0⟩ (by omega) (by omega) rfl
 have t1:=zb8 1 3 [⟨[97],1⟩,⟨[98],1⟩,⟨[99],1⟩] 0 2 (by omega) (by omega) rfl (by simp)
 have t2:=zb8 1 3 [⟨[100],1⟩,blk,blk] 0 1 (by omega) (by omega) rfl (by simp[blk])
 rw[show UD 3 [⟨[97],1⟩,⟨[98],1⟩,⟨[99],1⟩] 1=[.str [97,98,99]] by rfl]at t1
 rw[show UD 3 [⟨[100],1⟩,blk,blk] 1=[.str [100]] by rfl]at t2
 unfold wO at s1 s2 t1 t2
 simp only at s1 s2
 unfold ZJ at s1 s2 t1 t2
 generalize qQ [⟨[97],1⟩,⟨[98],1⟩,⟨[99],1⟩]=G1 at s1 t1
 generalize qQ [⟨[100],1⟩,blk,blk]=G2 at s2 t2
 simp (maxSteps:=1000000) [go_sem,vt,zf]
 refine call [([0],[1]),([1],[1,1]),([2],[1,2])] w1 ?_ (hr:=by simp[go_sem,vt,zf])
 rintro _ _ ⟨rfl,rfl⟩
 simp (maxSteps:=1000000) [go_sem,vt,zf,zd]
 refine call [([0],[1]),([1],[1,1]),([1,1],[1,2])] s1 ?_ (hr:=by simp[go_sem,vtS,zf])
 rintro _ _ ⟨rfl,rfl⟩
 simp (maxSteps:=1000000) [go_sem,vtS,zf,zd]
 refine call [([0],[1]),([1],[1,1]),([2],[1,2])] w2 ?_ (hr:=by simp[go_sem,vt,zf])
 rintro _ _ ⟨rfl,rfl⟩
 simp (maxSteps:=1000000) [go_sem,vt,zf,zd]
 refine call [([0],[1]),([1],[1,1]),([1,1],[1,2])] s2 ?_ (hr:=by simp[go_sem,vtS,zf])
 rintro _ _ ⟨rfl,rfl⟩
 simp (maxSteps:=1000000) [go_sem,vtS,zf,zd]
 refine ym 90 t1 ?_
 simp (maxSteps:=1000000) [go_sem]
 refine ym 90 t2 ?_
 have el1:elemAt [PV.str [97,98,99]] 0=.str [97,98,99]:=rfl
 have el2:elemAt [PV.str [100]] 0=.str [100]:=rfl
 simp (maxSteps:=1000000) [go_sem,el1,el2]
 exact ret
end
section
open Go.AM
attribute [local irreducible] zb
def wtT(R C:Nat)(l:List (List UInt8)):Nat→Trm
 |0=>Zj R C
 |i+1=>zU R C (wtT R C l i) ((l.getD i []).take 200)
theorem zaK(R C:Nat)(hR:1≤R)(hC:2≤C)(l:List (List UInt8)):∀i:Nat,qH R C ((200*i:Nat):Int) (wtT R C l i)
 |0=>Ys R C hR hC
 |i+1=>by
  have k:=Qz hC (zaK R C hR hC l i) ((l.getD i []).take 200)
  have hn:((l.getD i []).take 200).length≤200:=by rw[List.length_take];omega
  exact⟨k.hl,k.ho,k.hr,k.hc,by have:=k.hb;unfold wtT;push_cast at this⊢;omega⟩
theorem za8 {R C:Nat} {t:Trm} {s:List UInt8}(h:(tkL s).2.2≠0):zU R C t s=t:=by
 unfold zU
 rcases VA s with e|e
 ·exact absurd e.1 h
 ·rw[e.2];rfl
theorem VV [Gi] (hE : xm) (rows cols : Int) (l : List (List UInt8)) : CR Tryz.prog 7 [] [.p (.int .i64 rows), .p (.int .i64 cols), .p (.sl 1 (l.map PV.str))] [] (is (.p (.bool true))) := by
  obtain ⟨m1, hm1, e1⟩ := zeS rows 7 (by omega)
  obtain ⟨m2, hm2, e2⟩ := zeS cols 15 (by omega)
  simp [go_sem] at e1 e2
  obtain ⟨R, hR⟩ : ∃ R : Nat, R = 1 + m1 := ⟨_, rfl⟩
  obtain ⟨C, hC⟩ : ∃ C : Nat, C = 2 + m2 := ⟨_, rfl⟩
  have wR : IntKind.i64.wrap (1 + (m1 : Int)) = (R : Int) := by rw [wrap64 (by omega) (by omega)]; omega
  have wC : IntKind.i64.wrap (2 + (m2 : Int)) = (C : Int) := by rw [wrap64 (by omega) (by omega)]; omega
  refine walk Tryz.func7 15 [] [] [] ?_
  simp (maxSteps := 1000000) [go_sem, Tryz.f7, e1, e2, wR, wC]
  refine zD yM ?_
  simp (maxSteps := 1000000) [go_sem]
  refine call [] Ql ?_
  rintro _ _ ⟨rfl, e, rfl, hT⟩
  obtain ⟨z0, y0, rfl⟩ : ∃ z y, e = .pt z y := by
    obtain ⟨c, b, j, f, p, _, rfl⟩ := hT
    exact ⟨_, _, rfl⟩
  simp (maxSteps := 1000000) [go_sem]
  refine call [([0], [7]), ([1], [7, 1]), ([2], [7, 2])] (Qj (.pt z0 y0) ⟨_, _, rfl⟩ R C (by omega) (by omega)) ?_
  rintro _ _ ⟨rfl, rfl⟩
  simp (maxSteps := 1000000) [go_sem, vt, zf]
  refine loop (fun i : Nat => i ≤ l.length) (fun i => [(8, .p (.int .i64 i)), (9, .zK), (10, .zK), (11, .zK), (12, .zK), (13, .zK), (14, .zK)]) (fun i => [([7], [.p (.pt z0 y0), .lp [7, 1] 0, .p (.int .i64 (wtT R C l i).r), .p (.int .i64 (wtT R C l i).c), .p (.bool (wtT R C l i).f), .p (.int .i64 (wtT R C l i).b)]), ([7, 2], cw (wtT R C l i).l)]) (fun i => l.length - i) 0 (Nat.zero_le _) (fun i hi => ?_) (h0 := by simp [go_sem, LeS, leV, leR, leA, leL, zl, zd, wtT])
  by_cases d : i < l.length
  · by_cases d20 : i < 20
    · have em : elemAt (l.map PV.str) i = .str (l.getD i []) := by
        rw [zu PV.str l i d, List.getD_eq_getElem?_getD, List.getElem?_eq_getElem d]; rfl
      have ok := zaK R C (by omega) (by omega) l i
      have ok2 := zaK R C (by omega) (by omega) l (i + 1)
      have st : wtT R C l (i + 1) = zU R C (wtT R C l i) ((l.getD i []).take 200) := rfl
      have w1 : IntKind.i64.wrap ((i : Int) + 1) = ((i + 1 : Nat) : Int) := qD (by omega)
      generalize wtT R C l i = t at *
      generalize ht' : wtT R C l (i + 1) = t' at *
      generalize l.getD i [] = s0 at em st
      have wr := qM hE hT R C t (s0.take 200) (by omega) (by omega) ok (by omega) (by rw [List.length_take]; omega)
      rw [← st] at wr
      have er := VA (s0.take 200)
      have ne : (tkL (s0.take 200)).2.2 ≠ 0 → t' = t := fun h => st.trans (za8 h)
      generalize (tkL (s0.take 200)).2.2 = E at wr er ne
      have s1 := ZF (.pt z0 y0) R C t (by omega) (by omega) ok.hl
      have s2 := ZF (.pt z0 y0) R C t' (by omega) (by omega) ok2.hl
      have d20' : (i : Int) < 20 := by omega
      unfold wO at s1 s2
      simp (maxSteps := 1000000) [go_sem, d, d20', em]
      refine Zn (fun _ : Unit => True) (fun _ => [(9, .p (.str (s0.take 200)))]) (fun _ => []) ?_ ?_
      · by_cases q : 200 < s0.length
        · have q' : (200 : Int) < s0.length := by omega
          have ec : AM.cut s0 0 200 = s0.take 200 := by unfold AM.cut; simp
          simp (maxSteps := 1000000) [go_sem, q', ec]
          exact ⟨by omega, zR () trivial (by simp [go_sem])⟩
        · have q' : ¬ (200 : Int) < s0.length := by omega
          have ec : s0.take 200 = s0 := List.take_of_length_le (by omega)
          simp (maxSteps := 1000000) [go_sem, q']
          exact zR () trivial (by simp [go_sem, ec])
      · rintro _ ts _
        generalize s0.take 200 = s1' at *
        simp (maxSteps := 1000000) [go_sem]
        have sz := Xl R C t'.l
        have c1 : ¬ t'.r < 0 := by have := ok2.hr; omega
        have c2 : ¬ (R : Int) ≤ t'.r := by have := ok2.hr; omega
        have c3 : ¬ t'.c < 0 := by have := ok2.hc; omega
        have c4 : ¬ (C : Int) ≤ t'.c := by have := ok2.hc; omega
        by_cases q : E = 0
        · subst q
          unfold ZJ at s1 s2 sz
          generalize qQ t.l = G1 at s1
          generalize qQ t'.l = G2 at s2 sz
          refine call [([0], [7]), ([1], [7, 1]), ([1, 1], [7, 2])] s1 ?_ (hr := by simp [go_sem, vtS, zf])
          rintro _ _ ⟨rfl, rfl⟩
          simp (maxSteps := 1000000) [go_sem, vtS, zf, zd]
          refine call [([0], [7]), ([1], [7, 1]), ([2], [7, 2])] wr ?_ (hr := by simp [go_sem, vt, zf])
          rintro _ _ ⟨rfl, rfl⟩
          simp (maxSteps := 1000000) [go_sem, vt, zf, zd]
          refine call [([0], [7]), ([1], [7, 1]), ([1, 1], [7, 2])] s2 ?_ (hr := by simp [go_sem, vtS, zf])
          rintro _ _ ⟨rfl, rfl⟩
          simp (maxSteps := 1000000) [go_sem, vtS, zf, zd]
          refine zD sz ?_
          simp (maxSteps := 1000000) [go_sem, c1, c2, c3, c4]
          simp only [w1]
          exact next (i + 1) d (h3 := by show l.length - (i + 1) < l.length - i; omega) (h2 := by simp [go_sem, LeS, leV, leR, leA, leL, zl, zd, ht'])
        · have q4 : E = 4 := by
            rcases er with h | h
            · exact absurd h.1 q
            · exact h.1
          obtain rfl := ne q
          subst q4
          have sm := kM R C t'.l t'.r t'.c (by rw [ok2.hl]; have : R * C ≤ 8 * 17 := Nat.mul_le_mul (by omega) (by omega); omega)
          unfold wO at sm
          unfold ZJ at s1 s2 sz sm
          generalize qQ t'.l = G2 at s1 s2 sz sm
          refine call [([0], [7]), ([1], [7, 1]), ([1, 1], [7, 2])] s1 ?_ (hr := by simp [go_sem, vtS, zf])
          rintro _ _ ⟨rfl, rfl⟩
          simp (maxSteps := 1000000) [go_sem, vtS, zf, zd]
          refine call [([0], [7]), ([1], [7, 1]), ([2], [7, 2])] wr ?_ (hr := by simp [go_sem, vt, zf])
          rintro _ _ ⟨rfl, rfl⟩
          simp (maxSteps := 1000000) [go_sem, vt, zf, zd]
          refine call [([0], [7]), ([1], [7, 1]), ([1, 1], [7, 2])] s2 ?_ (hr := by simp [go_sem, vtS, zf])
          rintro _ _ ⟨rfl, rfl⟩
          simp (maxSteps := 1000000) [go_sem, vtS, zf, zd]
          refine zD sz ?_
          simp (maxSteps := 1000000) [go_sem, c1, c2, c3, c4]
          refine zD sm ?_
          simp (maxSteps := 1000000) [go_sem, w1]
          exact next (i + 1) d (h3 := by show l.length - (i + 1) < l.length - i; omega) (h2 := by simp [go_sem, LeS, leV, leR, leA, leL, zl, zd, zk, ht'])
    · have d20' : ¬ (i : Int) < 20 := by omega
      simp (maxSteps := 1000000) [go_sem, d, d20']
      refine zD (wY hE) ?_
      simp (maxSteps := 1000000) [go_sem]
      exact ret
  · obtain rfl : i = l.length := by omega
    simp (maxSteps := 1000000) [go_sem]
    refine zD (wY hE) ?_
    simp (maxSteps := 1000000) [go_sem]
    exact ret
end
end Go.Proofs.YtfjdbbpimklecaaGreatDoor
