/- A part of this seat's proofs, by an abstract machine. Conditions: each law's. -/
import Derived.Test.YtfjdbbpimklecaaGreatDoorV38
set_option maxHeartbeats 8000000
set_option maxRecDepth 100000
namespace Go.Proofs.YtfjdbbpimklecaaGreatDoor
section
open Go.AM
theorem uk1:QA (.int .u8 7) [] []=[PV.int .u8 7]:=by rfl
theorem ux1:Qw (.int .u8 7) (.int .i64 5) [] []=[PV.int .i64 5]:=by rfl
theorem uk2:QA (.int .u8 13) [PV.int .u8 7] [PV.int .i64 5]=[PV.int .u8 7,PV.int .u8 13]:=by rfl
theorem ux2:Qw (.int .u8 13) (.int .i64 6) [PV.int .u8 7] [PV.int .i64 5]=[PV.int .i64 5,PV.int .i64 6]:=by rfl
theorem uk3:QA (.int .u8 10) [PV.int .u8 7,PV.int .u8 13] [PV.int .i64 5,PV.int .i64 6]=[PV.int .u8 7,PV.int .u8 13,PV.int .u8 10]:=by rfl
theorem ux3:Qw (.int .u8 10) (.int .i64 7) [PV.int .u8 7,PV.int .u8 13] [PV.int .i64 5,PV.int .i64 6]=[PV.int .i64 5,PV.int .i64 6,PV.int .i64 7]:=by rfl
theorem fk7:qq [PV.int .u8 7] [PV.int .u8 7,PV.int .u8 13,PV.int .u8 10] [PV.int .i64 5,PV.int .i64 6,PV.int .i64 7] 0=some (0,.int .i64 5):=by rfl
theorem zir:qq [PV.int .u8 13] [PV.int .u8 7,PV.int .u8 13,PV.int .u8 10] [PV.int .i64 5,PV.int .i64 6,PV.int .i64 7] 0=some (1,.int .i64 6):=by rfl
theorem zis:qq [PV.int .u8 10] [PV.int .u8 7,PV.int .u8 13,PV.int .u8 10] [PV.int .i64 5,PV.int .i64 6,PV.int .i64 7] 0=some (2,.int .i64 7):=by rfl
theorem ze9 [Gi](hE:xm)(s:List UInt8)(hs:s.length≤100000):CR Tryz.prog 86 [] [.p (.str s)] [] (is (.tup [.p (vD (tkL s).1),.p (.int .i64 (tkL s).2.1),.p (.int .i64 (tkL s).2.2)])):=by
 obtain⟨RES,hRES⟩:∃RES,RES=tkL s:=⟨_,rfl⟩
 rw[←hRES]
 refine walk Tryz.func86 12 [] [] [] ?_
 simp (maxSteps:=1000000) [go_sem,Tryz.f86]
 refine loop (fun x:Nat×List AOp=>x.1≤s.length∧x.2.length≤x.1∧∃f,s.length≤x.1+f∧RES=QC s f x.1 x.2) (fun x=>[(5,.os [5] 4 (x.2.map opP)),(6,.p (.int .i64 x.1)),(7,.zK),(8,.zK),(9,.zK),(10,.zK),(11,.zK)]) (fun _=>[]) (fun x=>s.length-x.1) (0,[]) ⟨Nat.zero_le _,Nat.zero_le _,s.length,by simp,hRES⟩ (fun x hx=>?_)
 obtain⟨i,out⟩:=x
 obtain⟨hi,ho,f,hf,hr⟩:=hx
 simp only at hi ho hf hr
 by_cases c1:i<s.length
 ·cases f with
  |zero=>omega
  |succ f=>
   rw[QC,if_neg (by omega)]at hr
   have rb:=uf s hi
   have st:=ZH s i
   have w1:IntKind.i64.wrap ((i:Int)+1)=(i:Int)+1:=wrap64 (by omega) (by omega)
   have ob:=uA s c1
   have hn:(s.drop i).getD 0 0=s.getD i 0:=by
    rw[List.getD_eq_getElem?_getD,List.getD_eq_getElem?_getD,List.getElem?_drop,Nat.add_zero]
   by_cases b27:zB s i=27
   ·have h27:s.getD i 0=27:=(wF _ 27).1 (by rw[←st];exact b27)
    rw[if_neg (by rw[h27];decide)]at hr
    have eo:ZD s i=jn (s.drop i):=by unfold ZD;rw[if_neg (by omega),if_neg (by omega),if_neg (by omega),if_pos b27]
    have lk:=zfe (s.drop i) (by rw[hn];exact h27)
    have es:=zc0 hE (s.drop i) (by rw[List.length_drop];omega)
    have ec:cut s (i:Int) (s.length:Int)=s.drop i:=by
     have:((s.drop i).length)=s.length-i:=List.length_drop
     unfold cut
     rw[Int.toNat_natCast,Int.toNat_natCast]
     exact List.take_of_length_le (by omega)
    rw[eo]at hr ob
    generalize jn (s.drop i)=e at*
    generalize Vm (s.drop i)=v at*
    obtain⟨⟨k,a,b,t⟩,n⟩:=e
    obtain⟨⟨k',a',b',t'⟩,n',ok⟩:=v
    obtain⟨ob1,ob2⟩:=ob
    simp only[opP]at hr ob1 ob2 es lk
    cases ok with
    |true=>
     obtain⟨lk1,lk2,lk3⟩:=lk.1 rfl
     injection lk2 with q1 q2 q3 q4
     subst q1;subst q2;subst q3;subst q4;subst lk3
     rw[if_neg lk1]at hr
     have hn:=ob2 lk1
     have w2:IntKind.i64.wrap ((i:Int)+n)=(i:Int)+n:=wrap64 (by omega) (by omega)
     simp (maxSteps:=1000000) [go_sem,c1,b27,ec,hi]
     refine zD es ?_
     simp (maxSteps:=1000000) [go_sem,w2]
     refine⟨by omega,?_⟩
     exact next (i+n,out++[⟨k',a',b',t'⟩]) ⟨by show i+n≤_;omega,by show(out++_).length≤i+n;simp;omega,f,by show s.length≤i+n+f;omega,hr⟩ (h3:=by show s.length- (i+n)<s.length-i;omega) (h2:=by simp[go_sem,LeS,leV,leR,leA,opP])
    |false=>
     have lk1:=lk.2 rfl
     rw[if_pos lk1]at hr
     subst hr
     simp (maxSteps:=1000000) [go_sem,c1,b27,ec,hi]
     refine zD es ?_
     simp (maxSteps:=1000000) [go_sem]
     exact ret (hx:=by simp[go_sem,zg,leA,leT,leP,vD])
   have fin:∀k:Int,k≠0→plB (s.getD i 0)=false→ZD s i=((⟨k,0,0,[]⟩:AOp),1)→RES=QC s f (i+1) (out++[⟨k,0,0,[]⟩]):=fun k hk hp e=>by
    rw[if_neg (by rw[hp];decide),e,if_neg hk]at hr
    exact hr
   by_cases b7:zB s i=7
   ·have h7:s.getD i 0=7:=(wF _ 7).1 (by rw[←st];exact b7)
    have hr:=fin 5 (by decide) (by rw[h7];decide) (by unfold ZD;rw[if_pos b7])
    simp (maxSteps:=1000000) [go_sem,c1,b7,w1,uk1,uk2,uk3,ux1,ux2,ux3,qU,mapOf,Z6,fk7]
    refine⟨by omega,?_⟩
    exact next (i+1,out++[⟨5,0,0,[]⟩]) ⟨by show i+1≤_;omega,by show(out++_).length≤i+1;simp;omega,f,by show s.length≤i+1+f;omega,hr⟩ (h3:=by show s.length- (i+1)<s.length-i;omega) (h2:=by simp[go_sem,LeS,leV,leR,leA,opP])
   by_cases b13:zB s i=13
   ·have h7:s.getD i 0=13:=(wF _ 13).1 (by rw[←st];exact b13)
    have hr:=fin 6 (by decide) (by rw[h7];decide) (by unfold ZD;rw[if_neg b7,if_pos b13])
    simp (maxSteps:=1000000) [go_sem,c1,b13,w1,uk1,uk2,uk3,ux1,ux2,ux3,qU,mapOf,Z6,zir]
    refine⟨by omega,?_⟩
    exact next (i+1,out++[⟨6,0,0,[]⟩]) ⟨by show i+1≤_;omega,by show(out++_).length≤i+1;simp;omega,f,by show s.length≤i+1+f;omega,hr⟩ (h3:=by show s.length- (i+1)<s.length-i;omega) (h2:=by simp[go_sem,LeS,leV,leR,leA,opP])
   by_cases b10:zB s i=10
   ·have h7:s.getD i 0=10:=(wF _ 10).1 (by rw[←st];exact b10)
    have hr:=fin 7 (by decide) (by rw[h7];decide) (by unfold ZD;rw[if_neg b7,if_neg b13,if_pos b10])
    simp (maxSteps:=1000000) [go_sem,c1,b10,w1,uk1,uk2,uk3,ux1,ux2,ux3,qU,mapOf,Z6,zis]
    refine⟨by omega,?_⟩
    exact next (i+1,out++[⟨7,0,0,[]⟩]) ⟨by show i+1≤_;omega,by show(out++_).length≤i+1;simp;omega,f,by show s.length≤i+1+f;omega,hr⟩ (h3:=by show s.length- (i+1)<s.length-i;omega) (h2:=by simp[go_sem,LeS,leV,leR,leA,opP])
   have pl:∀p,plB (s.getD p 0)=(decide (32≤zB s p)&&!decide (zB s p=127)):=fun p=>by
    unfold plB
    have e1:(32≤zB s p)=(32≤(s.getD p 0).toNat):=by rw[ZH];apply propext;omega
    have e2:(zB s p=127)=((s.getD p 0).toNat=127):=by rw[ZH];apply propext;omega
    simp only[e1,e2]
   by_cases c2:plB (s.getD i 0)=true
   ·have c2':=c2
    rw[pl]at c2'
    simp only[Bool.and_eq_true,decide_eq_true_eq,Bool.not_eq_true',decide_eq_false_iff_not]at c2'
    have g1:¬zB s i<32:=by omega
    rw[if_pos c2]at hr
    simp (maxSteps:=1000000) [go_sem,c1,b27,b7,b13,b10,g1,c2'.2]
    refine xU 3 (fun _:Unit=>True) (fun _=>[(11,.p (.int .i64 (qu s i)))]) (fun _=>[]) ?_ ?_
    ·refine loop (fun p:Nat=>i≤p∧p≤qu s i) (fun p=>[(11,.p (.int .i64 p))]) (fun _=>[]) (fun p=>qu s i-p) i ⟨Nat.le_refl _,rb.1⟩ (fun p hp=>?_)
     obtain⟨hp1,hp2⟩:=hp
     by_cases d1:p<s.length
     ·by_cases d2:plB (s.getD p 0)=true
      ·have d3:p<qu s i:=by
        rcases Nat.lt_or_ge p (qu s i)with h|h
        ·exact h
        ·have e:p=qu s i:=by omega
         have:=kN s (i:=i) (by omega)
         rw[←e,d2]at this
         cases this
       have w3:IntKind.i64.wrap ((p:Int)+1)=(p:Int)+1:=wrap64 (by omega) (by omega)
       rw[pl]at d2
       simp only[Bool.and_eq_true,decide_eq_true_eq,Bool.not_eq_true',decide_eq_false_iff_not]at d2
       simp (maxSteps:=1000000) [go_sem,d1,d2.1,d2.2,w3]
       exact next (p+1) (by omega) (h3:=by show qu s i- (p+1)<qu s i-p;omega)
      ·have d3:p=qu s i:=by
        rcases Nat.lt_or_ge p (qu s i)with h|h
        ·exact absurd (Jt s hp1 h) d2
        ·omega
       rw[pl]at d2
       by_cases d4:32≤zB s p
       ·have d5:zB s p=127:=by
         rcases Decidable.em (zB s p=127)with h|h
         ·exact h
         ·exact absurd (by rw[decide_eq_true d4,decide_eq_false h];rfl) d2
        simp (maxSteps:=1000000) [go_sem,d1,d5]
        exact ZY () trivial (by simp[go_sem,d3])
       ·simp (maxSteps:=1000000) [go_sem,d1,d4]
        exact ZY () trivial (by simp[go_sem,d3])
     ·have d3:p=qu s i:=by omega
      simp (maxSteps:=1000000) [go_sem,d1]
      exact ZY () trivial (by simp[go_sem,d3])
    ·rintro _ ts _
     have ec:cut s (i:Int) (qu s i:Int)=(s.drop i).take (qu s i-i):=by simp[cut]
     have hg:i<qu s i:=by
      rcases Nat.lt_or_ge i (qu s i)with h|h
      ·exact h
      ·have e:qu s i=i:=by omega
       have:=kN s (i:=i) (by omega)
       rw[e,c2]at this
       cases this
     generalize qu s i=r at*
     generalize (s.drop i).take (r-i)=t at*
     simp (maxSteps:=1000000) [go_sem,ec,rb.1,rb.2]
     refine⟨by omega,?_⟩
     exact next (r,out++[⟨1,0,0,t⟩]) ⟨by show r≤_;omega,by show(out++_).length≤r;simp;omega,f,by show s.length≤r+f;omega,hr⟩ (h3:=by show s.length-r<s.length-i;omega) (h2:=by simp[go_sem,LeS,leV,leR,leA,opP])
   ·have eo:ZD s i=((⟨0,0,0,[]⟩:AOp),1):=by unfold ZD;rw[if_neg b7,if_neg b13,if_neg b10,if_neg b27]
    rw[if_neg c2,eo]at hr
    simp only[if_true]at hr
    subst hr
    rw[pl]at c2
    by_cases g1:zB s i<32
    ·simp (maxSteps:=1000000) [go_sem,c1,b27,b7,b13,b10,g1]
     exact ret (hx:=by simp[go_sem,zg,leA,leT,leP,vD])
    ·have g2:zB s i=127:=by
      rcases Decidable.em (zB s i=127)with h|h
      ·exact h
      ·exact absurd (by rw[decide_eq_true (show 32≤zB s i by omega),decide_eq_false h];rfl) c2
     simp (maxSteps:=1000000) [go_sem,c1,g2]
     exact ret (hx:=by simp[go_sem,zg,leA,leT,leP,vD])
 ·have hr':RES=(out,0,0):=by
   rw[hr]
   cases f with
   |zero=>rfl
   |succ f=>rw[QC,if_pos (by omega)]
  subst hr'
  simp (maxSteps:=1000000) [go_sem,c1]
  exact ret (hx:=by simp[go_sem,zg,leA,leT,leP,vD])
end
end Go.Proofs.YtfjdbbpimklecaaGreatDoor
