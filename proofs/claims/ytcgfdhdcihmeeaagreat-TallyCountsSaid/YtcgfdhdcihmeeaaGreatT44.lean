/- A part of the proof of this seat's statements, by an abstract machine: what each operation does to values, and what the law's functions compute. Conditions: as each law says. -/
import Derived.Test.YtcgfdhdcihmeeaaGreatT40
import Derived.Test.YtcgfdhdcihmeeaaGreatT42
section
namespace Go.Proofs.YtcgfdhdcihmeeaaGreat
open Go.AM
set_option maxHeartbeats 4000000
set_option maxRecDepth 10000
attribute [local irreducible] za
theorem xR(s:List UInt8):(nb s).length=s.length:=by simp[nb]
theorem znt(s:List UInt8):∀b∈nb s,b<256:=fun b hb=>by
 obtain⟨c,_,rfl⟩:=List.mem_map.1 hb
 exact c.toNat_lt
theorem vb(s:List UInt8)(i:Nat):uh s i=(((nb s).getD i 0:Nat):Int):=by
 unfold uh nb
 simp only[List.getD_eq_getElem?_getD,List.getElem?_map]
 cases s[i]?<;>rfl
theorem zer(s:List UInt8)(i:Nat):(nb s).getD i 0<256:=by
 rw[List.getD_eq_getElem?_getD]
 cases h:(nb s)[i]? with
 |none=>decide
 |some b=>exact znt s b (List.mem_of_getElem? h)
theorem znf(c:Nat):((c:Int)<128)↔c<128:=by omega
theorem znD(c:Nat):((c:Int)<224)↔c<224:=by omega
theorem zn2(c:Nat):((c:Int)<240)↔c<240:=by omega
theorem znJ(c:Nat):((194:Int)≤c)↔194≤c:=by omega
theorem zn1(c:Nat):((160:Int)≤c)↔160≤c:=by omega
theorem znu(c:Nat):((128:Int)≤c)↔128≤c:=by omega
theorem znC(c:Nat):((144:Int)≤c)↔144≤c:=by omega
theorem zns(c:Nat):((c:Int)≤244)↔c≤244:=by omega
theorem znj(c:Nat):((c:Int)≤191)↔c≤191:=by omega
theorem zn3(c:Nat):((c:Int)≤159)↔c≤159:=by omega
theorem znc(c:Nat):((c:Int)≤143)↔c≤143:=by omega
theorem znv(c:Nat):((c:Int)=224)↔c=224:=by omega
theorem znM(c:Nat):((c:Int)=237)↔c=237:=by omega
theorem znN(c:Nat):((c:Int)=240)↔c=240:=by omega
theorem znK(c:Nat):((c:Int)=244)↔c=244:=by omega
theorem je1(c:Nat):((c:Int)=1)↔c=1:=by omega
theorem je0(c:Nat):((c:Int)=0)↔c=0:=by omega
attribute [local go_sem] znf znD zn2 znJ zn1 znu znC zns znj zn3 znc znv znM znN znK je1 je0
theorem zjz [Gi](c:Nat):CR Tryz.prog 80 [] [.p (.int .u8 c)] [] (is (.p (.int .i64 (ZO c:Nat)))):=by
 refine walk Tryz.func80 3 [] [] [] ?_
 unfold ZO
 by_cases h1:c<128
 ·simp (maxSteps:=1000000) [go_sem,Tryz.f80,h1]
  exact ret
 ·by_cases h2:c<224
  ·simp (maxSteps:=1000000) [go_sem,Tryz.f80,h1,h2]
   exact ret
  ·by_cases h3:c<240
   ·simp (maxSteps:=1000000) [go_sem,Tryz.f80,h1,h2,h3]
    exact ret
   ·simp (maxSteps:=1000000) [go_sem,Tryz.f80,h1,h2,h3]
    exact ret
theorem zlL [Gi](s:List UInt8)(i:Nat)(hi:i<s.length):CR Tryz.prog 81 [] [.p (.str s),.p (.int .i64 i)] [] (is (.p (.bool (Yb ((nb s).getD 0 0) ((nb s).getD i 0) i)))):=by
 refine walk Tryz.func81 7 [] [1] [] ?_
 have e0:=vb s 0
 have ei:=vb s i
 generalize (nb s).getD 0 0=c at e0
 generalize (nb s).getD i 0=b at ei
 have h0:0<s.length:=by omega
 unfold Yb
 by_cases i0:i=0
 ·subst i0
  simp (maxSteps:=1000000) [go_sem,Tryz.f81,e0,h0]
  first|exact ret|exact⟨by omega,ret⟩|exact⟨by simp+contextual,ret⟩
 ·by_cases i1:i=1
  ·subst i1
   by_cases c1:c=224
   ·subst c1
    simp (maxSteps:=1000000) [go_sem,Tryz.f81,e0,ei,h0,hi]
    first|exact ret|exact⟨by omega,ret⟩|exact⟨by simp+contextual,ret⟩
   ·by_cases c2:c=237
    ·subst c2
     simp (maxSteps:=1000000) [go_sem,Tryz.f81,e0,ei,h0,hi]
     first|exact ret|exact⟨by omega,ret⟩|exact⟨by simp+contextual,ret⟩
    ·by_cases c3:c=240
     ·subst c3
      simp (maxSteps:=1000000) [go_sem,Tryz.f81,e0,ei,h0,hi]
      first|exact ret|exact⟨by omega,ret⟩|exact⟨by simp+contextual,ret⟩
     ·by_cases c4:c=244
      ·subst c4
       simp (maxSteps:=1000000) [go_sem,Tryz.f81,e0,ei,h0,hi]
       first|exact ret|exact⟨by omega,ret⟩|exact⟨by simp+contextual,ret⟩
      ·have d1:¬(c:Int)=224:=by omega
       have d2:¬(c:Int)=237:=by omega
       have d3:¬(c:Int)=240:=by omega
       have d4:¬(c:Int)=244:=by omega
       simp (maxSteps:=1000000) [go_sem,Tryz.f81,e0,ei,h0,hi,c1,c2,c3,c4,d1,d2,d3,d4]
       first|exact ret|exact⟨by omega,ret⟩|exact⟨by simp+contextual,ret⟩
  ·have j0:¬(i:Int)=0:=by omega
   have j1:¬(i:Int)=1:=by omega
   simp (maxSteps:=1000000) [go_sem,Tryz.f81,e0,ei,h0,hi,i0,i1,j0,j1]
   first|exact ret|exact⟨by omega,ret⟩|exact⟨by simp+contextual,ret⟩
theorem kY(s:List Nat)(n f:Nat):ky s n (f+1)=if n<s.length∧n<ZO (s.getD 0 0)∧Yb (s.getD 0 0) (s.getD n 0) n=true then ky s (n+1) f else n:=rfl
theorem zh5(c:Nat):ZO c≤4:=by unfold ZO;split<;>(try split)<;>(try split)<;>omega
theorem zcB:∀(f:Nat) (s:List Nat) (n:Nat),n≤ky s n f∧ky s n f≤n+f
 |0,s,n=>by simp[ky]
 |f+1,s,n=>by
  rw[kY]
  have:=zcB f s (n+1)
  split<;>omega
theorem YK:∀(f:Nat) (s:List Nat) (n:Nat),n≤s.length→ky s n f≤s.length
 |0,s,n,h=>by simpa[ky]using h
 |f+1,s,n,h=>by
  rw[kY]
  split
  ·rename_i q;exact YK f s (n+1) q.1
  ·exact h
theorem zlB [Gi](s:List UInt8)(h0:0<s.length)(hn:s.length<2^47):CR Tryz.prog 45 [] [.p (.str s)] [] (is (.tup [.p (.int .i64 (kB (nb s):Nat)),.p (.bool (Z9 (nb s)))])):=by
 refine walk Tryz.func45 5 [] [] [] ?_
 have hlong:=zjz ((nb s).getD 0 0)
 have hl4:=zh5 ((nb s).getD 0 0)
 have e0:=vb s 0
 obtain⟨N,hN⟩:∃N,N=kB (nb s):=⟨_,rfl⟩
 unfold Z9
 rw[←hN]
 have hm:=fun n (h:n<s.length)=>zlL s n h
 generalize hcd:(nb s).getD 0 0=c at*
 simp (maxSteps:=1000000) [go_sem,Tryz.f45]
 refine zf2 0 (fun n:Nat=>n=N∧n≤4) (fun n=>[(4,.p (.int .i64 n))]) (fun _=>[]) ?_ ?_
 ·refine loop (fun n:Nat=>n≤4∧N=ky (nb s) n (4-n)) (fun n=>[(4,.p (.int .i64 n))]) (fun _=>[]) (fun n=>4-n) 0 ⟨by omega,hN⟩ (fun n hi=>?_)
  obtain⟨h1,h2⟩:=hi
  by_cases c1:n<s.length
  ·have hm:=hm n c1
   by_cases c2:n<ZO c
   ·obtain⟨f,hf⟩:∃f,4-n=f+1:=⟨4-n-1,by omega⟩
    rw[hf,kY,xR,hcd]at h2
    simp (maxSteps:=1000000) [go_sem,c1,e0,h0]
    refine zq hlong ?_
    simp (maxSteps:=1000000) [go_sem,c2]
    refine zq hm ?_
    cases hv:Yb c ((nb s).getD n 0) n with
    |true=>
     rw[hv,if_pos ⟨c1,c2,rfl⟩]at h2
     have w1:IntKind.i64.wrap ((n:Int)+1)=((n+1:Nat):Int):=zD (by omega)
     simp (maxSteps:=1000000) [go_sem,w1]
     exact next (n+1) ⟨by omega,by rw[h2];congr 1;omega⟩ (h3:=by show 4- (n+1)<4-n;omega)
    |false=>
     rw[hv,if_neg (fun q=>by cases q.2.2)]at h2
     simp (maxSteps:=1000000) [go_sem]
     exact Kp n ⟨h2.symm,h1⟩ (by simp[go_sem])
   ·have h3:N=n:=by
     rw[h2]
     cases hq:4-n with
     |zero=>rfl
     |succ f=>rw[kY,hcd,if_neg (fun q=>c2 q.2.1)]
    simp (maxSteps:=1000000) [go_sem,c1,e0,h0]
    refine zq hlong ?_
    simp (maxSteps:=1000000) [go_sem,c2]
    exact Kp n ⟨h3.symm,h1⟩ (by simp[go_sem])
  ·have h3:N=n:=by
    rw[h2]
    cases hq:4-n with
    |zero=>rfl
    |succ f=>rw[kY,xR,if_neg (fun q=>c1 q.1)]
   simp (maxSteps:=1000000) [go_sem,c1]
   exact Kp n ⟨h3.symm,h1⟩ (by simp[go_sem])
 ·rintro n ts ⟨rfl,h4⟩
  by_cases hp:0<n
  ·simp (maxSteps:=1000000) [go_sem,hp,e0,h0]
   refine zq hlong ?_
   simp (maxSteps:=1000000) [go_sem,hp]
   exact ret (hx:=by simp[go_sem,zf,leA,leT,leP];omega)
  ·obtain rfl:n=0:=by omega
   simp (maxSteps:=1000000) [go_sem]
   exact ret
end Go.Proofs.YtcgfdhdcihmeeaaGreat
end
