/- A part of the proof of this seat's statements, by an abstract machine: what each operation does to values, and what the law's functions compute. Conditions: as each law says. -/
import Derived.Test.YtcgfdhdcihmeeaaGreatT44
import Derived.Test.YtcgfdhdcihmeeaaGreatT40
import Derived.Test.YtcgfdhdcihmeeaaGreatT45
import Derived.Test.YtcgfdhdcihmeeaaGreatT18
section
namespace Go.Proofs.YtcgfdhdcihmeeaaGreat
open Go.AM
set_option maxHeartbeats 4000000
set_option maxRecDepth 10000
attribute [local irreducible] za
def bdV:Nat→Int
 |0=>300
 |1=>300
 |2=>20000
 |3=>1300000
 |_=>84000000
theorem zej {s:List UInt8} {i:Nat}(h:i<s.length):(nb s).drop i=(nb s).getD i 0::(nb s).drop (i+1):=by
 rw[List.drop_eq_getElem_cons (by rw[xR];exact h),List.getD_eq_getElem?_getD,List.getElem?_eq_getElem (by rw[xR];exact h)]
 rfl
theorem zjp [Gi](s:List UInt8)(h1:1≤s.length)(h4:s.length≤4):CR Tryz.prog 46 [] [.p (.str s)] [] (is (.p (.int .i32 (kj (nb s))))):=by
 refine walk Tryz.func46 6 [] [] [] ?_
 have h0:0<s.length:=by omega
 have e0:=vb s 0
 have g0:=zer s 0
 have es:=zej h0
 rw[List.drop_zero]at es
 have hl:((nb s).drop 1).length=s.length-1:=by rw[List.length_drop,xR]
 have k0:IntKind.i64.wrap (((nb s).getD 0 0:Nat):Int)=(((nb s).getD 0 0:Nat):Int):=wrap64 (by omega) (by omega)
 generalize hcd:(nb s).getD 0 0=c at*
 by_cases c1:s.length=1
 ·have ev:kj (nb s)=(c:Int):=by
   rw[es,List.length_eq_zero_iff.1 (show((nb s).drop 1).length=0 by omega)];rfl
  rw[ev]
  have k1:IntKind.i32.wrap (c:Int)=(c:Int):=wrap32 (by omega) (by omega)
  simp (maxSteps:=1000000) [go_sem,Tryz.f46,e0,c1,k0,k1]
  exact ret
 ·obtain⟨v0,hv0⟩:∃v0:Int,v0=(c:Int)- (if s.length=4 then 240 else if s.length=3 then 224 else 192):=⟨_,rfl⟩
  have ev:kj (nb s)=Ks v0 ((nb s).drop 1):=by
   have hlen:s.length=2∨s.length=3∨s.length=4:=by omega
   obtain⟨y,l,ey⟩:∃y l,(nb s).drop 1=y::l:=by
    cases hd:(nb s).drop 1 with
    |nil=>rw[hd]at hl;simp at hl;omega
    |cons y l=>exact⟨y,l,rfl⟩
   rw[es,Nat.zero_add,ey,hv0]
   rw[ey]at hl
   show Ks ((c:Int)- (if(y::l).length=3 then 240 else if(y::l).length=2 then 224 else 192)) (y::l)=_
   rw[hl]
   rcases hlen with e|e|e<;>rw[e]<;>rfl
  obtain⟨V,hV⟩:∃V,V=kj (nb s):=⟨_,rfl⟩
  rw[←hV]
  rw[←hV]at ev
  have hz: -300≤v0∧v0≤300:=by rw[hv0];split<;>(try split)<;>omega
  have k1:IntKind.i64.wrap ((c:Int)-192)=(c:Int)-192:=wrap64 (by omega) (by omega)
  have k2:IntKind.i64.wrap ((c:Int)-224)=(c:Int)-224:=wrap64 (by omega) (by omega)
  have k3:IntKind.i64.wrap ((c:Int)-240)=(c:Int)-240:=wrap64 (by omega) (by omega)
  have hlen:s.length=2∨s.length=3∨s.length=4:=by omega
  rcases hlen with e|e|e<;>(simp only[e]at hv0;simp (maxSteps:=1000000) [go_sem,Tryz.f46,e0,k0,k1,k2,k3,e])
  all_goals
   simp at hv0
   refine loop (fun p:Nat×Int=>(1≤p.1∧p.1≤s.length)∧V=Ks p.2 ((nb s).drop p.1)∧ -bdV p.1≤p.2∧p.2≤bdV p.1) (fun p=>[(4,.p (.int .i64 p.2)),(5,.p (.int .i64 p.1))]) (fun _=>[]) (fun p=>s.length-p.1) (1,v0) ⟨⟨by omega,by omega⟩,ev,hz.1,hz.2⟩ (fun p hp=>?_) (h0:=by simp[go_sem,LeS,leV,leR,leA,hv0])
   obtain⟨i,v⟩:=p
   obtain⟨⟨p1,p2⟩,p3,p4,p5⟩:=hp
   simp only at p1 p2 p3 p4 p5
   by_cases hi:i<s.length
   ·have ei:=vb s i
    have gi:=zer s i
    rw[zej hi]at p3
    unfold Ks at p3
    generalize (nb s).getD i 0=b at ei gi p3
    have hb:bdV i*64+128≤bdV (i+1)∧bdV (i+1)≤84000000:=by
     have:i=1∨i=2∨i=3:=by omega
     rcases this with rfl|rfl|rfl<;>decide
    generalize bdV i=B at p4 p5 hb
    have w0:IntKind.i64.wrap (b:Int)=b:=wrap64 (by omega) (by omega)
    have w1:IntKind.i64.wrap (64*v)=64*v:=wrap64 (by omega) (by omega)
    have w2:IntKind.i64.wrap (64*v+b)=64*v+b:=wrap64 (by omega) (by omega)
    have w3:IntKind.i64.wrap (64*v+b-128)=64*v+b-128:=wrap64 (by omega) (by omega)
    have w4:IntKind.i64.wrap ((i:Int)+1)=((i+1:Nat):Int):=zD (by omega)
    simp (maxSteps:=1000000) [go_sem,hi,ei,w0,w1,w2,w3,w4]
    exact next (i+1,64*v+b-128) ⟨⟨by omega,by omega⟩,p3,by simp only;omega,by simp only;omega⟩ (h3:=by show s.length- (i+1)<s.length-i;omega) (h2:=by simp[go_sem,LeS,leV,leR,leA])
   ·obtain rfl:i=s.length:=by omega
    rw[List.drop_eq_nil_of_le (by rw[xR];omega)]at p3
    unfold Ks at p3
    have hb:bdV s.length≤84000000:=by rw[e];decide
    have w0:IntKind.i32.wrap v=v:=wrap32 (by omega) (by omega)
    subst p3
    simp (maxSteps:=1000000) [go_sem,w0]
    exact ret
theorem zee(f c:Nat)(s:List Nat):vr (f+1) (c::s)=(if Z9 (c::s)=true then kj ((c::s).take (kB (c::s)))else ym)::vr f ((c::s).drop (max (kB (c::s)) 1)):=rfl
theorem zd7:∀(f:Nat) (s:List Nat),s.length≤f→vr f s=vr s.length s:=fun f s h=>by rw[kM f s h,kM s.length s (Nat.le_refl _)]
theorem zfc(s:List UInt8)(i:Nat):nb (s.drop i)=(nb s).drop i:=by unfold nb;rw[List.map_drop]
theorem zjU(s:List UInt8)(i:Nat):nb (s.take i)=(nb s).take i:=by unfold nb;rw[List.map_take]
theorem zks(s:List Nat):kB s≤4∧kB s≤s.length:=⟨by have:=zcB 4 s 0;unfold kB;omega,YK 4 s 0 (Nat.zero_le _)⟩
theorem ziQ {α:Type}(s:List α)(i:Nat):cut s (i:Int) (s.length:Int)=s.drop i:=by
 unfold cut
 simp only[Int.toNat_natCast]
 exact List.take_of_length_le (by rw[List.length_drop];omega)
theorem zkd {α:Type}(s:List α)(i n:Nat):cut s (i:Int) ((i:Int)+n)=(s.drop i).take n:=by
 unfold cut
 rw[show((i:Int)+n).toNat=i+n by omega,Int.toNat_natCast]
 congr 1;omega
theorem zeR [Gi](s:List UInt8)(hs:s.length≤100000):CR Tryz.prog 13 [] [.p (.str s)] [] (is (.p (zA (Qg dz (nb s))))):=by
 rw[←zhe]
 refine walk Tryz.func13 7 [] [] [] ?_
 simp (maxSteps:=1000000) [go_sem,Tryz.f13]
 obtain⟨V,hV⟩:∃V,V=zd4 (nb s):=⟨_,rfl⟩
 rw[←hV]
 refine loop (fun p:Nat×List Int=>p.1≤s.length∧p.2.length≤p.1∧V=p.2++zd4 ((nb s).drop p.1)) (fun p=>[(3,.os [3] 1 (zK p.2)),(4,.p (.int .i64 p.1))]) (fun _=>[]) (fun p=>s.length-p.1) (0,[]) ⟨Nat.zero_le _,Nat.le_refl _,by simpa using hV⟩ (fun p hp=>?_) (h0:=by simp[go_sem,LeS,leV,leR,leA,zK])
 obtain⟨i,o⟩:=p
 obtain⟨p1,p2,p3⟩:=hp
 simp only at p1 p2 p3
 by_cases hi:i<s.length
 ·have hd:(s.drop i).length=s.length-i:=List.length_drop
  have rc:=zlB (s.drop i) (by omega) (by omega)
  have rb:=zks (nb (s.drop i))
  rw[xR,hd]at rb
  have hst:zd4 (nb (s.drop i))=(if Z9 (nb (s.drop i))=true then kj ((nb (s.drop i)).take (kB (nb (s.drop i))))else ym)::zd4 ((nb (s.drop i)).drop (max (kB (nb (s.drop i))) 1)):=by
   have e1:(nb (s.drop i)).length=(s.length-i-1)+1:=by rw[xR,hd];omega
   unfold zd4
   rw[e1]
   obtain⟨c,t,ect⟩:∃c t,nb (s.drop i)=c::t:=by
    cases hq:nb (s.drop i)with
    |nil=>rw[hq]at e1;simp at e1
    |cons c t=>exact⟨c,t,rfl⟩
   rw[ect,zee]
   rw[ect]at e1
   rw[zd7 _ _ (by rw[List.length_drop,e1];omega)]
  have hdr:∀k,(nb (s.drop i)).drop k=(nb s).drop (i+k):=fun k=>by rw[zfc,List.drop_drop]
  rw[hdr]at hst
  rw[←zfc,hst]at p3
  have vc:Z9 (nb (s.drop i))=true→CR Tryz.prog 46 [] [.p (.str ((s.drop i).take (kB (nb (s.drop i)))))] [] (is (.p (.int .i32 (kj (nb ((s.drop i).take (kB (nb (s.drop i))))))))):=fun hw=>by
   have hw':0<kB (nb (s.drop i)):=by unfold Z9 at hw;simp at hw;exact hw.1
   have hl:((s.drop i).take (kB (nb (s.drop i)))).length=kB (nb (s.drop i)):=by rw[List.length_take,hd];omega
   exact zjp _ (by omega) (by omega)
  rw[zjU]at vc
  have hw0:Z9 (nb (s.drop i))=true→0<kB (nb (s.drop i)):=fun hw=>by unfold Z9 at hw;simp at hw;exact hw.1
  generalize kB (nb (s.drop i))=N at rc rb p3 vc hw0
  generalize Z9 (nb (s.drop i))=Wh at rc p3 vc hw0
  generalize kj ((nb (s.drop i)).take N)=X at p3 vc
  have ol:(zK o).length=o.length:=by simp[zK]
  have w1:IntKind.i64.wrap ((i:Int)+N)=((i+N:Nat):Int):=by rw[←Int.natCast_add];exact wrap64 (by omega) (by omega)
  have w2:IntKind.i64.wrap ((i:Int)+1)=((i+1:Nat):Int):=zD (by omega)
  have ei:∀x,zK o++[.int .i32 x]=zK (o++[x]):=fun x=>by simp[zK]
  have hi2:(i:Int)≤s.length:=by omega
  simp (maxSteps:=1000000) [go_sem,hi,hi2]
  refine zq rc ?_ (ha':=by simp[go_sem,ziQ])
  cases Wh with
  |true=>
   have hN:=hw0 rfl
   have vc:=vc rfl
   have m1:max N 1=N:=by omega
   rw[m1]at p3
   have hN0:¬N=0:=by omega
   simp (maxSteps:=1000000) [go_sem,w1]
   refine⟨by omega,zq vc ?_ (ha':=by simp[go_sem,zkd])⟩
   simp (maxSteps:=1000000) [go_sem,w1,ei,ol,hN0]
   refine⟨by omega,?_⟩
   exact next (i+N,o++[X]) ⟨by simp only;omega,by simp only[List.length_append,List.length_singleton];omega,by simp only;rw[p3];simp⟩ (h3:=by show s.length- (i+N)<s.length-i;omega) (h2:=by simp[go_sem,LeS,leV,leR,leA])
  |false=>
   simp (maxSteps:=1000000) [go_sem,ei,ol]
   refine⟨by omega,?_⟩
   by_cases hN0:N=0
   ·subst hN0
    simp (maxSteps:=1000000) [go_sem,w2]
    exact next (i+1,o++[ym]) ⟨by simp only;omega,by simp only[List.length_append,List.length_singleton];omega,by simp only;rw[p3];simp⟩ (h3:=by show s.length- (i+1)<s.length-i;omega) (h2:=by simp[go_sem,LeS,leV,leR,leA,ym])
   ·have m1:max N 1=N:=by omega
    rw[m1]at p3
    simp (maxSteps:=1000000) [go_sem,w1,hN0]
    exact next (i+N,o++[ym]) ⟨by simp only;omega,by simp only[List.length_append,List.length_singleton];omega,by simp only;rw[p3];simp⟩ (h3:=by show s.length- (i+N)<s.length-i;omega) (h2:=by simp[go_sem,LeS,leV,leR,leA,ym])
 ·obtain rfl:i=s.length:=by omega
  rw[List.drop_eq_nil_of_le (by rw[xR];omega)]at p3
  have:V=o:=by rw[p3];simp[zd4,vr]
  subst this
  simp (maxSteps:=1000000) [go_sem]
  exact ret (hx:=by simp[go_sem,zf,leA,leT])
end Go.Proofs.YtcgfdhdcihmeeaaGreat
end
section
namespace Go.Proofs.YtcgfdhdcihmeeaaGreat
open Go.AM
set_option maxHeartbeats 4000000
set_option maxRecDepth 10000
attribute [local irreducible] za
def wo(ps:List (List Int)):List (List Int):=(ps.take 4).map fun l=>l.take 20
theorem zeq {ps:List (List Int)} {ln:List Int}(h:∀l∈ps,∀r∈l,zY r)(hl:∀r∈ln,zY r):JY (wo ps) (ln.take 100):=by
 refine⟨by simp[wo];omega,fun x hx=>?_,by simp;omega,fun r hr=>hl r (List.mem_of_mem_take hr)⟩
 obtain⟨y,hy,rfl⟩:=List.mem_map.1 hx
 exact⟨by rw[List.length_take];omega,fun r hr=>h y (List.mem_of_mem_take hy) r (List.mem_of_mem_take hr)⟩
theorem CR.zow [Gi] {P:Program} {f:FuncId} {pin:List Tok} {args:List AV} {rs:List (Tok×List AV)} {t:Tok} {es:List PV} {b:PV} {c:Int}(h:CR P f pin args rs (is (.ag [.os t 1 es,.p b,.p (.int .i64 c)]))):CR P f pin args rs (is (.p (.agg [.sl 1 es,b,.int .i64 c]))):=by
 intro w g vs h1 h2
 refine(h w g vs h1 h2).mono ?_
 rintro e w' ⟨v,x,rs',g',rfl,⟨rfl,rfl⟩,hx,hG,hA⟩
 refine⟨v,_,_,g',rfl,⟨rfl,rfl⟩,?_,hG,hA⟩
 rw[uw]
 simp only[zb,zm]at hx
 obtain⟨vs,rfl,h1,u1,l1,e1,r1,u2,l2,rfl,r2,u3,l3,rfl,r3,rfl⟩:=hx
 simp only[zj,zr]
 refine⟨vs,rfl,u1,_,e1,h1 u1 (by rw[e1];simp),by simpa only[zj]using r1.1,u2,_,rfl,h1 u2 (by rw[e1];simp),by simpa only[zb]using r2,u3,_,rfl,h1 u3 (by rw[e1];simp),by simpa only[zb,zj]using r3,rfl⟩
theorem zcQ [Gi](ps:List (List Int))(ln:List Int)(cur:Int):CR Tryz.prog 10 [] [.p (ZK ps ln cur)] [] (is (.p (ZK ps ln cur))):=by
 refine walk Tryz.func10 3 [] [] [] ?_
 unfold ZK
 simp (maxSteps:=1000000) [go_sem,Tryz.f10]
 exact ret
theorem zbp [Gi](ps:List (List Int))(ln:List Int)(cur:Int):CR Tryz.prog 5 [] [.p (ZK ps ln cur)] [] (is (.p (ZK (wo ps) (ln.take 100) cur))):=by
 refine CR.zow (t:=[3,0]) ?_
 refine walk Tryz.func5 5 [] [1,5] [] ?_
 unfold ZK
 have f1:CR Tryz.prog 18 [] [.p (zA ln),.p (.int .i64 (100:Nat))] [] (is (.p (zA (ln.take 100)))):=zii ln 100 (by omega)
 unfold zA at f1⊢
 simp (maxSteps:=1000000) [go_sem,Tryz.f5]
 refine ZB 18 f1 ?_
 simp (maxSteps:=1000000) [go_sem]
 refine loop (fun i:Nat=>i≤min ps.length 4) (fun i=>[(4,.p (.int .i64 i))]) (fun i=>[([3],[.os [3,0] 1 (Zg (wo (ps.take i))),.p (zA (ln.take 100)),.p (.int .i64 cur)])]) (fun i=>4-i) 0 (Nat.zero_le _) (fun i hi=>?_) (h0:=by simp[go_sem,LeS,leV,leR,leA,leL,wo,Zg])
 by_cases hil:i<ps.length
 ·by_cases hi4:i<4
  ·have hi5:(i:Int)<4:=by omega
   have em:=xh hil
   have f2:CR Tryz.prog 18 [] [.p (zA ps[i]),.p (.int .i64 (20:Nat))] [] (is (.p (zA (ps[i].take 20)))):=zii ps[i] 20 (by omega)
   have st:Zg (wo (ps.take i))++[zA (ps[i].take 20)]=Zg (wo (ps.take (i+1))):=by
    unfold Zg wo
    have e:ps.take (i+1)=ps.take i++[ps[i]]:=by rw[List.take_add_one,List.getElem?_eq_getElem hil];rfl
    rw[List.take_take,List.take_take,show min 4 i=i by omega,show min 4 (i+1)=i+1 by omega,e,List.map_append,List.map_append];rfl
   have w1:IntKind.i64.wrap ((i:Int)+1)=((i+1:Nat):Int):=zD (by omega)
   have ll:(Zg (wo (ps.take i))).length≤4:=by simp[Zg,wo];omega
   unfold zA at st
   generalize ps[i]=y at em f2 st
   generalize Zg (wo (ps.take i))=A at st ll⊢
   simp (maxSteps:=1000000) [go_sem,hil,hi5,em]
   refine ZB 18 f2 ?_
   simp (maxSteps:=1000000) [go_sem,st,w1]
   refine⟨by omega,?_⟩
   exact next (i+1) (by omega) (h3:=by show 4- (i+1)<4-i;omega) (h2:=by simp[go_sem,LeS,leV,leR,leA,leL])
  ·have e4:wo (ps.take i)=wo ps:=by unfold wo;rw[List.take_take,show min 4 i=4 by omega]
   rw[e4]
   have hi5:¬(i:Int)<4:=by omega
   simp (maxSteps:=1000000) [go_sem,hil,hi5]
   exact ret
 ·have e4:wo (ps.take i)=wo ps:=by rw[List.take_of_length_le (by omega)]
  rw[e4]
  simp (maxSteps:=1000000) [go_sem,hil]
  exact ret
end Go.Proofs.YtcgfdhdcihmeeaaGreat
end
section
namespace Go.Proofs.YtcgfdhdcihmeeaaGreat
open Go.AM
set_option maxHeartbeats 4000000
set_option maxRecDepth 10000
attribute [local irreducible] za
theorem zfk {a b:zw}:∀{n:Nat},dF a b n<0↔∀i,i<n→a.getD i blk=b.getD i blk
 |0=>by simp[dF]
 |n+1=>by
  have ih:=zfk (a:=a) (b:=b) (n:=n)
  rw[dF]
  constructor
  ·intro h i hi
   split at h
   ·omega
   ·rename_i hc
    have h2:=ih.1 h
    by_cases e:i=n
    ·subst e
     by_cases q:a.getD i blk=b.getD i blk
     ·exact q
     ·exact absurd ⟨h,q⟩ hc
    ·exact h2 i (by omega)
  ·intro h
   rw[if_neg (fun q=>q.2 (h n (by omega)))]
   exact ih.2 fun i hi=>h i (by omega)
theorem X2 {a b:zw}:∀{n F:Nat},dF a b n=(F:Int)→F<n∧a.getD F blk≠b.getD F blk∧∀i,i<F→a.getD i blk=b.getD i blk
 |0,F,h=>by rw[dF]at h;omega
 |n+1,F,h=>by
  rw[dF]at h
  split at h
  ·rename_i hc
   have:F=n:=by omega
   subst this
   exact⟨by omega,hc.2,zfk.1 hc.1⟩
  ·obtain⟨h1,h2,h3⟩:=X2 (n:=n) h
   exact⟨by omega,h2,h3⟩
theorem zeA {a b:zw} {n:Nat}(ha:a.length=n)(hb:b.length=n)(h:∀i,i<n→a.getD i blk=b.getD i blk):a=b:=by
 apply List.ext_getElem (by omega)
 intro i h1 h2
 have:=h i (by omega)
 rwa[qM h1,qM h2]at this
theorem zep {a b:zw} {n:Nat}(ha:a.length=n)(hb:b.length=n):dF a b n<0↔a=b:=by
 constructor
 ·intro h;exact zeA ha hb (zfk.1 h)
 ·rintro rfl;exact zfk.2 fun _ _=>rfl
theorem zk1 {x y:Cl}(h:x≠y):(!decide (x.t=y.t) ||!decide (x.w=y.w))=true:=by
 rw[←Bool.not_and,Bool.not_eq_true',Bool.and_eq_false_iff]
 by_cases q:x.t=y.t
 ·exact .inr (by simp only[decide_eq_false_iff_not];exact fun r=>h ((zeD _ _).1 ⟨q,r⟩))
 ·exact .inl (by simpa using q)
theorem zhV {x y:Cl}(h:x≠y):(decide (x.t=y.t)&&decide (x.w=y.w))=false:=by
 have:=zk1 h
 rwa[←Bool.not_and,Bool.not_eq_true']at this
theorem KC [Gi](a b:zw)(n:Nat)(ha:a.length=n)(hb:b.length=n)(hn:n≤1000):CR Tryz.prog 12 [] [.p (Za a),.p (Za b)] [] (is (.p (.bool (decide (a=b))))):=by
 refine walk Tryz.func12 6 [] [] [] ?_
 simp (maxSteps:=1000000) [go_sem,Tryz.f12,ha,hb]
 refine loop (fun i:Nat=>i≤n∧∀j,j<i→a.getD j blk=b.getD j blk) (fun i=>[(5,.p (.int .i64 i))]) (fun _=>[]) (fun i=>n-i) 0 ⟨Nat.zero_le _,fun j hj=>by omega⟩ (fun i hi=>?_) (h0:=by simp[go_sem,LeS,leV,leR,leA])
 obtain⟨h1,h2⟩:=hi
 by_cases hin:i<n
 ·have hi1:i<a.length:=by omega
  have hi2:i<b.length:=by omega
  have ea:=kT hi1
  have eb:=kT hi2
  have ga:=qM hi1
  have gb:=qM hi2
  have w1:IntKind.i64.wrap ((i:Int)+1)=((i+1:Nat):Int):=zD (by omega)
  by_cases he:a[i]=b[i]
  ·rw[he]at ea
   simp (maxSteps:=1000000) [go_sem,ha,hb,hin,ea,eb,w1]
   exact next (i+1) ⟨hin,fun j hj=>by
    by_cases q:j=i
    ·subst q;exact ga.trans (he.trans gb.symm)
    ·exact h2 j (by omega)⟩ (h3:=by show n- (i+1)<n-i;omega) (h2:=by simp[go_sem,LeS,leV,leR,leA])
  ·have hd:decide (a=b)=false:=by
    simp only[decide_eq_false_iff_not]
    rintro rfl;exact he rfl
   rw[hd]
   have hq:(!decide (a[i].t=b[i].t) ||!decide (a[i].w=b[i].w))=true:=zk1 he
   generalize a[i]=x at ea hq
   generalize b[i]=y at eb hq
   simp (maxSteps:=1000000) [go_sem,ha,hb,hin,ea,eb,hq]
   exact ret
 ·obtain rfl:i=n:=by omega
  have hd:decide (a=b)=true:=by
   simp only[decide_eq_true_eq]
   exact zeA ha hb h2
  rw[hd]
  simp (maxSteps:=1000000) [go_sem,ha]
  exact ret
theorem zaM(C:Nat)(l l':zw)(k:Nat):chR C l l' (k+1)=if 0≤dF (zk C l k) (zk C l' k) C then chR C l l' k++[k]else chR C l l' k:=rfl
theorem zbe {C:Nat} {l l':zw}(L:List Nat)(k:Nat):kh C l l' (L++[k])=kh C l l' L+scN (wj C l l' k):=by unfold kh;simp
theorem W7 {R C:Nat} {l:zw} {r:Nat}(h:r<R):elemAt ((Wq R C l).map Za) r=Za (zk C l r):=by
 rw[zp Za _ _ (by rw[kR];exact h)]
 have:=ziH (C:=C) (F:=l) h
 rw[List.getElem?_eq_getElem (by rw[kR];exact h)]at this
 injection this with this
 rw[this]
structure yj(C:Nat)(a b:zw)(F:Nat):Prop where
 la:a.length=C
 lb:b.length=C
 hF:dF a b C=(F:Int)
 ht:∀c∈b,c.t.length≤100000
theorem yj.lt {C F:Nat} {a b:zw}(h:yj C a b F):F<C:=(X2 h.hF).1
theorem yj.at {C F:Nat} {a b:zw}(h:yj C a b F) {i:Nat}(hi:i<C):elemAt (a.map clP) i=.agg [.str (a.getD i blk).t,.int .i64 (a.getD i blk).w]∧elemAt (b.map clP) i=.agg [.str (b.getD i blk).t,.int .i64 (b.getD i blk).w]:=by
 have h1:i<a.length:=by rw[h.la];exact hi
 have h2:i<b.length:=by rw[h.lb];exact hi
 rw[kT h1,kT h2,qM h1,qM h2];exact⟨rfl,rfl⟩
theorem yj.dec {C F:Nat} {a b:zw}(h:yj C a b F) {i:Nat}(hi:i<C):(b.getD i blk).t.length≤100000:=by
 have h2:i<b.length:=by rw[h.lb];exact hi
 rw[qM h2];exact h.ht _ (List.getElem_mem h2)
def scF(b:zw)(F c:Nat):Nat:=scN ((b.drop F).take (c-F))
theorem zcc {C F:Nat} {a b:zw}(h:yj C a b F) {i:Nat}(h0:F≤i)(hi:i<C):scF b F (i+1)=scF b F i+v8 (b.getD i blk):=by
 have hl:i-F< (b.drop F).length:=by rw[List.length_drop,h.lb];omega
 unfold scF
 rw[show i+1-F=(i-F)+1 by omega,zbR hl,List.getElem_drop]
 have h2:i<b.length:=by rw[h.lb];exact hi
 rw[qM h2]
 simp only[show F+(i-F)=i by omega]
theorem zcn(b:zw)(F:Nat):scF b F F=0:=by unfold scF;simp[scN]
theorem zem {C F:Nat} {a b:zw}(h:yj C a b F):scF b F C=scN (b.drop F):=by
 unfold scF;rw[List.take_of_length_le (by rw[List.length_drop,h.lb];omega)]
theorem zhd {C F:Nat} {a b:zw}(h:yj C a b F)(hC:C≤1000)(i:Nat):scF b F i≤200001000:=by
 have h1:=XC ((b.drop F).take (i-F)) fun c hc=>h.ht c (List.mem_of_mem_drop (List.mem_of_mem_take hc))
 have h2:((b.drop F).take (i-F)).length≤1000:=by rw[List.length_take,List.length_drop,h.lb];omega
 have h3:200001*((b.drop F).take (i-F)).length≤200001*1000:=Nat.mul_le_mul_left _ h2
 unfold scF;omega
theorem zjg {R C:Nat} {l l':zw}(hR:R≤500)(hC:C≤1000)(hl':l'.length=R*C)(ht:∀c∈l',c.t.length≤100000)(k:Nat)(hk:k≤R):kh C l l' (chR C l l' k)≤100001000000:=by
 have h1:=XL (C:=C) (l:=l) (l':=l') (K:=200001000) (L:=chR C l l' k) fun r hr=>by
  have h1:=XC (wj C l l' r) fun c hc=>ht c (List.mem_of_mem_drop (List.mem_of_mem_take (List.mem_of_mem_drop hc)))
  have h2:(wj C l l' r).length≤C:=by
   unfold wj;rw[List.length_drop];have:=vq (C:=C) (l:=l') (k:=r);omega
  have h3:200001*(wj C l l' r).length≤200001*1000:=Nat.mul_le_mul_left _ (by omega)
  omega
 have h2:=WT C l l' k
 have h3:200001000*(chR C l l' k).length≤200001000*500:=Nat.mul_le_mul_left _ (by omega)
 omega
theorem zgC [Gi](R C:Nat)(l l':zw)(hR:R≤500)(hC:1≤C∧C≤1000)(hl:l.length=R*C)(hl':l'.length=R*C)(ht:∀c∈l',c.t.length≤100000):
  CR Tryz.prog 15 [] [.p (uc (Wq R C l)),.p (uc (Wq R C l'))] [] (is (.p (.int .i64 (32+16*((chR C l l' R).length:Int)+4*(kh C l l' (chR C l l' R):Nat))))):=by
 have q1:=kR R C l
 have q2:=kR R C l'
 refine walk Tryz.func15 8 [] [] [] ?_
 unfold uc
 simp (maxSteps:=1000000) [go_sem,Tryz.f15]
 refine loop (fun r:Nat=>r≤R) (fun r=>[(5,.p (.int .i64 (32+16*((chR C l l' r).length:Int)+4*(kh C l l' (chR C l l' r):Nat)))),(6,.p (.int .i64 r)),(7,.z8)]) (fun _=>[]) (fun r=>R-r) 0 (Nat.zero_le _) (fun r hr=>?_) (h0:=by simp[go_sem,LeS,leV,leR,leA,chR,kh])
 by_cases hrR:r<R
 ·have ea:=W7 (C:=C) (l:=l) hrR
  have eb:=W7 (C:=C) (l:=l') hrR
  have la:=ZW hl hrR
  have lb:=ZW hl' hrR
  have sr:=KC (zk C l r) (zk C l' r) C la lb hC.2
  have st:=zaM C l l' r
  have ds:=zep la lb
  have bd:=zjg (l:=l) hR hC.2 hl' ht r hr
  have bl:=WT C l l' r
  have hrow:∀c∈zk C l' r,c.t.length≤100000:=fun c hc=>ht c (List.mem_of_mem_drop (List.mem_of_mem_take hc))
  have w1:IntKind.i64.wrap ((r:Int)+1)=((r+1:Nat):Int):=zD (by omega)
  have hr':(r:Int)<R:=by omega
  by_cases he:zk C l r=zk C l' r
  ·rw[if_neg (by have:=ds.2 he;omega)]at st
   rw[decide_eq_true he]at sr
   simp (maxSteps:=1000000) [go_sem,q1,q2,hr',ea,eb]
   refine zq sr ?_
   simp (maxSteps:=1000000) [go_sem,w1]
   exact next (r+1) hrR (h3:=by show R- (r+1)<R-r;omega) (h2:=by simp[go_sem,LeS,leV,leR,leA,st])
  ·have hge:0≤dF (zk C l r) (zk C l' r) C:=by
    by_cases h:dF (zk C l r) (zk C l' r) C<0
    ·exact absurd (ds.1 h) he
    ·omega
   rw[if_pos hge]at st
   rw[decide_eq_false he]at sr
   obtain⟨F,hF⟩:∃F:Nat,dF (zk C l r) (zk C l' r) C=F:=⟨(dF (zk C l r) (zk C l' r) C).toNat,by omega⟩
   have rs:wj C l l' r=(zk C l' r).drop F:=by unfold wj;rw[hF,Int.toNat_natCast]
   have ty:=zbe (C:=C) (l:=l) (l':=l') (chR C l l' r) r
   rw[rs,←st]at ty
   have hcr:yj C (zk C l r) (zk C l' r) F:=⟨la,lb,hF,hrow⟩
   rw[←zem hcr]at ty
   have hdy:=X2 hF
   generalize kh C l l' (chR C l l' r)=T at bd ty⊢
   generalize hch:(chR C l l' r).length=K at bl
   have hst:(chR C l l' (r+1)).length=K+1:=by rw[st,List.length_append,hch];rfl
   generalize zk C l r=a at ea la sr hcr hdy
   generalize zk C l' r=b at eb lb sr hcr hdy ty
   have w2:IntKind.i64.wrap (32+16*(K:Int)+4*(T:Int)+16)=32+16*((K:Int)+1)+4*(T:Int):=by rw[wrap64 (by omega) (by omega)];omega
   simp (maxSteps:=1000000) [go_sem,q1,q2,hr',ea,eb]
   refine zq sr ?_
   simp (maxSteps:=1000000) [go_sem,w2]
   refine loop (fun c:Nat=>c≤F) (fun c=>[(7,.p (.int .i64 c))]) (fun _=>[]) (fun c=>F-c) 0 (Nat.zero_le _) (fun c hc=>?_) (h0:=by simp[go_sem,LeS,leV,leR,leA])
   have hcC:c<C:=by omega
   have hat:=hcr.at hcC
   have w3:IntKind.i64.wrap ((c:Int)+1)=((c+1:Nat):Int):=zD (by omega)
   by_cases hcF:c<F
   ·have e3:=hdy.2.2 c hcF
    rw[e3]at hat
    simp (maxSteps:=1000000) [go_sem,q1,q2,hr',ea,eb,la,lb,hcC,hat.1,hat.2,w3]
    exact next (c+1) hcF (h3:=by show F- (c+1)<F-c;omega) (h2:=by simp[go_sem,LeS,leV,leR,leA])
   ·obtain rfl:c=F:=by omega
    have hq:=zhV hdy.2.1
    obtain⟨hat1,hat2⟩:=hat
    generalize a.getD c blk=xa at hat1 hq
    generalize b.getD c blk=xb at hat2 hq
    simp (maxSteps:=1000000) [go_sem,q1,q2,hr',ea,eb,la,lb,hcC,hat1,hat2,hq]
    refine loop (fun d:Nat=>c≤d∧d≤C) (fun d=>[(5,.p (.int .i64 (32+16*((K:Int)+1)+4*((T+scF b c d:Nat):Int)))),(7,.p (.int .i64 d))]) (fun _=>[]) (fun d=>C-d) c ⟨Nat.le_refl _,by omega⟩ (fun d hd=>?_) (h0:=by simp[go_sem,LeS,leV,leR,leA,zcn])
    by_cases hdC:d<C
    ·have hat:=(hcr.at hdC).2
     have hdec:=hcr.dec hdC
     have sst:=zcc hcr hd.1 hdC
     have sle:=zhd hcr hC.2 d
     have dc:=zeR (b.getD d blk).t hdec
     have dle:=U1 (b.getD d blk)
     have dl:(zK (Qg dz (nb (b.getD d blk).t))).length=v8 (b.getD d blk):=by simp[zK,v8]
     generalize b.getD d blk=y at hat hdec sst dc dle dl
     generalize Qg dz (nb y.t)=z at dc dl
     have w3:IntKind.i64.wrap ((d:Int)+1)=((d+1:Nat):Int):=zD (by omega)
     have w4:IntKind.i64.wrap (4*(v8 y:Int))=4*(v8 y:Int):=wrap64 (by omega) (by omega)
     have w5:IntKind.i64.wrap (32+16*((K:Int)+1)+4*((T+scF b c d:Nat):Int)+4*(v8 y:Int))=32+16*((K:Int)+1)+4*((T+scF b c (d+1):Nat):Int):=by rw[sst,wrap64 (by omega) (by omega)];omega
     simp only[Int.natCast_add]at w5
     simp (maxSteps:=1000000) [go_sem,q2,hr',eb,lb,hdC,hat]
     refine zq dc ?_
     simp (maxSteps:=1000000) [go_sem,dl,w3,w4,w5]
     exact next (d+1) ⟨by omega,by omega⟩ (h3:=by show C- (d+1)<C-d;omega) (h2:=by simp[go_sem,LeS,leV,leR,leA])
    ·obtain rfl:d=C:=by omega
     simp (maxSteps:=1000000) [go_sem,q2,hr',eb,lb,w1]
     exact next (r+1) hrR (h3:=by show R- (r+1)<R-r;omega) (h2:=by simp[go_sem,LeS,leV,leR,leA,hst,ty])
 ·obtain rfl:r=R:=by omega
  simp (maxSteps:=1000000) [go_sem,q1,q2]
  exact ret
end Go.Proofs.YtcgfdhdcihmeeaaGreat
end
section
namespace Go.Proofs.YtcgfdhdcihmeeaaGreat
open Go.AM
set_option maxHeartbeats 4000000
set_option maxRecDepth 10000
attribute [local irreducible] za vwL
theorem zok [Gi](n:Int)(K:Int)(hK:0≤K∧K≤1000):∃m:Nat,(m:Int)≤K∧IntKind.i64.wrap (BitVec.ofInt IntKind.i64.bits n&&& BitVec.ofInt IntKind.i64.bits K).toNat=(m:Int):=by
 have e:((BitVec.ofInt IntKind.i64.bits K).toNat:Int)=K:=by
  show((BitVec.ofInt 64 K).toNat:Int)=K
  rw[BitVec.toNat_ofInt]
  omega
 have h:(BitVec.ofInt IntKind.i64.bits n&&& BitVec.ofInt IntKind.i64.bits K).toNat≤(BitVec.ofInt IntKind.i64.bits K).toNat:=by
  rw[BitVec.toNat_and]
  exact Nat.and_le_right
 exact⟨_,by omega,wrap64 (by omega) (by omega)⟩
theorem Xu(r:Int):∀x∈qe r,x.t.length≤100000:=by
 unfold qe zaE
 intro x hx
 split at hx
 ·simp at hx;rcases hx with rfl|rfl<;>simp
 ·split at hx
  ·simp at hx;rcases hx with rfl|rfl<;>simp
  ·simp at hx;subst hx;simp
theorem zds(c:List Int):(ZI c).length≤c.length+2:=by
 unfold ZI
 split<;>split<;>simp<;>omega
theorem zgJ(c:List Int)(h:c.length≤1000):∀x∈ofG c,x.t.length≤100000:=by
 intro x hx
 unfold ofG at hx
 split at hx
 ·obtain⟨r,_,h⟩:=List.mem_flatMap.1 hx
  exact Xu r x h
 ·simp at hx
  subst hx
  have:=KO (ZI c)
  have:=zds c
  show(kE (ZI c)).length≤100000
  omega
theorem KD {l:List Int}(hn:l.length≤1000)(hr:∀r∈l,zY r):∀x∈uK l,x.t.length≤100000:=fun x hx=>by
 have h:=Ln.mk' l (by omega) hr
 obtain⟨c,hc,hx⟩:=List.mem_flatMap.1 hx
 exact zgJ c (by have:=(h.mem hc).1;omega) x hx
theorem zfZ {ps:List (List Int)} {ln:List Int}(h:JY ps ln):∀x∈vwG ps ln,x.t.length≤100000:=fun x hx=>by
 rcases List.mem_append.1 hx with h1|h1
 ·obtain⟨c,hc,h1⟩:=List.mem_flatMap.1 h1
  exact KD (h.p c hc).1 (h.p c hc).2 x h1
 ·exact KD h.l h.r x h1
section
attribute [local semireducible] vwL
theorem zeS(R C:Nat)(ps:List (List Int))(ln:List Int)(cur:Int):(vwL R C ps ln cur).length=R*C:=by unfold vwL;exact xg _ _ _ _ _
theorem zgw {ps:List (List Int)} {ln:List Int}(h:JY ps ln)(R C:Nat)(cur:Int):∀x∈vwL R C ps ln cur,x.t.length≤100000:=by
 unfold vwL
 exact X1 (Q:=fun y=>y.t.length≤100000) (by decide) (by decide) R C _ _ (zfZ h) _
end
theorem K7 [Gi](pa:List (List Int))(la:List Int)(ca:Int)(pb:List (List Int))(lb:List Int)(cb rows cols:Int)(h1:∀l∈pa,∀r∈l,zY r)(h2:∀r∈la,zY r)(h3:∀l∈pb,∀r∈l,zY r)(h4:∀r∈lb,zY r):
  CR Tryz.prog 3 [] [.p (ZK pa la ca),.p (ZK pb lb cb),.p (.int .i64 rows),.p (.int .i64 cols)] [] (is (.p (.bool true))):=by
 refine walk Tryz.func3 18 [] [7] [] ?_
 have okA:=zeq h1 h2
 have okB:=zeq h3 h4
 have fA:=zbp pa la ca
 have fB:=zbp pb lb cb
 obtain⟨m1,hm1,e1⟩:=zok rows 7 (by omega)
 obtain⟨m2,hm2,e2⟩:=zok cols 31 (by omega)
 simp[go_sem]at e1 e2
 obtain⟨R,hR⟩:∃R:Nat,R=1+m1:=⟨_,rfl⟩
 obtain⟨C,hC⟩:∃C:Nat,C=2+m2:=⟨_,rfl⟩
 have wR:IntKind.i64.wrap (1+(m1:Int))=(R:Int):=by rw[wrap64 (by omega) (by omega)];omega
 have wC:IntKind.i64.wrap (2+(m2:Int))=(C:Int):=by rw[wrap64 (by omega) (by omega)];omega
 generalize wo pa=PA at okA fA
 generalize wo pb=PB at okB fB
 generalize la.take 100=LA at okA fA
 generalize lb.take 100=LB at okB fB
 have vA:=zcQ PA LA ca
 have vB:=zcQ PB LB cb
 have dA:=Kn okA ca R C (by omega) (by omega)
 have dB:=Kn okB cb R C (by omega) (by omega)
 have hlA:=zeS R C PA LA ca
 have hlB:=zeS R C PB LB cb
 have hsB:=zgw okB R C cb
 unfold zlS at dA dB
 rw[zhW]at dA dB
 have rc:=zeu
 have tE:=KH
 unfold zU at rc tE dA dB
 generalize za.map rowP=X at rc tE dA dB
 simp (maxSteps:=1000000) [go_sem,Tryz.f3,ZK]
 refine zq fA ?_ (ha':=by simp[go_sem,ZK])
 simp (maxSteps:=1000000) [go_sem,ZK]
 refine zq fB ?_ (ha':=by simp[go_sem,ZK])
 simp (maxSteps:=1000000) [go_sem,ZK,e1,e2,wR,wC]
 refine zq rc ?_
 simp (maxSteps:=1000000) [go_sem]
 refine call [] tE ?_
 rintro _ _ ⟨rfl,e,rfl,hT⟩
 obtain⟨z0,y0,rfl⟩:∃z y,e=.pt z y:=by
  obtain⟨c,b,j,f,p,_,rfl⟩:=hT
  exact⟨_,_,rfl⟩
 have sA:=VA hT okA ca R C (by omega) (by omega)
 have sB:=VA hT okB cb R C (by omega) (by omega)
 unfold zjk at sA sB
 have ty:=zaO R C (vwL R C PA LA ca) (vwL R C PB LB cb) (by omega) (by omega) hlA hlB hsB
 have bo:=zgC R C (vwL R C PA LA ca) (vwL R C PB LB cb) (by omega) (by omega) hlA hlB hsB
 have tbd:=fun k hk=>zjg (l:=vwL R C PA LA ca) (R:=R) (C:=C) (by omega) (by omega) hlB hsB k hk
 have kbd:=WT C (vwL R C PA LA ca) (vwL R C PB LB cb)
 have hst:=zaM C (vwL R C PA LA ca) (vwL R C PB LB cb)
 unfold uc at dA dB bo
 have q1:=kR R C (vwL R C PA LA ca)
 have q2:=kR R C (vwL R C PB LB cb)
 have hR5:R≤500:=by omega
 have hC5:C≤1000:=by omega
 have pc:=wP (chR C (vwL R C PA LA ca) (vwL R C PB LB cb) R).length (kh C (vwL R C PA LA ca) (vwL R C PB LB cb) (chR C (vwL R C PA LA ca) (vwL R C PB LB cb) R):Nat) (by have:=kbd R;omega) (by have:=tbd R (Nat.le_refl _);omega)
 generalize (vwS C PA LA ca).1-vwT R C PA LA ca=xa at sA dA
 generalize (vwS C PA LA ca).2=ya at sA dA
 generalize (vwS C PB LB cb).1-vwT R C PB LB cb=xb at sB dB
 generalize (vwS C PB LB cb).2=yb at sB dB
 generalize vwL R C PA LA ca=l at*
 generalize vwL R C PB LB cb=l' at*
 simp (maxSteps:=1000000) [go_sem]
 refine ZB 10 vA ?_ (ha':=by simp[go_sem,ZK])
 simp (maxSteps:=1000000) [go_sem]
 refine ZB 9 sA ?_
 simp (maxSteps:=1000000) [go_sem]
 refine ZB 10 vB ?_ (ha':=by simp[go_sem,ZK])
 simp (maxSteps:=1000000) [go_sem]
 refine ZB 9 sB ?_
 simp (maxSteps:=1000000) [go_sem]
 refine ZB 8 ty ?_
 simp (maxSteps:=1000000) [go_sem]
 refine zq dA ?_ (ha':=by simp[go_sem,ZK])
 simp (maxSteps:=1000000) [go_sem]
 refine zq dB ?_ (ha':=by simp[go_sem,ZK])
 simp (maxSteps:=1000000) [go_sem]
 refine loop (fun r:Nat=>r≤R) (fun r=>[(14,.p (.int .i64 (chR C l l' r).length)),(15,.p (.int .i64 (kh C l l' (chR C l l' r):Nat))),(16,.p (.int .i64 r)),(17,.z8)]) (fun _=>[]) (fun r=>R-r) 0 (Nat.zero_le _) (fun r hr=>?_) (h0:=by simp[go_sem,LeS,leV,leR,leA,leL,chR,kh])
 by_cases hrR:r<R
 ·have ea:=W7 (C:=C) (l:=l) hrR
  have eb:=W7 (C:=C) (l:=l') hrR
  have la:=ZW hlA hrR
  have lb:=ZW hlB hrR
  have sr:=KC (zk C l r) (zk C l' r) C la lb hC5
  have st:=hst r
  have ds:=zep la lb
  have bd:=tbd r hr
  have bl:=kbd r
  have hrow:∀c∈zk C l' r,c.t.length≤100000:=fun c hc=>hsB c (List.mem_of_mem_drop (List.mem_of_mem_take hc))
  have w1:IntKind.i64.wrap ((r:Int)+1)=((r+1:Nat):Int):=zD (by omega)
  have hr':(r:Int)<R:=by omega
  by_cases he:zk C l r=zk C l' r
  ·rw[if_neg (by have:=ds.2 he;omega)]at st
   rw[decide_eq_true he]at sr
   simp (maxSteps:=1000000) [go_sem,q1,q2,hr',ea,eb]
   refine zq sr ?_
   simp (maxSteps:=1000000) [go_sem,w1]
   exact next (r+1) hrR (h3:=by show R- (r+1)<R-r;omega) (h2:=by simp[go_sem,LeS,leV,leR,leA,leL,st])
  ·have hge:0≤dF (zk C l r) (zk C l' r) C:=by
    by_cases h:dF (zk C l r) (zk C l' r) C<0
    ·exact absurd (ds.1 h) he
    ·omega
   rw[if_pos hge]at st
   rw[decide_eq_false he]at sr
   obtain⟨F,hF⟩:∃F:Nat,dF (zk C l r) (zk C l' r) C=F:=⟨(dF (zk C l r) (zk C l' r) C).toNat,by omega⟩
   have rs:wj C l l' r=(zk C l' r).drop F:=by unfold wj;rw[hF,Int.toNat_natCast]
   have ty:=zbe (C:=C) (l:=l) (l':=l') (chR C l l' r) r
   rw[rs,←st]at ty
   have hcr:yj C (zk C l r) (zk C l' r) F:=⟨la,lb,hF,hrow⟩
   rw[←zem hcr]at ty
   have hdy:=X2 hF
   generalize kh C l l' (chR C l l' r)=T at bd ty⊢
   generalize hch:(chR C l l' r).length=K at bl
   have hstl:(chR C l l' (r+1)).length=K+1:=by rw[st,List.length_append,hch];rfl
   generalize zk C l r=a at ea la sr hcr hdy
   generalize zk C l' r=b at eb lb sr hcr hdy ty
   have w2:IntKind.i64.wrap ((K:Int)+1)=((K+1:Nat):Int):=zD (by omega)
   simp (maxSteps:=1000000) [go_sem,q1,q2,hr',ea,eb]
   refine zq sr ?_
   simp (maxSteps:=1000000) [go_sem,w2]
   refine loop (fun c:Nat=>c≤F) (fun c=>[(17,.p (.int .i64 c))]) (fun _=>[]) (fun c=>F-c) 0 (Nat.zero_le _) (fun c hc=>?_) (h0:=by simp[go_sem,LeS,leV,leR,leA,leL])
   have hlt:=hcr.lt
   have hcC:c<C:=by omega
   have hat:=hcr.at hcC
   have w3:IntKind.i64.wrap ((c:Int)+1)=((c+1:Nat):Int):=zD (by omega)
   by_cases hcF:c<F
   ·have e3:=hdy.2.2 c hcF
    rw[e3]at hat
    simp (maxSteps:=1000000) [go_sem,q1,q2,hr',ea,eb,la,lb,hcC,hat.1,hat.2,w3]
    exact next (c+1) hcF (h3:=by show F- (c+1)<F-c;omega) (h2:=by simp[go_sem,LeS,leV,leR,leA,leL])
   ·obtain rfl:c=F:=by omega
    have hq:=zhV hdy.2.1
    obtain⟨hat1,hat2⟩:=hat
    generalize a.getD c blk=ya at hat1 hq
    generalize b.getD c blk=yb at hat2 hq
    simp (maxSteps:=1000000) [go_sem,q1,q2,hr',ea,eb,la,lb,hcC,hat1,hat2,hq]
    refine loop (fun d:Nat=>c≤d∧d≤C) (fun d=>[(15,.p (.int .i64 ((T+scF b c d:Nat):Int))),(17,.p (.int .i64 d))]) (fun _=>[]) (fun d=>C-d) c ⟨Nat.le_refl _,by omega⟩ (fun d hd=>?_) (h0:=by simp[go_sem,LeS,leV,leR,leA,leL,zcn])
    by_cases hdC:d<C
    ·have hat:=(hcr.at hdC).2
     have hdec:=hcr.dec hdC
     have sst:=zcc hcr hd.1 hdC
     have sle:=zhd hcr hC5 d
     have dc:=zeR (b.getD d blk).t hdec
     have dle:=U1 (b.getD d blk)
     have dl:(zK (Qg dz (nb (b.getD d blk).t))).length=v8 (b.getD d blk):=by simp[zK,v8]
     generalize b.getD d blk=y at hat hdec sst dc dle dl
     generalize Qg dz (nb y.t)=z at dc dl
     have w3:IntKind.i64.wrap ((d:Int)+1)=((d+1:Nat):Int):=zD (by omega)
     have w5:IntKind.i64.wrap ((T:Int)+(scF b c d:Int)+(v8 y:Int))=(T:Int)+(scF b c (d+1):Int):=by rw[sst,wrap64 (by omega) (by omega)];omega
     have hdC':(d:Int)<C:=by omega
     simp (maxSteps:=1000000) [go_sem,q2,hr',eb,lb,hdC',hat]
     refine zq dc ?_
     simp (maxSteps:=1000000) [go_sem,dl,w3,w5]
     exact next (d+1) ⟨by omega,by omega⟩ (h3:=by show C- (d+1)<C-d;omega) (h2:=by simp[go_sem,LeS,leV,leR,leA,leL])
    ·obtain rfl:d=C:=by omega
     simp (maxSteps:=1000000) [go_sem,w1]
     exact next (r+1) hrR (h3:=by show R- (r+1)<R-r;omega) (h2:=by simp[go_sem,LeS,leV,leR,leA,leL,hstl,ty])
 ·obtain rfl:r=R:=by omega
  simp (maxSteps:=1000000) [go_sem]
  refine zq pc ?_
  simp (maxSteps:=1000000) [go_sem]
  refine zq bo ?_
  simp (maxSteps:=1000000) [go_sem]
  refine zq KN ?_
  simp (maxSteps:=1000000) [go_sem]
  exact ret
end Go.Proofs.YtcgfdhdcihmeeaaGreat
end
