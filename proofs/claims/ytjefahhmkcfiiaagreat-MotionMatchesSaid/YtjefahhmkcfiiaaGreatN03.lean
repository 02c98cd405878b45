/- A part of the proof of this seat's statements, by an abstract machine: what each operation does to values, and what the law's functions compute. Conditions: as each law says. -/
import Derived.Test.YtjefahhmkcfiiaaGreatN02
import Derived.Laws.Build
section
namespace Go.AM
def cut {α:Type}(l:List α)(a b:Int):List α:=(l.drop a.toNat).take (b.toNat-a.toNat)
def wS(P:Program)(T:TypeId)(x:AV)(lo hi mx:Option Int):PR:=
 match ty P T,x with
 |some ⟨.string,_,_,_⟩,.p (.str s)=>
  match mx with
  |none=>(0≤lo.getD 0∧lo.getD 0≤hi.getD s.length∧hi.getD s.length≤s.length,.p (.str (cut s (lo.getD 0) (hi.getD s.length))))
  |some _=>bad
 |some ⟨.slice e,_,_,_⟩,.p (.sl z es)=>sl e z es
 |some ⟨.slice e,_,_,_⟩,.os _ z es=>sl e z es
 |some ⟨.slice e,_,_,_⟩,.la t z o n=>
  match ty P e,mx with
  |some et,none=>(z=et.size∧0≤lo.getD 0∧lo.getD 0≤hi.getD n∧hi.getD n≤n,.la t z (o+(lo.getD 0).toNat*z) ((hi.getD n).toNat- (lo.getD 0).toNat))
  |_,_=>bad
 |_,_=>bad
where sl (e:TypeId) (z:Nat) (es:List PV):PR:=
 match ty P e,mx with
 |some et,none=>(z=et.size∧0≤lo.getD 0∧lo.getD 0≤hi.getD es.length∧hi.getD es.length≤es.length,.p (.sl z (cut es (lo.getD 0) (hi.getD es.length))))
 |some et,some m=>(z=et.size∧0≤lo.getD 0∧lo.getD 0≤hi.getD es.length∧hi.getD es.length≤es.length∧m=hi.getD es.length∧hi.isSome=true,
   .os [] z (cut es (lo.getD 0) (hi.getD es.length)))
 |_,_=>bad
def xA(b:Option Int)(v:Option Value):Prop:=
 match b,v with
 |none,none=>True
 |some n,some u=>∃k,u=.int k n
 |_,_=>False
theorem QA {P:Program} {w:World}(isS:Bool)(len cap:Nat)(lo hi mx:Option Int)(vl vh vm:Option Value)(hl:xA lo vl)(hh:xA hi vh)(hm:xA mx vm)
  (hmx:mx.isSome=true→hi.isSome=true) (h0:0≤lo.getD 0) (h1:lo.getD 0≤hi.getD len) (h2:hi.getD len≤mx.getD cap) (h3:mx.getD cap≤cap):
  (Instr.sliceBounds isS len cap vl vh vm).run P w=.ok ((lo.getD 0).toNat,(hi.getD len).toNat,(mx.getD cap).toNat) w:=by
 have sb:∀(k:IntKind) (n:Int) (y:Nat) (c:BoundsCode),0≤n→n≤y→(Instr.sliceBound (.int k n) y c).run P w=.ok n.toNat w:=by
  intro k n y c a b
  simp[Instr.sliceBound,asIntOf,a,b]
 cases mx with
 |none=>
  cases vm with
  |some u=>exact hm.elim
  |none=>
   cases hi with
   |none=>
    cases vh with
    |some u=>exact hh.elim
    |none=>
     cases lo with
     |none=>
      cases vl with
      |some u=>exact hl.elim
      |none=>simp[Instr.sliceBounds]
     |some l=>
      cases vl with
      |none=>exact hl.elim
      |some u=>
       obtain⟨k,rfl⟩:=hl
       simp only[Option.getD_some,Option.getD_none]at*
       simp[Instr.sliceBounds,sb k l len _ h0 h1]
   |some hh'=>
    cases vh with
    |none=>exact hh.elim
    |some u=>
     obtain⟨k,rfl⟩:=hh
     cases lo with
     |none=>
      cases vl with
      |some u=>exact hl.elim
      |none=>
       simp only[Option.getD_some,Option.getD_none]at*
       have:=sb k hh' cap (if isS=true then BoundsCode.sliceAcap else BoundsCode.sliceAlen) (by omega) (by omega)
       simp[Instr.sliceBounds,this]
     |some l=>
      cases vl with
      |none=>exact hl.elim
      |some u=>
       obtain⟨k',rfl⟩:=hl
       simp only[Option.getD_some,Option.getD_none]at*
       have e1:=sb k hh' cap (if isS=true then BoundsCode.sliceAcap else BoundsCode.sliceAlen) (by omega) (by omega)
       have e2:=sb k' l hh'.toNat .sliceB h0 (by omega)
       simp[Instr.sliceBounds,e1,e2]
 |some m=>
  cases vm with
  |none=>exact hm.elim
  |some u=>
   obtain⟨km,rfl⟩:=hm
   cases hi with
   |none=>simp at hmx
   |some hh'=>
    cases vh with
    |none=>exact hh.elim
    |some u=>
     obtain⟨k,rfl⟩:=hh
     simp only[Option.getD_some]at*
     have e0:=sb km m cap (if isS=true then BoundsCode.slice3Acap else BoundsCode.slice3Alen) (by omega) (by omega)
     have e1:=sb k hh' m.toNat .slice3B (by omega) (by omega)
     cases lo with
     |none=>
      cases vl with
      |some u=>exact hl.elim
      |none=>simp[Instr.sliceBounds,e0,e1]
     |some l=>
      cases vl with
      |none=>exact hl.elim
      |some u=>
       obtain⟨k',rfl⟩:=hl
       simp only[Option.getD_some]at*
       have e2:=sb k' l hh'.toNat .slice3C h0 (by omega)
       simp[Instr.sliceBounds,e0,e1,e2]
theorem qD.cut {fr:Nat→Nat} {w:World} {z b:Nat} {es:List PV} {o:Nat}(r:qD fr w z b es o)(l h:Nat)(hl:l≤es.length):qD fr w z b ((es.drop l).take h) (o+l*z):=by
 have e1:es=es.take l++es.drop l:=(List.take_append_drop l es).symm
 rw[e1]at r
 have r1:=r.left.2
 have hlen:(es.take l).length=l:=by simp;omega
 rw[hlen]at r1
 have e2:es.drop l=(es.drop l).take h++(es.drop l).drop h:=(List.take_append_drop h _).symm
 rw[e2]at r1
 exact r1.left.1
theorem zk.cut {fr:Nat→Nat} {w:World} {z:Nat} {es:List PV} {v:Value}(r:zk fr w (.sl z es) v) {l h:Nat}(hl:l≤h)(hh:h≤es.length) {base:Option Addr} {len cap m:Nat}
  (hv:v=.slice base len cap) (hm:h≤m) (hmc:m≤cap):zk fr w (.sl z ((es.drop l).take (h-l))) (.slice (if m=l then base else base.map (·.add (l*z))) (h-l) (m-l)):=by
 have hlen:((es.drop l).take (h-l)).length=h-l:=by simp;omega
 simp only[zk]at r⊢
 rcases r with ⟨rfl,a0,cap0,rfl⟩|⟨b,o,cap',e,hc,hf,he⟩
 ·injection hv with h1 h2 h3
  subst h1;subst h2;subst h3
  simp at hh;subst hh
  have:l=0:=by omega
  subst this
  exact .inl ⟨by simp,_,_,rfl⟩
 ·rw[e]at hv
  injection hv with h1 h2 h3
  subst h1;subst h2;subst h3
  right
  by_cases hml:m=l
  ·have hz:h-l=0:=by omega
   refine⟨b,o,m-l,by rw[if_pos hml,hlen],by rw[hlen];omega,?_,?_⟩
   ·rw[hlen,hz];omega
   ·rw[hz];simp[qD]
  ·refine⟨b,o+l*z,m-l,by rw[if_neg hml,hlen];simp[qy],by rw[hlen];omega,?_,?_⟩
   ·rw[hlen]
    have:=Nat.mul_le_mul_right z (show l+(h-l)≤es.length by omega)
    rw[Nat.add_mul]at this
    omega
   ·exact he.cut l (h-l) (by omega)
theorem yb {fr:Nat→Nat} {w:World} {z:Nat} {es:List PV} {v:Value}(r:zk fr w (.sl z es) v):∃base cap,v=.slice base es.length cap∧es.length≤cap:=by
 simp only[zk]at r
 rcases r with ⟨rfl,a,cap,rfl⟩|⟨b,o,cap,e,hc,_⟩
 ·exact⟨a,cap,rfl,Nat.zero_le _⟩
 ·exact⟨_,cap,e,hc⟩
theorem YD(l:List UInt8)(a b:Nat)(_:a≤b)(_:b≤l.length):(⟨l.toArray⟩:ByteArray).extract a b=⟨((l.drop a).take (b-a)).toArray⟩:=by
 apply ByteArray.ext
 simp only[ByteArray.data_extract]
 simp
theorem vi {P:Program} {e:TypeId} {T:TypeId} {sz by_:Nat} {ze:Option (List PV)}(hT:ty P T=some ⟨.slice e,sz,by_,ze⟩) {z:Nat} {es:List PV} {lo hi mx:Option Int} {vl vh vm:Option Value}
  {g:Gh} {w:World} {v:Value} (h:(wS.sl P lo hi mx e z es).1) (r:zk g.fr w (.sl z es) v)
  (hl:xA lo vl) (hh:xA hi vh) (hm:xA mx vm):
  ∃u,(Instr.sliceAt T v vl vh vm).run P w=.ok u w∧zd g w (wS.sl P lo hi mx e z es).2 u:=by
 have hu:=zw w hT
 simp only[]at hu
 obtain⟨base,cap,rfl,hcap⟩:=yb r
 unfold wS.sl at h⊢
 cases het:ty P e with
 |none=>simp only[het]at h;exact h.elim
 |some et=>
  have hs:=qE w het
  simp only[het]at h⊢
  cases hmx:mx with
  |none=>
   subst hmx
   simp only[]at h⊢
   obtain⟨hz,h0,h1,h2⟩:=h
   subst hz
   have hb:=QA (P:=P) (w:=w) true es.length cap lo hi none vl vh vm hl hh hm (by simp) h0 h1 (by simp;omega) (by simp)
   have hm0:((none:Option Int).getD (cap:Int)).toNat=cap:=by simp
   rw[hm0]at hb
   refine⟨.slice (if cap=(lo.getD 0).toNat then base else base.map (·.add ((lo.getD 0).toNat*et.size))) ((hi.getD es.length).toNat- (lo.getD 0).toNat) (cap- (lo.getD 0).toNat),?_,?_⟩
   ·unfold Instr.sliceAt
    rw[Sem.run_bind,hu]
    simp only[Result.andThen_ok]
    unfold Instr.slice
    rw[Sem.run_bind,hu]
    simp only[Result.andThen_ok,Sem.run_bind,hb,hs,Sem.run_pure]
   ·simp only[zd]
    exact r.cut (by omega) (by omega) rfl (by omega) (by omega)
  |some m=>
   subst hmx
   simp only[]at h⊢
   obtain⟨hz,h0,h1,h2,h3,h4⟩:=h
   subst hz
   have hb:=QA (P:=P) (w:=w) true es.length cap lo hi (some m) vl vh vm hl hh hm (by simp[h4]) h0 h1 (by simp;omega) (by simp;omega)
   have hm0:((some m:Option Int).getD (cap:Int)).toNat=(hi.getD es.length).toNat:=by simp;omega
   rw[hm0]at hb
   refine⟨.slice (if(hi.getD es.length).toNat=(lo.getD 0).toNat then base else base.map (·.add ((lo.getD 0).toNat*et.size))) ((hi.getD es.length).toNat- (lo.getD 0).toNat) ((hi.getD es.length).toNat- (lo.getD 0).toNat),?_,?_⟩
   ·unfold Instr.sliceAt
    rw[Sem.run_bind,hu]
    simp only[Result.andThen_ok]
    unfold Instr.slice
    rw[Sem.run_bind,hu]
    simp only[Result.andThen_ok,Sem.run_bind,hb,hs,Sem.run_pure]
   ·simp only[zd]
    exact⟨r.cut (by omega) (by omega) rfl (by omega) (by omega),.inl ⟨_,_,rfl⟩⟩
theorem zbd {P:Program} {T:TypeId} {x:AV} {lo hi mx:Option Int} {vl vh vm:Option Value} {g:Gh} {w:World} {v:Value}(h:(wS P T x lo hi mx).1)(r:zd g w x v)
  (hl:xA lo vl) (hh:xA hi vh) (hm:xA mx vm):
  ∃u,(Instr.sliceAt T v vl vh vm).run P w=.ok u w∧zd g w (wS P T x lo hi mx).2 u:=by
 unfold wS at h⊢
 split at h
 ·rename_i sz by_ ze s hT
  have hu:=zw w hT
  simp only[]at hu
  cases hmx:mx with
  |some m=>subst hmx;exact h.elim
  |none=>
   subst hmx
   simp only[zd,zk]at h r⊢
   subst r
   obtain⟨h0,h1,h2⟩:=h
   have hsz:(⟨s.toArray⟩:ByteArray).size=s.length:=by simp[ByteArray.size]
   have hvm:vm=none:=by cases vm with|none=>rfl|some u=>exact hm.elim
   subst hvm
   have hb:=QA (P:=P) (w:=w) false s.length s.length lo hi none vl vh none hl hh trivial (by simp) h0 h1 (by simpa using h2) (by simp)
   refine⟨_,?_,rfl⟩
   unfold Instr.sliceAt
   rw[Sem.run_bind,hu]
   simp only[Result.andThen_ok]
   unfold Instr.slice
   rw[Sem.run_bind,hu]
   simp only[Result.andThen_ok,Sem.run_bind,hsz,hb,Option.isSome_none,Bool.false_eq_true,if_false,Sem.run_pure]
   rw[YD _ _ _ (by omega) (by omega)]
   rfl
 ·rename_i e sz by_ ze z es hT
  simp only[zd]at r
  exact vi hT h r hl hh hm
 ·rename_i e sz by_ ze t z es hT
  simp only[zd]at r
  exact vi hT h r.1 hl hh hm
 ·rename_i e sz by_ ze t z o n hT
  have hu:=zw w hT
  simp only[]at hu
  cases het:ty P e with
  |none=>simp only[het]at h;exact h.elim
  |some et=>
   have hs:=qE w het
   cases hmx:mx with
   |some m=>subst hmx;simp only[het]at h;exact h.elim
   |none=>
    subst hmx
    simp only[het]at h⊢
    simp only[zd]at r⊢
    obtain⟨b,o',cap,hk,rfl,hcap,ho,hB⟩:=r
    obtain⟨hz,h0,h1,h2⟩:=h
    subst hz
    have hb:=QA (P:=P) (w:=w) true n cap lo hi none vl vh vm hl hh hm (by simp) h0 h1 (by simp;omega) (by simp)
    have hm0:((none:Option Int).getD (cap:Int)).toNat=cap:=by simp
    rw[hm0]at hb
    refine⟨_,?_,b,(if cap=(lo.getD 0).toNat then o' else o'+(lo.getD 0).toNat*et.size),cap- (lo.getD 0).toNat,hk,rfl,by omega,?_,?_⟩
    ·unfold Instr.sliceAt
     rw[Sem.run_bind,hu]
     simp only[Result.andThen_ok]
     unfold Instr.slice
     rw[Sem.run_bind,hu]
     simp only[Result.andThen_ok,Sem.run_bind,hb,hs,Sem.run_pure]
     congr 2
     by_cases e:cap=(lo.getD 0).toNat<;>simp[e,qy]
    ·by_cases e:cap=(lo.getD 0).toNat
     ·left;omega
     ·rw[if_neg e]
      rcases ho with ho|ho
      ·left;omega
      ·right;rw[ho]
    ·by_cases e:cap=(lo.getD 0).toNat
     ·rw[if_pos e,e,Nat.sub_self,Nat.zero_mul]
      exact hB.le (by omega)
     ·rw[if_neg e,Nat.add_assoc,←Nat.add_mul]
      have:(lo.getD 0).toNat+(cap- (lo.getD 0).toNat)=cap:=by omega
      rw[this]
      exact hB
 ·exact h.elim
end Go.AM
end
section
namespace Go.AM
def zig:AV→Option PV
 |.p x=>some x
 |.os _ z es=>some (.sl z es)
 |_=>none
def zcZ:List AV→Option (List PV)
 | []=>some []
 |x::l=>match zig x,zcZ l with
  |some y,some ys=>some (y::ys)
  |_,_=>none
def toP:AV→Option PV
 |.p x=>some x
 |.os _ z es=>some (.sl z es)
 |.ag xs=>(zcZ xs).map .agg
 |_=>none
theorem zhq {g:Gh} {w:World} {x:AV} {y:PV} {v:Value}(h:zig x=some y)(r:zd g w x v):zk g.fr w y v:=by
 cases x with
 |p x=>simp only[zig,Option.some.injEq]at h;subst h;simpa only[zd]using r
 |os t z es=>simp only[zig,Option.some.injEq]at h;subst h;simp only[zd]at r;exact r.1
 |_=>cases h
theorem V3 {g:Gh} {w:World}:∀{xs:List AV} {ys:List PV} {vs:List Value},zcZ xs=some ys→(∀u∈vs,u.oneCell'=true)→zt g w xs vs→zG g.fr w ys vs
 | [],ys,vs,h,_,r=>by simp only[zcZ,Option.some.injEq]at h;subst h;simp only[zt]at r;simp only[zG];exact r
 |x::xs,ys,vs,h,h1,r=>by
  simp only[zcZ]at h
  split at h
  ·rename_i y ys' e1 e2
   simp only[Option.some.injEq]at h;subst h
   simp only[zt]at r
   obtain⟨v,vs',rfl,r1,r2⟩:=r
   simp only[zG]
   exact⟨v,vs',rfl,h1 v (by simp),zhq e1 r1,V3 e2 (fun u hu=>h1 u (by simp[hu])) r2⟩
  ·cases h
theorem JR {g:Gh} {w:World} {x:AV} {y:PV} {v:Value}(h:toP x=some y)(r:zd g w x v):zk g.fr w y v:=by
 cases x with
 |p x=>simp only[toP,Option.some.injEq]at h;subst h;simpa only[zd]using r
 |os t z es=>simp only[toP,Option.some.injEq]at h;subst h;simp only[zd]at r;exact r.1
 |ag xs=>
  simp only[toP,Option.map_eq_some_iff]at h
  obtain⟨ys,h1,rfl⟩:=h
  simp only[zd]at r
  obtain⟨vs,rfl,h2,r⟩:=r
  simp only[zk]
  exact⟨vs,rfl,V3 h1 h2 r⟩
 |_=>cases h
def QK(P:Program)(T:TypeId):Option (List (Nat×Nat)):=
 match ty P T with
 |some ⟨.struct fs,_,_,_⟩=>fs.toList.mapM fun fd=>(ty P fd.type).map fun ft=>(fd.offset,ft.size)
 |_=>none
def xO(place:Nat→Option (Nat×Nat))(cells:List PV):List (Nat×PV)→Prop×List PV
 | []=>(True,cells)
 |(i,x)::rest=>
  match place i with
  |none=>(False,cells)
  |some (off,size)=>
   let r:=xO place (cells.take off++x.cells++cells.drop (off+size)) rest
   ((x.cells.length=size∧off+size≤cells.length∧x.fits=true)∧r.1,r.2)
theorem U4(off:Nat):∀(vs:List Value) (k:Nat) (arr:Array Value),off+k+vs.length≤arr.size→
  ((vs.zipIdx k).foldl (fun cs x=>cs.setIfInBounds (off+x.2) x.1) arr).toList=arr.toList.take (off+k)++vs++arr.toList.drop (off+k+vs.length)
 | [],k,arr,_=>by simp
 |v::vs,k,arr,h=>by
  simp only[List.length_cons]at h
  simp only[List.zipIdx_cons,List.foldl_cons]
  rw[U4 off vs (k+1) (arr.setIfInBounds (off+k) v) (by simp;omega)]
  have e:=list_seg_step arr.toList (off+k) v vs (by simp only[Array.length_toList];omega)
  simpa[Array.toList_setIfInBounds,Nat.add_assoc]using e
theorem wF {fr:Nat→Nat} {w:World} {place:Nat→Option (Nat×Nat)}:∀{parts:List (Nat×PV)} {vparts:List (Nat×Value)} {cells:List PV} {arr:Array Value},
  (xO place cells parts).1→zG fr w cells arr.toList→parts.map (·.1)=vparts.map (·.1)→(∀(i:Nat) (x:Nat×PV) (v:Nat×Value),parts[i]?=some x→vparts[i]?=some v→zk fr w x.2 v.2)→
  ∃arr',Instr.fill place arr vparts=some arr'∧zG fr w (xO place cells parts).2 arr'.toList
 | [],vparts,cells,arr,_,r,hm,_=>by
  cases vparts with
  |nil=>exact⟨arr,rfl,r⟩
  |cons v vs=>simp at hm
 |(i,x)::rest,vparts,cells,arr,h,r,hm,hv=>by
  cases vparts with
  |nil=>simp at hm
  |cons vp vrest=>
   obtain⟨j,v⟩:=vp
   simp only[List.map_cons,List.cons.injEq]at hm
   obtain⟨hij,hm⟩:=hm
   subst hij
   unfold xO at h⊢
   cases hp:place i with
   |none=>simp only[hp]at h
   |some os=>
    obtain⟨off,size⟩:=os
    simp only[hp]at h⊢
    obtain⟨⟨h1,h2,h3⟩,h4⟩:=h
    have hrv:zk fr w x v:=hv 0 (i,x) (i,v) rfl rfl
    have hc:=zk.cells h3 hrv
    have hlc:=zG.length hc
    have hla:=zG.length r
    simp only[Array.length_toList]at hlc hla
    have hfold:(v.cells.zipIdx.foldl (fun cs x=>cs.setIfInBounds (off+x.2) x.1) arr).toList=arr.toList.take off++v.cells.toList++arr.toList.drop (off+size):=by
     have:=U4 off v.cells.toList 0 arr (by simp;omega)
     simp only[Nat.add_zero,Array.length_toList]at this
     rw[←Array.foldl_toList,Array.toList_zipIdx,this,hlc,h1]
    have hr':zG fr w (cells.take off++x.cells++cells.drop (off+size)) (v.cells.zipIdx.foldl (fun cs x=>cs.setIfInBounds (off+x.2) x.1) arr).toList:=by
     rw[hfold];exact((r.take off).append hc).append (r.drop _)
    obtain⟨arr',e,hR⟩:=wF h4 hr' hm (fun k y u hy hu=>hv (k+1) y u (by simpa using hy) (by simpa using hu))
    refine⟨arr',?_,hR⟩
    unfold Instr.fill
    simp only[hp]
    rw[if_neg (by simp;omega)]
    exact e
def ZO(S:St):List (Nat×Operand)→Prop×Option (List (Nat×PV))
 | []=>(True,some [])
 |(i,x)::rest=>
  match toP (unG (S.ev x)).2,(ZO S rest).2 with
  |some y,some l=>((unG (S.ev x)).1∧(ZO S rest).1,some ((i,y)::l))
  |_,_=>(False,none)
theorem yA [Gi] {E:Ent} {S:St} {g:Gh} {a:Act} {w:World}(hS:SR E S g a w):∀{ps:List (Nat×Operand)} {l:List (Nat×PV)},(ZO S ps).1→(ZO S ps).2=some l→
  l.map (·.1)=(ps.map fun x=>(x.1,a.eval x.2)).map (·.1)∧∀(i:Nat) (x:Nat×PV) (v:Nat×Value),l[i]?=some x→(ps.map fun x=>(x.1,a.eval x.2))[i]?=some v→zk g.fr w x.2 v.2
 | [],l,h,e=>by simp only[ZO,Option.some.injEq]at e;subst e;simp
 |(i,x)::rest,l,h,e=>by
  unfold ZO at h e
  split at h
  ·rename_i y l' h1 h2
   simp only[h1,h2,Option.some.injEq]at e
   subst e
   obtain⟨ih1,ih2⟩:=yA hS h.2 h2
   refine⟨by simp[ih1],fun j z v hz hv=>?_⟩
   cases j with
   |zero=>
    simp at hz hv
    subst hz;subst hv
    exact JR h1 (zA h.1 (hS.ev x))
   |succ j=>exact ih2 j z v (by simpa using hz) (by simpa using hv)
  ·exact h.elim
def RC(g:Gh)(w:World)(cs:List AV)(vs:List Value):Prop:=zt g w cs vs∧∀u∈vs,u.oneCell'=true
theorem zt.len {g:Gh} {w:World}:∀{cs:List AV} {vs:List Value},zt g w cs vs→vs.length=cs.length
 | [],vs,r=>by simp only[zt]at r;subst r;rfl
 |c::cs,vs,r=>by simp only[zt]at r;obtain⟨v,vs',rfl,_,r⟩:=r;simp[zt.len r]
theorem zt.take {g:Gh} {w:World}:∀{cs:List AV} {vs:List Value} (n:Nat),zt g w cs vs→zt g w (cs.take n) (vs.take n)
 | [],vs,n,r=>by simp only[zt]at r;subst r;simp[zt]
 |c::cs,vs,0,r=>by simp[zt]
 |c::cs,vs,n+1,r=>by
  simp only[zt]at r
  obtain⟨v,vs',rfl,h2,r⟩:=r
  simp only[List.take_succ_cons,zt]
  exact⟨v,_,rfl,h2,r.take n⟩
theorem zt.drop {g:Gh} {w:World}:∀{cs:List AV} {vs:List Value} (n:Nat),zt g w cs vs→zt g w (cs.drop n) (vs.drop n)
 | [],vs,n,r=>by simp only[zt]at r;subst r;simp[zt]
 |c::cs,vs,0,r=>by simpa using r
 |c::cs,vs,n+1,r=>by
  simp only[zt]at r
  obtain⟨v,vs',rfl,h2,r⟩:=r
  simpa using r.drop n
theorem zt.append {g:Gh} {w:World}:∀{cs ds:List AV} {vs us:List Value},zt g w cs vs→zt g w ds us→zt g w (cs++ds) (vs++us)
 | [],ds,vs,us,r,r'=>by simp only[zt]at r;subst r;simpa using r'
 |c::cs,ds,vs,us,r,r'=>by
  simp only[zt]at r
  obtain⟨v,vs',rfl,h2,r⟩:=r
  simp only[List.cons_append,zt]
  exact⟨v,_,rfl,h2,r.append r'⟩
theorem zG.Y4 {g:Gh} {w:World}:∀{cs:List PV} {vs:List Value},zG g.fr w cs vs→RC g w (cs.map .p) vs
 | [],vs,r=>by simp only[zG]at r;subst r;exact⟨by simp[zt],by simp⟩
 |c::cs,vs,r=>by
  simp only[zG]at r
  obtain⟨v,vs',rfl,h1,h2,r⟩:=r
  obtain⟨h3,h4⟩:=zG.Y4 r
  refine⟨?_,fun u hu=>?_⟩
  ·simp only[List.map_cons,zt];exact⟨v,vs',rfl,by simp only[zd];exact h2,h3⟩
  ·rcases List.mem_cons.1 hu with rfl|hu
   ·exact h1
   ·exact h4 u hu
theorem Xh {v:Value}(h:v.oneCell'=true):v.cells= #[v]:=by cases v<;>first|rfl|cases h
def xg:AV→Prop×Option (List AV)
 |.p x=>(x.fits=true,some (x.cells.map .p))
 |.os t z es=>(True,some [.os t z es])
 |.lp t o=>(True,some [.lp t o])
 |.la t z o n=>(True,some [.la t z o n])
 |.om t ks xs=>(True,some [.om t ks xs])
 |.ag cs=>(True,some cs)
 |_=>(False,none)
theorem Ky {g:Gh} {w:World} {x:AV} {cs:List AV} {v:Value}(h:(xg x).1)(e:(xg x).2=some cs)(r:zd g w x v):RC g w cs v.cells.toList:=by
 cases x with
 |p x=>simp only[xg,Option.some.injEq]at h e;subst e;simp only[zd]at r;exact(r.cells h).Y4
 |os t z es=>
  simp only[xg,Option.some.injEq]at e;subst e
  have r':=r
  simp only[zd]at r'
  have h1:=zk.one (x:=.sl z es) rfl r'.1
  rw[Xh h1]
  exact⟨by simp only[zt];exact⟨_,[],rfl,r,rfl⟩,by simpa using h1⟩
 |lp t o=>
  simp only[xg,Option.some.injEq]at e;subst e
  have r':=r
  simp only[zd]at r';obtain⟨b,_,rfl⟩:=r'
  exact⟨by simp only[Value.cells,zt];exact⟨_,[],rfl,r,rfl⟩,by simp[Value.cells,Value.oneCell']⟩
 |la t z o n=>
  simp only[xg,Option.some.injEq]at e;subst e
  have r':=r
  simp only[zd]at r';obtain⟨b,o',cap,_,rfl,_⟩:=r'
  exact⟨by simp only[Value.cells,zt];exact⟨_,[],rfl,r,rfl⟩,by simp[Value.cells,Value.oneCell']⟩
 |om t ks xs=>
  simp only[xg,Option.some.injEq]at e;subst e
  have r':=r
  simp only[zd]at r';obtain⟨b,arr,c,rfl,_⟩:=r'
  exact⟨by simp only[Value.cells,zt];exact⟨_,[],rfl,r,rfl⟩,by simp[Value.cells,Value.oneCell']⟩
 |ag cs'=>
  simp only[xg,Option.some.injEq]at e;subst e
  simp only[zd]at r
  obtain⟨vs,rfl,h1,r⟩:=r
  exact⟨r,h1⟩
 |_=>simp only[xg]at h
def Q0(S:St):List (Nat×Operand)→Prop×Option (List (Nat×List AV))
 | []=>(True,some [])
 |(i,x)::rest=>
  match(xg (unG (S.ev x)).2).2,(Q0 S rest).2 with
  |some y,some l=>((unG (S.ev x)).1∧(xg (unG (S.ev x)).2).1∧(Q0 S rest).1,some ((i,y)::l))
  |_,_=>(False,none)
theorem wE [Gi] {E:Ent} {S:St} {g:Gh} {a:Act} {w:World}(hS:SR E S g a w):∀{ps:List (Nat×Operand)} {l:List (Nat×List AV)},(Q0 S ps).1→(Q0 S ps).2=some l→
  l.map (·.1)=(ps.map fun x=>(x.1,a.eval x.2)).map (·.1)∧∀(i:Nat) (x:Nat×List AV) (v:Nat×Value),l[i]?=some x→(ps.map fun x=>(x.1,a.eval x.2))[i]?=some v→RC g w x.2 v.2.cells.toList
 | [],l,h,e=>by simp only[Q0,Option.some.injEq]at e;subst e;simp
 |(i,x)::rest,l,h,e=>by
  unfold Q0 at h e
  split at h
  ·rename_i y l' h1 h2
   simp only[h1,h2,Option.some.injEq]at e
   subst e
   obtain⟨ih1,ih2⟩:=wE hS h.2.2 h2
   refine⟨by simp[ih1],fun j z v hz hv=>?_⟩
   cases j with
   |zero=>
    simp at hz hv
    subst hz;subst hv
    exact Ky h.2.1 h1 (zA h.1 (hS.ev x))
   |succ j=>exact ih2 j z v (by simpa using hz) (by simpa using hv)
  ·exact h.elim
def ug(place:Nat→Option (Nat×Nat))(cells:List AV):List (Nat×List AV)→Prop×List AV
 | []=>(True,cells)
 |(i,x)::rest=>
  match place i with
  |none=>(False,cells)
  |some (off,size)=>
   let r:=ug place (cells.take off++x++cells.drop (off+size)) rest
   ((x.length=size∧off+size≤cells.length)∧r.1,r.2)
theorem vP {g:Gh} {w:World} {place:Nat→Option (Nat×Nat)}:∀{parts:List (Nat×List AV)} {vparts:List (Nat×Value)} {cells:List AV} {arr:Array Value},
  (ug place cells parts).1→RC g w cells arr.toList→parts.map (·.1)=vparts.map (·.1)→(∀(i:Nat) (x:Nat×List AV) (v:Nat×Value),parts[i]?=some x→vparts[i]?=some v→RC g w x.2 v.2.cells.toList)→
  ∃arr',Instr.fill place arr vparts=some arr'∧RC g w (ug place cells parts).2 arr'.toList
 | [],vparts,cells,arr,_,r,hm,_=>by
  cases vparts with
  |nil=>exact⟨arr,rfl,r⟩
  |cons v vs=>simp at hm
 |(i,x)::rest,vparts,cells,arr,h,r,hm,hv=>by
  cases vparts with
  |nil=>simp at hm
  |cons vp vrest=>
   obtain⟨j,v⟩:=vp
   simp only[List.map_cons,List.cons.injEq]at hm
   obtain⟨hij,hm⟩:=hm
   subst hij
   unfold ug at h⊢
   cases hp:place i with
   |none=>simp only[hp]at h
   |some os=>
    obtain⟨off,size⟩:=os
    simp only[hp]at h⊢
    obtain⟨⟨h1,h2⟩,h4⟩:=h
    have hc:=hv 0 (i,x) (i,v) rfl rfl
    simp only[]at hc
    have hlc:=hc.1.len
    have hla:=r.1.len
    simp only[Array.length_toList]at hlc hla
    have hfold:(v.cells.zipIdx.foldl (fun cs x=>cs.setIfInBounds (off+x.2) x.1) arr).toList=arr.toList.take off++v.cells.toList++arr.toList.drop (off+size):=by
     have:=U4 off v.cells.toList 0 arr (by simp;omega)
     simp only[Nat.add_zero,Array.length_toList]at this
     rw[←Array.foldl_toList,Array.toList_zipIdx,this,hlc,h1]
    have hr':RC g w (cells.take off++x++cells.drop (off+size)) (v.cells.zipIdx.foldl (fun cs x=>cs.setIfInBounds (off+x.2) x.1) arr).toList:=by
     rw[hfold]
     refine⟨((r.1.take off).append hc.1).append (r.1.drop _),fun u hu=>?_⟩
     rcases List.mem_append.1 hu with hu|hu
     ·rcases List.mem_append.1 hu with hu|hu
      ·exact r.2 u (List.mem_of_mem_take hu)
      ·exact hc.2 u hu
     ·exact r.2 u (List.mem_of_mem_drop hu)
    obtain⟨arr',e,hR⟩:=vP h4 hr' hm (fun k y u hy hu=>hv (k+1) y u (by simpa using hy) (by simpa using hu))
    refine⟨arr',?_,hR⟩
    unfold Instr.fill
    simp only[hp]
    rw[if_neg (by simp;omega)]
    exact e
def zkI:AV→Bool
 |.os _ _ _=>true
 |_=>false
def WR(S:St)(ps:List (Nat×Operand)):Prop×Option (List (Nat×PV)):=if ps.any fun x=>zkI (unG (S.ev x.2)).2 then(True,none)else ZO S ps
theorem KB {S:St} {ps:List (Nat×Operand)} {c:Prop} {l:List (Nat×PV)}(h:WR S ps=(c,some l)):ZO S ps=(c,some l):=by
 unfold WR at h
 split at h
 ·cases h
 ·exact h
def Uv(P:Program)(S:St)(T:TypeId)(parts:List (Nat×Operand)):PR:=
 match ty P T,WR S parts with
 |some ⟨.struct _,_,_,some z⟩,(c,some l)=>
  match QK P T with
  |some ps=>((c∧z.all PV.one=true)∧(xO (ps[·]?) z l).1,.p (.agg (xO (ps[·]?) z l).2))
  |none=>bad
 |some ⟨.array _ e,_,_,some z⟩,(c,some l)=>
  match ty P e with
  |some et=>((c∧z.all PV.one=true)∧(xO (fun i=>some (i*et.size,et.size)) z l).1,.p (.agg (xO (fun i=>some (i*et.size,et.size)) z l).2))
  |none=>bad
 |some ⟨.struct _,_,_,some z⟩,(_,none)=>
  match QK P T,Q0 S parts with
  |some ps,(c,some l)=>((c∧z.all PV.one=true)∧(ug (ps[·]?) (z.map .p) l).1,.ag (ug (ps[·]?) (z.map .p) l).2)
  |_,_=>bad
 |_,_=>bad
theorem yi {P:Program} {w:World}:∀{fs:List Field} {l:List (Nat×Nat)},(fs.mapM fun fd=>(ty P fd.type).map fun ft=>(fd.offset,ft.size))=some l→
  (fs.mapM fun f=>do pure (f.offset,←sizeOf f.type):Sem (List (Nat×Nat))).run P w=.ok l w
 | [],l,h=>by simp at h;subst h;simp
 |f::fs,l,h=>by
  simp only[List.mapM_cons,bind,Option.bind_eq_some_iff,Option.map_eq_some_iff]at h
  obtain⟨a,⟨ft,h1,rfl⟩,l',h2,h3⟩:=h
  simp only[pure,Option.some.injEq]at h3
  subst h3
  have ih:=yi (w:=w) h2
  simp only[List.mapM_cons,Sem.run_bind,qE w h1,Result.andThen_ok,Sem.run_pure,ih]
theorem zbu [Gi] {P:Program} {E:Ent} {S:St} {g:Gh} {a:Act} {w:World}(hS:SR E S g a w) {T:TypeId} {parts:Array (Nat×Operand)}(h:(Uv P S T parts.toList).1):
  ∃u,(Instr.build T (parts.map fun x=>(x.1,a.eval x.2))).run P w=.ok u w∧zd g w (Uv P S T parts.toList).2 u:=by
 unfold Uv at h⊢
 split at h
 ·rename_i fs sz by_ z c l hT hp0
  have hp:=KB hp0
  have hu:=zw w hT
  simp only[]at hu
  obtain⟨zv,hz1,hz2⟩:=jV hT rfl
  cases hpl:QK P T with
  |none=>simp only[hpl]at h;exact h.elim
  |some ps=>
   simp only[hpl]at h⊢
   obtain⟨⟨hc,hall⟩,hf⟩:=h
   have hpa:(ZO S parts.toList).1:=by rw[hp];exact hc
   have hpb:(ZO S parts.toList).2=some l:=by rw[hp]
   obtain⟨h1,h2⟩:=yA hS hpa hpb
   have hz:zG g.fr w z zv.cells.toList:=zG.of_map hz2 hall
   obtain⟨arr',e,hR⟩:=wF hf hz h1 h2
   refine⟨.agg arr',?_,by simp only[zd,zk];exact⟨_,rfl,hR⟩⟩
   unfold QK at hpl
   simp only[hT]at hpl
   have hm:=yi (w:=w) hpl
   have hm':(fs.mapM fun f=>do pure (f.offset,←sizeOf f.type):Sem (Array (Nat×Nat))).run P w=.ok ps.toArray w:=by
    rw[Array.mapM_eq_mapM_toList,Sem.run_map,hm];rfl
   unfold Instr.build
   simp only[Sem.run_bind,hz1,Result.andThen_ok,hu,hm',Array.toList_map]
   have e':Instr.fill (fun x:Nat=>ps.toArray[x]?) zv.cells (List.map (fun x=>(x.fst,a.eval x.snd)) parts.toList)=some arr':=by
    have:(fun x:Nat=>ps.toArray[x]?)=(fun x:Nat=>ps[x]?):=by funext x;simp
    rw[this];exact e
   rw[e']
   rfl
 ·rename_i len el sz by_ z c l hT hp0
  have hp:=KB hp0
  have hu:=zw w hT
  simp only[]at hu
  obtain⟨zv,hz1,hz2⟩:=jV hT rfl
  cases het:ty P el with
  |none=>simp only[het]at h;exact h.elim
  |some et=>
   simp only[het]at h⊢
   obtain⟨⟨hc,hall⟩,hf⟩:=h
   have hpa:(ZO S parts.toList).1:=by rw[hp];exact hc
   have hpb:(ZO S parts.toList).2=some l:=by rw[hp]
   obtain⟨h1,h2⟩:=yA hS hpa hpb
   have hz:zG g.fr w z zv.cells.toList:=zG.of_map hz2 hall
   obtain⟨arr',e,hR⟩:=wF hf hz h1 h2
   refine⟨.agg arr',?_,by simp only[zd,zk];exact⟨_,rfl,hR⟩⟩
   unfold Instr.build
   simp only[Sem.run_bind,hz1,Result.andThen_ok,hu,qE w het,Array.toList_map]
   rw[e]
   rfl
 ·rename_i fs sz by_ z c hT hp
  have hu:=zw w hT
  simp only[]at hu
  obtain⟨zv,hz1,hz2⟩:=jV hT rfl
  cases hpl:QK P T with
  |none=>simp only[hpl]at h;exact h.elim
  |some ps=>
   rcases hpg:Q0 S parts.toList with ⟨c',l'⟩
   cases l' with
   |none=>simp only[hpl,hpg]at h;exact h.elim
   |some l=>
    simp only[hpl,hpg]at h⊢
    obtain⟨⟨hc,hall⟩,hf⟩:=h
    have hpa:(Q0 S parts.toList).1:=by rw[hpg];exact hc
    have hpb:(Q0 S parts.toList).2=some l:=by rw[hpg]
    obtain⟨h1,h2⟩:=wE hS hpa hpb
    have hz:RC g w (z.map .p) zv.cells.toList:=zG.Y4 (zG.of_map hz2 hall)
    obtain⟨arr',e,hR⟩:=vP hf hz h1 h2
    refine⟨.agg arr',?_,by simp only[zd];exact⟨_,rfl,hR.2,hR.1⟩⟩
    unfold QK at hpl
    simp only[hT]at hpl
    have hm:=yi (w:=w) hpl
    have hm':(fs.mapM fun f=>do pure (f.offset,←sizeOf f.type):Sem (Array (Nat×Nat))).run P w=.ok ps.toArray w:=by
     rw[Array.mapM_eq_mapM_toList,Sem.run_map,hm];rfl
    unfold Instr.build
    simp only[Sem.run_bind,hz1,Result.andThen_ok,hu,hm',Array.toList_map]
    have e':Instr.fill (fun x:Nat=>ps.toArray[x]?) zv.cells (List.map (fun x=>(x.fst,a.eval x.snd)) parts.toList)=some arr':=by
     have:(fun x:Nat=>ps.toArray[x]?)=(fun x:Nat=>ps[x]?):=by funext x;simp
     rw[this];exact e
    rw[e']
    rfl
 ·exact h.elim
end Go.AM
end
