/- A part of this seat's proofs, by an abstract machine. Conditions: each law's. -/
import Derived.Test.YtfjdbbpimklecaaGreatDoorV01
import Derived.Laws.Build
import Derived.Laws.BytesString
namespace Go.AM
section
def cut {α:Type}(l:List α)(a b:Int):List α:=(l.drop a.toNat).take (b.toNat-a.toNat)
def yF(P:Program)(T:TypeId)(x:AV)(lo hi mx:Option Int):PR:=
 match ty P T,x with
 |some ⟨.string,_,_,_⟩,.p (.str s)=>
  match mx with
  |none=>(0≤lo.getD 0∧lo.getD 0≤hi.getD s.length∧hi.getD s.length≤s.length,.p (.str (cut s (lo.getD 0) (hi.getD s.length))))
  |some _=>bad
 |some ⟨.slice e,_,_,_⟩,.p (.sl z es)=>sl e z es
 |some ⟨.slice e,_,_,_⟩,.os _ z es=>sl e z es
 |some ⟨.slice e,_,_,_⟩,.la t z o n=>
  match ty P e,mx with
  |some et,none=>(z=et.size∧0≤lo.getD 0∧lo.getD 0≤hi.getD n∧hi.getD n≤n,.la t z (o+(lo.getD 0).toNat*z) ((hi.getD n).toNat- (lo.getD 0).toNat))
  |_,_=>bad
 |_,_=>bad
where sl (e:TypeId) (z:Nat) (es:List PV):PR:=
 match ty P e,mx with
 |some et,none=>(z=et.size∧0≤lo.getD 0∧lo.getD 0≤hi.getD es.length∧hi.getD es.length≤es.length,.p (.sl z (cut es (lo.getD 0) (hi.getD es.length))))
 |some et,some m=>(z=et.size∧0≤lo.getD 0∧lo.getD 0≤hi.getD es.length∧hi.getD es.length≤es.length∧m=hi.getD es.length∧hi.isSome=true,
   .os [] z (cut es (lo.getD 0) (hi.getD es.length)))
 |_,_=>bad
def yc(b:Option Int)(v:Option Value):Prop:=
 match b,v with
 |none,none=>True
 |some n,some u=>∃k,u=.int k n
 |_,_=>False
theorem ZL {P:Program} {w:World}(isS:Bool)(len cap:Nat)(lo hi mx:Option Int)(vl vh vm:Option Value)(hl:yc lo vl)(hh:yc hi vh)(hm:yc mx vm)
  (hmx:mx.isSome=true→hi.isSome=true) (h0:0≤lo.getD 0) (h1:lo.getD 0≤hi.getD len) (h2:hi.getD len≤mx.getD cap) (h3:mx.getD cap≤cap):
  (Instr.sliceBounds isS len cap vl vh vm).run P w=.ok ((lo.getD 0).toNat,(hi.getD len).toNat,(mx.getD cap).toNat) w:=by
 have sb:∀(k:IntKind) (n:Int) (y:Nat) (c:BoundsCode),0≤n→n≤y→(Instr.sliceBound (.int k n) y c).run P w=.ok n.toNat w:=by
  intro k n y c a b
  simp[Instr.sliceBound,asIntOf,a,b]
 cases mx with
 |none=>
  cases vm with
  |some u=>exact hm.elim
  |none=>
   cases hi with
   |none=>
    cases vh with
    |some u=>exact hh.elim
    |none=>
     cases lo with
     |none=>
      cases vl with
      |some u=>exact hl.elim
      |none=>simp[Instr.sliceBounds]
     |some l=>
      cases vl with
      |none=>exact hl.elim
      |some u=>
       obtain⟨k,rfl⟩:=hl
       simp only[Option.getD_some,Option.getD_none]at*
       simp[Instr.sliceBounds,sb k l len _ h0 h1]
   |some hh'=>
    cases vh with
    |none=>exact hh.elim
    |some u=>
     obtain⟨k,rfl⟩:=hh
     cases lo with
     |none=>
      cases vl with
      |some u=>exact hl.elim
      |none=>
       simp only[Option.getD_some,Option.getD_none]at*
       have:=sb k hh' cap (if isS=true then BoundsCode.sliceAcap else BoundsCode.sliceAlen) (by omega) (by omega)
       simp[Instr.sliceBounds,this]
     |some l=>
      cases vl with
      |none=>exact hl.elim
      |some u=>
       obtain⟨k',rfl⟩:=hl
       simp only[Option.getD_some,Option.getD_none]at*
       have e1:=sb k hh' cap (if isS=true then BoundsCode.sliceAcap else BoundsCode.sliceAlen) (by omega) (by omega)
       have e2:=sb k' l hh'.toNat .sliceB h0 (by omega)
       simp[Instr.sliceBounds,e1,e2]
 |some m=>
  cases vm with
  |none=>exact hm.elim
  |some u=>
   obtain⟨km,rfl⟩:=hm
   cases hi with
   |none=>simp at hmx
   |some hh'=>
    cases vh with
    |none=>exact hh.elim
    |some u=>
     obtain⟨k,rfl⟩:=hh
     simp only[Option.getD_some]at*
     have e0:=sb km m cap (if isS=true then BoundsCode.slice3Acap else BoundsCode.slice3Alen) (by omega) (by omega)
     have e1:=sb k hh' m.toNat .slice3B (by omega) (by omega)
     cases lo with
     |none=>
      cases vl with
      |some u=>exact hl.elim
      |none=>simp[Instr.sliceBounds,e0,e1]
     |some l=>
      cases vl with
      |none=>exact hl.elim
      |some u=>
       obtain⟨k',rfl⟩:=hl
       simp only[Option.getD_some]at*
       have e2:=sb k' l hh'.toNat .slice3C h0 (by omega)
       simp[Instr.sliceBounds,e0,e1,e2]
theorem qo.cut {fr:Nat→Nat} {w:World} {z b:Nat} {es:List PV} {o:Nat}(r:qo fr w z b es o)(l h:Nat)(hl:l≤es.length):qo fr w z b ((es.drop l).take h) (o+l*z):=by
 have e1:es=es.take l++es.drop l:=(List.take_append_drop l es).symm
 rw[e1]at r
 have r1:=r.left.2
 have hlen:(es.take l).length=l:=by simp;omega
 rw[hlen]at r1
 have e2:es.drop l=(es.drop l).take h++(es.drop l).drop h:=(List.take_append_drop h _).symm
 rw[e2]at r1
 exact r1.left.1
theorem zi.cut {fr:Nat→Nat} {w:World} {z:Nat} {es:List PV} {v:Value}(r:zi fr w (.sl z es) v) {l h:Nat}(hl:l≤h)(hh:h≤es.length) {base:Option Addr} {len cap m:Nat}
  (hv:v=.slice base len cap) (hm:h≤m) (hmc:m≤cap):zi fr w (.sl z ((es.drop l).take (h-l))) (.slice (if m=l then base else base.map (·.add (l*z))) (h-l) (m-l)):=by
 have hlen:((es.drop l).take (h-l)).length=h-l:=by simp;omega
 simp only[zi]at r⊢
 rcases r with ⟨rfl,a0,cap0,rfl⟩|⟨b,o,cap',e,hc,hf,he⟩
 ·injection hv with h1 h2 h3
  subst h1;subst h2;subst h3
  simp at hh;subst hh
  have:l=0:=by omega
  subst this
  exact .inl ⟨by simp,_,_,rfl⟩
 ·rw[e]at hv
  injection hv with h1 h2 h3
  subst h1;subst h2;subst h3
  right
  by_cases hml:m=l
  ·have hz:h-l=0:=by omega
   refine⟨b,o,m-l,by rw[if_pos hml,hlen],by rw[hlen];omega,?_,?_⟩
   ·rw[hlen,hz];omega
   ·rw[hz];simp[qo]
  ·refine⟨b,o+l*z,m-l,by rw[if_neg hml,hlen];simp[addr_add],by rw[hlen];omega,?_,?_⟩
   ·rw[hlen]
    have:=Nat.mul_le_mul_right z (show l+(h-l)≤es.length by omega)
    rw[Nat.add_mul]at this
    omega
   ·exact he.cut l (h-l) (by omega)
theorem jm {fr:Nat→Nat} {w:World} {z:Nat} {es:List PV} {v:Value}(r:zi fr w (.sl z es) v):∃base cap,v=.slice base es.length cap∧es.length≤cap:=by
 simp only[zi]at r
 rcases r with ⟨rfl,a,cap,rfl⟩|⟨b,o,cap,e,hc,_⟩
 ·exact⟨a,cap,rfl,Nat.zero_le _⟩
 ·exact⟨_,cap,e,hc⟩
theorem VR(l:List UInt8)(a b:Nat)(_:a≤b)(_:b≤l.length):(⟨l.toArray⟩:ByteArray).extract a b=⟨((l.drop a).take (b-a)).toArray⟩:=by
 apply ByteArray.ext
 simp only[ByteArray.data_extract]
 simp
theorem y5 {P:Program} {e:TypeId} {T:TypeId} {sz by_:Nat} {ze:Option (List PV)}(hT:ty P T=some ⟨.slice e,sz,by_,ze⟩) {z:Nat} {es:List PV} {lo hi mx:Option Int} {vl vh vm:Option Value}
  {g:Gh} {w:World} {v:Value} (h:(yF.sl P lo hi mx e z es).1) (r:zi g.fr w (.sl z es) v)
  (hl:yc lo vl) (hh:yc hi vh) (hm:yc mx vm):
  ∃u,(Instr.sliceAt T v vl vh vm).run P w=.ok u w∧za g w (yF.sl P lo hi mx e z es).2 u:=by
 have hu:=zo w hT
 simp only[]at hu
 obtain⟨base,cap,rfl,hcap⟩:=jm r
 unfold yF.sl at h⊢
 cases het:ty P e with
 |none=>simp only[het]at h;exact h.elim
 |some et=>
  have hs:=qc w het
  simp only[het]at h⊢
  cases hmx:mx with
  |none=>
   subst hmx
   simp only[]at h⊢
   obtain⟨hz,h0,h1,h2⟩:=h
   subst hz
   have hb:=ZL (P:=P) (w:=w) true es.length cap lo hi none vl vh vm hl hh hm (by simp) h0 h1 (by simp;omega) (by simp)
   have hm0:((none:Option Int).getD (cap:Int)).toNat=cap:=by simp
   rw[hm0]at hb
   refine⟨.slice (if cap=(lo.getD 0).toNat then base else base.map (·.add ((lo.getD 0).toNat*et.size))) ((hi.getD es.length).toNat- (lo.getD 0).toNat) (cap- (lo.getD 0).toNat),?_,?_⟩
   ·unfold Instr.sliceAt
    rw[Sem.run_bind,hu]
    simp only[Result.andThen_ok]
    unfold Instr.slice
    rw[Sem.run_bind,hu]
    simp only[Result.andThen_ok,Sem.run_bind,hb,hs,Sem.run_pure]
   ·simp only[za]
    exact r.cut (by omega) (by omega) rfl (by omega) (by omega)
  |some m=>
   subst hmx
   simp only[]at h⊢
   obtain⟨hz,h0,h1,h2,h3,h4⟩:=h
   subst hz
   have hb:=ZL (P:=P) (w:=w) true es.length cap lo hi (some m) vl vh vm hl hh hm (by simp[h4]) h0 h1 (by simp;omega) (by simp;omega)
   have hm0:((some m:Option Int).getD (cap:Int)).toNat=(hi.getD es.length).toNat:=by simp;omega
   rw[hm0]at hb
   refine⟨.slice (if(hi.getD es.length).toNat=(lo.getD 0).toNat then base else base.map (·.add ((lo.getD 0).toNat*et.size))) ((hi.getD es.length).toNat- (lo.getD 0).toNat) ((hi.getD es.length).toNat- (lo.getD 0).toNat),?_,?_⟩
   ·unfold Instr.sliceAt
    rw[Sem.run_bind,hu]
    simp only[Result.andThen_ok]
    unfold Instr.slice
    rw[Sem.run_bind,hu]
    simp only[Result.andThen_ok,Sem.run_bind,hb,hs,Sem.run_pure]
   ·simp only[za]
    exact⟨r.cut (by omega) (by omega) rfl (by omega) (by omega),.inl ⟨_,_,rfl⟩⟩
theorem JE {P:Program} {T:TypeId} {x:AV} {lo hi mx:Option Int} {vl vh vm:Option Value} {g:Gh} {w:World} {v:Value}(h:(yF P T x lo hi mx).1)(r:za g w x v)
  (hl:yc lo vl) (hh:yc hi vh) (hm:yc mx vm):
  ∃u,(Instr.sliceAt T v vl vh vm).run P w=.ok u w∧za g w (yF P T x lo hi mx).2 u:=by
 unfold yF at h⊢
 split at h
 ·rename_i sz by_ ze s hT
  have hu:=zo w hT
  simp only[]at hu
  cases hmx:mx with
  |some m=>subst hmx;exact h.elim
  |none=>
   subst hmx
   simp only[za,zi]at h r⊢
   subst r
   obtain⟨h0,h1,h2⟩:=h
   have hsz:(⟨s.toArray⟩:ByteArray).size=s.length:=by simp[ByteArray.size]
   have hvm:vm=none:=by cases vm with|none=>rfl|some u=>exact hm.elim
   subst hvm
   have hb:=ZL (P:=P) (w:=w) false s.length s.length lo hi none vl vh none hl hh trivial (by simp) h0 h1 (by simpa using h2) (by simp)
   refine⟨_,?_,rfl⟩
   unfold Instr.sliceAt
   rw[Sem.run_bind,hu]
   simp only[Result.andThen_ok]
   unfold Instr.slice
   rw[Sem.run_bind,hu]
   simp only[Result.andThen_ok,Sem.run_bind,hsz,hb,Option.isSome_none,Bool.false_eq_true,if_false,Sem.run_pure]
   rw[VR _ _ _ (by omega) (by omega)]
   rfl
 ·rename_i e sz by_ ze z es hT
  simp only[za]at r
  exact y5 hT h r hl hh hm
 ·rename_i e sz by_ ze t z es hT
  simp only[za]at r
  exact y5 hT h r.1 hl hh hm
 ·rename_i e sz by_ ze t z o n hT
  have hu:=zo w hT
  simp only[]at hu
  cases het:ty P e with
  |none=>simp only[het]at h;exact h.elim
  |some et=>
   have hs:=qc w het
   cases hmx:mx with
   |some m=>subst hmx;simp only[het]at h;exact h.elim
   |none=>
    subst hmx
    simp only[het]at h⊢
    simp only[za]at r⊢
    obtain⟨b,o',cap,hk,rfl,hcap,ho,hB⟩:=r
    obtain⟨hz,h0,h1,h2⟩:=h
    subst hz
    have hb:=ZL (P:=P) (w:=w) true n cap lo hi none vl vh vm hl hh hm (by simp) h0 h1 (by simp;omega) (by simp)
    have hm0:((none:Option Int).getD (cap:Int)).toNat=cap:=by simp
    rw[hm0]at hb
    refine⟨_,?_,b,(if cap=(lo.getD 0).toNat then o' else o'+(lo.getD 0).toNat*et.size),cap- (lo.getD 0).toNat,hk,rfl,by omega,?_,?_⟩
    ·unfold Instr.sliceAt
     rw[Sem.run_bind,hu]
     simp only[Result.andThen_ok]
     unfold Instr.slice
     rw[Sem.run_bind,hu]
     simp only[Result.andThen_ok,Sem.run_bind,hb,hs,Sem.run_pure]
     congr 2
     by_cases e:cap=(lo.getD 0).toNat<;>simp[e,addr_add]
    ·by_cases e:cap=(lo.getD 0).toNat
     ·left;omega
     ·rw[if_neg e]
      rcases ho with ho|ho
      ·left;omega
      ·right;rw[ho]
    ·by_cases e:cap=(lo.getD 0).toNat
     ·rw[if_pos e,e,Nat.sub_self,Nat.zero_mul]
      exact hB.le (by omega)
     ·rw[if_neg e,Nat.add_assoc,←Nat.add_mul]
      have:(lo.getD 0).toNat+(cap- (lo.getD 0).toNat)=cap:=by omega
      rw[this]
      exact hB
 ·exact h.elim
def zfz:AV→Option PV
 |.p x=>some x
 |.os _ z es=>some (.sl z es)
 |_=>none
def zaY:List AV→Option (List PV)
 | []=>some []
 |x::l=>match zfz x,zaY l with
  |some y,some ys=>some (y::ys)
  |_,_=>none
def toP:AV→Option PV
 |.p x=>some x
 |.os _ z es=>some (.sl z es)
 |.ag xs=>(zaY xs).map .agg
 |_=>none
theorem zdA {g:Gh} {w:World} {x:AV} {y:PV} {v:Value}(h:zfz x=some y)(r:za g w x v):zi g.fr w y v:=by
 cases x with
 |p x=>simp only[zfz,Option.some.injEq]at h;subst h;simpa only[za]using r
 |os t z es=>simp only[zfz,Option.some.injEq]at h;subst h;simp only[za]at r;exact r.1
 |_=>cases h
theorem u6 {g:Gh} {w:World}:∀{xs:List AV} {ys:List PV} {vs:List Value},zaY xs=some ys→(∀u∈vs,u.oneCell'=true)→zm g w xs vs→zr g.fr w ys vs
 | [],ys,vs,h,_,r=>by simp only[zaY,Option.some.injEq]at h;subst h;simp only[zm]at r;simp only[zr];exact r
 |x::xs,ys,vs,h,h1,r=>by
  simp only[zaY]at h
  split at h
  ·rename_i y ys' e1 e2
   simp only[Option.some.injEq]at h;subst h
   simp only[zm]at r
   obtain⟨v,vs',rfl,r1,r2⟩:=r
   simp only[zr]
   exact⟨v,vs',rfl,h1 v (by simp),zdA e1 r1,u6 e2 (fun u hu=>h1 u (by simp[hu])) r2⟩
  ·cases h
theorem zan {g:Gh} {w:World} {x:AV} {y:PV} {v:Value}(h:toP x=some y)(r:za g w x v):zi g.fr w y v:=by
 cases x with
 |p x=>simp only[toP,Option.some.injEq]at h;subst h;simpa only[za]using r
 |os t z es=>simp only[toP,Option.some.injEq]at h;subst h;simp only[za]at r;exact r.1
 |ag xs=>
  simp only[toP,Option.map_eq_some_iff]at h
  obtain⟨ys,h1,rfl⟩:=h
  simp only[za]at r
  obtain⟨vs,rfl,h2,r⟩:=r
  simp only[zi]
  exact⟨vs,rfl,u6 h1 h2 r⟩
 |_=>cases h
def places(P:Program)(T:TypeId):Option (List (Nat×Nat)):=
 match ty P T with
 |some ⟨.struct fs,_,_,_⟩=>fs.toList.mapM fun fd=>(ty P fd.type).map fun ft=>(fd.offset,ft.size)
 |_=>none
def kT(place:Nat→Option (Nat×Nat))(cells:List PV):List (Nat×PV)→Prop×List PV
 | []=>(True,cells)
 |(i,x)::rest=>
  match place i with
  |none=>(False,cells)
  |some (off,size)=>
   let r:=kT place (cells.take off++x.cells++cells.drop (off+size)) rest
   ((x.cells.length=size∧off+size≤cells.length∧x.fits=true)∧r.1,r.2)
theorem Wx(off:Nat):∀(vs:List Value) (k:Nat) (arr:Array Value),off+k+vs.length≤arr.size→
  ((vs.zipIdx k).foldl (fun cs x=>cs.setIfInBounds (off+x.2) x.1) arr).toList=arr.toList.take (off+k)++vs++arr.toList.drop (off+k+vs.length)
 | [],k,arr,_=>by simp
 |v::vs,k,arr,h=>by
  simp only[List.length_cons]at h
  simp only[List.zipIdx_cons,List.foldl_cons]
  rw[Wx off vs (k+1) (arr.setIfInBounds (off+k) v) (by simp;omega)]
  have e:=list_seg_step arr.toList (off+k) v vs (by simp only[Array.length_toList];omega)
  simpa[Array.toList_setIfInBounds,Nat.add_assoc]using e
theorem yy {fr:Nat→Nat} {w:World} {place:Nat→Option (Nat×Nat)}:∀{parts:List (Nat×PV)} {vparts:List (Nat×Value)} {cells:List PV} {arr:Array Value},
  (kT place cells parts).1→zr fr w cells arr.toList→parts.map (·.1)=vparts.map (·.1)→(∀(i:Nat) (x:Nat×PV) (v:Nat×Value),parts[i]?=some x→vparts[i]?=some v→zi fr w x.2 v.2)→
  ∃arr',Instr.fill place arr vparts=some arr'∧zr fr w (kT place cells parts).2 arr'.toList
 | [],vparts,cells,arr,_,r,hm,_=>by
  cases vparts with
  |nil=>exact⟨arr,rfl,r⟩
  |cons v vs=>simp at hm
 |(i,x)::rest,vparts,cells,arr,h,r,hm,hv=>by
  cases vparts with
  |nil=>simp at hm
  |cons vp vrest=>
   obtain⟨j,v⟩:=vp
   simp only[List.map_cons,List.cons.injEq]at hm
   obtain⟨hij,hm⟩:=hm
   subst hij
   unfold kT at h⊢
   cases hp:place i with
   |none=>simp only[hp]at h
   |some os=>
    obtain⟨off,size⟩:=os
    simp only[hp]at h⊢
    obtain⟨⟨h1,h2,h3⟩,h4⟩:=h
    have hrv:zi fr w x v:=hv 0 (i,x) (i,v) rfl rfl
    have hc:=zi.cells h3 hrv
    have hlc:=zr.length hc
    have hla:=zr.length r
    simp only[Array.length_toList]at hlc hla
    have hfold:(v.cells.zipIdx.foldl (fun cs x=>cs.setIfInBounds (off+x.2) x.1) arr).toList=arr.toList.take off++v.cells.toList++arr.toList.drop (off+size):=by
     have:=Wx off v.cells.toList 0 arr (by simp;omega)
     simp only[Nat.add_zero,Array.length_toList]at this
     rw[←Array.foldl_toList,Array.toList_zipIdx,this,hlc,h1]
    have hr':zr fr w (cells.take off++x.cells++cells.drop (off+size)) (v.cells.zipIdx.foldl (fun cs x=>cs.setIfInBounds (off+x.2) x.1) arr).toList:=by
     rw[hfold];exact((r.take off).append hc).append (r.drop _)
    obtain⟨arr',e,hR⟩:=yy h4 hr' hm (fun k y u hy hu=>hv (k+1) y u (by simpa using hy) (by simpa using hu))
    refine⟨arr',?_,hR⟩
    unfold Instr.fill
    simp only[hp]
    rw[if_neg (by simp;omega)]
    exact e
def Zg(S:St):List (Nat×Operand)→Prop×Option (List (Nat×PV))
 | []=>(True,some [])
 |(i,x)::rest=>
  match toP (unG (S.ev x)).2,(Zg S rest).2 with
  |some y,some l=>((unG (S.ev x)).1∧(Zg S rest).1,some ((i,y)::l))
  |_,_=>(False,none)
theorem jB [Gi] {E:Ent} {S:St} {g:Gh} {a:Act} {w:World}(hS:SR E S g a w):∀{ps:List (Nat×Operand)} {l:List (Nat×PV)},(Zg S ps).1→(Zg S ps).2=some l→
  l.map (·.1)=(ps.map fun x=>(x.1,a.eval x.2)).map (·.1)∧∀(i:Nat) (x:Nat×PV) (v:Nat×Value),l[i]?=some x→(ps.map fun x=>(x.1,a.eval x.2))[i]?=some v→zi g.fr w x.2 v.2
 | [],l,h,e=>by simp only[Zg,Option.some.injEq]at e;subst e;simp
 |(i,x)::rest,l,h,e=>by
  unfold Zg at h e
  split at h
  ·rename_i y l' h1 h2
   simp only[h1,h2,Option.some.injEq]at e
   subst e
   obtain⟨ih1,ih2⟩:=jB hS h.2 h2
   refine⟨by simp[ih1],fun j z v hz hv=>?_⟩
   cases j with
   |zero=>
    simp at hz hv
    subst hz;subst hv
    exact zan h1 (zp h.1 (hS.ev x))
   |succ j=>exact ih2 j z v (by simpa using hz) (by simpa using hv)
  ·exact h.elim
def RC(g:Gh)(w:World)(cs:List AV)(vs:List Value):Prop:=zm g w cs vs∧∀u∈vs,u.oneCell'=true
theorem zm.len {g:Gh} {w:World}:∀{cs:List AV} {vs:List Value},zm g w cs vs→vs.length=cs.length
 | [],vs,r=>by simp only[zm]at r;subst r;rfl
 |c::cs,vs,r=>by simp only[zm]at r;obtain⟨v,vs',rfl,_,r⟩:=r;simp[zm.len r]
theorem zm.take {g:Gh} {w:World}:∀{cs:List AV} {vs:List Value} (n:Nat),zm g w cs vs→zm g w (cs.take n) (vs.take n)
 | [],vs,n,r=>by simp only[zm]at r;subst r;simp[zm]
 |c::cs,vs,0,r=>by simp[zm]
 |c::cs,vs,n+1,r=>by
  simp only[zm]at r
  obtain⟨v,vs',rfl,h2,r⟩:=r
  simp only[List.take_succ_cons,zm]
  exact⟨v,_,rfl,h2,r.take n⟩
theorem zm.drop {g:Gh} {w:World}:∀{cs:List AV} {vs:List Value} (n:Nat),zm g w cs vs→zm g w (cs.drop n) (vs.drop n)
 | [],vs,n,r=>by simp only[zm]at r;subst r;simp[zm]
 |c::cs,vs,0,r=>by simpa using r
 |c::cs,vs,n+1,r=>by
  simp only[zm]at r
  obtain⟨v,vs',rfl,h2,r⟩:=r
  simpa using r.drop n
theorem zm.append {g:Gh} {w:World}:∀{cs ds:List AV} {vs us:List Value},zm g w cs vs→zm g w ds us→zm g w (cs++ds) (vs++us)
 | [],ds,vs,us,r,r'=>by simp only[zm]at r;subst r;simpa using r'
 |c::cs,ds,vs,us,r,r'=>by
  simp only[zm]at r
  obtain⟨v,vs',rfl,h2,r⟩:=r
  simp only[List.cons_append,zm]
  exact⟨v,_,rfl,h2,r.append r'⟩
theorem zr.Kj {g:Gh} {w:World}:∀{cs:List PV} {vs:List Value},zr g.fr w cs vs→RC g w (cs.map .p) vs
 | [],vs,r=>by simp only[zr]at r;subst r;exact⟨by simp[zm],by simp⟩
 |c::cs,vs,r=>by
  simp only[zr]at r
  obtain⟨v,vs',rfl,h1,h2,r⟩:=r
  obtain⟨h3,h4⟩:=zr.Kj r
  refine⟨?_,fun u hu=>?_⟩
  ·simp only[List.map_cons,zm];exact⟨v,vs',rfl,by simp only[za];exact h2,h3⟩
  ·rcases List.mem_cons.1 hu with rfl|hu
   ·exact h1
   ·exact h4 u hu
theorem Kf {v:Value}(h:v.oneCell'=true):v.cells= #[v]:=by cases v<;>first|rfl|cases h
def ky:AV→Prop×Option (List AV)
 |.p x=>(x.fits=true,some (x.cells.map .p))
 |.os t z es=>(True,some [.os t z es])
 |.lp t o=>(True,some [.lp t o])
 |.la t z o n=>(True,some [.la t z o n])
 |.om t ks xs=>(True,some [.om t ks xs])
 |.ag cs=>(True,some cs)
 |_=>(False,none)
theorem W9 {g:Gh} {w:World} {x:AV} {cs:List AV} {v:Value}(h:(ky x).1)(e:(ky x).2=some cs)(r:za g w x v):RC g w cs v.cells.toList:=by
 cases x with
 |p x=>simp only[ky,Option.some.injEq]at h e;subst e;simp only[za]at r;exact(r.cells h).Kj
 |os t z es=>
  simp only[ky,Option.some.injEq]at e;subst e
  have r':=r
  simp only[za]at r'
  have h1:=zi.one (x:=.sl z es) rfl r'.1
  rw[Kf h1]
  exact⟨by simp only[zm];exact⟨_,[],rfl,r,rfl⟩,by simpa using h1⟩
 |lp t o=>
  simp only[ky,Option.some.injEq]at e;subst e
  have r':=r
  simp only[za]at r';obtain⟨b,_,rfl⟩:=r'
  exact⟨by simp only[Value.cells,zm];exact⟨_,[],rfl,r,rfl⟩,by simp[Value.cells,Value.oneCell']⟩
 |la t z o n=>
  simp only[ky,Option.some.injEq]at e;subst e
  have r':=r
  simp only[za]at r';obtain⟨b,o',cap,_,rfl,_⟩:=r'
  exact⟨by simp only[Value.cells,zm];exact⟨_,[],rfl,r,rfl⟩,by simp[Value.cells,Value.oneCell']⟩
 |om t ks xs=>
  simp only[ky,Option.some.injEq]at e;subst e
  have r':=r
  simp only[za]at r';obtain⟨b,arr,c,rfl,_⟩:=r'
  exact⟨by simp only[Value.cells,zm];exact⟨_,[],rfl,r,rfl⟩,by simp[Value.cells,Value.oneCell']⟩
 |ag cs'=>
  simp only[ky,Option.some.injEq]at e;subst e
  simp only[za]at r
  obtain⟨vs,rfl,h1,r⟩:=r
  exact⟨r,h1⟩
 |_=>simp only[ky]at h
def ZX(S:St):List (Nat×Operand)→Prop×Option (List (Nat×List AV))
 | []=>(True,some [])
 |(i,x)::rest=>
  match(ky (unG (S.ev x)).2).2,(ZX S rest).2 with
  |some y,some l=>((unG (S.ev x)).1∧(ky (unG (S.ev x)).2).1∧(ZX S rest).1,some ((i,y)::l))
  |_,_=>(False,none)
theorem yP [Gi] {E:Ent} {S:St} {g:Gh} {a:Act} {w:World}(hS:SR E S g a w):∀{ps:List (Nat×Operand)} {l:List (Nat×List AV)},(ZX S ps).1→(ZX S ps).2=some l→
  l.map (·.1)=(ps.map fun x=>(x.1,a.eval x.2)).map (·.1)∧∀(i:Nat) (x:Nat×List AV) (v:Nat×Value),l[i]?=some x→(ps.map fun x=>(x.1,a.eval x.2))[i]?=some v→RC g w x.2 v.2.cells.toList
 | [],l,h,e=>by simp only[ZX,Option.some.injEq]at e;subst e;simp
 |(i,x)::rest,l,h,e=>by
  unfold ZX at h e
  split at h
  ·rename_i y l' h1 h2
   simp only[h1,h2,Option.some.injEq]at e
   subst e
   obtain⟨ih1,ih2⟩:=yP hS h.2.2 h2
   refine⟨by simp[ih1],fun j z v hz hv=>?_⟩
   cases j with
   |zero=>
    simp at hz hv
    subst hz;subst hv
    exact W9 h.2.1 h1 (zp h.1 (hS.ev x))
   |succ j=>exact ih2 j z v (by simpa using hz) (by simpa using hv)
  ·exact h.elim
def xF(place:Nat→Option (Nat×Nat))(cells:List AV):List (Nat×List AV)→Prop×List AV
 | []=>(True,cells)
 |(i,x)::rest=>
  match place i with
  |none=>(False,cells)
  |some (off,size)=>
   let r:=xF place (cells.take off++x++cells.drop (off+size)) rest
   ((x.length=size∧off+size≤cells.length)∧r.1,r.2)
theorem xB {g:Gh} {w:World} {place:Nat→Option (Nat×Nat)}:∀{parts:List (Nat×List AV)} {vparts:List (Nat×Value)} {cells:List AV} {arr:Array Value},
  (xF place cells parts).1→RC g w cells arr.toList→parts.map (·.1)=vparts.map (·.1)→(∀(i:Nat) (x:Nat×List AV) (v:Nat×Value),parts[i]?=some x→vparts[i]?=some v→RC g w x.2 v.2.cells.toList)→
  ∃arr',Instr.fill place arr vparts=some arr'∧RC g w (xF place cells parts).2 arr'.toList
 | [],vparts,cells,arr,_,r,hm,_=>by
  cases vparts with
  |nil=>exact⟨arr,rfl,r⟩
  |cons v vs=>simp at hm
 |(i,x)::rest,vparts,cells,arr,h,r,hm,hv=>by
  cases vparts with
  |nil=>simp at hm
  |cons vp vrest=>
   obtain⟨j,v⟩:=vp
   simp only[List.map_cons,List.cons.injEq]at hm
   obtain⟨hij,hm⟩:=hm
   subst hij
   unfold xF at h⊢
   cases hp:place i with
   |none=>simp only[hp]at h
   |some os=>
    obtain⟨off,size⟩:=os
    simp only[hp]at h⊢
    obtain⟨⟨h1,h2⟩,h4⟩:=h
    have hc:=hv 0 (i,x) (i,v) rfl rfl
    simp only[]at hc
    have hlc:=hc.1.len
    have hla:=r.1.len
    simp only[Array.length_toList]at hlc hla
    have hfold:(v.cells.zipIdx.foldl (fun cs x=>cs.setIfInBounds (off+x.2) x.1) arr).toList=arr.toList.take off++v.cells.toList++arr.toList.drop (off+size):=by
     have:=Wx off v.cells.toList 0 arr (by simp;omega)
     simp only[Nat.add_zero,Array.length_toList]at this
     rw[←Array.foldl_toList,Array.toList_zipIdx,this,hlc,h1]
    have hr':RC g w (cells.take off++x++cells.drop (off+size)) (v.cells.zipIdx.foldl (fun cs x=>cs.setIfInBounds (off+x.2) x.1) arr).toList:=by
     rw[hfold]
     refine⟨((r.1.take off).append hc.1).append (r.1.drop _),fun u hu=>?_⟩
     rcases List.mem_append.1 hu with hu|hu
     ·rcases List.mem_append.1 hu with hu|hu
      ·exact r.2 u (List.mem_of_mem_take hu)
      ·exact hc.2 u hu
     ·exact r.2 u (List.mem_of_mem_drop hu)
    obtain⟨arr',e,hR⟩:=xB h4 hr' hm (fun k y u hy hu=>hv (k+1) y u (by simpa using hy) (by simpa using hu))
    refine⟨arr',?_,hR⟩
    unfold Instr.fill
    simp only[hp]
    rw[if_neg (by simp;omega)]
    exact e
def zgL:AV→Bool
 |.os _ _ _=>true
 |_=>false
def wW(S:St)(ps:List (Nat×Operand)):Prop×Option (List (Nat×PV)):=if ps.any fun x=>zgL (unG (S.ev x.2)).2 then(True,none)else Zg S ps
theorem WQ {S:St} {ps:List (Nat×Operand)} {c:Prop} {l:List (Nat×PV)}(h:wW S ps=(c,some l)):Zg S ps=(c,some l):=by
 unfold wW at h
 split at h
 ·cases h
 ·exact h
def Ws(P:Program)(S:St)(T:TypeId)(parts:List (Nat×Operand)):PR:=
 match ty P T,wW S parts with
 |some ⟨.struct _,_,_,some z⟩,(c,some l)=>
  match places P T with
  |some ps=>((c∧z.all PV.one=true)∧(kT (ps[·]?) z l).1,.p (.agg (kT (ps[·]?) z l).2))
  |none=>bad
 |some ⟨.array _ e,_,_,some z⟩,(c,some l)=>
  match ty P e with
  |some et=>((c∧z.all PV.one=true)∧(kT (fun i=>some (i*et.size,et.size)) z l).1,.p (.agg (kT (fun i=>some (i*et.size,et.size)) z l).2))
  |none=>bad
 |some ⟨.struct _,_,_,some z⟩,(_,none)=>
  match places P T,ZX S parts with
  |some ps,(c,some l)=>((c∧z.all PV.one=true)∧(xF (ps[·]?) (z.map .p) l).1,.ag (xF (ps[·]?) (z.map .p) l).2)
  |_,_=>bad
 |_,_=>bad
theorem jq {P:Program} {w:World}:∀{fs:List Field} {l:List (Nat×Nat)},(fs.mapM fun fd=>(ty P fd.type).map fun ft=>(fd.offset,ft.size))=some l→
  (fs.mapM fun f=>do pure (f.offset,←sizeOf f.type):Sem (List (Nat×Nat))).run P w=.ok l w
 | [],l,h=>by simp at h;subst h;simp
 |f::fs,l,h=>by
  simp only[List.mapM_cons,bind,Option.bind_eq_some_iff,Option.map_eq_some_iff]at h
  obtain⟨a,⟨ft,h1,rfl⟩,l',h2,h3⟩:=h
  simp only[pure,Option.some.injEq]at h3
  subst h3
  have ih:=jq (w:=w) h2
  simp only[List.mapM_cons,Sem.run_bind,qc w h1,Result.andThen_ok,Sem.run_pure,ih]
theorem Yu [Gi] {P:Program} {E:Ent} {S:St} {g:Gh} {a:Act} {w:World}(hS:SR E S g a w) {T:TypeId} {parts:Array (Nat×Operand)}(h:(Ws P S T parts.toList).1):
  ∃u,(Instr.build T (parts.map fun x=>(x.1,a.eval x.2))).run P w=.ok u w∧za g w (Ws P S T parts.toList).2 u:=by
 unfold Ws at h⊢
 split at h
 ·rename_i fs sz by_ z c l hT hp0
  have hp:=WQ hp0
  have hu:=zo w hT
  simp only[]at hu
  obtain⟨zv,hz1,hz2⟩:=QG hT rfl
  cases hpl:places P T with
  |none=>simp only[hpl]at h;exact h.elim
  |some ps=>
   simp only[hpl]at h⊢
   obtain⟨⟨hc,hall⟩,hf⟩:=h
   have hpa:(Zg S parts.toList).1:=by rw[hp];exact hc
   have hpb:(Zg S parts.toList).2=some l:=by rw[hp]
   obtain⟨h1,h2⟩:=jB hS hpa hpb
   have hz:zr g.fr w z zv.cells.toList:=zr.of_map hz2 hall
   obtain⟨arr',e,hR⟩:=yy hf hz h1 h2
   refine⟨.agg arr',?_,by simp only[za,zi];exact⟨_,rfl,hR⟩⟩
   unfold places at hpl
   simp only[hT]at hpl
   have hm:=jq (w:=w) hpl
   have hm':(fs.mapM fun f=>do pure (f.offset,←sizeOf f.type):Sem (Array (Nat×Nat))).run P w=.ok ps.toArray w:=by
    rw[Array.mapM_eq_mapM_toList,Sem.run_map,hm];rfl
   unfold Instr.build
   simp only[Sem.run_bind,hz1,Result.andThen_ok,hu,hm',Array.toList_map]
   have e':Instr.fill (fun x:Nat=>ps.toArray[x]?) zv.cells (List.map (fun x=>(x.fst,a.eval x.snd)) parts.toList)=some arr':=by
    have:(fun x:Nat=>ps.toArray[x]?)=(fun x:Nat=>ps[x]?):=by funext x;simp
    rw[this];exact e
   rw[e']
   rfl
 ·rename_i len el sz by_ z c l hT hp0
  have hp:=WQ hp0
  have hu:=zo w hT
  simp only[]at hu
  obtain⟨zv,hz1,hz2⟩:=QG hT rfl
  cases het:ty P el with
  |none=>simp only[het]at h;exact h.elim
  |some et=>
   simp only[het]at h⊢
   obtain⟨⟨hc,hall⟩,hf⟩:=h
   have hpa:(Zg S parts.toList).1:=by rw[hp];exact hc
   have hpb:(Zg S parts.toList).2=some l:=by rw[hp]
   obtain⟨h1,h2⟩:=jB hS hpa hpb
   have hz:zr g.fr w z zv.cells.toList:=zr.of_map hz2 hall
   obtain⟨arr',e,hR⟩:=yy hf hz h1 h2
   refine⟨.agg arr',?_,by simp only[za,zi];exact⟨_,rfl,hR⟩⟩
   unfold Instr.build
   simp only[Sem.run_bind,hz1,Result.andThen_ok,hu,qc w het,Array.toList_map]
   rw[e]
   rfl
 ·rename_i fs sz by_ z c hT hp
  have hu:=zo w hT
  simp only[]at hu
  obtain⟨zv,hz1,hz2⟩:=QG hT rfl
  cases hpl:places P T with
  |none=>simp only[hpl]at h;exact h.elim
  |some ps=>
   rcases hpg:ZX S parts.toList with ⟨c',l'⟩
   cases l' with
   |none=>simp only[hpl,hpg]at h;exact h.elim
   |some l=>
    simp only[hpl,hpg]at h⊢
    obtain⟨⟨hc,hall⟩,hf⟩:=h
    have hpa:(ZX S parts.toList).1:=by rw[hpg];exact hc
    have hpb:(ZX S parts.toList).2=some l:=by rw[hpg]
    obtain⟨h1,h2⟩:=yP hS hpa hpb
    have hz:RC g w (z.map .p) zv.cells.toList:=zr.Kj (zr.of_map hz2 hall)
    obtain⟨arr',e,hR⟩:=xB hf hz h1 h2
    refine⟨.agg arr',?_,by simp only[za];exact⟨_,rfl,hR.2,hR.1⟩⟩
    unfold places at hpl
    simp only[hT]at hpl
    have hm:=jq (w:=w) hpl
    have hm':(fs.mapM fun f=>do pure (f.offset,←sizeOf f.type):Sem (Array (Nat×Nat))).run P w=.ok ps.toArray w:=by
     rw[Array.mapM_eq_mapM_toList,Sem.run_map,hm];rfl
    unfold Instr.build
    simp only[Sem.run_bind,hz1,Result.andThen_ok,hu,hm',Array.toList_map]
    have e':Instr.fill (fun x:Nat=>ps.toArray[x]?) zv.cells (List.map (fun x=>(x.fst,a.eval x.snd)) parts.toList)=some arr':=by
     have:(fun x:Nat=>ps.toArray[x]?)=(fun x:Nat=>ps[x]?):=by funext x;simp
     rw[this];exact e
    rw[e']
    rfl
 ·exact h.elim
def zcY:AV→Option Int
 |.p (.str s)=>some s.length
 |.p (.sl _ es)=>some es.length
 |.os _ _ es=>some es.length
 |.la _ _ _ n=>some n
 |.p (.opq (.slice none 0 0))=>some 0
 |_=>none
def xL:TypeDesc→Bool
 |.string=>true
 |_=>false
def xH:TypeDesc→Bool
 |.slice _=>true
 |_=>false
def uL:AV→Bool
 |.p (.str _)=>true
 |_=>false
def zf1(P:Program)(T:TypeId)(x:AV):PR:=
 match ty P T,zcY x with
 |some D,some n=>if xL D.desc || xH D.desc then
   (xL D.desc=uL x,.p (.int .i64 n))else bad
 |_,_=>bad
theorem zbx {g:Gh} {w:World} {x:AV} {n:Int} {v:Value}(h:zcY x=some n)(r:za g w x v)(hs:uL x=false):
  ∃base len cap,v=.slice base len cap∧n=len:=by
 unfold zcY at h
 split at h<;>simp only[Option.some.injEq,reduceCtorEq]at h
 ·cases hs
 ·simp only[za]at r
  obtain⟨base,cap,e,_⟩:=jm r
  exact⟨base,_,cap,e,h.symm⟩
 ·simp only[za]at r
  obtain⟨base,cap,e,_⟩:=jm r.1
  exact⟨base,_,cap,e,h.symm⟩
 ·simp only[za]at r
  obtain⟨b,o',cap,_,e,_⟩:=r
  exact⟨_,_,cap,e,h.symm⟩
 ·simp only[za,zi]at r
  exact⟨none,0,0,r,h.symm⟩
theorem zaC {P:Program} {T tt:TypeId} {x:AV} {g:Gh} {w:World} {v:Value} {ts:Array TypeId} {args:Array Value}(h0:ts[0]?=some T)(ha:args[0]?=some v)(h:(zf1 P T x).1)(r:za g w x v):
  ∃u,(Builtin.len_ ts tt args).run P w=.ok u w∧za g w (zf1 P T x).2 u:=by
 unfold zf1 at h⊢
 cases hT:ty P T with
 |none=>simp only[hT]at h;exact h.elim
 |some D=>
  have hu:=zo w hT
  cases hl:zcY x with
  |none=>simp only[hT,hl]at h;exact h.elim
  |some n=>
   simp only[hT,hl]at h⊢
   split at h
   ·rename_i hd
    simp only[hd,if_true]
    refine⟨.int .i64 n,?_,by show za g w (.p (.int .i64 n)) _;simp only[za,zi]⟩
    by_cases hs:uL x=true
    ·have hx:∃s,x=.p (.str s):=by
      unfold uL at hs;split at hs
      ·exact⟨_,rfl⟩
      ·cases hs
     obtain⟨s,rfl⟩:=hx
     simp only[zcY,Option.some.injEq]at hl
     simp only[za,zi]at r
     subst r;subst hl
     rw[hs]at h
     have hD:D.desc=.string:=by cases hq:D.desc<;>simp[hq,xL]at h;rfl
     rw[hD]at hu
     unfold Builtin.len_
     simp only[h0,ha]
     have hsz:(⟨s.toArray⟩:ByteArray).size=s.length:=by simp[ByteArray.size]
     simp only[Sem.run_bind,hu,Result.andThen_ok,Sem.run_pure,goInt,hsz]
    ·have hs':uL x=false:=by simpa using hs
     obtain⟨base,len,cap,rfl,rfl⟩:=zbx hl r hs'
     rw[hs']at h
     have hD:∃e,D.desc=.slice e:=by
      cases hq:D.desc<;>simp[hq,xL,xH]at hd h
      exact⟨_,rfl⟩
     obtain⟨e,hD⟩:=hD
     rw[hD]at hu
     unfold Builtin.len_
     simp only[h0,ha]
     simp[hu,goInt]
   ·exact h.elim
def xZ(isMax:Bool)(x y:AV):PR:=
 match x,y with
 |.p (.int k a),.p (.int k' b)=>(k=k',.p (.int k (if isMax then max a b else min a b)))
 |_,_=>bad
theorem wz {P:Program} {isMax:Bool} {x y:AV} {g:Gh} {w:World} {u v:Value} {ts:Array TypeId} {tt:TypeId}(h:(xZ isMax x y).1)(hx:za g w x u)(hy:za g w y v):
  ∃r,(if isMax then Builtin.max_ ts tt #[u,v]else Builtin.min_ ts tt #[u,v]).run P w=.ok r w∧za g w (xZ isMax x y).2 r:=by
 unfold xZ at h⊢
 split at h
 ·rename_i k a k' b
  simp only[za,zi]at hx hy
  subst hx;subst hy
  simp only[]at h;subst h
  cases isMax
  ·refine⟨_,?_,by simp only[za,zi];rfl⟩
   simp[Builtin.min_,Builtin.min2]
   by_cases e:b<a
   ·rw[if_pos e];omega
   ·rw[if_neg e];omega
  ·refine⟨_,?_,by simp only[za,zi];rfl⟩
   simp[Builtin.max_,Builtin.max2]
   by_cases e:a<b
   ·rw[if_pos e];omega
   ·rw[if_neg e];omega
 ·exact h.elim
def XG(c x y:AV):PR:=
 match c with
 |.p (.bool b)=>
  match(unG x).2,(unG y).2 with
  |.p (.bool p),.p (.bool q)=>((b=true→(unG x).1)∧(b=false→(unG y).1),.p (.bool (cond b p q)))
  |.p (.bool p),_=>(b=true∧(unG x).1,.p (.bool p))
  |_,.p (.bool q)=>(b=false∧(unG y).1,.p (.bool q))
  |_,_=>bad
 |_=>bad
theorem zak {P:Program} {c x y:AV} {g:Gh} {w:World} {vc vx vy:Value}(h:(XG c x y).1)(hc:za g w c vc)(hx:za g w x vx)(hy:za g w y vy):
  ∃r,(do pure (Next.value (if←asBool vc then vx else vy)):Sem Next).run P w=.ok (.value r) w∧za g w (XG c x y).2 r:=by
 unfold XG at h⊢
 split at h
 ·rename_i b
  split at h
  ·rename_i p q h1 h2
   simp only[za,zi]at hc
   subst hc
   simp only[]at h
   cases b
   ·have:=zp (h.2 rfl) hy
    rw[h2]at this
    exact⟨vy,by simp[asBool],by simpa[za,zi]using this⟩
   ·have:=zp (h.1 rfl) hx
    rw[h1]at this
    exact⟨vx,by simp[asBool],by simpa[za,zi]using this⟩
  ·rename_i p h1 h2
   simp only[za,zi]at hc
   subst hc
   obtain⟨rfl,h⟩:=h
   have:=zp h hx
   rw[h1]at this
   exact⟨vx,by simp[asBool],by simpa[za,zi]using this⟩
  ·rename_i q h1 h2
   simp only[za,zi]at hc
   subst hc
   obtain⟨rfl,h⟩:=h
   have:=zp h hy
   rw[h1]at this
   exact⟨vy,by simp[asBool],by simpa[za,zi]using this⟩
  ·exact h.elim
 ·exact h.elim
def uO(x:AV):PR:=
 match x with
 |.lp t o=>(True,.lp t o)
 |.ip z e o=>(True,.ip z e o)
 |.p (.pt z e)=>(True,.ip z e 0)
 |.p (.opq (.func (.func f) a b))=>(True,.p (.opq (.func (.func f) a b)))
 |_=>bad
def unA(op:UnOp)(x:AV):PR:=
 match op,x with
 |.not,.p (.bool b)=>(True,.p (.bool (!b)))
 |.neg,.p (.int k n)=>(True,.p (.int k (k.wrap (0-n))))
 |.xor,.p (.int k n)=>(True,.p (xA .xor k (if k.signed then -1 else k.max) n).2)
 |_,_=>bad
theorem zde {P:Program} {op:UnOp} {x:AV} {g:Gh} {w:World} {v:Value}(h:(unA op x).1)(r:za g w x v):
  ∃u,(Op.unary op v).run P w=.ok u w∧za g w (unA op x).2 u:=by
 unfold unA at h⊢
 split at h
 ·simp only[za,zi]at r;subst r;exact⟨_,rfl,by simp only[za,zi]⟩
 ·simp only[za,zi]at r;subst r;exact⟨_,rfl,by simp only[za,zi]⟩
 ·rename_i k n
  simp only[za,zi]at r;subst r
  refine⟨_,rfl,?_⟩
  simp only[za,xA,zi]
 ·exact h.elim
def YE:TypeDesc→Option IntKind
 |.int k=>some k
 |_=>none
def Qm:List PV→Option (List UInt8)
 | []=>some []
 |.int .u8 n::l=>(Qm l).map (UInt8.ofNat n.toNat::·)
 |_=>none
def v7(P:Program)(S D:TypeDesc)(es:List PV):PR:=
 match S,Qm es with
 |.slice e,some t=>match ty P e with
  |some E=>(E.desc=.int .u8∧es≠ []∧D=.string,.p (.str t))
  |none=>bad
 |_,_=>bad
theorem uy {fr:Nat→Nat} {w:World} {b:Nat}:∀{es:List PV} {t:List UInt8} {o:Nat},Qm es=some t→qo fr w 1 b es o→
  ∃ns:List Int,ns.length=es.length∧(∀s:ByteArray,(ns.foldl (fun r n=>r.push (UInt8.ofNat n.toNat)) s).data.toList=s.data.toList++t)∧∀(j:Nat) (v:Value),(ns.map (Value.int .u8))[j]?=some v→w.cell? ⟨b,o+j,none⟩=some v
 | [],t,o,h,_=>by
  simp only[Qm,Option.some.injEq]at h;subst h
  exact⟨[],rfl,fun s=>by simp,fun j v hj=>by simp at hj⟩
 |e::es,t,o,h,r=>by
  cases e with
  |int k n=>
   cases k with
   |u8=>
    simp only[Qm,Option.map_eq_some_iff]at h
    obtain⟨t',h,rfl⟩:=h
    simp only[qo,zi]at r
    obtain⟨⟨v,rfl,_,h3⟩,h4⟩:=r
    obtain⟨ns,k1,k2,k3⟩:=uy h h4
    refine⟨n::ns,by simp[k1],fun s=>?_,fun j v hj=>?_⟩
    ·rw[List.foldl_cons,k2];simp
    ·cases j with
     |zero=>
      simp at hj;subst hj
      exact(h3 0 _ rfl).2
     |succ j=>
      have:=k3 j v (by simpa using hj)
      rwa[show o+1+j=o+(j+1)from by omega]at this
   |_=>simp[Qm]at h
  |_=>simp[Qm]at h
theorem Ve {P:Program} {s d:TypeId} {S D:Ty}(hS:ty P s=some S)(hD:ty P d=some D) {es:List PV} {g:Gh} {w:World} {v:Value}(h:(v7 P S.desc D.desc es).1)(r:zi g.fr w (.sl 1 es) v):
  ∃u,(convert s d v).run P w=.ok u w∧za g w (v7 P S.desc D.desc es).2 u:=by
 unfold v7 at h⊢
 split at h
 ·rename_i e t hs ht
  split at h
  ·rename_i E hE
   obtain⟨h1,h2,h3⟩:=h
   simp only[zi]at r
   rcases r with ⟨e0,_⟩|⟨b,o,cap,rfl,_,_,he⟩
   ·exact absurd e0 h2
   ·obtain⟨ns,k1,k2,k3⟩:=uy ht he
    have hs':P.underlying s=some S.desc:=(qK hS).choose_spec.2.1
    have hd':P.underlying d=some D.desc:=(qK hD).choose_spec.2.1
    have he':P.underlying e=some E.desc:=(qK hE).choose_spec.2.1
    rw[hs]at hs';rw[h3]at hd';rw[h1]at he'
    have hl:(loadCells ⟨b,o,none⟩ es.length).run P w=.ok (ns.map (Value.int .u8)).toArray w:=by
     have:=run_loadCells_list (P:=P) w ⟨b,o,none⟩ (ns.map (Value.int .u8)) (fun j v hj=>by rw[addr_add];exact k3 j v hj)
     simpa[k1]using this
    refine⟨_,(run_convert_bytes_string w s d e _ _ _ hs' he' hd').trans (run_bytesToString w _ _ _ ns hl),?_⟩
    simp only[za,zi]
    congr 1
    have:=k2 ByteArray.empty
    apply ByteArray.ext
    apply Array.toList_inj.1
    simpa using this
  ·exact h.elim
 ·exact h.elim
def YH(P:Program)(s d:TypeId)(x:AV):PR:=
 match ty P s,ty P d,x with
 |some _,some D,.p (.int _ n)=>match YE D.desc with
  |some k=>(True,.p (.int k (k.wrap n)))
  |none=>bad
 |some _,some D,.p (.str t)=>if xL D.desc then(True,.p (.str t))else bad
 |some S,some D,.p (.sl 1 es)=>v7 P S.desc D.desc es
 |some S,some D,.os _ 1 es=>v7 P S.desc D.desc es
 |_,_,_=>bad
theorem Y9 {P:Program} {s d:TypeId} {x:AV} {g:Gh} {w:World} {v:Value}(h:(YH P s d x).1)(r:za g w x v):
  ∃u,(convert s d v).run P w=.ok u w∧za g w (YH P s d x).2 u:=by
 unfold YH at h⊢
 split at h
 ·rename_i S D k0 n hS hD
  have hs:=zo w hS
  have hd:=zo w hD
  simp only[za,zi]at r;subst r
  cases hk:YE D.desc with
  |none=>simp only[hk]at h;exact h.elim
  |some k=>
   simp only
   have hq:D.desc=.int k:=by cases hq:D.desc<;>simp[hq,YE]at hk;rw[hk]
   rw[hq]at hd
   refine⟨.int k (k.wrap n),?_,by simp only[za,zi]⟩
   unfold convert
   rw[Sem.run_bind,hs,Result.andThen_ok,Sem.run_bind,hd,Result.andThen_ok]
   cases S.desc<;>rfl
 ·rename_i S D t hS hD
  have hs:=zo w hS
  have hd:=zo w hD
  simp only[za,zi]at r;subst r
  split at h
  ·rename_i hk
   simp only[hk,if_true]
   have hq:D.desc=.string:=by cases hq:D.desc<;>simp[hq,xL]at hk;rfl
   rw[hq]at hd
   refine⟨_,?_,by simp only[za,zi];rfl⟩
   unfold convert
   rw[Sem.run_bind,hs,Result.andThen_ok,Sem.run_bind,hd,Result.andThen_ok]
   cases S.desc<;>rfl
  ·exact h.elim
 ·rename_i S D es hS hD
  simp only[za]at r
  exact Ve hS hD h r
 ·rename_i S D t es hS hD
  simp only[za]at r
  exact Ve hS hD h r.1
 ·exact h.elim
end
end Go.AM
