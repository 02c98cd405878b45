/- A part of this seat's proofs, by an abstract machine. Conditions: each law's. -/
import Derived.Test.YtfjdbbpimklecaaGreatDoorV02
import Derived.ChangeKeysEq
namespace Go.AM
section
inductive Kc where
 |b
 |i (k:IntKind)
 |s
def okC:List Kc→List PV→Bool
 | [],[]=>true
 |.b::ks,.bool _::xs=>okC ks xs
 |.i k::ks,.int k' _::xs=>decide (k'=k)&&okC ks xs
 |.s::ks,.str _::xs=>okC ks xs
 |_,_=>false
def eqC:List PV→List PV→Bool
 |.bool a::xs,.bool b::ys=>(a==b)&&eqC xs ys
 |.int _ a::xs,.int _ b::ys=>decide (a=b)&&eqC xs ys
 |.str a::xs,.str b::ys=>decide (a=b)&&eqC xs ys
 |_,_=>true
theorem qY:∀{ks:List Kc} {xs:List PV},okC ks xs=true→xs.length=ks.length
 | [],[],_=>rfl
 | [],_::_,h=>by simp[okC]at h
 |.b::ks,[],h=>by simp[okC]at h
 |.i _::ks,[],h=>by simp[okC]at h
 |.s::ks,[],h=>by simp[okC]at h
 |.b::ks,x::xs,h=>by
  cases x<;>simp[okC]at h
  simp[qY h]
 |.i k::ks,x::xs,h=>by
  cases x<;>simp[okC]at h
  simp[qY h.2]
 |.s::ks,x::xs,h=>by
  cases x<;>simp[okC]at h
  simp[qY h]
theorem jG:∀{k1 k2:List Kc} {xs:List PV},okC (k1++k2) xs=true→okC k1 (xs.take k1.length)=true∧okC k2 (xs.drop k1.length)=true
 | [],k2,xs,h=>by simpa[okC]using h
 |k::k1,k2,[],h=>by cases k<;>simp[okC]at h
 |.b::k1,k2,x::xs,h=>by
  cases x<;>simp[okC]at h
  simpa[okC]using jG h
 |.i _::k1,k2,x::xs,h=>by
  cases x<;>simp[okC]at h
  have:=jG h.2
  simpa[okC,h.1]using this
 |.s::k1,k2,x::xs,h=>by
  cases x<;>simp[okC]at h
  simpa[okC]using jG h
theorem vO:∀{ks:List Kc} {x1 y1 x2 y2:List PV},okC ks x1=true→okC ks y1=true→eqC (x1++x2) (y1++y2)=(eqC x1 y1&&eqC x2 y2)
 | [],[],[],x2,y2,_,_=>by simp[eqC]
 | [],_::_,_,_,_,h,_=>by simp[okC]at h
 | [],[],_::_,_,_,_,h=>by simp[okC]at h
 |.b::ks,[],_,_,_,h,_=>by simp[okC]at h
 |.i _::ks,[],_,_,_,h,_=>by simp[okC]at h
 |.s::ks,[],_,_,_,h,_=>by simp[okC]at h
 |.b::ks,_::_,[],_,_,_,h=>by simp[okC]at h
 |.i _::ks,_::_,[],_,_,_,h=>by simp[okC]at h
 |.s::ks,_::_,[],_,_,_,h=>by simp[okC]at h
 |.b::ks,x::xs,y::ys,x2,y2,h,k=>by
  cases x<;>simp[okC]at h
  cases y<;>simp[okC]at k
  simp only[List.cons_append,eqC,vO h k,Bool.and_assoc]
 |.i _::ks,x::xs,y::ys,x2,y2,h,k=>by
  cases x<;>simp[okC]at h
  cases y<;>simp[okC]at k
  simp only[List.cons_append,eqC,vO h.2 k.2,Bool.and_assoc]
 |.s::ks,x::xs,y::ys,x2,y2,h,k=>by
  cases x<;>simp[okC]at h
  cases y<;>simp[okC]at k
  simp only[List.cons_append,eqC,vO h k,Bool.and_assoc]
def uW(P:Program)(rec:TypeId→Option (List Kc)):List Field→Nat→Option (List Kc)
 | [],_=>some []
 |f::fs,o=>
  match rec f.type,ty P f.type with
  |some a,some T=>
   if f.name≠ "_" ∧f.offset=o∧T.size=a.length∧(zW T.desc || a.length==1)=true then(uW P rec fs (o+a.length)).map (a++·)else none
  |_,_=>none
def Zi(P:Program):Nat→TypeId→Option (List Kc)
 |0,_=>none
 |d+1,t=>
  match P.underlying t with
  |some .bool=>some [.b]
  |some (.int k)=>some [.i k]
  |some .string=>some [.s]
  |some (.struct fs)=>if P.stoodInHeld t then none else uW P (Zi P d) fs.toList 0
  |some (.array n e)=>
   match Zi P d e,ty P e with
   |some a,some T=>if T.size=a.length∧(zW T.desc || a.length==1)=true then some (List.replicate n a).flatten else none
   |_,_=>none
  |_=>none
def Qk(P:Program)(t:TypeId):Option (List Kc):=if P.eqGuardType P.depth t then none else match P.underlying t with
 |some (.struct _)=>Zi P 8 t
 |some (.array _ _)=>Zi P 8 t
 |_=>none
def QY(P:Program)(t:TypeId)(v:Value)(cs:List Value):Prop:=∀T,ty P t=some T→if zW T.desc then v=.agg cs.toArray else cs=[v]
section
variable {P:Program} {fr:Nat→Nat} {w:World}
theorem yS {t:TypeId} {T:Ty}(hT:ty P t=some T) {a:List Kc}(hs:T.size=a.length)(h1':(zW T.desc || a.length==1)=true) {z:Array Value} {zs:List PV} {o:Nat}(hz:okC a (zs.take a.length)=true)(rz:zr fr w zs (z.toList.drop o)):
  ∃p,(part t z o).run P w=.ok p w∧QY P t p ((z.toList.drop o).take a.length):=by
 have hlz:=qY hz
 unfold part
 rw[Sem.run_bind,yB w hT]
 cases hA:zW T.desc with
 |true=>
  refine⟨.agg (z.extract o (o+T.size)),by simp[qc w hT],?_⟩
  intro T' hT'
  rw[hT]at hT';injection hT' with hT';subst hT'
  rw[if_pos hA,hs]
  congr 1
  apply Array.ext'
  simp
 |false=>
  have h1:a.length=1:=by simpa[hA]using h1'
  rw[h1]at hlz⊢
  have hl1:0<zs.length:=by
   rw[List.length_take]at hlz
   omega
  obtain⟨c,hc,_⟩:=rz.get (i:=0) (x:=zs[0]) (List.getElem?_eq_getElem hl1)
  have hc':z[o]?=some c:=by simpa using hc
  refine⟨c,by simp[hc'],?_⟩
  intro T' hT'
  rw[hT]at hT';injection hT' with hT';subst hT'
  rw[if_neg (by simp[hA])]
  cases hd:z.toList.drop o with
  |nil=>rw[hd]at hc;simp at hc
  |cons e es=>
   rw[hd]at hc
   simp at hc
   subst hc
   simp
theorem WM {d:Nat} {e:TypeId} {a:List Kc} {T:Ty}(hT:ty P e=some T)(hs:T.size=a.length)(h1':(zW T.desc || a.length==1)=true) {u v:Array Value}
  (hrec:∀(xs ys:List PV) (p q:Value) (cs ds:List Value),okC a xs=true→okC a ys=true→zr fr w xs cs→zr fr w ys ds→QY P e p cs→QY P e q ds→(Op.equalIn d e p q).run P w=.ok (eqC xs ys) w):
  ∀(m k:Nat) (xs ys:List PV),okC (List.replicate m a).flatten xs=true→okC (List.replicate m a).flatten ys=true→zr fr w xs (u.toList.drop (k*a.length))→zr fr w ys (v.toList.drop (k*a.length))→
   (Op.eqItems d e a.length u v (List.range' k m)).run P w=.ok (eqC xs ys) w
 |0,k,xs,ys,hx,hy,_,_=>by
  have h1:=qY hx
  have hx0:xs=[]:=List.eq_nil_of_length_eq_zero (by simpa using h1)
  subst hx0
  simp[Op.eqItems,eqC]
 |m+1,k,xs,ys,hx,hy,rx,ry=>by
  rw[List.replicate_succ,List.flatten_cons]at hx hy
  obtain⟨x1,x2⟩:=jG hx
  obtain⟨y1,y2⟩:=jG hy
  obtain⟨p,hp,sp⟩:=yS hT hs h1' x1 rx
  obtain⟨q,hq,sq⟩:=yS hT hs h1' y1 ry
  have e1:=hrec _ _ p q _ _ x1 y1 (rx.take _) (ry.take _) sp sq
  have hk:(k+1)*a.length=k*a.length+a.length:=by rw[Nat.add_mul];omega
  have e2:=WM hT hs h1' hrec m (k+1) (xs.drop a.length) (ys.drop a.length) x2 y2 (by rw[hk];simpa[List.drop_drop]using rx.drop a.length) (by rw[hk];simpa[List.drop_drop]using ry.drop a.length)
  have e3:eqC xs ys=(eqC (xs.take a.length) (ys.take a.length)&&eqC (xs.drop a.length) (ys.drop a.length)):=by
   rw[←vO x1 y1,List.take_append_drop,List.take_append_drop]
  rw[List.range'_succ,e3]
  simp only[Op.eqItems,Sem.run_bind,hp,hq,e1,Result.andThen_ok]
  cases eqC (xs.take a.length) (ys.take a.length)
  ·simp
  ·simpa using e2
theorem vS {d:Nat} {rec:TypeId→Option (List Kc)} {u v:Array Value}
  (hrec:∀(t:TypeId) (ks:List Kc) (xs ys:List PV) (a b:Value) (cs ds:List Value),rec t=some ks→okC ks xs=true→okC ks ys=true→zr fr w xs cs→zr fr w ys ds→QY P t a cs→QY P t b ds→
   (Op.equalIn d t a b).run P w=.ok (eqC xs ys) w):
  ∀{fs:List Field} {o:Nat} {ks:List Kc} {xs ys:List PV},uW P rec fs o=some ks→okC ks xs=true→okC ks ys=true→zr fr w xs (u.toList.drop o)→zr fr w ys (v.toList.drop o)→
   (Op.eqFields d u v fs).run P w=.ok (eqC xs ys) w
 | [],o,ks,xs,ys,hk,hx,hy,_,_=>by
  simp only[uW,Option.some.injEq]at hk
  subst hk
  have:=qY hx
  have h2:=qY hy
  have hx0:xs=[]:=List.eq_nil_of_length_eq_zero (by simpa using this)
  subst hx0
  simp[Op.eqFields,eqC]
 |f::fs,o,ks,xs,ys,hk,hx,hy,rx,ry=>by
  unfold uW at hk
  split at hk
  ·rename_i a T ha hT
   split at hk
   ·rename_i hc
    obtain⟨hn,ho,hs,h1'⟩:=hc
    simp only[Option.map_eq_some_iff]at hk
    obtain⟨b,hb,rfl⟩:=hk
    obtain⟨x1,x2⟩:=jG hx
    obtain⟨y1,y2⟩:=jG hy
    have part1:∀(z:Array Value) (zs:List PV),okC a (zs.take a.length)=true→zr fr w zs (z.toList.drop o)→∃p,(part f.type z f.offset).run P w=.ok p w∧QY P f.type p ((z.toList.drop o).take a.length):=by
     intro z zs hz rz
     rw[ho]
     have hlz:=qY hz
     have hlen:=zr.length rz
     unfold part
     rw[Sem.run_bind,yB w hT]
     cases hA:zW T.desc with
     |true=>
      refine⟨.agg (z.extract o (o+T.size)),by simp[qc w hT],?_⟩
      intro T' hT'
      rw[hT]at hT';injection hT' with hT';subst hT'
      rw[if_pos hA,hs]
      congr 1
      apply Array.ext'
      simp
     |false=>
      have h1:a.length=1:=by simpa[hA]using h1'
      rw[h1]at hlz⊢
      have hl1:0<zs.length:=by
       rw[List.length_take]at hlz
       have:[].length=0:=(rfl:([]:List Nat).length=0)
       omega
      obtain⟨c,hc,_⟩:=rz.get (i:=0) (x:=zs[0]) (List.getElem?_eq_getElem hl1)
      have hc':z[o]?=some c:=by simpa using hc
      refine⟨c,by simp[hc'],?_⟩
      intro T' hT'
      rw[hT]at hT';injection hT' with hT';subst hT'
      rw[if_neg (by simp[hA])]
      cases hd:z.toList.drop o with
      |nil=>rw[hd]at hc;simp at hc
      |cons e es=>
       rw[hd]at hc
       simp at hc
       subst hc
       simp
    obtain⟨p,hp,sp⟩:=part1 u xs x1 rx
    obtain⟨q,hq,sq⟩:=part1 v ys y1 ry
    have e1:=hrec f.type a _ _ p q _ _ ha x1 y1 (rx.take _) (ry.take _) sp sq
    have hxs:xs=xs.take a.length++xs.drop a.length:=(List.take_append_drop _ _).symm
    have hys:ys=ys.take a.length++ys.drop a.length:=(List.take_append_drop _ _).symm
    have e2:=vS hrec (u:=u) (v:=v) hb x2 y2 (by simpa[List.drop_drop]using rx.drop a.length) (by simpa[List.drop_drop]using ry.drop a.length)
    unfold Op.eqFields
    rw[if_pos hn]
    simp only[Sem.run_bind,hp,hq,e1,Result.andThen_ok]
    have e3:eqC xs ys=(eqC (xs.take a.length) (ys.take a.length)&&eqC (xs.drop a.length) (ys.drop a.length)):=by
     rw[←vO x1 y1,←hxs,←hys]
    rw[e3]
    cases eqC (xs.take a.length) (ys.take a.length)
    ·simp
    ·simpa using e2
   ·cases hk
  ·cases hk
theorem Vz {α:Type}[BEq α][LawfulBEq α][DecidableEq α](p q:α):(p==q)=decide (p=q):=by by_cases e:p=q<;>simp[e]
theorem vP : ∀ (d m : Nat) (t : TypeId) (ks : List Kc) (xs ys : List PV) (a b : Value) (cs ds : List Value), Zi P m t = some ks → okC ks xs = true → okC ks ys = true → zr fr w xs cs → zr fr w ys ds → QY P t a cs → QY P t b ds →
      (Op.equalIn (d + m) t a b).run P w = .ok (eqC xs ys) w
  | d, 0, t, ks, xs, ys, a, b, cs, ds, hk, _, _, _, _, _, _ => by simp [Zi] at hk
  | d, m + 1, t, ks, xs, ys, a, b, cs, ds, hk, hx, hy, rx, ry, sa, sb => by
    unfold Zi at hk
    have one : ∀ {T : TypeDesc} {v : Value} {zs : List Value}, P.underlying t = some T → zW T = false → QY P t v zs → zs = [v] ∨ P.info? t = none := by
      intro T v zs hu hA sv
      cases hi : P.info? t with
      | none => exact .inr rfl
      | some i =>
        left
        have := sv ⟨T, i.size, i.bytes, i.zero.map fun v => v.cells.toList.map jF⟩ (by simp [ty, hi, hu])
        simpa [hA] using this
    have noinfo : ∀ {T : TypeDesc}, P.underlying t = some T → P.info? t ≠ none := fun hu hi => by
      obtain ⟨i, hi'⟩ := info_of_underlying hu
      rw [hi] at hi'; cases hi'
    split at hk
    · rename_i hu
      injection hk with hk; subst hk
      have ea := (one hu rfl sa).resolve_right (noinfo hu)
      have eb := (one hu rfl sb).resolve_right (noinfo hu)
      subst ea; subst eb
      match xs, ys, hx, hy with
      | [x], [y], hx, hy =>
        cases x <;> simp [okC] at hx
        cases y <;> simp [okC] at hy
        simp only [zr, zi] at rx ry
        obtain ⟨_, _, e, _, rfl, _⟩ := rx
        injection e with e _; subst e
        obtain ⟨_, _, e, _, rfl, _⟩ := ry
        injection e with e _; subst e
        rw [show d + (m + 1) = (d + m) + 1 from rfl, run_equalIn_bool' w (d + m) t _ _ hu]
        simp [eqC]
      | [], _, hx, _ => simp [okC] at hx
      | _, [], _, hy => simp [okC] at hy
      | x :: _ :: _, _, hx, _ => cases x <;> simp [okC] at hx
      | _, y :: _ :: _, _, hy => cases y <;> simp [okC] at hy
    · rename_i k hu
      injection hk with hk; subst hk
      have ea := (one hu rfl sa).resolve_right (noinfo hu)
      have eb := (one hu rfl sb).resolve_right (noinfo hu)
      subst ea; subst eb
      match xs, ys, hx, hy with
      | [x], [y], hx, hy =>
        cases x <;> simp [okC] at hx
        cases y <;> simp [okC] at hy
        subst hx; subst hy
        simp only [zr, zi] at rx ry
        obtain ⟨_, _, e, _, rfl, _⟩ := rx
        injection e with e _; subst e
        obtain ⟨_, _, e, _, rfl, _⟩ := ry
        injection e with e _; subst e
        rw [show d + (m + 1) = (d + m) + 1 from rfl, run_equalIn_int w (d + m) t _ _ _ _ hu]
        rw [Vz]
        simp [eqC]
      | [], _, hx, _ => simp [okC] at hx
      | _, [], _, hy => simp [okC] at hy
      | x :: _ :: _, _, hx, _ => cases x <;> simp [okC] at hx
      | _, y :: _ :: _, _, hy => cases y <;> simp [okC] at hy
    · rename_i hu
      injection hk with hk; subst hk
      have ea := (one hu rfl sa).resolve_right (noinfo hu)
      have eb := (one hu rfl sb).resolve_right (noinfo hu)
      subst ea; subst eb
      match xs, ys, hx, hy with
      | [x], [y], hx, hy =>
        cases x <;> simp [okC] at hx
        cases y <;> simp [okC] at hy
        simp only [zr, zi] at rx ry
        obtain ⟨_, _, e, _, rfl, _⟩ := rx
        injection e with e _; subst e
        obtain ⟨_, _, e, _, rfl, _⟩ := ry
        injection e with e _; subst e
        rw [show d + (m + 1) = (d + m) + 1 from rfl, run_equalIn_string w (d + m) t _ _ hu]
        rw [Vz]
        simp [eqC, ByteArray.toList_eq]
      | [], _, hx, _ => simp [okC] at hx
      | _, [], _, hy => simp [okC] at hy
      | x :: _ :: _, _, hx, _ => cases x <;> simp [okC] at hx
      | _, y :: _ :: _, _, hy => cases y <;> simp [okC] at hy
    · rename_i fs hu
      split at hk
      · cases hk
      · rename_i hs
        obtain ⟨i, hi⟩ := info_of_underlying hu
        have ea := sa ⟨.struct fs, i.size, i.bytes, i.zero.map fun v => v.cells.toList.map jF⟩ (by simp [ty, hi, hu])
        have eb := sb ⟨.struct fs, i.size, i.bytes, i.zero.map fun v => v.cells.toList.map jF⟩ (by simp [ty, hi, hu])
        simp only [zW, if_true] at ea eb
        subst ea; subst eb
        have hfs : P.fieldsOf t = fs := by simp [Program.fieldsOf, hu]
        rw [show d + (m + 1) = (d + m) + 1 from rfl, run_equalIn_struct w (d + m) t _ _ (by rw [hfs]; exact hu) (by simpa using hs), hfs]
        exact vS (fun t ks xs ys a b cs ds h1 h2 h3 h4 h5 h6 h7 => vP d m t ks xs ys a b cs ds h1 h2 h3 h4 h5 h6 h7) hk hx hy (by simpa using rx) (by simpa using ry)
    · rename_i n e hu
      split at hk
      · rename_i al T hal hT
        split at hk
        · rename_i hc
          injection hk with hk; subst hk
          obtain ⟨i, hi⟩ := info_of_underlying hu
          have ea := sa ⟨.array n e, i.size, i.bytes, i.zero.map fun v => v.cells.toList.map jF⟩ (by simp [ty, hi, hu])
          have eb := sb ⟨.array n e, i.size, i.bytes, i.zero.map fun v => v.cells.toList.map jF⟩ (by simp [ty, hi, hu])
          simp only [zW, if_true] at ea eb
          subst ea; subst eb
          obtain ⟨ie, he1, _, he3, _⟩ := qK hT
          have hce : P.cellsOf e = al.length := by rw [← hc.1, ← he3]; simp [Program.cellsOf, he1]
          rw [show d + (m + 1) = (d + m) + 1 from rfl, run_equalIn_array w (d + m) _ _ hu he1, hce, List.range_eq_range']
          exact WM hT hc.1 hc.2 (fun xs ys p q cs ds h2 h3 h4 h5 h6 h7 => vP d m e al xs ys p q cs ds hal h2 h3 h4 h5 h6 h7) n 0 xs ys hx hy (by simpa using rx) (by simpa using ry)
        · cases hk
      · cases hk
    · cases hk
end
def ze3(P:Program)(op:BinOp)(t:TypeId)(xs ys:List PV):PR:=
 match Qk P t with
 |some ks=>
  match op with
  |.eql=>((okC ks xs=true∧okC ks ys=true),.p (.bool (eqC xs ys)))
  |.neq=>((okC ks xs=true∧okC ks ys=true),.p (.bool (!eqC xs ys)))
  |_=>bad
 |none=>bad
def zfb(P:Program)(op:BinOp)(t:TypeId)(x y:AV):PR:=
 match x,y with
 |.p (.agg xs),.p (.agg ys)=>ze3 P op t xs ys
 |x,y=>zdF P op t x y
theorem za4 {P : Program} {op : BinOp} {t : TypeId} {x y : AV} {g : Gh} {w : World} {u v : Value} (xo yo : Operand) (h : (zfb P op t x y).1)
    (hx : za g w x u) (hy : za g w y v) :
    ∃ r, (do eqGuard op t xo yo u v; binOp op t u v : Sem Value).run P w = .ok r w ∧ za g w (zfb P op t x y).2 r := by
  unfold zfb at h ⊢
  split at h
  · rename_i xs ys
    simp only [za, zi] at hx hy
    obtain ⟨p, rfl, rx⟩ := hx
    obtain ⟨q, rfl, ry⟩ := hy
    unfold ze3 at h ⊢
    cases hk : Qk P t with
    | none => rw [hk] at h; exact h.elim
    | some ks =>
      rw [hk] at h
      simp only [] at h ⊢
      unfold Qk at hk
      split at hk
      · cases hk
      · rename_i hg
        cases hu : P.underlying t with
        | none => rw [hu] at hk; cases hk
        | some T =>
        rw [hu] at hk
        have hagg : zW T = true := by cases T <;> first | rfl | (simp only [reduceCtorEq] at hk)
        have hk : Zi P 8 t = some ks := by cases T <;> first | exact hk | (simp only [reduceCtorEq] at hk)
        have st : ∀ (z : Array Value), QY P t (.agg z) z.toList := by
          intro z T' hT
          obtain ⟨i, _, h2, _⟩ := qK hT
          rw [h2] at hu
          injection hu with hu
          rw [hu, if_pos hagg]
        have eqn : (eqGuard op t xo yo (.agg p) (.agg q)).run P w = .ok () w := run_eqGuard_agg w op t xo yo p q (by simpa using hg)
        have run : okC ks xs = true → okC ks ys = true → (Op.equalIn 10000 t (.agg p) (.agg q)).run P w = .ok (eqC xs ys) w := fun h1 h2 =>
          vP 9992 8 t ks xs ys (.agg p) (.agg q) p.toList q.toList hk h1 h2 rx ry (st p) (st q)
        cases op <;> simp only [] at h ⊢ <;> first
          | exact h.elim
          | (refine ⟨_, ?_, by simp only [za, zi]; rfl⟩
             rw [Sem.run_bind, eqn]
             simp only [Result.andThen_ok]
             rw [run_eql_struct, run h.1 h.2]
             rfl)
          | (refine ⟨_, ?_, by simp only [za, zi]; rfl⟩
             rw [Sem.run_bind, eqn]
             simp only [Result.andThen_ok]
             rw [run_neq_struct, run h.1 h.2]
             rfl)
  · exact zbe xo yo h hx hy
section
variable {P:Program} {fr:Nat→Nat} {w:World}
theorem kQ(em:Bool):∀(d m:Nat) (t:TypeId) (ks:List Kc) (xs:List PV) (a:Value) (cs:List Value),Zi P m t=some ks→okC ks xs=true→zr fr w xs cs→QY P t a cs→(Instr.checkKey em (d+m) t a).run P w=.ok () w
 |d,0,t,ks,xs,a,cs,hk,_,_,_=>by simp[Zi]at hk
 |d,m+1,t,ks,xs,a,cs,hk,hx,rx,sa=>by
  unfold Zi at hk
  have plain:∀{T:TypeDesc},P.underlying t=some T→(T=.bool∨(∃k,T=.int k)∨T=.string)→(Instr.checkKey em (d+(m+1)) t a).run P w=.ok () w:=by
   intro T hu hT
   rw[show d+(m+1)=(d+m)+1 from rfl,Instr.checkKey]
   simp only[Sem.run_bind,run_underlying hu,Result.andThen_ok]
   rcases hT with rfl|⟨k,rfl⟩|rfl<;>rfl
  split at hk
  ·rename_i hu;exact plain hu (.inl rfl)
  ·rename_i k hu;exact plain hu (.inr (.inl ⟨k,rfl⟩))
  ·rename_i hu;exact plain hu (.inr (.inr rfl))
  ·rename_i fs hu
   split at hk
   ·cases hk
   ·obtain⟨i,hi⟩:=info_of_underlying hu
    have ea:=sa ⟨.struct fs,i.size,i.bytes,i.zero.map fun v=>v.cells.toList.map jF⟩ (by simp[ty,hi,hu])
    simp only[zW,if_true]at ea
    subst ea
    rw[show d+(m+1)=(d+m)+1 from rfl,Instr.checkKey]
    simp only[Sem.run_bind,run_underlying hu,Result.andThen_ok]
    rw[←Array.forIn_toList]
    have rx':zr fr w xs (cs.toArray.toList.drop 0):=by simpa using rx
    clear rx sa
    generalize (0:Nat)=o at hk rx'
    generalize fs.toList=l at hk
    clear hu
    induction l generalizing o ks xs with
    |nil=>simp
    |cons f l ih=>
     unfold uW at hk
     split at hk
     ·rename_i b T ha hT
      split at hk
      ·rename_i hc
       obtain⟨hn,ho,hs,h1'⟩:=hc
       simp only[Option.map_eq_some_iff]at hk
       obtain⟨b2,hb,rfl⟩:=hk
       obtain⟨x1,x2⟩:=jG hx
       obtain⟨p,hp,sp⟩:=yS hT hs h1' x1 rx'
       have e1:=kQ em d m f.type b (xs.take b.length) p _ ha x1 (rx'.take _) sp
       simp only[List.forIn_cons,Sem.run_bind]
       rw[if_pos hn]
       rw[←ho]at hp
       simp only[Sem.run_bind,hp,Result.andThen_ok,e1,Sem.run_pure]
       exact ih b2 (xs.drop b.length) x2 (o+b.length) (by simpa[List.drop_drop]using rx'.drop b.length) hb
      ·cases hk
     ·cases hk
  ·rename_i n e hu
   split at hk
   ·rename_i al T hal hT
    split at hk
    ·rename_i hc
     injection hk with hk;subst hk
     obtain⟨i,hi⟩:=info_of_underlying hu
     have ea:=sa ⟨.array n e,i.size,i.bytes,i.zero.map fun v=>v.cells.toList.map jF⟩ (by simp[ty,hi,hu])
     simp only[zW,if_true]at ea
     subst ea
     rw[show d+(m+1)=(d+m)+1 from rfl,Instr.checkKey]
     simp only[Sem.run_bind,run_underlying hu,Result.andThen_ok]
     simp only[Std.Legacy.Range.forIn_eq_forIn_range',Std.Legacy.Range.size,Nat.sub_zero,Nat.add_one_sub_one,Nat.div_one]
     have rx':zr fr w xs (cs.toArray.toList.drop (0*al.length)):=by simpa using rx
     clear rx sa hu hi
     generalize (0:Nat)=k at rx'
     induction n generalizing k xs with
     |zero=>simp
     |succ n ih=>
      rw[List.replicate_succ,List.flatten_cons]at hx
      obtain⟨x1,x2⟩:=jG hx
      obtain⟨p,hp,sp⟩:=yS hT hc.1 hc.2 x1 rx'
      have e1:=kQ em d m e al (xs.take al.length) p _ hal x1 (rx'.take _) sp
      have hk:(k+1)*al.length=k*al.length+al.length:=by rw[Nat.add_mul];omega
      rw[List.range'_succ]
      simp only[List.forIn_cons,Sem.run_bind,qc w hT,Result.andThen_ok,hc.1,hp,e1,Sem.run_pure]
      exact ih (xs.drop al.length) x2 (k+1) (by rw[hk];simpa[List.drop_drop]using rx'.drop al.length)
    ·cases hk
   ·cases hk
  ·cases hk
end
def UR(P:Program)(t:TypeId):Option PV:=(P.info? t).bind fun i=>i.zero.bind fun v=>if v.oneCell' then some (jF v)else none
theorem KC {P:Program} {t:TypeId} {z:PV}(h:UR P t=some z)(fr:Nat→Nat)(w:World):∃v,(zeroValue t).run P w=.ok v w∧zi fr w z v:=by
 unfold UR at h
 simp only[Option.bind_eq_some_iff]at h
 obtain⟨i,hi,v,hv,h⟩:=h
 split at h
 ·injection h with h;subst h
  exact⟨v,by simp[zeroValue,typeInfo,hi,hv],zi.jF v⟩
 ·cases h
theorem J8 {P:Program} {t:TypeId} {ks:List Kc}(h:Qk P t=some ks):Zi P 8 t=some ks∧∃T,P.underlying t=some T∧zW T=true:=by
 unfold Qk at h
 split at h
 ·cases h
 ·cases hu:P.underlying t with
  |none=>rw[hu]at h;cases h
  |some T=>rw[hu]at h;cases T<;>simp only[reduceCtorEq]at h<;>exact⟨h,_,rfl,rfl⟩
theorem zbC {P:Program} {t:TypeId} {D:TypeDesc}(hu:P.underlying t=some D)(hD:zW D=true)(z:Array Value):QY P t (.agg z) z.toList:=by
 intro T hT
 obtain⟨i,_,h2,_⟩:=qK hT
 rw[h2]at hu
 injection hu with hu
 rw[hu,if_pos hD]
def vi:PV→Bool
 |.agg _=>true
 |_=>false
def Ze(P:Program)(t:TypeId):Option (Bool×List Kc):=
 match P.underlying t with
 |some .bool=>some (false,[.b])
 |some (.int k)=>some (false,[.i k])
 |some .string=>some (false,[.s])
 |_=>(Qk P t).map fun k=>(true,k)
theorem Qy {P:Program} {t:TypeId} {ag:Bool} {ks:List Kc}(h:Ze P t=some (ag,ks)):Zi P 8 t=some ks∧∃T,P.underlying t=some T∧zW T=ag∧(ag=false→T=.bool∨(∃k,T=.int k)∨T=.string):=by
 unfold Ze at h
 split at h
 ·rename_i hu
  injection h with h;injection h with h1 h2;subst h1;subst h2
  exact⟨by simp[Zi,hu],_,hu,rfl,fun _=>.inl rfl⟩
 ·rename_i k hu
  injection h with h;injection h with h1 h2;subst h1;subst h2
  exact⟨by simp[Zi,hu],_,hu,rfl,fun _=>.inr (.inl ⟨k,rfl⟩)⟩
 ·rename_i hu
  injection h with h;injection h with h1 h2;subst h1;subst h2
  exact⟨by simp[Zi,hu],_,hu,rfl,fun _=>.inr (.inr rfl)⟩
 ·rw[Option.map_eq_some_iff]at h
  obtain⟨k,hk,e⟩:=h
  injection e with h1 h2;subst h1;subst h2
  obtain⟨h3,T,h4,h5⟩:=J8 hk
  exact⟨h3,T,h4,h5,fun e=>by cases e⟩
theorem wU {P:Program} {t e:TypeId} {n sz by_:Nat} {z:Option (List PV)} {T:Ty} {a:List Kc}(hT:ty P t=some ⟨.array n e,sz,by_,z⟩)(hg:P.eqGuardType P.depth t=false)(ha:Zi P 7 e=some a)(he:ty P e=some T)(hl:T.size=a.length∧(zW T.desc || a.length==1)=true):
  Ze P t=some (true,(List.replicate n a).flatten):=by
 have hu:P.underlying t=some (.array n e):=(qK hT).elim fun _ h=>h.2.1
 have h8:Zi P 8 t=some (List.replicate n a).flatten:=by
  show(match P.underlying t with|some .bool=>_|some (.int k)=>_|some .string=>_|some (.struct fs)=>_|some (.array n e)=>_|_=>_)=_
  rw[hu]
  simp only[ha,he,hl,and_self,if_true]
 have h9:Qk P t=some (List.replicate n a).flatten:=by
  unfold Qk
  rw[hg,hu]
  simpa using h8
 unfold Ze
 rw[hu]
 simp only[h9,Option.map_some]
def ZB(ag:Bool)(kc:List Kc)(k:PV):Bool:=(vi k==ag)&&okC kc k.cells
theorem zJ {ag:Bool} {kc:List Kc} {k:PV}(h:ZB ag kc k=true):vi k=ag∧okC kc k.cells=true:=by
 unfold ZB at h
 simp only[Bool.and_eq_true,beq_iff_eq]at h
 exact h
theorem Qv {P:Program} {fr:Nat→Nat} {w:World} {t:TypeId} {ag:Bool} {kc:List Kc}(hk:Ze P t=some (ag,kc)) {k:PV}(ho:ZB ag kc k=true) {v:Value}(r:zi fr w k v):∃cs,zr fr w k.cells cs∧QY P t v cs∧(ag=true→v=.agg cs.toArray)∧(ag=false→cs=[v]):=by
 obtain⟨h8,T,hT,hA,_⟩:=Qy hk
 obtain⟨h1,h2⟩:=zJ ho
 cases ag with
 |true=>
  cases k<;>simp[vi]at h1
  rename_i xs
  simp only[zi]at r
  obtain⟨vs,rfl,r⟩:=r
  exact⟨vs.toList,r,zbC hT hA vs,fun _=>rfl,fun e=>by cases e⟩
 |false=>
  have one:∀x:PV,x.cells=[x]→okC kc [x]=true→zi fr w x v→zr fr w [x] [v]:=fun x _ hx rx=>by
   simp only[zr]
   refine⟨v,[],rfl,?_,rx,rfl⟩
   refine zi.one (x:=x) ?_ rx
   cases x<;>first|rfl|(exfalso;cases kc with
    |nil=>simp[okC]at hx
    |cons q kc=>cases q<;>simp[okC]at hx)
  refine⟨[v],?_,?_,fun e=>(by cases e),fun _=>rfl⟩
  ·cases k<;>simp[vi]at h1<;>exact one _ rfl h2 r
  ·intro T' hT'
   obtain⟨i,_,h3,_⟩:=qK hT'
   rw[hT]at h3;injection h3 with h3
   rw[←h3,if_neg (by simp[hA])]
end
end Go.AM
