/- A part of this seat's proofs, by an abstract machine. Conditions: each law's. -/
import Derived.Test.YtfjdbbpimklecaaGreatDoorV37
set_option maxRecDepth 10000
namespace Go.Proofs.YtfjdbbpimklecaaGreatDoor
section
open Go.AM
inductive Tk:List UInt8→List AOp→Prop where
 |nil:Tk [] []
 |run (r rest:List UInt8) (l:List AOp):r≠ []→(∀b∈r,plB b=true)→(rest≠ []→plB (rest.getD 0 0)=false)→Tk rest l→Tk (r++rest) (⟨1,0,0,r⟩::l)
 |one (s:List UInt8) (l:List AOp):s≠ []→plB (s.getD 0 0)=false→(ZD s 0).1.k≠0→Tk (s.drop (ZD s 0).2) l→Tk s ((ZD s 0).1::l)
theorem j0(s:List UInt8)(i:Nat):(s.drop i).getD 0 0=s.getD i 0:=by
 rw[List.getD_eq_getElem?_getD,List.getD_eq_getElem?_getD,List.getElem?_drop,Nat.add_zero]
theorem XJ(s:List UInt8)(i:Nat):zB (s.drop i) 0=zB s i:=by rw[ZH,ZH,j0]
theorem x7(s:List UInt8)(i:Nat):ZD (s.drop i) 0=ZD s i:=by
 unfold ZD
 rw[XJ,List.drop_zero]
theorem zhj {s:List UInt8} {i:Nat}(hi:i<s.length)(hp:plB (s.getD i 0)=true):i<qu s i:=by
 have rb:=uf s (i:=i) (by omega)
 rcases Nat.lt_or_ge i (qu s i)with h|h
 ·exact h
 ·have e:qu s i=i:=by omega
  have:=kN s (i:=i) (by omega)
  rw[e,hp]at this
  cases this
theorem zdC(s:List UInt8)(i:Nat)(hi:i≤s.length):s.drop i=(s.drop i).take (qu s i-i)++s.drop (qu s i):=by
 have rb:=uf s hi
 conv=>lhs;rw[←List.take_append_drop (qu s i-i) (s.drop i)]
 rw[List.drop_drop,show i+(qu s i-i)=qu s i by omega]
theorem zcK(s:List UInt8)(i:Nat):∀b∈(s.drop i).take (qu s i-i),plB b=true:=fun b hb=>by
 have e:(s.drop i).take (qu s i-i)=(s.drop i).takeWhile plB:=by
  unfold qu
  rw[Nat.add_sub_cancel_left]
  exact(List.prefix_iff_eq_take.1 (List.takeWhile_prefix plB)).symm
 rw[e]at hb
 exact List.all_eq_true.1 List.all_takeWhile b hb
theorem zfc(s:List UInt8):∀(f i:Nat) (out:List AOp),i≤s.length→s.length≤i+f→(QC s f i out).2.2=0→∃l,(QC s f i out).1=out++l∧Tk (s.drop i) l
 |0,i,out,hi,hf,_=>⟨[],by simp[QC],by rw[List.drop_of_length_le (by omega)];exact .nil⟩
 |f+1,i,out,hi,hf,he=>by
  unfold QC at he⊢
  split at he
  ·rename_i h
   rw[if_pos h]
   exact⟨[],by simp,by rw[List.drop_of_length_le h];exact .nil⟩
  ·rename_i h
   rw[if_neg h]
   have rb:=uf s hi
   split at he
   ·rename_i hp
    rw[if_pos hp]
    have rn:=zhj (by omega) hp
    obtain⟨l,h1,h2⟩:=zfc s f (qu s i) _ rb.2 (by omega) he
    refine⟨⟨1,0,0,(s.drop i).take (qu s i-i)⟩::l,by rw[h1];simp,?_⟩
    have k:=Tk.run ((s.drop i).take (qu s i-i)) (s.drop (qu s i)) l (fun e=>by
     have:=congrArg List.length e
     rw[List.length_take,List.length_drop,List.length_nil]at this
     omega) (zcK s i) (fun e=>by
     rw[j0]
     refine kN s ?_
     rcases Nat.lt_or_ge (qu s i) s.length with h|h
     ·exact h
     ·exact absurd (List.drop_of_length_le h) e) h2
    rwa[←zdC s i hi]at k
   ·rename_i hp
    rw[if_neg hp]
    split at he
    ·rename_i hk
     exact absurd he (by simp)
    ·rename_i hk
     rw[if_neg hk]
     have ob:=uA s (i:=i) (by omega)
     obtain⟨l,h1,h2⟩:=zfc s f (i+(ZD s i).2) _ (by have:=ob.1;omega) (by have:=ob.2 hk;omega) he
     refine⟨(ZD s i).1::l,by rw[h1];simp,?_⟩
     rw[←x7]
     refine .one _ l (fun e=>?_) (by rw[j0];simpa using hp) (by rw[x7];exact hk) (by rw[x7,List.drop_drop];exact h2)
     have:=congrArg List.length e
     rw[List.length_drop]at this
     simp at this;omega
theorem Ym {p:UInt8→Bool}:∀{r rest:List UInt8},(∀b∈r,p b=true)→(rest≠ []→p (rest.getD 0 0)=false)→(r++rest).takeWhile p=r
 | [],[],_,_=>rfl
 | [],x::rest,_,h=>by
  have:=h (by simp)
  simp at this
  simp[this]
 |x::r,rest,h1,h2=>by
  rw[List.cons_append,List.takeWhile_cons,if_pos (h1 x (by simp)),Ym (fun b hb=>h1 b (by simp[hb])) h2]
theorem zj3(s:List UInt8):∀{u:List UInt8} {l:List AOp},Tk u l→∀(f i:Nat) (out:List AOp),u=s.drop i→i≤s.length→s.length≤i+f→QC s f i out=(out++l,0,0):=by
 intro u l h
 induction h with
 |nil=>
  intro f i out hu hi hf
  have hl:s.length≤i:=by
   have:=congrArg List.length hu
   rw[List.length_drop]at this
   simp at this;omega
  cases f with
  |zero=>simp[QC]
  |succ f=>rw[QC,if_pos hl];simp
 |run r rest l hr hp hrest _ ih=>
  intro f i out hu hi hf
  have hlen:=congrArg List.length hu
  rw[List.length_append,List.length_drop]at hlen
  have hr0:0<r.length:=List.length_pos_iff.2 hr
  cases f with
  |zero=>omega
  |succ f=>
   have h0:plB (s.getD i 0)=true:=by
    rw[←j0,←hu]
    cases r with
    |nil=>exact absurd rfl hr
    |cons x r=>exact hp x (by simp)
   have he:qu s i=i+r.length:=by unfold qu;rw[←hu,Ym hp hrest]
   rw[QC,if_neg (by omega),if_pos h0,he,Nat.add_sub_cancel_left,←hu,List.take_left]
   rw[ih f (i+r.length) _ (by rw[←List.drop_drop,←hu,List.drop_left]) (by omega) (by omega)]
   simp
 |one u l hu0 hp hk _ ih=>
  intro f i out hu hi hf
  have hlen:=congrArg List.length hu
  rw[List.length_drop]at hlen
  have hr0:0<u.length:=List.length_pos_iff.2 hu0
  have e1:ZD u 0=ZD s i:=by rw[hu,x7]
  have ob:=uA s (i:=i) (by omega)
  rw[e1]at hk ih
  cases f with
  |zero=>omega
  |succ f=>
   rw[hu,j0]at hp
   rw[QC,if_neg (by omega),if_neg (by rw[hp];decide),if_neg hk,ih f (i+(ZD s i).2) _ (by rw[hu,List.drop_drop]) (by have:=ob.1;omega) (by have:=ob.2 hk;omega),e1]
   simp
theorem JO {s:List UInt8} {l:List AOp}:tkL s=(l,0,0)↔Tk s l:=by
 constructor
 ·intro h
  obtain⟨m,h1,h2⟩:=zfc s s.length 0 [] (Nat.zero_le _) (by omega) (show(tkL s).2.2=0 by rw[h])
  have:(tkL s).1=m:=by simpa[tkL]using h1
  rw[h]at this
  simp only at this
  rw[this]
  simpa using h2
 ·intro h
  have:=zj3 s h s.length 0 [] (by simp) (Nat.zero_le _) (by omega)
  simpa[tkL]using this
theorem zf5(r b:List UInt8)(h:(wq r).1.k≠0):wq (r++b)=wq r:=by
 have hN:qf.1.k=0:=rfl
 by_cases c:(r.takeWhile dg2).length<r.length∧(r.takeWhile dg2).length≤16
 ·have hs:=List.takeWhile_append_dropWhile (p:=dg2) (l:=r)
  obtain⟨x,t,hx⟩:∃x t,r.dropWhile dg2=x::t:=by
   cases hd:r.dropWhile dg2 with
   |nil=>rw[hd,List.append_nil]at hs;rw[hs]at c;omega
   |cons x t=>exact⟨x,t,rfl⟩
  have hxd:dg2 x=false:=by
   have:=List.head_dropWhile_not (p:=dg2) (l:=r) (by rw[hx];simp)
   simpa[hx]using this
  have hq:∀y∈r.takeWhile dg2,dg2 y=true:=fun y hy=>List.all_eq_true.1 List.all_takeWhile y hy
  generalize r.takeWhile dg2=q at*
  rw[hx]at hs
  subst hs
  have e1:(q++x::t).takeWhile dg2=q:=Ym hq (fun _=>hxd)
  have e2:(q++x::t++b).takeWhile dg2=q:=by rw[List.append_assoc,List.cons_append];exact Ym hq (fun _=>hxd)
  have g:∀u,(q++x::u).getD q.length 0=x:=fun u=>by rw[List.getD_eq_getElem?_getD,List.getElem?_append_right (Nat.le_refl _)];simp
  unfold wq
  rw[e1,e2,if_pos c,if_pos ⟨by simp,c.2⟩,List.append_assoc,List.cons_append,g,g]
 ·unfold wq at h
  rw[if_neg c]at h
  exact absurd hN h
theorem zeZ(s b:List UInt8)(h:(jn s).1.k≠0):jn (s++b)=jn s:=by
 by_cases c1:s.length<3
 ·unfold jn at h
  rw[if_pos c1]at h
  exact absurd rfl h
 ·match s,c1,h with
  | [],c1,h=>simp at c1
  | [_],c1,h=>simp at c1
  |a::y::r,c1,h=>
   by_cases c2:y=91
   ·subst c2
    rw[List.cons_append,List.cons_append,Yv,Yv,vT,vT]
    rw[Yv,vT]at h
    exact zf5 r b h
   ·exfalso
    unfold jn at h
    rw[if_neg c1,if_pos]at h
    ·exact h rfl
    ·intro e
     exact c2 ((wF y 91).1 (by simpa[zB]using e))
theorem zav(s b:List UInt8)(h:s≠ []):zB (s++b) 0=zB s 0:=by
 cases s with
 |nil=>exact absurd rfl h
 |cons x s=>simp[zB]
theorem zfs(s b:List UInt8)(hs:s≠ [])(h:(ZD s 0).1.k≠0):ZD (s++b) 0=ZD s 0:=by
 unfold ZD at h⊢
 rw[zav s b hs]
 split
 ·rfl
 ·split
  ·rfl
  ·split
   ·rfl
   ·split
    ·rename_i h1 h2 h3 h4
     rw[if_neg h1,if_neg h2,if_neg h3,if_pos h4]at h
     rw[List.drop_zero]at h⊢
     exact zeZ s b h
    ·rfl
theorem Tk.zg6 {l:List AOp}(h:Tk [] l):l=[]:=by
 generalize hu:([]:List UInt8)=u at h
 cases h with
 |nil=>rfl
 |run r rest l hr=>exact absurd (List.append_eq_nil_iff.1 hu.symm).1 hr
 |one s l hs=>exact absurd hu.symm hs
theorem Tk.ziL {s:List UInt8} {l:List AOp}(h:Tk s l)(hs:s≠ []):l≠ []:=by
 cases h with
 |nil=>exact absurd rfl hs
 |run=>simp
 |one=>simp
theorem Tk.plain {s:List UInt8} {l:List AOp}(h:Tk s l)(hs:s≠ [])(hp:plB (s.getD 0 0)=true):∃t m,l=⟨1,0,0,t⟩::m:=by
 cases h with
 |nil=>exact absurd rfl hs
 |run r rest l=>exact⟨r,l,rfl⟩
 |one s l _ hn=>rw[hp]at hn;cases hn
theorem zi6 {a b:List UInt8} {m o:List AOp}(ha:Tk a m)(hb:Tk b o)(hc:∀x y,m.getLast?=some x→o.head?=some y→¬(x.k=1∧y.k=1)):Tk (a++b) (m++o):=by
 induction ha with
 |nil=>exact hb
 |run r rest l hr hp hrest ht ih=>
  rw[List.append_assoc,List.cons_append]
  by_cases c:rest=[]
  ·subst c
   obtain rfl:=ht.zg6
   refine Tk.run r b o hr hp (fun hb0=>?_) hb
   cases hpb:plB (b.getD 0 0)with
   |false=>rfl
   |true=>
    obtain⟨t,q,rfl⟩:=hb.plain hb0 hpb
    exact absurd ⟨rfl,rfl⟩ (hc ⟨1,0,0,r⟩ ⟨1,0,0,t⟩ rfl rfl)
  ·have hl:=ht.ziL c
   refine Tk.run r (rest++b) (l++o) hr hp (fun _=>?_) (ih fun x y hx hy=>hc x y (by rw[List.getLast?_cons,hx];rfl) hy)
   have:=hrest c
   cases rest with
   |nil=>exact absurd rfl c
   |cons z rest=>exact this
 |one s l hs hp hk ht ih=>
  have e:=zfs s b hs hk
  have ob:=(uA s (i:=0) (List.length_pos_iff.2 hs)).1
  have k:=Tk.one (s++b) (l++o) (by simp[hs]) (by
   cases s with
   |nil=>exact absurd rfl hs
   |cons z s=>exact hp) (by rw[e];exact hk) (by
   rw[e,List.drop_append_of_le_length (by omega)]
   refine ih fun x y hx hy=>hc x y ?_ hy
   have hl:l≠ []:=fun h0=>by rw[h0]at hx;cases hx
   rw[List.getLast?_cons,hx];rfl)
  rwa[e]at k
theorem jc {R C:Nat} {t:Trm} {a b:List UInt8} {m o:List AOp}(ha:tkL a=(m,0,0))(hb:tkL b=(o,0,0))(hc:∀x y,m.getLast?=some x→o.head?=some y→¬(x.k=1∧y.k=1)):
  zU R C (zU R C t a) b=zU R C t (a++b):=by
 have h:=JO.2 (zi6 (JO.1 ha) (JO.1 hb) hc)
 unfold zU
 rw[ha,hb,h,List.foldl_append]
end
end Go.Proofs.YtfjdbbpimklecaaGreatDoor
