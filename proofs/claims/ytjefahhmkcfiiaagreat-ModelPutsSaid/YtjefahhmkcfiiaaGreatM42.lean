/- A part of the proof of this seat's statements, by an abstract machine: what each operation does to values, and what the law's functions compute. Conditions: as each law says. -/
import Derived.Test.YtjefahhmkcfiiaaGreatM41
import Derived.Test.YtjefahhmkcfiiaaGreatM38
section
namespace Go.Proofs.YtjefahhmkcfiiaaGreat
open Go.AM
set_option maxHeartbeats 4000000
set_option maxRecDepth 10000
def cellsI(M:List Int):List AV:=(M.map fun r=>PV.int .i64 r).map .p
@[go_sem] theorem upd_cellsI (rt tt : Tok → Bool) (M : List Int) : (cellsI M).map (AV.upd (fil rt tt)) = cellsI M := by simp [cellsI, AV.upd, fil, fil1]
@[go_sem] theorem len_cellsI (M : List Int) : (cellsI M).length = M.length := by simp [cellsI]
theorem cellsI_app(a b:List Int):cellsI (a++b)=cellsI a++cellsI b:=by simp[cellsI]
theorem cellsI_one(x:Int):cellsI [x]=[.p (.int .i64 x)]:=rfl
theorem cellsI_at {M:List Int} {i:Nat} {v:Int}(h:M[i]?=some v):(cellsI M)[i]?=some (.p (.int .i64 v)):=by
 rw[cellsI,List.getElem?_map,List.getElem?_map,h];rfl
theorem put_cellsI {M:List Int} {i:Nat}(v:Int)(h:i<M.length):(cellsI M).take i++AV.p (.int .i64 v)::(cellsI M).drop (i+1)=cellsI (M.set i v):=by
 have:cellsI (M.set i v)=(cellsI M).set i (.p (.int .i64 v)):=by simp[cellsI,List.map_set]
 rw[this,List.set_eq_take_append_cons_drop,if_pos (by simpa[cellsI]using h)]
def insRev(k:Int→Int)(x:Int):List Int→List Int
 | []=>[x]
 |y::l=>if k x≠0∧k x<k y then y::insRev k x l else x::y::l
def insD(k:Int→Int)(O:List Int)(x:Int):List Int:=(insRev k x O.reverse).reverse
def ordD(k:Int→Int)(l:List Int):List Int:=l.foldl (insD k) []
theorem insRev_len(k:Int→Int)(x:Int):∀l,(insRev k x l).length=l.length+1
 | []=>rfl
 |y::l=>by unfold insRev;split<;>simp[insRev_len k x l]
theorem insD_len(k:Int→Int)(O:List Int)(x:Int):(insD k O x).length=O.length+1:=by simp[insD,insRev_len]
theorem ordD_len(k:Int→Int)(l:List Int):(ordD k l).length=l.length:=by
 suffices H:∀(l O:List Int),(l.foldl (insD k) O).length=O.length+l.length by simpa[ordD]using H l []
 intro l
 induction l with
 |nil=>intro O;rfl
 |cons x l ih=>intro O;rw[List.foldl_cons,ih,insD_len,List.length_cons];omega
theorem ordD_snoc(k:Int→Int)(l:List Int)(x:Int):ordD k (l++[x])=insD k (ordD k l) x:=by simp[ordD,List.foldl_append]
def kD(rows:List Row)(x:Int):Int:=aL rows 1 x
def oV(o:List Int)(t:Tok):AV:=if o=[]then .p (.opq (.slice none 0 0))else .la t 1 0 o.length
def oR(k:Int→Int)(o:List Int):List (Tok×List AV):=if o=[]then []else [([30],cellsR o),([34],cellsI (o.map k))]
theorem last_split {A:List Int}(h:A≠ []):∃A' y,A=A'++[y]:=by
 rcases List.eq_nil_or_concat A with e|⟨l,z,e⟩
 ·exact absurd e h
 ·exact⟨l,z,by rw[e];simp⟩
theorem orderD_root [Gi](rows:List Row)(hrw:RowsOK rows)(l:List Int)(hl0:l≠ [])(hn:l.length<2^31)(hr:∀x∈l,Rune x):
  CR Tryz.prog 137 [] [.p (rowsP rows),.p (runesV l)] [] (fun x rs=>x=.la [30] 1 0 (ordD (kD rows) l).length∧rs=[([30],cellsR (ordD (kD rows) l))]):=by
 refine CR_of_wpM [] mixed 10 [] Tryz.func137 rfl (by kernel_rfl) [5,6,30,34] rfl (by simp) (by simp) ?_
 simp (maxSteps:=1000000) [go_sem,Tryz.f137,runesV]
 refine wpA_loopU (fun i:Nat=>i≤l.length) (fun i=>[(7,.p (.int .i64 (i:Nat))),(5,oV (ordD (kD rows) (l.take i)) [30]),(6,oV (ordD (kD rows) (l.take i)) [34]),(8,.junk),(9,.junk)]) (fun i=>oR (kD rows) (ordD (kD rows) (l.take i))) (fun i=>l.length-i) 0 (by omega)
  (by simp[go_sem,LeS,leV,leR,leA,leL,ordD,oV,oR]) (fun i hi=>?_)
 have hlt:(ordD (kD rows) (l.take i)).length=i:=by rw[ordD_len,List.length_take];omega
 by_cases hil:i<l.length
 ·obtain⟨x,hx⟩:∃x,l[i]=x:=⟨_,rfl⟩
  have hxr:Rune x:=hr x (by rw[←hx];exact List.getElem_mem _)
  have em:elemAt (i32s l) i=.int .i32 x:=by rw[i32s,elemAt_map (fun r=>PV.int .i32 r) l i hil,hx]
  have htk:l.take (i+1)=l.take i++[x]:=by rw[List.take_add_one,List.getElem?_eq_getElem hil,hx];rfl
  have hnx:ordD (kD rows) (l.take (i+1))=insD (kD rows) (ordD (kD rows) (l.take i)) x:=by rw[htk,ordD_snoc]
  have w1:IntKind.i64.wrap ((i:Int)+1)=((i+1:Nat):Int):=wrapN_one (by omega)
  have hil':(i:Int)<l.length:=by omega
  have w0:IntKind.i64.wrap 1=1:=wrap64 (by omega) (by omega)
  have wm:IntKind.i64.wrap (-1)= -1:=wrap64 (by omega) (by omega)
  generalize ordD (kD rows) (l.take i)=O at hlt hnx
  obtain⟨cx,hcx⟩:∃cx,cx=kD rows x:=⟨_,rfl⟩
  have hcx':aL rows 1 x=cx:=hcx.symm
  by_cases hi0:i=0
  ·subst hi0
   obtain rfl:O=[]:=List.eq_nil_of_length_eq_zero hlt
   have e2:ordD (kD rows) (l.take (0+1))=[x]:=by rw[hnx];rfl
   simp (maxSteps:=1000000) [go_sem,oV,oR,hil,hil',em,i32s_len]
   refine⟨⟨rfl,by simp[Tryz.f176]⟩,CallK_of [] (classD_cr rows x hrw.n hxr) (by simp[go_sem,notHead]) ⟨by simp[go_sem],by simp[go_sem]⟩ (by simp[go_sem]) ?_⟩
   rintro _ rs ⟨rfl,rfl⟩
   rw[hcx']
   simp (maxSteps:=1000000) [go_sem,hil,hil',em,i32s_len]
   refine wpA_loopU (fun _:Unit=>True) (fun _=>[]) (fun _=>[]) (fun _=>0) () trivial (by simp[go_sem,LeS,leV,leR,leA,leL,leL_refl]) (fun _ _=>?_)
   simp (maxSteps:=1000000) [go_sem,w0,wm]
   exact LoopK_next 1 (by omega) (by simp[go_sem,LeS,leV,leR,leA,leL,e2,oV,oR,cellsR_one,cellsI_one,leL_refl,←hcx,w0]) (by omega)
  ·have hne:O≠ []:=fun e=>by rw[e]at hlt;simp at hlt;omega
   have hol:0<O.length:=List.length_pos_iff.2 hne
   simp (maxSteps:=1000000) [go_sem,oV,oR,hne,hil,hil',em,i32s_len]
   refine⟨⟨rfl,by simp[Tryz.f176]⟩,CallK_of [] (classD_cr rows x hrw.n hxr) (by simp[go_sem,notHead]) ⟨by simp[go_sem],by simp[go_sem]⟩ (by simp[go_sem]) ?_⟩
   rintro _ rs ⟨rfl,rfl⟩
   rw[hcx']
   simp (maxSteps:=1000000) [go_sem,hil,hil',em,i32s_len,hol]
   refine⟨by omega,by omega,?_⟩
   refine wpA_loopU (fun r:List Int×List Int=>insD (kD rows) O x=(insRev (kD rows) x r.1.reverse).reverse++r.2∧r.1.length+r.2.length=O.length) (fun r=>[(9,.p (.int .i64 (r.1.length:Nat)))]) (fun r=>[([30],cellsR (r.1++x::r.2)),([34],cellsI ((r.1.map (kD rows))++cx::r.2.map (kD rows)))]) (fun r=>r.1.length) (O,[]) ⟨by simp[insD],by simp⟩
    (by simp[go_sem,LeS,leV,leR,leA,leL,leL_refl,cellsR_app,cellsI_app,cellsR_one,cellsI_one]) (fun r hr2=>?_)
   obtain⟨A,B⟩:=r
   obtain⟨p1,p2⟩:=hr2
   simp only at p1 p2
   have done:insRev (kD rows) x A.reverse=x::A.reverse→ordD (kD rows) (l.take (i+1))=A++x::B:=fun e=>by rw[hnx,p1,e];simp
   have hABl:(A++x::B).length=O.length+1:=by simp;omega
   have hne2:A++x::B≠ []:=by simp
   have hmap:(A++x::B).map (kD rows)=A.map (kD rows)++cx::B.map (kD rows):=by rw[List.map_append,List.map_cons,←hcx]
   by_cases hA:A=[]
   ·subst hA
    have e2:=done rfl
    have z0:∀hh,(cellsI (cx::B.map (kD rows)))[0]'hh=.p (.int .i64 cx):=fun _=>rfl
    have z1:(cellsI (cx::B.map (kD rows)))[0]?=some (.p (.int .i64 cx)):=rfl
    simp only[List.length_nil,Nat.zero_add]at p2
    simp (maxSteps:=1000000) [go_sem,wm,w1,z0,z1]
    exact LoopK_next (i+1) (by omega) (by simp[go_sem,LeS,leV,leR,leA,leL,e2,oV,oR,leL_refl,←hcx,p2]) (by omega)
   ·obtain⟨A',y,rfl⟩:=last_split hA
    obtain⟨k,hk⟩:∃k,k=A'.length:=⟨_,rfl⟩
    have hAl:(A'++[y]).length=k+1:=by simp[hk]
    rw[hAl]at p2
    obtain⟨cy,hcy⟩:∃cy,cy=kD rows y:=⟨_,rfl⟩
    have eM:A'++[y]++x::B=A'++y::x::B:=by simp
    have eC:(A'++[y]).map (kD rows)++cx::B.map (kD rows)=A'.map (kD rows)++cy::cx::B.map (kD rows):=by simp[hcy]
    have eM2:A'++x::y::B=A'++x::(y::B):=rfl
    have gR:(cellsR (A'++y::x::B))[k]?=some (.p (.int .i32 y)):=cells_at (by rw[hk,List.getElem?_append_right (Nat.le_refl _)];simp)
    have gI:(cellsI (A'.map (kD rows)++cy::cx::B.map (kD rows)))[k]?=some (.p (.int .i64 cy)):=cellsI_at (by rw[hk,List.getElem?_append_right (by simp)];simp)
    have gR2:∀hh,(cellsR (A'++y::x::B))[k]'hh=.p (.int .i32 y):=fun hh=>by have:=gR;rw[List.getElem?_eq_getElem hh]at this;injection this
    have gI2:∀hh,(cellsI (A'.map (kD rows)++cy::cx::B.map (kD rows)))[k]'hh=.p (.int .i64 cy):=fun hh=>by have:=gI;rw[List.getElem?_eq_getElem hh]at this;injection this
    have lR:(A'++y::x::B).length=O.length+1:=by simp;omega
    have lI:(A'.map (kD rows)++cy::cx::B.map (kD rows)).length=O.length+1:=by simp;omega
    have wk:IntKind.i64.wrap ((k:Int)+1-1)=(k:Int):=wrapN_pred (x:=k+1) (by omega) rfl
    have wk':IntKind.i64.wrap (k:Int)=(k:Int):=wrapN (by omega)
    have kn:k<O.length+1:=by omega
    have kn1:k+1<O.length+1:=by omega
    have kn':(k:Int)< (O.length:Int)+1:=by omega
    have kn1':(k:Int)+1< (O.length:Int)+1:=by omega
    have k0:(0:Int)< (k:Int)+1:=by omega
    have k0':(0:Int)≤(k:Int)+1:=by omega
    have kt:((k:Int)+1).toNat=k+1:=by omega
    simp only[eM,eC,hAl]at done⊢
    by_cases hc0:cx=0
    ·have e2:=done (by
      have hrv:(A'++[y]).reverse=y::A'.reverse:=by simp
      rw[hrv,insRev,if_neg (fun h=>h.1 (by rw[←hcx];exact hc0))])
     clear hcx'
     obtain rfl:cx=0:=hc0
     simp (maxSteps:=1000000) [go_sem,wm,w1,k0,gI,gI2,kn,kn',k0',kt,wk,wk',lI]
     exact LoopK_next (i+1) (by omega) (by simp[go_sem,LeS,leV,leR,leA,leL,e2,oV,oR,leL_refl,←hcx,←hcy];omega) (by omega)
    ·by_cases hlt2:cx<cy
     ·have hins:insD (kD rows) O x=(insRev (kD rows) x A'.reverse).reverse++(y::B):=by
       have hrv:(A'++[y]).reverse=y::A'.reverse:=by simp
       rw[p1,hrv,insRev,if_pos ⟨by rw[←hcx];exact hc0,by rw[←hcx,←hcy];exact hlt2⟩];simp
      have pR1:=put_cellsR (M:=A'++y::x::B) (i:=k+1) y (by omega)
      have pR2:=put_cellsR (M:=(A'++y::x::B).set (k+1) y) (i:=k) x (by rw[List.length_set];omega)
      have pI1:=put_cellsI (M:=A'.map (kD rows)++cy::cx::B.map (kD rows)) (i:=k+1) cy (by omega)
      have pI2:=put_cellsI (M:=(A'.map (kD rows)++cy::cx::B.map (kD rows)).set (k+1) cy) (i:=k) cx (by rw[List.length_set];omega)
      have sR:=swap_adj A' B y x
      have sI:=swap_adj (A'.map (kD rows)) (B.map (kD rows)) cy cx
      rw[List.length_map]at sI
      rw[←hk]at sR sI
      rw[sR]at pR2
      rw[sI]at pI2
      simp (maxSteps:=1000000) [go_sem,wm,w1,k0,hc0,gR,gI,gR2,gI2,kn,kn1,kn',kn1',k0',kt,wk,wk',hlt2,lR,lI,pR1,pR2,pI1,pI2,hil,hil',em,i32s_len]
      exact⟨by omega,by omega,LoopK_next (A',y::B) ⟨hins,by simp;omega⟩ (by simp[go_sem,LeS,leV,leR,leA,leL,leL_refl,hk,←hcy]) (by simp)⟩
     ·have e2:=done (by
       have hrv:(A'++[y]).reverse=y::A'.reverse:=by simp
       rw[hrv,insRev,if_neg (fun h=>hlt2 (by rw[hcx,hcy];exact h.2))])
      simp (maxSteps:=1000000) [go_sem,wm,w1,k0,hc0,gI,gI2,kn,kn',k0',kt,wk,wk',hlt2,lI]
      exact LoopK_next (i+1) (by omega) (by simp[go_sem,LeS,leV,leR,leA,leL,e2,oV,oR,leL_refl,←hcx,←hcy];omega) (by omega)
 ·have hil':¬(i:Int)<l.length:=by omega
  obtain rfl:i=l.length:=by omega
  rw[List.take_length]at hlt⊢
  have hne:ordD (kD rows) l≠ []:=fun e=>by rw[e]at hlt;simp at hlt;exact hl0 (List.eq_nil_of_length_eq_zero hlt.symm)
  generalize ordD (kD rows) l=O at hlt hne
  simp (maxSteps:=1000000) [go_sem,oV,oR,hne,i32s_len]
  exact ret_keep [[30]] (.la [30] 1 0 O.length) ⟨rfl,by simp⟩ (by simp[go_sem,resOf,leA,leT]) ⟨rfl,by simp[go_sem]⟩
theorem orderD_cr [Gi](rows:List Row)(hrw:RowsOK rows)(l:List Int)(hn:l.length<2^31)(hr:∀x∈l,Rune x):CR Tryz.prog 137 [] [.p (rowsP rows),.p (runesV l)] [] (is (.p (runesV (ordD (kD rows) l)))):=by
 by_cases hl0:l=[]
 ·subst hl0
  refine CR_of_wpM [] mixed 10 [] Tryz.func137 rfl (by kernel_rfl) [5,6,30,34] rfl (by simp) (by simp) ?_
  simp (maxSteps:=1000000) [go_sem,Tryz.f137,runesV]
  refine wpA_loopU (fun _:Unit=>True) (fun _=>[]) (fun _=>[]) (fun _=>0) () trivial (by simp[go_sem,LeS,leV,leR,leA,leL,leL_refl]) (fun _ _=>?_)
  simp (maxSteps:=1000000) [go_sem,i32s]
  exact ret_is (.p (.sl 1 [])) rfl (by simp[go_sem,resOf,leA,leT,leP]) ⟨rfl,rfl⟩
 ·have hlen:=ordD_len (kD rows) l
  exact CR.row (by rw[hlen];exact List.length_pos_iff.2 hl0) (orderD_root rows hrw l hl0 hn hr)
def apartD(rows:List Row)(l:List Int):List Int:=l.flatMap (fullD rows 8)
def nfdD(rows:List Row)(l:List Int):List Int:=ordD (kD rows) (apartD rows l)
theorem apartD_len(rows:List Row)(l:List Int):(apartD rows l).length≤768*l.length:=by
 induction l with
 |nil=>simp[apartD]
 |cons x l ih=>
  have:=fullD_len rows 8 x
  simp only[apartD,List.flatMap_cons,List.length_append,List.length_cons]at*
  omega
theorem fullD_rune {rows:List Row}(hrw:RowsOK rows):∀d r,Rune r→∀x∈fullD rows d r,Rune x
 |0,r,hr,x,hx=>by
  unfold fullD at hx
  split at hx
  ·rename_i hs
   have hs':44032≤r∧r<55204:=by simpa[sylB]using hs
   unfold splitL at hx
   unfold Rune
   split at hx<;>simp at hx<;>omega
  ·rw[List.mem_singleton.1 hx];exact hr
 |d+1,r,hr,x,hx=>by
  unfold fullD at hx
  split at hx
  ·rename_i hs
   have hs':44032≤r∧r<55204:=by simpa[sylB]using hs
   unfold splitL at hx
   unfold Rune
   split at hx<;>simp at hx<;>omega
  ·split at hx
   ·rw[List.mem_singleton.1 hx];exact hr
   ·rename_i p hp
    have hb:=pairD_ok hrw hp
    rcases List.mem_append.1 hx with hx|hx
    ·exact fullD_rune hrw d _ ⟨by omega,by omega⟩ x hx
    ·split at hx
     ·simp at hx
     ·exact fullD_rune hrw d _ ⟨by omega,by omega⟩ x hx
theorem apartD_rune {rows:List Row}(hrw:RowsOK rows) {l:List Int}(hl:∀x∈l,Rune x):∀x∈apartD rows l,Rune x:=fun x hx=>by
 obtain⟨r,hr,hx⟩:=List.mem_flatMap.1 hx
 exact fullD_rune hrw 8 r (hl r hr) x hx
theorem nfdD_cr [Gi](rows:List Row)(hrw:RowsOK rows)(l:List Int)(hn:l.length<2^20)(hr:∀x∈l,Rune x):CR Tryz.prog 82 [] [.p (rowsP rows),.p (runesV l)] [] (is (.p (runesV (nfdD rows l)))):=by
 refine CR_of_wp mixed 7 [] Tryz.func82 rfl (by kernel_rfl) rfl (by simp) (by simp) ?_
 simp (maxSteps:=1000000) [go_sem,Tryz.f82,runesV]
 refine wpA_loopU (fun i:Nat=>i≤l.length) (fun i=>[(6,.p (.int .i64 (i:Nat))),(5,.os [5] 1 (i32s (apartD rows (l.take i))))]) (fun _=>[]) (fun i=>l.length-i) 0 (by omega) (by simp[go_sem,LeS,leV,leR,leA,leL,apartD,i32s]) (fun i hi=>?_)
 have hal:=apartD_len rows (l.take i)
 have hal2:(apartD rows (l.take i)).length≤768*l.length:=by rw[List.length_take]at hal;omega
 by_cases hil:i<l.length
 ·obtain⟨x,hx⟩:∃x,l[i]=x:=⟨_,rfl⟩
  have hxr:Rune x:=hr x (by rw[←hx];exact List.getElem_mem _)
  have em:elemAt (i32s l) i=.int .i32 x:=by rw[i32s,elemAt_map (fun r=>PV.int .i32 r) l i hil,hx]
  have hnx:apartD rows (l.take (i+1))=apartD rows (l.take i)++fullD rows 8 x:=by
   rw[List.take_add_one,List.getElem?_eq_getElem hil,hx];simp[apartD]
  have hfl:=fullD_len rows 8 x
  have w1:IntKind.i64.wrap ((i:Int)+1)=((i+1:Nat):Int):=wrapN_one (by omega)
  have hil':(i:Int)<l.length:=by omega
  simp (maxSteps:=1000000) [go_sem,hil,hil',em,i32s_len]
  refine⟨⟨rfl,by simp[Tryz.f136]⟩,CallK_of [] (fullD_cr rows hrw 8 (by omega) x hxr) (by simp[go_sem,notHead]) ⟨by simp[go_sem],by simp[go_sem]⟩ (by simp[go_sem]) ?_⟩
  rintro _ rs ⟨rfl,rfl⟩
  simp (maxSteps:=1000000) [go_sem,w1]
  refine⟨by simp[i32s];omega,LoopK_next (i+1) (by omega) (by simp[go_sem,LeS,leV,leR,leA,leL,hnx,i32s]) (by omega)⟩
 ·have hil':¬(i:Int)<l.length:=by omega
  obtain rfl:i=l.length:=by omega
  rw[List.take_length]at hal2⊢
  simp (maxSteps:=1000000) [go_sem,i32s_len]
  refine⟨⟨rfl,by simp[Tryz.f137]⟩,CallK_of [] (orderD_cr rows hrw (apartD rows l) (by omega) (apartD_rune hrw hr)) (by simp[go_sem,notHead]) ⟨by simp[go_sem],by simp[go_sem,runesV]⟩ (by simp[go_sem]) ?_⟩
  rintro _ rs ⟨rfl,rfl⟩
  simp (maxSteps:=1000000) [go_sem,runesV]
  exact ret_is (.p (runesV (nfdD rows l))) rfl (by simp[go_sem,resOf,leA,leT,leP,runesV,nfdD]) ⟨rfl,rfl⟩
end Go.Proofs.YtjefahhmkcfiiaaGreat
end
