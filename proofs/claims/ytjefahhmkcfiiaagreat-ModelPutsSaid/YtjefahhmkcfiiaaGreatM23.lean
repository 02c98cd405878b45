/- A part of the proof of this seat's statements, by an abstract machine: what each operation does to values, and what the law's functions compute. Conditions: as each law says. -/
import Derived.Test.YtjefahhmkcfiiaaGreatM22
import Derived.Test.YtjefahhmkcfiiaaGreatM21
section
namespace Go.Proofs.YtjefahhmkcfiiaaGreat
open Go.AM
set_option maxHeartbeats 4000000
set_option maxRecDepth 10000
def lenTab:List UInt8:=[0,1,2,2,3,3,3,3,4,4,4,4,4,4,4,4,5,5,5,5,5,5,5,5,5,5,5,5,5,5,5,5,6,6,6,6,6,6,6,6,6,6,6,6,6,6,6,6,6,6,6,6,6,6,6,6,6,6,6,6,6,6,6,6,7,7,7,7,7,7,7,7,7,7,7,7,7,7,7,7,7,7,7,7,7,7,7,7,7,7,7,7,7,7,7,7,7,7,7,7,7,7,7,7,7,7,7,7,7,7,7,7,7,7,7,7,7,7,7,7,7,7,7,7,7,7,7,7,8,8,8,8,8,8,8,8,8,8,8,8,8,8,8,8,8,8,8,8,8,8,8,8,8,8,8,8,8,8,8,8,8,8,8,8,8,8,8,8,8,8,8,8,8,8,8,8,8,8,8,8,8,8,8,8,8,8,8,8,8,8,8,8,8,8,8,8,8,8,8,8,8,8,8,8,8,8,8,8,8,8,8,8,8,8,8,8,8,8,8,8,8,8,8,8,8,8,8,8,8,8,8,8,8,8,8,8,8,8,8,8,8,8,8,8,8,8,8,8,8,8,8,8,8,8,8,8]
theorem lenTab_ok:((List.range 256).all fun n=>n==0 || (decide (1≤(lenTab.getD n 0).toNat)&&decide ((lenTab.getD n 0).toNat≤8)))=true:=by decide
theorem lenTab_at {n:Nat}(h1:1≤n)(h2:n<256):1≤strAt lenTab n∧strAt lenTab n≤8:=by
 have:=List.all_eq_true.1 lenTab_ok n (List.mem_range.2 h2)
 have hn:(n==0)=false:=by simp;omega
 rw[hn]at this
 simp only[Bool.false_or,Bool.and_eq_true,decide_eq_true_eq]at this
 unfold strAt
 omega
theorem len64_cr [Gi](n:Nat)(h1:1≤n)(h2:n<256):CR Tryz.prog 201 [] [.p (.int .u64 n)] [] (fun x rs=>(∃k:Int,k≠0∧x=.p (.int .i64 k))∧rs=[]):=by
 refine CR_of_wp mixed 3 [] Tryz.func201 rfl (by kernel_rfl) rfl (by simp) (by simp) ?_
 have e1:¬(4294967296:Int)≤n:=by omega
 have e2:¬(65536:Int)≤n:=by omega
 have e3:¬(256:Int)≤n:=by omega
 have w:IntKind.u8.wrap (n:Int)=n:=by simp[IntKind.wrap,IntKind.signed,IntKind.bits];omega
 simp (maxSteps:=1000000) [go_sem,Tryz.f201,e1,e2,e3,w]
 have ht:=lenTab_at h1 h2
 refine⟨by omega,ret_keep [] (.p (.int .i64 (IntKind.i64.wrap (IntKind.i64.wrap (strAt lenTab n))))) ⟨rfl,by simp⟩ (by simp[go_sem,resOf,leA,leT,lenTab]) ⟨⟨_,?_,rfl⟩,by simp[go_sem]⟩⟩
 rw[wrap64 (x:=strAt lenTab n) (by omega) (by omega),wrap64 (by omega) (by omega)]
 omega
theorem len_cr [Gi](n:Nat)(h1:1≤n)(h2:n<256):CR Tryz.prog 169 [] [.p (.int .u64 n)] [] (fun x rs=>(∃k:Int,k≠0∧x=.p (.int .i64 k))∧rs=[]):=by
 refine CR_of_wp mixed 3 [] Tryz.func169 rfl (by kernel_rfl) rfl (by simp) (by simp) ?_
 simp (maxSteps:=1000000) [go_sem,Tryz.f169]
 refine⟨⟨rfl,by simp[Tryz.f201]⟩,CallK_of [] (len64_cr n h1 h2) (by simp[go_sem,notHead]) ⟨by simp[go_sem],by simp[go_sem]⟩ (by simp[go_sem]) ?_⟩
 rintro _ rs ⟨⟨k,hk,rfl⟩,rfl⟩
 simp (maxSteps:=1000000) [go_sem]
 exact ret_keep [] (.p (.int .i64 k)) ⟨rfl,by simp⟩ (by simp[go_sem,resOf,leA,leT]) ⟨⟨_,hk,rfl⟩,by simp[go_sem]⟩
theorem pdq_cr [Gi](l:List Span)(k:Int)(hk:k≠0)(hU:Up l)(hn:l.length<256):CR Tryz.prog 168 [] [.p (spansP l),.p (.int .i64 0),.p (.int .i64 l.length),.p (.int .i64 k),.p byV] [] (is (.tup [])):=by
 have w0:IntKind.i64.wrap (l.length:Int)=l.length:=wrap64 (by omega) (by omega)
 refine CR_of_wp mixed 21 [] Tryz.func168 rfl (by kernel_rfl) rfl (by simp) (by simp) ?_
 simp (maxSteps:=1000000) [go_sem,Tryz.f168]
 refine wpA_loopU (fun _:Unit=>True) (fun _=>[]) (fun _=>[]) (fun _=>0) () trivial (by simp[go_sem,LeS,leV,leR,leA,leL]) (fun _ _=>?_)
 simp (maxSteps:=1000000) [go_sem,w0]
 refine condK_if (fun h=>?_) (fun h=>?_)
 ·simp (maxSteps:=1000000) [go_sem]
  refine⟨⟨rfl,by simp[Tryz.f192]⟩,CallK_of [] (insertion_cr l hU (by omega)) (by simp[go_sem,notHead]) ⟨by simp[go_sem],by simp[go_sem]⟩ (by simp[go_sem]) ?_⟩
  rintro _ rs ⟨rfl,rfl⟩
  simp (maxSteps:=1000000) [go_sem]
  exact ret_is (.tup []) rfl (by simp[go_sem,resOf,leA,leT,leP]) ⟨rfl,rfl⟩
 ·simp (maxSteps:=1000000) [go_sem,hk]
  refine⟨⟨rfl,by simp[Tryz.f195]⟩,CallK_of [] (pivot_cr l hU (by omega) (by omega)) (by simp[go_sem,notHead]) ⟨by simp[go_sem],by simp[go_sem]⟩ (by simp[go_sem]) ?_⟩
  rintro _ rs ⟨⟨p,rfl⟩,rfl⟩
  simp (maxSteps:=1000000) [go_sem]
  refine⟨⟨rfl,by simp[Tryz.f197]⟩,CallK_of [] (partial_cr l hU (by omega) (by omega)) (by simp[go_sem,notHead]) ⟨by simp[go_sem],by simp[go_sem]⟩ (by simp[go_sem]) ?_⟩
  rintro _ rs ⟨rfl,rfl⟩
  simp (maxSteps:=1000000) [go_sem]
  exact ret_is (.tup []) rfl (by simp[go_sem,resOf,leA,leT,leP]) ⟨rfl,rfl⟩
theorem sort_cr [Gi](l:List Span)(hU:Up l)(h1:1≤l.length)(hn:l.length<256):CR Tryz.prog 117 [] [.p (spansP l),.p byV] [] (is (.tup [])):=by
 have w0:IntKind.u64.wrap (l.length:Int)=l.length:=by simp[IntKind.wrap,IntKind.signed,IntKind.bits];omega
 refine CR_of_wp mixed 5 [] Tryz.func117 rfl (by kernel_rfl) rfl (by simp) (by simp) ?_
 simp (maxSteps:=1000000) [go_sem,Tryz.f117,spansP,w0]
 refine⟨⟨rfl,by simp[Tryz.f169]⟩,CallK_of [] (len_cr l.length h1 hn) (by simp[go_sem,notHead]) ⟨by simp[go_sem],by simp[go_sem]⟩ (by simp[go_sem]) ?_⟩
 rintro _ rs ⟨⟨k,hk,rfl⟩,rfl⟩
 simp (maxSteps:=1000000) [go_sem]
 refine⟨⟨rfl,by simp[Tryz.f168]⟩,CallK_of [] (pdq_cr l k hk hU hn) (by simp[go_sem,notHead]) ⟨by simp[go_sem],by simp[go_sem,spansP]⟩ (by simp[go_sem]) ?_⟩
 rintro _ rs ⟨rfl,rfl⟩
 simp (maxSteps:=1000000) [go_sem]
 exact ret_is (.tup []) rfl (by simp[go_sem,resOf,leA,leT,leP]) ⟨rfl,rfl⟩
end Go.Proofs.YtjefahhmkcfiiaaGreat
end
section
namespace Go.Proofs.YtjefahhmkcfiiaaGreat
open Go.AM
set_option maxHeartbeats 2000000
set_option maxRecDepth 10000
def joinL(init:List Span)(o:Span):List Span→List Span
 | []=>init++[o]
 |s::l=>if o.t+1=s.f∧o.a=s.a∧o.b=s.b then joinL init {o with t:=s.t} l else joinL (init++[o]) s l
def joinedL:List Span→List Span
 | []=>[]
 |s::l=>joinL [] s l
def spanC(s:Span):List AV:=[.p (.int .i64 s.f),.p (.int .i64 s.t),.p (.int .i64 s.a),.p (.int .i64 s.b)]
def cellsS(l:List Span):List AV:=((l.map spanP).flatMap PV.cells).map .p
theorem cellsS_len(l:List Span):(cellsS l).length=l.length*4:=by
 induction l with
 |nil=>rfl
 |cons s l ih=>
  simp[cellsS,spanP,PV.cells]at ih⊢
  omega
theorem cellsS_app(l:List Span)(o:Span):cellsS (l++[o])=cellsS l++spanC o:=by
 simp[cellsS,spanC,spanP,PV.cells]
theorem cellsS_upd(l:List Span)(a b:Tok→Bool):(cellsS l).map (AV.upd (AM.fil a b))=cellsS l:=by
 unfold cellsS
 rw[List.map_map]
 rfl
theorem spanC_upd(o:Span)(a b:Tok→Bool):(spanC o).map (AV.upd (AM.fil a b))=spanC o:=rfl
theorem cells_get(l:List Span)(o:Span)(j:Nat):(cellsS l++spanC o)[l.length*4+j]?=(spanC o)[j]?:=by
 rw[←cellsS_len,List.getElem?_append_right (by omega)]
 congr 1
 omega
theorem cells_splice(l:List Span)(a b c d y:AV):splice (cellsS l++[a,b,c,d]) (l.length*4+1) [y]=cellsS l++[a,y,c,d]:=by
 have e:(cellsS l).length=l.length*4:=cellsS_len l
 unfold splice
 rw[←e,List.take_length_add_append,List.length_singleton,Nat.add_assoc,List.drop_length_add_append]
 simp
theorem cells_spliced(l:List Span)(a b c d y:AV):(cellsS l++[a,b,c,d]).take (l.length*4+1)++y::(cellsS l++[a,b,c,d]).drop (l.length*4+1+1)=cellsS l++[a,y,c,d]:=by
 have:=cells_splice l a b c d y
 simpa[splice]using this
def joinS(l:List Span)(k:Nat):Option (List Span×Span)→St
 |none=>{n:=61,nv:=10,vs:=[(3,.p (.opq (.slice none 0 0))),(7,.p (spansP l)),(8,.p (.int .i64 l.length)),(9,.p (.int .i64 k))],ts:=[],rs:=[],rm:=[3,57,58]}
 |some (init,o)=>{n:=61,nv:=10,vs:=[(3,.la [58] 4 0 (init.length+1)),(7,.p (spansP l)),(8,.p (.int .i64 l.length)),(9,.p (.int .i64 k))],ts:=[],rs:=[([58],cellsS init++spanC o)],rm:=[3,57,58]}
def joinI(l:List Span)(k:Nat):Option (List Span×Span)→Prop
 |none=>k=0
 |some (init,o)=>k≤l.length∧joinedL l=joinL init o (l.drop k)∧init.length<k∧ -1000000000≤o.t∧o.t≤1000000000
theorem joined_root [Gi](l:List Span)(hn:l.length<2^31)(hb:∀s∈l, -1000000000≤s.t∧s.t≤1000000000):CR Tryz.prog 118 [] [.p (spansP l)] [] (fun x rs=>(l=[]∧x=.p (.sl 4 [])∧rs=[])∨(0< (joinedL l).length∧x=.la [58] 4 0 (joinedL l).length∧rs=[([58],cellsS (joinedL l))])):=by
 refine CR_of_wpM [] mixed 10 [] Tryz.func118 rfl (by kernel_rfl) [3,57,58] rfl (by simp) (by simp) ?_
 simp (disch:=omega) [go_sem,Tryz.f118,spansP]
 refine wpA_loop (fun i:Nat×Option (List Span×Span)=>joinI l i.1 i.2) (fun i=>joinS l i.1 i.2) (fun i=>l.length-i.1) (0,none) rfl (by simp[go_sem,LeS,leV,leR,leA,leL,spansP,joinS]) ?_
 rintro⟨k,_|⟨init,o⟩⟩ hI
 ·have hk:k=0:=hI
  subst hk
  simp (disch:=omega) [go_sem,joinS,spansP]
  refine condK_if (fun h=>?_) (fun h=>?_)
  ·have em:=elemAt_map spanP l 0 h
   have hx:=hb l[0] (List.getElem_mem h)
   have hl:l=l[0]::l.drop 1:=by
    have:=List.drop_eq_getElem_cons h
    simpa using this
   have hj:joinedL l=joinL [] l[0] (l.drop 1):=by
    conv=>lhs;rw[hl]
    rfl
   generalize l[0]=x at em hx hj
   simp (disch:=omega) [go_sem,em,h,spanP]
   refine⟨by decide,LoopK_next (1,some ([],x)) ⟨by show 1≤l.length;omega,hj,by simp,hx.1,hx.2⟩ ?_ ?_⟩
   ·simp[go_sem,LeS,leV,leR,leA,leL,joinS,spansP,cellsS,spanC]
    decide
   ·show l.length-1<l.length-0
    omega
  ·have hl:l=[]:=List.length_eq_zero_iff.1 (by omega)
   simp (disch:=omega) [go_sem]
   exact ret_keep [] (.p (.sl 4 [])) ⟨rfl,by simp⟩ (by simp[go_sem,resOf,leA,leT]) (.inl ⟨hl,rfl,rfl⟩)
 ·obtain⟨h1,h2,h3,h5,h6⟩:=hI
  simp only at h1 h2 h3
  simp (disch:=omega) [go_sem,joinS,spansP]
  refine condK_if (fun h=>?_) (fun h=>?_)
  ·have em:=elemAt_map spanP l k h
   have w0:IntKind.i64.wrap (init.length:Int)=(init.length:Int):=wrap64 (by omega) (by omega)
   have w1:IntKind.i64.wrap (o.t+1)=o.t+1:=wrap64 (by omega) (by omega)
   have w2:IntKind.i64.wrap ((k:Int)+1)=(k:Int)+1:=wrap64 (by omega) (by omega)
   have g1:=cells_get init o 1
   have g2:=cells_get init o 2
   have g3:=cells_get init o 3
   simp only[spanC,List.getElem?_cons_succ,List.getElem?_cons_zero]at g1 g2 g3
   have hi:(init.length:Int)< (init.length:Int)+1:=by omega
   have hx:=hb l[k] (List.getElem_mem h)
   have hd:l.drop k=l[k]::l.drop (k+1):=List.drop_eq_getElem_cons h
   rw[hd,joinL]at h2
   generalize l[k]=x at em hx h2
   simp (disch:=omega) [go_sem,em,h,spanP,w0,w1,cellsS_upd,spanC_upd,spanC,g1,g2,g3,hi]
   refine condK_split (fun hc=>?_) (fun hc=>?_)
   ·have hc':o.t+1=x.f∧o.a=x.a∧o.b=x.b:=by
     simp at hc
     exact⟨hc.1.1,hc.1.2,hc.2⟩
    rw[if_pos hc']at h2
    simp (disch:=omega) [go_sem,w0,w2,cellsS_upd,cellsS_len,hi]
    exact LoopK_next (k+1,some (init,{o with t:=x.t})) ⟨by show k+1≤l.length;omega,h2,by show init.length<k+1;omega,hx.1,hx.2⟩ (by simp[go_sem,LeS,leV,leR,leA,leL,joinS,spansP,cells_spliced,cellsS_upd,leL_refl,spanC,w2]) (by show l.length- (k+1)<l.length-k;omega)
   ·have hc':¬(o.t+1=x.f∧o.a=x.a∧o.b=x.b):=by
     intro e
     simp[e]at hc
    rw[if_neg hc']at h2
    simp (disch:=omega) [go_sem,w2,cellsS_upd,cellsS_len]
    refine⟨⟨by omega,by omega⟩,?_⟩
    exact LoopK_next (k+1,some (init++[o],x)) ⟨by show k+1≤l.length;omega,h2,by show(init++[o]).length<k+1;simp;omega,hx.1,hx.2⟩ (by simp[go_sem,LeS,leV,leR,leA,leL,joinS,spansP,spanC,cellsS_app,cellsS_upd,leL_refl,w2]) (by show l.length- (k+1)<l.length-k;omega)
  ·have hk:k=l.length:=by omega
   subst hk
   simp (disch:=omega) [go_sem]
   rw[List.drop_length]at h2
   refine ret_keep [[58]] (.la [58] 4 0 (joinedL l).length) ⟨rfl,by simp⟩ (by simp[go_sem,resOf,leA,leT,h2,joinL]) ?_
   refine .inr ⟨by rw[h2];simp[joinL],rfl,?_⟩
   simp[go_sem,cellsS_upd,spanC_upd,h2,joinL,cellsS_app]
theorem joined_cr [Gi](l:List Span)(hn:l.length<2^31)(hb:∀s∈l, -1000000000≤s.t∧s.t≤1000000000):CR Tryz.prog 118 [] [.p (spansP l)] [] (is (.p (spansP (joinedL l)))):=by
 refine CR.freeze (joined_root l hn hb) (fun _=>false) rfl ?_
 rintro x rs (⟨rfl,rfl,rfl⟩|⟨h0,rfl,rfl⟩)
 ·refine⟨.p (.sl 4 []),fun g w v hG hv=>?_,rfl,rfl⟩
  rw[RepA_p]at hv⊢
  exact RepP.ext (frz_ext hG _) _ _ hv
 ·refine⟨.p (spansP (joinedL l)),fun g w v hG hv=>?_,rfl,rfl⟩
  rw[RepA_p]
  exact frz_flat hG h0 (by simp[lookT,cellsS]) rfl (by simp) (fun e he=>by
   obtain⟨s,_,rfl⟩:=List.mem_map.1 he
   exact⟨rfl,rfl⟩) hv
end Go.Proofs.YtjefahhmkcfiiaaGreat
end
section
namespace Go.Proofs.YtjefahhmkcfiiaaGreat
open Go.AM
set_option maxHeartbeats 2000000
set_option maxRecDepth 10000
structure Piece(α:Type)where
 f:Int
 t:Int
 v:α
def findL {α:Type}(zero:α)(i:Int):List (Piece α)→Int→α×Int
 | [],last=>(zero,last)
 |p::l,last=>if p.f≤i∧i≤p.t then(p.v,min p.t last)else if i<p.f∧p.f≤last then findL zero i l (p.f-1)else findL zero i l last
def pieceI(p:Piece Int):PV:=.agg [.int .i64 p.f,.int .i64 p.t,.int .i64 p.v]
def piecesI(l:List (Piece Int)):PV:=.sl 3 (l.map pieceI)
theorem findI_cr [Gi](l:List (Piece Int))(zero i last:Int)(hn:l.length<2^31)(hb:∀p∈l, -1000000000≤p.f∧p.f≤1000000000):
  CR Tryz.prog 159 [] [.p (piecesI l),.p (.int .i64 zero),.p (.int .i64 i),.p (.int .i64 last)] [] (is (.tup [.p (.int .i64 (findL zero i l last).1),.p (.int .i64 (findL zero i l last).2)])):=by
 refine CR_of_wpD [5] mixed 15 [] Tryz.func159 rfl (by kernel_rfl) rfl (by simp) (by simp) ?_
 simp (disch:=omega) [go_sem,Tryz.f159,piecesI]
 refine wpA_loop (fun k:Nat×Int=>k.1≤l.length∧findL zero i l last=findL zero i (l.drop k.1) k.2) (fun k=>{n:=52,nv:=15,vs:=[(1,.p (.int .i64 zero)),(2,.p (.int .i64 i)),(3,.p (.int .i64 k.2)),(8,.p (.int .i64 0)),(9,.p (.int .i64 0)),(12,.p (piecesI l)),(13,.p (.int .i64 l.length)),(14,.p (.int .i64 k.1))],ts:=[],rs:=[]}) (fun k=>l.length-k.1) (0,last) (by simp) (by simp[go_sem,LeS,leV,leR,leA,leL,piecesI]) ?_
 rintro⟨k,la⟩ ⟨hk,hf⟩
 simp only at hk hf
 simp (disch:=omega) [go_sem,piecesI]
 refine condK_if (fun h=>?_) (fun h=>?_)
 ·have em:=elemAt_map pieceI l k h
  have hd:l.drop k=l[k]::l.drop (k+1):=List.drop_eq_getElem_cons h
  have hx:=hb l[k] (List.getElem_mem h)
  have w2:IntKind.i64.wrap ((k:Int)+1)=(k:Int)+1:=wrap64 (by omega) (by omega)
  rw[hd,findL]at hf
  generalize l[k]=x at em hx hf
  have w1:IntKind.i64.wrap (x.f-1)=x.f-1:=wrap64 (by omega) (by omega)
  simp (disch:=omega) [go_sem,em,h,pieceI]
  refine condK_split (fun hc=>?_) (fun hc=>?_)
  ·have hc':x.f≤i∧i≤x.t:=by simpa using hc
   rw[if_pos hc']at hf
   simp (disch:=omega) [go_sem]
   exact ret_is (.tup [.p (.int .i64 x.v),.p (.int .i64 (min x.t la))]) rfl (by simp[go_sem,resOf,leA]) ⟨rfl,by rw[hf]⟩
  ·have hc':¬(x.f≤i∧i≤x.t):=by intro e;simp[e]at hc
   rw[if_neg hc']at hf
   simp (disch:=omega) [go_sem]
   refine condK_split (fun hc2=>?_) (fun hc2=>?_)
   ·have hc3:i<x.f∧x.f≤la:=by simpa using hc2
    rw[if_pos hc3]at hf
    simp (disch:=omega) [go_sem,w1,w2]
    exact LoopK_next (k+1,x.f-1) ⟨by show k+1≤l.length;omega,hf⟩ (by simp[go_sem,LeS,leV,leR,leA,leL,piecesI,w2]) (by show l.length- (k+1)<l.length-k;omega)
   ·have hc3:¬(i<x.f∧x.f≤la):=by intro e;simp[e]at hc2
    rw[if_neg hc3]at hf
    simp (disch:=omega) [go_sem,w2]
    exact LoopK_next (k+1,la) ⟨by show k+1≤l.length;omega,hf⟩ (by simp[go_sem,LeS,leV,leR,leA,leL,piecesI,w2]) (by show l.length- (k+1)<l.length-k;omega)
 ·have hk':k=l.length:=by omega
  subst hk'
  rw[List.drop_length,findL]at hf
  simp (disch:=omega) [go_sem]
  exact ret_is (.tup [.p (.int .i64 zero),.p (.int .i64 la)]) rfl (by simp[go_sem,resOf,leA]) ⟨rfl,by rw[hf]⟩
end Go.Proofs.YtjefahhmkcfiiaaGreat
end
section
namespace Go.Proofs.YtjefahhmkcfiiaaGreat
open Go.AM
set_option maxHeartbeats 2000000
set_option maxRecDepth 10000
structure Pair where
 a:Int
 b:Int
 deriving DecidableEq
def pairL(p:Pair):List PV:=[.int .i32 p.a,.int .i32 p.b]
structure Flags where
 p:Bool
 w:Bool
 l:Bool
 o:Bool
 deriving DecidableEq
def flagsL(p:Flags):List PV:=[.bool p.p,.bool p.w,.bool p.l,.bool p.o]
def pieceP(p:Piece Pair):PV:=.agg (.int .i64 p.f::.int .i64 p.t::pairL p.v)
def piecesP(l:List (Piece Pair)):PV:=.sl 4 (l.map pieceP)
theorem findP_cr [Gi](l:List (Piece Pair))(zero:Pair)(i last:Int)(hn:l.length<2^31)(hb:∀p∈l, -1000000000≤p.f∧p.f≤1000000000):
  CR Tryz.prog 119 [] [.p (piecesP l),.p (.agg (pairL zero)),.p (.int .i64 i),.p (.int .i64 last)] [] (is (.tup [.p (.agg (pairL (findL zero i l last).1)),.p (.int .i64 (findL zero i l last).2)])):=by
 refine CR_of_wpD [100005] mixed 15 [] Tryz.func119 rfl (by kernel_rfl) rfl (by simp) (by simp) ?_
 simp (disch:=omega) [go_sem,Tryz.f119,piecesP,pairL]
 refine wpA_loop (fun k:Nat×Int=>k.1≤l.length∧findL zero i l last=findL zero i (l.drop k.1) k.2) (fun k=>{n:=52,nv:=15,vs:=[(2,.p (.int .i64 i)),(3,.p (.int .i64 k.2)),(5,.lp [5] 0),(8,.lp [8] 0),(9,.p (.int .i64 0)),(12,.p (piecesP l)),(13,.p (.int .i64 l.length)),(14,.p (.int .i64 k.1))],ts:=[],rs:=[([5],(pairL zero).map .p),([8],[.p (.int .i32 0),.p (.int .i32 0)])]}) (fun k=>l.length-k.1) (0,last) (by simp) (by simp[go_sem,LeS,leV,leR,leA,leL,piecesP,pairL]) ?_
 rintro⟨k,la⟩ ⟨hk,hf⟩
 simp only at hk hf
 simp (disch:=omega) [go_sem,piecesP,pairL]
 refine condK_if (fun h=>?_) (fun h=>?_)
 ·have em:=elemAt_map pieceP l k h
  have hd:l.drop k=l[k]::l.drop (k+1):=List.drop_eq_getElem_cons h
  have hx:=hb l[k] (List.getElem_mem h)
  have w2:IntKind.i64.wrap ((k:Int)+1)=(k:Int)+1:=wrap64 (by omega) (by omega)
  rw[hd,findL]at hf
  generalize l[k]=x at em hx hf
  have w1:IntKind.i64.wrap (x.f-1)=x.f-1:=wrap64 (by omega) (by omega)
  simp (disch:=omega) [go_sem,em,h,pieceP,pairL]
  refine condK_split (fun hc=>?_) (fun hc=>?_)
  ·have hc':x.f≤i∧i≤x.t:=by simpa using hc
   rw[if_pos hc']at hf
   simp (disch:=omega) [go_sem,List.findSome?]
   exact ret_is (.tup [.p (.agg (pairL x.v)),.p (.int .i64 (min x.t la))]) rfl (by simp[go_sem,resOf,leA,pairL]) ⟨rfl,by rw[hf];rfl⟩
  ·have hc':¬(x.f≤i∧i≤x.t):=by intro e;simp[e]at hc
   rw[if_neg hc']at hf
   simp (disch:=omega) [go_sem]
   refine condK_split (fun hc2=>?_) (fun hc2=>?_)
   ·have hc3:i<x.f∧x.f≤la:=by simpa using hc2
    rw[if_pos hc3]at hf
    simp (disch:=omega) [go_sem,w1,w2]
    exact LoopK_next (k+1,x.f-1) ⟨by show k+1≤l.length;omega,hf⟩ (by simp[go_sem,LeS,leV,leR,leA,leL,piecesP,pairL,w2]) (by show l.length- (k+1)<l.length-k;omega)
   ·have hc3:¬(i<x.f∧x.f≤la):=by intro e;simp[e]at hc2
    rw[if_neg hc3]at hf
    simp (disch:=omega) [go_sem,w2]
    exact LoopK_next (k+1,la) ⟨by show k+1≤l.length;omega,hf⟩ (by simp[go_sem,LeS,leV,leR,leA,leL,piecesP,pairL,w2]) (by show l.length- (k+1)<l.length-k;omega)
 ·have hk':k=l.length:=by omega
  subst hk'
  rw[List.drop_length,findL]at hf
  simp (disch:=omega) [go_sem]
  exact ret_is (.tup [.p (.agg (pairL zero)),.p (.int .i64 la)]) rfl (by simp[go_sem,resOf,leA,pairL]) ⟨rfl,by rw[hf];rfl⟩
def pieceF(p:Piece Flags):PV:=.agg (.int .i64 p.f::.int .i64 p.t::flagsL p.v)
def piecesF(l:List (Piece Flags)):PV:=.sl 6 (l.map pieceF)
theorem findF_cr [Gi](l:List (Piece Flags))(zero:Flags)(i last:Int)(hn:l.length<2^31)(hb:∀p∈l, -1000000000≤p.f∧p.f≤1000000000):
  CR Tryz.prog 164 [] [.p (piecesF l),.p (.agg (flagsL zero)),.p (.int .i64 i),.p (.int .i64 last)] [] (is (.tup [.p (.agg (flagsL (findL zero i l last).1)),.p (.int .i64 (findL zero i l last).2)])):=by
 refine CR_of_wpD [100005] mixed 15 [] Tryz.func164 rfl (by kernel_rfl) rfl (by simp) (by simp) ?_
 simp (disch:=omega) [go_sem,Tryz.f164,piecesF,flagsL]
 refine wpA_loop (fun k:Nat×Int=>k.1≤l.length∧findL zero i l last=findL zero i (l.drop k.1) k.2) (fun k=>{n:=52,nv:=15,vs:=[(2,.p (.int .i64 i)),(3,.p (.int .i64 k.2)),(5,.lp [5] 0),(8,.lp [8] 0),(9,.p (.int .i64 0)),(12,.p (piecesF l)),(13,.p (.int .i64 l.length)),(14,.p (.int .i64 k.1))],ts:=[],rs:=[([5],(flagsL zero).map .p),([8],[.p (.bool false),.p (.bool false),.p (.bool false),.p (.bool false)])]}) (fun k=>l.length-k.1) (0,last) (by simp) (by simp[go_sem,LeS,leV,leR,leA,leL,piecesF,flagsL]) ?_
 rintro⟨k,la⟩ ⟨hk,hf⟩
 simp only at hk hf
 simp (disch:=omega) [go_sem,piecesF,flagsL]
 refine condK_if (fun h=>?_) (fun h=>?_)
 ·have em:=elemAt_map pieceF l k h
  have hd:l.drop k=l[k]::l.drop (k+1):=List.drop_eq_getElem_cons h
  have hx:=hb l[k] (List.getElem_mem h)
  have w2:IntKind.i64.wrap ((k:Int)+1)=(k:Int)+1:=wrap64 (by omega) (by omega)
  rw[hd,findL]at hf
  generalize l[k]=x at em hx hf
  have w1:IntKind.i64.wrap (x.f-1)=x.f-1:=wrap64 (by omega) (by omega)
  simp (disch:=omega) [go_sem,em,h,pieceF,flagsL]
  refine condK_split (fun hc=>?_) (fun hc=>?_)
  ·have hc':x.f≤i∧i≤x.t:=by simpa using hc
   rw[if_pos hc']at hf
   simp (disch:=omega) [go_sem,List.findSome?]
   exact ret_is (.tup [.p (.agg (flagsL x.v)),.p (.int .i64 (min x.t la))]) rfl (by simp[go_sem,resOf,leA,flagsL]) ⟨rfl,by rw[hf];rfl⟩
  ·have hc':¬(x.f≤i∧i≤x.t):=by intro e;simp[e]at hc
   rw[if_neg hc']at hf
   simp (disch:=omega) [go_sem]
   refine condK_split (fun hc2=>?_) (fun hc2=>?_)
   ·have hc3:i<x.f∧x.f≤la:=by simpa using hc2
    rw[if_pos hc3]at hf
    simp (disch:=omega) [go_sem,w1,w2]
    exact LoopK_next (k+1,x.f-1) ⟨by show k+1≤l.length;omega,hf⟩ (by simp[go_sem,LeS,leV,leR,leA,leL,piecesF,flagsL,w2]) (by show l.length- (k+1)<l.length-k;omega)
   ·have hc3:¬(i<x.f∧x.f≤la):=by intro e;simp[e]at hc2
    rw[if_neg hc3]at hf
    simp (disch:=omega) [go_sem,w2]
    exact LoopK_next (k+1,la) ⟨by show k+1≤l.length;omega,hf⟩ (by simp[go_sem,LeS,leV,leR,leA,leL,piecesF,flagsL,w2]) (by show l.length- (k+1)<l.length-k;omega)
 ·have hk':k=l.length:=by omega
  subst hk'
  rw[List.drop_length,findL]at hf
  simp (disch:=omega) [go_sem]
  exact ret_is (.tup [.p (.agg (flagsL zero)),.p (.int .i64 la)]) rfl (by simp[go_sem,resOf,leA,flagsL]) ⟨rfl,by rw[hf];rfl⟩
end Go.Proofs.YtjefahhmkcfiiaaGreat
end
section
namespace Go.Proofs.YtjefahhmkcfiiaaGreat
open Go.AM
set_option maxHeartbeats 2000000
set_option maxRecDepth 10000
def trieP(w size:Nat)(idx:List Nat)(blocks:List (List PV)):PV:=.agg [.int .i64 size,.sl 1 (idx.map fun k:Nat=>.int .i64 k),.sl (128*w) (blocks.map .agg)]
def Tells(w:Nat)(idx:List Nat)(blocks:List (List PV))(i:Nat)(v:List PV):Prop:=
 ∃k cs,idx[i/128]?=some k∧blocks[k]?=some cs∧cs.length=128*w∧(cs.drop (i%128*w)).take w=v
theorem getI_cr [Gi](size:Nat)(idx:List Nat)(blocks:List (List PV))(i:Nat)(v:Int)(hs:size<2^31)(hi:i<size)(h:Tells 1 idx blocks i [.int .i64 v]):
  CR Tryz.prog 170 [] [.p (.pt 3 (trieP 1 size idx blocks)),.p (.int .i64 i)] [] (is (.p (.int .i64 v))):=by
 obtain⟨k,cs,h1,h2,h3,h4⟩:=h
 refine CR_of_wpD [] mixed 6 [] Tryz.func170 rfl (by kernel_rfl) rfl (by simp) (by simp) ?_
 have e1:¬(size:Int)≤i:=by omega
 have e2:¬(i:Int)<0:=by omega
 obtain⟨n1,h1⟩:=List.getElem?_eq_some_iff.1 h1
 obtain⟨n2,h2⟩:=List.getElem?_eq_some_iff.1 h2
 have m1:=elemAt_map (fun k:Nat=>PV.int .i64 k) idx (i/128) n1
 have m2:=elemAt_map PV.agg blocks k n2
 rw[h1]at m1
 rw[h2]at m2
 have q1:(i:Int).tdiv 128=((i/128:Nat):Int):=rfl
 have q2:(i:Int).tmod 128=((i%128:Nat):Int):=rfl
 have w1:IntKind.i64.wrap ((i:Int)/128)=((i/128:Nat):Int):=by rw[wrap64 (by omega) (by omega)];omega
 have w2:IntKind.i64.wrap ((i:Int)%128)=((i%128:Nat):Int):=by rw[wrap64 (by omega) (by omega)];omega
 have t1:((i:Int)/128).toNat=i/128:=by omega
 have t2:((i:Int)%128).toNat=i%128:=by omega
 have b0:0≤(i:Int)/128:=by omega
 have b1:(i:Int)/128<idx.length:=by omega
 have b2:0≤(i:Int)%128:=by omega
 have b3:(i:Int)%128<128:=by omega
 have hv:cs[i%128]?=some (.int .i64 v):=by
  simp only[Nat.mul_one]at h4
  rw[←List.head?_drop]
  cases hd:cs.drop (i%128)with
  |nil=>rw[hd]at h4;simp at h4
  |cons a l=>rw[hd]at h4;simp at h4;simp[h4]
 simp only[Nat.mul_one]at h3
 obtain⟨n3,hv'⟩:=List.getElem?_eq_some_iff.1 hv
 simp (disch:=omega) [go_sem,Tryz.f170,trieP,e1,e2,q1,q2,w1,w2,m1,m2,n1,n2,t1,t2,b0,b1,b2,b3,hv,hv',h3]
 exact ret_is (.p (.int .i64 v)) rfl (by simp[go_sem,resOf,leA]) ⟨rfl,rfl⟩
end Go.Proofs.YtjefahhmkcfiiaaGreat
end
section
namespace Go.Proofs.YtjefahhmkcfiiaaGreat
open Go.AM
set_option maxHeartbeats 2000000
set_option maxRecDepth 10000
theorem getP_cr [Gi](size:Nat)(idx:List Nat)(blocks:List (List PV))(i:Nat)(v:Pair)(hs:size<2^31)(hi:i<size)(h:Tells 2 idx blocks i (pairL v)):
  CR Tryz.prog 69 [] [.p (.pt 3 (trieP 2 size idx blocks)),.p (.int .i64 i)] [] (is (.p (.agg (pairL v)))):=by
 obtain⟨k,cs,h1,h2,h3,h4⟩:=h
 refine CR_of_wpD [] mixed 6 [] Tryz.func69 rfl (by kernel_rfl) rfl (by simp) (by simp) ?_
 have e1:¬(size:Int)≤i:=by omega
 have e2:¬(i:Int)<0:=by omega
 obtain⟨n1,h1⟩:=List.getElem?_eq_some_iff.1 h1
 obtain⟨n2,h2⟩:=List.getElem?_eq_some_iff.1 h2
 have m1:=elemAt_map (fun k:Nat=>PV.int .i64 k) idx (i/128) n1
 have m2:=elemAt_map PV.agg blocks k n2
 rw[h1]at m1
 rw[h2]at m2
 have q1:(i:Int).tdiv 128=((i/128:Nat):Int):=rfl
 have q2:(i:Int).tmod 128=((i%128:Nat):Int):=rfl
 have w1:IntKind.i64.wrap ((i:Int)/128)=((i/128:Nat):Int):=by rw[wrap64 (by omega) (by omega)];omega
 have w2:IntKind.i64.wrap ((i:Int)%128)=((i%128:Nat):Int):=by rw[wrap64 (by omega) (by omega)];omega
 have t1:((i:Int)/128).toNat=i/128:=by omega
 have t2:((i:Int)%128).toNat=i%128:=by omega
 have b0:0≤(i:Int)/128:=by omega
 have b1:(i:Int)/128<idx.length:=by omega
 have b2:0≤(i:Int)%128:=by omega
 have b3:(i:Int)%128<128:=by omega
 have hl:i%128*2+2≤cs.length:=by omega
 simp only[pairL]at h4
 simp (disch:=omega) [go_sem,Tryz.f69,trieP,e1,e2,q1,q2,w1,w2,m1,m2,n1,n2,t1,t2,b0,b1,b2,b3,h4,h3,pairL]
 exact⟨by omega,ret_is (.p (.agg (pairL v))) rfl (by simp[go_sem,resOf,leA,pairL]) ⟨rfl,rfl⟩⟩
theorem getF_cr [Gi](size:Nat)(idx:List Nat)(blocks:List (List PV))(i:Nat)(v:Flags)(hs:size<2^31)(hi:i<size)(h:Tells 4 idx blocks i (flagsL v)):
  CR Tryz.prog 123 [] [.p (.pt 3 (trieP 4 size idx blocks)),.p (.int .i64 i)] [] (is (.p (.agg (flagsL v)))):=by
 obtain⟨k,cs,h1,h2,h3,h4⟩:=h
 refine CR_of_wpD [] mixed 6 [] Tryz.func123 rfl (by kernel_rfl) rfl (by simp) (by simp) ?_
 have e1:¬(size:Int)≤i:=by omega
 have e2:¬(i:Int)<0:=by omega
 obtain⟨n1,h1⟩:=List.getElem?_eq_some_iff.1 h1
 obtain⟨n2,h2⟩:=List.getElem?_eq_some_iff.1 h2
 have m1:=elemAt_map (fun k:Nat=>PV.int .i64 k) idx (i/128) n1
 have m2:=elemAt_map PV.agg blocks k n2
 rw[h1]at m1
 rw[h2]at m2
 have q1:(i:Int).tdiv 128=((i/128:Nat):Int):=rfl
 have q2:(i:Int).tmod 128=((i%128:Nat):Int):=rfl
 have w1:IntKind.i64.wrap ((i:Int)/128)=((i/128:Nat):Int):=by rw[wrap64 (by omega) (by omega)];omega
 have w2:IntKind.i64.wrap ((i:Int)%128)=((i%128:Nat):Int):=by rw[wrap64 (by omega) (by omega)];omega
 have t1:((i:Int)/128).toNat=i/128:=by omega
 have t2:((i:Int)%128).toNat=i%128:=by omega
 have b0:0≤(i:Int)/128:=by omega
 have b1:(i:Int)/128<idx.length:=by omega
 have b2:0≤(i:Int)%128:=by omega
 have b3:(i:Int)%128<128:=by omega
 have hl:i%128*4+4≤cs.length:=by omega
 simp only[flagsL]at h4
 simp (disch:=omega) [go_sem,Tryz.f123,trieP,e1,e2,q1,q2,w1,w2,m1,m2,n1,n2,t1,t2,b0,b1,b2,b3,h4,h3,flagsL]
 exact⟨by omega,ret_is (.p (.agg (flagsL v))) rfl (by simp[go_sem,resOf,leA,flagsL]) ⟨rfl,rfl⟩⟩
end Go.Proofs.YtjefahhmkcfiiaaGreat
end
section
namespace Go.Proofs.YtjefahhmkcfiiaaGreat
open Go.AM
set_option maxHeartbeats 4000000
set_option maxRecDepth 10000
def placeT:OT:=.now 0 2 (.now 1 2 (.now 2 2 (.now 4 1 (.now 5 1 (.now 6 1 (.now 7 1 (.now 8 1 (.now 9 1 (.now 10 1 (.now 11 0 (.mk [(3,.mk [(12,.mk [(13,.now 14 0 (.now 15 0 (.mk [(16,.mk [])])))])]),(12,.mk [(3,.mk [(13,.now 14 0 (.now 15 0 (.mk [(16,.mk [])])))]),(13,.now 3 0 (.now 14 0 (.now 15 0 (.mk [(16,.mk [])]))))])])))))))))))
def natsP(n:Nat):List PV:=(List.range n).map fun k:Nat=>.int .i64 k
theorem natsP_succ(n:Nat):natsP (n+1)=natsP n++[.int .i64 (n:Nat)]:=by simp[natsP,List.range_succ]
def makerR(w size:Nat)(X:AV)(tk:Tok)(blocks:List (List PV))(k2 x2:List PV):List (Tok×List AV):=
 [([0],[.lp [1] 0,.om [902] (blocks.map .agg) (natsP blocks.length),.om [903] k2 x2]),([1],[.p (.int .i64 size),X,.os tk (128*w) (blocks.map .agg)])]
def idxA(own:Bool)(idx:List Nat):AV:=if own then .os [904] 1 (idx.map fun k:Nat=>.int .i64 k)else .p (.sl 1 (idx.map fun k:Nat=>.int .i64 k))
theorem placeI_cr [Gi](own:Bool)(size:Nat)(idx:List Nat)(blocks:List (List PV))(k2 x2:List PV)(cs:List PV)(hc:okC (reps 128 [.i .i64]) cs=true)(hb:∀b∈blocks,okC (reps 128 [.i .i64]) b=true)(hn:blocks.length<2^31):
  CR Tryz.prog 161 [[0],[1]] [.lp [0] 0,.p (.agg cs)] (makerR 1 size (idxA own idx) [905] blocks k2 x2)
   (fun x rs=>(∃k:Nat,x=.p (.int .i64 k)∧blocks[k]?=some cs∧rs=makerR 1 size (idxA own idx) [905] blocks k2 x2)∨
    (x=.p (.int .i64 blocks.length)∧rs=makerR 1 size (idxA own idx) [1,2] (blocks++[cs]) k2 x2)):=by
 have hl:cs.length=128:=by simpa[length_reps]using okC_len hc
 have ht:=take_mapP hl
 have hall:(blocks.map PV.agg).all (fun k=>okC (reps 128 [.i .i64]) k.cells)=true:=by simpa[PV.cells]using hb
 cases own<;>
 ·refine CR_of_wpD [1,200005] mixed 8 [] Tryz.func161 rfl (by kernel_rfl) rfl (by simp) (by simp) ?_
  cases hf:findP cs (blocks.map PV.agg) (natsP blocks.length) 0 with
  |none=>
   simp (disch:=omega) [go_sem,Tryz.f161,makerR,idxA,lookupA,mapOf,lookV,ht,hl,hc,hb,hf]
   refine⟨hb,TreeK_of placeT (by kernel_rfl) ?_⟩
   simp (disch:=omega) [go_sem,placeT,ht,hl,hc,hb,hf]
   have e0:(reps 128 [PV.int IntKind.i64 0]).length=128:=by simp[length_reps]
   have e1:∀x∈reps 128 [PV.int IntKind.i64 0],(match x with|PV.agg cs=>false|PV.opq u=>u.oneCell'|x=>true)=true:=fun x hx=>by
    obtain⟨l,hl,hx⟩:=List.mem_flatten.1 hx
    rw[List.eq_of_mem_replicate hl]at hx
    rw[List.mem_singleton.1 hx]
   have u1:updKs (PV.agg cs) (List.map PV.agg blocks) (natsP blocks.length)=List.map PV.agg blocks++[PV.agg cs]:=by simp[updKs,PV.cells,hf]
   have u2:updXs (PV.agg cs) (PV.int IntKind.i64 ↑blocks.length) (List.map PV.agg blocks) (natsP blocks.length)=natsP (blocks.length+1):=by rw[natsP_succ];simp only[updXs,PV.cells,hf]
   refine⟨⟨e0,e1⟩,⟨e0,by omega⟩,?_⟩
   exact ret_keep [[0],[1]] (.p (.int .i64 blocks.length)) ⟨rfl,by simp⟩ (by simp[go_sem,resOf,leA,leT]) (.inr ⟨rfl,by simp[go_sem,u1,u2]⟩)
  |some r=>
   obtain⟨j,x⟩:=r
   obtain⟨_,k,h3,h4,h5⟩:=findP_some hc hall hf
   simp only[Nat.sub_zero]at h3 h5
   simp only[List.getElem?_map,Option.map_eq_some_iff]at h3
   obtain⟨b,h3,rfl⟩:=h3
   simp only[PV.cells]at h4
   subst h4
   have hx:x=.int .i64 (j:Nat):=by
    simp only[natsP,List.getElem?_map,Option.map_eq_some_iff]at h5
    obtain⟨q,hq,rfl⟩:=h5
    rw[List.getElem?_range (List.getElem?_eq_some_iff.1 h3).1]at hq
    injection hq with hq;rw[hq]
   subst hx
   simp (disch:=omega) [go_sem,Tryz.f161,makerR,idxA,lookupA,mapOf,lookV,ht,hl,hc,hb,hf]
   refine⟨hb,?_⟩
   exact ret_keep [[0],[1]] (.p (.int .i64 j)) ⟨rfl,by simp⟩ (by simp[go_sem,resOf,leA,leT]) (.inl ⟨j,rfl,h3,by simp[go_sem]⟩)
end Go.Proofs.YtjefahhmkcfiiaaGreat
end
