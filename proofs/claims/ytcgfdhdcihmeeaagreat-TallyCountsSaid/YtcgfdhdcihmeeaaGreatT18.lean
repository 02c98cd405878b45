/- A part of the proof of this seat's statements, by an abstract machine: what each operation does to values, and what the law's functions compute. Conditions: as each law says. -/
import Derived.Test.YtcgfdhdcihmeeaaGreatT17
import Derived.Test.YtcgfdhdcihmeeaaGreatT16
section
namespace Go.Proofs.YtcgfdhdcihmeeaaGreat
open Go.AM
set_option maxHeartbeats 400000
set_option maxRecDepth 10000
def is(x:AV):AV→List (Tok×List AV)→Prop:=fun y rs=>rs=[]∧y=x
structure Row where
 k:Int
 f:Int
 t:Int
 a:Int
 b:Int
 deriving DecidableEq
def rowP(r:Row):PV:=.agg [.int .i64 r.k,.int .i64 r.f,.int .i64 r.t,.int .i64 r.a,.int .i64 r.b]
def zU(l:List Row):PV:=.sl 5 (l.map rowP)
def rowOf(o:Oper):Option (Nat×Row):=
 match o.dst,o.guard,o.op with
 |some d,none,.build 109 ⟨[(0,.const (.int .i64 k)),(1,.const (.int .i64 f)),(2,.const (.int .i64 t)),(3,.const (.int .i64 a)),(4,.const (.int .i64 b))]⟩=>some (d,⟨k,f,t,a,b⟩)
 |_,_,_=>none
def VT(S:St):Nat→List Row→St
 |_,[]=>S
 |d,r::rs=>VT (S.set d (.p (rowP r))) (d+1) rs
theorem Y0:∀(rs:List Row) (S:St) (d:Nat),S.nv≤d→S.ex=[]→∃ts,VT S d rs={S with ts:=ts}
 | [],S,_,_,_=>⟨S.ts,rfl⟩
 |r::rs,S,d,h,he=>by
  have e:S.set d (.p (rowP r))={S with ts:=(d,.p (rowP r))::S.ts}:=by
   unfold St.set St.kept
   rw[he,if_neg (by simp;omega)]
  obtain⟨ts,h'⟩:=Y0 rs (S.set d (.p (rowP r))) (d+1) (by rw[e];show S.nv≤d+1;omega) (by rw[e];exact he)
  exact⟨ts,by rw[VT,h',e]⟩
theorem zaW:∀(rs:List Row) (S:St) (d t:Nat),(VT S d rs).get t=if d≤t then match rs[t-d]? with|some r=>.p (rowP r)|none=>S.get t else S.get t
 | [],S,d,t=>by simp[VT]
 |r::rs,S,d,t=>by
  rw[VT,zaW rs,St.X3]
  rcases Nat.lt_trichotomy t d with h|h|h
  ·rw[if_neg (show ¬d+1≤t by omega),if_neg (show ¬d=t by omega),if_neg (show ¬d≤t by omega)]
  ·subst h
   rw[if_neg (show ¬t+1≤t by omega),if_pos rfl,if_pos (Nat.le_refl _)]
   simp
  ·have e:t-d=(t- (d+1))+1:=by omega
   rw[if_pos (show d+1≤t by omega),if_pos (show d≤t by omega),if_neg (show ¬d=t by omega),e,List.getElem?_cons_succ]
theorem row_step [Gi] {o:Oper} {rest:List Oper} {d:Nat} {r:Row}(h:rowOf o=some (d,r)) {ops:Array Oper} {S:St}(hd:d<S.n) {K:St→Prop}:Ze Tryz.prog ops (o::rest) S K=Ze Tryz.prog ops rest (S.set d (.p (rowP r))) K:=by
 unfold rowOf at h
 split at h
 ·rename_i d' k f t a b h1 h2 h3
  injection h with h;injection h with h4 h5;subst h4;subst h5
  obtain⟨dst,op,ty,pos,af,gu⟩:=o
  simp only at h1 h2 h3
  subst h1;subst h2;subst h3
  simp[go_sem,rowP,hd]
 ·cases h
theorem Yn [Gi] {ops:Array Oper} {K:St→Prop}:∀(rows:List Row) (l:List Oper) (d:Nat) (S:St),(l.take rows.length).map rowOf=(rows.zipIdx d).map (fun x=>some (x.2,x.1))→d+rows.length≤S.n→
  Ze Tryz.prog ops (l.drop rows.length) (VT S d rows) K→Ze Tryz.prog ops l S K
 | [],l,d,S,_,_,h=>by simpa[VT]using h
 |r::rows,[],d,S,e,_,_=>by simp at e
 |r::rows,o::l,d,S,e,hn,h=>by
  simp only[List.length_cons,List.take_succ_cons,List.map_cons,List.zipIdx_cons,List.cons.injEq]at e
  simp only[List.length_cons]at hn
  rw[row_step e.1 (by omega)]
  exact Yn rows l (d+1) _ e.2 (by rw[St.zfq];omega) (by simpa[VT]using h)
theorem zcP {S:St}(d:Nat)(rows:List Row):∀(i:Nat) (l:List (Nat×Operand)),l=((rows.drop i).zipIdx i).map (fun x=>(x.2,.tmp (d+x.2)))→
  ∃c:Prop,c∧Zh (VT S d rows) l=(c,some (((rows.drop i).zipIdx i).map fun x=>(x.2,rowP x.1))):=by
 intro i l
 induction l generalizing i with
 |nil=>
  intro e
  cases hr:rows.drop i with
  |nil=>exact⟨True,trivial,rfl⟩
  |cons r rs=>rw[hr]at e;simp at e
 |cons x l ih=>
  intro e
  cases hr:rows.drop i with
  |nil=>rw[hr]at e;simp at e
  |cons r rs=>
   have hi:rows[i]?=some r:=by
    have:=congrArg (·[0]?) hr
    simpa using this
   have hrs:rs=rows.drop (i+1):=by
    have:=congrArg List.tail hr
    simpa using this.symm
   rw[hr]at e
   simp only[List.zipIdx_cons,List.map_cons,List.cons.injEq]at e
   obtain⟨rfl,e2⟩:=e
   obtain⟨c,hc,hp⟩:=ih (i+1) (by rw[e2,hrs])
   have hg:(VT S d rows).ev (.tmp (d+i))=.p (rowP r):=by
    show(VT S d rows).get (d+i)=_
    rw[zaW,if_pos (by omega)]
    simp[hi]
   refine⟨(unG ((VT S d rows).ev (.tmp (d+i)))).1∧c,⟨by rw[hg];simp[go_sem],hc⟩,?_⟩
   unfold Zh
   rw[hp,hg]
   simp[go_sem,hrs]
theorem zdJ(rows:List Row)(i:Nat):sizedB 5 ((rows.zipIdx i).map fun x=>(x.2,rowP x.1))=true:=by
 unfold sizedB
 rw[List.all_eq_true]
 intro x hx
 obtain⟨y,_,rfl⟩:=List.mem_map.1 hx
 rfl
theorem ka [Gi] {f:FuncId} {fn:Func}(rows:List Row) {l:List Oper} {o0 o1 o2:Oper} {i0 i1:Nat} {parts:Array (Nat×Operand)}(hf:Tryz.prog.funcs[f]?=some fn)
  (hb:fn.body=some (.seq (.region i0 [o0].toArray false) (.seq (.region i1 l.toArray false) .ret)))
  (hn:fn.ntmps=rows.length+2) (hres:uN fn.results.toList=some [(0,none)])
  (h0:o0.op=.assign (.const (.slice none 0 0))∧o0.dst=some 0∧o0.guard=none∧o0.type=27)
  (hl:(l.take rows.length).map rowOf=(rows.zipIdx 1).map (fun x=>some (x.2,x.1))) (hd:l.drop rows.length=[o1,o2])
  (h1:o1.op=.buildSlice 27 rows.length parts∧o1.dst=some (rows.length+1)∧o1.guard=none)
  (hp:parts.toList=(rows.zipIdx 0).map (fun x=>(x.2,.tmp (1+x.2))))
  (h2:o2.op=.assign (.tmp (rows.length+1))∧o2.dst=some 0∧o2.guard=none∧o2.type=27) (hs:rows.length*5≤2^24) (hok:q9 [] (.seq (.region i0 [o0].toArray false) (.seq (.region i1 l.toArray false) .ret))=true):
  CR Tryz.prog f [] [] [] (is (.p (zU rows))):=by
 refine zC mixed 1 [] hf hb hok hres (by simp) (by simp) ?_
 obtain⟨d0,p0,t0,s0,a0,g0⟩:=o0
 obtain⟨d1,p1,t1,s1,a1,g1⟩:=o1
 obtain⟨d2,p2,t2,s2,a2,g2⟩:=o2
 simp only at h0 h1 h2
 obtain⟨rfl,rfl,rfl,rfl⟩:=h0
 obtain⟨rfl,rfl,rfl⟩:=h1
 obtain⟨rfl,rfl,rfl,rfl⟩:=h2
 rw[hn]
 simp (disch:=omega) [go_sem]
 refine Yn rows l 1 _ hl (by show 1+rows.length≤rows.length+2;omega) ?_
 rw[hd]
 generalize hS:({n:=rows.length+2,nv:=1,vs:=[(0,AV.os [0] 5 [])],ts:=[],rs:=[]}:St)=S0
 obtain⟨c,hc,hp'⟩:=zcP (S:=S0) 1 rows 0 parts.toList (by simpa using hp)
 have hm:(((rows.drop 0).zipIdx 0).map (fun x=>(x.2,rowP x.1))).map (·.1)=List.range' 0 rows.length:=by
  rw[List.map_map]
  exact(List.zipIdx_map_snd ..)
 have hm2:(((rows.drop 0).zipIdx 0).map (fun x=>(x.2,rowP x.1))).map (·.2)=rows.map rowP:=by
  rw[List.map_map]
  show List.map (rowP∘Prod.fst) _=_
  rw[←List.map_map,List.zipIdx_map_fst]
  rfl
 have hsz:=zdJ (rows.drop 0) 0
 generalize ((rows.drop 0).zipIdx 0).map (fun x=>(x.2,rowP x.1))=L at hp' hm hm2 hsz
 obtain⟨ts,hS1⟩:=Y0 rows S0 1 (by rw[←hS];exact Nat.le_refl _) (by rw[←hS])
 rw[hS1,←hS]at hp'
 rw[hS1,←hS]
 simp (disch:=omega) [go_sem,hp',hm,hm2,hc,hs]
 exact⟨by simpa[go_sem]using hsz,zh _ rfl (by simp[go_sem,zf,leA,zU]) ⟨rfl,rfl⟩⟩
def JE:List Row:=[
 ⟨1,768,788,230,0⟩,⟨1,789,789,232,0⟩,⟨1,790,793,220,0⟩,⟨1,794,794,232,0⟩,⟨1,795,795,216,0⟩,⟨1,796,800,220,0⟩,
 ⟨1,801,802,202,0⟩,⟨1,803,806,220,0⟩,⟨1,807,808,202,0⟩,⟨1,809,819,220,0⟩,⟨1,820,824,1,0⟩,⟨1,825,828,220,0⟩,
 ⟨1,829,836,230,0⟩,⟨1,837,837,240,0⟩,⟨1,838,838,230,0⟩,⟨1,839,841,220,0⟩,⟨1,842,844,230,0⟩,⟨1,845,846,220,0⟩,
 ⟨1,848,850,230,0⟩,⟨1,851,854,220,0⟩,⟨1,855,855,230,0⟩,⟨1,856,856,232,0⟩,⟨1,857,858,220,0⟩,⟨1,859,859,230,0⟩,
 ⟨1,860,860,233,0⟩,⟨1,861,862,234,0⟩,⟨1,863,863,233,0⟩,⟨1,864,865,234,0⟩,⟨1,866,866,233,0⟩,⟨1,867,879,230,0⟩,
 ⟨1,1155,1159,230,0⟩,⟨1,1456,1456,10,0⟩,⟨1,1457,1457,11,0⟩,⟨1,1458,1458,12,0⟩,⟨1,1459,1459,13,0⟩,⟨1,1460,1460,14,0⟩,
 ⟨1,1461,1461,15,0⟩,⟨1,1462,1462,16,0⟩,⟨1,1463,1463,17,0⟩,⟨1,1464,1464,18,0⟩,⟨1,1465,1466,19,0⟩,⟨1,1467,1467,20,0⟩,
 ⟨1,1468,1468,21,0⟩,⟨1,1469,1469,22,0⟩,⟨1,1471,1471,23,0⟩,⟨1,1473,1473,24,0⟩,⟨1,1474,1474,25,0⟩,⟨1,1479,1479,18,0⟩,
 ⟨1,1611,1611,27,0⟩,⟨1,1612,1612,28,0⟩,⟨1,1613,1613,29,0⟩,⟨1,1614,1614,30,0⟩,⟨1,1615,1615,31,0⟩,⟨1,1616,1616,32,0⟩,
 ⟨1,1617,1617,33,0⟩,⟨1,1618,1618,34,0⟩,⟨1,1619,1620,230,0⟩,⟨1,1621,1622,220,0⟩,⟨1,1648,1648,35,0⟩,⟨1,2364,2364,7,0⟩,
 ⟨1,2381,2381,9,0⟩,⟨1,2385,2385,230,0⟩,⟨1,2386,2386,220,0⟩,⟨1,2387,2388,230,0⟩,⟨1,2492,2492,7,0⟩,⟨1,2509,2509,9,0⟩,
 ⟨1,3021,3021,9,0⟩,⟨1,3640,3641,103,0⟩,⟨1,3642,3642,9,0⟩,⟨1,3656,3659,107,0⟩,⟨1,3953,3953,129,0⟩,⟨1,3954,3954,130,0⟩,
 ⟨1,3956,3956,132,0⟩,⟨1,8400,8401,230,0⟩,⟨1,8402,8403,1,0⟩,⟨1,8404,8407,230,0⟩,⟨1,8411,8412,230,0⟩,⟨1,8417,8417,230,0⟩,
 ⟨1,8424,8424,220,0⟩,⟨1,12441,12442,8,0⟩,⟨1,65056,65062,230,0⟩,⟨1,119141,119141,216,0⟩]
def zdL:List Row:=[
 ⟨2,192,192,65,768⟩,⟨2,193,193,65,769⟩,⟨2,194,194,65,770⟩,⟨2,195,195,65,771⟩,⟨2,196,196,65,776⟩,⟨2,197,197,65,778⟩,
 ⟨2,199,199,67,807⟩,⟨2,200,200,69,768⟩,⟨2,201,201,69,769⟩,⟨2,202,202,69,770⟩,⟨2,203,203,69,776⟩,⟨2,204,204,73,768⟩,
 ⟨2,205,205,73,769⟩,⟨2,206,206,73,770⟩,⟨2,207,207,73,776⟩,⟨2,209,209,78,771⟩,⟨2,210,210,79,768⟩,⟨2,211,211,79,769⟩,
 ⟨2,212,212,79,770⟩,⟨2,213,213,79,771⟩,⟨2,214,214,79,776⟩,⟨2,217,217,85,768⟩,⟨2,218,218,85,769⟩,⟨2,219,219,85,770⟩,
 ⟨2,220,220,85,776⟩,⟨2,221,221,89,769⟩,⟨2,224,224,97,768⟩,⟨2,225,225,97,769⟩,⟨2,226,226,97,770⟩,⟨2,227,227,97,771⟩,
 ⟨2,228,228,97,776⟩,⟨2,229,229,97,778⟩,⟨2,231,231,99,807⟩,⟨2,232,232,101,768⟩,⟨2,233,233,101,769⟩,⟨2,234,234,101,770⟩,
 ⟨2,235,235,101,776⟩,⟨2,236,236,105,768⟩,⟨2,237,237,105,769⟩,⟨2,238,238,105,770⟩,⟨2,239,239,105,776⟩,⟨2,241,241,110,771⟩,
 ⟨2,242,242,111,768⟩,⟨2,243,243,111,769⟩,⟨2,244,244,111,770⟩,⟨2,245,245,111,771⟩,⟨2,246,246,111,776⟩,⟨2,249,249,117,768⟩,
 ⟨2,250,250,117,769⟩,⟨2,251,251,117,770⟩,⟨2,252,252,117,776⟩,⟨2,253,253,121,769⟩,⟨2,255,255,121,776⟩,⟨2,256,256,65,772⟩,
 ⟨2,257,257,97,772⟩,⟨2,258,258,65,774⟩,⟨2,259,259,97,774⟩,⟨2,260,260,65,808⟩,⟨2,261,261,97,808⟩,⟨2,262,262,67,769⟩,
 ⟨2,263,263,99,769⟩,⟨2,268,268,67,780⟩,⟨2,269,269,99,780⟩,⟨2,274,274,69,772⟩,⟨2,275,275,101,772⟩,⟨2,280,280,69,808⟩,
 ⟨2,281,281,101,808⟩,⟨2,304,304,73,775⟩,⟨2,323,323,78,769⟩,⟨2,324,324,110,769⟩,⟨2,352,352,83,780⟩,⟨2,353,353,115,780⟩,
 ⟨2,381,381,90,780⟩,⟨2,382,382,122,780⟩,⟨2,416,416,79,795⟩,⟨2,417,417,111,795⟩,⟨2,431,431,85,795⟩,⟨2,432,432,117,795⟩,
 ⟨2,469,469,220,772⟩,⟨2,470,470,252,772⟩,⟨2,471,471,220,769⟩,⟨2,472,472,252,769⟩,⟨2,480,480,550,772⟩,⟨2,481,481,551,772⟩,
 ⟨2,550,550,65,775⟩,⟨2,551,551,97,775⟩,⟨2,832,832,768,0⟩,⟨2,833,833,769,0⟩,⟨2,835,835,787,0⟩,⟨2,836,836,776,769⟩,
 ⟨2,884,884,697,0⟩,⟨2,894,894,59,0⟩,⟨2,901,901,168,769⟩,⟨2,902,902,913,769⟩,⟨2,903,903,183,0⟩,⟨2,904,904,917,769⟩,
 ⟨2,912,912,970,769⟩,⟨2,940,940,945,769⟩,⟨2,941,941,949,769⟩,⟨2,944,944,971,769⟩,⟨2,970,970,953,776⟩,⟨2,971,971,965,776⟩,
 ⟨2,2345,2345,2344,2364⟩,⟨2,2353,2353,2352,2364⟩,⟨2,2356,2356,2355,2364⟩,⟨2,2392,2392,2325,2364⟩,⟨2,2393,2393,2326,2364⟩,⟨2,2396,2396,2337,2364⟩,
 ⟨2,2507,2507,2503,2494⟩,⟨2,2508,2508,2503,2519⟩,⟨2,3018,3018,3014,3006⟩,⟨2,3955,3955,3953,3954⟩,⟨2,3957,3957,3953,3956⟩,⟨2,7692,7692,68,803⟩,
 ⟨2,7693,7693,100,803⟩,⟨2,7776,7776,83,775⟩,⟨2,7777,7777,115,775⟩,⟨2,7778,7778,83,803⟩,⟨2,7779,7779,115,803⟩,⟨2,7784,7784,7778,775⟩,
 ⟨2,7785,7785,7779,775⟩,⟨2,7840,7840,65,803⟩,⟨2,7841,7841,97,803⟩,⟨2,7842,7842,65,777⟩,⟨2,7843,7843,97,777⟩,⟨2,7844,7844,194,769⟩,
 ⟨2,7845,7845,226,769⟩,⟨2,7846,7846,194,768⟩,⟨2,7847,7847,226,768⟩,⟨2,7848,7848,194,777⟩,⟨2,7849,7849,226,777⟩,⟨2,7850,7850,194,771⟩,
 ⟨2,7851,7851,226,771⟩,⟨2,7852,7852,7840,770⟩,⟨2,7853,7853,7841,770⟩,⟨2,7854,7854,258,769⟩,⟨2,7855,7855,259,769⟩,⟨2,7856,7856,258,768⟩,
 ⟨2,7857,7857,259,768⟩,⟨2,7858,7858,258,777⟩,⟨2,7859,7859,259,777⟩,⟨2,7860,7860,258,771⟩,⟨2,7861,7861,259,771⟩,⟨2,7862,7862,7840,774⟩,
 ⟨2,7863,7863,7841,774⟩,⟨2,7884,7884,79,803⟩,⟨2,7885,7885,111,803⟩,⟨2,7896,7896,7884,770⟩,⟨2,7897,7897,7885,770⟩,⟨2,7936,7936,945,787⟩,
 ⟨2,7937,7937,945,788⟩,⟨2,7938,7938,7936,768⟩,⟨2,7939,7939,7937,768⟩,⟨2,8049,8049,940,0⟩,⟨2,8064,8064,7936,837⟩,⟨2,8115,8115,945,837⟩,
 ⟨2,8486,8486,937,0⟩,⟨2,8490,8490,75,0⟩,⟨2,8491,8491,197,0⟩,⟨2,8800,8800,61,824⟩,⟨2,8814,8814,60,824⟩,⟨2,10972,10972,10973,824⟩,
 ⟨2,12364,12364,12363,12441⟩,⟨2,12366,12366,12365,12441⟩,⟨2,12400,12400,12399,12441⟩,⟨2,12401,12401,12399,12442⟩,⟨2,12460,12460,12459,12441⟩,⟨2,12497,12497,12495,12442⟩,
 ⟨2,12532,12532,12454,12441⟩,⟨2,63744,63744,35912,0⟩,⟨2,63745,63745,26356,0⟩,⟨2,64285,64285,1497,1460⟩,⟨2,64287,64287,1522,1463⟩,⟨2,64298,64298,1513,1473⟩,
 ⟨2,64299,64299,1513,1474⟩,⟨2,64300,64300,64329,1473⟩,⟨2,64329,64329,1513,1468⟩,⟨2,119134,119134,119127,119141⟩]
def zhg:List Row:=[
 ⟨3,2392,2393,1,0⟩,⟨3,2396,2396,1,0⟩,⟨3,10972,10972,1,0⟩,⟨3,64285,64285,1,0⟩,⟨3,64287,64287,1,0⟩,⟨3,64298,64300,1,0⟩,
 ⟨3,64329,64329,1,0⟩,⟨3,119134,119134,1,0⟩]
def zam:List Row:=[
 ⟨4,0,9,3,0⟩,⟨4,10,10,2,0⟩,⟨4,11,12,3,0⟩,⟨4,13,13,1,0⟩,⟨4,14,31,3,0⟩,⟨4,127,159,3,0⟩,
 ⟨4,173,173,3,0⟩,⟨4,768,879,4,0⟩,⟨4,1155,1161,4,0⟩,⟨4,1425,1469,4,0⟩,⟨4,1471,1471,4,0⟩,⟨4,1473,1474,4,0⟩,
 ⟨4,1479,1479,4,0⟩,⟨4,1536,1541,7,0⟩,⟨4,1611,1631,4,0⟩,⟨4,1648,1648,4,0⟩,⟨4,1757,1757,7,0⟩,⟨4,1807,1807,7,0⟩,
 ⟨4,2307,2307,8,0⟩,⟨4,2362,2362,4,0⟩,⟨4,2363,2363,8,0⟩,⟨4,2364,2364,4,0⟩,⟨4,2366,2368,8,0⟩,⟨4,2369,2376,4,0⟩,
 ⟨4,2377,2380,8,0⟩,⟨4,2381,2381,4,0⟩,⟨4,2385,2391,4,0⟩,⟨4,2434,2435,8,0⟩,⟨4,2492,2492,4,0⟩,⟨4,2494,2494,4,0⟩,
 ⟨4,2495,2496,8,0⟩,⟨4,2503,2504,8,0⟩,⟨4,2507,2508,8,0⟩,⟨4,2509,2509,4,0⟩,⟨4,2519,2519,4,0⟩,⟨4,3006,3006,4,0⟩,
 ⟨4,3007,3007,8,0⟩,⟨4,3014,3016,8,0⟩,⟨4,3018,3020,8,0⟩,⟨4,3021,3021,4,0⟩,⟨4,3633,3633,4,0⟩,⟨4,3635,3635,8,0⟩,
 ⟨4,3636,3642,4,0⟩,⟨4,3655,3662,4,0⟩,⟨4,3953,3966,4,0⟩,⟨4,4352,4447,9,0⟩,⟨4,4448,4519,10,0⟩,⟨4,4520,4607,11,0⟩,
 ⟨4,8203,8203,3,0⟩,⟨4,8204,8204,4,0⟩,⟨4,8205,8205,5,0⟩,⟨4,8206,8207,3,0⟩,⟨4,8232,8238,3,0⟩,⟨4,8288,8303,3,0⟩,
 ⟨4,8400,8432,4,0⟩,⟨4,12330,12335,4,0⟩,⟨4,12441,12442,4,0⟩,⟨4,43360,43388,9,0⟩,⟨4,55216,55238,10,0⟩,⟨4,55243,55291,11,0⟩,
 ⟨4,65024,65039,4,0⟩,⟨4,65056,65071,4,0⟩,⟨4,65279,65279,3,0⟩,⟨4,119141,119141,4,0⟩,⟨4,127462,127487,6,0⟩,⟨4,127995,127999,4,0⟩,
 ⟨4,917505,917535,3,0⟩,⟨4,917536,917631,4,0⟩,⟨4,917760,917999,4,0⟩]
def zdW:List Row:=[
 ⟨5,169,169,1,0⟩,⟨5,174,174,1,0⟩,⟨5,8252,8252,1,0⟩,⟨5,8265,8265,1,0⟩,⟨5,8482,8482,1,0⟩,⟨5,8505,8505,1,0⟩,
 ⟨5,8596,8601,1,0⟩,⟨5,8617,8618,1,0⟩,⟨5,8986,8987,1,0⟩,⟨5,9193,9203,1,0⟩,⟨5,9728,9733,1,0⟩,⟨5,9735,9746,1,0⟩,
 ⟨5,9748,9861,1,0⟩,⟨5,9872,9989,1,0⟩,⟨5,9992,10002,1,0⟩,⟨5,10084,10087,1,0⟩,⟨5,127744,127994,1,0⟩,⟨5,128000,128317,1,0⟩,
 ⟨5,128326,128591,1,0⟩,⟨5,128640,128767,1,0⟩,⟨5,129292,129338,1,0⟩,⟨5,129351,129791,1,0⟩]
def zdU:List Row:=[
 ⟨6,2325,2361,2,0⟩,⟨6,2381,2381,1,0⟩,⟨6,2392,2399,2,0⟩,⟨6,2453,2472,2,0⟩,⟨6,2509,2509,1,0⟩]
def zd8:List Row:=[
 ⟨7,4352,4447,1,0⟩,⟨7,8986,8987,1,0⟩,⟨7,9193,9196,1,0⟩,⟨7,9748,9749,1,0⟩,⟨7,11904,12350,1,0⟩,⟨7,12353,13311,1,0⟩,
 ⟨7,13312,19903,1,0⟩,⟨7,19968,40959,1,0⟩,⟨7,43360,43388,1,0⟩,⟨7,44032,55203,1,0⟩,⟨7,63744,64255,1,0⟩,⟨7,65072,65135,1,0⟩,
 ⟨7,65281,65376,1,0⟩,⟨7,65504,65510,1,0⟩,⟨7,127744,127994,1,0⟩,⟨7,128000,128317,1,0⟩,⟨7,128326,128591,1,0⟩,⟨7,128640,128767,1,0⟩,
 ⟨7,129292,129338,1,0⟩,⟨7,129351,129791,1,0⟩,⟨7,131072,262141,1,0⟩]
def JM:List Row:=[
 ⟨8,48,57,1,0⟩,⟨8,65,90,1,0⟩,⟨8,95,95,1,0⟩,⟨8,97,122,1,0⟩,⟨8,170,170,1,0⟩,⟨8,181,181,1,0⟩,
 ⟨8,186,186,1,0⟩,⟨8,192,214,1,0⟩,⟨8,216,246,1,0⟩,⟨8,248,705,1,0⟩,⟨8,880,883,1,0⟩,⟨8,886,887,1,0⟩,
 ⟨8,902,902,1,0⟩,⟨8,904,1023,1,0⟩,⟨8,1024,1153,1,0⟩,⟨8,1162,1327,1,0⟩,⟨8,1329,1366,1,0⟩,⟨8,1488,1514,1,0⟩,
 ⟨8,1568,1610,1,0⟩,⟨8,2308,2361,1,0⟩,⟨8,2392,2401,1,0⟩,⟨8,2437,2489,1,0⟩,⟨8,3585,3632,1,0⟩,⟨8,4352,4607,1,0⟩,
 ⟨8,7680,8191,1,0⟩,⟨8,8486,8486,1,0⟩,⟨8,8490,8491,1,0⟩,⟨8,12353,12438,1,0⟩,⟨8,12449,12538,1,0⟩,⟨8,13312,19903,1,0⟩,
 ⟨8,19968,40959,1,0⟩,⟨8,44032,55203,1,0⟩,⟨8,63744,64255,1,0⟩,⟨8,131072,262141,1,0⟩]
theorem zed [Gi]:CR Tryz.prog 19 [] [] [] (is (.p (zU JE))):=
 ka JE Tryz.func19 rfl (by kernel_rfl) (by kernel_rfl) ⟨rfl,rfl,rfl,rfl⟩ (by kernel_rfl) rfl ⟨rfl,rfl,rfl⟩ (by kernel_rfl) ⟨rfl,rfl,rfl,rfl⟩ (by decide) (by kernel_rfl)
theorem zil [Gi]:CR Tryz.prog 20 [] [] [] (is (.p (zU zdL))):=
 ka zdL Tryz.func20 rfl (by kernel_rfl) (by kernel_rfl) ⟨rfl,rfl,rfl,rfl⟩ (by kernel_rfl) rfl ⟨rfl,rfl,rfl⟩ (by kernel_rfl) ⟨rfl,rfl,rfl,rfl⟩ (by decide) (by kernel_rfl)
theorem zkE [Gi]:CR Tryz.prog 21 [] [] [] (is (.p (zU zhg))):=
 ka zhg Tryz.func21 rfl (by kernel_rfl) (by kernel_rfl) ⟨rfl,rfl,rfl,rfl⟩ (by kernel_rfl) rfl ⟨rfl,rfl,rfl⟩ (by kernel_rfl) ⟨rfl,rfl,rfl,rfl⟩ (by decide) (by kernel_rfl)
theorem zgf [Gi]:CR Tryz.prog 22 [] [] [] (is (.p (zU zam))):=
 ka zam Tryz.func22 rfl (by kernel_rfl) (by kernel_rfl) ⟨rfl,rfl,rfl,rfl⟩ (by kernel_rfl) rfl ⟨rfl,rfl,rfl⟩ (by kernel_rfl) ⟨rfl,rfl,rfl,rfl⟩ (by decide) (by kernel_rfl)
theorem zjf [Gi]:CR Tryz.prog 23 [] [] [] (is (.p (zU zdW))):=
 ka zdW Tryz.func23 rfl (by kernel_rfl) (by kernel_rfl) ⟨rfl,rfl,rfl,rfl⟩ (by kernel_rfl) rfl ⟨rfl,rfl,rfl⟩ (by kernel_rfl) ⟨rfl,rfl,rfl,rfl⟩ (by decide) (by kernel_rfl)
theorem zhP [Gi]:CR Tryz.prog 24 [] [] [] (is (.p (zU zdU))):=
 ka zdU Tryz.func24 rfl (by kernel_rfl) (by kernel_rfl) ⟨rfl,rfl,rfl,rfl⟩ (by kernel_rfl) rfl ⟨rfl,rfl,rfl⟩ (by kernel_rfl) ⟨rfl,rfl,rfl,rfl⟩ (by decide) (by kernel_rfl)
theorem ziE [Gi]:CR Tryz.prog 25 [] [] [] (is (.p (zU zd8))):=
 ka zd8 Tryz.func25 rfl (by kernel_rfl) (by kernel_rfl) ⟨rfl,rfl,rfl,rfl⟩ (by kernel_rfl) rfl ⟨rfl,rfl,rfl⟩ (by kernel_rfl) ⟨rfl,rfl,rfl,rfl⟩ (by decide) (by kernel_rfl)
theorem zdd [Gi]:CR Tryz.prog 26 [] [] [] (is (.p (zU JM))):=
 ka JM Tryz.func26 rfl (by kernel_rfl) (by kernel_rfl) ⟨rfl,rfl,rfl,rfl⟩ (by kernel_rfl) rfl ⟨rfl,rfl,rfl⟩ (by kernel_rfl) ⟨rfl,rfl,rfl,rfl⟩ (by decide) (by kernel_rfl)
end Go.Proofs.YtcgfdhdcihmeeaaGreat
end
section
namespace Go.Proofs.YtcgfdhdcihmeeaaGreat
open Go.AM
theorem znW [Gi] {x:Nat}(h:x<2^50):IntKind.i64.wrap (x:Int)=(x:Int):=wrap64 (by omega) (by omega)
theorem zmp [Gi] {x:Nat}(h:x<2^50):IntKind.u64.wrap (x:Int)=(x:Int):=by simp[IntKind.wrap,IntKind.signed,IntKind.bits];omega
theorem zge [Gi] {x y z:Nat}(h:z<2^50)(e:z=x+y):IntKind.i64.wrap ((x:Int)+y)=(z:Int):=by rw[wrap64 (by omega) (by omega)];omega
theorem zD [Gi] {x:Nat}(h:x<2^50):IntKind.i64.wrap ((x:Int)+1)=((x+1:Nat):Int):=by rw[wrap64 (by omega) (by omega)];rfl
theorem zgr {x y:Nat}(e:y=x/2):(x:Int).fdiv 2=(y:Int):=by rw[Int.fdiv_eq_ediv_of_nonneg _ (by omega)];omega
def zK(l:List Int):List PV:=l.map fun r=>.int .i32 r
end Go.Proofs.YtcgfdhdcihmeeaaGreat
end
section
namespace Go.Proofs.YtcgfdhdcihmeeaaGreat
open Go.AM
set_option maxHeartbeats 4000000
set_option maxRecDepth 10000
def jV(k r:Int)(x:Row):Bool:=decide (x.k=k)&&decide (x.f≤r)&&decide (r≤x.t)
def rowAt(l:List Row)(k r:Int):Option Row:=if r<0∨1114111<r then none else l.find? (jV k r)
def znB(l:List Row)(k r j:Int):Prop:=(j= -1∧rowAt l k r=none)∨∃(i:Nat) (h:i<l.length),j=(i:Int)∧rowAt l k r=some l[i]
theorem ziD [Gi](l:List Row)(k r:Int)(hn:l.length<2^31):CR Tryz.prog 149 [] [.p (zU l),.p (.int .i64 k),.p (.int .i64 r)] [] (fun x rs=>rs=[]∧∃j,x=.p (.int .i64 j)∧znB l k r j):=by
 refine zC mixed 8 [] Tryz.func149 rfl (by kernel_rfl) rfl (by simp) (by simp) ?_
 by_cases h0:r<0
 ·simp[go_sem,Tryz.f149,h0]
  exact zh (.p (.int .i64 (-1))) rfl (by simp[go_sem,zf,leA,leT]) ⟨rfl, -1,rfl,.inl ⟨rfl,if_pos (.inl h0)⟩⟩
 by_cases h1:1114111<r
 ·simp[go_sem,Tryz.f149,h0,h1]
  exact zh (.p (.int .i64 (-1))) rfl (by simp[go_sem,zf,leA,leT]) ⟨rfl, -1,rfl,.inl ⟨rfl,if_pos (.inr h1)⟩⟩
 have hR:rowAt l k r=l.find? (jV k r):=if_neg (by omega)
 simp (maxSteps:=1000000) [go_sem,Tryz.f149,h0,h1,zU]
 refine zE (fun i:Nat=>i≤l.length∧l.find? (jV k r)=(l.drop i).find? (jV k r)) (fun i=>[(7,.p (.int .i64 (i:Nat)))]) (fun _=>[]) (fun i=>l.length-i) 0 ⟨by omega,rfl⟩ (by simp[go_sem,LeS,leV,leR,leA]) (fun i hi=>?_)
 obtain⟨hi,hf⟩:=hi
 simp (maxSteps:=1000000) [go_sem]
 refine zt (fun h=>?_) (fun h=>?_)
 ·have hil:i<l.length:=by omega
  have em:=zp rowP l i hil
  have w1:IntKind.i64.wrap ((i:Int)+1)=((i+1:Nat):Int):=by rw[wrap64 (by omega) (by omega)];rfl
  have hd:l.drop i=l[i]::l.drop (i+1):=List.drop_eq_getElem_cons hil
  rw[hd,List.find?_cons]at hf
  have hsome:jV k r l[i]=true→rowAt l k r=some l[i]:=fun h2=>by rw[hR,hf,h2]
  have hnext:jV k r l[i]=false→l.find? (jV k r)=(l.drop (i+1)).find? (jV k r):=fun h2=>by rw[hf,h2]
  obtain⟨x,hx⟩:∃x,x=l[i]:=⟨_,rfl⟩
  rw[←hx]at em hsome hnext
  by_cases c1:x.k=k
  ·by_cases c2:x.f≤r
   ·by_cases c3:r≤x.t
    ·have hb:jV k r x=true:=by simp[jV,c1,c2,c3]
     simp (maxSteps:=1000000) [go_sem,em,hil,rowP,c1,c2,c3]
     exact zh (.p (.int .i64 i)) rfl (by simp[go_sem,zf,leA,leT]) ⟨rfl,i,rfl,.inr ⟨i,hil,rfl,by rw[hsome hb,hx]⟩⟩
    ·have hb:jV k r x=false:=by simp[jV,c3]
     simp (maxSteps:=1000000) [go_sem,em,hil,rowP,c1,c2,c3,w1]
     exact zg (i+1) ⟨by omega,hnext hb⟩ (by simp[go_sem,LeS,leV,leR,leA]) (by omega)
   ·have hb:jV k r x=false:=by simp[jV,c2]
    simp (maxSteps:=1000000) [go_sem,em,hil,rowP,c1,c2,w1]
    exact zg (i+1) ⟨by omega,hnext hb⟩ (by simp[go_sem,LeS,leV,leR,leA]) (by omega)
  ·have hb:jV k r x=false:=by simp[jV,c1]
   simp (maxSteps:=1000000) [go_sem,em,hil,rowP,c1,w1]
   exact zg (i+1) ⟨by omega,hnext hb⟩ (by simp[go_sem,LeS,leV,leR,leA]) (by omega)
 ·have hil:i=l.length:=by omega
  subst hil
  simp (maxSteps:=1000000) [go_sem]
  exact zh (.p (.int .i64 (-1))) rfl (by simp[go_sem,zf,leA,leT]) ⟨rfl, -1,rfl,.inl ⟨rfl,by rw[hR,hf];simp⟩⟩
def aL(l:List Row)(k r:Int):Int:=match rowAt l k r with
 |some x=>x.a
 |none=>0
theorem zn9 [Gi](l:List Row)(k r:Int)(hn:l.length<2^31):CR Tryz.prog 145 [] [.p (zU l),.p (.int .i64 k),.p (.int .i64 r)] [] (is (.p (.int .i64 (aL l k r)))):=by
 refine zC mixed 8 [] Tryz.func145 rfl (by kernel_rfl) rfl (by simp) (by simp) ?_
 simp[go_sem,Tryz.f145]
 refine⟨⟨rfl,by simp[Tryz.f149]⟩,zd [] (ziD l k r hn) (by simp[go_sem]) ⟨by simp[go_sem],by simp[go_sem]⟩ (by simp[go_sem]) ?_⟩
 rintro _ rs ⟨rfl,j,rfl,hj⟩
 rcases hj with ⟨rfl,hj⟩|⟨i,hi,rfl,hj⟩
 ·have e:aL l k r=0:=by unfold aL;rw[hj]
  rw[e]
  simp (maxSteps:=1000000) [go_sem]
  exact zh (.p (.int .i64 0)) rfl (by simp[go_sem,zf,leA,leT]) ⟨rfl,rfl⟩
 ·have e:aL l k r=l[i].a:=by unfold aL;rw[hj]
  rw[e]
  have em:=zp rowP l i hi
  generalize l[i]=x at em
  have h0:¬((i:Int)<0):=by omega
  simp (maxSteps:=1000000) [go_sem,em,hi,zU,rowP,h0]
  exact zh (.p (.int .i64 x.a)) rfl (by simp[go_sem,zf,leA,leT]) ⟨rfl,rfl⟩
theorem uS [Gi](l:List Row)(k r:Int)(hn:l.length<2^31)(hr: -2147483648≤r∧r<2147483648):CR Tryz.prog 135 [] [.p (zU l),.p (.int .i64 k),.p (.int .i32 r)] [] (is (.p (.int .i64 (aL l k r)))):=by
 refine zC mixed 7 [] Tryz.func135 rfl (by kernel_rfl) rfl (by simp) (by simp) ?_
 have w1:IntKind.i64.wrap r=r:=wrap64 (by omega) (by omega)
 simp[go_sem,Tryz.f135,w1]
 refine⟨⟨rfl,by simp[Tryz.f145]⟩,zd [] (zn9 l k r hn) (by simp[go_sem]) ⟨by simp[go_sem],by simp[go_sem]⟩ (by simp[go_sem]) ?_⟩
 rintro _ rs ⟨rfl,rfl⟩
 simp[go_sem]
 exact zh (.p (.int .i64 (aL l k r))) rfl (by simp[go_sem,zf,leA,leT]) ⟨rfl,rfl⟩
end Go.Proofs.YtcgfdhdcihmeeaaGreat
end
section
namespace Go.Proofs.YtcgfdhdcihmeeaaGreat
open Go.AM
set_option maxHeartbeats 1000000
set_option maxRecDepth 10000
def za:List Row:=JE++zdL++zhg++zam++zdW++zdU++zd8++JM
theorem zjV [Gi](a b c d e f g h:List Row)(c0:CR Tryz.prog 19 [] [] [] (is (.p (zU a))))(c1:CR Tryz.prog 20 [] [] [] (is (.p (zU b))))(c2:CR Tryz.prog 21 [] [] [] (is (.p (zU c))))(c3:CR Tryz.prog 22 [] [] [] (is (.p (zU d))))(c4:CR Tryz.prog 23 [] [] [] (is (.p (zU e))))(c5:CR Tryz.prog 24 [] [] [] (is (.p (zU f))))(c6:CR Tryz.prog 25 [] [] [] (is (.p (zU g))))(c7:CR Tryz.prog 26 [] [] [] (is (.p (zU h))))(l0:a.length≤200)(l1:b.length≤200)(l2:c.length≤200)(l3:d.length≤200)(l4:e.length≤200)(l5:f.length≤200)(l6:g.length≤200)(l7:h.length≤200):
  CR Tryz.prog 6 [] [] [] (is (.p (zU (a++b++c++d++e++f++g++h)))):=by
 refine zC mixed 2 [] Tryz.func6 rfl (by kernel_rfl) rfl (by simp) (by simp) ?_
 simp (disch:=omega) [go_sem,Tryz.f6]
 refine⟨⟨rfl,by simp[Tryz.f19]⟩,zd [] c0 (by simp[go_sem]) ⟨by simp[go_sem],by simp[go_sem]⟩ (by simp[go_sem]) ?_⟩
 rintro y rs ⟨rfl,rfl⟩
 simp (disch:=omega) [go_sem,zU]
 refine⟨by omega,⟨rfl,by simp[Tryz.f20]⟩,zd [] c1 (by simp[go_sem]) ⟨by simp[go_sem],by simp[go_sem]⟩ (by simp[go_sem]) ?_⟩
 rintro y rs ⟨rfl,rfl⟩
 simp (disch:=omega) [go_sem,zU]
 refine⟨by omega,⟨rfl,by simp[Tryz.f21]⟩,zd [] c2 (by simp[go_sem]) ⟨by simp[go_sem],by simp[go_sem]⟩ (by simp[go_sem]) ?_⟩
 rintro y rs ⟨rfl,rfl⟩
 simp (disch:=omega) [go_sem,zU]
 refine⟨by omega,⟨rfl,by simp[Tryz.f22]⟩,zd [] c3 (by simp[go_sem]) ⟨by simp[go_sem],by simp[go_sem]⟩ (by simp[go_sem]) ?_⟩
 rintro y rs ⟨rfl,rfl⟩
 simp (disch:=omega) [go_sem,zU]
 refine⟨by omega,⟨rfl,by simp[Tryz.f23]⟩,zd [] c4 (by simp[go_sem]) ⟨by simp[go_sem],by simp[go_sem]⟩ (by simp[go_sem]) ?_⟩
 rintro y rs ⟨rfl,rfl⟩
 simp (disch:=omega) [go_sem,zU]
 refine⟨by omega,⟨rfl,by simp[Tryz.f24]⟩,zd [] c5 (by simp[go_sem]) ⟨by simp[go_sem],by simp[go_sem]⟩ (by simp[go_sem]) ?_⟩
 rintro y rs ⟨rfl,rfl⟩
 simp (disch:=omega) [go_sem,zU]
 refine⟨by omega,⟨rfl,by simp[Tryz.f25]⟩,zd [] c6 (by simp[go_sem]) ⟨by simp[go_sem],by simp[go_sem]⟩ (by simp[go_sem]) ?_⟩
 rintro y rs ⟨rfl,rfl⟩
 simp (disch:=omega) [go_sem,zU]
 refine⟨by omega,⟨rfl,by simp[Tryz.f26]⟩,zd [] c7 (by simp[go_sem]) ⟨by simp[go_sem],by simp[go_sem]⟩ (by simp[go_sem]) ?_⟩
 rintro y rs ⟨rfl,rfl⟩
 simp (disch:=omega) [go_sem,zU]
 exact⟨by omega,zh (.p (zU (a++b++c++d++e++f++g++h))) rfl (by simp[go_sem,zf,leA,zU]) ⟨rfl,by simp[zU]⟩⟩
theorem zeu [Gi]:CR Tryz.prog 6 [] [] [] (is (.p (zU za))):=
 zjV _ _ _ _ _ _ _ _ zed zil zkE zgf zjf zhP ziE zdd (by decide) (by decide) (by decide) (by decide) (by decide) (by decide) (by decide) (by decide)
def XX(l:List Int):PV:=.sl 1 (l.map fun r=>.int .i32 r)
theorem zii [Gi](l:List Int)(n:Nat)(_:n<2^31):CR Tryz.prog 18 [] [.p (XX l),.p (.int .i64 n)] [] (is (.p (XX (l.take n)))):=by
 refine zC mixed 5 [] Tryz.func18 rfl (by kernel_rfl) rfl (by simp) (by simp) ?_
 simp (disch:=omega) [go_sem,Tryz.f18,XX]
 refine zt (fun h=>?_) (fun h=>?_)
 ·simp (disch:=omega) [go_sem]
  exact⟨by omega,zh (.p (.sl 1 ((l.take n).map fun r=>PV.int .i32 r))) rfl (by simp[go_sem,zf,leA,cut,List.map_take]) ⟨rfl,by simp⟩⟩
 ·simp (disch:=omega) [go_sem]
  exact zh (.p (.sl 1 (l.map fun r=>PV.int .i32 r))) rfl (by simp[go_sem,zf,leA]) ⟨rfl,by rw[List.take_of_length_le (by simp;omega)]⟩
end Go.Proofs.YtcgfdhdcihmeeaaGreat
end
section
namespace Go.Proofs.YtcgfdhdcihmeeaaGreat
open Go.AM
set_option maxHeartbeats 1000000
set_option maxRecDepth 10000
structure Span where
 f:Int
 t:Int
 a:Int
 b:Int
 deriving DecidableEq
def zT(s:Span):PV:=.agg [.int .i64 s.f,.int .i64 s.t,.int .i64 s.a,.int .i64 s.b]
def zB(l:List Span):PV:=.sl 4 (l.map zT)
theorem zj5 [Gi](s:Span)(l:List Span)(h0:s.f≤s.t)(hl:∀x∈l,x.t<s.f)(hn:l.length<2^31):CR Tryz.prog 55 [] [.p (zT s),.p (zB l)] [] (is (.p (zB [s]))):=by
 refine zC mixed 11 [] Tryz.func55 rfl (by kernel_rfl) rfl (by simp) (by simp) ?_
 simp (disch:=omega) [go_sem,Tryz.f55,zT,zB]
 refine Z7 (fun i:Nat=>i≤l.length) (fun i=>{n:=59,nv:=11,vs:=[(2,.lp [2] 0),(5,.os [5] 4 []),(8,.p (zB l)),(9,.p (.int .i64 l.length)),(10,.p (.int .i64 i))],ts:=[],rs:=[([2],[.p (.int .i64 s.f),.p (.int .i64 s.t),.p (.int .i64 s.a),.p (.int .i64 s.b)])]}) (fun i=>l.length-i) 0 (by simp) (by simp[go_sem,LeS,leV,leR,leA,leL,zB]) ?_
 intro i hi
 simp (disch:=omega) [go_sem,zB]
 refine zt (fun h=>?_) (fun h=>?_)
 ·have em:=zp zT l i h
  have hx:=hl l[i] (List.getElem_mem h)
  have w1:IntKind.i64.wrap ((i:Int)+1)=(i:Int)+1:=wrap64 (by omega) (by omega)
  generalize l[i]=x at em hx
  simp[go_sem,em,h,zT,hx,w1]
  exact zg (i+1) (by omega) (by simp[go_sem,LeS,leV,leR,leA,leL]) (by omega)
 ·simp[go_sem,h0]
  exact zh (.p (zB [s])) rfl (by simp[go_sem,zf,leA,zB,zT]) ⟨rfl,rfl⟩
end Go.Proofs.YtcgfdhdcihmeeaaGreat
end
section
namespace Go.Proofs.YtcgfdhdcihmeeaaGreat
open Go.AM
set_option maxHeartbeats 2000000
set_option maxRecDepth 10000
theorem zdB [Gi](x:Int):CR Tryz.prog 91 [] [.p (.int .i64 x)] [] (is (.p (.bool false))):=by
 refine zC mixed 3 [] Tryz.func91 rfl (by kernel_rfl) rfl (by simp) (by simp) ?_
 simp[go_sem,Tryz.f91]
 exact zh (.p (.bool false)) rfl (by simp[go_sem,zf,leA]) ⟨rfl,rfl⟩
def zcf(x y:Int):Int:=if x<y then -1 else if y<x then 1 else 0
theorem zdT [Gi](x y:Int):CR Tryz.prog 54 [] [.p (.int .i64 x),.p (.int .i64 y)] [] (is (.p (.int .i64 (zcf x y)))):=by
 refine zC mixed 7 [] Tryz.func54 rfl (by kernel_rfl) rfl (by simp) (by simp) ?_
 simp[go_sem,Tryz.f54]
 refine⟨⟨rfl,by simp[Tryz.f91]⟩,zd [] (zdB x) (by simp[go_sem]) ⟨by simp[go_sem],by simp[go_sem]⟩ (by simp[go_sem]) ?_⟩
 rintro _ rs ⟨rfl,rfl⟩
 simp[go_sem]
 refine⟨⟨rfl,by simp[Tryz.f91]⟩,zd [] (zdB y) (by simp[go_sem]) ⟨by simp[go_sem],by simp[go_sem]⟩ (by simp[go_sem]) ?_⟩
 rintro _ rs ⟨rfl,rfl⟩
 simp[go_sem]
 refine zt (fun h=>?_) (fun h=>?_)
 ·simp[go_sem]
  exact zh (.p (.int .i64 (-1))) rfl (by simp[go_sem,zf,leA]) ⟨rfl,by rw[zcf,if_pos h]⟩
 ·simp[go_sem]
  refine zt (fun h2=>?_) (fun h2=>?_)
  ·simp[go_sem]
   exact zh (.p (.int .i64 1)) rfl (by simp[go_sem,zf,leA]) ⟨rfl,by rw[zcf,if_neg h,if_pos h2]⟩
  ·simp[go_sem]
   exact zh (.p (.int .i64 0)) rfl (by simp[go_sem,zf,leA]) ⟨rfl,by rw[zcf,if_neg h,if_neg h2]⟩
theorem Ve [Gi](s t:Span):CR Tryz.prog 53 [] [.p (zT s),.p (zT t)] [] (is (.p (.int .i64 (zcf s.f t.f)))):=by
 refine zC mixed 5 [] Tryz.func53 rfl (by kernel_rfl) rfl (by simp) (by simp) ?_
 simp[go_sem,Tryz.f53,zT]
 refine⟨⟨rfl,by simp[Tryz.f54]⟩,zd [] (zdT s.f t.f) (by simp[go_sem]) ⟨by simp[go_sem],by simp[go_sem]⟩ (by simp[go_sem]) ?_⟩
 rintro _ rs ⟨rfl,rfl⟩
 simp[go_sem]
 exact zh (.p (.int .i64 (zcf s.f t.f))) rfl (by simp[go_sem,zf,leA]) ⟨rfl,rfl⟩
def byV:PV:=.opq (.func (.func 53) #[] #[])
def Up(l:List Span):Prop:=∀(i j:Nat) (x y:Span),i≤j→l[i]?=some x→l[j]?=some y→x.f≤y.f
theorem Up.cmp {l:List Span}(h:Up l) {i j:Nat}(hij:i≤j)(hi:i<l.length)(hj:j<l.length):¬zcf l[j].f l[i].f<0:=by
 have:=h i j l[i] l[j] hij (List.getElem?_eq_getElem hi) (List.getElem?_eq_getElem hj)
 unfold zcf
 rw[if_neg (by omega)]
 split<;>omega
theorem Va [Gi](l:List Span)(i j:Nat)(n:Int)(hU:Up l)(hij:i≤j)(hj:j<l.length):CR Tryz.prog 146 [[0]] [.p (zB l),.p (.int .i64 i),.p (.int .i64 j),.lp [0] 0,.p byV] [([0],[.p (.int .i64 n)])]
  (fun x rs=>x=.tup [.p (.int .i64 i),.p (.int .i64 j)]∧rs=[([0],[.p (.int .i64 n)])]):=by
 have hi:i<l.length:=by omega
 have m1:=zp zT l i hi
 have m2:=zp zT l j hj
 have hc:=hU.cmp hij hi hj
 refine zC mixed 12 [] Tryz.func146 rfl (by kernel_rfl) rfl (by simp) (by simp) ?_
 simp[go_sem,Tryz.f146,zB,byV,m1,m2,hi,hj,zT]
 refine⟨⟨rfl,by simp[Tryz.f53]⟩,zd [] (Ve l[j] l[i]) (by simp[go_sem,zM]) ⟨by simp[go_sem],by simp[go_sem,zT]⟩ (by simp[go_sem]) ?_⟩
 rintro _ rs ⟨rfl,rfl⟩
 simp[go_sem,hc]
 exact zu [[0]] (.tup [.p (.int .i64 i),.p (.int .i64 j)]) ⟨rfl,by simp⟩ (by simp[go_sem,zf,leA,leT,leP]) ⟨rfl,by simp[go_sem]⟩
theorem YZ [Gi](l:List Span)(i j k:Nat)(n:Int)(hU:Up l)(hij:i≤j)(hjk:j≤k)(hk:k<l.length):CR Tryz.prog 142 [[0]] [.p (zB l),.p (.int .i64 i),.p (.int .i64 j),.p (.int .i64 k),.lp [0] 0,.p byV] [([0],[.p (.int .i64 n)])]
  (fun x rs=>x=.p (.int .i64 j)∧rs=[([0],[.p (.int .i64 n)])]):=by
 refine zC mixed 14 [] Tryz.func142 rfl (by kernel_rfl) rfl (by simp) (by simp) ?_
 simp[go_sem,Tryz.f142]
 refine⟨⟨rfl,by simp[Tryz.f146]⟩,zd [([0],[0])] (Va l i j n hU hij (by omega)) (by simp[go_sem,zM]) ⟨by simp[go_sem],by simp[go_sem]⟩ (by simp[go_sem]) ?_⟩
 rintro _ rs ⟨rfl,rfl⟩
 simp[go_sem]
 refine⟨⟨rfl,by simp[Tryz.f146]⟩,zd [([0],[0])] (Va l j k n hU hjk hk) (by simp[go_sem,zM]) ⟨by simp[go_sem],by simp[go_sem]⟩ (by simp[go_sem]) ?_⟩
 rintro _ rs ⟨rfl,rfl⟩
 simp[go_sem]
 refine⟨⟨rfl,by simp[Tryz.f146]⟩,zd [([0],[0])] (Va l i j n hU hij (by omega)) (by simp[go_sem,zM]) ⟨by simp[go_sem],by simp[go_sem]⟩ (by simp[go_sem]) ?_⟩
 rintro _ rs ⟨rfl,rfl⟩
 simp[go_sem]
 exact zu [[0]] (.p (.int .i64 j)) ⟨rfl,by simp⟩ (by simp[go_sem,zf,leA,leT]) ⟨rfl,by simp[go_sem]⟩
theorem xG [Gi](l:List Span)(i:Nat)(n:Int)(hU:Up l)(hi:1≤i)(hk:i+1<l.length)(hn:l.length<2^31):CR Tryz.prog 141 [[0]] [.p (zB l),.p (.int .i64 i),.lp [0] 0,.p byV] [([0],[.p (.int .i64 n)])]
  (fun x rs=>x=.p (.int .i64 i)∧rs=[([0],[.p (.int .i64 n)])]):=by
 have w1:IntKind.i64.wrap ((i:Int)-1)=((i-1:Nat):Int):=by rw[wrap64 (by omega) (by omega)];omega
 have w2:IntKind.i64.wrap ((i:Int)+1)=((i+1:Nat):Int):=by rw[wrap64 (by omega) (by omega)];omega
 refine zC mixed 9 [] Tryz.func141 rfl (by kernel_rfl) rfl (by simp) (by simp) ?_
 simp[go_sem,Tryz.f141,w1,w2]
 refine⟨⟨rfl,by simp[Tryz.f142]⟩,zd [([0],[0])] (YZ l (i-1) i (i+1) n hU (by omega) (by omega) hk) (by simp[go_sem,zM]) ⟨by simp[go_sem],by simp[go_sem]⟩ (by simp[go_sem]) ?_⟩
 rintro _ rs ⟨rfl,rfl⟩
 simp[go_sem]
 exact zu [[0]] (.p (.int .i64 i)) ⟨rfl,by simp⟩ (by simp[go_sem,zf,leA,leT]) ⟨rfl,by simp[go_sem]⟩
end Go.Proofs.YtcgfdhdcihmeeaaGreat
end
section
namespace Go.Proofs.YtcgfdhdcihmeeaaGreat
open Go.AM
set_option maxHeartbeats 4000000
set_option maxRecDepth 10000
structure ZX(l:List Row):Prop where
 ne:l≠ []
 n:l.length<2^31
 p:∀x∈l,x.k=2→(0≤x.f∧x.f<1114112)∧(0≤x.a∧x.a<1114112)∧0≤x.b∧x.b<1114112
theorem ZX.first {l:List Row}(h:ZX l):∃r,elemAt (l.map rowP) 0=rowP r:=by
 cases l with
 |nil=>exact absurd rfl h.ne
 |cons r l=>exact⟨r,rfl⟩
def zY(r:Int):Prop:= -2147483648≤r∧r<2147483648
def zbU(l:List Row)(r:Int):Option (Int×Int):=match rowAt l 2 r with
 |some x=>if x.a=0∧x.b=0 then none else some (x.a,x.b)
 |none=>none
theorem zf4 {l:List Row} {k r:Int} {x:Row}(h:rowAt l k r=some x):x∈l∧x.k=k:=by
 unfold rowAt at h
 split at h
 ·cases h
 ·refine⟨List.mem_of_find?_eq_some h,?_⟩
  have:=List.find?_some h
  simp only[jV,Bool.and_eq_true,decide_eq_true_eq]at this
  exact this.1.1
theorem zhI {l:List Row}(hl:ZX l) {r:Int} {p:Int×Int}(h:zbU l r=some p):(0≤p.1∧p.1<1114112)∧0≤p.2∧p.2<1114112:=by
 unfold zbU at h
 split at h
 ·rename_i x hx
  obtain⟨h1,h2⟩:=zf4 hx
  have:=hl.p x h1 h2
  split at h
  ·cases h
  ·injection h with h;subst h;exact this.2
 ·cases h
def zoO(l:List Row)(r:Int):Bool:=match zbU l r with
 |none=>false
 |some p=>decide (p.2=0) || decide (aL l 3 r=1) ||!decide (aL l 1 r=0) ||!decide (aL l 1 p.1=0)
def KE(l:List Row)(x y:Int)(acc:Option Int)(w:Row):Option Int:=
 if w.k=2∧w.a=x∧w.b=y∧y≠0∧zbU l w.f=some (x,y)∧zoO l w.f=false∧(∀z,acc=some z→w.f<z)then some w.f else acc
def zk9(l:List Row)(x y:Int):Option Int:=l.foldl (KE l x y) none
end Go.Proofs.YtcgfdhdcihmeeaaGreat
end
