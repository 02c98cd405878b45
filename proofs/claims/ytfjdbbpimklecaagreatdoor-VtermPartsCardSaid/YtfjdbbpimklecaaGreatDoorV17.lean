/- A part of this seat's proofs, by an abstract machine. Conditions: each law's. -/
import Derived.Test.YtfjdbbpimklecaaGreatDoorV16
import Derived.ProofKit
import Derived.Deep.Slices
set_option maxHeartbeats 400000
set_option maxRecDepth 10000
namespace Go.Proofs.YtfjdbbpimklecaaGreatDoor
section
open Go.AM
def is(x:AV):AV→List (Tok×List AV)→Prop:=fun y rs=>rs=[]∧y=x
structure Row where
 k:Int
 f:Int
 t:Int
 a:Int
 b:Int
 deriving DecidableEq
def rowP(r:Row):PV:=.agg [.int .i64 r.k,.int .i64 r.f,.int .i64 r.t,.int .i64 r.a,.int .i64 r.b]
def qJ(l:List Row):PV:=.sl 5 (l.map rowP)
def rowOf(o:Oper):Option (Nat×Row):=
 match o.dst,o.guard,o.op with
 |some d,none,.build 197 ⟨[(0,.const (.int .i64 k)),(1,.const (.int .i64 f)),(2,.const (.int .i64 t)),(3,.const (.int .i64 a)),(4,.const (.int .i64 b))]⟩=>some (d,⟨k,f,t,a,b⟩)
 |_,_,_=>none
def Wv(S:St):Nat→List Row→St
 |_,[]=>S
 |d,r::rs=>Wv (S.set d (.p (rowP r))) (d+1) rs
theorem KG:∀(rs:List Row) (S:St) (d:Nat),S.nv≤d→S.ex=[]→∃ts,Wv S d rs={S with ts:=ts}
 | [],S,_,_,_=>⟨S.ts,rfl⟩
 |r::rs,S,d,h,he=>by
  have e:S.set d (.p (rowP r))={S with ts:=(d,.p (rowP r))::S.ts}:=by
   unfold St.set St.kept
   rw[he,if_neg (by simp;omega)]
  obtain⟨ts,h'⟩:=KG rs (S.set d (.p (rowP r))) (d+1) (by rw[e];show S.nv≤d+1;omega) (by rw[e];exact he)
  exact⟨ts,by rw[Wv,h',e]⟩
theorem Xf:∀(rs:List Row) (S:St) (d t:Nat),(Wv S d rs).get t=if d≤t then match rs[t-d]? with|some r=>.p (rowP r)|none=>S.get t else S.get t
 | [],S,d,t=>by simp[Wv]
 |r::rs,S,d,t=>by
  rw[Wv,Xf rs,St.JC]
  rcases Nat.lt_trichotomy t d with h|h|h
  ·rw[if_neg (show ¬d+1≤t by omega),if_neg (show ¬d=t by omega),if_neg (show ¬d≤t by omega)]
  ·subst h
   rw[if_neg (show ¬t+1≤t by omega),if_pos rfl,if_pos (Nat.le_refl _)]
   simp
  ·have e:t-d=(t- (d+1))+1:=by omega
   rw[if_pos (show d+1≤t by omega),if_pos (show d≤t by omega),if_neg (show ¬d=t by omega),e,List.getElem?_cons_succ]
theorem row_step [Gi] {o:Oper} {rest:List Oper} {d:Nat} {r:Row}(h:rowOf o=some (d,r)) {ops:Array Oper} {S:St}(hd:d<S.n) {K:St→Prop}:ZW Tryz.prog ops (o::rest) S K=ZW Tryz.prog ops rest (S.set d (.p (rowP r))) K:=by
 unfold rowOf at h
 split at h
 ·rename_i d' k f t a b h1 h2 h3
  injection h with h;injection h with h4 h5;subst h4;subst h5
  obtain⟨dst,op,ty,pos,af,gu⟩:=o
  simp only at h1 h2 h3
  subst h1;subst h2;subst h3
  simp[go_sem,rowP,hd]
 ·cases h
theorem Ja [Gi] {ops:Array Oper} {K:St→Prop}:∀(rows:List Row) (l:List Oper) (d:Nat) (S:St),(l.take rows.length).map rowOf=(rows.zipIdx d).map (fun x=>some (x.2,x.1))→d+rows.length≤S.n→
  ZW Tryz.prog ops (l.drop rows.length) (Wv S d rows) K→ZW Tryz.prog ops l S K
 | [],l,d,S,_,_,h=>by simpa[Wv]using h
 |r::rows,[],d,S,e,_,_=>by simp at e
 |r::rows,o::l,d,S,e,hn,h=>by
  simp only[List.length_cons,List.take_succ_cons,List.map_cons,List.zipIdx_cons,List.cons.injEq]at e
  simp only[List.length_cons]at hn
  rw[row_step e.1 (by omega)]
  exact Ja rows l (d+1) _ e.2 (by rw[St.zeJ];omega) (by simpa[Wv]using h)
theorem Xq {S:St}(d:Nat)(rows:List Row):∀(i:Nat) (l:List (Nat×Operand)),l=((rows.drop i).zipIdx i).map (fun x=>(x.2,.tmp (d+x.2)))→
  ∃c:Prop,c∧Zg (Wv S d rows) l=(c,some (((rows.drop i).zipIdx i).map fun x=>(x.2,rowP x.1))):=by
 intro i l
 induction l generalizing i with
 |nil=>
  intro e
  cases hr:rows.drop i with
  |nil=>exact⟨True,trivial,rfl⟩
  |cons r rs=>rw[hr]at e;simp at e
 |cons x l ih=>
  intro e
  cases hr:rows.drop i with
  |nil=>rw[hr]at e;simp at e
  |cons r rs=>
   have hi:rows[i]?=some r:=by
    have:=congrArg (·[0]?) hr
    simpa using this
   have hrs:rs=rows.drop (i+1):=by
    have:=congrArg List.tail hr
    simpa using this.symm
   rw[hr]at e
   simp only[List.zipIdx_cons,List.map_cons,List.cons.injEq]at e
   obtain⟨rfl,e2⟩:=e
   obtain⟨c,hc,hp⟩:=ih (i+1) (by rw[e2,hrs])
   have hg:(Wv S d rows).ev (.tmp (d+i))=.p (rowP r):=by
    show(Wv S d rows).get (d+i)=_
    rw[Xf,if_pos (by omega)]
    simp[hi]
   refine⟨(unG ((Wv S d rows).ev (.tmp (d+i)))).1∧c,⟨by rw[hg];simp[go_sem],hc⟩,?_⟩
   unfold Zg
   rw[hp,hg]
   simp[go_sem,hrs]
theorem za9(rows:List Row)(i:Nat):sizedB 5 ((rows.zipIdx i).map fun x=>(x.2,rowP x.1))=true:=by
 unfold sizedB
 rw[List.all_eq_true]
 intro x hx
 obtain⟨y,_,rfl⟩:=List.mem_map.1 hx
 rfl
theorem Q7 [Gi] {f:FuncId} {fn:Func}(rows:List Row) {l:List Oper} {o0 o1 o2:Oper} {i0 i1:Nat} {parts:Array (Nat×Operand)}(hf:Tryz.prog.funcs[f]?=some fn)
  (hb:fn.body=some (.seq (.region i0 [o0].toArray false) (.seq (.region i1 l.toArray false) .ret)))
  (hn:fn.ntmps=rows.length+2) (hres:xQ fn.results.toList=some [(0,none)])
  (h0:o0.op=.assign (.const (.slice none 0 0))∧o0.dst=some 0∧o0.guard=none∧o0.type=24)
  (hl:(l.take rows.length).map rowOf=(rows.zipIdx 1).map (fun x=>some (x.2,x.1))) (hd:l.drop rows.length=[o1,o2])
  (h1:o1.op=.buildSlice 24 rows.length parts∧o1.dst=some (rows.length+1)∧o1.guard=none)
  (hp:parts.toList=(rows.zipIdx 0).map (fun x=>(x.2,.tmp (1+x.2))))
  (h2:o2.op=.assign (.tmp (rows.length+1))∧o2.dst=some 0∧o2.guard=none∧o2.type=24) (hs:rows.length*5≤2^24) (hok:q7 [] (.seq (.region i0 [o0].toArray false) (.seq (.region i1 l.toArray false) .ret))=true):
  CR Tryz.prog f [] [] [] (is (.p (qJ rows))):=by
 refine zH mixed 1 [] hf hb hok hres (by simp) (by simp) ?_
 obtain⟨d0,p0,t0,s0,a0,g0⟩:=o0
 obtain⟨d1,p1,t1,s1,a1,g1⟩:=o1
 obtain⟨d2,p2,t2,s2,a2,g2⟩:=o2
 simp only at h0 h1 h2
 obtain⟨rfl,rfl,rfl,rfl⟩:=h0
 obtain⟨rfl,rfl,rfl⟩:=h1
 obtain⟨rfl,rfl,rfl,rfl⟩:=h2
 rw[hn]
 simp (disch:=omega) [go_sem]
 refine Ja rows l 1 _ hl (by show 1+rows.length≤rows.length+2;omega) ?_
 rw[hd]
 generalize hS:({n:=rows.length+2,nv:=1,vs:=[(0,AV.os [0] 5 [])],ts:=[],rs:=[]}:St)=S0
 obtain⟨c,hc,hp'⟩:=Xq (S:=S0) 1 rows 0 parts.toList (by simpa using hp)
 have hm:(((rows.drop 0).zipIdx 0).map (fun x=>(x.2,rowP x.1))).map (·.1)=List.range' 0 rows.length:=by
  rw[List.map_map]
  exact(List.zipIdx_map_snd ..)
 have hm2:(((rows.drop 0).zipIdx 0).map (fun x=>(x.2,rowP x.1))).map (·.2)=rows.map rowP:=by
  rw[List.map_map]
  show List.map (rowP∘Prod.fst) _=_
  rw[←List.map_map,List.zipIdx_map_fst]
  rfl
 have hsz:=za9 (rows.drop 0) 0
 generalize ((rows.drop 0).zipIdx 0).map (fun x=>(x.2,rowP x.1))=L at hp' hm hm2 hsz
 obtain⟨ts,hS1⟩:=KG rows S0 1 (by rw[←hS];exact Nat.le_refl _) (by rw[←hS])
 rw[hS1,←hS]at hp'
 rw[hS1,←hS]
 simp (disch:=omega) [go_sem,hp',hm,hm2,hc,hs]
 exact⟨by simpa[go_sem]using hsz,zn _ rfl (by simp[go_sem,zg,leA,qJ]) ⟨rfl,rfl⟩⟩
def V7:List Row:=[
 ⟨1,768,788,230,0⟩,⟨1,789,789,232,0⟩,⟨1,790,793,220,0⟩,⟨1,794,794,232,0⟩,⟨1,795,795,216,0⟩,⟨1,796,800,220,0⟩,
 ⟨1,801,802,202,0⟩,⟨1,803,806,220,0⟩,⟨1,807,808,202,0⟩,⟨1,809,819,220,0⟩,⟨1,820,824,1,0⟩,⟨1,825,828,220,0⟩,
 ⟨1,829,836,230,0⟩,⟨1,837,837,240,0⟩,⟨1,838,838,230,0⟩,⟨1,839,841,220,0⟩,⟨1,842,844,230,0⟩,⟨1,845,846,220,0⟩,
 ⟨1,848,850,230,0⟩,⟨1,851,854,220,0⟩,⟨1,855,855,230,0⟩,⟨1,856,856,232,0⟩,⟨1,857,858,220,0⟩,⟨1,859,859,230,0⟩,
 ⟨1,860,860,233,0⟩,⟨1,861,862,234,0⟩,⟨1,863,863,233,0⟩,⟨1,864,865,234,0⟩,⟨1,866,866,233,0⟩,⟨1,867,879,230,0⟩,
 ⟨1,1155,1159,230,0⟩,⟨1,1456,1456,10,0⟩,⟨1,1457,1457,11,0⟩,⟨1,1458,1458,12,0⟩,⟨1,1459,1459,13,0⟩,⟨1,1460,1460,14,0⟩,
 ⟨1,1461,1461,15,0⟩,⟨1,1462,1462,16,0⟩,⟨1,1463,1463,17,0⟩,⟨1,1464,1464,18,0⟩,⟨1,1465,1466,19,0⟩,⟨1,1467,1467,20,0⟩,
 ⟨1,1468,1468,21,0⟩,⟨1,1469,1469,22,0⟩,⟨1,1471,1471,23,0⟩,⟨1,1473,1473,24,0⟩,⟨1,1474,1474,25,0⟩,⟨1,1479,1479,18,0⟩,
 ⟨1,1611,1611,27,0⟩,⟨1,1612,1612,28,0⟩,⟨1,1613,1613,29,0⟩,⟨1,1614,1614,30,0⟩,⟨1,1615,1615,31,0⟩,⟨1,1616,1616,32,0⟩,
 ⟨1,1617,1617,33,0⟩,⟨1,1618,1618,34,0⟩,⟨1,1619,1620,230,0⟩,⟨1,1621,1622,220,0⟩,⟨1,1648,1648,35,0⟩,⟨1,2364,2364,7,0⟩,
 ⟨1,2381,2381,9,0⟩,⟨1,2385,2385,230,0⟩,⟨1,2386,2386,220,0⟩,⟨1,2387,2388,230,0⟩,⟨1,2492,2492,7,0⟩,⟨1,2509,2509,9,0⟩,
 ⟨1,3021,3021,9,0⟩,⟨1,3640,3641,103,0⟩,⟨1,3642,3642,9,0⟩,⟨1,3656,3659,107,0⟩,⟨1,3953,3953,129,0⟩,⟨1,3954,3954,130,0⟩,
 ⟨1,3956,3956,132,0⟩,⟨1,8400,8401,230,0⟩,⟨1,8402,8403,1,0⟩,⟨1,8404,8407,230,0⟩,⟨1,8411,8412,230,0⟩,⟨1,8417,8417,230,0⟩,
 ⟨1,8424,8424,220,0⟩,⟨1,12441,12442,8,0⟩,⟨1,65056,65062,230,0⟩,⟨1,119141,119141,216,0⟩]
def zas:List Row:=[
 ⟨2,192,192,65,768⟩,⟨2,193,193,65,769⟩,⟨2,194,194,65,770⟩,⟨2,195,195,65,771⟩,⟨2,196,196,65,776⟩,⟨2,197,197,65,778⟩,
 ⟨2,199,199,67,807⟩,⟨2,200,200,69,768⟩,⟨2,201,201,69,769⟩,⟨2,202,202,69,770⟩,⟨2,203,203,69,776⟩,⟨2,204,204,73,768⟩,
 ⟨2,205,205,73,769⟩,⟨2,206,206,73,770⟩,⟨2,207,207,73,776⟩,⟨2,209,209,78,771⟩,⟨2,210,210,79,768⟩,⟨2,211,211,79,769⟩,
 ⟨2,212,212,79,770⟩,⟨2,213,213,79,771⟩,⟨2,214,214,79,776⟩,⟨2,217,217,85,768⟩,⟨2,218,218,85,769⟩,⟨2,219,219,85,770⟩,
 ⟨2,220,220,85,776⟩,⟨2,221,221,89,769⟩,⟨2,224,224,97,768⟩,⟨2,225,225,97,769⟩,⟨2,226,226,97,770⟩,⟨2,227,227,97,771⟩,
 ⟨2,228,228,97,776⟩,⟨2,229,229,97,778⟩,⟨2,231,231,99,807⟩,⟨2,232,232,101,768⟩,⟨2,233,233,101,769⟩,⟨2,234,234,101,770⟩,
 ⟨2,235,235,101,776⟩,⟨2,236,236,105,768⟩,⟨2,237,237,105,769⟩,⟨2,238,238,105,770⟩,⟨2,239,239,105,776⟩,⟨2,241,241,110,771⟩,
 ⟨2,242,242,111,768⟩,⟨2,243,243,111,769⟩,⟨2,244,244,111,770⟩,⟨2,245,245,111,771⟩,⟨2,246,246,111,776⟩,⟨2,249,249,117,768⟩,
 ⟨2,250,250,117,769⟩,⟨2,251,251,117,770⟩,⟨2,252,252,117,776⟩,⟨2,253,253,121,769⟩,⟨2,255,255,121,776⟩,⟨2,256,256,65,772⟩,
 ⟨2,257,257,97,772⟩,⟨2,258,258,65,774⟩,⟨2,259,259,97,774⟩,⟨2,260,260,65,808⟩,⟨2,261,261,97,808⟩,⟨2,262,262,67,769⟩,
 ⟨2,263,263,99,769⟩,⟨2,268,268,67,780⟩,⟨2,269,269,99,780⟩,⟨2,274,274,69,772⟩,⟨2,275,275,101,772⟩,⟨2,280,280,69,808⟩,
 ⟨2,281,281,101,808⟩,⟨2,304,304,73,775⟩,⟨2,323,323,78,769⟩,⟨2,324,324,110,769⟩,⟨2,352,352,83,780⟩,⟨2,353,353,115,780⟩,
 ⟨2,381,381,90,780⟩,⟨2,382,382,122,780⟩,⟨2,416,416,79,795⟩,⟨2,417,417,111,795⟩,⟨2,431,431,85,795⟩,⟨2,432,432,117,795⟩,
 ⟨2,469,469,220,772⟩,⟨2,470,470,252,772⟩,⟨2,471,471,220,769⟩,⟨2,472,472,252,769⟩,⟨2,480,480,550,772⟩,⟨2,481,481,551,772⟩,
 ⟨2,550,550,65,775⟩,⟨2,551,551,97,775⟩,⟨2,832,832,768,0⟩,⟨2,833,833,769,0⟩,⟨2,835,835,787,0⟩,⟨2,836,836,776,769⟩,
 ⟨2,884,884,697,0⟩,⟨2,894,894,59,0⟩,⟨2,901,901,168,769⟩,⟨2,902,902,913,769⟩,⟨2,903,903,183,0⟩,⟨2,904,904,917,769⟩,
 ⟨2,912,912,970,769⟩,⟨2,940,940,945,769⟩,⟨2,941,941,949,769⟩,⟨2,944,944,971,769⟩,⟨2,970,970,953,776⟩,⟨2,971,971,965,776⟩,
 ⟨2,2345,2345,2344,2364⟩,⟨2,2353,2353,2352,2364⟩,⟨2,2356,2356,2355,2364⟩,⟨2,2392,2392,2325,2364⟩,⟨2,2393,2393,2326,2364⟩,⟨2,2396,2396,2337,2364⟩,
 ⟨2,2507,2507,2503,2494⟩,⟨2,2508,2508,2503,2519⟩,⟨2,3018,3018,3014,3006⟩,⟨2,3955,3955,3953,3954⟩,⟨2,3957,3957,3953,3956⟩,⟨2,7692,7692,68,803⟩,
 ⟨2,7693,7693,100,803⟩,⟨2,7776,7776,83,775⟩,⟨2,7777,7777,115,775⟩,⟨2,7778,7778,83,803⟩,⟨2,7779,7779,115,803⟩,⟨2,7784,7784,7778,775⟩,
 ⟨2,7785,7785,7779,775⟩,⟨2,7840,7840,65,803⟩,⟨2,7841,7841,97,803⟩,⟨2,7842,7842,65,777⟩,⟨2,7843,7843,97,777⟩,⟨2,7844,7844,194,769⟩,
 ⟨2,7845,7845,226,769⟩,⟨2,7846,7846,194,768⟩,⟨2,7847,7847,226,768⟩,⟨2,7848,7848,194,777⟩,⟨2,7849,7849,226,777⟩,⟨2,7850,7850,194,771⟩,
 ⟨2,7851,7851,226,771⟩,⟨2,7852,7852,7840,770⟩,⟨2,7853,7853,7841,770⟩,⟨2,7854,7854,258,769⟩,⟨2,7855,7855,259,769⟩,⟨2,7856,7856,258,768⟩,
 ⟨2,7857,7857,259,768⟩,⟨2,7858,7858,258,777⟩,⟨2,7859,7859,259,777⟩,⟨2,7860,7860,258,771⟩,⟨2,7861,7861,259,771⟩,⟨2,7862,7862,7840,774⟩,
 ⟨2,7863,7863,7841,774⟩,⟨2,7884,7884,79,803⟩,⟨2,7885,7885,111,803⟩,⟨2,7896,7896,7884,770⟩,⟨2,7897,7897,7885,770⟩,⟨2,7936,7936,945,787⟩,
 ⟨2,7937,7937,945,788⟩,⟨2,7938,7938,7936,768⟩,⟨2,7939,7939,7937,768⟩,⟨2,8049,8049,940,0⟩,⟨2,8064,8064,7936,837⟩,⟨2,8115,8115,945,837⟩,
 ⟨2,8486,8486,937,0⟩,⟨2,8490,8490,75,0⟩,⟨2,8491,8491,197,0⟩,⟨2,8800,8800,61,824⟩,⟨2,8814,8814,60,824⟩,⟨2,10972,10972,10973,824⟩,
 ⟨2,12364,12364,12363,12441⟩,⟨2,12366,12366,12365,12441⟩,⟨2,12400,12400,12399,12441⟩,⟨2,12401,12401,12399,12442⟩,⟨2,12460,12460,12459,12441⟩,⟨2,12497,12497,12495,12442⟩,
 ⟨2,12532,12532,12454,12441⟩,⟨2,63744,63744,35912,0⟩,⟨2,63745,63745,26356,0⟩,⟨2,64285,64285,1497,1460⟩,⟨2,64287,64287,1522,1463⟩,⟨2,64298,64298,1513,1473⟩,
 ⟨2,64299,64299,1513,1474⟩,⟨2,64300,64300,64329,1473⟩,⟨2,64329,64329,1513,1468⟩,⟨2,119134,119134,119127,119141⟩]
def zfZ:List Row:=[
 ⟨3,2392,2393,1,0⟩,⟨3,2396,2396,1,0⟩,⟨3,10972,10972,1,0⟩,⟨3,64285,64285,1,0⟩,⟨3,64287,64287,1,0⟩,⟨3,64298,64300,1,0⟩,
 ⟨3,64329,64329,1,0⟩,⟨3,119134,119134,1,0⟩]
def JB:List Row:=[
 ⟨4,0,9,3,0⟩,⟨4,10,10,2,0⟩,⟨4,11,12,3,0⟩,⟨4,13,13,1,0⟩,⟨4,14,31,3,0⟩,⟨4,127,159,3,0⟩,
 ⟨4,173,173,3,0⟩,⟨4,768,879,4,0⟩,⟨4,1155,1161,4,0⟩,⟨4,1425,1469,4,0⟩,⟨4,1471,1471,4,0⟩,⟨4,1473,1474,4,0⟩,
 ⟨4,1479,1479,4,0⟩,⟨4,1536,1541,7,0⟩,⟨4,1611,1631,4,0⟩,⟨4,1648,1648,4,0⟩,⟨4,1757,1757,7,0⟩,⟨4,1807,1807,7,0⟩,
 ⟨4,2307,2307,8,0⟩,⟨4,2362,2362,4,0⟩,⟨4,2363,2363,8,0⟩,⟨4,2364,2364,4,0⟩,⟨4,2366,2368,8,0⟩,⟨4,2369,2376,4,0⟩,
 ⟨4,2377,2380,8,0⟩,⟨4,2381,2381,4,0⟩,⟨4,2385,2391,4,0⟩,⟨4,2434,2435,8,0⟩,⟨4,2492,2492,4,0⟩,⟨4,2494,2494,4,0⟩,
 ⟨4,2495,2496,8,0⟩,⟨4,2503,2504,8,0⟩,⟨4,2507,2508,8,0⟩,⟨4,2509,2509,4,0⟩,⟨4,2519,2519,4,0⟩,⟨4,3006,3006,4,0⟩,
 ⟨4,3007,3007,8,0⟩,⟨4,3014,3016,8,0⟩,⟨4,3018,3020,8,0⟩,⟨4,3021,3021,4,0⟩,⟨4,3633,3633,4,0⟩,⟨4,3635,3635,8,0⟩,
 ⟨4,3636,3642,4,0⟩,⟨4,3655,3662,4,0⟩,⟨4,3953,3966,4,0⟩,⟨4,4352,4447,9,0⟩,⟨4,4448,4519,10,0⟩,⟨4,4520,4607,11,0⟩,
 ⟨4,8203,8203,3,0⟩,⟨4,8204,8204,4,0⟩,⟨4,8205,8205,5,0⟩,⟨4,8206,8207,3,0⟩,⟨4,8232,8238,3,0⟩,⟨4,8288,8303,3,0⟩,
 ⟨4,8400,8432,4,0⟩,⟨4,12330,12335,4,0⟩,⟨4,12441,12442,4,0⟩,⟨4,43360,43388,9,0⟩,⟨4,55216,55238,10,0⟩,⟨4,55243,55291,11,0⟩,
 ⟨4,65024,65039,4,0⟩,⟨4,65056,65071,4,0⟩,⟨4,65279,65279,3,0⟩,⟨4,119141,119141,4,0⟩,⟨4,127462,127487,6,0⟩,⟨4,127995,127999,4,0⟩,
 ⟨4,917505,917535,3,0⟩,⟨4,917536,917631,4,0⟩,⟨4,917760,917999,4,0⟩]
def zbA:List Row:=[
 ⟨5,169,169,1,0⟩,⟨5,174,174,1,0⟩,⟨5,8252,8252,1,0⟩,⟨5,8265,8265,1,0⟩,⟨5,8482,8482,1,0⟩,⟨5,8505,8505,1,0⟩,
 ⟨5,8596,8601,1,0⟩,⟨5,8617,8618,1,0⟩,⟨5,8986,8987,1,0⟩,⟨5,9193,9203,1,0⟩,⟨5,9728,9733,1,0⟩,⟨5,9735,9746,1,0⟩,
 ⟨5,9748,9861,1,0⟩,⟨5,9872,9989,1,0⟩,⟨5,9992,10002,1,0⟩,⟨5,10084,10087,1,0⟩,⟨5,127744,127994,1,0⟩,⟨5,128000,128317,1,0⟩,
 ⟨5,128326,128591,1,0⟩,⟨5,128640,128767,1,0⟩,⟨5,129292,129338,1,0⟩,⟨5,129351,129791,1,0⟩]
def zaW:List Row:=[
 ⟨6,2325,2361,2,0⟩,⟨6,2381,2381,1,0⟩,⟨6,2392,2399,2,0⟩,⟨6,2453,2472,2,0⟩,⟨6,2509,2509,1,0⟩]
def zaX:List Row:=[
 ⟨7,4352,4447,1,0⟩,⟨7,8986,8987,1,0⟩,⟨7,9193,9196,1,0⟩,⟨7,9748,9749,1,0⟩,⟨7,11904,12350,1,0⟩,⟨7,12353,13311,1,0⟩,
 ⟨7,13312,19903,1,0⟩,⟨7,19968,40959,1,0⟩,⟨7,43360,43388,1,0⟩,⟨7,44032,55203,1,0⟩,⟨7,63744,64255,1,0⟩,⟨7,65072,65135,1,0⟩,
 ⟨7,65281,65376,1,0⟩,⟨7,65504,65510,1,0⟩,⟨7,127744,127994,1,0⟩,⟨7,128000,128317,1,0⟩,⟨7,128326,128591,1,0⟩,⟨7,128640,128767,1,0⟩,
 ⟨7,129292,129338,1,0⟩,⟨7,129351,129791,1,0⟩,⟨7,131072,262141,1,0⟩]
def Ub:List Row:=[
 ⟨8,48,57,1,0⟩,⟨8,65,90,1,0⟩,⟨8,95,95,1,0⟩,⟨8,97,122,1,0⟩,⟨8,170,170,1,0⟩,⟨8,181,181,1,0⟩,
 ⟨8,186,186,1,0⟩,⟨8,192,214,1,0⟩,⟨8,216,246,1,0⟩,⟨8,248,705,1,0⟩,⟨8,880,883,1,0⟩,⟨8,886,887,1,0⟩,
 ⟨8,902,902,1,0⟩,⟨8,904,1023,1,0⟩,⟨8,1024,1153,1,0⟩,⟨8,1162,1327,1,0⟩,⟨8,1329,1366,1,0⟩,⟨8,1488,1514,1,0⟩,
 ⟨8,1568,1610,1,0⟩,⟨8,2308,2361,1,0⟩,⟨8,2392,2401,1,0⟩,⟨8,2437,2489,1,0⟩,⟨8,3585,3632,1,0⟩,⟨8,4352,4607,1,0⟩,
 ⟨8,7680,8191,1,0⟩,⟨8,8486,8486,1,0⟩,⟨8,8490,8491,1,0⟩,⟨8,12353,12438,1,0⟩,⟨8,12449,12538,1,0⟩,⟨8,13312,19903,1,0⟩,
 ⟨8,19968,40959,1,0⟩,⟨8,44032,55203,1,0⟩,⟨8,63744,64255,1,0⟩,⟨8,131072,262141,1,0⟩]
theorem zbm [Gi]:CR Tryz.prog 49 [] [] [] (is (.p (qJ V7))):=
 Q7 V7 Tryz.func49 rfl (by kernel_rfl) (by kernel_rfl) ⟨rfl,rfl,rfl,rfl⟩ (by kernel_rfl) rfl ⟨rfl,rfl,rfl⟩ (by kernel_rfl) ⟨rfl,rfl,rfl,rfl⟩ (by decide) (by kernel_rfl)
theorem zd5 [Gi]:CR Tryz.prog 50 [] [] [] (is (.p (qJ zas))):=
 Q7 zas Tryz.func50 rfl (by kernel_rfl) (by kernel_rfl) ⟨rfl,rfl,rfl,rfl⟩ (by kernel_rfl) rfl ⟨rfl,rfl,rfl⟩ (by kernel_rfl) ⟨rfl,rfl,rfl,rfl⟩ (by decide) (by kernel_rfl)
theorem zg4 [Gi]:CR Tryz.prog 51 [] [] [] (is (.p (qJ zfZ))):=
 Q7 zfZ Tryz.func51 rfl (by kernel_rfl) (by kernel_rfl) ⟨rfl,rfl,rfl,rfl⟩ (by kernel_rfl) rfl ⟨rfl,rfl,rfl⟩ (by kernel_rfl) ⟨rfl,rfl,rfl,rfl⟩ (by decide) (by kernel_rfl)
theorem zcR [Gi]:CR Tryz.prog 52 [] [] [] (is (.p (qJ JB))):=
 Q7 JB Tryz.func52 rfl (by kernel_rfl) (by kernel_rfl) ⟨rfl,rfl,rfl,rfl⟩ (by kernel_rfl) rfl ⟨rfl,rfl,rfl⟩ (by kernel_rfl) ⟨rfl,rfl,rfl,rfl⟩ (by decide) (by kernel_rfl)
theorem zdY [Gi]:CR Tryz.prog 53 [] [] [] (is (.p (qJ zbA))):=
 Q7 zbA Tryz.func53 rfl (by kernel_rfl) (by kernel_rfl) ⟨rfl,rfl,rfl,rfl⟩ (by kernel_rfl) rfl ⟨rfl,rfl,rfl⟩ (by kernel_rfl) ⟨rfl,rfl,rfl,rfl⟩ (by decide) (by kernel_rfl)
theorem zeB [Gi]:CR Tryz.prog 54 [] [] [] (is (.p (qJ zaW))):=
 Q7 zaW Tryz.func54 rfl (by kernel_rfl) (by kernel_rfl) ⟨rfl,rfl,rfl,rfl⟩ (by kernel_rfl) rfl ⟨rfl,rfl,rfl⟩ (by kernel_rfl) ⟨rfl,rfl,rfl,rfl⟩ (by decide) (by kernel_rfl)
theorem zfn [Gi]:CR Tryz.prog 55 [] [] [] (is (.p (qJ zaX))):=
 Q7 zaX Tryz.func55 rfl (by kernel_rfl) (by kernel_rfl) ⟨rfl,rfl,rfl,rfl⟩ (by kernel_rfl) rfl ⟨rfl,rfl,rfl⟩ (by kernel_rfl) ⟨rfl,rfl,rfl,rfl⟩ (by decide) (by kernel_rfl)
theorem za6 [Gi]:CR Tryz.prog 56 [] [] [] (is (.p (qJ Ub))):=
 Q7 Ub Tryz.func56 rfl (by kernel_rfl) (by kernel_rfl) ⟨rfl,rfl,rfl,rfl⟩ (by kernel_rfl) rfl ⟨rfl,rfl,rfl⟩ (by kernel_rfl) ⟨rfl,rfl,rfl,rfl⟩ (by decide) (by kernel_rfl)
end
end Go.Proofs.YtfjdbbpimklecaaGreatDoor
namespace Go.AM
section
open Go.ChangeShapes Go.WideShapes
def frW(w:World)(b:Nat):Nat:=match w.heap[b]? with
 |some (.cells c _ _)=>c.size
 |_=>0
theorem zf2 {w:World} {a:Addr} {v:Value}(h:w.cell? a=some v):a.spot=none∧a.off<frW w a.block:=by
 unfold World.cell? at h
 unfold frW
 split at h
 ·rename_i c _ _ hb
  rw[hb]
  split at h
  ·cases h
  ·rename_i hs
   refine⟨by cases hq:a.spot with
    |none=>rfl
    |some _=>rw[hq]at hs;simp at hs,(Array.getElem?_eq_some_iff.1 h).1⟩
 ·cases h
section
variable {H:Type} {enc:TypeId×Value→H} {P:Program} {w:World} {base:Nat} {spare:Nat→Bool} {held:Bool}
def kK(enc:TypeId×Value→H)(P:Program)(w:World)(base:Nat)(spare:Nat→Bool)(held:Bool)(t:TypeId)(Q:List PV→Prop):Prop:=
 ∀(fuel:Nat) (cs:List Value) (x:DataW H×List MemPlace),DataW.trod enc P w base spare held fuel t cs=some x→∃xs,Q xs∧zr (frW w) w xs cs
theorem zdN {t:TypeId} {k:IntKind}(ht:P.underlying t=some (.int k)):kK enc P w base spare held t fun xs=>∃n,xs=[.int k n]∧(Lit.int k n).wf=true:=by
 intro fuel cs x h
 cases fuel with
 |zero=>simp[DataW.trod]at h
 |succ n=>
  unfold DataW.trod at h
  rw[ht]at h
  split at h<;>simp_all
  exact⟨[.int _ _],⟨_,rfl,h.1.2⟩,⟨_,[],rfl,rfl,rfl,rfl⟩⟩
theorem qo.mk {fr:Nat→Nat} {w:World} {z b:Nat}:∀{es:List PV} {o:Nat},(∀(i:Nat) (e:PV),es[i]?=some e→∃v,zi fr w e v∧v.cells.size=z∧∀j c,v.cells[j]?=some c→c.oneCell'=true∧w.cell? ⟨b,o+i*z+j,none⟩=some c)→qo fr w z b es o
 | [],o,h=>by simp only[qo]
 |x::es,o,h=>by
  simp only[qo]
  refine⟨by simpa using h 0 x rfl,qo.mk fun i e he=>?_⟩
  have:=h (i+1) e (by simpa using he)
  rwa[show o+(i+1)*z=o+z+i*z from by rw[Nat.add_mul];omega]at this
theorem WR {R:Nat→PV→Prop}:∀{n:Nat},(∀i,i<n→∃el,R i el)→∃es:List PV,es.length=n∧∀i el,es[i]?=some el→R i el
 |0,_=>⟨[],rfl,by simp⟩
 |n+1,h=>by
  obtain⟨es,h1,h2⟩:=WR (n:=n) fun i hi=>h i (by omega)
  obtain⟨el,hr⟩:=h n (by omega)
  refine⟨es++[el],by simp[h1],fun i x hx=>?_⟩
  rw[List.getElem?_append]at hx
  split at hx
  ·exact h2 i x hx
  ·rename_i hi
   have hl:=(List.getElem?_eq_some_iff.1 hx).1
   simp at hl
   have:i=n:=by omega
   subst this
   simp[h1]at hx
   subst hx
   exact hr
theorem W3 {t e : TypeId} {QE : PV → Prop} (ht : P.underlying t = some (.slice e)) (hz : 0 < P.cellsOf e)
    (hel : ∀ (fuel : Nat) (cs : List Value) (x : DataW H × List MemPlace), DataW.trod enc P w base spare held fuel e cs = some x → ∃ el v, QE el ∧ zi (frW w) w el v ∧ v.cells.toList = cs ∧ ∀ c ∈ cs, c.oneCell' = true) :
    kK enc P w base spare held t fun xs => ∃ es, xs = [.sl (P.cellsOf e) es] ∧ ∀ el ∈ es, QE el := by
  intro fuel cs x h
  rcases Go.Deep.open_slice ht h with ⟨rfl, _⟩ | ⟨a, len, cap, m, n, D, Pl, rfl, hb, hlc, _, hm, _, hi⟩
  · exact ⟨_, ⟨[], rfl, by simp⟩, by simp only [zr, zi]; exact ⟨_, [], rfl, rfl, .inl ⟨trivial, _, _, rfl⟩, rfl⟩⟩
  · have hlm : len ≤ m := by rw [hm]; split <;> omega
    have each : ∀ i, i < len → ∃ el v, QE el ∧ zi (frW w) w el v ∧ v.cells.size = P.cellsOf e ∧ ∀ j c, v.cells[j]? = some c → c.oneCell' = true ∧ w.cell? ((a.add (i * P.cellsOf e)).add j) = some c := by
      intro i hil
      obtain ⟨cs', h1, h2⟩ := hi i (by omega)
      obtain ⟨el, v, q, r, hv, hone⟩ := hel _ _ _ h2
      obtain ⟨k1, k2, k3⟩ := World.cells?_some h1
      refine ⟨el, v, q, r, by have : v.cells.toList.length = cs'.length := by rw [hv]
                              simpa [k2] using this, fun j c hj => ?_⟩
      have hj' : cs'[j]? = some c := by rw [← hv]; simpa using hj
      have hjl : j < P.cellsOf e := by have := (List.getElem?_eq_some_iff.1 hj').1; omega
      exact ⟨hone c (List.mem_of_getElem? hj'), (k3 j hjl).trans hj'⟩
    obtain ⟨es, hlen, hes⟩ := WR each
    subst hlen
    refine ⟨_, ⟨es, rfl, fun el hel' => ?_⟩, ?_⟩
    · obtain ⟨i, hi'⟩ := List.mem_iff_getElem?.1 hel'
      obtain ⟨v, q, _⟩ := hes i el hi'
      exact q
    · simp only [zr, zi]
      refine ⟨_, [], rfl, rfl, ?_, rfl⟩
      by_cases h0 : es.length = 0
      · exact .inl ⟨List.eq_nil_of_length_eq_zero h0, _, _, by rw [h0]⟩
      · right
        have cell : ∀ i j, i < es.length → j < P.cellsOf e → ∃ c, w.cell? ((a.add (i * P.cellsOf e)).add j) = some c := fun i j hi' hj => by
          obtain ⟨el, v, _, _, hs, hc⟩ := each i hi'
          have : j < v.cells.size := by omega
          exact ⟨_, (hc j _ (Array.getElem?_eq_getElem this)).2⟩
        obtain ⟨c0, hc0⟩ := cell 0 0 (by omega) hz
        simp only [Nat.zero_mul, Addr.add, if_true] at hc0
        have hsp := (zf2 hc0).1
        obtain ⟨b, o, sp⟩ := a
        simp only at hsp
        subst hsp
        refine ⟨b, o, cap, rfl, hlc, ?_, qo.mk fun i el hi' => ?_⟩
        · obtain ⟨c1, hc1⟩ := cell (es.length - 1) (P.cellsOf e - 1) (by omega) (by omega)
          rw [addr_add, addr_add] at hc1
          have := (zf2 hc1).2
          simp only at this
          have e1 : es.length * P.cellsOf e = (es.length - 1) * P.cellsOf e + P.cellsOf e := by
            obtain ⟨k, hk⟩ : ∃ k, es.length = k + 1 := ⟨es.length - 1, by omega⟩
            rw [hk, Nat.add_mul]; simp
          omega
        · obtain ⟨v, _, r, hs, hc⟩ := hes i el hi'
          refine ⟨v, r, hs, fun j c hj => ?_⟩
          have := hc j c hj
          rw [addr_add, addr_add] at this
          exact this
theorem Yi {t:TypeId}(ht:P.underlying t=some .string):kK enc P w base spare held t fun xs=>∃s,xs=[.str s]:=by
 intro fuel cs x h
 cases fuel with
 |zero=>simp[DataW.trod]at h
 |succ n=>
  unfold DataW.trod at h
  rw[ht]at h
  split at h<;>simp_all
  rename_i s
  exact⟨[.str s.data.toList],⟨_,rfl⟩,⟨_,[],rfl,rfl,by simp only[zi],rfl⟩⟩
def Ut:List (List PV→Prop)→List PV→Prop
 | [],xs=>xs=[]
 |Q::Qs,xs=>∃a b,xs=a++b∧Q a∧Ut Qs b
def laid(P:Program):List Field→Nat→Nat→Bool
 | [],o,n=>o==n
 |f::fs,o,n=>f.offset==o&&laid P fs (o+P.cellsOf f.type) n
def ziB(enc:TypeId×Value→H)(P:Program)(w:World)(base:Nat)(spare:Nat→Bool)(held:Bool):List Field→List (List PV→Prop)→Prop
 | [],[]=>True
 |f::fs,Q::Qs=>kK enc P w base spare held f.type Q∧ziB enc P w base spare held fs Qs
 |_,_=>False
theorem WL {cs:List Value} {m:Nat}:∀{fs:List Field} {Qs:List (List PV→Prop)} {o:Nat},ziB enc P w base spare held fs Qs→laid P fs o cs.length=true→
  (∀f∈fs,∃y,DataW.trod enc P w base spare held m f.type ((cs.drop f.offset).take (P.cellsOf f.type))=some y)→∃xs,Ut Qs xs∧zr (frW w) w xs (cs.drop o)
 | [],[],o,_,hl,_=>by
  simp only[laid,beq_iff_eq]at hl
  exact⟨[],rfl,by simp[zr,hl]⟩
 | [],_::_,_,h,_,_=>h.elim
 |_::_,[],_,h,_,_=>h.elim
 |f::fs,Q::Qs,o,h,hl,hy=>by
  simp only[laid,Bool.and_eq_true,beq_iff_eq]at hl
  obtain⟨y,e⟩:=hy f (by simp)
  obtain⟨a,qa,ra⟩:=h.1 _ _ _ e
  obtain⟨b,qb,rb⟩:=WL h.2 hl.2 (fun g hg=>hy g (by simp[hg]))
  refine⟨a++b,⟨a,b,rfl,qa,qb⟩,?_⟩
  rw[hl.1]at ra
  rw[←List.take_append_drop (P.cellsOf f.type) (cs.drop o),List.drop_drop]
  exact zr.append ra rb
theorem Yp {t:TypeId} {fs:Array Field} {Qs:List (List PV→Prop)}(ht:P.underlying t=some (.struct fs))(hl:laid P fs.toList 0 (P.cellsOf t)=true)(hQ:ziB enc P w base spare held fs.toList Qs):
  kK enc P w base spare held t (Ut Qs):=by
 intro fuel cs x h
 obtain⟨xs,n,_,_,hc,hlen,hf⟩:=DataW.trod_struct ht h
 rw[←hc]at hl
 obtain⟨ys,q,r⟩:=WL (cs:=cs) (m:=n) hQ hl (fun f hm=>by
  obtain⟨i,hi⟩:=List.mem_iff_getElem?.1 hm
  have hi':fs[i]?=some f:=by simpa using hi
  have hx:=hf i f hi'
  have:i<xs.length:=by rw[hlen];exact(Array.getElem?_eq_some_iff.1 hi').1
  exact⟨xs[i],by rw[hx];simp[this]⟩)
 exact⟨ys,q,by simpa using r⟩
theorem ziG {e:TypeId} {Q:PV→Prop}(h:kK enc P w base spare held e fun xs=>∃x,xs=[x]∧Q x):
  ∀(fuel:Nat) (cs:List Value) (x:DataW H×List MemPlace),DataW.trod enc P w base spare held fuel e cs=some x→∃el v,Q el∧zi (frW w) w el v∧v.cells.toList=cs∧∀c∈cs,c.oneCell'=true:=by
 intro fuel cs x hx
 obtain⟨xs,⟨y,rfl,q⟩,r⟩:=h _ _ _ hx
 simp only[zr]at r
 obtain⟨v,vs',rfl,h1,h2,rfl⟩:=r
 refine⟨y,v,q,h2,?_,by simpa using h1⟩
 cases v<;>simp_all [Value.oneCell',Value.cells]
theorem zr.zgQ {fr:Nat→Nat} {w:World}:∀{xs:List PV} {cs:List Value},zr fr w xs cs→∀c∈cs,c.oneCell'=true
 | [],cs,h=>by simp only[zr]at h;subst h;simp
 |x::xs,cs,h=>by
  simp only[zr]at h
  obtain⟨y,ys,rfl,h1,_,h3⟩:=h
  intro c hc
  rcases List.mem_cons.1 hc with rfl|hc
  ·exact h1
  ·exact zr.zgQ h3 c hc
theorem zie {e:TypeId} {Q:List PV→Prop}(h:kK enc P w base spare held e Q):
  ∀(fuel:Nat) (cs:List Value) (x:DataW H×List MemPlace),DataW.trod enc P w base spare held fuel e cs=some x→∃el v,(∃xs,el=.agg xs∧Q xs)∧zi (frW w) w el v∧v.cells.toList=cs∧∀c∈cs,c.oneCell'=true:=by
 intro fuel cs x hx
 obtain⟨xs,q,r⟩:=h _ _ _ hx
 exact⟨.agg xs,.agg cs.toArray,⟨xs,rfl,q⟩,by simp only[zi];exact⟨_,rfl,r⟩,by simp[Value.cells],zr.zgQ r⟩
end
end
section
def frz(g:Gh)(w:World)(rt:Tok→Bool):Gh:=
 ⟨fun b=>match g.K b with
  |.root t=>if rt t then g.fr b else frW w b
  |_=>g.fr b,(g.fil rt ftt).K⟩
theorem jf {g:Gh} {w:World} {rt:Tok→Bool} {b:Nat}(h:∀t,g.K b=.root t→rt t=true):(frz g w rt).fr b=g.fr b:=by
 simp only[frz]
 split
 ·rename_i t e;rw[if_pos (h t e)]
 ·rfl
theorem xx {g:Gh} {w:World} {rt:Tok→Bool} {b:Nat} {t:Tok}(h:g.K b=.root t)(ht:rt t=false):(frz g w rt).fr b=frW w b:=by
 simp only[frz,h,ht,Bool.false_eq_true,if_false]
theorem xX [Gi] {g:Gh} {w:World} {rs:List (Tok×List AV)}(hG:GS g w rs)(rt:Tok→Bool):Ext g.fr w (frz g w rt).fr w:=fun b o ho=>by
 refine⟨?_,rfl,rfl⟩
 by_cases h:∃t,g.K b=.root t
 ·obtain⟨t,ht⟩:=h
  obtain⟨_,_,h0,_⟩:=hG.roots b t ht
  omega
 ·rw[jf (fun t e=>absurd ⟨t,e⟩ h)]
  exact ho
theorem zeL [Gi] {g:Gh} {w:World} {rs:List (Tok×List AV)}(hG:GS g w rs)(rt:Tok→Bool):xc g w (frz g w rt) w rt ftt:=
 ⟨xX hG rt,fun b t ht hk=>⟨Gh.zS.2 ⟨hk,ht⟩,fun _ h=>h⟩,fun b t ht hk=>⟨Gh.qG.2 ⟨hk,ht⟩,jf (fun u e=>by rw[hk]at e;cases e),rfl⟩⟩
def K6(rt:Tok→Bool)(rs:List (Tok×List AV)):List (Tok×List AV):=(rs.filter fun x=>rt x.1).map fun x=>(x.1,x.2.map (AV.upd (fil rt ftt)))
theorem Vd {rt:Tok→Bool} {t:Tok}(ht:rt t=true):∀{rs:List (Tok×List AV)} {cs:List AV},zw rs t=some cs→zw (K6 rt rs) t=some (cs.map (AV.upd (fil rt ftt)))
 | [],_,h=>by simp[zw]at h
 |(k,y)::l,cs,h=>by
  simp only[zw]at h
  split at h
  ·rename_i e
   injection h with h
   subst e;subst h
   simp[K6,ht,zw]
  ·rename_i e
   have ih:=Vd ht h
   unfold K6 at ih⊢
   rw[List.filter_cons]
   split
   ·simp only[List.map_cons,zw,if_neg e];exact ih
   ·exact ih
theorem zix [Gi] {g:Gh} {w:World} {rs:List (Tok×List AV)}(hG:GS g w rs)(rt:Tok→Bool):GS (frz g w rt) w (K6 rt rs):=by
 have k:=zeL hG rt
 refine⟨fun b t hk=>?_,fun b b' t hk hk'=>hG.ur b b' t (Gh.zS.1 hk).1 (Gh.zS.1 hk').1,fun b b' t hk hk'=>hG.ut b b' t (Gh.qG.1 hk).1 (Gh.qG.1 hk').1,fun b hb=>hG.own b ?_,fun b hb=>?_,fun b arr e=>?_⟩
 ·obtain⟨hk1,ht⟩:=Gh.zS.1 hk
  obtain⟨cs,hl,h0,arr,T,hb,hle,hc⟩:=hG.roots b t hk1
  refine⟨cs.map (AV.upd (fil rt ftt)),Vd ht hl,?_,arr,T,hb,by simpa using hle,fun j x hj=>?_⟩
  ·rw[jf (fun u e=>by rw[hk1]at e;injection e with e;subst e;exact ht)];exact h0
  ·simp only[List.getElem?_map,Option.map_eq_some_iff]at hj
   obtain⟨y,hy,rfl⟩:=hj
   obtain⟨v,hv,h1,r⟩:=hc j y hy
   exact⟨v,hv,h1,za.upd k _ _ r⟩
 ·intro e;apply hb;show(g.K b).fil rt ftt=.prot;rw[e];rfl
 ·have:g.K b=.prot:=by
   rcases h:g.K b with _|t|t
   ·rfl
   all_goals exact absurd (hG.own b (by rw[h];simp)) (by omega)
  rw[jf (fun t e=>by rw[this]at e;cases e)]
  exact hG.frb b hb
 ·obtain⟨h1,h2⟩:=hG.gl b arr e
  exact⟨by show(g.K b).fil rt ftt=.prot;rw[h1];rfl,h2⟩
def ze2 [Gi](rt:Tok→Bool)(rs:List (Tok×List AV))(x x':AV):Prop:=∀g w v,GS g w rs→za g w x v→za (frz g w rt) w x' v
theorem CR.freeze [Gi] {P:Program} {f:FuncId} {pin:List Tok} {args:List AV} {rs:List (Tok×List AV)} {R R':AV→List (Tok×List AV)→Prop}(h:CR P f pin args rs R)(rt:Tok→Bool)(hp:pin.all rt=true)
  (hr:∀x rs',R x rs'→∃x',ze2 rt rs' x x'∧R' x' (K6 rt rs')):CR P f pin args rs R':=by
 intro w g vs h1 h2
 refine(h w g vs h1 h2).mono ?_
 rintro e w' ⟨v,x,rs',g',rfl,hR,hx,hG,hA⟩
 obtain⟨x',hf,hR'⟩:=hr x rs' hR
 refine⟨v,x',_,frz g' w' rt,rfl,hR',hf g' w' v hG hx,zix hG rt,⟨fun b hb hk=>?_,hA.ext.trans (xX hG rt),hA.out,hA.mono,fun b t hk ht=>?_⟩⟩
 ·obtain⟨a1,a2,a3⟩:=hA.frame b hb hk
  exact⟨a1,by rw[jf (fun t e=>by rw[a3]at e;cases e)];exact a2,by show(g'.K b).fil rt ftt=.prot;rw[a3];rfl⟩
 ·obtain⟨a1,a2⟩:=hA.pins b t hk ht
  exact⟨Gh.zS.2 ⟨a1,List.all_eq_true.1 hp t ht⟩,a2⟩
theorem Jh [Gi] {g:Gh} {w:World} {rs:List (Tok×List AV)}(hG:GS g w rs) {rt:Tok→Bool} {t:Tok} {z n:Nat} {es:List PV}(ext:List AV)(h0:0<n)(hl:zw rs t=some ((es.flatMap PV.cells).map .p++ext))(ht:rt t=false)(hn:es.length=n)
  (hz:∀e∈es,e.cells.length=z∧e.fits=true) {v:Value} (hv:za g w (.la t z 0 n) v):zi (frz g w rt).fr w (.sl z es) v:=by
 simp only[za]at hv
 obtain⟨b,o',cap,hk,rfl,hcap,ho,hblk⟩:=hv
 obtain rfl:o'=0:=ho.resolve_left (by omega)
 obtain⟨cs,hl',hfr,arr,T,hb,hle,hc⟩:=hG.roots b t hk
 rw[hl]at hl';injection hl' with hl';subst hl'
 have hx:=xX hG rt
 have hlen:(es.flatMap PV.cells).length=es.length*z:=by
  clear hl hn hle hc
  induction es with
  |nil=>simp
  |cons e es ih=>
   rw[List.flatMap_cons,List.length_append,ih (fun x hx=>hz x (by simp[hx])),(hz e (by simp)).1,List.length_cons,Nat.add_mul]
   omega
 rw[List.length_append,List.length_map,hlen]at hle
 have hfb:(frz g w rt).fr b=arr.size:=by rw[xx hk ht];simp[frW,hb]
 simp only[zi]
 refine .inr ⟨b,0,cap,by rw[hn],by omega,by rw[hfb];omega,?_⟩
 refine jL (vs:=arr.toList.take (es.length*z)) (Vy (by rw[hlen];simp;omega) fun j p hj=>?_) hz (fun j u hj=>?_)
 ·obtain⟨u,h1,h2,h3⟩:=hc j (.p p) (by rw[List.getElem?_append_left (by rw[List.length_map];exact(List.getElem?_eq_some_iff.1 hj).1),List.getElem?_map,hj];rfl)
  have hjl:j<es.length*z:=by rw[←hlen];exact(List.getElem?_eq_some_iff.1 hj).1
  simp only[za]at h3
  exact⟨u,by rw[List.getElem?_take,if_pos hjl];simpa using h1,h2,h3.ext hx⟩
 ·rw[List.getElem?_take]at hj
  split at hj
  ·rw[zT hb,Nat.zero_add];simpa using hj
  ·cases hj
theorem ze8 [Gi] {g:Gh} {w:World} {rs:List (Tok×List AV)}(hG:GS g w rs) {rt:Tok→Bool} {t:Tok} {z n:Nat} {es:List PV}(h0:0<n)(hl:zw rs t=some ((es.flatMap PV.cells).map .p))(ht:rt t=false)(hn:es.length=n)
  (hz:∀e∈es,e.cells.length=z∧e.fits=true) {v:Value} (hv:za g w (.la t z 0 n) v):zi (frz g w rt).fr w (.sl z es) v:=
 Jh hG [] h0 (by simpa using hl) ht hn hz hv
@[go_sem] theorem zkI (l : List PV) : xD (l.map .p) = some l := by
 induction l with
 |nil=>rfl
 |cons x l ih=>simp[xD,ih]
@[go_sem] theorem zcU (rt tt : Tok → Bool) : (AV.upd (fil rt tt) ∘ AV.p) = AV.p := rfl
@[go_sem] theorem zkJ (t : Tok) (ks xs : List PV) : (AV.upd (AM.fz t ks xs) ∘ AV.p) = AV.p := rfl
@[go_sem] theorem zlE (f : Tok → Option Tok) : (AV.ren f ∘ AV.p) = AV.p := rfl
theorem ZO {l:List PV} {n:Nat}(h:l.length=n):(l.map AV.p).take n=l.map .p:=List.take_of_length_le (by simp[h])
theorem Xo:∀(a:List PV),eqC a a=true
 | []=>by simp[eqC]
 |x::xs=>by cases x<;>simp[eqC,Xo xs]
theorem QP {kc:List Kc} {key:List PV}(hk:okC kc key=true):∀{ks xs:List PV} {i:Nat},ks.all (fun k=>okC kc k.cells)=true→ks.length=xs.length→(qq key ks xs i=none↔∀k∈ks,k.cells≠key)
 | [],[],i,_,_=>by simp[qq]
 | [],x::xs,i,_,h=>by simp at h
 |k::ks,[],i,_,h=>by simp at h
 |k::ks,x::xs,i,h1,h2=>by
  simp only[List.all_cons,Bool.and_eq_true]at h1
  unfold qq
  by_cases hc:eqC key k.cells=true
  ·rw[if_pos hc]
   have:=Wb hk h1.1 hc
   simp[this]
  ·rw[if_neg hc,QP hk h1.2 (by simpa using h2)]
   have hne:k.cells≠key:=fun e=>hc (by rw[e];exact Xo _)
   simp[hne]
theorem Zs {kc:List Kc} {key:List PV}(hk:okC kc key=true):∀{ks xs:List PV} {i j:Nat} {x:PV},ks.all (fun k=>okC kc k.cells)=true→qq key ks xs i=some (j,x)→i≤j∧∃k,ks[j-i]?=some k∧k.cells=key∧xs[j-i]?=some x
 | [],xs,i,j,x,_,h=>by simp[qq]at h
 |k::ks,[],i,j,x,_,h=>by simp[qq]at h
 |k::ks,y::xs,i,j,x,h1,h=>by
  simp only[List.all_cons,Bool.and_eq_true]at h1
  unfold qq at h
  by_cases hc:eqC key k.cells=true
  ·rw[if_pos hc]at h
   injection h with h;injection h with e1 e2;subst e1;subst e2
   exact⟨Nat.le_refl _,k,by simp,(Wb hk h1.1 hc).symm,by simp⟩
  ·rw[if_neg hc]at h
   obtain⟨h2,k',h3,h4,h5⟩:=Zs hk h1.2 h
   have e:j-i=(j- (i+1))+1:=by omega
   exact⟨by omega,k',by rw[e];simpa using h3,h4,by rw[e];simpa using h5⟩
def St.zac(S:St)(vs:List (Nat×AV))(rs:List (Tok×List AV)):St:={S with vs:=vs.foldl (fun l x=>Yt l x.1 x.2) S.vs,ts:=[],rs:=rs.foldl (fun l x=>jg l x.1 x.2) S.rs}
attribute [go_sem] St.zac
theorem zF [Gi] {P:Program} {D:List Nat} {c:Code} {Q:Exit→St→Prop} {S:St} {ι:Type}(inv:ι→Prop)(V:ι→List (Nat×AV))(R:ι→List (Tok×List AV))(m:ι→Nat)(i:ι)(hi:inv i)(h0:LeS S (S.zac (V i) (R i)))
  (h:∀i,inv i→wpA P D c (Ui inv (fun i=>S.zac (V i) (R i)) m i Q) (S.zac (V i) (R i))):wpA P D (.loop c) Q S:=
 QT inv (fun i=>S.zac (V i) (R i)) m i hi h0 h
def St.UC(S:St)(vs:List (Nat×AV))(rs:List (Tok×List AV))(ts:List (Nat×AV)):St:={S with vs:=vs.foldl (fun l x=>Yt l x.1 x.2) S.vs,ts:=ts,rs:=rs.foldl (fun l x=>jg l x.1 x.2) S.rs}
attribute [go_sem] St.UC
def KW {ι:Type}(S:St)(inv:ι→Prop)(V:ι→List (Nat×AV))(R:ι→List (Tok×List AV))(Q:Exit→St→Prop):Exit→St→Prop:=fun e S'=>match e with|.normal=>∃i ts,inv i∧S'=S.UC (V i) (R i) ts|e=>Q e S'
@[go_sem] theorem zjp {ι : Type} {S : St} {inv : ι → Prop} {V : ι → List (Nat × AV)} {R : ι → List (Tok × List AV)} {Q : Exit → St → Prop} {S' : St} {k : Nat} : KW S inv V R Q (.exit k) S' = Q (.exit k) S' := rfl
@[go_sem] theorem zjx {ι : Type} {S : St} {inv : ι → Prop} {V : ι → List (Nat × AV)} {R : ι → List (Tok × List AV)} {Q : Exit → St → Prop} {S' : St} : KW S inv V R Q .ret S' = Q .ret S' := rfl
theorem zR {ι:Type} {S:St} {inv:ι→Prop} {V:ι→List (Nat×AV)} {R:ι→List (Tok×List AV)} {Q:Exit→St→Prop} {S':St}(i:ι)(hi:inv i)(h:S'=S.UC (V i) (R i) S'.ts):KW S inv V R Q .normal S':=⟨i,_,hi,h⟩
theorem Zn [Gi] {P:Program} {D:List Nat} {x y rest:Code} {Q:Exit→St→Prop} {S:St} {v:AV} {ι:Type}(inv:ι→Prop)(V:ι→List (Nat×AV))(R:ι→List (Tok×List AV))(h:xP P D x y (KW S inv V R Q) S v)
  (hr:∀i ts,inv i→wpA P D rest Q (S.UC (V i) (R i) ts)):xP P D x y (zbo P D rest Q) S v:=by
 have hq:∀e S',KW S inv V R Q e S'→zbo P D rest Q e S':=fun e S' h=>by
  cases e with
  |normal=>obtain⟨i,ts,hi,rfl⟩:=h;exact hr i ts hi
  |_=>exact h
 unfold xP at h⊢
 split at h
 ·exact⟨fun e=>Qi x hq (h.1 e),fun e=>Qi y hq (h.2 e)⟩
 ·exact h.elim
end
end Go.AM
namespace Go.Proofs.YtfjdbbpimklecaaGreatDoor
section
open Go.AM
def vA:Int:=65533
structure Dk where
 need:Nat
 hv:Nat
 lo:Nat
 hi:Nat
 v:Nat
def dz:Dk:=⟨0,0,0,0,0⟩
def ya(b:Nat):Nat:=if b<224 then 1 else if b<240 then 2 else 3
def loD(b:Nat):Nat:=if b=224 then 160 else if b=240 then 144 else 128
def hiD(b:Nat):Nat:=if b=237 then 159 else if b=244 then 143 else 191
def Wr(b:Nat):Nat:=if b<224 then b%32 else if b<240 then b%16 else b%8
def q0(b:Nat):Dk×List Int:=
 if b<128 then(dz,[(b:Int)])else if b<194∨244<b then(dz,[vA])
 else(⟨ya b,1,loD b,hiD b,Wr b⟩,[])
def Qf(d:Dk)(b:Nat):Dk×List Int:=
 if d.need=0 then q0 b
 else if b<d.lo∨d.hi<b then((q0 b).1,vA::(q0 b).2)
 else if d.need=1 then(dz,[((d.v*64+b%64:Nat):Int)])
 else(⟨d.need-1,d.hv+1,128,191,d.v*64+b%64⟩,[])
def jv(d:Dk):List Nat→List Int
 | []=>if d.need=0 then []else [vA]
 |b::s=>(Qf d b).2++jv (Qf d b).1 s
theorem Wj(d:Dk)(b:Nat)(s:List Nat):jv d (b::s)=(Qf d b).2++jv (Qf d b).1 s:=rfl
end
end Go.Proofs.YtfjdbbpimklecaaGreatDoor
