/- A part of the proof of this seat's statements, by an abstract machine: what each operation does to values, and what the law's functions compute. Conditions: as each law says. -/
import Derived.Test.YtjefahhmkcfiiaaGreatM45
import Derived.Test.YtjefahhmkcfiiaaGreatM20
import Derived.OpenVars
section
namespace Go.Proofs.YtjefahhmkcfiiaaGreat
open Go.AM
set_option maxHeartbeats 8000000
set_option maxRecDepth 10000
attribute [local irreducible] apiRows
structure Edit where
 f:Int
 b:Int
 k:List Int
def editP(x:Edit):PV:=.agg [.int .i64 x.f,.int .i64 x.b,runesV x.k]
def editsP(l:List Edit):PV:=.sl 3 (l.map editP)
theorem putL_at {nfc:List Int→List Int} {clus:List Int→List (List Int)}(L:List (List Int))(a:Nat)(ha:a≤L.length)(f e:Int)(s:List Int):∃a':Nat,(putL nfc clus L a f e s).2.1=(a':Int)∧a'≤(putL nfc clus L a f e s).1.length:=by
 unfold putL
 split
 ·exact⟨a,rfl,ha⟩
 ·simp only
  split
  ·exact⟨a,rfl,ha⟩
  ·exact⟨_,rfl,caretGo_le _ _⟩
theorem lineOK_len {L:List (List Int)}(h:LineOK L):∀x∈L,x.length<2^31:=fun x hx=>by
 have h1:=h.len
 have h2:x.length≤L.flatten.length:=by
  obtain⟨i,hi,rfl⟩:=List.mem_iff_getElem.1 hx
  have:=sumL_take L (i+1)
  rw[sumL_step hi]at this
  rw[sumL_flat];omega
 rw[sumL_flat]at h2
 omega
theorem lineOK_of(l:List Int)(hn:l.length≤40)(hr:∀x∈l,Rune x):LineOK (clusD apiRows (nfcD apiRows l))where
 num:=by rw[formD.sum];exact formD.num _
 len:=by
  rw[formD.sum]
  have h1:=nfdD_len apiRows l
  have h2:=compo_len (kD apiRows) (mkD apiRows) (nfdD apiRows l) []
  unfold nfcD composD compoD
  simp only[List.length_nil]at h2
  omega
 rune:=by rw[formD.flat];exact formD.rune l (by omega) hr
theorem puts_cr [Gi](s:List Int)(es:List Edit)(hs:∀x∈s,Rune x)(he:∀e∈es,∀x∈e.k,Rune x):CR Tryz.prog 3 [] [.p (runesP s),.p (editsP es)] [] (is (.p (.bool true))):=by
 refine CR_of_wpD [18] mixed 16 [] Tryz.func3 rfl (by kernel_rfl) rfl (by simp) (by simp) ?_
 simp (maxSteps:=1000000) [go_sem,Tryz.f3,runesP]
 refine⟨⟨rfl,by simp[Tryz.f15]⟩,CallK_of [] (few_cr s 40 (by decide)) (by simp[go_sem,notHead]) ⟨by simp[go_sem],by simp[go_sem,runesP]⟩ (by simp[go_sem]) ?_⟩
 rintro _ rs ⟨rfl,rfl⟩
 have hl:(s.take 40).length≤40:=by rw[List.length_take];omega
 have hr:∀x∈s.take 40,Rune x:=fun x hx=>hs x (List.mem_of_mem_take hx)
 generalize s.take 40=l at hl hr
 simp (maxSteps:=1000000) [go_sem,runesP]
 refine⟨⟨rfl,by simp[Tryz.f16]⟩,CallK_of [] rows_cr (by simp[go_sem,notHead]) ⟨by simp[go_sem],by simp[go_sem]⟩ (by simp[go_sem]) ?_⟩
 rintro _ rs ⟨rfl,rfl⟩
 simp (maxSteps:=1000000) [go_sem,rowsP]
 refine⟨⟨rfl,by simp[Tryz.f17]⟩,CallK_of [] tables_cr (by simp[go_sem,notHead]) ⟨by simp[go_sem],by simp[go_sem,rowsP]⟩ (by simp[go_sem]) ?_⟩
 rintro _ rs ⟨rfl,e,rfl,c,b,j,f,p,hT,rfl⟩
 simp (maxSteps:=1000000) [go_sem,tabP]
 refine⟨⟨rfl,by simp[Tryz.f18]⟩,CallK_of [] (ofM0_cr hT (keysR M0.2) (truesI M0.2) l (by omega) hr) (by simp[go_sem,notHead]) ⟨by simp[go_sem],by simp[go_sem,tabP,runesV,i32s]⟩ (by simp[go_sem]) ?_⟩
 rintro _ rs ⟨rfl,rfl⟩
 have hO:=ofD0_cr l (by omega) hr
 have hL0:=lineOK_of l hl hr
 generalize clusD apiRows (nfcD apiRows l)=L0 at hO hL0
 simp (maxSteps:=1000000) [go_sem,lineV,textsV]
 refine⟨rfl,⟨rfl,by simp[Tryz.f19]⟩,CallK_of [] hO (by simp[go_sem,notHead]) ⟨by simp[go_sem],by simp[go_sem,rowsP,runesV,i32s]⟩ (by simp[go_sem]) ?_⟩
 rintro _ rs ⟨rfl,rfl⟩
 simp (maxSteps:=1000000) [go_sem,lineV,textsV]
 refine⟨rfl,?_⟩
 refine wpA_loopU (fun r:Nat×List (List Int)×Nat=>r.1≤es.length∧r.1≤8∧LineOK r.2.1∧r.2.2≤r.2.1.length) (fun r=>[(9,.p (.int .i64 (r.1:Nat))),(10,.junk),(11,.junk),(12,.junk),(13,.junk),(14,.junk),(15,.junk)]) (fun r=>[([7],linR r.2.1 r.2.2),([8],linR r.2.1 r.2.2)]) (fun r=>8-r.1) (0,L0,0) ⟨by simp,by simp,hL0,by simp⟩ (by simp[go_sem,LeS,leV,leR,leA,leL,leL_refl,leT,leP,linR,textsV]) (fun r hr2=>?_)
 obtain⟨i,L,a⟩:=r
 obtain⟨i1,i2,hL,ha⟩:=hr2
 simp only at i1 i2 hL ha
 by_cases c1:i<es.length
 ·by_cases c2:i<8
  ·have em:elemAt (es.map editP) i=editP es[i]:=elemAt_map editP es i c1
   have hk:=he es[i] (List.getElem_mem c1)
   generalize es[i]=x at em hk
   obtain⟨xf,xb,xk⟩:=x
   simp only at hk
   have c1':(i:Int)<es.length:=by omega
   have c2':(i:Int)<8:=by omega
   have lk:(xk.take 15).length≤15:=by rw[List.length_take];omega
   have rk:∀y∈xk.take 15,Rune y:=fun y hy=>hk y (List.mem_of_mem_take hy)
   have hfew:=few_cr xk 15 (by decide)
   generalize xk.take 15=ks at lk rk hfew
   have w3:IntKind.i64.wrap ((i:Int)+1)=((i+1:Nat):Int):=wrapN_one (by omega)
   simp (maxSteps:=1000000) [go_sem,editsP,editP,runesV,linR,textsV,c1,c2,c1',c2',em]
   refine⟨rfl,⟨rfl,by simp[Tryz.f15]⟩,CallK_of [] hfew (by simp[go_sem,notHead]) ⟨by simp[go_sem],by simp[go_sem,runesP,i32s]⟩ (by simp[go_sem]) ?_⟩
   rintro _ rs ⟨rfl,rfl⟩
   by_cases g1:0≤xb
   ·by_cases g2:xb<100
    ·by_cases g3:0≤xf
     ·by_cases g4:xf<1000
      ·have wE:IntKind.i64.wrap (xf+xb)=xf+xb:=wrap64 (by omega) (by omega)
       simp (maxSteps:=1000000) [go_sem,runesP,g1,g2,g3,g4,wE]
       have hp1:=putM0_cr hT (keysR M0.2) (truesI M0.2) L hL a xf (xf+xb) ks (by omega) rk
       have hp2:=putD_cr rowsOK0 formD L hL a xf (xf+xb) ks (by omega) rk
       have hok:=putL_ok formD hL a xf (xf+xb) (show ks.length≤1000 by omega) rk
       obtain⟨a',ea,ha'⟩:=putL_at (nfc:=nfcD apiRows) (clus:=clusD apiRows) L a ha xf (xf+xb) ks
       generalize putL (nfcD apiRows) (clusD apiRows) L a xf (xf+xb) ks=r at hp1 hp2 hok ea ha'
       obtain⟨L',a2,ok⟩:=r
       simp only at ea ha' hok
       subst ea
       refine⟨⟨rfl,by simp[Tryz.f20]⟩,CallK_of [] hp1 (by simp[go_sem,notHead]) ⟨by simp[go_sem],by simp[go_sem,tabP,runesV,i32s,lineV,textsV]⟩ (by simp[go_sem]) ?_⟩
       rintro _ rs ⟨rfl,rfl⟩
       simp (maxSteps:=1000000) [go_sem,putV,lineV,textsV]
       refine⟨rfl,⟨rfl,by simp[Tryz.f21]⟩,CallK_of [] hp2 (by simp[go_sem,notHead]) ⟨by simp[go_sem],by simp[go_sem,rowsP,runesV,i32s,lineV,textsV]⟩ (by simp[go_sem]) ?_⟩
       rintro _ rs ⟨rfl,rfl⟩
       simp (maxSteps:=1000000) [go_sem,putV,lineV,textsV]
       have hn1:=hok.num
       have hn2:=hok.len
       have cl:clAt L' a'=a':=by unfold clAt;omega
       have hfl:=sumL_flat L'
       have hft:=sumL_flat (L'.take a')
       have hst:=sumL_take L' a'
       have g26:=place_cr L' a' (by omega) (by omega)
       rw[placeL,cl]at g26
       refine⟨rfl,HCallK_of (.p (.bool true)) rfl rfl (fun _=>pcallA_of 22 (sameTexts_cr L' (by omega) (lineOK_len hok)) rfl ⟨rfl,by simp[Tryz.f22]⟩ ⟨by simp[go_sem],by simp[go_sem,textsV]⟩) ?_⟩
       simp (maxSteps:=1000000) [go_sem,runesV,textsP_len]
       refine HCallK_of (.p (runesV L'.flatten)) rfl rfl (fun _=>pcallA_of 24 (runes_cr L' a' (by omega) (by omega)) rfl ⟨rfl,by simp[Tryz.f24]⟩ ⟨by simp[go_sem],by simp[go_sem,lineV,textsV]⟩) ?_
       simp (maxSteps:=1000000) [go_sem,runesV,textsP_len]
       refine HCallK_of (.p (runesV L'.flatten)) rfl rfl (fun _=>pcallA_of 25 (joinedL_cr L' (by omega) (by omega)) rfl ⟨rfl,by simp[Tryz.f25]⟩ ⟨by simp[go_sem],by simp[go_sem,textsV]⟩) ?_
       simp (maxSteps:=1000000) [go_sem,runesV,textsP_len]
       refine HCallK_of (.p (.bool true)) rfl rfl (fun _=>pcallA_of 23 (same_cr L'.flatten (by omega)) rfl ⟨rfl,by simp[Tryz.f23]⟩ ⟨by simp[go_sem],by simp[go_sem,runesV]⟩) ?_
       simp (maxSteps:=1000000) [go_sem,runesV,textsP_len]
       refine HCallK_of (.p (.int .i64 (sumL (L'.take a'):Nat))) rfl rfl (fun _=>pcallA_of 26 (g26) rfl ⟨rfl,by simp[Tryz.f26]⟩ ⟨by simp[go_sem],by simp[go_sem,lineV,textsV]⟩) ?_
       simp (maxSteps:=1000000) [go_sem,runesV,textsP_len,cut_texts_take]
       refine⟨ha',HCallK_of (.p (runesV (L'.take a').flatten)) rfl rfl (fun _=>pcallA_of 25 (joinedL_cr (L'.take a') (by rw[List.length_take];omega) (by omega)) rfl ⟨rfl,by simp[Tryz.f25]⟩ ⟨by simp[go_sem],by simp[go_sem,textsV]⟩) ?_⟩
       simp (maxSteps:=1000000) [go_sem,runesV,textsP_len,i32s_len,hft,w3]
       exact LoopK_next (i+1,L',a') ⟨by show i+1≤es.length;omega,by show i+1≤8;omega,hok,ha'⟩ (by simp[go_sem,LeS,leV,leR,leA,leL,leL_refl,leT,leP,linR,textsV]) (by show 8- (i+1)<8-i;omega)
      ·simp (maxSteps:=1000000) [go_sem,runesP,g1,g2,g3,g4]
       have hp1:=putM0_cr hT (keysR M0.2) (truesI M0.2) L hL a xf xf ks (by omega) rk
       have hp2:=putD_cr rowsOK0 formD L hL a xf xf ks (by omega) rk
       have hok:=putL_ok formD hL a xf xf (show ks.length≤1000 by omega) rk
       obtain⟨a',ea,ha'⟩:=putL_at (nfc:=nfcD apiRows) (clus:=clusD apiRows) L a ha xf xf ks
       generalize putL (nfcD apiRows) (clusD apiRows) L a xf xf ks=r at hp1 hp2 hok ea ha'
       obtain⟨L',a2,ok⟩:=r
       simp only at ea ha' hok
       subst ea
       refine⟨⟨rfl,by simp[Tryz.f20]⟩,CallK_of [] hp1 (by simp[go_sem,notHead]) ⟨by simp[go_sem],by simp[go_sem,tabP,runesV,i32s,lineV,textsV]⟩ (by simp[go_sem]) ?_⟩
       rintro _ rs ⟨rfl,rfl⟩
       simp (maxSteps:=1000000) [go_sem,putV,lineV,textsV]
       refine⟨rfl,⟨rfl,by simp[Tryz.f21]⟩,CallK_of [] hp2 (by simp[go_sem,notHead]) ⟨by simp[go_sem],by simp[go_sem,rowsP,runesV,i32s,lineV,textsV]⟩ (by simp[go_sem]) ?_⟩
       rintro _ rs ⟨rfl,rfl⟩
       simp (maxSteps:=1000000) [go_sem,putV,lineV,textsV]
       have hn1:=hok.num
       have hn2:=hok.len
       have cl:clAt L' a'=a':=by unfold clAt;omega
       have hfl:=sumL_flat L'
       have hft:=sumL_flat (L'.take a')
       have hst:=sumL_take L' a'
       have g26:=place_cr L' a' (by omega) (by omega)
       rw[placeL,cl]at g26
       refine⟨rfl,HCallK_of (.p (.bool true)) rfl rfl (fun _=>pcallA_of 22 (sameTexts_cr L' (by omega) (lineOK_len hok)) rfl ⟨rfl,by simp[Tryz.f22]⟩ ⟨by simp[go_sem],by simp[go_sem,textsV]⟩) ?_⟩
       simp (maxSteps:=1000000) [go_sem,runesV,textsP_len]
       refine HCallK_of (.p (runesV L'.flatten)) rfl rfl (fun _=>pcallA_of 24 (runes_cr L' a' (by omega) (by omega)) rfl ⟨rfl,by simp[Tryz.f24]⟩ ⟨by simp[go_sem],by simp[go_sem,lineV,textsV]⟩) ?_
       simp (maxSteps:=1000000) [go_sem,runesV,textsP_len]
       refine HCallK_of (.p (runesV L'.flatten)) rfl rfl (fun _=>pcallA_of 25 (joinedL_cr L' (by omega) (by omega)) rfl ⟨rfl,by simp[Tryz.f25]⟩ ⟨by simp[go_sem],by simp[go_sem,textsV]⟩) ?_
       simp (maxSteps:=1000000) [go_sem,runesV,textsP_len]
       refine HCallK_of (.p (.bool true)) rfl rfl (fun _=>pcallA_of 23 (same_cr L'.flatten (by omega)) rfl ⟨rfl,by simp[Tryz.f23]⟩ ⟨by simp[go_sem],by simp[go_sem,runesV]⟩) ?_
       simp (maxSteps:=1000000) [go_sem,runesV,textsP_len]
       refine HCallK_of (.p (.int .i64 (sumL (L'.take a'):Nat))) rfl rfl (fun _=>pcallA_of 26 (g26) rfl ⟨rfl,by simp[Tryz.f26]⟩ ⟨by simp[go_sem],by simp[go_sem,lineV,textsV]⟩) ?_
       simp (maxSteps:=1000000) [go_sem,runesV,textsP_len,cut_texts_take]
       refine⟨ha',HCallK_of (.p (runesV (L'.take a').flatten)) rfl rfl (fun _=>pcallA_of 25 (joinedL_cr (L'.take a') (by rw[List.length_take];omega) (by omega)) rfl ⟨rfl,by simp[Tryz.f25]⟩ ⟨by simp[go_sem],by simp[go_sem,textsV]⟩) ?_⟩
       simp (maxSteps:=1000000) [go_sem,runesV,textsP_len,i32s_len,hft,w3]
       exact LoopK_next (i+1,L',a') ⟨by show i+1≤es.length;omega,by show i+1≤8;omega,hok,ha'⟩ (by simp[go_sem,LeS,leV,leR,leA,leL,leL_refl,leT,leP,linR,textsV]) (by show 8- (i+1)<8-i;omega)
     ·simp (maxSteps:=1000000) [go_sem,runesP,g1,g2,g3]
      have hp1:=putM0_cr hT (keysR M0.2) (truesI M0.2) L hL a xf xf ks (by omega) rk
      have hp2:=putD_cr rowsOK0 formD L hL a xf xf ks (by omega) rk
      have hok:=putL_ok formD hL a xf xf (show ks.length≤1000 by omega) rk
      obtain⟨a',ea,ha'⟩:=putL_at (nfc:=nfcD apiRows) (clus:=clusD apiRows) L a ha xf xf ks
      generalize putL (nfcD apiRows) (clusD apiRows) L a xf xf ks=r at hp1 hp2 hok ea ha'
      obtain⟨L',a2,ok⟩:=r
      simp only at ea ha' hok
      subst ea
      refine⟨⟨rfl,by simp[Tryz.f20]⟩,CallK_of [] hp1 (by simp[go_sem,notHead]) ⟨by simp[go_sem],by simp[go_sem,tabP,runesV,i32s,lineV,textsV]⟩ (by simp[go_sem]) ?_⟩
      rintro _ rs ⟨rfl,rfl⟩
      simp (maxSteps:=1000000) [go_sem,putV,lineV,textsV]
      refine⟨rfl,⟨rfl,by simp[Tryz.f21]⟩,CallK_of [] hp2 (by simp[go_sem,notHead]) ⟨by simp[go_sem],by simp[go_sem,rowsP,runesV,i32s,lineV,textsV]⟩ (by simp[go_sem]) ?_⟩
      rintro _ rs ⟨rfl,rfl⟩
      simp (maxSteps:=1000000) [go_sem,putV,lineV,textsV]
      have hn1:=hok.num
      have hn2:=hok.len
      have cl:clAt L' a'=a':=by unfold clAt;omega
      have hfl:=sumL_flat L'
      have hft:=sumL_flat (L'.take a')
      have hst:=sumL_take L' a'
      have g26:=place_cr L' a' (by omega) (by omega)
      rw[placeL,cl]at g26
      refine⟨rfl,HCallK_of (.p (.bool true)) rfl rfl (fun _=>pcallA_of 22 (sameTexts_cr L' (by omega) (lineOK_len hok)) rfl ⟨rfl,by simp[Tryz.f22]⟩ ⟨by simp[go_sem],by simp[go_sem,textsV]⟩) ?_⟩
      simp (maxSteps:=1000000) [go_sem,runesV,textsP_len]
      refine HCallK_of (.p (runesV L'.flatten)) rfl rfl (fun _=>pcallA_of 24 (runes_cr L' a' (by omega) (by omega)) rfl ⟨rfl,by simp[Tryz.f24]⟩ ⟨by simp[go_sem],by simp[go_sem,lineV,textsV]⟩) ?_
      simp (maxSteps:=1000000) [go_sem,runesV,textsP_len]
      refine HCallK_of (.p (runesV L'.flatten)) rfl rfl (fun _=>pcallA_of 25 (joinedL_cr L' (by omega) (by omega)) rfl ⟨rfl,by simp[Tryz.f25]⟩ ⟨by simp[go_sem],by simp[go_sem,textsV]⟩) ?_
      simp (maxSteps:=1000000) [go_sem,runesV,textsP_len]
      refine HCallK_of (.p (.bool true)) rfl rfl (fun _=>pcallA_of 23 (same_cr L'.flatten (by omega)) rfl ⟨rfl,by simp[Tryz.f23]⟩ ⟨by simp[go_sem],by simp[go_sem,runesV]⟩) ?_
      simp (maxSteps:=1000000) [go_sem,runesV,textsP_len]
      refine HCallK_of (.p (.int .i64 (sumL (L'.take a'):Nat))) rfl rfl (fun _=>pcallA_of 26 (g26) rfl ⟨rfl,by simp[Tryz.f26]⟩ ⟨by simp[go_sem],by simp[go_sem,lineV,textsV]⟩) ?_
      simp (maxSteps:=1000000) [go_sem,runesV,textsP_len,cut_texts_take]
      refine⟨ha',HCallK_of (.p (runesV (L'.take a').flatten)) rfl rfl (fun _=>pcallA_of 25 (joinedL_cr (L'.take a') (by rw[List.length_take];omega) (by omega)) rfl ⟨rfl,by simp[Tryz.f25]⟩ ⟨by simp[go_sem],by simp[go_sem,textsV]⟩) ?_⟩
      simp (maxSteps:=1000000) [go_sem,runesV,textsP_len,i32s_len,hft,w3]
      exact LoopK_next (i+1,L',a') ⟨by show i+1≤es.length;omega,by show i+1≤8;omega,hok,ha'⟩ (by simp[go_sem,LeS,leV,leR,leA,leL,leL_refl,leT,leP,linR,textsV]) (by show 8- (i+1)<8-i;omega)
    ·simp (maxSteps:=1000000) [go_sem,runesP,g1,g2]
     have hp1:=putM0_cr hT (keysR M0.2) (truesI M0.2) L hL a xf xf ks (by omega) rk
     have hp2:=putD_cr rowsOK0 formD L hL a xf xf ks (by omega) rk
     have hok:=putL_ok formD hL a xf xf (show ks.length≤1000 by omega) rk
     obtain⟨a',ea,ha'⟩:=putL_at (nfc:=nfcD apiRows) (clus:=clusD apiRows) L a ha xf xf ks
     generalize putL (nfcD apiRows) (clusD apiRows) L a xf xf ks=r at hp1 hp2 hok ea ha'
     obtain⟨L',a2,ok⟩:=r
     simp only at ea ha' hok
     subst ea
     refine⟨⟨rfl,by simp[Tryz.f20]⟩,CallK_of [] hp1 (by simp[go_sem,notHead]) ⟨by simp[go_sem],by simp[go_sem,tabP,runesV,i32s,lineV,textsV]⟩ (by simp[go_sem]) ?_⟩
     rintro _ rs ⟨rfl,rfl⟩
     simp (maxSteps:=1000000) [go_sem,putV,lineV,textsV]
     refine⟨rfl,⟨rfl,by simp[Tryz.f21]⟩,CallK_of [] hp2 (by simp[go_sem,notHead]) ⟨by simp[go_sem],by simp[go_sem,rowsP,runesV,i32s,lineV,textsV]⟩ (by simp[go_sem]) ?_⟩
     rintro _ rs ⟨rfl,rfl⟩
     simp (maxSteps:=1000000) [go_sem,putV,lineV,textsV]
     have hn1:=hok.num
     have hn2:=hok.len
     have cl:clAt L' a'=a':=by unfold clAt;omega
     have hfl:=sumL_flat L'
     have hft:=sumL_flat (L'.take a')
     have hst:=sumL_take L' a'
     have g26:=place_cr L' a' (by omega) (by omega)
     rw[placeL,cl]at g26
     refine⟨rfl,HCallK_of (.p (.bool true)) rfl rfl (fun _=>pcallA_of 22 (sameTexts_cr L' (by omega) (lineOK_len hok)) rfl ⟨rfl,by simp[Tryz.f22]⟩ ⟨by simp[go_sem],by simp[go_sem,textsV]⟩) ?_⟩
     simp (maxSteps:=1000000) [go_sem,runesV,textsP_len]
     refine HCallK_of (.p (runesV L'.flatten)) rfl rfl (fun _=>pcallA_of 24 (runes_cr L' a' (by omega) (by omega)) rfl ⟨rfl,by simp[Tryz.f24]⟩ ⟨by simp[go_sem],by simp[go_sem,lineV,textsV]⟩) ?_
     simp (maxSteps:=1000000) [go_sem,runesV,textsP_len]
     refine HCallK_of (.p (runesV L'.flatten)) rfl rfl (fun _=>pcallA_of 25 (joinedL_cr L' (by omega) (by omega)) rfl ⟨rfl,by simp[Tryz.f25]⟩ ⟨by simp[go_sem],by simp[go_sem,textsV]⟩) ?_
     simp (maxSteps:=1000000) [go_sem,runesV,textsP_len]
     refine HCallK_of (.p (.bool true)) rfl rfl (fun _=>pcallA_of 23 (same_cr L'.flatten (by omega)) rfl ⟨rfl,by simp[Tryz.f23]⟩ ⟨by simp[go_sem],by simp[go_sem,runesV]⟩) ?_
     simp (maxSteps:=1000000) [go_sem,runesV,textsP_len]
     refine HCallK_of (.p (.int .i64 (sumL (L'.take a'):Nat))) rfl rfl (fun _=>pcallA_of 26 (g26) rfl ⟨rfl,by simp[Tryz.f26]⟩ ⟨by simp[go_sem],by simp[go_sem,lineV,textsV]⟩) ?_
     simp (maxSteps:=1000000) [go_sem,runesV,textsP_len,cut_texts_take]
     refine⟨ha',HCallK_of (.p (runesV (L'.take a').flatten)) rfl rfl (fun _=>pcallA_of 25 (joinedL_cr (L'.take a') (by rw[List.length_take];omega) (by omega)) rfl ⟨rfl,by simp[Tryz.f25]⟩ ⟨by simp[go_sem],by simp[go_sem,textsV]⟩) ?_⟩
     simp (maxSteps:=1000000) [go_sem,runesV,textsP_len,i32s_len,hft,w3]
     exact LoopK_next (i+1,L',a') ⟨by show i+1≤es.length;omega,by show i+1≤8;omega,hok,ha'⟩ (by simp[go_sem,LeS,leV,leR,leA,leL,leL_refl,leT,leP,linR,textsV]) (by show 8- (i+1)<8-i;omega)
   ·simp (maxSteps:=1000000) [go_sem,runesP,g1]
    have hp1:=putM0_cr hT (keysR M0.2) (truesI M0.2) L hL a xf xf ks (by omega) rk
    have hp2:=putD_cr rowsOK0 formD L hL a xf xf ks (by omega) rk
    have hok:=putL_ok formD hL a xf xf (show ks.length≤1000 by omega) rk
    obtain⟨a',ea,ha'⟩:=putL_at (nfc:=nfcD apiRows) (clus:=clusD apiRows) L a ha xf xf ks
    generalize putL (nfcD apiRows) (clusD apiRows) L a xf xf ks=r at hp1 hp2 hok ea ha'
    obtain⟨L',a2,ok⟩:=r
    simp only at ea ha' hok
    subst ea
    refine⟨⟨rfl,by simp[Tryz.f20]⟩,CallK_of [] hp1 (by simp[go_sem,notHead]) ⟨by simp[go_sem],by simp[go_sem,tabP,runesV,i32s,lineV,textsV]⟩ (by simp[go_sem]) ?_⟩
    rintro _ rs ⟨rfl,rfl⟩
    simp (maxSteps:=1000000) [go_sem,putV,lineV,textsV]
    refine⟨rfl,⟨rfl,by simp[Tryz.f21]⟩,CallK_of [] hp2 (by simp[go_sem,notHead]) ⟨by simp[go_sem],by simp[go_sem,rowsP,runesV,i32s,lineV,textsV]⟩ (by simp[go_sem]) ?_⟩
    rintro _ rs ⟨rfl,rfl⟩
    simp (maxSteps:=1000000) [go_sem,putV,lineV,textsV]
    have hn1:=hok.num
    have hn2:=hok.len
    have cl:clAt L' a'=a':=by unfold clAt;omega
    have hfl:=sumL_flat L'
    have hft:=sumL_flat (L'.take a')
    have hst:=sumL_take L' a'
    have g26:=place_cr L' a' (by omega) (by omega)
    rw[placeL,cl]at g26
    refine⟨rfl,HCallK_of (.p (.bool true)) rfl rfl (fun _=>pcallA_of 22 (sameTexts_cr L' (by omega) (lineOK_len hok)) rfl ⟨rfl,by simp[Tryz.f22]⟩ ⟨by simp[go_sem],by simp[go_sem,textsV]⟩) ?_⟩
    simp (maxSteps:=1000000) [go_sem,runesV,textsP_len]
    refine HCallK_of (.p (runesV L'.flatten)) rfl rfl (fun _=>pcallA_of 24 (runes_cr L' a' (by omega) (by omega)) rfl ⟨rfl,by simp[Tryz.f24]⟩ ⟨by simp[go_sem],by simp[go_sem,lineV,textsV]⟩) ?_
    simp (maxSteps:=1000000) [go_sem,runesV,textsP_len]
    refine HCallK_of (.p (runesV L'.flatten)) rfl rfl (fun _=>pcallA_of 25 (joinedL_cr L' (by omega) (by omega)) rfl ⟨rfl,by simp[Tryz.f25]⟩ ⟨by simp[go_sem],by simp[go_sem,textsV]⟩) ?_
    simp (maxSteps:=1000000) [go_sem,runesV,textsP_len]
    refine HCallK_of (.p (.bool true)) rfl rfl (fun _=>pcallA_of 23 (same_cr L'.flatten (by omega)) rfl ⟨rfl,by simp[Tryz.f23]⟩ ⟨by simp[go_sem],by simp[go_sem,runesV]⟩) ?_
    simp (maxSteps:=1000000) [go_sem,runesV,textsP_len]
    refine HCallK_of (.p (.int .i64 (sumL (L'.take a'):Nat))) rfl rfl (fun _=>pcallA_of 26 (g26) rfl ⟨rfl,by simp[Tryz.f26]⟩ ⟨by simp[go_sem],by simp[go_sem,lineV,textsV]⟩) ?_
    simp (maxSteps:=1000000) [go_sem,runesV,textsP_len,cut_texts_take]
    refine⟨ha',HCallK_of (.p (runesV (L'.take a').flatten)) rfl rfl (fun _=>pcallA_of 25 (joinedL_cr (L'.take a') (by rw[List.length_take];omega) (by omega)) rfl ⟨rfl,by simp[Tryz.f25]⟩ ⟨by simp[go_sem],by simp[go_sem,textsV]⟩) ?_⟩
    simp (maxSteps:=1000000) [go_sem,runesV,textsP_len,i32s_len,hft,w3]
    exact LoopK_next (i+1,L',a') ⟨by show i+1≤es.length;omega,by show i+1≤8;omega,hok,ha'⟩ (by simp[go_sem,LeS,leV,leR,leA,leL,leL_refl,leT,leP,linR,textsV]) (by show 8- (i+1)<8-i;omega)
  ·have c1':(i:Int)<es.length:=by omega
   have c2':¬(i:Int)<8:=by omega
   simp (maxSteps:=1000000) [go_sem,editsP,c1,c2,c1',c2']
   refine⟨⟨rfl,by simp[Tryz.f27]⟩,CallK_of [] awake_cr (by simp[go_sem,notHead]) ⟨by simp[go_sem],by simp[go_sem]⟩ (by simp[go_sem]) ?_⟩
   rintro _ rs ⟨rfl,rfl⟩
   simp (maxSteps:=1000000) [go_sem]
   exact ret_is (.p (.bool true)) rfl (by simp[go_sem,resOf,leA,leT,leP]) ⟨rfl,rfl⟩
 ·have c1':¬(i:Int)<es.length:=by omega
  simp (maxSteps:=1000000) [go_sem,editsP,c1,c1']
  refine⟨⟨rfl,by simp[Tryz.f27]⟩,CallK_of [] awake_cr (by simp[go_sem,notHead]) ⟨by simp[go_sem],by simp[go_sem]⟩ (by simp[go_sem]) ?_⟩
  rintro _ rs ⟨rfl,rfl⟩
  simp (maxSteps:=1000000) [go_sem]
  exact ret_is (.p (.bool true)) rfl (by simp[go_sem,resOf,leA,leT,leP]) ⟨rfl,rfl⟩
end Go.Proofs.YtjefahhmkcfiiaaGreat
end
section
namespace Go.AM
open Go.ChangeShapes Go.RowKit
def Yes:AV→List (Tok×List AV)→Prop:=fun x rs=>rs=[]∧x=.p (.bool true)
theorem Value.cells_one {v:Value}(h:v.oneCell'=true):v.cells.toList=[v]:=by
 cases v<;>simp_all [Value.oneCell',Value.cells]
theorem cell_one {P:Program} {w:World} {r:Reach} {base:Nat} {t:TypeId} {v:Value}(h:Cell.okWide P w r base t v):v.oneCell'=true:=by
 unfold Cell.okWide at h
 split at h<;>try rfl
 all_goals unfold Cell.ok at h;split at h<;>first|rfl|exact h.elim
theorem okWide_flat {P:Program} {w:World} {r:Reach} {base:Nat} {t:TypeId} {v:Value}(h:Value.okWide P w r base t v)(hf:(match P.underlying t with|some (.struct _)=>false|some (.array _ _)=>false|_=>true)=true):v.oneCell'=true:=by
 unfold Value.okWide at h
 split at h
 ·rename_i e;rw[e]at hf;cases hf
 ·rename_i e;rw[e]at hf;cases hf
 ·exact cell_one h
section
variable {H:Type} {enc:TypeId×Value→H} {P:Program}
def ArgIs(enc:TypeId×Value→H)(P:Program)(t:TypeId)(Q:PV→Prop):Prop:=
 ∀(W:World) (base:Nat) (v:Value) (d:DataW H) (p:List MemPlace),Value.okWide P W .any base t v→DataW.Trod enc P W 0 (fun _=>true) true t v d p→∃x,Q x∧RepP (frW W) W x v
theorem arg_one {t:TypeId} {Q:PV→Prop}(hf:(match P.underlying t with|some (.struct _)=>false|some (.array _ _)=>false|_=>true)=true)(h:∀W,Opens enc P W 0 (fun _=>true) true t fun xs=>∃x,xs=[x]∧Q x):ArgIs enc P t Q:=by
 intro W base v d p ho ht
 obtain⟨fuel,ht⟩:=ht
 obtain⟨xs,⟨x,rfl,q⟩,r⟩:=h W _ _ _ ht
 have h1:=okWide_flat ho hf
 rw[Value.cells_one h1]at r
 simp only[RepL]at r
 obtain⟨v',vs',e,_,r,_⟩:=r
 injection e with e;subst e
 exact⟨x,q,r⟩
def ArgsAre(enc:TypeId×Value→H)(P:Program):List TypeId→List (PV→Prop)→Prop
 | [],[]=>True
 |t::ts,Q::Qs=>ArgIs enc P t Q∧ArgsAre enc P ts Qs
 |_,_=>False
def AllQ:List (PV→Prop)→List PV→Prop
 | [],[]=>True
 |Q::Qs,x::xs=>Q x∧AllQ Qs xs
 |_,_=>False
theorem args_open {W:World} {base:Nat} {g:Gh}(hg:g.fr=frW W):∀{ts:List TypeId} {Qs:List (PV→Prop)} {vs:List Value} {ds:List (DataW H)} {p:List MemPlace},ArgsAre enc P ts Qs→
  (∀(j:Nat) t v,ts[j]?=some t→vs[j]?=some v→Value.okWide P W .any base t v)→DataW.TrodAll enc P W 0 (fun _=>true) true ts vs ds p→∃xs,AllQ Qs xs∧RepAL g W (xs.map .p) vs
 | [],[],[],_,_,_,_,_=>⟨[],trivial,by simp[RepAL]⟩
 | [],[],_::_,_,_,_,_,h=>h.elim
 | [],_::_,_,_,_,h,_,_=>h.elim
 |_::_,[],_,_,_,h,_,_=>h.elim
 |_::_,_::_,[],_,_,_,_,h=>by simp[DataW.TrodAll]at h
 |_::_,_::_,_::_,[],_,_,_,h=>by simp[DataW.TrodAll]at h
 |t::ts,Q::Qs,v::vs,d::ds,p,ha,ho,h=>by
  obtain⟨p',q',h1,h2,rfl⟩:=h
  obtain⟨x,qx,rx⟩:=ha.1 W base v d p' (ho 0 t v rfl rfl) h1
  obtain⟨xs,qs,rs⟩:=args_open hg ha.2 (fun j t' v' e1 e2=>ho (j+1) t' v' e1 e2) h2
  refine⟨x::xs,⟨qx,qs⟩,?_⟩
  simp only[List.map_cons,RepAL]
  exact⟨v,vs,rfl,by simp only[RepA];rw[hg];exact rx,rs⟩
theorem trodAll_stays(hl:laidOutB P=true) {W W':World} {sp:Nat→Bool}(hb:Below W.heap.size W W'):∀{ts:List TypeId} {vs:List Value} {ds:List (DataW H)} {p:List MemPlace},ts.all (fun t=>P.readableRec t&&decide (t<P.types.size))=true→
  DataW.TrodAll enc P W 0 (fun _=>true) true ts vs ds p→(∀x∈p,x.block<W.heap.size∧sp x.block=true)→DataW.TrodAll enc P W' 0 sp true ts vs ds p
 | [],[],[],_,_,h,_=>h
 | [],[],_::_,_,_,h,_=>h.elim
 | [],_::_,_,_,_,h,_=>h.elim
 |_::_,[],_,_,_,h,_=>h.elim
 |_::_,_::_,[],_,_,h,_=>h.elim
 |t::ts,v::vs,d::ds,p,hr,h,hlt=>by
  obtain⟨p',q',h1,h2,rfl⟩:=h
  simp only[List.all_cons,Bool.and_eq_true,decide_eq_true_eq]at hr
  refine⟨p',q',WideElems.Trod_stays hl hr.1.1 hr.1.2 h1 (fun x hx=>hb.same (hlt x (by simp[hx])).1) (fun x hx=>(hlt x (by simp[hx])).2),trodAll_stays hl hb hr.2 h2 (fun x hx=>hlt x (by simp[hx])),rfl⟩
theorem post_yes {f:Func} {s:ChangeSpec} {apart fresh handsOn again:Bool} {W W':World} {args:Array Value} {ds gs:List (DataW H)} {before:List MemPlace} {tb:TypeId}
  (hl:laidOutB P=true) (hb:Below W.heap.size W W') (hW:DataW.Whole enc P f.params.toList s.vars apart W args.toList ds gs before) (hv:s.vars=[]) (hgs:gs=[])
  (hr:f.params.toList.all (fun t=>P.readableRec t&&decide (t<P.types.size))=true) (ht:f.resultTypes= #[tb]) (hbo:P.underlying tb=some .bool)
  (h1:(s.fn H (ds++gs)).results=[.lit (.bool true)]) (h2:(s.fn H (ds++gs)).args=ds) (h3:(s.fn H (ds++gs)).vars=[]):
  s.post enc P f apart fresh handsOn again W args (.bool true) W':=by
 have hlt:∀x∈before,x.block<W.heap.size:=fun p hp=>by simpa using hW.lt p hp
 have hW':=hW
 obtain⟨p,q,hA,hV,rfl,hz,hn⟩:=hW
 have hq:q=[]:=by
  rw[hv,hgs]at hV
  exact hV
 subst hq
 have hres:∀(b:Nat) (sp:Nat→Bool) (hd:Bool),DataW.TrodAll enc P W' b sp hd f.resultTypes.toList ((Value.bool true).resultList f.resultTypes.size) [.lit (.bool true)] []:=by
  intro b sp hd
  rw[ht]
  show DataW.TrodAll enc P W' b sp hd [tb] [.bool true] _ _
  exact⟨[],[],shut_bool hbo true,rfl,rfl⟩
 have hargs:∀sp:Nat→Bool,(∀x∈p++[],sp x.block=true)→DataW.TrodAll enc P W' 0 sp true f.params.toList args.toList ds p:=fun sp hsp=>
  trodAll_stays hl hb hr hA (fun x hx=>⟨hlt x (by simp[hx]),hsp x (by simp[hx])⟩)
 refine⟨ds,gs,p++[],[],p,[],hW',?_,?_,?_,hb.frame _,fun _=>⟨?_,?_⟩⟩
 ·rw[h1];exact hres _ _ _
 ·rw[h2];exact hargs _ fun x hx=>by simpa using hlt x hx
 ·rw[h3,hv];exact rfl
 ·intro j t' r hj hvj
  rw[ht]at hj hvj
  match j,hj,hvj with
  |0,hj,hvj=>
   simp[Value.resultList]at hj hvj
   subst hj;subst hvj
   simp[Value.okWide,hbo,Cell.okWide,Cell.ok]
  |j+1,hj,_=>simp at hj
 ·refine⟨_,_,([]++p)++[],⟨[]++p,[],trodAll_append (hargs _ (fun _ _=>rfl)) (hres _ _ _),(by rw[hv];exact rfl:DataW.TrodVars enc P W' (fun _=>true) s.vars [] []),rfl,?_,?_⟩,?_⟩
  ·intro b off hp
   rw[hb.frozen (hlt _ (by simpa using hp))]
   exact hz b off (by simpa using hp)
  ·intro ha
   simpa using hn ha
  ·intro x hx _
   simpa using hx
theorem contract_of [Gi] {C:Checked} {fn:Func} {n:FuncId} {s:ChangeSpec} {apart fresh handsOn again:Bool} {Qs:List (PV→Prop)} {tb:TypeId}(hl:laidOutB C.prog=true)(hv:s.vars=[])
  (hr:fn.params.toList.all (fun t=>C.prog.readableRec t&&decide (t<C.prog.types.size))=true) (ht:fn.resultTypes= #[tb]) (hbo:C.prog.underlying tb=some .bool)
  (hs:∀ds:List (DataW H),ds.length=fn.params.size→s.fn H ds={results:=[.lit (.bool true)],args:=ds})
  (hQ:ArgsAre enc C.prog fn.params.toList Qs) (hC:∀xs,AllQ Qs xs→CR C.prog n [] (xs.map .p) [] Yes)
  (W:World) (base:Nat) (args:Array Value) (ds gs:List (DataW H)) (before:List MemPlace)
  (hval:∀(j:Nat) t v,fn.params[j]?=some t→args[j]?=some v→Value.okWide C.prog W .any base t v)
  (hW:DataW.Whole enc C.prog fn.params.toList s.vars apart W args.toList ds gs before) (hgl:GlOK ⟨frW W,fun _=>.prot⟩ W):
  Calls C.prog n args W fun e W'=>∃v,e=.returned v∧s.post enc C.prog fn apart fresh handsOn again W args v W':=by
 have hW0:=hW
 obtain⟨p,q,hA,hV,_,_,_⟩:=hW
 have hgs:gs=[]:=by
  rw[hv]at hV
  cases gs with
  |nil=>rfl
  |cons _ _=>exact hV.elim
 obtain⟨xs,qx,rx⟩:=args_open (g:=⟨frW W,fun _=>.prot⟩) rfl hQ (fun j t v e1 e2=>hval j t v (by simpa using e1) (by simpa using e2)) hA
 have hG:GS ⟨frW W,fun _=>.prot⟩ W []:=by
  refine⟨fun b t h=>?_,fun b b' t h=>?_,fun b b' t h=>?_,fun b h=>absurd rfl h,fun b hb=>?_,hgl⟩
  ·cases h
  ·cases h
  ·cases h
  ·show frW W b=0
   have hb':W.heap[b]?=none:=by simpa using hb
   unfold frW
   rw[hb']
 have hc:=hC xs qx W _ _ rx hG
 rw[Array.toArray_toList]at hc
 refine hc.mono ?_
 rintro e W' ⟨v,x,rs',g',rfl,⟨rfl,rfl⟩,r,_,hAft⟩
 simp only[RepA,RepP]at r
 subst r
 have hB:Below W.heap.size W W':=⟨hAft.out.1,hAft.out.2.1,hAft.out.2.2,hAft.mono,fun k hk=>(hAft.frame k hk rfl).1⟩
 have hlen:ds.length=fn.params.size:=by
  have:∀{ts:List TypeId} {vs:List Value} {ds:List (DataW H)} {p:List MemPlace},DataW.TrodAll enc C.prog W 0 (fun _=>true) true ts vs ds p→ds.length=ts.length:=by
   intro ts
   induction ts with
   |nil=>intro vs ds p h;cases vs<;>cases ds<;>simp_all [DataW.TrodAll]
   |cons t ts ih=>
    intro vs ds p h
    cases vs<;>cases ds<;>simp_all [DataW.TrodAll]
    obtain⟨_,_,_,h2,_⟩:=h
    exact ih h2
  simpa using this hA
 exact⟨_,rfl,post_yes hl hB hW0 hv hgs hr ht hbo (by rw[hgs,List.append_nil,hs ds hlen]) (by rw[hgs,List.append_nil,hs ds hlen]) (by rw[hgs,List.append_nil,hs ds hlen])⟩
end
end Go.AM
end
