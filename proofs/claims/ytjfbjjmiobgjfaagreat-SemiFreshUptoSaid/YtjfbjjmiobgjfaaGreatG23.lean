/- The walk of the document's Env.Fits (layer 14). -/
import Derived.Test.YtjfbjjmiobgjfaaGreatG22
import Derived.Laws.CopyOwn
set_option maxRecDepth 100000
set_option maxHeartbeats 8000000
namespace Go.Proofs.YtjfbjjmiobgjfaaGreat
open ChangeShapes WideShapes ChangeAt RowKit
open K (ZaG Zda ZaQ Zaq Zbl ZaR Zbw Zcm)
attribute [local go_sem] Oper.semAt_some
def ZdO (an:Option Addr)(n cn:Nat)(av:Option Addr)(cv:Nat)(o:Option (List ByteArray×List ByteArray))(w:World)(e:Ending)(w':World):Prop:=Ext w w'∧match o with
 |none=>e=.returned (.tuple #[ZeB an n cn av cv,.bool false])
 |some x=>x.1.length=x.2.length∧∃aN cN aV cV,e=.returned (.tuple #[ZeB aN x.1.length cN aV cV,.bool true])∧w'.ownsRow w.heap.size 9 1 (.slice aN x.1.length cN) x.1.length (x.1.map Value.string)∧w'.ownsRow w.heap.size 9 1 (.slice aV x.1.length cV) x.1.length (x.2.map Value.string)
theorem Zkz {ops:Array Oper}{o:Oper}{a:Act}{K:Act→World→Prop}{Q:Exit→Act→World→Prop}{E:Prop}(W0:World)(z:ByteArray)(base:Nat)(fa:Option Addr)(n fc:Nat)(l:List ByteArray)(hown:W0.ownsRow base 9 1 (.slice fa n fc) n (l.map Value.string))(hn:n≤1000000)(hbase:base≤W0.heap.size)(hgd:o.guard=none)(s x:Operand)
  (ho:o.op=.call {callee:=.builtin .append,args:=#[s,x],argTypes:=#[54,54]}) (hs:a.eval s=.slice fa n fc) (hx:a.eval x=.slice (some ⟨W0.heap.size,0,none⟩) 1 1)
  (h:∀g cap w',w'.ownsRow base 9 1 (.slice (some ⟨g,0,none⟩) (n+1) cap) (n+1) (l.map Value.string++[.string z])→(W0.alloc (.cells #[.string z] 9)).grownBy w' (Value.slice fa n fc).ownBlock→((Value.slice fa n fc).ownBlock=some g∨g=(W0.alloc (.cells #[.string z] 9)).heap.size)→K (a.put o.dst (.slice (some ⟨g,0,none⟩) (n+1) cap)) w'):
  if Region.wanted o (yielded ops a.tmps)=true then Oper.wp Tryz.prog o a (W0.alloc (.cells #[.string z] 9)) K Q else E:=by
 obtain⟨n0,hn0,nz0,nz1,nz2⟩:=info_parts ZbI
 exact step_append_lies _ hgd s x 54 ho base 9 n0 (.string ⟨#[]⟩) 1 16 Tryz.underlying54 hn0 nz0 nz1 nz2 rfl (by decide) _ n (l.map Value.string) hs (hown.alloc _) ⟨W0.heap.size,0,none⟩ 1 1 [.string z] hx rfl (fun j u hu=>ZeL W0 _ _ _ rfl j u hu) (by simp[Value.oneCell']) (by omega) (by unfold maxLen;omega) (by omega) (by simp;omega) _ rfl fun g cap w1 hown1 hgrow hat _=>h g cap w1 hown1 hgrow hat
theorem Ziy (tmps:Array Value)(p6:Nat)(v0 v1 b:Value)(W:World)(h6:tmps.getD 6 undef=.pointer (some ⟨p6,0,none⟩))(h7:tmps.getD 7 undef=b)(c0:W.cell? ⟨p6,0,none⟩=some v0)(c1:W.cell? ⟨p6,1,none⟩=some v1):(results Tryz.f82 tmps).run Tryz.prog W=.ok (.tuple #[.agg #[v0,v1],b]) W:=by
 have e6:tmps[6]?.getD undef=.pointer (some ⟨p6,0,none⟩):=by rw[←h6];simp
 have e7:tmps[7]?.getD undef=b:=by rw[←h7];simp
 simp only[results,Tryz.f82]
 go_simp
theorem Zn2 (ns vs:List ByteArray)(an:Option Addr)(n cn:Nat)(av:Option Addr)(cv:Nat)(a:Zda)(at_:Option Addr)(nt ct:Nat)(row:List ByteArray)(ar:Option Addr)(cr:Nat)(w:World)(h1:Zai w an n ns)(h2:Zai w av n vs)(hz1:an=none→n=0∧cn=0)(hz2:av=none→n=0∧cv=0)(hn:n≤100000)(ht:Zaq w at_ nt a.terms)(hnt:nt≤100000)(hr:Zai w ar nt row):
  Calls Tryz.prog 82 #[ZeB an n cn av cv,ZdZ a at_ nt ct,.slice ar nt cr] w (ZdO an n cn av cv (Zbh a.terms row ns vs) w):=by
 obtain⟨i0,hinf,hz0,hzs1,hzs2⟩:=info_parts ZbI
 obtain⟨W0,hW0⟩:∃W0,W0=(((w.alloc (.cells #[.slice an n cn,.slice av n cv] 138)).alloc (.cells #[.string a.pred,.slice at_ nt ct] 24)).alloc (.cells #[.slice none 0 0,.slice none 0 0] 138)).alloc (.cells #[.slice none 0 0,.slice none 0 0] 138):=⟨_,rfl⟩
 have EW0:Hid (Ext w W0):=by show Ext _ _;rw[hW0];exact Zab (Zab (Zab (Zab zbr _) _) _) _
 have SZ0:Hid (W0.heap.size=w.heap.size+4):=by show _=_;rw[hW0];simp
 have P3:Hid (Za1 W0 w.heap.size 138 (.slice an n cn) (.slice av n cv)):=by
  show _=_;rw[hW0];exact(Zab (Zab (Zab zbr _) _) _).block _ (by simp) |>.trans (heap_alloc_new w _)
 have P4:Hid (Za1 W0 (w.heap.size+1) 24 (.string a.pred) (.slice at_ nt ct)):=by
  show _=_;rw[hW0]
  have:=heap_alloc_new (w.alloc (.cells #[.slice an n cn,.slice av n cv] 138)) (.cells #[.string a.pred,.slice at_ nt ct] 24)
  exact((Zab (Zab zbr _) _).block _ (by simp)).trans (by simpa using this)
 have P6:Hid (Za1 W0 (w.heap.size+2) 138 (.slice none 0 0) (.slice none 0 0)):=by
  show _=_;rw[hW0]
  have:=heap_alloc_new ((w.alloc (.cells #[.slice an n cn,.slice av n cv] 138)).alloc (.cells #[.string a.pred,.slice at_ nt ct] 24)) (.cells #[.slice none 0 0,.slice none 0 0] 138)
  exact((Zab zbr _).block _ (by simp)).trans (by simpa using this)
 have P8:Hid (Za1 W0 (w.heap.size+3) 138 (.slice none 0 0) (.slice none 0 0)):=by
  show _=_;rw[hW0]
  have:=heap_alloc_new (((w.alloc (.cells #[.slice an n cn,.slice av n cv] 138)).alloc (.cells #[.string a.pred,.slice at_ nt ct] 24)).alloc (.cells #[.slice none 0 0,.slice none 0 0] 138)) (.cells #[.slice none 0 0,.slice none 0 0] 138)
  simpa using this
 obtain⟨p,hp⟩:∃p,w.heap.size=p:=⟨_,rfl⟩
 have HP:=zh hp
 rw[hp] at SZ0 P3 P4 P6 P8
 have S1:Hid (∀W,Ext w W→Zhx W (.slice an n cn) (ns.map Value.string)):=fun W hW=>(h1.keep hW).src hz1
 have S2:Hid (∀W,Ext w W→Zhx W (.slice av n cv) (vs.map Value.string)):=fun W hW=>(h2.keep hW).src hz2
 have L1:Hid (ns.length=n∧vs.length=n):=⟨h1.2.1,h2.2.1⟩
 have M1:Hid ((ns.map Value.string).length=n):=by show _=_;rw[List.length_map];exact h1.2.1
 have M2:Hid ((vs.map Value.string).length=n):=by show _=_;rw[List.length_map];exact h2.2.1
 have Z1:Hid (0+n≤maxLen):=by show _≤_;unfold maxLen;omega
 have Z2:Hid ((0+n)*16≤140737488355328):=by show _≤_;omega
 have TT:=zh ht
 have TR:=zh hr
 have NO:Hid (∀(w1:World) (b:Nat),w1.ownsRow b 9 1 (.slice none 0 0) 0 []):=fun w1 b=>World.ownsRow_nil _ _ _ _
 have p3a:=P3.out.c0
 have p8a:=P8.out.c0
 clear h1 h2 hz1 hz2 ht hr
 go_enter Tryz.func82,Tryz.ntmps82
 go_upto_region 2 with (fail)
 rw[←hW0]
 clear hW0 hp
 obtain⟨p8,hp8⟩:∃q,p+1+1+1=q:=⟨_,rfl⟩
 obtain⟨p6,hp6⟩:∃q,p+1+1=q:=⟨_,rfl⟩
 obtain⟨p4,hp4⟩:∃q,p+1=q:=⟨_,rfl⟩
 rw[show p+3=p8 by omega] at P8 p8a
 rw[show p+2=p6 by omega] at P6
 rw[hp4] at P4
 rw[hp8,hp6,hp4]
 have HD:Hid (p4=p+1∧p6=p+2∧p8=p+3):=⟨by omega,by omega,by omega⟩
 have d38:¬p=p8:=by omega
 have d48:¬p4=p8:=by omega
 have d68:¬p6=p8:=by omega
 clear hp8 hp6 hp4
 go_upto_region 3 with (at_builtin;(refine ZaD rfl _ _ 54 rfl W0.heap.size 9 i0 (.string ⟨#[]⟩) 16 Tryz.underlying54 hinf hz0 hzs1 hzs2 rfl _ _ _ rfl (NO.out _ _) _ _ _ rfl (S1.out _ EW0.out) M1.out Z1.out Z2.out (Nat.le_refl _) ?_);intro v1 w1 own1 g1;have e1:Ext W0 w1:=Zaz zbr g1 (by intro g e;cases e);rw[Nat.zero_add,List.nil_append] at own1;obtain⟨aN,cN,rfl,_⟩:=Zag own1;have q1:=P8.out.ext e1;have q1a:=q1.c0;have q1b:=q1.f0)
 have Q8:=zh (q1.set0 (.slice aN n cN))
 have EB1:Hid (Zah (fun b=>b=p8) W0 (w1.setCell ⟨p8,0,none⟩ (.slice aN n cN))):=Zah.set (S:=fun b=>b=p8) ((Zah.refl _ _).ext e1) (.inl rfl) 0 _
 have EW1:Hid (Ext w (w1.setCell ⟨p8,0,none⟩ (.slice aN n cN))):=by
  have:=HP.out
  have h:=HD.out
  exact Zal (Zaa EW0.out e1) (by show _≤p8;omega) _
 have own1':Hid ((w1.setCell ⟨p8,0,none⟩ (.slice aN n cN)).ownsRow W0.heap.size 9 1 (.slice aN n cN) n (ns.map Value.string)):=by
  refine Zam own1 ?_ _
  rcases hq:(Value.slice aN n cN).ownBlock with _|b
  ·exact .inl rfl
  ·refine .inr fun e=>?_
   have h3:=(own1.lt b hq).1
   have h:=HD.out
   have h2:=SZ0.out
   injection e with e
   have e2:b=p8:=e
   omega
 clear own1 q1 q1a q1b g1
 generalize w1.setCell ⟨p8,0,none⟩ (.slice aN n cN)=W2 at Q8 EB1 EW1 own1' ⊢
 have q2:=(P3.out.but EB1.out d38).c1
 have q3:=Q8.out.c1
 go_upto_region 4 with (at_builtin;(refine ZaD rfl _ _ 54 rfl W2.heap.size 9 i0 (.string ⟨#[]⟩) 16 Tryz.underlying54 hinf hz0 hzs1 hzs2 rfl _ _ _ rfl (NO.out _ _) _ _ _ rfl (S2.out _ EW1.out) M2.out Z1.out Z2.out (Nat.le_refl _) ?_);intro v2 w2 own2 g2;have e2:Ext W2 w2:=Zaz zbr g2 (by intro g e;cases e);rw[Nat.zero_add,List.nil_append] at own2;obtain⟨aV,cV,rfl,_⟩:=Zag own2;have q5:=Q8.out.ext e2;have q5a:=q5.c1;have q5b:=q5.f1)
 have LE2:Hid (W0.heap.size≤W2.heap.size):=EB1.out.size
 have ST:Hid (ZeO W0 (w2.setCell ⟨p8,1,none⟩ (.slice aV n cV)) p8 (p+4) ns vs aN cN aV cV):=by
  have h:=HD.out
  have h2:=SZ0.out
  have b2:=Zar own1'.out e2
  refine⟨?_,?_,?_,?_,?_⟩
  ·rw[L1.out.1,L1.out.2];exact q5.set1 _
  ·rw[L1.out.1]
   exact Zam (a:=⟨p8,1,none⟩) (Zao b2 (by omega)) (.inr (Za8 b2 q5)) _
  ·rw[L1.out.2]
   exact Zam (a:=⟨p8,1,none⟩) (Zao own2 (by have:=LE2.out;omega)) (.inr (Za8 own2 q5)) _
  ·rw[L1.out.1,L1.out.2]
   intro b k1 k2
   have:=(ZaN own1'.out k1).lt
   have:=(own2.lt b k2).1
   omega
  ·refine Zah.set (S:=fun b=>b=p8∨p+4≤b) ?_ (.inl (.inl rfl)) 1 _
   exact Zah.ext (Zah.mono EB1.out (fun b _ hb=>.inl hb)) e2
 clear own1' own2 q2 q3 q5 q5a q5b g2 e1 e2 EB1 EW1 Q8 LE2 S1 S2 M1 M2 Z1 Z2 NO p3a p8a
 generalize w2.setCell ⟨p8,1,none⟩ (.slice aV n cV)=W3 at ST ⊢
 have BC:Hid (∀W,Zah (fun b=>b=p8∨p+4≤b) W0 W→Ext w W∧Za1 W p 138 (.slice an n cn) (.slice av n cv)∧Za1 W p4 24 (.string a.pred) (.slice at_ nt ct)∧Za1 W p6 138 (.slice none 0 0) (.slice none 0 0)):=fun W hW=>by
  have h:=HD.out
  have h2:=SZ0.out
  have h3:=HP.out
  refine⟨Zaw EW0.out hW (fun b hb hs=>by omega),P3.out.but hW (by omega),P4.out.but hW (by omega),P6.out.but hW (by omega)⟩
 obtain⟨R,hR⟩:∃R,R=Zbh a.terms row ns vs:=⟨_,rfl⟩
 have FIN:=zh hR
 rw[←hR]
 clear hR
 go_wp2
 go_loopw [9] (fun u wj=>∃(k:Nat) (ns' vs':List ByteArray) (aN:Option Addr) (cN:Nat) (aV:Option Addr) (cV:Nat),k≤nt∧u=.int .i64 k∧R=Zbh (a.terms.drop k) (row.drop k) ns' vs'∧ns'.length=vs'.length∧ns'.length≤n+k∧ZeO W0 wj p8 (p+4) ns' vs' aN cN aV cV) (fun u _=>nt-(intOf u).toNat)
 case atStart=>exact⟨0,ns,vs,aN,cN,aV,cV,by omega,rfl,by rw[FIN.out];rfl,by rw[L1.out.1,L1.out.2],by have:=L1.out.1;omega,ST.out⟩
 case round=>
  obtain⟨k,ms,us,aN,cN,aV,cV,hk,rfl,hq,hlen,hle,hst⟩:=hrel
  have HQ:=zh hq
  have HLN:=zh hlen
  have HLE:=zh hle
  have ST:=zh hst
  obtain⟨b1,b2,b3,b4⟩:=BC.out _ hst.but
  have c41:=b3.c1
  clear hq hlen hle hst
  by_cases hlt:k<nt
  ·have hki:(k:Int)<(nt:Int):=by omega
   obtain⟨t,bt,ot,hx,rfl,hc1,hc2,hc3⟩:=(TT.out.keep b1).2.at hlt
   obtain⟨y,by_,oy,hy,rfl,hd⟩:=TR.out.2.at hlt
   rw[Nat.mul_one] at hd
   have hd0:w.cell? ⟨by_,oy+k,none⟩=some (.string y):=hd
   have HD0:=zh hd0
   have hd1:=Zac b1 hd0
   have HSTEP:Hid (R=Zbh (t::a.terms.drop (k+1)) (y::row.drop (k+1)) ms us):=by show _=_;rw[HQ.out,Zbn hx,Zbn hy]
   obtain⟨WT,hWT⟩:∃W,wr.alloc (.cells #[.int .i64 t.kind,.string t.text] 64)=W:=⟨_,rfl⟩
   have ET:Hid (Ext wr WT):=by show Ext _ _;rw[←hWT];exact Zab zbr _
   have PT:Hid (Za1 WT wr.heap.size 64 (.int .i64 t.kind) (.string t.text)):=by show _=_;rw[←hWT];exact heap_alloc_new wr _
   have HWT:=zh hWT
   clear hx hy hd hd0 hWT
   obtain⟨bt0,hbt⟩:∃q,wr.heap.size=q:=⟨_,rfl⟩
   have HBT:=zh hbt
   rw[hbt] at PT
   have TC:Hid (∀W,Ext WT W→W.cell? ⟨bt0,0,none⟩=some (.int .i64 t.kind)∧W.cell? ⟨bt0,1,none⟩=some (.string t.text)∧W.cell? ⟨by_,oy+k,none⟩=some (.string y)):=fun W hW=>⟨(PT.out.ext hW).c0,(PT.out.ext hW).c1,Zac (Zaa ET.out hW) hd1⟩
   go_upto_region 8 with (fail)
   rw[HWT.out]
   obtain⟨b3,e3⟩:∃b,(t.kind==3)=b:=⟨_,rfl⟩
   have K3:Hid (t.kind=3↔b3=true):=by show _↔_;rw[←e3];simp
   obtain⟨q,hqe⟩:∃q,(t.text.toList==y.toList)=q:=⟨_,rfl⟩
   have KE:Hid (t.text=y↔q=true):=by show _↔_;rw[←hqe,Zbr];simp
   have F5:Hid (∀W,Ext WT W→Ext w W∧Za1 W p 138 (.slice an n cn) (.slice av n cv)∧Za1 W p4 24 (.string a.pred) (.slice (some ⟨bt,ot,none⟩) nt ct)∧Za1 W p6 138 (.slice none 0 0) (.slice none 0 0)∧ZeO W0 W p8 (p+4) ms us aN cN aV cV):=fun W hW=>by
    have hE:=Zaa ET.out hW
    have:=ST.out.ext hE
    obtain⟨z1,z2,z3,z4⟩:=BC.out _ this.but
    exact⟨z1,z2,z3,z4,this⟩
   obtain⟨t1,t2,t3⟩:=TC.out _ zbr
   obtain⟨t1',t2',t3'⟩:=TC.out _ (Zaf zbr)
   by_cases hbad:t.kind=3∧t.text≠y
   ·have HR:Hid (R=none):=by show _=_;rw[HSTEP.out];unfold Zbh;rw[if_pos hbad]
    obtain rfl:b3=true:=K3.out.1 hbad.1
    obtain rfl:q=false:=by
     cases q
     ·rfl
     ·exact absurd (KE.out.2 rfl) hbad.2
    clear hbad
    go_wp2
    go_quiet (fail)
    generalize hW5:WT.drewN nq=W5
    have e5:Ext WT W5:=by rw[←hW5];exact Zae zbr _
    clear hW5
    obtain⟨e5w,o3,_,o6,o8⟩:=F5.out _ e5
    have z30:=o3.c0
    have z31:=o3.c1
    have z60:=o6.c0
    have z61:=o6.c1
    have y60:=o6.f0
    have y61:=o6.f1
    go_wp2
    generalize hW7:(W5.setCell ⟨p6,0,none⟩ (.slice an n cn)).setCell ⟨p6,1,none⟩ (.slice av n cv)=W7
    have r0:W7.cell? ⟨p6,0,none⟩=some (.slice an n cn):=by rw[←hW7];exact((o6.set0 _).set1 _).c0
    have r1:W7.cell? ⟨p6,1,none⟩=some (.slice av n cv):=by rw[←hW7];exact((o6.set0 _).set1 _).c1
    have e7:Ext w W7:=by
     rw[←hW7]
     have h:=HD.out
     have h3:=HP.out
     exact Zal (Zal e5w (by show _≤p6;omega) _) (by show _≤p6;omega) _
    clear hW7
    refine bodyPost_ret (Ziy _ p6 _ _ _ _ rfl rfl r0 r1) rfl ?_
    rw[←FIN.out,HR.out]
    exact⟨e7,rfl⟩
   ·have t9:=fun q=>(TC.out _ (Zae zbr q)).1
    have hgo:¬(b3=true∧q=false):=fun h=>hbad ⟨K3.out.2 h.1,fun e=>by have:=KE.out.1 e;rw[h.2] at this;cases this⟩
    have HGO:=zh hgo
    have HBAD:=zh hbad
    clear hgo hbad
    obtain⟨b1k,e1k⟩:∃b,(t.kind != 1)=b:=⟨_,rfl⟩
    have K1:Hid (t.kind≠1↔b1k=true):=by show _↔_;rw[←e1k];simp
    cases b1k with
    |true=>
     have HR:Hid (R=Zbh (a.terms.drop (k+1)) (row.drop (k+1)) ms us):=by
      show _=_
      rw[HSTEP.out]
      conv=>lhs;unfold Zbh
      rw[if_neg HBAD.out,if_pos (K1.out.2 rfl)]
     cases b3 <;> cases q
     all_goals first
      |(exfalso;exact HGO.out ⟨rfl,rfl⟩)
      |(go_wp2
        go_quiet (fail)
        go_wp2
        go_roundw
        case rel=>exact⟨k+1,ms,us,aN,cN,aV,cV,by omega,by go_num,HR.out,HLN.out,by have:=HLE.out;omega,ST.out.ext (Zaa ET.out (Zae zbr _))⟩
        case measure=>simp[intOf];omega)
    |false=>
     have hk1:t.kind=1:=by
      rcases Int.lt_trichotomy t.kind 1 with h|h|h
      ·have:=K1.out.1 (by omega);cases this
      ·exact h
      ·have:=K1.out.1 (by omega);cases this
     have HK1:=zh hk1
     obtain rfl:b3=false:=by
      cases b3
      ·rfl
      ·have:=K3.out.2 rfl
       omega
     have HR:Hid (R=match ZbM ms us t.text with|some s=>if s=y then Zbh (a.terms.drop (k+1)) (row.drop (k+1)) ms us else none|none=>Zbh (a.terms.drop (k+1)) (row.drop (k+1)) (ms++[t.text]) (us++[y])):=by
      show _=_
      rw[HSTEP.out]
      conv=>lhs;unfold Zbh
      rw[if_neg HBAD.out,if_neg (by rw[HK1.out];simp)]
      cases ZbM ms us t.text <;> rfl
     clear hk1
     go_wp2
     go_quiet (fail)
     generalize hW5:WT.drewN nq=W5
     have e5:Hid (Ext WT W5):=by show Ext _ _;rw[←hW5];exact Zae zbr _
     clear hW5 t9
     obtain⟨_,_,_,_,o8⟩:=F5.out _ e5.out
     obtain⟨x1,x2,x3⟩:=TC.out _ e5.out
     have z80:=o8.box.c0
     have z81:=o8.box.c1
     have OF:Hid (Calls Tryz.prog 119 #[ZeB aN ms.length cN aV cV,.string t.text] W5 (ZlC (ZbM ms us t.text) W5)):=by
      have v2:=ZaL o8.val (Za4 o8.val).1
      rw[←HLN.out] at v2
      exact d_of ms us t.text aN ms.length cN aV cV W5 (ZaL o8.nam (Za4 o8.nam).1) v2
     rw[←HLN.out] at z81
     cases henv:ZbM ms us t.text with
     |some s=>
      rw[henv] at OF
      have HENV:=zh henv
      obtain⟨q2,hq2⟩:∃q,(s.toList==y.toList)=q:=⟨_,rfl⟩
      have KS:Hid (s=y↔q2=true):=by show _↔_;rw[←hq2,Zbr];simp
      clear henv
      cases q2 with
      |true=>
       have HR2:Hid (R=Zbh (a.terms.drop (k+1)) (row.drop (k+1)) ms us):=by show _=_;rw[HR.out,HENV.out];simp only;rw[if_pos (KS.out.2 rfl)]
       go_wp2_with (go_at_call 119;(with_reducible refine OF.out.mono ?_);rintro e w6 ⟨rfl,e6⟩;obtain⟨x16,x26,x36⟩:=TC.out _ (Zaa e5.out e6);obtain⟨e6w,o36,_,o66,o86⟩:=F5.out _ (Zaa e5.out e6);have z30:=o36.c0;have z31:=o36.c1;have z60:=o66.c0;have z61:=o66.c1;have y60:=o66.f0;have y61:=o66.f1;have w80:=o86.box.c0;have w81:=o86.box.c1;have w82:=o86.box.f0)
       go_roundw
       case rel=>exact⟨k+1,ms,us,aN,cN,aV,cV,by omega,by go_num,HR2.out,HLN.out,by have:=HLE.out;omega,o86⟩
       case measure=>simp[intOf];omega
      |false=>
       have HR2:Hid (R=none):=by show _=_;rw[HR.out,HENV.out];simp only;rw[if_neg (fun e=>by have:=KS.out.1 e;cases this)]
       go_wp2_with (go_at_call 119;(with_reducible refine OF.out.mono ?_);rintro e w6 ⟨rfl,e6⟩;obtain⟨x16,x26,x36⟩:=TC.out _ (Zaa e5.out e6);obtain⟨e6w,o36,_,o66,o86⟩:=F5.out _ (Zaa e5.out e6);have z30:=o36.c0;have z31:=o36.c1;have z60:=o66.c0;have z61:=o66.c1;have y60:=o66.f0;have y61:=o66.f1;have w80:=o86.box.c0;have w81:=o86.box.c1;have w82:=o86.box.f0)
       generalize hW7:(w6.setCell ⟨p6,0,none⟩ (.slice an n cn)).setCell ⟨p6,1,none⟩ (.slice av n cv)=W7
       have r0:W7.cell? ⟨p6,0,none⟩=some (.slice an n cn):=by rw[←hW7];exact((o66.set0 _).set1 _).c0
       have r1:W7.cell? ⟨p6,1,none⟩=some (.slice av n cv):=by rw[←hW7];exact((o66.set0 _).set1 _).c1
       have e7:Ext w W7:=by
        rw[←hW7]
        have h:=HD.out
        have h3:=HP.out
        exact Zal (Zal e6w (by show _≤p6;omega) _) (by show _≤p6;omega) _
       clear hW7
       refine bodyPost_ret (Ziy _ p6 _ _ _ _ rfl rfl r0 r1) rfl ?_
       rw[←FIN.out,HR2.out]
       exact⟨e7,rfl⟩
     |none=>
      rw[henv] at OF
      have HENV:=zh henv
      have HR2:Hid (R=Zbh (a.terms.drop (k+1)) (row.drop (k+1)) (ms++[t.text]) (us++[y])):=by show _=_;rw[HR.out,HENV.out]
      clear henv
      have B1:Hid (ms.length+1≤maxLen):=by have:=HLE.out;show _≤_;unfold maxLen;omega
      have B2:Hid ((ms.length+1)*16≤140737488355328):=by have:=HLE.out;show _≤_;omega
      have LO:Hid (∀W,Ext w W→Zah (fun b=>b=p8∨p+4≤b) W0 W→p+4≤W.heap.size):=fun W _ hb=>by
       have:=hb.size
       have h:=SZ0.out
       omega
      go_upto_region 16 with (first|(go_at_call 119;(with_reducible refine OF.out.mono ?_);rintro e w6 ⟨rfl,e6⟩;obtain⟨x16,x26,x36⟩:=TC.out _ (Zaa e5.out e6);obtain⟨e6w,o36,_,o66,o86⟩:=F5.out _ (Zaa e5.out e6);have z30:=o36.c0;have z31:=o36.c1;have z60:=o66.c0;have z61:=o66.c1;have y60:=o66.f0;have y61:=o66.f1;have w80:=o86.box.c0;have w81:=o86.box.c1;have w82:=o86.box.f0)|(at_builtin;(refine ZcA _ rfl _ _ 54 rfl (p+4) 9 i0 (.string ⟨#[]⟩) 1 16 Tryz.underlying54 hinf hz0 hzs1 hzs2 rfl (by decide) aN ms.length cN (ms.map Value.string) rfl (o86.nam.alloc _) ⟨w6.heap.size,0,none⟩ 1 [.string t.text] rfl rfl (fun j u hu=>ZeL w6 _ _ _ rfl j u hu) (by simp[Value.oneCell']) B1.out B2.out (Nat.le_trans (LO.out _ e6w o86.but) (by simp)) ?_);intro g7 c7 w7 r1 r2 r3 _;obtain⟨pb7,fs7⟩:=ZeO.pushN o86 r1 r2 r3;have z70:=pb7.c0;have z71:=pb7.f0))
      have e8w:=(BC.out _ fs7.but).1
      have HZ8:=zh (LO.out _ e8w fs7.but)
      generalize w7.setCell ⟨p8,0,none⟩ (.slice (some ⟨g7,0,none⟩) (ms.length+1) c7)=W8 at fs7 e8w HZ8 ⊢
      have FS:=zh fs7
      have FD:=zh (fs7.ext (Zaf zbr))
      have HZ9:Hid (p+4≤W8.drew.heap.size):=HZ8.out
      have CC:Hid (∀W,ZeO W0 W p8 (p+4) (ms++[t.text]) us (some ⟨g7,0,none⟩) c7 aV cV→W.cell? ⟨p8,1,none⟩=some (.slice aV ms.length cV)∧W.cell? ⟨by_,oy+k,none⟩=some (.string y)):=fun W hW=>⟨by rw[HLN.out];exact hW.box.c1,Zac (BC.out _ hW.but).1 HD0.out⟩
      have DV:Hid (W8.drew.ownsRow (p+4) 9 1 (.slice aV ms.length cV) ms.length (us.map Value.string)):=by
       have:=FD.out.val
       rw[←HLN.out] at this
       exact this
      obtain⟨i1,i2⟩:=CC.out _ fs7
      obtain⟨j1,j2⟩:=CC.out _ FD.out
      have HML:Hid (ms.length≤1000000):=by have:=HLE.out;show _≤_;omega
      clear r1 r2 r3 z70 z71 pb7 fs7 o86 w80 w81 w82 z60 z61 y60 y61 z30 z31 x16 x26 x36 o36 o66 x1 x2 x3 z80 z81 o8 t1 t2 t3 t1' t2' t3' c41 b2 b3 b4 hd1
      go_wp2
      have k1:∀o,(W8.drew.alloc o).cell? ⟨p8,1,none⟩=some (.slice aV ms.length cV):=fun o=>Zac (Zab zbr _) j1
      have k2:∀o,(W8.drew.alloc o).cell? ⟨by_,oy+k,none⟩=some (.string y):=fun o=>Zac (Zab zbr _) j2
      have k3:∀o,(W8.alloc o).cell? ⟨p8,1,none⟩=some (.slice aV ms.length cV):=fun o=>Zac (Zab zbr _) i1
      have k4:∀o,(W8.alloc o).cell? ⟨by_,oy+k,none⟩=some (.string y):=fun o=>Zac (Zab zbr _) i2
      go_region_law (first
       |((refine Zkz W8.drew y (p+4) aV ms.length cV us DV.out HML.out HZ9.out (by rfl) _ _ (by rfl) (by rfl) (by rfl) ?_);intro g9 c9 w9 r1 r2 r3;obtain⟨pb9,fs9⟩:=ZeO.pushV (x:=y) FD.out (by rw[←HLN.out];exact r1) (by rw[←HLN.out];exact r2) (by rw[←HLN.out];exact r3);rw[←HLN.out] at fs9 pb9;have n4:=Zac (BC.out _ fs9.but).1 HD0.out;have n1:=pb9.c1;have n3:=pb9.f1;have n2:w9.cell? ⟨by_,oy+k,none⟩=some (.string y):=Zac (id (Zaz (Zab (BC.out _ FD.out.but).1 _) r2 (fun g e=>(by have h1:=(DV.out.lt g e).1;have h2:=HP.out;omega)))) HD0.out)
       |fail)
      all_goals
       go_wp2
       go_roundw
       case rel=>exact⟨k+1,ms++[t.text],us++[y],_,_,_,_,by omega,by go_num,HR2.out,by rw[List.length_append,List.length_append,HLN.out];rfl,by rw[List.length_append,List.length_singleton];have:=HLE.out;omega,fs9⟩
       case measure=>simp[intOf];omega
  ·obtain rfl:k=nt:=by omega
   have hge:¬(k:Int)<(k:Int):=by omega
   have HR:Hid (R=some (ms,us)):=by
    show _=_
    have tk:a.terms.drop k=[]:=List.drop_of_length_le (by have:=TT.out.2.1;omega)
    rw[HQ.out,tk]
    unfold Zbh
    rfl
   have z80:=ST.out.box.c0
   have z81:=ST.out.box.c1
   have z60:=b4.c0
   have z61:=b4.c1
   have y60:=b4.f0
   have y61:=b4.f1
   rw[←HLN.out] at z81
   have SB:=zh ST.out
   go_wp2
   generalize hW7:(wr.setCell ⟨p6,0,none⟩ (.slice aN ms.length cN)).setCell ⟨p6,1,none⟩ (.slice aV ms.length cV)=W7
   have r0:W7.cell? ⟨p6,0,none⟩=some (.slice aN ms.length cN):=by rw[←hW7];exact((b4.set0 _).set1 _).c0
   have r1:W7.cell? ⟨p6,1,none⟩=some (.slice aV ms.length cV):=by rw[←hW7];exact((b4.set0 _).set1 _).c1
   have h:=HD.out
   have h3:=HP.out
   have e7:Ext w W7:=by
    rw[←hW7]
    exact Zal (Zal b1 (by show _≤p6;omega) _) (by show _≤p6;omega) _
   have s1:W7.ownsRow w.heap.size 9 1 (.slice aN ms.length cN) ms.length (ms.map Value.string):=by
    rw[←hW7]
    have q:=ST.out.nam
    exact Zao (Zam (a:=⟨p6,1,none⟩) (Zam q (a:=⟨p6,0,none⟩) (.inr (Za8 q b4)) _) (.inr (Za8 q b4)) _) (by omega)
   have s2:W7.ownsRow w.heap.size 9 1 (.slice aV ms.length cV) ms.length (us.map Value.string):=by
    rw[←hW7,HLN.out]
    have q:=ST.out.val
    exact Zao (Zam (a:=⟨p6,1,none⟩) (Zam q (a:=⟨p6,0,none⟩) (.inr (Za8 q b4)) _) (.inr (Za8 q b4)) _) (by omega)
   clear hW7
   refine bodyPost_ret (Ziy _ p6 _ _ _ _ rfl rfl r0 r1) rfl ?_
   rw[←FIN.out,HR.out]
   exact⟨e7,HLN.out,aN,cN,aV,cV,rfl,s1,s2⟩
abbrev ZcQ:=List ByteArray×List ByteArray
def upE (l:List ZcQ)(f:ZcQ):Nat→Nat
 |0=>0
 |j+1=>match l[j]? with
  |some x=>if 0<Zaj x.2 f.2 then upE l f j else j+1
  |none=>j+1
def Zi3 (l:List ZcQ)(f:ZcQ):List ZcQ:=
 match (if 0<upE l f l.length then l[upE l f l.length-1]? else none) with
 |some x=>if Zaj x.2 f.2=0 then l else l.take (upE l f l.length)++f::l.drop (upE l f l.length)
 |none=>l.take (upE l f l.length)++f::l.drop (upE l f l.length)
def Zbc (ts:List ZaG)(ns vs:List ByteArray):List ZcQ→List (List ByteArray)→List ZcQ
 |out,[]=>out
 |out,r::rs=>match Zbh ts r ns vs with
  |none=>Zbc ts ns vs out rs
  |some f=>Zbc ts ns vs (Zi3 out f) rs
theorem ZlD (l:List ZcQ)(f:ZcQ):∀j,upE l f j≤j
 |0=>Nat.le_refl _
 |j+1=>by
  unfold upE
  split
  ·split
   ·exact Nat.le_succ_of_le (ZlD l f j)
   ·exact Nat.le_refl _
  ·exact Nat.le_refl _
theorem ZpZ (l:List ZcQ)(f:ZcQ):(Zi3 l f).length≤l.length+1:=by
 have h:=ZlD l f l.length
 have e:(l.take (upE l f l.length)++f::l.drop (upE l f l.length)).length=l.length+1:=by
  rw[List.length_append,List.length_cons,List.length_take,List.length_drop];omega
 unfold Zi3
 split
 ·split
  ·omega
  ·omega
 ·omega
def Zbi (ps:List (Value×Value)):List Value:=ps.flatMap fun p=>[p.1,p.2]
theorem Zdp (p:Value×Value)(ps:List (Value×Value)):Zbi (p::ps)=p.1::p.2::Zbi ps:=rfl
theorem Zff (ps:List (Value×Value)):(Zbi ps).length=ps.length*2:=by
 induction ps with
 |nil=>rfl
 |cons p ps ih=>rw[Zdp,List.length_cons,List.length_cons,ih,List.length_cons];omega
theorem Zd9 (ps qs:List (Value×Value)):Zbi (ps++qs)=Zbi ps++Zbi qs:=by unfold Zbi;rw[List.flatMap_append]
theorem ZhU:∀(ps:List (Value×Value)) (k:Nat),(Zbi ps).take (k*2)=Zbi (ps.take k)
 |[],k=>by simp[Zbi]
 |p::ps,0=>by simp[Zbi]
 |p::ps,k+1=>by
  rw[Zdp,show (k+1)*2=k*2+1+1 by omega,List.take_succ_cons,List.take_succ_cons,ZhU ps k]
  rfl
theorem ZfU:∀(ps:List (Value×Value)) (k:Nat),(Zbi ps).drop (k*2)=Zbi (ps.drop k)
 |[],k=>by simp[Zbi]
 |p::ps,0=>by simp[Zbi]
 |p::ps,k+1=>by
  rw[Zdp,show (k+1)*2=k*2+1+1 by omega,List.drop_succ_cons,List.drop_succ_cons,ZfU ps k]
  rfl
theorem Ziz:∀(ps:List (Value×Value)) (k:Nat) (p:Value×Value),ps[k]? =some p→(Zbi ps)[k*2]? =some p.1∧(Zbi ps)[k*2+1]? =some p.2
 |[],k,p,h=>by simp at h
 |q::ps,0,p,h=>by simp at h;subst h;exact⟨rfl,rfl⟩
 |q::ps,k+1,p,h=>by
  rw[Zdp,show (k+1)*2=k*2+1+1 by omega]
  simpa using Ziz ps k p (by simpa using h)
def ZiA (lo:Nat)(w:World)(x:ZcQ)(p:Value×Value):Prop:=x.1.length=x.2.length∧∃aN cN aV cV,p=(.slice aN x.1.length cN,.slice aV x.1.length cV)∧w.ownsRow lo 9 1 (.slice aN x.1.length cN) x.1.length (x.1.map Value.string)∧w.ownsRow lo 9 1 (.slice aV x.1.length cV) x.1.length (x.2.map Value.string)
structure Zfg (lo:Nat)(w:World)(v:Value)(l:List ZcQ)(ps:List (Value×Value)):Prop where
 len:ps.length=l.length
 own:w.ownsRow lo 138 2 v l.length (Zbi ps)
 at_:∀(i:Nat) (x:ZcQ) (p:Value×Value),l[i]? =some x→ps[i]? =some p→ZiA lo w x p
theorem ZiA.ext {lo:Nat}{w w':World}{x:ZcQ}{p:Value×Value}(h:ZiA lo w x p)(e:Ext w w'):ZiA lo w' x p:=by
 obtain⟨h0,a,c,a2,c2,h1,h2,h3⟩:=h
 exact⟨h0,a,c,a2,c2,h1,Zar h2 e,Zar h3 e⟩
theorem ZiA.but {lo:Nat}{w w':World}{S:Nat→Prop}{x:ZcQ}{p:Value×Value}(h:ZiA lo w x p)(e:Zah S w w')(hs:∀b,S b→¬Ty w b 9):ZiA lo w' x p:=by
 obtain⟨h0,a,c,a2,c2,h1,h2,h3⟩:=h
 exact⟨h0,a,c,a2,c2,h1,e.own h2 (fun b hb q=>hs b q (ZaN h2 hb)),e.own h3 (fun b hb q=>hs b q (ZaN h3 hb))⟩
theorem Zfg.ext {lo:Nat}{w w':World}{v:Value}{l:List ZcQ}{ps:List (Value×Value)}(h:Zfg lo w v l ps)(e:Ext w w'):Zfg lo w' v l ps:=⟨h.len,Zar h.own e,fun i x p a b=>(h.at_ i x p a b).ext e⟩
theorem ZkA {α:Type}(cur:List α)(off m:Nat)(cs:List α)(h:off+cs.length≤m):(splice cur off cs).take m=splice (cur.take m) off cs:=by
 unfold splice
 rw[List.take_append,List.take_append,List.take_take,List.drop_take]
 by_cases hl:off≤cur.length
 ·rw[List.length_take,Nat.min_eq_left hl,List.take_of_length_le (l:=cs) (by omega),show m-off-cs.length=m-(off+cs.length) by omega]
  rw[Nat.min_comm,List.take_take]
 ·have h1:cur.length<off:=by omega
  rw[List.drop_of_length_le (l:=cur) (by omega)]
  simp only[List.length_take,List.take_nil,List.append_nil]
  rw[List.take_of_length_le (l:=cs) (by omega),List.take_take]
  congr 2
  omega
theorem Zg0 {w w':World}{base n size cap g off:Nat}{e:TypeId}{xs cs cur:List Value}(h:w.ownsRow base e size (.slice (some ⟨g,0,none⟩) n cap) n xs)(hc:w.heap[g]? =some (.cells cur.toArray e (0,0)))(h':w'.heap[g]? =some (.cells (splice cur off cs).toArray e (0,0)))(hf:off+cs.length≤xs.length):w'.ownsRow base e size (.slice (some ⟨g,0,none⟩) n cap) n (splice xs off cs):=by
 obtain⟨hl,h2⟩:=h
 rcases h2 with⟨h0,_⟩|⟨g',cap',cur',hv,hb,hg,hn,hcm,hsz,ht⟩
 ·cases h0
 ·cases hv
  rw[hc] at hg
  injection hg with hg
  injection hg with hg
  subst hg
  simp only[List.size_toArray] at hsz ht
  have hle:xs.length≤cur.length:=by rw[←ht,List.length_take];omega
  refine⟨by rw[length_splice _ _ _ hf,hl],.inr ⟨g,cap,(splice cur off cs).toArray,rfl,hb,h',hn,hcm,?_,?_⟩⟩
  ·simp only[List.size_toArray]
   rw[length_splice _ _ _ (by omega),hsz]
  ·rw[ZkA _ _ _ _ (by omega),ht]
theorem Zep {w:World}{base n size cap g j:Nat}{e:TypeId}{xs:List Value}(h:w.ownsRow base e size (.slice (some ⟨g,0,none⟩) n cap) n xs)(u:Value):(w.setCell ⟨g,j,none⟩ u).ownsRow base e size (.slice (some ⟨g,0,none⟩) n cap) n (xs.set j u):=by
 obtain⟨hl,h2⟩:=h
 rcases h2 with⟨h0,_⟩|⟨g',cap',cur,hv,hb,hg,hn,hcm,hsz,ht⟩
 ·cases h0
 ·cases hv
  refine⟨by rw[List.length_set,hl],.inr ⟨g,cap,cur.setIfInBounds j u,rfl,hb,?_,hn,hcm,by simp[hsz],?_⟩⟩
  ·simp[World.setCell,Array.getElem?_modify,hg]
  ·rw[Array.toList_setIfInBounds,←ht,List.take_set]
theorem Zju {w:World}{base n size cap g:Nat}{e:TypeId}{xs:List Value}(h:w.ownsRow base e size (.slice (some ⟨g,0,none⟩) n cap) n xs):∃cur:List Value,w.heap[g]? =some (.cells cur.toArray e (0,0))∧cur.length=cap*size∧cur.take (n*size)=xs∧n≤cap:=by
 obtain⟨hl,h2⟩:=h
 rcases h2 with⟨h0,_⟩|⟨g',cap',cur,hv,hb,hg,hn,hcm,hsz,ht⟩
 ·cases h0
 ·cases hv
  exact⟨cur.toList,by simpa using hg,by simpa using hsz,ht,hn⟩
theorem ZiB {w:World}{base n size cap g j:Nat}{e:TypeId}{xs:List Value}(h:w.ownsRow base e size (.slice (some ⟨g,0,none⟩) n cap) n xs):w.frozen? ⟨g,j,none⟩=false:=by
 obtain⟨cur,hc,_⟩:=Zju h
 simp[World.frozen?,hc]
theorem Zjv (ps:List (Value×Value))(f:Value×Value)(U:Nat)(hU:U≤ps.length):
  ((splice (Zbi ps++[f.1,f.2]) ((U+1)*2) (Zbi (ps.drop U))).set (U*2) f.1).set (U*2+1) f.2=Zbi (ps.take U++f::ps.drop U):=by
 have e1:Zbi ps++[f.1,f.2]=Zbi (ps++[f]):=by rw[Zd9];rfl
 obtain⟨q,hq⟩:∃q,(ps++[f])[U]? =some q:=⟨_,zge (by simp;omega)⟩
 have e2:(ps++[f]).take (U+1)=ps.take U++[q]:=by
  rw[ZaA hq,List.take_append_of_le_length hU]
 have hlen:(Zbi (ps++[f])).length=(ps.length+1)*2:=by rw[Zff];simp
 unfold splice
 rw[e1,ZhU,e2,Zd9,List.drop_of_length_le (l:=Zbi (ps++[f])) (by rw[hlen,Zff,List.length_drop];omega),List.append_nil]
 have hA:(Zbi (ps.take U)).length=U*2:=by rw[Zff,List.length_take];congr 1;omega
 have e3:Zbi [q]=[q.1,q.2]:=rfl
 rw[e3,List.append_assoc,Zd9,Zdp]
 rw[List.set_append_right _ _ (by omega),hA,Nat.sub_self]
 rw[List.set_append_right _ _ (by omega),hA,show U*2+1-U*2=1 by omega]
 rfl
theorem Zn3 {α β:Type}{P:α→β→Prop}{l:List α}{ps:List β}(hl:ps.length=l.length)(h:∀(i:Nat) (x:α) (p:β),l[i]? =some x→ps[i]? =some p→P x p){f:α}{q:β}(hf:P f q)(U:Nat)(hU:U≤l.length):
  (ps.take U++q::ps.drop U).length=(l.take U++f::l.drop U).length∧∀(i:Nat) (x:α) (p:β),(l.take U++f::l.drop U)[i]? =some x→(ps.take U++q::ps.drop U)[i]? =some p→P x p:=by
 have h1:(l.take U).length=U:=by rw[List.length_take];omega
 have h2:(ps.take U).length=U:=by rw[List.length_take];omega
 refine⟨by simp[hl],fun i x p hx hp=>?_⟩
 by_cases hi:i<U
 ·rw[List.getElem?_append_left (by omega),List.getElem?_take,if_pos hi] at hx hp
  exact h i x p hx hp
 ·rw[List.getElem?_append_right (by omega)] at hx hp
  rw[h1] at hx
  rw[h2] at hp
  match hm:i-U,hx,hp with
  |0,hx,hp=>cases hx;cases hp;exact hf
  |m+1,hx,hp=>
   simp only[List.getElem?_cons_succ,List.getElem?_drop] at hx hp
   exact h _ x p hx hp
section
variable {P:Program}
theorem ZiC (w:World)(dT sT ty elem:TypeId)(size g o dLen dCap:Nat)(a:Addr)(sLen sCap:Nat)(cur:Array Value)(t:TypeId)(cs:List Value)
  (hu:P.underlying dT=some (.slice elem)) (hs:(P.info? elem).map (·.size)=some size)
  (hg:w.heap[g]? =some (.cells cur t (0,0))) (m:Nat) (hm:Nat.min sLen dLen=m) (hn:cs.length=m*size)
  (hsrc:∀j v,cs[j]? =some v→w.cell? (a.add j)=some v) (hfit:o+cs.length≤cur.size) (h1:∀v∈cs,v.oneCell'=true):
  (Builtin.copy_ #[dT,sT] ty #[.slice (some ⟨g,o,none⟩) dLen dCap,.slice (some a) sLen sCap]).run P w=
   .ok (goInt m) (w.setRow g (cur.toList.take o++cs++cur.toList.drop (o+cs.length)).toArray):=by
 have hl:=run_loadCells_list (P:=P) w a cs hsrc
 have hst:=run_storeCells_at P g o t cs 0 cur w hg (by simpa using hfit) h1
 cases hq:P.info? elem with
 |none=>simp[hq] at hs
 |some i=>
  have hi:i.size=size:=by simpa [hq] using hs
  rw[hn] at hl
  simp[Builtin.copy_,run_underlying hu,Builtin.lenOf,Builtin.firstCells,sizeOf,typeInfo,hq,hi,hm,hl,hst]
theorem ZhC (w:World)(dT sT ty elem:TypeId)(size:Nat)(d a:Option Addr)(dLen dCap sLen sCap:Nat)(hu:P.underlying dT=some (.slice elem))(hs:(P.info? elem).map (·.size)=some size)(hn:Nat.min sLen dLen=0):
  (Builtin.copy_ #[dT,sT] ty #[.slice d dLen dCap,.slice a sLen sCap]).run P w=.ok (goInt 0) w:=by
 cases hq:P.info? elem with
 |none=>simp[hq] at hs
 |some i=>
  have hl:∀(x:Addr),(loadCells x 0).run P w=.ok #[] w:=fun x=>by simpa using run_loadCells_list (P:=P) w x [] (by simp)
  cases d <;> cases a <;> simp[Builtin.copy_,run_underlying hu,Builtin.lenOf,Builtin.firstCells,sizeOf,typeInfo,hq,hn,storeCells,hl]
theorem ZfV {ops:Array Oper}{o:Oper}{a:Act}{w:World}{K:Act→World→Prop}{Q:Exit→Act→World→Prop}{E:Prop}(hgd:o.guard=none)(d s:Operand)(dT sT:TypeId)
  (ho:o.op=.call {callee:=.builtin .copy,args:=#[d,s],argTypes:=#[dT,sT]}) (elem:TypeId) (size:Nat) (hu:P.underlying dT=some (.slice elem)) (hsz:(P.info? elem).map (·.size)=some size)
  (dp sp:Option Addr) (dLen dCap sLen sCap:Nat) (hd:a.eval d=.slice dp dLen dCap) (hs:a.eval s=.slice sp sLen sCap)
  (g off:Nat) (cur:List Value) (t:TypeId) (hg:w.heap[g]? =some (.cells cur.toArray t (0,0))) (cs:List Value) (m:Nat) (hm:Nat.min sLen dLen=m) (hn:cs.length=m*size)
  (hpos:0<m→dp=some ⟨g,off,none⟩∧∃ad,sp=some ad∧∀j v,cs[j]? =some v→w.cell? (ad.add j)=some v)
  (hfit:off+cs.length≤cur.length) (h1:∀v∈cs,v.oneCell'=true)
  (h:∀w',w'.heap[g]? =some (.cells (splice cur off cs).toArray t (0,0))→Zah (fun b=>b=g) w w'→K (a.put o.dst (goInt m)) w'):
  if Region.wanted o (yielded ops a.tmps)=true then Oper.wp P o a w K Q else E:=by
 have hw:Region.wanted o (yielded ops a.tmps)=true:=by simp[Region.wanted,hgd]
 rw[if_pos hw]
 by_cases h0:m=0
 ·subst h0
  obtain rfl:cs=[]:=List.eq_nil_of_length_eq_zero (by omega)
  have hrun:=ZhC (P:=P) w dT sT o.type elem size dp sp dLen dCap sLen sCap hu hsz hm
  unfold Oper.wp
  simp[execOp,ho,resolve,invoke,builtin,hd,hs,hrun,Result.andThen]
  exact h w (show _=_ by simpa [splice] using hg) (Zah.refl _ _)
 ·obtain⟨rfl,ad,rfl,hsrc⟩:=hpos (by omega)
  have hrun:=ZiC (P:=P) w dT sT o.type elem size g off dLen dCap ad sLen sCap cur.toArray t cs hu hsz hg m hm hn hsrc (by simpa using hfit) h1
  unfold Oper.wp
  simp[execOp,ho,resolve,invoke,builtin,hd,hs,hrun,Result.andThen]
  exact h _ (show _=_ by simpa [splice] using setRow_heap w g _ _ t _ hg) ⟨rfl,rfl,rfl,by simp[World.setRow],fun b _ hb=>setRow_other w g b _ hb⟩
end
