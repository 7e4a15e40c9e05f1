/- The walk of the document's unlike (layer 14). -/
import Derived.Test.YtjfbjjmiobgjfaaGreatG23
set_option maxRecDepth 100000
set_option maxHeartbeats 8000000
namespace Go.Proofs.YtjfbjjmiobgjfaaGreat
open ChangeShapes WideShapes ChangeAt RowKit
open K (ZaG Zda ZaQ Zaq Zbl ZaR Zbw Zcm)
theorem Zp0:(Tryz.prog.info? 138).map (fun i=>(i.zero,i.size,i.bytes))=some (some (.agg #[.slice none 0 0,.slice none 0 0]),2,48):=by kernel_rfl
theorem Zea {w:World}{lo n c size:Nat}{e:TypeId}{a:Option Addr}{xs:List Value}(h:w.ownsRow lo e size (.slice a n c) n xs){k:Nat}{v:Value}(hv:xs[k]? =some v):∃g,a=some ⟨g,0,none⟩∧w.cell? ⟨g,k,none⟩=some v:=by
 have hl:=h.1
 have hk:=(zgs hv).1
 rcases h.2 with⟨e1,e2⟩|⟨g,c1,cur,e1,_⟩
 ·subst e2
  omega
 ·cases e1
  have:=h.cells (g:=g) rfl k v hv
  rw[Addr.add_lit,Nat.zero_add] at this
  exact⟨g,rfl,this⟩
theorem Zfg.vals {lo:Nat}{w:World}{a:Option Addr}{c:Nat}{l:List ZcQ}{ps:List (Value×Value)}(h:Zfg lo w (.slice a l.length c) l ps){j:Nat}{x:ZcQ}(hx:l[j]? =some x):∃g a2 c2,a=some ⟨g,0,none⟩∧w.cell? ⟨g,j*2+1,none⟩=some (.slice a2 x.1.length c2)∧Zai w a2 x.1.length x.2:=by
 obtain⟨p,hp⟩:∃p,ps[j]? =some p:=⟨_,zge (by have:=(zgs hx).1;have:=h.len;omega)⟩
 obtain⟨hl,a1,c1,a2,c2,rfl,_,h2⟩:=h.at_ j x p hx hp
 obtain⟨g,rfl,hg⟩:=Zea h.own (Ziz ps j _ hp).2
 refine⟨g,a2,c2,rfl,hg,?_⟩
 have:=ZaL h2 (Za4 h2).1
 exact this
theorem Zp1 (w2:World)(a b:Value)(t:TypeId):∀ad,some (⟨w2.heap.size,0,none⟩:Addr)=some ad→∀j u,[a,b][j]? =some u→(w2.alloc (.cells #[a,b] t)).cell? (ad.add j)=some u:=fun ad e j u hu=>by
 cases e
 match j,hu with
 |0,hu=>cases hu;rw[Addr.add_lit,World.cell?_alloc_new];rfl
 |1,hu=>cases hu;rw[Addr.add_lit,World.cell?_alloc_new];rfl
 |j+2,hu=>simp at hu
theorem ZtJ {L U:Nat}(h:U≤L):Nat.min (L+1-U) (L-U)=L-U:=by simp only[Nat.min_def];split <;> omega
theorem ZiD {ops:Array Oper}{o:Oper}{a:Act}{K:Act→World→Prop}{Q:Exit→Act→World→Prop}{E:Prop}(W0:World)(g off m:Nat)(cur cs:List Value)(hsz:(Tryz.prog.info? 138).map (·.size)=some 2)(hg:W0.heap[g]? =some (.cells cur.toArray 138 (0,0)))(hn:cs.length=m*2)(hfit:off+cs.length≤cur.length)(h1:∀v∈cs,v.oneCell'=true)(src:Nat)(hsrc:∀j v,cs[j]? =some v→W0.cell? ⟨g,src+j,none⟩=some v)
  (hgd:o.guard=none) (d s:Operand) (ho:o.op=.call {callee:=.builtin .copy,args:=#[d,s],argTypes:=#[238,238]}) (dp:Option Addr) (dLen dCap sLen sCap:Nat) (hd:a.eval d=.slice dp dLen dCap) (hs:a.eval s=.slice (some ⟨g,src,none⟩) sLen sCap) (hm:Nat.min sLen dLen=m) (hpos:0<m→dp=some ⟨g,off,none⟩)
  (h:∀w',w'.heap[g]? =some (.cells (splice cur off cs).toArray 138 (0,0))→Zah (fun b=>b=g) W0 w'→K (a.put o.dst (goInt m)) w'):
  if Region.wanted o (yielded ops a.tmps)=true then Oper.wp Tryz.prog o a W0 K Q else E:=
 ZfV hgd d s 238 238 ho 138 2 Tryz.underlying238 hsz dp (some ⟨g,src,none⟩) dLen dCap sLen sCap hd hs g off cur 138 hg cs m hm hn (fun h0=>⟨hpos h0,_,rfl,fun j v hv=>by rw[Addr.add_lit];exact hsrc j v hv⟩) hfit h1 h
theorem Zfg.one {lo:Nat}{w:World}{v:Value}{l:List ZcQ}{ps:List (Value×Value)}(h:Zfg lo w v l ps):∀u∈Zbi ps,u.oneCell'=true:=by
 intro u hu
 unfold Zbi at hu
 obtain⟨p,hp,hu⟩:=List.mem_flatMap.1 hu
 obtain⟨i,hi⟩:=List.mem_iff_getElem?.1 hp
 obtain⟨x,hx⟩:∃x,l[i]? =some x:=⟨_,zge (by have:=(zgs hi).1;have:=h.len;omega)⟩
 obtain⟨_,a1,c1,a2,c2,rfl,_⟩:=h.at_ i x p hx hi
 rcases List.mem_cons.1 hu with rfl|hu
 ·rfl
 ·cases List.mem_singleton.1 hu
  rfl
theorem ZiA.kept {lo:Nat}{w w':World}{o:Obj}{x:ZcQ}{p:Value×Value}{b2 n2:Nat}{v2:Value}{ys:List Value}(h:ZiA lo w x p)(k:w.ownsRow b2 138 2 v2 n2 ys)(g:(w.alloc o).grownBy w' v2.ownBlock):ZiA lo w' x p:=by
 obtain⟨h0,a,c,a2,c2,h1,h2,h3⟩:=h
 exact⟨h0,a,c,a2,c2,h1,(h2.alloc o).kept g (ZaK (h2.alloc o) (k.alloc o) (by decide)),(h3.alloc o).kept g (ZaK (h3.alloc o) (k.alloc o) (by decide))⟩
structure ZfW (w:World)(al:Option Addr)(cl:Nat)(rs:List (List ByteArray)):Prop where
 few:rs.length≤262144
 row:∃B us,w.ownsRow B 54 1 (.slice al rs.length cl) rs.length us∧Zax B w us rs
theorem ZfW.at {w:World}{al:Option Addr}{cl:Nat}{rs:List (List ByteArray)}(h:ZfW w al cl rs){k:Nat}{r:List ByteArray}(hr:rs[k]? =some r):∃g ar cr,al=some ⟨g,0,none⟩∧w.cell? ⟨g,k,none⟩=some (.slice ar r.length cr)∧Zai w ar r.length r∧(ar=none→r.length=0∧cr=0):=by
 obtain⟨B,us,h1,h2⟩:=h.row
 obtain⟨u,hu⟩:∃u,us[k]? =some u:=⟨_,zge (by have:=(zgs hr).1;have:=h2.1;omega)⟩
 have h3:=h2.2 k r u hr hu
 obtain⟨ar,cr,rfl,_⟩:=Zag h3
 obtain⟨g,rfl,hg⟩:=Zd7 h1 hu
 exact⟨g,ar,cr,rfl,hg,ZaL h3 (Za4 h3).1,(ZaF h3).2⟩
theorem Zp2 (a:Zda)(at_:Option Addr)(nt ct:Nat)(rs:List (List ByteArray))(al:Option Addr)(cl:Nat)(ns vs:List ByteArray)(an:Option Addr)(n cn:Nat)(av:Option Addr)(cv:Nat)(w:World)(ht:Zaq w at_ nt a.terms)(hnt:nt≤100000)(hrs:ZfW w al cl rs)(hrl:∀r∈rs,r.length=nt)(h1:Zai w an n ns)(h2:Zai w av n vs)(hz1:an=none→n=0∧cn=0)(hz2:av=none→n=0∧cv=0)(hn:n≤100000):
  Calls Tryz.prog 166 #[ZdZ a at_ nt ct,.slice al rs.length cl,ZeB an n cn av cv] w fun e w'=>∃v ps,e=.returned v∧Zfg w.heap.size w' v (Zbc a.terms ns vs [] rs) ps∧Ext w w':=by
 obtain⟨i0,hinf,hz0,hzs1,hzs2⟩:=info_parts Zp0
 obtain⟨W0,hW0⟩:∃W0,W0=(w.alloc (.cells #[.string a.pred,.slice at_ nt ct] 24)).alloc (.cells #[.slice an n cn,.slice av n cv] 138):=⟨_,rfl⟩
 have EW0:Hid (Ext w W0):=by show Ext _ _;rw[hW0];exact Zab (Zab zbr _) _
 have SZ0:Hid (W0.heap.size=w.heap.size+2):=by show _=_;rw[hW0];simp
 have P3:Hid (Za1 W0 w.heap.size 24 (.string a.pred) (.slice at_ nt ct)):=by
  show _=_;rw[hW0];exact((Zab zbr _).block _ (by simp)).trans (heap_alloc_new w _)
 have P5:Hid (Za1 W0 (w.heap.size+1) 138 (.slice an n cn) (.slice av n cv)):=by
  show _=_;rw[hW0]
  have:=heap_alloc_new (w.alloc (.cells #[.string a.pred,.slice at_ nt ct] 24)) (.cells #[.slice an n cn,.slice av n cv] 138)
  simpa using this
 have FT:Hid (∀(r:List ByteArray) ar cr W,r.length=nt→Zai w ar r.length r→Ext w W→Calls Tryz.prog 82 #[ZeB an n cn av cv,ZdZ a at_ nt ct,.slice ar nt cr] W (ZdO an n cn av cv (Zbh a.terms r ns vs) W)):=fun r ar cr W hr hs hW=>by
  rw[hr] at hs
  exact Zn2 ns vs an n cn av cv a at_ nt ct r ar cr W (h1.keep hW) (h2.keep hW) hz1 hz2 hn (ht.keep hW) hnt (hs.keep hW)
 have HRS:=zh hrs
 have HRL:=zh hrl
 have hfew:=hrs.few
 obtain⟨R,hR⟩:∃R,R=Zbc a.terms ns vs [] rs:=⟨_,rfl⟩
 rw[←hR]
 have FIN:=zh hR
 obtain⟨nl,hnl⟩:∃n,rs.length=n:=⟨_,rfl⟩
 have HNL:=zh hnl
 rw[hnl] at hfew ⊢
 clear hrs hrl h1 h2 hz1 hz2 ht hR hnl
 go_enter Tryz.func166,Tryz.ntmps166
 go_wp2
 rw[←hW0]
 clear hW0
 obtain⟨p,hp⟩:∃p,w.heap.size=p:=⟨_,rfl⟩
 have HP:=zh hp
 rw[hp] at SZ0 P3 P5 ⊢
 obtain⟨p5,hp5⟩:∃q,p+1=q:=⟨_,rfl⟩
 rw[hp5] at P5 ⊢
 have HP5:=zh hp5
 clear hp hp5
 go_loopw [7,8] (fun v u wj=>∃(k:Nat) (l:List ZcQ) (ps:List (Value×Value)),k≤nl∧u=.int .i64 k∧R=Zbc a.terms ns vs l (rs.drop k)∧l.length≤k∧Zfg (p+2) wj v l ps∧Ext W0 wj) (fun _ u _=>nl-(intOf u).toNat)
 case atStart=>exact⟨0,[],[],by omega,rfl,by rw[FIN.out];rfl,by simp,⟨rfl,World.ownsRow_nil _ _ _ _,fun i x p h=>by cases h⟩,Below.refl _ _⟩
 case round=>
  obtain⟨k,l,ps,hk,rfl,hq,hle,hst,hE⟩:=hrel
  have HQ:=zh hq
  have HLE:=zh hle
  have ST:=zh hst
  have HE:=zh hE
  have EW:Hid (Ext w wr):=Zaa EW0.out hE
  obtain⟨ao,co,rfl,_⟩:=Zag hst.own
  clear hq hle hst hE
  by_cases hlt:k<nl
  ·have hki:(k:Int)<(nl:Int):=by omega
   obtain⟨r,hr⟩:∃r,rs[k]? =some r:=⟨_,zge (by have:=HNL.out;omega)⟩
   obtain⟨g,ar,cr,rfl,hg,hs,_⟩:=HRS.out.at hr
   have hrn:=HRL.out r (zmg hr)
   have FR:Hid (∀W,Ext w W→Calls Tryz.prog 82 #[ZeB an n cn av cv,ZdZ a at_ nt ct,.slice ar nt cr] W (ZdO an n cn av cv (Zbh a.terms r ns vs) W)):=fun W hW=>FT.out r ar cr W hrn hs hW
   have KK:Hid (∀W,Ext W0 W→W.cell? ⟨p,0,none⟩=some (.string a.pred)∧W.cell? ⟨p,1,none⟩=some (.slice at_ nt ct)∧W.cell? ⟨p5,0,none⟩=some (.slice an n cn)∧W.cell? ⟨p5,1,none⟩=some (.slice av n cv)∧W.cell? ⟨g,k,none⟩=some (.slice ar nt cr)):=fun W hW=>⟨(P3.out.ext hW).c0,(P3.out.ext hW).c1,(P5.out.ext hW).c0,(P5.out.ext hW).c1,by rw[←hrn];exact Zac (Zaa EW0.out hW) hg⟩
   have HSTEP:Hid (R=match Zbh a.terms r ns vs with|none=>Zbc a.terms ns vs l (rs.drop (k+1))|some f=>Zbc a.terms ns vs (Zi3 l f) (rs.drop (k+1))):=by
    show _=_
    rw[HQ.out,Zbn hr]
    conv=>lhs;unfold Zbc
    cases Zbh a.terms r ns vs <;> rfl
   have hEd:Ext W0 wr.drew:=Zaf HE.out
   obtain⟨k1,k2,k3,k4,k5⟩:=KK.out _ HE.out
   have hEa:Ext W0 (wr.alloc (.cells #[.slice none 0 0,.slice none 0 0] 138)).drew:=Zaf (Zab HE.out _)
   obtain⟨j1,j2,j3,j4,j5⟩:=KK.out _ hEd
   obtain⟨m1,m2,m3,m4,m5⟩:=KK.out _ hEa
   have HED:=zh hEa
   have HEB:=zh hEd
   have HZ9:Hid (W0.heap.size≤wr.heap.size):=HE.out.size
   have Q9:Hid (Za1 (wr.alloc (.cells #[.slice none 0 0,.slice none 0 0] 138)).drew wr.heap.size 138 (.slice none 0 0) (.slice none 0 0)):=heap_alloc_new wr _
   clear hr hg hs hrn hEd hEa
   cases hf:Zbh a.terms r ns vs with
   |none=>
    rw[hf] at HSTEP FR
    have FN:Hid (∀W,Ext w W→Calls Tryz.prog 82 #[ZeB an n cn av cv,ZdZ a at_ nt ct,.slice ar nt cr] W fun e w'=>e=.returned (.tuple #[ZeB an n cn av cv,.bool false])∧Ext W w'):=fun W hW=>(FR.out W hW).mono fun e w' ⟨q1,q2⟩=>⟨q2,q1⟩
    clear hf FR
    go_wp2
    go_region_held3 (fun w'=>w'.cell? ⟨p,0,none⟩=some (.string a.pred)∧w'.cell? ⟨p,1,none⟩=some (.slice at_ nt ct)∧w'.cell? ⟨p5,0,none⟩=some (.slice an n cn)∧w'.cell? ⟨p5,1,none⟩=some (.slice av n cv)∧w'.cell? ⟨g,k,none⟩=some (.slice ar nt cr))
     (with_reducible (first|go_keep|exact⟨k1,k2,k3,k4,k5⟩|exact⟨j1,j2,j3,j4,j5⟩|exact⟨m1,m2,m3,m4,m5⟩|exact KK.out _ e4|exact KK.out _ (Zal e4 HZ9.out _)|exact KK.out _ (Zal (Zal e4 HZ9.out _) HZ9.out _)|exact KK.out _ (Zab e4 _)|exact KK.out _ (Zal (Zab e4 _) e4.size _)|exact KK.out _ (Zal (Zal (Zab e4 _) e4.size _) e4.size _)))
     (first
      |(go_at_call 82;(with_reducible refine(FN.out _ (Zaa EW0.out HED.out)).mono ?_);rintro e w3 ⟨rfl,e3⟩;have e4:=Zaa HED.out e3;have q9:=Q9.out.ext e3;have q90:=q9.c0;have q91:=q9.c1;have q92:=q9.f0;have q93:=q9.f1)
      |(go_at_call 82;(with_reducible refine(FN.out _ (Zaa EW0.out HEB.out)).mono ?_);rintro e w3 ⟨rfl,e3⟩;have e4:=Zaa HEB.out e3)
      |fail)
    all_goals
     go_wp2
     go_roundw
     case rel=>
      first
       |exact⟨k+1,l,ps,by omega,by go_num,HSTEP.out,by have:=HLE.out;omega,ST.out.ext (Zal (Zal (Zaa (Zaf (Zab zbr _)) e3) (Nat.le_refl _) _) (Nat.le_refl _) _),Zal (Zal e4 HZ9.out _) HZ9.out _⟩
       |exact⟨k+1,l,ps,by omega,by go_num,HSTEP.out,by have:=HLE.out;omega,ST.out.ext (Zal (Zal (Zab (Zaa (Zaf zbr) e3) _) e3.size _) e3.size _),Zal (Zal (Zab e4 _) e4.size _) e4.size _⟩
       |exact⟨k+1,l,ps,by omega,by go_num,HSTEP.out,by have:=HLE.out;omega,ST.out.ext (Zab (Zaa (Zaf zbr) e3) _),Zab e4 _⟩
     case measure=>simp[intOf];omega
   |some f=>
    rw[hf] at HSTEP FR
    have FN:Hid (∀W,Ext w W→Calls Tryz.prog 82 #[ZeB an n cn av cv,ZdZ a at_ nt ct,.slice ar nt cr] W fun e w'=>∃aN cN aV cV,e=.returned (.tuple #[.agg #[.slice aN f.1.length cN,.slice aV f.1.length cV],.bool true])∧f.1.length=f.2.length∧w'.ownsRow W.heap.size 9 1 (.slice aN f.1.length cN) f.1.length (f.1.map Value.string)∧w'.ownsRow W.heap.size 9 1 (.slice aV f.1.length cV) f.1.length (f.2.map Value.string)∧Ext W w'):=fun W hW=>(FR.out W hW).mono fun e w' ⟨q1,q2,aN,cN,aV,cV,q3,q4,q5⟩=>⟨aN,cN,aV,cV,q3,q2,q4,q5,q1⟩
    clear hf FR
    have LO2:Hid (p+2≤wr.heap.size):=by
     have:=HE.out.size
     have h:=SZ0.out
     show _≤_
     omega
    have LO3:Hid (p+2≤(wr.alloc (.cells #[.slice none 0 0,.slice none 0 0] 138)).drew.heap.size):=by
     have:=HED.out.size
     have h:=SZ0.out
     show _≤_
     omega
    go_upto_region 5 with (fail)
    go_cut [9,10] (fun v9 v10 wc=>∃(p9:Nat) (aN:Option Addr) (cN:Nat) (aV:Option Addr) (cV:Nat),v9=.pointer (some ⟨p9,0,none⟩)∧v10=.bool true∧wr.heap.size≤p9∧Za1 wc p9 138 (.slice aN f.1.length cN) (.slice aV f.1.length cV)∧ZiA (p+2) wc f (.slice aN f.1.length cN,.slice aV f.1.length cV)∧Ext wr wc)
    case first=>
     go_region_held3 (fun w'=>w'.cell? ⟨p,0,none⟩=some (.string a.pred)∧w'.cell? ⟨p,1,none⟩=some (.slice at_ nt ct)∧w'.cell? ⟨p5,0,none⟩=some (.slice an n cn)∧w'.cell? ⟨p5,1,none⟩=some (.slice av n cv)∧w'.cell? ⟨g,k,none⟩=some (.slice ar nt cr))
      (with_reducible (first|go_keep|exact⟨k1,k2,k3,k4,k5⟩|exact⟨j1,j2,j3,j4,j5⟩|exact⟨m1,m2,m3,m4,m5⟩|exact KK.out _ e4|exact KK.out _ (Zal e4 HZ9.out _)|exact KK.out _ (Zal (Zal e4 HZ9.out _) HZ9.out _)|exact KK.out _ (Zab e4 _)|exact KK.out _ (Zal (Zab e4 _) e4.size _)|exact KK.out _ (Zal (Zal (Zab e4 _) e4.size _) e4.size _)))
      (first
       |(go_at_call 82;(with_reducible refine(FN.out _ (Zaa EW0.out HED.out)).mono ?_);rintro e w3 ⟨aN,cN,aV,cV,rfl,fl,o1,o2,e3⟩;have FL:=zh fl;clear fl;have e4:=Zaa HED.out e3;have q9:=Q9.out.ext e3;have q90:=q9.c0;have q91:=q9.c1;have q92:=q9.f0;have q93:=q9.f1)
       |(go_at_call 82;(with_reducible refine(FN.out _ (Zaa EW0.out HEB.out)).mono ?_);rintro e w3 ⟨aN,cN,aV,cV,rfl,fl,o1,o2,e3⟩;have FL:=zh fl;clear fl;have e4:=Zaa HEB.out e3)
       |fail)
     all_goals
      go_wp2
      go_meet
      first
       |exact⟨w3.heap.size,aN,cN,aV,cV,rfl,rfl,e3.size,heap_alloc_new w3 _,⟨FL.out,aN,cN,aV,cV,rfl,(Zao o1 LO2.out).alloc _,(Zao o2 LO2.out).alloc _⟩,Zab (Zaa (Zaf zbr) e3) _⟩
       |exact⟨wr.heap.size,aN,cN,aV,cV,rfl,rfl,Nat.le_refl _,(q9.set0 _).set1 _,⟨FL.out,aN,cN,aV,cV,rfl,Zao (Zam (a:=⟨wr.heap.size,1,none⟩) (Zam (a:=⟨wr.heap.size,0,none⟩) o1 (.inr (Za8 o1 q9)) _) (.inr (Za8 o1 q9)) _) LO3.out,Zao (Zam (a:=⟨wr.heap.size,1,none⟩) (Zam (a:=⟨wr.heap.size,0,none⟩) o2 (.inr (Za8 o2 q9)) _) (.inr (Za8 o2 q9)) _) LO3.out⟩,Zal (Zal (Zaa (Zaf (Zab zbr _)) e3) (Nat.le_refl _) _) (Nat.le_refl _) _⟩
    case rest=>
     obtain⟨p9,aN,cN,aV,cV,rfl,rfl,hp9,fb,fc,e5⟩:=hcut
     have FB:=zh fb
     have FC:=zh fc
     have E5:=zh e5
     have EC:Hid (Ext W0 wc):=Zaa HE.out e5
     have SC:=zh (ST.out.ext e5)
     clear fb fc e5 k1 k2 k3 k4 k5 j1 j2 j3 j4 j5 m1 m2 m3 m4 m5
     have FV:Hid (∀W,Ext wc W→W.cell? ⟨p9,1,none⟩=some (.slice aV f.1.length cV)∧Zai W aV f.1.length f.2):=fun W hW=>by
      obtain⟨_,b1,d1,b2,d2,e1,_,z3⟩:=FC.out
      cases e1
      have:=ZaL (Zar z3 hW) (Za4 z3).1
      exact⟨(FB.out.ext hW).c1,this⟩
     have EL:Hid (∀j x,l[j]? =some x→∃g a2 c2,ao=some ⟨g,0,none⟩∧∀W,Ext wc W→W.cell? ⟨g,j*2+1,none⟩=some (.slice a2 x.1.length c2)∧Zai W a2 x.1.length x.2):=fun j x hx=>by
      obtain⟨g,a2,c2,q1,q2,q3⟩:=SC.out.vals hx
      exact⟨g,a2,c2,q1,fun W hW=>⟨Zac hW q2,q3.keep hW⟩⟩
     obtain⟨U,hU⟩:∃U,upE l f l.length=U:=⟨_,rfl⟩
     have HU:=zh hU
     obtain⟨L,hL⟩:∃L,l.length=L:=⟨_,rfl⟩
     have HL:=zh hL
     have hLb:L≤262144:=by have:=HLE.out;omega
     rw[hL] at hU ⊢
     clear hL
     go_upto_block 2 with (fail)
     go_cut [11] (fun v11 wd=>v11=.int .i64 (U:Int)∧Ext wc wd)
     case first=>
      go_wp2
      go_loopw [11] (fun v wj=>∃j:Nat,j≤L∧v=.int .i64 (j:Int)∧upE l f j=U∧Ext wc wj) (fun v _=>(intOf v).toNat)
      case atStart=>exact⟨L,Nat.le_refl _,rfl,hU,Below.refl _ _⟩
      case round=>
       obtain⟨j,hj,rfl,hu,hE⟩:=hrel
       have HE9:=zh hE
       have HUJ:=zh hu
       clear hu hE
       by_cases h0:j=0
       ·subst h0
        have hz:U=0:=HUJ.out.symm
        have HZ:=zh hz
        clear hz
        go_wp2
        go_quiet (fail)
        go_wp2
        go_meet
        exact⟨by rw[HZ.out],Zae HE9.out _⟩
       ·obtain⟨i,rfl⟩:∃i,j=i+1:=⟨j-1,by omega⟩
        obtain⟨x,hx⟩:∃x,l[i]? =some x:=⟨_,zge (by have:=HL.out;omega)⟩
        obtain⟨go,a2,c2,rfl,hg⟩:=EL.out i x hx
        have CM:Hid (∀q,Calls Tryz.prog 120 #[.slice a2 x.1.length c2,.slice aV f.1.length cV] (wr.drewN q) fun e w'=>e=.returned (.int .i64 (Zaj x.2 f.2))∧∃m,w'=(wr.drewN q).drewN m):=fun q=>Zd5 x.2 f.2 a2 x.1.length c2 aV f.1.length cV _ (hg _ (Zae HE9.out q)).2 (FV.out _ (Zae HE9.out q)).2
        have hg1:=(hg _ HE9.out).1
        have hf1:=(FV.out _ HE9.out).1
        have HS:Hid (upE l f (i+1)=if 0<Zaj x.2 f.2 then upE l f i else i+1):=by
         show _=_
         conv=>lhs;unfold upE
         rw[hx]
        obtain⟨C,hC⟩:∃C,Zaj x.2 f.2=C:=⟨_,rfl⟩
        rw[hC] at CM HS
        have hi0:¬((i:Int)+1≤0):=by omega
        have hi1:(0:Int)<(i:Int)+1:=by omega
        have hi2:(i:Int)<(L:Int):=by omega
        clear hg hx hC h0
        by_cases hc:0<C
        ·go_wp2
         go_quiet ((go_at_call 120;exact Calls.quiet_of (CM.out _)))
         go_wp2
         go_roundw
         case rel=>exact⟨i,by omega,by first|rfl|go_num,by have h1:=HUJ.out;rw[HS.out,if_pos hc] at h1;exact h1,Zae HE9.out _⟩
         case measure=>simp[intOf] <;> omega
        ·have HUU:Hid (U=i+1):=by show _=_;rw[←HUJ.out,HS.out,if_neg hc]
         go_wp2
         go_quiet ((go_at_call 120;exact Calls.quiet_of (CM.out _)))
         go_wp2
         go_meet
         exact⟨by rw[HUU.out];go_num,Zae HE9.out _⟩
     case rest=>
      obtain⟨rfl,ed⟩:=hcut
      have ED:=zh ed
      clear ed
      have hUL:U≤L:=by have:=ZlD l f l.length;rw[HU.out,HL.out] at this;exact this
      have HUL:=zh hUL
      by_cases hdup:∃i x,U=i+1∧l[i]? =some x∧Zaj x.2 f.2=0
      ·obtain⟨i,x,rfl,hx,h0⟩:=hdup
       have HR:Hid (R=Zbc a.terms ns vs l (rs.drop (k+1))):=by
        show _=_
        have hi:Zi3 l f=l:=by
         unfold Zi3
         rw[HU.out,if_pos (by omega),Nat.add_sub_cancel,hx]
         simp only
         rw[if_pos h0]
        rw[HSTEP.out]
        simp only
        rw[hi]
       obtain⟨go,a2,c2,rfl,hg⟩:=EL.out i x hx
       have CM:Hid (∀q,Calls Tryz.prog 120 #[.slice a2 x.1.length c2,.slice aV f.1.length cV] (wc.drewN q) fun e w'=>e=.returned (.int .i64 (Zaj x.2 f.2))∧∃m,w'=(wc.drewN q).drewN m):=fun q=>Zd5 x.2 f.2 a2 x.1.length c2 aV f.1.length cV _ (hg _ (Zae ED.out q)).2 (FV.out _ (Zae ED.out q)).2
       have hg1:=(hg _ ED.out).1
       have hf1:=(FV.out _ ED.out).1
       obtain⟨C,hC⟩:∃C,Zaj x.2 f.2=C:=⟨_,rfl⟩
       rw[hC] at CM
       have hi0:¬((i:Int)+1≤0):=by omega
       have hi1:(0:Int)<(i:Int)+1:=by omega
       have hi2:(i:Int)<(L:Int):=by omega
       have hCC:(C==0)=true:=by rw[←hC,h0];rfl
       clear hg hx hC h0
       go_wp2
       go_quiet ((go_at_call 120;exact Calls.quiet_of (CM.out _)))
       go_wp2
       rw[HL.out.symm]
       go_roundw
       case rel=>exact⟨k+1,l,ps,by omega,by go_num,HR.out,by have:=HLE.out;omega,SC.out.ext (Zae ED.out _),Zaa EC.out (Zae ED.out _)⟩
       case measure=>simp[intOf];omega
      ·have HIN:Hid (Zi3 l f=l.take U++f::l.drop U):=by
        show _=_
        unfold Zi3
        rw[HU.out]
        by_cases h0:0<U
        ·rw[if_pos h0]
         obtain⟨x,hx⟩:∃x,l[U-1]? =some x:=⟨_,zge (by have:=HL.out;omega)⟩
         rw[hx]
         simp only
         rw[if_neg (fun e=>hdup ⟨U-1,x,by omega,hx,e⟩)]
        ·rw[if_neg h0]
       have HND:=zh hdup
       clear hdup
       go_upto_region 10 with (fail)
       go_cut [61] (fun v61 we=>v61=.bool false∧Ext wc we)
       case first=>
        by_cases h0:U=0
        ·subst h0
         go_wp2
         go_quiet (fail)
         go_wp2
         go_meet
         exact⟨rfl,Zae zbr _⟩
        ·obtain⟨i,rfl⟩:∃i,U=i+1:=⟨U-1,by omega⟩
         obtain⟨x,hx⟩:∃x,l[i]? =some x:=⟨_,zge (by have:=HL.out;omega)⟩
         obtain⟨go,a2,c2,rfl,hg⟩:=EL.out i x hx
         have CM:Hid (∀q,Calls Tryz.prog 120 #[.slice a2 x.1.length c2,.slice aV f.1.length cV] (wc.drewN q) fun e w'=>e=.returned (.int .i64 (Zaj x.2 f.2))∧∃m,w'=(wc.drewN q).drewN m):=fun q=>Zd5 x.2 f.2 a2 x.1.length c2 aV f.1.length cV _ (hg _ (Zae ED.out q)).2 (FV.out _ (Zae ED.out q)).2
         have hg1:=(hg _ ED.out).1
         have hf1:=(FV.out _ ED.out).1
         obtain⟨C,hC⟩:∃C,Zaj x.2 f.2=C:=⟨_,rfl⟩
         rw[hC] at CM
         have hi0:¬((i:Int)+1≤0):=by omega
         have hi1:(0:Int)<(i:Int)+1:=by omega
         have hi2:(i:Int)<(L:Int):=by omega
         have hCC:(C==0)=false:=by
          rw[←hC]
          simp only[beq_eq_false_iff_ne]
          exact fun e=>HND.out ⟨i,x,rfl,hx,e⟩
         clear hg hx hC h0
         go_wp2
         go_quiet ((go_at_call 120;exact Calls.quiet_of (CM.out _)))
         go_wp2
         go_meet
         exact⟨rfl,Zae zbr _⟩
       case rest=>
        obtain⟨rfl,ee⟩:=hcut
        have EE:=zh (Zaa ED.out ee)
        clear ee ED
        have FB2:=zh (FB.out.ext EE.out)
        have FC2:=zh (FC.out.ext EE.out)
        have S2:=zh (SC.out.ext EE.out)
        have EC2:Hid (Ext W0 wc):=Zaa EC.out EE.out
        have EW2:Hid (Ext wr wc):=Zaa E5.out EE.out
        have LO9:Hid (p+2≤wc.heap.size):=by
         have:=EC2.out.size
         have h:=SZ0.out
         show _≤_
         omega
        have B1:Hid (L+1≤maxLen):=by show _≤_;unfold maxLen;omega
        have B2:Hid ((L+1)*48≤140737488355328):=by show _≤_;omega
        have OW:=zh S2.out.own
        rw[HL.out] at OW
        have fb0:=FB2.out.c0
        have fb1:=FB2.out.c1
        go_upto_region 12 with (at_builtin;(refine ZcA _ rfl _ _ 238 rfl (p+2) 138 i0 (.agg #[.slice none 0 0,.slice none 0 0]) 2 48 Tryz.underlying238 hinf hz0 hzs1 hzs2 rfl (by decide) ao L co (Zbi ps) rfl (OW.out.alloc _) ⟨wc.heap.size,0,none⟩ 1 [.slice aN f.1.length cN,.slice aV f.1.length cV] rfl rfl (fun j u hu=>Zp1 wc _ _ _ _ rfl j u hu) (by intro u hu;rcases List.mem_cons.1 hu with rfl|hu;exact rfl;cases List.mem_singleton.1 hu;rfl) B1.out B2.out (Nat.le_trans LO9.out (by simp)) ?_);intro g7 c7 w7 r1 r2 r3 r4)
        have E7:Hid (Ext W0 w7):=Zaz (Zab EC2.out _) r2 (fun g e=>(by have h1:=(OW.out.lt g e).1;have h2:=SZ0.out;omega))
        have hblk:∀b,(Value.slice ao L co).ownBlock=some b→b<wr.heap.size:=fun b e=>by
         have h1:=ST.out.own
         rw[HL.out] at h1
         exact(ZaN h1 e).lt
        have hp9w:p9<wc.heap.size:=FB2.out.ty.lt
        have HNE:Hid (g7≠p9):=by
         rcases r3 with r3|r3
         ·have:=hblk _ r3
          show _≠_
          omega
         ·have hz:(wc.alloc (.cells #[.slice aN f.1.length cN,.slice aV f.1.length cV] 138)).heap.size=wc.heap.size+1:=by simp
          show _≠_
          omega
        have FB7:Hid (Za1 w7 p9 138 (.slice aN f.1.length cN) (.slice aV f.1.length cV)):=(FB2.out.ext (Zab (Below.refl _ wc) _)).grown r2 (fun e=>by have:=hblk _ e;omega)
        have EL7:Hid (∀(i:Nat) (x:ZcQ) (q:Value×Value),l[i]? =some x→ps[i]? =some q→ZiA (p+2) w7 x q):=fun i x q h1 h2=>(S2.out.at_ i x q h1 h2).kept OW.out r2
        have FC7:Hid (ZiA (p+2) w7 f (.slice aN f.1.length cN,.slice aV f.1.length cV)):=FC2.out.kept OW.out r2
        have R1:=zh r1
        have HLP:Hid (ps.length=L):=by show _=_;rw[ST.out.len];exact HL.out
        obtain⟨cur,hcur,hcl,hct,hcc⟩:=Zju r1
        have HCUR:Hid (w7.drew.heap[g7]? =some (.cells cur.toArray 138 (0,0))):=hcur
        have HCL:=zh hcl
        have HCT:=zh hct
        have hcc2:L<c7:=by omega
        have hcc3:(L:Int)+1≤(c7:Int):=by omega
        have hcc4:L+1≤c7:=by omega
        have hu1:(U:Int)≤(L:Int):=by have:=HUL.out;omega
        have hu2:(U:Int)+1≤(L:Int)+1:=by omega
        have hu3:U+1≤L+1:=by have:=HUL.out;omega
        have hu4:U≤L+1:=by have:=HUL.out;omega
        have hu5:(U:Int)≤(L:Int)+1:=by omega
        have hw1:IntKind.i64.wrap ((U:Int)+1)=(U:Int)+1:=by rw[IntKind.wrap_i64];omega
        have hw2:((U:Int)+1).toNat=U+1:=by omega
        have hw3:(0:Int)≤(U:Int)+1:=by omega
        have hw4:IntKind.i64.wrap ((L:Int)+1)=(L:Int)+1:=by rw[IntKind.wrap_i64];omega
        have hw5:((L:Int)+1).toNat=L+1:=by omega
        have hw6:(0:Int)≤(L:Int)+1:=by omega
        clear hcur hcl hct hcc r1 hblk r2 r3 r4 hp9w
        have SRC:Hid (∀j v,(Zbi (ps.drop U))[j]? =some v→w7.drew.cell? ⟨g7,U*2+j,none⟩=some v):=fun j v hv=>by
         rw[←ZfU,List.getElem?_drop] at hv
         obtain⟨g',e',h'⟩:=Zea R1.out (k:=U*2+j) (v:=v) (by rw[List.getElem?_append_left ((zgs hv).1)];exact hv)
         cases e'
         exact h'
        have CSL:Hid ((Zbi (ps.drop U)).length=(L-U)*2):=by show _=_;rw[Zff,List.length_drop,HLP.out]
        have CS1:Hid (∀v∈Zbi (ps.drop U),v.oneCell'=true):=fun v hv=>S2.out.one v (by rw[←ZfU] at hv;exact List.mem_of_mem_drop hv)
        have FIT:Hid ((U+1)*2+(Zbi (ps.drop U)).length≤cur.length):=by
         show _≤_
         rw[CSL.out,HCL.out]
         have:=HUL.out
         omega
        have HSZ:Hid ((Tryz.prog.info? 138).map (·.size)=some 2):=by show _=_;rw[hinf,Option.map_some,hzs1]
        have hcu:¬c7=U:=by omega
        have CP:=zh (fun (ops:Array Oper) (o:Oper) (a:Act) (K:Act→World→Prop) (Q:Exit→Act→World→Prop) (E:Prop)=>ZiD (ops:=ops) (o:=o) (a:=a) (K:=K) (Q:=Q) (E:=E) w7.drew g7 ((U+1)*2) (L-U) cur (Zbi (ps.drop U)) HSZ.out HCUR.out CSL.out FIT.out CS1.out (U*2) SRC.out)
        by_cases hcc:c7=U+1
        ·have HM0:Hid (¬0<L-U):=by show ¬_;have:=HUL.out;omega
         go_wp2
         go_region_law (first
          |(refine CP.out _ _ _ _ _ _ (by rfl) _ _ (by rfl) (some ⟨g7,0,none⟩) (L-U) 0 (L+1-U) 1 (by simp[Act.eval,Act.put]) (by simp[Act.eval,Act.put]) (ZtJ HUL.out) (fun h0=>absurd h0 HM0.out) ?_;intro w8 h8 b8)
          |fail)
         all_goals
          have R1D:w7.drew.ownsRow (p+2) 138 2 (.slice (some ⟨g7,0,none⟩) (L+1) c7) (L+1) (Zbi ps++[.slice aN f.1.length cN,.slice aV f.1.length cV]):=R1.out
          have own8:=Zg0 (off:=(U+1)*2) (cs:=Zbi (ps.drop U)) R1D HCUR.out h8 (by rw[R1D.1,CSL.out];have:=HUL.out;omega)
          have XL:(splice (Zbi ps++[.slice aN f.1.length cN,.slice aV f.1.length cV]) ((U+1)*2) (Zbi (ps.drop U))).length=(L+1)*2:=own8.1
          have TY:∀b,b=g7→¬Ty w7.drew b 9:=fun b hb q=>by
           subst hb
           exact q.ne (ZaN R1D rfl) (by decide) rfl
          have fb8:=(show Za1 w7.drew p9 _ _ _ from FB7.out).but b8 (fun e=>HNE.out e.symm)
          have y0:=fb8.c0
          have y1:=fb8.c1
          obtain⟨v0,hv0⟩:∃v0,(splice (Zbi ps++[.slice aN f.1.length cN,.slice aV f.1.length cV]) ((U+1)*2) (Zbi (ps.drop U)))[U*2]? =some v0:=⟨_,zge (by have:=HUL.out;omega)⟩
          obtain⟨v1,hv1⟩:∃v1,(splice (Zbi ps++[.slice aN f.1.length cN,.slice aV f.1.length cV]) ((U+1)*2) (Zbi (ps.drop U)))[U*2+1]? =some v1:=⟨_,zge (by have:=HUL.out;omega)⟩
          obtain⟨_,e0,y2⟩:=Zea own8 hv0
          cases e0
          obtain⟨_,e1,y3⟩:=Zea own8 hv1
          cases e1
          have y4:=ZiB (j:=U*2) own8
          have y5:=ZiB (j:=U*2+1) own8
          have BF:Zah (fun b=>b=g7) w7.drew ((w8.setCell ⟨g7,U*2,none⟩ (.slice aN f.1.length cN)).setCell ⟨g7,U*2+1,none⟩ (.slice aV f.1.length cV)):=Zah.set (S:=fun b=>b=g7) (Zah.set (S:=fun b=>b=g7) b8 (.inl rfl) _ _) (.inl rfl) _ _
          have OF:=Zep (Zep own8 (j:=U*2) (.slice aN f.1.length cN)) (j:=U*2+1) (.slice aV f.1.length cV)
          have IC:=Zjv ps (.slice aN f.1.length cN,.slice aV f.1.length cV) U (by rw[HLP.out];exact HUL.out)
          simp only at IC
          rw[IC] at OF
          obtain⟨IR1,IR2⟩:=Zn3 (P:=fun x q=>ZiA (p+2) ((w8.setCell ⟨g7,U*2,none⟩ (.slice aN f.1.length cN)).setCell ⟨g7,U*2+1,none⟩ (.slice aV f.1.length cV)) x q) S2.out.len (fun i x q h1 h2=>(show ZiA (p+2) w7.drew x q from EL7.out i x q h1 h2).but BF TY) ((show ZiA (p+2) w7.drew f _ from FC7.out).but BF TY) U (by rw[HL.out];exact HUL.out)
          have LEN:(l.take U++f::l.drop U).length=L+1:=by
           rw[List.length_append,List.length_cons,List.length_take,List.length_drop,HL.out]
           have:=HUL.out
           omega
          have EF:=Zaw (Zaf E7.out) BF (fun b hb hs=>by have h1:=(R1D.lt g7 rfl).1;have h2:=SZ0.out;omega)
          have RF:R=Zbc a.terms ns vs (l.take U++f::l.drop U) (rs.drop (k+1)):=by
           have h9:R=Zbc a.terms ns vs (Zi3 l f) (rs.drop (k+1)):=HSTEP.out
           rw[HIN.out] at h9
           exact h9
          have FIN2:=zh (And.intro OF (And.intro IR1 (And.intro IR2 (And.intro LEN (And.intro EF RF)))))
          clear OF IR1 IR2 LEN EF RF IC BF TY XL own8 R1D hv0 hv1 fb8 h8 b8
          go_wp2
          go_roundw
          case rel=>
           obtain⟨OF,IR1,IR2,LEN,EF,RF⟩:=FIN2.out
           exact⟨k+1,l.take U++f::l.drop U,ps.take U++(.slice aN f.1.length cN,.slice aV f.1.length cV)::ps.drop U,by omega,by go_num,RF,by rw[LEN];have:=HLE.out;have:=HL.out;omega,⟨IR1,by rw[LEN];first|exact OF|(rw [hcc] at OF;exact OF),IR2⟩,EF⟩
          case measure=>simp[intOf];omega
        ·go_wp2
         go_region_law (first
          |(refine CP.out _ _ _ _ _ _ (by rfl) _ _ (by rfl) (some ⟨g7,(U+1)*2,none⟩) (L-U) (c7-(U+1)) (L+1-U) (c7-U) (by simp[Act.eval,Act.put]) (by simp[Act.eval,Act.put]) (ZtJ HUL.out) (fun _=>rfl) ?_;intro w8 h8 b8)
          |fail)
         all_goals
          have R1D:w7.drew.ownsRow (p+2) 138 2 (.slice (some ⟨g7,0,none⟩) (L+1) c7) (L+1) (Zbi ps++[.slice aN f.1.length cN,.slice aV f.1.length cV]):=R1.out
          have own8:=Zg0 (off:=(U+1)*2) (cs:=Zbi (ps.drop U)) R1D HCUR.out h8 (by rw[R1D.1,CSL.out];have:=HUL.out;omega)
          have XL:(splice (Zbi ps++[.slice aN f.1.length cN,.slice aV f.1.length cV]) ((U+1)*2) (Zbi (ps.drop U))).length=(L+1)*2:=own8.1
          have TY:∀b,b=g7→¬Ty w7.drew b 9:=fun b hb q=>by
           subst hb
           exact q.ne (ZaN R1D rfl) (by decide) rfl
          have fb8:=(show Za1 w7.drew p9 _ _ _ from FB7.out).but b8 (fun e=>HNE.out e.symm)
          have y0:=fb8.c0
          have y1:=fb8.c1
          obtain⟨v0,hv0⟩:∃v0,(splice (Zbi ps++[.slice aN f.1.length cN,.slice aV f.1.length cV]) ((U+1)*2) (Zbi (ps.drop U)))[U*2]? =some v0:=⟨_,zge (by have:=HUL.out;omega)⟩
          obtain⟨v1,hv1⟩:∃v1,(splice (Zbi ps++[.slice aN f.1.length cN,.slice aV f.1.length cV]) ((U+1)*2) (Zbi (ps.drop U)))[U*2+1]? =some v1:=⟨_,zge (by have:=HUL.out;omega)⟩
          obtain⟨_,e0,y2⟩:=Zea own8 hv0
          cases e0
          obtain⟨_,e1,y3⟩:=Zea own8 hv1
          cases e1
          have y4:=ZiB (j:=U*2) own8
          have y5:=ZiB (j:=U*2+1) own8
          have BF:Zah (fun b=>b=g7) w7.drew ((w8.setCell ⟨g7,U*2,none⟩ (.slice aN f.1.length cN)).setCell ⟨g7,U*2+1,none⟩ (.slice aV f.1.length cV)):=Zah.set (S:=fun b=>b=g7) (Zah.set (S:=fun b=>b=g7) b8 (.inl rfl) _ _) (.inl rfl) _ _
          have OF:=Zep (Zep own8 (j:=U*2) (.slice aN f.1.length cN)) (j:=U*2+1) (.slice aV f.1.length cV)
          have IC:=Zjv ps (.slice aN f.1.length cN,.slice aV f.1.length cV) U (by rw[HLP.out];exact HUL.out)
          simp only at IC
          rw[IC] at OF
          obtain⟨IR1,IR2⟩:=Zn3 (P:=fun x q=>ZiA (p+2) ((w8.setCell ⟨g7,U*2,none⟩ (.slice aN f.1.length cN)).setCell ⟨g7,U*2+1,none⟩ (.slice aV f.1.length cV)) x q) S2.out.len (fun i x q h1 h2=>(show ZiA (p+2) w7.drew x q from EL7.out i x q h1 h2).but BF TY) ((show ZiA (p+2) w7.drew f _ from FC7.out).but BF TY) U (by rw[HL.out];exact HUL.out)
          have LEN:(l.take U++f::l.drop U).length=L+1:=by
           rw[List.length_append,List.length_cons,List.length_take,List.length_drop,HL.out]
           have:=HUL.out
           omega
          have EF:=Zaw (Zaf E7.out) BF (fun b hb hs=>by have h1:=(R1D.lt g7 rfl).1;have h2:=SZ0.out;omega)
          have RF:R=Zbc a.terms ns vs (l.take U++f::l.drop U) (rs.drop (k+1)):=by
           have h9:R=Zbc a.terms ns vs (Zi3 l f) (rs.drop (k+1)):=HSTEP.out
           rw[HIN.out] at h9
           exact h9
          have FIN2:=zh (And.intro OF (And.intro IR1 (And.intro IR2 (And.intro LEN (And.intro EF RF)))))
          clear OF IR1 IR2 LEN EF RF IC BF TY XL own8 R1D hv0 hv1 fb8 h8 b8
          go_wp2
          go_roundw
          case rel=>
           obtain⟨OF,IR1,IR2,LEN,EF,RF⟩:=FIN2.out
           exact⟨k+1,l.take U++f::l.drop U,ps.take U++(.slice aN f.1.length cN,.slice aV f.1.length cV)::ps.drop U,by omega,by go_num,RF,by rw[LEN];have:=HLE.out;have:=HL.out;omega,⟨IR1,by rw[LEN];first|exact OF|(rw [hcc] at OF;exact OF),IR2⟩,EF⟩
          case measure=>simp[intOf];omega
  ·obtain rfl:k=nl:=by omega
   have hge:¬(k:Int)<(k:Int):=by omega
   have HR:Hid (R=l):=by
    show _=_
    have tk:rs.drop k=[]:=List.drop_of_length_le (by have:=HNL.out;omega)
    rw[HQ.out,tk]
    rfl
   go_wp2
   go_returns
   refine⟨_,rfl,⟨ps,?_⟩,EW.out⟩
   rw[HR.out]
   have hlo:w.heap.size≤p+2:=by have:=HP.out;omega
   refine⟨ST.out.len,Zao ST.out.own hlo,fun i x q h1 h2=>?_⟩
   obtain⟨z0,a1,c1,a2,c2,z1,z2,z3⟩:=ST.out.at_ i x q h1 h2
   exact⟨z0,a1,c1,a2,c2,z1,Zao z2 hlo,Zao z3 hlo⟩
def Zco (x:List ByteArray)(a:Int)(t:ByteArray):ByteArray:=if a<0 then t else gt x a.toNat
def ZkB (op:Int)(x y:ByteArray):Bool:=if op=1 then decide (x=y) else if op=2 then !decide (x=y) else if op=3 then ltB x y else !ltB y x
theorem Zrg (x:List ByteArray)(ax:Option Addr)(n c:Nat)(a k:Int)(t:ByteArray)(w:World)(h:Zai w ax n x)(ha:a<(n:Int)):
  Calls Tryz.prog 133 #[.slice ax n c,.int .i64 a,.agg #[.int .i64 k,.string t]] w fun e w'=>e=.returned (.string (Zco x a t))∧Ext w w':=by
 by_cases hneg:a<0
 ·have HR:Hid (Zco x a t=t):=by show _=_;unfold Zco;rw[if_pos hneg]
  go_enter Tryz.func133,Tryz.ntmps133
  go_wp2
  go_returns
  exact⟨by rw[HR.out];rfl,by go_grown⟩
 ·obtain⟨m,rfl⟩:∃m:Nat,a=(m:Int):=⟨a.toNat,by omega⟩
  have hm:m<n:=by omega
  obtain⟨y,b,off,h1,rfl,h2⟩:=h.2.at hm
  rw[Nat.mul_one] at h2
  have h3:w.cell? ⟨b,off+m,none⟩=some (.string y):=h2
  have hlt:=World.block_lt_of_cell? w ⟨b,off+m,none⟩ h3
  have HR:Hid (Zco x (m:Int) t=y):=by
   show _=_
   unfold Zco gt
   rw[if_neg hneg,Int.toNat_natCast,h1]
   rfl
  clear h h1 h2 ha
  go_enter Tryz.func133,Tryz.ntmps133
  go_wp2
  go_returns
  exact⟨by rw[HR.out];rfl,by go_grown⟩
theorem ZkC (x:List ByteArray)(ax:Option Addr)(n c:Nat)(a b op k1 k2:Int)(t1 t2:ByteArray)(p1 p2 p3 p4:Nat)(w:World)(h:Zai w ax n x)(ha:a<(n:Int))(hb:b<(n:Int))
  (h1:w.cell? ⟨p1,0,none⟩=some (.func (.func 133) #[] #[])) (h2:w.cell? ⟨p2,0,none⟩=some (.int .i64 a)) (h3:w.cell? ⟨p3,3,none⟩=some (.int .i64 op)) (h4:w.cell? ⟨p3,4,none⟩=some (.int .i64 k1)) (h5:w.cell? ⟨p3,5,none⟩=some (.string t1)) (h6:w.cell? ⟨p3,6,none⟩=some (.int .i64 k2)) (h7:w.cell? ⟨p3,7,none⟩=some (.string t2)) (h8:w.cell? ⟨p4,0,none⟩=some (.int .i64 b)):
  Calls Tryz.prog 134 #[.slice ax n c,.pointer (some ⟨p1,0,none⟩),.pointer (some ⟨p2,0,none⟩),.pointer (some ⟨p3,0,none⟩),.pointer (some ⟨p4,0,none⟩)] w fun e w'=>e=.returned (.bool (ZkB op (Zco x a t1) (Zco x b t2)))∧Ext w w':=by
 have O1:Hid (∀W,Ext w W→Calls Tryz.prog 133 #[.slice ax n c,.int .i64 a,.agg #[.int .i64 k1,.string t1]] W fun e w'=>e=.returned (.string (Zco x a t1))∧Ext W w'):=fun W hW=>Zrg x ax n c a k1 t1 W (h.keep hW) ha
 have O2:Hid (∀W,Ext w W→Calls Tryz.prog 133 #[.slice ax n c,.int .i64 b,.agg #[.int .i64 k2,.string t2]] W fun e w'=>e=.returned (.string (Zco x b t2))∧Ext W w'):=fun W hW=>Zrg x ax n c b k2 t2 W (h.keep hW) hb
 have z1:=World.block_lt_of_cell? _ _ h1
 have z2:=World.block_lt_of_cell? _ _ h2
 have z3:=World.block_lt_of_cell? _ _ h3
 have z4:=World.block_lt_of_cell? _ _ h8
 dsimp only at z1 z2 z3 z4
 obtain⟨va,hva⟩:∃v,Zco x a t1=v:=⟨_,rfl⟩
 obtain⟨vb,hvb⟩:∃v,Zco x b t2=v:=⟨_,rfl⟩
 rw[hva] at O1
 rw[hvb] at O2
 rw[hva,hvb]
 clear h ha hb hva hvb
 have hd0:Ext w w:=Below.refl _ _
 go_enter Tryz.func134,Tryz.ntmps134
 go_wp2
 go_cut [7,8] (fun v7 v8 wc=>v7=.string va∧v8=.string vb∧Ext w wc)
 case first=>
  go_region_held3 (fun w'=>∀b o,b<w.heap.size→w'.cell? ⟨b,o,none⟩=w.cell? ⟨b,o,none⟩)
   ((intro bb oo hbb;repeat (first|(with_reducible rfl)|(with_reducible rw[World.cell?_drew])|((with_reducible refine(hc7 bb oo ?_).trans ?_);· (first|omega|(simp;done)|(simp;omega)))|((with_reducible refine(hc6 bb oo ?_).trans ?_);· (first|omega|(simp;done)|(simp;omega))))))
   (first
    |(go_at_call 133;(with_reducible refine(O1.out _ (by repeat (with_reducible (first|exact hd0|apply Zaf|exact e7)))).mono ?_);rintro e w6 ⟨rfl,h6⟩;have e6:Ext w w6:=Zaa (by repeat (with_reducible (first|exact hd0|apply Zaf|exact e7))) h6;obtain⟨hc6,hf6⟩:=Zlf e6)
    |(go_at_call 133;(with_reducible refine(O2.out _ (by repeat (with_reducible (first|exact hd0|apply Zaf|exact e6)))).mono ?_);rintro e w7 ⟨rfl,h7⟩;have e7:Ext w w7:=Zaa (by repeat (with_reducible (first|exact hd0|apply Zaf|exact e6))) h7;obtain⟨hc7,hf7⟩:=Zlf e7)
    |fail)
  all_goals
   go_wp2
   go_meet
   refine⟨rfl,rfl,?_⟩
   repeat (with_reducible (first|exact hd0|exact e6|exact e7|apply Zaf))
 case rest=>
  obtain⟨rfl,rfl,hE⟩:=hcut
  have q3:=Zac hE h3
  have HE:=zh hE
  clear h1 h2 h3 h4 h5 h6 h7 h8 hE z1 z2 z3 z4 O1 O2 hd0
  obtain⟨q,hq⟩:∃q,(va.toList==vb.toList)=q:=⟨_,rfl⟩
  have hq2:decide (va=vb)=q:=by rw[←hq,Zbr]
  obtain⟨p,hp⟩:∃p,Op.bytesLess va.toList vb.toList=p:=⟨_,rfl⟩
  obtain⟨r,hr⟩:∃r,Op.bytesLess vb.toList va.toList=r:=⟨_,rfl⟩
  have HRES:Hid (ZkB op va vb=if op=1 then q else if op=2 then !q else if op=3 then p else !r):=by
   show _=_
   unfold ZkB ltB
   rw[hq2,hp,hr]
  have HRR:Hid ((!r)=(p||q)):=by
   show _=_
   have e1:ltB va vb=p:=hp
   have e2:ltB vb va=r:=hr
   rcases Zfl va vb with h|h|h
   ·have:r=false:=by
     cases r with
     |false=>rfl
     |true=>exact absurd (Zbp h e2) (Zbb _)
    rw[this,←e1,h]
    rfl
   ·subst h
    have h0:ltB va va=false:=by
     cases hh:ltB va va with
     |false=>rfl
     |true=>exact absurd hh (Zbb _)
    rw[h0] at e1 e2
    rw[←e1,←e2,←hq2,decide_eq_true rfl]
    rfl
   ·have h1:ltB va vb=false:=by
     cases hh:ltB va vb with
     |false=>rfl
     |true=>exact absurd (Zbp hh h) (Zbb _)
    have h2:¬va=vb:=fun e=>by
     subst e
     exact Zbb _ h
    rw[←e1,←e2,h,h1,←hq2,decide_eq_false h2]
    rfl
  clear hq2
  by_cases o1:op=1
  ·subst o1
   go_wp2
   go_returns
   exact⟨by rw[HRES.out];rfl,HE.out⟩
  ·by_cases o2:op=2
   ·subst o2
    go_wp2
    go_returns
    exact⟨by rw[HRES.out];rfl,HE.out⟩
   ·by_cases o3:op=3
    ·subst o3
     go_wp2
     go_returns
     exact⟨by rw[HRES.out];rfl,HE.out⟩
    ·have g1:(op==1)=false:=by rw[beq_eq_false_iff_ne];exact o1
     have g2:(op==2)=false:=by rw[beq_eq_false_iff_ne];exact o2
     have g3:(op==3)=false:=by rw[beq_eq_false_iff_ne];exact o3
     have HR2:Hid (ZkB op va vb=(p||q)):=by
      show _=_
      rw[HRES.out,if_neg o1,if_neg o2,if_neg o3,HRR.out]
     clear o1 o2 o3
     go_wp2
     go_returns
     exact⟨by rw[HR2.out];rfl,HE.out⟩
def Zct (l:K.Lit)(dl:List Za7)(ns vs:List ByteArray):Bool:=if l.kind=2 then (Zdj dl l.atom).all (fun r=>(Zbh l.atom.terms r ns vs).isNone) else ZkB l.op (ZcI ns vs l.left) (ZcI ns vs l.right)
theorem ZcJ {dl:List Za7}{a:Zda}:∀r∈Zdj dl a,r.length=a.terms.length:=fun r hr=>by
 have:=(List.mem_filter.1 hr).2
 simpa using this
theorem Zjw {w:World}{lo bb:Nat}{dl:List Za7}(h:ZaU w lo bb dl)(a:Zda):(Zdj dl a).length≤65536:=Nat.le_trans (List.length_filter_le _ _) (ZeN h a.pred).1
theorem Zci.rowsL {w w':World}{rs:List (List ByteArray)}{a:Option Addr}{c:Nat}(h:Zci w w' rs (.slice a rs.length c))(hf:rs.length≤262144):ZfW w' a c rs:=by
 obtain⟨us,h1,h2,_⟩:=h
 exact⟨hf,_,us,h1,h2⟩
theorem Zse (l:K.Lit)(at_:Option Addr)(nt ct:Nat)(lo bb:Nat)(dl:List Za7)(ns vs:List ByteArray)(an:Option Addr)(n cn:Nat)(av:Option Addr)(cv:Nat)(w:World)(ht:Zaq w at_ nt l.atom.terms)(hnt:l.kind=2→nt≤100000)(hD:ZaU w lo bb dl)(hdl:dl.length≤1000000)(h1:Zai w an n ns)(h2:Zai w av n vs)(hz1:an=none→n=0∧cn=0)(hz2:av=none→n=0∧cv=0)(hn:n≤100000):
  Calls Tryz.prog 164 #[ZtF l at_ nt ct,.pointer (some ⟨bb,0,none⟩),ZeB an n cn av cv] w fun e w'=>e=.returned (.bool (Zct l dl ns vs))∧Ext w w':=by
 obtain⟨W0,hW0⟩:∃W0,W0=(w.alloc (.cells #[.int .i64 l.kind,.string l.atom.pred,.slice at_ nt ct,.int .i64 l.op,.int .i64 l.left.kind,.string l.left.text,.int .i64 l.right.kind,.string l.right.text] 66)).alloc (.cells #[.slice an n cn,.slice av n cv] 138):=⟨_,rfl⟩
 have EW0:Hid (Ext w W0):=by show Ext _ _;rw[hW0];exact Zab (Zab zbr _) _
 have SZ0:Hid (W0.heap.size=w.heap.size+2):=by show _=_;rw[hW0];simp
 have P5:Hid (Za1 W0 (w.heap.size+1) 138 (.slice an n cn) (.slice av n cv)):=by
  show _=_;rw[hW0]
  have:=heap_alloc_new (w.alloc (.cells #[.int .i64 l.kind,.string l.atom.pred,.slice at_ nt ct,.int .i64 l.op,.int .i64 l.left.kind,.string l.left.text,.int .i64 l.right.kind,.string l.right.text] 66)) (.cells #[.slice an n cn,.slice av n cv] 138)
  simpa using this
 have P3:Hid (W0.heap[w.heap.size]? =some (.cells #[.int .i64 l.kind,.string l.atom.pred,.slice at_ nt ct,.int .i64 l.op,.int .i64 l.left.kind,.string l.left.text,.int .i64 l.right.kind,.string l.right.text] 66 (0,0))):=by
  show _=_;rw[hW0];exact((Zab zbr _).block _ (by simp)).trans (heap_alloc_new w _)
 obtain⟨p,hp⟩:∃p,w.heap.size=p:=⟨_,rfl⟩
 rw[hp] at SZ0 P3 P5
 obtain⟨p5,hp5⟩:∃q,p+1=q:=⟨_,rfl⟩
 rw[hp5] at P5
 have LC:Hid (∀W,Ext W0 W→W.cell? ⟨p,0,none⟩=some (.int .i64 l.kind)∧W.cell? ⟨p,1,none⟩=some (.string l.atom.pred)∧W.cell? ⟨p,2,none⟩=some (.slice at_ nt ct)∧W.cell? ⟨p,3,none⟩=some (.int .i64 l.op)∧W.cell? ⟨p,4,none⟩=some (.int .i64 l.left.kind)∧W.cell? ⟨p,5,none⟩=some (.string l.left.text)∧W.cell? ⟨p,6,none⟩=some (.int .i64 l.right.kind)∧W.cell? ⟨p,7,none⟩=some (.string l.right.text)∧W.cell? ⟨p5,0,none⟩=some (.slice an n cn)∧W.cell? ⟨p5,1,none⟩=some (.slice av n cv)):=fun W hW=>by
  have h:=(hW.block p (zag P3.out).1).trans P3.out
  refine⟨?_,?_,?_,?_,?_,?_,?_,?_,(P5.out.ext hW).c0,(P5.out.ext hW).c1⟩ <;> simp[World.cell?,h]
 obtain⟨b2,e2⟩:∃b,(l.kind==2)=b:=⟨_,rfl⟩
 have K2:Hid (l.kind=2↔b2=true):=by show _↔_;rw[←e2];simp
 obtain⟨c0,c1,c2,c3,c4,c5,c6,c7,d0,d1⟩:=LC.out _ zbr
 cases b2 with
 |false=>
  have HH:Hid (Zct l dl ns vs=ZkB l.op (ZcI ns vs l.left) (ZcI ns vs l.right)):=by
   show _=_;unfold Zct;rw[if_neg (fun e=>by have:=K2.out.1 e;cases this)]
  have VL:Hid (Calls Tryz.prog 83 #[ZeB an n cn av cv,.agg #[.int .i64 l.left.kind,.string l.left.text]] W0 fun e w'=>e=.returned (.string (ZcI ns vs l.left))∧Ext W0 w'):=Zky ns vs l.left an n cn av cv W0 (h1.keep EW0.out) (h2.keep EW0.out)
  have VR:Hid (∀W,Ext W0 W→Calls Tryz.prog 83 #[ZeB an n cn av cv,.agg #[.int .i64 l.right.kind,.string l.right.text]] W fun e w'=>e=.returned (.string (ZcI ns vs l.right))∧Ext W w'):=fun W hW=>Zky ns vs l.right an n cn av cv W (h1.keep (Zaa EW0.out hW)) (h2.keep (Zaa EW0.out hW))
  obtain⟨va,hva⟩:∃v,ZcI ns vs l.left=v:=⟨_,rfl⟩
  obtain⟨vb,hvb⟩:∃v,ZcI ns vs l.right=v:=⟨_,rfl⟩
  rw[hva] at VL
  rw[hvb] at VR
  rw[hva,hvb] at HH
  obtain⟨op,hop⟩:∃op,l.op=op:=⟨_,rfl⟩
  rw[hop] at HH c3
  have KOP:Hid (∀W,Ext W0 W→W.cell? ⟨p,3,none⟩=some (.int .i64 op)):=fun W hW=>by rw[←hop];exact(LC.out _ hW).2.2.2.1
  obtain⟨q,hq⟩:∃q,(va.toList==vb.toList)=q:=⟨_,rfl⟩
  have hq2:decide (va=vb)=q:=by rw[←hq,Zbr]
  obtain⟨pp,hpp⟩:∃p,Op.bytesLess va.toList vb.toList=p:=⟨_,rfl⟩
  obtain⟨r,hr⟩:∃r,Op.bytesLess vb.toList va.toList=r:=⟨_,rfl⟩
  have HRES:Hid (ZkB op va vb=if op=1 then q else if op=2 then !q else if op=3 then pp else !r):=by
   show _=_
   unfold ZkB ltB
   rw[hq2,hpp,hr]
  have HRR:Hid ((!r)=(pp||q)):=by
   show _=_
   have e1:ltB va vb=pp:=hpp
   have e2:ltB vb va=r:=hr
   rcases Zfl va vb with h|h|h
   ·have:r=false:=by
     cases r with
     |false=>rfl
     |true=>exact absurd (Zbp h e2) (Zbb _)
    rw[this,←e1,h]
    rfl
   ·subst h
    have h0:ltB va va=false:=by
     cases hh:ltB va va with
     |false=>rfl
     |true=>exact absurd hh (Zbb _)
    rw[h0] at e1 e2
    rw[←e1,←e2,←hq2]
    simp
   ·have h0:ltB va vb=false:=by
     cases hh:ltB va vb with
     |false=>rfl
     |true=>exact absurd (Zbp h hh) (Zbb _)
    have h3:¬va=vb:=fun e=>by subst e;exact Zbb _ h
    rw[←e1,←e2,h0,h,←hq2]
    simp[h3]
  clear hq2 hva hvb h1 h2 hz1 hz2 ht hop hD
  go_enter Tryz.func164,Tryz.ntmps164
  go_upto_region 1 with (fail)
  rw[←hW0]
  clear hW0 hp hp5
  go_upto_region 12 with (first|(go_at_call 83;(with_reducible refine VL.out.mono ?_);rintro e w2 ⟨rfl,e2⟩;obtain⟨_,_,_,_,_,_,x6,x7,y0,y1⟩:=LC.out _ e2)|(go_at_call 83;(with_reducible refine(VR.out _ e2).mono ?_);rintro e w3 ⟨rfl,e3⟩;have z3:=KOP.out _ (Zaa e2 e3)))
  have HE:=zh (Zaa EW0.out (Zaa e2 e3))
  clear x6 x7 y0 y1 c0 c1 c2 c4 c5 c6 c7 d0 d1
  by_cases o1:op=1
  ·subst o1
   go_wp2
   go_returns
   exact⟨by rw[HH.out,HRES.out];rfl,HE.out⟩
  ·by_cases o2:op=2
   ·subst o2
    go_wp2
    go_returns
    exact⟨by rw[HH.out,HRES.out];rfl,HE.out⟩
   ·by_cases o3:op=3
    ·subst o3
     go_wp2
     go_returns
     exact⟨by rw[HH.out,HRES.out];rfl,HE.out⟩
    ·have g1:(op==1)=false:=by rw[beq_eq_false_iff_ne];exact o1
     have g2:(op==2)=false:=by rw[beq_eq_false_iff_ne];exact o2
     have g3:(op==3)=false:=by rw[beq_eq_false_iff_ne];exact o3
     have HR2:Hid (Zct l dl ns vs=(pp||q)):=by
      show _=_
      rw[HH.out,HRES.out,if_neg o1,if_neg o2,if_neg o3,HRR.out]
     clear o1 o2 o3
     go_wp2
     go_returns
     exact⟨by rw[HR2.out];rfl,HE.out⟩
 |true=>
  have HNT:Hid (l.atom.terms.length=nt):=ht.2.1
  have hkk:=hnt (K2.out.2 rfl)
  have HH:Hid (Zct l dl ns vs=(Zdj dl l.atom).all (fun r=>(Zbh l.atom.terms r ns vs).isNone)):=by
   show _=_;unfold Zct;rw[if_pos (K2.out.2 rfl)]
  have RA:=zh (Zn1 lo bb dl l.atom at_ nt ct W0 (hD.ext EW0.out) hdl ht.2.1)
  have FT:Hid (∀(r:List ByteArray) ar cr W,r.length=nt→Zai W ar r.length r→Ext w W→Calls Tryz.prog 82 #[ZeB an n cn av cv,ZdZ l.atom at_ nt ct,.slice ar nt cr] W (ZdO an n cn av cv (Zbh l.atom.terms r ns vs) W)):=fun r ar cr W hr hs hW=>by
   rw[hr] at hs
   exact Zn2 ns vs an n cn av cv l.atom at_ nt ct r ar cr W (h1.keep hW) (h2.keep hW) hz1 hz2 hn (ht.keep hW) hkk hs
  have RF:=zh (Zjw hD l.atom)
  have RL:Hid (∀r∈Zdj dl l.atom,r.length=nt):=fun r hr=>(ZcJ r hr).trans HNT.out
  obtain⟨rs,hrs⟩:∃rs,Zdj dl l.atom=rs:=⟨_,rfl⟩
  rw[hrs] at HH RA RF RL
  clear hrs h1 h2 hz1 hz2 ht hD
  go_enter Tryz.func164,Tryz.ntmps164
  go_upto_region 1 with (fail)
  rw[←hW0]
  clear hW0 hp hp5
  go_wp2_with (go_at_call 167;(with_reducible refine RA.out.mono ?_);rintro e w2 ⟨v2,rfl,st2⟩;obtain⟨us2,o2,r2,e2⟩:=st2;obtain⟨a2,cc2,rfl,_⟩:=Zag o2)
  have LR:Hid (ZfW w2 a2 cc2 rs):=⟨Nat.le_trans RF.out (by decide),_,us2,o2,r2⟩
  have EW2:Hid (Ext w w2):=Zaa EW0.out e2
  have E02:=zh e2
  obtain⟨nr,hnr⟩:∃n,rs.length=n:=⟨_,rfl⟩
  have HNR:=zh hnr
  have hnr6:nr≤65536:=by have:=RF.out;omega
  rw[hnr]
  clear o2 r2 e2 hnr c0 c1 c2 c3 c4 c5 c6 c7 d0 d1
  go_loopw [8] (fun u wj=>∃k:Nat,k≤nr∧u=.int .i64 k∧(rs.take k).all (fun r=>(Zbh l.atom.terms r ns vs).isNone)=true∧Ext w2 wj) (fun u _=>nr-(intOf u).toNat)
  case atStart=>exact⟨0,by omega,rfl,rfl,Below.refl _ _⟩
  case round=>
   obtain⟨k,hk,rfl,hq,hE⟩:=hrel
   have HQ:=zh hq
   have HE:=zh hE
   clear hq hE
   by_cases hlt:k<nr
   ·have hki:(k:Int)<(nr:Int):=by omega
    obtain⟨r,hr⟩:∃r,rs[k]? =some r:=⟨_,zge (by have:=HNR.out;omega)⟩
    obtain⟨g,ar,cr,rfl,hg,hs,_⟩:=LR.out.at hr
    have hrn:=RL.out r (zmg hr)
    have FR:Hid (∀W,Ext w2 W→Calls Tryz.prog 82 #[ZeB an n cn av cv,ZdZ l.atom at_ nt ct,.slice ar nt cr] W (ZdO an n cn av cv (Zbh l.atom.terms r ns vs) W)):=fun W hW=>FT.out r ar cr W hrn (hs.keep hW) (Zaa EW2.out hW)
    have KK:Hid (∀W,Ext w2 W→W.cell? ⟨p,1,none⟩=some (.string l.atom.pred)∧W.cell? ⟨p,2,none⟩=some (.slice at_ nt ct)∧W.cell? ⟨p5,0,none⟩=some (.slice an n cn)∧W.cell? ⟨p5,1,none⟩=some (.slice av n cv)∧W.cell? ⟨g,k,none⟩=some (.slice ar nt cr)):=fun W hW=>by
     obtain⟨_,z1,z2,_,_,_,_,_,z3,z4⟩:=LC.out _ (Zaa E02.out hW)
     exact⟨z1,z2,z3,z4,by rw[←hrn];exact Zac hW hg⟩
    have HTK:Hid (rs.take (k+1)=rs.take k++[r]):=ZaA hr
    have HX:=zh hr
    have hEd:Ext w2 wr.drew:=Zaf HE.out
    have hEa:Ext w2 (wr.alloc (.cells #[.slice none 0 0,.slice none 0 0] 138)).drew:=Zaf (Zab HE.out _)
    obtain⟨k1,k2,k3,k4,k5⟩:=KK.out _ HE.out
    obtain⟨j1,j2,j3,j4,j5⟩:=KK.out _ hEd
    obtain⟨m1,m2,m3,m4,m5⟩:=KK.out _ hEa
    have HED:=zh hEa
    have HEB:=zh hEd
    have HZ9:Hid (w2.heap.size≤wr.heap.size):=HE.out.size
    have Q9:Hid (Za1 (wr.alloc (.cells #[.slice none 0 0,.slice none 0 0] 138)).drew wr.heap.size 138 (.slice none 0 0) (.slice none 0 0)):=heap_alloc_new wr _
    clear hr hg hs hrn hEd hEa
    cases hf:Zbh l.atom.terms r ns vs with
    |none=>
     rw[hf] at FR
     have HF:=zh hf
     have FN:Hid (∀W,Ext w2 W→Calls Tryz.prog 82 #[ZeB an n cn av cv,ZdZ l.atom at_ nt ct,.slice ar nt cr] W fun e w'=>e=.returned (.tuple #[ZeB an n cn av cv,.bool false])∧Ext W w'):=fun W hW=>(FR.out W hW).mono fun e w' ⟨q1,q2⟩=>⟨q2,q1⟩
     clear hf FR
     go_wp2
     go_region_held3 (fun w'=>w'.cell? ⟨p,1,none⟩=some (.string l.atom.pred)∧w'.cell? ⟨p,2,none⟩=some (.slice at_ nt ct)∧w'.cell? ⟨p5,0,none⟩=some (.slice an n cn)∧w'.cell? ⟨p5,1,none⟩=some (.slice av n cv)∧w'.cell? ⟨g,k,none⟩=some (.slice ar nt cr))
      (with_reducible (first|go_keep|exact⟨k1,k2,k3,k4,k5⟩|exact⟨j1,j2,j3,j4,j5⟩|exact⟨m1,m2,m3,m4,m5⟩|exact KK.out _ e4|exact KK.out _ (Zal e4 HZ9.out _)|exact KK.out _ (Zal (Zal e4 HZ9.out _) HZ9.out _)|exact KK.out _ (Zab e4 _)|exact KK.out _ (Zal (Zab e4 _) e4.size _)|exact KK.out _ (Zal (Zal (Zab e4 _) e4.size _) e4.size _)))
      (first
       |(go_at_call 82;(with_reducible refine(FN.out _ HED.out).mono ?_);rintro e w3 ⟨rfl,e3⟩;have e4:=Zaa HED.out e3;have q9:=Q9.out.ext e3;have q90:=q9.c0;have q91:=q9.c1;have q92:=q9.f0;have q93:=q9.f1)
       |(go_at_call 82;(with_reducible refine(FN.out _ HEB.out).mono ?_);rintro e w3 ⟨rfl,e3⟩;have e4:=Zaa HEB.out e3)
       |fail)
     all_goals
      go_wp2
      go_roundw
      case rel=>exact⟨k+1,by omega,by go_num,by rw[HTK.out,List.all_append,HQ.out];simp[HF.out],by first|exact Zal (Zal e4 HZ9.out _) HZ9.out _|exact Zal (Zal (Zab e4 _) e4.size _) e4.size _|exact Zab e4 _⟩
      case measure=>simp[intOf];omega
    |some f=>
     rw[hf] at FR
     have HB:Hid (Zct l dl ns vs=false):=by
      show _=_
      rw[HH.out,List.all_eq_false]
      exact⟨r,zmg HX.out,by rw[hf];simp⟩
     have FN:Hid (∀W,Ext w2 W→Calls Tryz.prog 82 #[ZeB an n cn av cv,ZdZ l.atom at_ nt ct,.slice ar nt cr] W fun e w'=>∃aN cN aV cV,e=.returned (.tuple #[.agg #[.slice aN f.1.length cN,.slice aV f.1.length cV],.bool true])∧Ext W w'):=fun W hW=>(FR.out W hW).mono fun e w' ⟨q1,q2,aN,cN,aV,cV,q3,q4,q5⟩=>⟨aN,cN,aV,cV,q3,q1⟩
     clear hf FR
     go_wp2
     go_region_held3 (fun w'=>w'.cell? ⟨p,1,none⟩=some (.string l.atom.pred)∧w'.cell? ⟨p,2,none⟩=some (.slice at_ nt ct)∧w'.cell? ⟨p5,0,none⟩=some (.slice an n cn)∧w'.cell? ⟨p5,1,none⟩=some (.slice av n cv)∧w'.cell? ⟨g,k,none⟩=some (.slice ar nt cr))
      (with_reducible (first|go_keep|exact⟨k1,k2,k3,k4,k5⟩|exact⟨j1,j2,j3,j4,j5⟩|exact⟨m1,m2,m3,m4,m5⟩|exact KK.out _ e4|exact KK.out _ (Zal e4 HZ9.out _)|exact KK.out _ (Zal (Zal e4 HZ9.out _) HZ9.out _)|exact KK.out _ (Zab e4 _)|exact KK.out _ (Zal (Zab e4 _) e4.size _)|exact KK.out _ (Zal (Zal (Zab e4 _) e4.size _) e4.size _)))
      (first
       |(go_at_call 82;(with_reducible refine(FN.out _ HED.out).mono ?_);rintro e w3 ⟨aN,cN,aV,cV,rfl,e3⟩;have e4:=Zaa HED.out e3;have q9:=Q9.out.ext e3;have q90:=q9.c0;have q91:=q9.c1;have q92:=q9.f0;have q93:=q9.f1)
       |(go_at_call 82;(with_reducible refine(FN.out _ HEB.out).mono ?_);rintro e w3 ⟨aN,cN,aV,cV,rfl,e3⟩;have e4:=Zaa HEB.out e3)
       |fail)
     all_goals
      go_wp2
      go_returns
      exact⟨by rw[HB.out];rfl,Zaa EW2.out (by first|exact Zal (Zal e4 HZ9.out _) HZ9.out _|exact Zal (Zal (Zab e4 _) e4.size _) e4.size _|exact Zab e4 _)⟩
   ·obtain rfl:k=nr:=by omega
    have hge:¬(k:Int)<(k:Int):=by omega
    have HB:Hid (Zct l dl ns vs=true):=by
     show _=_
     have:=HQ.out
     rw[List.take_of_length_le (by have:=HNR.out;omega)] at this
     rw[HH.out,this]
    go_wp2
    go_returns
    exact⟨by rw[HB.out];rfl,Zaa EW2.out HE.out⟩
